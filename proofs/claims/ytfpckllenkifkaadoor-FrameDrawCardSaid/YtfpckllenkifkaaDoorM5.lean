/- Parts of the proof, one behind the other. -/
import Derived.Test.YtfpckllenkifkaaDoorM4
import Derived.Shelf.Strings.Search2
set_option linter.all false
set_option maxRecDepth 10000
set_option maxHeartbeats 16000000
open And renaming intro -> zA0
open Option renaming bind_eq_bind -> zA1, bind_eq_some_iff -> zA2, bind_some -> zA3, map_some -> zA8, map_eq_some_iff -> zB0
open Bool renaming and_eq_true -> zA4, false_eq_true -> zC1, not_true -> zC2, not_false -> zD8, false_and -> zE0, and_true -> zE6, and_self -> zE8
open List renaming getElem?_eq_getElem -> zA5, mem_singleton -> zA9, mem_cons -> zB2, mem_cons_of_mem -> zB3, length_cons -> zB4, mem_of_getElem? -> zB5, map_cons -> zB7, mem_cons_self -> zB9, mem_append -> zC3, drop_zero -> zC7, length_append -> zC8, nil_append -> zC9, length_nil -> zD0, all_eq_true -> zD1, getElem?_eq_none -> zD2, getElem?_cons_zero -> zD3, length_drop -> zD4, length_replicate -> zD6, eq_nil_of_length_eq_zero -> zD7, getElem?_eq_some_iff -> zE1, getElem?_cons_succ -> zE2, length_take -> zE3, append_nil -> zE4, mem_map -> zE7, drop_drop -> zE9, take_length -> zF0, map_congr_left -> zF1, take_of_length_le -> zF2, flatMap_cons -> zF3, getElem?_take -> zF4, drop_eq_nil_of_le -> zF5, length_map -> zF6, foldl_cons -> zF7, mem_flatMap -> zF8, getD_eq_getElem?_getD -> zF9
open Nat renaming le_refl -> zA6, zero_le -> zA7, le_of_ble_eq_true -> zB1, zero_add -> zB6, le_trans -> zB8, lt_or_ge -> zC0, lt_of_lt_of_le -> zC4, lt_succ_self -> zC5, ble_eq -> zC6, add_zero -> zD5, min -> zD9, zero_mul -> zE5

namespace Go.Proofs.YtfpckllenkifkaaDoor
open Go.Ax
section
variable {α : Type}
def idxB (p:α->Bool) (l:List α):Int:=match l.findIdx? p with
 |some i=>(i:Int)
 |none=>-1
theorem idxB_at {p:α->Bool} {l:List α} {i:Nat} {a:α} (h:l[i]?=some a) (hx:p a=true) (hb:∀ k b,k<i->l[k]?=some b->p b=false):idxB p l=(i:Int):=by
 obtain⟨hi,ha⟩:=zE1.1 h
 have:l.findIdx? p=some i:=by
  rw[List.findIdx?_eq_some_iff_getElem]
  exact⟨hi,by rw[ha]; exact hx,fun j hj=>by rw[hb j _ hj (zA5 (by omega))]; simp⟩
 rw[idxB,this]
theorem idxB_not {p:α->Bool} {l:List α} (hb:∀ k b,k<l.length->l[k]?=some b->p b=false):idxB p l=-1:=by
 have:l.findIdx? p=none:=by
  rw[List.findIdx?_eq_none_iff]
  intro x hx
  obtain⟨k,hk,e⟩:=List.mem_iff_getElem.1 hx
  exact hb k x hk (by rw[zA5 hk,e])
 rw[idxB,this]
theorem idxB_any (p:α->Bool) (l:List α):decide (0<=idxB p l)=l.any p:=by
 unfold idxB
 cases h:l.findIdx? p with
 |none =>
  rw[List.findIdx?_eq_none_iff]at h
  have:l.any p=false:=by
   rw[List.any_eq_false]
   exact fun x hx=>by rw[h x hx]; simp
  rw[this]; rfl
 |some i =>
  obtain⟨h1,h2,_⟩:=List.findIdx?_eq_some_iff_getElem.1 h
  rw[List.any_eq_true.2 ⟨_,List.getElem_mem h1,h2⟩]
  exact decide_eq_true (by simp only; omega)
end
theorem indexRect_c {α:Type} {R:List Value->α->Prop} (H:AHeap) (v:Value) (l:List α) (g:FuncId) (ca:List Value) (p:α->Bool) (hv:ItR H 5 R v l) (hl:l.length<=1000000) (hbd:hasBody Tryd.prog g=true) (hg:∀ cs a,R cs a->a∈l->Pure g (.agg ⟨cs⟩::ca) H (.bool (p a))) :
  Pure 88 [v,.func (.func g) ⟨[]⟩ ⟨ca⟩] H (.int .i64 (idxB p l)):=by
 obtain⟨b,hb⟩:=Go.Ax.exq H.next
 obtain⟨a0,c0,e0⟩:=hv.sl
 refine callS_fn mixed Tryd.func88 rfl Tryd.ntmps88 (zB1 rfl) fun wf hsc=>?_
 rw[e0]
 simp only[ruW,xF,ruU,entryE,Nat.reduceLT,Nat.reduceAdd,Nat.reduceEqDiff]
 refine w_env fun E hE=>?_
 have g0:E 0=v:=by rw[hE,e0]; simp only[ruU,Nat.reduceEqDiff]
 have g1:E 1=.func (.func g) ⟨[]⟩ ⟨ca⟩:=by rw[hE]; rfl
 have g7:E 7=.int .i64 (l.length:Int):=by rw[hE]; rfl
 have g8:E 8=.int .i64 ((0:Nat):Int):=by rw[hE]; rfl
 clear hE
 refine w_loop (fun (j:Nat) E' H'=>H'=ext H []/\j<=l.length/\(∀ k b,k<j->l[k]?=some b->p b=false)/\E' 0=v/\E' 1=.func (.func g) ⟨[]⟩ ⟨ca⟩/\E' 7=.int .i64 (l.length:Int)/\E' 8=.int .i64 (j:Int)) (fun j=>l.length-j) 0 ⟨rfl,zA7 _,fun k _ hk=>absurd hk (by omega),g0,g1,g7,g8⟩ ?_
 clear g0 g1 g7 g8 E
 rintro j E H' ⟨hH,hj,hall,g0,g1,g7,g8⟩
 rw[hH]
 by_cases hje:j=l.length
 ·have hd:decide ((j:Int)<(l.length:Int))=false:=decide_eq_false (by omega)
  simp only[g7,g8,hd,Tryd.results88,ruW,ruU,Nat.reduceLT]
  rw[idxB_not fun k b hk=>hall k b (by omega)]
  exact Fin.pureE rfl rfl
 ·have hjl:j<l.length:=by omega
  have hd:decide ((j:Int)<(l.length:Int))=true:=decide_eq_true (by omega)
  obtain⟨x,hx⟩:∃ x,l[j]?=some x:=⟨_,zA5 hjl⟩
  obtain⟨n,off,s,c,e,o,M,cs,e1,n1,r1,hle,hM,hR⟩:=hv.one hx
  rw[e1]at g0
  have us:Tryd.prog.underlying 23=some (.slice 52):=by kernel_rfl
  have ss:szOf Tryd.prog 52=some 5:=by kernel_rfl
  have ag:aggT Tryd.prog 52=some true:=by kernel_rfl
  have i1:=ia_of (P:=Tryd.prog) (k:=.i64) (i:=j) (n:=n) (off:=off) (len:=l.length) (cap:=c) (s:=s) us ss hjl
  have l1:ldB Tryd.prog 52 (off+j*5) (some ⟨e,o,M⟩)=some (.agg ⟨cs⟩):=by
   rw[ld_agg ag,ss,zA3,if_pos (by omega),hM]
  rw[hb]at n1
  have hwj:IntKind.i64.wrap ((j:Int)+1)=((j+1:Nat):Int):=wrap_succ (by omega)
  simp only[g0,g1,g7,g8,hb,hd,i1,n1,r1,l1,qk_old,ruW,ruU,Nat.reduceLT,Nat.reduceEqDiff]
  refine w_callV (f:=g) (ca:=ca) rfl rfl rfl hbd ?_
  have hgj:=hg cs x hR (zB5 hx)
  obtain⟨d,hdd⟩:=Go.Ax.exq (p x)
  rw[hdd]at hgj
  simp only[ruU]
  refine CallS.to (show Pure g (.agg ⟨cs⟩::ca) (ext H []) _ from hgj) ?_
  cases d with
  |true =>
   simp only[Tryd.results88,ruW,ruU,Nat.reduceLT,Nat.reduceEqDiff]
   rw[idxB_at hx hdd fun k b hk=>hall k b (by omega)]
   exact Fin.pureE rfl rfl
  |false =>
   simp only[g8,hwj,ruW,ruU,Nat.reduceLT,Nat.reduceEqDiff]
   refine loopC_next ⟨j+1,by omega,rfl,by omega,fun k b hk hkj=>?_,?_,?_,?_,?_⟩
   ·by_cases hkk:k=j
    ·subst hkk
     rw[hx]at hkj
     cases hkj
     exact hdd
    ·exact hall k b (by omega) hkj
   ·rw[e1]; simp only[g0,ruU,Nat.reduceEqDiff]
   ·exact g1
   ·exact g7
   ·rfl
theorem containsRect_c {α:Type} {R:List Value->α->Prop} (H:AHeap) (v:Value) (l:List α) (g:FuncId) (ca:List Value) (p:α->Bool) (hv:ItR H 5 R v l) (hl:l.length<=1000000) (hbd:hasBody Tryd.prog g=true) (hg:∀ cs a,R cs a->a∈l->Pure g (.agg ⟨cs⟩::ca) H (.bool (p a))) :
  Pure 50 [v,.func (.func g) ⟨[]⟩ ⟨ca⟩] H (.bool (l.any p)):=by
 obtain⟨a0,c0,e0⟩:=hv.sl
 have hc:=indexRect_c H v l g ca p hv hl hbd hg
 refine callS_fn mixed Tryd.func50 rfl Tryd.ntmps50 (zB1 rfl) fun wf hsc=>?_
 rw[e0]at hc ⊢
 simp only[ruW,xF,ruU,entryE,Nat.reduceLT,Nat.reduceAdd,Nat.reduceEqDiff]
 refine CallS.to (show Pure 88 _ (ext H []) _ from hc) ?_
 rw[<-idxB_any]
 simp only[Tryd.results50,ruW,ruU,Nat.reduceLT]
 exact Fin.pureE rfl rfl
theorem indexRow_c {α:Type} {R:List Value->α->Prop} (H:AHeap) (v:Value) (l:List α) (g:FuncId) (ca:List Value) (p:α->Bool) (hv:ItR H 5 R v l) (hl:l.length<=1000000) (hbd:hasBody Tryd.prog g=true) (hg:∀ cs a,R cs a->a∈l->Pure g (.agg ⟨cs⟩::ca) H (.bool (p a))) :
  Pure 102 [v,.func (.func g) ⟨[]⟩ ⟨ca⟩] H (.int .i64 (idxB p l)):=by
 obtain⟨b,hb⟩:=Go.Ax.exq H.next
 obtain⟨a0,c0,e0⟩:=hv.sl
 refine callS_fn mixed Tryd.func102 rfl Tryd.ntmps102 (zB1 rfl) fun wf hsc=>?_
 rw[e0]
 simp only[ruW,xF,ruU,entryE,Nat.reduceLT,Nat.reduceAdd,Nat.reduceEqDiff]
 refine w_env fun E hE=>?_
 have g0:E 0=v:=by rw[hE,e0]; simp only[ruU,Nat.reduceEqDiff]
 have g1:E 1=.func (.func g) ⟨[]⟩ ⟨ca⟩:=by rw[hE]; rfl
 have g7:E 7=.int .i64 (l.length:Int):=by rw[hE]; rfl
 have g8:E 8=.int .i64 ((0:Nat):Int):=by rw[hE]; rfl
 clear hE
 refine w_loop (fun (j:Nat) E' H'=>H'=ext H []/\j<=l.length/\(∀ k b,k<j->l[k]?=some b->p b=false)/\E' 0=v/\E' 1=.func (.func g) ⟨[]⟩ ⟨ca⟩/\E' 7=.int .i64 (l.length:Int)/\E' 8=.int .i64 (j:Int)) (fun j=>l.length-j) 0 ⟨rfl,zA7 _,fun k _ hk=>absurd hk (by omega),g0,g1,g7,g8⟩ ?_
 clear g0 g1 g7 g8 E
 rintro j E H' ⟨hH,hj,hall,g0,g1,g7,g8⟩
 rw[hH]
 by_cases hje:j=l.length
 ·have hd:decide ((j:Int)<(l.length:Int))=false:=decide_eq_false (by omega)
  simp only[g7,g8,hd,Tryd.results102,ruW,ruU,Nat.reduceLT]
  rw[idxB_not fun k b hk=>hall k b (by omega)]
  exact Fin.pureE rfl rfl
 ·have hjl:j<l.length:=by omega
  have hd:decide ((j:Int)<(l.length:Int))=true:=decide_eq_true (by omega)
  obtain⟨x,hx⟩:∃ x,l[j]?=some x:=⟨_,zA5 hjl⟩
  obtain⟨n,off,s,c,e,o,M,cs,e1,n1,r1,hle,hM,hR⟩:=hv.one hx
  rw[e1]at g0
  have us:Tryd.prog.underlying 53=some (.slice 58):=by kernel_rfl
  have ss:szOf Tryd.prog 58=some 5:=by kernel_rfl
  have ag:aggT Tryd.prog 58=some true:=by kernel_rfl
  have i1:=ia_of (P:=Tryd.prog) (k:=.i64) (i:=j) (n:=n) (off:=off) (len:=l.length) (cap:=c) (s:=s) us ss hjl
  have l1:ldB Tryd.prog 58 (off+j*5) (some ⟨e,o,M⟩)=some (.agg ⟨cs⟩):=by
   rw[ld_agg ag,ss,zA3,if_pos (by omega),hM]
  rw[hb]at n1
  have hwj:IntKind.i64.wrap ((j:Int)+1)=((j+1:Nat):Int):=wrap_succ (by omega)
  simp only[g0,g1,g7,g8,hb,hd,i1,n1,r1,l1,qk_old,ruW,ruU,Nat.reduceLT,Nat.reduceEqDiff]
  refine w_callV (f:=g) (ca:=ca) rfl rfl rfl hbd ?_
  have hgj:=hg cs x hR (zB5 hx)
  obtain⟨d,hdd⟩:=Go.Ax.exq (p x)
  rw[hdd]at hgj
  simp only[ruU]
  refine CallS.to (show Pure g (.agg ⟨cs⟩::ca) (ext H []) _ from hgj) ?_
  cases d with
  |true =>
   simp only[Tryd.results102,ruW,ruU,Nat.reduceLT,Nat.reduceEqDiff]
   rw[idxB_at hx hdd fun k b hk=>hall k b (by omega)]
   exact Fin.pureE rfl rfl
  |false =>
   simp only[g8,hwj,ruW,ruU,Nat.reduceLT,Nat.reduceEqDiff]
   refine loopC_next ⟨j+1,by omega,rfl,by omega,fun k b hk hkj=>?_,?_,?_,?_,?_⟩
   ·by_cases hkk:k=j
    ·subst hkk
     rw[hx]at hkj
     cases hkj
     exact hdd
    ·exact hall k b (by omega) hkj
   ·rw[e1]; simp only[g0,ruU,Nat.reduceEqDiff]
   ·exact g1
   ·exact g7
   ·rfl
theorem containsRow_c {α:Type} {R:List Value->α->Prop} (H:AHeap) (v:Value) (l:List α) (g:FuncId) (ca:List Value) (p:α->Bool) (hv:ItR H 5 R v l) (hl:l.length<=1000000) (hbd:hasBody Tryd.prog g=true) (hg:∀ cs a,R cs a->a∈l->Pure g (.agg ⟨cs⟩::ca) H (.bool (p a))) :
  Pure 87 [v,.func (.func g) ⟨[]⟩ ⟨ca⟩] H (.bool (l.any p)):=by
 obtain⟨a0,c0,e0⟩:=hv.sl
 have hc:=indexRow_c H v l g ca p hv hl hbd hg
 refine callS_fn mixed Tryd.func87 rfl Tryd.ntmps87 (zB1 rfl) fun wf hsc=>?_
 rw[e0]at hc ⊢
 simp only[ruW,xF,ruU,entryE,Nat.reduceLT,Nat.reduceAdd,Nat.reduceEqDiff]
 refine CallS.to (show Pure 102 _ (ext H []) _ from hc) ?_
 rw[<-idxB_any]
 simp only[Tryd.results87,ruW,ruU,Nat.reduceLT]
 exact Fin.pureE rfl rfl
theorem valid1_c (H:AHeap) (f:Fr) (r:Rc) (a b:Option Addr) (n m c d k:Nat) (hh:f.height<=200) (hw:f.width<=1000) (hk:bk H k=some ⟨25,false,frL (.slice a n c) (.slice b m d) f⟩) (hlt:k<H.next) :
  Pure 51 [.agg ⟨rcL r⟩,.pointer (some ⟨k,0,none⟩)] H (.bool (!insR f.height f.width r)):=by
 obtain⟨x,hx⟩:=Go.Ax.exq H.next
 rw[hx]at hlt
 refine callS_fn mixed Tryd.func51 rfl Tryd.ntmps51 (zB1 rfl) fun wf hsc=>?_
 have hi:=fun G=>inside_c G f r a b n m c d hh hw
 unfold rcL frL at hi
 unfold rcL
 unfold frL at hk
 simp only[hx,hlt,hk,qk_old,ruW,Nat.reduceLeDiff,xF,ruU,entryE,Nat.reduceLT,Nat.reduceAdd,Nat.reduceEqDiff]
 refine (hi (ext H _)).to ?_
 simp only[Tryd.results51,ruW,ruU,Nat.reduceLT]
 exact Fin.pureE rfl rfl
theorem checked1_c (H:AHeap) (r:Rc) (w:Rw) (cs:List Value) (k:Nat) (hw:RwC H cs w) (hk:bk H k=some ⟨52,false,rcL r⟩) (hlt:k<H.next) :
  Pure 86 [.agg ⟨cs⟩,.pointer (some ⟨k,0,none⟩)] H (.bool (decide ((w.cells.length:Int)≠r.width))):=by
 obtain⟨x,hx⟩:=Go.Ax.exq H.next
 rw[hx]at hlt
 obtain⟨cv,pv,rfl,hc,hp,sc,sp⟩:=hw
 obtain⟨a1,c1,e1⟩:=hc.sl
 obtain⟨a2,c2,e2⟩:=hp.sl
 subst e1 e2
 rw[hx]at sc sp
 refine callS_fn mixed Tryd.func86 rfl Tryd.ntmps86 (zB1 rfl) fun wf hsc=>?_
 unfold rwL
 unfold rcL at hk
 obtain⟨d,hd⟩:=Go.Ax.exq (decide (¬(w.cells.length:Int)=r.width))
 rw[show decide ((w.cells.length:Int)≠r.width)=d from hd]
 simp only[hx,hlt,hk,sc,sp,hd,qk_old,Tryd.results86,ruW,xF,ruU,entryE,Nat.reduceLT,Nat.reduceAdd,Nat.reduceEqDiff]
 exact Fin.pureE rfl rfl
theorem checked_c (H:AHeap) (t:TabX H) (f:Fr) (p:Pn) (a b:Option Addr) (n m c d:Nat) (rv:Value) (hh:f.height<=200) (hw:f.width<=1000) (hr:RowsR true H rv p.rows) (hrl:p.rows.length<=1000000) (hms:p.mode.size<=1000000) :
  Pure 49 [.agg ⟨frL (.slice a n c) (.slice b m d) f⟩,.agg ⟨pnL rv p⟩] H (.int .i64 (pnE f.height f.width p)):=by
 obtain⟨x,hx⟩:=Go.Ax.exq H.next
 obtain⟨ra,rc,er⟩:=hr.it.sl
 refine callS_fn mixed Tryd.func49 rfl Tryd.ntmps49 (zB1 rfl) fun wf hsc=>?_
 have hok:=wf.base
 have hbase:H.base<=x:=hx▸hok
 rw[scbL_iff]at hsc
 have hs0:=hsc _ (zB9 ..)
 rw[hx]at hs0
 have hs1:scb x (.slice a n c)=true/\scb x (.slice b m d)=true:=by
  have h':(true&&(true&&(scb x (.slice a n c)&&(scb x (.slice b m d)&&(true&&(true&&true))))))=true:=hs0
  simp only[zA4]at h'
  exact⟨h'.2.2.1,h'.2.2.2.1⟩
 obtain⟨sa,sb⟩:=hs1
 have sr:=hr.sc
 rw[hx,er]at sr
 obtain⟨G,hG⟩:=Go.Ax.exq (ext H [⟨25,false,frL (.slice a n c) (.slice b m d) f⟩,⟨55,false,pnL rv p⟩,⟨52,false,rcL p.rect⟩])
 have mG:Mod [] H G:=hG▸Mod.ext hok
 have nG:G.next=x+3:=by rw[<-hG,ext_next,hx]; rfl
 have k1:bk G (x+1)=some ⟨55,false,pnL rv p⟩:=by rw[<-hG,bk_at hx (by simp)]; rfl
 have k2:bk G (x+2)=some ⟨52,false,rcL p.rect⟩:=by rw[<-hG,bk_at hx (by simp)]; rfl
 have j1:x+1<x+3:=by omega
 have j2:x+2<x+3:=by omega
 have gb:G.base<=x+3:=nG▸mG.ok hok
 have hin:=inside_c G f p.rect a b n m c d hh hw
 have hva:=valid_c G (t.mod0 mG).tab p.mode (by omega)
 have hco:=coloured_c G p.look
 rw[er]at k1 hG
 unfold frL pnL rcL at hG
 unfold frL at hin
 unfold pnL at k1
 unfold rcL at k2 hin
 rw[er]
 unfold frL pnL
 obtain⟨d1,h1⟩:∃ q,insR f.height f.width p.rect=q:=⟨_,rfl⟩
 obtain⟨d2,h2⟩:∃ q,decide (p.row < -1)=q:=⟨_,rfl⟩
 obtain⟨d3,h3⟩:∃ q,decide (p.rect.height-2<p.row)=q:=⟨_,rfl⟩
 obtain⟨d4,h4⟩:∃ q,decide (¬p.row=-1)=q:=⟨_,rfl⟩
 obtain⟨d5,h5⟩:∃ q,decide (p.col<0)=q:=⟨_,rfl⟩
 obtain⟨d6,h6⟩:∃ q,decide (p.rect.width<=p.col)=q:=⟨_,rfl⟩
 rw[h1]at hin
 simp only[hx,hbase,sa,sb,sr,ruW,putL,Nat.reduceLeDiff,xF,ruU,entryE,Nat.reduceLT,Nat.reduceAdd,Nat.reduceEqDiff]
 rw[hG]
 refine hin.to ?_
 have w1:d1=true->IntKind.i64.wrap (p.rect.height-2)=p.rect.height-2/\IntKind.i64.wrap (p.rect.height-1)=p.rect.height-1:=fun e=>by
  have:=ins_ok hh hw (h1.trans e)
  unfold rcOk at this
  exact⟨wrap_sm (by omega) (by omega),wrap_sm (by omega) (by omega)⟩
 have bad:(d1=false\/d2=true\/d3=true\/d4=true/\(d5=true\/d6=true))->pnE f.height f.width p=3:=fun hb=>by
  unfold pnE
  rw[if_pos]
  rcases hb with e|e|e|⟨e4,e⟩
  ·exact .inl (h1.trans e)
  ·exact .inr (.inl (of_decide_eq_true (h2.trans e)))
  ·exact .inr (.inr (.inl (of_decide_eq_true (h3.trans e))))
  ·refine .inr (.inr (.inr ⟨of_decide_eq_true (h4.trans e4),?_⟩))
   rcases e with e|e
   ·exact .inl (of_decide_eq_true (h5.trans e))
   ·exact .inr (of_decide_eq_true (h6.trans e))
 rw[show G=ext G [] from rfl]
 cases d1 with
 |false =>
  rw[bad (.inl rfl)]
  simp only[Tryd.results49,ruW,ruU,Nat.reduceLT,Nat.reduceEqDiff]
  exact Ax.Fin.mod rfl mG rfl
 |true =>
 obtain⟨w2,w3⟩:=w1 rfl
 cases d2 with
 |true =>
  rw[bad (.inr (.inl rfl))]
  simp only[nG,j1,k1,h2,Tryd.results49,qk_old,ruW,xF,ruU,Nat.reduceLT,Nat.reduceAdd,Nat.reduceEqDiff]
  exact Ax.Fin.mod rfl mG rfl
 |false =>
 cases d3 with
 |true =>
  rw[bad (.inr (.inr (.inl rfl)))]
  simp only[nG,j1,j2,k1,k2,h2,h3,w2,Tryd.results49,qk_old,ruW,xF,ruU,Nat.reduceLT,Nat.reduceAdd,Nat.reduceEqDiff]
  exact Ax.Fin.mod rfl mG rfl
 |false =>
 by_cases hbad:d4=true/\(d5=true\/d6=true)
 ·rw[bad (.inr (.inr (.inr hbad)))]
  obtain⟨rfl,h56⟩:=hbad
  cases d5 with
  |true =>
   simp only[nG,j1,j2,k1,k2,h2,h3,h4,h5,w2,Tryd.results49,qk_old,ruW,xF,ruU,Nat.reduceLT,Nat.reduceAdd,Nat.reduceEqDiff]
   exact Ax.Fin.mod rfl mG rfl
  |false =>
   obtain rfl:d6=true:=by simpa using h56
   simp only[nG,j1,j2,k1,k2,h2,h3,h4,h5,h6,w2,Tryd.results49,qk_old,ruW,xF,ruU,Nat.reduceLT,Nat.reduceAdd,Nat.reduceEqDiff]
   exact Ax.Fin.mod rfl mG rfl
 have hgood:¬(insR f.height f.width p.rect=false\/p.row < -1\/p.rect.height-2<p.row\/(p.row≠-1/\(p.col<0\/p.rect.width<=p.col))):=by
  rintro (e|e|e|⟨e4,e⟩)
  ·rw[h1]at e; cases e
  ·exact of_decide_eq_false h2 e
  ·exact of_decide_eq_false h3 e
  ·refine hbad ⟨by rw[<-h4]; exact decide_eq_true e4,?_⟩
   rcases e with e|e
   ·exact .inl (by rw[<-h5]; exact decide_eq_true e)
   ·exact .inr (by rw[<-h6]; exact decide_eq_true e)
 have hpn:pnE f.height f.width p=if ((p.rows.take (p.rect.height-1).toNat).any fun x=>decide ((x.cells.length:Int)≠p.rect.width))=true\/ptsR p.mode.data.toList=none\/colr p.look=false then 5 else 0:=by
  unfold pnE
  rw[if_neg hgood]
 rw[hpn]
 obtain⟨K,hK⟩:=Go.Ax.exq (min p.rows.length (p.rect.height-1).toNat)
 have hrc:=ins_ok hh hw h1
 unfold rcOk at hrc
 have hht:1<=p.rect.height:=by
  have:=h1
  unfold insR at this
  simp only[zA4,decide_eq_true_eq]at this
  omega
 have hKi:min (p.rows.length:Int) (p.rect.height-1)=(K:Int):=by omega
 have htk:p.rows.take (p.rect.height-1).toNat=p.rows.take K:=by
  rw[<-hK,List.take_eq_take_iff]
  omega
 rw[htk]
 obtain⟨ka,kc,hcut,hit,hids⟩:=hr.cut rfl K (by omega)
 have hKl:(p.rows.take K).length=K:=by rw[zE3]; omega
 have hcutG:=hcut G fun n hn=>mG.get n (ids_of_scb _ hr.sc n hn) (by simp)
 rw[er]at hcutG
 have hitG:=hit.mono mG fun _ _=>RwC.mod0 mG
 have hcon:=containsRow_c G (.slice ka K kc) (p.rows.take K) 86 [.pointer (some ⟨x+2,0,none⟩)] (fun w=>decide ((w.cells.length:Int)≠p.rect.width)) hitG (by omega) (by kernel_rfl) (fun cs w hR _=>checked1_c G p.rect w cs (x+2) hR (by unfold rcL; exact k2) (by omega))
 obtain⟨e1,he1⟩:∃ q,((p.rows.take K).any fun w=>decide ((w.cells.length:Int)≠p.rect.width))=q:=⟨_,rfl⟩
 rw[he1]at hcon ⊢
 rw[valid_pts _ _ (zA6 _)]at hva
 obtain⟨e2,he2⟩:∃ q,(ptsR p.mode.data.toList).isSome=q:=⟨_,rfl⟩
 obtain⟨e3,he3⟩:∃ q,colr p.look=q:=⟨_,rfl⟩
 rw[he2]at hva
 rw[he3]at hco ⊢
 unfold Pn.look Lk.val at hco
 have hcutG':aSlice Tryd.prog (ext G []) 53 (.slice ra p.rows.length rc) none (some (.int .i64 (K:Int))) none=some (.slice ka K kc,ext G []):=hcutG
 have hd46:d4=false\/(d4=true/\d5=false/\d6=false):=by
  cases d4<;>cases d5<;>cases d6<;>simp at hbad ⊢
 have hnone:e2=false->ptsR p.mode.data.toList=none:=fun e=>by
  rw[e]at he2
  cases hq:ptsR p.mode.data.toList with
  |none=>rfl
  |some q=>rw[hq]at he2; cases he2
 have hsome:e2=true->¬ptsR p.mode.data.toList=none:=fun e hq=>by
  rw[hq,e]at he2
  cases he2
 rcases hd46 with rfl|⟨rfl,rfl,rfl⟩
 all_goals
  simp only[nG,j1,j2,k1,k2,h2,h3,h4,h5,h6,w2,w3,hKi,hcutG',qk_old,ruW,xF,ruU,Nat.reduceLT,Nat.reduceAdd,Nat.reduceEqDiff]
  refine CallS.to (show Pure 87 _ (ext G []) _ from hcon) ?_
  cases e1 with
  |true =>
   rw[if_pos (.inl rfl)]
   simp only[Tryd.results49,ruW,ruU,Nat.reduceLT,Nat.reduceEqDiff]
   exact Ax.Fin.mod rfl mG rfl
  |false =>
  simp only[nG,j1,k1,qk_old,ruW,xF,ruU,Nat.reduceLT,Nat.reduceAdd,Nat.reduceEqDiff]
  refine CallS.to (show Pure 43 _ (ext G []) _ from hva) ?_
  cases e2 with
  |false =>
   rw[if_pos (.inr (.inl (hnone rfl)))]
   simp only[Tryd.results49,ruW,ruU,Nat.reduceLT,Nat.reduceEqDiff]
   exact Ax.Fin.mod rfl mG rfl
  |true =>
  simp only[nG,j1,k1,qk_old,ruW,Nat.reduceLeDiff,xF,ruU,Nat.reduceLT,Nat.reduceAdd,Nat.reduceEqDiff]
  refine CallS.to (show Pure 37 _ (ext G []) _ from hco) ?_
  cases e3 with
  |false =>
   rw[if_pos (.inr (.inr rfl))]
   simp only[Tryd.results49,ruW,ruU,Nat.reduceLT,Nat.reduceEqDiff]
   exact Ax.Fin.mod rfl mG rfl
  |true =>
   rw[if_neg (fun h=>by rcases h with h|h|h; cases h; exact hsome rfl h; cases h)]
   simp only[Tryd.results49,ruW,ruU,Nat.reduceLT,Nat.reduceEqDiff]
   exact Ax.Fin.mod rfl mG rfl
structure FrBd (f:Fr):Prop where
 panes:f.panes.length<=12
 bars:f.bars.length<=12
 echo:f.echo.size<=300
 rows:∀ p∈f.panes,p.rows.length<=30/\p.mode.size<=300/\∀ r∈p.rows,r.cells.length<=60
def rcsL (rs:List Rc):List Value:=rs.flatMap rcL
theorem rcsL_app (a b:List Rc):rcsL (a++b)=rcsL a++rcsL b:=by simp[rcsL]
theorem rcsL_len (rs:List Rc):(rcsL rs).length=rs.length*5:=by
 induction rs with
 |nil=>rfl
 |cons r l ih=>simp only[rcsL,zF3,zC8,zB4]at ih ⊢; rw[ih]; simp only[rcL,zB4,zD0]; omega
theorem rcsL_take (rs:List Rc):∀ j,(rcsL rs).take (j*5)=rcsL (rs.take j):=by
 induction rs with
 |nil=>intro j; simp[rcsL]
 |cons r l ih =>
  intro j
  cases j with
  |zero=>simp[rcsL]
  |succ j =>
   rw[show (j+1)*5=5+j*5 by omega]
   simp only[rcsL,zF3,List.take_succ_cons]at ih ⊢
   rw[List.take_append,zF2 (by simp[rcL]),<-ih j]
   simp only[rcL,zB4,zD0]
   rw[show 5+j*5-(0+1+1+1+1+1)=j*5 by omega]
theorem rcsL_one (rs:List Rc):(rcsL rs).all one=true:=by
 induction rs with
 |nil=>rfl
 |cons r l ih=>simp only[rcsL,zF3,List.all_append]at ih ⊢; rw[ih]; rfl
theorem rcsL_sc (N:Nat) (rs:List Rc):scbL N (rcsL rs)=true:=by
 induction rs with
 |nil=>rfl
 |cons r l ih=>rw[rcsL,zF3]; exact scbL_append rfl ih
theorem rcsL_at:∀ {rs:List Rc} {i:Nat} {r:Rc},rs[i]?=some r->((rcsL rs).drop (i*5)).take 5=rcL r
 |y::l,0,r,h=>by
  simp only[zD3,Option.some.injEq]at h
  subst h
  rfl
 |y::l,i+1,r,h=>by
  rw[zE2]at h
  rw[show (i+1)*5=5+i*5 by omega,rcsL,zF3,List.drop_append,zF5 (by simp[rcL])]
  simp only[rcL,zB4,zD0,zC9]
  rw[show 5+i*5-(0+1+1+1+1+1)=i*5 by omega]
  exact rcsL_at h
theorem rcs_items {H:AHeap} {v:Value} {rs:List Rc} (h:RdAt H 5 v (rcsL rs) rs.length):ItR H 5 (fun cs r=>cs=rcL r) v rs:=⟨_,h,fun i r hi=>rcsL_at hi⟩
theorem items_rcs {H:AHeap} {v:Value} {rs:List Rc} (h:ItR H 5 (fun cs r=>cs=rcL r) v rs):RdAt H 5 v (rcsL rs) rs.length:=by
 obtain⟨vs,h1,h2⟩:=h
 have:vs=rcsL rs:=by
  apply List.ext_getElem?
  intro k
  have hl:=h1.1
  rcases zC0 k (rs.length*5) with hk|hk
  ·have hi:k / 5<rs.length:=by omega
   have e1:=h2 (k / 5) _ (zA5 hi)
   have e2:=rcsL_at (zA5 hi)
   have e3:=congrArg (fun l=>l[k % 5]?) (e1.trans e2.symm)
   simp only[zF4,List.getElem?_drop]at e3
   have hm:k % 5<5:=Nat.mod_lt _ (by decide)
   rw[if_pos hm,if_pos hm,show k / 5*5+k % 5=k by omega]at e3
   exact e3
  ·rw[zD2 (by omega),zD2 (by rw[rcsL_len]; omega)]
 subst this
 exact h1
theorem pnsE_cons {h w:Int} (q:Pn) (ps:List Pn) (hq:pnE h w q=0):pnsE h w (q::ps)=pnsE h w ps:=by
 rw[pnsE,if_neg (fun h=>h hq)]
theorem pnsE_head {h w:Int} {q:Pn} {ps:List Pn} (h0:pnsE h w (q::ps)=0):pnE h w q=0:=by
 rw[pnsE]at h0
 exact Decidable.byContradiction fun hq=>hq (by rw[if_pos hq]at h0; exact h0)
theorem pnsE_take {h w:Int} (ps:List Pn):∀ (j:Nat) (p:Pn),ps[j]?=some p->pnsE h w (ps.take j)=0->pnE h w p≠0->pnsE h w ps=pnE h w p:=by
 induction ps with
 |nil=>intro j p hj; simp at hj
 |cons q ps ih =>
  intro j p hj h0 hp
  cases j with
  |zero =>
   simp only[zD3,Option.some.injEq]at hj
   subst hj
   rw[pnsE,if_pos hp]
  |succ j =>
   rw[zE2]at hj
   rw[List.take_succ_cons]at h0
   have hq:=pnsE_head h0
   rw[pnsE_cons _ _ hq]at h0
   rw[pnsE_cons _ _ hq]
   exact ih j p hj h0 hp
theorem pnsE_snoc {h w:Int}:∀ {ps:List Pn} {p:Pn},pnsE h w ps=0->pnE h w p=0->pnsE h w (ps++[p])=0
 |[],p,_,hp=>by rw[zC9,pnsE_cons _ _ hp]; rfl
 |q::ps,p,h0,hp=>by
  have hq:=pnsE_head h0
  rw[pnsE_cons _ _ hq]at h0
  rw[List.cons_append,pnsE_cons _ _ hq]
  exact pnsE_snoc h0 hp
theorem pnE_ins {h w:Int} {p:Pn} (h0:pnE h w p=0):insR h w p.rect=true:=by
 cases hi:insR h w p.rect with
 |true=>rfl
 |false =>
  unfold pnE at h0
  rw[if_pos (.inl hi)]at h0
  cases h0
theorem pnsE_ok {h w:Int} (ps:List Pn):pnsE h w ps=0->∀ p∈ps,insR h w p.rect=true:=by
 induction ps with
 |nil=>intro _ p hp; cases hp
 |cons q ps ih =>
  intro h0 p hp
  have hq:=pnsE_head h0
  rw[pnsE_cons _ _ hq]at h0
  rcases zB2.1 hp with rfl|hp
  ·exact pnE_ins hq
  ·exact ih h0 p hp
theorem meetR_comm (a b:Rc):meetR a b=meetR b a:=by
 unfold meetR
 cases decide (a.top<b.top+b.height)<;>cases decide (b.top<a.top+a.height)<;>cases decide (a.left<b.left+b.width)<;>cases decide (b.left<a.left+a.width)<;>rfl
theorem pairsR_snoc:∀ (l:List Rc) (r:Rc),pairsR (l++[r])=(pairsR l||l.any (meetR r))
 |[],r=>by simp[pairsR]
 |a::l,r=>by
  rw[List.cons_append,pairsR,pairsR,pairsR_snoc l r,List.any_append,List.any_cons,List.any_cons,List.any_nil,meetR_comm r a]
  cases l.any (meetR a)<;>cases meetR a r<;>cases pairsR l<;>cases l.any (meetR r)<;>rfl
theorem pairsR_take {l:List Rc}:∀ {i:Nat},i<=l.length->pairsR (l.take i)=true->pairsR l=true:=fun {i} _ h=>by
 have:∀ (n:Nat) (a b:List Rc),b.length=n->pairsR a=true->pairsR (a++b)=true:=by
  intro n
  induction n with
  |zero =>
   intro a b hb ha
   rw[zD7 hb,zE4]
   exact ha
  |succ n ih =>
   intro a b hb ha
   match b,hb with
   |r::b,hb =>
    rw[show a++r::b=(a++[r])++b by simp]
    exact ih _ _ (by simpa using hb) (by rw[pairsR_snoc,ha]; rfl)
 have e:=List.take_append_drop i l
 rw[<-e]
 exact this _ _ _ rfl h
theorem meets_c (H:AHeap) (r:Rc) (b:Nat) (hb:H.next=b):CallS Tryd.prog 53 [.agg ⟨rcL r⟩] H (.ok (.func (.func 89) ⟨[]⟩ ⟨[.pointer (some ⟨b+0,0,none⟩)]⟩)) (ext H [⟨52,false,rcL r⟩]):=by
 refine callS_fn mixed Tryd.func53 rfl Tryd.ntmps53 (zB1 rfl) fun wf hsc=>?_
 unfold rcL
 simp only[hb,Tryd.results53,ruW,ruU,entryE,Nat.reduceLT,Nat.reduceEqDiff]
 exact Fin.same
theorem vs_mod0 {X Y:AHeap} (m:Mod [] X Y) {e:TypeId} {sz cnt:Nat} {v:Value} {vs:List Value} (h:VsAt X e sz v vs cnt):VsAt Y e sz v vs cnt:=h.of m.next fun n hn=>m.get n (h.ne n hn).2 (by simp)
theorem frValid_c (H:AHeap) (t:TabX H) (f:Fr) (pv bv:Value) (hf:FrR true H pv bv f) (bd:FrBd f):Pure 23 [.agg ⟨frL pv bv f⟩] H (.int .i64 (frE f)):=by
 refine callS_drop (fun wf hsc=>?_) (fun _ _=>rfl)
 obtain⟨x,hx⟩:=Go.Ax.exq H.next
 obtain⟨pa,pc,ep⟩:=hf.panes.sl
 obtain⟨ba,bc,eb⟩:=hf.bars.sl
 have hok:=wf.base
 have sp:=hf.sp
 have sb:=hf.sb
 rw[hx,ep]at sp
 rw[hx,eb]at sb
 refine callE_fn mixed Tryd.func23 rfl Tryd.ntmps23 (zB1 rfl) ?_
 rw[ep,eb]
 unfold frL
 obtain⟨c1,h1⟩:∃ q,decide (f.height<2)=q:=⟨_,rfl⟩
 obtain⟨c2,h2⟩:∃ q,decide (200<f.height)=q:=⟨_,rfl⟩
 obtain⟨c3,h3⟩:∃ q,decide (f.width<1)=q:=⟨_,rfl⟩
 obtain⟨c4,h4⟩:∃ q,decide (1000<f.width)=q:=⟨_,rfl⟩
 have bad:c1=true\/c2=true\/c3=true\/c4=true->frE f=3:=fun hb=>by
  unfold frE
  rw[if_pos]
  rcases hb with e|e|e|e
  ·exact .inl (of_decide_eq_true (h1.trans e))
  ·exact .inr (.inl (of_decide_eq_true (h2.trans e)))
  ·exact .inr (.inr (.inl (of_decide_eq_true (h3.trans e))))
  ·exact .inr (.inr (.inr (of_decide_eq_true (h4.trans e))))
 by_cases hbad:c1=true\/c2=true\/c3=true\/c4=true
 ·rw[bad hbad]
  have hcs:c1=true\/c1=false/\c2=true\/c1=false/\c2=false/\c3=true\/c1=false/\c2=false/\c3=false/\c4=true:=by
   cases c1<;>cases c2<;>cases c3<;>cases c4<;>simp at hbad ⊢
  rcases hcs with rfl|⟨rfl,rfl⟩|⟨rfl,rfl,rfl⟩|⟨rfl,rfl,rfl,rfl⟩
  all_goals
   simp only[hx,sp,sb,h1,h2,h3,h4,Tryd.results23,ruW,xF,ruU,entryE,Nat.reduceLT,Nat.reduceAdd,Nat.reduceEqDiff]
   exact⟨trivial,Mod.ext hok⟩
 obtain⟨rfl,rfl,rfl,rfl⟩:c1=false/\c2=false/\c3=false/\c4=false:=by
  cases c1<;>cases c2<;>cases c3<;>cases c4<;>simp at hbad ⊢
 have n1:=of_decide_eq_false h1
 have n2:=of_decide_eq_false h2
 have n3:=of_decide_eq_false h3
 have n4:=of_decide_eq_false h4
 have hh:f.height<=200:=by omega
 have hw:f.width<=1000:=by omega
 have hfrE:frE f=if pnsE f.height f.width f.panes≠0 then pnsE f.height f.width f.panes
   else if (f.bars.any fun r=>!insR f.height f.width r)=true then 3
   else if pairsR (f.panes.map Pn.rect++f.bars)=true then 9
   else if ptsR f.echo.data.toList=none then 5
   else if f.ecol < -1\/f.width<=f.ecol then 3 else 0:=by
  unfold frE
  rw[if_neg]
  omega
 rw[hfrE]
 generalize hcode:Code.seq (Code.region 12 _ _) _=code
 simp only[hx,sp,sb,h1,h2,h3,h4,ruW,xF,ruU,entryE,Nat.reduceLT,Nat.reduceAdd,Nat.reduceEqDiff]
 generalize hY:ext H _=Y
 have mY:Mod [] H Y:=hY▸Mod.ext hok
 have nY:Y.next=x+1:=by rw[<-hY,ext_next,hx]; rfl
 have kY:bk Y (x+0)=some ⟨25,false,frL (.slice pa f.panes.length pc) (.slice ba f.bars.length bc) f⟩:=by rw[<-hY,bk_at hx (by simp)]; rfl
 clear hY
 have okY:=mY.ok hok
 rw[show Y=ext Y [] from rfl]
 refine w_env fun E hE=>?_
 have g1:E 1=.pointer (some ⟨x+0,0,none⟩):=by rw[hE]; rfl
 have g3:E 3=.slice none 0 0:=by rw[hE]; rfl
 have g28:E 28=.slice pa f.panes.length pc:=by rw[hE]; rfl
 have g29:E 29=.int .i64 (f.panes.length:Int):=by rw[hE]; rfl
 have g30:E 30=.int .i64 ((0:Nat):Int):=by rw[hE]; rfl
 clear hE
 have u22:Tryd.prog.underlying 22=some (.slice 55):=by kernel_rfl
 have s55:szOf Tryd.prog 55=some 15:=by kernel_rfl
 have ag55':aggT Tryd.prog 55=some true:=by kernel_rfl
 have u23':Tryd.prog.underlying 23=some (.slice 52):=by kernel_rfl
 have s52:szOf Tryd.prog 52=some 5:=by kernel_rfl
 have by52:bytesOf Tryd.prog 52=some 40:=by kernel_rfl
 have z52:zeroOf Tryd.prog 52=some (.agg #[.int .i64 0,.int .i64 0,.int .i64 0,.int .i64 0,.int .i64 0]):=by kernel_rfl
 have i23:intTy Tryd.prog 23=some false:=by kernel_rfl
 refine w_loop (fun (j:Nat) E' X'=>j<=f.panes.length/\Mod [] Y X'/\(∃ av,VsAt X' 52 5 av (rcsL ((f.panes.take j).map Pn.rect)) j/\(∀ k∈idsV av,x+1<=k)/\E' 3=av)/\pnsE f.height f.width (f.panes.take j)=0/\E' 1=.pointer (some ⟨x+0,0,none⟩)/\E' 28=.slice pa f.panes.length pc/\E' 29=.int .i64 (f.panes.length:Int)/\E' 30=.int .i64 (j:Int)) (fun j=>f.panes.length-j) 0 ⟨zA7 _,Mod.refl,⟨_,VsAt.nil,fun k hk=>by simp[idsV]at hk,g3⟩,rfl,g1,g28,g29,g30⟩ ?_
 clear g1 g3 g28 g29 g30 E
 rintro j E X ⟨hj,mYX,⟨av,vX,lav,g3⟩,hz0,g1,g28,g29,g30⟩
 have mX:=mY.trans mYX
 have okX:=mX.ok hok
 obtain⟨y,hy⟩:=Go.Ax.exq X.next
 have yb:X.base<=y:=hy▸okX
 have lx:x+1<=y:=by have:=mYX.next; omega
 have kX:=(mYX.bk (by omega) (by simp)).trans kY
 have xy:x+0<y:=by omega
 obtain⟨av0,eav⟩:=vX.len
 rw[eav]at g3 vX lav
 clear eav
 by_cases hjl:j<f.panes.length
 ·have hd:decide ((j:Int)<(f.panes.length:Int))=true:=decide_eq_true (by omega)
  obtain⟨p,hp⟩:∃ p,f.panes[j]?=some p:=⟨_,zA5 hjl⟩
  have hpm:=zB5 hp
  obtain⟨b1,b2,b3⟩:=bd.rows p hpm
  obtain⟨n,off,s,c,e,o,M,cs,e1,n1r,r1,hle,hM,rv,rfl,hR⟩:=(hf.panes.mono mX fun _ _=>PnC.mod0 mX).one hp
  have e1':=ep.symm.trans e1
  simp only[Value.slice.injEq,true_and]at e1'
  obtain⟨rfl,rfl⟩:=e1'
  have i1:=ia_of (P:=Tryd.prog) (k:=.i64) (i:=j) (n:=n) (off:=off) (len:=f.panes.length) (cap:=pc) (s:=s) u22 s55 hjl
  have l1:ldB Tryd.prog 55 (off+j*15) (some ⟨e,o,M⟩)=some (.agg ⟨pnL rv p⟩):=by
   rw[ld_agg ag55',s55,zA3,if_pos (by omega),hM]
  obtain⟨ra,rc,er⟩:=hR.it.sl
  have sr:=hR.sc
  rw[hy,er]at sr
  rw[hy]at n1r
  rw[er]at l1
  obtain⟨Z,hZ⟩:=Go.Ax.exq (ext X [⟨55,false,pnL (.slice ra p.rows.length rc) p⟩])
  have mZ:Mod [] X Z:=hZ▸Mod.ext okX
  have nZ:Z.next=y+1:=by rw[<-hZ,ext_next,hy]; rfl
  have kZp:bk Z (y+0)=some ⟨55,false,pnL (.slice ra p.rows.length rc) p⟩:=by rw[<-hZ,bk_at hy (by simp)]; rfl
  have okZ:=mZ.ok okX
  have kZ:=(mZ.bk (by omega) (by simp)).trans kX
  have yz:y+0<y+1:=by omega
  have hck:=checked_c Z ((t.mod0 mX).mod0 mZ) f p (some ⟨n,off,s⟩) ba f.panes.length f.bars.length pc bc rv hh hw (hR.mod0 mZ) (by omega) (by omega)
  rw[er]at hck
  unfold frL at kX kZ hck
  unfold pnL at l1 hZ kZp hck
  obtain⟨ev,hev⟩:∃ q,pnE f.height f.width p=q:=⟨_,rfl⟩
  rw[hev]at hck
  obtain⟨d,hde⟩:=Go.Ax.exq (decide (¬ev=0))
  rw[show X=ext X [] from rfl]
  generalize hcode2:Code.region 10 _ _=code2
  simp only[g1,g28,g29,g30,hy,yb,hd,i1,n1r,r1,l1,sr,kX,xy,qk_old,ruW,putL,Nat.reduceLeDiff,xF,ruU,Nat.reduceLT,Nat.reduceAdd,Nat.reduceEqDiff]
  rw[hZ]
  refine hck.to ?_
  rw[show Z=ext Z [] from rfl]
  cases d with
  |true =>
   have hne:ev≠0:=of_decide_eq_true hde
   have he:=pnsE_take f.panes j p hp hz0 (by rw[hev]; exact hne)
   rw[hev]at he
   rw[he,if_pos hne]
   simp only[hde,Tryd.results23,ruW,ruU,Nat.reduceLT,Nat.reduceEqDiff]
   exact⟨trivial,show Mod [] H (ext Z []) from mX.trans mZ⟩
  |false =>
   have hev0:ev=0:=Decidable.byContradiction fun h=>of_decide_eq_false hde h
   subst hcode2
   obtain⟨A,eA⟩:=Go.Ax.exq (ext Z [⟨52,false,rcL p.rect⟩])
   have mA:Mod [] Z A:=eA▸Mod.ext okZ
   have nA:A.next=y+2:=by rw[<-eA,ext_next,nZ]; rfl
   have okA:=mA.ok okZ
   have kA:bk A (y+1)=some ⟨52,false,rcL p.rect⟩:=by rw[<-eA,show y+1=(y+1)+0 from rfl,bk_at nZ (by simp)]; rfl
   have vA:=vs_mod0 mA (vs_mod0 mZ vX)
   have rA:RdAt A 5 (.slice (some ⟨y+1,0,some 0⟩) 1 1) (rcL p.rect) 1:=⟨rfl,.inr ⟨by omega,y+1,0,some 0,1,52,false,rcL p.rect,rfl,rk_of kA,by omega,by simp[rcL],rfl⟩⟩
   have hsm:small (j+1) 40=true:=by have:=bd.panes; simp only[small,zA4,zC6]; omega
   obtain⟨v',G,ga,gv,gm,gi⟩:=vs_appR u23' s52 by52 z52 rfl i23 vA rA okA rfl (by rw[show rcL p.rect=rcsL [p.rect] from rfl,<-rcsL_app]; exact rcsL_sc _ _) hsm
   unfold rcL at eA
   simp only[g3,nZ,yz,kZp,hde,qk_old,ruW,Nat.reduceLeDiff,xF,ruU,Nat.reduceLT,Nat.reduceAdd,Nat.reduceEqDiff]
   rw[eA,ga]
   simp only[g30,ruW,ruU,Nat.reduceLT,Nat.reduceEqDiff]
   have hwj:IntKind.i64.wrap ((j:Int)+1)=((j+1:Nat):Int):=wrap_succ (by have:=bd.panes; omega)
   have htk:f.panes.take (j+1)=f.panes.take j++[p]:=by rw[List.take_succ,hp]; rfl
   refine loopC_next ⟨j+1,by omega,hjl,?_,⟨v',?_,?_,?_⟩,?_,?_,?_,?_,?_⟩
   ·exact mYX.step (((mZ.trans mA).mono (by simp)).trans gm) okY fun k hk=>.inr (by rw[nY]; exact lav k hk)
   ·rw[htk,List.map_append,rcsL_app]
    exact gv
   ·intro k hk
    rcases gi k hk with h|h
    ·exact lav k h
    ·omega
   ·rfl
   ·rw[htk]
    exact pnsE_snoc hz0 (hev.trans hev0)
   ·exact g1
   ·exact g28
   ·exact g29
   ·simp only[hwj,ruU]
 ·obtain rfl:j=f.panes.length:=by omega
  rw[zF0]at hz0 vX
  have hd:decide ((f.panes.length:Int)<(f.panes.length:Int))=false:=decide_eq_false (by omega)
  rw[if_neg (fun h=>h hz0)]
  subst hcode
  rw[show X=ext X [] from rfl]
  have hbX:=hf.bars.mono mX fun _ _ h=>h
  have hcon:=containsRect_c X bv f.bars 51 [.pointer (some ⟨x+0,0,none⟩)] (fun r=>!insR f.height f.width r) hbX (by have:=bd.bars; omega) (by kernel_rfl) (fun cs r hR _=>by
   rw[hR]
   exact valid1_c X f r pa ba f.panes.length f.bars.length pc bc (x+0) hh hw kX (by omega))
  rw[eb]at hcon
  obtain⟨e1,he1⟩:∃ q,(f.bars.any fun r=>!insR f.height f.width r)=q:=⟨_,rfl⟩
  rw[he1]at hcon ⊢
  have kX':=kX
  unfold frL at kX
  simp only[g1,g29,g30,hy,hd,kX,xy,qk_old,ruW,xF,ruU,Nat.reduceLT,Nat.reduceAdd,Nat.reduceEqDiff]
  refine hcon.to ?_
  rw[show X=ext X [] from rfl]
  cases e1 with
  |true =>
   rw[if_pos rfl]
   simp only[Tryd.results23,ruW,ruU,Nat.reduceLT]
   exact⟨trivial,mX⟩
  |false =>
  rw[if_neg (by decide)]
  have hsm:small (f.panes.length+f.bars.length) 40=true:=by have:=bd.panes; have:=bd.bars; simp only[small,zA4,zC6]; omega
  obtain⟨v',G,ga,gv,gm,gi⟩:=vs_appR u23' s52 by52 z52 rfl i23 vX (eb▸items_rcs hbX) okX (rcsL_one _) (by rw[<-rcsL_app]; exact rcsL_sc _ _) hsm
  have ga':aBuiltin Tryd.prog (ext X []) .append ⟨[23,23]⟩ [.slice av0 f.panes.length f.panes.length,.slice ba f.bars.length bc]=some (v',G):=ga
  have okG:=(mX.step (gm.mono fun n hn=>hn) hok fun k hk=>.inr (by rw[hx]; have:=lav k hk; omega)).ok hok
  have mYG:=mYX.step gm okY fun k hk=>.inr (by rw[nY]; exact lav k hk)
  have lv':∀ k∈idsV v',x+1<=k:=fun k hk=>by
   rcases gi k hk with h|h
   ·exact lav k h
   ·omega
  obtain⟨L,hL⟩:=Go.Ax.exq (f.panes.map Pn.rect++f.bars)
  rw[<-rcsL_app,hL]at gv
  have hLl:f.panes.length+f.bars.length=L.length:=by rw[<-hL]; simp
  rw[hLl]at gv
  rw[hL]
  have hLb:L.length<=24:=by have:=bd.panes; have:=bd.bars; omega
  have hLok:∀ r∈L,rcOk r:=fun r hr=>by
   rw[<-hL]at hr
   rcases zC3.1 hr with hr|hr
   ·obtain⟨p,hp,rfl⟩:=zE7.1 hr
    exact ins_ok hh hw (pnsE_ok _ hz0 p hp)
   ·refine ins_ok hh hw ?_
    cases hi:insR f.height f.width r with
    |true=>rfl
    |false =>
     have:=List.any_eq_false.1 he1 r hr
     rw[hi]at this
     exact absurd rfl this
  obtain⟨av1,eav1⟩:=gv.len
  have g1o:=g1
  generalize hcode2:Code.block 4 _=code2
  generalize hcode3:Code.seq (Code.region 25 _ _) _=code3
  rw[eav1]at ga'
  simp only[g1,g3,hy,kX,xy,ga',qk_old,ruW,xF,ruU,Nat.reduceLT,Nat.reduceAdd,Nat.reduceEqDiff]
  have kG:=(mYG.bk (by omega) (by simp)).trans kY
  have mG:=mY.trans mYG
  clear kX kX' hcon hbX ga ga' lav vX gi xy yb hy lx g28 g29 g30 g1 g3
  refine w_env fun E2 hE=>?_
  have g1:E2 1=.pointer (some ⟨x+0,0,none⟩):=by rw[hE]; simp only[g1o,ruU,Nat.reduceEqDiff]
  have g3:E2 3=.slice av1 L.length L.length:=by rw[hE]; rfl
  have g54:E2 54=.slice av1 L.length L.length:=by rw[hE]; rfl
  have g55:E2 55=.int .i64 (L.length:Int):=by rw[hE]; rfl
  have g56:E2 56=.int .i64 ((0:Nat):Int):=by rw[hE]; rfl
  clear hE
  refine w_loop (fun (j:Nat) E' X'=>j<=L.length/\Mod [] G X'/\pairsR (L.take j)=false/\E' 1=.pointer (some ⟨x+0,0,none⟩)/\E' 3=.slice av1 L.length L.length/\E' 54=.slice av1 L.length L.length/\E' 55=.int .i64 (L.length:Int)/\E' 56=.int .i64 (j:Int)) (fun j=>L.length-j) 0 ⟨zA7 _,Mod.refl,rfl,g1,g3,g54,g55,g56⟩ ?_
  clear g1 g3 g54 g55 g56 E2
  rintro j E2 X2 ⟨hj,mGX,hpr,g1,g3,g54,g55,g56⟩
  have mX2:=mG.trans mGX
  have okX2:=mX2.ok hok
  obtain⟨y,hy⟩:=Go.Ax.exq X2.next
  have yb:X2.base<=y:=hy▸okX2
  have lx:x+1<=y:=by have:=mGX.next; have:=mYG.next; omega
  have kX:=(mGX.bk (by have:=mYG.next; omega) (by simp)).trans kG
  have xy:x+0<y:=by omega
  by_cases hjl:j<L.length
  ·have hd:decide ((j:Int)<(L.length:Int))=true:=decide_eq_true (by omega)
   obtain⟨r,hr⟩:∃ r,L[j]?=some r:=⟨_,zA5 hjl⟩
   have gv2:=vs_mod0 mGX gv
   rw[eav1]at gv2
   obtain⟨n,rfl,hbn,hltn⟩:∃ n,av1=some ⟨n,0,none⟩/\bk X2 n=some ⟨52,true,rcsL L⟩/\n<X2.next:=by
    obtain⟨_,_,⟨h0,_⟩|⟨_,n,e,h1,h2⟩⟩:=gv2
    ·omega
    ·cases e
     exact⟨n,rfl,h1,h2⟩
   rw[hy]at hltn
   have i1:=ia_of (P:=Tryd.prog) (k:=.i64) (i:=j) (n:=n) (off:=0) (len:=L.length) (cap:=L.length) (s:=none) u23' s52 hjl
   have ag52:aggT Tryd.prog 52=some true:=by kernel_rfl
   have hlr:=rcsL_len L
   have l1:ldB Tryd.prog 52 (0+j*5) (some ⟨52,true,rcsL L⟩)=some (.agg ⟨rcL r⟩):=by
    rw[ld_agg ag52,s52,zA3,if_pos (by omega),zB6,rcsL_at hr]
   have hbr:rk X2 n=some ⟨52,true,rcsL L⟩:=rk_of hbn
   unfold rcL at l1
   have hrok:=hLok r (zB5 hr)
   rw[show X2=ext X2 [] from rfl]
   simp only[g54,g55,g56,hy,yb,hd,i1,hltn,hbr,l1,z52,qk_old,ruW,putL,Nat.reduceLeDiff,xF,ruU,Nat.reduceLT,Nat.reduceAdd,Nat.reduceEqDiff]
   obtain⟨Z,hZ⟩:=Go.Ax.exq (ext X2 [⟨52,false,rcL r⟩])
   have mZ:Mod [] X2 Z:=hZ▸Mod.ext okX2
   have nZ:Z.next=y+1:=by rw[<-hZ,ext_next,hy]; rfl
   have kZr:bk Z (y+0)=some ⟨52,false,rcL r⟩:=by rw[<-hZ,bk_at hy (by simp)]; rfl
   have okZ:=mZ.ok okX2
   have yz:y+0<y+1:=by omega
   have gvZ:=vs_mod0 mZ gv2
   have kZn:bk Z n=some ⟨52,true,rcsL L⟩:=(mZ.bk (by omega) (by simp)).trans hbn
   obtain⟨ca,cc,hcut,hrd,hids⟩:=vs_cut (P:=Tryd.prog) u23' s52 gvZ hj
   rw[rcsL_take]at hrd
   unfold rcL at hZ
   rw[hZ,show Z=ext Z [] from rfl]
   unfold rcL at kZr
   have ir:idsV (.slice (some ⟨n,0,none⟩) L.length L.length)=[n]:=rfl
   refine w_drawB [(5,2),(5,3),(5,4),(4,3),(2,0),(2,1)] [] (by kernel_rfl) (by kernel_rfl) rfl fun ops anc hA hG=>?_
   simp only[all2_cons]at hA
   simp only[g3,ir,ruD,ruU,Nat.reduceLT,Nat.reduceAdd,Nat.reduceEqDiff]
   rw[wd_slice]
   refine genV_cutR (v:=.slice ca j cc) [n] (by simp only[ruU,Nat.reduceLT]) rfl (by simp (maxDischargeDepth:=6) only[ruU,Nat.reduceLT,bndsOk_some]) rfl (by decide) (fun m hm=>by simp (maxDischargeDepth:=6) only[zA9]at hm; subst hm; exact bk_ne kZn) (fun K hK=>?_) (by simp (maxDischargeDepth:=6) only[ruD]) ?_
   ·simp only[bnds_some,bnds_none,ruU,Nat.reduceEqDiff]
    exact hcut K fun m hm=>hK m (by simpa[idsV]using hm)
   simp only[nZ,yz,kZr,qk_old,ruD,ruW,Nat.reduceLeDiff,xF,ruU,Nat.reduceLT,Nat.reduceAdd,Nat.reduceEqDiff]
   refine genV_ext (H:=ext Z []) (v:=.func (.func 89) ⟨[]⟩ ⟨[.pointer (some ⟨y+1+0,0,none⟩)]⟩) (M:=[⟨52,false,rcL r⟩]) [] (by simp only[ruU,Nat.reduceLT]) (by kernel_rfl) (by decide) (fun m hm=>by simp at hm) (fun K hK _=>?_) (by simp (maxDischargeDepth:=6) only[hA,ruD,ruW,Nat.reduceAdd]) ?_
   ·simp only[ruU]
    exact meets_c K r (y+1) (hK.trans nZ)
   obtain⟨W,hW⟩:=Go.Ax.exq (ext Z [⟨52,false,rcL r⟩])
   have mW:Mod [] Z W:=hW▸Mod.ext okZ
   have nW:W.next=y+2:=by rw[<-hW,ext_next,nZ]; rfl
   have kWb:bk W (y+1+0)=some ⟨52,false,rcL r⟩:=by rw[<-hW,bk_at nZ (by simp)]; rfl
   have kWn:=(mW.bk (by omega) (by simp)).trans kZn
   have hrdW:=hrd.mod0 mW
   obtain⟨d,hdd⟩:=Go.Ax.exq ((L.take j).any (meetR r))
   rw[show ext (ext Z []) [⟨52,false,rcL r⟩]=W from hW]
   simp only[nZ,zB4,zD0,ruD,ruW,Nat.reduceAdd]
   refine genV_quiet (v:=.bool d) [n,y+1+0] (by simp only[ruU,Nat.reduceLT]) (by kernel_rfl) (by decide) (fun m hm=>?_) (fun K hKn hK=>?_) (by simp (maxDischargeDepth:=6) only[hA,ruD,ruW,Nat.reduceAdd]) ?_
   ·simp only[zB2,List.not_mem_nil,or_false]at hm
    rcases hm with rfl|rfl
    ·exact bk_ne kWn
    ·exact bk_ne kWb
   ·simp only[ruU,Nat.reduceEqDiff]
    have hlt:(L.take j).length=j:=by rw[zE3]; omega
    have hrK:RdAt K 5 (.slice ca j cc) (rcsL (L.take j)) (L.take j).length:=by
     rw[hlt]
     refine hrdW.of (Nat.le_of_eq hKn.symm) fun m hm=>hK m ?_
     unfold rdF at hm
     split at hm
     ·cases hm
     ·have:=hids m hm
      rw[ir]at this
      simp only[zA9]at this
      simp[this]
    have:=containsRect_c K (.slice ca j cc) (L.take j) 89 [.pointer (some ⟨y+1+0,0,none⟩)] (meetR r) (rcs_items hrK) (by omega) (by kernel_rfl) (fun cs q hR hq=>by
     rw[hR]
     exact meets1_c K r q (y+1+0) hrok (hLok q (List.mem_of_mem_take hq)) ((bk_get (hK _ (by simp))).trans kWb) (by omega))
    rw[hdd]at this
    exact this
   simp only[ruD,ruW,ruU,Nat.reduceLT,Nat.reduceAdd]
   have hnx:L.take (j+1)=L.take j++[r]:=by rw[List.take_succ,hr]; rfl
   have hps:pairsR (L.take (j+1))=d:=by rw[hnx,pairsR_snoc,hpr,hdd]; rfl
   cases d with
   |true =>
    have:=pairsR_take (l:=L) (i:=j+1) (by omega) hps
    rw[this,if_pos rfl]
    simp only[Tryd.results23,ruW,ruU,Nat.reduceLT]
    exact⟨trivial,(mX2.trans mZ).trans mW⟩
   |false =>
    have hwj:IntKind.i64.wrap ((j:Int)+1)=((j+1:Nat):Int):=wrap_succ (by omega)
    simp only[g56,hwj,ruW,ruU,Nat.reduceLT,Nat.reduceEqDiff]
    refine loopC_next ⟨j+1,by omega,hjl,(mGX.trans mZ).trans mW,hps,?_,?_,?_,?_,?_⟩
    ·exact g1
    ·exact g3
    ·exact g54
    ·exact g55
    ·rfl
  ·obtain rfl:j=L.length:=by omega
   have hd:decide ((L.length:Int)<(L.length:Int))=false:=decide_eq_false (by omega)
   rw[zF0]at hpr
   rw[hpr,if_neg (by decide)]
   subst hcode2 hcode3
   have hva:=valid_c X2 (t.mod0 mX2).tab f.echo (by have:=bd.echo; omega)
   rw[valid_pts _ _ (zA6 _)]at hva
   obtain⟨e2,he2⟩:∃ q,(ptsR f.echo.data.toList).isSome=q:=⟨_,rfl⟩
   rw[he2]at hva
   unfold frL at kX
   obtain⟨e3,he3⟩:∃ q,decide (f.ecol < -1)=q:=⟨_,rfl⟩
   obtain⟨e4,he4⟩:∃ q,decide (f.width<=f.ecol)=q:=⟨_,rfl⟩
   rw[show X2=ext X2 [] from rfl]
   simp only[g1,g55,g56,hy,hd,kX,xy,qk_old,ruW,xF,ruU,Nat.reduceLT,Nat.reduceAdd,Nat.reduceEqDiff]
   refine CallS.to (show Pure 43 _ (ext X2 []) _ from hva) ?_
   cases e2 with
   |false =>
    rw[if_pos (by cases hq:ptsR f.echo.data.toList with
     |none=>rfl
     |some q=>rw[hq]at he2; cases he2)]
    simp only[Tryd.results23,ruW,ruU,Nat.reduceLT]
    exact⟨trivial,mX2⟩
   |true =>
   rw[if_neg (by intro hq; rw[hq]at he2; cases he2)]
   have h34:(if f.ecol < -1\/f.width<=f.ecol then (3:Int) else 0)=if (e3||e4)=true then 3 else 0:=by
    rw[<-he3,<-he4]
    simp
   rw[h34]
   cases e3 with
   |true =>
    simp only[g1,hy,kX,xy,he3,Tryd.results23,qk_old,Bool.true_or,ruW,xF,ruU,Nat.reduceLT,Nat.reduceAdd,Nat.reduceEqDiff]
    exact⟨trivial,mX2⟩
   |false =>
   cases e4 with
   |true =>
    simp only[g1,hy,kX,xy,he3,he4,Tryd.results23,qk_old,Bool.or_true,ruW,xF,ruU,Nat.reduceLT,Nat.reduceAdd,Nat.reduceEqDiff]
    exact⟨trivial,mX2⟩
   |false =>
    simp only[g1,hy,kX,xy,he3,he4,Tryd.results23,qk_old,Bool.or_false,ruW,xF,ruU,Nat.reduceLT,Nat.reduceAdd,Nat.reduceEqDiff]
    exact⟨rfl,mX2⟩
theorem within_c (H:AHeap) (f:Fr) (r:Rc) (a b:Option Addr) (n m c d:Nat) (hh:f.height<=200) (hw:f.width<=1000):Pure 60 [.agg ⟨frL (.slice a n c) (.slice b m d) f⟩,.agg ⟨rcL r⟩] H (.bool (insR f.height f.width r)):=by
 obtain⟨x,hx⟩:=Go.Ax.exq H.next
 refine callS_fn mixed Tryd.func60 rfl Tryd.ntmps60 (zB1 rfl) fun wf hsc=>?_
 have hbase:H.base<=x:=hx▸wf.base
 rw[scbL_iff]at hsc
 have hs0:=hsc _ (zB9 ..)
 rw[hx]at hs0
 have hs1:scb x (.slice a n c)=true/\scb x (.slice b m d)=true:=by
  have h':(true&&(true&&(scb x (.slice a n c)&&(scb x (.slice b m d)&&(true&&(true&&true))))))=true:=hs0
  simp only[zA4]at h'
  exact⟨h'.2.2.1,h'.2.2.2.1⟩
 obtain⟨sa,sb⟩:=hs1
 unfold frL rcL
 obtain⟨d1,h1⟩:∃ q,decide (0<=r.top)=q:=⟨_,rfl⟩
 obtain⟨d2,h2⟩:∃ q,decide (0<=r.left)=q:=⟨_,rfl⟩
 obtain⟨d3,h3⟩:∃ q,decide (1<=r.height)=q:=⟨_,rfl⟩
 obtain⟨d4,h4⟩:∃ q,decide (1<=r.width)=q:=⟨_,rfl⟩
 obtain⟨d5,h5⟩:∃ q,decide (r.top<f.height)=q:=⟨_,rfl⟩
 obtain⟨d6,h6⟩:∃ q,decide (r.left<f.width)=q:=⟨_,rfl⟩
 obtain⟨d7,h7⟩:∃ q,decide (r.height<=f.height-1-r.top)=q:=⟨_,rfl⟩
 obtain⟨d8,h8⟩:∃ q,decide (r.width<=f.width-r.left)=q:=⟨_,rfl⟩
 have hins:insR f.height f.width r=(d1&&d2&&d3&&d4&&d5&&d6&&d7&&d8):=by unfold insR; rw[h1,h2,h3,h4,h5,h6,h7,h8]
 rw[hins]
 cases d1
 ·simp only[hx,sa,sb,h1,Tryd.results60,ruW,xF,ruU,entryE,Nat.reduceLT,Nat.reduceAdd,Nat.reduceEqDiff]
  exact Fin.pureE rfl rfl
 cases d2
 ·simp only[hx,sa,sb,h1,h2,Tryd.results60,ruW,xF,ruU,entryE,Nat.reduceLT,Nat.reduceAdd,Nat.reduceEqDiff]
  exact Fin.pureE rfl rfl
 cases d3
 ·simp only[hx,sa,sb,h1,h2,h3,Tryd.results60,ruW,xF,ruU,entryE,Nat.reduceLT,Nat.reduceAdd,Nat.reduceEqDiff]
  exact Fin.pureE rfl rfl
 cases d4
 ·simp only[hx,sa,sb,h1,h2,h3,h4,Tryd.results60,ruW,xF,ruU,entryE,Nat.reduceLT,Nat.reduceAdd,Nat.reduceEqDiff]
  exact Fin.pureE rfl rfl
 cases d5
 ·simp only[hx,sa,sb,h1,h2,h3,h4,h5,Tryd.results60,ruW,xF,ruU,entryE,Nat.reduceLT,Nat.reduceAdd,Nat.reduceEqDiff]
  exact Fin.pureE rfl rfl
 cases d6
 ·simp only[hx,sa,sb,h1,h2,h3,h4,h5,h6,Tryd.results60,ruW,xF,ruU,entryE,Nat.reduceLT,Nat.reduceAdd,Nat.reduceEqDiff]
  exact Fin.pureE rfl rfl
 have w1:IntKind.i64.wrap (f.height-1)=f.height-1:=by have:=of_decide_eq_true h1; have:=of_decide_eq_true h5; exact wrap_sm (by omega) (by omega)
 have w2:IntKind.i64.wrap (f.height-1-r.top)=f.height-1-r.top:=by have:=of_decide_eq_true h1; have:=of_decide_eq_true h5; exact wrap_sm (by omega) (by omega)
 have w3:IntKind.i64.wrap (f.width-r.left)=f.width-r.left:=by have:=of_decide_eq_true h2; have:=of_decide_eq_true h6; exact wrap_sm (by omega) (by omega)
 cases d7
 ·simp only[hx,sa,sb,h1,h2,h3,h4,h5,h6,h7,w1,w2,Tryd.results60,ruW,xF,ruU,entryE,Nat.reduceLT,Nat.reduceAdd,Nat.reduceEqDiff]
  exact Fin.pureE rfl rfl
 cases d8
 ·simp only[hx,sa,sb,h1,h2,h3,h4,h5,h6,h7,h8,w1,w2,w3,Tryd.results60,ruW,xF,ruU,entryE,Nat.reduceLT,Nat.reduceAdd,Nat.reduceEqDiff]
  exact Fin.pureE rfl rfl
 ·simp only[hx,sa,sb,h1,h2,h3,h4,h5,h6,h7,h8,w1,w2,w3,Tryd.results60,ruW,xF,ruU,entryE,Nat.reduceLT,Nat.reduceAdd,Nat.reduceEqDiff]
  exact Fin.pureE rfl rfl
theorem meet_c (H:AHeap) (p r:Rc) (hp:rcOk p) (hr:rcOk r):Pure 61 [.agg ⟨rcL p⟩,.agg ⟨rcL r⟩] H (.bool (meetR p r)):=by
 obtain⟨x,hx⟩:=Go.Ax.exq H.next
 refine callS_fn mixed Tryd.func61 rfl Tryd.ntmps61 (zB1 rfl) fun wf hsc=>?_
 unfold rcOk at hp hr
 unfold rcL
 have w1:IntKind.i64.wrap (r.top+r.height)=r.top+r.height:=wrap_sm (by omega) (by omega)
 have w2:IntKind.i64.wrap (p.top+p.height)=p.top+p.height:=wrap_sm (by omega) (by omega)
 have w3:IntKind.i64.wrap (r.left+r.width)=r.left+r.width:=wrap_sm (by omega) (by omega)
 have w4:IntKind.i64.wrap (p.left+p.width)=p.left+p.width:=wrap_sm (by omega) (by omega)
 obtain⟨d1,h1⟩:∃ q,decide (p.top<r.top+r.height)=q:=⟨_,rfl⟩
 obtain⟨d2,h2⟩:∃ q,decide (r.top<p.top+p.height)=q:=⟨_,rfl⟩
 obtain⟨d3,h3⟩:∃ q,decide (p.left<r.left+r.width)=q:=⟨_,rfl⟩
 obtain⟨d4,h4⟩:∃ q,decide (r.left<p.left+p.width)=q:=⟨_,rfl⟩
 have hm:meetR p r=(d1&&d2&&d3&&d4):=by unfold meetR; rw[h1,h2,h3,h4]
 rw[hm]
 cases d1
 ·simp only[hx,w1,h1,Tryd.results61,ruW,xF,ruU,entryE,Nat.reduceLT,Nat.reduceAdd,Nat.reduceEqDiff]
  exact Fin.pureE rfl rfl
 cases d2
 ·simp only[hx,w1,w2,h1,h2,Tryd.results61,ruW,xF,ruU,entryE,Nat.reduceLT,Nat.reduceAdd,Nat.reduceEqDiff]
  exact Fin.pureE rfl rfl
 cases d3
 ·simp only[hx,w1,w2,w3,h1,h2,h3,Tryd.results61,ruW,xF,ruU,entryE,Nat.reduceLT,Nat.reduceAdd,Nat.reduceEqDiff]
  exact Fin.pureE rfl rfl
 simp only[hx,w1,w2,w3,w4,h1,h2,h3,h4,Tryd.results61,ruW,xF,ruU,entryE,Nat.reduceLT,Nat.reduceAdd,Nat.reduceEqDiff]
 exact Fin.pureE rfl rfl
theorem refV_c (H:AHeap) (s:ByteArray) (hlen:s.size<=100000) (hok:H.base<=H.next):Pure 62 [.string s] H (.bool (ptsR s.data.toList).isSome):=by
 refine CallA.pure ?_ rfl
 refine callE_fn mixed Tryd.func62 rfl Tryd.ntmps62 (zB1 rfl) ?_
 simp only[ruW,xF,ruU,entryE,Nat.reduceLT,Nat.reduceEqDiff]
 have hl:=refList_c H s (by rw[<-size_len]; exact hlen) hok
 refine CallA.mono (show CallA Tryd.prog 39 _ (ext H []) _ from hl) ?_
 rintro out X ⟨mX,ho⟩
 have c0:decide ((0:Int)=0)=true:=by decide
 have c5:decide ((5:Int)=0)=false:=by decide
 unfold LsOut at ho
 cases hp:ptsR s.data.toList with
 |none =>
  rw[hp]at ho
  simp only at ho
  rw[ho]
  simp only[c5,Tryd.results62,ruW,ruU,Nat.reduceLT,Nat.reduceEqDiff]
  exact⟨rfl,mX⟩
 |some l =>
  rw[hp]at ho
  obtain⟨v,ho,hv,_⟩:=ho
  rw[ho]
  simp only[Tryd.results62,ruW,ruU,Nat.reduceLT,Nat.reduceEqDiff]
  exact⟨rfl,mX⟩
def wideR (c:Int):Bool:=isR c&&decide (32<=c)&&decide (¬c=127)&&decide (widthR c=2)
theorem wide_c (H:AHeap) (c:Int):Pure 63 [.int .i64 c] H (.bool (wideR c)):=by
 have hi:=refIs_c H c
 have hw:=refWidth_c H c
 obtain⟨d1,h1⟩:∃ d,isR c=d:=⟨_,rfl⟩
 obtain⟨d2,h2⟩:∃ d,decide (32<=c)=d:=⟨_,rfl⟩
 obtain⟨d3,h3⟩:∃ d,decide (¬c=127)=d:=⟨_,rfl⟩
 obtain⟨m,hm⟩:=Go.Ax.exq (widthR c)
 obtain⟨d4,h4⟩:∃ d,decide ((m:Int)=2)=d:=⟨_,rfl⟩
 have hr:wideR c=(d1&&d2&&d3&&d4):=by
  unfold wideR
  rw[h1,h2,h3,hm]
  congr 1
  rw[<-h4]
  exact decide_eq_decide.2 ⟨fun h=>by omega,fun h=>by omega⟩
 rw[hr]
 rw[h1]at hi
 rw[hm]at hw
 refine callS_fn mixed Tryd.func63 rfl Tryd.ntmps63 (zB1 rfl) fun wf hsc=>?_
 simp only[ruW,xF,ruU,entryE,Nat.reduceLT,Nat.reduceEqDiff]
 refine CallS.to (show Pure 64 _ (ext H []) _ from hi) ?_
 cases d1 with
 |false =>
  simp only[Tryd.results63,ruW,ruU,Nat.reduceLT,Nat.reduceEqDiff]
  exact Fin.pureE rfl rfl
 |true =>
 cases d2 with
 |false =>
  simp only[h2,Tryd.results63,ruW,ruU,Nat.reduceLT,Nat.reduceEqDiff]
  exact Fin.pureE rfl rfl
 |true =>
 cases d3 with
 |false =>
  simp only[h2,h3,Tryd.results63,ruW,ruU,Nat.reduceLT,Nat.reduceEqDiff]
  exact Fin.pureE rfl rfl
 |true =>
 simp only[h2,h3,ruW,xF,ruU,Nat.reduceLT,Nat.reduceEqDiff]
 refine CallS.to (show Pure 65 _ (ext H []) _ from hw) ?_
 simp only[h4,Tryd.results63,ruW,ruU,Nat.reduceLT,Nat.reduceEqDiff]
 exact Fin.pureE rfl rfl
def Ce.look (c:Ce):Lk:=⟨c.fore,c.back,c.bold,c.under,c.inv⟩
def cellsR (c:Int):Nat:=if (decide (c<32)||decide (c=127)||!isR c)=true then 0 else widthR c
def wholeB:List Ce->Bool
 |[]=>true
 |c::l=>if (decide (cellsR c.rune=0)||!colr c.look)=true then false else
   if cellsR c.rune=2 then (match l with|[]=>false|d::l'=>decide (d=c.look.ce (-1))&&wholeB l') else wholeB l
theorem wholeB_cons (c : Ce) (l : List Ce) : wholeB (c :: l) = if (decide (cellsR c.rune = 0) || !colr c.look) = true then false else
   if cellsR c.rune=2 then (match l with|[]=>false|d::l'=>decide (d=c.look.ce (-1))&&wholeB l') else wholeB l:=by
 cases l<;>first|rfl|rw[wholeB]
theorem broken_c (H:AHeap) (v:Value) (l:List Ce) (h:RowAt H v l) (hl:l.length<1000000):Pure 30 [v] H (.bool (!wholeB l)):=by
 obtain⟨b,hb⟩:=Go.Ax.exq H.next
 obtain⟨B,hB⟩:=Go.Ax.exq (wholeB l)
 rw[hB]
 refine callS_fn mixed Tryd.func30 rfl Tryd.ntmps30 (zB1 rfl) fun wf hsc=>?_
 have hok:=wf.base
 have z68:zeroOf Tryd.prog 68=some (.agg #[.int .i64 0,.int .i64 0,.int .i64 0,.bool false,.bool false,.bool false]):=by kernel_rfl
 obtain⟨a1,c1,e1⟩:=h.sl
 rw[e1]
 simp only[ruW,ruU,entryE,Nat.reduceLT]
 rw[<-e1]
 refine w_env fun E hE=>?_
 have g0:E 0=v:=by rw[hE]; rfl
 have g3:E 3=.int .i64 ((0:Nat):Int):=by rw[hE]; rfl
 clear hE
 refine blockC_meet (fun E' H'=>Mod [] H H'/\B=true) ?_ ?_
 ·refine w_loop (fun (k:Nat) E' H'=>Mod [] H H'/\E' 0=v/\E' 3=.int .i64 (k:Int)/\k<=l.length/\wholeB (l.drop k)=B) (fun k=>l.length-k) 0
   ⟨Mod.refl,g0,g3,zA7 _,hB⟩ ?_
  clear g0 g3 E
  rintro k E X ⟨mX,g0,g3,hk,hi⟩
  obtain⟨y,hy⟩:=Go.Ax.exq X.next
  have okX:=mX.ok hok
  have yb:X.base<=y:=hy▸okX
  rw[show X=ext X [] from rfl]
  by_cases hkl:k=l.length
  ·have hc:decide ((k:Int)<(l.length:Int))=false:=by simp[hkl]
   rw[e1]at g0
   simp only[g0,g3,hc,ruW,xF,ruU,Nat.reduceLT,Nat.reduceEqDiff]
   rw[zF5 (by omega),wholeB]at hi
   exact joinR_normal ⟨mX,hi.symm⟩
  ·have hlt:k<l.length:=by omega
   have hc:decide ((k:Int)<(l.length:Int))=true:=decide_eq_true (by omega)
   rcases h with⟨h,_⟩|⟨_,n1,o1,s1,x1,t1,p1,L1,rfl,b1,n1l,le1,tk1⟩
   ·rw[h]at hlt; simp at hlt
   obtain⟨r1,hr1⟩:∃ r,l[k]?=some r:=⟨_,zA5 hlt⟩
   have i1:=row_ia (n:=n1) (off:=o1) (s:=s1) (cap:=x1) (i:=(k:Int)) rfl hlt
   have q1:=row_load (e:=t1) (o:=p1) hr1 le1 tk1
   have b1X:rk X n1=some ⟨t1,p1,L1⟩:=(rk_get (mX.get n1 n1l (by simp))).trans b1
   have n1X:n1<y:=by have:=mX.next; omega
   obtain⟨Z,hZ⟩:=Go.Ax.exq (ext X [⟨68,false,r1.cells⟩])
   have mZ:Mod [] X Z:=hZ▸Mod.ext okX
   have nZ:Z.next=y+1:=by rw[<-hZ,ext_next,hy]; rfl
   have kZ:bk Z (y+0)=some ⟨68,false,r1.cells⟩:=by rw[<-hZ,bk_at hy (by simp)]; rfl
   have zb:Z.base<=y+1:=nZ▸mZ.ok okX
   have yz:y+0<y+1:=by omega
   have b1Z:rk Z n1=some ⟨t1,p1,L1⟩:=(rk_get (mZ.get n1 (by omega) (by simp))).trans b1X
   have n1Z:n1<y+1:=by omega
   have mZH:=mX.trans mZ
   have hdr:l.drop k=r1::l.drop (k+1):=by
    rw[List.drop_eq_getElem_cons hlt]
    rw[zA5 hlt]at hr1
    rw[Option.some.inj hr1]
   rw[hdr,wholeB_cons]at hi
   obtain⟨m,hm⟩:=Go.Ax.exq (cellsR r1.rune)
   obtain⟨cl,hcl⟩:∃ x,colr r1.look=x:=⟨_,rfl⟩
   obtain⟨ir,hir⟩:∃ x,isR r1.rune=x:=⟨_,rfl⟩
   obtain⟨d1,h1⟩:∃ x,decide (r1.rune<32)=x:=⟨_,rfl⟩
   obtain⟨d2,h2⟩:∃ x,decide (r1.rune=127)=x:=⟨_,rfl⟩
   obtain⟨w,hw⟩:∃ x,widthR r1.rune=x:=⟨_,rfl⟩
   have hm2:m=if (d1||d2||!ir)=true then 0 else w:=by rw[<-hm,<-h1,<-h2,<-hir,<-hw]; rfl
   have his:=is_c Z r1.rune
   have hwi:=width_c Z r1.rune
   have hco:=coloured_c Z r1.look
   rw[hm,hcl]at hi
   rw[hir]at his
   rw[hw]at hwi
   rw[hcl]at hco
   unfold Ce.look Lk.val at hco
   unfold Ce.cells at hZ kZ
   unfold Ce.val at q1
   have bad:m=0\/cl=false->B=false:=fun hb=>by
    rw[if_pos]at hi
    ·exact hi.symm
    ·rcases hb with rfl|rfl<;>simp
   simp only[g0,g3,hy,yb,hc,i1,b1X,n1X,q1,z68,qk_old,ruW,putL,Nat.reduceLeDiff,xF,ruU,Nat.reduceLT,Nat.reduceAdd,Nat.reduceEqDiff]
   rw[hZ]
   refine hco.to ?_
   rw[show Z=ext Z [] from rfl]
   cases cl with
   |false =>
    rw[bad (.inr rfl)]
    simp only[zD8,joinR_ret,Tryd.results30,ruW,ruU,Nat.reduceLT,Nat.reduceEqDiff]
    exact Ax.Fin.mod rfl mZH rfl
   |true =>
   simp only[nZ,kZ,yz,zC2,qk_old,ruW,xF,ruU,Nat.reduceLT,Nat.reduceEqDiff]
   refine CallS.to (show Pure 57 _ (ext Z []) _ from his) ?_
   cases ir with
   |false =>
    rw[bad (.inl (by rw[hm2]; simp))]
    simp only[zD8,joinR_ret,Tryd.results30,ruW,ruU,Nat.reduceLT,Nat.reduceEqDiff]
    exact Ax.Fin.mod rfl mZH rfl
   |true =>
   cases d1 with
   |true =>
    rw[bad (.inl (by rw[hm2]; simp))]
    simp only[nZ,kZ,yz,h1,zD8,zC2,joinR_ret,Tryd.results30,qk_old,ruW,xF,ruU,Nat.reduceLT,Nat.reduceEqDiff]
    exact Ax.Fin.mod rfl mZH rfl
   |false =>
   cases d2 with
   |true =>
    rw[bad (.inl (by rw[hm2]; simp))]
    simp only[nZ,kZ,yz,h1,h2,zD8,zC2,joinR_ret,Tryd.results30,qk_old,ruW,xF,ruU,Nat.reduceLT,Nat.reduceEqDiff]
    exact Ax.Fin.mod rfl mZH rfl
   |false =>
   obtain rfl:m=w:=by rw[hm2]; simp
   have c00:decide (((0:Nat):Int)=0)=true:=by decide
   have c10:decide (((1:Nat):Int)=0)=false:=by decide
   have c12:decide (((1:Nat):Int)=2)=false:=by decide
   have c20:decide (((2:Nat):Int)=0)=false:=by decide
   have c22:decide (((2:Nat):Int)=2)=true:=by decide
   simp only[nZ,kZ,yz,h1,h2,zC2,qk_old,ruW,xF,ruU,Nat.reduceLT,Nat.reduceEqDiff]
   refine CallS.to (show Pure 58 _ (ext Z []) _ from hwi) ?_
   have hws:=wrap_succ (show k<1000000 by omega)
   rcases (hw▸widthR_cases r1.rune:m=0\/m=1\/m=2) with rfl|rfl|rfl
   ·rw[bad (.inl rfl)]
    simp only[c00,zD8,joinR_ret,Tryd.results30,ruW,ruU,Nat.reduceLT,Nat.reduceEqDiff]
    exact Ax.Fin.mod rfl mZH rfl
   ·simp only[nZ,kZ,yz,c10,qk_old,ruW,xF,ruU,Nat.reduceLT,Nat.reduceEqDiff]
    refine CallS.to (show Pure 58 _ (ext Z []) _ from hwi) ?_
    simp only[g3,c12,hws,ruW,ruU,Nat.reduceLT,Nat.reduceEqDiff]
    refine loopC_next ⟨k+1,by omega,mZH,?_,?_,by omega,by simpa using hi⟩
    ·exact g0
    ·rfl
   ·simp only[nZ,kZ,yz,c20,qk_old,ruW,xF,ruU,Nat.reduceLT,Nat.reduceEqDiff]
    refine CallS.to (show Pure 58 _ (ext Z []) _ from hwi) ?_
    simp only[g3,c22,hws,ruW,ruU,Nat.reduceLT,Nat.reduceEqDiff]
    by_cases hlt1:k+1<l.length
    ·have hc1:decide (((k+1:Nat):Int)=(l.length:Int))=false:=decide_eq_false (by omega)
     obtain⟨r2,hr2⟩:∃ r,l[k+1]?=some r:=⟨_,zA5 hlt1⟩
     have hdr2:l.drop (k+1)=r2::l.drop (k+1+1):=by
      rw[List.drop_eq_getElem_cons hlt1]
      rw[zA5 hlt1]at hr2
      rw[Option.some.inj hr2]
     rw[hdr2]at hi
     have hi':(decide (r2=r1.look.ce (-1))&&wholeB (l.drop (k+1+1)))=B:=by simpa using hi
     have i2:=row_ia (n:=n1) (off:=o1) (s:=s1) (cap:=x1) (i:=((k+1:Nat):Int)) rfl hlt1
     have q3:=row_load (e:=t1) (o:=p1) hr2 le1 tk1
     refine w_drawB [] [(4,51)] (by kernel_rfl) (by kernel_rfl) (by kernel_rfl) fun ops anc hA hG=>?_
     simp only[all2_cons]at hG
     unfold Ce.val at q3
     simp only[g0,nZ,kZ,yz,hc1,i2,b1Z,n1Z,q3,qk_old,hG,ruD,ruW,Nat.reduceLeDiff,xF,ruU,Nat.reduceLT,Nat.reduceAdd,Nat.reduceEqDiff]
     obtain⟨dq,hdq⟩:∃ x,decide (r2=r1.look.ce (-1))=x:=⟨_,rfl⟩
     rw[hdq]at hi'
     refine wd_eqS (ts:=[3,3,3,4,4,4]) (xs:=r2.cells) (ys:=(r1.look.ce (-1)).cells) (r:=!dq) fl55 ag55 gd55 (by rw[ce_eqL,hdq]; rfl) rfl rfl (by decide) (by simp only[ruU,Nat.reduceEqDiff]; rfl) (by simp only[ruU]; rfl) (ce_fits _) (ce_fits _) ?_
     cases dq with
     |true =>
      simp only[zC2,wrap_succ (show k+1<1000000 by omega),ruD,ruW,ruU,Nat.reduceLT,Nat.reduceAdd,Nat.reduceEqDiff]
      refine loopC_next ⟨k+1+1,by omega,mZH,?_,?_,by omega,by simpa using hi'⟩
      ·exact g0
      ·rfl
     |false =>
      obtain rfl:false=B:=by simpa using hi'
      simp only[zD8,joinR_ret,Tryd.results30,ruD,ruW,ruU,Nat.reduceLT,Nat.reduceAdd,Nat.reduceEqDiff]
      exact Ax.Fin.mod rfl mZH rfl
    ·have hc1:decide (((k+1:Nat):Int)=(l.length:Int))=true:=decide_eq_true (by omega)
     rw[zF5 (by omega)]at hi
     obtain rfl:false=B:=by simpa using hi
     refine w_drawB [] [(4,51)] (by kernel_rfl) (by kernel_rfl) (by kernel_rfl) fun ops anc hA hG=>?_
     simp only[all2_cons]at hG
     simp only[g0,hc1,hG,zD8,joinR_ret,Tryd.results30,ruD,ruW,xF,ruU,Nat.reduceLT,Nat.reduceAdd,Nat.reduceEqDiff]
     exact Ax.Fin.mod rfl mZH rfl
 ·rintro E H' ⟨hH,rfl⟩
  rw[show H'=ext H' [] from rfl]
  simp only[Tryd.results30,ruW,ruU,Nat.reduceLT]
  exact Ax.Fin.mod rfl hH rfl
instance:DecidableEq Lk:=fun a b=>decidable_of_iff (a.fore=b.fore/\a.back=b.back/\a.bold=b.bold/\a.under=b.under/\a.inv=b.inv) ⟨fun h=>by
 cases a; cases b
 simp only at h
 obtain⟨rfl,rfl,rfl,rfl,rfl⟩:=h
 rfl,fun h=>by subst h; simp⟩
def valV:Bool->Lk->List Ce->Bool
 |_,_,[]=>true
 |t,k,c::l=>if (!colr c.look||(t != decide (c.rune=-1))||(t&&decide (¬c.look=k)))=true then false
  else if (decide (¬c.rune=-1)&&(decide (cellsR c.rune=0)||(wideR c.rune&&decide (l=[]))))=true then false else valV (wideR c.rune) c.look l
theorem wideR_cells (c:Int):wideR c=decide (cellsR c=2):=by
 unfold wideR cellsR
 by_cases h1:c<32
 ·have:¬32<=c:=by omega
  simp[h1,this]
 ·have h1':32<=c:=by omega
  by_cases h2:c=127
  ·simp[h2]
  ·cases h3:isR c<;>simp[h1,h1',h2]
theorem wide_neg:wideR (-1)=false:=by decide
theorem valV_whole:∀ (n:Nat) (l:List Ce),l.length<=n->∀ k,valV false k l=wholeB l
 |n,[],_,_=>by simp[valV,wholeB]
 |0,c::l,h,_=>by simp at h
 |n+1,c::l,h,k=>by
  rw[valV,wholeB_cons]
  have hl:l.length<=n:=by simpa using h
  cases hc:colr c.look with
  |false=>simp[]
  |true =>
   by_cases hr:c.rune=-1
   ·have:cellsR c.rune=0:=by rw[hr]; decide
    simp[hr]
    intro h0
    rw[hr]at this
    exact absurd this h0
   ·by_cases h0:cellsR c.rune=0
    ·simp[hr,h0]
    ·rw[wideR_cells]
     by_cases h2:cellsR c.rune=2
     ·cases l with
      |nil=>simp[hr,h2]
      |cons d l' =>
       have hl':l'.length<=n:=by simp at hl; omega
       simp only[hr,h2,decide_true,decide_false,zC2,Bool.or_false,zE0,Bool.and_false,if_false,if_true,zC1,not_false_eq_true,reduceCtorEq,bne_self_eq_false]
       rw[valV]
       by_cases hd:d=c.look.ce (-1)
       ·subst hd
        have e1:(c.look.ce (-1)).look=c.look:=rfl
        have e2:(c.look.ce (-1)).rune=-1:=rfl
        rw[e1,e2,hc,wide_neg]
        simp only[decide_true,zC2,bne_self_eq_false,not_true_eq_false,decide_false,zE0,Bool.and_false,Bool.or_false,zC1,if_false,Bool.true_and]
        exact valV_whole n l' hl' _
       ·have:decide (d=c.look.ce (-1))=false:=decide_eq_false hd
        rw[this,zE0]
        rw[if_pos]
        by_cases e2:d.rune=-1
        ·have:¬d.look=c.look:=by
          intro e1
          apply hd
          cases d
          simp only[Ce.look,Lk.mk.injEq]at e1 e2
          obtain⟨h1,h2,h3,h4,h5⟩:=e1
          subst e2 h1 h2 h3 h4 h5
          rfl
         simp[this]
        ·simp[e2]
     ·simp only[hr,h2,h0,decide_false,zC2,Bool.or_false,zE0,Bool.and_false,if_false,zC1,not_false_eq_true,decide_true,bne_self_eq_false]
      exact valV_whole n l hl _
theorem run_loadF {l:List Ce} {k:Nat} {c:Ce} {e:TypeId} {o:Bool} {L:List Value} {off:Nat} (hk:l[k]?=some c) (hle:off+l.length*6<=L.length) (h:(L.drop off).take (l.length*6)=csOf l):ldB Tryd.prog 3 (off+k*6) (some ⟨e,o,L⟩)=some (.int .i64 c.rune):=by
 have h1:=take_get l k c L off hk h
 have ag3:aggT Tryd.prog 3=some false:=by kernel_rfl
 have h2:=congrArg (fun q=>q[0]?) h1
 simp only[zF4,List.getElem?_drop,zD5]at h2
 simp only[ldB,ag3]
 rw[if_pos (by decide)]at h2
 exact h2
theorem look_loadF {l:List Ce} {k:Nat} {c:Ce} {e:TypeId} {o:Bool} {L:List Value} {off:Nat} (hk:l[k]?=some c) (hle:off+l.length*6<=L.length) (h:(L.drop off).take (l.length*6)=csOf l):ldB Tryd.prog 38 (off+(k*6+1)) (some ⟨e,o,L⟩)=some c.look.val:=by
 have h1:=take_get l k c L off hk h
 have hlt:=(zE1.1 hk).1
 have ag38:aggT Tryd.prog 38=some true:=by kernel_rfl
 have s38:szOf Tryd.prog 38=some 5:=by kernel_rfl
 rw[ld_agg ag38,s38,zA3,if_pos (by omega)]
 have h2:=congrArg (fun q=>(q.drop 1).take 5) h1
 simp only[List.drop_take,zE9,List.take_take]at h2
 rw[show off+(k*6+1)=off+k*6+1 by omega]
 have h3:(L.drop (off+k*6+1)).take 5=(c.cells.drop 1).take 5:=by
  rw[<-h2]
  rfl
 rw[h3]
 rfl
theorem fl38:flat Tryd.prog 10000 38=some [3,3,4,4,4]:=by kernel_rfl
theorem ag38f:aggT Tryd.prog 38=some true:=by kernel_rfl
theorem gd38:Tryd.prog.eqGuardType Tryd.prog.depth 38=false:=by kernel_rfl
theorem lk_eqL (r s:Lk):eqL (lkc r) (lkc s)=decide (r=s):=by
 cases r; cases s
 simp only[lkc,eqL,eq1,Lk.mk.injEq,zE6]
 simp only[Bool.decide_and]
 congr 1
theorem lk_fits (r:Lk):fits Tryd.prog [3,3,4,4,4] (lkc r)=true:=by
 cases r
 rfl
def prevT (l:List Ce):Nat->Bool × Lk
 |0=>(false,⟨0,0,false,false,false⟩)
 |i+1=>match l[i]? with
  |some c=>(wideR c.rune,c.look)
  |none=>(false,⟨0,0,false,false,false⟩)
theorem rowV_c (H:AHeap) (v:Value) (l:List Ce) (h:RowAt H v l) (hl:l.length<1000000):Pure 35 [v] H (.bool (wholeB l)):=by
 obtain⟨b,hb⟩:=Go.Ax.exq H.next
 obtain⟨B,hB⟩:=Go.Ax.exq (valV (prevT l 0).1 (prevT l 0).2 (l.drop 0))
 have hwB:wholeB l=B:=by rw[<-hB]; exact (valV_whole l.length l (zA6 _) _).symm
 rw[hwB]
 clear hwB
 refine callS_fn mixed Tryd.func35 rfl Tryd.ntmps35 (zB1 rfl) fun wf hsc=>?_
 have u4:Tryd.prog.underlying 4=some .bool:=by kernel_rfl
 obtain⟨a1,c1,e1⟩:=h.sl
 rw[e1]
 simp only[ruW,ruU,entryE,Nat.reduceLT]
 rw[<-e1]
 refine w_env fun E hE=>?_
 have g0:E 0=v:=by rw[hE]; rfl
 have g3:E 3=.int .i64 ((0:Nat):Int):=by rw[hE]; rfl
 clear hE
 refine blockC_meet (fun E' H'=>H'=ext H []/\B=true) ?_ ?_
 ·refine w_loop (fun (k:Nat) E' H'=>H'=ext H []/\E' 0=v/\E' 3=.int .i64 (k:Int)/\k<=l.length/\valV (prevT l k).1 (prevT l k).2 (l.drop k)=B) (fun k=>l.length-k) 0
   ⟨rfl,g0,g3,zA7 _,hB⟩ ?_
  clear g0 g3 E
  rintro k E X ⟨hX,g0,g3,hk,hi⟩
  rw[hX]
  by_cases hkl:k=l.length
  ·have hc:decide ((k:Int)<(l.length:Int))=false:=by simp[hkl]
   rw[e1]at g0
   simp only[g0,g3,hc,ruW,xF,ruU,Nat.reduceLT,Nat.reduceEqDiff]
   rw[zF5 (by omega),valV]at hi
   exact joinR_normal ⟨rfl,hi.symm⟩
  ·have hlt:k<l.length:=by omega
   have hc:decide ((k:Int)<(l.length:Int))=true:=decide_eq_true (by omega)
   rcases h with⟨h,_⟩|⟨_,n1,o1,s1,x1,t1,p1,L1,rfl,b1,n1l,le1,tk1⟩
   ·rw[h]at hlt; simp at hlt
   obtain⟨r1,hr1⟩:∃ r,l[k]?=some r:=⟨_,zA5 hlt⟩
   have i1:=row_ia (n:=n1) (off:=o1) (s:=s1) (cap:=x1) (i:=(k:Int)) rfl hlt
   have q1:=run_loadF (e:=t1) (o:=p1) hr1 le1 tk1
   have q2:=look_loadF (e:=t1) (o:=p1) hr1 le1 tk1
   rw[hb]at n1l
   have hdr:l.drop k=r1::l.drop (k+1):=by
    rw[List.drop_eq_getElem_cons hlt]
    rw[zA5 hlt]at hr1
    rw[Option.some.inj hr1]
   rw[hdr,valV]at hi
   have hpn:prevT l (k+1)=(wideR r1.rune,r1.look):=by simp only[prevT,hr1]
   have hws:=wrap_succ (show k<1000000 by omega)
   obtain⟨⟨tt,pk⟩,hpt⟩:∃ q,prevT l k=q:=⟨_,rfl⟩
   rw[hpt]at hi
   simp only at hi
   obtain⟨d0,h0⟩:∃ d,decide ((0:Int)<(k:Int))=d:=⟨_,rfl⟩
   generalize hr5:Code.region 5 _ _=r5
   simp only[g0,g3,hb,hc,i1,b1,n1l,q1,qk_old,ruW,xF,ruU,Nat.reduceLT,Nat.reduceEqDiff]
   refine w_env fun E2 hE=>?_
   have g0':E2 0=.slice (some ⟨n1,o1,s1⟩) l.length x1:=by rw[hE]; simp only[g0,ruU,Nat.reduceEqDiff]
   have g3':E2 3=.int .i64 (k:Int):=by rw[hE]; simp only[g3,ruU,Nat.reduceEqDiff]
   have g4':E2 4=.int .i64 r1.rune:=by rw[hE]; simp only[ruU]
   clear hE
   refine w_meet (fun E' H'=>H'=ext H []/\E' 0=.slice (some ⟨n1,o1,s1⟩) l.length x1/\E' 3=.int .i64 (k:Int)/\E' 4=.int .i64 r1.rune/\E' 5=.bool tt) ?_ ?_
   ·subst hr5
    cases k with
    |zero =>
     obtain⟨rfl,rfl⟩:tt=false/\pk=⟨0,0,false,false,false⟩:=by simp only[prevT,Prod.mk.injEq]at hpt; exact⟨hpt.1.symm,hpt.2.symm⟩
     obtain rfl:false=d0:=by rw[<-h0]; decide
     simp only[g3',h0,ruW,ruU,Nat.reduceLT,Nat.reduceEqDiff]
     exact joinR_normal ⟨rfl,by simp only[g0',ruU,Nat.reduceEqDiff],by simp only[g3',ruU,Nat.reduceEqDiff],by simp only[g4',ruU,Nat.reduceEqDiff],by simp only[ruU]⟩
    |succ k' =>
     obtain rfl:true=d0:=by rw[<-h0]; exact (decide_eq_true (by omega)).symm
     obtain⟨r0,hr0⟩:∃ r,l[k']?=some r:=⟨_,zA5 (by omega)⟩
     simp only[prevT,hr0,Prod.mk.injEq]at hpt
     obtain⟨ht0,hp0⟩:=hpt
     have i0:=row_ia (n:=n1) (off:=o1) (s:=s1) (cap:=x1) (len:=l.length) (i:=(k':Int)) rfl (by omega)
     have q0:=run_loadF (e:=t1) (o:=p1) hr0 le1 tk1
     have wk:IntKind.i64.wrap (((k'+1:Nat):Int)-1)=(k':Int):=(wrap_sm (n:=((k'+1:Nat):Int)-1) (by omega) (by omega)).trans (by omega)
     obtain⟨em,hem⟩:∃ d,decide (¬r0.rune=-1)=d:=⟨_,rfl⟩
     have hwi:=wide_c H r0.rune
     rw[ht0]at hwi
     cases em with
     |false =>
      have:r0.rune=-1:=Decidable.byContradiction fun h=>of_decide_eq_false hem h
      obtain rfl:false=tt:=by rw[<-ht0,this]; decide
      simp only[g0',g3',h0,hb,wk,i0,b1,n1l,q0,hem,qk_old,ruW,xF,ruU,Nat.reduceLT,Nat.reduceEqDiff]
      exact joinR_normal ⟨rfl,by simp only[g0',ruU,Nat.reduceEqDiff],by simp only[g3',ruU,Nat.reduceEqDiff],by simp only[g4',ruU,Nat.reduceEqDiff],by simp only[ruU]⟩
     |true =>
      simp only[g0',g3',h0,hb,wk,i0,b1,n1l,q0,hem,qk_old,ruW,xF,ruU,Nat.reduceLT,Nat.reduceEqDiff]
      refine CallS.to (show Pure 63 _ (ext H []) _ from hwi) ?_
      simp only[ruW,ruU,Nat.reduceLT,Nat.reduceEqDiff]
      exact joinR_normal ⟨rfl,by simp only[g0',ruU,Nat.reduceEqDiff],by simp only[g3',ruU,Nat.reduceEqDiff],by simp only[g4',ruU,Nat.reduceEqDiff],by simp only[ruU]⟩
   clear g0' g3' g4' g0 g3 E2 E
   rintro E X ⟨hX,g0,g3,g4,g5⟩
   rw[hX]
   obtain⟨cl,hcl⟩:∃ x,colr r1.look=x:=⟨_,rfl⟩
   have hco:=fun K=>colours_c K r1.look
   rw[hcl]at hco hi
   obtain⟨em,hem⟩:∃ d,decide (r1.rune=-1)=d:=⟨_,rfl⟩
   rw[hem]at hi
   generalize hr8:Code.seq (Code.region 8 _ _) _=r8
   refine w_meet (fun E' H'=>H'=ext H []/\E' 0=.slice (some ⟨n1,o1,s1⟩) l.length x1/\E' 3=.int .i64 (k:Int)/\E' 4=.int .i64 r1.rune/\(!cl||(tt != em)||(tt&&decide (¬r1.look=pk)))=false) ?_ ?_
   ·obtain⟨d,hd⟩:=Go.Ax.exq (decide (¬tt=em))
    have hbe:(tt != em)=d:=by rw[<-hd]; cases tt<;>cases em<;>rfl
    rw[hbe]at hi ⊢
    have bad:(!cl||d||(tt&&decide (¬r1.look=pk)))=true->B=false:=fun hb=>by
     rw[if_pos hb]at hi
     exact hi.symm
    rw[w_seq]
    cases cl with
    |false =>
     rw[bad rfl]
     refine w_drawB [] [(7,44),(13,50),(15,52)] (by kernel_rfl) (by kernel_rfl) (by kernel_rfl) fun ops anc hA hG=>?_
     simp only[all2_cons]at hG
     simp only[g0,g3,hb,i1,b1,n1l,q2,qk_old,Lk.val,ruD,ruW,xF,ruU,Nat.reduceLT,Nat.reduceAdd,Nat.reduceEqDiff]
     refine genV_quiet (v:=.bool false) [] (by simp only[ruU,Nat.reduceLT]) (by kernel_rfl) (by decide) (fun m hm=>by simp at hm) (fun K _ _=>?_) (by simp (maxDischargeDepth:=6) only[ruD]) ?_
     ·simp only[ruU]
      exact hco K
     simp only[hG,zD8,joinR_ret,Tryd.results35,ruD,ruW,ruU,Nat.reduceLT,Nat.reduceAdd,Nat.reduceEqDiff]
     exact Fin.pureE rfl rfl
    |true =>
     refine w_drawB [] [(7,44),(13,50),(15,52)] (by kernel_rfl) (by kernel_rfl) (by kernel_rfl) fun ops anc hA hG=>?_
     simp only[all2_cons]at hG
     simp only[g0,g3,hb,i1,b1,n1l,q2,qk_old,Lk.val,ruD,ruW,xF,ruU,Nat.reduceLT,Nat.reduceAdd,Nat.reduceEqDiff]
     refine genV_quiet (v:=.bool true) [] (by simp only[ruU,Nat.reduceLT]) (by kernel_rfl) (by decide) (fun m hm=>by simp at hm) (fun K _ _=>?_) (by simp (maxDischargeDepth:=6) only[ruD]) ?_
     ·simp only[ruU]
      exact hco K
     cases d with
     |true =>
      rw[bad rfl]
      simp only[g4,g5,hG,u4,hem,hd,zC2,joinR_ret,Tryd.results35,ruD,ruW,ruU,Nat.reduceLT,Nat.reduceAdd,Nat.reduceEqDiff]
      exact Fin.pureE rfl rfl
     |false =>
     cases tt with
     |false =>
      simp only[g4,g5,hG,u4,hem,hd,zC2,ruD,ruW,ruU,Nat.reduceLT,Nat.reduceAdd,Nat.reduceEqDiff]
      exact joinR_normal ⟨rfl,by simp only[g0,ruU,Nat.reduceEqDiff],by simp only[g3,ruU,Nat.reduceEqDiff],by simp only[g4,ruU,Nat.reduceEqDiff],rfl⟩
     |true =>
     cases k with
     |zero=>simp[prevT]at hpt
     |succ k' =>
      obtain⟨r0,hr0⟩:∃ r,l[k']?=some r:=⟨_,zA5 (by omega)⟩
      simp only[prevT,hr0,Prod.mk.injEq]at hpt
      obtain⟨ht0,hp0⟩:=hpt
      have i0:=row_ia (n:=n1) (off:=o1) (s:=s1) (cap:=x1) (len:=l.length) (i:=(k':Int)) rfl (by omega)
      have q0:=look_loadF (e:=t1) (o:=p1) hr0 le1 tk1
      rw[hp0]at q0
      have wk:IntKind.i64.wrap (((k'+1:Nat):Int)-1)=(k':Int):=(wrap_sm (n:=((k'+1:Nat):Int)-1) (by omega) (by omega)).trans (by omega)
      simp only[g0,g3,g4,g5,hG,u4,hem,hd,hb,wk,i0,i1,b1,n1l,q0,q2,zC2,qk_old,Lk.val,ruD,ruW,xF,ruU,Nat.reduceLT,Nat.reduceAdd,Nat.reduceEqDiff]
      obtain⟨dq,hdq⟩:∃ q,decide (r1.look=pk)=q:=⟨_,rfl⟩
      have hdn:decide (¬r1.look=pk)=!dq:=by rw[<-hdq]; simp
      rw[hdn]at bad ⊢
      refine wd_eqS (ts:=[3,3,4,4,4]) (xs:=lkc r1.look) (ys:=lkc pk) (r:=!dq) fl38 ag38f gd38 (by rw[lk_eqL,hdq]; rfl) rfl rfl (by decide) (by simp only[ruU,Nat.reduceEqDiff]; rfl) (by simp only[ruU]; rfl) (lk_fits _) (lk_fits _) ?_
      cases dq with
      |true =>
       simp only[hG,zC2,ruD,ruW,ruU,Nat.reduceLT,Nat.reduceAdd,Nat.reduceEqDiff]
       exact joinR_normal ⟨rfl,by simp only[g0,ruU,Nat.reduceEqDiff],by simp only[g3,ruU,Nat.reduceEqDiff],by simp only[g4,ruU,Nat.reduceEqDiff],rfl⟩
      |false =>
       rw[bad rfl]
       simp only[hG,zD8,joinR_ret,Tryd.results35,ruD,ruW,ruU,Nat.reduceLT,Nat.reduceAdd,Nat.reduceEqDiff]
       exact Fin.pureE rfl rfl
   ·clear g0 g3 g4 g5 E
    rintro E X ⟨hX,g0,g3,g4,hgood⟩
    rw[hX]
    rw[hgood,if_neg (by decide)]at hi
    subst hr8
    obtain⟨nm,hnm⟩:∃ q,decide (¬r1.rune=-1)=q:=⟨_,rfl⟩
    obtain⟨is,his⟩:∃ q,isR r1.rune=q:=⟨_,rfl⟩
    obtain⟨d32,h32⟩:∃ q,decide (r1.rune<32)=q:=⟨_,rfl⟩
    obtain⟨d127,h127⟩:∃ q,decide (r1.rune=127)=q:=⟨_,rfl⟩
    obtain⟨w,hw⟩:∃ q,widthR r1.rune=q:=⟨_,rfl⟩
    obtain⟨wd,hwd⟩:∃ q,wideR r1.rune=q:=⟨_,rfl⟩
    have hc1:=refIs_c H r1.rune
    have hc2:=refWidth_c H r1.rune
    have hc3:=wide_c H r1.rune
    rw[his]at hc1
    rw[hw]at hc2
    rw[hwd]at hc3 hi hpn
    have hcR:cellsR r1.rune=if (d32||d127||!is)=true then 0 else w:=by unfold cellsR; rw[his,h32,h127,hw]
    rw[hcR,hnm]at hi
    have bad:(nm&&(decide ((if (d32||d127||!is)=true then 0 else w)=0)||(wd&&decide (l.drop (k+1)=[]))))=true->B=false:=fun hb=>by
     rw[if_pos hb]at hi
     exact hi.symm
    have good:(nm&&(decide ((if (d32||d127||!is)=true then 0 else w)=0)||(wd&&decide (l.drop (k+1)=[]))))=false->valV (prevT l (k+1)).1 (prevT l (k+1)).2 (l.drop (k+1))=B:=fun hb=>by
     rw[hpn]
     rw[hb,if_neg (by decide)]at hi
     exact hi
    cases nm with
    |false =>
     simp only[g3,g4,hnm,hws,ruW,ruU,Nat.reduceLT,Nat.reduceEqDiff]
     exact loopC_next ⟨k+1,by omega,rfl,by simp only[g0,ruU,Nat.reduceEqDiff],by simp only[ruU],by omega,good rfl⟩
    |true =>
    simp only[g4,hnm,ruW,xF,ruU,Nat.reduceLT,Nat.reduceEqDiff]
    refine CallS.to (show Pure 64 _ (ext H []) _ from hc1) ?_
    cases is with
    |false =>
     rw[bad (by simp)]
     simp only[zD8,joinR_ret,Tryd.results35,ruW,ruU,Nat.reduceLT,Nat.reduceEqDiff]
     exact Fin.pureE rfl rfl
    |true =>
    cases d32 with
    |true =>
     rw[bad (by simp)]
     simp only[g4,h32,zC2,joinR_ret,Tryd.results35,ruW,ruU,Nat.reduceLT,Nat.reduceEqDiff]
     exact Fin.pureE rfl rfl
    |false =>
    cases d127 with
    |true =>
     rw[bad (by simp)]
     simp only[g4,h32,h127,zC2,joinR_ret,Tryd.results35,ruW,ruU,Nat.reduceLT,Nat.reduceEqDiff]
     exact Fin.pureE rfl rfl
    |false =>
    simp only[g4,h32,h127,zC2,ruW,xF,ruU,Nat.reduceLT,Nat.reduceEqDiff]
    refine CallS.to (show Pure 65 _ (ext H []) _ from hc2) ?_
    obtain⟨lw,hlw⟩:∃ q,decide ((w:Int)<1)=q:=⟨_,rfl⟩
    cases lw with
    |true =>
     obtain rfl:w=0:=by have:=of_decide_eq_true hlw; omega
     rw[bad (by simp)]
     simp only[hlw,joinR_ret,Tryd.results35,ruW,ruU,Nat.reduceLT,Nat.reduceEqDiff]
     exact Fin.pureE rfl rfl
    |false =>
    have hw0:w≠0:=by have:=of_decide_eq_false hlw; omega
    simp only[g4,hlw,ruW,xF,ruU,Nat.reduceLT,Nat.reduceEqDiff]
    refine CallS.to (show Pure 63 _ (ext H []) _ from hc3) ?_
    cases wd with
    |false =>
     simp only[g3,hws,ruW,ruU,Nat.reduceLT,Nat.reduceEqDiff]
     exact loopC_next ⟨k+1,by omega,rfl,by simp only[g0,ruU,Nat.reduceEqDiff],by simp only[ruU],by omega,good (by simp[hw0])⟩
    |true =>
    obtain⟨le,hle⟩:∃ q,decide (((k+1:Nat):Int)=(l.length:Int))=q:=⟨_,rfl⟩
    cases le with
    |true =>
     have hen:l.drop (k+1)=[]:=zF5 (by have:=of_decide_eq_true hle; omega)
     rw[bad (by simp[hen])]
     simp only[g0,g3,hws,hle,joinR_ret,Tryd.results35,ruW,xF,ruU,Nat.reduceLT,Nat.reduceEqDiff]
     exact Fin.pureE rfl rfl
    |false =>
     have hen:l.drop (k+1)≠[]:=fun h=>by
      have:=congrArg List.length h
      rw[zD4]at this
      have h2:=of_decide_eq_false hle
      simp only[zD0]at this
      omega
     simp only[g0,g3,hws,hle,ruW,xF,ruU,Nat.reduceLT,Nat.reduceEqDiff]
     exact loopC_next ⟨k+1,by omega,rfl,by simp only[g0,ruU,Nat.reduceEqDiff],by simp only[ruU],by omega,good (by simp[hw0,hen])⟩
 ·rintro E X ⟨hX,rfl⟩
  rw[hX]
  simp only[Tryd.results35,ruW,ruU,Nat.reduceLT]
  exact Fin.pure rfl
def GridAt (H:AHeap) (v:Value) (g:List (List Ce)):Prop :=
 (g=[]/\∃ a c,v=.slice a 0 c)\/(g≠[]/\∃ n off s c e o L,v=.slice (some ⟨n,off,s⟩) g.length c/\rk H n=some ⟨e,o,L⟩/\n<H.next/\off+g.length<=L.length/\∀ k row,g[k]?=some row->∃ rv,L[off+k]?=some rv/\RowAt H rv row)
theorem GridAt.sl {H:AHeap} {v:Value} {g:List (List Ce)} (h:GridAt H v g):∃ a c,v=.slice a g.length c:=by
 rcases h with⟨rfl,a,c,rfl⟩|⟨_,n,off,s,c,e,o,L,rfl,_⟩
 ·exact⟨a,c,rfl⟩
 ·exact⟨_,_,rfl⟩
theorem RowAt.ext {H:AHeap} {v:Value} {l:List Ce} {B:List Bl} (h:RowAt H v l):RowAt (Go.Ax.ext H B) v l:=by
 rcases h with⟨rfl,a,c,rfl⟩|⟨hl,n,off,s,c,e,o,L,rfl,hb,hlt,hle,ht⟩
 ·exact .inl ⟨rfl,a,c,rfl⟩
 ·exact .inr ⟨hl,n,off,s,c,e,o,L,rfl,(rk_old hlt).trans hb,by rw[ext_next]; omega,hle,ht⟩
theorem RowAt.ne {H:AHeap} {v:Value} {l:List Ce} (h:RowAt H v l) (hl:l≠[]):∀ n∈idsV v,H.get n≠none/\n<H.next:=by
 rcases h with⟨rfl,_⟩|⟨_,n,off,s,c,e,o,L,rfl,hb,hlt,_⟩
 ·exact absurd rfl hl
 ·intro m hm
  simp only[idsV,zA9]at hm
  subst hm
  exact⟨rk_ne hb,hlt⟩
theorem grid_ia {len cap n off:Nat} {s:Option Nat} {i:Int} {k:Nat} (hi:i=k) (hk:k<len):aIndexAddr Tryd.prog 29 (.slice (some ⟨n,off,s⟩) len cap) (.int .i64 i)=some (.pointer (some ⟨n,off+k,none⟩)):=by
 subst hi
 rw[ia_slice (e:=39) (sz:=1) (by kernel_rfl) (by kernel_rfl) (by omega) (by omega)]
 simp
theorem ag56:aggT Tryd.prog 39=some false:=by kernel_rfl
theorem grid_load {k off:Nat} {e:TypeId} {o:Bool} {L:List Value} {rv:Value} (h:L[off+k]?=some rv):ldB Tryd.prog 39 (off+k) (some ⟨e,o,L⟩)=some rv:=by
 simp only[ldB,ag56,h]
def rowF (l:List Ce) (v:Value):List Nat:=if l=[] then [] else idsV v
theorem RowAt.f {H:AHeap} {v:Value} {l:List Ce} (h:RowAt H v l):∀ n∈rowF l v,H.get n≠none:=by
 unfold rowF
 split
 ·intro n hn; cases hn
 ·rename_i hl; exact fun n hn=>(h.ne hl n hn).1
theorem RowAt.ofF {H G:AHeap} {v:Value} {l:List Ce} (h:RowAt H v l) (hn:H.next<=G.next) (hg:∀ n∈rowF l v,G.get n=H.get n):RowAt G v l:=by
 by_cases hl:l=[]
 ·obtain⟨a,c,e⟩:=h.sl
  subst hl
  exact .inl ⟨rfl,a,c,e⟩
 ·rw[rowF,if_neg hl]at hg
  exact h.of hn hg
theorem sameScreens_c (H:AHeap) (v1 v2:Value) (g1 g2:List (List Ce)) (r1 c1 r2 c2:Int) (h1:GridAt H v1 g1) (h2:GridAt H v2 g2) (hl:g1.length<1000000) (hw:∀ l∈g1,l.length<1000000) :
  Pure 11 [.agg #[v1,.int .i64 r1,.int .i64 c1],.agg #[v2,.int .i64 r2,.int .i64 c2]] H (.bool (decide (g1=g2/\r1=r2/\c1=c2))):=by
 obtain⟨b,hb⟩:=Go.Ax.exq H.next
 refine callS_fn mixed Tryd.func11 rfl Tryd.ntmps11 (zB1 rfl) fun wf hsc=>?_
 obtain⟨a1,k1,e1⟩:=h1.sl
 obtain⟨a2,k2,e2⟩:=h2.sl
 have hsc1:scb b v1=true/\scb b v2=true:=by
  simp only[scbL,scb,scbA,zA4,hb]at hsc
  exact⟨hsc.1.1,hsc.2.1.1⟩
 rw[e1,e2]at hsc1
 have hfin:∀ s:Bool,(s=true->g1=g2/\r1=r2/\c1=c2)->(s=false->¬(g1=g2/\r1=r2/\c1=c2))->s=decide (g1=g2/\r1=r2/\c1=c2):=fun s h1 h2=>by
  cases s
  ·rw[decide_eq_false (h2 rfl)]
  ·rw[decide_eq_true (h1 rfl)]
 obtain⟨d1,hd1⟩:∃ d,decide ((g1.length:Int)=(g2.length:Int))=d:=⟨_,rfl⟩
 obtain⟨d2,hd2⟩:∃ d,decide (r1=r2)=d:=⟨_,rfl⟩
 obtain⟨d3,hd3⟩:∃ d,decide (c1=c2)=d:=⟨_,rfl⟩
 have hd1':g1.length=g2.length ↔ d1=true:=by rw[<-hd1,decide_eq_true_iff]; omega
 have hd2':r1=r2 ↔ d2=true:=by rw[<-hd2,decide_eq_true_iff]
 have hd3':c1=c2 ↔ d3=true:=by rw[<-hd3,decide_eq_true_iff]
 rw[e1,e2]
 simp only[hb,hsc1.1,hsc1.2,hd1,ruW,xF,ruU,entryE,Nat.reduceLT,Nat.reduceAdd,Nat.reduceEqDiff]
 cases d1<;>simp only[hb,hd2,ruW,xF,ruU,Nat.reduceLT,Nat.reduceAdd,Nat.reduceEqDiff]<;>cases d2<;>(try simp (maxDischargeDepth:=6) only[hb,hd3,ruW,xF,ruU,Nat.reduceLT,Nat.reduceAdd,Nat.reduceEqDiff])<;>cases d3<;>(try simp (maxDischargeDepth:=6) only[ruW,putL,Nat.reduceLeDiff,xF,ruU,entryE,Nat.reduceLT,Nat.reduceAdd,Nat.reduceMul,Nat.reduceEqDiff]) <;>
 (refine w_env fun E hE=>?_
  obtain⟨s0,g5,hs⟩:∃ s0:Bool,E 5=.bool s0/\(s0=true ↔ (g1.length=g2.length/\r1=r2/\c1=c2)):=by
   refine⟨_,by rw[hE]; (simp only[ruU,Nat.reduceEqDiff]<;>rfl),?_⟩
   rw[hd1',hd2',hd3']
   decide
  have q2:E 2=.pointer (some ⟨b+0,0,none⟩):=by rw[hE]; rfl
  have q3:E 3=.pointer (some ⟨b+1,0,none⟩):=by rw[hE]; rfl
  have q6:E 6=.int .i64 0:=by rw[hE]; rfl
  clear hE hd1 hd2 hd3 hd1' hd2' hd3'
  have hB0:∀ A B,bk (ext H [A,B]) (b+0)=some A:=fun A B=>by rw[bk_at hb (by simp)]; rfl
  have hB1:∀ A B,bk (ext H [A,B]) (b+1)=some B:=fun A B=>by rw[bk_at hb (by simp)]; rfl
  refine blockC_meet (fun E' H'=>H'=ext H [⟨31,false,[v1,.int .i64 r1,.int .i64 c1]⟩,⟨31,false,[v2,.int .i64 r2,.int .i64 c2]⟩]/\E' 5=.bool (decide (g1=g2/\r1=r2/\c1=c2))) ?_ ?_
  ·refine w_loop (fun (k:Nat × Bool) E' H'=>H'=ext H [⟨31,false,[v1,.int .i64 r1,.int .i64 c1]⟩,⟨31,false,[v2,.int .i64 r2,.int .i64 c2]⟩]/\E' 2=.pointer (some ⟨b+0,0,none⟩)/\E' 3=.pointer (some ⟨b+1,0,none⟩)/\E' 5=.bool k.2/\E' 6=.int .i64 (k.1:Int)/\k.1<=g1.length/\(k.2=true->g1.length=g2.length/\g1.take k.1=g2.take k.1/\r1=r2/\c1=c2)/\(k.2=false->¬(g1=g2/\r1=r2/\c1=c2))) (fun k=>g1.length-k.1) (0,s0)
    ⟨by rw[e1,e2],q2,q3,g5,q6,zA7 _,fun h=>⟨(hs.1 h).1,rfl,(hs.1 h).2⟩,fun h e=>by simp only at h; rw[h]at hs; exact absurd (hs.2 ⟨by rw[e.1],e.2⟩) (by decide)⟩ ?_
   clear q2 q3 g5 q6 hs
   rintro⟨k,s⟩ E H' ⟨hH,q2,q3,g5,q6,hk,hs1,hs2⟩
   simp only at g5 q6 hk hs1 hs2
   rw[hH]
   cases s with
   |false =>
    simp only[g5,ruW,ruU,Nat.reduceLT,Nat.reduceEqDiff]
    refine joinR_normal ⟨rfl,?_⟩
    simp only[g5,ruU,Nat.reduceEqDiff]
    rw[decide_eq_false (hs2 rfl)]
   |true =>
    obtain⟨hlen,hpre,hr,hc⟩:=hs1 rfl
    by_cases hkl:k=g1.length
    ·have hcd:decide ((k:Int)<(g1.length:Int))=false:=by simp[hkl]
     rw[e1]
     simp only[q2,g5,q6,hb,hcd,ruW,xF,ruU,Nat.reduceLT,Nat.reduceAdd,Nat.reduceEqDiff]
     refine joinR_normal ⟨rfl,?_⟩
     simp only[g5,ruU,Nat.reduceEqDiff]
     have:g1=g2:=by
      have e3:=hpre
      rw[hkl,zF0,hlen,zF0]at e3
      exact e3
     rw[decide_eq_true ⟨this,hr,hc⟩]
    ·have hlt:k<g1.length:=by omega
     have hcd:decide ((k:Int)<(g1.length:Int))=true:=decide_eq_true (by omega)
     rcases h1 with⟨h,_⟩|⟨_,n1,o1,s1,x1,t1,p1,L1,rfl,b1,n1l,le1,tk1⟩
     ·rw[h]at hlt; simp at hlt
     rcases h2 with⟨h,_⟩|⟨_,n2,o2,s2,x2,t2,p2,L2,rfl,b2,n2l,le2,tk2⟩
     ·rw[h]at hlen; simp at hlen; simp[hlen]at hlt
     obtain⟨w1,hr1⟩:∃ r,g1[k]?=some r:=⟨_,zA5 hlt⟩
     obtain⟨w2,hr2⟩:∃ r,g2[k]?=some r:=⟨_,zA5 (by omega)⟩
     obtain⟨u1,hu1,ra1⟩:=tk1 k w1 hr1
     obtain⟨u2,hu2,ra2⟩:=tk2 k w2 hr2
     have i1:=grid_ia (n:=n1) (off:=o1) (s:=s1) (cap:=x1) (i:=(k:Int)) rfl hlt
     have i2:=grid_ia (n:=n2) (off:=o2) (s:=s2) (cap:=x2) (i:=(k:Int)) (len:=g2.length) rfl (by omega)
     have y1:=grid_load (e:=t1) (o:=p1) hu1
     have y2:=grid_load (e:=t2) (o:=p2) hu2
     rw[hb]at n1l n2l
     have hww:w1.length<1000000:=hw w1 (zB5 hr1)
     simp only[q2,g5,q6,hb,hcd,ruW,xF,ruU,Nat.reduceLT,Nat.reduceAdd,Nat.reduceEqDiff]
     refine w_drawB [] [] (by kernel_rfl) rfl rfl fun ops anc hA hG=>?_
     simp only[q2,q3,q6,hb,i1,i2,b1,b2,n1l,n2l,y1,y2,qk_old,ruD,ruW,xF,ruU,Nat.reduceLT,Nat.reduceAdd,Nat.reduceEqDiff]
     refine genV_quiet (v:=.bool (decide (w1=w2))) (rowF w1 u1++rowF w2 u2) (by simp only[ruU,Nat.reduceLT]) (by kernel_rfl) (by decide) (fun m hm=>?_) (fun G hn hg=>?_) (by simp (maxDischargeDepth:=6) only[ruD]) ?_
     ·rcases zC3.1 hm with hm|hm
      ·exact ra1.ext.f m hm
      ·exact ra2.ext.f m hm
     ·simp only[ruU,Nat.reduceEqDiff]
      exact sameCells_c G u1 u2 w1 w2 (ra1.ext.ofF (Nat.le_of_eq hn.symm) fun m hm=>hg m (List.mem_append_left _ hm)) (ra2.ext.ofF (Nat.le_of_eq hn.symm) fun m hm=>hg m (List.mem_append_right _ hm)) hww
     simp only[q6,hb,wrap_succ (show k<1000000 by omega),ruD,ruW,ruU,Nat.reduceLT,Nat.reduceAdd,Nat.reduceEqDiff]
     refine loopC_next ⟨(k+1,decide (w1=w2)),by simp only; omega,rfl,?_,?_,?_,?_,by simp only; omega,fun h=>⟨hlen,?_,hr,hc⟩,fun h e=>?_⟩<;>try simp only[q2,q3,ruU,Nat.reduceEqDiff]
     ·have h:=of_decide_eq_true h
      rw[List.take_add_one,List.take_add_one,hr1,hr2,hpre,h]
     ·have h:=of_decide_eq_false h
      rw[e.1]at hr1
      rw[hr1]at hr2
      exact h (Option.some.inj hr2)
  ·rintro E H' ⟨hH,g5⟩
   rw[hH]
   simp only[g5,Tryd.results11,ruW,ruU,Nat.reduceLT]
   exact Fin.pure rfl)
def spOf (t:Bool):Option Nat:=if t then none else some 0
def OwnRow (N:Nat) (H:AHeap) (rv:Value) (l:List Ce):Prop :=
 ∃ n t c o,rv=.slice (some ⟨n,0,spOf t⟩) l.length (l.length+c)/\bk H n=some ⟨68,o,csOf l⟩/\N<=n/\n<H.next
structure OwnG (N:Nat) (H:AHeap) (v:Value) (rvs:List Value) (g:List (List Ce)):Prop where
 len:rvs.length=g.length
 at_:(g=[]/\v=.slice none 0 0)\/∃ m s c o,v=.slice (some ⟨m,0,s⟩) g.length c/\bk H m=some ⟨39,o,rvs⟩/\N<=m/\m<H.next/\m∉rvs.flatMap idsV
 row:∀ (i:Nat) (rv:Value) (l:List Ce),rvs[i]?=some rv->g[i]?=some l->OwnRow N H rv l
 nd:(rvs.flatMap idsV).Nodup
section
variable {N M : Nat} {H G : AHeap} {v rv : Value} {rvs : List Value} {g : List (List Ce)} {l : List Ce}
theorem OwnRow.of (h:OwnRow N H rv l) (hn:H.next<=G.next) (hg:∀ n∈idsV rv,G.get n=H.get n):OwnRow N G rv l:=by
 obtain⟨n,s,c,o,rfl,hb,h1,h2⟩:=h
 exact⟨n,s,c,o,rfl,(bk_get (hg n (by simp[idsV]))).trans hb,h1,by omega⟩
theorem OwnRow.rng (h:OwnRow N H rv l):∀ n∈idsV rv,N<=n/\n<H.next/\H.get n≠none:=by
 obtain⟨n,s,c,o,rfl,hb,h1,h2⟩:=h
 intro m hm
 simp only[idsV,zA9]at hm
 subst hm
 exact⟨h1,h2,bk_ne hb⟩
theorem OwnRow.at_ (h:OwnRow N H rv l):RowAt H rv l:=by
 obtain⟨n,s,c,o,rfl,hb,h1,h2⟩:=h
 by_cases hl:l=[]
 ·subst hl; exact .inl ⟨rfl,_,_,rfl⟩
 ·exact .inr ⟨hl,n,0,_,_,68,o,csOf l,rfl,rk_of hb,h2,by rw[csOf_length]; omega,by rw[zC7,zF2 (by rw[csOf_length]; exact zA6 _)]⟩
theorem OwnG.rvOf (o:OwnG N H v rvs g) {i:Nat} {l:List Ce} (h:g[i]?=some l):∃ rv,rvs[i]?=some rv/\OwnRow N H rv l:=by
 have hlt:=(zE1.1 h).1
 have:i<rvs.length:=by rw[o.len]; exact hlt
 exact⟨rvs[i],zA5 this,o.row i _ _ (zA5 this) h⟩
theorem OwnG.lOf (o:OwnG N H v rvs g) {i:Nat} {rv:Value} (h:rvs[i]?=some rv):∃ l,g[i]?=some l/\OwnRow N H rv l:=by
 have hlt:=(zE1.1 h).1
 have:i<g.length:=by rw[<-o.len]; exact hlt
 exact⟨g[i],zA5 this,o.row i _ _ h (zA5 this)⟩
theorem OwnG.ids (o:OwnG N H v rvs g):∀ n∈rvs.flatMap idsV,N<=n/\n<H.next/\H.get n≠none:=by
 intro n hn
 obtain⟨rv,hrv,hn⟩:=zF8.1 hn
 obtain⟨i,hi⟩:=List.getElem?_of_mem hrv
 obtain⟨l,_,h⟩:=o.lOf hi
 exact h.rng n hn
theorem OwnG.idv (o:OwnG N H v rvs g):∀ n∈idsV v,N<=n/\n<H.next/\H.get n≠none/\n∉rvs.flatMap idsV:=by
 rcases o.at_ with⟨_,rfl⟩|⟨m,s,c,o',rfl,hb,h1,h2,h3⟩
 ·intro n hn; simp[idsV]at hn
 ·intro n hn
  simp only[idsV,zA9]at hn
  subst hn
  exact⟨h1,h2,bk_ne hb,h3⟩
theorem OwnG.of (o:OwnG N H v rvs g) (hn:H.next<=G.next) (hg:∀ n,N<=n->n<H.next->n∈idsV v++rvs.flatMap idsV->G.get n=H.get n):OwnG N G v rvs g where
 len:=o.len
 at_:=by
  rcases o.at_ with h|⟨m,s,c,o',rfl,hb,h1,h2,h3⟩
  ·exact .inl h
  ·exact .inr ⟨m,s,c,o',rfl,(bk_get (hg m h1 h2 (by simp[idsV]))).trans hb,h1,by omega,h3⟩
 row:=fun i rv l h1 h2=>(o.row i rv l h1 h2).of hn fun n hn=>by
  obtain⟨a,b,_⟩:=(o.row i rv l h1 h2).rng n hn
  exact hg n a b (List.mem_append_right _ (zF8.2 ⟨rv,zB5 h1,hn⟩))
 nd:=o.nd
theorem OwnG.grid (o:OwnG N H v rvs g):GridAt H v g:=by
 rcases o.at_ with⟨rfl,rfl⟩|⟨m,s,c,o',rfl,hb,h1,h2,h3⟩
 ·exact .inl ⟨rfl,_,_,rfl⟩
 ·by_cases hg:g=[]
  ·subst hg; exact .inl ⟨rfl,_,_,rfl⟩
  ·exact .inr ⟨hg,m,0,s,c,39,o',rvs,rfl,rk_of hb,h2,by rw[o.len]; omega,fun k l hk=>by
    obtain⟨rv,h4,h5⟩:=o.rvOf hk
    exact⟨rv,by rw[zB6]; exact h4,h5.at_⟩⟩
theorem ids_apart:∀ (rvs:List Value) (i j:Nat) (a b:Value) (n:Nat),(rvs.flatMap idsV).Nodup->rvs[i]?=some a->rvs[j]?=some b->i≠j->n∈idsV a->n∉idsV b
 |[],_,_,_,_,_,_,h,_,_,_=>by simp at h
 |x::rvs,0,0,_,_,_,_,_,_,h,_=>absurd rfl h
 |x::rvs,0,j+1,a,b,n,hnd,ha,hb,_,hn=>fun hn2=>by
  simp only[zD3,Option.some.injEq,zE2]at ha hb
  subst ha
  rw[zF3,List.nodup_append]at hnd
  exact hnd.2.2 n hn n (zF8.2 ⟨b,zB5 hb,hn2⟩) rfl
 |x::rvs,i+1,0,a,b,n,hnd,ha,hb,_,hn=>fun hn2=>by
  simp only[zD3,Option.some.injEq,zE2]at ha hb
  subst hb
  rw[zF3,List.nodup_append]at hnd
  exact hnd.2.2 n hn2 n (zF8.2 ⟨a,zB5 ha,hn⟩) rfl
 |x::rvs,i+1,j+1,a,b,n,hnd,ha,hb,hij,hn=>by
  rw[zF3,List.nodup_append]at hnd
  exact ids_apart rvs i j a b n hnd.2.1 (by simpa using ha) (by simpa using hb) (by omega) hn
theorem OwnG.set {n k:Nat} {l':List Ce} (o:OwnG N H v rvs g) {s:Option Nat} {c:Nat} {f:Bool} (hrv:rvs[k]?=some (.slice (some ⟨n,0,s⟩) l.length c)) (hl:g[k]?=some l) (hlen:l'.length=l.length) (hb:bk G n=some ⟨68,f,csOf l'⟩) (m:Mod [n] H G):OwnG N G v rvs (g.set k l'):=by
 have hnk:n∈rvs.flatMap idsV:=zF8.2 ⟨_,zB5 hrv,by simp[idsV]⟩
 have hother:∀ i rv,rvs[i]?=some rv->i≠k->n∉idsV rv:=by
  intro i rv hi hik hn
  exact ids_apart rvs i k rv _ n o.nd hi hrv hik hn (by simp[idsV])
 refine⟨by rw[List.length_set]; exact o.len,?_,fun i rv q hi hq=>?_,o.nd⟩
 ·rcases o.at_ with⟨rfl,rfl⟩|⟨m',s',c',o',rfl,hb',h1,h2,h3⟩
  ·simp at hl
  ·refine .inr ⟨m',s',c',o',by rw[List.length_set],(m.bk h2 ?_).trans hb',h1,m.lt h2,h3⟩
   simp only[zA9]
   rintro rfl
   exact h3 hnk
 ·by_cases hik:i=k
  ·subst hik
   rw[hrv]at hi
   cases hi
   have hkl:=(zE1.1 hl).1
   rw[List.getElem?_set_self hkl]at hq
   cases hq
   obtain⟨n',s'',c'',o'',e,hb',h1,h2⟩:=o.row i _ l hrv hl
   cases e
   exact⟨n,s'',c'',f,by rw[hlen],hb,h1,m.lt h2⟩
  ·rw[List.getElem?_set_ne (fun h=>hik h.symm)]at hq
   refine (o.row i rv q hi hq).of m.next fun p hp=>m.get p ((o.row i rv q hi hq).rng p hp).2.1 ?_
   simp only[zA9]
   rintro rfl
   exact hother i rv hi hik hp
end
theorem GridAt.one {H:AHeap} {v:Value} {g:List (List Ce)} (h:GridAt H v g) {i:Nat} {l:List Ce} (hi:g[i]?=some l):∃ n off s c e o L rv,v=.slice (some ⟨n,off,s⟩) g.length c/\rk H n=some ⟨e,o,L⟩/\n<H.next/\L[off+i]?=some rv/\RowAt H rv l:=by
 rcases h with⟨rfl,_⟩|⟨_,n,off,s,c,e,o,L,rfl,h1,h2,h3,h4⟩
 ·simp at hi
 ·obtain⟨rv,h5,h6⟩:=h4 i l hi
  exact⟨n,off,s,c,e,o,L,rv,rfl,h1,h2,h5,h6⟩
theorem indexRows_c (H:AHeap) (v:Value) (l:List (List Ce)) (g:FuncId) (ca:List Value) (p:List Ce->Bool) (hv:GridAt H v l) (hl:l.length<=1000000) (hbd:hasBody Tryd.prog g=true) (hg:∀ rv a,RowAt H rv a->a∈l->Pure g (rv::ca) H (.bool (p a))) :
  Pure 56 [v,.func (.func g) ⟨[]⟩ ⟨ca⟩] H (.int .i64 (idxB p l)):=by
 obtain⟨b,hb⟩:=Go.Ax.exq H.next
 obtain⟨a0,c0,e0⟩:=hv.sl
 refine callS_fn mixed Tryd.func56 rfl Tryd.ntmps56 (zB1 rfl) fun wf hsc=>?_
 rw[e0]
 simp only[ruW,xF,ruU,entryE,Nat.reduceLT,Nat.reduceAdd,Nat.reduceEqDiff]
 refine w_env fun E hE=>?_
 have g0:E 0=v:=by rw[hE,e0]; simp only[ruU,Nat.reduceEqDiff]
 have g1:E 1=.func (.func g) ⟨[]⟩ ⟨ca⟩:=by rw[hE]; rfl
 have g7:E 7=.int .i64 (l.length:Int):=by rw[hE]; rfl
 have g8:E 8=.int .i64 ((0:Nat):Int):=by rw[hE]; rfl
 clear hE
 refine w_loop (fun (j:Nat) E' H'=>H'=ext H []/\j<=l.length/\(∀ k b,k<j->l[k]?=some b->p b=false)/\E' 0=v/\E' 1=.func (.func g) ⟨[]⟩ ⟨ca⟩/\E' 7=.int .i64 (l.length:Int)/\E' 8=.int .i64 (j:Int)) (fun j=>l.length-j) 0 ⟨rfl,zA7 _,fun k _ hk=>absurd hk (by omega),g0,g1,g7,g8⟩ ?_
 clear g0 g1 g7 g8 E
 rintro j E H' ⟨hH,hj,hall,g0,g1,g7,g8⟩
 rw[hH]
 by_cases hje:j=l.length
 ·have hd:decide ((j:Int)<(l.length:Int))=false:=decide_eq_false (by omega)
  simp only[g7,g8,hd,Tryd.results56,ruW,ruU,Nat.reduceLT]
  rw[idxB_not fun k b hk=>hall k b (by omega)]
  exact Fin.pureE rfl rfl
 ·have hjl:j<l.length:=by omega
  have hd:decide ((j:Int)<(l.length:Int))=true:=decide_eq_true (by omega)
  obtain⟨x,hx⟩:∃ x,l[j]?=some x:=⟨_,zA5 hjl⟩
  obtain⟨n,off,s,c,e,o,M,rv,e1,r1,n1,hrv,hR⟩:=hv.one hx
  rw[e1]at g0
  have i1:=grid_ia (n:=n) (off:=off) (s:=s) (cap:=c) (i:=(j:Int)) rfl hjl
  have l1:=grid_load (e:=e) (o:=o) hrv
  rw[hb]at n1
  have hwj:IntKind.i64.wrap ((j:Int)+1)=((j+1:Nat):Int):=wrap_succ (by omega)
  simp only[g0,g1,g7,g8,hb,hd,i1,n1,r1,l1,qk_old,ruW,ruU,Nat.reduceLT,Nat.reduceEqDiff]
  refine w_callV (f:=g) (ca:=ca) rfl rfl rfl hbd ?_
  have hgj:=hg rv x hR (zB5 hx)
  obtain⟨d,hdd⟩:=Go.Ax.exq (p x)
  rw[hdd]at hgj
  simp only[ruU]
  refine CallS.to (show Pure g (rv::ca) (ext H []) _ from hgj) ?_
  cases d with
  |true =>
   simp only[Tryd.results56,ruW,ruU,Nat.reduceLT,Nat.reduceEqDiff]
   rw[idxB_at hx hdd fun k b hk=>hall k b (by omega)]
   exact Fin.pureE rfl rfl
  |false =>
   simp only[g8,hwj,ruW,ruU,Nat.reduceLT,Nat.reduceEqDiff]
   refine loopC_next ⟨j+1,by omega,rfl,by omega,fun k b hk hkj=>?_,?_,?_,?_,?_⟩
   ·by_cases hkk:k=j
    ·subst hkk
     rw[hx]at hkj
     cases hkj
     exact hdd
    ·exact hall k b (by omega) hkj
   ·rw[e1]; simp only[g0,ruU,Nat.reduceEqDiff]
   ·exact g1
   ·exact g7
   ·rfl
theorem containsRows_c (H:AHeap) (v:Value) (l:List (List Ce)) (g:FuncId) (ca:List Value) (p:List Ce->Bool) (hv:GridAt H v l) (hl:l.length<=1000000) (hbd:hasBody Tryd.prog g=true) (hg:∀ rv a,RowAt H rv a->a∈l->Pure g (rv::ca) H (.bool (p a))) :
  Pure 29 [v,.func (.func g) ⟨[]⟩ ⟨ca⟩] H (.bool (l.any p)):=by
 obtain⟨a0,c0,e0⟩:=hv.sl
 have hc:=indexRows_c H v l g ca p hv hl hbd hg
 refine callS_fn mixed Tryd.func29 rfl Tryd.ntmps29 (zB1 rfl) fun wf hsc=>?_
 rw[e0]at hc ⊢
 simp only[ruW,xF,ruU,entryE,Nat.reduceLT,Nat.reduceAdd,Nat.reduceEqDiff]
 refine CallS.to (show Pure 56 _ (ext H []) _ from hc) ?_
 rw[<-idxB_any]
 simp only[Tryd.results29,ruW,ruU,Nat.reduceLT]
 exact Fin.pureE rfl rfl
structure CvR (N:Nat) (H:AHeap) (c:Nat) (v:Value) (rvs:List Value) (W:Nat) (g:List (List Ce)) (rw cl:Int):Prop where
 at_:bk H c=some ⟨65,false,[v,.int .i64 rw,.int .i64 cl]⟩
 lt:c<N
 nx:N<=H.next
 own:OwnG N H v rvs g
 sp:∀ rv∈rvs,∃ n,rv=.slice (some ⟨n,0,some 0⟩) W W
 wd:∀ l∈g,l.length=W
theorem CvR.grow {N c W:Nat} {H G:AHeap} {v:Value} {rvs:List Value} {g:List (List Ce)} {rw cl:Int} (h:CvR N H c v rvs W g rw cl) (m:Mod [] H G):CvR N G c v rvs W g rw cl :=
 ⟨(m.bk (by have:=h.lt; have:=h.nx; omega) (by simp)).trans h.at_,h.lt,zB8 h.nx m.next,h.own.of m.next fun n _ hn _=>m.get n hn (by simp),h.sp,h.wd⟩
theorem overR_len {q l:List Ce} {col:Nat} (h:col+l.length<=q.length):(overR q col l).length=q.length:=by
 unfold overR
 simp only[zC8,zE3,zD4]
 omega
theorem putG_get {g:List (List Ce)} {row col:Nat} {l q:List Ce} (h:g[row]?=some q):putG g row col l=g.set row (overR q col l):=by
 unfold putG
 rw[zF9,h]
 rfl
theorem csOf_over {q l:List Ce} {col:Nat} (h:col+l.length<=q.length):putL (csOf q) (col*6) (csOf l)=csOf (overR q col l):=by
 have e:(q.take col).length=col:=by rw[zE3]; omega
 have:=csOf_put (q.take col) l (q.drop col) (by rw[zD4]; omega)
 rw[List.take_append_drop,e,zE9]at this
 rw[this,overR,List.append_assoc]
theorem RowAt.cp {H:AHeap} {u:Value} {cs:List Ce} (h:RowAt H u cs) {n off dl dc:Nat} (hd:cs.length<=dl):aBuiltin Tryd.prog H .copy ⟨[39,39]⟩ [.slice (some ⟨n,off,some 0⟩) dl dc,u]=(aWrite H n off (csOf cs)).map fun g=>(goInt cs.length,g):=by
 have u39:Tryd.prog.underlying 39=some (.slice 68):=by kernel_rfl
 have s68:szOf Tryd.prog 68=some 6:=by kernel_rfl
 rcases h with⟨rfl,a,c,rfl⟩|⟨_,m,off2,s,c,e,o,L,rfl,hb,hlt,hle,ht⟩
 ·have hf:firstC H 6 0 (.slice a 0 c)=some []:=by cases a<;>simp[firstC]
  have hm:zD9 0 dl=0:=Nat.min_eq_left (zA7 _)
  simp only[aBuiltin,aCopy,u39,s68,zA1,zA3,lenV,hm,hf]
  rw[if_pos (.inl rfl)]
  show Option.bind (aWrite H n off (csOf [])) _=_
  cases aWrite H n off (csOf [])<;>rfl
 ·have hm:zD9 cs.length dl=cs.length:=Nat.min_eq_left hd
  have:=cp_sliceR (P:=Tryd.prog) (dt:=39) (st:=39) (m:=n) (off:=off) (dl:=dl) (dc:=dc) (s:=some 0) (n:=m) (off2:=off2) (sl:=cs.length) (sc:=c) (s2:=s) (b:=⟨e,o,L⟩) u39 s68 rfl hb (by rw[hm]; exact hle)
  rw[hm]at this
  rw[this]
  show Option.map _ (aWrite H n off ((L.drop off2).take (cs.length*6)))=_
  rw[ht]
theorem put_c {N c W:Nat} {H:AHeap} {v u:Value} {rvs:List Value} {g:List (List Ce)} {rw cl:Int} (h:CvR N H c v rvs W g rw cl) (row col:Nat) (ri ci:Int) (hri:ri=row) (hci:ci=col) (cs:List Ce) (hu:RowAt H u cs) (hr:row<g.length) (hcw:col<W) (hcl:col+cs.length<=W) :
  CallA Tryd.prog 26 [.pointer (some ⟨c,0,none⟩),.int .i64 ri,.int .i64 ci,u] H (fun out X=>out=.ok (.tuple ⟨[]⟩)/\CvR N X c v rvs W (putG g row col cs) rw cl/\Mod (rvs.flatMap idsV) H X/\X.next=H.next):=by
 subst hri hci
 obtain⟨x,hx⟩:=Go.Ax.exq H.next
 obtain⟨q,hq⟩:∃ q,g[row]?=some q:=⟨_,zA5 hr⟩
 have hql:=h.wd q (zB5 hq)
 obtain⟨rv,hrv,hrow⟩:=h.own.rvOf hq
 obtain⟨n,rfl⟩:=h.sp rv (zB5 hrv)
 obtain⟨n',t,c',o,e,hbn,hNn,hnx⟩:=hrow
 obtain rfl:n=n':=List.singleton_inj.1 (show [n]=[n'] from congrArg idsV e)
 clear e t c'
 obtain⟨m,s,c2,o2,ev,hbm,hNm,hmx,hmn⟩:∃ m s c o,v=.slice (some ⟨m,0,s⟩) g.length c/\bk H m=some ⟨39,o,rvs⟩/\N<=m/\m<H.next/\m∉rvs.flatMap idsV:=by
  rcases h.own.at_ with⟨h0,_⟩|h1
  ·rw[h0]at hr; simp at hr
  ·exact h1
 have hcx:c<x:=by have:=h.lt; have:=h.nx; omega
 have hat:=h.at_
 rw[ev]at hat
 obtain⟨ua,uc,eu⟩:=hu.sl
 have i1:=grid_ia (n:=m) (off:=0) (s:=s) (cap:=c2) (i:=(row:Int)) rfl hr
 have l1:=grid_load (k:=row) (off:=0) (e:=39) (o:=o2) (show rvs[0+row]?=some _ by rw[zB6]; exact hrv)
 rw[hx]at hnx hmx
 have hsl:aSlice Tryd.prog (ext H []) 39 (.slice (some ⟨n,0,some 0⟩) W W) (some (.int .i64 (col:Int))) none none=some (.slice (some ⟨n,0+col*6,some 0⟩) (W-col) (W-col),ext H []) :=
  sl_exact (e:=68) (sz:=6) (by kernel_rfl) (by kernel_rfl) (by simp[bound]) rfl (zA6 _) (by omega) hcw
 have hcp:=hu.cp (n:=n) (off:=0+col*6) (dl:=W-col) (dc:=W-col) (by omega)
 have hwr:=write_old (H:=H) (L:=[]) (n:=n) (off:=0+col*6) (vs:=csOf cs) (by omega) hbn (by rw[csOf_length,csOf_length]; omega) (csOf_one _) (csOf_sc _ _)
 rw[ext_nil,ext_nil]at hwr
 rw[hwr,zA8]at hcp
 have hcp':aBuiltin Tryd.prog (ext H []) .copy ⟨[39,39]⟩ [.slice (some ⟨n,0+col*6,some 0⟩) (W-col) (W-col),u]=some (goInt cs.length,ext (uw H n (0+col*6) (csOf cs)) []):=hcp
 refine callE_fn mixed Tryd.func26 rfl Tryd.ntmps26 (zB1 rfl) ?_
 rw[eu]at hcp' ⊢
 rw[show H=ext H [] from rfl]
 simp only[hx,hcx,hat,hbm,hmx,i1,l1,hsl,hcp',qk_old,Tryd.results26,ruW,xF,ruU,entryE,Nat.reduceLT,Nat.reduceAdd,Nat.reduceEqDiff]
 have hnm:n∈rvs.flatMap idsV:=zF8.2 ⟨_,zB5 hrv,by simp[idsV]⟩
 refine⟨trivial,?_,Mod.uw hnm,trivial⟩
 show CvR N (uw H n (0+col*6) (csOf cs)) c v rvs W (putG g row col cs) rw cl
 have hln:(overR q col cs).length=q.length:=overR_len (by omega)
 have hbk:bk (uw H n (0+col*6) (csOf cs)) n=some ⟨68,o,csOf (overR q col cs)⟩:=by
  rw[bk_uw_eq,hbn,zA8,putB_eq,zB6,csOf_over (by omega)]
 rw[putG_get hq]
 refine⟨(bk_uw_ne (by have:=h.lt; omega)).trans h.at_,h.lt,by rw[uw_next]; exact h.nx,?_,h.sp,?_⟩
 ·rw[<-hql]at hrv
  exact h.own.set hrv hq hln hbk (Mod.uw (by simp))
 ·intro l hl
  rcases List.mem_or_eq_of_mem_set hl with hl|rfl
  ·exact h.wd l hl
  ·rw[hln]; exact hql
theorem vs_rowF {H:AHeap} {v:Value} {l:List Ce} (h:VsAt H 68 6 v (csOf l) l.length):RowAt H v l:=RdAt.row (_root_.Go.Ax.VsAt.rd h)
theorem fitR_len (w:Nat) (k:Lk) (l:List Int):(fitR w k l).length=w:=by
 have:=grd_len w k l [] (zA7 _)
 unfold fitR
 rw[zC8,zD6]
 omega
theorem strG_len (w:Nat) (k:Lk) (s:ByteArray):(strG w k s).length<=w:=by
 unfold strG
 split
 ·rw[fitR_len]; exact zA6 _
 ·exact zA7 _
theorem string_c {N c W:Nat} {H:AHeap} {v:Value} {rvs:List Value} {g:List (List Ce)} {rw cl:Int} (h:CvR N H c v rvs W g rw cl) (hok:H.base<=H.next) (t:TabX H) (row col w:Nat) (ri ci wi:Int) (hri:ri=row) (hci:ci=col) (hwi:wi=w) (s:ByteArray) (k:Lk) (hk:colr k=true) (hw:w<=1000) (hs:s.size<=300) (hr:row<g.length) (hcw:col<W) (hcl:col+w<=W) :
  CallA Tryd.prog 28 [.pointer (some ⟨c,0,none⟩),.int .i64 ri,.int .i64 ci,.int .i64 wi,.string s,k.val] H (fun out X=>out=.ok (.tuple ⟨[]⟩)/\CvR N X c v rvs W (putG g row col (strG w k s)) rw cl/\Mod (rvs.flatMap idsV) H X):=by
 obtain⟨x,hx⟩:=Go.Ax.exq H.next
 refine callE_fn mixed Tryd.func28 rfl Tryd.ntmps28 (zB1 rfl) ?_
 obtain⟨G,hG⟩:=Go.Ax.exq (ext H [⟨38,false,lkc k⟩])
 have mG:Mod [] H G:=hG▸Mod.ext hok
 have nG:G.next=x+1:=by rw[<-hG,ext_next,hx]; rfl
 have k1:bk G (x+0)=some ⟨38,false,lkc k⟩:=by rw[<-hG,bk_at hx (by simp)]; rfl
 have hf:=fit_c G (t.mod0 mG).tab (by have:=(t.mod0 mG).lt; omega) s wi k (by rw[<-size_len]; exact hs) (mG.ok hok)
 unfold lkc at hG k1
 unfold Lk.val at hf ⊢
 simp only[hx,ruW,Nat.reduceLeDiff,xF,ruU,entryE,Nat.reduceLT,Nat.reduceAdd,Nat.reduceEqDiff]
 rw[hG,show G=ext G [] from rfl]
 refine CallA.mono (show CallA Tryd.prog 13 _ (ext G []) _ from hf) ?_
 rintro out X ⟨mX,ho⟩
 have mHX:=mG.trans mX
 have hX:=h.grow mHX
 obtain⟨u,eo,ho',hru⟩:∃ u e,out=.ok (.tuple #[u,.int .i64 e])/\RowAt X u (strG w k s):=by
  unfold FitOut at ho
  unfold strG
  cases hp:ptsR s.data.toList with
  |none =>
   rw[hp]at ho
   exact⟨_,_,ho,.inl ⟨rfl,_,_,rfl⟩⟩
  |some l =>
   rw[hp]at ho
   have:(decide (wi<0)||decide (1000<wi)||!colr k)=false:=by
    rw[hk]
    simp only[Bool.or_eq_false_iff,decide_eq_false_iff_not]
    exact⟨⟨by omega,by omega⟩,rfl⟩
   simp only[this]at ho
   obtain⟨u,h1,h2,h3⟩:=ho
   rw[show wi.toNat=w by omega]at h2
   exact⟨u,_,h1,vs_rowF h2⟩
 rw[ho']
 have hp:=put_c hX row col ri ci hri hci (strG w k s) hru hr hcw (by have:=strG_len w k s; omega)
 simp only[ruW,xF,ruU,Nat.reduceLT,Nat.reduceEqDiff]
 refine CallA.mono (show CallA Tryd.prog 26 _ X _ from hp) ?_
 rintro out Z ⟨rfl,hZ,mZ,_⟩
 simp only[Tryd.results28,ruW,Nat.reduceLT]
 exact⟨trivial,hZ,(mHX.mono (by simp)).trans mZ⟩
theorem putG_len {g:List (List Ce)} {row col:Nat} {l:List Ce}:(putG g row col l).length=g.length:=by unfold putG; rw[List.length_set]
theorem putRows_len {col:Nat}:∀ (ls:List (List Ce)) (g:List (List Ce)) (row:Nat),(putRows g row col ls).length=g.length
 |[],_,_=>rfl
 |l::ls,g,row=>by rw[putRows,putRows_len ls,putG_len]
theorem putRows_snoc {col:Nat} (l:List Ce):∀ (ls:List (List Ce)) (g:List (List Ce)) (row:Nat),putRows g row col (ls++[l])=putG (putRows g row col ls) (row+ls.length) col l
 |[],_,_=>rfl
 |q::ls,g,row=>by
  rw[List.cons_append,putRows,putRows_snoc l ls,putRows,zB4]
  congr 1
  omega
def curS (z:Int × Int) (p:Pn):Int × Int:=if p.sel=true/\p.row≠-1/\z.1=-1 then (p.rect.top+p.row,p.rect.left+p.col) else z
structure PnOk (h w:Nat) (p:Pn):Prop where
 top:0<=p.rect.top
 left:0<=p.rect.left
 height:1<=p.rect.height
 width:1<=p.rect.width
 th:p.rect.top+p.rect.height<=h-1
 lw:p.rect.left+p.rect.width<=w
 row:-1<=p.row
 rowh:p.row<=p.rect.height-2
 col:p.row≠-1->0<=p.col/\p.col<p.rect.width
 rows:∀ r∈p.rows.take (p.rect.height-1).toNat,(r.cells.length:Int)=p.rect.width
 mode:ptsR p.mode.data.toList≠none
 look:colr p.look=true
theorem pnOk_of {h w:Nat} {p:Pn} (h0:pnE h w p=0):PnOk h w p:=by
 unfold pnE at h0
 split at h0
 ·cases h0
 ·rename_i h1
  split at h0
  ·cases h0
  ·rename_i h2
   have hi:insR h w p.rect=true:=by
    cases hi:insR h w p.rect with
    |true=>rfl
    |false=>exact absurd (.inl hi) h1
   unfold insR at hi
   simp only[zA4,decide_eq_true_eq]at hi
   refine⟨by omega,by omega,by omega,by omega,by omega,by omega,?_,?_,?_,?_,?_,?_⟩
   ·exact Decidable.byContradiction fun hc=>h1 (.inr (.inl (by omega)))
   ·exact Decidable.byContradiction fun hc=>h1 (.inr (.inr (.inl (by omega))))
   ·intro hr
    exact Decidable.byContradiction fun hc=>h1 (.inr (.inr (.inr ⟨hr,by omega⟩)))
   ·intro r hr
    refine Decidable.byContradiction fun hc=>h2 (.inl (List.any_eq_true.2 ⟨r,hr,decide_eq_true hc⟩))
   ·exact fun hc=>h2 (.inr (.inl hc))
   ·cases hl:colr p.look with
    |true=>rfl
    |false=>exact absurd (.inr (.inr hl)) h2
theorem CvR.cur {N c W:Nat} {H:AHeap} {v:Value} {rvs:List Value} {g:List (List Ce)} {rw cl:Int} (h:CvR N H c v rvs W g rw cl) (a b:Int):CvR N (uw (uw H c 1 [.int .i64 a]) c 2 [.int .i64 b]) c v rvs W g a b/\Mod [c] H (uw (uw H c 1 [.int .i64 a]) c 2 [.int .i64 b]):=by
 have m:Mod [c] H (uw (uw H c 1 [.int .i64 a]) c 2 [.int .i64 b]):=(Mod.uw (by simp)).trans (Mod.uw (by simp))
 refine⟨⟨?_,h.lt,zB8 h.nx m.next,h.own.of m.next fun n hN hn _=>m.get n hn (by have:=h.lt; simp only[zA9]; omega),h.sp,h.wd⟩,m⟩
 rw[bk_uw_eq,bk_uw_eq,h.at_]
 rfl
theorem pane_c {N c W:Nat} {H0 H:AHeap} {v rv:Value} {rvs:List Value} {g:List (List Ce)} {rw cl:Int} (h:CvR N H c v rvs W g rw cl) (hok:H.base<=H.next) (t:TabX H) (m0:Mod [] H0 H) (ok0:H0.base<=H0.next) (hN:H0.next<=N) (hc0:H0.next<=c) (t0c:2<=c) (p:Pn) (hR:RowsR true H0 rv p.rows) (ok:PnOk g.length W p) (hg:g.length<=200) (hW:W<=1000) (hrl:p.rows.length<=1000) (hs:p.mode.size<=300) :
  CallA Tryd.prog 25 [.pointer (some ⟨c,0,none⟩),.agg ⟨pnL rv p⟩] H (fun out X=>out=.ok (.tuple ⟨[]⟩)/\CvR N X c v rvs W (paneG g p) (curS (rw,cl) p).1 (curS (rw,cl) p).2/\Mod (c::rvs.flatMap idsV) H X):=by
 obtain⟨x,hx⟩:=Go.Ax.exq H.next
 have hbase:H.base<=x:=hx▸hok
 obtain⟨ra,rc,er⟩:=hR.it.sl
 have sr:=scb_mono m0.next _ hR.sc
 rw[hx,er]at sr
 refine callE_fn mixed Tryd.func25 rfl Tryd.ntmps25 (zB1 rfl) ?_
 obtain⟨G,hG⟩:=Go.Ax.exq (ext H [⟨55,false,pnL rv p⟩,⟨52,false,rcL p.rect⟩])
 have mG:Mod [] H G:=hG▸Mod.ext hok
 have nG:G.next=x+2:=by rw[<-hG,ext_next,hx]; rfl
 have okG:=mG.ok hok
 have gb:G.base<=x+2:=nG▸okG
 have j1:x+0<x+2:=by omega
 have j2:x+1<x+2:=by omega
 have k1:bk G (x+0)=some ⟨55,false,pnL rv p⟩:=by rw[<-hG,bk_at hx (by simp)]; rfl
 have k2:bk G (x+1)=some ⟨52,false,rcL p.rect⟩:=by rw[<-hG,bk_at hx (by simp)]; rfl
 have hw1:IntKind.i64.wrap (p.rect.height-1)=p.rect.height-1:=wrap_sm (by have:=ok.height; omega) (by have:=ok.th; have:=ok.top; omega)
 obtain⟨K,hK⟩:=Go.Ax.exq (min p.rows.length (p.rect.height-1).toNat)
 have hht:=ok.height
 have hKi:min (p.rows.length:Int) (p.rect.height-1)=(K:Int):=by omega
 have htk:p.rows.take (p.rect.height-1).toNat=p.rows.take K:=by
  rw[<-hK,List.take_eq_take_iff]
  omega
 have hKl:(p.rows.take K).length=K:=by rw[zE3]; omega
 obtain⟨ka,kc,hcut,hit,hids⟩:=hR.cut rfl K (by omega)
 have hcutG:aSlice Tryd.prog (ext G []) 53 (.slice ra p.rows.length rc) none (some (.int .i64 (K:Int))) none=some (.slice ka K kc,ext G []):=by
  rw[<-er]
  exact hcut G fun n hn=>(m0.trans mG).get n (ids_of_scb _ hR.sc n hn) (by simp)
 rw[er]at k1 hG ⊢
 unfold pnL rcL at hG
 unfold pnL at k1
 unfold rcL at k2
 have z52:zeroOf Tryd.prog 52=some (.agg #[.int .i64 0,.int .i64 0,.int .i64 0,.int .i64 0,.int .i64 0]):=by kernel_rfl
 generalize hcode:Code.seq (Code.region 7 _ _) _=code
 unfold pnL
 simp only[hx,hbase,sr,z52,ruW,putL,Nat.reduceLeDiff,xF,ruU,entryE,Nat.reduceLT,Nat.reduceAdd,Nat.reduceEqDiff]
 rw[hG,show G=ext G [] from rfl]
 simp only[hw1,hKi,hcutG,ruW,xF,ruU,Nat.reduceLT]
 refine w_env fun E hE=>?_
 have g0:E 0=.pointer (some ⟨c,0,none⟩):=by rw[hE]; rfl
 have g3:E 3=.pointer (some ⟨x+0,0,none⟩):=by rw[hE]; rfl
 have g4:E 4=.pointer (some ⟨x+1,0,none⟩):=by rw[hE]; rfl
 have g18:E 18=.slice ka K kc:=by rw[hE]; rfl
 have g19:E 19=.int .i64 (K:Int):=by rw[hE]; rfl
 have g20:E 20=.int .i64 ((0:Nat):Int):=by rw[hE]; rfl
 clear hE
 have u53:Tryd.prog.underlying 53=some (.slice 58):=by kernel_rfl
 have s58:szOf Tryd.prog 58=some 5:=by kernel_rfl
 have ag58:aggT Tryd.prog 58=some true:=by kernel_rfl
 have z58:zeroOf Tryd.prog 58=some (.agg #[.slice none 0 0,.slice none 0 0,.int .i64 0,.int .i64 0,.bool false]):=by kernel_rfl
 have hF:∀ n∈rvs.flatMap idsV,N<=n/\n<x:=fun n hn=>⟨(h.own.ids n hn).1,hx▸(h.own.ids n hn).2.1⟩
 have hcx:c<x:=by have:=h.lt; have:=h.nx; omega
 have hlc:∀ r∈p.rows.take K,(r.cells.length:Int)=p.rect.width:=fun r hr=>ok.rows r (by rw[htk]; exact hr)
 have ht0:=ok.top
 have hl0:=ok.left
 have hwd:=ok.width
 have hth:=ok.th
 have hlw:=ok.lw
 refine w_loop (fun (j:Nat) E' X'=>j<=K/\CvR N X' c v rvs W (putRows g p.rect.top.toNat p.rect.left.toNat ((p.rows.take j).map Rw.cells)) rw cl/\Mod (rvs.flatMap idsV) G X'/\E' 0=.pointer (some ⟨c,0,none⟩)/\E' 3=.pointer (some ⟨x+0,0,none⟩)/\E' 4=.pointer (some ⟨x+1,0,none⟩)/\E' 18=.slice ka K kc/\E' 19=.int .i64 (K:Int)/\E' 20=.int .i64 (j:Int)) (fun j=>K-j) 0 ⟨zA7 _,h.grow mG,Mod.refl,g0,g3,g4,g18,g19,g20⟩ ?_
 clear g0 g3 g4 g18 g19 g20 E
 rintro j E X ⟨hj,hX,mX,g0,g3,g4,g18,g19,g20⟩
 obtain⟨y,hy⟩:=Go.Ax.exq X.next
 have okX:=mX.ok okG
 have yb:X.base<=y:=hy▸okX
 have xy:x+2<=y:=by have:=mX.next; omega
 have k1X:bk X (x+0)=some ⟨55,false,_⟩:=(mX.bk (by omega) (fun hn=>by have:=hF _ hn; omega)).trans k1
 have k2X:=(mX.bk (n:=x+1) (by omega) (fun hn=>by have:=hF _ hn; omega)).trans k2
 have y1:x+0<y:=by omega
 have y2:x+1<y:=by omega
 have m0X:Mod [] H0 X:=(m0.trans mG).step mX ok0 fun n hn=>.inr (by have:=hF n hn; omega)
 rw[show X=ext X [] from rfl]
 by_cases hjl:j<K
 ·have hd:decide ((j:Int)<(K:Int))=true:=decide_eq_true (by omega)
  obtain⟨r,hr⟩:∃ r,(p.rows.take K)[j]?=some r:=⟨_,zA5 (by omega)⟩
  have hrm:=zB5 hr
  obtain⟨n,off,s,cc,e,o,M,cs,e1,n1,r1,hle,hM,cv,pv,rfl,hRw⟩:=(hit.mono m0X fun _ _=>RwC.mod0 m0X).one hr
  rw[hKl]at e1
  simp only[Value.slice.injEq,true_and]at e1
  obtain⟨rfl,rfl⟩:=e1
  have i1:=ia_of (P:=Tryd.prog) (k:=.i64) (i:=j) (n:=n) (off:=off) (len:=K) (cap:=kc) (s:=s) u53 s58 hjl
  have l1:ldB Tryd.prog 58 (off+j*5) (some ⟨e,o,M⟩)=some (.agg ⟨rwL cv pv r⟩):=by
   rw[ld_agg ag58,s58,zA3,if_pos (by omega),hM]
  obtain⟨ca,cb,ecv⟩:=hRw.cells.sl
  obtain⟨pa,pb,epv⟩:=hRw.pos.sl
  have sc1:=hRw.sc
  have sc2:=hRw.sp
  rw[hy]at n1 sc1 sc2
  rw[ecv]at l1 sc1
  rw[epv]at l1 sc2
  obtain⟨Z,hZ⟩:=Go.Ax.exq (ext X [⟨58,false,rwL (.slice ca r.cells.length cb) (.slice pa r.pos.length pb) r⟩])
  have mZ:Mod [] X Z:=hZ▸Mod.ext okX
  have nZ:Z.next=y+1:=by rw[<-hZ,ext_next,hy]; rfl
  have kZ:bk Z (y+0)=some ⟨58,false,rwL (.slice ca r.cells.length cb) (.slice pa r.pos.length pb) r⟩:=by rw[<-hZ,bk_at hy (by simp)]; rfl
  have zb:Z.base<=y+1:=nZ▸mZ.ok okX
  have yz:y+0<y+1:=by omega
  have z1:x+0<y+1:=by omega
  have z2:x+1<y+1:=by omega
  have k1Z:=(mZ.bk (by omega) (by simp)).trans k1X
  have k2Z:=(mZ.bk (by omega) (by simp)).trans k2X
  have hrowZ:RowAt Z (.slice ca r.cells.length cb) r.cells:=by
   rw[<-ecv]
   exact RdAt.row (hRw.cells.mod0 mZ)
  unfold rwL at l1 hZ kZ
  have w1:IntKind.i64.wrap (p.rect.top+(j:Int))=p.rect.top+(j:Int):=wrap_sm (by omega) (by omega)
  simp only[g0,g4,g18,g19,g20,hy,yb,hd,i1,n1,r1,l1,sc1,sc2,z58,k2X,y2,qk_old,ruW,putL,Nat.reduceLeDiff,xF,ruU,Nat.reduceLT,Nat.reduceAdd,Nat.reduceEqDiff]
  rw[hZ,show Z=ext Z [] from rfl]
  simp only[w1]
  have hXZ:=hX.grow mZ
  have hput:=put_c hXZ (p.rect.top.toNat+j) p.rect.left.toNat (p.rect.top+(j:Int)) p.rect.left (by omega) (by omega) r.cells hrowZ (by rw[putRows_len]; omega) (by have:=hlc r hrm; omega) (by have:=hlc r hrm; omega)
  refine CallA.mono (show CallA Tryd.prog 26 _ (ext Z []) _ from hput) ?_
  rintro out Y ⟨rfl,hY,mY,_⟩
  have hwj:IntKind.i64.wrap ((j:Int)+1)=((j+1:Nat):Int):=wrap_succ (by omega)
  have htj:((p.rows.take (j+1)).map Rw.cells)=((p.rows.take j).map Rw.cells)++[r.cells]:=by
   have hr':p.rows[j]?=some r:=by
    rw[zF4,if_pos hjl]at hr
    exact hr
   rw[List.take_succ,hr',List.map_append]
   rfl
  have hlj:((p.rows.take j).map Rw.cells).length=j:=by rw[zF6,zE3]; omega
  simp only[g20,hwj,ruW,ruU,Nat.reduceLT,Nat.reduceEqDiff]
  refine loopC_next ⟨j+1,by omega,hjl,?_,(mX.trans (mZ.mono (by simp))).trans mY,?_,?_,?_,?_,?_,?_⟩
  ·rw[htj,putRows_snoc,hlj]
   exact hY
  ·exact g0
  ·exact g3
  ·exact g4
  ·exact g18
  ·exact g19
  ·rfl
 ·obtain rfl:j=K:=by omega
  have hd:decide ((j:Int)<(j:Int))=false:=decide_eq_false (by omega)
  subst hcode
  simp only[g0,g3,g4,g19,g20,hy,hd,k1X,k2X,y1,y2,qk_old,ruW,Nat.reduceLeDiff,xF,ruU,Nat.reduceLT,Nat.reduceAdd,Nat.reduceEqDiff]
  have w1:IntKind.i64.wrap (p.rect.top+p.rect.height)=p.rect.top+p.rect.height:=wrap_sm (by omega) (by omega)
  have w2:IntKind.i64.wrap (p.rect.top+p.rect.height-1)=p.rect.top+p.rect.height-1:=wrap_sm (by omega) (by omega)
  have hst:=string_c hX okX ((t.mod0 mG).mod mX (fun hn=>by have:=hF _ hn; have:=h.lt; omega) (fun hn=>by have:=hF _ hn; have:=h.lt; omega)) (p.rect.top+p.rect.height-1).toNat p.rect.left.toNat p.rect.width.toNat (p.rect.top+p.rect.height-1) p.rect.left p.rect.width (by omega) (by omega) (by omega) p.mode p.look ok.look (by omega) hs (by rw[putRows_len]; omega) (by omega) (by omega)
  rw[<-htk]at hst
  unfold Pn.look Lk.val at hst
  rw[w1,w2]
  refine CallA.mono (show CallA Tryd.prog 28 _ (ext X []) _ from hst) ?_
  rintro out Y ⟨rfl,hY,mY⟩
  have hpg:putG (putRows g p.rect.top.toNat p.rect.left.toNat ((p.rows.take (p.rect.height-1).toNat).map Rw.cells)) (p.rect.top+p.rect.height-1).toNat p.rect.left.toNat (strG p.rect.width.toNat ⟨p.fore,p.back,p.bold,p.under,p.inv⟩ p.mode)=paneG g p:=rfl
  rw[hpg]at hY
  obtain⟨z,hz⟩:=Go.Ax.exq Y.next
  have okY:=mY.ok okX
  have yz:y<=z:=by have:=mY.next; omega
  have k1Y:=(mY.bk (n:=x+0) (by omega) (fun hn=>by have:=hF _ hn; omega)).trans k1X
  have k2Y:=(mY.bk (n:=x+1) (by omega) (fun hn=>by have:=hF _ hn; omega)).trans k2X
  have z1:x+0<z:=by omega
  have z2:x+1<z:=by omega
  have zc:c<z:=by omega
  have kcY:=hY.at_
  have mHY:Mod (rvs.flatMap idsV) H Y:=((mG.mono (by simp)).trans mX).trans mY
  obtain⟨va,vc,ev⟩:∃ a c,v=.slice a (paneG g p).length c:=hY.own.grid.sl
  rw[ev]at kcY
  obtain⟨d0,h0⟩:∃ d,p.sel=d:=⟨_,rfl⟩
  obtain⟨d1,h1⟩:∃ d,decide (¬p.row=-1)=d:=⟨_,rfl⟩
  obtain⟨d2,h2⟩:∃ d,decide (rw=-1)=d:=⟨_,rfl⟩
  rw[h0]at k1Y
  rw[show Y=ext Y [] from rfl]
  have no:¬(d0=true/\d1=true/\d2=true)->curS (rw,cl) p=(rw,cl):=fun hn=>by
   unfold curS
   rw[if_neg]
   rintro⟨e0,e1,e2⟩
   exact hn ⟨h0▸e0,h1▸decide_eq_true e1,h2▸decide_eq_true e2⟩
  cases d0 with
  |false =>
   rw[no (by simp)]
   simp only[g3,hz,k1Y,z1,Tryd.results25,qk_old,ruW,xF,ruU,Nat.reduceLT,Nat.reduceAdd,Nat.reduceEqDiff]
   exact⟨trivial,hY,mHY.mono fun n hn=>zB3 _ hn⟩
  |true =>
  cases d1 with
  |false =>
   rw[no (by simp)]
   simp only[g3,hz,k1Y,z1,h1,Tryd.results25,qk_old,ruW,xF,ruU,Nat.reduceLT,Nat.reduceAdd,Nat.reduceEqDiff]
   exact⟨trivial,hY,mHY.mono fun n hn=>zB3 _ hn⟩
  |true =>
  cases d2 with
  |false =>
   rw[no (by simp)]
   simp only[g0,g3,hz,k1Y,kcY,z1,zc,h1,h2,Tryd.results25,qk_old,ruW,xF,ruU,Nat.reduceLT,Nat.reduceAdd,Nat.reduceEqDiff]
   exact⟨trivial,hY,mHY.mono fun n hn=>zB3 _ hn⟩
  |true =>
  have hcu:curS (rw,cl) p=(p.rect.top+p.row,p.rect.left+p.col):=by
   unfold curS
   rw[if_pos ⟨h0,of_decide_eq_true h1,of_decide_eq_true h2⟩]
  rw[hcu]
  have hcol:=ok.col (of_decide_eq_true h1)
  have hr1:=ok.row
  have hr2:=ok.rowh
  have w3:IntKind.i64.wrap (p.rect.top+p.row)=p.rect.top+p.row:=wrap_sm (by omega) (by omega)
  have w4:IntKind.i64.wrap (p.rect.left+p.col)=p.rect.left+p.col:=wrap_sm (by omega) (by omega)
  simp only[g0,g3,hz,k1Y,kcY,z1,zc,h1,h2,qk_old,ruW,xF,ruU,Nat.reduceLT,Nat.reduceAdd,Nat.reduceEqDiff]
  refine w_drawB [(19,15)] [] (by kernel_rfl) (by kernel_rfl) rfl fun ops anc hA hG'=>?_
  simp only[all2_cons]at hA
  have nc1:¬x+0=c:=by omega
  have nc2:¬x+1=c:=by omega
  simp only[g0,g3,g4,hz,k1Y,k2Y,kcY,z1,z2,zc,w3,w4,hA,nc1,nc2,Tryd.results25,qk_old,ruD,ruW,putL,Nat.reduceLeDiff,xF,ruU,Nat.reduceLT,Nat.reduceAdd,Nat.reduceEqDiff]
  obtain⟨hc1,hc2⟩:=hY.cur (p.rect.top+p.row) (p.rect.left+p.col)
  exact⟨hc1,(mHY.mono fun n hn=>zB3 _ hn).trans (hc2.mono fun n hn=>by simp only[zA9]at hn; simp[hn])⟩
set_option maxRecDepth 100000
def rhoX:Go.Shelf.Ren:=⟨fun n=>if n=217 then 103 else if n=219 then 92 else if n=224 then 105 else if n=225 then 104 else if n=266 then 115 else if n=267 then 106 else if n=314 then 116 else 0,fun n=>if n=46 then 106 else if n=51 then 121 else if n=146 then 122 else n,fun n=>n+1⟩
theorem laysX:Go.Proofs.Lays.n219 Tryd.prog rhoX:=by
 constructor
 all_goals first
  |exact mixed
  |kernel_rfl
  |(intro w; kernel_rfl)
theorem index_c (H:AHeap) (s:ByteArray) (c:UInt8):Pure 92 [.string s,.string ⟨#[c]⟩] H (.int .i64 (Go.Lib.indexByte s.data.toList c)):=by
 intro ρ w r hsc F n R hF hR
 have hc:=Go.Proofs.Any.stringslite_Index_one laysX s c w
 have e1:[Value.string s,Value.string ⟨#[c]⟩].map ρ.val=[Value.string s,Value.string ⟨#[c]⟩]:=map_af ρ _ (fun x hx=>by simp only[zB2,List.not_mem_nil,or_false]at hx; rcases hx with rfl|rfl<;>rfl)
 rw[e1]
 refine (hF.calls hc).mono ?_
 rintro e w' ⟨rfl,rfl⟩
 have:=hR ρ w' (St.refl r) rfl
 rwa [val_af ρ _ rfl]at this
theorem index_take (c:UInt8):∀ l:List UInt8,(Go.Lib.indexByte l c=-1/\l.takeWhile (fun x=>decide (x≠c))=l)\/(0<=Go.Lib.indexByte l c/\(Go.Lib.indexByte l c).toNat<l.length/\l.takeWhile (fun x=>decide (x≠c))=l.take (Go.Lib.indexByte l c).toNat)
 |[]=>.inl ⟨rfl,rfl⟩
 |b::l=>by
  unfold Go.Lib.indexByte
  by_cases hb:b=c
  ·subst hb
   simp
  ·have hbc:(b == c)=false:=by simpa using hb
   rw[hbc]
   have hd:decide (b≠c)=true:=decide_eq_true hb
   rw[List.takeWhile_cons,if_pos hd]
   rcases index_take c l with⟨h1,h2⟩|⟨h1,h2,h3⟩
   ·left
    rw[h1,h2]
    exact⟨rfl,rfl⟩
   ·right
    have hne:(Go.Lib.indexByte l c == -1)=false:=by simp; omega
    simp only[hne]
    rw[h3,if_neg (by decide),if_neg (by decide),show (Go.Lib.indexByte l c+1).toNat=(Go.Lib.indexByte l c).toNat+1 by omega,List.take_succ_cons,zB4]
    exact⟨by omega,by omega,rfl⟩
theorem sl_strTo {H:AHeap} {s:ByteArray} {n:Nat} (h:n<=s.size):aSlice Tryd.prog H 9 (.string s) none (some (.int .i64 (n:Int))) none=some (.string (s.extract 0 n),H):=by
 simp only[aSlice,u9,bound,zA1,zA3]
 rw[if_pos (by omega),zA3,Int.toNat_natCast,if_pos ⟨h,by omega⟩]
theorem ext_to (s:ByteArray) (n:Nat):s.extract 0 n=⟨(s.data.toList.take n).toArray⟩:=by
 apply ByteArray.ext
 apply Array.ext'
 rw[ByteArray.data_extract,Array.toList_extract,List.extract_eq_take_drop]
 simp
theorem ba_self (s:ByteArray):(⟨s.data.toList.toArray⟩:ByteArray)=s:=by
 apply ByteArray.ext
 simp
def echoB (s:ByteArray):ByteArray:=⟨(echoR s.data.toList).toArray⟩
theorem echo_cases (s:ByteArray):(Go.Lib.indexByte s.data.toList 10=-1/\echoB s=s)\/∃ n:Nat,Go.Lib.indexByte s.data.toList 10=n/\n+1<=s.size/\echoB s=s.extract 0 n:=by
 have hs:=size_len s
 rcases index_take 10 s.data.toList with⟨h1,h2⟩|⟨h1,h2,h3⟩
 ·left
  refine⟨h1,?_⟩
  unfold echoB echoR
  rw[h2,ba_self]
 ·right
  refine⟨_,(Int.toNat_of_nonneg h1).symm,by omega,?_⟩
  unfold echoB echoR
  rw[h3,ext_to]
theorem liteCut_c (H:AHeap) (s:ByteArray) (hs:s.size<=1000000):∃ a f,Pure 55 [.string s,.string ⟨#[10]⟩] H (.tuple #[.string (echoB s),.string a,.bool f]):=by
 have hi:=index_c H s 10
 rcases echo_cases s with⟨h1,h2⟩|⟨n,h1,h2,h3⟩
 ·refine⟨⟨#[]⟩,false,?_⟩
  rw[h2]
  refine callS_fn mixed Tryd.func55 rfl Tryd.ntmps55 (zB1 rfl) fun wf hsc=>?_
  rw[h1]at hi
  have hd:decide ((0:Int)<=-1)=false:=by decide
  simp only[ruW,xF,ruU,entryE,Nat.reduceLT,Nat.reduceAdd,Nat.reduceEqDiff]
  refine CallS.to (show Pure 92 _ (ext H []) _ from hi) ?_
  simp only[hd,Tryd.results55,ruW,ruU,Nat.reduceLT,Nat.reduceEqDiff]
  exact Fin.pureE rfl rfl
 ·refine⟨s.extract (n+1) s.size,true,?_⟩
  rw[h3]
  refine callS_fn mixed Tryd.func55 rfl Tryd.ntmps55 (zB1 rfl) fun wf hsc=>?_
  rw[h1]at hi
  have hd:decide ((0:Int)<=(n:Int))=true:=decide_eq_true (by omega)
  have hsz:(⟨#[10]⟩:ByteArray).size=1:=rfl
  have hw:IntKind.i64.wrap ((n:Int)+((1:Nat):Int))=((n+1:Nat):Int):=wrap_succ (by omega)
  simp only[ruW,xF,ruU,entryE,Nat.reduceLT,Nat.reduceAdd,Nat.reduceEqDiff]
  refine CallS.to (show Pure 92 _ (ext H []) _ from hi) ?_
  simp only[hd,ruW,ruU,Nat.reduceLT]
  refine w_drawB [(2,0),(2,1),(8,3),(8,7)] [] (by kernel_rfl) (by kernel_rfl) rfl fun ops anc hA hG'=>?_
  simp only[all2_cons]at hA
  simp only[ruD,ruU,Nat.reduceLT,Nat.reduceAdd,Nat.reduceEqDiff]
  have hl:=rb_lenStr (P:=Tryd.prog) (t:=9) (s:=⟨#[10]⟩) u9
  rw[hsz]at hl
  rw[wd_slice]
  refine genV_val (v:=.string (s.extract 0 n)) rfl (by decide) (fun G=>slice_aop (by simp only[ruU,Nat.reduceLT]) rfl (by simp (maxDischargeDepth:=6) only[ruU,Nat.reduceLT,bndsOk_some]) rfl ?_) (by simp (maxDischargeDepth:=6) only[idsV,ruD,ruW]) ?_
  ·simp only[bnds_some,bnds_none,ruU,Nat.reduceEqDiff]
   exact sl_strTo (by omega)
  simp only[hl,hw,goInt,ruD,ruW,ruU,Nat.reduceLT,Nat.reduceAdd,Nat.reduceEqDiff]
  rw[wd_slice]
  refine genV_val (v:=.string (s.extract (n+1) s.size)) rfl (by decide) (fun G=>slice_aop (by simp only[ruU,Nat.reduceLT]) (by simp (maxDischargeDepth:=6) only[ruU,Nat.reduceLT,bndsOk_some]) rfl rfl ?_) (by simp (maxDischargeDepth:=6) only[idsV,ruD,ruW]) ?_
  ·simp only[bnds_some,bnds_none,ruU,Nat.reduceEqDiff]
   exact sl_str rfl h2
  simp only[idsV,Tryd.results55,ruD,ruW,ruU,Nat.reduceLT,Nat.reduceAdd,Nat.reduceEqDiff]
  exact Fin.pureE rfl rfl
theorem cut_c (H:AHeap) (s:ByteArray) (hs:s.size<=1000000):∃ a f,Pure 27 [.string s,.string ⟨#[10]⟩] H (.tuple #[.string (echoB s),.string a,.bool f]):=by
 obtain⟨a,f,hc⟩:=liteCut_c H s hs
 refine⟨a,f,?_⟩
 refine callS_fn mixed Tryd.func27 rfl Tryd.ntmps27 (zB1 rfl) fun wf hsc=>?_
 simp only[ruW,xF,ruU,entryE,Nat.reduceLT,Nat.reduceAdd,Nat.reduceEqDiff]
 refine CallS.to (show Pure 55 _ (ext H []) _ from hc) ?_
 simp only[Tryd.results27,ruW,ruU,Nat.reduceLT,Nat.reduceEqDiff]
 exact Fin.pureE rfl rfl
theorem tw_take {p:UInt8->Bool}:∀ (l:List UInt8) (i:Nat),(∀ k,k<i->p (l.getD k 0)=true)->i<l.length->p (l.getD i 0)=false->l.takeWhile p=l.take i
 |[],i,_,h,_=>by simp at h
 |a::l,0,_,_,h=>by
  have:p a=false:=h
  simp[this]
 |a::l,i+1,h,hl,h0=>by
  have h1:p a=true:=h 0 (by omega)
  rw[List.takeWhile_cons,if_pos h1,List.take_succ_cons,tw_take l i (fun k hk=>h (k+1) (by omega)) (by simpa using hl) h0]
theorem tw_all {p:UInt8->Bool} (l:List UInt8) (h:∀ k,k<l.length->p (l.getD k 0)=true):l.takeWhile p=l:=by
 induction l with
 |nil=>rfl
 |cons a l ih =>
  have h1:p a=true:=h 0 (by simp)
  rw[List.takeWhile_cons,if_pos h1,ih fun k hk=>h (k+1) (by simpa using hk)]
theorem echo_c (H:AHeap) (s:ByteArray) (hs:s.size<=1000000):Pure 34 [.string s] H (.string (echoB s)):=by
 refine callS_fn mixed Tryd.func34 rfl Tryd.ntmps34 (zB1 rfl) fun wf hsc=>?_
 have u9:=u9
 have hsl:=size_len s
 have bl:∀ G:AHeap,aBuiltin Tryd.prog G .len ⟨[9]⟩ [.string s]=some (goInt s.size,G):=fun G=>bt_lenStr u9
 simp only[ruW,ruU,entryE,Nat.reduceLT]
 refine w_env fun E hE=>?_
 have g0:E 0=.string s:=by rw[hE]; rfl
 have g3:E 3=.int .i64 ((0:Nat):Int):=by rw[hE]; rfl
 clear hE
 refine blockC_meet (fun E' H'=>H'=ext H []/\E' 0=.string s/\echoB s=s) ?_ ?_
 ·refine w_loop (fun (k:Nat) E' H'=>H'=ext H []/\E' 0=.string s/\E' 3=.int .i64 (k:Int)/\k<=s.size/\(∀ j,j<k->decide (s.data.toList.getD j 0≠(10:UInt8))=true)) (fun k=>s.size-k) 0
   ⟨rfl,g0,g3,zA7 _,fun j hj=>by omega⟩ ?_
  clear g0 g3 E
  rintro k E X ⟨hX,g0,g3,hk,hall⟩
  rw[hX]
  by_cases hkl:k=s.size
  ·have hc:decide ((k:Int)<(s.size:Int))=false:=by simp[hkl]
   simp only[g0,g3,bl,goInt,hc,ruW,ruU,Nat.reduceLT,Nat.reduceEqDiff]
   refine joinR_normal ⟨rfl,by simp only[g0,ruU,Nat.reduceEqDiff],?_⟩
   have:echoR s.data.toList=s.data.toList:=tw_all _ fun j hj=>hall j (by omega)
   unfold echoB
   rw[this,ba_self]
  ·have hlt:k<s.size:=by omega
   have hc:decide ((k:Int)<(s.size:Int))=true:=decide_eq_true (by omega)
   have ix:=ix_bt (s:=s) (i:=k) (j:=(k:Int)) rfl (by omega)
   obtain⟨d,hd⟩:=Go.Ax.exq (decide (bt s.data.toList k=10))
   have hws:=wrap_succ (show k<1000000 by omega)
   have hsl2:aSlice Tryd.prog (ext H []) 9 (.string s) none (some (.int .i64 (k:Int))) none=some (.string (s.extract 0 k),ext H []):=sl_strTo (by omega)
   cases d with
   |true =>
    have hb:s.data.toList.getD k 0=10:=by
     have:=of_decide_eq_true hd
     unfold bt at this
     exact UInt8.toNat_inj.1 (by simpa using (by omega:(s.data.toList.getD k 0).toNat=10))
    have he:echoB s=s.extract 0 k:=by
     have:echoR s.data.toList=s.data.toList.take k:=tw_take _ k hall (by omega) (by rw[hb]; rfl)
     unfold echoB
     rw[this,ext_to]
    rw[he]
    simp only[g0,g3,bl,goInt,hc,ix,hd,hsl2,joinR_ret,Tryd.results34,ruW,ruU,Nat.reduceLT,Nat.reduceEqDiff]
    exact Fin.pureE rfl rfl
   |false =>
    simp only[g0,g3,bl,goInt,hc,ix,hd,hws,ruW,ruU,Nat.reduceLT,Nat.reduceEqDiff]
    refine loopC_next ⟨k+1,by omega,rfl,by simp only[g0,ruU,Nat.reduceEqDiff],by simp only[ruU],by omega,fun j hj=>?_⟩
    by_cases hjk:j=k
    ·subst hjk
     refine decide_eq_true fun hb=>of_decide_eq_false hd ?_
     unfold bt
     rw[hb]
     rfl
    ·exact hall j (by omega)
 ·rintro E X ⟨hX,g0,he⟩
  rw[hX,he]
  simp only[g0,Tryd.results34,ruW,ruU,Nat.reduceLT]
  exact Fin.pureE rfl rfl
theorem rfPane_c (q:Bool) (H:AHeap) (f:Fr) (p:Pn) (a b:Option Addr) (n m c d:Nat) (rv:Value) (hh:f.height<=200) (hw:f.width<=1000) (hr:RowsR q H rv p.rows) (hrl:p.rows.length<=1000) (hms:p.mode.size<=1000) :
  Pure 59 [.agg ⟨frL (.slice a n c) (.slice b m d) f⟩,.agg ⟨pnL rv p⟩] H (.int .i64 (pnE f.height f.width p)):=by
 obtain⟨x,hx⟩:=Go.Ax.exq H.next
 obtain⟨ra,rc,er⟩:=hr.it.sl
 refine callS_fn mixed Tryd.func59 rfl Tryd.ntmps59 (zB1 rfl) fun wf hsc=>?_
 have hok:=wf.base
 have hbase:H.base<=x:=hx▸hok
 rw[scbL_iff]at hsc
 have hs0:=hsc _ (zB9 ..)
 rw[hx]at hs0
 have hs1:scb x (.slice a n c)=true/\scb x (.slice b m d)=true:=by
  have h':(true&&(true&&(scb x (.slice a n c)&&(scb x (.slice b m d)&&(true&&(true&&true))))))=true:=hs0
  simp only[zA4]at h'
  exact⟨h'.2.2.1,h'.2.2.2.1⟩
 obtain⟨sa,sb⟩:=hs1
 have sr:=hr.sc
 rw[hx,er]at sr
 obtain⟨G,hG⟩:=Go.Ax.exq (ext H [⟨25,false,frL (.slice a n c) (.slice b m d) f⟩,⟨55,false,pnL rv p⟩])
 have mG:Mod [] H G:=hG▸Mod.ext hok
 have nG:G.next=x+2:=by rw[<-hG,ext_next,hx]; rfl
 have k0:bk G (x+0)=some ⟨25,false,frL (.slice a n c) (.slice b m d) f⟩:=by rw[<-hG,bk_at hx (by simp)]; rfl
 have k1:bk G (x+1)=some ⟨55,false,pnL rv p⟩:=by rw[<-hG,bk_at hx (by simp)]; rfl
 have j1:x+0<x+2:=by omega
 have j2:x+1<x+2:=by omega
 have gb:G.base<=x+2:=nG▸mG.ok hok
 have okG:=mG.ok hok
 have hin:=within_c G f p.rect a b n m c d hh hw
 have hva:=refV_c G p.mode (by omega) okG
 have hco:=colours_c G p.look
 rw[er]at k1 hG
 unfold frL pnL at hG
 unfold frL at hin k0
 unfold pnL at k1
 unfold rcL at hin
 rw[er]
 unfold frL pnL
 obtain⟨d1,h1⟩:∃ q,insR f.height f.width p.rect=q:=⟨_,rfl⟩
 obtain⟨d2,h2⟩:∃ q,decide (p.row < -1)=q:=⟨_,rfl⟩
 obtain⟨d3,h3⟩:∃ q,decide (p.rect.height-2<p.row)=q:=⟨_,rfl⟩
 obtain⟨d4,h4⟩:∃ q,decide (¬p.row=-1)=q:=⟨_,rfl⟩
 obtain⟨d5,h5⟩:∃ q,decide (p.col<0)=q:=⟨_,rfl⟩
 obtain⟨d6,h6⟩:∃ q,decide (p.rect.width<=p.col)=q:=⟨_,rfl⟩
 rw[h1]at hin
 simp only[hx,sa,sb,sr,ruW,ruU,entryE,Nat.reduceLT,Nat.reduceAdd,Nat.reduceEqDiff]
 rw[hG,show G=ext G [] from rfl]
 refine w_drawB [] [] (by kernel_rfl) (by kernel_rfl) rfl fun ops anc hA hG'=>?_
 simp only[nG,j1,j2,k0,k1,qk_old,ruD,ruW,Nat.reduceLeDiff,xF,ruU,Nat.reduceLT,Nat.reduceAdd,Nat.reduceEqDiff]
 refine CallS.to (show Pure 60 _ (ext G []) _ from hin) ?_
 have w1:d1=true->IntKind.i64.wrap (p.rect.height-2)=p.rect.height-2/\IntKind.i64.wrap (p.rect.height-1)=p.rect.height-1:=fun e=>by
  have:=ins_ok hh hw (h1.trans e)
  unfold rcOk at this
  exact⟨wrap_sm (by omega) (by omega),wrap_sm (by omega) (by omega)⟩
 have bad:(d1=false\/d2=true\/d3=true\/d4=true/\(d5=true\/d6=true))->pnE f.height f.width p=3:=fun hb=>by
  unfold pnE
  rw[if_pos]
  rcases hb with e|e|e|⟨e4,e⟩
  ·exact .inl (h1.trans e)
  ·exact .inr (.inl (of_decide_eq_true (h2.trans e)))
  ·exact .inr (.inr (.inl (of_decide_eq_true (h3.trans e))))
  ·refine .inr (.inr (.inr ⟨of_decide_eq_true (h4.trans e4),?_⟩))
   rcases e with e|e
   ·exact .inl (of_decide_eq_true (h5.trans e))
   ·exact .inr (of_decide_eq_true (h6.trans e))
 cases d1 with
 |false =>
  rw[bad (.inl rfl)]
  simp only[zD8,Tryd.results59,ruW,ruU,Nat.reduceLT,Nat.reduceEqDiff]
  exact Ax.Fin.mod rfl mG rfl
 |true =>
 obtain⟨w2,w3⟩:=w1 rfl
 cases d2 with
 |true =>
  rw[bad (.inr (.inl rfl))]
  simp only[nG,j2,k1,h2,zC2,Tryd.results59,qk_old,ruW,xF,ruU,Nat.reduceLT,Nat.reduceAdd,Nat.reduceEqDiff]
  exact Ax.Fin.mod rfl mG rfl
 |false =>
 cases d3 with
 |true =>
  rw[bad (.inr (.inr (.inl rfl)))]
  simp only[nG,j2,k1,h2,h3,w2,zC2,Tryd.results59,qk_old,ruW,xF,ruU,Nat.reduceLT,Nat.reduceAdd,Nat.reduceEqDiff]
  exact Ax.Fin.mod rfl mG rfl
 |false =>
 by_cases hbad:d4=true/\(d5=true\/d6=true)
 ·rw[bad (.inr (.inr (.inr hbad)))]
  obtain⟨rfl,h56⟩:=hbad
  cases d5 with
  |true =>
   simp only[nG,j2,k1,h2,h3,h4,h5,w2,zC2,Tryd.results59,qk_old,ruW,xF,ruU,Nat.reduceLT,Nat.reduceAdd,Nat.reduceEqDiff]
   exact Ax.Fin.mod rfl mG rfl
  |false =>
   obtain rfl:d6=true:=by simpa using h56
   simp only[nG,j2,k1,h2,h3,h4,h5,h6,w2,zC2,Tryd.results59,qk_old,ruW,xF,ruU,Nat.reduceLT,Nat.reduceAdd,Nat.reduceEqDiff]
   exact Ax.Fin.mod rfl mG rfl
 have hgood:¬(insR f.height f.width p.rect=false\/p.row < -1\/p.rect.height-2<p.row\/(p.row≠-1/\(p.col<0\/p.rect.width<=p.col))):=by
  rintro (e|e|e|⟨e4,e⟩)
  ·rw[h1]at e; cases e
  ·exact of_decide_eq_false h2 e
  ·exact of_decide_eq_false h3 e
  ·refine hbad ⟨by rw[<-h4]; exact decide_eq_true e4,?_⟩
   rcases e with e|e
   ·exact .inl (by rw[<-h5]; exact decide_eq_true e)
   ·exact .inr (by rw[<-h6]; exact decide_eq_true e)
 have hpn:pnE f.height f.width p=if ((p.rows.take (p.rect.height-1).toNat).any fun x=>decide ((x.cells.length:Int)≠p.rect.width))=true\/ptsR p.mode.data.toList=none\/colr p.look=false then 5 else 0:=by
  unfold pnE
  rw[if_neg hgood]
 obtain⟨R,hRv⟩:∃ R:Int,(if ((p.rows.take (p.rect.height-1).toNat).any fun x=>decide ((x.cells.length:Int)≠p.rect.width))=true\/ptsR p.mode.data.toList=none\/colr p.look=false then 5 else 0)=R:=⟨_,rfl⟩
 rw[hpn,hRv]
 have hrc:=ins_ok hh hw h1
 unfold rcOk at hrc
 have hht:1<=p.rect.height:=by
  have:=h1
  unfold insR at this
  simp only[zA4,decide_eq_true_eq]at this
  omega
 have hd46:d4=false\/(d4=true/\d5=false/\d6=false):=by
  cases d4<;>cases d5<;>cases d6<;>simp at hbad ⊢
 generalize hcode:Code.loop _=code
 generalize hcode2:Code.seq (Code.seq (Code.region 9 _ _) _) _=code2
 have hrest:∀ E:Env,E 2=.pointer (some ⟨x+0,0,none⟩)->E 3=.pointer (some ⟨x+1,0,none⟩)->E 5=.int .i64 p.rect.height->E 6=.int .i64 p.rect.width->E 7=.int .i64 ((0:Nat):Int)->wpA Tryd.prog none code (blockC 0 (seqC Tryd.prog none code2 (endA Tryd.prog Tryd.f59 (Ax.Fin Tryd.prog 59 [.agg ⟨[.int .i64 f.height,.int .i64 f.width,.slice a n c,.slice b m d,.string f.echo,.int .i64 f.ecol]⟩,.agg ⟨[.int .i64 p.rect.id,.int .i64 p.rect.top,.int .i64 p.rect.left,.int .i64 p.rect.height,.int .i64 p.rect.width,.slice ra p.rows.length rc,.int .i64 p.row,.int .i64 p.col,.string p.mode,.int .i64 p.fore,.int .i64 p.back,.bool p.bold,.bool p.under,.bool p.inv,.bool p.sel]⟩] H (.int .i64 R) H)))) (mkA 79 E []) (ext G []):=by
  intro E g2 g3 g5 g6 g7
  subst hcode
  refine w_loop (fun (j:Nat) E' X'=>X'=ext G []/\j<=p.rows.length/\((j:Int)<=p.rect.height-1)/\(∀ k r,k<j->p.rows[k]?=some r->(r.cells.length:Int)=p.rect.width)/\E' 2=.pointer (some ⟨x+0,0,none⟩)/\E' 3=.pointer (some ⟨x+1,0,none⟩)/\E' 5=.int .i64 p.rect.height/\E' 6=.int .i64 p.rect.width/\E' 7=.int .i64 (j:Int)) (fun j=>p.rows.length-j) 0 ⟨rfl,zA7 _,by omega,fun k r hk=>by omega,g2,g3,g5,g6,g7⟩ ?_
  clear g2 g3 g5 g6 g7 E
  rintro j E X ⟨hX,hj,hjh,hall,g2,g3,g5,g6,g7⟩
  rw[hX]
  have hend:(j=p.rows.length\/(j:Int)=p.rect.height-1)->((p.rows.take (p.rect.height-1).toNat).any fun x=>decide ((x.cells.length:Int)≠p.rect.width))=false:=fun he=>by
   refine List.any_eq_false.2 fun r hr=>?_
   obtain⟨i,hi⟩:=List.getElem?_of_mem hr
   rw[zF4]at hi
   split at hi
   ·rename_i hlt
    have hil:=(zE1.1 hi).1
    have:=hall i r (by omega) hi
    simp[this]
   ·cases hi
  have hfin:((p.rows.take (p.rect.height-1).toNat).any fun x=>decide ((x.cells.length:Int)≠p.rect.width))=false->∀ E:Env,E 3=.pointer (some ⟨x+1,0,none⟩)->wpA Tryd.prog none code2 (endA Tryd.prog Tryd.f59 (Ax.Fin Tryd.prog 59 [.agg ⟨[.int .i64 f.height,.int .i64 f.width,.slice a n c,.slice b m d,.string f.echo,.int .i64 f.ecol]⟩,.agg ⟨[.int .i64 p.rect.id,.int .i64 p.rect.top,.int .i64 p.rect.left,.int .i64 p.rect.height,.int .i64 p.rect.width,.slice ra p.rows.length rc,.int .i64 p.row,.int .i64 p.col,.string p.mode,.int .i64 p.fore,.int .i64 p.back,.bool p.bold,.bool p.under,.bool p.inv,.bool p.sel]⟩] H (.int .i64 R) H)) (mkA 79 E []) (ext G []):=by
   intro hany E g3
   rw[hany]at hRv
   obtain⟨e2,he2⟩:∃ q,(ptsR p.mode.data.toList).isSome=q:=⟨_,rfl⟩
   obtain⟨e3,he3⟩:∃ q,colr p.look=q:=⟨_,rfl⟩
   rw[he2]at hva
   rw[he3]at hco hRv
   unfold Pn.look Lk.val at hco
   subst hcode2
   simp only[g3,nG,j2,k1,qk_old,ruW,xF,ruU,Nat.reduceLT,Nat.reduceAdd]
   refine CallS.to (show Pure 62 _ (ext G []) _ from hva) ?_
   cases e2 with
   |false =>
    obtain rfl:5=R:=by
     rw[<-hRv,if_pos]
     refine .inr (.inl ?_)
     cases hq:ptsR p.mode.data.toList with
     |none=>rfl
     |some q=>rw[hq]at he2; cases he2
    simp only[zD8,Tryd.results59,ruW,ruU,Nat.reduceLT,Nat.reduceEqDiff]
    exact Ax.Fin.mod rfl mG rfl
   |true =>
   simp only[g3,nG,j2,k1,zC2,qk_old,ruW,Nat.reduceLeDiff,xF,ruU,Nat.reduceLT,Nat.reduceAdd,Nat.reduceEqDiff]
   refine CallS.to (show Pure 40 _ (ext G []) _ from hco) ?_
   cases e3 with
   |false =>
    obtain rfl:5=R:=by rw[<-hRv,if_pos (.inr (.inr rfl))]
    simp only[zD8,Tryd.results59,ruW,ruU,Nat.reduceLT,Nat.reduceEqDiff]
    exact Ax.Fin.mod rfl mG rfl
   |true =>
    obtain rfl:0=R:=by
     rw[<-hRv,if_neg]
     rintro (h|h|h)
     ·cases h
     ·rw[h]at he2; cases he2
     ·cases h
    simp only[zC2,Tryd.results59,ruW,ruU,Nat.reduceLT,Nat.reduceEqDiff]
    exact Ax.Fin.mod rfl mG rfl
  by_cases hjl:j<p.rows.length
  ·have hd:decide ((j:Int)<(p.rows.length:Int))=true:=decide_eq_true (by omega)
   by_cases hj2:(j:Int)<p.rect.height-1
   ·have hd2:decide ((j:Int)<p.rect.height-1)=true:=decide_eq_true hj2
    obtain⟨r,hrj⟩:∃ r,p.rows[j]?=some r:=⟨_,zA5 hjl⟩
    obtain⟨nn,off,s,cc,e,o,M,cs,e1,n1,r1,hle,hM,cv,pv,rfl,hRw⟩:=(hr.it.mono mG fun _ _=>RwC.mod0 mG).one hrj
    have e1':=er.symm.trans e1
    simp only[Value.slice.injEq,true_and]at e1'
    obtain⟨rfl,rfl⟩:=e1'
    have u53:Tryd.prog.underlying 53=some (.slice 58):=by kernel_rfl
    have s58:szOf Tryd.prog 58=some 5:=by kernel_rfl
    have i1:=ia_of (P:=Tryd.prog) (k:=.i64) (i:=j) (n:=nn) (off:=off) (len:=p.rows.length) (cap:=rc) (s:=s) u53 s58 hjl
    have hcell:M[off+j*5]?=some cv:=by
     have:=congrArg (fun l=>l[0]?) hM
     simp only[zF4,List.getElem?_drop,zD5]at this
     rw[if_pos (by decide)]at this
     exact this
    have l1:=grid_load (k:=j*5) (off:=off) (e:=e) (o:=o) hcell
    obtain⟨ca,cb,ecv⟩:=hRw.cells.sl
    rw[nG]at n1
    rw[ecv]at l1
    obtain⟨dq,hdq⟩:∃ q,decide (¬(r.cells.length:Int)=p.rect.width)=q:=⟨_,rfl⟩
    have hwj:IntKind.i64.wrap ((j:Int)+1)=((j+1:Nat):Int):=wrap_succ (by omega)
    cases dq with
    |true =>
     obtain rfl:5=R:=by
      rw[<-hRv,if_pos]
      left
      refine List.any_eq_true.2 ⟨r,?_,hdq⟩
      refine zB5 (i:=j) ?_
      rw[zF4,if_pos (by omega)]
      exact hrj
     simp only[g3,g5,g6,g7,nG,j2,k1,hd,hd2,w3,i1,n1,r1,l1,hdq,Tryd.results59,qk_old,ruW,xF,ruU,Nat.reduceLT,Nat.reduceAdd,Nat.reduceEqDiff]
     exact Ax.Fin.mod rfl mG rfl
    |false =>
     have hlen:(r.cells.length:Int)=p.rect.width:=Decidable.byContradiction fun h=>of_decide_eq_false hdq h
     simp only[g3,g5,g6,g7,nG,j2,k1,hd,hd2,w3,i1,n1,r1,l1,hdq,hwj,qk_old,ruW,xF,ruU,Nat.reduceLT,Nat.reduceAdd,Nat.reduceEqDiff]
     refine loopC_next ⟨j+1,by omega,rfl,hjl,by omega,fun k r' hk hkr=>?_,?_,?_,?_,?_,?_⟩
     ·by_cases hkj:k=j
      ·subst hkj
       rw[hrj]at hkr
       cases hkr
       exact hlen
      ·exact hall k r' (by omega) hkr
     ·exact g2
     ·exact g3
     ·exact g5
     ·exact g6
     ·rfl
   ·have hd2:decide ((j:Int)<p.rect.height-1)=false:=decide_eq_false hj2
    simp only[g3,g5,g7,nG,j2,k1,hd,hd2,w3,qk_old,ruW,xF,ruU,Nat.reduceLT,Nat.reduceAdd,Nat.reduceEqDiff]
    exact hfin (hend (.inr (by omega))) _ (by simp only[g3,ruU,Nat.reduceEqDiff])
  ·have hd:decide ((j:Int)<(p.rows.length:Int))=false:=decide_eq_false (by omega)
   simp only[g3,g7,nG,j2,k1,hd,qk_old,ruW,xF,ruU,Nat.reduceLT,Nat.reduceAdd,Nat.reduceEqDiff]
   exact hfin (hend (.inl (by omega))) _ (by simp only[g3,ruU,Nat.reduceEqDiff])
 rcases hd46 with rfl|⟨rfl,rfl,rfl⟩
 ·simp only[nG,j2,k1,h2,h3,h4,w2,zC2,qk_old,ruW,xF,ruU,Nat.reduceLT,Nat.reduceAdd,Nat.reduceEqDiff]
  refine hrest _ ?_ ?_ ?_ ?_ ?_<;>first|(simp only[ruU,Nat.reduceEqDiff]; done)|(simp only[ruU]<;>rfl)
 ·simp only[nG,j2,k1,h2,h3,h4,h5,h6,w2,zC2,qk_old,ruW,xF,ruU,Nat.reduceLT,Nat.reduceAdd,Nat.reduceEqDiff]
  refine hrest _ ?_ ?_ ?_ ?_ ?_<;>first|(simp only[ruU,Nat.reduceEqDiff]; done)|(simp only[ruU]<;>rfl)
structure SubH (H G:AHeap):Prop where
 next:G.next=H.next
 get:∀ n,n<H.next->H.get n≠none->G.get n=H.get n
def allF (H:AHeap):List Nat:=(List.range H.next).filter fun n=>(H.get n).isSome
theorem allF_ne {H:AHeap}:∀ n∈allF H,H.get n≠none:=fun n hn=>by
 have:=(List.mem_filter.1 hn).2
 intro h
 rw[h]at this
 cases this
theorem allF_sub {H G:AHeap} (hn:G.next=H.next) (hg:∀ n∈allF H,G.get n=H.get n):SubH H G:=⟨hn,fun n h1 h2=>hg n (List.mem_filter.2 ⟨List.mem_range.2 h1,by cases h:H.get n with
 |none=>exact absurd h h2
 |some o=>rfl⟩)⟩
theorem rdAt_sub {H G:AHeap} {sz cnt:Nat} {v:Value} {vs:List Value} (s:SubH H G) (h:RdAt H sz v vs cnt):RdAt G sz v vs cnt:=h.of (Nat.le_of_eq s.next.symm) fun n hn=>s.get n (h.ne n hn).2 (h.ne n hn).1
theorem itR_sub {α:Type} {H G:AHeap} {sz:Nat} {R R':List Value->α->Prop} {u:Value} {l:List α} (s:SubH H G) (h:ItR H sz R u l) (hR:∀ cs a,R cs a->R' cs a):ItR G sz R' u l:=by
 obtain⟨vs,h1,h2⟩:=h
 exact⟨vs,rdAt_sub s h1,fun i a hi=>hR _ _ (h2 i a hi)⟩
theorem rowsR_sub {H G:AHeap} {q:Bool} {rv:Value} {rows:List Rw} (s:SubH H G) (h:RowsR q H rv rows):RowsR false G rv rows:=by
 refine⟨itR_sub s h.it fun cs r hc=>?_,by rw[s.next]; exact h.sc,fun e=>by cases e⟩
 obtain⟨cv,pv,e,h⟩:=hc
 exact⟨cv,pv,e,rdAt_sub s h.cells,rdAt_sub s h.pos,by rw[s.next]; exact h.sc,by rw[s.next]; exact h.sp⟩
theorem rfCheck_c (q:Bool) (H:AHeap) (f:Fr) (pv bv:Value) (hf:FrR q H pv bv f) (bd:FrBd f):Pure 31 [.agg ⟨frL pv bv f⟩] H (.int .i64 (frE f)):=by
 refine callS_drop (fun wf hsc=>?_) (fun _ _=>rfl)
 obtain⟨x,hx⟩:=Go.Ax.exq H.next
 obtain⟨pa,pc,ep⟩:=hf.panes.sl
 obtain⟨ba,bc,eb⟩:=hf.bars.sl
 have hok:=wf.base
 have sp:=hf.sp
 have sb:=hf.sb
 rw[hx,ep]at sp
 rw[hx,eb]at sb
 refine callE_fn mixed Tryd.func31 rfl Tryd.ntmps31 (zB1 rfl) ?_
 rw[ep,eb]
 unfold frL
 obtain⟨c1,h1⟩:∃ q,decide (f.height<2)=q:=⟨_,rfl⟩
 obtain⟨c2,h2⟩:∃ q,decide (200<f.height)=q:=⟨_,rfl⟩
 obtain⟨c3,h3⟩:∃ q,decide (f.width<1)=q:=⟨_,rfl⟩
 obtain⟨c4,h4⟩:∃ q,decide (1000<f.width)=q:=⟨_,rfl⟩
 have bad:c1=true\/c2=true\/c3=true\/c4=true->frE f=3:=fun hb=>by
  unfold frE
  rw[if_pos]
  rcases hb with e|e|e|e
  ·exact .inl (of_decide_eq_true (h1.trans e))
  ·exact .inr (.inl (of_decide_eq_true (h2.trans e)))
  ·exact .inr (.inr (.inl (of_decide_eq_true (h3.trans e))))
  ·exact .inr (.inr (.inr (of_decide_eq_true (h4.trans e))))
 by_cases hbad:c1=true\/c2=true\/c3=true\/c4=true
 ·rw[bad hbad]
  have hcs:c1=true\/c1=false/\c2=true\/c1=false/\c2=false/\c3=true\/c1=false/\c2=false/\c3=false/\c4=true:=by
   cases c1<;>cases c2<;>cases c3<;>cases c4<;>simp at hbad ⊢
  rcases hcs with rfl|⟨rfl,rfl⟩|⟨rfl,rfl,rfl⟩|⟨rfl,rfl,rfl,rfl⟩
  all_goals
   simp only[hx,sp,sb,h1,h2,h3,h4,Tryd.results31,ruW,xF,ruU,entryE,Nat.reduceLT,Nat.reduceAdd,Nat.reduceEqDiff]
   exact⟨trivial,Mod.ext hok⟩
 obtain⟨rfl,rfl,rfl,rfl⟩:c1=false/\c2=false/\c3=false/\c4=false:=by
  cases c1<;>cases c2<;>cases c3<;>cases c4<;>simp at hbad ⊢
 have n1:=of_decide_eq_false h1
 have n2:=of_decide_eq_false h2
 have n3:=of_decide_eq_false h3
 have n4:=of_decide_eq_false h4
 have hh:f.height<=200:=by omega
 have hw:f.width<=1000:=by omega
 have hfrE:frE f=if pnsE f.height f.width f.panes≠0 then pnsE f.height f.width f.panes
   else if (f.bars.any fun r=>!insR f.height f.width r)=true then 3
   else if pairsR (f.panes.map Pn.rect++f.bars)=true then 9
   else if ptsR f.echo.data.toList=none then 5
   else if f.ecol < -1\/f.width<=f.ecol then 3 else 0:=by
  unfold frE
  rw[if_neg]
  omega
 rw[hfrE]
 generalize hcode:Code.seq (Code.region 11 _ _) _=code
 simp only[hx,sp,sb,h1,h2,h3,h4,ruW,xF,ruU,entryE,Nat.reduceLT,Nat.reduceAdd,Nat.reduceEqDiff]
 generalize hY:ext H _=Y
 have mY:Mod [] H Y:=hY▸Mod.ext hok
 have nY:Y.next=x+1:=by rw[<-hY,ext_next,hx]; rfl
 have kY:bk Y (x+0)=some ⟨25,false,frL (.slice pa f.panes.length pc) (.slice ba f.bars.length bc) f⟩:=by rw[<-hY,bk_at hx (by simp)]; rfl
 clear hY
 have okY:=mY.ok hok
 rw[show Y=ext Y [] from rfl]
 refine w_env fun E hE=>?_
 have g1:E 1=.pointer (some ⟨x+0,0,none⟩):=by rw[hE]; rfl
 have g3:E 3=.slice none 0 0:=by rw[hE]; rfl
 have g4:E 4=.int .i64 ((0:Nat):Int):=by rw[hE]; rfl
 clear hE
 have u22:Tryd.prog.underlying 22=some (.slice 55):=by kernel_rfl
 have s55:szOf Tryd.prog 55=some 15:=by kernel_rfl
 have ag55':aggT Tryd.prog 55=some true:=by kernel_rfl
 have u23':Tryd.prog.underlying 23=some (.slice 52):=by kernel_rfl
 have s52:szOf Tryd.prog 52=some 5:=by kernel_rfl
 have by52:bytesOf Tryd.prog 52=some 40:=by kernel_rfl
 have z52:zeroOf Tryd.prog 52=some (.agg #[.int .i64 0,.int .i64 0,.int .i64 0,.int .i64 0,.int .i64 0]):=by kernel_rfl
 have i23:intTy Tryd.prog 23=some false:=by kernel_rfl
 have ag52:aggT Tryd.prog 52=some true:=by kernel_rfl
 refine w_loop (fun (j:Nat) E' X'=>j<=f.panes.length/\Mod [] Y X'/\(∃ av,VsAt X' 52 5 av (rcsL ((f.panes.take j).map Pn.rect)) j/\(∀ k∈idsV av,x+1<=k)/\E' 3=av)/\pnsE f.height f.width (f.panes.take j)=0/\E' 1=.pointer (some ⟨x+0,0,none⟩)/\E' 4=.int .i64 (j:Int)) (fun j=>f.panes.length-j) 0 ⟨zA7 _,Mod.refl,⟨_,VsAt.nil,fun k hk=>by simp[idsV]at hk,g3⟩,rfl,g1,g4⟩ ?_
 clear g1 g3 g4 E
 rintro j E X ⟨hj,mYX,⟨av,vX,lav,g3⟩,hz0,g1,g4⟩
 have mX:=mY.trans mYX
 have okX:=mX.ok hok
 obtain⟨y,hy⟩:=Go.Ax.exq X.next
 have yb:X.base<=y:=hy▸okX
 have lx:x+1<=y:=by have:=mYX.next; omega
 have kX:=(mYX.bk (by omega) (by simp)).trans kY
 have xy:x+0<y:=by omega
 obtain⟨av0,eav⟩:=vX.len
 rw[eav]at g3 vX lav
 clear eav
 rw[show X=ext X [] from rfl]
 unfold frL at kX
 by_cases hjl:j<f.panes.length
 ·have hd:decide ((j:Int)<(f.panes.length:Int))=true:=decide_eq_true (by omega)
  obtain⟨p,hp⟩:∃ p,f.panes[j]?=some p:=⟨_,zA5 hjl⟩
  have hpm:=zB5 hp
  obtain⟨b1,b2,b3⟩:=bd.rows p hpm
  obtain⟨n,off,s,c,e,o,M,cs,e1,n1r,r1,hle,hM,rv,rfl,hR⟩:=(hf.panes.mono mX fun _ _=>PnC.mod0 mX).one hp
  have e1':=ep.symm.trans e1
  simp only[Value.slice.injEq,true_and]at e1'
  obtain⟨rfl,rfl⟩:=e1'
  have i1:=ia_of (P:=Tryd.prog) (k:=.i64) (i:=j) (n:=n) (off:=off) (len:=f.panes.length) (cap:=pc) (s:=s) u22 s55 hjl
  have l1:ldB Tryd.prog 55 (off+j*15) (some ⟨e,o,M⟩)=some (.agg ⟨pnL rv p⟩):=by
   rw[ld_agg ag55',s55,zA3,if_pos (by omega),hM]
  have l2:ldB Tryd.prog 52 (off+j*15) (some ⟨e,o,M⟩)=some (.agg ⟨rcL p.rect⟩):=by
   rw[ld_agg ag52,s52,zA3,if_pos (by omega)]
   have:=congrArg (fun l=>l.take 5) hM
   simp only[List.take_take]at this
   rw[show min 5 15=5 from rfl]at this
   rw[this]
   rfl
  obtain⟨ra,rc,er⟩:=hR.it.sl
  have n1X:=n1r
  rw[hy]at n1r
  obtain⟨ev,hev⟩:∃ q,pnE f.height f.width p=q:=⟨_,rfl⟩
  obtain⟨d,hde⟩:=Go.Ax.exq (decide (¬ev=0))
  have hck:∀ K:AHeap,SubH X K->Pure 59 [.agg ⟨frL (.slice (some ⟨n,off,s⟩) f.panes.length pc) (.slice ba f.bars.length bc) f⟩,.agg ⟨pnL (.slice ra p.rows.length rc) p⟩] K (.int .i64 ev):=fun K hs=>by
   have:=rfPane_c false K f p (some ⟨n,off,s⟩) ba f.panes.length f.bars.length pc bc rv hh hw (rowsR_sub hs hR) (by omega) (by omega)
   rw[hev,er]at this
   exact this
  unfold frL pnL at hck
  rw[er]at l1
  unfold pnL at l1
  generalize hcode2:Code.seq (Code.region 8 _ _) _=code2
  simp only[g1,g4,hy,hd,kX,xy,qk_old,ruW,xF,ruU,Nat.reduceLT,Nat.reduceAdd,Nat.reduceEqDiff]
  refine w_drawB [] [] (by kernel_rfl) (by kernel_rfl) rfl fun ops anc hA hG=>?_
  simp only[g1,g4,hy,i1,n1r,r1,l1,kX,xy,qk_old,ruD,ruW,Nat.reduceLeDiff,xF,ruU,Nat.reduceLT,Nat.reduceAdd,Nat.reduceEqDiff]
  refine genV_quiet (v:=.int .i64 ev) (allF X) (by simp only[ruU,Nat.reduceLT]) (by kernel_rfl) (by decide) (fun m hm=>allF_ne m hm) (fun K hKn hK=>?_) (by simp (maxDischargeDepth:=6) only[ruD]) ?_
  ·simp only[ruU,Nat.reduceEqDiff]
   exact hck K (allF_sub hKn hK)
  subst hcode2
  cases d with
  |true =>
   have hne:ev≠0:=of_decide_eq_true hde
   have he:=pnsE_take f.panes j p hp hz0 (by rw[hev]; exact hne)
   rw[hev]at he
   rw[he,if_pos hne]
   simp only[hde,Tryd.results31,ruD,ruW,ruU,Nat.reduceLT,Nat.reduceAdd,Nat.reduceEqDiff]
   exact mX
  |false =>
   have hev0:ev=0:=Decidable.byContradiction fun h=>of_decide_eq_false hde h
   obtain⟨A,eA⟩:=Go.Ax.exq (ext X [⟨52,false,rcL p.rect⟩])
   have mA:Mod [] X A:=eA▸Mod.ext okX
   have nA:A.next=y+1:=by rw[<-eA,ext_next,hy]; rfl
   have okA:=mA.ok okX
   have kA:bk A (y+0)=some ⟨52,false,rcL p.rect⟩:=by rw[<-eA,bk_at hy (by simp)]; rfl
   have vA:=vs_mod0 mA vX
   have rA:RdAt A 5 (.slice (some ⟨y+0,0,some 0⟩) 1 1) (rcL p.rect) 1:=⟨rfl,.inr ⟨by omega,y+0,0,some 0,1,52,false,rcL p.rect,rfl,rk_of kA,by omega,by simp[rcL],rfl⟩⟩
   have hsm:small (j+1) 40=true:=by have:=bd.panes; simp only[small,zA4,zC6]; omega
   obtain⟨v',G,ga,gv,gm,gi⟩:=vs_appR u23' s52 by52 z52 rfl i23 vA rA okA rfl (by rw[show rcL p.rect=rcsL [p.rect] from rfl,<-rcsL_app]; exact rcsL_sc _ _) hsm
   have hwj:IntKind.i64.wrap ((j:Int)+1)=((j+1:Nat):Int):=wrap_succ (by have:=bd.panes; omega)
   unfold rcL at eA l2
   simp only[g1,g3,g4,hy,i1,n1r,r1,l2,kX,xy,hde,qk_old,ruD,ruW,xF,ruU,Nat.reduceLT,Nat.reduceAdd,Nat.reduceEqDiff]
   rw[eA,ga]
   simp only[g4,hwj,ruW,ruU,Nat.reduceLT,Nat.reduceEqDiff]
   have htk:f.panes.take (j+1)=f.panes.take j++[p]:=by rw[List.take_succ,hp]; rfl
   refine loopC_next ⟨j+1,by omega,hjl,?_,⟨v',?_,?_,?_⟩,?_,?_,?_⟩
   ·exact mYX.step ((mA.mono (by simp)).trans gm) okY fun k hk=>.inr (by rw[nY]; exact lav k hk)
   ·rw[htk,List.map_append,rcsL_app]
    exact gv
   ·intro k hk
    rcases gi k hk with h|h
    ·exact lav k h
    ·omega
   ·rfl
   ·rw[htk]
    exact pnsE_snoc hz0 (hev.trans hev0)
   ·exact g1
   ·rfl
 ·obtain rfl:j=f.panes.length:=by omega
  rw[zF0]at hz0 vX
  have hd:decide ((f.panes.length:Int)<(f.panes.length:Int))=false:=decide_eq_false (by omega)
  rw[if_neg (fun h=>h hz0)]
  subst hcode
  generalize hcode3:Code.seq (Code.region 17 _ _) _=code3
  simp only[g1,g4,hy,hd,kX,xy,qk_old,ruW,xF,ruU,Nat.reduceLT,Nat.reduceAdd,Nat.reduceEqDiff]
  refine w_env fun E2 hE=>?_
  have g1':E2 1=.pointer (some ⟨x+0,0,none⟩):=by rw[hE]; simp only[g1,ruU,Nat.reduceEqDiff]
  have g3':E2 3=.slice av0 f.panes.length f.panes.length:=by rw[hE]; simp only[g3,ruU,Nat.reduceEqDiff]
  have g6':E2 6=.int .i64 ((0:Nat):Int):=by rw[hE]; (simp only[ruU]<;>rfl)
  clear hE g1 g3 g4 E
  refine w_loop (fun (j:Nat) E' X'=>j<=f.bars.length/\Mod [] Y X'/\(∃ av,VsAt X' 52 5 av (rcsL (f.panes.map Pn.rect++f.bars.take j)) (f.panes.length+j)/\(∀ k∈idsV av,x+1<=k)/\E' 3=av)/\(∀ r∈f.bars.take j,insR f.height f.width r=true)/\E' 1=.pointer (some ⟨x+0,0,none⟩)/\E' 6=.int .i64 (j:Int)) (fun j=>f.bars.length-j) 0 ⟨zA7 _,mYX,⟨_,by rw[List.take_zero,zE4,zD5]; exact vX,lav,g3'⟩,fun r hr=>by simp at hr,g1',g6'⟩ ?_
  clear g1' g3' g6' E2 mX okX hy yb lx kX xy mYX vX lav hd hj hjl
  clear y X
  rintro j E X ⟨hj,mYX,⟨av,vX,lav,g3⟩,hin,g1,g6⟩
  have mX:=mY.trans mYX
  have okX:=mX.ok hok
  obtain⟨y,hy⟩:=Go.Ax.exq X.next
  have lx:x+1<=y:=by have:=mYX.next; omega
  have kX:=(mYX.bk (by omega) (by simp)).trans kY
  have xy:x+0<y:=by omega
  obtain⟨av1,eav⟩:=vX.len
  rw[eav]at g3 vX lav
  clear eav
  rw[show X=ext X [] from rfl]
  unfold frL at kX
  by_cases hjl:j<f.bars.length
  ·have hd:decide ((j:Int)<(f.bars.length:Int))=true:=decide_eq_true (by omega)
   obtain⟨r,hr⟩:∃ r,f.bars[j]?=some r:=⟨_,zA5 hjl⟩
   obtain⟨n,off,s,c,e,o,M,cs,e1,n1r,r1,hle,hM,hR⟩:=(hf.bars.mono mX fun _ _ h=>h).one hr
   have e1':=eb.symm.trans e1
   simp only[Value.slice.injEq,true_and]at e1'
   obtain⟨rfl,rfl⟩:=e1'
   have i1:=ia_of (P:=Tryd.prog) (k:=.i64) (i:=j) (n:=n) (off:=off) (len:=f.bars.length) (cap:=bc) (s:=s) u23' s52 hjl
   have l1:ldB Tryd.prog 52 (off+j*5) (some ⟨e,o,M⟩)=some (.agg ⟨rcL r⟩):=by
    rw[ld_agg ag52,s52,zA3,if_pos (by omega),hM,hR]
   rw[hy]at n1r
   obtain⟨d,hde⟩:=Go.Ax.exq (insR f.height f.width r)
   have hwi:=fun K=>within_c K f r pa (some ⟨n,off,s⟩) f.panes.length f.bars.length pc bc hh hw
   rw[hde]at hwi
   unfold frL rcL at hwi
   unfold rcL at l1
   generalize hcode4:Code.cond (.tmp 67) _ _=code4
   simp only[g1,g6,hy,hd,kX,xy,qk_old,ruW,xF,ruU,Nat.reduceLT,Nat.reduceAdd,Nat.reduceEqDiff]
   refine w_drawB [] [] (by kernel_rfl) (by kernel_rfl) rfl fun ops anc hA hG=>?_
   simp only[g1,g6,hy,i1,n1r,r1,l1,kX,xy,qk_old,ruD,ruW,Nat.reduceLeDiff,xF,ruU,Nat.reduceLT,Nat.reduceAdd,Nat.reduceEqDiff]
   refine genV_quiet (v:=.bool d) [] (by simp only[ruU,Nat.reduceLT]) (by kernel_rfl) (by decide) (fun m hm=>by simp at hm) (fun K _ _=>?_) (by simp (maxDischargeDepth:=6) only[ruD]) ?_
   ·simp only[ruU,Nat.reduceEqDiff]
    exact hwi K
   subst hcode4
   cases d with
   |false =>
    rw[if_pos (List.any_eq_true.2 ⟨r,zB5 hr,by rw[hde]; rfl⟩)]
    simp only[zD8,Tryd.results31,ruD,ruW,ruU,Nat.reduceLT,Nat.reduceAdd]
    exact mX
   |true =>
    obtain⟨A,eA⟩:=Go.Ax.exq (ext X [⟨52,false,rcL r⟩])
    have mA:Mod [] X A:=eA▸Mod.ext okX
    have nA:A.next=y+1:=by rw[<-eA,ext_next,hy]; rfl
    have okA:=mA.ok okX
    have kA:bk A (y+0)=some ⟨52,false,rcL r⟩:=by rw[<-eA,bk_at hy (by simp)]; rfl
    have vA:=vs_mod0 mA vX
    have rA:RdAt A 5 (.slice (some ⟨y+0,0,some 0⟩) 1 1) (rcL r) 1:=⟨rfl,.inr ⟨by omega,y+0,0,some 0,1,52,false,rcL r,rfl,rk_of kA,by omega,by simp[rcL],rfl⟩⟩
    have hsm:small (f.panes.length+j+1) 40=true:=by have:=bd.panes; have:=bd.bars; simp only[small,zA4,zC6]; omega
    obtain⟨v',G,ga,gv,gm,gi⟩:=vs_appR u23' s52 by52 z52 rfl i23 vA rA okA rfl (by rw[show rcL r=rcsL [r] from rfl,<-rcsL_app]; exact rcsL_sc _ _) hsm
    have hwj:IntKind.i64.wrap ((j:Int)+1)=((j+1:Nat):Int):=wrap_succ (by have:=bd.bars; omega)
    unfold rcL at eA
    simp only[g1,g3,g6,hy,i1,n1r,r1,l1,kX,xy,zC2,qk_old,ruD,ruW,xF,ruU,Nat.reduceLT,Nat.reduceAdd,Nat.reduceEqDiff]
    rw[eA,ga]
    simp only[g6,hwj,ruW,ruU,Nat.reduceLT,Nat.reduceEqDiff]
    have htk:f.bars.take (j+1)=f.bars.take j++[r]:=by rw[List.take_succ,hr]; rfl
    refine loopC_next ⟨j+1,by omega,hjl,?_,⟨v',?_,?_,?_⟩,?_,?_,?_⟩
    ·exact mYX.step ((mA.mono (by simp)).trans gm) okY fun k hk=>.inr (by rw[nY]; exact lav k hk)
    ·rw[htk,<-List.append_assoc,rcsL_app]
     exact gv
    ·intro k hk
     rcases gi k hk with h|h
     ·exact lav k h
     ·omega
    ·rfl
    ·intro q hq
     rw[htk]at hq
     rcases zC3.1 hq with hq|hq
     ·exact hin q hq
     ·simp only[zA9]at hq
      rw[hq]; exact hde
    ·exact g1
    ·rfl
  ·obtain rfl:j=f.bars.length:=by omega
   have hd:decide ((f.bars.length:Int)<(f.bars.length:Int))=false:=decide_eq_false (by omega)
   rw[zF0]at hin vX
   have hany:(f.bars.any fun r=>!insR f.height f.width r)=false:=List.any_eq_false.2 fun r hr=>by rw[hin r hr]; decide
   rw[hany,if_neg (by decide)]
   obtain⟨L,hL⟩:=Go.Ax.exq (f.panes.map Pn.rect++f.bars)
   rw[hL]at vX
   have hLl:f.panes.length+f.bars.length=L.length:=by rw[<-hL]; simp
   rw[hLl]at vX g3 lav
   rw[hL]
   have hLb:L.length<=24:=by have:=bd.panes; have:=bd.bars; omega
   have hLok:∀ r∈L,rcOk r:=fun r hr=>by
    rw[<-hL]at hr
    rcases zC3.1 hr with hr|hr
    ·obtain⟨p,hp,rfl⟩:=zE7.1 hr
     exact ins_ok hh hw (pnsE_ok _ hz0 p hp)
    ·exact ins_ok hh hw (hin r hr)
   subst hcode3
   generalize hcode5:Code.seq (Code.seq (Code.region 25 _ _) _) _=code5
   simp only[g1,g6,hy,hd,kX,xy,qk_old,ruW,xF,ruU,Nat.reduceLT,Nat.reduceAdd,Nat.reduceEqDiff]
   refine w_env fun E2 hE=>?_
   have g1':E2 1=.pointer (some ⟨x+0,0,none⟩):=by rw[hE]; simp only[g1,ruU,Nat.reduceEqDiff]
   have g3':E2 3=.slice av1 L.length L.length:=by rw[hE]; simp only[g3,ruU,Nat.reduceEqDiff]
   have g7':E2 7=.int .i64 ((0:Nat):Int):=by rw[hE]; (simp only[ruU]<;>rfl)
   clear hE g1 g3 g6 E hd
   obtain⟨B,hB⟩:=Go.Ax.exq (pairsR L)
   rw[hB]
   refine w_loop (fun (i:Nat) E' X'=>X'=ext X []/\i<=L.length/\pairsR (L.drop i)=B/\E' 1=.pointer (some ⟨x+0,0,none⟩)/\E' 3=.slice av1 L.length L.length/\E' 7=.int .i64 (i:Int)) (fun i=>L.length-i) 0 ⟨rfl,zA7 _,hB,g1',g3',g7'⟩ ?_
   clear g1' g3' g7' E2
   rintro i E Z ⟨hZ,hi,hpr,g1,g3,g7⟩
   rw[hZ]
   clear hZ Z
   by_cases hil:i<L.length
   ·have hd:decide ((i:Int)<(L.length:Int))=true:=decide_eq_true (by omega)
    have hwi:IntKind.i64.wrap ((i:Int)+1)=((i+1:Nat):Int):=wrap_succ (by omega)
    obtain⟨n,rfl,hbn,hltn⟩:∃ n,av1=some ⟨n,0,none⟩/\bk X n=some ⟨52,true,rcsL L⟩/\n<X.next:=by
     obtain⟨_,_,⟨h0,_⟩|⟨_,n,e,h1,h2⟩⟩:=vX
     ·omega
     ·cases e
      exact⟨n,rfl,h1,h2⟩
    rw[hy]at hltn
    have hbr:rk X n=some ⟨52,true,rcsL L⟩:=rk_of hbn
    have hlr:=rcsL_len L
    have hix:∀ k,k<L.length->aIndexAddr Tryd.prog 23 (.slice (some ⟨n,0,none⟩) L.length L.length) (.int .i64 (k:Int))=some (.pointer (some ⟨n,0+k*5,none⟩)):=fun k hk=>ia_of (P:=Tryd.prog) (k:=.i64) (i:=k) (n:=n) (off:=0) (len:=L.length) (cap:=L.length) (s:=none) u23' s52 hk
    have hld:∀ k r,L[k]?=some r->ldB Tryd.prog 52 (0+k*5) (some ⟨52,true,rcsL L⟩)=some (.agg ⟨rcL r⟩):=fun k r hk=>by
     have:=(zE1.1 hk).1
     rw[ld_agg ag52,s52,zA3,if_pos (by omega),zB6,rcsL_at hk]
    obtain⟨a,ha⟩:∃ r,L[i]?=some r:=⟨_,zA5 hil⟩
    have hdr:L.drop i=a::L.drop (i+1):=by
     rw[List.drop_eq_getElem_cons hil]
     rw[zA5 hil]at ha
     rw[Option.some.inj ha]
    rw[hdr,pairsR]at hpr
    simp only[g3,g7,hd,hwi,ruW,xF,ruU,Nat.reduceLT,Nat.reduceEqDiff]
    refine w_env fun E2 hE=>?_
    have g1':E2 1=.pointer (some ⟨x+0,0,none⟩):=by rw[hE]; simp only[g1,ruU,Nat.reduceEqDiff]
    have g3':E2 3=.slice (some ⟨n,0,none⟩) L.length L.length:=by rw[hE]; simp only[g3,ruU,Nat.reduceEqDiff]
    have g7':E2 7=.int .i64 (i:Int):=by rw[hE]; simp only[g7,ruU,Nat.reduceEqDiff]
    have g8':E2 8=.int .i64 ((i+1:Nat):Int):=by rw[hE]; simp only[ruU]
    clear hE g1 g3 g7 E hd
    refine w_loop (fun (j:Nat) E' X'=>X'=ext X []/\i+1<=j/\j<=L.length/\((L.drop j).any (meetR a)||pairsR (L.drop (i+1)))=B/\E' 1=.pointer (some ⟨x+0,0,none⟩)/\E' 3=.slice (some ⟨n,0,none⟩) L.length L.length/\E' 7=.int .i64 (i:Int)/\E' 8=.int .i64 (j:Int)) (fun j=>L.length-j) (i+1) ⟨rfl,zA6 _,hil,hpr,g1',g3',g7',g8'⟩ ?_
    clear g1' g3' g7' g8' E2
    rintro j E Z ⟨hZ,hij,hj,hpj,g1,g3,g7,g8⟩
    rw[hZ]
    clear hZ Z
    by_cases hjl:j<L.length
    ·have hd:decide ((j:Int)<(L.length:Int))=true:=decide_eq_true (by omega)
     have hwj:IntKind.i64.wrap ((j:Int)+1)=((j+1:Nat):Int):=wrap_succ (by omega)
     obtain⟨r,hr⟩:∃ r,L[j]?=some r:=⟨_,zA5 hjl⟩
     have hdj:L.drop j=r::L.drop (j+1):=by
      rw[List.drop_eq_getElem_cons hjl]
      rw[zA5 hjl]at hr
      rw[Option.some.inj hr]
     obtain⟨d,hde⟩:=Go.Ax.exq (meetR a r)
     have hme:=fun K=>meet_c K a r (hLok a (zB5 ha)) (hLok r (zB5 hr))
     rw[hde]at hme
     rw[hdj,List.any_cons,hde]at hpj
     have l1:=hld i a ha
     have l2:=hld j r hr
     unfold rcL at l1 l2 hme
     simp only[g3,g8,hd,ruW,xF,ruU,Nat.reduceLT,Nat.reduceEqDiff]
     refine w_drawB [] [] (by kernel_rfl) (by kernel_rfl) rfl fun ops anc hA hG=>?_
     simp only[g3,g7,g8,hy,hix i hil,hix j hjl,hltn,hbr,l1,l2,qk_old,ruD,ruW,ruU,Nat.reduceLT,Nat.reduceAdd,Nat.reduceEqDiff]
     refine genV_quiet (v:=.bool d) [] (by simp only[ruU,Nat.reduceLT]) (by kernel_rfl) (by decide) (fun m hm=>by simp at hm) (fun K _ _=>?_) (by simp (maxDischargeDepth:=6) only[ruD]) ?_
     ·simp only[ruU,Nat.reduceEqDiff]
      exact hme K
     cases d with
     |true =>
      obtain rfl:true=B:=by rw[<-hpj]; rfl
      rw[if_pos rfl]
      simp only[Tryd.results31,ruD,ruW,ruU,Nat.reduceLT,Nat.reduceAdd]
      exact mX
     |false =>
      simp only[g8,hwj,ruD,ruW,ruU,Nat.reduceLT,Nat.reduceAdd,Nat.reduceEqDiff]
      refine loopC_next ⟨j+1,by omega,rfl,by omega,hjl,by simpa using hpj,?_,?_,?_,?_⟩
      ·exact g1
      ·exact g3
      ·exact g7
      ·rfl
    ·obtain rfl:j=L.length:=by omega
     have hd:decide ((L.length:Int)<(L.length:Int))=false:=decide_eq_false (by omega)
     rw[List.drop_length]at hpj
     simp only[g3,g7,g8,hd,hwi,ruW,xF,ruU,Nat.reduceLT,Nat.reduceEqDiff]
     refine loopC_next ⟨i+1,by omega,rfl,hil,by simpa using hpj,?_,?_,?_⟩
     ·exact g1
     ·exact g3
     ·rfl
   ·obtain rfl:i=L.length:=by omega
    have hd:decide ((L.length:Int)<(L.length:Int))=false:=decide_eq_false (by omega)
    rw[List.drop_length]at hpr
    obtain rfl:false=B:=hpr
    rw[if_neg (by decide)]
    subst hcode5
    have hva:=refV_c X f.echo (by have:=bd.echo; omega) okX
    obtain⟨e2,he2⟩:∃ q,(ptsR f.echo.data.toList).isSome=q:=⟨_,rfl⟩
    rw[he2]at hva
    obtain⟨e3,he3⟩:∃ q,decide (f.ecol < -1)=q:=⟨_,rfl⟩
    obtain⟨e4,he4⟩:∃ q,decide (f.width<=f.ecol)=q:=⟨_,rfl⟩
    simp only[g1,g3,g7,hy,hd,kX,xy,qk_old,ruW,xF,ruU,Nat.reduceLT,Nat.reduceAdd,Nat.reduceEqDiff]
    refine CallS.to (show Pure 62 _ (ext X []) _ from hva) ?_
    cases e2 with
    |false =>
     rw[if_pos (by cases hq:ptsR f.echo.data.toList with
      |none=>rfl
      |some q=>rw[hq]at he2; cases he2)]
     simp only[zD8,Tryd.results31,ruW,ruU,Nat.reduceLT]
     exact⟨trivial,mX⟩
    |true =>
    rw[if_neg (by intro hq; rw[hq]at he2; cases he2)]
    have h34:(if f.ecol < -1\/f.width<=f.ecol then (3:Int) else 0)=if (e3||e4)=true then 3 else 0:=by
     rw[<-he3,<-he4]
     simp
    rw[h34]
    cases e3 with
    |true =>
     simp only[g1,hy,kX,xy,he3,Tryd.results31,qk_old,Bool.true_or,zC2,ruW,xF,ruU,Nat.reduceLT,Nat.reduceAdd,Nat.reduceEqDiff]
     exact⟨trivial,mX⟩
    |false =>
    cases e4 with
    |true =>
     simp only[g1,hy,kX,xy,he3,he4,Tryd.results31,qk_old,Bool.or_true,zC2,ruW,xF,ruU,Nat.reduceLT,Nat.reduceAdd,Nat.reduceEqDiff]
     exact⟨trivial,mX⟩
    |false =>
     simp only[g1,hy,kX,xy,he3,he4,Tryd.results31,qk_old,Bool.or_false,zC2,ruW,xF,ruU,Nat.reduceLT,Nat.reduceAdd,Nat.reduceEqDiff]
     exact⟨rfl,mX⟩
theorem putL_nl:∀ (l:List Value) (off:Nat),putL l off []=l
 |[],0=>rfl
 |[],_+1=>rfl
 |_::_,0=>rfl
 |x::r,k+1=>by rw[putL,putL_nl r k]
theorem putL_app:∀ (A L:List Value) (n:Nat) (v:List Value),putL (A++L) (A.length+n) v=A++putL L n v
 |[],L,n,v=>by rw[zC9,zD0,zB6,zC9]
 |a::A,L,n,v=>by
  rw[List.cons_append,zB4,show A.length+1+n=(A.length+n)+1 by omega,putL,putL_app A L n v,List.cons_append]
theorem csOf_set:∀ (l:List Ce) (k:Nat) (c:Ce),k<l.length->putL (csOf l) (k*6) c.cells=csOf (l.set k c)
 |[],_,_,h=>by simp at h
 |a::l,0,c,_=>by
  rw[List.set_cons_zero,csOf_cons,csOf_cons,zE5]
  simp only[Ce.cells,List.cons_append,zC9,putL,putL_nl]
 |a::l,k+1,c,h=>by
  rw[List.set_cons_succ,csOf_cons,csOf_cons,show (k+1)*6=a.cells.length+k*6 from by simp only[Ce.cells,zB4,zD0]; omega,putL_app,csOf_set l k c (by simpa using h)]
theorem stB_cell {c:Ce} {N k:Nat} {e:TypeId} {o:Bool} {l:List Ce} (h:k<l.length):stB Tryd.prog 68 N (k*6) c.val (some ⟨e,o,csOf l⟩)=some ⟨e,o,csOf (l.set k c)⟩:=by
 have hv:c.val.cells.toList=c.cells:=rfl
 rw[stB_ok (by rw[hv]; kernel_rfl) (by rw[hv,csOf_length]; simp only[Ce.cells,zB4,zD0]; omega) (by rw[hv]; rfl) (by rw[hv]; rfl),hv,csOf_set l k c h]
theorem over_c (N:Nat) (H:AHeap) (v:Value) (rvs:List Value) (g:List (List Ce)) (r c:Int) (o:OwnG N H v rvs g) (hok:H.base<=H.next) (hw:∀ l∈g,l.length<=10000) (hgl:g.length<=10000) :
  CallA Tryd.prog 12 [.agg ⟨[v,.int .i64 r,.int .i64 c]⟩] H (fun out X=>out=.ok (.tuple ⟨[]⟩)/\Mod (rvs.flatMap idsV) H X):=by
 obtain⟨b,hb⟩:=Go.Ax.exq H.next
 have hs:scb b v=true:=by
  rcases o.at_ with⟨_,rfl⟩|⟨m,s,c',o',rfl,_,_,h,_⟩
  ·rfl
  ·exact blt_of (hb▸h)
 obtain⟨a0,c0,e0⟩:=o.grid.sl
 have hs':=hs
 rw[e0]at hs
 refine callE_fn mixed Tryd.func12 rfl Tryd.ntmps12 (zB1 rfl) ?_
 rw[e0]
 simp only[hb,hs,ruW,ruU,entryE,Nat.reduceLT]
 rw[<-e0]
 refine w_env fun E hE=>?_
 have g1:E 1=.pointer (some ⟨b+0,0,none⟩):=by rw[hE]; rfl
 have g2:E 2=.int .i64 ((0:Nat):Int):=by rw[hE]; rfl
 clear hE
 generalize hX0:ext H _=X0
 have m0:Mod (rvs.flatMap idsV) H X0:=hX0▸Mod.ext hok
 have n0:X0.next=b+1:=by rw[<-hX0,ext_next,hb]; rfl
 have k0:bk X0 (b+0)=some ⟨31,false,[v,.int .i64 r,.int .i64 c]⟩:=by rw[<-hX0,bk_at hb (by simp)]; rfl
 have o0:OwnG N X0 v rvs g:=o.of (by rw[n0]; omega) fun n _ hn _=>by rw[<-hX0]; exact ext_get_old hn
 clear hX0
 have hidb:∀ n∈rvs.flatMap idsV,n<b:=fun n hn=>hb▸(o.ids n hn).2.1
 refine w_loop (fun (k:Nat × List (List Ce)) E' X=>Mod (rvs.flatMap idsV) H X/\b+1<=X.next/\bk X (b+0)=some ⟨31,false,[v,.int .i64 r,.int .i64 c]⟩/\OwnG N X v rvs k.2/\k.2.length=g.length/\(∀ l∈k.2,l.length<=10000)/\k.1<=g.length/\E' 1=.pointer (some ⟨b+0,0,none⟩)/\E' 2=.int .i64 (k.1:Int)) (fun k=>g.length-k.1) (0,g)
  ⟨m0,by omega,k0,o0,rfl,hw,zA7 _,g1,g2⟩ ?_
 clear g1 g2 k0 n0 m0 o0
 rintro⟨i,q⟩ E X ⟨mX,xl,k0,oX,hq,hqw,hi,g1,g2⟩
 simp only at oX hq hqw hi g2
 obtain⟨x,hx⟩:=Go.Ax.exq X.next
 rw[hx]at xl
 have l0:b+0<x:=by omega
 rw[show X=ext X [] from rfl]
 by_cases hig:i=g.length
 ·have hc:decide ((i:Int)<(g.length:Int))=false:=by simp[hig]
  rw[e0]at k0
  simp only[g1,g2,hx,l0,k0,hc,ruW,xF,ruU,Nat.reduceLT,Nat.reduceEqDiff]
  simp only[Tryd.results12,ruW]
  exact⟨trivial,mX⟩
 ·have hlt:i<g.length:=by omega
  have hc:decide ((i:Int)<(g.length:Int))=true:=decide_eq_true (by omega)
  obtain⟨w1,hr1⟩:∃ r,q[i]?=some r:=⟨_,zA5 (by omega)⟩
  obtain⟨rv,hrv,hor⟩:=oX.rvOf hr1
  obtain⟨n,s,cc,f,erv,hbn,hNn,hnl⟩:=hor
  rcases oX.at_ with⟨h,_⟩|⟨m,s1,c1,o1,ev,hbm,hNm,hml,hmn⟩
  ·rw[h]at hq; simp at hq; omega
  have hnin:n∈rvs.flatMap idsV:=zF8.2 ⟨rv,zB5 hrv,by rw[erv]; simp[idsV]⟩
  have i1:=grid_ia (n:=m) (off:=0) (s:=s1) (cap:=c1) (i:=(i:Int)) (len:=g.length) rfl hlt
  have q1:∀ e,ldB Tryd.prog 39 (0+i) (some ⟨e,o1,rvs⟩)=some rv:=fun e=>grid_load (by rw[zB6]; exact hrv)
  rw[hq]at ev
  subst ev
  simp only[g1,g2,hx,l0,k0,hc,ruW,xF,ruU,Nat.reduceLT,Nat.reduceEqDiff]
  have hw1:w1.length<=10000:=hqw w1 (zB5 hr1)
  refine w_env fun E hE=>?_
  have h1:E 1=.pointer (some ⟨b+0,0,none⟩):=by rw[hE]; simp only[g1,ruU,Nat.reduceEqDiff]
  have h2:E 2=.int .i64 (i:Int):=by rw[hE]; simp only[g2,ruU,Nat.reduceEqDiff]
  have h3:E 3=.int .i64 ((0:Nat):Int):=by rw[hE]; rfl
  clear hE g1 g2
  refine w_loop (fun (t:Nat × List (List Ce)) E' Y=>Mod (rvs.flatMap idsV) H Y/\b+1<=Y.next/\bk Y (b+0)=some ⟨31,false,[.slice (some ⟨m,0,s1⟩) g.length c1,.int .i64 r,.int .i64 c]⟩/\OwnG N Y (.slice (some ⟨m,0,s1⟩) g.length c1) rvs t.2/\t.2.length=g.length/\(∀ l∈t.2,l.length<=10000)/\(∃ l',t.2[i]?=some l'/\l'.length=w1.length)/\t.1<=w1.length/\E' 1=.pointer (some ⟨b+0,0,none⟩)/\E' 2=.int .i64 (i:Int)/\E' 3=.int .i64 (t.1:Int)) (fun t=>w1.length-t.1) (0,q)
   ⟨mX,by rw[ext_next,hx]; simpa using xl,k0,oX,hq,hqw,⟨w1,hr1,rfl⟩,zA7 _,h1,h2,h3⟩ ?_
  clear h1 h2 h3 k0 oX mX hx xl l0 hbn hnl hbm hml
  rintro⟨j,q'⟩ E Y ⟨mY,yl,k0,oY,hq',hqw',⟨l',hl',hll⟩,hj,g1,g2,g3⟩
  simp only at oY hq' hqw' hl' hj g3
  obtain⟨y,hy⟩:=Go.Ax.exq Y.next
  rw[hy]at yl
  have l0:b+0<y:=by omega
  obtain⟨rv2,hrv2,hor⟩:=oY.rvOf hl'
  rw[hrv]at hrv2
  cases hrv2
  obtain⟨n2,s2,cc2,f2,erv2,hbn,_,hnl⟩:=hor
  rw[erv,hll]at erv2
  obtain rfl:n=n2:=by simp only[Value.slice.injEq,Option.some.injEq,Addr.mk.injEq]at erv2; exact erv2.1.1
  obtain⟨o2,hbm,hml⟩:∃ o2,bk Y m=some ⟨39,o2,rvs⟩/\m<Y.next:=by
   rcases oY.at_ with⟨_,h⟩|⟨m',s',c',o',e,h1,_,h2,_⟩
   ·cases h
   ·rw[hq']at e; cases e; exact⟨o',h1,h2⟩
  rw[hy]at hml hnl
  have q2:ldB Tryd.prog 39 (0+i) (some ⟨39,o2,rvs⟩)=some (.slice (some ⟨n,0,spOf s⟩) w1.length (w1.length+cc)):=grid_load (by rw[zB6,hrv,erv])
  rw[show Y=ext Y [] from rfl]
  by_cases hjw:j=w1.length
  ·have hc2:decide ((j:Int)<(w1.length:Int))=false:=by simp[hjw]
   simp only[g1,g2,g3,hy,l0,k0,hml,hbm,i1,q2,hc2,wrap_succ (show i<1000000 by omega),ruW,xF,ruU,Nat.reduceLT,Nat.reduceEqDiff]
   refine loopC_next ⟨(i+1,q'),by simp only; omega,mY,by rw[ext_next,hy]; simpa using yl,k0,oY,hq',hqw',by simp only; omega,by simp only[g1,ruU,Nat.reduceEqDiff],by simp only[ruU]⟩
  ·have hlj:j<w1.length:=by omega
   have hc2:decide ((j:Int)<(w1.length:Int))=true:=decide_eq_true (by omega)
   have i2:=row_ia (n:=n) (off:=0) (s:=spOf s) (cap:=w1.length+cc) (i:=(j:Int)) (len:=w1.length) rfl hlj
   have hst:∀ M,stB Tryd.prog 68 M (0+j*6) (.agg ⟨[.int .i64 (-77),.int .i64 0,.int .i64 0,.bool false,.bool false,.bool false]⟩) (some ⟨68,f2,csOf l'⟩)=some ⟨68,f2,csOf (l'.set j ⟨-77,0,0,false,false,false⟩)⟩:=fun M=>by
    rw[zB6]
    exact stB_cell (c:=⟨-77,0,0,false,false,false⟩) (by omega)
   simp only[g1,g2,g3,hy,l0,k0,hml,hbm,hnl,hbn,i1,i2,q2,hc2,hst,wrap_succ (show j<1000000 by omega),ruW,xF,ruU,Nat.reduceLT,Nat.reduceEqDiff]
   generalize hU:uw Y n _ _=U
   have mU:Mod [n] Y U:=hU▸Mod.uw (by simp)
   have hUb:bk U n=some ⟨68,f2,csOf (l'.set j ⟨-77,0,0,false,false,false⟩)⟩:=by
    rw[<-hU,bk_uw_eq,hbn,<-csOf_set l' j _ (by omega),zB6]
    rfl
   have oU:=oY.set (k:=i) (n:=n) (s:=spOf s) (c:=w1.length+cc) (by rw[hrv,erv,hll]) hl' (by simp) hUb mU
   have hnb:b+0∉[n]:=by have:=hidb n hnin; simp only[zA9]; omega
   refine loopC_next ⟨(j+1,q'.set i (l'.set j ⟨-77,0,0,false,false,false⟩)),by simp only; omega,mY.step mU hok (fun p hp=>by simp only[zA9]at hp; subst hp; exact .inl hnin),by have:=mU.next; rw[ext_next]; simp only[zD0]; omega,(mU.bk (by omega) hnb).trans k0,oU,by rw[List.length_set]; exact hq',fun l hl=>?_,⟨l'.set j ⟨-77,0,0,false,false,false⟩,?_,by rw[List.length_set]; exact hll⟩,by simp only; omega,?_,?_,?_⟩
   ·rcases List.mem_or_eq_of_mem_set hl with h|rfl
    ·exact hqw' l h
    ·rw[List.length_set]; omega
   ·simp only
    rw[List.getElem?_set_self (zE1.1 hl').1]
   ·exact g1
   ·exact g2
   ·rfl
structure ScR (N:Nat) (H:AHeap) (v:Value) (rvs:List Value) (W:Nat) (g:List (List Ce)):Prop where
 own:OwnG N H v rvs g
 wd:∀ l∈g,l.length=W
theorem ScR.grow {N W:Nat} {H G:AHeap} {v:Value} {rvs:List Value} {g:List (List Ce)} (h:ScR N H v rvs W g) (m:Mod [] H G):ScR N G v rvs W g:=⟨h.own.of m.next fun n _ hn _=>m.get n hn (by simp),h.wd⟩
theorem over_snoc {q cs:List Ce} {col i:Nat} {c:Ce} (hc:cs[i]?=some c) (h:col+cs.length<=q.length):overR q col (cs.take (i+1))=(overR q col (cs.take i)).set (col+i) c:=by
 have hi:=(zE1.1 hc).1
 have ht:cs.take (i+1)=cs.take i++[c]:=by rw[List.take_succ,hc]; rfl
 have hl:(cs.take i).length=i:=by rw[zE3]; omega
 have hl2:(q.take col).length=col:=by rw[zE3]; omega
 unfold overR
 rw[ht,zC8,hl]
 obtain⟨d,r,hd⟩:∃ d r,q.drop (col+i)=d::r:=by
  cases hq:q.drop (col+i) with
  |nil=>have:=congrArg List.length hq; rw[zD4]at this; simp at this; omega
  |cons d r=>exact⟨d,r,rfl⟩
 have hd2:q.drop (col+(i+[c].length))=r:=by
  rw[show col+(i+[c].length)=(col+i)+1 by simp; omega,<-zE9,hd]
  rfl
 rw[hd2,hd,List.append_assoc,List.append_assoc,List.append_assoc,List.set_append_right _ _ (by omega),hl2,Nat.add_sub_cancel_left,List.set_append_right _ _ (by omega),hl,Nat.sub_self]
 rfl
theorem rput_c {N W:Nat} {H:AHeap} {v u:Value} {rvs:List Value} {g:List (List Ce)} (rw cl:Int) (h:ScR N H v rvs W g) (hok:H.base<=H.next) (hN:N<=H.next) (row col:Nat) (ri ci:Int) (hri:ri=row) (hci:ci=col) (cs:List Ce) (hu:RowAt H u cs) (hux:∀ n∈idsV u,n∉rvs.flatMap idsV) (hr:row<g.length) (hcl:col+cs.length<=W) (hW:W<=1000) :
  CallA Tryd.prog 33 [.agg ⟨[v,.int .i64 rw,.int .i64 cl]⟩,.int .i64 ri,.int .i64 ci,u] H (fun out X=>out=.ok (.tuple ⟨[]⟩)/\ScR N X v rvs W (putG g row col cs)/\Mod (rvs.flatMap idsV) H X):=by
 subst hri hci
 obtain⟨x,hx⟩:=Go.Ax.exq H.next
 have hbase:H.base<=x:=hx▸hok
 obtain⟨q,hq⟩:∃ q,g[row]?=some q:=⟨_,zA5 hr⟩
 have hql:=h.wd q (zB5 hq)
 obtain⟨rv,hrv,hrow⟩:=h.own.rvOf hq
 obtain⟨n,t,c',o,e,hbn,hNn,hnx⟩:=hrow
 obtain⟨m,s,c2,o2,ev,hbm,hNm,hmx,hmn⟩:∃ m s c o,v=.slice (some ⟨m,0,s⟩) g.length c/\bk H m=some ⟨39,o,rvs⟩/\N<=m/\m<H.next/\m∉rvs.flatMap idsV:=by
  rcases h.own.at_ with⟨h0,_⟩|h1
  ·rw[h0]at hr; simp at hr
  ·exact h1
 have hnm:n∈rvs.flatMap idsV:=zF8.2 ⟨_,zB5 hrv,by rw[e]; simp[idsV]⟩
 obtain⟨ua,uc,eu⟩:=hu.sl
 rw[hx]at hnx hmx
 have i1:=grid_ia (n:=m) (off:=0) (s:=s) (cap:=c2) (i:=(row:Int)) rfl hr
 have l1:=grid_load (k:=row) (off:=0) (e:=39) (o:=o2) (show rvs[0+row]?=some _ by rw[zB6]; exact hrv)
 have scv:scb x v=true:=by rw[ev]; exact blt_of hmx
 have hF:∀ n∈rvs.flatMap idsV,N<=n/\n<x:=fun n hn=>⟨(h.own.ids n hn).1,hx▸(h.own.ids n hn).2.1⟩
 refine callE_fn mixed Tryd.func33 rfl Tryd.ntmps33 (zB1 rfl) ?_
 rw[eu]
 have hu':=hu
 rw[eu]at hu'
 rw[ev]at scv ⊢
 obtain⟨X0,hX0⟩:=Go.Ax.exq (ext H [⟨31,false,[.slice (some ⟨m,0,s⟩) g.length c2,.int .i64 rw,.int .i64 cl]⟩])
 have m0:Mod [] H X0:=hX0▸Mod.ext hok
 have n0:X0.next=x+1:=by rw[<-hX0,ext_next,hx]; rfl
 have k0:bk X0 (x+0)=some ⟨31,false,[.slice (some ⟨m,0,s⟩) g.length c2,.int .i64 rw,.int .i64 cl]⟩:=by rw[<-hX0,bk_at hx (by simp)]; rfl
 simp only[hx,scv,ruW,ruU,entryE,Nat.reduceLT,Nat.reduceAdd,Nat.reduceEqDiff]
 rw[hX0]
 refine w_env fun E hE=>?_
 have g1:E 1=.int .i64 (row:Int):=by rw[hE]; rfl
 have g2:E 2=.int .i64 (col:Int):=by rw[hE]; rfl
 have g3:E 3=.slice ua cs.length uc:=by rw[hE]; rfl
 have g4:E 4=.pointer (some ⟨x+0,0,none⟩):=by rw[hE]; rfl
 have g8:E 8=.int .i64 ((0:Nat):Int):=by rw[hE]; rfl
 clear hE
 have hput0:putG g row col (cs.take 0)=g:=by
  rw[putG_get hq]
  have:overR q col (cs.take 0)=q:=by simp[overR]
  rw[this]
  obtain⟨h1,h2⟩:=zE1.1 hq
  rw[<-h2]
  exact List.set_getElem_self ..
 refine w_loop (fun (i:Nat) E' X=>i<=cs.length/\ScR N X (.slice (some ⟨m,0,s⟩) g.length c2) rvs W (putG g row col (cs.take i))/\bk X n=some ⟨68,o,csOf (overR q col (cs.take i))⟩/\Mod (rvs.flatMap idsV) X0 X/\X.next=x+1/\E' 1=.int .i64 (row:Int)/\E' 2=.int .i64 (col:Int)/\E' 3=.slice ua cs.length uc/\E' 4=.pointer (some ⟨x+0,0,none⟩)/\E' 8=.int .i64 (i:Int)) (fun i=>cs.length-i) 0 ⟨zA7 _,by rw[hput0,<-ev]; exact h.grow m0,by rw[show overR q col (cs.take 0)=q by simp[overR]]; exact (m0.bk (by omega) (by simp)).trans hbn,Mod.refl,n0,g1,g2,g3,g4,g8⟩ ?_
 clear g1 g2 g3 g4 g8 E
 rintro i E X ⟨hi,hX,hbX,mX,nX,g1,g2,g3,g4,g8⟩
 have mHX:Mod (rvs.flatMap idsV) H X:=(m0.mono (by simp)).trans mX
 have kX:=(mX.bk (n:=x+0) (by omega) (fun hn=>by have:=hF _ hn; omega)).trans k0
 have kmX:=(mHX.bk (n:=m) (by omega) hmn).trans hbm
 rw[show X=ext X [] from rfl]
 by_cases hil:i<cs.length
 ·have hd:decide ((i:Int)<(cs.length:Int))=true:=decide_eq_true (by omega)
  obtain⟨c,hc⟩:∃ c,cs[i]?=some c:=⟨_,zA5 hil⟩
  have w1:IntKind.i64.wrap ((col:Int)+(i:Int))=((col+i:Nat):Int):=(wrap_sm (by omega) (by omega)).trans (by omega)
  have w2:IntKind.i64.wrap ((i:Int)+1)=((i+1:Nat):Int):=wrap_succ (by omega)
  have hne:cs≠[]:=fun h=>by rw[h]at hil; simp at hil
  have huX:=hu.of mHX.next fun k hk=>mHX.get k (hu.ne hne k hk).2 (hux k hk)
  rw[eu]at huX
  rcases huX with⟨h0,_⟩|⟨_,n1,o1,s1,x1,t1,p1,L1,eu1,b1,n1l,le1,tk1⟩
  ·rw[h0]at hil; simp at hil
  simp only[Value.slice.injEq,true_and]at eu1
  obtain⟨rfl,rfl⟩:=eu1
  have i2:=row_ia (n:=n1) (off:=o1) (s:=s1) (cap:=uc) (i:=(i:Int)) rfl hil
  have q2:=row_load (e:=t1) (o:=p1) hc le1 tk1
  have hln:(overR q col (cs.take i)).length=q.length:=overR_len (by rw[zE3]; omega)
  have i3:=row_ia (n:=n) (off:=0) (s:=spOf t) (cap:=q.length+c') (len:=q.length) (i:=((col+i:Nat):Int)) (k:=col+i) rfl (by omega)
  have q3:stB Tryd.prog 68 (x+1) (0+(col+i)*6) c.val (some ⟨68,o,csOf (overR q col (cs.take i))⟩)=some ⟨68,o,csOf ((overR q col (cs.take i)).set (col+i) c)⟩:=by
   rw[zB6]
   exact stB_cell (by omega)
  have gX0:rk X m=some ⟨39,o2,rvs⟩:=rk_of kmX
  rw[nX]at n1l
  have xm:m<x+1:=by omega
  have xn:n<x+1:=by omega
  have x0:x+0<x+1:=by omega
  have xb:X.base<=x+1:=by have:=mHX.ok hok; omega
  rw[e]at l1
  unfold Ce.val at q2 q3
  simp only[g3,g8,hd,ruW,xF,ruU,Nat.reduceLT,Nat.reduceEqDiff]
  refine w_drawB [(13,1),(13,4),(13,11),(12,1),(12,4)] [] (by kernel_rfl) (by kernel_rfl) rfl fun ops anc hA hG=>?_
  simp only[all2_cons]at hA
  simp only[g1,g2,g3,g4,g8,nX,x0,xm,xn,kX,kmX,i1,l1,i2,b1,n1l,q2,i3,hbX,q3,w1,hA,qk_old,ruD,ruW,xF,ruU,Nat.reduceLT,Nat.reduceAdd,Nat.reduceEqDiff]
  have mU:Mod [n] X (uw X n (0+(col+i)*6) c.cells):=Mod.uw (by simp)
  have hbU:bk (uw X n (0+(col+i)*6) c.cells) n=some ⟨68,o,csOf (overR q col (cs.take (i+1)))⟩:=by
   rw[bk_uw_eq,hbX,zA8,putB_eq,zB6,csOf_set _ _ _ (by omega),over_snoc hc (by omega)]
  have hgi:∀ k,putG g row col (cs.take k)=g.set row (overR q col (cs.take k)):=fun k=>putG_get hq
  have hgr:(g.set row (overR q col (cs.take i)))[row]?=some (overR q col (cs.take i)):=by
   rw[List.getElem?_set_self hr]
  refine loopC_next ⟨i+1,by omega,hil,⟨?_,?_⟩,hbU,mX.trans (mU.mono fun k hk=>by simp only[zA9]at hk; subst hk; exact hnm),by show (uw X n _ _).next=_; rw[uw_next,nX],?_,?_,?_,?_,?_⟩
  ·have ho:=hX.own
   rw[hgi]at ho ⊢
   have hln2:(overR q col (cs.take (i+1))).length=(overR q col (cs.take i)).length:=by rw[hln,overR_len (by rw[zE3]; omega)]
   have hs:=ho.set (k:=row) (l:=overR q col (cs.take i)) (l':=overR q col (cs.take (i+1))) (n:=n) (s:=spOf t) (c:=q.length+c') (by rw[hln,<-e]; exact hrv) hgr hln2 hbU mU
   rw[List.set_set]at hs
   exact hs
  ·intro l hl
   rw[hgi]at hl
   rcases List.mem_or_eq_of_mem_set hl with hl|rfl
   ·exact h.wd l hl
   ·rw[overR_len (by rw[zE3]; omega)]; exact hql
  ·exact g1
  ·exact g2
  ·exact g3
  ·exact g4
  ·simp only[w2,ruU]
 ·obtain rfl:i=cs.length:=by omega
  have hd:decide ((cs.length:Int)<(cs.length:Int))=false:=decide_eq_false (by omega)
  rw[zF0]at hX
  simp only[g3,g8,hd,Tryd.results33,ruW,xF,ruU,Nat.reduceLT,Nat.reduceEqDiff]
  exact⟨trivial,hX,mHX⟩
end Go.Proofs.YtfpckllenkifkaaDoor
namespace Go.Ax
variable {P : Program} {H : AHeap}
end Go.Ax
namespace Go.Proofs.YtfpckllenkifkaaDoor
open Go.Ax
structure Grow (N:Nat) (X:AHeap) (u:Value) (rvs:List Value) (g:List (List Ce)):Prop where
 at_:VsAt X 39 1 u rvs g.length
 row:∀ (i:Nat) (rv:Value) (l:List Ce),rvs[i]?=some rv->g[i]?=some l->OwnRow N X rv l
 nd:(rvs.flatMap idsV).Nodup
 apart:∀ n∈idsV u,N<=n/\n∉rvs.flatMap idsV
 sc:scbL X.next rvs=true
section
variable {N : Nat} {X Y Z : AHeap} {u rv : Value} {rvs : List Value} {g : List (List Ce)} {l : List Ce}
theorem Grow.nil:Grow N X (.slice none 0 0) [] []:=⟨VsAt.nil,fun i rv l h=>by simp at h,by simp,fun n hn=>by simp[idsV]at hn,rfl⟩
theorem Grow.len (o:Grow N X u rvs g):rvs.length=g.length:=by have:=o.at_.1; omega
theorem Grow.ids (o:Grow N X u rvs g):∀ n∈rvs.flatMap idsV,N<=n/\n<X.next/\X.get n≠none:=by
 intro n hn
 obtain⟨rv,hrv,hn⟩:=zF8.1 hn
 obtain⟨i,hi⟩:=List.getElem?_of_mem hrv
 have hlt:=(zE1.1 hi).1
 exact (o.row i rv (g[i]'(by rw[<-o.len]; exact hlt)) hi (zA5 (by rw[<-o.len]; exact hlt))).rng n hn
theorem Grow.of (o:Grow N X u rvs g) (hn:X.next<=Y.next) (hg:∀ n,n<X.next->n∈idsV u++rvs.flatMap idsV->Y.get n=X.get n):Grow N Y u rvs g where
 at_:=o.at_.of hn fun n h=>hg n (o.at_.ne n h).2 (List.mem_append_left _ h)
 row:=fun i rv l h1 h2=>(o.row i rv l h1 h2).of hn fun n h=>hg n ((o.row i rv l h1 h2).rng n h).2.1 (List.mem_append_right _ (zF8.2 ⟨rv,zB5 h1,h⟩))
 nd:=o.nd
 apart:=o.apart
 sc:=scbL_mono hn _ o.sc
theorem Grow.push (o:Grow N X u rvs g) (m:Mod [] X Y) (hN:N<=Y.next) (hr:OwnRow N Y rv l) (hfr:∀ n∈idsV rv,X.next<=n) (hone:one rv=true) (m2:Mod (idsV u) Y Z) (hx:bk Z Y.next=some ⟨39,true,rvs++[rv]⟩) (hlt:Y.next<Z.next) :
  Grow N Z (.slice (some ⟨Y.next,0,none⟩) (g.length+1) (g.length+1)) (rvs++[rv]) (g++[l]):=by
 have hrv1:(idsV rv).Nodup/\scb Z.next rv=true:=by
  obtain⟨n,s,c,o',rfl,_,_,h⟩:=hr
  exact⟨by simp[idsV],blt_of (Nat.lt_trans h hlt)⟩
 have huX:∀ n∈idsV u,n<X.next:=fun n h=>(o.at_.ne n h).2
 have hnx:=m.next
 refine⟨⟨by simp only[zC8,List.length_singleton]; have:=o.len; omega,by rw[List.all_append,o.at_.2.1]; simp[hone],.inr ⟨by simp,Y.next,by simp,hx,hlt⟩⟩,fun i q c h1 h2=>?_,?_,fun n hn=>?_,scbL_append (scbL_mono (zB8 hnx m2.next) _ o.sc) (by simp[scbL,hrv1.2])⟩
 ·rcases zC0 i rvs.length with h|h
  ·rw[List.getElem?_append_left h]at h1
   rw[List.getElem?_append_left (by rw[<-o.len]; exact h)]at h2
   have h3:=o.row i q c h1 h2
   refine h3.of (zB8 hnx m2.next) fun n hn=>?_
   have h4:=(h3.rng n hn).2.1
   rw[m2.get n (by omega) fun h5=>(o.apart n h5).2 (zF8.2 ⟨q,zB5 h1,hn⟩),m.get n h4 (by simp)]
  ·rw[List.getElem?_append_right h]at h1
   rw[List.getElem?_append_right (by rw[<-o.len]; exact h),<-o.len]at h2
   obtain⟨h3,h4⟩:rv=q/\l=c:=by
    cases hk:i-rvs.length with
    |zero=>rw[hk]at h1 h2; exact⟨by simpa using h1,by simpa using h2⟩
    |succ k=>rw[hk]at h1; simp at h1
   subst h3 h4
   exact hr.of m2.next fun n hn=>m2.get n (hr.rng n hn).2.1 fun h5=>by have:=huX n h5; have:=hfr n hn; omega
 ·rw[List.flatMap_append,List.nodup_append]
  refine⟨o.nd,by simpa using hrv1.1,fun a ha b hb=>?_⟩
  have h1:=(o.ids a ha).2.1
  have h2:=hfr b (by simpa using hb)
  omega
 ·simp only[idsV,zA9]at hn
  subst hn
  refine⟨hN,fun h=>?_⟩
  rw[List.flatMap_append]at h
  rcases zC3.1 h with h|h
  ·have:=(o.ids _ h).2.1; omega
  ·have:=(hr.rng Y.next (by simpa using h)).2.1; omega
theorem Grow.own (o:Grow N X u rvs g):OwnG N X u rvs g:=by
 refine⟨o.len,?_,o.row,o.nd⟩
 have hid:=o.apart
 obtain⟨h1,_,⟨h0,rfl⟩|⟨h0,n,rfl,hb,hlt⟩⟩:=o.at_
 ·exact .inl ⟨List.length_eq_zero_iff.1 h0,rfl⟩
 ·obtain⟨h2,h3⟩:=hid n (by simp[idsV])
  exact .inr ⟨n,none,_,true,rfl,hb,h2,hlt,h3⟩
end
def spC:Ce:=⟨32,0,0,false,false,false⟩
def blankG (h w:Nat):List (List Ce):=List.replicate h (List.replicate w spC)
def barC:Ce:=⟨124,0,0,false,false,false⟩
def DrO (H:AHeap) (f:Fr) (out:Out) (X:AHeap):Prop :=
 Mod [] H X/\if frE f≠0 then out=.ok (.tuple #[.agg #[.slice none 0 0,.int .i64 0,.int .i64 0],.int .i64 (frE f)])
  else if ((drawG f).any fun l=>!wholeB l)=true then out=.ok (.tuple #[.agg #[.slice none 0 0,.int .i64 0,.int .i64 0],.int .i64 5])
  else ∃ N v rvs,H.next<=N/\OwnG N X v rvs (drawG f)/\out=.ok (.tuple #[.agg #[v,.int .i64 (drawC f).1,.int .i64 (drawC f).2],.int .i64 0])/\(drawG f).length<=200/\∀ l∈drawG f,l.length<=1000
structure FrOk (f:Fr):Prop where
 h1:2<=f.height
 h2:f.height<=200
 w1:1<=f.width
 w2:f.width<=1000
 panes:pnsE f.height f.width f.panes=0
 bars:∀ r∈f.bars,insR f.height f.width r=true
 echo:ptsR f.echo.data.toList≠none
 e1:-1<=f.ecol
 e2:f.ecol<f.width
theorem frOk_of {f:Fr} (h:frE f=0):FrOk f:=by
 unfold frE at h
 split at h
 ·cases h
 rename_i h1
 split at h
 ·rename_i h2; exact absurd h h2
 rename_i h2
 split at h
 ·cases h
 rename_i h3
 split at h
 ·cases h
 split at h
 ·cases h
 rename_i h5
 split at h
 ·cases h
 rename_i h6
 refine⟨by omega,by omega,by omega,by omega,Decidable.byContradiction h2,fun r hr=>?_,h5,by omega,by omega⟩
 cases hi:insR f.height f.width r with
 |true=>rfl
 |false=>exact absurd (List.any_eq_true.2 ⟨r,hr,by rw[hi]; rfl⟩) h3
theorem pnsE_mem {h w:Int} (ps:List Pn):pnsE h w ps=0->∀ p∈ps,pnE h w p=0:=by
 induction ps with
 |nil=>intro _ p hp; cases hp
 |cons q ps ih =>
  intro h0 p hp
  have hq:=pnsE_head h0
  rw[pnsE_cons _ _ hq]at h0
  rcases zB2.1 hp with rfl|hp
  ·exact hq
  ·exact ih h0 p hp
theorem curS_keep (ps:List Pn):∀ z:Int × Int,z.1≠-1->ps.foldl curS z=z:=by
 induction ps with
 |nil=>intro z _; rfl
 |cons p ps ih =>
  intro z hz
  have:curS z p=z:=by unfold curS; rw[if_neg (fun h=>hz h.2.2)]
  rw[zF7,this]
  exact ih z hz
theorem curS_fold (ps:List Pn):(∀ p∈ps,0<=p.rect.top/\-1<=p.row)->ps.foldl curS (-1,0)=curG ps:=by
 induction ps with
 |nil=>intro _; rfl
 |cons p ps ih =>
  intro h
  obtain⟨h1,h2⟩:=h p (by simp)
  rw[zF7,curG]
  by_cases hc:p.sel=true/\p.row≠-1
  ·rw[if_pos hc]
   have:curS (-1,0) p=(p.rect.top+p.row,p.rect.left+p.col):=by unfold curS; rw[if_pos ⟨hc.1,hc.2,rfl⟩]
   rw[this]
   refine curS_keep ps _ ?_
   have:=hc.2
   simp only
   omega
  ·rw[if_neg hc]
   have:curS (-1,0) p=(-1,0):=by unfold curS; rw[if_neg (fun h=>hc ⟨h.1,h.2.1⟩)]
   rw[this]
   exact ih fun q hq=>h q (by simp[hq])
theorem draw_c (H:AHeap) (t:TabX H) (f:Fr) (pv bv:Value) (hf:FrR true H pv bv f) (bd:FrBd f) (hok:H.base<=H.next):CallA Tryd.prog 9 [.agg ⟨frL pv bv f⟩] H (fun out X=>DrO H f out X):=by
 obtain⟨x,hx⟩:=Go.Ax.exq H.next
 obtain⟨pa,pc,ep⟩:=hf.panes.sl
 obtain⟨ba,bc,eb⟩:=hf.bars.sl
 have sp:=hf.sp
 have sb:=hf.sb
 rw[hx,ep]at sp
 rw[hx,eb]at sb
 refine callE_fn mixed Tryd.func9 rfl Tryd.ntmps9 (zB1 rfl) ?_
 have z31:zeroOf Tryd.prog 31=some (.agg #[.slice none 0 0,.int .i64 0,.int .i64 0]):=by kernel_rfl
 have bl31:aBuild Tryd.prog 31 []=some (.agg #[.slice none 0 0,.int .i64 0,.int .i64 0]):=by kernel_rfl
 have bl31':aBuild Tryd.prog 31 [(1,.int .i64 (-1))]=some (.agg #[.slice none 0 0,.int .i64 (-1),.int .i64 0]):=by kernel_rfl
 have bl65:aBuild Tryd.prog 65 [(0,.agg #[.slice none 0 0,.int .i64 (-1),.int .i64 0])]=some (.agg #[.slice none 0 0,.int .i64 (-1),.int .i64 0]):=by kernel_rfl
 obtain⟨G,hG⟩:=Go.Ax.exq (ext H [⟨25,false,frL pv bv f⟩,⟨31,false,[.slice none 0 0,.int .i64 0,.int .i64 0]⟩])
 have mG:Mod [] H G:=hG▸Mod.ext hok
 have nG:G.next=x+2:=by rw[<-hG,ext_next,hx]; rfl
 have okG:=mG.ok hok
 have gb:G.base<=x+2:=nG▸okG
 have k1:bk G (x+0)=some ⟨25,false,frL pv bv f⟩:=by rw[<-hG,bk_at hx (by simp)]; rfl
 have k2:bk G (x+1)=some ⟨31,false,[.slice none 0 0,.int .i64 0,.int .i64 0]⟩:=by rw[<-hG,bk_at hx (by simp)]; rfl
 have j1:x+0<x+2:=by omega
 have j2:x+1<x+2:=by omega
 have hva:=frValid_c G (t.mod0 mG) f pv bv (hf.mod0 mG) bd
 rw[ep,eb]at k1 hG hva ⊢
 unfold frL at k1 hG hva ⊢
 generalize hcode:Code.seq (Code.region 9 _ _) _=code
 simp only[hx,sp,sb,z31,ruW,Nat.reduceLeDiff,xF,ruU,entryE,Nat.reduceLT,Nat.reduceAdd,Nat.reduceEqDiff]
 rw[hG]
 refine hva.to ?_
 rw[show G=ext G [] from rfl]
 obtain⟨ev,hev⟩:∃ q,frE f=q:=⟨_,rfl⟩
 rw[hev]at hva
 rw[hev]
 obtain⟨d,hd⟩:=Go.Ax.exq (decide (¬ev=0))
 cases d with
 |true =>
  have hne:ev≠0:=of_decide_eq_true hd
  simp only[nG,j2,k2,hd,bl31,Tryd.results9,qk_old,ruW,putL,Nat.reduceLeDiff,xF,ruU,Nat.reduceLT,Nat.reduceAdd,Nat.reduceEqDiff]
  refine⟨?_,?_⟩
  ·exact mG.step (W':=[x+1]) (Mod.uw (by simp)) hok fun n hn=>.inr (by simp only[zA9]at hn; omega)
  ·rw[hev,if_pos hne]
 |false =>
 have hev0:ev=0:=Decidable.byContradiction fun h=>of_decide_eq_false hd h
 simp only[nG,j1,k1,hd,bl31',bl65,qk_old,ruW,xF,ruU,Nat.reduceLT,Nat.reduceAdd,Nat.reduceEqDiff]
 have fo:=frOk_of (hev.trans hev0)
 obtain⟨W,hW⟩:∃ W:Nat,f.width=(W:Int):=⟨f.width.toNat,by have:=fo.w1; omega⟩
 obtain⟨h,hh⟩:∃ h:Nat,f.height=(h:Int):=⟨f.height.toNat,by have:=fo.h1; omega⟩
 have hW1:1<=W:=by have:=fo.w1; omega
 have hW2:W<=1000:=by have:=fo.w2; omega
 have hh1:2<=h:=by have:=fo.h1; omega
 have hh2:h<=200:=by have:=fo.h2; omega
 obtain⟨C,hC⟩:=Go.Ax.exq (ext G [⟨65,false,[.slice none 0 0,.int .i64 (-1),.int .i64 0]⟩])
 have mC:Mod [] G C:=hC▸Mod.ext okG
 have nC:C.next=x+3:=by rw[<-hC,ext_next,nG]; rfl
 have okC:=mC.ok okG
 have kC:bk C (x+2)=some ⟨65,false,[.slice none 0 0,.int .i64 (-1),.int .i64 0]⟩:=by rw[<-hC,show x+2=(x+2)+0 from rfl,bk_at nG (by simp)]; rfl
 have k1C:=(mC.bk (by omega) (by simp)).trans k1
 have k2C:=(mC.bk (by omega) (by simp)).trans k2
 rw[hC]
 clear hC
 refine w_env fun E hE=>?_
 have g1:E 1=.pointer (some ⟨x+0,0,none⟩):=by rw[hE]; rfl
 have g2:E 2=.pointer (some ⟨x+1,0,none⟩):=by rw[hE]; rfl
 have g5:E 5=.pointer (some ⟨x+2,0,none⟩):=by rw[hE]; rfl
 have g24:E 24=.int .i64 (h:Int):=by rw[hE]; simp only[hh,ruU,Nat.reduceEqDiff]
 have g25:E 25=.int .i64 ((0:Nat):Int):=by rw[hE]; rfl
 clear hE
 have uRows:Tryd.prog.underlying 29=some (.slice 39):=by kernel_rfl
 have szCells:szOf Tryd.prog 39=some 1:=by kernel_rfl
 have byCells:bytesOf Tryd.prog 39=some 24:=by kernel_rfl
 have zr:zeroOf Tryd.prog 39=some (.slice none 0 0):=by kernel_rfl
 have inRows:intTy Tryd.prog 29=some false:=by kernel_rfl
 have bl68:aBuild Tryd.prog 68 [(0,.int .i64 32)]=some spC.val:=by kernel_rfl
 have k1W:=k1C
 rw[hW]at k1W
 refine w_loop (fun (q:Nat × Value × List Value) E' X'=>q.1<=h/\Mod [x+2] C X'/\bk X' (x+2)=some ⟨65,false,[q.2.1,.int .i64 (-1),.int .i64 0]⟩/\Grow (x+3) X' q.2.1 q.2.2 (List.replicate q.1 (List.replicate W spC))/\(∀ rv∈q.2.2,∃ n,rv=.slice (some ⟨n,0,some 0⟩) W W)/\E' 1=.pointer (some ⟨x+0,0,none⟩)/\E' 2=.pointer (some ⟨x+1,0,none⟩)/\E' 5=.pointer (some ⟨x+2,0,none⟩)/\E' 24=.int .i64 (h:Int)/\E' 25=.int .i64 (q.1:Int)) (fun q=>h-q.1) (0,.slice none 0 0,[]) ⟨zA7 _,Mod.refl,kC,Grow.nil,fun rv h=>by simp at h,g1,g2,g5,g24,g25⟩ ?_
 clear g1 g2 g5 g24 g25 E
 rintro⟨j,u,rvs⟩ E X ⟨hj,mX,kX,gr,hsp,g1,g2,g5,g24,g25⟩
 simp only at hj kX gr hsp g25
 obtain⟨y,hy⟩:=Go.Ax.exq X.next
 have okX:=mX.ok okC
 have lx:x+3<=y:=by have:=mX.next; omega
 have k1X:=(mX.bk (n:=x+0) (by omega) (by simp)).trans k1W
 have k2X:=(mX.bk (n:=x+1) (by omega) (by simp)).trans k2C
 have y0:x+0<y:=by omega
 have y1:x+1<y:=by omega
 have y2:x+2<y:=by omega
 have hlr:(List.replicate j (List.replicate W spC)).length=j:=zD6
 have vs:=gr.at_
 rw[hlr]at vs
 obtain⟨ua,eu⟩:=vs.len
 rw[show X=ext X [] from rfl]
 by_cases hjl:j<h
 ·have hd:decide ((j:Int)<(h:Int))=true:=decide_eq_true (by omega)
  simp only[g24,g25,hd,ruW,ruU,Nat.reduceLT]
  refine w_drawB [(10,7),(10,9),(11,10),(11,7),(12,5),(12,7),(12,9),(12,10),(12,11),(13,12),(13,11),(13,10),(13,7),(14,12),(14,11),(14,10),(14,7),(15,12),(15,11),(15,10),(15,7),(16,5),(16,7),(16,9),(16,10),(16,11),(16,12)] [] (by kernel_rfl) (by kernel_rfl) rfl fun ops anc hA hG'=>?_
  simp only[all2_cons]at hA
  have hui:∀ n∈idsV u,x+3<=n:=fun n hn=>(gr.apart n hn).1
  unfold spC at bl68
  unfold Ce.val at bl68
  rw[eu]at kX
  simp only[g1,g5,hy,kX,k1X,y0,y2,bl68,qk_old,ruD,ruW,xF,ruU,Nat.reduceLT,Nat.reduceAdd,Nat.reduceEqDiff]
  refine genV_ext (v:=.slice (some ⟨y+1,0,some 0⟩) W W) (M:=[⟨68,false,csOf (List.replicate W spC)⟩]) [y+0] (by simp only[ruU,Nat.reduceLT]) (by kernel_rfl) (by decide) (fun m hm=>?_) (fun K hKn hK=>?_) (by simp (maxDischargeDepth:=6) only[hA,ruD]) ?_
  ·simp only[zA9]at hm
   rw[hm]
   exact bk_ne (bk_at hy (by simp))
  ·simp only[ruU,Nat.reduceEqDiff]
   have hKx:K.next=y+1:=by rw[hKn,ext_next,hy]; rfl
   have:=repeat_c W hW1 hW2 spC (y+0) (some 0) K (by rw[bk_get (hK _ (by simp)),bk_at hy (by simp)]; rfl)
   rw[hKx]at this
   exact this
  obtain⟨X2,hX2⟩:=Go.Ax.exq (ext (ext X [⟨68,false,[.int .i64 32,.int .i64 0,.int .i64 0,.bool false,.bool false,.bool false]⟩]) [⟨68,false,csOf (List.replicate W spC)⟩])
  have mX2:Mod [] X X2:=hX2▸(Mod.ext okX).trans (Mod.ext ((Mod.ext (W:=[]) okX).ok okX))
  have nX2:X2.next=y+2:=by rw[<-hX2,ext_next,ext_next,hy]; rfl
  have okX2:=mX2.ok okX
  have xb2:X2.base<=y+2:=nX2▸okX2
  have b1:bk X2 (y+1)=some ⟨68,false,csOf (List.replicate W spC)⟩:=by rw[<-hX2,ext_append,show y+1=y+1 from rfl,bk_at hy (by simp)]; rfl
  obtain⟨rv,hrv⟩:∃ rv,rv=Value.slice (some ⟨y+1,0,some 0⟩) W W:=⟨_,rfl⟩
  obtain⟨X3,hX3⟩:=Go.Ax.exq (ext X2 [⟨39,false,[rv]⟩])
  have mX3:Mod [] X2 X3:=hX3▸Mod.ext okX2
  have nX3:X3.next=y+3:=by rw[<-hX3,ext_next,nX2]; rfl
  have okX3:=mX3.ok okX2
  have xb3:X3.base<=y+3:=nX3▸okX3
  have b2:bk X3 (y+2)=some ⟨39,false,[rv]⟩:=by rw[<-hX3,show y+2=(y+2)+0 from rfl,bk_at nX2 (by simp)]; rfl
  have b13:=(mX3.bk (by omega) (by simp)).trans b1
  have y12:y+1<y+2:=by omega
  rw[hX2,show X2=ext X2 [] from rfl]
  rw[hrv]at hX3
  have ir:idsV (.slice (some ⟨y+1,0,some 0⟩) W W)=[y+1]:=rfl
  simp only[nX2,y12,hA,zB4,zD0,ruD,ruW,xF,ruU,Nat.reduceLT,Nat.reduceAdd]
  rw[hX3]
  have hone:one rv=true:=by rw[hrv]; rfl
  have mX13:=mX2.trans mX3
  have vs3:=vs_mod0 mX13 vs
  have hscr:scbL X3.next (rvs++[rv])=true:=scbL_append (scbL_mono mX13.next _ gr.sc) (by rw[hrv]; simp only[scbL,scb,zE6]; exact blt_of (by omega))
  have hsm:small (j+1) 24=true:=by simp only[small,zA4,zC6]; omega
  rw[eu]at vs3 hui
  refine wd_appV (e:=39) (sz:=1) (by1:=24) (z:=.slice none 0 0) (v:=.slice ua j j) (vs:=rvs) (cnt:=j) (n:=y+2) (off:=0) (cnt2:=1) (cap:=1) (s:=some 0) (b:=⟨39,false,[rv]⟩) (ws:=[rv]) uRows szCells byCells zr rfl inRows rfl (by simp only[zB7,List.map_nil,ruU,Nat.reduceEqDiff]) (by decide) vs3 (rk_of b2) (by omega) (by simp) rfl (by simp[hone]) (by decide) hsm hscr okX3 (fun r hr=>?_) fun Z D vZ mZ hD nZ=>?_
  ·simp only[zB2,List.not_mem_nil,or_false]at hr
   rcases hr with rfl|rfl|rfl|rfl|rfl<;>exact .inl (by simp only[hA])
  rw[nX3]at vZ nZ
  have hbz:bk Z (y+3)=some ⟨39,true,rvs++[rv]⟩:=by
   obtain⟨_,_,⟨h0,_⟩|⟨_,n,e,hbn,_⟩⟩:=vZ
   ·omega
   ·cases e; exact hbn
  have hbr:OwnRow (x+3) X3 rv (List.replicate W spC):=⟨y+1,false,0,false,by rw[hrv,zD6]; rfl,b13,by omega,by omega⟩
  have gr2:=gr.push (rv:=rv) (l:=List.replicate W spC) (Y:=X3) (Z:=Z) mX13 (by omega) hbr (fun q hq=>by rw[hrv]at hq; simp only[idsV,zA9]at hq; omega) hone (by rw[eu]; exact mZ) (by rw[nX3]; exact hbz) (by omega)
  rw[nX3,hlr,show List.replicate j (List.replicate W spC)++[List.replicate W spC]=List.replicate (j+1) (List.replicate W spC) from (List.replicate_succ' ..).symm]at gr2
  have okZ:=mZ.ok okX3
  have nin:x+2∉idsV (.slice ua j j):=fun hn=>by have:=hui _ hn; omega
  have kZ:bk Z (x+2)=some ⟨65,false,[.slice ua j j,.int .i64 (-1),.int .i64 0]⟩:=(mZ.bk (by omega) nin).trans ((mX13.bk (by omega) (by simp)).trans kX)
  have z2:x+2<y+4:=by omega
  have hwj:IntKind.i64.wrap ((j:Int)+1)=((j+1:Nat):Int):=wrap_succ (by omega)
  rw[nX3,show Z=ext Z [] from rfl]
  have nZ':Z.next=y+4:=nZ
  have y34:y+3<y+4:=by omega
  simp only[g25,nZ',z2,kZ,hA,y34,hwj,ruD,ruW,putL,Nat.reduceLeDiff,xF,ruU,Nat.reduceLT,Nat.reduceAdd,Nat.reduceEqDiff]
  have mXZ:Mod (idsV (.slice ua j j)) X Z:=(mX13.mono (by simp)).trans mZ
  have mU:Mod [x+2] Z (uw Z (x+2) 0 [.slice (some ⟨y+3,0,none⟩) (j+1) (j+1)]):=Mod.uw (by simp)
  refine loopC_next ⟨(j+1,.slice (some ⟨y+3,0,none⟩) (j+1) (j+1),rvs++[rv]),by simp only; omega,hjl,(mX.step mXZ okC fun n hn=>.inr (by rw[nC]; exact hui n hn)).trans mU,?_,?_,?_,?_,?_,?_,?_,?_⟩
  ·show bk (uw Z (x+2) 0 _) (x+2)=_
   rw[bk_uw_eq,kZ]
   rfl
  ·refine gr2.of mU.next fun n hn hin=>mU.get n hn ?_
   simp only[zA9]
   rintro rfl
   rcases zC3.1 hin with h1|h1
   ·have:=(gr2.apart _ h1).1; omega
   ·have:=(gr2.ids _ h1).1; omega
  ·intro r hr
   rcases zC3.1 hr with hr|hr
   ·exact hsp r hr
   ·simp only[zA9]at hr
    exact⟨y+1,hr.trans hrv⟩
  ·exact g1
  ·exact g2
  ·exact g5
  ·exact g24
  ·rfl
 ·obtain rfl:j=h:=by omega
  have hd:decide ((j:Int)<(j:Int))=false:=decide_eq_false (by omega)
  have ho:=gr.own
  have hCv:CvR (x+3) X (x+2) u rvs W (blankG j W) (-1) 0:=⟨kX,by omega,by omega,ho,hsp,fun l hl=>by rw[blankG]at hl; rw[List.eq_of_mem_replicate hl,zD6]⟩
  simp only[g24,g25,hd,ruW,ruU,Nat.reduceLT]
  have mHC:Mod [] H C:=mG.trans mC
  have mHX:Mod [] H X:=mHC.step mX hok fun n hn=>.inr (by simp only[zA9]at hn; omega)
  clear gr vs hlr kX eu ho
  subst hcode
  rw[<-hW]at k1X
  obtain⟨X0,hX0⟩:=Go.Ax.exq X
  rw[show X=ext X [] from rfl]
  simp only[g1,hy,y0,k1X,qk_old,ruW,xF,ruU,Nat.reduceLT,Nat.reduceAdd,Nat.reduceEqDiff]
  refine w_env fun E2 hE=>?_
  have g1:E2 1=.pointer (some ⟨x+0,0,none⟩):=by rw[hE]; simp only[g1,ruU,Nat.reduceEqDiff]
  have g2:E2 2=.pointer (some ⟨x+1,0,none⟩):=by rw[hE]; simp only[g2,ruU,Nat.reduceEqDiff]
  have g5:E2 5=.pointer (some ⟨x+2,0,none⟩):=by rw[hE]; simp only[g5,ruU,Nat.reduceEqDiff]
  have g45:E2 45=.slice pa f.panes.length pc:=by rw[hE]; rfl
  have g46:E2 46=.int .i64 (f.panes.length:Int):=by rw[hE]; rfl
  have g47:E2 47=.int .i64 ((0:Nat):Int):=by rw[hE]; rfl
  clear hE g24 g25 hd
  have hFl:∀ n∈(x+2)::rvs.flatMap idsV,x+2<=n/\n<y:=fun n hn=>by
   rcases zB2.1 hn with rfl|hn
   ·omega
   ·have:=hCv.own.ids n hn
    omega
  have u22:Tryd.prog.underlying 22=some (.slice 55):=by kernel_rfl
  have s55:szOf Tryd.prog 55=some 15:=by kernel_rfl
  have ag55':aggT Tryd.prog 55=some true:=by kernel_rfl
  have z55:zeroOf Tryd.prog 55=some (.agg #[.int .i64 0,.int .i64 0,.int .i64 0,.int .i64 0,.int .i64 0,.slice none 0 0,.int .i64 0,.int .i64 0,.string ⟨#[]⟩,.int .i64 0,.int .i64 0,.bool false,.bool false,.bool false,.bool false]):=by kernel_rfl
  refine w_loop (fun (j':Nat) E' X'=>j'<=f.panes.length/\CvR (x+3) X' (x+2) u rvs W ((f.panes.take j').foldl paneG (blankG j W)) ((f.panes.take j').foldl curS (-1,0)).1 ((f.panes.take j').foldl curS (-1,0)).2/\Mod ((x+2)::rvs.flatMap idsV) X X'/\E' 1=.pointer (some ⟨x+0,0,none⟩)/\E' 2=.pointer (some ⟨x+1,0,none⟩)/\E' 5=.pointer (some ⟨x+2,0,none⟩)/\E' 45=.slice pa f.panes.length pc/\E' 46=.int .i64 (f.panes.length:Int)/\E' 47=.int .i64 (j':Int)) (fun j=>f.panes.length-j) 0 ⟨zA7 _,hCv,Mod.refl,g1,g2,g5,g45,g46,g47⟩ ?_
  clear g1 g2 g5 g45 g46 g47 E2
  rintro i E Y ⟨hi,hY,mY,g1,g2,g5,g45,g46,g47⟩
  obtain⟨z,hz⟩:=Go.Ax.exq Y.next
  have okY:=mY.ok okX
  have zb:Y.base<=z:=hz▸okY
  have yz:y<=z:=by have:=mY.next; omega
  have mHY:Mod [] H Y:=mHX.step mY hok fun n hn=>.inr (by have:=hFl n hn; omega)
  have k1Y:=(mY.bk (n:=x+0) (by omega) (fun hn=>by have:=hFl _ hn; omega)).trans k1X
  have k2Y:=(mY.bk (n:=x+1) (by omega) (fun hn=>by have:=hFl _ hn; omega)).trans k2X
  have z0:x+0<z:=by omega
  have z1:x+1<z:=by omega
  rw[show Y=ext Y [] from rfl]
  have hbl:(blankG j W).length=j:=zD6
  by_cases hil:i<f.panes.length
  ·have hd:decide ((i:Int)<(f.panes.length:Int))=true:=decide_eq_true (by omega)
   obtain⟨p,hp⟩:∃ p,f.panes[i]?=some p:=⟨_,zA5 hil⟩
   have hpm:=zB5 hp
   obtain⟨b1,b2,b3⟩:=bd.rows p hpm
   obtain⟨n,off,s,cc,e,o,M,cs,e1,n1r,r1,hle,hM,rv,rfl,hR⟩:=hf.panes.one hp
   have e1':=ep.symm.trans e1
   simp only[Value.slice.injEq,true_and]at e1'
   obtain⟨rfl,rfl⟩:=e1'
   have r1Y:=(rk_get (mHY.get n n1r (by simp))).trans r1
   have n1Y:n<z:=by have:=mHY.next; omega
   have i1:=ia_of (P:=Tryd.prog) (k:=.i64) (i:=i) (n:=n) (off:=off) (len:=f.panes.length) (cap:=pc) (s:=s) u22 s55 hil
   have l1:ldB Tryd.prog 55 (off+i*15) (some ⟨e,o,M⟩)=some (.agg ⟨pnL rv p⟩):=by
    rw[ld_agg ag55',s55,zA3,if_pos (by omega),hM]
   obtain⟨ra,rc,er⟩:=hR.it.sl
   have sr:=scb_mono mHY.next _ hR.sc
   rw[hz,er]at sr
   obtain⟨Z,hZ⟩:=Go.Ax.exq (ext Y [⟨55,false,pnL rv p⟩])
   have mZ:Mod [] Y Z:=hZ▸Mod.ext okY
   have nZ:Z.next=z+1:=by rw[<-hZ,ext_next,hz]; rfl
   have kZ:bk Z (z+0)=some ⟨55,false,pnL rv p⟩:=by rw[<-hZ,bk_at hz (by simp)]; rfl
   have okZ:=mZ.ok okY
   have zb1:Z.base<=z+1:=nZ▸okZ
   have zz:z+0<z+1:=by omega
   have pok:=pnOk_of (h:=j) (w:=W) (p:=p) (by rw[<-hh,<-hW]; exact pnsE_mem _ fo.panes p hpm)
   have hgl:∀ (l:List Pn) (g:List (List Ce)),(l.foldl paneG g).length=g.length:=fun l=>by
    induction l with
    |nil=>intro g; rfl
    |cons q l ih=>intro g; rw[zF7,ih,paneG,putG_len,putRows_len]
   have hgl':((f.panes.take i).foldl paneG (blankG j W)).length=j:=(hgl _ _).trans hbl
   have hpa:=pane_c (hY.grow mZ) okZ (t.mod0 (mHY.trans mZ)) (mHY.trans mZ) hok (by omega) (by omega) (by have:=t.lt; omega) p hR (by rw[hgl']; exact pok) (by omega) hW2 (by omega) b2
   rw[er]at l1 hZ kZ hpa
   unfold pnL at l1 hZ kZ hpa
   simp only[g5,g45,g46,g47,hd,hz,zb,i1,n1Y,r1Y,l1,sr,z55,qk_old,ruW,putL,Nat.reduceLeDiff,xF,ruU,Nat.reduceLT,Nat.reduceAdd,Nat.reduceEqDiff]
   rw[hZ,show Z=ext Z [] from rfl]
   refine CallA.mono (show CallA Tryd.prog 25 _ (ext Z []) _ from hpa) ?_
   rintro out V ⟨rfl,hV,mV⟩
   have hwj:IntKind.i64.wrap ((i:Int)+1)=((i+1:Nat):Int):=wrap_succ (by have:=bd.panes; omega)
   have htk:f.panes.take (i+1)=f.panes.take i++[p]:=by rw[List.take_succ,hp]; rfl
   simp only[g47,hwj,ruW,ruU,Nat.reduceLT,Nat.reduceEqDiff]
   refine loopC_next ⟨i+1,by omega,hil,?_,(mY.trans (mZ.mono (by simp))).trans mV,?_,?_,?_,?_,?_,?_⟩
   ·rw[htk,List.foldl_append,List.foldl_append]
    exact hV
   ·exact g1
   ·exact g2
   ·exact g5
   ·exact g45
   ·exact g46
   ·rfl
  ·obtain rfl:i=f.panes.length:=by omega
   have hd:decide ((f.panes.length:Int)<(f.panes.length:Int))=false:=decide_eq_false (by omega)
   rw[zF0]at hY
   obtain⟨g,hg⟩:=Go.Ax.exq (f.panes.foldl paneG (blankG j W))
   obtain⟨⟨rw,cl⟩,hcu⟩:∃ c,f.panes.foldl curS (-1,0)=c:=⟨_,rfl⟩
   rw[hg,hcu]at hY
   simp only at hY
   simp only[g1,g46,g47,hd,hz,z0,k1Y,qk_old,ruW,xF,ruU,Nat.reduceLT,Nat.reduceAdd,Nat.reduceEqDiff]
   refine w_env fun E2 hE=>?_
   have g1:E2 1=.pointer (some ⟨x+0,0,none⟩):=by rw[hE]; simp only[g1,ruU,Nat.reduceEqDiff]
   have g2:E2 2=.pointer (some ⟨x+1,0,none⟩):=by rw[hE]; simp only[g2,ruU,Nat.reduceEqDiff]
   have g5:E2 5=.pointer (some ⟨x+2,0,none⟩):=by rw[hE]; simp only[g5,ruU,Nat.reduceEqDiff]
   have g56:E2 56=.slice ba f.bars.length bc:=by rw[hE]; rfl
   have g57:E2 57=.int .i64 (f.bars.length:Int):=by rw[hE]; rfl
   have g58:E2 58=.int .i64 ((0:Nat):Int):=by rw[hE]; rfl
   clear hE g45 g46 g47 hd
   have u23':Tryd.prog.underlying 23=some (.slice 52):=by kernel_rfl
   have s52:szOf Tryd.prog 52=some 5:=by kernel_rfl
   have ag52:aggT Tryd.prog 52=some true:=by kernel_rfl
   have z52:zeroOf Tryd.prog 52=some (.agg #[.int .i64 0,.int .i64 0,.int .i64 0,.int .i64 0,.int .i64 0]):=by kernel_rfl
   have bl68b:aBuild Tryd.prog 68 [(0,.int .i64 124)]=some (.agg #[.int .i64 124,.int .i64 0,.int .i64 0,.bool false,.bool false,.bool false]):=by kernel_rfl
   refine w_loop (fun (j':Nat) E' X'=>j'<=f.bars.length/\CvR (x+3) X' (x+2) u rvs W ((f.bars.take j').foldl barG g) rw cl/\Mod ((x+2)::rvs.flatMap idsV) X X'/\E' 1=.pointer (some ⟨x+0,0,none⟩)/\E' 2=.pointer (some ⟨x+1,0,none⟩)/\E' 5=.pointer (some ⟨x+2,0,none⟩)/\E' 56=.slice ba f.bars.length bc/\E' 57=.int .i64 (f.bars.length:Int)/\E' 58=.int .i64 (j':Int)) (fun j=>f.bars.length-j) 0 ⟨zA7 _,hY,mY,g1,g2,g5,g56,g57,g58⟩ ?_
   have hgl:∀ (l:List Pn) (g:List (List Ce)),(l.foldl paneG g).length=g.length:=fun l=>by
    induction l with
    |nil=>intro g; rfl
    |cons q l ih=>intro g; rw[zF7,ih,paneG,putG_len,putRows_len]
   have hgj:g.length=j:=by rw[<-hg,hgl]; exact hbl
   have hbl2:∀ (l:List Rc) (g:List (List Ce)),(l.foldl barG g).length=g.length:=fun l=>by
    induction l with
    |nil=>intro g; rfl
    |cons q l ih=>intro g; rw[zF7,ih,barG,putRows_len]
   clear g1 g2 g5 g56 g57 g58 E2 hY mY mHY k1Y k2Y z0 z1 zb yz hz okY
   rintro i E Y ⟨hi,hY,mY,g1,g2,g5,g56,g57,g58⟩
   obtain⟨z,hz⟩:=Go.Ax.exq Y.next
   have okY:=mY.ok okX
   have zb:Y.base<=z:=hz▸okY
   have yz:y<=z:=by have:=mY.next; omega
   have mHY:Mod [] H Y:=mHX.step mY hok fun n hn=>.inr (by have:=hFl n hn; omega)
   have k1Y:=(mY.bk (n:=x+0) (by omega) (fun hn=>by have:=hFl _ hn; omega)).trans k1X
   have z0:x+0<z:=by omega
   rw[show Y=ext Y [] from rfl]
   by_cases hil:i<f.bars.length
   ·have hd:decide ((i:Int)<(f.bars.length:Int))=true:=decide_eq_true (by omega)
    obtain⟨r,hr⟩:∃ r,f.bars[i]?=some r:=⟨_,zA5 hil⟩
    obtain⟨n,off,s,cc,e,o,M,cs,e1,n1r,r1,hle,hM,hR⟩:=hf.bars.one hr
    have e1':=eb.symm.trans e1
    simp only[Value.slice.injEq,true_and]at e1'
    obtain⟨rfl,rfl⟩:=e1'
    have r1Y:=(rk_get (mHY.get n n1r (by simp))).trans r1
    have n1Y:n<z:=by have:=mHY.next; omega
    have i1:=ia_of (P:=Tryd.prog) (k:=.i64) (i:=i) (n:=n) (off:=off) (len:=f.bars.length) (cap:=bc) (s:=s) u23' s52 hil
    have l1:ldB Tryd.prog 52 (off+i*5) (some ⟨e,o,M⟩)=some (.agg ⟨rcL r⟩):=by
     rw[ld_agg ag52,s52,zA3,if_pos (by omega),hM,hR]
    obtain⟨Z,hZ⟩:=Go.Ax.exq (ext Y [⟨52,false,rcL r⟩])
    have mZ:Mod [] Y Z:=hZ▸Mod.ext okY
    have nZ:Z.next=z+1:=by rw[<-hZ,ext_next,hz]; rfl
    have kZ:bk Z (z+0)=some ⟨52,false,rcL r⟩:=by rw[<-hZ,bk_at hz (by simp)]; rfl
    have okZ:=mZ.ok okY
    have hin:=fo.bars r (zB5 hr)
    unfold insR at hin
    simp only[zA4,decide_eq_true_eq]at hin
    obtain⟨rh,hrh⟩:∃ n:Nat,r.height=(n:Int):=⟨r.height.toNat,by omega⟩
    obtain⟨rw',hrw⟩:∃ n:Nat,r.width=(n:Int):=⟨r.width.toNat,by omega⟩
    unfold rcL at l1 hZ kZ
    simp only[g56,g57,g58,hd,hz,zb,i1,n1Y,r1Y,l1,z52,qk_old,ruW,putL,Nat.reduceLeDiff,xF,ruU,Nat.reduceLT,Nat.reduceAdd,Nat.reduceEqDiff]
    rw[hZ]
    refine w_env fun E3 hE=>?_
    have g1':E3 1=.pointer (some ⟨x+0,0,none⟩):=by rw[hE]; simp only[g1,ruU,Nat.reduceEqDiff]
    have g2':E3 2=.pointer (some ⟨x+1,0,none⟩):=by rw[hE]; simp only[g2,ruU,Nat.reduceEqDiff]
    have g5':E3 5=.pointer (some ⟨x+2,0,none⟩):=by rw[hE]; simp only[g5,ruU,Nat.reduceEqDiff]
    have g9':E3 9=.pointer (some ⟨z+0,0,none⟩):=by rw[hE]; simp only[ruU,Nat.reduceEqDiff]
    have g56':E3 56=.slice (some ⟨n,off,s⟩) f.bars.length bc:=by rw[hE]; simp only[g56,ruU,Nat.reduceEqDiff]
    have g57':E3 57=.int .i64 (f.bars.length:Int):=by rw[hE]; simp only[g57,ruU,Nat.reduceEqDiff]
    have g58':E3 58=.int .i64 (i:Int):=by rw[hE]; simp only[g58,ruU,Nat.reduceEqDiff]
    have g63':E3 63=.int .i64 (rh:Int):=by rw[hE]; simp only[hrh,ruU,Nat.reduceEqDiff]
    have g64':E3 64=.int .i64 ((0:Nat):Int):=by rw[hE]; (simp only[ruU]<;>rfl)
    clear hE hd
    obtain⟨gi,hgi⟩:∃ q,(f.bars.take i).foldl barG g=q:=⟨_,rfl⟩
    have hgil:gi.length=j:=by rw[<-hgi,hbl2,hgj]
    rw[hgi]at hY
    refine w_loop (fun (k:Nat) E' X'=>k<=rh/\CvR (x+3) X' (x+2) u rvs W (putRows gi r.top.toNat r.left.toNat (List.replicate k (List.replicate r.width.toNat barC))) rw cl/\Mod ((x+2)::rvs.flatMap idsV) Z X'/\E' 1=.pointer (some ⟨x+0,0,none⟩)/\E' 2=.pointer (some ⟨x+1,0,none⟩)/\E' 5=.pointer (some ⟨x+2,0,none⟩)/\E' 9=.pointer (some ⟨z+0,0,none⟩)/\E' 56=.slice (some ⟨n,off,s⟩) f.bars.length bc/\E' 57=.int .i64 (f.bars.length:Int)/\E' 58=.int .i64 (i:Int)/\E' 63=.int .i64 (rh:Int)/\E' 64=.int .i64 (k:Int)) (fun k=>rh-k) 0 ⟨zA7 _,hY.grow mZ,Mod.refl,g1',g2',g5',g9',g56',g57',g58',g63',g64'⟩ ?_
    clear g1' g2' g5' g9' g56' g57' g58' g63' g64' E3
    rintro k E3 V ⟨hk,hV,mV,g1,g2,g5,g9,g56,g57,g58,g63,g64⟩
    obtain⟨w,hw⟩:=Go.Ax.exq V.next
    have okV:=mV.ok okZ
    have zw:z+1<=w:=by have:=mV.next; omega
    have kV:=(mV.bk (n:=z+0) (by omega) (fun hn=>by have:=hFl _ hn; omega)).trans kZ
    have zw0:z+0<w:=by omega
    rw[show V=ext V [] from rfl]
    by_cases hkl:k<rh
    ·have hd:decide ((k:Int)<(rh:Int))=true:=decide_eq_true (by omega)
     have w1:IntKind.i64.wrap (r.top+(k:Int))=r.top+(k:Int):=wrap_sm (by omega) (by omega)
     simp only[g63,g64,hd,ruW,ruU,Nat.reduceLT,Nat.reduceEqDiff]
     refine w_drawP [(11,8),(11,10)] [] (by kernel_rfl) (by kernel_rfl) (by kernel_rfl) rfl (fun ops anc hA hG=>?_) (by simp) ⟨rfl,rfl⟩
     simp only[all2_cons]at hA
     have kVw:=kV
     rw[hrw]at kVw
     simp only[dropLast_more,dropLast_one,g5,g9,hw,zw0,kVw,w1,bl68b,qk_old,ruD,ruW,xF,ruU,Nat.reduceLT,Nat.reduceAdd,Nat.reduceEqDiff]
     refine genV_ext (v:=.slice (some ⟨w+1,0,some 0⟩) rw' rw') (M:=[⟨68,false,csOf (List.replicate rw' barC)⟩]) [w+0] (by simp only[ruU,Nat.reduceLT]) (by kernel_rfl) (by decide) (fun m hm=>?_) (fun K hKn hK=>?_) (by simp (maxDischargeDepth:=6) only[hA,ruD]) ?_
     ·simp only[zA9]at hm
      rw[hm]
      exact bk_ne (bk_at hw (by simp))
     ·simp only[ruU,Nat.reduceEqDiff]
      have hKx:K.next=w+1:=by rw[hKn,ext_next,hw]; rfl
      have:=repeat_c rw' (by omega) (by omega) barC (w+0) (some 0) K (by rw[bk_get (hK _ (by simp)),bk_at hw (by simp)]; rfl)
      rw[hKx]at this
      exact this
     obtain⟨V2,hV2⟩:=Go.Ax.exq (ext (ext V [⟨68,false,[.int .i64 124,.int .i64 0,.int .i64 0,.bool false,.bool false,.bool false]⟩]) [⟨68,false,csOf (List.replicate rw' barC)⟩])
     have mV2:Mod [] V V2:=hV2▸(Mod.ext okV).trans (Mod.ext ((Mod.ext (W:=[]) okV).ok okV))
     have nV2:V2.next=w+2:=by rw[<-hV2,ext_next,ext_next,hw]; rfl
     have b1:bk V2 (w+1)=some ⟨68,false,csOf (List.replicate rw' barC)⟩:=by rw[<-hV2,ext_append,show w+1=w+1 from rfl,bk_at hw (by simp)]; rfl
     rw[hV2]
     simp only[lastO_cons,lastO_one,isDef_call,true_and,ruD,ruW,xF,ruU,Nat.reduceLT,Nat.reduceAdd,Nat.reduceEqDiff]
     have hrow:RowAt V2 (.slice (some ⟨w+1,0,some 0⟩) rw' rw') (List.replicate rw' barC):=by
      refine .inr ⟨fun h=>by have:=congrArg List.length h; simp at this; omega,w+1,0,some 0,rw',68,false,csOf (List.replicate rw' barC),by rw[zD6],rk_of b1,by omega,by rw[csOf_length]; omega,by rw[zC7,zF2 (by rw[csOf_length]; exact zA6 _)]⟩
     have hput:=put_c (hV.grow mV2) (r.top.toNat+k) r.left.toNat (r.top+(k:Int)) r.left (by omega) (by omega) (List.replicate rw' barC) hrow (by rw[putRows_len]; omega) (by omega) (by rw[zD6]; omega)
     refine CallA.mono (show CallA Tryd.prog 26 _ V2 _ from hput) ?_
     rintro out U ⟨rfl,hU,mU,_⟩
     have hwj:IntKind.i64.wrap ((k:Int)+1)=((k+1:Nat):Int):=wrap_succ (by omega)
     simp only[g64,hwj,ruW,ruU,Nat.reduceLT,Nat.reduceEqDiff]
     refine loopC_next ⟨k+1,by omega,hkl,?_,(mV.trans (mV2.mono (by simp))).trans (mU.mono fun n hn=>zB3 _ hn),?_,?_,?_,?_,?_,?_,?_,?_,?_⟩
     ·rw[List.replicate_succ',putRows_snoc,zD6,show r.width.toNat=rw' by omega]
      rw[show r.width.toNat=rw' by omega]at hU
      exact hU
     ·exact g1
     ·exact g2
     ·exact g5
     ·exact g9
     ·exact g56
     ·exact g57
     ·exact g58
     ·exact g63
     ·rfl
    ·obtain rfl:k=rh:=by omega
     have hd:decide ((k:Int)<(k:Int))=false:=decide_eq_false (by omega)
     have htk:f.bars.take (i+1)=f.bars.take i++[r]:=by rw[List.take_succ,hr]; rfl
     have hwj:IntKind.i64.wrap ((i:Int)+1)=((i+1:Nat):Int):=wrap_succ (by have:=bd.bars; omega)
     simp only[g58,g63,g64,hd,hwj,ruW,ruU,Nat.reduceLT,Nat.reduceEqDiff]
     refine loopC_next ⟨i+1,by omega,hil,?_,(mY.trans (mZ.mono (by simp))).trans mV,?_,?_,?_,?_,?_,?_⟩
     ·rw[htk,List.foldl_append,hgi]
      have:barG gi r=putRows gi r.top.toNat r.left.toNat (List.replicate k (List.replicate r.width.toNat barC)):=by
       rw[show k=r.height.toNat by omega]
       rfl
      rw[zF7,List.foldl_nil,this]
      exact hV
     ·exact g1
     ·exact g2
     ·exact g5
     ·exact g56
     ·exact g57
     ·rfl
   ·obtain rfl:i=f.bars.length:=by omega
    have hd:decide ((f.bars.length:Int)<(f.bars.length:Int))=false:=decide_eq_false (by omega)
    rw[zF0]at hY
    obtain⟨gb,hgb⟩:∃ q,f.bars.foldl barG g=q:=⟨_,rfl⟩
    have hgbl:gb.length=j:=by rw[<-hgb,hbl2,hgj]
    rw[hgb]at hY
    obtain⟨ca,cf,hcut⟩:=cut_c Y f.echo (by have:=bd.echo; omega)
    simp only[g1,g57,g58,hd,hz,z0,k1Y,qk_old,ruW,xF,ruU,Nat.reduceLT,Nat.reduceAdd,Nat.reduceEqDiff]
    refine CallS.to (show Pure 27 _ (ext Y []) _ from hcut) ?_
    have bl38:aBuild Tryd.prog 38 []=some (Lk.val ⟨0,0,false,false,false⟩):=by kernel_rfl
    have w1:IntKind.i64.wrap (f.height-1)=f.height-1:=wrap_sm (by omega) (by omega)
    have hck:colr ⟨0,0,false,false,false⟩=true:=by decide
    have hes:(echoB f.echo).size<=300:=by
     have h1:=bd.echo
     have h2:=size_len f.echo
     unfold echoB echoR
     rw[size_len]
     have:=(List.takeWhile_sublist (fun c=>decide (c≠(10:UInt8))) (l:=f.echo.data.toList)).length_le
     simp only
     omega
    have hst:=string_c hY okY (t.mod0 mHY) (f.height-1).toNat 0 f.width.toNat (f.height-1) 0 f.width (by omega) rfl (by omega) (echoB f.echo) ⟨0,0,false,false,false⟩ hck (by omega) hes (by omega) (by omega) (by omega)
    simp only[g1,g5,hz,z0,k1Y,w1,bl38,qk_old,ruW,xF,ruU,Nat.reduceLT,Nat.reduceAdd,Nat.reduceEqDiff]
    refine CallA.mono (show CallA Tryd.prog 28 _ (ext Y []) _ from hst) ?_
    rintro out S ⟨rfl,hS,mS⟩
    have hdr:putG gb (f.height-1).toNat 0 (strG f.width.toNat ⟨0,0,false,false,false⟩ (echoB f.echo))=drawG f:=by
     rw[<-hgb,<-hg,show j=f.height.toNat by omega,show W=f.width.toNat by omega]
     rfl
    rw[hdr]at hS
    have hdl:(drawG f).length=j:=by rw[<-hdr,putG_len,hgbl]
    obtain⟨sn,hsn⟩:∃ z,S.next=z:=⟨_,rfl⟩
    have okS:=mS.ok okY
    have ys:z<=sn:=by have:=mS.next; omega
    have mXS:=mY.trans (mS.mono fun n hn=>zB3 _ hn)
    have k1S:=(mXS.bk (n:=x+0) (by omega) (fun hn=>by have:=hFl _ hn; omega)).trans k1X
    have s0:x+0<sn:=by omega
    have s2:x+2<sn:=by omega
    have kcS:=hS.at_
    obtain⟨va,vc,ev⟩:∃ a c,u=.slice a (drawG f).length c:=hS.own.grid.sl
    rw[ev]at kcS
    obtain⟨d1,h1⟩:∃ d,decide (¬f.ecol=-1)=d:=⟨_,rfl⟩
    have hcg:f.panes.foldl curS (-1,0)=curG f.panes:=curS_fold _ fun p hp=>by
     have:=pnOk_of (h:=j) (w:=W) (p:=p) (by rw[<-hh,<-hW]; exact pnsE_mem _ fo.panes p hp)
     exact⟨this.top,this.row⟩
    generalize hcode:Code.seq (Code.region 27 _ _) _=code
    generalize hcode2:Code.seq (Code.region 29 _ _) _=code2
    rw[show S=ext S [] from rfl]
    have hfin:∀ (E:Env) (T:AHeap),CvR (x+3) T (x+2) u rvs W (drawG f) (drawC f).1 (drawC f).2->Mod ((x+2)::rvs.flatMap idsV) X T->E 2=.pointer (some ⟨x+1,0,none⟩)->E 5=.pointer (some ⟨x+2,0,none⟩)->wpA Tryd.prog none code (seqC Tryd.prog none code2 (endA Tryd.prog Tryd.f9 fun out X=>DrO H f out X)) (mkA 125 E []) T:=by
     intro E T hT mT g2 g5
     obtain⟨tn,htn⟩:∃ z,T.next=z:=⟨_,rfl⟩
     have okT:=mT.ok okX
     have yt:y<=tn:=by have:=mT.next; omega
     have mHT:Mod [] H T:=mHX.step mT hok fun n hn=>.inr (by have:=hFl n hn; omega)
     have k2T:=(mT.bk (n:=x+1) (by omega) (fun hn=>by have:=hFl _ hn; omega)).trans k2X
     have t1:x+1<tn:=by omega
     have t2:x+2<tn:=by omega
     have kcT:=hT.at_
     rw[ev]at kcT
     have hcon:=containsRows_c T u (drawG f) 30 [] (fun l=>!wholeB l) hT.own.grid (by omega) (by kernel_rfl) (fun rv a hr ha=>broken_c T rv a hr (by have:=hT.wd a ha; omega))
     obtain⟨dd,hdd⟩:∃ q,((drawG f).any fun l=>!wholeB l)=q:=⟨_,rfl⟩
     rw[ev,hdd]at hcon
     have mU:∀ vs,Mod [x+1] T (uw T (x+1) 0 vs):=fun vs=>Mod.uw (by simp)
     have mHU:∀ vs,Mod [] H (uw T (x+1) 0 vs):=fun vs=>mHT.step (mU vs) hok fun n hn=>.inr (by simp only[zA9]at hn; omega)
     rw[show T=ext T [] from rfl]
     subst hcode hcode2
     simp only[g5,htn,t2,kcT,qk_old,ruW,xF,ruU,Nat.reduceLT]
     refine CallS.to (show Pure 29 _ (ext T []) _ from hcon) ?_
     cases dd with
     |true =>
      simp only[g2,htn,t1,k2T,bl31,Tryd.results9,qk_old,ruW,putL,Nat.reduceLeDiff,xF,ruU,Nat.reduceLT,Nat.reduceAdd,Nat.reduceEqDiff]
      refine⟨mHU _,?_⟩
      rw[if_neg (fun h=>h (hev.trans hev0)),if_pos hdd]
     |false =>
      have scu:scb tn (.slice va (drawG f).length vc)=true:=by
       rw[<-ev]
       rcases hT.own.at_ with⟨_,e⟩|⟨m,s,c,o,e,_,_,hlt,_⟩
       ·rw[e]; rfl
       ·rw[e]; exact blt_of (htn▸hlt)
      simp only[g2,g5,htn,t1,t2,kcT,k2T,scu,Tryd.results9,qk_old,ruW,putL,Nat.reduceLeDiff,xF,ruU,Nat.reduceLT,Nat.reduceAdd,Nat.reduceEqDiff]
      refine⟨mHU _,?_⟩
      rw[if_neg (fun h=>h (hev.trans hev0)),if_neg (by rw[hdd]; decide)]
      refine⟨x+3,u,rvs,by omega,?_,by rw[ev],by omega,fun l hl=>by have:=hT.wd l hl; omega⟩
      have hx1:=mU [.slice va (drawG f).length vc,.int .i64 (drawC f).1,.int .i64 (drawC f).2]
      exact hT.own.of hx1.next fun n hN hn _=>hx1.get n hn (by simp only[zA9]; omega)
    cases d1 with
    |false =>
     have hec:f.ecol=-1:=Decidable.byContradiction fun h=>of_decide_eq_false h1 h
     simp only[g1,hsn,s0,k1S,h1,qk_old,ruW,xF,ruU,Nat.reduceLT,Nat.reduceAdd,Nat.reduceEqDiff]
     refine hfin _ S ?_ mXS (by simp only[g2,ruU,Nat.reduceEqDiff]) (by simp only[g5,ruU,Nat.reduceEqDiff])
     have:drawC f=(rw,cl):=by unfold drawC; rw[if_neg (fun h=>h hec),<-hcg,hcu]
     rw[this]
     exact hS
    |true =>
     have hec:f.ecol≠-1:=of_decide_eq_true h1
     simp only[g1,hsn,s0,k1S,h1,qk_old,ruW,xF,ruU,Nat.reduceLT,Nat.reduceAdd,Nat.reduceEqDiff]
     refine w_drawB [(14,10)] [] (by kernel_rfl) (by kernel_rfl) rfl fun ops anc hA hG'=>?_
     simp only[all2_cons]at hA
     simp only[g1,g5,hsn,s0,s2,k1S,kcS,w1,hA,qk_old,ruD,ruW,putL,Nat.reduceLeDiff,xF,ruU,Nat.reduceLT,Nat.reduceAdd,Nat.reduceEqDiff]
     obtain⟨hc1,hc2⟩:=hS.cur (f.height-1) f.ecol
     refine hfin _ _ ?_ (mXS.trans (hc2.mono fun n hn=>by simp only[zA9]at hn; simp[hn])) (by simp only[g2,ruU,Nat.reduceEqDiff]) (by simp only[g5,ruU,Nat.reduceEqDiff])
     have:drawC f=(f.height-1,f.ecol):=by unfold drawC; rw[if_pos hec]
     rw[this]
     exact hc1
theorem blank_c (H:AHeap) (h W:Nat) (hi wi:Int) (hhi:hi=h) (hwi:wi=W) (hh:h<=200) (hW1:1<=W) (hW2:W<=1000) (hok:H.base<=H.next) :
  CallA Tryd.prog 32 [.int .i64 hi,.int .i64 wi] H (fun out X=>Mod [] H X/\∃ N v rvs,H.next<=N/\N<=X.next/\ScR N X v rvs W (blankG h W)/\out=.ok (.agg ⟨[v,.int .i64 (-1),.int .i64 0]⟩)):=by
 subst hhi hwi
 obtain⟨x,hx⟩:=Go.Ax.exq H.next
 have hbase:H.base<=x:=hx▸hok
 refine callE_fn mixed Tryd.func32 rfl Tryd.ntmps32 (zB1 rfl) ?_
 have z31:zeroOf Tryd.prog 31=some (.agg #[.slice none 0 0,.int .i64 0,.int .i64 0]):=by kernel_rfl
 have bl31':aBuild Tryd.prog 31 [(1,.int .i64 (-1))]=some (.agg #[.slice none 0 0,.int .i64 (-1),.int .i64 0]):=by kernel_rfl
 have bl68:aBuild Tryd.prog 68 [(0,.int .i64 32)]=some (.agg #[.int .i64 32,.int .i64 0,.int .i64 0,.bool false,.bool false,.bool false]):=by kernel_rfl
 obtain⟨C,hC⟩:=Go.Ax.exq (ext H [⟨31,false,[.slice none 0 0,.int .i64 0,.int .i64 0]⟩,⟨31,false,[.slice none 0 0,.int .i64 (-1),.int .i64 0]⟩])
 have mC:Mod [] H C:=hC▸Mod.ext hok
 have nC:C.next=x+2:=by rw[<-hC,ext_next,hx]; rfl
 have okC:=mC.ok hok
 have k0C:bk C (x+0)=some ⟨31,false,[.slice none 0 0,.int .i64 0,.int .i64 0]⟩:=by rw[<-hC,bk_at hx (by simp)]; rfl
 have k1C:bk C (x+1)=some ⟨31,false,[.slice none 0 0,.int .i64 (-1),.int .i64 0]⟩:=by rw[<-hC,bk_at hx (by simp)]; rfl
 simp (maxDischargeDepth:=6) only[hx,hbase,z31,bl31',ruW,putL,Nat.reduceLeDiff,xF,ruU,entryE,Nat.reduceLT,Nat.reduceAdd,Nat.reduceEqDiff]
 rw[hC]
 refine w_env fun E hE=>?_
 have g0:E 0=.int .i64 (h:Int):=by rw[hE]; rfl
 have g1:E 1=.int .i64 (W:Int):=by rw[hE]; rfl
 have g4:E 4=.pointer (some ⟨x+0,0,none⟩):=by rw[hE]; rfl
 have g5:E 5=.pointer (some ⟨x+1,0,none⟩):=by rw[hE]; rfl
 have g6:E 6=.int .i64 ((0:Nat):Int):=by rw[hE]; rfl
 clear hE
 have uRows:Tryd.prog.underlying 29=some (.slice 39):=by kernel_rfl
 have szCells:szOf Tryd.prog 39=some 1:=by kernel_rfl
 have byCells:bytesOf Tryd.prog 39=some 24:=by kernel_rfl
 have zr:zeroOf Tryd.prog 39=some (.slice none 0 0):=by kernel_rfl
 have inRows:intTy Tryd.prog 29=some false:=by kernel_rfl
 have uC:Tryd.prog.underlying 39=some (.slice 68):=by kernel_rfl
 have sC:szOf Tryd.prog 68=some 6:=by kernel_rfl
 have byC:bytesOf Tryd.prog 68=some 32:=by kernel_rfl
 have zC:zeroOf Tryd.prog 68=some (.agg #[.int .i64 0,.int .i64 0,.int .i64 0,.bool false,.bool false,.bool false]):=by kernel_rfl
 have inC:intTy Tryd.prog 39=some false:=by kernel_rfl
 refine w_loop (fun (q:Nat × Value × List Value) E' X'=>q.1<=h/\Mod [x+1] C X'/\bk X' (x+1)=some ⟨31,false,[q.2.1,.int .i64 (-1),.int .i64 0]⟩/\Grow (x+2) X' q.2.1 q.2.2 (List.replicate q.1 (List.replicate W spC))/\E' 0=.int .i64 (h:Int)/\E' 1=.int .i64 (W:Int)/\E' 4=.pointer (some ⟨x+0,0,none⟩)/\E' 5=.pointer (some ⟨x+1,0,none⟩)/\E' 6=.int .i64 (q.1:Int)) (fun q=>h-q.1) (0,.slice none 0 0,[]) ⟨zA7 _,Mod.refl,k1C,Grow.nil,g0,g1,g4,g5,g6⟩ ?_
 clear g0 g1 g4 g5 g6 E
 rintro⟨j,u,rvs⟩ E X ⟨hj,mX,kX,gr,g0,g1,g4,g5,g6⟩
 simp only at hj kX gr g6
 obtain⟨y,hy⟩:=Go.Ax.exq X.next
 have okX:=mX.ok okC
 have lx:x+2<=y:=by have:=mX.next; omega
 have hlr:(List.replicate j (List.replicate W spC)).length=j:=zD6
 have vs:=gr.at_
 rw[hlr]at vs
 obtain⟨ua,eu⟩:=vs.len
 have y0:x+0<y:=by omega
 have y1:x+1<y:=by omega
 have k0X:=(mX.bk (n:=x+0) (by omega) (by simp)).trans k0C
 rw[show X=ext X [] from rfl]
 by_cases hjl:j<h
 ·have hd:decide ((j:Int)<(h:Int))=true:=decide_eq_true (by omega)
  simp (maxDischargeDepth:=6) only[g0,g6,hd,ruW,ruU,Nat.reduceLT,Nat.reduceEqDiff]
  refine w_env fun E2 hE=>?_
  have g0':E2 0=.int .i64 (h:Int):=by rw[hE]; simp only[g0,ruU,Nat.reduceEqDiff]
  have g1':E2 1=.int .i64 (W:Int):=by rw[hE]; simp only[g1,ruU,Nat.reduceEqDiff]
  have g4':E2 4=.pointer (some ⟨x+0,0,none⟩):=by rw[hE]; simp only[g4,ruU,Nat.reduceEqDiff]
  have g5':E2 5=.pointer (some ⟨x+1,0,none⟩):=by rw[hE]; simp only[g5,ruU,Nat.reduceEqDiff]
  have g6':E2 6=.int .i64 (j:Int):=by rw[hE]; simp only[g6,ruU,Nat.reduceEqDiff]
  have g7':E2 7=.slice none 0 0:=by rw[hE]; simp only[ruU,Nat.reduceEqDiff]
  have g8':E2 8=.int .i64 ((0:Nat):Int):=by rw[hE]; (simp only[ruU]<;>rfl)
  clear hE g0 g1 g4 g5 g6 E hd
  refine w_loop (fun (k:Nat) E' X'=>k<=W/\Mod [] X X'/\(∃ av,VsAt X' 68 6 av (csOf (List.replicate k spC)) k/\(∀ n∈idsV av,y<=n)/\E' 7=av)/\E' 0=.int .i64 (h:Int)/\E' 1=.int .i64 (W:Int)/\E' 4=.pointer (some ⟨x+0,0,none⟩)/\E' 5=.pointer (some ⟨x+1,0,none⟩)/\E' 6=.int .i64 (j:Int)/\E' 8=.int .i64 (k:Int)) (fun k=>W-k) 0 ⟨zA7 _,Mod.refl,⟨_,VsAt.nil,fun n hn=>by simp[idsV]at hn,g7'⟩,g0',g1',g4',g5',g6',g8'⟩ ?_
  clear g0' g1' g4' g5' g6' g7' g8' E2
  rintro k E Y ⟨hk,mY,⟨av,vY,lav,g7⟩,g0,g1,g4,g5,g6,g8⟩
  obtain⟨z,hz⟩:=Go.Ax.exq Y.next
  have okY:=mY.ok okX
  have yz:y<=z:=by have:=mY.next; omega
  obtain⟨av0,eav⟩:=vY.len
  rw[eav]at g7 vY lav
  clear eav
  rw[show Y=ext Y [] from rfl]
  by_cases hkl:k<W
  ·have hd:decide ((k:Int)<(W:Int))=true:=decide_eq_true (by omega)
   have hwk:IntKind.i64.wrap ((k:Int)+1)=((k+1:Nat):Int):=wrap_succ (by omega)
   obtain⟨A,eA⟩:=Go.Ax.exq (ext Y [⟨68,false,[.int .i64 32,.int .i64 0,.int .i64 0,.bool false,.bool false,.bool false]⟩])
   have mA:Mod [] Y A:=eA▸Mod.ext okY
   have nA:A.next=z+1:=by rw[<-eA,ext_next,hz]; rfl
   have okA:=mA.ok okY
   have kA:bk A (z+0)=some ⟨68,false,spC.cells⟩:=by rw[<-eA,bk_at hz (by simp)]; rfl
   have vA:=vs_mod0 mA vY
   have rA:RdAt A 6 (.slice (some ⟨z+0,0,some 0⟩) 1 1) (csOf [spC]) 1:=⟨rfl,.inr ⟨by omega,z+0,0,some 0,1,68,false,spC.cells,rfl,rk_of kA,by omega,by simp[Ce.cells],rfl⟩⟩
   have hsm:small (k+1) 32=true:=by simp only[small,zA4,zC6]; omega
   obtain⟨v',G,ga,gv,gm,gi⟩:=vs_appR uC sC byC zC rfl inC vA rA okA (csOf_one _) (by rw[<-csOf_append]; exact csOf_sc _ _) hsm
   simp (maxDischargeDepth:=6) only[g1,g7,g8,hd,hz,bl68,ruW,xF,ruU,Nat.reduceLT,Nat.reduceEqDiff]
   rw[eA,ga]
   simp (maxDischargeDepth:=6) only[g8,hwk,ruW,ruU,Nat.reduceLT,Nat.reduceEqDiff]
   refine loopC_next ⟨k+1,by omega,hkl,mY.step ((mA.mono (by simp)).trans gm) okX fun n hn=>.inr (by rw[hy]; exact lav n hn),⟨v',?_,?_,?_⟩,?_,?_,?_,?_,?_,?_⟩
   ·rw[<-csOf_append,<-List.replicate_succ' (n:=k) (a:=spC)]at gv
    exact gv
   ·intro n hn
    rcases gi n hn with h|h
    ·exact lav n h
    ·omega
   ·rfl
   ·exact g0
   ·exact g1
   ·exact g4
   ·exact g5
   ·exact g6
   ·rfl
  ·obtain rfl:k=W:=by omega
   have hd:decide ((k:Int)<(k:Int))=false:=decide_eq_false (by omega)
   obtain⟨n,rfl,hbn,hltn⟩:∃ n,av0=some ⟨n,0,none⟩/\bk Y n=some ⟨68,true,csOf (List.replicate k spC)⟩/\n<Y.next:=by
    obtain⟨_,_,⟨h0,_⟩|⟨_,n,e,h1,h2⟩⟩:=vY
    ·omega
    ·cases e
     exact⟨n,rfl,h1,h2⟩
   have hny:y<=n:=lav n (by simp[idsV])
   rw[hz]at hltn
   have kY:=(mY.bk (by omega) (by simp)).trans kX
   rw[eu]at kY
   obtain⟨rv,hrv⟩:∃ rv,rv=Value.slice (some ⟨n,0,none⟩) k k:=⟨_,rfl⟩
   obtain⟨Y2,hY2⟩:=Go.Ax.exq (ext Y [⟨39,false,[rv]⟩])
   have mY2:Mod [] Y Y2:=hY2▸Mod.ext okY
   have nY2:Y2.next=z+1:=by rw[<-hY2,ext_next,hz]; rfl
   have okY2:=mY2.ok okY
   have b2:bk Y2 (z+0)=some ⟨39,false,[rv]⟩:=by rw[<-hY2,bk_at hz (by simp)]; rfl
   have b1:=(mY2.bk (by omega) (by simp)).trans hbn
   have hone:one rv=true:=by rw[hrv]; rfl
   have mXY2:=mY.trans mY2
   have vs2:=vs_mod0 mXY2 vs
   have hscr:scbL Y2.next (rvs++[rv])=true:=scbL_append (scbL_mono mXY2.next _ gr.sc) (by rw[hrv]; simp only[scbL,scb,zE6]; exact blt_of (by omega))
   have hsm:small (j+1) 24=true:=by simp only[small,zA4,zC6]; omega
   obtain⟨Z,hap,hvs,hmd,hzn,_⟩:=vs_app (P:=Tryd.prog) (H:=Y2) (st:=29) (xt:=29) (e:=39) (sz:=1) (by1:=24) (z:=.slice none 0 0) (n:=z+0) (off:=0) (cnt2:=1) (cap:=1) (s:=some 0) (x:=Y2.next) (ws:=[rv]) (b:=⟨39,false,[rv]⟩)
    uRows szCells byCells zr rfl inRows vs2 (rk_of b2) (by simp) rfl (by simp[hone]) (by decide) hsm rfl hscr
   have mZ:=hmd okY2
   rw[nY2]at hap hvs hzn
   have hbz:bk Z (z+1)=some ⟨39,true,rvs++[rv]⟩:=by
    obtain⟨_,_,⟨h0,_⟩|⟨_,n,e,hbn,_⟩⟩:=hvs
    ·omega
    ·cases e; exact hbn
   have gr2:=gr.push (rv:=rv) (l:=List.replicate k spC) (Y:=Y2) (Z:=Z) mXY2 (by omega) ⟨n,true,0,true,by rw[hrv,zD6]; rfl,b1,by omega,by omega⟩ (fun q hq=>by rw[hrv]at hq; simp only[idsV,zA9]at hq; omega) hone mZ (by rw[nY2]; exact hbz) (by omega)
   rw[nY2,hlr,show List.replicate j (List.replicate k spC)++[List.replicate k spC]=List.replicate (j+1) (List.replicate k spC) from (List.replicate_succ' ..).symm]at gr2
   have okZ:=mZ.ok okY2
   have zb2:Z.base<=z+2:=hzn▸okZ
   have nin:x+1∉idsV u:=fun hn=>by have:=(gr.apart _ hn).1; omega
   have kZ:bk Z (x+1)=some ⟨31,false,[.slice ua j j,.int .i64 (-1),.int .i64 0]⟩:=(mZ.bk (by omega) nin).trans ((mY2.bk (by omega) (by simp)).trans kY)
   have hwj:IntKind.i64.wrap ((j:Int)+1)=((j+1:Nat):Int):=wrap_succ (by omega)
   have z1:x+1<z:=by omega
   have z2:x+1<z+2:=by omega
   have zz:z+1<z+2:=by omega
   rw[hrv]at hY2
   rw[eu]at hap
   simp (maxDischargeDepth:=6) only[g1,g5,g7,g8,hd,hz,kY,z1,hltn,qk_old,ruW,xF,ruU,Nat.reduceLT,Nat.reduceEqDiff]
   rw[hY2]
   have hap':aBuiltin Tryd.prog Y2 .append ⟨[29,29]⟩ [.slice ua j j,.slice (some ⟨z+0,0,some 0⟩) 1 1]=some (.slice (some ⟨z+1,0,none⟩) (j+1) (j+1),ext Z []):=hap
   rw[hap']
   simp (maxDischargeDepth:=6) only[g5,g6,hzn,kZ,z2,zz,hwj,ruW,putL,Nat.reduceLeDiff,xF,ruU,Nat.reduceLT,Nat.reduceAdd,Nat.reduceEqDiff]
   have mXZ:Mod (idsV u) X Z:=(mXY2.mono (by simp)).trans mZ
   have mU:Mod [x+1] Z (uw Z (x+1) 0 [.slice (some ⟨z+1,0,none⟩) (j+1) (j+1)]):=Mod.uw (by simp)
   refine loopC_next ⟨(j+1,.slice (some ⟨z+1,0,none⟩) (j+1) (j+1),rvs++[rv]),by simp only; omega,hjl,(mX.step mXZ okC fun n hn=>.inr (by rw[nC]; exact (gr.apart n hn).1)).trans mU,?_,?_,?_,?_,?_,?_,?_⟩
   ·show bk (uw Z (x+1) 0 _) (x+1)=_
    rw[bk_uw_eq,kZ]
    rfl
   ·refine gr2.of mU.next fun n hn hin=>mU.get n hn ?_
    simp only[zA9]
    rintro rfl
    rcases zC3.1 hin with h1|h1
    ·have:=(gr2.apart _ h1).1; omega
    ·have:=(gr2.ids _ h1).1; omega
   ·exact g0
   ·exact g1
   ·exact g4
   ·exact g5
   ·rfl
 ·obtain rfl:j=h:=by omega
  have hd:decide ((j:Int)<(j:Int))=false:=decide_eq_false (by omega)
  have ho:=gr.own
  have scu:scb y (.slice ua j j)=true:=by
   have:=vs.sc
   rw[hy,eu]at this
   exact this
  rw[eu]at kX
  simp (maxDischargeDepth:=6) only[g0,g4,g5,g6,hd,hy,kX,k0X,y0,y1,scu,Tryd.results32,qk_old,ruW,putL,Nat.reduceLeDiff,xF,ruU,Nat.reduceLT,Nat.reduceAdd,Nat.reduceEqDiff]
  have mU:∀ vs,Mod [x+0] X (uw X (x+0) 0 vs):=fun vs=>Mod.uw (by simp)
  refine⟨((mC.step mX hok fun n hn=>.inr (by simp only[zA9]at hn; omega)).step (mU _) hok fun n hn=>.inr (by simp only[zA9]at hn; omega)),x+2,u,rvs,by omega,?_,⟨?_,fun l hl=>by rw[blankG]at hl; rw[List.eq_of_mem_replicate hl,zD6]⟩,by rw[eu]⟩
  ·omega
  ·have hx1:=mU [.slice ua j j,.int .i64 (-1),.int .i64 0]
   exact ho.of hx1.next fun n hN hn _=>hx1.get n hn (by simp only[zA9]; omega)
end Go.Proofs.YtfpckllenkifkaaDoor
