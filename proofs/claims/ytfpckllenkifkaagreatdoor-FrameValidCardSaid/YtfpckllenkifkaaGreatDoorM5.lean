/- Parts of the proof, one behind the other. -/
import Derived.Test.YtfpckllenkifkaaGreatDoorM4
import Derived.Shelf.Strings.Search2
set_option linter.all false
set_option maxRecDepth 10000
set_option maxHeartbeats 16000000
open And renaming intro -> zA0
open Option renaming bind_eq_bind -> zA1, bind_eq_some_iff -> zA2, bind_some -> zA3, map_some -> zA5, map_eq_some_iff -> zA6
open Bool renaming and_eq_true -> zA4, false_eq_true -> zB7, and_self -> zD6
open List renaming getElem?_eq_getElem -> zA7, length_cons -> zB0, mem_cons -> zB1, map_cons -> zB3, mem_singleton -> zB4, mem_cons_of_mem -> zB5, mem_cons_self -> zB9, mem_of_getElem? -> zC2, all_eq_true -> zC4, getElem?_cons_zero -> zC5, getElem?_eq_none -> zC6, drop_zero -> zC7, length_append -> zC8, mem_append -> zC9, getElem?_cons_succ -> zD0, length_replicate -> zD2, eq_nil_of_length_eq_zero -> zD4, nil_append -> zD5, length_nil -> zD7, map_congr_left -> zD8, mem_map -> zE0, flatMap_cons -> zE1, append_nil -> zE2, length_take -> zE3, length_drop -> zE4
open Nat renaming le_refl -> zA8, zero_le -> zA9, le_of_ble_eq_true -> zB2, lt_or_ge -> zB6, le_trans -> zB8, zero_add -> zC0, lt_succ_self -> zC1, lt_of_lt_of_le -> zC3, min -> zD1, add_zero -> zD3, eq_of_beq_eq_true -> zD9

namespace Go.Proofs.YtfpckllenkifkaaGreatDoor
open Go.Ax
def Ce.look (c:Ce):Lk:=⟨c.fore,c.back,c.bold,c.under,c.inv⟩
def cellsR (c:Int):Nat:=if (decide (c<32)||decide (c=127)||!isR c)=true then 0 else widthR c
def wholeB:List Ce->Bool
 |[]=>true
 |c::l=>if (decide (cellsR c.rune=0)||!colr c.look)=true then false else
   if cellsR c.rune=2 then (match l with|[]=>false|d::l'=>decide (d=c.look.ce (-1))&&wholeB l') else wholeB l
theorem wholeB_cons (c : Ce) (l : List Ce) : wholeB (c :: l) = if (decide (cellsR c.rune = 0) || !colr c.look) = true then false else
   if cellsR c.rune=2 then (match l with|[]=>false|d::l'=>decide (d=c.look.ce (-1))&&wholeB l') else wholeB l:=by
 cases l<;>first|rfl|rw[wholeB]
theorem broken_c (H:AHeap) (v:Value) (l:List Ce) (h:RowAt H v l) (hl:l.length<1000000):Pure 22 [v] H (.bool (!wholeB l)):=by
 obtain⟨b,hb⟩:=Go.Ax.exq H.next
 obtain⟨B,hB⟩:=Go.Ax.exq (wholeB l)
 rw[hB]
 refine callS_fn mixed Tryz.func22 rfl Tryz.ntmps22 (zB2 rfl) fun wf hsc=>?_
 have hok:=wf.base
 have z68:zeroOf Tryz.prog 45=some (.agg #[.int .i64 0,.int .i64 0,.int .i64 0,.bool false,.bool false,.bool false]):=by kernel_rfl
 obtain⟨a1,c1,e1⟩:=h.sl
 rw[e1]
 simp only[ruW,ruU,entryE,Nat.reduceLT]
 rw[<-e1]
 refine w_env fun E hE=>?_
 have g0:E 0=v:=by rw[hE]; rfl
 have g3:E 3=.int .i64 ((0:Nat):Int):=by rw[hE]; rfl
 clear hE
 refine blockC_meet (fun E' H'=>Mod [] H H'/\B=true) ?_ ?_
 ·refine w_loop (fun (k:Nat) E' H'=>Mod [] H H'/\E' 0=v/\E' 3=.int .i64 (k:Int)/\k<=l.length/\wholeB (l.drop k)=B) (fun k=>l.length-k) 0
   ⟨Mod.refl,g0,g3,zA9 _,hB⟩ ?_
  clear g0 g3 E
  rintro k E X ⟨mX,g0,g3,hk,hi⟩
  obtain⟨y,hy⟩:=Go.Ax.exq X.next
  have okX:=mX.ok hok
  have yb:X.base<=y:=hy▸okX
  rw[show X=ext X [] from rfl]
  by_cases hkl:k=l.length
  ·have hc:decide ((k:Int)<(l.length:Int))=false:=by simp[hkl]
   rw[e1]at g0
   simp only[g0,g3,hc,ruW,xF,ruU,Nat.reduceLT,Nat.reduceEqDiff]
   rw[List.drop_eq_nil_of_le (by omega),wholeB]at hi
   exact joinR_normal ⟨mX,hi.symm⟩
  ·have hlt:k<l.length:=by omega
   have hc:decide ((k:Int)<(l.length:Int))=true:=decide_eq_true (by omega)
   rcases h with⟨h,_⟩|⟨_,n1,o1,s1,x1,t1,p1,L1,rfl,b1,n1l,le1,tk1⟩
   ·rw[h]at hlt; simp at hlt
   obtain⟨r1,hr1⟩:∃ r,l[k]?=some r:=⟨_,zA7 hlt⟩
   have i1:=row_ia (n:=n1) (off:=o1) (s:=s1) (cap:=x1) (i:=(k:Int)) rfl hlt
   have q1:=row_load (e:=t1) (o:=p1) hr1 le1 tk1
   have b1X:rk X n1=some ⟨t1,p1,L1⟩:=(rk_get (mX.get n1 n1l (by simp))).trans b1
   have n1X:n1<y:=by have:=mX.next; omega
   obtain⟨Z,hZ⟩:=Go.Ax.exq (ext X [⟨45,false,r1.cells⟩])
   have mZ:Mod [] X Z:=hZ▸Mod.ext okX
   have nZ:Z.next=y+1:=by rw[<-hZ,ext_next,hy]; rfl
   have kZ:bk Z (y+0)=some ⟨45,false,r1.cells⟩:=by rw[<-hZ,bk_at hy (by simp)]; rfl
   have zb:Z.base<=y+1:=nZ▸mZ.ok okX
   have yz:y+0<y+1:=by omega
   have b1Z:rk Z n1=some ⟨t1,p1,L1⟩:=(rk_get (mZ.get n1 (by omega) (by simp))).trans b1X
   have n1Z:n1<y+1:=by omega
   have mZH:=mX.trans mZ
   have hdr:l.drop k=r1::l.drop (k+1):=by
    rw[List.drop_eq_getElem_cons hlt]
    rw[zA7 hlt]at hr1
    rw[Option.some.inj hr1]
   rw[hdr,wholeB_cons]at hi
   obtain⟨m,hm⟩:=Go.Ax.exq (cellsR r1.rune)
   obtain⟨cl,hcl⟩:∃ x,colr r1.look=x:=⟨_,rfl⟩
   obtain⟨ir,hir⟩:∃ x,isR r1.rune=x:=⟨_,rfl⟩
   obtain⟨d1,h1⟩:∃ x,decide (r1.rune<32)=x:=⟨_,rfl⟩
   obtain⟨d2,h2⟩:∃ x,decide (r1.rune=127)=x:=⟨_,rfl⟩
   obtain⟨w,hw⟩:∃ x,widthR r1.rune=x:=⟨_,rfl⟩
   have hm2:m=if (d1||d2||!ir)=true then 0 else w:=by rw[<-hm,<-h1,<-h2,<-hir,<-hw]; rfl
   have his:=is_c Z r1.rune
   have hwi:=width_c Z r1.rune
   have hco:=coloured_c Z r1.look
   rw[hm,hcl]at hi
   rw[hir]at his
   rw[hw]at hwi
   rw[hcl]at hco
   unfold Ce.look Lk.val at hco
   unfold Ce.cells at hZ kZ
   unfold Ce.val at q1
   have bad:m=0\/cl=false->B=false:=fun hb=>by
    rw[if_pos]at hi
    ·exact hi.symm
    ·rcases hb with rfl|rfl<;>simp
   simp only[g0,g3,hy,yb,hc,i1,b1X,n1X,q1,z68,qk_old,ruW,putL,Nat.reduceLeDiff,xF,ruU,Nat.reduceLT,Nat.reduceAdd,Nat.reduceEqDiff]
   rw[hZ]
   refine hco.to ?_
   rw[show Z=ext Z [] from rfl]
   cases cl with
   |false =>
    rw[bad (.inr rfl)]
    simp only[Bool.not_false,joinR_ret,Tryz.results22,ruW,ruU,Nat.reduceLT,Nat.reduceEqDiff]
    exact Ax.Fin.mod rfl mZH rfl
   |true =>
   simp only[nZ,kZ,yz,Bool.not_true,qk_old,ruW,xF,ruU,Nat.reduceLT,Nat.reduceEqDiff]
   refine CallS.to (show Pure 24 _ (ext Z []) _ from his) ?_
   cases ir with
   |false =>
    rw[bad (.inl (by rw[hm2]; simp))]
    simp only[Bool.not_false,joinR_ret,Tryz.results22,ruW,ruU,Nat.reduceLT,Nat.reduceEqDiff]
    exact Ax.Fin.mod rfl mZH rfl
   |true =>
   cases d1 with
   |true =>
    rw[bad (.inl (by rw[hm2]; simp))]
    simp only[nZ,kZ,yz,h1,Bool.not_false,Bool.not_true,joinR_ret,Tryz.results22,qk_old,ruW,xF,ruU,Nat.reduceLT,Nat.reduceEqDiff]
    exact Ax.Fin.mod rfl mZH rfl
   |false =>
   cases d2 with
   |true =>
    rw[bad (.inl (by rw[hm2]; simp))]
    simp only[nZ,kZ,yz,h1,h2,Bool.not_false,Bool.not_true,joinR_ret,Tryz.results22,qk_old,ruW,xF,ruU,Nat.reduceLT,Nat.reduceEqDiff]
    exact Ax.Fin.mod rfl mZH rfl
   |false =>
   obtain rfl:m=w:=by rw[hm2]; simp
   have c00:decide (((0:Nat):Int)=0)=true:=by decide
   have c10:decide (((1:Nat):Int)=0)=false:=by decide
   have c12:decide (((1:Nat):Int)=2)=false:=by decide
   have c20:decide (((2:Nat):Int)=0)=false:=by decide
   have c22:decide (((2:Nat):Int)=2)=true:=by decide
   simp only[nZ,kZ,yz,h1,h2,Bool.not_true,qk_old,ruW,xF,ruU,Nat.reduceLT,Nat.reduceEqDiff]
   refine CallS.to (show Pure 25 _ (ext Z []) _ from hwi) ?_
   have hws:=wrap_succ (show k<1000000 by omega)
   rcases (hw▸widthR_cases r1.rune:m=0\/m=1\/m=2) with rfl|rfl|rfl
   ·rw[bad (.inl rfl)]
    simp only[c00,Bool.not_false,joinR_ret,Tryz.results22,ruW,ruU,Nat.reduceLT,Nat.reduceEqDiff]
    exact Ax.Fin.mod rfl mZH rfl
   ·simp only[nZ,kZ,yz,c10,qk_old,ruW,xF,ruU,Nat.reduceLT,Nat.reduceEqDiff]
    refine CallS.to (show Pure 25 _ (ext Z []) _ from hwi) ?_
    simp only[g3,c12,hws,ruW,ruU,Nat.reduceLT,Nat.reduceEqDiff]
    refine loopC_next ⟨k+1,by omega,mZH,?_,?_,by omega,by simpa using hi⟩
    ·exact g0
    ·rfl
   ·simp only[nZ,kZ,yz,c20,qk_old,ruW,xF,ruU,Nat.reduceLT,Nat.reduceEqDiff]
    refine CallS.to (show Pure 25 _ (ext Z []) _ from hwi) ?_
    simp only[g3,c22,hws,ruW,ruU,Nat.reduceLT,Nat.reduceEqDiff]
    by_cases hlt1:k+1<l.length
    ·have hc1:decide (((k+1:Nat):Int)=(l.length:Int))=false:=decide_eq_false (by omega)
     obtain⟨r2,hr2⟩:∃ r,l[k+1]?=some r:=⟨_,zA7 hlt1⟩
     have hdr2:l.drop (k+1)=r2::l.drop (k+1+1):=by
      rw[List.drop_eq_getElem_cons hlt1]
      rw[zA7 hlt1]at hr2
      rw[Option.some.inj hr2]
     rw[hdr2]at hi
     have hi':(decide (r2=r1.look.ce (-1))&&wholeB (l.drop (k+1+1)))=B:=by simpa using hi
     have i2:=row_ia (n:=n1) (off:=o1) (s:=s1) (cap:=x1) (i:=((k+1:Nat):Int)) rfl hlt1
     have q3:=row_load (e:=t1) (o:=p1) hr2 le1 tk1
     refine w_drawB [] [(4,51)] (by kernel_rfl) (by kernel_rfl) (by kernel_rfl) fun ops anc hA hG=>?_
     simp only[all2_cons]at hG
     unfold Ce.val at q3
     simp only[g0,nZ,kZ,yz,hc1,i2,b1Z,n1Z,q3,qk_old,hG,ruD,ruW,Nat.reduceLeDiff,xF,ruU,Nat.reduceLT,Nat.reduceAdd,Nat.reduceEqDiff]
     obtain⟨dq,hdq⟩:∃ x,decide (r2=r1.look.ce (-1))=x:=⟨_,rfl⟩
     rw[hdq]at hi'
     refine wd_eqS (ts:=[3,3,3,4,4,4]) (xs:=r2.cells) (ys:=(r1.look.ce (-1)).cells) (r:=!dq) fl55 ag55 gd55 (by rw[ce_eqL,hdq]; rfl) rfl rfl (by decide) (by simp only[ruU,Nat.reduceEqDiff]; rfl) (by simp only[ruU]; rfl) (ce_fits _) (ce_fits _) ?_
     cases dq with
     |true =>
      simp only[Bool.not_true,wrap_succ (show k+1<1000000 by omega),ruD,ruW,ruU,Nat.reduceLT,Nat.reduceAdd,Nat.reduceEqDiff]
      refine loopC_next ⟨k+1+1,by omega,mZH,?_,?_,by omega,by simpa using hi'⟩
      ·exact g0
      ·rfl
     |false =>
      obtain rfl:false=B:=by simpa using hi'
      simp only[Bool.not_false,joinR_ret,Tryz.results22,ruD,ruW,ruU,Nat.reduceLT,Nat.reduceAdd,Nat.reduceEqDiff]
      exact Ax.Fin.mod rfl mZH rfl
    ·have hc1:decide (((k+1:Nat):Int)=(l.length:Int))=true:=decide_eq_true (by omega)
     rw[List.drop_eq_nil_of_le (by omega)]at hi
     obtain rfl:false=B:=by simpa using hi
     refine w_drawB [] [(4,51)] (by kernel_rfl) (by kernel_rfl) (by kernel_rfl) fun ops anc hA hG=>?_
     simp only[all2_cons]at hG
     simp only[g0,hc1,hG,Bool.not_false,joinR_ret,Tryz.results22,ruD,ruW,xF,ruU,Nat.reduceLT,Nat.reduceAdd,Nat.reduceEqDiff]
     exact Ax.Fin.mod rfl mZH rfl
 ·rintro E H' ⟨hH,rfl⟩
  rw[show H'=ext H' [] from rfl]
  simp only[Tryz.results22,ruW,ruU,Nat.reduceLT]
  exact Ax.Fin.mod rfl hH rfl
def GridAt (H:AHeap) (v:Value) (g:List (List Ce)):Prop :=
 (g=[]/\∃ a c,v=.slice a 0 c)\/(g≠[]/\∃ n off s c e o L,v=.slice (some ⟨n,off,s⟩) g.length c/\rk H n=some ⟨e,o,L⟩/\n<H.next/\off+g.length<=L.length/\∀ k row,g[k]?=some row->∃ rv,L[off+k]?=some rv/\RowAt H rv row)
theorem GridAt.sl {H:AHeap} {v:Value} {g:List (List Ce)} (h:GridAt H v g):∃ a c,v=.slice a g.length c:=by
 rcases h with⟨rfl,a,c,rfl⟩|⟨_,n,off,s,c,e,o,L,rfl,_⟩
 ·exact⟨a,c,rfl⟩
 ·exact⟨_,_,rfl⟩
theorem RowAt.ne {H:AHeap} {v:Value} {l:List Ce} (h:RowAt H v l) (hl:l≠[]):∀ n∈idsV v,H.get n≠none/\n<H.next:=by
 rcases h with⟨rfl,_⟩|⟨_,n,off,s,c,e,o,L,rfl,hb,hlt,_⟩
 ·exact absurd rfl hl
 ·intro m hm
  simp only[idsV,zB4]at hm
  subst hm
  exact⟨rk_ne hb,hlt⟩
theorem grid_ia {len cap n off:Nat} {s:Option Nat} {i:Int} {k:Nat} (hi:i=k) (hk:k<len):aIndexAddr Tryz.prog 28 (.slice (some ⟨n,off,s⟩) len cap) (.int .i64 i)=some (.pointer (some ⟨n,off+k,none⟩)):=by
 subst hi
 rw[ia_slice (e:=34) (sz:=1) (by kernel_rfl) (by kernel_rfl) (by omega) (by omega)]
 simp
theorem ag56:aggT Tryz.prog 34=some false:=by kernel_rfl
theorem grid_load {k off:Nat} {e:TypeId} {o:Bool} {L:List Value} {rv:Value} (h:L[off+k]?=some rv):ldB Tryz.prog 34 (off+k) (some ⟨e,o,L⟩)=some rv:=by
 simp only[ldB,ag56,h]
def rowF (l:List Ce) (v:Value):List Nat:=if l=[] then [] else idsV v
theorem RowAt.f {H:AHeap} {v:Value} {l:List Ce} (h:RowAt H v l):∀ n∈rowF l v,H.get n≠none:=by
 unfold rowF
 split
 ·intro n hn; cases hn
 ·rename_i hl; exact fun n hn=>(h.ne hl n hn).1
theorem RowAt.ofF {H G:AHeap} {v:Value} {l:List Ce} (h:RowAt H v l) (hn:H.next<=G.next) (hg:∀ n∈rowF l v,G.get n=H.get n):RowAt G v l:=by
 by_cases hl:l=[]
 ·obtain⟨a,c,e⟩:=h.sl
  subst hl
  exact .inl ⟨rfl,a,c,e⟩
 ·rw[rowF,if_neg hl]at hg
  exact h.of hn hg
def spOf (t:Bool):Option Nat:=if t then none else some 0
def OwnRow (N:Nat) (H:AHeap) (rv:Value) (l:List Ce):Prop :=
 ∃ n t c o,rv=.slice (some ⟨n,0,spOf t⟩) l.length (l.length+c)/\bk H n=some ⟨45,o,csOf l⟩/\N<=n/\n<H.next
structure OwnG (N:Nat) (H:AHeap) (v:Value) (rvs:List Value) (g:List (List Ce)):Prop where
 len:rvs.length=g.length
 at_:(g=[]/\v=.slice none 0 0)\/∃ m s c o,v=.slice (some ⟨m,0,s⟩) g.length c/\bk H m=some ⟨34,o,rvs⟩/\N<=m/\m<H.next/\m∉rvs.flatMap idsV
 row:∀ (i:Nat) (rv:Value) (l:List Ce),rvs[i]?=some rv->g[i]?=some l->OwnRow N H rv l
 nd:(rvs.flatMap idsV).Nodup
section
variable {N M : Nat} {H G : AHeap} {v rv : Value} {rvs : List Value} {g : List (List Ce)} {l : List Ce}
theorem OwnRow.of (h:OwnRow N H rv l) (hn:H.next<=G.next) (hg:∀ n∈idsV rv,G.get n=H.get n):OwnRow N G rv l:=by
 obtain⟨n,s,c,o,rfl,hb,h1,h2⟩:=h
 exact⟨n,s,c,o,rfl,(bk_get (hg n (by simp[idsV]))).trans hb,h1,by omega⟩
theorem OwnRow.rng (h:OwnRow N H rv l):∀ n∈idsV rv,N<=n/\n<H.next/\H.get n≠none:=by
 obtain⟨n,s,c,o,rfl,hb,h1,h2⟩:=h
 intro m hm
 simp only[idsV,zB4]at hm
 subst hm
 exact⟨h1,h2,bk_ne hb⟩
theorem OwnRow.at_ (h:OwnRow N H rv l):RowAt H rv l:=by
 obtain⟨n,s,c,o,rfl,hb,h1,h2⟩:=h
 by_cases hl:l=[]
 ·subst hl; exact .inl ⟨rfl,_,_,rfl⟩
 ·exact .inr ⟨hl,n,0,_,_,45,o,csOf l,rfl,rk_of hb,h2,by rw[csOf_length]; omega,by rw[zC7,List.take_of_length_le (by rw[csOf_length]; exact zA8 _)]⟩
theorem OwnG.rvOf (o:OwnG N H v rvs g) {i:Nat} {l:List Ce} (h:g[i]?=some l):∃ rv,rvs[i]?=some rv/\OwnRow N H rv l:=by
 have hlt:=(List.getElem?_eq_some_iff.1 h).1
 have:i<rvs.length:=by rw[o.len]; exact hlt
 exact⟨rvs[i],zA7 this,o.row i _ _ (zA7 this) h⟩
theorem OwnG.lOf (o:OwnG N H v rvs g) {i:Nat} {rv:Value} (h:rvs[i]?=some rv):∃ l,g[i]?=some l/\OwnRow N H rv l:=by
 have hlt:=(List.getElem?_eq_some_iff.1 h).1
 have:i<g.length:=by rw[<-o.len]; exact hlt
 exact⟨g[i],zA7 this,o.row i _ _ h (zA7 this)⟩
theorem OwnG.ids (o:OwnG N H v rvs g):∀ n∈rvs.flatMap idsV,N<=n/\n<H.next/\H.get n≠none:=by
 intro n hn
 obtain⟨rv,hrv,hn⟩:=List.mem_flatMap.1 hn
 obtain⟨i,hi⟩:=List.getElem?_of_mem hrv
 obtain⟨l,_,h⟩:=o.lOf hi
 exact h.rng n hn
theorem OwnG.of (o:OwnG N H v rvs g) (hn:H.next<=G.next) (hg:∀ n,N<=n->n<H.next->n∈idsV v++rvs.flatMap idsV->G.get n=H.get n):OwnG N G v rvs g where
 len:=o.len
 at_:=by
  rcases o.at_ with h|⟨m,s,c,o',rfl,hb,h1,h2,h3⟩
  ·exact .inl h
  ·exact .inr ⟨m,s,c,o',rfl,(bk_get (hg m h1 h2 (by simp[idsV]))).trans hb,h1,by omega,h3⟩
 row:=fun i rv l h1 h2=>(o.row i rv l h1 h2).of hn fun n hn=>by
  obtain⟨a,b,_⟩:=(o.row i rv l h1 h2).rng n hn
  exact hg n a b (List.mem_append_right _ (List.mem_flatMap.2 ⟨rv,zC2 h1,hn⟩))
 nd:=o.nd
theorem OwnG.grid (o:OwnG N H v rvs g):GridAt H v g:=by
 rcases o.at_ with⟨rfl,rfl⟩|⟨m,s,c,o',rfl,hb,h1,h2,h3⟩
 ·exact .inl ⟨rfl,_,_,rfl⟩
 ·by_cases hg:g=[]
  ·subst hg; exact .inl ⟨rfl,_,_,rfl⟩
  ·exact .inr ⟨hg,m,0,s,c,34,o',rvs,rfl,rk_of hb,h2,by rw[o.len]; omega,fun k l hk=>by
    obtain⟨rv,h4,h5⟩:=o.rvOf hk
    exact⟨rv,by rw[zC0]; exact h4,h5.at_⟩⟩
theorem ids_apart:∀ (rvs:List Value) (i j:Nat) (a b:Value) (n:Nat),(rvs.flatMap idsV).Nodup->rvs[i]?=some a->rvs[j]?=some b->i≠j->n∈idsV a->n∉idsV b
 |[],_,_,_,_,_,_,h,_,_,_=>by simp at h
 |x::rvs,0,0,_,_,_,_,_,_,h,_=>absurd rfl h
 |x::rvs,0,j+1,a,b,n,hnd,ha,hb,_,hn=>fun hn2=>by
  simp only[zC5,Option.some.injEq,zD0]at ha hb
  subst ha
  rw[zE1,List.nodup_append]at hnd
  exact hnd.2.2 n hn n (List.mem_flatMap.2 ⟨b,zC2 hb,hn2⟩) rfl
 |x::rvs,i+1,0,a,b,n,hnd,ha,hb,_,hn=>fun hn2=>by
  simp only[zC5,Option.some.injEq,zD0]at ha hb
  subst hb
  rw[zE1,List.nodup_append]at hnd
  exact hnd.2.2 n hn2 n (List.mem_flatMap.2 ⟨a,zC2 ha,hn⟩) rfl
 |x::rvs,i+1,j+1,a,b,n,hnd,ha,hb,hij,hn=>by
  rw[zE1,List.nodup_append]at hnd
  exact ids_apart rvs i j a b n hnd.2.1 (by simpa using ha) (by simpa using hb) (by omega) hn
theorem OwnG.set {n k:Nat} {l':List Ce} (o:OwnG N H v rvs g) {s:Option Nat} {c:Nat} {f:Bool} (hrv:rvs[k]?=some (.slice (some ⟨n,0,s⟩) l.length c)) (hl:g[k]?=some l) (hlen:l'.length=l.length) (hb:bk G n=some ⟨45,f,csOf l'⟩) (m:Mod [n] H G):OwnG N G v rvs (g.set k l'):=by
 have hnk:n∈rvs.flatMap idsV:=List.mem_flatMap.2 ⟨_,zC2 hrv,by simp[idsV]⟩
 have hother:∀ i rv,rvs[i]?=some rv->i≠k->n∉idsV rv:=by
  intro i rv hi hik hn
  exact ids_apart rvs i k rv _ n o.nd hi hrv hik hn (by simp[idsV])
 refine⟨by rw[List.length_set]; exact o.len,?_,fun i rv q hi hq=>?_,o.nd⟩
 ·rcases o.at_ with⟨rfl,rfl⟩|⟨m',s',c',o',rfl,hb',h1,h2,h3⟩
  ·simp at hl
  ·refine .inr ⟨m',s',c',o',by rw[List.length_set],(m.bk h2 ?_).trans hb',h1,m.lt h2,h3⟩
   simp only[zB4]
   rintro rfl
   exact h3 hnk
 ·by_cases hik:i=k
  ·subst hik
   rw[hrv]at hi
   cases hi
   have hkl:=(List.getElem?_eq_some_iff.1 hl).1
   rw[List.getElem?_set_self hkl]at hq
   cases hq
   obtain⟨n',s'',c'',o'',e,hb',h1,h2⟩:=o.row i _ l hrv hl
   cases e
   exact⟨n,s'',c'',f,by rw[hlen],hb,h1,m.lt h2⟩
  ·rw[List.getElem?_set_ne (fun h=>hik h.symm)]at hq
   refine (o.row i rv q hi hq).of m.next fun p hp=>m.get p ((o.row i rv q hi hq).rng p hp).2.1 ?_
   simp only[zB4]
   rintro rfl
   exact hother i rv hi hik hp
end
theorem GridAt.one {H:AHeap} {v:Value} {g:List (List Ce)} (h:GridAt H v g) {i:Nat} {l:List Ce} (hi:g[i]?=some l):∃ n off s c e o L rv,v=.slice (some ⟨n,off,s⟩) g.length c/\rk H n=some ⟨e,o,L⟩/\n<H.next/\L[off+i]?=some rv/\RowAt H rv l:=by
 rcases h with⟨rfl,_⟩|⟨_,n,off,s,c,e,o,L,rfl,h1,h2,h3,h4⟩
 ·simp at hi
 ·obtain⟨rv,h5,h6⟩:=h4 i l hi
  exact⟨n,off,s,c,e,o,L,rv,rfl,h1,h2,h5,h6⟩
theorem indexRows_c (H:AHeap) (v:Value) (l:List (List Ce)) (g:FuncId) (ca:List Value) (p:List Ce->Bool) (hv:GridAt H v l) (hl:l.length<=1000000) (hbd:hasBody Tryz.prog g=true) (hg:∀ rv a,RowAt H rv a->a∈l->Pure g (rv::ca) H (.bool (p a))) :
  Pure 42 [v,.func (.func g) ⟨[]⟩ ⟨ca⟩] H (.int .i64 (idxB p l)):=by
 obtain⟨b,hb⟩:=Go.Ax.exq H.next
 obtain⟨a0,c0,e0⟩:=hv.sl
 refine callS_fn mixed Tryz.func42 rfl Tryz.ntmps42 (zB2 rfl) fun wf hsc=>?_
 rw[e0]
 simp only[ruW,xF,ruU,entryE,Nat.reduceLT,Nat.reduceAdd,Nat.reduceEqDiff]
 refine w_env fun E hE=>?_
 have g0:E 0=v:=by rw[hE,e0]; simp only[ruU,Nat.reduceEqDiff]
 have g1:E 1=.func (.func g) ⟨[]⟩ ⟨ca⟩:=by rw[hE]; rfl
 have g7:E 7=.int .i64 (l.length:Int):=by rw[hE]; rfl
 have g8:E 8=.int .i64 ((0:Nat):Int):=by rw[hE]; rfl
 clear hE
 refine w_loop (fun (j:Nat) E' H'=>H'=ext H []/\j<=l.length/\(∀ k b,k<j->l[k]?=some b->p b=false)/\E' 0=v/\E' 1=.func (.func g) ⟨[]⟩ ⟨ca⟩/\E' 7=.int .i64 (l.length:Int)/\E' 8=.int .i64 (j:Int)) (fun j=>l.length-j) 0 ⟨rfl,zA9 _,fun k _ hk=>absurd hk (by omega),g0,g1,g7,g8⟩ ?_
 clear g0 g1 g7 g8 E
 rintro j E H' ⟨hH,hj,hall,g0,g1,g7,g8⟩
 rw[hH]
 by_cases hje:j=l.length
 ·have hd:decide ((j:Int)<(l.length:Int))=false:=decide_eq_false (by omega)
  simp only[g7,g8,hd,Tryz.results42,ruW,ruU,Nat.reduceLT]
  rw[idxB_not fun k b hk=>hall k b (by omega)]
  exact Fin.pureE rfl rfl
 ·have hjl:j<l.length:=by omega
  have hd:decide ((j:Int)<(l.length:Int))=true:=decide_eq_true (by omega)
  obtain⟨x,hx⟩:∃ x,l[j]?=some x:=⟨_,zA7 hjl⟩
  obtain⟨n,off,s,c,e,o,M,rv,e1,r1,n1,hrv,hR⟩:=hv.one hx
  rw[e1]at g0
  have i1:=grid_ia (n:=n) (off:=off) (s:=s) (cap:=c) (i:=(j:Int)) rfl hjl
  have l1:=grid_load (e:=e) (o:=o) hrv
  rw[hb]at n1
  have hwj:IntKind.i64.wrap ((j:Int)+1)=((j+1:Nat):Int):=wrap_succ (by omega)
  simp only[g0,g1,g7,g8,hb,hd,i1,n1,r1,l1,qk_old,ruW,ruU,Nat.reduceLT,Nat.reduceEqDiff]
  refine w_callV (f:=g) (ca:=ca) rfl rfl rfl hbd ?_
  have hgj:=hg rv x hR (zC2 hx)
  obtain⟨d,hdd⟩:=Go.Ax.exq (p x)
  rw[hdd]at hgj
  simp only[ruU]
  refine CallS.to (show Pure g (rv::ca) (ext H []) _ from hgj) ?_
  cases d with
  |true =>
   simp only[Tryz.results42,ruW,ruU,Nat.reduceLT,Nat.reduceEqDiff]
   rw[idxB_at hx hdd fun k b hk=>hall k b (by omega)]
   exact Fin.pureE rfl rfl
  |false =>
   simp only[g8,hwj,ruW,ruU,Nat.reduceLT,Nat.reduceEqDiff]
   refine loopC_next ⟨j+1,by omega,rfl,by omega,fun k b hk hkj=>?_,?_,?_,?_,?_⟩
   ·by_cases hkk:k=j
    ·subst hkk
     rw[hx]at hkj
     cases hkj
     exact hdd
    ·exact hall k b (by omega) hkj
   ·rw[e1]; simp only[g0,ruU,Nat.reduceEqDiff]
   ·exact g1
   ·exact g7
   ·rfl
theorem containsRows_c (H:AHeap) (v:Value) (l:List (List Ce)) (g:FuncId) (ca:List Value) (p:List Ce->Bool) (hv:GridAt H v l) (hl:l.length<=1000000) (hbd:hasBody Tryz.prog g=true) (hg:∀ rv a,RowAt H rv a->a∈l->Pure g (rv::ca) H (.bool (p a))) :
  Pure 21 [v,.func (.func g) ⟨[]⟩ ⟨ca⟩] H (.bool (l.any p)):=by
 obtain⟨a0,c0,e0⟩:=hv.sl
 have hc:=indexRows_c H v l g ca p hv hl hbd hg
 refine callS_fn mixed Tryz.func21 rfl Tryz.ntmps21 (zB2 rfl) fun wf hsc=>?_
 rw[e0]at hc ⊢
 simp only[ruW,xF,ruU,entryE,Nat.reduceLT,Nat.reduceAdd,Nat.reduceEqDiff]
 refine CallS.to (show Pure 42 _ (ext H []) _ from hc) ?_
 rw[<-idxB_any]
 simp only[Tryz.results21,ruW,ruU,Nat.reduceLT]
 exact Fin.pureE rfl rfl
structure CvR (N:Nat) (H:AHeap) (c:Nat) (v:Value) (rvs:List Value) (W:Nat) (g:List (List Ce)) (rw cl:Int):Prop where
 at_:bk H c=some ⟨60,false,[v,.int .i64 rw,.int .i64 cl]⟩
 lt:c<N
 nx:N<=H.next
 own:OwnG N H v rvs g
 sp:∀ rv∈rvs,∃ n,rv=.slice (some ⟨n,0,some 0⟩) W W
 wd:∀ l∈g,l.length=W
theorem CvR.grow {N c W:Nat} {H G:AHeap} {v:Value} {rvs:List Value} {g:List (List Ce)} {rw cl:Int} (h:CvR N H c v rvs W g rw cl) (m:Mod [] H G):CvR N G c v rvs W g rw cl :=
 ⟨(m.bk (by have:=h.lt; have:=h.nx; omega) (by simp)).trans h.at_,h.lt,zB8 h.nx m.next,h.own.of m.next fun n _ hn _=>m.get n hn (by simp),h.sp,h.wd⟩
theorem overR_len {q l:List Ce} {col:Nat} (h:col+l.length<=q.length):(overR q col l).length=q.length:=by
 unfold overR
 simp only[zC8,zE3,zE4]
 omega
theorem putG_get {g:List (List Ce)} {row col:Nat} {l q:List Ce} (h:g[row]?=some q):putG g row col l=g.set row (overR q col l):=by
 unfold putG
 rw[List.getD_eq_getElem?_getD,h]
 rfl
theorem csOf_over {q l:List Ce} {col:Nat} (h:col+l.length<=q.length):putL (csOf q) (col*6) (csOf l)=csOf (overR q col l):=by
 have e:(q.take col).length=col:=by rw[zE3]; omega
 have:=csOf_put (q.take col) l (q.drop col) (by rw[zE4]; omega)
 rw[List.take_append_drop,e,List.drop_drop]at this
 rw[this,overR,List.append_assoc]
theorem RowAt.cp {H:AHeap} {u:Value} {cs:List Ce} (h:RowAt H u cs) {n off dl dc:Nat} (hd:cs.length<=dl):aBuiltin Tryz.prog H .copy ⟨[34,34]⟩ [.slice (some ⟨n,off,some 0⟩) dl dc,u]=(aWrite H n off (csOf cs)).map fun g=>(goInt cs.length,g):=by
 have u39:Tryz.prog.underlying 34=some (.slice 45):=by kernel_rfl
 have s68:szOf Tryz.prog 45=some 6:=by kernel_rfl
 rcases h with⟨rfl,a,c,rfl⟩|⟨_,m,off2,s,c,e,o,L,rfl,hb,hlt,hle,ht⟩
 ·have hf:firstC H 6 0 (.slice a 0 c)=some []:=by cases a<;>simp[firstC]
  have hm:zD1 0 dl=0:=Nat.min_eq_left (zA9 _)
  simp only[aBuiltin,aCopy,u39,s68,zA1,zA3,lenV,hm,hf]
  rw[if_pos (.inl rfl)]
  show Option.bind (aWrite H n off (csOf [])) _=_
  cases aWrite H n off (csOf [])<;>rfl
 ·have hm:zD1 cs.length dl=cs.length:=Nat.min_eq_left hd
  have:=cp_sliceR (P:=Tryz.prog) (dt:=34) (st:=34) (m:=n) (off:=off) (dl:=dl) (dc:=dc) (s:=some 0) (n:=m) (off2:=off2) (sl:=cs.length) (sc:=c) (s2:=s) (b:=⟨e,o,L⟩) u39 s68 rfl hb (by rw[hm]; exact hle)
  rw[hm]at this
  rw[this]
  show Option.map _ (aWrite H n off ((L.drop off2).take (cs.length*6)))=_
  rw[ht]
theorem put_c {N c W:Nat} {H:AHeap} {v u:Value} {rvs:List Value} {g:List (List Ce)} {rw cl:Int} (h:CvR N H c v rvs W g rw cl) (row col:Nat) (ri ci:Int) (hri:ri=row) (hci:ci=col) (cs:List Ce) (hu:RowAt H u cs) (hr:row<g.length) (hcw:col<W) (hcl:col+cs.length<=W) :
  CallA Tryz.prog 18 [.pointer (some ⟨c,0,none⟩),.int .i64 ri,.int .i64 ci,u] H (fun out X=>out=.ok (.tuple ⟨[]⟩)/\CvR N X c v rvs W (putG g row col cs) rw cl/\Mod (rvs.flatMap idsV) H X/\X.next=H.next):=by
 subst hri hci
 obtain⟨x,hx⟩:=Go.Ax.exq H.next
 obtain⟨q,hq⟩:∃ q,g[row]?=some q:=⟨_,zA7 hr⟩
 have hql:=h.wd q (zC2 hq)
 obtain⟨rv,hrv,hrow⟩:=h.own.rvOf hq
 obtain⟨n,rfl⟩:=h.sp rv (zC2 hrv)
 obtain⟨n',t,c',o,e,hbn,hNn,hnx⟩:=hrow
 obtain rfl:n=n':=List.singleton_inj.1 (show [n]=[n'] from congrArg idsV e)
 clear e t c'
 obtain⟨m,s,c2,o2,ev,hbm,hNm,hmx,hmn⟩:∃ m s c o,v=.slice (some ⟨m,0,s⟩) g.length c/\bk H m=some ⟨34,o,rvs⟩/\N<=m/\m<H.next/\m∉rvs.flatMap idsV:=by
  rcases h.own.at_ with⟨h0,_⟩|h1
  ·rw[h0]at hr; simp at hr
  ·exact h1
 have hcx:c<x:=by have:=h.lt; have:=h.nx; omega
 have hat:=h.at_
 rw[ev]at hat
 obtain⟨ua,uc,eu⟩:=hu.sl
 have i1:=grid_ia (n:=m) (off:=0) (s:=s) (cap:=c2) (i:=(row:Int)) rfl hr
 have l1:=grid_load (k:=row) (off:=0) (e:=34) (o:=o2) (show rvs[0+row]?=some _ by rw[zC0]; exact hrv)
 rw[hx]at hnx hmx
 have hsl:aSlice Tryz.prog (ext H []) 34 (.slice (some ⟨n,0,some 0⟩) W W) (some (.int .i64 (col:Int))) none none=some (.slice (some ⟨n,0+col*6,some 0⟩) (W-col) (W-col),ext H []) :=
  sl_exact (e:=45) (sz:=6) (by kernel_rfl) (by kernel_rfl) (by simp[bound]) rfl (zA8 _) (by omega) hcw
 have hcp:=hu.cp (n:=n) (off:=0+col*6) (dl:=W-col) (dc:=W-col) (by omega)
 have hwr:=write_old (H:=H) (L:=[]) (n:=n) (off:=0+col*6) (vs:=csOf cs) (by omega) hbn (by rw[csOf_length,csOf_length]; omega) (csOf_one _) (csOf_sc _ _)
 rw[ext_nil,ext_nil]at hwr
 rw[hwr,zA5]at hcp
 have hcp':aBuiltin Tryz.prog (ext H []) .copy ⟨[34,34]⟩ [.slice (some ⟨n,0+col*6,some 0⟩) (W-col) (W-col),u]=some (goInt cs.length,ext (uw H n (0+col*6) (csOf cs)) []):=hcp
 refine callE_fn mixed Tryz.func18 rfl Tryz.ntmps18 (zB2 rfl) ?_
 rw[eu]at hcp' ⊢
 rw[show H=ext H [] from rfl]
 simp only[hx,hcx,hat,hbm,hmx,i1,l1,hsl,hcp',qk_old,Tryz.results18,ruW,xF,ruU,entryE,Nat.reduceLT,Nat.reduceAdd,Nat.reduceEqDiff]
 have hnm:n∈rvs.flatMap idsV:=List.mem_flatMap.2 ⟨_,zC2 hrv,by simp[idsV]⟩
 refine⟨trivial,?_,Mod.uw hnm,trivial⟩
 show CvR N (uw H n (0+col*6) (csOf cs)) c v rvs W (putG g row col cs) rw cl
 have hln:(overR q col cs).length=q.length:=overR_len (by omega)
 have hbk:bk (uw H n (0+col*6) (csOf cs)) n=some ⟨45,o,csOf (overR q col cs)⟩:=by
  rw[bk_uw_eq,hbn,zA5,putB_eq,zC0,csOf_over (by omega)]
 rw[putG_get hq]
 refine⟨(bk_uw_ne (by have:=h.lt; omega)).trans h.at_,h.lt,by rw[uw_next]; exact h.nx,?_,h.sp,?_⟩
 ·rw[<-hql]at hrv
  exact h.own.set hrv hq hln hbk (Mod.uw (by simp))
 ·intro l hl
  rcases List.mem_or_eq_of_mem_set hl with hl|rfl
  ·exact h.wd l hl
  ·rw[hln]; exact hql
theorem vs_rowF {H:AHeap} {v:Value} {l:List Ce} (h:VsAt H 45 6 v (csOf l) l.length):RowAt H v l:=RdAt.row (_root_.Go.Ax.VsAt.rd h)
theorem fitR_len (w:Nat) (k:Lk) (l:List Int):(fitR w k l).length=w:=by
 have:=grd_len w k l [] (zA9 _)
 unfold fitR
 rw[zC8,zD2]
 omega
theorem strG_len (w:Nat) (k:Lk) (s:ByteArray):(strG w k s).length<=w:=by
 unfold strG
 split
 ·rw[fitR_len]; exact zA8 _
 ·exact zA9 _
theorem string_c {N c W:Nat} {H:AHeap} {v:Value} {rvs:List Value} {g:List (List Ce)} {rw cl:Int} (h:CvR N H c v rvs W g rw cl) (hok:H.base<=H.next) (t:TabX H) (row col w:Nat) (ri ci wi:Int) (hri:ri=row) (hci:ci=col) (hwi:wi=w) (s:ByteArray) (k:Lk) (hk:colr k=true) (hw:w<=1000) (hs:s.size<=300) (hr:row<g.length) (hcw:col<W) (hcl:col+w<=W) :
  CallA Tryz.prog 20 [.pointer (some ⟨c,0,none⟩),.int .i64 ri,.int .i64 ci,.int .i64 wi,.string s,k.val] H (fun out X=>out=.ok (.tuple ⟨[]⟩)/\CvR N X c v rvs W (putG g row col (strG w k s)) rw cl/\Mod (rvs.flatMap idsV) H X):=by
 obtain⟨x,hx⟩:=Go.Ax.exq H.next
 refine callE_fn mixed Tryz.func20 rfl Tryz.ntmps20 (zB2 rfl) ?_
 obtain⟨G,hG⟩:=Go.Ax.exq (ext H [⟨41,false,lkc k⟩])
 have mG:Mod [] H G:=hG▸Mod.ext hok
 have nG:G.next=x+1:=by rw[<-hG,ext_next,hx]; rfl
 have k1:bk G (x+0)=some ⟨41,false,lkc k⟩:=by rw[<-hG,bk_at hx (by simp)]; rfl
 have hf:=fit_c G (t.mod0 mG).tab (by have:=(t.mod0 mG).lt; omega) s wi k (by rw[<-size_len]; exact hs) (mG.ok hok)
 unfold lkc at hG k1
 unfold Lk.val at hf ⊢
 simp only[hx,ruW,Nat.reduceLeDiff,xF,ruU,entryE,Nat.reduceLT,Nat.reduceAdd,Nat.reduceEqDiff]
 rw[hG,show G=ext G [] from rfl]
 refine CallA.mono (show CallA Tryz.prog 33 _ (ext G []) _ from hf) ?_
 rintro out X ⟨mX,ho⟩
 have mHX:=mG.trans mX
 have hX:=h.grow mHX
 obtain⟨u,eo,ho',hru⟩:∃ u e,out=.ok (.tuple #[u,.int .i64 e])/\RowAt X u (strG w k s):=by
  unfold FitOut at ho
  unfold strG
  cases hp:ptsR s.data.toList with
  |none =>
   rw[hp]at ho
   exact⟨_,_,ho,.inl ⟨rfl,_,_,rfl⟩⟩
  |some l =>
   rw[hp]at ho
   have:(decide (wi<0)||decide (1000<wi)||!colr k)=false:=by
    rw[hk]
    simp only[Bool.or_eq_false_iff,decide_eq_false_iff_not]
    exact⟨⟨by omega,by omega⟩,rfl⟩
   simp only[this]at ho
   obtain⟨u,h1,h2,h3⟩:=ho
   rw[show wi.toNat=w by omega]at h2
   exact⟨u,_,h1,vs_rowF h2⟩
 rw[ho']
 have hp:=put_c hX row col ri ci hri hci (strG w k s) hru hr hcw (by have:=strG_len w k s; omega)
 simp only[ruW,xF,ruU,Nat.reduceLT,Nat.reduceEqDiff]
 refine CallA.mono (show CallA Tryz.prog 18 _ X _ from hp) ?_
 rintro out Z ⟨rfl,hZ,mZ,_⟩
 simp only[Tryz.results20,ruW,Nat.reduceLT]
 exact⟨trivial,hZ,(mHX.mono (by simp)).trans mZ⟩
theorem putG_len {g:List (List Ce)} {row col:Nat} {l:List Ce}:(putG g row col l).length=g.length:=by unfold putG; rw[List.length_set]
theorem putRows_len {col:Nat}:∀ (ls:List (List Ce)) (g:List (List Ce)) (row:Nat),(putRows g row col ls).length=g.length
 |[],_,_=>rfl
 |l::ls,g,row=>by rw[putRows,putRows_len ls,putG_len]
theorem putRows_snoc {col:Nat} (l:List Ce):∀ (ls:List (List Ce)) (g:List (List Ce)) (row:Nat),putRows g row col (ls++[l])=putG (putRows g row col ls) (row+ls.length) col l
 |[],_,_=>rfl
 |q::ls,g,row=>by
  rw[List.cons_append,putRows,putRows_snoc l ls,putRows,zB0]
  congr 1
  omega
def curS (z:Int × Int) (p:Pn):Int × Int:=if p.sel=true/\p.row≠-1/\z.1=-1 then (p.rect.top+p.row,p.rect.left+p.col) else z
structure PnOk (h w:Nat) (p:Pn):Prop where
 top:0<=p.rect.top
 left:0<=p.rect.left
 height:1<=p.rect.height
 width:1<=p.rect.width
 th:p.rect.top+p.rect.height<=h-1
 lw:p.rect.left+p.rect.width<=w
 row:-1<=p.row
 rowh:p.row<=p.rect.height-2
 col:p.row≠-1->0<=p.col/\p.col<p.rect.width
 rows:∀ r∈p.rows.take (p.rect.height-1).toNat,(r.cells.length:Int)=p.rect.width
 mode:ptsR p.mode.data.toList≠none
 look:colr p.look=true
theorem pnOk_of {h w:Nat} {p:Pn} (h0:pnE h w p=0):PnOk h w p:=by
 unfold pnE at h0
 split at h0
 ·cases h0
 ·rename_i h1
  split at h0
  ·cases h0
  ·rename_i h2
   have hi:insR h w p.rect=true:=by
    cases hi:insR h w p.rect with
    |true=>rfl
    |false=>exact absurd (.inl hi) h1
   unfold insR at hi
   simp only[zA4,decide_eq_true_eq]at hi
   refine⟨by omega,by omega,by omega,by omega,by omega,by omega,?_,?_,?_,?_,?_,?_⟩
   ·exact Decidable.byContradiction fun hc=>h1 (.inr (.inl (by omega)))
   ·exact Decidable.byContradiction fun hc=>h1 (.inr (.inr (.inl (by omega))))
   ·intro hr
    exact Decidable.byContradiction fun hc=>h1 (.inr (.inr (.inr ⟨hr,by omega⟩)))
   ·intro r hr
    refine Decidable.byContradiction fun hc=>h2 (.inl (List.any_eq_true.2 ⟨r,hr,decide_eq_true hc⟩))
   ·exact fun hc=>h2 (.inr (.inl hc))
   ·cases hl:colr p.look with
    |true=>rfl
    |false=>exact absurd (.inr (.inr hl)) h2
theorem CvR.cur {N c W:Nat} {H:AHeap} {v:Value} {rvs:List Value} {g:List (List Ce)} {rw cl:Int} (h:CvR N H c v rvs W g rw cl) (a b:Int):CvR N (uw (uw H c 1 [.int .i64 a]) c 2 [.int .i64 b]) c v rvs W g a b/\Mod [c] H (uw (uw H c 1 [.int .i64 a]) c 2 [.int .i64 b]):=by
 have m:Mod [c] H (uw (uw H c 1 [.int .i64 a]) c 2 [.int .i64 b]):=(Mod.uw (by simp)).trans (Mod.uw (by simp))
 refine⟨⟨?_,h.lt,zB8 h.nx m.next,h.own.of m.next fun n hN hn _=>m.get n hn (by have:=h.lt; simp only[zB4]; omega),h.sp,h.wd⟩,m⟩
 rw[bk_uw_eq,bk_uw_eq,h.at_]
 rfl
theorem pane_c {N c W:Nat} {H0 H:AHeap} {v rv:Value} {rvs:List Value} {g:List (List Ce)} {rw cl:Int} (h:CvR N H c v rvs W g rw cl) (hok:H.base<=H.next) (t:TabX H) (m0:Mod [] H0 H) (ok0:H0.base<=H0.next) (hN:H0.next<=N) (hc0:H0.next<=c) (t0c:2<=c) (p:Pn) (hR:RowsR true H0 rv p.rows) (ok:PnOk g.length W p) (hg:g.length<=200) (hW:W<=1000) (hrl:p.rows.length<=1000) (hs:p.mode.size<=300) :
  CallA Tryz.prog 17 [.pointer (some ⟨c,0,none⟩),.agg ⟨pnL rv p⟩] H (fun out X=>out=.ok (.tuple ⟨[]⟩)/\CvR N X c v rvs W (paneG g p) (curS (rw,cl) p).1 (curS (rw,cl) p).2/\Mod (c::rvs.flatMap idsV) H X):=by
 obtain⟨x,hx⟩:=Go.Ax.exq H.next
 have hbase:H.base<=x:=hx▸hok
 obtain⟨ra,rc,er⟩:=hR.it.sl
 have sr:=scb_mono m0.next _ hR.sc
 rw[hx,er]at sr
 refine callE_fn mixed Tryz.func17 rfl Tryz.ntmps17 (zB2 rfl) ?_
 obtain⟨G,hG⟩:=Go.Ax.exq (ext H [⟨43,false,pnL rv p⟩,⟨38,false,rcL p.rect⟩])
 have mG:Mod [] H G:=hG▸Mod.ext hok
 have nG:G.next=x+2:=by rw[<-hG,ext_next,hx]; rfl
 have okG:=mG.ok hok
 have gb:G.base<=x+2:=nG▸okG
 have j1:x+0<x+2:=by omega
 have j2:x+1<x+2:=by omega
 have k1:bk G (x+0)=some ⟨43,false,pnL rv p⟩:=by rw[<-hG,bk_at hx (by simp)]; rfl
 have k2:bk G (x+1)=some ⟨38,false,rcL p.rect⟩:=by rw[<-hG,bk_at hx (by simp)]; rfl
 have hw1:IntKind.i64.wrap (p.rect.height-1)=p.rect.height-1:=wrap_sm (by have:=ok.height; omega) (by have:=ok.th; have:=ok.top; omega)
 obtain⟨K,hK⟩:=Go.Ax.exq (min p.rows.length (p.rect.height-1).toNat)
 have hht:=ok.height
 have hKi:min (p.rows.length:Int) (p.rect.height-1)=(K:Int):=by omega
 have htk:p.rows.take (p.rect.height-1).toNat=p.rows.take K:=by
  rw[<-hK,List.take_eq_take_iff]
  omega
 have hKl:(p.rows.take K).length=K:=by rw[zE3]; omega
 obtain⟨ka,kc,hcut,hit,hids⟩:=hR.cut rfl K (by omega)
 have hcutG:aSlice Tryz.prog (ext G []) 39 (.slice ra p.rows.length rc) none (some (.int .i64 (K:Int))) none=some (.slice ka K kc,ext G []):=by
  rw[<-er]
  exact hcut G fun n hn=>(m0.trans mG).get n (ids_of_scb _ hR.sc n hn) (by simp)
 rw[er]at k1 hG ⊢
 unfold pnL rcL at hG
 unfold pnL at k1
 unfold rcL at k2
 have z52:zeroOf Tryz.prog 38=some (.agg #[.int .i64 0,.int .i64 0,.int .i64 0,.int .i64 0,.int .i64 0]):=by kernel_rfl
 generalize hcode:Code.seq (Code.region 7 _ _) _=code
 unfold pnL
 simp only[hx,hbase,sr,z52,ruW,putL,Nat.reduceLeDiff,xF,ruU,entryE,Nat.reduceLT,Nat.reduceAdd,Nat.reduceEqDiff]
 rw[hG,show G=ext G [] from rfl]
 simp only[hw1,hKi,hcutG,ruW,xF,ruU,Nat.reduceLT]
 refine w_env fun E hE=>?_
 have g0:E 0=.pointer (some ⟨c,0,none⟩):=by rw[hE]; rfl
 have g3:E 3=.pointer (some ⟨x+0,0,none⟩):=by rw[hE]; rfl
 have g4:E 4=.pointer (some ⟨x+1,0,none⟩):=by rw[hE]; rfl
 have g18:E 18=.slice ka K kc:=by rw[hE]; rfl
 have g19:E 19=.int .i64 (K:Int):=by rw[hE]; rfl
 have g20:E 20=.int .i64 ((0:Nat):Int):=by rw[hE]; rfl
 clear hE
 have u53:Tryz.prog.underlying 39=some (.slice 55):=by kernel_rfl
 have s58:szOf Tryz.prog 55=some 5:=by kernel_rfl
 have ag58:aggT Tryz.prog 55=some true:=by kernel_rfl
 have z58:zeroOf Tryz.prog 55=some (.agg #[.slice none 0 0,.slice none 0 0,.int .i64 0,.int .i64 0,.bool false]):=by kernel_rfl
 have hF:∀ n∈rvs.flatMap idsV,N<=n/\n<x:=fun n hn=>⟨(h.own.ids n hn).1,hx▸(h.own.ids n hn).2.1⟩
 have hcx:c<x:=by have:=h.lt; have:=h.nx; omega
 have hlc:∀ r∈p.rows.take K,(r.cells.length:Int)=p.rect.width:=fun r hr=>ok.rows r (by rw[htk]; exact hr)
 have ht0:=ok.top
 have hl0:=ok.left
 have hwd:=ok.width
 have hth:=ok.th
 have hlw:=ok.lw
 refine w_loop (fun (j:Nat) E' X'=>j<=K/\CvR N X' c v rvs W (putRows g p.rect.top.toNat p.rect.left.toNat ((p.rows.take j).map Rw.cells)) rw cl/\Mod (rvs.flatMap idsV) G X'/\E' 0=.pointer (some ⟨c,0,none⟩)/\E' 3=.pointer (some ⟨x+0,0,none⟩)/\E' 4=.pointer (some ⟨x+1,0,none⟩)/\E' 18=.slice ka K kc/\E' 19=.int .i64 (K:Int)/\E' 20=.int .i64 (j:Int)) (fun j=>K-j) 0 ⟨zA9 _,h.grow mG,Mod.refl,g0,g3,g4,g18,g19,g20⟩ ?_
 clear g0 g3 g4 g18 g19 g20 E
 rintro j E X ⟨hj,hX,mX,g0,g3,g4,g18,g19,g20⟩
 obtain⟨y,hy⟩:=Go.Ax.exq X.next
 have okX:=mX.ok okG
 have yb:X.base<=y:=hy▸okX
 have xy:x+2<=y:=by have:=mX.next; omega
 have k1X:bk X (x+0)=some ⟨43,false,_⟩:=(mX.bk (by omega) (fun hn=>by have:=hF _ hn; omega)).trans k1
 have k2X:=(mX.bk (n:=x+1) (by omega) (fun hn=>by have:=hF _ hn; omega)).trans k2
 have y1:x+0<y:=by omega
 have y2:x+1<y:=by omega
 have m0X:Mod [] H0 X:=(m0.trans mG).step mX ok0 fun n hn=>.inr (by have:=hF n hn; omega)
 rw[show X=ext X [] from rfl]
 by_cases hjl:j<K
 ·have hd:decide ((j:Int)<(K:Int))=true:=decide_eq_true (by omega)
  obtain⟨r,hr⟩:∃ r,(p.rows.take K)[j]?=some r:=⟨_,zA7 (by omega)⟩
  have hrm:=zC2 hr
  obtain⟨n,off,s,cc,e,o,M,cs,e1,n1,r1,hle,hM,cv,pv,rfl,hRw⟩:=(hit.mono m0X fun _ _=>RwC.mod0 m0X).one hr
  rw[hKl]at e1
  simp only[Value.slice.injEq,true_and]at e1
  obtain⟨rfl,rfl⟩:=e1
  have i1:=ia_of (P:=Tryz.prog) (k:=.i64) (i:=j) (n:=n) (off:=off) (len:=K) (cap:=kc) (s:=s) u53 s58 hjl
  have l1:ldB Tryz.prog 55 (off+j*5) (some ⟨e,o,M⟩)=some (.agg ⟨rwL cv pv r⟩):=by
   rw[ld_agg ag58,s58,zA3,if_pos (by omega),hM]
  obtain⟨ca,cb,ecv⟩:=hRw.cells.sl
  obtain⟨pa,pb,epv⟩:=hRw.pos.sl
  have sc1:=hRw.sc
  have sc2:=hRw.sp
  rw[hy]at n1 sc1 sc2
  rw[ecv]at l1 sc1
  rw[epv]at l1 sc2
  obtain⟨Z,hZ⟩:=Go.Ax.exq (ext X [⟨55,false,rwL (.slice ca r.cells.length cb) (.slice pa r.pos.length pb) r⟩])
  have mZ:Mod [] X Z:=hZ▸Mod.ext okX
  have nZ:Z.next=y+1:=by rw[<-hZ,ext_next,hy]; rfl
  have kZ:bk Z (y+0)=some ⟨55,false,rwL (.slice ca r.cells.length cb) (.slice pa r.pos.length pb) r⟩:=by rw[<-hZ,bk_at hy (by simp)]; rfl
  have zb:Z.base<=y+1:=nZ▸mZ.ok okX
  have yz:y+0<y+1:=by omega
  have z1:x+0<y+1:=by omega
  have z2:x+1<y+1:=by omega
  have k1Z:=(mZ.bk (by omega) (by simp)).trans k1X
  have k2Z:=(mZ.bk (by omega) (by simp)).trans k2X
  have hrowZ:RowAt Z (.slice ca r.cells.length cb) r.cells:=by
   rw[<-ecv]
   exact RdAt.row (hRw.cells.mod0 mZ)
  unfold rwL at l1 hZ kZ
  have w1:IntKind.i64.wrap (p.rect.top+(j:Int))=p.rect.top+(j:Int):=wrap_sm (by omega) (by omega)
  simp only[g0,g4,g18,g19,g20,hy,yb,hd,i1,n1,r1,l1,sc1,sc2,z58,k2X,y2,qk_old,ruW,putL,Nat.reduceLeDiff,xF,ruU,Nat.reduceLT,Nat.reduceAdd,Nat.reduceEqDiff]
  rw[hZ,show Z=ext Z [] from rfl]
  simp only[w1]
  have hXZ:=hX.grow mZ
  have hput:=put_c hXZ (p.rect.top.toNat+j) p.rect.left.toNat (p.rect.top+(j:Int)) p.rect.left (by omega) (by omega) r.cells hrowZ (by rw[putRows_len]; omega) (by have:=hlc r hrm; omega) (by have:=hlc r hrm; omega)
  refine CallA.mono (show CallA Tryz.prog 18 _ (ext Z []) _ from hput) ?_
  rintro out Y ⟨rfl,hY,mY,_⟩
  have hwj:IntKind.i64.wrap ((j:Int)+1)=((j+1:Nat):Int):=wrap_succ (by omega)
  have htj:((p.rows.take (j+1)).map Rw.cells)=((p.rows.take j).map Rw.cells)++[r.cells]:=by
   have hr':p.rows[j]?=some r:=by
    rw[List.getElem?_take,if_pos hjl]at hr
    exact hr
   rw[List.take_succ,hr',List.map_append]
   rfl
  have hlj:((p.rows.take j).map Rw.cells).length=j:=by rw[List.length_map,zE3]; omega
  simp only[g20,hwj,ruW,ruU,Nat.reduceLT,Nat.reduceEqDiff]
  refine loopC_next ⟨j+1,by omega,hjl,?_,(mX.trans (mZ.mono (by simp))).trans mY,?_,?_,?_,?_,?_,?_⟩
  ·rw[htj,putRows_snoc,hlj]
   exact hY
  ·exact g0
  ·exact g3
  ·exact g4
  ·exact g18
  ·exact g19
  ·rfl
 ·obtain rfl:j=K:=by omega
  have hd:decide ((j:Int)<(j:Int))=false:=decide_eq_false (by omega)
  subst hcode
  simp only[g0,g3,g4,g19,g20,hy,hd,k1X,k2X,y1,y2,qk_old,ruW,Nat.reduceLeDiff,xF,ruU,Nat.reduceLT,Nat.reduceAdd,Nat.reduceEqDiff]
  have w1:IntKind.i64.wrap (p.rect.top+p.rect.height)=p.rect.top+p.rect.height:=wrap_sm (by omega) (by omega)
  have w2:IntKind.i64.wrap (p.rect.top+p.rect.height-1)=p.rect.top+p.rect.height-1:=wrap_sm (by omega) (by omega)
  have hst:=string_c hX okX ((t.mod0 mG).mod mX (fun hn=>by have:=hF _ hn; have:=h.lt; omega) (fun hn=>by have:=hF _ hn; have:=h.lt; omega)) (p.rect.top+p.rect.height-1).toNat p.rect.left.toNat p.rect.width.toNat (p.rect.top+p.rect.height-1) p.rect.left p.rect.width (by omega) (by omega) (by omega) p.mode p.look ok.look (by omega) hs (by rw[putRows_len]; omega) (by omega) (by omega)
  rw[<-htk]at hst
  unfold Pn.look Lk.val at hst
  rw[w1,w2]
  refine CallA.mono (show CallA Tryz.prog 20 _ (ext X []) _ from hst) ?_
  rintro out Y ⟨rfl,hY,mY⟩
  have hpg:putG (putRows g p.rect.top.toNat p.rect.left.toNat ((p.rows.take (p.rect.height-1).toNat).map Rw.cells)) (p.rect.top+p.rect.height-1).toNat p.rect.left.toNat (strG p.rect.width.toNat ⟨p.fore,p.back,p.bold,p.under,p.inv⟩ p.mode)=paneG g p:=rfl
  rw[hpg]at hY
  obtain⟨z,hz⟩:=Go.Ax.exq Y.next
  have okY:=mY.ok okX
  have yz:y<=z:=by have:=mY.next; omega
  have k1Y:=(mY.bk (n:=x+0) (by omega) (fun hn=>by have:=hF _ hn; omega)).trans k1X
  have k2Y:=(mY.bk (n:=x+1) (by omega) (fun hn=>by have:=hF _ hn; omega)).trans k2X
  have z1:x+0<z:=by omega
  have z2:x+1<z:=by omega
  have zc:c<z:=by omega
  have kcY:=hY.at_
  have mHY:Mod (rvs.flatMap idsV) H Y:=((mG.mono (by simp)).trans mX).trans mY
  obtain⟨va,vc,ev⟩:∃ a c,v=.slice a (paneG g p).length c:=hY.own.grid.sl
  rw[ev]at kcY
  obtain⟨d0,h0⟩:∃ d,p.sel=d:=⟨_,rfl⟩
  obtain⟨d1,h1⟩:∃ d,decide (¬p.row=-1)=d:=⟨_,rfl⟩
  obtain⟨d2,h2⟩:∃ d,decide (rw=-1)=d:=⟨_,rfl⟩
  rw[h0]at k1Y
  rw[show Y=ext Y [] from rfl]
  have no:¬(d0=true/\d1=true/\d2=true)->curS (rw,cl) p=(rw,cl):=fun hn=>by
   unfold curS
   rw[if_neg]
   rintro⟨e0,e1,e2⟩
   exact hn ⟨h0▸e0,h1▸decide_eq_true e1,h2▸decide_eq_true e2⟩
  cases d0 with
  |false =>
   rw[no (by simp)]
   simp only[g3,hz,k1Y,z1,Tryz.results17,qk_old,ruW,xF,ruU,Nat.reduceLT,Nat.reduceAdd,Nat.reduceEqDiff]
   exact⟨trivial,hY,mHY.mono fun n hn=>zB5 _ hn⟩
  |true =>
  cases d1 with
  |false =>
   rw[no (by simp)]
   simp only[g3,hz,k1Y,z1,h1,Tryz.results17,qk_old,ruW,xF,ruU,Nat.reduceLT,Nat.reduceAdd,Nat.reduceEqDiff]
   exact⟨trivial,hY,mHY.mono fun n hn=>zB5 _ hn⟩
  |true =>
  cases d2 with
  |false =>
   rw[no (by simp)]
   simp only[g0,g3,hz,k1Y,kcY,z1,zc,h1,h2,Tryz.results17,qk_old,ruW,xF,ruU,Nat.reduceLT,Nat.reduceAdd,Nat.reduceEqDiff]
   exact⟨trivial,hY,mHY.mono fun n hn=>zB5 _ hn⟩
  |true =>
  have hcu:curS (rw,cl) p=(p.rect.top+p.row,p.rect.left+p.col):=by
   unfold curS
   rw[if_pos ⟨h0,of_decide_eq_true h1,of_decide_eq_true h2⟩]
  rw[hcu]
  have hcol:=ok.col (of_decide_eq_true h1)
  have hr1:=ok.row
  have hr2:=ok.rowh
  have w3:IntKind.i64.wrap (p.rect.top+p.row)=p.rect.top+p.row:=wrap_sm (by omega) (by omega)
  have w4:IntKind.i64.wrap (p.rect.left+p.col)=p.rect.left+p.col:=wrap_sm (by omega) (by omega)
  simp only[g0,g3,hz,k1Y,kcY,z1,zc,h1,h2,qk_old,ruW,xF,ruU,Nat.reduceLT,Nat.reduceAdd,Nat.reduceEqDiff]
  refine w_drawB [(19,15)] [] (by kernel_rfl) (by kernel_rfl) rfl fun ops anc hA hG'=>?_
  simp only[all2_cons]at hA
  have nc1:¬x+0=c:=by omega
  have nc2:¬x+1=c:=by omega
  simp only[g0,g3,g4,hz,k1Y,k2Y,kcY,z1,z2,zc,w3,w4,hA,nc1,nc2,Tryz.results17,qk_old,ruD,ruW,putL,Nat.reduceLeDiff,xF,ruU,Nat.reduceLT,Nat.reduceAdd,Nat.reduceEqDiff]
  obtain⟨hc1,hc2⟩:=hY.cur (p.rect.top+p.row) (p.rect.left+p.col)
  exact⟨hc1,(mHY.mono fun n hn=>zB5 _ hn).trans (hc2.mono fun n hn=>by simp only[zB4]at hn; simp[hn])⟩
set_option maxRecDepth 100000
def rhoX:Go.Shelf.Ren:=⟨fun n=>if n=217 then 82 else if n=219 then 72 else if n=224 then 84 else if n=225 then 83 else if n=266 then 92 else if n=267 then 85 else if n=314 then 93 else 0,fun n=>if n=46 then 96 else if n=51 then 117 else if n=146 then 118 else n,fun n=>n+1⟩
theorem laysX:Go.Proofs.Lays.n219 Tryz.prog rhoX:=by
 constructor
 all_goals first
  |exact mixed
  |kernel_rfl
  |(intro w; kernel_rfl)
theorem index_c (H:AHeap) (s:ByteArray) (c:UInt8):Pure 72 [.string s,.string ⟨#[c]⟩] H (.int .i64 (Go.Lib.indexByte s.data.toList c)):=by
 intro ρ w r hsc F n R hF hR
 have hc:=Go.Proofs.Any.stringslite_Index_one laysX s c w
 have e1:[Value.string s,Value.string ⟨#[c]⟩].map ρ.val=[Value.string s,Value.string ⟨#[c]⟩]:=map_af ρ _ (fun x hx=>by simp only[zB1,List.not_mem_nil,or_false]at hx; rcases hx with rfl|rfl<;>rfl)
 rw[e1]
 refine (hF.calls hc).mono ?_
 rintro e w' ⟨rfl,rfl⟩
 have:=hR ρ w' (St.refl r) rfl
 rwa [val_af ρ _ rfl]at this
theorem index_take (c:UInt8):∀ l:List UInt8,(Go.Lib.indexByte l c=-1/\l.takeWhile (fun x=>decide (x≠c))=l)\/(0<=Go.Lib.indexByte l c/\(Go.Lib.indexByte l c).toNat<l.length/\l.takeWhile (fun x=>decide (x≠c))=l.take (Go.Lib.indexByte l c).toNat)
 |[]=>.inl ⟨rfl,rfl⟩
 |b::l=>by
  unfold Go.Lib.indexByte
  by_cases hb:b=c
  ·subst hb
   simp
  ·have hbc:(b == c)=false:=by simpa using hb
   rw[hbc]
   have hd:decide (b≠c)=true:=decide_eq_true hb
   rw[List.takeWhile_cons,if_pos hd]
   rcases index_take c l with⟨h1,h2⟩|⟨h1,h2,h3⟩
   ·left
    rw[h1,h2]
    exact⟨rfl,rfl⟩
   ·right
    have hne:(Go.Lib.indexByte l c == -1)=false:=by simp; omega
    simp only[hne]
    rw[h3,if_neg (by decide),if_neg (by decide),show (Go.Lib.indexByte l c+1).toNat=(Go.Lib.indexByte l c).toNat+1 by omega,List.take_succ_cons,zB0]
    exact⟨by omega,by omega,rfl⟩
theorem sl_strTo {H:AHeap} {s:ByteArray} {n:Nat} (h:n<=s.size):aSlice Tryz.prog H 9 (.string s) none (some (.int .i64 (n:Int))) none=some (.string (s.extract 0 n),H):=by
 simp only[aSlice,u9,bound,zA1,zA3]
 rw[if_pos (by omega),zA3,Int.toNat_natCast,if_pos ⟨h,by omega⟩]
theorem ext_to (s:ByteArray) (n:Nat):s.extract 0 n=⟨(s.data.toList.take n).toArray⟩:=by
 apply ByteArray.ext
 apply Array.ext'
 rw[ByteArray.data_extract,Array.toList_extract,List.extract_eq_take_drop]
 simp
theorem ba_self (s:ByteArray):(⟨s.data.toList.toArray⟩:ByteArray)=s:=by
 apply ByteArray.ext
 simp
def echoB (s:ByteArray):ByteArray:=⟨(echoR s.data.toList).toArray⟩
theorem echo_cases (s:ByteArray):(Go.Lib.indexByte s.data.toList 10=-1/\echoB s=s)\/∃ n:Nat,Go.Lib.indexByte s.data.toList 10=n/\n+1<=s.size/\echoB s=s.extract 0 n:=by
 have hs:=size_len s
 rcases index_take 10 s.data.toList with⟨h1,h2⟩|⟨h1,h2,h3⟩
 ·left
  refine⟨h1,?_⟩
  unfold echoB echoR
  rw[h2,ba_self]
 ·right
  refine⟨_,(Int.toNat_of_nonneg h1).symm,by omega,?_⟩
  unfold echoB echoR
  rw[h3,ext_to]
theorem liteCut_c (H:AHeap) (s:ByteArray) (hs:s.size<=1000000):∃ a f,Pure 41 [.string s,.string ⟨#[10]⟩] H (.tuple #[.string (echoB s),.string a,.bool f]):=by
 have hi:=index_c H s 10
 rcases echo_cases s with⟨h1,h2⟩|⟨n,h1,h2,h3⟩
 ·refine⟨⟨#[]⟩,false,?_⟩
  rw[h2]
  refine callS_fn mixed Tryz.func41 rfl Tryz.ntmps41 (zB2 rfl) fun wf hsc=>?_
  rw[h1]at hi
  have hd:decide ((0:Int)<=-1)=false:=by decide
  simp only[ruW,xF,ruU,entryE,Nat.reduceLT,Nat.reduceAdd,Nat.reduceEqDiff]
  refine CallS.to (show Pure 72 _ (ext H []) _ from hi) ?_
  simp only[hd,Tryz.results41,ruW,ruU,Nat.reduceLT,Nat.reduceEqDiff]
  exact Fin.pureE rfl rfl
 ·refine⟨s.extract (n+1) s.size,true,?_⟩
  rw[h3]
  refine callS_fn mixed Tryz.func41 rfl Tryz.ntmps41 (zB2 rfl) fun wf hsc=>?_
  rw[h1]at hi
  have hd:decide ((0:Int)<=(n:Int))=true:=decide_eq_true (by omega)
  have hsz:(⟨#[10]⟩:ByteArray).size=1:=rfl
  have hw:IntKind.i64.wrap ((n:Int)+((1:Nat):Int))=((n+1:Nat):Int):=wrap_succ (by omega)
  simp only[ruW,xF,ruU,entryE,Nat.reduceLT,Nat.reduceAdd,Nat.reduceEqDiff]
  refine CallS.to (show Pure 72 _ (ext H []) _ from hi) ?_
  simp only[hd,ruW,ruU,Nat.reduceLT]
  refine w_drawB [(2,0),(2,1),(8,3),(8,7)] [] (by kernel_rfl) (by kernel_rfl) rfl fun ops anc hA hG'=>?_
  simp only[all2_cons]at hA
  simp only[ruD,ruU,Nat.reduceLT,Nat.reduceAdd,Nat.reduceEqDiff]
  have hl:=rb_lenStr (P:=Tryz.prog) (t:=9) (s:=⟨#[10]⟩) u9
  rw[hsz]at hl
  rw[wd_slice]
  refine genV_val (v:=.string (s.extract 0 n)) rfl (by decide) (fun G=>slice_aop (by simp only[ruU,Nat.reduceLT]) rfl (by simp (maxDischargeDepth:=6) only[ruU,Nat.reduceLT,bndsOk_some]) rfl ?_) (by simp (maxDischargeDepth:=6) only[idsV,ruD,ruW]) ?_
  ·simp only[bnds_some,bnds_none,ruU,Nat.reduceEqDiff]
   exact sl_strTo (by omega)
  simp only[hl,hw,goInt,ruD,ruW,ruU,Nat.reduceLT,Nat.reduceAdd,Nat.reduceEqDiff]
  rw[wd_slice]
  refine genV_val (v:=.string (s.extract (n+1) s.size)) rfl (by decide) (fun G=>slice_aop (by simp only[ruU,Nat.reduceLT]) (by simp (maxDischargeDepth:=6) only[ruU,Nat.reduceLT,bndsOk_some]) rfl rfl ?_) (by simp (maxDischargeDepth:=6) only[idsV,ruD,ruW]) ?_
  ·simp only[bnds_some,bnds_none,ruU,Nat.reduceEqDiff]
   exact sl_str rfl h2
  simp only[idsV,Tryz.results41,ruD,ruW,ruU,Nat.reduceLT,Nat.reduceAdd,Nat.reduceEqDiff]
  exact Fin.pureE rfl rfl
theorem cut_c (H:AHeap) (s:ByteArray) (hs:s.size<=1000000):∃ a f,Pure 19 [.string s,.string ⟨#[10]⟩] H (.tuple #[.string (echoB s),.string a,.bool f]):=by
 obtain⟨a,f,hc⟩:=liteCut_c H s hs
 refine⟨a,f,?_⟩
 refine callS_fn mixed Tryz.func19 rfl Tryz.ntmps19 (zB2 rfl) fun wf hsc=>?_
 simp only[ruW,xF,ruU,entryE,Nat.reduceLT,Nat.reduceAdd,Nat.reduceEqDiff]
 refine CallS.to (show Pure 41 _ (ext H []) _ from hc) ?_
 simp only[Tryz.results19,ruW,ruU,Nat.reduceLT,Nat.reduceEqDiff]
 exact Fin.pureE rfl rfl
end Go.Proofs.YtfpckllenkifkaaGreatDoor
namespace Go.Ax
variable {P : Program} {H : AHeap}
end Go.Ax
namespace Go.Proofs.YtfpckllenkifkaaGreatDoor
open Go.Ax
structure Grow (N:Nat) (X:AHeap) (u:Value) (rvs:List Value) (g:List (List Ce)):Prop where
 at_:VsAt X 34 1 u rvs g.length
 row:∀ (i:Nat) (rv:Value) (l:List Ce),rvs[i]?=some rv->g[i]?=some l->OwnRow N X rv l
 nd:(rvs.flatMap idsV).Nodup
 apart:∀ n∈idsV u,N<=n/\n∉rvs.flatMap idsV
 sc:scbL X.next rvs=true
section
variable {N : Nat} {X Y Z : AHeap} {u rv : Value} {rvs : List Value} {g : List (List Ce)} {l : List Ce}
theorem Grow.nil:Grow N X (.slice none 0 0) [] []:=⟨VsAt.nil,fun i rv l h=>by simp at h,by simp,fun n hn=>by simp[idsV]at hn,rfl⟩
theorem Grow.len (o:Grow N X u rvs g):rvs.length=g.length:=by have:=o.at_.1; omega
theorem Grow.ids (o:Grow N X u rvs g):∀ n∈rvs.flatMap idsV,N<=n/\n<X.next/\X.get n≠none:=by
 intro n hn
 obtain⟨rv,hrv,hn⟩:=List.mem_flatMap.1 hn
 obtain⟨i,hi⟩:=List.getElem?_of_mem hrv
 have hlt:=(List.getElem?_eq_some_iff.1 hi).1
 exact (o.row i rv (g[i]'(by rw[<-o.len]; exact hlt)) hi (zA7 (by rw[<-o.len]; exact hlt))).rng n hn
theorem Grow.of (o:Grow N X u rvs g) (hn:X.next<=Y.next) (hg:∀ n,n<X.next->n∈idsV u++rvs.flatMap idsV->Y.get n=X.get n):Grow N Y u rvs g where
 at_:=o.at_.of hn fun n h=>hg n (o.at_.ne n h).2 (List.mem_append_left _ h)
 row:=fun i rv l h1 h2=>(o.row i rv l h1 h2).of hn fun n h=>hg n ((o.row i rv l h1 h2).rng n h).2.1 (List.mem_append_right _ (List.mem_flatMap.2 ⟨rv,zC2 h1,h⟩))
 nd:=o.nd
 apart:=o.apart
 sc:=scbL_mono hn _ o.sc
theorem Grow.push (o:Grow N X u rvs g) (m:Mod [] X Y) (hN:N<=Y.next) (hr:OwnRow N Y rv l) (hfr:∀ n∈idsV rv,X.next<=n) (hone:one rv=true) (m2:Mod (idsV u) Y Z) (hx:bk Z Y.next=some ⟨34,true,rvs++[rv]⟩) (hlt:Y.next<Z.next) :
  Grow N Z (.slice (some ⟨Y.next,0,none⟩) (g.length+1) (g.length+1)) (rvs++[rv]) (g++[l]):=by
 have hrv1:(idsV rv).Nodup/\scb Z.next rv=true:=by
  obtain⟨n,s,c,o',rfl,_,_,h⟩:=hr
  exact⟨by simp[idsV],blt_of (Nat.lt_trans h hlt)⟩
 have huX:∀ n∈idsV u,n<X.next:=fun n h=>(o.at_.ne n h).2
 have hnx:=m.next
 refine⟨⟨by simp only[zC8,List.length_singleton]; have:=o.len; omega,by rw[List.all_append,o.at_.2.1]; simp[hone],.inr ⟨by simp,Y.next,by simp,hx,hlt⟩⟩,fun i q c h1 h2=>?_,?_,fun n hn=>?_,scbL_append (scbL_mono (zB8 hnx m2.next) _ o.sc) (by simp[scbL,hrv1.2])⟩
 ·rcases zB6 i rvs.length with h|h
  ·rw[List.getElem?_append_left h]at h1
   rw[List.getElem?_append_left (by rw[<-o.len]; exact h)]at h2
   have h3:=o.row i q c h1 h2
   refine h3.of (zB8 hnx m2.next) fun n hn=>?_
   have h4:=(h3.rng n hn).2.1
   rw[m2.get n (by omega) fun h5=>(o.apart n h5).2 (List.mem_flatMap.2 ⟨q,zC2 h1,hn⟩),m.get n h4 (by simp)]
  ·rw[List.getElem?_append_right h]at h1
   rw[List.getElem?_append_right (by rw[<-o.len]; exact h),<-o.len]at h2
   obtain⟨h3,h4⟩:rv=q/\l=c:=by
    cases hk:i-rvs.length with
    |zero=>rw[hk]at h1 h2; exact⟨by simpa using h1,by simpa using h2⟩
    |succ k=>rw[hk]at h1; simp at h1
   subst h3 h4
   exact hr.of m2.next fun n hn=>m2.get n (hr.rng n hn).2.1 fun h5=>by have:=huX n h5; have:=hfr n hn; omega
 ·rw[List.flatMap_append,List.nodup_append]
  refine⟨o.nd,by simpa using hrv1.1,fun a ha b hb=>?_⟩
  have h1:=(o.ids a ha).2.1
  have h2:=hfr b (by simpa using hb)
  omega
 ·simp only[idsV,zB4]at hn
  subst hn
  refine⟨hN,fun h=>?_⟩
  rw[List.flatMap_append]at h
  rcases zC9.1 h with h|h
  ·have:=(o.ids _ h).2.1; omega
  ·have:=(hr.rng Y.next (by simpa using h)).2.1; omega
theorem Grow.own (o:Grow N X u rvs g):OwnG N X u rvs g:=by
 refine⟨o.len,?_,o.row,o.nd⟩
 have hid:=o.apart
 obtain⟨h1,_,⟨h0,rfl⟩|⟨h0,n,rfl,hb,hlt⟩⟩:=o.at_
 ·exact .inl ⟨List.length_eq_zero_iff.1 h0,rfl⟩
 ·obtain⟨h2,h3⟩:=hid n (by simp[idsV])
  exact .inr ⟨n,none,_,true,rfl,hb,h2,hlt,h3⟩
end
def spC:Ce:=⟨32,0,0,false,false,false⟩
def blankG (h w:Nat):List (List Ce):=List.replicate h (List.replicate w spC)
def barC:Ce:=⟨124,0,0,false,false,false⟩
def DrO (H:AHeap) (f:Fr) (out:Out) (X:AHeap):Prop :=
 Mod [] H X/\if frE f≠0 then out=.ok (.tuple #[.agg #[.slice none 0 0,.int .i64 0,.int .i64 0],.int .i64 (frE f)])
  else if ((drawG f).any fun l=>!wholeB l)=true then out=.ok (.tuple #[.agg #[.slice none 0 0,.int .i64 0,.int .i64 0],.int .i64 5])
  else ∃ N v rvs,H.next<=N/\OwnG N X v rvs (drawG f)/\out=.ok (.tuple #[.agg #[v,.int .i64 (drawC f).1,.int .i64 (drawC f).2],.int .i64 0])/\(drawG f).length<=200/\∀ l∈drawG f,l.length<=1000
structure FrOk (f:Fr):Prop where
 h1:2<=f.height
 h2:f.height<=200
 w1:1<=f.width
 w2:f.width<=1000
 panes:pnsE f.height f.width f.panes=0
 bars:∀ r∈f.bars,insR f.height f.width r=true
 echo:ptsR f.echo.data.toList≠none
 e1:-1<=f.ecol
 e2:f.ecol<f.width
theorem frOk_of {f:Fr} (h:frE f=0):FrOk f:=by
 unfold frE at h
 split at h
 ·cases h
 rename_i h1
 split at h
 ·rename_i h2; exact absurd h h2
 rename_i h2
 split at h
 ·cases h
 rename_i h3
 split at h
 ·cases h
 split at h
 ·cases h
 rename_i h5
 split at h
 ·cases h
 rename_i h6
 refine⟨by omega,by omega,by omega,by omega,Decidable.byContradiction h2,fun r hr=>?_,h5,by omega,by omega⟩
 cases hi:insR f.height f.width r with
 |true=>rfl
 |false=>exact absurd (List.any_eq_true.2 ⟨r,hr,by rw[hi]; rfl⟩) h3
theorem pnsE_mem {h w:Int} (ps:List Pn):pnsE h w ps=0->∀ p∈ps,pnE h w p=0:=by
 induction ps with
 |nil=>intro _ p hp; cases hp
 |cons q ps ih =>
  intro h0 p hp
  have hq:=pnsE_head h0
  rw[pnsE_cons _ _ hq]at h0
  rcases zB1.1 hp with rfl|hp
  ·exact hq
  ·exact ih h0 p hp
theorem curS_keep (ps:List Pn):∀ z:Int × Int,z.1≠-1->ps.foldl curS z=z:=by
 induction ps with
 |nil=>intro z _; rfl
 |cons p ps ih =>
  intro z hz
  have:curS z p=z:=by unfold curS; rw[if_neg (fun h=>hz h.2.2)]
  rw[List.foldl_cons,this]
  exact ih z hz
theorem curS_fold (ps:List Pn):(∀ p∈ps,0<=p.rect.top/\-1<=p.row)->ps.foldl curS (-1,0)=curG ps:=by
 induction ps with
 |nil=>intro _; rfl
 |cons p ps ih =>
  intro h
  obtain⟨h1,h2⟩:=h p (by simp)
  rw[List.foldl_cons,curG]
  by_cases hc:p.sel=true/\p.row≠-1
  ·rw[if_pos hc]
   have:curS (-1,0) p=(p.rect.top+p.row,p.rect.left+p.col):=by unfold curS; rw[if_pos ⟨hc.1,hc.2,rfl⟩]
   rw[this]
   refine curS_keep ps _ ?_
   have:=hc.2
   simp only
   omega
  ·rw[if_neg hc]
   have:curS (-1,0) p=(-1,0):=by unfold curS; rw[if_neg (fun h=>hc ⟨h.1,h.2.1⟩)]
   rw[this]
   exact ih fun q hq=>h q (by simp[hq])
theorem draw_c (H:AHeap) (t:TabX H) (f:Fr) (pv bv:Value) (hf:FrR true H pv bv f) (bd:FrBd f) (hok:H.base<=H.next):CallA Tryz.prog 6 [.agg ⟨frL pv bv f⟩] H (fun out X=>DrO H f out X):=by
 obtain⟨x,hx⟩:=Go.Ax.exq H.next
 obtain⟨pa,pc,ep⟩:=hf.panes.sl
 obtain⟨ba,bc,eb⟩:=hf.bars.sl
 have sp:=hf.sp
 have sb:=hf.sb
 rw[hx,ep]at sp
 rw[hx,eb]at sb
 refine callE_fn mixed Tryz.func6 rfl Tryz.ntmps6 (zB2 rfl) ?_
 have z31:zeroOf Tryz.prog 30=some (.agg #[.slice none 0 0,.int .i64 0,.int .i64 0]):=by kernel_rfl
 have bl31:aBuild Tryz.prog 30 []=some (.agg #[.slice none 0 0,.int .i64 0,.int .i64 0]):=by kernel_rfl
 have bl31':aBuild Tryz.prog 30 [(1,.int .i64 (-1))]=some (.agg #[.slice none 0 0,.int .i64 (-1),.int .i64 0]):=by kernel_rfl
 have bl65:aBuild Tryz.prog 60 [(0,.agg #[.slice none 0 0,.int .i64 (-1),.int .i64 0])]=some (.agg #[.slice none 0 0,.int .i64 (-1),.int .i64 0]):=by kernel_rfl
 obtain⟨G,hG⟩:=Go.Ax.exq (ext H [⟨25,false,frL pv bv f⟩,⟨30,false,[.slice none 0 0,.int .i64 0,.int .i64 0]⟩])
 have mG:Mod [] H G:=hG▸Mod.ext hok
 have nG:G.next=x+2:=by rw[<-hG,ext_next,hx]; rfl
 have okG:=mG.ok hok
 have gb:G.base<=x+2:=nG▸okG
 have k1:bk G (x+0)=some ⟨25,false,frL pv bv f⟩:=by rw[<-hG,bk_at hx (by simp)]; rfl
 have k2:bk G (x+1)=some ⟨30,false,[.slice none 0 0,.int .i64 0,.int .i64 0]⟩:=by rw[<-hG,bk_at hx (by simp)]; rfl
 have j1:x+0<x+2:=by omega
 have j2:x+1<x+2:=by omega
 have hva:=frValid_c G (t.mod0 mG) f pv bv (hf.mod0 mG) bd
 rw[ep,eb]at k1 hG hva ⊢
 unfold frL at k1 hG hva ⊢
 generalize hcode:Code.seq (Code.region 9 _ _) _=code
 simp only[hx,sp,sb,z31,ruW,Nat.reduceLeDiff,xF,ruU,entryE,Nat.reduceLT,Nat.reduceAdd,Nat.reduceEqDiff]
 rw[hG]
 refine hva.to ?_
 rw[show G=ext G [] from rfl]
 obtain⟨ev,hev⟩:∃ q,frE f=q:=⟨_,rfl⟩
 rw[hev]at hva
 rw[hev]
 obtain⟨d,hd⟩:=Go.Ax.exq (decide (¬ev=0))
 cases d with
 |true =>
  have hne:ev≠0:=of_decide_eq_true hd
  simp only[nG,j2,k2,hd,bl31,Tryz.results6,qk_old,ruW,putL,Nat.reduceLeDiff,xF,ruU,Nat.reduceLT,Nat.reduceAdd,Nat.reduceEqDiff]
  refine⟨?_,?_⟩
  ·exact mG.step (W':=[x+1]) (Mod.uw (by simp)) hok fun n hn=>.inr (by simp only[zB4]at hn; omega)
  ·rw[hev,if_pos hne]
 |false =>
 have hev0:ev=0:=Decidable.byContradiction fun h=>of_decide_eq_false hd h
 simp only[nG,j1,k1,hd,bl31',bl65,qk_old,ruW,xF,ruU,Nat.reduceLT,Nat.reduceAdd,Nat.reduceEqDiff]
 have fo:=frOk_of (hev.trans hev0)
 obtain⟨W,hW⟩:∃ W:Nat,f.width=(W:Int):=⟨f.width.toNat,by have:=fo.w1; omega⟩
 obtain⟨h,hh⟩:∃ h:Nat,f.height=(h:Int):=⟨f.height.toNat,by have:=fo.h1; omega⟩
 have hW1:1<=W:=by have:=fo.w1; omega
 have hW2:W<=1000:=by have:=fo.w2; omega
 have hh1:2<=h:=by have:=fo.h1; omega
 have hh2:h<=200:=by have:=fo.h2; omega
 obtain⟨C,hC⟩:=Go.Ax.exq (ext G [⟨60,false,[.slice none 0 0,.int .i64 (-1),.int .i64 0]⟩])
 have mC:Mod [] G C:=hC▸Mod.ext okG
 have nC:C.next=x+3:=by rw[<-hC,ext_next,nG]; rfl
 have okC:=mC.ok okG
 have kC:bk C (x+2)=some ⟨60,false,[.slice none 0 0,.int .i64 (-1),.int .i64 0]⟩:=by rw[<-hC,show x+2=(x+2)+0 from rfl,bk_at nG (by simp)]; rfl
 have k1C:=(mC.bk (by omega) (by simp)).trans k1
 have k2C:=(mC.bk (by omega) (by simp)).trans k2
 rw[hC]
 clear hC
 refine w_env fun E hE=>?_
 have g1:E 1=.pointer (some ⟨x+0,0,none⟩):=by rw[hE]; rfl
 have g2:E 2=.pointer (some ⟨x+1,0,none⟩):=by rw[hE]; rfl
 have g5:E 5=.pointer (some ⟨x+2,0,none⟩):=by rw[hE]; rfl
 have g24:E 24=.int .i64 (h:Int):=by rw[hE]; simp only[hh,ruU,Nat.reduceEqDiff]
 have g25:E 25=.int .i64 ((0:Nat):Int):=by rw[hE]; rfl
 clear hE
 have uRows:Tryz.prog.underlying 28=some (.slice 34):=by kernel_rfl
 have szCells:szOf Tryz.prog 34=some 1:=by kernel_rfl
 have byCells:bytesOf Tryz.prog 34=some 24:=by kernel_rfl
 have zr:zeroOf Tryz.prog 34=some (.slice none 0 0):=by kernel_rfl
 have inRows:intTy Tryz.prog 28=some false:=by kernel_rfl
 have bl68:aBuild Tryz.prog 45 [(0,.int .i64 32)]=some spC.val:=by kernel_rfl
 have k1W:=k1C
 rw[hW]at k1W
 refine w_loop (fun (q:Nat × Value × List Value) E' X'=>q.1<=h/\Mod [x+2] C X'/\bk X' (x+2)=some ⟨60,false,[q.2.1,.int .i64 (-1),.int .i64 0]⟩/\Grow (x+3) X' q.2.1 q.2.2 (List.replicate q.1 (List.replicate W spC))/\(∀ rv∈q.2.2,∃ n,rv=.slice (some ⟨n,0,some 0⟩) W W)/\E' 1=.pointer (some ⟨x+0,0,none⟩)/\E' 2=.pointer (some ⟨x+1,0,none⟩)/\E' 5=.pointer (some ⟨x+2,0,none⟩)/\E' 24=.int .i64 (h:Int)/\E' 25=.int .i64 (q.1:Int)) (fun q=>h-q.1) (0,.slice none 0 0,[]) ⟨zA9 _,Mod.refl,kC,Grow.nil,fun rv h=>by simp at h,g1,g2,g5,g24,g25⟩ ?_
 clear g1 g2 g5 g24 g25 E
 rintro⟨j,u,rvs⟩ E X ⟨hj,mX,kX,gr,hsp,g1,g2,g5,g24,g25⟩
 simp only at hj kX gr hsp g25
 obtain⟨y,hy⟩:=Go.Ax.exq X.next
 have okX:=mX.ok okC
 have lx:x+3<=y:=by have:=mX.next; omega
 have k1X:=(mX.bk (n:=x+0) (by omega) (by simp)).trans k1W
 have k2X:=(mX.bk (n:=x+1) (by omega) (by simp)).trans k2C
 have y0:x+0<y:=by omega
 have y1:x+1<y:=by omega
 have y2:x+2<y:=by omega
 have hlr:(List.replicate j (List.replicate W spC)).length=j:=zD2
 have vs:=gr.at_
 rw[hlr]at vs
 obtain⟨ua,eu⟩:=vs.len
 rw[show X=ext X [] from rfl]
 by_cases hjl:j<h
 ·have hd:decide ((j:Int)<(h:Int))=true:=decide_eq_true (by omega)
  simp only[g24,g25,hd,ruW,ruU,Nat.reduceLT]
  refine w_drawB [(10,7),(10,9),(11,10),(11,7),(12,5),(12,7),(12,9),(12,10),(12,11),(13,12),(13,11),(13,10),(13,7),(14,12),(14,11),(14,10),(14,7),(15,12),(15,11),(15,10),(15,7),(16,5),(16,7),(16,9),(16,10),(16,11),(16,12)] [] (by kernel_rfl) (by kernel_rfl) rfl fun ops anc hA hG'=>?_
  simp only[all2_cons]at hA
  have hui:∀ n∈idsV u,x+3<=n:=fun n hn=>(gr.apart n hn).1
  unfold spC at bl68
  unfold Ce.val at bl68
  rw[eu]at kX
  simp only[g1,g5,hy,kX,k1X,y0,y2,bl68,qk_old,ruD,ruW,xF,ruU,Nat.reduceLT,Nat.reduceAdd,Nat.reduceEqDiff]
  refine genV_ext (v:=.slice (some ⟨y+1,0,some 0⟩) W W) (M:=[⟨45,false,csOf (List.replicate W spC)⟩]) [y+0] (by simp only[ruU,Nat.reduceLT]) (by kernel_rfl) (by decide) (fun m hm=>?_) (fun K hKn hK=>?_) (by simp (maxDischargeDepth:=6) only[hA,ruD]) ?_
  ·simp only[zB4]at hm
   rw[hm]
   exact bk_ne (bk_at hy (by simp))
  ·simp only[ruU,Nat.reduceEqDiff]
   have hKx:K.next=y+1:=by rw[hKn,ext_next,hy]; rfl
   have:=repeat_c W hW1 hW2 spC (y+0) (some 0) K (by rw[bk_get (hK _ (by simp)),bk_at hy (by simp)]; rfl)
   rw[hKx]at this
   exact this
  obtain⟨X2,hX2⟩:=Go.Ax.exq (ext (ext X [⟨45,false,[.int .i64 32,.int .i64 0,.int .i64 0,.bool false,.bool false,.bool false]⟩]) [⟨45,false,csOf (List.replicate W spC)⟩])
  have mX2:Mod [] X X2:=hX2▸(Mod.ext okX).trans (Mod.ext ((Mod.ext (W:=[]) okX).ok okX))
  have nX2:X2.next=y+2:=by rw[<-hX2,ext_next,ext_next,hy]; rfl
  have okX2:=mX2.ok okX
  have xb2:X2.base<=y+2:=nX2▸okX2
  have b1:bk X2 (y+1)=some ⟨45,false,csOf (List.replicate W spC)⟩:=by rw[<-hX2,ext_append,show y+1=y+1 from rfl,bk_at hy (by simp)]; rfl
  obtain⟨rv,hrv⟩:∃ rv,rv=Value.slice (some ⟨y+1,0,some 0⟩) W W:=⟨_,rfl⟩
  obtain⟨X3,hX3⟩:=Go.Ax.exq (ext X2 [⟨34,false,[rv]⟩])
  have mX3:Mod [] X2 X3:=hX3▸Mod.ext okX2
  have nX3:X3.next=y+3:=by rw[<-hX3,ext_next,nX2]; rfl
  have okX3:=mX3.ok okX2
  have xb3:X3.base<=y+3:=nX3▸okX3
  have b2:bk X3 (y+2)=some ⟨34,false,[rv]⟩:=by rw[<-hX3,show y+2=(y+2)+0 from rfl,bk_at nX2 (by simp)]; rfl
  have b13:=(mX3.bk (by omega) (by simp)).trans b1
  have y12:y+1<y+2:=by omega
  rw[hX2,show X2=ext X2 [] from rfl]
  rw[hrv]at hX3
  have ir:idsV (.slice (some ⟨y+1,0,some 0⟩) W W)=[y+1]:=rfl
  simp only[nX2,y12,hA,zB0,zD7,ruD,ruW,xF,ruU,Nat.reduceLT,Nat.reduceAdd]
  rw[hX3]
  have hone:one rv=true:=by rw[hrv]; rfl
  have mX13:=mX2.trans mX3
  have vs3:=vs_mod0 mX13 vs
  have hscr:scbL X3.next (rvs++[rv])=true:=scbL_append (scbL_mono mX13.next _ gr.sc) (by rw[hrv]; simp only[scbL,scb,Bool.and_true]; exact blt_of (by omega))
  have hsm:small (j+1) 24=true:=by simp only[small,zA4,Nat.ble_eq]; omega
  rw[eu]at vs3 hui
  refine wd_appV (e:=34) (sz:=1) (by1:=24) (z:=.slice none 0 0) (v:=.slice ua j j) (vs:=rvs) (cnt:=j) (n:=y+2) (off:=0) (cnt2:=1) (cap:=1) (s:=some 0) (b:=⟨34,false,[rv]⟩) (ws:=[rv]) uRows szCells byCells zr rfl inRows rfl (by simp only[zB3,List.map_nil,ruU,Nat.reduceEqDiff]) (by decide) vs3 (rk_of b2) (by omega) (by simp) rfl (by simp[hone]) (by decide) hsm hscr okX3 (fun r hr=>?_) fun Z D vZ mZ hD nZ=>?_
  ·simp only[zB1,List.not_mem_nil,or_false]at hr
   rcases hr with rfl|rfl|rfl|rfl|rfl<;>exact .inl (by simp only[hA])
  rw[nX3]at vZ nZ
  have hbz:bk Z (y+3)=some ⟨34,true,rvs++[rv]⟩:=by
   obtain⟨_,_,⟨h0,_⟩|⟨_,n,e,hbn,_⟩⟩:=vZ
   ·omega
   ·cases e; exact hbn
  have hbr:OwnRow (x+3) X3 rv (List.replicate W spC):=⟨y+1,false,0,false,by rw[hrv,zD2]; rfl,b13,by omega,by omega⟩
  have gr2:=gr.push (rv:=rv) (l:=List.replicate W spC) (Y:=X3) (Z:=Z) mX13 (by omega) hbr (fun q hq=>by rw[hrv]at hq; simp only[idsV,zB4]at hq; omega) hone (by rw[eu]; exact mZ) (by rw[nX3]; exact hbz) (by omega)
  rw[nX3,hlr,show List.replicate j (List.replicate W spC)++[List.replicate W spC]=List.replicate (j+1) (List.replicate W spC) from (List.replicate_succ' ..).symm]at gr2
  have okZ:=mZ.ok okX3
  have nin:x+2∉idsV (.slice ua j j):=fun hn=>by have:=hui _ hn; omega
  have kZ:bk Z (x+2)=some ⟨60,false,[.slice ua j j,.int .i64 (-1),.int .i64 0]⟩:=(mZ.bk (by omega) nin).trans ((mX13.bk (by omega) (by simp)).trans kX)
  have z2:x+2<y+4:=by omega
  have hwj:IntKind.i64.wrap ((j:Int)+1)=((j+1:Nat):Int):=wrap_succ (by omega)
  rw[nX3,show Z=ext Z [] from rfl]
  have nZ':Z.next=y+4:=nZ
  have y34:y+3<y+4:=by omega
  simp only[g25,nZ',z2,kZ,hA,y34,hwj,ruD,ruW,putL,Nat.reduceLeDiff,xF,ruU,Nat.reduceLT,Nat.reduceAdd,Nat.reduceEqDiff]
  have mXZ:Mod (idsV (.slice ua j j)) X Z:=(mX13.mono (by simp)).trans mZ
  have mU:Mod [x+2] Z (uw Z (x+2) 0 [.slice (some ⟨y+3,0,none⟩) (j+1) (j+1)]):=Mod.uw (by simp)
  refine loopC_next ⟨(j+1,.slice (some ⟨y+3,0,none⟩) (j+1) (j+1),rvs++[rv]),by simp only; omega,hjl,(mX.step mXZ okC fun n hn=>.inr (by rw[nC]; exact hui n hn)).trans mU,?_,?_,?_,?_,?_,?_,?_,?_⟩
  ·show bk (uw Z (x+2) 0 _) (x+2)=_
   rw[bk_uw_eq,kZ]
   rfl
  ·refine gr2.of mU.next fun n hn hin=>mU.get n hn ?_
   simp only[zB4]
   rintro rfl
   rcases zC9.1 hin with h1|h1
   ·have:=(gr2.apart _ h1).1; omega
   ·have:=(gr2.ids _ h1).1; omega
  ·intro r hr
   rcases zC9.1 hr with hr|hr
   ·exact hsp r hr
   ·simp only[zB4]at hr
    exact⟨y+1,hr.trans hrv⟩
  ·exact g1
  ·exact g2
  ·exact g5
  ·exact g24
  ·rfl
 ·obtain rfl:j=h:=by omega
  have hd:decide ((j:Int)<(j:Int))=false:=decide_eq_false (by omega)
  have ho:=gr.own
  have hCv:CvR (x+3) X (x+2) u rvs W (blankG j W) (-1) 0:=⟨kX,by omega,by omega,ho,hsp,fun l hl=>by rw[blankG]at hl; rw[List.eq_of_mem_replicate hl,zD2]⟩
  simp only[g24,g25,hd,ruW,ruU,Nat.reduceLT]
  have mHC:Mod [] H C:=mG.trans mC
  have mHX:Mod [] H X:=mHC.step mX hok fun n hn=>.inr (by simp only[zB4]at hn; omega)
  clear gr vs hlr kX eu ho
  subst hcode
  rw[<-hW]at k1X
  obtain⟨X0,hX0⟩:=Go.Ax.exq X
  rw[show X=ext X [] from rfl]
  simp only[g1,hy,y0,k1X,qk_old,ruW,xF,ruU,Nat.reduceLT,Nat.reduceAdd,Nat.reduceEqDiff]
  refine w_env fun E2 hE=>?_
  have g1:E2 1=.pointer (some ⟨x+0,0,none⟩):=by rw[hE]; simp only[g1,ruU,Nat.reduceEqDiff]
  have g2:E2 2=.pointer (some ⟨x+1,0,none⟩):=by rw[hE]; simp only[g2,ruU,Nat.reduceEqDiff]
  have g5:E2 5=.pointer (some ⟨x+2,0,none⟩):=by rw[hE]; simp only[g5,ruU,Nat.reduceEqDiff]
  have g45:E2 45=.slice pa f.panes.length pc:=by rw[hE]; rfl
  have g46:E2 46=.int .i64 (f.panes.length:Int):=by rw[hE]; rfl
  have g47:E2 47=.int .i64 ((0:Nat):Int):=by rw[hE]; rfl
  clear hE g24 g25 hd
  have hFl:∀ n∈(x+2)::rvs.flatMap idsV,x+2<=n/\n<y:=fun n hn=>by
   rcases zB1.1 hn with rfl|hn
   ·omega
   ·have:=hCv.own.ids n hn
    omega
  have u22:Tryz.prog.underlying 22=some (.slice 43):=by kernel_rfl
  have s55:szOf Tryz.prog 43=some 15:=by kernel_rfl
  have ag55':aggT Tryz.prog 43=some true:=by kernel_rfl
  have z55:zeroOf Tryz.prog 43=some (.agg #[.int .i64 0,.int .i64 0,.int .i64 0,.int .i64 0,.int .i64 0,.slice none 0 0,.int .i64 0,.int .i64 0,.string ⟨#[]⟩,.int .i64 0,.int .i64 0,.bool false,.bool false,.bool false,.bool false]):=by kernel_rfl
  refine w_loop (fun (j':Nat) E' X'=>j'<=f.panes.length/\CvR (x+3) X' (x+2) u rvs W ((f.panes.take j').foldl paneG (blankG j W)) ((f.panes.take j').foldl curS (-1,0)).1 ((f.panes.take j').foldl curS (-1,0)).2/\Mod ((x+2)::rvs.flatMap idsV) X X'/\E' 1=.pointer (some ⟨x+0,0,none⟩)/\E' 2=.pointer (some ⟨x+1,0,none⟩)/\E' 5=.pointer (some ⟨x+2,0,none⟩)/\E' 45=.slice pa f.panes.length pc/\E' 46=.int .i64 (f.panes.length:Int)/\E' 47=.int .i64 (j':Int)) (fun j=>f.panes.length-j) 0 ⟨zA9 _,hCv,Mod.refl,g1,g2,g5,g45,g46,g47⟩ ?_
  clear g1 g2 g5 g45 g46 g47 E2
  rintro i E Y ⟨hi,hY,mY,g1,g2,g5,g45,g46,g47⟩
  obtain⟨z,hz⟩:=Go.Ax.exq Y.next
  have okY:=mY.ok okX
  have zb:Y.base<=z:=hz▸okY
  have yz:y<=z:=by have:=mY.next; omega
  have mHY:Mod [] H Y:=mHX.step mY hok fun n hn=>.inr (by have:=hFl n hn; omega)
  have k1Y:=(mY.bk (n:=x+0) (by omega) (fun hn=>by have:=hFl _ hn; omega)).trans k1X
  have k2Y:=(mY.bk (n:=x+1) (by omega) (fun hn=>by have:=hFl _ hn; omega)).trans k2X
  have z0:x+0<z:=by omega
  have z1:x+1<z:=by omega
  rw[show Y=ext Y [] from rfl]
  have hbl:(blankG j W).length=j:=zD2
  by_cases hil:i<f.panes.length
  ·have hd:decide ((i:Int)<(f.panes.length:Int))=true:=decide_eq_true (by omega)
   obtain⟨p,hp⟩:∃ p,f.panes[i]?=some p:=⟨_,zA7 hil⟩
   have hpm:=zC2 hp
   obtain⟨b1,b2,b3⟩:=bd.rows p hpm
   obtain⟨n,off,s,cc,e,o,M,cs,e1,n1r,r1,hle,hM,rv,rfl,hR⟩:=hf.panes.one hp
   have e1':=ep.symm.trans e1
   simp only[Value.slice.injEq,true_and]at e1'
   obtain⟨rfl,rfl⟩:=e1'
   have r1Y:=(rk_get (mHY.get n n1r (by simp))).trans r1
   have n1Y:n<z:=by have:=mHY.next; omega
   have i1:=ia_of (P:=Tryz.prog) (k:=.i64) (i:=i) (n:=n) (off:=off) (len:=f.panes.length) (cap:=pc) (s:=s) u22 s55 hil
   have l1:ldB Tryz.prog 43 (off+i*15) (some ⟨e,o,M⟩)=some (.agg ⟨pnL rv p⟩):=by
    rw[ld_agg ag55',s55,zA3,if_pos (by omega),hM]
   obtain⟨ra,rc,er⟩:=hR.it.sl
   have sr:=scb_mono mHY.next _ hR.sc
   rw[hz,er]at sr
   obtain⟨Z,hZ⟩:=Go.Ax.exq (ext Y [⟨43,false,pnL rv p⟩])
   have mZ:Mod [] Y Z:=hZ▸Mod.ext okY
   have nZ:Z.next=z+1:=by rw[<-hZ,ext_next,hz]; rfl
   have kZ:bk Z (z+0)=some ⟨43,false,pnL rv p⟩:=by rw[<-hZ,bk_at hz (by simp)]; rfl
   have okZ:=mZ.ok okY
   have zb1:Z.base<=z+1:=nZ▸okZ
   have zz:z+0<z+1:=by omega
   have pok:=pnOk_of (h:=j) (w:=W) (p:=p) (by rw[<-hh,<-hW]; exact pnsE_mem _ fo.panes p hpm)
   have hgl:∀ (l:List Pn) (g:List (List Ce)),(l.foldl paneG g).length=g.length:=fun l=>by
    induction l with
    |nil=>intro g; rfl
    |cons q l ih=>intro g; rw[List.foldl_cons,ih,paneG,putG_len,putRows_len]
   have hgl':((f.panes.take i).foldl paneG (blankG j W)).length=j:=(hgl _ _).trans hbl
   have hpa:=pane_c (hY.grow mZ) okZ (t.mod0 (mHY.trans mZ)) (mHY.trans mZ) hok (by omega) (by omega) (by have:=t.lt; omega) p hR (by rw[hgl']; exact pok) (by omega) hW2 (by omega) b2
   rw[er]at l1 hZ kZ hpa
   unfold pnL at l1 hZ kZ hpa
   simp only[g5,g45,g46,g47,hd,hz,zb,i1,n1Y,r1Y,l1,sr,z55,qk_old,ruW,putL,Nat.reduceLeDiff,xF,ruU,Nat.reduceLT,Nat.reduceAdd,Nat.reduceEqDiff]
   rw[hZ,show Z=ext Z [] from rfl]
   refine CallA.mono (show CallA Tryz.prog 17 _ (ext Z []) _ from hpa) ?_
   rintro out V ⟨rfl,hV,mV⟩
   have hwj:IntKind.i64.wrap ((i:Int)+1)=((i+1:Nat):Int):=wrap_succ (by have:=bd.panes; omega)
   have htk:f.panes.take (i+1)=f.panes.take i++[p]:=by rw[List.take_succ,hp]; rfl
   simp only[g47,hwj,ruW,ruU,Nat.reduceLT,Nat.reduceEqDiff]
   refine loopC_next ⟨i+1,by omega,hil,?_,(mY.trans (mZ.mono (by simp))).trans mV,?_,?_,?_,?_,?_,?_⟩
   ·rw[htk,List.foldl_append,List.foldl_append]
    exact hV
   ·exact g1
   ·exact g2
   ·exact g5
   ·exact g45
   ·exact g46
   ·rfl
  ·obtain rfl:i=f.panes.length:=by omega
   have hd:decide ((f.panes.length:Int)<(f.panes.length:Int))=false:=decide_eq_false (by omega)
   rw[List.take_length]at hY
   obtain⟨g,hg⟩:=Go.Ax.exq (f.panes.foldl paneG (blankG j W))
   obtain⟨⟨rw,cl⟩,hcu⟩:∃ c,f.panes.foldl curS (-1,0)=c:=⟨_,rfl⟩
   rw[hg,hcu]at hY
   simp only at hY
   simp only[g1,g46,g47,hd,hz,z0,k1Y,qk_old,ruW,xF,ruU,Nat.reduceLT,Nat.reduceAdd,Nat.reduceEqDiff]
   refine w_env fun E2 hE=>?_
   have g1:E2 1=.pointer (some ⟨x+0,0,none⟩):=by rw[hE]; simp only[g1,ruU,Nat.reduceEqDiff]
   have g2:E2 2=.pointer (some ⟨x+1,0,none⟩):=by rw[hE]; simp only[g2,ruU,Nat.reduceEqDiff]
   have g5:E2 5=.pointer (some ⟨x+2,0,none⟩):=by rw[hE]; simp only[g5,ruU,Nat.reduceEqDiff]
   have g56:E2 56=.slice ba f.bars.length bc:=by rw[hE]; rfl
   have g57:E2 57=.int .i64 (f.bars.length:Int):=by rw[hE]; rfl
   have g58:E2 58=.int .i64 ((0:Nat):Int):=by rw[hE]; rfl
   clear hE g45 g46 g47 hd
   have u23':Tryz.prog.underlying 23=some (.slice 38):=by kernel_rfl
   have s52:szOf Tryz.prog 38=some 5:=by kernel_rfl
   have ag52:aggT Tryz.prog 38=some true:=by kernel_rfl
   have z52:zeroOf Tryz.prog 38=some (.agg #[.int .i64 0,.int .i64 0,.int .i64 0,.int .i64 0,.int .i64 0]):=by kernel_rfl
   have bl68b:aBuild Tryz.prog 45 [(0,.int .i64 124)]=some (.agg #[.int .i64 124,.int .i64 0,.int .i64 0,.bool false,.bool false,.bool false]):=by kernel_rfl
   refine w_loop (fun (j':Nat) E' X'=>j'<=f.bars.length/\CvR (x+3) X' (x+2) u rvs W ((f.bars.take j').foldl barG g) rw cl/\Mod ((x+2)::rvs.flatMap idsV) X X'/\E' 1=.pointer (some ⟨x+0,0,none⟩)/\E' 2=.pointer (some ⟨x+1,0,none⟩)/\E' 5=.pointer (some ⟨x+2,0,none⟩)/\E' 56=.slice ba f.bars.length bc/\E' 57=.int .i64 (f.bars.length:Int)/\E' 58=.int .i64 (j':Int)) (fun j=>f.bars.length-j) 0 ⟨zA9 _,hY,mY,g1,g2,g5,g56,g57,g58⟩ ?_
   have hgl:∀ (l:List Pn) (g:List (List Ce)),(l.foldl paneG g).length=g.length:=fun l=>by
    induction l with
    |nil=>intro g; rfl
    |cons q l ih=>intro g; rw[List.foldl_cons,ih,paneG,putG_len,putRows_len]
   have hgj:g.length=j:=by rw[<-hg,hgl]; exact hbl
   have hbl2:∀ (l:List Rc) (g:List (List Ce)),(l.foldl barG g).length=g.length:=fun l=>by
    induction l with
    |nil=>intro g; rfl
    |cons q l ih=>intro g; rw[List.foldl_cons,ih,barG,putRows_len]
   clear g1 g2 g5 g56 g57 g58 E2 hY mY mHY k1Y k2Y z0 z1 zb yz hz okY
   rintro i E Y ⟨hi,hY,mY,g1,g2,g5,g56,g57,g58⟩
   obtain⟨z,hz⟩:=Go.Ax.exq Y.next
   have okY:=mY.ok okX
   have zb:Y.base<=z:=hz▸okY
   have yz:y<=z:=by have:=mY.next; omega
   have mHY:Mod [] H Y:=mHX.step mY hok fun n hn=>.inr (by have:=hFl n hn; omega)
   have k1Y:=(mY.bk (n:=x+0) (by omega) (fun hn=>by have:=hFl _ hn; omega)).trans k1X
   have z0:x+0<z:=by omega
   rw[show Y=ext Y [] from rfl]
   by_cases hil:i<f.bars.length
   ·have hd:decide ((i:Int)<(f.bars.length:Int))=true:=decide_eq_true (by omega)
    obtain⟨r,hr⟩:∃ r,f.bars[i]?=some r:=⟨_,zA7 hil⟩
    obtain⟨n,off,s,cc,e,o,M,cs,e1,n1r,r1,hle,hM,hR⟩:=hf.bars.one hr
    have e1':=eb.symm.trans e1
    simp only[Value.slice.injEq,true_and]at e1'
    obtain⟨rfl,rfl⟩:=e1'
    have r1Y:=(rk_get (mHY.get n n1r (by simp))).trans r1
    have n1Y:n<z:=by have:=mHY.next; omega
    have i1:=ia_of (P:=Tryz.prog) (k:=.i64) (i:=i) (n:=n) (off:=off) (len:=f.bars.length) (cap:=bc) (s:=s) u23' s52 hil
    have l1:ldB Tryz.prog 38 (off+i*5) (some ⟨e,o,M⟩)=some (.agg ⟨rcL r⟩):=by
     rw[ld_agg ag52,s52,zA3,if_pos (by omega),hM,hR]
    obtain⟨Z,hZ⟩:=Go.Ax.exq (ext Y [⟨38,false,rcL r⟩])
    have mZ:Mod [] Y Z:=hZ▸Mod.ext okY
    have nZ:Z.next=z+1:=by rw[<-hZ,ext_next,hz]; rfl
    have kZ:bk Z (z+0)=some ⟨38,false,rcL r⟩:=by rw[<-hZ,bk_at hz (by simp)]; rfl
    have okZ:=mZ.ok okY
    have hin:=fo.bars r (zC2 hr)
    unfold insR at hin
    simp only[zA4,decide_eq_true_eq]at hin
    obtain⟨rh,hrh⟩:∃ n:Nat,r.height=(n:Int):=⟨r.height.toNat,by omega⟩
    obtain⟨rw',hrw⟩:∃ n:Nat,r.width=(n:Int):=⟨r.width.toNat,by omega⟩
    unfold rcL at l1 hZ kZ
    simp only[g56,g57,g58,hd,hz,zb,i1,n1Y,r1Y,l1,z52,qk_old,ruW,putL,Nat.reduceLeDiff,xF,ruU,Nat.reduceLT,Nat.reduceAdd,Nat.reduceEqDiff]
    rw[hZ]
    refine w_env fun E3 hE=>?_
    have g1':E3 1=.pointer (some ⟨x+0,0,none⟩):=by rw[hE]; simp only[g1,ruU,Nat.reduceEqDiff]
    have g2':E3 2=.pointer (some ⟨x+1,0,none⟩):=by rw[hE]; simp only[g2,ruU,Nat.reduceEqDiff]
    have g5':E3 5=.pointer (some ⟨x+2,0,none⟩):=by rw[hE]; simp only[g5,ruU,Nat.reduceEqDiff]
    have g9':E3 9=.pointer (some ⟨z+0,0,none⟩):=by rw[hE]; simp only[ruU,Nat.reduceEqDiff]
    have g56':E3 56=.slice (some ⟨n,off,s⟩) f.bars.length bc:=by rw[hE]; simp only[g56,ruU,Nat.reduceEqDiff]
    have g57':E3 57=.int .i64 (f.bars.length:Int):=by rw[hE]; simp only[g57,ruU,Nat.reduceEqDiff]
    have g58':E3 58=.int .i64 (i:Int):=by rw[hE]; simp only[g58,ruU,Nat.reduceEqDiff]
    have g63':E3 63=.int .i64 (rh:Int):=by rw[hE]; simp only[hrh,ruU,Nat.reduceEqDiff]
    have g64':E3 64=.int .i64 ((0:Nat):Int):=by rw[hE]; (simp only[ruU]<;>rfl)
    clear hE hd
    obtain⟨gi,hgi⟩:∃ q,(f.bars.take i).foldl barG g=q:=⟨_,rfl⟩
    have hgil:gi.length=j:=by rw[<-hgi,hbl2,hgj]
    rw[hgi]at hY
    refine w_loop (fun (k:Nat) E' X'=>k<=rh/\CvR (x+3) X' (x+2) u rvs W (putRows gi r.top.toNat r.left.toNat (List.replicate k (List.replicate r.width.toNat barC))) rw cl/\Mod ((x+2)::rvs.flatMap idsV) Z X'/\E' 1=.pointer (some ⟨x+0,0,none⟩)/\E' 2=.pointer (some ⟨x+1,0,none⟩)/\E' 5=.pointer (some ⟨x+2,0,none⟩)/\E' 9=.pointer (some ⟨z+0,0,none⟩)/\E' 56=.slice (some ⟨n,off,s⟩) f.bars.length bc/\E' 57=.int .i64 (f.bars.length:Int)/\E' 58=.int .i64 (i:Int)/\E' 63=.int .i64 (rh:Int)/\E' 64=.int .i64 (k:Int)) (fun k=>rh-k) 0 ⟨zA9 _,hY.grow mZ,Mod.refl,g1',g2',g5',g9',g56',g57',g58',g63',g64'⟩ ?_
    clear g1' g2' g5' g9' g56' g57' g58' g63' g64' E3
    rintro k E3 V ⟨hk,hV,mV,g1,g2,g5,g9,g56,g57,g58,g63,g64⟩
    obtain⟨w,hw⟩:=Go.Ax.exq V.next
    have okV:=mV.ok okZ
    have zw:z+1<=w:=by have:=mV.next; omega
    have kV:=(mV.bk (n:=z+0) (by omega) (fun hn=>by have:=hFl _ hn; omega)).trans kZ
    have zw0:z+0<w:=by omega
    rw[show V=ext V [] from rfl]
    by_cases hkl:k<rh
    ·have hd:decide ((k:Int)<(rh:Int))=true:=decide_eq_true (by omega)
     have w1:IntKind.i64.wrap (r.top+(k:Int))=r.top+(k:Int):=wrap_sm (by omega) (by omega)
     simp only[g63,g64,hd,ruW,ruU,Nat.reduceLT,Nat.reduceEqDiff]
     refine w_drawP [(11,8),(11,10)] [] (by kernel_rfl) (by kernel_rfl) (by kernel_rfl) rfl (fun ops anc hA hG=>?_) (by simp) ⟨rfl,rfl⟩
     simp only[all2_cons]at hA
     have kVw:=kV
     rw[hrw]at kVw
     simp only[dropLast_more,dropLast_one,g5,g9,hw,zw0,kVw,w1,bl68b,qk_old,ruD,ruW,xF,ruU,Nat.reduceLT,Nat.reduceAdd,Nat.reduceEqDiff]
     refine genV_ext (v:=.slice (some ⟨w+1,0,some 0⟩) rw' rw') (M:=[⟨45,false,csOf (List.replicate rw' barC)⟩]) [w+0] (by simp only[ruU,Nat.reduceLT]) (by kernel_rfl) (by decide) (fun m hm=>?_) (fun K hKn hK=>?_) (by simp (maxDischargeDepth:=6) only[hA,ruD]) ?_
     ·simp only[zB4]at hm
      rw[hm]
      exact bk_ne (bk_at hw (by simp))
     ·simp only[ruU,Nat.reduceEqDiff]
      have hKx:K.next=w+1:=by rw[hKn,ext_next,hw]; rfl
      have:=repeat_c rw' (by omega) (by omega) barC (w+0) (some 0) K (by rw[bk_get (hK _ (by simp)),bk_at hw (by simp)]; rfl)
      rw[hKx]at this
      exact this
     obtain⟨V2,hV2⟩:=Go.Ax.exq (ext (ext V [⟨45,false,[.int .i64 124,.int .i64 0,.int .i64 0,.bool false,.bool false,.bool false]⟩]) [⟨45,false,csOf (List.replicate rw' barC)⟩])
     have mV2:Mod [] V V2:=hV2▸(Mod.ext okV).trans (Mod.ext ((Mod.ext (W:=[]) okV).ok okV))
     have nV2:V2.next=w+2:=by rw[<-hV2,ext_next,ext_next,hw]; rfl
     have b1:bk V2 (w+1)=some ⟨45,false,csOf (List.replicate rw' barC)⟩:=by rw[<-hV2,ext_append,show w+1=w+1 from rfl,bk_at hw (by simp)]; rfl
     rw[hV2]
     simp only[lastO_cons,lastO_one,isDef_call,true_and,ruD,ruW,xF,ruU,Nat.reduceLT,Nat.reduceAdd,Nat.reduceEqDiff]
     have hrow:RowAt V2 (.slice (some ⟨w+1,0,some 0⟩) rw' rw') (List.replicate rw' barC):=by
      refine .inr ⟨fun h=>by have:=congrArg List.length h; simp at this; omega,w+1,0,some 0,rw',45,false,csOf (List.replicate rw' barC),by rw[zD2],rk_of b1,by omega,by rw[csOf_length]; omega,by rw[zC7,List.take_of_length_le (by rw[csOf_length]; exact zA8 _)]⟩
     have hput:=put_c (hV.grow mV2) (r.top.toNat+k) r.left.toNat (r.top+(k:Int)) r.left (by omega) (by omega) (List.replicate rw' barC) hrow (by rw[putRows_len]; omega) (by omega) (by rw[zD2]; omega)
     refine CallA.mono (show CallA Tryz.prog 18 _ V2 _ from hput) ?_
     rintro out U ⟨rfl,hU,mU,_⟩
     have hwj:IntKind.i64.wrap ((k:Int)+1)=((k+1:Nat):Int):=wrap_succ (by omega)
     simp only[g64,hwj,ruW,ruU,Nat.reduceLT,Nat.reduceEqDiff]
     refine loopC_next ⟨k+1,by omega,hkl,?_,(mV.trans (mV2.mono (by simp))).trans (mU.mono fun n hn=>zB5 _ hn),?_,?_,?_,?_,?_,?_,?_,?_,?_⟩
     ·rw[List.replicate_succ',putRows_snoc,zD2,show r.width.toNat=rw' by omega]
      rw[show r.width.toNat=rw' by omega]at hU
      exact hU
     ·exact g1
     ·exact g2
     ·exact g5
     ·exact g9
     ·exact g56
     ·exact g57
     ·exact g58
     ·exact g63
     ·rfl
    ·obtain rfl:k=rh:=by omega
     have hd:decide ((k:Int)<(k:Int))=false:=decide_eq_false (by omega)
     have htk:f.bars.take (i+1)=f.bars.take i++[r]:=by rw[List.take_succ,hr]; rfl
     have hwj:IntKind.i64.wrap ((i:Int)+1)=((i+1:Nat):Int):=wrap_succ (by have:=bd.bars; omega)
     simp only[g58,g63,g64,hd,hwj,ruW,ruU,Nat.reduceLT,Nat.reduceEqDiff]
     refine loopC_next ⟨i+1,by omega,hil,?_,(mY.trans (mZ.mono (by simp))).trans mV,?_,?_,?_,?_,?_,?_⟩
     ·rw[htk,List.foldl_append,hgi]
      have:barG gi r=putRows gi r.top.toNat r.left.toNat (List.replicate k (List.replicate r.width.toNat barC)):=by
       rw[show k=r.height.toNat by omega]
       rfl
      rw[List.foldl_cons,List.foldl_nil,this]
      exact hV
     ·exact g1
     ·exact g2
     ·exact g5
     ·exact g56
     ·exact g57
     ·rfl
   ·obtain rfl:i=f.bars.length:=by omega
    have hd:decide ((f.bars.length:Int)<(f.bars.length:Int))=false:=decide_eq_false (by omega)
    rw[List.take_length]at hY
    obtain⟨gb,hgb⟩:∃ q,f.bars.foldl barG g=q:=⟨_,rfl⟩
    have hgbl:gb.length=j:=by rw[<-hgb,hbl2,hgj]
    rw[hgb]at hY
    obtain⟨ca,cf,hcut⟩:=cut_c Y f.echo (by have:=bd.echo; omega)
    simp only[g1,g57,g58,hd,hz,z0,k1Y,qk_old,ruW,xF,ruU,Nat.reduceLT,Nat.reduceAdd,Nat.reduceEqDiff]
    refine CallS.to (show Pure 19 _ (ext Y []) _ from hcut) ?_
    have bl38:aBuild Tryz.prog 41 []=some (Lk.val ⟨0,0,false,false,false⟩):=by kernel_rfl
    have w1:IntKind.i64.wrap (f.height-1)=f.height-1:=wrap_sm (by omega) (by omega)
    have hck:colr ⟨0,0,false,false,false⟩=true:=by decide
    have hes:(echoB f.echo).size<=300:=by
     have h1:=bd.echo
     have h2:=size_len f.echo
     unfold echoB echoR
     rw[size_len]
     have:=(List.takeWhile_sublist (fun c=>decide (c≠(10:UInt8))) (l:=f.echo.data.toList)).length_le
     simp only
     omega
    have hst:=string_c hY okY (t.mod0 mHY) (f.height-1).toNat 0 f.width.toNat (f.height-1) 0 f.width (by omega) rfl (by omega) (echoB f.echo) ⟨0,0,false,false,false⟩ hck (by omega) hes (by omega) (by omega) (by omega)
    simp only[g1,g5,hz,z0,k1Y,w1,bl38,qk_old,ruW,xF,ruU,Nat.reduceLT,Nat.reduceAdd,Nat.reduceEqDiff]
    refine CallA.mono (show CallA Tryz.prog 20 _ (ext Y []) _ from hst) ?_
    rintro out S ⟨rfl,hS,mS⟩
    have hdr:putG gb (f.height-1).toNat 0 (strG f.width.toNat ⟨0,0,false,false,false⟩ (echoB f.echo))=drawG f:=by
     rw[<-hgb,<-hg,show j=f.height.toNat by omega,show W=f.width.toNat by omega]
     rfl
    rw[hdr]at hS
    have hdl:(drawG f).length=j:=by rw[<-hdr,putG_len,hgbl]
    obtain⟨sn,hsn⟩:∃ z,S.next=z:=⟨_,rfl⟩
    have okS:=mS.ok okY
    have ys:z<=sn:=by have:=mS.next; omega
    have mXS:=mY.trans (mS.mono fun n hn=>zB5 _ hn)
    have k1S:=(mXS.bk (n:=x+0) (by omega) (fun hn=>by have:=hFl _ hn; omega)).trans k1X
    have s0:x+0<sn:=by omega
    have s2:x+2<sn:=by omega
    have kcS:=hS.at_
    obtain⟨va,vc,ev⟩:∃ a c,u=.slice a (drawG f).length c:=hS.own.grid.sl
    rw[ev]at kcS
    obtain⟨d1,h1⟩:∃ d,decide (¬f.ecol=-1)=d:=⟨_,rfl⟩
    have hcg:f.panes.foldl curS (-1,0)=curG f.panes:=curS_fold _ fun p hp=>by
     have:=pnOk_of (h:=j) (w:=W) (p:=p) (by rw[<-hh,<-hW]; exact pnsE_mem _ fo.panes p hp)
     exact⟨this.top,this.row⟩
    generalize hcode:Code.seq (Code.region 27 _ _) _=code
    generalize hcode2:Code.seq (Code.region 29 _ _) _=code2
    rw[show S=ext S [] from rfl]
    have hfin:∀ (E:Env) (T:AHeap),CvR (x+3) T (x+2) u rvs W (drawG f) (drawC f).1 (drawC f).2->Mod ((x+2)::rvs.flatMap idsV) X T->E 2=.pointer (some ⟨x+1,0,none⟩)->E 5=.pointer (some ⟨x+2,0,none⟩)->wpA Tryz.prog none code (seqC Tryz.prog none code2 (endA Tryz.prog Tryz.f6 fun out X=>DrO H f out X)) (mkA 125 E []) T:=by
     intro E T hT mT g2 g5
     obtain⟨tn,htn⟩:∃ z,T.next=z:=⟨_,rfl⟩
     have okT:=mT.ok okX
     have yt:y<=tn:=by have:=mT.next; omega
     have mHT:Mod [] H T:=mHX.step mT hok fun n hn=>.inr (by have:=hFl n hn; omega)
     have k2T:=(mT.bk (n:=x+1) (by omega) (fun hn=>by have:=hFl _ hn; omega)).trans k2X
     have t1:x+1<tn:=by omega
     have t2:x+2<tn:=by omega
     have kcT:=hT.at_
     rw[ev]at kcT
     have hcon:=containsRows_c T u (drawG f) 22 [] (fun l=>!wholeB l) hT.own.grid (by omega) (by kernel_rfl) (fun rv a hr ha=>broken_c T rv a hr (by have:=hT.wd a ha; omega))
     obtain⟨dd,hdd⟩:∃ q,((drawG f).any fun l=>!wholeB l)=q:=⟨_,rfl⟩
     rw[ev,hdd]at hcon
     have mU:∀ vs,Mod [x+1] T (uw T (x+1) 0 vs):=fun vs=>Mod.uw (by simp)
     have mHU:∀ vs,Mod [] H (uw T (x+1) 0 vs):=fun vs=>mHT.step (mU vs) hok fun n hn=>.inr (by simp only[zB4]at hn; omega)
     rw[show T=ext T [] from rfl]
     subst hcode hcode2
     simp only[g5,htn,t2,kcT,qk_old,ruW,xF,ruU,Nat.reduceLT]
     refine CallS.to (show Pure 21 _ (ext T []) _ from hcon) ?_
     cases dd with
     |true =>
      simp only[g2,htn,t1,k2T,bl31,Tryz.results6,qk_old,ruW,putL,Nat.reduceLeDiff,xF,ruU,Nat.reduceLT,Nat.reduceAdd,Nat.reduceEqDiff]
      refine⟨mHU _,?_⟩
      rw[if_neg (fun h=>h (hev.trans hev0)),if_pos hdd]
     |false =>
      have scu:scb tn (.slice va (drawG f).length vc)=true:=by
       rw[<-ev]
       rcases hT.own.at_ with⟨_,e⟩|⟨m,s,c,o,e,_,_,hlt,_⟩
       ·rw[e]; rfl
       ·rw[e]; exact blt_of (htn▸hlt)
      simp only[g2,g5,htn,t1,t2,kcT,k2T,scu,Tryz.results6,qk_old,ruW,putL,Nat.reduceLeDiff,xF,ruU,Nat.reduceLT,Nat.reduceAdd,Nat.reduceEqDiff]
      refine⟨mHU _,?_⟩
      rw[if_neg (fun h=>h (hev.trans hev0)),if_neg (by rw[hdd]; decide)]
      refine⟨x+3,u,rvs,by omega,?_,by rw[ev],by omega,fun l hl=>by have:=hT.wd l hl; omega⟩
      have hx1:=mU [.slice va (drawG f).length vc,.int .i64 (drawC f).1,.int .i64 (drawC f).2]
      exact hT.own.of hx1.next fun n hN hn _=>hx1.get n hn (by simp only[zB4]; omega)
    cases d1 with
    |false =>
     have hec:f.ecol=-1:=Decidable.byContradiction fun h=>of_decide_eq_false h1 h
     simp only[g1,hsn,s0,k1S,h1,qk_old,ruW,xF,ruU,Nat.reduceLT,Nat.reduceAdd,Nat.reduceEqDiff]
     refine hfin _ S ?_ mXS (by simp only[g2,ruU,Nat.reduceEqDiff]) (by simp only[g5,ruU,Nat.reduceEqDiff])
     have:drawC f=(rw,cl):=by unfold drawC; rw[if_neg (fun h=>h hec),<-hcg,hcu]
     rw[this]
     exact hS
    |true =>
     have hec:f.ecol≠-1:=of_decide_eq_true h1
     simp only[g1,hsn,s0,k1S,h1,qk_old,ruW,xF,ruU,Nat.reduceLT,Nat.reduceAdd,Nat.reduceEqDiff]
     refine w_drawB [(14,10)] [] (by kernel_rfl) (by kernel_rfl) rfl fun ops anc hA hG'=>?_
     simp only[all2_cons]at hA
     simp only[g1,g5,hsn,s0,s2,k1S,kcS,w1,hA,qk_old,ruD,ruW,putL,Nat.reduceLeDiff,xF,ruU,Nat.reduceLT,Nat.reduceAdd,Nat.reduceEqDiff]
     obtain⟨hc1,hc2⟩:=hS.cur (f.height-1) f.ecol
     refine hfin _ _ ?_ (mXS.trans (hc2.mono fun n hn=>by simp only[zB4]at hn; simp[hn])) (by simp only[g2,ruU,Nat.reduceEqDiff]) (by simp only[g5,ruU,Nat.reduceEqDiff])
     have:drawC f=(f.height-1,f.ecol):=by unfold drawC; rw[if_pos hec]
     rw[this]
     exact hc1
def pnBig (p:Pn):Bool:=decide (30<p.rows.length)||decide (300<p.mode.size)||p.rows.any fun r=>decide (60<r.cells.length)
def lgB (f:Fr):Bool:=(f.panes.take 13).any pnBig||decide (12<f.panes.length)||decide (12<f.bars.length)||decide (300<f.echo.size)
theorem lgB_bd {f:Fr} (h:lgB f=false):FrBd f:=by
 unfold lgB at h
 simp only[Bool.or_eq_false_iff,decide_eq_false_iff_not]at h
 obtain⟨⟨⟨h1,h2⟩,h3⟩,h4⟩:=h
 refine⟨by omega,by omega,by omega,fun p hp=>?_⟩
 rw[List.take_of_length_le (by omega)]at h1
 have:=List.any_eq_false.1 h1 p hp
 unfold pnBig at this
 simp only[Bool.or_eq_true,decide_eq_true_eq,not_or,Bool.not_eq_true,List.any_eq_false]at this
 obtain⟨⟨h5,h6⟩,h7⟩:=this
 exact⟨by omega,by omega,fun r hr=>by have:=h7 r hr; omega⟩
theorem large_c (q:Bool) (H:AHeap) (f:Fr) (pv bv:Value) (hf:FrR q H pv bv f):Pure 5 [.agg ⟨frL pv bv f⟩] H (.bool (lgB f)):=by
 obtain⟨x,hx⟩:=Go.Ax.exq H.next
 obtain⟨pa,pc,ep⟩:=hf.panes.sl
 obtain⟨ba,bc,eb⟩:=hf.bars.sl
 obtain⟨B,hB⟩:=Go.Ax.exq (lgB f)
 rw[hB]
 refine callS_drop (fun wf hsc=>?_) (fun _ _=>rfl)
 have hok:=wf.base
 have sp:=hf.sp
 have sb:=hf.sb
 rw[hx,ep]at sp
 rw[hx,eb]at sb
 refine callE_fn mixed Tryz.func5 rfl Tryz.ntmps5 (zB2 rfl) ?_
 rw[ep,eb]
 unfold frL
 simp only[hx,sp,sb,ruW,ruU,entryE,Nat.reduceLT]
 generalize hY:ext H _=Y
 have mY:Mod [] H Y:=hY▸Mod.ext hok
 have nY:Y.next=x+1:=by rw[<-hY,ext_next,hx]; rfl
 have kY:bk Y (x+0)=some ⟨25,false,[.int .i64 f.height,.int .i64 f.width,.slice pa f.panes.length pc,.slice ba f.bars.length bc,.string f.echo,.int .i64 f.ecol]⟩:=by rw[<-hY,bk_at hx (by simp)]; rfl
 clear hY
 have okY:=mY.ok hok
 refine w_env fun E hE=>?_
 have g1:E 1=.pointer (some ⟨x+0,0,none⟩):=by rw[hE]; rfl
 have g3:E 3=.int .i64 ((0:Nat):Int):=by rw[hE]; rfl
 clear hE
 have u9:=u9
 have u22:Tryz.prog.underlying 22=some (.slice 43):=by kernel_rfl
 have s55:szOf Tryz.prog 43=some 15:=by kernel_rfl
 have ag55':aggT Tryz.prog 43=some true:=by kernel_rfl
 have z55:zeroOf Tryz.prog 43=some (.agg #[.int .i64 0,.int .i64 0,.int .i64 0,.int .i64 0,.int .i64 0,.slice none 0 0,.int .i64 0,.int .i64 0,.string ⟨#[]⟩,.int .i64 0,.int .i64 0,.bool false,.bool false,.bool false,.bool false]):=by kernel_rfl
 have u53:Tryz.prog.underlying 39=some (.slice 55):=by kernel_rfl
 have s58:szOf Tryz.prog 55=some 5:=by kernel_rfl
 have bl:∀ (G:AHeap) (s:ByteArray),aBuiltin Tryz.prog G .len ⟨[9]⟩ [.string s]=some (goInt s.size,G):=fun G s=>bt_lenStr u9
 rw[show Y=ext Y [] from rfl]
 refine blockC_meet (fun E' X=>Mod [] Y X/\E' 1=.pointer (some ⟨x+0,0,none⟩)/\((12<f.panes.length)\/(f.panes.take 13).any pnBig=false)) ?_ ?_
 ·refine w_loop (fun (i:Nat) E' X=>i<=f.panes.length/\i<=13/\Mod [] Y X/\(∀ p∈f.panes.take i,pnBig p=false)/\E' 1=.pointer (some ⟨x+0,0,none⟩)/\E' 3=.int .i64 (i:Int)) (fun i=>f.panes.length-i) 0 ⟨zA9 _,by omega,Mod.refl,fun p hp=>by simp at hp,g1,g3⟩ ?_
  clear g1 g3 E
  rintro i E X ⟨hi,hi13,mX,hall,g1,g3⟩
  obtain⟨y,hy⟩:=Go.Ax.exq X.next
  have okX:=mX.ok okY
  have yb:X.base<=y:=hy▸okX
  have mHX:=mY.trans mX
  have kX:=(mX.bk (by omega) (by simp)).trans kY
  have xy:x+0<y:=by have:=mX.next; omega
  rw[show X=ext X [] from rfl]
  by_cases hil:i<f.panes.length
  ·have hd:decide ((i:Int)<(f.panes.length:Int))=true:=decide_eq_true (by omega)
   by_cases hi2:i<13
   ·have hd2:decide ((i:Int)<13)=true:=decide_eq_true (by omega)
    obtain⟨p,hp⟩:∃ p,f.panes[i]?=some p:=⟨_,zA7 hil⟩
    obtain⟨n,off,s,cc,e,o,M,cs,e1,n1r,r1,hle,hM,rv,rfl,hR⟩:=(hf.panes.mono mHX fun _ _=>PnC.mod0 mHX).one hp
    have e1':=ep.symm.trans e1
    simp only[Value.slice.injEq,true_and]at e1'
    obtain⟨rfl,rfl⟩:=e1'
    have i1:=ia_of (P:=Tryz.prog) (k:=.i64) (i:=i) (n:=n) (off:=off) (len:=f.panes.length) (cap:=pc) (s:=s) u22 s55 hil
    have l1:ldB Tryz.prog 43 (off+i*15) (some ⟨e,o,M⟩)=some (.agg ⟨pnL rv p⟩):=by
     rw[ld_agg ag55',s55,zA3,if_pos (by omega),hM]
    obtain⟨ra,rc,er⟩:=hR.it.sl
    have sr:=hR.sc
    rw[hy,er]at sr
    rw[hy]at n1r
    obtain⟨Z,hZ⟩:=Go.Ax.exq (ext X [⟨43,false,pnL rv p⟩])
    have mZ:Mod [] X Z:=hZ▸Mod.ext okX
    have nZ:Z.next=y+1:=by rw[<-hZ,ext_next,hy]; rfl
    have kZ:bk Z (y+0)=some ⟨43,false,pnL rv p⟩:=by rw[<-hZ,bk_at hy (by simp)]; rfl
    have okZ:=mZ.ok okX
    have zb:Z.base<=y+1:=nZ▸okZ
    have zz:y+0<y+1:=by omega
    have mHZ:=mHX.trans mZ
    rw[er]at l1 hZ kZ
    unfold pnL at l1 hZ kZ
    have bad:pnBig p=true->true=B:=fun hb=>by
     rw[<-hB]
     have:(f.panes.take 13).any pnBig=true:=List.any_eq_true.2 ⟨p,zC2 (i:=i) (by rw[List.getElem?_take,if_pos hi2]; exact hp),hb⟩
     unfold lgB
     rw[this]
     rfl
    obtain⟨d3,h3⟩:∃ d,decide ((30:Int)<(p.rows.length:Int))=d:=⟨_,rfl⟩
    obtain⟨d4,h4⟩:∃ d,decide ((300:Int)<(p.mode.size:Int))=d:=⟨_,rfl⟩
    simp only[g1,g3,hy,yb,kX,xy,hd,hd2,i1,n1r,r1,l1,sr,z55,qk_old,ruW,putL,Nat.reduceLeDiff,xF,ruU,Nat.reduceLT,Nat.reduceAdd,Nat.reduceEqDiff]
    rw[hZ,show Z=ext Z [] from rfl]
    cases d3 with
    |true =>
     obtain rfl:true=B:=bad (by unfold pnBig; rw[decide_eq_true (show 30<p.rows.length by have:=of_decide_eq_true h3; omega)]; rfl)
     simp only[h3,joinR_ret,Tryz.results5,ruW,ruU,Nat.reduceLT,Nat.reduceEqDiff]
     exact⟨trivial,mHZ⟩
    |false =>
    cases d4 with
    |true =>
     obtain rfl:true=B:=bad (by unfold pnBig; rw[decide_eq_true (show 300<p.mode.size by have:=of_decide_eq_true h4; omega)]; simp)
     simp only[nZ,kZ,zz,h3,h4,bl,goInt,joinR_ret,Tryz.results5,qk_old,ruW,xF,ruU,Nat.reduceLT,Nat.reduceAdd,Nat.reduceEqDiff]
     exact⟨trivial,mHZ⟩
    |false =>
    simp only[nZ,kZ,zz,h3,h4,bl,goInt,qk_old,ruW,xF,ruU,Nat.reduceLT,Nat.reduceAdd,Nat.reduceEqDiff]
    have hrl:p.rows.length<=30:=by have:=of_decide_eq_false h3; omega
    refine w_env fun E2 hE=>?_
    have g1':E2 1=.pointer (some ⟨x+0,0,none⟩):=by rw[hE]; simp only[g1,ruU,Nat.reduceEqDiff]
    have g3':E2 3=.int .i64 (i:Int):=by rw[hE]; simp only[g3,ruU,Nat.reduceEqDiff]
    have g4':E2 4=.pointer (some ⟨y+0,0,none⟩):=by rw[hE]; simp only[ruU,Nat.reduceEqDiff]
    have g5':E2 5=.int .i64 ((0:Nat):Int):=by rw[hE]; (simp only[ruU]<;>rfl)
    clear hE g1 g3 E hd hd2
    refine w_loop (fun (k:Nat) E' X'=>X'=ext Z []/\k<=p.rows.length/\(∀ r∈p.rows.take k,¬60<r.cells.length)/\E' 1=.pointer (some ⟨x+0,0,none⟩)/\E' 3=.int .i64 (i:Int)/\E' 4=.pointer (some ⟨y+0,0,none⟩)/\E' 5=.int .i64 (k:Int)) (fun k=>p.rows.length-k) 0 ⟨rfl,zA9 _,fun r hr=>by simp at hr,g1',g3',g4',g5'⟩ ?_
    clear g1' g3' g4' g5' E2
    rintro k E X' ⟨hX',hk,hkall,g1,g3,g4,g5⟩
    rw[hX']
    by_cases hkl:k<p.rows.length
    ·have hd:decide ((k:Int)<(p.rows.length:Int))=true:=decide_eq_true (by omega)
     obtain⟨r,hrk⟩:∃ r,p.rows[k]?=some r:=⟨_,zA7 hkl⟩
     obtain⟨n2,off2,s2,cc2,e2,o2,M2,cs2,e12,n12,r12,hle2,hM2,cv,pv2,rfl,hRw⟩:=(hR.it.mono mZ fun _ _=>RwC.mod0 mZ).one hrk
     have e13:=er.symm.trans e12
     simp only[Value.slice.injEq,true_and]at e13
     obtain⟨rfl,rfl⟩:=e13
     have i2:=ia_of (P:=Tryz.prog) (k:=.i64) (i:=k) (n:=n2) (off:=off2) (len:=p.rows.length) (cap:=rc) (s:=s2) u53 s58 hkl
     have hcell:M2[off2+k*5]?=some cv:=by
      have:=congrArg (fun l=>l[0]?) hM2
      simp only[List.getElem?_take,List.getElem?_drop,zD3]at this
      rw[if_pos (by decide)]at this
      exact this
     have l2:=grid_load (k:=k*5) (off:=off2) (e:=e2) (o:=o2) hcell
     obtain⟨ca,cb,ecv⟩:=hRw.cells.sl
     rw[ecv]at l2
     rw[nZ]at n12
     obtain⟨d5,h5⟩:∃ d,decide ((60:Int)<(r.cells.length:Int))=d:=⟨_,rfl⟩
     have hwk:IntKind.i64.wrap ((k:Int)+1)=((k+1:Nat):Int):=wrap_succ (by omega)
     cases d5 with
     |true =>
      obtain rfl:true=B:=bad (by
       unfold pnBig
       rw[List.any_eq_true.2 ⟨r,zC2 hrk,decide_eq_true (by have:=of_decide_eq_true h5; omega)⟩]
       simp)
      simp only[g4,g5,nZ,kZ,zz,hd,i2,n12,r12,l2,h5,joinR_ret,Tryz.results5,qk_old,ruW,xF,ruU,Nat.reduceLT,Nat.reduceAdd,Nat.reduceEqDiff]
      exact⟨trivial,mHZ⟩
     |false =>
      simp only[g4,g5,nZ,kZ,zz,hd,i2,n12,r12,l2,h5,hwk,qk_old,ruW,xF,ruU,Nat.reduceLT,Nat.reduceAdd,Nat.reduceEqDiff]
      refine loopC_next ⟨k+1,by omega,rfl,hkl,fun q hq=>?_,by simp only[g1,ruU,Nat.reduceEqDiff],by simp only[g3,ruU,Nat.reduceEqDiff],by simp only[g4,ruU,Nat.reduceEqDiff],by simp only[ruU]⟩
      rw[List.take_succ,hrk]at hq
      rcases zC9.1 hq with hq|hq
      ·exact hkall q hq
      ·simp only[Option.toList_some,zB4]at hq
       rw[hq]
       have:=of_decide_eq_false h5
       omega
    ·obtain rfl:k=p.rows.length:=by omega
     have hd:decide ((p.rows.length:Int)<(p.rows.length:Int))=false:=decide_eq_false (by omega)
     have hwi:IntKind.i64.wrap ((i:Int)+1)=((i+1:Nat):Int):=wrap_succ (by omega)
     rw[List.take_length]at hkall
     simp only[g3,g4,g5,nZ,kZ,zz,hd,hwi,qk_old,ruW,xF,ruU,Nat.reduceLT,Nat.reduceAdd,Nat.reduceEqDiff]
     refine loopC_next ⟨i+1,by omega,hil,by omega,mX.trans mZ,fun q hq=>?_,by simp only[g1,ruU,Nat.reduceEqDiff],by simp only[ruU]⟩
     rw[List.take_succ,hp]at hq
     rcases zC9.1 hq with hq|hq
     ·exact hall q hq
     ·simp only[Option.toList_some,zB4]at hq
      rw[hq]
      unfold pnBig
      have:=of_decide_eq_false h4
      rw[decide_eq_false (show ¬30<p.rows.length by omega),decide_eq_false (show ¬300<p.mode.size by omega)]
      simp only[Bool.false_or]
      refine List.any_eq_false.2 fun r hr=>?_
      simp only[decide_eq_true_eq]
      exact hkall r hr
   ·have hd2:decide ((i:Int)<13)=false:=decide_eq_false (by omega)
    simp only[g1,g3,hy,kX,xy,hd,hd2,qk_old,ruW,xF,ruU,Nat.reduceLT,Nat.reduceAdd,Nat.reduceEqDiff]
    exact joinR_normal ⟨mX,by simp only[g1,ruU,Nat.reduceEqDiff],.inl (by omega)⟩
  ·obtain rfl:i=f.panes.length:=by omega
   have hd:decide ((f.panes.length:Int)<(f.panes.length:Int))=false:=decide_eq_false (by omega)
   rw[List.take_length]at hall
   simp only[g1,g3,hy,kX,xy,hd,qk_old,ruW,xF,ruU,Nat.reduceLT,Nat.reduceAdd,Nat.reduceEqDiff]
   refine joinR_normal ⟨mX,by simp only[g1,ruU,Nat.reduceEqDiff],.inr (List.any_eq_false.2 fun p hp=>?_)⟩
   rw[hall p (List.mem_of_mem_take hp)]
   decide
 ·rintro E X ⟨mX,g1,hb⟩
  obtain⟨y,hy⟩:=Go.Ax.exq X.next
  have okX:=mX.ok okY
  have mHX:=mY.trans mX
  have kX:=(mX.bk (by omega) (by simp)).trans kY
  have xy:x+0<y:=by have:=mX.next; omega
  obtain⟨d1,h1⟩:∃ d,decide ((12:Int)<(f.panes.length:Int))=d:=⟨_,rfl⟩
  obtain⟨d2,h2⟩:∃ d,decide ((12:Int)<(f.bars.length:Int))=d:=⟨_,rfl⟩
  obtain⟨d3,h3⟩:∃ d,decide ((300:Int)<(f.echo.size:Int))=d:=⟨_,rfl⟩
  have e1:decide (12<f.panes.length)=d1:=by rw[<-h1]; exact decide_eq_decide.2 ⟨fun h=>by omega,fun h=>by omega⟩
  have e2:decide (12<f.bars.length)=d2:=by rw[<-h2]; exact decide_eq_decide.2 ⟨fun h=>by omega,fun h=>by omega⟩
  have e3:decide (300<f.echo.size)=d3:=by rw[<-h3]; exact decide_eq_decide.2 ⟨fun h=>by omega,fun h=>by omega⟩
  have hBd:B=(d1||d2||d3):=by
   rw[<-hB]
   unfold lgB
   rw[e1,e2,e3]
   rcases hb with hb|hb
   ·have:d1=true:=by rw[<-e1]; exact decide_eq_true hb
    rw[this]
    simp
   ·rw[hb,Bool.false_or]
  rw[hBd]
  rw[show X=ext X [] from rfl]
  cases d1 with
  |true =>
   simp only[g1,hy,kX,xy,h1,Tryz.results5,qk_old,Bool.true_or,ruW,xF,ruU,Nat.reduceLT,Nat.reduceAdd,Nat.reduceEqDiff]
   exact⟨trivial,mHX⟩
  |false =>
  cases d2 with
  |true =>
   simp only[g1,hy,kX,xy,h1,h2,Tryz.results5,qk_old,Bool.true_or,Bool.false_or,ruW,xF,ruU,Nat.reduceLT,Nat.reduceAdd,Nat.reduceEqDiff]
   exact⟨trivial,mHX⟩
  |false =>
   cases d3 with
   |true =>
    simp only[g1,hy,kX,xy,h1,h2,h3,bl,goInt,Tryz.results5,qk_old,Bool.false_or,ruW,xF,ruU,Nat.reduceLT,Nat.reduceAdd,Nat.reduceEqDiff]
    exact⟨trivial,mHX⟩
   |false =>
    simp only[g1,hy,kX,xy,h1,h2,h3,bl,goInt,Tryz.results5,qk_old,Bool.false_or,ruW,xF,ruU,Nat.reduceLT,Nat.reduceAdd,Nat.reduceEqDiff]
    exact⟨trivial,mHX⟩
def wideB (c:Ce):Bool:=decide (32<=c.rune)&&decide (¬c.rune=127)&&decide (widthR c.rune=2)
theorem wide_c (H:AHeap) (c:Ce):Pure 23 [.agg ⟨c.cells⟩] H (.bool (wideB c)):=by
 obtain⟨x,hx⟩:=Go.Ax.exq H.next
 refine callS_fn mixed Tryz.func23 rfl Tryz.ntmps23 (zB2 rfl) fun wf hsc=>?_
 obtain⟨d1,h1⟩:∃ q,decide (32<=c.rune)=q:=⟨_,rfl⟩
 obtain⟨d2,h2⟩:∃ q,decide (¬c.rune=127)=q:=⟨_,rfl⟩
 obtain⟨d3,h3⟩:∃ q,decide (widthR c.rune=2)=q:=⟨_,rfl⟩
 have h3':decide ((widthR c.rune:Int)=2)=d3:=by rw[<-h3]; exact decide_eq_decide.2 (by omega)
 have hw:wideB c=(d1&&d2&&d3):=by unfold wideB; rw[h1,h2,h3]
 rw[hw]
 unfold Ce.cells
 cases d1
 ·simp only[hx,h1,Tryz.results23,ruW,xF,ruU,entryE,Nat.reduceLT,Nat.reduceAdd,Nat.reduceEqDiff]
  exact Ax.Fin.pureE rfl rfl
 cases d2
 ·simp only[hx,h1,h2,Tryz.results23,ruW,xF,ruU,entryE,Nat.reduceLT,Nat.reduceAdd,Nat.reduceEqDiff]
  exact Ax.Fin.pureE rfl rfl
 ·simp only[hx,h1,h2,ruW,xF,ruU,entryE,Nat.reduceLT,Nat.reduceAdd,Nat.reduceEqDiff]
  refine (width_c (ext H _) c.rune).to ?_
  simp only[h3',Tryz.results23,ruW,ruU,Nat.reduceLT,Nat.reduceEqDiff]
  exact Ax.Fin.pureE rfl rfl
def inRc (r:Rc) (i k:Int):Bool:=decide (r.top<=i)&&decide (i<r.top+r.height)&&decide (r.left<=k)&&decide (k<r.left+r.width)
theorem inRc_c (H:AHeap) (r:Rc) (i k:Int) (hr:rcOk r):Pure 8 [.agg ⟨rcL r⟩,.int .i64 i,.int .i64 k] H (.bool (inRc r i k)):=by
 obtain⟨x,hx⟩:=Go.Ax.exq H.next
 refine callS_fn mixed Tryz.func8 rfl Tryz.ntmps8 (zB2 rfl) fun wf hsc=>?_
 unfold rcOk at hr
 have w1:IntKind.i64.wrap (r.top+r.height)=r.top+r.height:=wrap_sm (by omega) (by omega)
 have w2:IntKind.i64.wrap (r.left+r.width)=r.left+r.width:=wrap_sm (by omega) (by omega)
 obtain⟨d1,h1⟩:∃ q,decide (r.top<=i)=q:=⟨_,rfl⟩
 obtain⟨d2,h2⟩:∃ q,decide (i<r.top+r.height)=q:=⟨_,rfl⟩
 obtain⟨d3,h3⟩:∃ q,decide (r.left<=k)=q:=⟨_,rfl⟩
 obtain⟨d4,h4⟩:∃ q,decide (k<r.left+r.width)=q:=⟨_,rfl⟩
 have hw:inRc r i k=(d1&&d2&&d3&&d4):=by unfold inRc; rw[h1,h2,h3,h4]
 rw[hw]
 unfold rcL
 cases d1
 ·simp only[hx,h1,Tryz.results8,ruW,xF,ruU,entryE,Nat.reduceLT,Nat.reduceAdd,Nat.reduceEqDiff]
  exact Ax.Fin.pureE rfl rfl
 cases d2
 ·simp only[hx,h1,h2,w1,Tryz.results8,ruW,xF,ruU,entryE,Nat.reduceLT,Nat.reduceAdd,Nat.reduceEqDiff]
  exact Ax.Fin.pureE rfl rfl
 cases d3
 ·simp only[hx,h1,h2,h3,w1,Tryz.results8,ruW,xF,ruU,entryE,Nat.reduceLT,Nat.reduceAdd,Nat.reduceEqDiff]
  exact Ax.Fin.pureE rfl rfl
 ·simp only[hx,h1,h2,h3,h4,w1,w2,Tryz.results8,ruW,xF,ruU,entryE,Nat.reduceLT,Nat.reduceAdd,Nat.reduceEqDiff]
  exact Ax.Fin.pureE rfl rfl
def halfB (l:List Ce):Nat->Bool
 |0=>false
 |k+1=>match l[k]? with
  |some p=>wideB p
  |none=>false
structure OkAt (l:List Ce) (k:Nat) (c:Ce):Prop where
 col:colr c.look=true
 half:decide (c.rune=-1)=halfB l k
 same:∀ p,0<k->l[k-1]?=some p->halfB l k=true->c.look=p.look
 is:halfB l k=false->isR c.rune=true/\¬c.rune<32/\¬c.rune=127/\1<=widthR c.rune
 next:halfB l k=false->wideB c=true->k+1≠l.length
theorem cellsR_pos {c:Ce} (h:decide (cellsR c.rune=0)=false):isR c.rune=true/\¬c.rune<32/\¬c.rune=127/\1<=widthR c.rune/\cellsR c.rune=widthR c.rune/\decide (c.rune=-1)=false:=by
 have h:=of_decide_eq_false h
 unfold cellsR at h ⊢
 split at h
 ·exact absurd rfl h
 ·rename_i hc
  simp only[Bool.or_eq_true,decide_eq_true_eq,Bool.not_eq_true',not_or,Bool.not_eq_false]at hc
  rw[if_neg (by simp[hc])]
  refine⟨hc.2,hc.1.1,hc.1.2,by omega,rfl,decide_eq_false (by omega)⟩
theorem wideB_of {c:Ce} (h:decide (cellsR c.rune=0)=false):wideB c=decide (cellsR c.rune=2):=by
 obtain⟨_,h1,h2,_,h3,_⟩:=cellsR_pos h
 unfold wideB
 rw[h3,decide_eq_true (show 32<=c.rune by omega),decide_eq_true h2]
 rfl
theorem whole_ok:∀ (n:Nat) (l:List Ce),l.length<=n->wholeB l=true->∀ k c,l[k]?=some c->OkAt l k c
 |_,[],_,_,k,c,h=>by simp at h
 |0,_::_,hn,_,_,_,_=>by simp at hn
 |n+1,c::l,hn,hw,k,x,hk=>by
  rw[wholeB_cons]at hw
  split at hw
  ·cases hw
  ·rename_i h0
   simp only[Bool.or_eq_true,Bool.not_eq_true',not_or,Bool.not_eq_true,Bool.not_eq_false]at h0
   obtain⟨h0,hcol⟩:=h0
   have hwd:=wideB_of h0
   obtain⟨i1,i2,i3,i4,i5,i6⟩:=cellsR_pos h0
   split at hw
   ·rename_i h2
    cases l with
    |nil=>cases hw
    |cons d l' =>
     simp only[zA4,decide_eq_true_eq]at hw
     obtain⟨rfl,hw⟩:=hw
     rw[decide_eq_true h2]at hwd
     have hd:wideB (c.look.ce (-1))=false:=rfl
     match k,hk with
     |0,hk =>
      simp only[zC5,Option.some.injEq]at hk
      subst hk
      exact⟨hcol,i6,fun p h=>absurd h (by omega),fun _=>⟨i1,i2,i3,i4⟩,fun _ _=>by simp⟩
     |1,hk =>
      simp only[zD0,zC5,Option.some.injEq]at hk
      subst hk
      have hh:halfB (c::c.look.ce (-1)::l') 1=true:=hwd
      exact⟨hcol,by rw[hh]; rfl,fun p _ hp _=>by simp only[Nat.sub_self,zC5,Option.some.injEq]at hp; subst hp; rfl,(fun h=>by rw[hh]at h; cases h),(fun h=>by rw[hh]at h; cases h)⟩
     |k+2,hk =>
      simp only[zD0]at hk
      have ih:=whole_ok n l' (by simp only[zB0]at hn; omega) hw k x hk
      have hh:halfB (c::c.look.ce (-1)::l') (k+2)=halfB l' k:=by
       cases k with
       |zero=>exact hd
       |succ k=>rfl
      refine⟨ih.col,by rw[hh]; exact ih.half,fun p _ hp hq=>?_,fun h=>ih.is (hh▸h),fun h h3=>?_⟩
      ·cases k with
       |zero=>rw[hh]at hq; cases hq
       |succ k=>exact ih.same p (by omega) (by simpa using hp) (hh▸hq)
      ·have:=ih.next (hh▸h) h3
       simp only[zB0]
       omega
   ·rename_i h2
    rw[decide_eq_false h2]at hwd
    match k,hk with
    |0,hk =>
     simp only[zC5,Option.some.injEq]at hk
     subst hk
     exact⟨hcol,i6,fun p h=>absurd h (by omega),fun _=>⟨i1,i2,i3,i4⟩,(fun _ h=>by rw[hwd]at h; cases h)⟩
    |k+1,hk =>
     simp only[zD0]at hk
     have ih:=whole_ok n l (by simp only[zB0]at hn; omega) hw k x hk
     have hh:halfB (c::l) (k+1)=halfB l k:=by
      cases k with
      |zero=>exact hwd
      |succ k=>rfl
     refine⟨ih.col,by rw[hh]; exact ih.half,fun p _ hp hq=>?_,fun h=>ih.is (hh▸h),fun h h3=>?_⟩
     ·cases k with
      |zero=>rw[hh]at hq; cases hq
      |succ k=>exact ih.same p (by omega) (by simpa using hp) (hh▸hq)
     ·have:=ih.next (hh▸h) h3
      simp only[zB0]
      omega
instance:DecidableEq Lk:=fun a b=>decidable_of_iff (a.fore=b.fore/\a.back=b.back/\a.bold=b.bold/\a.under=b.under/\a.inv=b.inv) ⟨fun h=>by
 cases a; cases b
 simp only at h
 obtain⟨rfl,rfl,rfl,rfl,rfl⟩:=h
 rfl,fun h=>by subst h; simp⟩
theorem run_loadF {l:List Ce} {k:Nat} {c:Ce} {e:TypeId} {o:Bool} {L:List Value} {off:Nat} (hk:l[k]?=some c) (hle:off+l.length*6<=L.length) (h:(L.drop off).take (l.length*6)=csOf l):ldB Tryz.prog 3 (off+k*6) (some ⟨e,o,L⟩)=some (.int .i64 c.rune):=by
 have h1:=take_get l k c L off hk h
 have ag3:aggT Tryz.prog 3=some false:=by kernel_rfl
 have h2:=congrArg (fun q=>q[0]?) h1
 simp only[List.getElem?_take,List.getElem?_drop,zD3]at h2
 simp only[ldB,ag3]
 rw[if_pos (by decide)]at h2
 exact h2
theorem look_loadF {l:List Ce} {k:Nat} {c:Ce} {e:TypeId} {o:Bool} {L:List Value} {off:Nat} (hk:l[k]?=some c) (hle:off+l.length*6<=L.length) (h:(L.drop off).take (l.length*6)=csOf l):ldB Tryz.prog 41 (off+(k*6+1)) (some ⟨e,o,L⟩)=some c.look.val:=by
 have h1:=take_get l k c L off hk h
 have hlt:=(List.getElem?_eq_some_iff.1 hk).1
 have ag38:aggT Tryz.prog 41=some true:=by kernel_rfl
 have s38:szOf Tryz.prog 41=some 5:=by kernel_rfl
 rw[ld_agg ag38,s38,zA3,if_pos (by omega)]
 have h2:=congrArg (fun q=>(q.drop 1).take 5) h1
 simp only[List.drop_take,List.drop_drop,List.take_take]at h2
 rw[show off+(k*6+1)=off+k*6+1 by omega]
 have h3:(L.drop (off+k*6+1)).take 5=(c.cells.drop 1).take 5:=by
  rw[<-h2]
  rfl
 rw[h3]
 rfl
theorem fl38:flat Tryz.prog 10000 41=some [3,3,4,4,4]:=by kernel_rfl
theorem ag38f:aggT Tryz.prog 41=some true:=by kernel_rfl
theorem gd38:Tryz.prog.eqGuardType Tryz.prog.depth 41=false:=by kernel_rfl
theorem lk_eqL (r s:Lk):eqL (lkc r) (lkc s)=decide (r=s):=by
 cases r; cases s
 simp only[lkc,eqL,eq1,Lk.mk.injEq,Bool.and_true]
 simp only[Bool.decide_and]
 congr 1
theorem lk_fits (r:Lk):fits Tryz.prog [3,3,4,4,4] (lkc r)=true:=by
 cases r
 rfl
theorem lvalid_c (H:AHeap) (v:Value) (l:List Ce) (h:RowAt H v l) (hl:l.length<1000000) (hw:wholeB l=true):Pure 7 [v] H (.bool true):=by
 obtain⟨b,hb⟩:=Go.Ax.exq H.next
 have hok1:=whole_ok l.length l (zA8 _) hw
 refine callS_fn mixed Tryz.func7 rfl Tryz.ntmps7 (zB2 rfl) fun wf hsc=>?_
 have hok:=wf.base
 have u4:Tryz.prog.underlying 4=some .bool:=by kernel_rfl
 obtain⟨a1,c1,e1⟩:=h.sl
 rw[e1]
 simp only[ruW,ruU,entryE,Nat.reduceLT]
 rw[<-e1]
 refine w_env fun E hE=>?_
 have g0:E 0=v:=by rw[hE]; rfl
 have g3:E 3=.int .i64 ((0:Nat):Int):=by rw[hE]; rfl
 clear hE
 refine blockC_meet (fun E' H'=>Mod [] H H') ?_ ?_
 ·refine w_loop (fun (k:Nat) E' H'=>Mod [] H H'/\E' 0=v/\E' 3=.int .i64 (k:Int)/\k<=l.length) (fun k=>l.length-k) 0
   ⟨Mod.refl,g0,g3,zA9 _⟩ ?_
  clear g0 g3 E
  rintro k E X ⟨mX,g0,g3,hk⟩
  obtain⟨y,hy⟩:=Go.Ax.exq X.next
  have okX:=mX.ok hok
  have yb:X.base<=y:=hy▸okX
  rw[show X=ext X [] from rfl]
  by_cases hkl:k=l.length
  ·have hc:decide ((k:Int)<(l.length:Int))=false:=by simp[hkl]
   rw[e1]at g0
   simp only[g0,g3,hc,ruW,xF,ruU,Nat.reduceLT,Nat.reduceEqDiff]
   exact joinR_normal mX
  ·have hlt:k<l.length:=by omega
   have hc:decide ((k:Int)<(l.length:Int))=true:=decide_eq_true (by omega)
   rcases h with⟨h,_⟩|⟨_,n1,o1,s1,x1,t1,p1,L1,rfl,b1,n1l,le1,tk1⟩
   ·rw[h]at hlt; simp at hlt
   obtain⟨r1,hr1⟩:∃ r,l[k]?=some r:=⟨_,zA7 hlt⟩
   have ok1:=hok1 k r1 hr1
   have i1:=row_ia (n:=n1) (off:=o1) (s:=s1) (cap:=x1) (i:=(k:Int)) rfl hlt
   have q1:=run_loadF (e:=t1) (o:=p1) hr1 le1 tk1
   have q2:=look_loadF (e:=t1) (o:=p1) hr1 le1 tk1
   have q3:=row_load (e:=t1) (o:=p1) hr1 le1 tk1
   have b1X:rk X n1=some ⟨t1,p1,L1⟩:=(rk_get (mX.get n1 n1l (by simp))).trans b1
   have n1X:n1<y:=by have:=mX.next; omega
   obtain⟨Z,hZ⟩:=Go.Ax.exq (ext X [⟨41,false,lkc r1.look⟩])
   have mZ:Mod [] X Z:=hZ▸Mod.ext okX
   have nZ:Z.next=y+1:=by rw[<-hZ,ext_next,hy]; rfl
   have kZ:bk Z (y+0)=some ⟨41,false,lkc r1.look⟩:=by rw[<-hZ,bk_at hy (by simp)]; rfl
   have yz:y+0<y+1:=by omega
   have b1Z:rk Z n1=some ⟨t1,p1,L1⟩:=(rk_get (mZ.get n1 (by omega) (by simp))).trans b1X
   have n1Z:n1<y+1:=by omega
   have mZH:=mX.trans mZ
   have hws:=wrap_succ (show k<1000000 by omega)
   have zl:zeroOf Tryz.prog 41=some (.agg #[.int .i64 0,.int .i64 0,.bool false,.bool false,.bool false]):=by kernel_rfl
   obtain⟨tt,htt⟩:∃ q,halfB l k=q:=⟨_,rfl⟩
   generalize hr6:Code.seq (Code.region 6 _ _) _=r6
   unfold lkc at hZ kZ
   unfold Lk.val at q2
   unfold Ce.val at q3
   obtain⟨d0,h0⟩:∃ d,decide ((0:Int)<(k:Int))=d:=⟨_,rfl⟩
   generalize hr5:Code.region 5 _ _=r5
   simp only[g0,g3,hy,yb,hc,i1,b1X,n1X,q2,zl,qk_old,ruW,putL,Nat.reduceLeDiff,xF,ruU,Nat.reduceLT,Nat.reduceAdd,Nat.reduceEqDiff]
   rw[hZ,show Z=ext Z [] from rfl]
   refine w_env fun E2 hE=>?_
   have g0':E2 0=.slice (some ⟨n1,o1,s1⟩) l.length x1:=by rw[hE]; simp only[g0,ruU,Nat.reduceEqDiff]
   have g3':E2 3=.int .i64 (k:Int):=by rw[hE]; simp only[g3,ruU,Nat.reduceEqDiff]
   have g4':E2 4=.pointer (some ⟨y+0,0,none⟩):=by rw[hE]; simp only[ruU]
   clear hE
   refine w_meet (fun E' H'=>H'=ext Z []/\E' 0=.slice (some ⟨n1,o1,s1⟩) l.length x1/\E' 3=.int .i64 (k:Int)/\E' 4=.pointer (some ⟨y+0,0,none⟩)/\E' 5=.bool tt) ?_ ?_
   ·subst hr5
    cases k with
    |zero =>
     obtain rfl:tt=false:=htt.symm
     obtain rfl:false=d0:=by rw[<-h0]; decide
     simp only[g3',h0,ruW,ruU,Nat.reduceLT,Nat.reduceEqDiff]
     exact joinR_normal ⟨rfl,by simp only[g0',ruU,Nat.reduceEqDiff],by simp only[g3',ruU,Nat.reduceEqDiff],by simp only[g4',ruU,Nat.reduceEqDiff],by simp only[ruU]⟩
    |succ k' =>
     obtain rfl:true=d0:=by rw[<-h0]; exact (decide_eq_true (by omega)).symm
     obtain⟨r0,hr0⟩:∃ r,l[k']?=some r:=⟨_,zA7 (by omega)⟩
     have ht0:wideB r0=tt:=by rw[<-htt]; simp only[halfB,hr0]
     have i0:=row_ia (n:=n1) (off:=o1) (s:=s1) (cap:=x1) (len:=l.length) (i:=(k':Int)) rfl (by omega)
     have q0:=row_load (e:=t1) (o:=p1) hr0 le1 tk1
     unfold Ce.val at q0
     have wk:IntKind.i64.wrap (((k'+1:Nat):Int)-1)=(k':Int):=(wrap_sm (n:=((k'+1:Nat):Int)-1) (by omega) (by omega)).trans (by omega)
     have hwi:=wide_c Z r0
     rw[ht0]at hwi
     simp only[g0',g3',h0,nZ,wk,i0,b1Z,n1Z,q0,qk_old,ruW,xF,ruU,Nat.reduceLT,Nat.reduceEqDiff]
     refine CallS.to (show Pure 23 _ (ext Z []) _ from hwi) ?_
     simp only[ruW,ruU,Nat.reduceLT,Nat.reduceEqDiff]
     exact joinR_normal ⟨rfl,by simp only[g0',ruU,Nat.reduceEqDiff],by simp only[g3',ruU,Nat.reduceEqDiff],by simp only[g4',ruU,Nat.reduceEqDiff],by simp only[ruU]⟩
   clear g0' g3' g4' g0 g3 E2 E
   rintro E X1 ⟨hX1,g0,g3,g4,g5⟩
   rw[hX1]
   subst hr6
   have hcol:=ok1.col
   unfold colr at hcol
   simp only[zA4,decide_eq_true_eq]at hcol
   have z1:decide (r1.look.fore<0)=false:=decide_eq_false (by omega)
   have z2:decide (256<r1.look.fore)=false:=decide_eq_false (by omega)
   have z3:decide (r1.look.back<0)=false:=decide_eq_false (by omega)
   have z4:decide (256<r1.look.back)=false:=decide_eq_false (by omega)
   have hhf:=ok1.half
   rw[htt]at hhf
   have z5:decide (¬tt=tt)=false:=by simp
   have hN:∀ i:Decidable False,@decide False i=false:=fun i=>by simp
   generalize hr8:Code.seq (Code.region 8 _ _) _=r8
   refine w_meet (fun E' H'=>H'=ext Z []/\E' 0=.slice (some ⟨n1,o1,s1⟩) l.length x1/\E' 3=.int .i64 (k:Int)/\E' 5=.bool tt) ?_ ?_
   ·rw[w_seq]
    refine w_drawB [] [(3,30),(8,35),(13,40),(18,45),(28,55),(30,57)] (by kernel_rfl) (by kernel_rfl) (by kernel_rfl) fun ops anc hA hG=>?_
    simp only[all2_cons]at hG
    cases tt with
    |false =>
     simp only[g0,g3,g4,g5,nZ,kZ,yz,z1,z2,z3,z4,i1,b1Z,n1Z,q1,hG,u4,hhf,hN,qk_old,ruD,ruW,xF,ruU,Nat.reduceLT,Nat.reduceAdd,Nat.reduceEqDiff]
     exact joinR_normal ⟨rfl,by simp only[g0,ruU,Nat.reduceEqDiff],by simp only[g3,ruU,Nat.reduceEqDiff],by simp only[g5,ruU,Nat.reduceEqDiff]⟩
    |true =>
     cases k with
     |zero=>cases htt
     |succ k' =>
      obtain⟨r0,hr0⟩:∃ r,l[k']?=some r:=⟨_,zA7 (by omega)⟩
      have hlk:=ok1.same r0 (by omega) (by simpa using hr0) htt
      have i0:=row_ia (n:=n1) (off:=o1) (s:=s1) (cap:=x1) (len:=l.length) (i:=(k':Int)) rfl (by omega)
      have q0:=look_loadF (e:=t1) (o:=p1) hr0 le1 tk1
      unfold Lk.val at q0
      have wk:IntKind.i64.wrap (((k'+1:Nat):Int)-1)=(k':Int):=(wrap_sm (n:=((k'+1:Nat):Int)-1) (by omega) (by omega)).trans (by omega)
      simp only[g0,g3,g4,g5,nZ,kZ,yz,z1,z2,z3,z4,i1,i0,wk,b1Z,n1Z,q1,q0,hG,u4,hhf,hN,qk_old,ruD,ruW,Nat.reduceLeDiff,xF,ruU,Nat.reduceLT,Nat.reduceAdd,Nat.reduceEqDiff]
      refine wd_eqS (ts:=[3,3,4,4,4]) (xs:=lkc r1.look) (ys:=lkc r0.look) (r:=false) fl38 ag38f gd38 (by rw[lk_eqL,hlk,decide_eq_true rfl]; rfl) rfl rfl (by decide) (by simp only[ruU,Nat.reduceEqDiff]; rfl) (by simp only[ruU]; rfl) (lk_fits _) (lk_fits _) ?_
      simp only[hG,ruD,ruW,ruU,Nat.reduceLT,Nat.reduceAdd,Nat.reduceEqDiff]
      exact joinR_normal ⟨rfl,by simp only[g0,ruU,Nat.reduceEqDiff],by simp only[g3,ruU,Nat.reduceEqDiff],by simp only[g5,ruU,Nat.reduceEqDiff]⟩
   ·clear g0 g3 g4 g5 E
    rintro E X2 ⟨hX2,g0,g3,g5⟩
    rw[hX2]
    subst hr8
    cases tt with
    |true =>
     simp only[g3,g5,hws,ruW,ruU,Nat.reduceLT,Nat.reduceEqDiff]
     exact loopC_next ⟨k+1,by omega,mZH,by simp only[g0,ruU,Nat.reduceEqDiff],by simp only[ruU],by omega⟩
    |false =>
     obtain⟨is1,is2,is3,is4⟩:=ok1.is htt
     have c32:decide (r1.rune<32)=false:=decide_eq_false is2
     have c127:decide (r1.rune=127)=false:=decide_eq_false is3
     have cw:decide ((widthR r1.rune:Int)<1)=false:=decide_eq_false (by omega)
     have hc1:=is_c Z r1.rune
     have hc2:=width_c Z r1.rune
     have hc3:=wide_c Z r1
     rw[is1]at hc1
     obtain⟨wd,hwd⟩:∃ q,wideB r1=q:=⟨_,rfl⟩
     rw[hwd]at hc3
     simp only[g0,g3,g5,nZ,i1,b1Z,n1Z,q1,qk_old,ruW,xF,ruU,Nat.reduceLT,Nat.reduceEqDiff]
     refine CallS.to (show Pure 24 _ (ext Z []) _ from hc1) ?_
     simp only[g0,g3,nZ,i1,b1Z,n1Z,q1,c32,c127,qk_old,ruW,xF,ruU,Nat.reduceLT,Nat.reduceEqDiff]
     refine CallS.to (show Pure 25 _ (ext Z []) _ from hc2) ?_
     simp only[g0,g3,nZ,i1,b1Z,n1Z,q3,cw,qk_old,ruW,xF,ruU,Nat.reduceLT,Nat.reduceEqDiff]
     refine CallS.to (show Pure 23 _ (ext Z []) _ from hc3) ?_
     cases wd with
     |false =>
      simp only[g3,hws,ruW,ruU,Nat.reduceLT,Nat.reduceEqDiff]
      exact loopC_next ⟨k+1,by omega,mZH,by simp only[g0,ruU,Nat.reduceEqDiff],by simp only[ruU],by omega⟩
     |true =>
      have hne:decide (((k+1:Nat):Int)=(l.length:Int))=false:=decide_eq_false (by have:=ok1.next htt hwd; omega)
      simp only[g0,g3,hws,hne,ruW,xF,ruU,Nat.reduceLT,Nat.reduceEqDiff]
      exact loopC_next ⟨k+1,by omega,mZH,by simp only[g0,ruU,Nat.reduceEqDiff],by simp only[ruU],by omega⟩
 ·rintro E H' hH
  rw[show H'=ext H' [] from rfl]
  simp only[Tryz.results7,ruW,ruU,Nat.reduceLT]
  exact Ax.Fin.mod rfl hH rfl
structure SubH (H G:AHeap):Prop where
 next:G.next=H.next
 get:∀ n,n<H.next->H.get n≠none->G.get n=H.get n
structure ScR (N:Nat) (H:AHeap) (v:Value) (rvs:List Value) (W:Nat) (g:List (List Ce)):Prop where
 own:OwnG N H v rvs g
 wd:∀ l∈g,l.length=W
structure SvR (x N:Nat) (H:AHeap) (s:Nat) (v:Value) (rvs:List Value) (W:Nat) (g:List (List Ce)) (rw cl:Int):Prop where
 at_:bk H s=some ⟨30,false,[v,.int .i64 rw,.int .i64 cl]⟩
 lt:s<H.next
 xs:x<=s
 xN:x<=N
 nx:N<=H.next
 ns:s∉idsV v++rvs.flatMap idsV
 sc:ScR N H v rvs W g
def resE (f:Fr):Int:=if frE f≠0 then frE f else if ((drawG f).any fun l=>!wholeB l)=true then 5 else 0
def resG (f:Fr):List (List Ce):=if frE f≠0 then [] else if ((drawG f).any fun l=>!wholeB l)=true then [] else drawG f
def resC (f:Fr):Int × Int:=if frE f≠0 then (0,0) else if ((drawG f).any fun l=>!wholeB l)=true then (0,0) else drawC f
theorem ownNil {N:Nat} {X:AHeap}:OwnG N X (.slice none 0 0) [] []:=⟨rfl,.inl ⟨rfl,rfl⟩,fun i rv l h=>by simp at h,by simp⟩
theorem DrO.see {H X:AHeap} {f:Fr} {out:Out} (h:DrO H f out X):Mod [] H X/\∃ N v rvs,H.next<=N/\OwnG N X v rvs (resG f)/\out=.ok (.tuple #[.agg #[v,.int .i64 (resC f).1,.int .i64 (resC f).2],.int .i64 (resE f)])/\(resG f).length<=200/\∀ l∈resG f,l.length<=1000:=by
 obtain⟨m,h⟩:=h
 refine⟨m,?_⟩
 unfold resG resC resE
 by_cases h1:frE f≠0
 ·simp only[if_pos h1]at h ⊢
  exact⟨_,_,[],zA8 _,ownNil,h,by simp,fun l hl=>by simp at hl⟩
 ·simp only[if_neg h1]at h ⊢
  by_cases h2:((drawG f).any fun l=>!wholeB l)=true
  ·simp only[if_pos h2]at h ⊢
   exact⟨_,_,[],zA8 _,ownNil,h,by simp,fun l hl=>by simp at hl⟩
  ·simp only[if_neg h2]at h ⊢
   obtain⟨N,v,rvs,a,b,c,d,e⟩:=h
   exact⟨N,v,rvs,a,b,c,d,e⟩
def cellG (g:List (List Ce)) (i k:Nat):Option Ce:=(g[i]?).bind fun q=>q[k]?
structure Keeps (W:Nat) (g g':List (List Ce)) (A:Nat->Nat->Prop):Prop where
 len:g'.length=g.length
 wd:∀ q∈g',q.length=W
 keep:∀ i k,¬A i k->cellG g' i k=cellG g i k
theorem Keeps.trans {W:Nat} {g g1 g2:List (List Ce)} {A B:Nat->Nat->Prop} (h:Keeps W g g1 A) (h2:Keeps W g1 g2 B):Keeps W g g2 (fun i k=>A i k\/B i k) :=
 ⟨h2.len.trans h.len,h2.wd,fun i k hn=>(h2.keep i k fun hb=>hn (.inr hb)).trans (h.keep i k fun ha=>hn (.inl ha))⟩
theorem Keeps.mono {W:Nat} {g g1:List (List Ce)} {A B:Nat->Nat->Prop} (h:Keeps W g g1 A) (hi:∀ i k,A i k->B i k):Keeps W g g1 B :=
 ⟨h.len,h.wd,fun i k hn=>h.keep i k fun ha=>hn (hi i k ha)⟩
theorem overR_get {q l:List Ce} {col k:Nat} (hc:col+l.length<=q.length) (hn:¬(col<=k/\k<col+l.length)):(overR q col l)[k]?=q[k]?:=by
 have e:(q.take col).length=col:=by rw[zE3]; omega
 unfold overR
 rcases zB6 k col with h|h
 ·rw[List.append_assoc,List.getElem?_append_left (by omega),List.getElem?_take,if_pos h]
 ·rw[List.getElem?_append_right (by rw[zC8]; omega),zC8,e,List.getElem?_drop]
  congr 1
  omega
theorem keeps_put {W row col:Nat} {g:List (List Ce)} {l:List Ce} (h:∀ q∈g,q.length=W) (hc:col+l.length<=W):Keeps W g (putG g row col l) (fun i k=>i=row/\col<=k/\k<col+l.length):=by
 refine⟨putG_len,fun q hq=>?_,fun i k hn=>?_⟩
 ·rcases zB6 row g.length with hr|hr
  ·rw[putG_get (zA7 hr)]at hq
   rcases List.mem_or_eq_of_mem_set hq with hq|rfl
   ·exact h q hq
   ·have:=h _ (List.getElem_mem hr)
    rw[overR_len (by omega),this]
  ·unfold putG at hq
   rw[List.set_eq_of_length_le hr]at hq
   exact h q hq
 ·unfold cellG
  rcases zB6 row g.length with hr|hr
  ·rw[putG_get (zA7 hr)]
   by_cases hi:i=row
   ·subst hi
    rw[List.getElem?_set_self hr,zA7 hr]
    have:=h _ (List.getElem_mem hr)
    exact overR_get (by omega) (fun hk=>hn ⟨rfl,hk⟩)
   ·rw[List.getElem?_set_ne (fun h=>hi h.symm)]
  ·unfold putG
   rw[List.set_eq_of_length_le hr]
theorem keeps_rows {W col n:Nat} (hc:col+n<=W):∀ (ls:List (List Ce)) (g:List (List Ce)) (row:Nat),(∀ q∈g,q.length=W)->(∀ l∈ls,l.length<=n)->Keeps W g (putRows g row col ls) (fun i k=>row<=i/\i<row+ls.length/\col<=k/\k<col+n)
 |[],g,row,h,_=>⟨rfl,h,fun _ _ _=>rfl⟩
 |l::ls,g,row,h,hl=>by
  have hn:=hl l (by simp)
  have k1:=keeps_put (row:=row) (col:=col) (l:=l) h (by omega)
  have k2:=keeps_rows hc ls (putG g row col l) (row+1) k1.wd fun q hq=>hl q (by simp[hq])
  refine (k1.trans k2).mono fun i k hik=>?_
  simp only[zB0]
  omega
theorem inRc_iff {r:Rc} {i k:Int}:inRc r i k=true ↔ r.top<=i/\i<r.top+r.height/\r.left<=k/\k<r.left+r.width:=by
 unfold inRc
 simp only[zA4,decide_eq_true_eq,and_assoc]
theorem fitR_length (w:Nat) (k:Lk) (l:List Int):(fitR w k l).length=w:=by
 have:=grd_len w k l [] (zA9 _)
 rw[fitR,zC8,zD2]
 omega
theorem strG_le (w:Nat) (k:Lk) (s:ByteArray):(strG w k s).length<=w:=by
 unfold strG
 split
 ·exact Nat.le_of_eq (fitR_length _ _ _)
 ·exact zA9 _
theorem keeps_pane {h W:Nat} {g:List (List Ce)} {p:Pn} (hg:∀ q∈g,q.length=W) (ok:PnOk h W p):Keeps W g (paneG g p) (fun i k=>inRc p.rect i k=true):=by
 have o1:=ok.top; have o2:=ok.left; have o3:=ok.height; have o4:=ok.width; have o5:=ok.lw
 have k1:=keeps_rows (W:=W) (col:=p.rect.left.toNat) (n:=p.rect.width.toNat) (by omega) ((p.rows.take (p.rect.height-1).toNat).map Rw.cells) g p.rect.top.toNat hg (fun l hl=>by
  obtain⟨r,hr,rfl⟩:=zE0.1 hl
  have:=ok.rows r hr
  omega)
 have hs:=strG_le p.rect.width.toNat p.look p.mode
 have k2:=keeps_put (row:=(p.rect.top+p.rect.height-1).toNat) (col:=p.rect.left.toNat) (l:=strG p.rect.width.toNat p.look p.mode) k1.wd (by omega)
 refine (k1.trans k2).mono fun i k hik=>?_
 have hl:((p.rows.take (p.rect.height-1).toNat).map Rw.cells).length<=(p.rect.height-1).toNat:=by rw[List.length_map,zE3]; omega
 rw[inRc_iff]
 omega
theorem keeps_bar {h W:Nat} {g:List (List Ce)} {r:Rc} (hg:∀ q∈g,q.length=W) (ok:insR h W r=true):Keeps W g (barG g r) (fun i k=>inRc r i k=true):=by
 unfold insR at ok
 simp only[zA4,decide_eq_true_eq]at ok
 have k1:=keeps_rows (W:=W) (col:=r.left.toNat) (n:=r.width.toNat) (by omega) (List.replicate r.height.toNat (List.replicate r.width.toNat ⟨124,0,0,false,false,false⟩)) g r.top.toNat hg (fun l hl=>by
  rw[List.eq_of_mem_replicate hl,zD2]
  exact zA8 _)
 refine k1.mono fun i k hik=>?_
 rw[zD2]at hik
 rw[inRc_iff]
 omega
theorem keeps_fold {α:Type} {W:Nat} {F:List (List Ce)->α->List (List Ce)} {A:α->Nat->Nat->Prop}:∀ (l:List α) (g:List (List Ce)),(∀ q∈g,q.length=W)->(∀ a∈l,∀ g,(∀ q∈g,q.length=W)->Keeps W g (F g a) (A a))->Keeps W g (l.foldl F g) (fun i k=>∃ a∈l,A a i k)
 |[],g,hg,_=>⟨rfl,hg,fun _ _ _=>rfl⟩
 |a::l,g,hg,h=>by
  have k1:=h a (by simp) g hg
  have k2:=keeps_fold l (F g a) k1.wd fun b hb=>h b (by simp[hb])
  rw[List.foldl_cons]
  refine (k1.trans k2).mono fun i k hik=>?_
  rcases hik with h|⟨b,hb,h⟩
  ·exact⟨a,by simp,h⟩
  ·exact⟨b,by simp[hb],h⟩
theorem FrOk.pn {f:Fr} (ok:FrOk f) {p:Pn} (hp:p∈f.panes):PnOk f.height.toNat f.width.toNat p:=by
 have:=ok.h1; have:=ok.w1
 refine pnOk_of ?_
 rw[show ((f.height.toNat:Nat):Int)=f.height by omega,show ((f.width.toNat:Nat):Int)=f.width by omega]
 exact pnsE_mem f.panes ok.panes p hp
theorem FrOk.br {f:Fr} (ok:FrOk f) {r:Rc} (hr:r∈f.bars):insR (f.height.toNat:Nat) (f.width.toNat:Nat) r=true:=by
 have:=ok.h1; have:=ok.w1
 rw[show ((f.height.toNat:Nat):Int)=f.height by omega,show ((f.width.toNat:Nat):Int)=f.width by omega]
 exact ok.bars r hr
theorem draw_law {f:Fr} (ok:FrOk f):(drawG f).length=f.height.toNat/\(∀ q∈drawG f,q.length=f.width.toNat) /\
  ∀ i k:Nat,i+1<f.height.toNat->k<f.width.toNat->(∀ p∈f.panes,inRc p.rect i k=false)->(∀ r∈f.bars,inRc r i k=false)->cellG (drawG f) i k=some spC:=by
 have h1:=ok.h1
 have hb:∀ q∈List.replicate f.height.toNat (List.replicate f.width.toNat spC),q.length=f.width.toNat:=fun q hq=>by rw[List.eq_of_mem_replicate hq,zD2]
 have k1:=keeps_fold (F:=paneG) (A:=fun p i k=>inRc p.rect i k=true) f.panes _ hb fun p hp g hg=>keeps_pane hg (ok.pn hp)
 have k2:=keeps_fold (F:=barG) (A:=fun r i k=>inRc r i k=true) f.bars _ k1.wd fun r hr g hg=>keeps_bar hg (ok.br hr)
 have hs:=strG_le f.width.toNat ⟨0,0,false,false,false⟩ ⟨(echoR f.echo.data.toList).toArray⟩
 have k3:=keeps_put (row:=(f.height-1).toNat) (col:=0) (l:=strG f.width.toNat ⟨0,0,false,false,false⟩ ⟨(echoR f.echo.data.toList).toArray⟩) k2.wd (by omega)
 have k4:=(k1.trans k2).trans k3
 refine⟨k4.len.trans (zD2 ..),k4.wd,fun i k hi hk hp hr=>?_⟩
 refine (k4.keep i k ?_).trans ?_
 ·rintro ((⟨p,hpm,h⟩|⟨r,hrm,h⟩)|h)
  ·rw[hp p hpm]at h; cases h
  ·rw[hr r hrm]at h; cases h
  ·omega
 ·unfold cellG
  rw[List.getElem?_replicate,if_pos (by omega),zA3,List.getElem?_replicate,if_pos hk]
theorem curG_law {h W:Nat} (hW:0<W) (hh:2<=h):∀ ps:List Pn,(∀ p∈ps,PnOk h W p)->-1<=(curG ps).1/\(curG ps).1<h/\0<=(curG ps).2/\(curG ps).2<W
 |[],_=>by simp only[curG]; omega
 |p::ps,hp=>by
  have ok:=hp p (by simp)
  have o1:=ok.top; have o2:=ok.left; have o3:=ok.row; have o4:=ok.rowh; have o5:=ok.col; have o6:=ok.th; have o7:=ok.lw
  rw[curG]
  split
  ·rename_i hc
   have:=o5 hc.2
   simp only
   omega
  ·exact curG_law hW hh ps fun q hq=>hp q (by simp[hq])
theorem drawC_law {f:Fr} (ok:FrOk f):-1<=(drawC f).1/\(drawC f).1<f.height/\0<=(drawC f).2/\(drawC f).2<f.width:=by
 have h1:=ok.h1; have w1:=ok.w1; have e1:=ok.e1; have e2:=ok.e2
 unfold drawC
 split
 ·simp only; omega
 ·have:=curG_law (h:=f.height.toNat) (W:=f.width.toNat) (by omega) (by omega) f.panes fun p hp=>ok.pn hp
  omega
end Go.Proofs.YtfpckllenkifkaaGreatDoor
