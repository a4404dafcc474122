/- Parts of the proof, one behind the other. -/
import Derived.Test.YtpohjcacnkhnkaaGreatDoorM7
import Derived.Test.YtpohjcacnkhnkaaGreatDoorM4
import Derived.Test.YtpohjcacnkhnkaaGreatDoorM3
import Derived.Test.YtpohjcacnkhnkaaGreatDoorM6
import Derived.SizedLaws
import Derived.Test.YtpohjcacnkhnkaaGreatDoorRows
import Derived.ProofKit
import Derived.Carry
import Derived.OpenShut
import Derived.LaidMore
import Derived.Lay
set_option linter.all false
set_option maxRecDepth 10000
set_option maxHeartbeats 16000000
open And renaming intro -> zA0
open Option renaming bind_eq_bind -> zA1, bind_eq_some_iff -> zA2, bind_some -> zA3, map_some -> zA9, map_eq_some_iff -> zB3
open Bool renaming and_eq_true -> zA4, false_eq_true -> zC4, not_true -> zE0, and_self -> zE3, not_false -> zG2
open List renaming mem_singleton -> zA5, mem_cons -> zA7, length_cons -> zB0, getElem?_eq_getElem -> zB1, mem_append -> zB2, length_append -> zB4, mem_map -> zB5, length_nil -> zB6, mem_of_getElem? -> zB9, map_cons -> zC0, nil_append -> zC1, getElem?_eq_none -> zC5, all_eq_true -> zC6, mem_cons_of_mem -> zC7, getD_eq_getElem?_getD -> zC8, nodup_cons -> zC9, append_nil -> zD0, drop_zero -> zD1, not_mem_nil -> zD2, append_assoc -> zD3, nodup_append -> zD4, take_of_length_le -> zD6, length_map -> zD7, length_drop -> zD8, mem_flatMap -> zE2, length_replicate -> zE4, mem_cons_self -> zE5, cons_append -> zE7, eq_nil_of_length_eq_zero -> zE9, getElem?_map -> zF0, drop_eq_nil_of_le -> zF1, length_set -> zF3, map_nil -> zF4, getElem?_cons_zero -> zF5, mem_of_mem_take -> zF6, mem_of_mem_drop -> zF9, mem_range -> zG0, getElem?_eq_some_iff -> zG1, drop_drop -> zG3, getElem?_cons_succ -> zG4, getElem_mem -> zG7, take_append_drop -> zG8
open Nat renaming le_of_ble_eq_true -> zA6, le_refl -> zA8, zero_le -> zB7, zero_add -> zB8, lt_or_ge -> zC2, le_trans -> zC3, lt_of_lt_of_le -> zD5, lt_succ_self -> zD9, add_zero -> zE1, ble_eq -> zE6, mul_one -> zE8, min -> zF2, zero_mul -> zF7, add_sub_cancel_left -> zF8, sub_self -> zG5
open Int renaming toNat_natCast -> zG6

namespace Go.Proofs.YtpohjcacnkhnkaaGreatDoor
open Go.Ax
def St.move (W:Nat) (x:St) (o:Op):Option St:=if (decide (0<=o.row)&&decide (o.row<x.ah.length)&&decide (0<=o.col)&&decide (o.col<W))=true then some {x with row:=o.row,col:=o.col} else none
def St.look (x:St) (o:Op):Option St:=if mh o.look=true then some {x with pen:=o.look} else none
theorem Bj (W:Nat) (r:List UInt8->Option (List Int)) (x:St) (o:Op):x.pY W r o =
  if o.kind=1 then x.move W o else if o.kind=2 then x.look o else if o.kind=3 then x.text W (r o.text.data.toList) else if o.kind=4 then x.clear W else if o.kind=5 then x.fN W o true else if o.kind=6 then x.fN W o false
  else if o.kind=7 then some {x with shown:=true} else if o.kind=8 then some {x with shown:=false} else none:=by
 unfold St.pY St.move St.look St.text St.clear St.fN
 by_cases h5:o.kind=5
 ·simp[h5]
 ·by_cases h6:o.kind=6
  ·simp[h6]
  ·simp only[h5,h6,or_self,if_false]
   all_goals by_cases h3:o.kind=3
   all_goals try simp[h3]
   all_goals (cases r o.text.data.toList<;>rfl)
theorem yp (pen:Lk):∀ (cs:List Int) (l:List Ce) (k:Nat),(e7 pen cs l k).1.length=l.length
 |[],_,_=>rfl
 |c::cs,l,k=>by rw[e7,yp pen cs,CC]
theorem w9 (pen:Lk) (W:Nat):∀ (cs:List Int) (l:List Ce) (k:Nat),St.fits W cs (k:Int)=true->k<=W->(e7 pen cs l k).2<=W
 |[],_,_,_,h=>h
 |c::cs,l,k,hf,_=>by
  obtain⟨_,h2,h3⟩:=mj hf
  rw[e7]
  refine w9 pen W cs _ _ ?_ (by omega)
  rw[show ((k+aR c:Nat):Int)=(k:Int)+(aR c:Int) by omega]
  exact h3
theorem yF:∀ (n:Nat) (l:List Ce) (k:Nat),(eV l k n).length=l.length
 |0,_,_=>rfl
 |n+1,l,k=>by rw[eV,yF n,fJ]
theorem St.Ok.row {x:St} {W:Nat} (ok:x.Ok W):(x.ah.getD x.row.toNat []).length=W:=by
 have h0:=ok.row0
 have h1:=ok.row1
 have h2:x.row.toNat<x.ah.length:=by omega
 rw[zC8,zB1 h2,Option.getD_some]
 exact ok.wid _ (zG7 _)
theorem vW {W:Nat} {x y:St} {o:Op} {r:List UInt8->Option (List Int)} (ok:x.Ok W) (h:x.pY W r o=some y):y.Ok W:=by
 have setrow:∀ l:List Ce,l.length=W->∀ c:Int,0<=c->c<=W->St.Ok {x with ah:=x.ah.set x.row.toNat l,col:=c} W:=fun l hl c c0 c1=>by
  have:=ok.setRow (i:=x.row.toNat) hl
  exact⟨this.h1,this.h2,this.w1,this.w2,this.wid,this.row0,this.row1,c0,c1⟩
 rw[Bj]at h
 split at h
 ·unfold St.move at h
  split at h
  ·rename_i hh
   simp only[zA4,decide_eq_true_eq]at hh
   obtain rfl:=Option.some.inj h
   exact⟨ok.h1,ok.h2,ok.w1,ok.w2,ok.wid,hh.1.1.1,hh.1.1.2,hh.1.2,by show o.col<=W; omega⟩
  ·cases h
 split at h
 ·unfold St.look at h
  split at h
  ·obtain rfl:=Option.some.inj h
   exact⟨ok.h1,ok.h2,ok.w1,ok.w2,ok.wid,ok.row0,ok.row1,ok.col0,ok.col1⟩
  ·cases h
 split at h
 ·unfold St.text at h
  split at h
  ·cases h
  ·rename_i l _
   split at h
   ·rename_i hf
    obtain rfl:=Option.some.inj h
    have c0:=ok.col0
    have c1:=ok.col1
    refine setrow _ (by rw[yp]; exact ok.row) _ (by omega) ?_
    have:=w9 x.pen W l (x.ah.getD x.row.toNat []) x.col.toNat (by rw[show ((x.col.toNat:Nat):Int)=x.col by omega]; exact hf) (by omega)
    omega
   ·cases h
 split at h
 ·unfold St.clear at h
  split at h
  ·obtain rfl:=Option.some.inj h
   exact setrow _ (by rw[yF]; exact ok.row) x.col ok.col0 ok.col1
  ·cases h
 have fN:∀ up,x.fN W o up=some y->y.Ok W:=fun up h=>by
  unfold St.fN at h
  split at h
  ·rename_i hh
   simp only[zA4,decide_eq_true_eq]at hh
   obtain rfl:=Option.some.inj h
   rw[Ak]
   have hl:(glue up x.ah (List.replicate o.n.toNat (List.replicate W Ce.sp)) o.row.toNat o.col.toNat o.n.toNat).length=x.ah.length:=mR (by omega) (by omega) (by omega) zE4
   refine⟨?_,?_,ok.w1,ok.w2,fun l hl=>?_,ok.row0,?_,ok.col0,ok.col1⟩
   ·simp only[hl]; exact ok.h1
   ·simp only[hl]; exact ok.h2
   ·rcases sa hl with h|h
    ·exact ok.wid l h
    ·rw[List.eq_of_mem_replicate h,zE4]
   ·simp only[hl]; exact ok.row1
  ·cases h
 split at h
 ·exact fN true h
 split at h
 ·exact fN false h
 split at h
 ·obtain rfl:=Option.some.inj h
  exact⟨ok.h1,ok.h2,ok.w1,ok.w2,ok.wid,ok.row0,ok.row1,ok.col0,ok.col1⟩
 split at h
 ·obtain rfl:=Option.some.inj h
  exact⟨ok.h1,ok.h2,ok.w1,ok.w2,ok.wid,ok.row0,ok.row1,ok.col0,ok.col1⟩
 ·cases h
theorem LJ {W:Nat} {r:List UInt8->Option (List Int)}:∀ (l:List Op) (k i:Nat) (x y:St) (o:Op),l[k]?=some o->x.pY W r o=some y->St.all W r (l.drop k) i x=St.all W r (l.drop (k+1)) (i+1) y:=fun l k i x y o ho hd=>by
 have hk:=(zG1.1 ho).1
 rw[List.drop_eq_getElem_cons hk,St.all]
 rw[zB1 hk]at ho
 rw[Option.some.inj ho,hd]
theorem Eb {W:Nat} {r:List UInt8->Option (List Int)}:∀ (l:List Op) (k i:Nat) (x:St) (o:Op),l[k]?=some o->x.pY W r o=none->St.all W r (l.drop k) i x=.inr i:=fun l k i x o ho hd=>by
 have hk:=(zG1.1 ho).1
 rw[List.drop_eq_getElem_cons hk,St.all]
 rw[zB1 hk]at ho
 rw[Option.some.inj ho,hd]
def jc:List Ce->Bool
 |[]=>true
 |c::l=>if (decide (aR c.rune=0)||!mh c.look)=true then false else
   if aR c.rune=2 then (match l with|[]=>false|d::l'=>decide (d=c.look.ce (-1))&&jc l') else jc l
theorem C7 (c : Ce) (l : List Ce) : jc (c :: l) = if (decide (aR c.rune = 0) || !mh c.look) = true then false else
   if aR c.rune=2 then (match l with|[]=>false|d::l'=>decide (d=c.look.ce (-1))&&jc l') else jc l:=by
 cases l<;>first|rfl|rw[jc]
theorem J1 (H:aa) (v:Value) (l:List Ce) (h:eQ H v l) (hl:l.length<1000000):Pure 75 [v] H (.bool (jc l)):=by
 obtain⟨b,hb⟩:=Go.Ax.bP H.next
 obtain⟨B,hB⟩:=Go.Ax.bP (jc l)
 rw[hB]
 refine bJ mixed Tryz.func75 rfl Tryz.ntmps75 (zA6 rfl) fun wf hsc=>?_
 obtain⟨a1,c1,e1⟩:=h.sl
 rw[e1]
 simp only[zW,Nat.reduceLT]
 rw[<-e1]
 refine eT fun E hE=>?_
 have g0:E 0=v:=by rw[hE]; rfl
 have g3:E 3=.int .i64 ((0:Nat):Int):=by rw[hE]; rfl
 clear hE
 refine bE (fun E' H'=>H'=ext H []/\B=true) ?_ ?_
 ·refine cU (fun (k:Nat) E' H'=>H'=ext H []/\E' 0=v/\E' 3=.int .i64 (k:Int)/\k<=l.length/\jc (l.drop k)=B) (fun k=>l.length-k) 0
   ⟨rfl,g0,g3,zB7 _,hB⟩ ?_
  clear g0 g3
  rintro k E H' ⟨hH,g0,g3,hk,hi⟩
  rw[hH]
  by_cases hkl:k=l.length
  ·have hc:decide ((k:Int)<(l.length:Int))=false:=by simp[hkl]
   rw[e1]at g0
   simp only[g0,g3,hc,zW,Nat.reduceLT,Nat.reduceEqDiff]
   rw[zF1 (by omega),jc]at hi
   exact aj ⟨rfl,hi.symm⟩
  ·have hlt:k<l.length:=by omega
   have hc:decide ((k:Int)<(l.length:Int))=true:=decide_eq_true (by omega)
   rcases h with⟨h,_⟩|⟨_,n1,o1,s1,x1,t1,p1,L1,rfl,b1,n1l,le1,tk1⟩
   ·rw[h]at hlt; simp at hlt
   obtain⟨r1,hr1⟩:∃ r,l[k]?=some r:=⟨_,zB1 hlt⟩
   have i1:=iG (n:=n1) (off:=o1) (s:=s1) (cap:=x1) (i:=(k:Int)) rfl hlt
   have q1:=run_load (e:=t1) (o:=p1) hr1 le1 tk1
   have q2:=I9 (e:=t1) (o:=p1) hr1 le1 tk1
   rw[hb]at n1l
   have hdr:l.drop k=r1::l.drop (k+1):=by
    rw[List.drop_eq_getElem_cons hlt]
    rw[zB1 hlt]at hr1
    rw[Option.some.inj hr1]
   rw[hdr,C7]at hi
   obtain⟨m,hm⟩:=Go.Ax.bP (aR r1.rune)
   obtain⟨cl,hcl⟩:∃ x,mh r1.look=x:=⟨_,rfl⟩
   have hm3:=nC r1.rune
   have hcs:=sL (ext H []) r1.rune
   have hco:=rP (ext H []) r1.look
   rw[hm]at hcs hi hm3
   rw[hcl]at hco hi
   have c00:decide (((0:Nat):Int)=0)=true:=by decide
   have c10:decide (((1:Nat):Int)=0)=false:=by decide
   have c12:decide (((1:Nat):Int)=2)=false:=by decide
   have c20:decide (((2:Nat):Int)=0)=false:=by decide
   have c22:decide (((2:Nat):Int)=2)=true:=by decide
   simp only[g0,g3,hb,hc,i1,b1,n1l,q1,dQ,zW,Nat.reduceLT,Nat.reduceEqDiff]
   refine hcs.to ?_
   rcases hm3 with rfl|rfl|rfl
   ·obtain rfl:false=B:=by simpa using hi
    simp only[c00,eF,Tryz.results75,zW,Nat.reduceLT,Nat.reduceEqDiff]
    exact Fin.cz rfl rfl
   ·simp only[g0,g3,hb,i1,b1,n1l,q2,dQ,c10,zW,Nat.reduceLT,Nat.reduceEqDiff]
    refine hco.to ?_
    cases cl with
    |false =>
     obtain rfl:false=B:=by simpa using hi
     simp only[zG2,eF,Tryz.results75,zW,Nat.reduceLT,Nat.reduceEqDiff]
     exact Fin.cz rfl rfl
    |true =>
     simp only[g3,c12,zE0,bO (show k<1000000 by omega),zW,Nat.reduceLT,Nat.reduceEqDiff]
     refine aM ⟨k+1,by omega,rfl,?_,?_,by omega,by simpa using hi⟩
     ·exact g0
     ·rfl
   ·simp only[g0,g3,hb,i1,b1,n1l,q2,dQ,c20,zW,Nat.reduceLT,Nat.reduceEqDiff]
    refine hco.to ?_
    cases cl with
    |false =>
     obtain rfl:false=B:=by simpa using hi
     simp only[zG2,eF,Tryz.results75,zW,Nat.reduceLT,Nat.reduceEqDiff]
     exact Fin.cz rfl rfl
    |true =>
     simp only[g3,c22,zE0,bO (show k<1000000 by omega),zW,Nat.reduceLT,Nat.reduceEqDiff]
     have hws:IntKind.i64.wrap (((k+1:Nat):Int)-1)=(k:Int):=(aQ (n:=((k+1:Nat):Int)-1) (by omega) (by omega)).trans (by omega)
     by_cases hlt1:k+1<l.length
     ·have hc1:decide (((k+1:Nat):Int)=(l.length:Int))=false:=decide_eq_false (by omega)
      obtain⟨r2,hr2⟩:∃ r,l[k+1]?=some r:=⟨_,zB1 hlt1⟩
      have hdr2:l.drop (k+1)=r2::l.drop (k+1+1):=by
       rw[List.drop_eq_getElem_cons hlt1]
       rw[zB1 hlt1]at hr2
       rw[Option.some.inj hr2]
      rw[hdr2]at hi
      have hi':(decide (r2=r1.look.ce (-1))&&jc (l.drop (k+1+1)))=B:=by simpa using hi
      have i2:=iG (n:=n1) (off:=o1) (s:=s1) (cap:=x1) (i:=((k+1:Nat):Int)) rfl hlt1
      have q3:=xV (e:=t1) (o:=p1) hr2 le1 tk1
      refine bf [] [(4,36)] (by kernel_rfl) (by kernel_rfl) (by kernel_rfl) fun ops anc hA hG=>?_
      simp only[aw]at hG
      simp only[g0,hb,hc1,i1,i2,b1,n1l,q2,q3,dQ,hws,hG,Lk.val,Ce.val,b9,zW,Nat.reduceLT,Nat.reduceAdd,Nat.reduceEqDiff]
      obtain⟨dq,hdq⟩:∃ x,decide (r2=r1.look.ce (-1))=x:=⟨_,rfl⟩
      rw[hdq]at hi'
      refine Nc (ts:=[3,3,3,4,4,4]) (xs:=r2.cells) (ys:=(r1.look.ce (-1)).cells) (r:=!dq) Rx QY Q3 (by rw[KR,hdq]; rfl) rfl rfl (by decide) (by simp only[aW,Nat.reduceEqDiff]; rfl) (by simp only[aW]; rfl) (vI _) (vI _) ?_
      cases dq with
      |true =>
       simp only[zE0,bO (show k+1<1000000 by omega),b9,zW,Nat.reduceLT,Nat.reduceAdd,Nat.reduceEqDiff]
       refine aM ⟨k+1+1,by omega,rfl,?_,?_,by omega,by simpa using hi'⟩
       ·exact g0
       ·rfl
      |false =>
       obtain rfl:false=B:=by simpa using hi'
       simp only[zG2,eF,Tryz.results75,b9,zW,Nat.reduceLT,Nat.reduceAdd,Nat.reduceEqDiff]
       exact Fin.cz rfl rfl
     ·have hc1:decide (((k+1:Nat):Int)=(l.length:Int))=true:=decide_eq_true (by omega)
      rw[zF1 (by omega)]at hi
      obtain rfl:false=B:=by simpa using hi
      refine bf [] [(4,36)] (by kernel_rfl) (by kernel_rfl) (by kernel_rfl) fun ops anc hA hG=>?_
      simp only[aw]at hG
      simp only[g0,hc1,hG,eF,Tryz.results75,b9,zW,Nat.reduceLT,Nat.reduceAdd,Nat.reduceEqDiff]
      exact Fin.cz rfl rfl
 ·rintro E H' ⟨hH,rfl⟩
  rw[hH]
  simp only[Tryz.results75,zW,Nat.reduceLT]
  exact Fin.pure rfl
def r7 (W:Nat) (l:List Ce):Bool:=decide (l.length=W)&&jc l
theorem Gg (H:aa) (v:Value) (l:List Ce) (W bw:Nat) (hr:eQ H v l) (hl:l.length<1000000) (hb:bk H bw=some ⟨3,false,[.int .i64 (W:Int)]⟩):Pure 74 [v,.pointer (some ⟨bw,0,none⟩)] H (.bool (!r7 W l)):=by
 obtain⟨b,hbn⟩:=Go.Ax.bP H.next
 obtain⟨a,c,e⟩:=hr.sl
 obtain⟨B,hB⟩:=Go.Ax.bP (jc l)
 obtain⟨d,hd⟩:=Go.Ax.bP (decide (l.length=W))
 have hd2:decide (¬(l.length:Int)=(W:Int))=!d:=by
  rw[<-hd,decide_not]
  by_cases h:l.length=W
  ·rw[decide_eq_true h,decide_eq_true (by omega)]
  ·rw[decide_eq_false h,decide_eq_false (by omega)]
 have hwh:=J1 (ext H []) v l hr hl
 rw[r7,hB,hd]
 rw[e,hB]at hwh
 rw[e]
 refine bJ mixed Tryz.func74 rfl Tryz.ntmps74 (zA6 rfl) fun wf hsc=>?_
 have hlt:bw<b:=hbn▸wf.lt hb
 cases d with
 |false =>
  simp only[hbn,hb,hlt,hd2,zG2,Bool.false_and,Tryz.results74,zW,seval]
  exact Fin.cz rfl rfl
 |true =>
  simp only[hbn,hb,hlt,hd2,zE0,Bool.true_and,zW,seval]
  refine hwh.to ?_
  simp only[Tryz.results74,zW,seval]
  exact Fin.cz rfl rfl
def n5 (W:Nat):List (List Ce)->Option Nat
 |[]=>none
 |l::g=>if r7 W l=true then (n5 W g).map (·+1) else some 0
theorem yP (W:Nat):∀ (g:List (List Ce)) (k:Nat),(∀ i l,i<k->g[i]?=some l->r7 W l=true)->n5 W g=(n5 W (g.drop k)).map (·+k)
 |g,0,_=>by simp
 |[],k+1,_=>rfl
 |l::g,k+1,h=>by
  rw[n5,if_pos (h 0 l (Nat.succ_pos _) rfl),List.drop_succ_cons,yP W g k fun i l' hi hl=>h (i+1) l' (by omega) hl]
  cases n5 W (g.drop k) with
  |none=>rfl
  |some m=>simp only[zA9]; congr 1
def qL (W:Nat) (g:List (List Ce)):Bool:=g.all (r7 W)
theorem CQ (W:Nat):∀ (g:List (List Ce)),(n5 W g).isNone=qL W g
 |[]=>rfl
 |l::g=>by
  rw[n5,qL,List.all_cons]
  cases h:r7 W l with
  |false=>simp
  |true=>rw[if_pos rfl,Option.isNone_map,CQ W g,qL,Bool.true_and]
def Sq:Option Nat->Int
 |none=>-1
 |some n=>n
theorem IX (H:aa) (v:Value) (g:List (List Ce)) (W bw:Nat) (hg:eE H v g) (hw:∀ l∈g,l.length<1000000) (hgl:g.length<1000000) (hbw:bk H bw=some ⟨3,false,[.int .i64 (W:Int)]⟩) :
  Pure 100 [v,.func (.func 74) ⟨[]⟩ ⟨[.pointer (some ⟨bw,0,none⟩)]⟩] H (.int .i64 (Sq (n5 W g))):=by
 obtain⟨b,hb⟩:=Go.Ax.bP H.next
 refine bJ mixed Tryz.func100 rfl Tryz.ntmps100 (zA6 rfl) fun wf hsc=>?_
 obtain⟨a1,c1,e1⟩:=hg.sl
 rw[e1]
 simp only[zW,seval]
 rw[<-e1]
 refine eT fun E hE=>?_
 have g0:E 0=v:=by rw[hE]; rfl
 have g1:E 1=.func (.func 74) ⟨[]⟩ ⟨[.pointer (some ⟨bw,0,none⟩)]⟩:=by rw[hE]; rfl
 have g7:E 7=.int .i64 (g.length:Int):=by rw[hE]; rfl
 have g8:E 8=.int .i64 ((0:Nat):Int):=by rw[hE]; rfl
 clear hE
 refine bE (fun E' H'=>H'=ext H []/\n5 W g=none) ?_ ?_
 ·refine cU (fun (k:Nat) E' H'=>H'=ext H []/\E' 0=v/\E' 1=.func (.func 74) ⟨[]⟩ ⟨[.pointer (some ⟨bw,0,none⟩)]⟩/\E' 7=.int .i64 (g.length:Int)/\E' 8=.int .i64 (k:Int)/\k<=g.length/\∀ i l,i<k->g[i]?=some l->r7 W l=true) (fun k=>g.length-k) 0
   ⟨rfl,g0,g1,g7,g8,zB7 _,fun i l hi=>by omega⟩ ?_
  clear g0 g1 g7 g8
  rintro k E H' ⟨hH,g0,g1,g7,g8,hk,hpre⟩
  rw[hH]
  have hbd:=yP W g k hpre
  by_cases hkl:k=g.length
  ·have hc:decide ((k:Int)<(g.length:Int))=false:=by simp[hkl]
   simp only[g7,g8,hc,zW,seval]
   rw[zF1 (by omega)]at hbd
   exact aj ⟨rfl,hbd⟩
  ·have hlt:k<g.length:=by omega
   have hc:decide ((k:Int)<(g.length:Int))=true:=decide_eq_true (by omega)
   rcases hg with⟨h,_⟩|⟨_,n1,o1,s1,x1,t1,p1,L1,rfl,b1,n1l,le1,tk1⟩
   ·rw[h]at hlt; simp at hlt
   obtain⟨w1,hr1⟩:∃ r,g[k]?=some r:=⟨_,zB1 hlt⟩
   obtain⟨u1,hu1,ra1⟩:=tk1 k w1 hr1
   have i1:=kg (n:=n1) (off:=o1) (s:=s1) (cap:=x1) (i:=(k:Int)) rfl hlt
   have q1:=gu (e:=t1) (o:=p1) hu1
   rw[hb]at n1l
   have hna:=Gg (ext H []) u1 w1 W bw ra1 (hw w1 (zB9 hr1)) hbw
   obtain⟨d,hd⟩:=Go.Ax.bP (r7 W w1)
   rw[hd]at hna
   have hdr:g.drop k=w1::g.drop (k+1):=by
    rw[List.drop_eq_getElem_cons hlt]
    rw[zB1 hlt]at hr1
    rw[Option.some.inj hr1]
   rw[hdr,n5,hd]at hbd
   simp only[g0,g1,g7,g8,hb,hc,i1,b1,n1l,q1,dQ,zW,seval]
   refine vK (f:=74) (ca:=[.pointer (some ⟨bw,0,none⟩)]) rfl rfl rfl (by kernel_rfl) ?_
   simp only[aW]
   refine (show br Tryz.prog 74 _ (ext H []) _ (ext H []) from hna).to ?_
   cases d with
   |true =>
    simp only[g8,zE0,bO (show k<1000000 by omega),zW,seval]
    refine aM ⟨k+1,by omega,rfl,?_,?_,?_,?_,by omega,fun i l hi hl=>?_⟩
    ·exact g0
    ·exact g1
    ·exact g7
    ·rfl
    ·rcases zC2 i k with h|h
     ·exact hpre i l h hl
     ·obtain rfl:i=k:=by omega
      rw[hr1]at hl
      cases hl
      exact hd
   |false =>
    have hbd':n5 W g=some k:=by simpa using hbd
    simp only[zG2,eF,Tryz.results100,zW,seval]
    exact Fin.cz (by rw[hbd']; rfl) rfl
 ·rintro E H' ⟨hH,hbd⟩
  rw[hH]
  simp only[Tryz.results100,zW,seval]
  exact Fin.cz (by rw[hbd]; rfl) rfl
theorem Cd (H:aa) (v:Value) (g:List (List Ce)) (W bw:Nat) (hg:eE H v g) (hw:∀ l∈g,l.length<1000000) (hgl:g.length<1000000) (hbw:bk H bw=some ⟨3,false,[.int .i64 (W:Int)]⟩) :
  Pure 73 [v,.func (.func 74) ⟨[]⟩ ⟨[.pointer (some ⟨bw,0,none⟩)]⟩] H (.bool (!qL W g)):=by
 have hi:=IX (ext H []) v g W bw hg hw hgl hbw
 have hok:=CQ W g
 obtain⟨r,hr⟩:=Go.Ax.bP (n5 W g)
 rw[hr]at hi hok
 rw[<-hok]
 refine bJ mixed Tryz.func73 rfl Tryz.ntmps73 (zA6 rfl) fun wf hsc=>?_
 simp only[zW,seval]
 refine hi.to ?_
 have hd:decide ((0:Int)<=Sq r)=!r.isNone:=by
  cases r with
  |none=>rfl
  |some n=>exact decide_eq_true (Int.natCast_nonneg n)
 simp only[hd,Tryz.results73,zW,seval]
 exact Fin.pure rfl
def VR (l:List Ce):Prop:=∀ k,k<l.length->mh (l.getD k Ce.sp).look=true/\(aR (l.getD k Ce.sp).rune=1\/(aR (l.getD k Ce.sp).rune=2/\k+1<l.length/\l.getD (k+1) Ce.sp=(l.getD k Ce.sp).look.ce (-1))\/((l.getD k Ce.sp).rune=-1/\0<k/\aR (l.getD (k-1) Ce.sp).rune=2))
structure St.Vd (x:St):Prop where
 rows:∀ l∈x.ah,VR l
 pen:mh x.pen=true
end Go.Proofs.YtpohjcacnkhnkaaGreatDoor
namespace Go.Proofs.YtpohjcacnkhnkaaGreatDoor.Tq
open Go.Ax
theorem xH (c:Int):Go.Proofs.YtpohjcacnkhnkaaGreatDoor.dI c=dI c:=rfl
theorem CY {c:Int} (h:aR c≠0):¬c<32/\¬c=127/\dI c=aR c:=by
 unfold aR at h ⊢
 split at h
 ·exact absurd rfl h
 ·rename_i hc
  simp only[Bool.or_eq_true,decide_eq_true_eq,Bool.not_eq_true',not_or]at hc
  exact⟨hc.1.1,hc.1.2,by rw[if_neg (by simp only[Bool.or_eq_true,decide_eq_true_eq,Bool.not_eq_true',not_or]; exact hc),xH]⟩
theorem Mb (c:Int):aR c=0\/aR c=1\/aR c=2:=by
 unfold aR
 split
 ·exact .inl rfl
 ·exact Go.Proofs.YtpohjcacnkhnkaaGreatDoor.rS c
def PK (l:List Ce) (k:Nat) (pen:Lk) (c:Int) (n:Nat):List Ce :=
 if n=2 then ((iR l k (k+n)).set k ⟨c,pen⟩).set (k+1) ⟨-1,pen⟩ else (iR l k (k+n)).set k ⟨c,pen⟩
theorem NX (l:List Ce) (k:Nat) (pen:Lk) (c:Int) (hc:aR c≠0) (h:k+aR c<=l.length):(PK l k pen c (aR c)).map Gx=sb (Rr pen) (l.map Gx) k c:=by
 have e1:Gx ⟨c,pen⟩=(Rr pen).ce c:=rfl
 have e2:Gx ⟨-1,pen⟩=(Rr pen).ce (-1):=rfl
 unfold PK sb
 rcases Mb c with h0|h1|h2
 ·exact absurd h0 hc
 ·rw[h1]at h ⊢
  rw[if_neg (by decide),if_neg (by decide),List.map_set,e1,oU l k (k+1) (by omega) h,zF8]
  rfl
 ·rw[h2]at h ⊢
  rw[if_pos rfl,if_pos rfl,List.map_set,List.map_set,e1,e2,oU l k (k+2) (by omega) h,zF8,List.set_comm _ _ (by omega)]
  rfl
theorem Nz (l:List Ce) (k:Nat) (pen:Lk) (c:Int) (n:Nat) (h:k+n<=l.length):(PK l k pen c n).length=l.length:=by
 unfold PK
 split<;>simp only[zF3,xu l k (k+n) (by omega) h]
theorem JX {u:yY} (q:Tm) (c:Int) (k:Nat) (hr:q.row.toNat<q.ah.length) (hk:q.col=k) (hn:u.wd c≠0) (hw:q.col+(u.wd c:Int)<=q.width) :
  q.write u c={q with ah:=q.ah.set q.row.toNat (PK (q.ah.getD q.row.toNat []) k q.pen c (u.wd c)),col:=q.col+(u.wd c:Int)}:=by
 unfold Tm.write
 simp only
 rw[if_neg (by omega)]
 unfold Tm.blank PK
 have hk1:q.col.toNat=k:=by omega
 have hk2:(q.col+(u.wd c:Int)).toNat=k+u.wd c:=by omega
 by_cases h2:u.wd c=2
 ·simp only[if_pos h2]
  unfold Tm.Ev
  simp only[zC8,List.set_set,hk1,hk2]
  rw[List.getElem?_set_self (by simpa using hr),List.getElem?_set_self (by simpa using hr)]
  simp only[Option.getD_some,h2]
 ·simp only[if_neg h2]
  unfold Tm.Ev
  simp only[zC8,List.set_set,hk1,hk2]
  rw[List.getElem?_set_self (by simpa using hr)]
  simp only[Option.getD_some]
section
variable {W : Nat} {x : St} {t : Tm}
theorem MN (s:qx W x t) {e:List UInt8} {c:Int} (ch:Pr e c) (hc:aR c≠0) (hf:x.col+aR c<=W) :
  qx W {x with ah:=x.ah.set x.row.toNat (sb x.pen (x.ah.getD x.row.toNat []) x.col.toNat c),col:=x.col+aR c} (t.feed fL e):=by
 obtain⟨c1,c2,c3⟩:=CY hc
 have h1:=s.ok.row0
 have h2:=s.ok.row1
 have h3:=s.ok.col0
 have hl:=s.len
 have hrl:=s.M9
 have hw:=s.width
 have hcr:=s.col
 rw[s.row]at h1 h2
 have hrt:t.row.toNat<t.ah.length:=by omega
 have hwr:=JX (u:=fL) ({t with rest:=e}:Tm) c t.col.toNat hrt (by show t.col=_; omega) (show dI c≠0 by omega) (by show t.col+(dI c:Int)<=t.width; omega)
 have hch:({t with rest:=e}:Tm).character fL c=({t with rest:=e}:Tm).write fL c:=by
  unfold Tm.character
  rw[if_neg (fun h=>h.elim c1 c2)]
 rw[MB s.idle ch (by omega),hch,hwr]
 have hwd:fL.wd c=aR c:=c3
 rw[hwd]
 have hg:x.ah.set x.row.toNat (sb x.pen (x.ah.getD x.row.toNat []) x.col.toNat c)=oh (t.ah.set t.row.toNat (PK (t.ah.getD t.row.toNat []) t.col.toNat t.pen c (aR c))):=by
  rw[GU,s.ah,It,s.row,s.col,s.pen,NX _ _ _ _ hc (by omega)]
 have hwid:∀ l∈x.ah.set x.row.toNat (sb x.pen (x.ah.getD x.row.toNat []) x.col.toNat c),l.length=W:=fun l hl=>by
  rw[hg]at hl
  obtain⟨m,hm,rfl⟩:=zB5.1 hl
  rw[zD7]
  rcases List.mem_or_eq_of_mem_set hm with h|h
  ·exact s.wid m h
  ·rw[h,Nz _ _ _ _ _ (by omega),hrl]
 refine⟨⟨?_,?_,s.ok.w1,s.ok.w2,hwid,s.ok.row0,?_,?_,?_⟩,?_,s.pen,s.row,?_,s.shown,s.top,?_,⟨rfl,rfl⟩⟩
 ·simp only[zF3]; exact s.ok.h1
 ·simp only[zF3]; exact s.ok.h2
 ·simp only[zF3]; exact s.ok.row1
 ·show 0<=x.col+(aR c:Int); omega
 ·show x.col+(aR c:Int)<=W; omega
 ·rw[hg]
 ·show x.col+(aR c:Int)=t.col+(aR c:Int); omega
 ·show t.bottom=((t.ah.set t.row.toNat _).length:Int)-1
  rw[zF3]
  exact s.bot
theorem KU {α:Type} (g:List (List α)) (i:Nat):g.set i (g.getD i [])=g:=by
 rcases zC2 i g.length with h|h
 ·rw[zC8,zB1 h,Option.getD_some,List.set_getElem_self]
 ·exact List.set_eq_of_length_le h
theorem C5 (s:qx W x t):({x with ah:=x.ah.set x.row.toNat (e7 x.pen [] (x.ah.getD x.row.toNat []) x.col.toNat).1,col:=((e7 x.pen [] (x.ah.getD x.row.toNat []) x.col.toNat).2:Nat)}:St)=x:=by
 have h:=s.ok.col0
 simp only[e7]
 rw[KU,show ((x.col.toNat:Nat):Int)=x.col by omega]
theorem ML:∀ (n:Nat) (bs:List UInt8) (l:List Int) {x:St} {t:Tm},bs.length<=n->fU bs=some l->qx W x t->St.fits W l x.col=true ->
  qx W {x with ah:=x.ah.set x.row.toNat (e7 x.pen l (x.ah.getD x.row.toNat []) x.col.toNat).1,col:=((e7 x.pen l (x.ah.getD x.row.toNat []) x.col.toNat).2:Nat)} (t.feed fL bs):=by
 intro n
 induction n with
 |zero =>
  intro bs l x t hn hp s hf
  obtain rfl:bs=[]:=zE9 (by omega)
  rw[na]at hp
  cases hp
  rw[C5 s]
  exact s
 |succ n ih =>
  intro bs l x t hn hp s hf
  by_cases hb:bs=[]
  ·subst hb
   rw[na]at hp
   cases hp
   rw[C5 s]
   exact s
  ·have hlen:0<bs.length:=List.length_pos_iff.2 hb
   rw[kr bs hlen]at hp
   split at hp
   ·cases hp
   ·rename_i h0
    have ch:=PR bs hb h0
    obtain⟨c,hc⟩:=Go.Ax.bP ((sH bs).1)
    obtain⟨m,hm⟩:=Go.Ax.bP ((sH bs).2.toNat)
    have hpos:=(lE bs hlen)
    rw[hc,hm]at hp ch
    rw[hm]at hpos
    obtain⟨l',hl',rfl⟩:=zB3.1 hp
    obtain⟨f1,f2,f3⟩:=mj hf
    have hs1:=MN s ch f1 f2
    have hm0:0<m:=by
     have:=ch.ne
     rcases Nat.eq_zero_or_pos m with h|h
     ·rw[h,List.take_zero]at this; exact absurd rfl this
     ·exact h
    have hs2:=ih (bs.drop m) l' (by rw[zD8]; omega) hl' hs1 f3
    have h3:=s.ok.col0
    have hrow:x.row.toNat<x.ah.length:=by have:=s.ok.row0; have:=s.ok.row1; omega
    have hfeed:t.feed fL bs=(t.feed fL (bs.take m)).feed fL (bs.drop m):=by
     rw[<-Tm.dY,zG8]
    rw[hfeed]
    have hcol:(x.col+(aR c:Int)).toNat=x.col.toNat+aR c:=by omega
    have hgd:(x.ah.set x.row.toNat (sb x.pen (x.ah.getD x.row.toNat []) x.col.toNat c)).getD x.row.toNat []=sb x.pen (x.ah.getD x.row.toNat []) x.col.toNat c:=by
     rw[zC8,List.getElem?_set_self hrow,Option.getD_some]
    simp only[hcol,hgd,List.set_set]at hs2
    exact hs2
end
def I2 (c:Int):Bool:=!(decide (c<32)||decide (c=127)||decide (dI c=0))
def l9 (o:yX):Option (List UInt8) :=
 if o.kind=1 then (if 0<=min o.row o.col/\max o.row o.col<=9998 then some (fW [o.row.toNat+1,o.col.toNat+1] 72) else none)
 else if o.kind=2 then (if mh o.look=true then some (fW (j8 o.look) 109) else none)
 else if o.kind=3 then (match fU o.text.data.toList with
  |none=>none
  |some l=>if l.all I2=true then some o.text.data.toList else none)
 else if o.kind=4 then some (fW [] 75)
 else if o.kind=5\/o.kind=6 then (if 0<=o.row/\o.row<=o.col/\o.col<=9998/\1<=o.n/\o.n<=o.col-o.row+1 then some (uI o.row.toNat o.col.toNat o.n.toNat (decide (o.kind=5))) else none)
 else if o.kind=7 then some [27,91,63,50,53,104]
 else if o.kind=8 then some [27,91,63,50,53,108]
 else none
def fF:List yX->Option (List UInt8)
 |[]=>some []
 |o::l=>match l9 o,fF l with
  |some b,some r=>some (b++r)
  |_,_=>none
theorem mv:fL.full [27]=true:=(zN (a:=27) (by decide)).full
theorem CM {W:Nat}:∀ (l:List Int) (n:Int),St.fits W l n=true->l.all I2=true
 |[],_,_=>rfl
 |c::l,n,h=>by
  obtain⟨f1,f2,f3⟩:=mj h
  obtain⟨c1,c2,c3⟩:=CY f1
  rw[List.all_cons,CM l _ f3,Bool.and_true]
  unfold I2
  rw[decide_eq_false c1,decide_eq_false c2,decide_eq_false (by omega)]
  rfl
section
variable {W : Nat} {x y : St} {t : Tm}
theorem MV {o:yX} (s:qx W x t) (h:x.pY W fU o=some y):∃ b,l9 o=some b/\qx W y (t.feed fL b):=by
 have h2:=s.ok.h2
 have w2:=s.ok.w2
 unfold St.pY at h
 unfold l9
 by_cases k1:o.kind=1
 ·rw[if_pos k1]at h ⊢
  split at h
  ·rename_i hc
   simp only[zA4,decide_eq_true_eq]at hc
   cases h
   rw[if_pos (by omega)]
   exact⟨_,rfl,LA mv s ⟨hc.1.1.1,hc.1.1.2,hc.1.2,hc.2⟩⟩
  ·cases h
 rw[if_neg k1]at h ⊢
 by_cases k2:o.kind=2
 ·rw[if_pos k2]at h ⊢
  split at h
  ·rename_i hc
   cases h
   rw[if_pos hc]
   exact⟨_,rfl,MQ mv s hc⟩
  ·cases h
 rw[if_neg k2]at h ⊢
 by_cases k3:o.kind=3
 ·rw[if_pos k3]at h ⊢
  cases hp:fU o.text.data.toList with
  |none=>rw[hp]at h; cases h
  |some l =>
   rw[hp]at h
   simp only at h ⊢
   split at h
   ·rename_i hf
    cases h
    rw[if_pos (CM l _ hf)]
    exact⟨_,rfl,ML _ _ l (zA8 _) hp s hf⟩
   ·cases h
 rw[if_neg k3]at h ⊢
 by_cases k4:o.kind=4
 ·rw[if_pos k4]at h ⊢
  split at h
  ·rename_i hc
   cases h
   exact⟨_,rfl,Jb mv s hc⟩
  ·cases h
 rw[if_neg k4]at h ⊢
 by_cases k5:o.kind=5\/o.kind=6
 ·rw[if_pos k5]at h ⊢
  split at h
  ·rename_i hc
   simp only[zA4,decide_eq_true_eq]at hc
   obtain⟨⟨⟨⟨c1,c2⟩,c3⟩,c4⟩,c5⟩:=hc
   cases h
   rw[if_pos ⟨c1,c2,by omega,c4,c5⟩]
   exact⟨_,rfl,LV mv s (decide (o.kind=5)) (by omega) (by omega) (by omega) (by omega)⟩
  ·cases h
 rw[if_neg k5]at h ⊢
 by_cases k7:o.kind=7
 ·rw[if_pos k7]at h ⊢
  cases h
  exact⟨_,rfl,Dn mv s true⟩
 rw[if_neg k7]at h ⊢
 by_cases k8:o.kind=8
 ·rw[if_pos k8]at h ⊢
  cases h
  exact⟨_,rfl,Dn mv s false⟩
 rw[if_neg k8]at h
 cases h
theorem Hm:∀ (l:List yX) (i:Nat) {x:St} {t:Tm},qx W x t->St.all W fU l i x=.inl y->∃ b,fF l=some b/\qx W y (t.feed fL b)
 |[],i,x,t,s,h=>by
  rw[St.all]at h
  cases h
  exact⟨[],rfl,s⟩
 |o::l,i,x,t,s,h=>by
  rw[St.all]at h
  cases hd:x.pY W fU o with
  |none=>rw[hd]at h; cases h
  |some z =>
   rw[hd]at h
   obtain⟨b,hb,s1⟩:=MV s hd
   obtain⟨r,hr,s2⟩:=Hm l (i+1) s1 h
   refine⟨b++r,?_,?_⟩
   ·rw[fF,hb,hr]
   ·rw[Tm.dY]; exact s2
end
theorem Hp {h w:Nat} (h1:1<=h) (h2:h<=200) (w1:1<=w) (w2:w<=1000):qx w (⟨List.replicate h (List.replicate w oq),-1,0,⟨0,0,false,false,false⟩,0,0,false⟩:St) (Tm.new h w):=by
 refine⟨⟨?_,?_,w1,w2,fun l hl=>?_,Int.le_refl 0,?_,Int.le_refl 0,?_⟩,?_,rfl,rfl,rfl,rfl,rfl,?_,⟨rfl,rfl⟩⟩
 ·simp only[zE4]; exact h1
 ·simp only[zE4]; exact h2
 ·rw[List.eq_of_mem_replicate hl,zE4]
 ·simp only[zE4]; omega
 ·show (0:Int)<=w; omega
 ·show _=oh (List.replicate h (List.replicate w sp))
  unfold oh
  rw[List.map_replicate,List.map_replicate]; rfl
 ·show ((h:Nat):Int)-1=((List.replicate h (List.replicate w sp)).length:Int)-1
  rw[zE4]
set_option maxRecDepth 100000
theorem No.trans {H X Y:aa} {v u:Value} {m:List UInt8} {out:Out} (hm:Mod (ae v) H X) (hu:∀ n∈ae u,n∈ae v\/H.next<=n) (hok:H.base<=H.next) (h:No X u m out Y):No H v m out Y:=by
 obtain⟨a1,w,rfl,a2,a3⟩:=h
 refine⟨hm.step a1 hok hu,w,rfl,a2,fun n hn=>?_⟩
 rcases a3 n hn with h|h
 ·exact hu n h
 ·have:=hm.next; exact .inr (by omega)
theorem wK {H:aa} {v:Value} {l cs:List UInt8} {b k:Nat} {L:List Value} (hv:du H 5 1 v (ay l) l.length) (hcs:ay cs=L) (hk:cs.length=k) (h0:0<k) (hl:l.length<=3500000) (hk2:k<=1000) (hb:H.next=b) (hok:H.base<=H.next) :
  ∃ G,aD Tryz.prog (ext H [⟨5,false,L⟩]) .append ⟨[25,25]⟩ [v,.slice (some ⟨b+0,0,some 0⟩) k k]=some (.slice (some ⟨b+1,0,none⟩) (l.length+k) (l.length+k),ext G [])/\du G 5 1 (.slice (some ⟨b+1,0,none⟩) (l.length+k) (l.length+k)) (ay (l++cs)) (l++cs).length/\Mod (ae v) H G/\G.next=b+2:=by
 subst hcs
 have a1:Tryz.prog.underlying 25=some (.slice 5):=by kernel_rfl
 have a2:bh Tryz.prog 5=some 1:=by kernel_rfl
 have a3:bytesOf Tryz.prog 5=some 1:=by kernel_rfl
 have a4:zeroOf Tryz.prog 5=some (.int .u8 0):=by kernel_rfl
 have a6:fj Tryz.prog 25=some false:=by kernel_rfl
 obtain⟨H1,hH1⟩:=Go.Ax.bP (ext H [⟨5,false,ay cs⟩])
 have m1:Mod [] H H1:=hH1▸Mod.ext hok
 have n1:H1.next=b+1:=by rw[<-hH1,ai,hb]; rfl
 have b1:bk H1 (b+0)=some ⟨5,false,ay cs⟩:=by rw[<-hH1,bu hb (by simp)]; rfl
 have v1:du H1 5 1 v (ay l) l.length:=hv.of m1.next fun q hq=>m1.get q (hv.ne q hq).2 (by simp)
 obtain⟨G,g1,g2,g3,g4,g5⟩:=ta (P:=Tryz.prog) (st:=25) (xt:=25) (e:=5) (sz:=1) (by1:=1) (z:=.int .u8 0) (off:=0) (cap:=k) (s:=some 0) (cnt2:=k) (ws:=ay cs) a1 a2 a3 a4 rfl a6 v1 (jR b1) (by simp only[hJ]; omega) (by
  simp only[zD1,zE8]
  exact zD6 (by rw[hJ]; omega)) (vd _) h0 (by simp only[small,zA4,zE6]; omega) n1 (by rw[<-ji]; exact nh _ _)
 rw[hH1]
 refine⟨G,g1,?_,(m1.mono (by simp)).trans (g3 (m1.ok hok)),by omega⟩
 rw[ji,zB4,hk]
 exact g2
theorem join_cons (a:Nat):∀ {l:List Nat},l≠[]->dH (a::l)=gD a++59::dH l
 |[],h=>absurd rfl h
 |b::l,_=>by
  rw[dH]
  simp
theorem zA:∀ (l:List Nat) (n:Nat),dH (l++[n])=dH l++((if 0<l.length then [59] else [])++gD n)
 |[],n=>by simp[dH]
 |[a],n=>by simp[dH]
 |a::b::l,n=>by
  have:=zA (b::l) n
  rw[zE7,join_cons a (by simp),this,join_cons a (by simp)]
  simp
theorem AI {ns:List Nat} {i n:Nat} (h:ns[i]?=some n):dH (ns.take (i+1))=dH (ns.take i)++((if 0<i then [59] else [])++gD n):=by
 have hlt:=(zG1.1 h).1
 rw[List.take_add_one,h,Option.toList_some,zA,List.length_take,Nat.min_eq_left (by omega)]
theorem N1 (u:Nat):(gD u).length<=4:=by unfold gD; split<;>(try split)<;>(try split)<;>simp
theorem join_le (ns:List Nat):(dH ns).length<=5*ns.length:=by
 induction ns with
 |nil=>simp[dH]
 |cons a l ih =>
  have:=N1 a
  cases l with
  |nil=>simp only[dH,zB0,zB6]; omega
  |cons b l =>
   rw[join_cons a (by simp),zB4,zB0]
   simp only[zB0]at ih ⊢; omega
def nV (ns:List Nat):List Value:=ns.map fun n:Nat=>Value.int .i64 (n:Int)
def Cw (l:List UInt8) (ns:List Nat) (i:Nat):List UInt8:=l++27::91::dH (ns.take i)
theorem LL (H:aa) (t:Pow H) (v pv:Value) (l:List UInt8) (ns:List Nat) (f:UInt8) (hv:du H 5 1 v (ay l) l.length) (hl:l.length<=3100000) (hp:oR H 1 pv (nV ns) ns.length) (hn:∀ n∈ns,n<=9999) (hns:ns.length<=20) (h2:2∉ae v) (hd0:∀ n∈ae v,n∉ae pv) (hok:H.base<=H.next) :
  bF Tryz.prog 50 [v,.int .u8 (f.toNat:Int),pv] H (No H v (l++fW ns f)):=by
 have a1:Tryz.prog.underlying 22=some (.slice 3):=by kernel_rfl
 have a2:bh Tryz.prog 3=some 1:=by kernel_rfl
 obtain⟨b,hb⟩:=Go.Ax.bP H.next
 obtain⟨pa,pc,ep⟩:=hp.sl
 obtain⟨G,g1,g2,g3,g4⟩:=wK (cs:=[27,91]) (L:=[.int .u8 27,.int .u8 91]) (k:=2) hv rfl rfl (by decide) (by omega) (by decide) hb hok
 refine aG mixed Tryz.func50 rfl Tryz.ntmps50 (zA6 rfl) ?_
 rw[ep]
 simp only[hb,g1,zW,seval]
 rw[<-ep]
 refine eT fun E hE=>?_
 have g0:E 0=.slice (some ⟨b+1,0,none⟩) (l.length+2) (l.length+2):=by rw[hE]; rfl
 have g12:E 12=pv:=by rw[hE]; rfl
 have g1x:E 1=.int .u8 (f.toNat:Int):=by rw[hE]; rfl
 have g13:E 13=.int .i64 (ns.length:Int):=by rw[hE]; rfl
 have g14:E 14=.int .i64 ((0:Nat):Int):=by rw[hE]; rfl
 clear hE
 refine cU (fun (q:Nat × Value) E' X=>q.1<=ns.length/\Mod (ae v) H X/\du X 5 1 q.2 (ay (Cw l ns q.1)) (Cw l ns q.1).length/\(∀ n∈ae q.2,n∈ae v\/H.next<=n)/\E' 0=q.2/\E' 1=.int .u8 (f.toNat:Int)/\E' 12=pv/\E' 13=.int .i64 (ns.length:Int)/\E' 14=.int .i64 (q.1:Int)) (fun q=>ns.length-q.1) (0,.slice (some ⟨b+1,0,none⟩) (l.length+2) (l.length+2)) ⟨zB7 _,g3,by simp only[Cw,List.take_zero,dH]; exact g2,fun n hn=>.inr (by simp only[ae,zA5]at hn; omega),g0,g1x,g12,g13,g14⟩ ?_
 clear g0 g1x g12 g13 g14 g1 g2 g3 g4 E
 rintro⟨i,u⟩ E X ⟨hi,mX,vX,lu,g0,g1x,g12,g13,g14⟩
 simp only at hi vX lu g0 g14
 have okX:=mX.ok hok
 obtain⟨y,hy⟩:=Go.Ax.bP X.next
 have yb:X.base<=y:=hy▸okX
 have hby:b<=y:=by have:=mX.next; omega
 have u2:2∉ae u:=fun h=>(lu 2 h).elim h2 fun h=>by have:=t.1; omega
 have tX:=t.mod mX h2
 obtain⟨ua,eu⟩:=vX.len
 have hjl:(Cw l ns i).length<=l.length+2+100:=by
  have:=join_le (ns.take i)
  rw[List.length_take]at this
  simp only[Cw,zB4,zB0]
  omega
 rw[show X=ext X [] from rfl]
 by_cases hil:i<ns.length
 ·have hd:decide ((i:Int)<(ns.length:Int))=true:=decide_eq_true (by omega)
  obtain⟨n,hni⟩:∃ n,ns[i]?=some n:=⟨_,zB1 hil⟩
  have hn9:=hn n (zB9 hni)
  have rX:oR X 1 pv (nV ns) ns.length:=hp.of mX.next fun q hq=>mX.get q (hp.ne q hq).2 fun h=>hd0 q h (by unfold QK at hq; split at hq; exact absurd hq (by simp); exact hq)
  obtain⟨m,off,s,c,e,o,M,e1,n1,r1,hM⟩:=rX.one hil
  have hM2:M[off+i]?=some (.int .i64 (n:Int)):=by rw[hM,nV,zF0,hni]; rfl
  have i1:=RC (P:=Tryz.prog) (k:=.i64) (i:=i) (n:=m) (off:=off) (len:=ns.length) (cap:=c) (s:=s) a1 a2 hil
  rw[zE8]at i1
  have l1:oL Tryz.prog 3 (off+i) (some ⟨e,o,M⟩)=some (.int .i64 (n:Int)):=by
   rw[kF (by kernel_rfl),hM2]
  rw[hy]at n1
  rw[e1]at g12
  have hw1:IntKind.i64.wrap ((i:Int)+1)=((i+1:Nat):Int):=by rw[IntKind.wrap_i64]; omega
  by_cases h0:i=0
  ·have hd1:decide ((0:Int)<(i:Int))=false:=decide_eq_false (by omega)
   simp only[g0,g12,g13,g14,hy,hd,hd1,i1,n1,r1,l1,dQ,zW,seval]
   refine (GV (ext X []) tX u _ n vX (by omega) hn9 okX).mono ?_
   rintro out Y ⟨m1,w,rfl,w1,w2⟩
   rw[show Y=ext Y [] from rfl]
   simp only[g14,hw1,zW,seval]
   refine aM ⟨(i+1,w),by simp only; omega,by simp only; omega,mX.step m1 hok lu,?_,fun q hq=>?_,by simp only[aW,seval],by simp only[g1x,aW,seval],by simp only[g12,e1,aW,seval],by simp only[g13,aW,seval],by simp only[aW]⟩
   ·have:Cw l ns (i+1)=Cw l ns i++gD n:=by
     rw[Cw,Cw,AI hni,if_neg (by omega)]
     simp
    rw[this]
    exact w1
   ·rcases w2 q hq with h|h
    ·exact lu q h
    ·exact .inr (by have:=mX.next; exact zC3 this h)
  ·have hd1:decide ((0:Int)<(i:Int))=true:=decide_eq_true (by omega)
   obtain⟨G,k1,k2,k3,k4⟩:=wK (cs:=[59]) (L:=[.int .u8 59]) (k:=1) vX rfl rfl (by decide) (by omega) (by decide) hy okX
   simp only[g0,g12,g13,g14,hy,hd,hd1,i1,n1,r1,l1,k1,dQ,zW,seval]
   have mG:=mX.step k3 hok lu
   refine (GV (ext G []) (tX.mod k3 u2) _ (Cw l ns i++[59]) n k2 (by rw[zB4,List.length_singleton]; omega) hn9 (mG.ok hok)).mono ?_
   rintro out Y ⟨m1,w,rfl,w1,w2⟩
   rw[show Y=ext Y [] from rfl]
   simp only[g14,hw1,zW,seval]
   have l2:∀ q∈ae (Value.slice (some ⟨y+1,0,none⟩) ((Cw l ns i).length+1) ((Cw l ns i).length+1)),q∈ae v\/H.next<=q:=fun q hq=>.inr (by simp only[ae,zA5]at hq; omega)
   refine aM ⟨(i+1,w),by simp only; omega,by simp only; omega,mG.step m1 hok l2,?_,fun q hq=>?_,by simp only[aW,seval],by simp only[g1x,aW,seval],by simp only[g12,e1,aW,seval],by simp only[g13,aW,seval],by simp only[aW]⟩
   ·have:Cw l ns (i+1)=(Cw l ns i++[59])++gD n:=by
     rw[Cw,Cw,AI hni,if_pos (by omega)]
     simp
    rw[this]
    exact w1
   ·rcases w2 q hq with h|h
    ·exact l2 q h
    ·exact .inr (by have:=mG.next; exact zC3 this h)
 ·have hd:decide ((i:Int)<(ns.length:Int))=false:=decide_eq_false (by omega)
  obtain⟨G,k1,k2,k3,k4⟩:=wK (cs:=[f]) (L:=[.int .u8 (f.toNat:Int)]) (k:=1) vX rfl rfl (by decide) (by omega) (by decide) hy okX
  simp only[g0,g1x,g13,g14,hy,hd,k1,Tryz.results50,zW,seval]
  have:Cw l ns i++[f]=l++fW ns f:=by
   rw[Cw,fW,zD6 (by omega)]
   simp
  rw[this]at k2
  refine⟨mX.step k3 hok lu,_,rfl,?_,fun q hq=>.inr (by simp only[ae,zA5]at hq; omega)⟩
  exact k2
end Go.Proofs.YtpohjcacnkhnkaaGreatDoor.Tq
namespace Go.Ax
theorem Q1 {P:Program} {ro:Option Nat} {x y:Code} {Q:Exit->ag->aa->Prop} {N:Nat} {E:Env} {ds:List Deferred} {H:aa} {v:Value} (h:∀ E',E'=E->qw P ro x y Q (bA N E' ds) H v):qw P ro x y Q (bA N E ds) H v:=h E rfl
end Go.Ax
namespace Go.Proofs.YtpohjcacnkhnkaaGreatDoor.Tq
open Go.Ax
set_option maxRecDepth 100000
theorem BX (ns:List Nat):(nV ns).all one=true:=by simp[nV,one]
theorem Po (n:Nat) (ns:List Nat):aO n (nV ns)=true:=by
 rw[bL]
 intro v' hv'
 obtain⟨w',_,rfl⟩:=zB5.1 hv'
 rfl
theorem jV (ns:List Nat):(nV ns).length=ns.length:=by simp[nV]
def JY (H:aa) (w:Value) (l:List Nat):Prop:=l≠[]/\∃ n o,w=.slice (some ⟨n,0,if o then none else some 0⟩) l.length l.length/\bk H n=some ⟨3,o,nV l⟩/\n<H.next
theorem JY.rd {H:aa} {w:Value} {l:List Nat} (h:JY H w l):oR H 1 w (nV l) l.length:=by
 obtain⟨h1,n,o,rfl,hb,hlt⟩:=h
 exact⟨by rw[jV,zE8],.inr ⟨by have:=List.length_pos_iff.2 h1; omega,n,0,_,_,3,o,_,rfl,jR hb,hlt,by rw[jV]; omega,by rw[zD1,zD6 (by rw[jV]; omega)]⟩⟩
theorem wX {X:aa} {w:Value} {l cs:List Nat} {b k:Nat} {L:List Value} (h:JY X w l) (hcs:nV cs=L) (hk:cs.length=k) (h0:0<k) (hb:X.next=b) (hlen:l.length<=100) (hk9:k<=100) (hok:X.base<=X.next) :
  ∃ w' G,aD Tryz.prog (ext X [⟨3,false,L⟩]) .append ⟨[22,22]⟩ [w,.slice (some ⟨b+0,0,some 0⟩) k k]=some (w',ext G [])/\JY G w' (l++cs)/\Mod (ae w) X G/\∀ n∈ae w',X.next<=n:=by
 subst hcs
 subst hk
 obtain⟨cR,n,o,rfl,hbn,hlt⟩:=h
 have hkb:bk (ext X [⟨3,false,nV cs⟩]) (b+0)=some ⟨3,false,nV cs⟩:=by rw[bu hb (by simp)]; rfl
 have hbX:bk (ext X [⟨3,false,nV cs⟩]) n=some ⟨3,o,nV l⟩:=(iN hlt).trans hbn
 have hsm:small (l.length+cs.length) 8=true:=by simp only[small,zA4,zE6]; omega
 have hcs:nV l++nV cs=nV (l++cs):=by simp[nV]
 have ht2:((nV cs).drop 0).take (cs.length*1)=nV cs:=by rw[zD1]; exact zD6 (by rw[jV]; omega)
 cases o with
 |false =>
  have happ:=pI (P:=Tryz.prog) (H:=ext X [⟨3,false,nV cs⟩]) (st:=22) (xt:=22) (e:=3) (sz:=1) (by1:=8) (z:=.int .i64 0) (m:=n) (k:=l.length) (n:=b+0) (off:=0) (cnt:=cs.length) (cap:=cs.length) (s:=some 0)
   (by kernel_rfl) (by kernel_rfl) (by kernel_rfl) (by kernel_rfl) rfl (by kernel_rfl) hbX (by rw[jV]; omega) (BX l) hkb (by simp only[jV]; omega) (BX cs) h0 hsm
  have ht:(nV l).take (l.length*1)=nV l:=zD6 (by rw[jV]; omega)
  simp only[ht,ht2,hcs]at happ
  have hn:=eN (H:=X) (L:=[⟨3,false,nV cs⟩]) (e:=3) (l:=nV (l++cs)) (o:=true) (Po _ _)
  rw[hn,zA9]at happ
  refine⟨_,ext X [⟨3,false,nV cs⟩,⟨3,true,nV (l++cs)⟩],happ,⟨by simp[cR],b+1,true,?_,?_,?_⟩,Mod.ext hok,fun q hq=>?_⟩
  ·rw[ai,hb]; simp
  ·rw[bu hb (by simp)]; rfl
  ·rw[ai,hb]; simp
  ·simp only[ae,zA5,ai]at hq; omega
 |true =>
  have happ:=C0 (P:=Tryz.prog) (H:=ext X [⟨3,false,nV cs⟩]) (st:=22) (xt:=22) (e:=3) (sz:=1) (by1:=8) (z:=.int .i64 0) (m:=n) (k:=l.length) (fX:=nV l) (n:=b+0) (off:=0) (cnt:=cs.length) (cap:=cs.length) (s:=some 0)
   (by kernel_rfl) (by kernel_rfl) (by kernel_rfl) (by kernel_rfl) rfl (by kernel_rfl) hbX (by rw[jV]; omega) (BX l) hkb (by simp only[jV]; omega) (BX cs) h0 hsm
  simp only[ht2,hcs]at happ
  rw[Ge hlt]at happ
  have hn:=eN (H:=dp X n) (L:=[⟨3,false,nV cs⟩]) (e:=3) (l:=nV (l++cs)) (o:=true) (Po _ _)
  rw[hn,zA9]at happ
  have mD:Mod (ae (.slice (some ⟨n,0,none⟩) l.length l.length)) X (dp X n):=Mod.cE (by simp[ae])
  refine⟨_,ext (dp X n) [⟨3,false,nV cs⟩,⟨3,true,nV (l++cs)⟩],happ,⟨by simp[cR],b+1,true,?_,?_,?_⟩,mD.trans (Mod.ext (mD.ok hok)),fun q hq=>?_⟩
  ·rw[ai,hb]; simp
  ·rw[bu (show (dp X n).next=b from hb) (by simp)]; rfl
  ·rw[ai,iO,hb]; simp
  ·simp only[ae,zA5,ai]at hq; omega
def EN (H:aa) (v:Value) (l:List UInt8) (r:Option (List UInt8)) (out:Out) (X:aa):Prop :=
 Mod (ae v) H X/\match r with
  |some cs=>∃ u,out=.ok (.tuple #[u,.bool true])/\du X 5 1 u (ay (l++cs)) (l++cs).length/\∀ n∈ae u,n∈ae v\/H.next<=n
  |none=>∃ x,out=.ok (.tuple #[x,.bool false])/\aS X.next x=true
def Nq (k:OR):List Value:=[.int .i64 k.fore,.int .i64 k.back,.bool k.bold,.bool k.under,.bool k.inv]
def Ry (H:aa) (b:Nat) (v:Value) (k:OR) (ws:List Nat) (E:Env) (X:aa):Prop :=
 Mod [] H X/\bk X b=some ⟨44,false,Nq k⟩/\b<X.next/\E 0=v/\E 3=.pointer (some ⟨b,0,none⟩)/\∃ w,E 6=w/\JY X w ws/\∀ n∈ae w,H.next<=n/\n≠b
theorem PS (H:aa) (t:Pow H) (v:Value) (l:List UInt8) (k:OR) (hv:du H 5 1 v (ay l) l.length) (hl:l.length<=3100000) (h2:2∉ae v) (hok:H.base<=H.next) :
  bF Tryz.prog 51 [v,.agg ⟨Nq k⟩] H (EN H v l (if mh k=true then some (fW (j8 k) 109) else none)):=by
 obtain⟨b,hb⟩:=Go.Ax.bP H.next
 have mE:∀ L,Mod (ae v) H (ext H L):=fun L=>Mod.ext hok
 refine aG mixed Tryz.func51 rfl Tryz.ntmps51 (zA6 rfl) ?_
 unfold Nq
 by_cases hc:mh k=true
 ·rw[if_pos hc]
  unfold mh at hc
  simp only[zA4,decide_eq_true_eq]at hc
  have c1:decide (k.fore<0)=false:=decide_eq_false (by omega)
  have c2:decide (256<k.fore)=false:=decide_eq_false (by omega)
  have c3:decide (k.back<0)=false:=decide_eq_false (by omega)
  have c4:decide (256<k.back)=false:=decide_eq_false (by omega)
  simp only[hb,c1,c2,c3,c4,zW,seval]
  refine Q1 fun E hE=>?_
  have g0:E 0=v:=by rw[hE]; rfl
  have g3:E 3=.pointer (some ⟨b+0,0,none⟩):=by rw[hE]; rfl
  have g6:E 6=.slice (some ⟨b+1,0,some 0⟩) 1 1:=by rw[hE]; rfl
  clear hE
  obtain⟨X,hX⟩:=Go.Ax.bP (ext H [⟨44,false,[.int .i64 k.fore,.int .i64 k.back,.bool k.bold,.bool k.under,.bool k.inv]⟩,⟨3,false,[.int .i64 0]⟩])
  have mX:Mod [] H X:=hX▸Mod.ext hok
  have kb:bk X (b+0)=some ⟨44,false,Nq k⟩:=by rw[<-hX,bu hb (by simp)]; rfl
  obtain⟨y,hy⟩:=Go.Ax.bP X.next
  have yb2:y=b+2:=by rw[<-hy,<-hX,ai,hb]; rfl
  have hbX:b+0<y:=by omega
  have hw:JY X (.slice (some ⟨b+1,0,some 0⟩) 1 1) [0]:=⟨by simp,b+1,false,rfl,by rw[<-hX,bu hb (by simp)]; rfl,by omega⟩
  have hid:∀ n∈ae (Value.slice (some ⟨b+1,0,some 0⟩) 1 1),H.next<=n/\n≠b+0:=fun n hn=>by
   simp only[ae,zA5]at hn
   omega
  obtain⟨w,hw'⟩:∃ w,Value.slice (some ⟨b+1,0,some 0⟩) 1 1=w:=⟨_,rfl⟩
  rw[hw']at g6 hw hid
  have okX:=mX.ok hok
  have hln:([0]:List Nat).length<=1:=by decide
  rw[hX,show X=ext X [] from rfl]
  clear hX hw'
  refine gZ (Ry H (b+0) v k ([0]++(if (k.bold)=true then [1] else []))) ?_ ?_
  ·obtain⟨z,hz⟩:=Go.Ax.bP ((k.bold))
   rw[hz]
   cases z with
   |false =>
    rw[show (if false=true then [1] else [])=([]:List Nat) from rfl,zD0]
    simp only[lh]
    exact aj ⟨mX,kb,by rw[ext_nil,hy]; exact hbX,by simp only[g0],by simp only[g3],w,by simp only[g6],hw,hid⟩
   |true =>
    rw[show (if true=true then [1] else [])=([1]:List Nat) from rfl]
    have hL:nV [1]=[.int .i64 1]:=by
     rfl
    obtain⟨w',G,k1,k2,k3,k4⟩:=wX (cs:=[1]) (L:=[.int .i64 1]) (k:=1) hw hL rfl (by decide) hy (by omega) (by decide) okX
    skip
    have mG:Mod [] H G:=mX.step k3 hok fun q hq=>.inr (hid q hq).1
    simp only[g6,hy,k1,zW,seval]
    exact aj ⟨mG,by rw[ext_nil]; exact (k3.bk (by omega) fun h=>(hid _ h).2 rfl).trans kb,by have:=k3.next; rw[ai]; omega,by simp only[g0,aW,seval],by simp only[g3,aW,seval],w',by simp only[aW],k2,fun q hq=>⟨by have:=k4 q hq; have:=mX.next; omega,by have:=k4 q hq; omega⟩⟩
  rintro E X ⟨mX,kb,hbX,g0,g3,w,g6,hw,hid⟩
  obtain⟨y,hy⟩:=Go.Ax.bP X.next
  have okX:=mX.ok hok
  have yb:X.base<=y:=hy▸okX
  rw[hy]at hbX
  have hln:([0]++(if (k.bold)=true then [1] else [])).length<=2:=by
   simp only[zB4,apply_ite List.length,zB0,zB6]
   (repeat' split)<;>omega
  rw[show X=ext X [] from rfl]
  simp only[g3,hy,kb,hbX,dQ,Nq,zW,seval]
  refine gZ (Ry H (b+0) v k ([0]++(if (k.bold)=true then [1] else [])++(if (k.under)=true then [4] else []))) ?_ ?_
  ·obtain⟨z,hz⟩:=Go.Ax.bP ((k.under))
   rw[hz]
   cases z with
   |false =>
    rw[show (if false=true then [4] else [])=([]:List Nat) from rfl,zD0]
    simp only[lh]
    exact aj ⟨mX,kb,by rw[ext_nil,hy]; exact hbX,by simp only[g0,aW,seval],by simp only[g3,aW,seval],w,by simp only[g6,aW,seval],hw,hid⟩
   |true =>
    rw[show (if true=true then [4] else [])=([4]:List Nat) from rfl]
    have hL:nV [4]=[.int .i64 4]:=by
     rfl
    obtain⟨w',G,k1,k2,k3,k4⟩:=wX (cs:=[4]) (L:=[.int .i64 4]) (k:=1) hw hL rfl (by decide) hy (by omega) (by decide) okX
    skip
    have mG:Mod [] H G:=mX.step k3 hok fun q hq=>.inr (hid q hq).1
    simp only[g6,hy,k1,zW,seval]
    exact aj ⟨mG,by rw[ext_nil]; exact (k3.bk (by omega) fun h=>(hid _ h).2 rfl).trans kb,by have:=k3.next; rw[ai]; omega,by simp only[g0,aW,seval],by simp only[g3,aW,seval],w',by simp only[aW],k2,fun q hq=>⟨by have:=k4 q hq; have:=mX.next; omega,by have:=k4 q hq; omega⟩⟩
  rintro E X ⟨mX,kb,hbX,g0,g3,w,g6,hw,hid⟩
  obtain⟨y,hy⟩:=Go.Ax.bP X.next
  have okX:=mX.ok hok
  have yb:X.base<=y:=hy▸okX
  rw[hy]at hbX
  have hln:([0]++(if (k.bold)=true then [1] else [])++(if (k.under)=true then [4] else [])).length<=3:=by
   simp only[zB4,apply_ite List.length,zB0,zB6]
   (repeat' split)<;>omega
  rw[show X=ext X [] from rfl]
  simp only[g3,hy,kb,hbX,dQ,Nq,zW,seval]
  refine gZ (Ry H (b+0) v k ([0]++(if (k.bold)=true then [1] else [])++(if (k.under)=true then [4] else [])++(if (k.inv)=true then [7] else []))) ?_ ?_
  ·obtain⟨z,hz⟩:=Go.Ax.bP ((k.inv))
   rw[hz]
   cases z with
   |false =>
    rw[show (if false=true then [7] else [])=([]:List Nat) from rfl,zD0]
    simp only[lh]
    exact aj ⟨mX,kb,by rw[ext_nil,hy]; exact hbX,by simp only[g0,aW,seval],by simp only[g3,aW,seval],w,by simp only[g6,aW,seval],hw,hid⟩
   |true =>
    rw[show (if true=true then [7] else [])=([7]:List Nat) from rfl]
    have hL:nV [7]=[.int .i64 7]:=by
     rfl
    obtain⟨w',G,k1,k2,k3,k4⟩:=wX (cs:=[7]) (L:=[.int .i64 7]) (k:=1) hw hL rfl (by decide) hy (by omega) (by decide) okX
    skip
    have mG:Mod [] H G:=mX.step k3 hok fun q hq=>.inr (hid q hq).1
    simp only[g6,hy,k1,zW,seval]
    exact aj ⟨mG,by rw[ext_nil]; exact (k3.bk (by omega) fun h=>(hid _ h).2 rfl).trans kb,by have:=k3.next; rw[ai]; omega,by simp only[g0,aW,seval],by simp only[g3,aW,seval],w',by simp only[aW],k2,fun q hq=>⟨by have:=k4 q hq; have:=mX.next; omega,by have:=k4 q hq; omega⟩⟩
  rintro E X ⟨mX,kb,hbX,g0,g3,w,g6,hw,hid⟩
  obtain⟨y,hy⟩:=Go.Ax.bP X.next
  have okX:=mX.ok hok
  have yb:X.base<=y:=hy▸okX
  rw[hy]at hbX
  have hln:([0]++(if (k.bold)=true then [1] else [])++(if (k.under)=true then [4] else [])++(if (k.inv)=true then [7] else [])).length<=4:=by
   simp only[zB4,apply_ite List.length,zB0,zB6]
   (repeat' split)<;>omega
  rw[show X=ext X [] from rfl]
  simp only[g3,hy,kb,hbX,dQ,Nq,zW,seval]
  refine gZ (Ry H (b+0) v k ([0]++(if (k.bold)=true then [1] else [])++(if (k.under)=true then [4] else [])++(if (k.inv)=true then [7] else [])++(if (decide (0<k.fore))=true then [38,5,(k.fore-1).toNat] else []))) ?_ ?_
  ·obtain⟨z,hz⟩:=Go.Ax.bP ((decide (0<k.fore)))
   rw[hz]
   cases z with
   |false =>
    rw[show (if false=true then [38,5,(k.fore-1).toNat] else [])=([]:List Nat) from rfl,zD0]
    simp only[lh]
    exact aj ⟨mX,kb,by rw[ext_nil,hy]; exact hbX,by simp only[g0,aW,seval],by simp only[g3,aW,seval],w,by simp only[g6,aW,seval],hw,hid⟩
   |true =>
    rw[show (if true=true then [38,5,(k.fore-1).toNat] else [])=([38,5,(k.fore-1).toNat]:List Nat) from rfl]
    have hL:nV [38,5,(k.fore-1).toNat]=[.int .i64 38,.int .i64 5,.int .i64 (k.fore-1)]:=by
     have h1:=of_decide_eq_true hz
     have h2:(((k.fore-1).toNat:Nat):Int)=k.fore-1:=by omega
     simp only[nV,zC0,zF4,h2]
     rfl
    obtain⟨w',G,k1,k2,k3,k4⟩:=wX (cs:=[38,5,(k.fore-1).toNat]) (L:=[.int .i64 38,.int .i64 5,.int .i64 (k.fore-1)]) (k:=3) hw hL rfl (by decide) hy (by omega) (by decide) okX
    have w1:IntKind.i64.wrap (k.fore-1)=k.fore-1:=by rw[IntKind.wrap_i64]; omega
    have mG:Mod [] H G:=mX.step k3 hok fun q hq=>.inr (hid q hq).1
    simp only[g3,g6,hy,kb,hbX,dQ,Nq,k1,w1,zW,seval]
    exact aj ⟨mG,by rw[ext_nil]; exact (k3.bk (by omega) fun h=>(hid _ h).2 rfl).trans kb,by have:=k3.next; rw[ai]; omega,by simp only[g0,aW,seval],by simp only[g3,aW,seval],w',by simp only[aW],k2,fun q hq=>⟨by have:=k4 q hq; have:=mX.next; omega,by have:=k4 q hq; omega⟩⟩
  rintro E X ⟨mX,kb,hbX,g0,g3,w,g6,hw,hid⟩
  obtain⟨y,hy⟩:=Go.Ax.bP X.next
  have okX:=mX.ok hok
  have yb:X.base<=y:=hy▸okX
  rw[hy]at hbX
  have hln:([0]++(if (k.bold)=true then [1] else [])++(if (k.under)=true then [4] else [])++(if (k.inv)=true then [7] else [])++(if (decide (0<k.fore))=true then [38,5,(k.fore-1).toNat] else [])).length<=7:=by
   simp only[zB4,apply_ite List.length,zB0,zB6]
   (repeat' split)<;>omega
  rw[show X=ext X [] from rfl]
  simp only[g3,hy,kb,hbX,dQ,Nq,zW,seval]
  refine gZ (Ry H (b+0) v k ([0]++(if (k.bold)=true then [1] else [])++(if (k.under)=true then [4] else [])++(if (k.inv)=true then [7] else [])++(if (decide (0<k.fore))=true then [38,5,(k.fore-1).toNat] else [])++(if (decide (0<k.back))=true then [48,5,(k.back-1).toNat] else []))) ?_ ?_
  ·obtain⟨z,hz⟩:=Go.Ax.bP ((decide (0<k.back)))
   rw[hz]
   cases z with
   |false =>
    rw[show (if false=true then [48,5,(k.back-1).toNat] else [])=([]:List Nat) from rfl,zD0]
    simp only[lh]
    exact aj ⟨mX,kb,by rw[ext_nil,hy]; exact hbX,by simp only[g0,aW,seval],by simp only[g3,aW,seval],w,by simp only[g6,aW,seval],hw,hid⟩
   |true =>
    rw[show (if true=true then [48,5,(k.back-1).toNat] else [])=([48,5,(k.back-1).toNat]:List Nat) from rfl]
    have hL:nV [48,5,(k.back-1).toNat]=[.int .i64 48,.int .i64 5,.int .i64 (k.back-1)]:=by
     have h1:=of_decide_eq_true hz
     have h2:(((k.back-1).toNat:Nat):Int)=k.back-1:=by omega
     simp only[nV,zC0,zF4,h2]
     rfl
    obtain⟨w',G,k1,k2,k3,k4⟩:=wX (cs:=[48,5,(k.back-1).toNat]) (L:=[.int .i64 48,.int .i64 5,.int .i64 (k.back-1)]) (k:=3) hw hL rfl (by decide) hy (by omega) (by decide) okX
    have w1:IntKind.i64.wrap (k.back-1)=k.back-1:=by rw[IntKind.wrap_i64]; omega
    have mG:Mod [] H G:=mX.step k3 hok fun q hq=>.inr (hid q hq).1
    simp only[g3,g6,hy,kb,hbX,dQ,Nq,k1,w1,zW,seval]
    exact aj ⟨mG,by rw[ext_nil]; exact (k3.bk (by omega) fun h=>(hid _ h).2 rfl).trans kb,by have:=k3.next; rw[ai]; omega,by simp only[g0,aW,seval],by simp only[g3,aW,seval],w',by simp only[aW],k2,fun q hq=>⟨by have:=k4 q hq; have:=mX.next; omega,by have:=k4 q hq; omega⟩⟩
  rintro E X ⟨mX,kb,hbX,g0,g3,w,g6,hw,hid⟩
  have okX:=mX.ok hok
  obtain⟨y,hy⟩:=Go.Ax.bP X.next
  have yb:X.base<=y:=hy▸okX
  have key:[0]++(if (k.bold)=true then [1] else [])++(if (k.under)=true then [4] else [])++(if (k.inv)=true then [7] else [])++(if (decide (0<k.fore))=true then [38,5,(k.fore-1).toNat] else [])++(if (decide (0<k.back))=true then [48,5,(k.back-1).toNat] else [])=j8 k:=by
   simp only[j8,decide_eq_true_eq,zD3,zE7,zC1]
  rw[key]at hw
  have vX:du X 5 1 v (ay l) l.length:=hv.of mX.next fun q hq=>mX.get q (hv.ne q hq).2 (by simp)
  have hnl:(j8 k).length<=20:=by
   rw[<-key]
   simp only[zB4,apply_ite List.length,zB0,zB6]
   (repeat' split)<;>omega
  have hn9:∀ n∈j8 k,n<=9999:=fun n hn=>by
   rw[<-key]at hn
   simp only[zB2,List.mem_ite_nil_right,zA7,zD2,or_false]at hn
   omega
  rw[show X=ext X [] from rfl]
  simp only[g0,g6,zW,seval]
  refine (LL (ext X []) (t.mod mX (by simp)) v w l (j8 k) 109 vX hl hw.rd hn9 hnl h2 (fun n hn h=>by have:=(hid n h).1; have:=(hv.ne n hn).2; omega) okX).mono ?_
  rintro out Y ⟨m1,u,rfl,u1,u2⟩
  rw[show Y=ext Y [] from rfl]
  simp only[Tryz.results51,zW,seval]
  refine⟨(mX.mono (by simp)).trans m1,u,rfl,u1,fun n hn=>?_⟩
  rcases u2 n hn with h|h
  ·exact .inl h
  ·exact .inr (zC3 mX.next h)
 ·rw[if_neg hc]
  by_cases c1:k.fore<0
  ·have d1:decide (k.fore<0)=true:=decide_eq_true c1
   simp only[hb,d1,Tryz.results51,zW,seval]
   exact⟨mE _,_,rfl,rfl⟩
  have d1:decide (k.fore<0)=false:=decide_eq_false c1
  by_cases c2:256<k.fore
  ·have d2:decide (256<k.fore)=true:=decide_eq_true c2
   simp only[hb,d1,d2,Tryz.results51,zW,seval]
   exact⟨mE _,_,rfl,rfl⟩
  have d2:decide (256<k.fore)=false:=decide_eq_false c2
  by_cases c3:k.back<0
  ·have d3:decide (k.back<0)=true:=decide_eq_true c3
   simp only[hb,d1,d2,d3,Tryz.results51,zW,seval]
   exact⟨mE _,_,rfl,rfl⟩
  have d3:decide (k.back<0)=false:=decide_eq_false c3
  by_cases c4:256<k.back
  ·have d4:decide (256<k.back)=true:=decide_eq_true c4
   simp only[hb,d1,d2,d3,d4,Tryz.results51,zW,seval]
   exact⟨mE _,_,rfl,rfl⟩
  refine absurd ?_ hc
  unfold mh
  simp only[zA4,decide_eq_true_eq]
  omega
set_option maxRecDepth 100000
theorem Bb {H:aa} {v:Value} {l:List UInt8} {s:ByteArray} (hv:du H 5 1 v (ay l) l.length) (hl:l.length<=3500000) (hs:s.size<=1000000000) (hok:H.base<=H.next) :
  ∃ u G,aD Tryz.prog H .append ⟨[25,9]⟩ [v,.string s]=some (u,G)/\du G 5 1 u (ay (l++s.data.toList)) (l++s.data.toList).length/\Mod (ae v) H G/\∀ n∈ae u,n∈ae v\/H.next<=n:=by
 have a1:Tryz.prog.underlying 25=some (.slice 5):=by kernel_rfl
 have a2:bh Tryz.prog 5=some 1:=by kernel_rfl
 have a3:bytesOf Tryz.prog 5=some 1:=by kernel_rfl
 have a4:zeroOf Tryz.prog 5=some (.int .u8 0):=by kernel_rfl
 have a5:fj Tryz.prog 9=some false:=by kernel_rfl
 have hsz:s.size=s.data.toList.length:=Array.length_toList.symm
 by_cases h0:0<s.size
 ·obtain⟨G,g1,g2,g3,g4⟩:=H7 (P:=Tryz.prog) (st:=25) (xt:=9) (e:=5) (by1:=1) (z:=.int .u8 0) (s:=s) a1 a2 a3 a4 rfl a5 hv h0 (by simp only[small,zA4,zE6]; omega) rfl (nh _ _)
  refine⟨_,G,g1,?_,g3 hok,fun n hn=>.inr (by simp only[ae,zA5]at hn; omega)⟩
  rw[ji,zB4,<-hsz]
  exact g2
 ·have hnil:s.data.toList=[]:=zE9 (by omega)
  have hx:iY (.string s)=some 0:=by rw[iY]; congr 1; omega
  have hf:cO H 1 0 (.string s)=some []:=rfl
  rw[hnil,zD0]
  obtain⟨q1,q2,⟨h0,rfl⟩|⟨h0,n,rfl,hb,hlt⟩⟩:=id hv
  ·exact⟨_,H,Qa a1 a2 a3 a4 rfl a5 hx hf,hv,Mod.refl,fun n hn=>.inl hn⟩
  ·have hw:=ku (H:=H) (L:=[]) (n:=n) (off:=0+l.length*1) (vs:=[]) hlt hb (by simp only[zB6,hJ]; omega) rfl rfl
   have ha:=LU (P:=Tryz.prog) (H:=H) (st:=25) (xt:=9) (m:=n) (off:=0) (k:=l.length) (cap:=l.length) (sp:=none) (x:=.string s) a1 a2 a3 a4 rfl a5 hx hf (by simp) (by omega) (by simp only[small,zA4,zE6]; omega)
   rw[show dV H n (0+l.length*1) []=dV (ext H []) n (0+l.length*1) [] from rfl,hw,zA9]at ha
   refine⟨_,_,ha,?_,Mod.uw (by simp[ae]),fun q hq=>.inl hq⟩
   refine⟨q1,q2,.inr ⟨h0,n,rfl,?_,by rw[ai,b6]; simpa using hlt⟩⟩
   show bk (uw H n (0+l.length*1) []) n=_
   rw[bR,hb]
   have putnil:∀ (l:List Value) (k:Nat),cL l k []=l:=fun l=>by
    induction l with
    |nil=>intro k; cases k<;>rfl
    |cons x l ih=>intro k; cases k with
     |zero=>rfl
     |succ k=>exact congrArg (x::·) (ih k)
   simp[Og,putnil]
def RM (s:ByteArray):Option (List UInt8):=match fU s.data.toList with
 |none=>none
 |some l=>if l.all I2=true then some s.data.toList else none
theorem FO (H:aa) (t:Go.Proofs.YtpohjcacnkhnkaaGreatDoor.yO H) (h2n:2<=H.next) (v:Value) (l:List UInt8) (s:ByteArray) (hv:du H 5 1 v (ay l) l.length) (hl:l.length<=3100000) (hs:s.size<=1000000000) (h2:∀ n∈ae v,2<n) (hok:H.base<=H.next) :
  bF Tryz.prog 52 [v,.string s] H (EN H v l (RM s)):=by
 obtain⟨b,hb⟩:=Go.Ax.bP H.next
 obtain⟨r,hr⟩:=Go.Ax.bP (fU s.data.toList)
 have hcv:∀ (X:aa) (m:Int),cj Tryz.prog X 21 3 (.int .i32 m)=some (.int .i64 (IntKind.i64.wrap m),X):=fun X m=>iL (u:=.int .i32) (by kernel_rfl) (by kernel_rfl)
 have e1:=AT (H:=ext H []) (s:=s) u9
 refine aG mixed Tryz.func52 rfl Tryz.ntmps52 (zA6 rfl) ?_
 simp only[CH,e1,zW,seval]
 refine eT fun E hE=>?_
 have g0:E 0=v:=by rw[hE]; rfl
 have g1:E 1=.string s:=by rw[hE]; rfl
 have g10:E 10=.pointer (some ⟨H.next,0,none⟩):=by rw[hE]; rfl
 have g4:E 4=.slice none 0 0:=by rw[hE]; rfl
 have g5:E 5=.bool false:=by rw[hE]; rfl
 clear hE
 refine bE (fun E' X=>Mod [] H X/\E' 0=v/\E' 1=.string s/\∀ cs,r=some cs->cs.all I2=true) ?_ ?_
 ·refine cU (fun (p:Nat) E' X=>Mod [] H X/\X.get H.next=some (F0 s p)/\H.next<X.next/\p<=s.data.toList.length/\(∀ cs,r=some cs->∃ dn l',cs=dn++l'/\fU (s.data.toList.drop p)=some l'/\dn.all I2=true)/\E' 0=v/\E' 1=.string s/\E' 10=.pointer (some ⟨H.next,0,none⟩)/\E' 4=.slice none 0 0/\E' 5=.bool false) (fun p=>s.data.toList.length-p) 0
   ⟨Mod.new hok,by rw[aa.fA,if_pos (show H.next=(ext H []).next from rfl)],zD9 _,zB7 _,fun cs h=>⟨[],cs,rfl,by rw[zD1,hr,h],rfl⟩,g0,g1,g10,g4,g5⟩ ?_
  clear g0 g1 g4 g5 g10 E
  rintro p E X ⟨m,hit,hlt,hps,hcs,g0,g1,g10,g4,g5⟩
  rw[show X=ext X [] from rfl]
  by_cases h0:p<s.data.toList.length
  ·have hl0:0<(s.data.toList.drop p).length:=by rw[zD8]; omega
   have hpt:=lE _ hl0
   have hdec:=FA _ hl0
   rw[Go.Lib.decodeL_drop]at hdec
   have hst:=kr _ hl0
   obtain⟨c,hc⟩:∃ c:Nat,(Utf8.decode s p).1=c:=⟨_,rfl⟩
   obtain⟨n,hn⟩:=Go.Ax.bP ((Utf8.decode s p).2)
   have hnx:=DP (H:=ext X []) (n:=H.next) (p:=p) (s:=s) hit (by rw[pq]; exact h0)
   rw[hc,hn]at hnx hdec
   obtain⟨Y,hY⟩:=Go.Ax.bP (X.cE H.next (some (F0 s (p+n))))
   have mY:Mod [H.next] X Y:=hY▸Mod.cE (by simp)
   have hYn:Y.next=X.next:=by rw[<-hY]; rfl
   have hYit:Y.get H.next=some (F0 s (p+n)):=by rw[<-hY,aa.eY,if_pos rfl]
   rw[show (ext X []).cE H.next (some (F0 s (p+n)))=ext Y [] from hY]at hnx
   have mHY:Mod [] H Y:=m.step mY hok (fun q hq=>.inr (by simp only[zA5]at hq; omega))
   have hn1:1<=n/\p+n<=s.data.toList.length/\c<2000000000:=by
    rcases hdec with⟨d1,d2,d3⟩|⟨d1,d2,d3,_⟩
    ·omega
    ·rw[zD8]at hpt
     omega
   have hw:IntKind.i64.wrap (c:Int)=c:=aQ (by omega) (by omega)
   -- a character that cannot be displayed
   have bad:I2 c=false->RM s=none:=fun hp=>by
    unfold RM
    rw[hr]
    cases r with
    |none=>rfl
    |some cs =>
     obtain⟨dn,l',rfl,h3,h4⟩:=hcs cs rfl
     rw[hst]at h3
     rcases hdec with⟨d1,_⟩|⟨d1,d2,_⟩
     ·rw[if_pos d1]at h3; cases h3
     ·rw[if_neg d1]at h3
      obtain⟨l2,_,rfl⟩:=zB3.1 h3
      rw[d2]
      simp only[List.all_append,List.all_cons,hp,Bool.false_and,Bool.and_false]
      rfl
   have good:I2 c=true->∀ cs,r=some cs->∃ dn l',cs=dn++l'/\fU (s.data.toList.drop (p+n))=some l'/\dn.all I2=true:=fun hp cs h=>by
    obtain⟨dn,l',rfl,h3,h4⟩:=hcs cs h
    rw[hst]at h3
    rcases hdec with⟨d1,_⟩|⟨d1,d2,d3,_⟩
    ·rw[if_pos d1]at h3; cases h3
    ·rw[if_neg d1]at h3
     obtain⟨l2,h5,rfl⟩:=zB3.1 h3
     refine⟨dn++[(c:Int)],l2,by rw[d2]; simp,?_,by simp[h4,hp]⟩
     rw[zG3,d3,zG6]at h5
     exact h5
   have hbY:∀ L,Mod (ae v) H (ext Y L):=fun L=>(mHY.mono (by simp)).trans (Mod.ext (mHY.ok hok))
   by_cases c1:(c:Int)<32
   ·have d1:decide ((c:Int)<32)=true:=decide_eq_true c1
    rw[bad (by unfold I2; rw[d1]; rfl)]
    simp only[g10,pQ,hnx,bQ,hcv,hw,d1,eF,Tryz.results52,zW,seval]
    exact⟨hbY [],_,rfl,rfl⟩
   have d1:decide ((c:Int)<32)=false:=decide_eq_false c1
   by_cases c2:(c:Int)=127
   ·have d2:decide ((c:Int)=127)=true:=decide_eq_true c2
    rw[bad (by unfold I2; rw[d2]; simp)]
    simp only[g10,pQ,hnx,bQ,hcv,hw,d1,d2,eF,Tryz.results52,zW,seval]
    exact⟨hbY [],_,rfl,rfl⟩
   have d2:decide ((c:Int)=127)=false:=decide_eq_false c2
   simp only[g10,pQ,hnx,bQ,hcv,hw,d1,d2,zW,seval]
   refine (Go.Proofs.YtpohjcacnkhnkaaGreatDoor.gW (ext Y []) c).to ?_
   by_cases c3:((Go.Proofs.YtpohjcacnkhnkaaGreatDoor.dI (c:Int):Nat):Int)=0
   ·have d3:decide (((Go.Proofs.YtpohjcacnkhnkaaGreatDoor.dI (c:Int):Nat):Int)=0)=true:=decide_eq_true c3
    rw[bad (by unfold I2; rw[decide_eq_true (show dI c=0 by rw[<-xH]; omega)]; simp)]
    simp only[d3,eF,Tryz.results52,zW,seval]
    exact⟨hbY [],_,rfl,rfl⟩
   ·have d3:decide (((Go.Proofs.YtpohjcacnkhnkaaGreatDoor.dI (c:Int):Nat):Int)=0)=false:=decide_eq_false c3
    simp only[d3,zW,seval]
    refine aM ⟨p+n,by omega,mHY,?_,?_,by omega,good (by unfold I2; rw[d1,d2,decide_eq_false (show ¬dI c=0 by rw[<-xH]; omega)]; rfl),by simp only[g0,aW,seval],by simp only[g1,aW,seval],by simp only[g10,aW,seval],by simp only[g4,aW,seval],by simp only[g5,aW,seval]⟩
    ·rw[show (ext Y []).get H.next=Y.get H.next from rfl,hYit]
    ·rw[show (ext Y []).next=Y.next from rfl]; omega
  ·have hnx:=EJ (H:=ext X []) (n:=H.next) (p:=p) (s:=s) hit (by rw[pq]; exact h0)
   simp only[g10,pQ,hnx,zW,seval]
   refine aj ⟨m,by simp only[g0,aW,seval],by simp only[g1,aW,seval],fun cs h=>?_⟩
   obtain⟨dn,l',rfl,h3,h4⟩:=hcs cs h
   rw[zF1 (by omega),na]at h3
   cases h3
   simpa using h4
 clear g0 g1 g4 g5 g10 E
 rintro E X ⟨m,g0,g1,hall⟩
 have okX:=m.ok hok
 have vX:du X 5 1 v (ay l) l.length:=hv.of m.next fun q hq=>m.get q (hv.ne q hq).2 (by simp)
 obtain⟨u,G,k1,k2,k3,k4⟩:=Bb (s:=s) vX (by omega) hs okX
 have mG:Mod (ae v) H G:=(m.mono (by simp)).trans k3
 have t01:∀ q,q<2->q∉ae v:=fun q h h'=>by have:=h2 q h'; omega
 have tlt:∀ q,q<2->q<H.next:=fun q h=>by omega
 have tG:Go.Proofs.YtpohjcacnkhnkaaGreatDoor.yO G:=t.of (mG.get 0 (tlt 0 (by omega)) (t01 0 (by omega))) (mG.get 1 (tlt 1 (by omega)) (t01 1 (by omega)))
 have hvd:=Go.Proofs.YtpohjcacnkhnkaaGreatDoor.Iq (ext G []) tG s (by omega)
 rw[sP _ _ (zA8 _),hr]at hvd
 rw[show X=ext X [] from rfl]at k1 ⊢
 simp only[g0,g1,k1,zW,seval]
 refine hvd.to ?_
 simp only[Tryz.results52,zW,seval]
 unfold RM
 rw[hr]
 cases r with
 |none=>exact⟨mG,u,rfl,cM (zA8 _) _ k2.sc⟩
 |some cs =>
  simp only
  rw[if_pos (hall cs rfl)]
  refine⟨mG,u,rfl,k2,fun n hn=>?_⟩
  rcases k4 n hn with h|h
  ·exact .inl h
  ·exact .inr (zC3 m.next h)
set_option maxRecDepth 100000
theorem Hb {X:aa} (t:Pow X) {v:Value} {l:List UInt8} {ns:List Nat} {f:UInt8} {L:List Value} {k y:Nat} {fi:Int} (hv:du X 5 1 v (ay l) l.length) (hl:l.length<=3100000) (hL:nV ns=L) (hk:ns.length=k) (h0:0<k) (hf:(f.toNat:Int)=fi) (hn:∀ n∈ns,n<=9999) (hns:k<=20) (h2:2∉ae v) (hy:X.next=y) (hok:X.base<=X.next) :
  bF Tryz.prog 50 [v,.int .u8 fi,.slice (some ⟨y+0,0,some 0⟩) k k] (ext X [⟨3,false,L⟩]) (No X v (l++fW ns f)):=by
 subst hL hk hf
 have m1:Mod [] X (ext X [⟨3,false,nV ns⟩]):=Mod.ext hok
 have kb:bk (ext X [⟨3,false,nV ns⟩]) (y+0)=some ⟨3,false,nV ns⟩:=by rw[bu hy (by simp)]; rfl
 refine (LL _ (t.mod m1 (by simp)) v _ l ns f (hv.of m1.next fun q hq=>m1.get q (hv.ne q hq).2 (by simp)) hl ⟨by rw[jV,zE8],.inr ⟨h0,_,_,_,_,_,_,_,rfl,jR kb,by rw[ai,hy]; simp,by rw[jV]; omega,by rw[zD1,zD6 (by rw[jV]; omega)]⟩⟩ hn hns h2 (fun n hn h=>by
  simp only[ae,zA5]at h
  have:=(hv.ne n hn).2
  omega) (m1.ok hok)).mono ?_
 intro out Y h
 exact No.trans (m1.mono (by simp)) (fun n hn=>.inl hn) hok h
theorem Pq {X:aa} (t:Pow X) {v:Value} {l:List UInt8} {f:UInt8} {fi:Int} (hv:du X 5 1 v (ay l) l.length) (hl:l.length<=3100000) (hf:(f.toNat:Int)=fi) (h2:2∉ae v) (hok:X.base<=X.next) :
  bF Tryz.prog 50 [v,.int .u8 fi,.slice none 0 0] (ext X []) (No X v (l++fW [] f)):=by
 subst hf
 exact LL X t v _ l [] f hv hl oR.nil (by simp) (by simp) h2 (fun n _ h=>by simp[ae]at h) hok
def Sl (o:yX) (up:Bool):Option (List UInt8) :=
 if 0<=o.row/\o.row<=o.col/\o.col<=9998/\1<=o.n/\o.n<=o.col-o.row+1 then some (uI o.row.toNat o.col.toNat o.n.toNat up) else none
theorem D5 (H:aa) (t:Pow H) (v:Value) (l:List UInt8) (o:yX) (up:Bool) (hv:du H 5 1 v (ay l) l.length) (hl:l.length<=3000000) (h2:2∉ae v) (hok:H.base<=H.next) :
  bF Tryz.prog 53 [v,o.val,.int .u8 (cond up 77 76)] H (EN H v l (Sl o up)):=by
 obtain⟨b,hb⟩:=Go.Ax.bP H.next
 obtain⟨kind,row,col,n,look,text⟩:=o
 refine aG mixed Tryz.func53 rfl Tryz.ntmps53 (zA6 rfl) ?_
 have mE:∀ L,Mod (ae v) H (ext H L):=fun L=>Mod.ext hok
 unfold Sl Op.val Op.cells
 simp only
 by_cases c1:row<0
 ·have d1:decide (row<0)=true:=decide_eq_true c1
  rw[if_neg (by omega)]
  simp only[hb,d1,Tryz.results53,zW,seval]
  exact⟨mE _,_,rfl,rfl⟩
 have d1:decide (row<0)=false:=decide_eq_false c1
 by_cases c2:col<row
 ·have d2:decide (col<row)=true:=decide_eq_true c2
  rw[if_neg (by omega)]
  simp only[hb,d1,d2,Tryz.results53,zW,seval]
  exact⟨mE _,_,rfl,rfl⟩
 have d2:decide (col<row)=false:=decide_eq_false c2
 by_cases c3:9998<col
 ·have d3:decide (9998<col)=true:=decide_eq_true c3
  rw[if_neg (by omega)]
  simp only[hb,d1,d2,d3,Tryz.results53,zW,seval]
  exact⟨mE _,_,rfl,rfl⟩
 have d3:decide (9998<col)=false:=decide_eq_false c3
 by_cases c4:n<1
 ·have d4:decide (n<1)=true:=decide_eq_true c4
  rw[if_neg (by omega)]
  simp only[hb,d1,d2,d3,d4,Tryz.results53,zW,seval]
  exact⟨mE _,_,rfl,rfl⟩
 have d4:decide (n<1)=false:=decide_eq_false c4
 have w1:IntKind.i64.wrap (col-row)=col-row:=by rw[IntKind.wrap_i64]; omega
 have w2:IntKind.i64.wrap (col-row+1)=col-row+1:=by rw[IntKind.wrap_i64]; omega
 by_cases c5:col-row+1<n
 ·have d5:decide (col-row+1<n)=true:=decide_eq_true c5
  rw[if_neg (by omega)]
  simp only[hb,d1,d2,d3,d4,d5,w1,w2,Tryz.results53,zW,seval]
  exact⟨mE _,_,rfl,rfl⟩
 have d5:decide (col-row+1<n)=false:=decide_eq_false c5
 rw[if_pos (by omega)]
 have w3:IntKind.i64.wrap (row+1)=row+1:=by rw[IntKind.wrap_i64]; omega
 have w4:IntKind.i64.wrap (col+1)=col+1:=by rw[IntKind.wrap_i64]; omega
 obtain⟨O,hO⟩:=Go.Ax.bP ([Value.int .i64 kind,.int .i64 row,.int .i64 col,.int .i64 n,.int .i64 look.fore,.int .i64 look.back,.bool look.bold,.bool look.under,.bool look.inv,.string text])
 obtain⟨X0,hX0⟩:=Go.Ax.bP (ext H [⟨58,false,O⟩])
 have m0:Mod [] H X0:=hX0▸Mod.ext hok
 have n0:X0.next=b+1:=by rw[<-hX0,ai,hb]; rfl
 have kb0:bk X0 (b+0)=some ⟨58,false,O⟩:=by rw[<-hX0,bu hb (by simp)]; rfl
 have v0:du X0 5 1 v (ay l) l.length:=hv.of m0.next fun q hq=>m0.get q (hv.ne q hq).2 (by simp)
 have hvb:∀ q∈ae v,q<b:=fun q hq=>hb▸(hv.ne q hq).2
 obtain⟨G,g1,g2,g3,g4⟩:=wK (cs:=[27,55]) (L:=[.int .u8 27,.int .u8 55]) (k:=2) v0 rfl rfl (by decide) (by omega) (by decide) n0 (m0.ok hok)
 have hE:ext X0 [⟨5,false,[.int .u8 27,.int .u8 55]⟩]=ext H [⟨58,false,[Value.int .i64 kind,.int .i64 row,.int .i64 col,.int .i64 n,.int .i64 look.fore,.int .i64 look.back,.bool look.bold,.bool look.under,.bool look.inv,.string text]⟩,⟨5,false,[.int .u8 27,.int .u8 55]⟩]:=by rw[<-hX0,<-hO,jr]; rfl
 rw[hE]at g1
 have mG:Mod (ae v) H G:=(m0.mono (by simp)).trans g3
 have kG:bk G (b+0)=some ⟨58,false,O⟩:=(g3.bk (by omega) fun h=>by have:=hvb _ h; omega).trans kb0
 have bG:G.base<=b+3:=by have:=mG.ok hok; omega
 have nG:G.next=b+3:=by omega
 have bl3:b+0<b+3:=by omega
 rw[<-hO]at kG
 have t2:2<b:=hb▸t.1
 simp only[hb,d1,d2,d3,d4,d5,w1,w2,w3,w4,g1,kG,nG,bl3,dQ,zW,seval]
 have tG:=t.mod mG h2
 have e1:(((row.toNat+1:Nat)):Int)=row+1:=by omega
 have e2:(((col.toNat+1:Nat)):Int)=col+1:=by omega
 refine (Hb (ns:=[row.toNat+1,col.toNat+1]) (f:=114) tG g2 (by simp only[zB4,zB0,zB6]; omega) (by simp only[nV,zC0,zF4,e1,e2]) rfl (Nat.succ_pos 1) rfl (by simp only[zA7,zD2,or_false]; rintro q (rfl|rfl)<;>omega) (by simp) (by simp only[ae,zA5]; omega) nG (mG.ok hok)).mono ?_
 have key:∀ {X Y:aa} {w u:Value},Mod (ae v) H X->(∀ q∈ae w,b+1<=q)->bk X (b+0)=some ⟨58,false,[Value.int .i64 kind,.int .i64 row,.int .i64 col,.int .i64 n,.int .i64 look.fore,.int .i64 look.back,.bool look.bold,.bool look.under,.bool look.inv,.string text]⟩->b+1<=X.next->Mod (ae w) X Y->(∀ n∈ae u,n∈ae w\/X.next<=n) ->
   Mod (ae v) H Y/\(∀ q∈ae u,b+1<=q)/\bk Y (b+0)=some ⟨58,false,[Value.int .i64 kind,.int .i64 row,.int .i64 col,.int .i64 n,.int .i64 look.fore,.int .i64 look.back,.bool look.bold,.bool look.under,.bool look.inv,.string text]⟩/\b+1<=Y.next:=fun mX hw kX hX mY hu =>
  ⟨mX.step mY hok fun q hq=>.inr (by have:=hw q hq; omega),fun q hq=>(hu q hq).elim (hw q) fun h=>by omega,(mY.bk (by omega) fun h=>by have:=hw _ h; omega).trans kX,by have:=mY.next; omega⟩
 have w5:∀ q∈ae (Value.slice (some ⟨b+1+1,0,none⟩) (l.length+2) (l.length+2)),b+1<=q:=fun q hq=>by simp only[ae,zA5]at hq; omega
 have lc:∀ (l:List UInt8) (a:List Nat) (f:UInt8),a.length<=2->(l++fW a f).length<=l.length+13:=fun l a f h=>by
  have:=join_le a
  simp only[fW,zB4,zB0,zB6]
  omega
 rintro out Y ⟨mY,u,rfl,u1,u2⟩
 obtain⟨mY,hu,kY,bY⟩:=key mG w5 kG (by omega) mY u2
 have lY:=lc (l++[27,55]) [row.toNat+1,col.toNat+1] 114 (by simp)
 have l0:(l++[27,55]).length=l.length+2:=by simp
 obtain⟨y,ny⟩:=Go.Ax.bP Y.next
 have okY:=mY.ok hok
 have bby:Y.base<=y:=ny▸okY
 have ly:b+0<y:=by omega
 rw[show Y=ext Y [] from rfl]
 simp only[ny,ly,kY,w3,dQ,zW,seval]
 have e3:(((0+1:Nat)):Int)=1:=rfl
 refine (Hb (ns:=[row.toNat+1,0+1]) (f:=72) (t.mod mY h2) u1 (by omega) (by simp only[nV,zC0,zF4,e1,e3]) rfl (Nat.succ_pos 1) rfl (by simp only[zA7,zD2,or_false]; rintro q (rfl|rfl)<;>omega) (by simp) (fun h=>by have:=hu _ h; omega) ny okY).mono ?_
 rintro out Z ⟨mZ,u',rfl,u1',u2'⟩
 obtain⟨mZ,hu',kZ,bZ⟩:=key mY hu kY bY mZ u2'
 have lZ:=lc (l++[27,55]++fW [row.toNat+1,col.toNat+1] 114) [row.toNat+1,0+1] 72 (by simp)
 clear ny bby ly
 obtain⟨y,ny⟩:=Go.Ax.bP Z.next
 have okZ:=mZ.ok hok
 have ly:b+0<y:=by omega
 rw[show Z=ext Z [] from rfl]
 simp only[ny,ly,kZ,dQ,zW,seval]
 have e4:((n.toNat:Nat):Int)=n:=by omega
 refine (Hb (ns:=[n.toNat]) (f:=cond up 77 76) (t.mod mZ h2) u1' (by omega) (by simp only[nV,zC0,zF4,e4]) rfl (Nat.succ_pos 0) (by cases up<;>rfl) (by simp only[zA7,zD2,or_false]; rintro q rfl; omega) (by simp) (fun h=>by have:=hu' _ h; omega) ny okZ).mono ?_
 rintro out W ⟨mW,u,rfl,u1,u2⟩
 obtain⟨mW,hu,kW,bW⟩:=key mZ hu' kZ bZ mW u2
 have lW:=lc (l++[27,55]++fW [row.toNat+1,col.toNat+1] 114++fW [row.toNat+1,0+1] 72) [n.toNat] (cond up 77 76) (by simp)
 have okW:=mW.ok hok
 rw[show W=ext W [] from rfl]
 simp only[zW,seval]
 refine (Pq (X:=W) (f:=114) (t.mod mW h2) u1 (by omega) rfl (fun h=>by have:=hu _ h; omega) okW).mono ?_
 rintro out V ⟨mV,u',rfl,u1',u2'⟩
 obtain⟨mV,hu',kV,bV⟩:=key mW hu kW bW mV u2'
 have lV:=lc (l++[27,55]++fW [row.toNat+1,col.toNat+1] 114++fW [row.toNat+1,0+1] 72++fW [n.toNat] (cond up 77 76)) [] 114 (by simp)
 obtain⟨y,ny⟩:=Go.Ax.bP V.next
 have okV:=mV.ok hok
 obtain⟨G',g1,g2,g3,g4⟩:=wK (cs:=[27,56]) (L:=[.int .u8 27,.int .u8 56]) (k:=2) u1' rfl rfl (by decide) (by omega) (by decide) ny okV
 rw[show V=ext V [] from rfl]
 simp only[ny,g1,Tryz.results53,zW,seval]
 have mF:Mod (ae v) H G':=mV.step g3 hok fun q hq=>.inr (by have:=hu' q hq; omega)
 refine⟨mF,_,rfl,?_,fun q hq=>.inr (by simp only[ae,zA5]at hq; omega)⟩
 have eq:l++uI row.toNat col.toNat n.toNat up=l++[27,55]++fW [row.toNat+1,col.toNat+1] 114++fW [row.toNat+1,0+1] 72++fW [n.toNat] (cond up 77 76)++fW [] 114++[27,56]:=by
  simp only[uI,zD3]
 rw[eq]
 exact g2
set_option maxRecDepth 100000
theorem EN.trans {H X Y:aa} {v:Value} {l:List UInt8} {r:Option (List UInt8)} {out:Out} (m:Mod [] H X) (h:EN X v l r out Y):EN H v l r out Y:=by
 obtain⟨a,b⟩:=h
 refine⟨(m.mono (by simp)).trans a,?_⟩
 cases r with
 |none=>exact b
 |some cs =>
  obtain⟨u,e,u1,u2⟩:=b
  exact⟨u,e,u1,fun n hn=>(u2 n hn).imp id fun h=>zC3 m.next h⟩
theorem EN.two {H Y:aa} {v:Value} {l:List UInt8} {r:Option (List UInt8)} {out:Out} (h:EN H v l r out Y):∃ a z,out=.ok (.tuple #[a,.bool z]):=by
 obtain⟨a,b⟩:=h
 cases r with
 |none=>obtain⟨x,e,_⟩:=b; exact⟨x,false,e⟩
 |some cs=>obtain⟨u,e,_⟩:=b; exact⟨u,true,e⟩
def Ps (H:aa):Prop:=2<H.next/\Go.Proofs.YtpohjcacnkhnkaaGreatDoor.yO H/\Pow H
theorem Ps.mod {H G:aa} {W:List Nat} (t:Ps H) (m:Mod W H G) (h:∀ n∈W,2<n):Ps G :=
 ⟨zD5 t.1 m.next,t.2.1.of (m.get 0 (by have:=t.1; omega) fun h'=>by have:=h _ h'; omega) (m.get 1 (by have:=t.1; omega) fun h'=>by have:=h _ h'; omega),t.2.2.mod m fun h'=>by have:=h _ h'; omega⟩
theorem LZ (H:aa) (t:Ps H) (v:Value) (l:List UInt8) (o:yX) (hv:du H 5 1 v (ay l) l.length) (hl:l.length<=3000000) (hs:o.kind=3->o.text.size<=1000000000) (h2:∀ n∈ae v,2<n) (hok:H.base<=H.next) :
  bF Tryz.prog 24 [v,o.val] H (EN H v l (l9 o)):=by
 obtain⟨b,hb⟩:=Go.Ax.bP H.next
 obtain⟨kind,row,col,n,look,text⟩:=o
 refine aG mixed Tryz.func24 rfl Tryz.ntmps24 (zA6 rfl) ?_
 have mE:∀ L,Mod (ae v) H (ext H L):=fun L=>Mod.ext hok
 unfold l9 Op.val Op.cells
 simp only
 obtain⟨O,hO⟩:=Go.Ax.bP ([Value.int .i64 kind,.int .i64 row,.int .i64 col,.int .i64 n,.int .i64 look.fore,.int .i64 look.back,.bool look.bold,.bool look.under,.bool look.inv,.string text])
 obtain⟨X0,hX0⟩:=Go.Ax.bP (ext H [⟨58,false,O⟩])
 have m0:Mod [] H X0:=hX0▸Mod.ext hok
 have n0:X0.next=b+1:=by rw[<-hX0,ai,hb]; rfl
 have v0:du X0 5 1 v (ay l) l.length:=hv.of m0.next fun q hq=>m0.get q (hv.ne q hq).2 (by simp)
 have t0:=t.mod m0 (by simp)
 have ok0:=m0.ok hok
 have h20:2∉ae v:=fun h=>by have:=h2 _ h; omega
 have hX:ext H [⟨58,false,[Value.int .i64 kind,.int .i64 row,.int .i64 col,.int .i64 n,.int .i64 look.fore,.int .i64 look.back,.bool look.bold,.bool look.under,.bool look.inv,.string text]⟩]=X0:=by rw[hO]; exact hX0
 -- what a call answers is passed on
 have pass:∀ {r:Option (List UInt8)} {out:Out} {Y:aa},EN X0 v l r out Y->∃ a z,out=.ok (.tuple #[a,.bool z])/\EN H v l r (.ok (.tuple #[a,.bool z])) Y:=fun h=>by
  obtain⟨a,z,rfl⟩:=h.two
  exact⟨a,z,rfl,EN.trans m0 h⟩
 by_cases k1:kind=1
 ·have d1:decide (kind=1)=true:=decide_eq_true k1
  rw[if_pos k1]
  by_cases c1:min row col<0
  ·have e1:decide (min row col<0)=true:=decide_eq_true c1
   rw[if_neg (by omega)]
   simp only[hb,d1,e1,Tryz.results24,zW,seval]
   exact⟨mE _,_,rfl,rfl⟩
  have e1:decide (min row col<0)=false:=decide_eq_false c1
  by_cases c2:9998<max row col
  ·have e2:decide (9998<max row col)=true:=decide_eq_true c2
   rw[if_neg (by omega)]
   simp only[hb,d1,e1,e2,Tryz.results24,zW,seval]
   exact⟨mE _,_,rfl,rfl⟩
  have e2:decide (9998<max row col)=false:=decide_eq_false c2
  rw[if_pos (by omega)]
  have w3:IntKind.i64.wrap (row+1)=row+1:=by rw[IntKind.wrap_i64]; omega
  have w4:IntKind.i64.wrap (col+1)=col+1:=by rw[IntKind.wrap_i64]; omega
  have e3:(((row.toNat+1:Nat)):Int)=row+1:=by omega
  have e4:(((col.toNat+1:Nat)):Int)=col+1:=by omega
  simp only[hb,d1,e1,e2,w3,w4,zW,seval]
  have hXL:ext H [⟨58,false,[Value.int .i64 kind,.int .i64 row,.int .i64 col,.int .i64 n,.int .i64 look.fore,.int .i64 look.back,.bool look.bold,.bool look.under,.bool look.inv,.string text]⟩,⟨3,false,[.int .i64 (row+1),.int .i64 (col+1)]⟩]=ext X0 [⟨3,false,[.int .i64 (row+1),.int .i64 (col+1)]⟩]:=by rw[<-hX,jr]; rfl
  rw[hXL]
  refine (Hb (ns:=[row.toNat+1,col.toNat+1]) (f:=72) t0.2.2 v0 (by omega) (by simp only[nV,zC0,zF4,e3,e4]) rfl (Nat.succ_pos 1) rfl (by simp only[zA7,zD2,or_false]; rintro q (rfl|rfl)<;>omega) (by simp) h20 n0 ok0).mono ?_
  rintro out Y ⟨mY,u,rfl,u1,u2⟩
  rw[show Y=ext Y [] from rfl]
  simp only[Tryz.results24,zW,seval]
  exact EN.trans m0 ⟨mY,u,rfl,u1,u2⟩
 have d1:decide (kind=1)=false:=decide_eq_false k1
 rw[if_neg k1]
 by_cases k2:kind=2
 ·have d2:decide (kind=2)=true:=decide_eq_true k2
  rw[if_pos k2]
  simp only[hb,d1,d2,zW,seval]
  rw[hX]
  refine (PS X0 t0.2.2 v l look v0 (by omega) h20 ok0).mono ?_
  intro out Y h
  obtain⟨a,z,rfl,h'⟩:=pass h
  rw[show Y=ext Y [] from rfl]
  simp only[Tryz.results24,zW,seval]
  exact h'
 have d2:decide (kind=2)=false:=decide_eq_false k2
 rw[if_neg k2]
 by_cases k3:kind=3
 ·have d3:decide (kind=3)=true:=decide_eq_true k3
  rw[if_pos k3]
  simp only[hb,d1,d2,d3,zW,seval]
  rw[hX]
  refine (FO X0 t0.2.1 (by have:=t0.1; omega) v l text v0 (by omega) (hs k3) h2 ok0).mono ?_
  intro out Y h
  obtain⟨a,z,rfl,h'⟩:=pass h
  rw[show Y=ext Y [] from rfl]
  simp only[Tryz.results24,zW,seval]
  exact h'
 have d3:decide (kind=3)=false:=decide_eq_false k3
 rw[if_neg k3]
 by_cases k4:kind=4
 ·have d4:decide (kind=4)=true:=decide_eq_true k4
  rw[if_pos k4]
  simp only[hb,d1,d2,d3,d4,zW,seval]
  rw[hX]
  refine (Pq (X:=X0) (f:=75) t0.2.2 v0 (by omega) rfl h20 ok0).mono ?_
  rintro out Y ⟨mY,u,rfl,u1,u2⟩
  rw[show Y=ext Y [] from rfl]
  simp only[Tryz.results24,zW,seval]
  exact EN.trans m0 ⟨mY,u,rfl,u1,u2⟩
 have d4:decide (kind=4)=false:=decide_eq_false k4
 rw[if_neg k4]
 by_cases k5:kind=5
 ·have d5:decide (kind=5)=true:=decide_eq_true k5
  rw[if_pos (.inl k5),d5]
  simp only[hb,d1,d2,d3,d4,d5,zW,seval]
  rw[hX]
  refine (D5 X0 t0.2.2 v l ⟨kind,row,col,n,look,text⟩ true v0 hl h20 ok0).mono ?_
  intro out Y h
  obtain⟨a,z,rfl,h'⟩:=pass h
  rw[show Y=ext Y [] from rfl]
  simp only[Tryz.results24,zW,seval]
  exact h'
 have d5:decide (kind=5)=false:=decide_eq_false k5
 by_cases k6:kind=6
 ·have d6:decide (kind=6)=true:=decide_eq_true k6
  rw[if_pos (.inr k6),d5]
  simp only[hb,d1,d2,d3,d4,d5,d6,zW,seval]
  rw[hX]
  refine (D5 X0 t0.2.2 v l ⟨kind,row,col,n,look,text⟩ false v0 hl h20 ok0).mono ?_
  intro out Y h
  obtain⟨a,z,rfl,h'⟩:=pass h
  rw[show Y=ext Y [] from rfl]
  simp only[Tryz.results24,zW,seval]
  exact h'
 have d6:decide (kind=6)=false:=decide_eq_false k6
 rw[if_neg (by omega)]
 by_cases k7:kind=7
 ·have d7:decide (kind=7)=true:=decide_eq_true k7
  rw[if_pos k7]
  obtain⟨u,G,g1,g2,g3,g4⟩:=Bb (s:=⟨#[27,91,63,50,53,104]⟩) v0 (by omega) (by decide) ok0
  simp only[hb,d1,d2,d3,d4,d5,d6,d7,zW,seval]
  rw[hX,g1,show G=ext G [] from rfl]
  simp only[Tryz.results24,zW,seval]
  exact EN.trans m0 ⟨g3,u,rfl,g2,g4⟩
 have d7:decide (kind=7)=false:=decide_eq_false k7
 rw[if_neg k7]
 by_cases k8:kind=8
 ·have d8:decide (kind=8)=true:=decide_eq_true k8
  rw[if_pos k8]
  obtain⟨u,G,g1,g2,g3,g4⟩:=Bb (s:=⟨#[27,91,63,50,53,108]⟩) v0 (by omega) (by decide) ok0
  simp only[hb,d1,d2,d3,d4,d5,d6,d7,d8,zW,seval]
  rw[hX,g1,show G=ext G [] from rfl]
  simp only[Tryz.results24,zW,seval]
  exact EN.trans m0 ⟨g3,u,rfl,g2,g4⟩
 have d8:decide (kind=8)=false:=decide_eq_false k8
 rw[if_neg k8]
 simp only[hb,d1,d2,d3,d4,d5,d6,d7,d8,Tryz.results24,zW,seval]
 exact⟨mE _,_,rfl,rfl⟩
set_option maxRecDepth 100000
theorem vn (o:yX):∀ l:List yX,fF (l++[o])=(fF l).bind fun b=>(l9 o).map (b++·)
 |[]=>by
  have h0:fF []=some []:=rfl
  rw[zC1,h0,fF,h0]
  cases l9 o<;>simp
 |a::l=>by
  rw[zE7,fF,vn o l,fF]
  cases l9 a with
  |none=>rfl
  |some x =>
   cases fF l with
   |none=>rfl
   |some y =>
    cases l9 o<;>simp
theorem x6 {o:yX} (h:l9 o=none):∀ {l:List yX},o∈l->fF l=none
 |a::l,hm=>by
  rw[fF]
  rcases zA7.1 hm with rfl|hm
  ·rw[h]
  ·rw[x6 h hm]
   cases l9 a<;>rfl
theorem D1 {o:yX} {l:List yX} {k:Nat} (h:l[k]?=some o):fF (l.take (k+1))=(fF (l.take k)).bind fun b=>(l9 o).map (b++·):=by
 rw[List.take_add_one,h,Option.toList_some,vn]
theorem AF {l:List yX} (hB:∀ o∈l,∀ b,l9 o=some b->b.length<=400):∀ {b},fF l=some b->b.length<=400*l.length:=by
 induction l with
 |nil=>intro b h; cases h; simp
 |cons a l ih =>
  intro b h
  rw[fF]at h
  cases ha:l9 a with
  |none=>rw[ha]at h; cases h
  |some x =>
   cases hl:fF l with
   |none=>rw[ha,hl]at h; cases h
   |some y =>
    rw[ha,hl]at h
    cases h
    have h1:=hB a (by simp) x ha
    have h2:=ih (fun o ho=>hB o (by simp[ho])) hl
    rw[zB4,zB0]
    omega
def Sy (H:aa) (r:Option (List UInt8)) (out:Out) (X:aa):Prop :=
 Mod [] H X/\match r with
  |some cs=>∃ u,out=.ok (.tuple #[u,.int .i64 0])/\du X 5 1 u (ay cs) cs.length/\∀ n∈ae u,H.next<=n
  |none=>out=.ok (.tuple #[.slice none 0 0,.int .i64 5])
theorem OF (H:aa) (t:Ps H) (v:Value) (l:List yX) (hv:jB H v l) (hl:l.length<=7500) (hB:∀ o∈l,∀ b,l9 o=some b->b.length<=400) (hs:∀ o∈l,o.kind=3->o.text.size<=1000000000) (hsc:aS H.next v=true) (hok:H.base<=H.next) :
  bF Tryz.prog 7 [v] H (Sy H (fF l)):=by
 obtain⟨va,vc,ev⟩:=hv.sl
 refine aG mixed Tryz.func7 rfl Tryz.ntmps7 (zA6 rfl) ?_
 rw[ev]
 simp only[zW,seval]
 rw[<-ev]
 refine eT fun E hE=>?_
 have g8:E 8=v:=by rw[hE]; rfl
 have g9:E 9=.int .i64 (l.length:Int):=by rw[hE]; rfl
 have g10:E 10=.int .i64 ((0:Nat):Int):=by rw[hE]; rfl
 have g4:E 4=.slice none 0 0:=by rw[hE]; rfl
 clear hE
 refine cU (fun (q:Nat × List UInt8 × Value) E' X=>q.1<=l.length/\Mod [] H X/\fF (l.take q.1)=some q.2.1/\du X 5 1 q.2.2 (ay q.2.1) q.2.1.length/\(∀ n∈ae q.2.2,H.next<=n)/\E' 4=q.2.2/\E' 8=v/\E' 9=.int .i64 (l.length:Int)/\E' 10=.int .i64 (q.1:Int)) (fun q=>l.length-q.1) (0,[],.slice none 0 0) ⟨zB7 _,Mod.refl,rfl,du.nil,fun n hn=>by simp[ae]at hn,g4,g8,g9,g10⟩ ?_
 clear g4 g8 g9 g10 E
 rintro⟨i,bs,u⟩ E X ⟨hi,mX,hbs,vX,lu,g4,g8,g9,g10⟩
 simp only at hi hbs vX lu g4 g10
 have okX:=mX.ok hok
 obtain⟨y,hy⟩:=Go.Ax.bP X.next
 have yb:X.base<=y:=hy▸okX
 have hnx:=mX.next
 have hbl:=AF (fun o ho=>hB o (zF6 ho)) hbs
 rw[List.length_take,Nat.min_eq_left hi]at hbl
 have hvX:jB X v l:=hv.of mX.next fun n hn=>mX.get n (fD _ hsc n hn) (by simp)
 rw[show X=ext X [] from rfl]
 by_cases hil:i<l.length
 ·have hd:decide ((i:Int)<(l.length:Int))=true:=decide_eq_true (by omega)
  obtain⟨o,hoi⟩:∃ o,l[i]?=some o:=⟨_,zB1 hil⟩
  have hom:=zB9 hoi
  rcases hvX with⟨hnil,_⟩|⟨_,n,off,s,c,e,op,L,e1,r1,n1,hle,hL⟩
  ·rw[hnil]at hil; simp at hil
  have i1:=O2 (cap:=c) (n:=n) (off:=off) (s:=s) (i:=(i:Int)) rfl hil
  have l1:=IH (e:=e) (o:=op) hoi hle hL
  rw[hy]at n1
  rw[e1]at g8
  have hw1:IntKind.i64.wrap ((i:Int)+1)=((i+1:Nat):Int):=by rw[IntKind.wrap_i64]; omega
  unfold Op.val Op.cells at l1
  simp only[g4,g8,g9,g10,hy,yb,hd,i1,n1,r1,l1,dQ,zW,seval]
  obtain⟨X1,hX1⟩:=Go.Ax.bP (ext X [⟨58,false,[Value.int .i64 o.kind,.int .i64 o.row,.int .i64 o.col,.int .i64 o.n,.int .i64 o.look.fore,.int .i64 o.look.back,.bool o.look.bold,.bool o.look.under,.bool o.look.inv,.string o.text]⟩])
  have m1:Mod [] X X1:=hX1▸Mod.ext okX
  have mX1:=mX.trans m1
  have vX1:du X1 5 1 u (ay bs) bs.length:=vX.of m1.next fun q hq=>m1.get q (vX.ne q hq).2 (by simp)
  have t2:=t.1
  rw[hX1]
  refine (LZ X1 (t.mod mX1 (by simp)) u bs o vX1 (by omega) (hs o hom) (fun q hq=>by have:=lu q hq; omega) (mX1.ok hok)).mono ?_
  intro out Y h
  obtain⟨mY,h⟩:=h
  have mHY:Mod [] H Y:=mX1.step mY hok fun q hq=>.inr (lu q hq)
  have hst:=D1 hoi
  rw[hbs,zA3]at hst
  cases he:l9 o with
  |none =>
   rw[he]at h
   obtain⟨x,rfl,hx⟩:=h
   rw[show Y=ext Y [] from rfl]
   simp only[Tryz.results7,zW,seval]
   rw[x6 he hom]
   exact⟨mHY,rfl⟩
  |some cs =>
   rw[he]at h hst
   obtain⟨w,rfl,w1,w2⟩:=h
   rw[show Y=ext Y [] from rfl]
   simp only[g10,hw1,zW,seval]
   refine aM ⟨(i+1,bs++cs,w),by simp only; omega,by simp only; omega,mHY,hst,w1,fun q hq=>(w2 q hq).elim (lu q) fun h=>zC3 mX1.next h,by simp only[aW,seval],by simp only[g8,e1,aW,seval],by simp only[g9,aW,seval],by simp only[aW]⟩
 ·have hd:decide ((i:Int)<(l.length:Int))=false:=decide_eq_false (by omega)
  simp only[g4,g9,g10,hd,Tryz.results7,zW,seval]
  rw[zD6 (by omega)]at hbs
  rw[hbs]
  exact⟨mX,u,rfl,vX,lu⟩
end Go.Proofs.YtpohjcacnkhnkaaGreatDoor.Tq
namespace Go.Ax
section
variable {P : Program} {ro : Option Nat} {H : aa} {N : Nat} {E : Env} {ds : List Deferred}
theorem O1 {f:FuncId} {x:Operand} {args:List Operand} {ts:Array TypeId} {dst:Option Nat} {ops:Array Oper} {rest:List Oper} {ty:TypeId} {pos:String} {after:Array Edge} {Q:Exit->ag->aa->Prop} {fs ca:List Value} (hx:bj P N x=true) (hv:cm E x=.func (.func f) ⟨fs⟩ ⟨ca⟩) (ha:args.all (bj P N)=true) (hb:aF P f=true)
  (h:bF P f (fs++args.map (cm E)++ca) H (EP P ro ops rest (bA N E ds) dst Q)) :
  wpOps P ro ops (⟨dst,.call ⟨.value x,⟨args⟩,ts⟩,ty,pos,after,none⟩::rest) (bA N E ds) H Q:=by
 rw[xc rfl rfl]
 simp only[zi,ck,kc,cp ha,aE hx,hv,zA1,zA3,oA,fq,iU,hb,if_true,zA9,mn]
 exact h
end
end Go.Ax
namespace Go.Proofs.YtpohjcacnkhnkaaGreatDoor.Tq
open Go.Ax
def nm (H:aa) (v:Value) (l:List UInt8):Prop :=
 (∃ a,v=.slice a l.length l.length)/\∀ (k:Nat) (c:UInt8),l[k]?=some c->∃ n off,aP Tryz.prog 25 v (.int .i64 (k:Int))=some (.pointer (some ⟨n,off,none⟩))/\n∈ae v/\∀ q,oL Tryz.prog 5 off (EO (bk H n) q)=some (jU c)
theorem nm.of {H G:aa} {v:Value} {l:List UInt8} (h:nm H v l) (hg:∀ n∈ae v,G.get n=H.get n):nm G v l :=
 ⟨h.1,fun k c hk=>by
  obtain⟨n,off,h1,h2,h3⟩:=h.2 k c hk
  exact⟨n,off,h1,h2,fun q=>by rw[bg (hg n h2)]; exact h3 q⟩⟩
theorem Mz {H:aa} {n:Nat} {o:Bool} {sp:Option Nat} {l:List UInt8} (h:bk H n=some ⟨5,o,ay l⟩):nm H (.slice (some ⟨n,0,sp⟩) l.length l.length) l :=
 ⟨⟨_,rfl⟩,fun k c hk=>by
  have hlt:k<l.length:=by
   rcases zC2 k l.length with h'|h'
   ·exact h'
   ·rw[zC5 h']at hk; cases hk
  refine⟨n,0+k,IJ rfl hlt,by simp[ae],fun q=>?_⟩
  rw[h,iM,kF (by kernel_rfl),zB8,xS,hk]
  rfl⟩
def Tm.byte (t:Tm) (c:UInt8):Tm × Nat:=match t.mode with
 |0=>t.plain fL c
 |1=>t.second c
 |2=>(t,0)
 |3=>t.parameter c
 |_=>t.ignore c
def Tm.jG (t:Tm) (m:Nat):Tm:={t with mode:=m}
theorem step_eq (t:Tm) (c:UInt8):t.step fL c=(t.byte c).1.jG (t.byte c).2:=by
 unfold Tm.step Tm.byte
 match t.mode with
 |0=>rfl
 |1=>rfl
 |2=>rfl
 |3=>rfl
 |_+4=>rfl
theorem Tm.Sz.jG {x:Tm} (s:x.Sz) {m:Nat} (h:m<5):(x.jG m).Sz :=
 ⟨s.h1,s.h2,s.w1,s.w2,s.ws,s.r1,s.r2,s.c1,s.c2,s.sr1,s.sr2,s.sc1,s.sc2,s.t1,s.t2,s.t3,h,s.hd⟩
theorem r6:∀ (k:Nat) (x:Tm),x.Sz->(Tm.drain fL k x).1.Sz/\(Tm.drain fL k x).2<5/\(Tm.drain fL k x).1.params=x.params/\(Tm.drain fL k x).1.rest.length<=x.rest.length
 |0,x,s=>⟨s,by simp[Tm.drain],rfl,zA8 _⟩
 |k+1,x,s=>by
  rw[Tm.drain]
  by_cases h:x.rest≠[]/\fL.full x.rest=true
  ·rw[if_pos h]
   by_cases h2:x.rest.headD 0=27
   ·rw[if_pos h2]
    exact⟨s.aT [],by simp,rfl,by simp⟩
   ·rw[if_neg h2]
    obtain⟨r,n,e⟩:∃ r n,fL.dec x.rest=(r,n):=⟨_,_,rfl⟩
    simp only[e]
    obtain⟨y,hy⟩:=Go.Ax.bP ((if r≠65533\/n>1 then x.character fL r else x))
    rw[hy]
    have sy:y.Sz/\y.params=x.params/\y.rest=x.rest:=by
     rw[<-hy]
     split
     ·exact⟨s.character r,(gf fL x r).2,(gf fL x r).1⟩
     ·exact⟨s,rfl,rfl⟩
    obtain⟨q1,q2,q3,q4⟩:=r6 k (y.aT (y.rest.drop n)) (sy.1.aT _)
    refine⟨q1,q2,q3.trans sy.2.1,zC3 q4 ?_⟩
    simp only[Tm.aT,zD8,sy.2.2]
    omega
  ·rw[if_neg h]
   exact⟨s,by simp,rfl,zA8 _⟩
theorem ot (x:Tm) (l:List Int):(x.cX l).params=x.params/\(x.cX l).rest=x.rest:=by
 unfold Tm.cX
 split
 ·exact⟨rfl,rfl⟩
 ·split
  ·exact⟨rfl,rfl⟩
  ·split<;>exact⟨rfl,rfl⟩
theorem rr (l:List Int):∀ (k i:Nat) (x:Tm),(Tm.eJ l i k x).params=x.params/\(Tm.eJ l i k x).rest=x.rest
 |0,_,_=>⟨rfl,rfl⟩
 |k+1,i,x=>by
  rw[kI]
  obtain⟨a,b⟩:=rr l k (i+1) (x.dS l i)
  rw[a,b]
  unfold Tm.dS
  split<;>exact⟨rfl,rfl⟩
theorem FN (x:Tm) (f:UInt8) (l:List Int):(x.dK f l).params=x.params/\(x.dK f l).rest=x.rest:=by
 cases hf:nI f.toNat with
 |none=>rw[xR hf]; exact⟨rfl,rfl⟩
 |some g =>
  unfold Tm.dK
  by_cases h0:f=65
  ·rw[if_pos h0]; exact⟨rfl,rfl⟩
  rw[if_neg h0]
  by_cases h1:f=66
  ·rw[if_pos h1]; exact⟨rfl,rfl⟩
  rw[if_neg h1]
  by_cases h2:f=67
  ·rw[if_pos h2]; exact⟨rfl,rfl⟩
  rw[if_neg h2]
  by_cases h3:f=68
  ·rw[if_pos h3]; exact⟨rfl,rfl⟩
  rw[if_neg h3]
  by_cases h4:f=71
  ·rw[if_pos h4]; exact⟨rfl,rfl⟩
  rw[if_neg h4]
  by_cases h5:f=100
  ·rw[if_pos h5]; exact⟨rfl,rfl⟩
  rw[if_neg h5]
  by_cases h6:f=72\/f=102
  ·rw[if_pos h6]; exact⟨rfl,rfl⟩
  rw[if_neg h6]
  by_cases h7:f=74
  ·rw[if_pos h7]
   obtain⟨a,b⟩:=rr l x.ah.length 0 (x.cX l)
   exact⟨a.trans (ot x l).1,b.trans (ot x l).2⟩
  rw[if_neg h7]
  by_cases h8:f=75
  ·rw[if_pos h8]; exact ot x l
  rw[if_neg h8]
  by_cases h9:f=76
  ·rw[if_pos h9]; unfold Tm.lines; split<;>exact⟨rfl,rfl⟩
  rw[if_neg h9]
  by_cases h10:f=77
  ·rw[if_pos h10]; unfold Tm.lines; split<;>exact⟨rfl,rfl⟩
  rw[if_neg h10]
  by_cases h11:f=109
  ·rw[if_pos h11]; exact⟨rfl,rfl⟩
  rw[if_neg h11]
  by_cases h12:f=114
  ·rw[if_pos h12,tA]; split<;>exact⟨rfl,rfl⟩
  rw[if_neg h12]; exact⟨rfl,rfl⟩
theorem xD (x:Tm) (f:UInt8):(x.fw f).params=x.params/\(x.fw f).rest=x.rest:=by
 unfold Tm.fw
 split
 ·exact⟨rfl,rfl⟩
 ·split
  ·exact FN x f _
  ·exact⟨rfl,rfl⟩
theorem Cl {x:Tm} (s:x.Sz) (hp:x.params.length<=65) (c:UInt8):(x.byte c).1.Sz/\(x.byte c).2<5/\(x.byte c).1.params.length<=65/\(x.byte c).1.rest.length<=x.rest.length+1:=by
 unfold Tm.byte
 split
 ·obtain⟨a,b,d,e⟩:=r6 (x.rest.length+2) (x.aT (x.rest++[c])) (s.aT _)
  refine⟨a,b,?_,?_⟩
  ·show (Tm.drain fL (x.rest.length+2) (x.aT (x.rest++[c]))).1.params.length<=65
   rw[d]; exact hp
  ·refine zC3 e ?_
   simp[Tm.aT]
 ·refine⟨s.second c,?_⟩
  unfold Tm.second
  by_cases h1:c=91
  ·rw[if_pos h1]; exact⟨by simp,by simp,by simp⟩
  rw[if_neg h1]
  by_cases h2:c=93
  ·rw[if_pos h2]; exact⟨by simp,hp,by simp⟩
  rw[if_neg h2]
  by_cases h3:c=27
  ·rw[if_pos h3]; exact⟨by simp,hp,by simp⟩
  rw[if_neg h3]
  by_cases h4:32<=c/\c<48
  ·rw[if_pos h4]; exact⟨by simp,hp,by simp⟩
  rw[if_neg h4]
  by_cases h5:c=55
  ·rw[if_pos h5]; exact⟨by simp,hp,by simp⟩
  rw[if_neg h5]
  by_cases h6:c=56
  ·rw[if_pos h6]; exact⟨by simp,hp,by simp⟩
  rw[if_neg h6]
  by_cases h7:c=99
  ·rw[if_pos h7]; exact⟨by simp,by simp[Tm.new],by simp[Tm.new]⟩
  rw[if_neg h7]
  by_cases h8:c=77/\x.row=x.top
  ·rw[if_pos h8]; exact⟨by simp,hp,by simp[Tm.fN]⟩
  rw[if_neg h8]
  by_cases h9:c=77
  ·rw[if_pos h9]; exact⟨by simp,hp,by simp⟩
  rw[if_neg h9]; exact⟨by simp,hp,by simp⟩
 ·exact⟨s,by simp,hp,by simp⟩
 ·refine⟨s.parameter c,?_⟩
  unfold Tm.parameter
  by_cases h1:c=27
  ·rw[if_pos h1]; exact⟨by simp,hp,by simp⟩
  rw[if_neg h1]
  by_cases h2:64<=c/\c<=126
  ·rw[if_pos h2]
   simp only
   split
   ·obtain⟨a,b⟩:=xD x c
    rw[a,b]
    exact⟨by omega,hp,by omega⟩
   ·exact⟨by simp,hp,by simp⟩
  rw[if_neg h2]
  by_cases h3:c<32\/c>126\/(c ≥ 48/\x.middle=true)
  ·rw[if_pos h3]; exact⟨by simp,hp,by simp⟩
  rw[if_neg h3]
  simp only
  split
  ·rename_i h
   exact⟨by simp,by simp only[zB4,zB0,zB6]at h ⊢; omega,by simp⟩
  ·exact⟨by simp,hp,by simp⟩
 ·unfold Tm.ignore
  split
  ·exact⟨s,by simp,hp,by simp⟩
  ·exact⟨s.EE c,by simp,hp,by simp⟩
theorem Qt (H:aa) (p:Rp) (x:Tm) (c:UInt8) (g:cd H p x) (s:x.Sz) (ok:H.base<=H.next) (tb:tj H) (p0:0∉p.aJ) (p1:1∉p.aJ) (hrl:x.rest.length<=900) (hpl:x.params.length<=65) :
  gF (41+x.mode) [jU c] H p (.int .i64 ((x.byte c).2:Int)) (x.byte c).1:=by
 have hm:=s.md
 have hq:x.mode=0\/x.mode=1\/x.mode=2\/x.mode=3\/x.mode=4:=by omega
 unfold Tm.byte
 rcases hq with h|h|h|h|h<;>rw[h]
 ·exact Ns H p x c g s ok tb p0 p1 hrl
 ·exact Kc H p x c g s ok
 ·exact (Qd H p x c).to ⟨rfl,p,Step.refl g⟩
 ·exact CF H p x c g s ok hpl
 ·exact LK H p x c g ok
theorem JN (x:Tm) (l:List UInt8) (c:UInt8):x.feed fL (l++[c])=(x.feed fL l).step fL c:=by
 simp[Tm.feed]
theorem PG (H:aa) (p:Rp) (x:Tm) (v:Value) (bs:List UInt8) (g:cd H p x) (s:x.Sz) (ok:H.base<=H.next) (tb:tj H) (p0:0∉p.aJ) (p1:1∉p.aJ) (hb:nm H v bs) (hvlt:∀ n∈ae v,n<H.next) (hv:∀ n∈ae v,n∉p.aJ) (hrl:∀ k,(x.feed fL (bs.take k)).rest.length<=900) (hbl:bs.length<=3000000) (hpl:x.params.length<=65) :
  bF Tryz.prog 21 [.pointer (some ⟨p.t,0,none⟩),v] H fun out H1=>out=.ok (.int .i64 0)/\(∃ p',Step H p H1 p' (x.feed fL bs)):=by
 obtain⟨b,hn⟩:∃ b,H.next=b:=⟨_,rfl⟩
 have hbb:H.base<=b:=hn▸ok
 have hT:p.t<b:=hn▸g.lt p.t (by simp[Rp.aJ])
 obtain⟨av,hve⟩:=hb.1
 obtain⟨L,hL⟩:∃ L,bs.length=L:=⟨_,rfl⟩
 rw[hL]at hve hbl
 refine aG mixed Tryz.func21 rfl Tryz.ntmps21 (zA6 rfl) ?_
 rw[hve]
 simp (maxDischargeDepth:=6) only[zW,seval]
 refine (Mh (ext H []) p x g s).to ?_
 simp (maxDischargeDepth:=6) only[hn,hbb,hT,zW,seval]
 generalize hH0:ext H [_]=H0
 have mH:Mod [] H H0:=hH0▸Mod.ext ok
 have ok0:=mH.ok ok
 have g0':cd H0 p x:=g.of mH.next fun n hn'=>mH.get n (g.lt n hn') (by simp)
 have tb0:tj H0:=by
  have b0:=mH.bk tb.l0 (by simp)
  have b1:=mH.bk tb.l1 (by simp)
  exact⟨fun a ha=>by rw[b0]; exact tb.f a ha,fun i hi=>by rw[b1]; exact tb.a i hi,mH.lt tb.l0,mH.lt tb.l1⟩
 have hH0n:H0.next=b+1:=by rw[<-hH0,ai,hn]; rfl
 have hfun:∀ m:Nat,m<5->∀ q,oL Tryz.prog 85 m (EO (bk H0 (b+0)) q)=some (.func (.func (41+m)) ⟨[.pointer (some ⟨p.t,0,none⟩)]⟩ ⟨[]⟩):=by
  intro m hm q
  rw[<-hH0,bu hn (by simp),zF5,iM]
  have:m=0\/m=1\/m=2\/m=3\/m=4:=by omega
  rcases this with rfl|rfl|rfl|rfl|rfl<;>exact kF (by kernel_rfl)
 have hb0:nm H0 v bs:=hb.of fun n hn'=>mH.get n (hvlt n hn') (by simp)
 have hv0:∀ n∈ae v,n<H0.next:=fun n hn'=>mH.lt (hvlt n hn')
 have hp0n:b+0∉p.aJ:=fun h=>by have:=g.lt _ h; omega
 refine eT fun E hE=>?_
 have f0:E 0=.pointer (some ⟨p.t,0,none⟩):=by rw[hE]; simp only[aW,seval]
 have f5:E 5=.pointer (some ⟨b+0,0,none⟩):=by rw[hE]; simp only[aW,seval]
 have f22:E 22=.slice av L L:=by rw[hE]; simp only[aW,seval]
 have f23:E 23=.int .i64 (L:Int):=by rw[hE]; simp only[aW,seval]
 have f24:E 24=.int .i64 ((0:Nat):Int):=by rw[hE]; (simp only[aW]<;>rfl)
 clear hE
 have hbody:∀ m:Nat,m<5->aF Tryz.prog (41+m)=true:=by
  intro m hm
  have:m=0\/m=1\/m=2\/m=3\/m=4:=by omega
  have hall:([41,42,43,44,45].all (aF Tryz.prog))=true:=by kernel_rfl
  have hget:=zC6.1 hall
  rcases this with rfl|rfl|rfl|rfl|rfl<;>exact hget _ (by simp)
 refine bE (fun E' H'=>∃ p',Step H0 p H' p' (x.feed fL bs)) ?_ ?_
 ·refine cU (fun (q:Nat × Tm × Rp) E' H'=>Step H0 p H' q.2.2 q.2.1/\q.2.1.Sz/\q.1<=L/\q.2.1=x.feed fL (bs.take q.1)/\q.2.1.params.length<=65/\E' 0=.pointer (some ⟨p.t,0,none⟩)/\E' 5=.pointer (some ⟨b+0,0,none⟩)/\E' 22=.slice av L L/\E' 23=.int .i64 (L:Int)/\E' 24=.int .i64 (q.1:Int)) (fun q=>L-q.1) (0,x,p)
   ⟨Step.refl g0',s,zB7 _,by simp[Tm.feed],hpl,f0,f5,f22,f23,f24⟩ ?_
  clear f0 f5 f22 f23 f24 E
  rintro⟨i,y,p2⟩ E X ⟨st,sy,hi,hy,hpy,f0,f5,f22,f23,f24⟩
  simp only at st sy hi hy hpy f24
  have hry:y.rest.length<=900:=hy▸hrl i
  rw[show X=ext X [] from rfl]
  have okX:=st.ok ok0
  by_cases hie:i=L
  ·have hd:decide ((i:Int)<(L:Int))=false:=decide_eq_false (by omega)
   simp (maxDischargeDepth:=6) only[f23,f24,hd,zW,seval]
   rw[hie,<-hL,List.take_length]at hy
   rw[hy]at st
   exact aj ⟨p2,st⟩
  ·have hd:decide ((i:Int)<(L:Int))=true:=decide_eq_true (by omega)
   obtain⟨c,hc⟩:∃ c,bs[i]?=some c:=⟨_,zB1 (by omega)⟩
   obtain⟨n1,o1,i1,m1,ld1⟩:=hb0.2 i c hc
   rw[hve]at i1
   obtain⟨xb,hxb⟩:∃ xb,X.next=xb:=⟨_,rfl⟩
   have t1:n1<xb:=hxb▸st.mod.lt (hv0 n1 m1)
   have ld1':∀ q,oL Tryz.prog 5 o1 (EO (bk X n1) q)=some (jU c):=fun q=>by rw[st.mod.bk (hv0 n1 m1) (hv n1 m1)]; exact ld1 q
   have hTx:p.t<xb:=hxb▸st.same▸st.at_.lt p2.t (by simp[Rp.aJ])
   have hcell:=st.at_.cell
   rw[st.same]at hcell
   simp only[ba]at hcell
   have hmd:=sy.md
   have hfx:∀ q,oL Tryz.prog 85 y.mode (EO (bk X (b+0)) q)=some (.func (.func (41+y.mode)) ⟨[.pointer (some ⟨p.t,0,none⟩)]⟩ ⟨[]⟩):=by
    intro q; rw[st.mod.bk (by omega) hp0n]; exact hfun y.mode hmd q
   have hb0x:b+0<xb:=by have:=st.mod.next; omega
   have hia:aP Tryz.prog 86 (.pointer (some ⟨b+0,0,none⟩)) (.int .i64 (y.mode:Int))=some (.pointer (some ⟨b+0,y.mode,none⟩)):=by
    have:=Fe (P:=Tryz.prog) (t:=86) (e:=85) (sz:=1) (len:=5) (n:=b+0) (off:=0) (k:=.i64) (i:=(y.mode:Int)) (by kernel_rfl) (by kernel_rfl) (by omega) (by omega)
    simpa using this
   obtain⟨tX,q0,q1⟩:=tb0.step st p0 p1
   have hby:=Qt X p2 y c st.at_ sy okX tX q0 q1 (by omega) hpy
   unfold gF at hby
   rw[st.same]at hby
   obtain⟨z1,z2,z3,z4⟩:=Cl sy hpy c
   have hws:IntKind.i64.wrap ((i:Int)+1)=((i+1:Nat):Int):=by rw[IntKind.wrap_i64]; omega
   simp (maxDischargeDepth:=6) only[f0,f5,f22,f23,f24,hd,hxb,i1,t1,ld1',hTx,hcell,hb0x,hia,hfx,zW,seval]
   refine O1 (f:=41+y.mode) (fs:=[.pointer (some ⟨p.t,0,none⟩)]) (ca:=[]) (by simp only[aW,seval]) (by simp only[aW,seval]) (by simp only[aW,seval]) (hbody y.mode hmd) ?_
   simp only[aW]
   refine bF.mono (show bF Tryz.prog (41+y.mode) [.pointer (some ⟨p.t,0,none⟩),jU c] (ext X []) _ from hby) ?_
   rintro _ Z ⟨rfl,p3,st2⟩
   have st3:=st.trans ok0 st2
   have okZ:=st3.ok ok0
   obtain⟨zb,hzb⟩:∃ zb,Z.next=zb:=⟨_,rfl⟩
   have hTz:p.t<zb:=hzb▸st3.same▸st3.at_.lt p3.t (by simp[Rp.aJ])
   have hcz:=st3.at_.cell
   rw[st3.same]at hcz
   simp only[ba]at hcz
   have st4:=st3.trans ok0 (st3.at_.one (off:=18) (vs:=[.int .i64 (((y.byte c).2:Nat):Int)]) (y:=(y.byte c).1.jG (y.byte c).2) rfl rfl rfl rfl)
   rw[st3.same]at st4
   rw[show Z=ext Z [] from rfl]
   simp (maxDischargeDepth:=6) only[f24,hzb,hTz,hcz,hws,zW,seval]
   refine aM ⟨(i+1,(y.byte c).1.jG (y.byte c).2,p3),by simp only; omega,st4,z1.jG z2,by simp only; omega,?_,z3,?_,?_,?_,?_,?_⟩<;>try simp only[f0,f5,f22,f23,aW,seval]
   ·have htk:bs.take (i+1)=bs.take i++[c]:=by
     rw[List.take_add_one,hc]; rfl
    rw[htk,JN,<-hy,step_eq]
 ·clear f0 f5 f22 f23 f24 E
  rintro E X ⟨p',st⟩
  rw[show X=ext X [] from rfl]
  simp (maxDischargeDepth:=6) only[Tryz.results21,zW,seval]
  exact⟨trivial,p',(Step.quiet g mH).trans ok st⟩
theorem Kl (H:aa) (w:Nat) (hw:1<=w) (hw2:w<=300) (q:Nat × Bool) (l:List Ce) (hl:l.length=w) (hb:bk H q.1=some ⟨77,q.2,aN l⟩):br Tryz.prog 33 [bB w q] H (.ok (.slice (some ⟨H.next,0,none⟩) w w)) (ext H [⟨77,true,aN l⟩]):=by
 refine jd (fun wf hsc=>?_) (fun _ _=>jv _ _)
 obtain⟨b,hn⟩:=Go.Ax.bP H.next
 have hq:q.1<b:=hn▸wf.lt hb
 have a1:Tryz.prog.underlying 56=some (.slice 77):=by kernel_rfl
 have a3:bytesOf Tryz.prog 77=some 32:=by kernel_rfl
 have a4:zeroOf Tryz.prog 77=some (Ce.zero.val):=by kernel_rfl
 have a5:fj Tryz.prog 56=some false:=by kernel_rfl
 have hsm:small (0+w) 32=true:=by simp only[small,zA4,zE6]; omega
 have hk:bk (ext H [⟨77,false,[]⟩]) (b+0)=some ⟨77,false,[]⟩:=by rw[bu hn (by simp)]; rfl
 have hbX:bk (ext H [⟨77,false,[]⟩]) q.1=some ⟨77,q.2,aN l⟩:=(iN (by omega)).trans hb
 have happ:=pI (P:=Tryz.prog) (H:=ext H [⟨77,false,[]⟩]) (st:=56) (xt:=56) (e:=77) (sz:=6) (by1:=32) (z:=Ce.zero.val) (m:=b+0) (k:=0) (n:=q.1) (off:=0) (cnt:=w) (cap:=w) (s:=if q.2=true then none else some 0) a1 Rt a3 a4 rfl a5 hk (by simp) rfl hbX (by rw[bC,hl]; omega) (r9 l) (by omega) hsm
 have ht:([]:List Value).take (0*6)++((aN l).drop 0).take (w*6)=aN l:=by
  have h2:(aN l).take (w*6)=aN l:=zD6 (by rw[bC,hl]; omega)
  rw[zD1,h2]; simp
 have hnw:=eN (H:=H) (L:=[⟨77,false,[]⟩]) (e:=77) (l:=aN l) (o:=true) (jv _ _)
 simp only[ht]at happ
 rw[hnw,zA9,ai,hn,zB8]at happ
 refine aG mixed Tryz.func33 rfl Tryz.ntmps33 (zA6 rfl) ?_
 simp only[hn,bB,happ,Tryz.results33,zW,seval]
 exact⟨_,rfl,by omega,by rw[bu hn (by simp)]; rfl,Mod.ext wf.base⟩
structure Fc (N:Nat) (H:aa) (v:Value) (w:Nat) (rs:List (Nat × Bool)) (g:List (List Ce)):Prop where
 at_:jY H v w rs
 row:∀ (i:Nat) (q:Nat × Bool) (l:List Ce),rs[i]?=some q->g[i]?=some l->bk H q.1=some ⟨77,q.2,aN l⟩
 vt:∀ q∈rs,N<=q.1/\q.1<H.next
 nd:(rs.map (·.1)).Nodup
 blk:∀ n∈ae v,N<=n/\n<H.next/\n∉rs.map (·.1)
theorem Fc.of {N:Nat} {H G:aa} {v:Value} {w:Nat} {rs:List (Nat × Bool)} {g:List (List Ce)} (o:Fc N H v w rs g) (hlen:rs.length<=g.length) (hn:H.next<=G.next) (hg:∀ n,N<=n->n<H.next->G.get n=H.get n):Fc N G v w rs g where
 at_:=o.at_.of fun n hn'=>hg n (o.blk n hn').1 (o.blk n hn').2.1
 row:=fun i q l h1 h2=>by
  have:=o.vt q (zB9 h1)
  rw[bg (hg q.1 this.1 this.2)]
  exact o.row i q l h1 h2
 vt:=fun q hq=>⟨(o.vt q hq).1,zD5 (o.vt q hq).2 hn⟩
 nd:=o.nd
 blk:=fun n hn'=>⟨(o.blk n hn').1,zD5 (o.blk n hn').2.1 hn,(o.blk n hn').2.2⟩
def Tm.qJ (x:Tm):Int:=cond x.shown x.row (-1)
def Tm.qA (x:Tm):Int:=cond x.shown x.inside 0
theorem Ln (H:aa) (p:Rp) (x:Tm) (g:cd H p x) (s:x.Sz) (ok:H.base<=H.next) :
  bF Tryz.prog 15 [.pointer (some ⟨p.t,0,none⟩)] H fun out H1=>∃ rs n,out=.ok (.agg ⟨[.slice (some ⟨n,0,none⟩) x.h x.h,.int .i64 x.qJ,.int .i64 x.qA]⟩)/\rs.length=x.h/\Fc H.next H1 (.slice (some ⟨n,0,none⟩) x.h x.h) x.w rs x.ah/\Mod [] H H1:=by
 obtain⟨b,hb⟩:∃ b,H.next=b:=⟨_,rfl⟩
 have hbb:H.base<=b:=hb▸ok
 have hT:p.t<b:=hb▸g.lt p.t (by simp[Rp.aJ])
 have hR:p.rb<b:=hb▸g.lt p.rb (by simp[Rp.aJ])
 have h1:=g.cell
 simp only[ba]at h1
 have s1:=s.h1
 have s2:=s.h2
 have s3:=s.w1
 have s4:=s.w2
 have hgl:x.ah.length=x.h:=rfl
 refine aG mixed Tryz.func15 rfl Tryz.ntmps15 (zA6 rfl) ?_
 simp (maxDischargeDepth:=6) only[hb,zW,seval]
 refine (Mh (ext H [_]) p x (g.of (by rw[ai]; omega) fun n hn=>bK (g.lt n hn)) s).to ?_
 simp (maxDischargeDepth:=6) only[hb,hbb,hT,h1,zW,seval]
 refine eT fun E hE=>?_
 have f0:E 0=.pointer (some ⟨p.t,0,none⟩):=by rw[hE]; simp only[aW,seval]
 have f2:E 2=.pointer (some ⟨b+0,0,none⟩):=by rw[hE]; simp only[aW,seval]
 have f3:E 3=.pointer (some ⟨b+1,0,none⟩):=by rw[hE]; simp only[aW,seval]
 have f14:E 14=.slice (some ⟨p.rb,0,none⟩) x.h x.h:=by rw[hE]; simp only[aW,seval]
 have f15:E 15=.int .i64 (x.h:Int):=by rw[hE]; simp only[aW,seval]
 have f16:E 16=.int .i64 ((0:Nat):Int):=by rw[hE]; (simp only[aW]<;>rfl)
 clear hE
 refine bE (fun E' H'=>∃ rs v,rs.length=x.h/\Mod [] H H'/\b+1<H'.next/\bk H' (b+0)=some ⟨41,false,[.slice none 0 0,.int .i64 0,.int .i64 0]⟩/\bk H' (b+1)=some ⟨41,false,[v,.int .i64 (-1),.int .i64 0]⟩/\Fc (b+2) H' v x.w rs x.ah/\E' 0=.pointer (some ⟨p.t,0,none⟩)/\E' 2=.pointer (some ⟨b+0,0,none⟩)/\E' 3=.pointer (some ⟨b+1,0,none⟩)) ?_ ?_
 ·refine cU (fun (q:List (Nat × Bool) × Value) E' H'=>q.1.length<=x.h/\Mod [] H H'/\b+1<H'.next/\bk H' (b+0)=some ⟨41,false,[.slice none 0 0,.int .i64 0,.int .i64 0]⟩/\bk H' (b+1)=some ⟨41,false,[q.2,.int .i64 (-1),.int .i64 0]⟩/\Fc (b+2) H' q.2 x.w q.1 x.ah/\E' 0=.pointer (some ⟨p.t,0,none⟩)/\E' 2=.pointer (some ⟨b+0,0,none⟩)/\E' 3=.pointer (some ⟨b+1,0,none⟩)/\E' 14=.slice (some ⟨p.rb,0,none⟩) x.h x.h/\E' 15=.int .i64 (x.h:Int)/\E' 16=.int .i64 (q.1.length:Int)) (fun q=>x.h-q.1.length) ([],.slice none 0 0)
   ⟨zB7 _,Mod.ext ok,by rw[ai,hb]; simp,by rw[bu hb (by simp)]; rfl,by rw[bu hb (by simp)]; rfl,⟨.inl ⟨rfl,rfl⟩,by simp,by simp,by simp,by simp[ae]⟩,f0,f2,f3,f14,f15,f16⟩ ?_
  clear f0 f2 f3 f14 f15 f16 E
  rintro⟨rs,v⟩ E X ⟨hl,mX,hbX,hc0,hc1,ho,f0,f2,f3,f14,f15,f16⟩
  simp only at hl hc1 ho f16
  rw[show X=ext X [] from rfl]
  have okX:=mX.ok ok
  by_cases hlh:rs.length=x.h
  ·have hd:decide ((rs.length:Int)<(x.h:Int))=false:=decide_eq_false (by omega)
   simp (maxDischargeDepth:=6) only[f15,f16,hd,zW,seval]
   refine aj ⟨rs,v,hlh,mX,hbX,hc0,hc1,ho,?_,?_,?_⟩<;>simp only[f0,f2,f3,aW,seval]
  ·have hd:decide ((rs.length:Int)<(x.h:Int))=true:=decide_eq_true (by omega)
   obtain⟨xn,hx⟩:∃ xn,X.next=xn:=⟨_,rfl⟩
   have hxb:X.base<=xn:=hx▸okX
   have hbx:b+1<xn:=hx▸hbX
   have hRx:p.rb<xn:=by omega
   have hTx:p.t<xn:=by omega
   have gX:cd X p x:=g.of mX.next fun n hn=>mX.get n (g.lt n hn) (by simp)
   obtain⟨l,hlr,_,hlw,_⟩:=s.rowAt (k:=rs.length) (by omega)
   obtain⟨q,hq,hqm,hqb⟩:=gX.rowOf hlr
   have hqx:q.1<xn:=hx▸gX.lt q.1 hqm
   have hqlt:q.1<b:=hb▸g.lt q.1 hqm
   have hrows:=gX.rows
   have hqr:(p.rs.map (bB x.w))[rs.length]?=some (bB x.w q):=by rw[zF0,hq]; rfl
   have hri:=sG (len:=x.h) (cap:=x.h) (n:=p.rb) (s:=none) (i:=(rs.length:Int)) (k:=rs.length) rfl (by omega)
   have hws:=bO (show rs.length<1000000 by omega)
   have hvx:∀ n∈ae v,n<xn:=fun n hn=>hx▸(ho.blk n hn).2.1
   simp (maxDischargeDepth:=6) only[f14,f15,f16,hd,hx,hRx,hrows,hri,hqr,zW,seval]
   refine bf [(4,3),(5,1),(5,3),(5,4),(7,1),(7,3),(7,4),(7,5)] [] (by kernel_rfl) (by kernel_rfl) rfl fun ops anc hA hG=>?_
   simp only[aw]at hA
   simp (maxDischargeDepth:=6) only[f3,hx,hbx,hc1,bB,b9,zW,seval]
   refine sw (v:=.slice (some ⟨xn+0,0,none⟩) x.w x.w) (M:=[⟨77,true,aN l⟩]) [q.1] (by simp (maxDischargeDepth:=6) only[aW,seval]) (by kernel_rfl) (by decide) (fun n hn=>by simp (maxDischargeDepth:=6) only[zA5]at hn; subst hn; exact dT hqb) (fun K hn hg=>?_) (by simp (maxDischargeDepth:=6) only[b9]) ?_
   ·simp only[aW]
    have:=Kl K x.w s3 s4 q l hlw ((bg (hg q.1 (by simp))).trans (by rw[ext_nil]; exact hqb))
    rw[hn,ext_nil,hx]at this
    exact this
   simp (maxDischargeDepth:=6) only[hx,hA,zB0,zB6,b9,zW,seval]
   rw[AS (by simp only[aW,seval])]
   obtain⟨Z,hZ⟩:∃ Z,ext X [⟨77,true,aN l⟩,⟨56,false,[.slice (some ⟨xn+0,0,none⟩) x.w x.w]⟩]=Z:=⟨_,rfl⟩
   have mZ:Mod [] X Z:=hZ▸Mod.ext okX
   have okZ:=mZ.ok okX
   have hZn:Z.next=xn+2:=by rw[<-hZ,ai,hx]; rfl
   have hZ1:bk Z (xn+1)=some ⟨56,false,[bB x.w (xn+0,true)]⟩:=by rw[<-hZ,bu hx (by simp)]; rfl
   have hZ0:bk Z (xn+0)=some ⟨77,true,aN l⟩:=by rw[<-hZ,bu hx (by simp)]; rfl
   have hZo:∀ n,n<xn->Z.get n=X.get n:=fun n hn=>mZ.get n (by omega) (by simp)
   rw[hZ]
   have hrn:=aL Z (ae v++[xn+1])
   have hRr:∀ n∈ae v++[xn+1],(Z.restrict (ae v++[xn+1])).get n=Z.get n:=fun n hn=>by rw[aU,if_pos hn]
   have hrsZ:jY Z v x.w rs:=ho.at_.of fun n hn=>hZo n (hvx n hn)
   obtain⟨G,happ,hrsG,mG,hGn⟩:=Ee (x:=xn+2) (k:=xn+1) (q:=(xn+0,true)) (hrsZ.of fun n hn=>hRr n (by simp[hn])) (by rw[hrn.1,hZn]) ((bg (hRr (xn+1) (by simp))).trans hZ1) (by omega) (fun r hr=>by
    rw[hrn.1,hZn]
    rcases zB2.1 hr with h|h
    ·have:=(ho.vt r h).2; omega
    ·simp only[zA5]at h; subst h; simp only; omega)
   have mG:=mG (by rw[hrn.1,hrn.2.1]; exact zA8 _)
   have hneZ:∀ n∈ae v++[xn+1],Z.get n≠none:=fun n hn=>by
    rcases zB2.1 hn with h|h
    ·exact hrsZ.ne n h
    ·simp only[zA5]at h; subst h; exact dT hZ1
   refine mQ (W:=ae v) (ae v++[xn+1]) okZ hneZ (fun n hn=>by
     rcases zB2.1 hn with h|h
     ·have:=hvx n h; omega
     ·simp only[zA5]at h; omega) (fun n hn=>by simp[hn])
    (qQ (v:=.slice (some ⟨xn+2,0,none⟩) (rs.length+1) (rs.length+1)) (by simp only[aW,seval]) (by simp only[aW,seval]; exact happ)) mG (by simp only[aw,cx,hA,true_or,and_true]) ?_
   intro H1 D mH1 hF1 hN1 hnx hD1
   have hnx:H1.next=xn+3:=by rw[hnx,hGn]
   have hvn:∀ n,n<b+2->n∉ae v:=fun n hn hh=>by have:=(ho.blk n hh).1; omega
   have hT1:bk H1 (b+1)=some ⟨41,false,[v,.int .i64 (-1),.int .i64 0]⟩:=by
    rw[mH1.bk (by omega) (hvn _ (by omega)),bg (hZo _ hbx)]; exact hc1
   have hTn:b+1<xn+3:=by omega
   rw[show H1=ext H1 [] from rfl]
   simp (maxDischargeDepth:=6) only[f3,hnx,hTn,hT1,hA,b9,zW,seval]
   refine⟨⟨fun _=>.inr (.inl (by omega)),.inr (.inl (by omega)),.inr (.inl (by omega))⟩,?_⟩
   simp (maxDischargeDepth:=6) only[f16,hws,zW,seval]
   have mU:Mod [b+1] H1 (uw H1 (b+1) 0 [.slice (some ⟨xn+2,0,none⟩) (rs.length+1) (rs.length+1)]):=Mod.uw (by simp)
   have hnewB:bk H1 (xn+2)=some ⟨56,true,(rs++[(xn+0,true)]).map (bB x.w)⟩:=by
    rw[bg (hN1 (xn+2) (by omega) (by omega))]
    rcases hrsG with⟨h,_⟩|⟨_,n,e,hb'⟩
    ·simp at h
    ·simp only[Value.slice.injEq,Option.some.injEq,Addr.mk.injEq,and_true]at e
     rw[e.1]; exact hb'
   have hget:∀ n,n<xn+2->n≠b+1->n∉ae v->(uw H1 (b+1) 0 [.slice (some ⟨xn+2,0,none⟩) (rs.length+1) (rs.length+1)]).get n=Z.get n:=fun n h1' h2' h3'=>by
    rw[gL h2',mH1.get n (by omega) h3']
   refine aM ⟨(rs++[(xn+0,true)],.slice (some ⟨xn+2,0,none⟩) (rs.length+1) (rs.length+1)),by simp only[zB4,zB0,zB6]; omega,by simp only[zB4,zB0,zB6]; omega,?_,?_,?_,?_,?_,?_,?_,?_,?_,?_,?_⟩
   ·have m1:Mod (ae v) X H1:=(mZ.mono (by simp)).trans mH1
    exact (mX.step m1 ok (fun n hn=>.inr (by have:=(ho.blk n hn).1; omega))).step mU ok (fun n hn=>.inr (by simp only[zA5]at hn; omega))
   ·rw[ext_nil,b6,hnx]; omega
   ·rw[ext_nil,bg (hget (b+0) (by omega) (by omega) (hvn _ (by omega))),bg (hZo (b+0) (by omega))]; exact hc0
   ·rw[ext_nil,bR,hT1]; rfl
   ·refine⟨.inr ⟨by simp,xn+2,by simp,?_⟩,?_,?_,?_,?_⟩
    ·rw[ext_nil,oC (by omega)]
     exact hnewB
    ·intro i q' l' h1' h2'
     by_cases hi:i<rs.length
     ·rw[List.getElem?_append_left hi]at h1'
      have hr:=ho.vt q' (zB9 h1')
      have hm:q'.1∉ae v:=fun hh=>(ho.blk _ hh).2.2 (zB5.2 ⟨q',zB9 h1',rfl⟩)
      rw[ext_nil,bg (hget q'.1 (by omega) (by omega) hm),bg (hZo q'.1 (by omega))]
      exact ho.row i q' l' h1' h2'
     ·rw[List.getElem?_append_right (by omega)]at h1'
      have hi2:i=rs.length:=by
       rcases zC2 (i-rs.length) 1 with h|h
       ·omega
       ·rw[zC5 (by simpa using h)]at h1'; cases h1'
      subst hi2
      rw[zG5]at h1'
      simp only[zF5,Option.some.injEq]at h1'
      subst h1'
      rw[hlr]at h2'
      cases h2'
      rw[ext_nil,bg (hget (xn+0) (by omega) (by omega) (fun hh=>by have:=hvx _ hh; omega))]
      exact hZ0
    ·intro r hr
     rw[ext_nil,b6,hnx]
     rcases zB2.1 hr with h|h
     ·have:=ho.vt r h; omega
     ·simp only[zA5]at h
      subst h
      simp only; omega
    ·rw[List.map_append]
     refine zD4.2 ⟨ho.nd,by simp,fun a ha b' hb' e=>?_⟩
     obtain⟨r,hr,rfl⟩:=zB5.1 ha
     simp only[zC0,zF4,zA5]at hb'
     have:=(ho.vt r hr).2
     omega
    ·intro n hn
     simp only[ae,zA5]at hn
     subst hn
     refine⟨by omega,by rw[ext_nil,b6,hnx]; omega,fun hm=>?_⟩
     obtain⟨r,hr,e⟩:=zB5.1 hm
     rcases zB2.1 hr with h|h
     ·have:=(ho.vt r h).2; omega
     ·simp only[zA5]at h
      subst h
      simp only at e
      omega
   ·simp only[f0,aW,seval]
   ·simp only[f2,aW,seval]
   ·simp only[f3,aW,seval]
   ·simp only[f14,aW,seval]
   ·simp only[f15,aW,seval]
   ·simp only[zB4,zB0,zB6,aW,seval]
 ·clear f0 f2 f3 f14 f15 f16 E
  rintro E X ⟨rs,v,hl,mX,hbX,hc0,hc1,ho,f0,f2,f3⟩
  rw[show X=ext X [] from rfl]
  have okX:=mX.ok ok
  obtain⟨xn,hx⟩:∃ xn,X.next=xn:=⟨_,rfl⟩
  have hb1x:b+1<xn:=hx▸hbX
  have hb0x:b+0<xn:=by omega
  have hTx:p.t<xn:=by omega
  have gX:cd X p x:=g.of mX.next fun n hn=>mX.get n (g.lt n hn) (by simp)
  have h1X:=gX.cell
  simp only[ba]at h1X
  rcases ho.at_ with⟨h,_⟩|⟨_,n,rfl,hbn⟩
  ·rw[h]at hl; simp at hl; omega
  rw[hl]at ho hc1
  have hnx:=ho.blk n (by simp[ae])
  have hnn:n<xn:=hx▸hnx.2.1
  have hfinal:∀ (Y:aa),Mod [b+0,b+1] X Y->Fc H.next Y (.slice (some ⟨n,0,none⟩) x.h x.h) x.w rs x.ah/\Mod [] H Y:=fun Y mY=>by
   refine⟨?_,mX.step mY ok (fun n hn=>.inr (by simp only[zA7,zD2,or_false]at hn; omega))⟩
   have o2:Fc (b+2) Y (.slice (some ⟨n,0,none⟩) x.h x.h) x.w rs x.ah:=ho.of (by omega) mY.next (fun n h1' h2'=>mY.get n h2' (by simp only[zA7,zD2,or_false]; omega))
   exact⟨o2.at_,o2.row,fun q hq=>⟨by have:=(o2.vt q hq).1; omega,(o2.vt q hq).2⟩,o2.nd,fun m hm=>⟨by have:=(o2.blk m hm).1; omega,(o2.blk m hm).2⟩⟩
  obtain⟨ds,hds⟩:∃ d,x.shown=d:=⟨_,rfl⟩
  cases ds with
  |true =>
   simp (maxDischargeDepth:=6) only[f0,hx,hTx,h1X,hds,zW,seval]
   refine bf [(8,4),(8,6),(10,4),(10,6),(10,8)] [] (by kernel_rfl) (by kernel_rfl) rfl fun ops anc hA hG=>?_
   simp only[aw]at hA
   simp (maxDischargeDepth:=6) only[f0,hx,hTx,h1X,b9,zW,seval]
   refine bx (v:=.int .i64 x.inside) p.aJ (by simp (maxDischargeDepth:=6) only[aW,seval]) (by kernel_rfl) (by decide) gX.ne (fun K hn hg=>?_) (by simp (maxDischargeDepth:=6) only[b9]) ?_
   ·simp only[aW]
    exact oI K p x (gX.of (by rw[hn]; exact zA8 _) hg) s
   simp (maxDischargeDepth:=6) only[f2,f3,hx,hb1x,hb0x,hnn,hc0,hc1,hA,Tryz.results15,b9,zW,seval]
   obtain⟨o1,o2⟩:=hfinal _ (((Mod.uw (by simp)).trans (Mod.uw (by simp))).trans (Mod.uw (by simp)):Mod [b+0,b+1] X (ext (uw (uw (uw X (b+1) 1 [.int .i64 x.row]) (b+1) 2 [.int .i64 x.inside]) (b+0) 0 [.slice (some ⟨n,0,none⟩) x.h x.h,.int .i64 x.row,.int .i64 x.inside]) []))
   rw[hb]at o1
   exact⟨rs,n,by simp only[Tm.qJ,Tm.qA,hds,cond_true],hl,o1,o2⟩
  |false =>
   simp (maxDischargeDepth:=6) only[f0,f2,f3,hx,hTx,hb0x,hb1x,hnn,h1X,hds,hc0,hc1,Tryz.results15,zW,seval]
   obtain⟨o1,o2⟩:=hfinal _ (Mod.uw (by simp):Mod [b+0,b+1] X (ext (uw X (b+0) 0 [.slice (some ⟨n,0,none⟩) x.h x.h,.int .i64 (-1),.int .i64 0]) []))
   rw[hb]at o1
   exact⟨rs,n,by simp only[Tm.qJ,Tm.qA,hds,cond_false],hl,o1,o2⟩
def eQ (H:aa) (v:Value) (l:List Ce):Prop :=
 (l=[]/\∃ a c,v=.slice a 0 c)\/(l≠[]/\∃ n off s c e o L,v=.slice (some ⟨n,off,s⟩) l.length c/\bk H n=some ⟨e,o,L⟩/\n<H.next/\off+l.length*6<=L.length/\(L.drop off).take (l.length*6)=aN l)
def eE (H:aa) (v:Value) (g:List (List Ce)):Prop :=
 (g=[]/\∃ a c,v=.slice a 0 c)\/(g≠[]/\∃ n off s c e o L,v=.slice (some ⟨n,off,s⟩) g.length c/\bk H n=some ⟨e,o,L⟩/\n<H.next/\off+g.length<=L.length/\∀ k row,g[k]?=some row->∃ rv,L[off+k]?=some rv/\eQ H rv row)
structure Live (H:aa) (p:Rp) (x:Tm):Prop where
 at_:cd H p x
 sz:x.Sz
 tb:tj H
 p0:0∉p.aJ
 p1:1∉p.aJ
 pl:x.params.length<=65
theorem AJ {x:Tm} (s:x.Sz) (hp:x.params.length<=65):∀ (bs:List UInt8),(x.feed fL bs).Sz/\(x.feed fL bs).params.length<=65/\(x.feed fL bs).rest.length<=x.rest.length+bs.length
 |[]=>⟨s,hp,zA8 _⟩
 |c::bs=>by
  obtain⟨a,b,d,e⟩:=Cl s hp c
  have hs:x.feed fL (c::bs)=(x.step fL c).feed fL bs:=rfl
  rw[hs,step_eq]
  obtain⟨f1,f2,f3⟩:=AJ (a.jG b) d bs
  refine⟨f1,f2,zC3 f3 ?_⟩
  show (x.byte c).1.rest.length+bs.length<=_
  simp only[zB0]
  omega
theorem Live.step {H H1:aa} {p p1:Rp} {x:Tm} (l:Live H p x) {bs:List UInt8} (s:Step H p H1 p1 (x.feed fL bs)):Live H1 p1 (x.feed fL bs):=by
 obtain⟨t,a,b⟩:=l.tb.step s l.p0 l.p1
 obtain⟨k1,k2,_⟩:=AJ l.sz l.pl bs
 exact⟨s.at_,k1,t,a,b,k2⟩
theorem Kz (a:UInt8):fa a<=4:=by
 by_cases h:240<=cf a.toNat
 ·have key:∀ n,n<256->240<=cf n->IntKind.i64.wrap (fe .u8 (cf n) 7)<=4:=by decide +kernel
  exact key _ a.toNat_lt h
 ·exact (KG h).2
theorem Rc {l:List UInt8} (h:4<=l.length):fL.full l=true:=by
 cases l with
 |nil=>simp at h
 |cons a r =>
  refine rH ?_
  have:=Kz a
  simp only[zB0]at h
  omega
theorem Mv {k:Nat} {x:Tm} (s:x.Sz) (h:x.rest.length<=4):(Tm.drain fL (k+1) x).1.rest.length<=3:=by
 by_cases h4:x.rest.length<=3
 ·exact zC3 (r6 (k+1) x s).2.2.2 h4
 have cR:x.rest≠[]:=fun e=>by rw[e]at h4; simp at h4
 rw[Tm.drain,if_pos ⟨cR,Rc (by omega)⟩]
 split
 ·simp
 ·obtain⟨r,n,e⟩:∃ r n,fL.dec x.rest=(r,n):=⟨_,_,rfl⟩
  simp only[e]
  have hn:1<=n:=by
   have:=(Ll x.rest cR).1
   rw[show oz x.rest=(r,n) from e]at this
   exact this
  obtain⟨y,hy⟩:=Go.Ax.bP ((if r≠65533\/n>1 then x.character fL r else x))
  rw[hy]
  have sy:y.Sz/\y.rest=x.rest:=by
   rw[<-hy]
   split
   ·exact⟨s.character r,(gf fL x r).1⟩
   ·exact⟨s,rfl⟩
  refine zC3 (r6 k (y.aT (y.rest.drop n)) (sy.1.aT _)).2.2.2 ?_
  simp only[Tm.aT,zD8,sy.2]
  omega
theorem Ny {x:Tm} (s:x.Sz) (c:UInt8) (h:x.rest.length<=3):(x.byte c).1.rest.length<=3:=by
 unfold Tm.byte
 split
 ·refine Mv (x:=x.aT (x.rest++[c])) (s.aT _) ?_
  simp only[Tm.aT,zB4,List.length_singleton]
  omega
 ·unfold Tm.second
  repeat' split
  all_goals first
   |exact h
   |(simp[Tm.new])
 ·exact h
 ·unfold Tm.parameter
  repeat' split
  all_goals first
   |exact h
   |(simp only; rw[(xD x c).2]; exact h)
   |(simp only; split<;>exact h)
 ·unfold Tm.ignore
  split<;>exact h
theorem G7:∀ (bs:List UInt8) {x:Tm},x.Sz->x.params.length<=65->x.rest.length<=3->(x.feed fL bs).rest.length<=3
 |[],x,_,_,h=>h
 |c::bs,x,s,hp,h=>by
  have h1:=Cl s hp c
  have h2:=Ny s c h
  rw[show x.feed fL (c::bs)=(x.step fL c).feed fL bs from rfl,step_eq]
  exact G7 bs (h1.1.jG h1.2.1) h1.2.2.1 h2
end Go.Proofs.YtpohjcacnkhnkaaGreatDoor.Tq
namespace Go.Proofs.YtpohjcacnkhnkaaGreatDoor
open Go.Ax
def Dc:List FuncId:=[103,104,105,106,107,108,109,110,111]
def SA (f:FuncId):Value:=.func (.func f) ⟨[]⟩ ⟨[]⟩
def gm:List Value:=Dc.map SA
theorem N0 (H:aa):br Tryz.prog 77 [] H (.ok (.agg ⟨gm⟩)) H:=by
 obtain⟨b,hb⟩:=Go.Ax.bP H.next
 refine bJ mixed Tryz.func77 rfl Tryz.ntmps77 (zA6 rfl) fun wf hsc=>?_
 have hbd:er Tryz.prog 121 [(0,.func (.func 103) #[] #[]),(1,.func (.func 104) #[] #[]),(2,.func (.func 105) #[] #[]),(3,.func (.func 106) #[] #[]),(4,.func (.func 107) #[] #[]),(5,.func (.func 108) #[] #[]),(6,.func (.func 109) #[] #[]),(7,.func (.func 110) #[] #[]),(8,.func (.func 111) #[] #[])]=some (.agg ⟨gm⟩):=by kernel_rfl
 have hst:∀ (M:Nat) (l:List Value),l.length=9->vw Tryz.prog 121 M 0 (.agg ⟨gm⟩) (some ⟨121,false,l⟩)=some ⟨121,false,gm⟩:=fun M l h=>by
  have hv:(Value.agg ⟨gm⟩).cells.toList=gm:=rfl
  rw[l5 (by rw[hv]; kernel_rfl) (by rw[hv,h]; decide) (by rw[hv]; rfl) (by rw[hv]; rfl),hv,pG _ _ (by rw[h]; decide),zF1 (by rw[h]; decide),zD0]
 have hbb:H.base<=b:=hb▸wf.base
 have hld:oL Tryz.prog 121 0 (some ⟨121,false,gm⟩)=some (.agg ⟨gm⟩):=by kernel_rfl
 simp only[hb,hbb,hbd,hst,hld,Tryz.results77,zW,seval]
 exact Fin.pure rfl
section
variable {N : Nat} {H : aa} {p W : Nat} {v : Value} {rvs : List Value} {x : St}
theorem I4 (H:aa) (hok:H.base<=H.next) (o:Op) (T:TypeId):bF Tryz.prog 103 [.pointer (some ⟨p,0,none⟩),o.val] H (j7 T N p none H):=by
 refine aG mixed Tryz.func103 rfl Tryz.ntmps103 (zA6 rfl) ?_
 simp only[Op.val,Op.cells,zW,seval]
 refine br.panics (eL _) ?_
 simp only[cu,bT,dj]
 exact⟨ei.of (Ws:=[]) (Mod.ext hok) (by simp),rfl⟩
theorem PD (a:cT 83 N H p v rvs x) (sl:Cv v) (hok:H.base<=H.next) (o:Op):bF Tryz.prog 110 [.pointer (some ⟨p,0,none⟩),o.val] H (j7 83 N p (some {x with shown:=true}) H):=by
 obtain⟨b,hb⟩:=Go.Ax.bP H.next
 have hpl:=a.lt
 rw[hb]at hpl
 have hcell:=a.cell
 simp only[St.cells]at hcell
 refine aG mixed Tryz.func110 rfl Tryz.ntmps110 (zA6 rfl) ?_
 simp only[Op.val,Op.cells,hb,hpl,hcell,Tryz.results110,zW,seval]
 exact a.Qh sl hok rfl rfl
theorem P5 (a:cT 83 N H p v rvs x) (sl:Cv v) (hok:H.base<=H.next) (o:Op):bF Tryz.prog 111 [.pointer (some ⟨p,0,none⟩),o.val] H (j7 83 N p (some {x with shown:=false}) H):=by
 obtain⟨b,hb⟩:=Go.Ax.bP H.next
 have hpl:=a.lt
 rw[hb]at hpl
 have hcell:=a.cell
 simp only[St.cells]at hcell
 refine aG mixed Tryz.func111 rfl Tryz.ntmps111 (zA6 rfl) ?_
 simp only[Op.val,Op.cells,hb,hpl,hcell,Tryz.results111,zW,seval]
 exact a.Qh sl hok rfl rfl
theorem NG (a:cT 83 N H p v rvs x) (sl:Cv v) (hok:H.base<=H.next) (o:Op):bF Tryz.prog 105 [.pointer (some ⟨p,0,none⟩),o.val] H (j7 83 N p (if mh o.look=true then some {x with pen:=o.look} else none) H):=by
 obtain⟨b,hb⟩:=Go.Ax.bP H.next
 have hpl:=a.lt
 rw[hb]at hpl
 have hcell:=a.cell
 simp only[St.cells]at hcell
 obtain⟨d,hd⟩:=Go.Ax.bP (mh o.look)
 rw[hd]
 have hcl:=rP (ext H [⟨58,false,o.cells⟩]) o.look
 rw[hd]at hcl
 refine aG mixed Tryz.func105 rfl Tryz.ntmps105 (zA6 rfl) ?_
 simp only[Op.val,Op.cells,hb,zW,seval]
 refine hcl.to ?_
 cases d with
 |true =>
  simp only[zW,seval]
  refine br.to (nE _) ?_
  simp only[Op.cells,hb,hpl,hcell,Tryz.results105,if_true,zW,seval]
  exact a.Qh sl hok rfl rfl
 |false =>
  simp only[zW,seval]
  refine br.panics (eL _) ?_
  simp only[cu,cy,bT,dj,zC4,if_false]
  exact⟨ei.of (Ws:=[]) (Mod.ext hok) (by simp),rfl⟩
theorem cT.Q2 {T:TypeId} {y z:St} (a:cT T N H p v rvs x) (sl:Cv v) (hok:H.base<=H.next) {o1 o2:Nat} {vs1 vs2:List Value} {L:List Bl} (hc1:cL (x.cells v) o1 vs1=z.cells v) (hg1:z.ah=x.ah) (hc2:cL (z.cells v) o2 vs2=y.cells v) (hg2:y.ah=z.ah) (hT:T≠121:=by decide) :
  j7 T N p (some y) H (.ok (.tuple ⟨[]⟩)) (ext (uw (uw H p o1 vs1) p o2 vs2) L):=by
 obtain⟨h1,h2⟩:=a.C6 hok (L:=[]) hc1 hg1
 obtain⟨h3,h4⟩:=h1.C6 (h2.ok hok) (L:=L) hc2 hg2
 exact⟨ei.of (h2.trans h4) (a.pN hT),rfl,v,rvs,sl,h3⟩
theorem Qe (a:cT 83 N H p v rvs x) (sl:Cv v) (hok:H.base<=H.next) (ok:x.Ok W) (o:Op):bF Tryz.prog 104 [.pointer (some ⟨p,0,none⟩),o.val] H
  (j7 83 N p (if (decide (0<=o.row)&&decide (o.row<x.ah.length)&&decide (0<=o.col)&&decide (o.col<W))=true then some {x with row:=o.row,col:=o.col} else none) H):=by
 obtain⟨b,hb⟩:=Go.Ax.bP H.next
 have hpl:=a.lt
 rw[hb]at hpl
 have hcell:=a.cell
 simp only[St.cells]at hcell
 have aX:=a.p8 (Mod.ext (W:=[]) (L:=[⟨58,false,o.cells⟩]) hok)
 obtain⟨m,hml,hmp,⟨_,_,_,hmb⟩,hwd⟩:=mP aX ok
 have hFn:∀ n∈[p,m],(ext H [⟨58,false,o.cells⟩]).get n≠none:=fun n hn=>by
  simp only[zA7,zD2,or_false]at hn
  rcases hn with rfl|rfl
  ·exact dT aX.cell
  ·exact dT hmb
 obtain⟨m',s1,c1,_,_,_,_,ev,_⟩:=a.first ok
 subst ev
 obtain⟨d1,h1⟩:∃ d,decide (0<=o.row)=d:=⟨_,rfl⟩
 obtain⟨d2,h2⟩:∃ d,decide (o.row<x.ah.length)=d:=⟨_,rfl⟩
 obtain⟨d3,h3⟩:∃ d,decide (0<=o.col)=d:=⟨_,rfl⟩
 obtain⟨d4,h4⟩:∃ d,decide (o.col<W)=d:=⟨_,rfl⟩
 rw[h1,h2,h3,h4]
 refine aG mixed Tryz.func104 rfl Tryz.ntmps104 (zA6 rfl) ?_
 simp only[Op.val,Op.cells,hb,zW,seval]
 by_cases hall:(d1&&d2&&d3&&d4)=true
 ·rw[if_pos hall]
  simp only[zA4]at hall
  obtain⟨⟨⟨rfl,rfl⟩,rfl⟩,rfl⟩:=hall
  refine bf [] [(3,7),(14,18),(19,23)] (by kernel_rfl) rfl (by kernel_rfl) fun ops anc hA hG=>?_
  simp only[aw]at hG
  simp only[hb,hpl,hcell,h1,h2,h3,hG,b9,zW,seval]
  refine bx (v:=.int .i64 W) [p,m] rfl rfl (zA6 rfl) hFn (fun G hn hg=>hwd G hn hg) (by simp[cQ]) ?_
  simp only[hb,h4,hG,b9,zW,seval]
  refine bx (v:=.tuple ⟨[]⟩) [] rfl rfl (zA6 rfl) (by simp) (fun G hn hg=>nE G) (by simp[cQ]) ?_
  simp only[b9,lh,seval]
  refine bf [(8,3),(11,8),(11,3),(11,5)] [] (by kernel_rfl) (by kernel_rfl) rfl fun ops anc hA hG=>?_
  simp only[aw]at hA
  simp only[hb,hpl,hcell,hA,Tryz.results104,b9,zW,seval]
  exact a.Q2 sl hok (z:={x with row:=o.row}) rfl rfl rfl rfl
 ·rw[if_neg hall]
  have hs:d1=false\/(d1=true/\d2=false)\/(d1=true/\d2=true/\d3=false)\/(d1=true/\d2=true/\d3=true/\d4=false):=by
   cases d1<;>cases d2<;>cases d3<;>cases d4<;>simp_all
  have fin:j7 83 N p none H (.error [eR]) (ext H [⟨58,false,o.cells⟩]):=⟨ei.of (Ws:=[]) (Mod.ext hok) (by simp),rfl⟩
  rcases hs with rfl|⟨rfl,rfl⟩|⟨rfl,rfl,rfl⟩|⟨rfl,rfl,rfl,rfl⟩
  ·refine iV [] [(3,7),(14,18),(19,23)] (by kernel_rfl) (by kernel_rfl) rfl (by kernel_rfl) (fun ops anc hA hG=>?_) (by simp) ⟨rfl,rfl⟩
   simp only[aw]at hG
   simp only[cD,c7,hb,h1,hG,b9,zW,seval]
   simp only[dP,eZ,ej,true_and,zW,seval]
   refine br.panics (eL _) ?_
   simp only[cu,cy,bT,dj]
   exact fin
  ·refine iV [] [(3,7),(14,18),(19,23)] (by kernel_rfl) (by kernel_rfl) rfl (by kernel_rfl) (fun ops anc hA hG=>?_) (by simp) ⟨rfl,rfl⟩
   simp only[aw]at hG
   simp only[cD,c7,hb,hpl,hcell,h1,h2,hG,b9,zW,seval]
   simp only[dP,eZ,ej,true_and,zW,seval]
   refine br.panics (eL _) ?_
   simp only[cu,cy,bT,dj]
   exact fin
  ·refine iV [] [(3,7),(14,18),(19,23)] (by kernel_rfl) (by kernel_rfl) rfl (by kernel_rfl) (fun ops anc hA hG=>?_) (by simp) ⟨rfl,rfl⟩
   simp only[aw]at hG
   simp only[cD,c7,hb,hpl,hcell,h1,h2,h3,hG,b9,zW,seval]
   simp only[dP,eZ,ej,true_and,zW,seval]
   refine br.panics (eL _) ?_
   simp only[cu,cy,bT,dj]
   exact fin
  ·refine iV [] [(3,7),(14,18),(19,23)] (by kernel_rfl) (by kernel_rfl) rfl (by kernel_rfl) (fun ops anc hA hG=>?_) (by simp) ⟨rfl,rfl⟩
   simp only[aw]at hG
   simp only[cD,c7,hb,hpl,hcell,h1,h2,h3,hG,b9,zW,seval]
   refine bx (v:=.int .i64 W) [p,m] rfl rfl (zA6 rfl) hFn (fun G hn hg=>hwd G hn hg) (by simp[cQ]) ?_
   simp only[hb,h4,hG,b9,zW,seval]
   simp only[dP,eZ,ej,true_and,zW,seval]
   refine br.panics (eL _) ?_
   simp only[cu,cy,bT,dj]
   exact fin
end
end Go.Proofs.YtpohjcacnkhnkaaGreatDoor
namespace Go.Ax
section
variable {P : Program} {rec : Rec} {H H1 g : aa} {a a1 : ag} {u u1 : FrameMode}
theorem c9 {top:Bool} {ops:Array Oper} {o:Oper} {rest:List Oper} {v:Value} (hw:cw ops a o=some true) (ho:Nr P rec a H o=some (.ok v,g)):jW P rec top ops (o::rest) a H=jW P rec top ops rest (a.put o.dst v) g:=by simp only[jW,hw,ho]
theorem mo {x y:Code} (h:kP P rec x a u H=some (.normal,a1,u1,H1)):kP P rec (.seq x y) a u H=kP P rec y a1 u1 H1:=by simp only[kP,h]
theorem r8 {id:Nat} {ops:Array Oper} {e:Exit} (hn:(ops.toList.any fun o=>isRec o.op)=false) (h:rec.run none (.region id ops false) a H=some (e,a1,H1)):kP P rec (.region id ops false) a u H=some (e,a1,u,H1):=by
 simp only[kP,hn,h,zA9]
theorem DQ {id:Nat} {ops:Array Oper} (hn:(ops.toList.any fun o=>isRec o.op)=true):kP P rec (.region id ops false) a u H=jx P ops ops.toList a u H:=by
 simp only[kP,hn]
theorem zL {o:Oper} {t:TypeId} {x y:Operand} {p v:Value} (ho:o.op=.store t x y) (hx:aK P a x=some p) (hy:aK P a y=some v) (h:eW P H t p v=some g):Nr P rec a H o=some (.ok undef,g):=by
 simp only[Nr,ho,ck,sK,hx,hy,zA1,zA3,h,Kp,zA9,Qf]
end
end Go.Ax
namespace Go.Proofs.YtpohjcacnkhnkaaGreatDoor
open Go.Ax
def QE:ag:=⟨{RV.ofList []with n:=16},[]⟩
theorem RD (H:aa) (hok:H.base<=H.next):eW Tryz.prog (H.new (Bl.obj ⟨118,false,[]⟩)) 118 (.pointer (some ⟨H.next,0,none⟩)) (.agg #[])=some (ext H [⟨118,false,[]⟩]):=by
 have h:=tp (P:=Tryz.prog) (H:=H) (L:=[⟨118,false,[]⟩]) (b:=H.next) (i:=0) (off:=0) (t:=118) (v:=.agg #[]) rfl hok (by decide)
 have hs:vw Tryz.prog 118 (H.next+1) 0 (.agg #[]) (some ⟨118,false,[]⟩)=some ⟨118,false,[]⟩:=by
  rw[l5 (v:=.agg #[]) (by kernel_rfl) (by decide) rfl rfl]
  rfl
 simp only[List.length_singleton,zF5,hs,zA9,List.set_cons_zero,zE1]at h
 exact h
theorem Jd (H:aa) (hok:H.base<=H.next):lQ Tryz.prog (p7 Tryz.prog) 76 [] .returning H=some (.ok (.tuple ⟨[]⟩),.returning,ext H [⟨118,false,[]⟩]):=by
 have hr:∃ e1,kP Tryz.prog (p7 Tryz.prog) (Tryz.f76.body.getD .skip) QE .returning H=some (.normal,⟨e1,[]⟩,.returning,ext H [⟨118,false,[]⟩]):=by
  show ∃ e1,kP Tryz.prog (p7 Tryz.prog) (.seq _ (.seq _ (.seq _ _))) QE .returning H=_
  apply Exists.intro
  refine (mo ((DQ rfl).trans rfl)).trans ?_
  refine (mo (r8 rfl (Eq.trans (show (p7 Tryz.prog).run none _ _ H=jW Tryz.prog (exec Tryz.prog (fun _ _ _=>none) 59) true _ _ _ H from rfl) ((c9 rfl rfl).trans ((c9 rfl rfl).trans ((c9 rfl rfl).trans ((c9 rfl rfl).trans ((c9 rfl rfl).trans ((c9 rfl rfl).trans ((c9 rfl (zL rfl rfl rfl (RD H hok))).trans ((c9 rfl rfl).trans rfl))))))))))).trans ?_
  refine (mo (r8 rfl rfl)).trans ?_
  rfl
 obtain⟨e1,hr⟩:=hr
 have hb:Tryz.f76.body=some (Tryz.f76.body.getD .skip):=rfl
 simp only[lQ,Tryz.func76,zA1,zA3]
 rw[hb,zA3]
 show (kP Tryz.prog (p7 Tryz.prog) (Tryz.f76.body.getD .skip) QE _ H).bind _=_
 rw[hr]
 rfl
theorem JH (H:aa) (hok:H.base<=H.next):lQ Tryz.prog (p7 Tryz.prog) 76 [] (.panicking [eR]) H=some (.ok (.tuple ⟨[]⟩),.panicking [{eR with recovered:=true}],ext H [⟨118,false,[]⟩]):=by
 have hr:∃ e1,kP Tryz.prog (p7 Tryz.prog) (Tryz.f76.body.getD .skip) QE (.panicking [eR]) H=some (.normal,⟨e1,[]⟩,.panicking [{eR with recovered:=true}],ext H [⟨118,false,[]⟩]):=by
  show ∃ e1,kP Tryz.prog (p7 Tryz.prog) (.seq _ (.seq _ (.seq _ _))) QE (.panicking [eR]) H=_
  apply Exists.intro
  refine (mo ((DQ rfl).trans rfl)).trans ?_
  refine (mo (r8 rfl (Eq.trans (show (p7 Tryz.prog).run none _ _ H=jW Tryz.prog (exec Tryz.prog (fun _ _ _=>none) 59) true _ _ _ H from rfl) ((c9 rfl rfl).trans ((c9 rfl rfl).trans ((c9 rfl rfl).trans ((c9 rfl rfl).trans ((c9 rfl rfl).trans ((c9 rfl rfl).trans ((c9 rfl (zL rfl rfl rfl (RD H hok))).trans ((c9 rfl rfl).trans rfl))))))))))).trans ?_
  refine (mo (r8 rfl rfl)).trans ?_
  rfl
 obtain⟨e1,hr⟩:=hr
 have hb:Tryz.f76.body=some (Tryz.f76.body.getD .skip):=rfl
 simp only[lQ,Tryz.func76,zA1,zA3]
 rw[hb,zA3]
 show (kP Tryz.prog (p7 Tryz.prog) (Tryz.f76.body.getD .skip) QE _ H).bind _=_
 rw[hr]
 rfl
theorem Gq:settle (.panicking [{eR with recovered:=true}])=.returning:=by rfl
end Go.Proofs.YtpohjcacnkhnkaaGreatDoor
namespace Go.Ax
section
variable {P : Program} {ro : Option Nat} {H : aa} {N : Nat} {E : Env} {ds : List Deferred} {ops : Array Oper} {rest : List Oper} {ty : TypeId} {pos : String} {after : Array Edge} {Q : Exit -> ag -> aa -> Prop}
theorem OP {f:FuncId} {args:List Operand} {ts:Array TypeId} (ha:args.all (bj P N)=true):wpOps P none ops (⟨none,.defer ⟨.value (.func f),⟨args⟩,ts⟩,ty,pos,after,none⟩::rest) (bA N E ds) H Q=wpOps P none ops rest (bA N E (⟨.fn (.func f) #[],⟨args.map (cm E)⟩⟩::ds)) H Q:=by
 simp only[wpOps,cw,px,cp ha,aK,zA1,zA3,FC]
 rfl
end
end Go.Ax
namespace Go.Proofs.YtpohjcacnkhnkaaGreatDoor
open Go.Ax
def Rl (N p:Nat) (r:St ⊕ Nat) (H:aa) (out:Out) (X:aa):Prop :=
 ei N H X/\match r with
  |.inl y=>out=.ok (.int .i64 (-1))/\∃ v rvs,Cv v/\cT 83 N X p v rvs y
  |.inr i=>out=.ok (.int .i64 (i:Int))
theorem Fb:(Dc.all fun f=>aF Tryz.prog f)=true:=by kernel_rfl
theorem Pw (N:Nat) (H:aa) (p W:Nat) (v:Value) (rvs:List Value) (x:St) (o:Op) (k f:Nat) (hk:o.kind=(k:Int)) (hf:Dc[k]?=some f) (a:cT 83 N H p v rvs x) (sl:Cv v) (t:yO H) (hN:2<=N) (hok:H.base<=H.next) (ok:x.Ok W) (hlen:o.text.data.toList.length<=2000000) :
  bF Tryz.prog f [.pointer (some ⟨p,0,none⟩),o.val] H (j7 83 N p (x.pY W fU o) H):=by
 rw[Bj,hk]
 match k,hf with
 |0,hf=>obtain rfl:=Option.some.inj hf; exact I4 H hok o 83
 |1,hf=>obtain rfl:=Option.some.inj hf; rw[if_pos (by decide)]; exact Qe a sl hok ok o
 |2,hf=>obtain rfl:=Option.some.inj hf; rw[if_neg (by decide),if_pos (by decide)]; exact NG a sl hok o
 |3,hf=>obtain rfl:=Option.some.inj hf; rw[if_neg (by decide),if_neg (by decide),if_pos (by decide)]; exact FO N H p W v rvs x o a sl t hN hok ok hlen
 |4,hf=>obtain rfl:=Option.some.inj hf; rw[if_neg (by decide),if_neg (by decide),if_neg (by decide),if_pos (by decide)]; exact N8 N H p W v rvs x o a sl hok ok
 |5,hf=>obtain rfl:=Option.some.inj hf; rw[if_neg (by decide),if_neg (by decide),if_neg (by decide),if_neg (by decide),if_pos (by decide)]; exact wb N H p W v rvs x o a sl hok ok
 |6,hf=>obtain rfl:=Option.some.inj hf; rw[if_neg (by decide),if_neg (by decide),if_neg (by decide),if_neg (by decide),if_neg (by decide),if_pos (by decide)]; exact xe N H p W v rvs x o a sl hok ok
 |7,hf=>obtain rfl:=Option.some.inj hf; rw[if_neg (by decide),if_neg (by decide),if_neg (by decide),if_neg (by decide),if_neg (by decide),if_neg (by decide),if_pos (by decide)]; exact PD a sl hok o
 |8,hf=>obtain rfl:=Option.some.inj hf; rw[if_neg (by decide),if_neg (by decide),if_neg (by decide),if_neg (by decide),if_neg (by decide),if_neg (by decide),if_neg (by decide),if_pos (by decide)]; exact P5 a sl hok o
 |k+9,hf=>simp[Dc]at hf
theorem IN {N:Nat} {E:Env} {H:aa} {R:Out->aa->Prop} (hok:H.base<=H.next) (hR:∀ i,E 4=i->R (.ok i) (ext H [⟨118,false,[]⟩])) (h4:4<N) :
  fB Tryz.prog Tryz.f39 (bA N E [⟨.fn (.func 76) #[],⟨[]⟩⟩]) [⟨.fn (.func 76) #[],⟨[]⟩⟩] .returning H R:=by
 refine⟨by kernel_rfl,_,_,_,Jd H hok,?_⟩
 refine⟨[E 4],?_,?_⟩
 ·show cV Tryz.prog _ _ [.tmp 4]=_
  rw[B1 h4,A5]
  rfl
 ·rw[vF]; exact hR _ rfl
theorem JQ {N:Nat} {E:Env} {H:aa} {R:Out->aa->Prop} (hok:H.base<=H.next) (hR:∀ i,E 4=i->R (.ok i) (ext H [⟨118,false,[]⟩])) (h4:4<N) :
  fB Tryz.prog Tryz.f39 (bA N E [⟨.fn (.func 76) #[],⟨[]⟩⟩]) [⟨.fn (.func 76) #[],⟨[]⟩⟩] (.panicking [eR]) H R:=by
 refine⟨by kernel_rfl,_,_,_,JH H hok,?_⟩
 rw[Gq]
 refine⟨[E 4],?_,?_⟩
 ·show cV Tryz.prog _ _ [.tmp 4]=_
  rw[B1 h4,A5]
  rfl
 ·rw[vF]; exact hR _ rfl
theorem Gd (N:Nat) (H:aa) (p W:Nat) (v ov:Value) (rvs:List Value) (x:St) (l:List Op) (hl:jB H ov l) (hov:l≠[]->∀ n∈ae ov,n<N) (a:cT 83 N H p v rvs x) (sl:Cv v) (t:yO H) (hN:2<=N) (hNH:N<=H.next) (hok:H.base<=H.next) (ok:x.Ok W) (hlen:∀ o∈l,o.text.data.toList.length<=2000000) (hll:l.length<=10000) :
  bF Tryz.prog 39 [.pointer (some ⟨p,0,none⟩),ov] H (Rl N p (St.all W fU l 0 x) H):=by
 obtain⟨b,hb⟩:=Go.Ax.bP H.next
 have hbb:H.base<=b:=hb▸hok
 obtain⟨ao,co,eo⟩:=hl.sl
 have hst:∀ (M:Nat) (l:List Value),l.length=9->vw Tryz.prog 121 M 0 (.agg ⟨gm⟩) (some ⟨121,false,l⟩)=some ⟨121,false,gm⟩:=fun M l h=>by
  have hv:(Value.agg ⟨gm⟩).cells.toList=gm:=rfl
  rw[l5 (by rw[hv]; kernel_rfl) (by rw[hv,h]; decide) (by rw[hv]; rfl) (by rw[hv]; rfl),hv,pG _ _ (by rw[h]; decide),zF1 (by rw[h]; decide),zD0]
 refine aG mixed Tryz.func39 rfl Tryz.ntmps39 (zA6 rfl) ?_
 rw[eo]
 simp only[OP,zW,seval]
 refine (N0 (ext H [])).to ?_
 simp only[hb,hbb,hst,zW,seval]
 rw[<-eo]
 refine eT fun E hE=>?_
 have g0:E 0=.pointer (some ⟨p,0,none⟩):=by rw[hE]; rfl
 have g4:E 4=.int .i64 ((0:Nat):Int):=by rw[hE]; rfl
 have g5:E 5=.pointer (some ⟨b+0,0,none⟩):=by rw[hE]; rfl
 have g9:E 9=ov:=by rw[hE,eo]; simp only[aW,seval]
 have g10:E 10=.int .i64 (l.length:Int):=by rw[hE]; rfl
 have g11:E 11=.int .i64 ((0:Nat):Int):=by rw[hE]; rfl
 clear hE
 obtain⟨X,hX⟩:=Go.Ax.bP (ext H [⟨121,false,gm⟩])
 have mX:Mod [] H X:=hX▸Mod.ext hok
 have kX:bk X (b+0)=some ⟨121,false,gm⟩:=by rw[<-hX,bu hb (by simp)]; rfl
 have nX:X.next=b+1:=by rw[<-hX,ai,hb]; rfl
 have okX:=mX.ok hok
 have aX:=a.p8 mX
 rw[hX]
 rw[show X=ext X [] from rfl]
 have mXN:ei N H X:=ei.of (Ws:=[]) mX (by simp)
 have fin:∀ (Y:aa) (E:Env) (i:Nat),ei N X Y->E 4=.int .i64 (i:Int)->St.all W fU l 0 x=.inr i->fB Tryz.prog Tryz.f39 (bA 34 E [⟨.fn (.func 76) #[],⟨[]⟩⟩]) [⟨.fn (.func 76) #[],⟨[]⟩⟩] (.panicking [eR]) Y (Rl N p (St.all W fU l 0 x) H):=fun Y E i mY e4 hr=>by
  refine JQ (mY.ok okX) (fun j hj=>?_) (by decide)
  rw[e4]at hj
  subst hj
  rw[hr]
  exact⟨(mXN.trans mY).trans (ei.of (Ws:=[]) (Mod.ext (mY.ok okX)) (by simp)),rfl⟩
 refine bE (fun E' Y=>ei N X Y/\∃ y v rvs,St.all W fU l 0 x=.inl y/\Cv v/\cT 83 N Y p v rvs y) ?_ ?_
 ·refine cU (fun (q:Nat × St × Value × List Value) E' Y=>ei N X Y/\E' 0=.pointer (some ⟨p,0,none⟩)/\E' 5=.pointer (some ⟨b+0,0,none⟩)/\E' 9=ov/\E' 10=.int .i64 (l.length:Int)/\E' 11=.int .i64 (q.1:Int)/\q.1<=l.length/\St.all W fU (l.drop q.1) q.1 q.2.1=St.all W fU l 0 x/\q.2.1.Ok W/\Cv q.2.2.1/\cT 83 N Y p q.2.2.1 q.2.2.2 q.2.1) (fun q=>l.length-q.1) (0,x,v,rvs)
   ⟨ei.refl,g0,g5,g9,g10,g11,zB7 _,rfl,ok,sl,aX⟩ ?_
  clear g0 g4 g5 g9 g10 g11
  rintro⟨k,y,u,us⟩ E Y ⟨mY,g0,g5,g9,g10,g11,hk,hall,oky,slu,aY⟩
  simp only at g11 hk hall oky slu aY
  rw[show Y=ext Y [] from rfl]
  by_cases hkl:k=l.length
  ·have hc:decide ((k:Int)<(l.length:Int))=false:=by simp[hkl]
   simp only[g10,g11,hc,zW,seval]
   rw[zF1 (by omega),St.all]at hall
   exact aj ⟨mY,y,u,us,hall.symm,slu,aY⟩
  ·have hlt:k<l.length:=by omega
   have hc:decide ((k:Int)<(l.length:Int))=true:=decide_eq_true (by omega)
   obtain⟨o,ho⟩:∃ o,l[k]?=some o:=⟨_,zB1 hlt⟩
   have hlo:=hlen o (zB9 ho)
   have okY:=mY.ok okX
   obtain⟨yn,hyn⟩:∃ n,Y.next=n:=⟨_,rfl⟩
   have hyb:Y.base<=yn:=hyn▸okY
   have hby:b+0<yn:=by have:=mY.next; omega
   have kY:bk Y (b+0)=some ⟨121,false,gm⟩:=mY.kinds (by omega) kX
   have tY:yO Y:=(t.Qq (mXN.trans mY) hN (by omega))
   rcases hl with⟨h,_⟩|⟨cR,no,off,so,co',eo1,oo,L,eov,hrk,hno,hle,hop⟩
   ·rw[h]at hlt; simp at hlt
   have hnoN:no<N:=hov cR no (by rw[eov]; simp[ae])
   have hnoY:rk Y no=some ⟨eo1,oo,L⟩:=by
    obtain⟨Ws,h1,m1⟩:=mXN.trans mY
    exact (nf (m1.get no hno fun h=>by have:=(h1 no h).1; omega)).trans hrk
   have hnoy:no<yn:=by have:=(mXN.trans mY).next; omega
   have ia:=O2 (len:=l.length) (cap:=co') (n:=no) (off:=off) (s:=so) (i:=(k:Int)) rfl hlt
   have ld:=IH (e:=eo1) (o:=oo) ho hle hop
   rw[eov]at g9
   simp only[g9,g10,g11,hc,hyn,hyb,hnoy,ia,hnoY,ld,dQ,Op.val,Op.cells,zW,seval]
   obtain⟨d1,h1⟩:∃ d,decide (0<=o.kind)=d:=⟨_,rfl⟩
   obtain⟨d2,h2⟩:∃ d,decide (o.kind<9)=d:=⟨_,rfl⟩
   have mB:Mod [] Y (ext Y [⟨58,false,o.cells⟩]):=Mod.ext okY
   have mBN:ei N X (ext Y [⟨58,false,o.cells⟩]):=mY.trans (ei.of (Ws:=[]) mB (by simp))
   by_cases hv:(d1&&d2)=true
   ·simp only[zA4]at hv
    obtain⟨rfl,rfl⟩:=hv
    have q1:=of_decide_eq_true h1
    have q2:=of_decide_eq_true h2
    obtain⟨j,hj⟩:∃ j:Nat,o.kind=j:=⟨o.kind.toNat,by omega⟩
    have hj9:j<9:=by omega
    obtain⟨f,hf⟩:∃ f,Dc[j]?=some f:=⟨_,zB1 (show j<9 from hj9)⟩
    have hbf:aF Tryz.prog f=true:=zC6.1 Fb f (zB9 hf)
    simp only[h1,h2,hyn,zW,seval]
    refine br.to (nE _) ?_
    have ix:aP Tryz.prog 121 (.pointer (some ⟨b+0,0,none⟩)) (.int .i64 (j:Int))=some (.pointer (some ⟨b+0,0+j,none⟩)):=by
     have hu:Tryz.prog.underlying 121=some (.array 9 120):=by kernel_rfl
     have hz:bh Tryz.prog 120=some 1:=by kernel_rfl
     simp only[aP,hu,hz,zA1,zA3]
     rw[if_pos ⟨by omega,by omega⟩]
     simp[Addr.add]
     omega
    have lk:oL Tryz.prog 120 (0+j) (some ⟨121,false,gm⟩)=some (.func (.func f) ⟨[]⟩ ⟨[]⟩):=by
     rw[kF (by kernel_rfl),zB8]
     simp only[gm,zF0,hf,zA9]
     rfl
    simp only[hj,lh,seval]
    refine iV [] [] (by kernel_rfl) (by kernel_rfl) rfl rfl (fun ops anc hA hG=>?_) (by simp) ⟨rfl,rfl⟩
    simp only[cD,c7,g0,g5,hyn,hby,kY,ix,lk,b9,zW,seval]
    simp only[dP,eZ,ej,true_and]
    refine vK (f:=f) (ca:=[]) rfl rfl rfl hbf ?_
    simp only[aW,seval]
    rw[zD0]
    have aB:=aY.p8 mB
    have tB:yO (ext Y [⟨58,false,o.cells⟩]):=tY.Qq (ei.of (N:=N) (Ws:=[]) mB (by simp)) hN (by omega)
    have key:=Pw N (ext Y [⟨58,false,o.cells⟩]) p W u us y o j f hj hf aB slu tB hN (mB.ok okY) oky hlo
    simp only[Op.val,Op.cells,hj]at key
    refine key.mono ?_
    rintro out Z ⟨mZ,hr⟩
    replace mZ:ei N (ext Y [⟨58,false,o.cells⟩]) Z:=by simp only[Op.cells,hj]; exact mZ
    have mZN:=mBN.trans mZ
    cases hd:y.pY W fU o with
    |none =>
     rw[hd]at hr
     obtain rfl:=hr
     have hstop:=Eb (W:=W) l k k y o ho hd
     rw[hstop]at hall
     simp only[cu,cy,iH,jQ,jE,bT]
     exact fin _ _ k mZN rfl hall.symm
    |some y2 =>
     rw[hd]at hr
     obtain⟨rfl,v2,us2,sl2,a2⟩:=hr
     rw[LJ l k k y y2 o ho hd]at hall
     rw[show Z=ext Z [] from rfl]
     simp only[g11,bO (show k<1000000 by omega),zW,seval]
     refine aM ⟨(k+1,y2,v2,us2),by simp only; omega,mZN,?_,?_,?_,?_,?_,by simp only; omega,hall,vW oky hd,sl2,a2⟩
     ·exact g0
     ·exact g5
     ·simp only[g9,eov,aW,seval]
     ·exact g10
     ·rfl
   ·have hdn:y.pY W fU o=none:=by
     rw[Bj]
     have:o.kind<0\/9<=o.kind:=by
      cases d1 with
      |false=>have:=of_decide_eq_false h1; omega
      |true =>
       cases d2 with
       |false=>have:=of_decide_eq_false h2; omega
       |true=>exact absurd rfl hv
     rw[if_neg (by omega),if_neg (by omega),if_neg (by omega),if_neg (by omega),if_neg (by omega),if_neg (by omega),if_neg (by omega),if_neg (by omega)]
    have hstop:=Eb (W:=W) l k k y o ho hdn
    rw[hstop]at hall
    have hs:d1=false\/(d1=true/\d2=false):=by cases d1<;>cases d2<;>simp_all
    rcases hs with rfl|⟨rfl,rfl⟩
    ·simp only[h1,zW,seval]
     refine br.panics (eL _) ?_
     simp only[cu,cy,iH,jQ,jE,bT]
     exact fin _ _ k mBN rfl hall.symm
    ·simp only[h1,h2,hyn,zW,seval]
     refine br.panics (eL _) ?_
     simp only[cu,cy,iH,jQ,jE,bT]
     exact fin _ _ k mBN rfl hall.symm
 ·rintro E Y ⟨mY,y,u,us,hall,slu,aY⟩
  rw[show Y=ext Y [] from rfl]
  simp only[zW,seval]
  rw[hall]
  refine IN (mY.ok okX) (fun i hi=>?_) (by decide)
  simp only[aW]at hi
  subst hi
  exact⟨(mXN.trans mY).trans (ei.of (Ws:=[]) (Mod.ext (mY.ok okX)) (by simp)),rfl,u,us,slu,aY.p8 (Mod.ext (mY.ok okX))⟩
def sT (g:List (List Ce)):Nat:=(g.getD 0 []).length
def A8 (g:List (List Ce)) (r c:Int):Int :=
 cond (decide ((g.length:Int)<1)||decide (200<(g.length:Int))) 3
  (cond (decide ((sT g:Int)<1)||decide (1000<(sT g:Int))||(!(decide (0<=r)&&decide (r<(g.length:Int))&&decide (0<=c)&&decide (c<(sT g:Int)))&&!(decide (r=-1)&&decide (c=0)))) 3
   (cond (qL (sT g) g) 0 5))
theorem Ke (H:aa) (v:Value) (g:List (List Ce)) (r c:Int) (hg:eE H v g) (hw:∀ l∈g,l.length<1000000) (hgl:g.length<1000000) :
  Pure 37 [.agg ⟨[v,.int .i64 r,.int .i64 c]⟩] H (.int .i64 (A8 g r c)):=by
 obtain⟨b,hb⟩:∃ b,H.next=b:=⟨_,rfl⟩
 obtain⟨h,hh⟩:∃ h,g.length=h:=⟨_,rfl⟩
 obtain⟨W,hW⟩:∃ W,sT g=W:=⟨_,rfl⟩
 obtain⟨dh1,k1⟩:∃ d,decide ((h:Int)<1)=d:=⟨_,rfl⟩
 obtain⟨dh2,k2⟩:∃ d,decide ((200:Int)<(h:Int))=d:=⟨_,rfl⟩
 obtain⟨dW1,k3⟩:∃ d,decide ((W:Int)<1)=d:=⟨_,rfl⟩
 obtain⟨dW2,k4⟩:∃ d,decide ((1000:Int)<(W:Int))=d:=⟨_,rfl⟩
 obtain⟨d1,h1⟩:∃ d,decide ((0:Int)<=r)=d:=⟨_,rfl⟩
 obtain⟨d2,h2⟩:∃ d,decide (r<(h:Int))=d:=⟨_,rfl⟩
 obtain⟨d3,h3⟩:∃ d,decide ((0:Int)<=c)=d:=⟨_,rfl⟩
 obtain⟨d4,h4⟩:∃ d,decide (c<(W:Int))=d:=⟨_,rfl⟩
 obtain⟨d5,h5⟩:∃ d,decide (r=-1)=d:=⟨_,rfl⟩
 obtain⟨d6,h6⟩:∃ d,decide (c=0)=d:=⟨_,rfl⟩
 obtain⟨B,hB⟩:∃ B,qL W g=B:=⟨_,rfl⟩
 have h5':decide (¬r=-1)=!d5:=by rw[decide_not,h5]
 have h6':decide (¬c=0)=!d6:=by rw[decide_not,h6]
 rw[A8,hh,hW,k1,k2,k3,k4,h1,h2,h3,h4,h5,h6,hB]
 refine bJ mixed Tryz.func37 rfl Tryz.ntmps37 (zA6 rfl) fun wf hsc=>?_
 have hbase:H.base<=b:=hb▸wf.base
 have hg':=hg
 obtain⟨a0,c0,e0⟩:=hg.sl
 have hscv:aS b v=true:=by
  simp only[aO,aS,fb,zA4,hb]at hsc
  exact hsc.1.1
 rw[e0,hh]at hscv
 cases dh1 with
 |true =>
  rw[e0,hh]
  simp (maxDischargeDepth:=6) only[hb,hscv,k1,Tryz.results37,zW,seval]
  exact Fin.cz rfl rfl
 |false =>
  cases dh2 with
  |true =>
   rw[e0,hh]
   simp (maxDischargeDepth:=6) only[hb,hscv,k1,k2,Tryz.results37,zW,seval]
   exact Fin.cz rfl rfl
  |false =>
   have hpos:0<g.length:=by have:=of_decide_eq_false k1; omega
   rcases hg with⟨h',_⟩|⟨_,n1,o1,s1,x1,t1,p1,L1,rfl,b1,n1l,le1,tk1⟩
   ·rw[h']at hpos; simp at hpos
   obtain⟨r0,hr0⟩:∃ q,g[0]?=some q:=⟨_,zB1 hpos⟩
   obtain⟨u0,hu0,ra0⟩:=tk1 0 r0 hr0
   obtain⟨a0',k0,e0'⟩:=ra0.sl
   have hl0:r0.length=W:=by rw[<-hW,sT,zC8,hr0]; rfl
   rw[hl0]at e0'
   rw[e0']at hu0
   have i1:=kg (n:=n1) (off:=o1) (s:=s1) (cap:=x1) (i:=((0:Nat):Int)) rfl hpos
   rw[show ((0:Nat):Int)=0 from rfl]at i1
   have q1:=gu (e:=t1) (o:=p1) hu0
   rw[zE1]at q1 i1
   rw[hh]at i1 hg' ⊢
   have hlt:=n1l
   rw[hb]at hlt
   have hB1:∀ A:Bl,bk (ext H [A,⟨3,false,[.int .i64 (W:Int)]⟩]) (b+1)=some ⟨3,false,[.int .i64 (W:Int)]⟩:=fun A=>by rw[bu hb (by simp)]; rfl
   have hct:=Cd (ext H [⟨41,false,[.slice (some ⟨n1,o1,s1⟩) h x1,.int .i64 r,.int .i64 c]⟩,⟨3,false,[.int .i64 (W:Int)]⟩]) _ g W (b+1) hg'.ext hw hgl (hB1 _)
   rw[hB]at hct
   have hs:(d1=true/\d2=true/\d3=true/\d4=true)\/d1=false\/(d1=true/\d2=false)\/(d1=true/\d2=true/\d3=false)\/(d1=true/\d2=true/\d3=true/\d4=false):=by
    cases d1<;>cases d2<;>cases d3<;>cases d4<;>simp
   have hws:dW1=true\/(dW1=false/\dW2=true)\/(dW1=false/\dW2=false):=by cases dW1<;>cases dW2<;>simp
   have hns:d5=false\/(d5=true/\d6=false)\/(d5=true/\d6=true):=by cases d5<;>cases d6<;>simp
   rcases hws with rfl|⟨rfl,rfl⟩|⟨rfl,rfl⟩
   ·rcases hs with⟨rfl,rfl,rfl,rfl⟩|rfl|⟨rfl,rfl⟩|⟨rfl,rfl,rfl⟩|⟨rfl,rfl,rfl,rfl⟩
    all_goals (simp (maxDischargeDepth:=6) only[hb,hbase,hlt,b1,i1,q1,dQ,k1,k2,k3,h1,h2,h3,h4,Tryz.results37,zW,seval]; exact Fin.cz rfl rfl)
   ·rcases hs with⟨rfl,rfl,rfl,rfl⟩|rfl|⟨rfl,rfl⟩|⟨rfl,rfl,rfl⟩|⟨rfl,rfl,rfl,rfl⟩
    all_goals (simp (maxDischargeDepth:=6) only[hb,hbase,hlt,b1,i1,q1,dQ,k1,k2,k3,k4,h1,h2,h3,h4,Tryz.results37,zW,seval]; exact Fin.cz rfl rfl)
   ·rcases hs with⟨rfl,rfl,rfl,rfl⟩|hs
    ·simp (maxDischargeDepth:=6) only[hb,hbase,hlt,b1,i1,q1,dQ,k1,k2,k3,k4,h1,h2,h3,h4,zE0,zW,seval]
     refine hct.to ?_
     cases B with
     |true=>simp (maxDischargeDepth:=6) only[zE0,Tryz.results37,zW,seval]; exact Fin.cz rfl rfl
     |false=>simp (maxDischargeDepth:=6) only[zG2,Tryz.results37,zW,seval]; exact Fin.cz rfl rfl
    rcases hs with rfl|⟨rfl,rfl⟩|⟨rfl,rfl,rfl⟩|⟨rfl,rfl,rfl,rfl⟩
    all_goals rcases hns with rfl|⟨rfl,rfl⟩|⟨rfl,rfl⟩
    all_goals simp (maxDischargeDepth:=6) only[hb,hbase,hlt,b1,i1,q1,dQ,k1,k2,k3,k4,h1,h2,h3,h4,h5',h6',zE0,zG2,Tryz.results37,zW,seval]
    all_goals first
     |exact Fin.cz rfl rfl
     | (refine hct.to ?_
        cases B with
        |true=>simp (maxDischargeDepth:=6) only[zE0,Tryz.results37,zW,seval]; exact Fin.cz rfl rfl
        |false=>simp (maxDischargeDepth:=6) only[zG2,Tryz.results37,zW,seval]; exact Fin.cz rfl rfl)
theorem Fu (H:aa) (v:Value) (l:List Ce) (hr:eQ H v l) (cR:l≠[]) (hok:H.base<=H.next) (hlen:l.length<=10000) :
  bF Tryz.prog 33 [v] H (fun out X=>∃ u,out=.ok u/\fQ H.next X u l/\Mod [] H X):=by
 obtain⟨b,hb⟩:=Go.Ax.bP H.next
 have hk:bk (ext H [⟨77,false,[]⟩]) (b+0)=some ⟨77,false,[]⟩:=by rw[bu hb (by simp)]; rfl
 obtain⟨u,G,hap,hu,hm,hid⟩:=Lf (G:=ext H [⟨77,false,[]⟩]) hk (by rw[ai,hb]; simp) ((Mod.ext (W:=[]) hok).ok hok) hr.ext hlen
 rcases hr with⟨h,_⟩|⟨_,n,off,s,c,e,o,L,rfl,hbn,hnl,hle,ht⟩
 ·exact absurd h cR
 rw[hb]at hnl
 refine aG mixed Tryz.func33 rfl Tryz.ntmps33 (zA6 rfl) ?_
 simp only[hb,hap,Tryz.results33,zW,seval]
 refine⟨u,rfl,?_,?_⟩
 ·obtain⟨m,s',c',o',e',h1,h2,h3⟩:=hu
  exact⟨m,s',c',o',e',h1,by omega,h3⟩
 ·exact (Mod.ext (W:=[]) hok).step hm hok (fun m hm=>by simp only[zA5]at hm; exact .inr (by omega))
theorem I3 (H:aa) (v:Value) (g:List (List Ce)) (r c:Int) (hg:eE H v g) (hok:H.base<=H.next) (hs:aS H.next v=true) (cR:∀ l∈g,l≠[]) (hw:∀ l∈g,l.length<=10000) (hgl:g.length<=10000) :
  bF Tryz.prog 38 [.agg ⟨[v,.int .i64 r,.int .i64 c]⟩] H (fun out X=>∃ u rvs,out=.ok (.agg ⟨[u,.int .i64 r,.int .i64 c]⟩)/\Grow H.next X u rvs g/\Mod [] H X):=by
 obtain⟨b,hb⟩:=Go.Ax.bP H.next
 have hbase:H.base<=b:=hb▸hok
 obtain⟨a0,c0,e0⟩:=hg.sl
 rw[hb]at hs
 have hs':=hs
 rw[e0]at hs
 refine aG mixed Tryz.func38 rfl Tryz.ntmps38 (zA6 rfl) ?_
 rw[e0]
 simp (maxDischargeDepth:=6) only[hb,hbase,hs,zW,seval]
 rw[<-e0]
 refine eT fun E hE=>?_
 have g1:E 1=.pointer (some ⟨b+0,0,none⟩):=by rw[hE]; rfl
 have g2:E 2=.pointer (some ⟨b+1,0,none⟩):=by rw[hE]; rfl
 have g9:E 9=v:=by rw[hE,e0]; simp only[aW,seval]
 have g10:E 10=.int .i64 (g.length:Int):=by rw[hE]; rfl
 have g11:E 11=.int .i64 ((0:Nat):Int):=by rw[hE]; rfl
 clear hE
 generalize hX0:ext H _=X0
 have m0:Mod [] H X0:=hX0▸Mod.ext hok
 have n0:X0.next=b+2:=by rw[<-hX0,ai,hb]; rfl
 have k0:bk X0 (b+0)=some ⟨41,false,[.slice none 0 0,.int .i64 r,.int .i64 c]⟩:=by rw[<-hX0,bu hb (by simp)]; rfl
 have k1:bk X0 (b+1)=some ⟨41,false,[.slice none 0 0,.int .i64 0,.int .i64 0]⟩:=by rw[<-hX0,bu hb (by simp)]; rfl
 clear hX0
 refine bE (fun E' X=>∃ u rvs,Mod [] H X/\b+2<=X.next/\bk X (b+1)=some ⟨41,false,[.slice none 0 0,.int .i64 0,.int .i64 0]⟩/\bk X (b+0)=some ⟨41,false,[u,.int .i64 r,.int .i64 c]⟩/\Grow (b+2) X u rvs g/\E' 1=.pointer (some ⟨b+0,0,none⟩)/\E' 2=.pointer (some ⟨b+1,0,none⟩)) ?_ ?_
 ·refine cU (fun (k:Nat × Value × List Value) E' X=>Mod [] H X/\b+2<=X.next/\bk X (b+1)=some ⟨41,false,[.slice none 0 0,.int .i64 0,.int .i64 0]⟩/\bk X (b+0)=some ⟨41,false,[k.2.1,.int .i64 r,.int .i64 c]⟩/\Grow (b+2) X k.2.1 k.2.2 (g.take k.1)/\k.1<=g.length/\E' 1=.pointer (some ⟨b+0,0,none⟩)/\E' 2=.pointer (some ⟨b+1,0,none⟩)/\E' 9=v/\E' 10=.int .i64 (g.length:Int)/\E' 11=.int .i64 (k.1:Int)) (fun k=>g.length-k.1) (0,.slice none 0 0,[])
   ⟨m0,by omega,k1,k0,Grow.nil,zB7 _,g1,g2,g9,g10,g11⟩ ?_
  clear g1 g2 g9 g10 g11 k0 k1 n0 m0
  rintro⟨k,u,rvs⟩ E X ⟨mX,xl,k1,k0,gr,hk,g1,g2,g9,g10,g11⟩
  simp only at k0 k1 gr hk g11
  obtain⟨x,hx⟩:=Go.Ax.bP X.next
  have okX:=mX.ok hok
  have hxb:X.base<=x:=hx▸okX
  rw[hx]at xl
  have l0:b+0<x:=by omega
  rw[show X=ext X [] from rfl]
  by_cases hkl:k=g.length
  ·have hc:decide ((k:Int)<(g.length:Int))=false:=by simp[hkl]
   simp (maxDischargeDepth:=6) only[g10,g11,hc,zW,seval]
   rw[hkl,List.take_length]at gr
   exact aj ⟨u,rvs,mX,by rw[ai,hx]; simpa using xl,k1,k0,gr,by simp only[g1,aW,seval],by simp only[g2,aW,seval]⟩
  ·have hlt:k<g.length:=by omega
   have hc:decide ((k:Int)<(g.length:Int))=true:=decide_eq_true (by omega)
   obtain⟨w1,hr1⟩:∃ r,g[k]?=some r:=⟨_,zB1 hlt⟩
   rcases hg with⟨h,_⟩|⟨_,n1,o1,s1,x1,t1,p1,L1,ev,b1,n1l,le1,tk1⟩
   ·rw[h]at hlt; simp at hlt
   subst ev
   obtain⟨u1,hu1,ra1⟩:=tk1 k w1 hr1
   have hw1:w1≠[]:=cR w1 (zB9 hr1)
   have i1:=kg (n:=n1) (off:=o1) (s:=s1) (cap:=x1) (i:=(k:Int)) rfl hlt
   have q1:=gu (e:=t1) (o:=p1) hu1
   have b1X:rk X n1=some ⟨t1,p1,L1⟩:=(nf (mX.get n1 n1l (by simp))).trans b1
   have raX:eQ X u1 w1:=ra1.of mX.next fun m hm=>mX.get m (ra1.ne hw1 m hm).2 (by simp)
   have n1x:n1<x:=by have:=mX.next; omega
   obtain⟨au,eu⟩:=gr.at_.len
   simp (maxDischargeDepth:=6) only[g9,g10,g11,hx,n1x,i1,b1X,q1,dQ,hc,zW,seval]
   refine bf [(4,3),(5,1),(5,3),(5,4),(7,1),(7,3),(7,4),(7,5)] [] (by kernel_rfl) (by kernel_rfl) rfl fun ops anc hA hG=>?_
   simp only[aw]at hA
   simp (maxDischargeDepth:=6) only[g1,hx,l0,k0,b9,zW,seval]
   have hFu:∀ n∈ae u1,X.get n≠none/\n<X.next:=raX.ne hw1
   have hrn:=aL X (ae u1)
   have ra2:eQ (X.restrict (ae u1)) u1 w1:=raX.of (by rw[hrn.1]; exact zA8 _) fun n hn=>by rw[aU,if_pos hn]
   obtain⟨_,gg,hcc,rv,rfl,hrv,mg⟩:=Fu (X.restrict (ae u1)) u1 w1 ra2 hw1 (by rw[hrn.1,hrn.2.1]; exact zA8 _) (hw w1 (zB9 hr1))
   rw[hrn.1]at hrv
   refine oM (H:=ext X []) (W:=[]) (ae u1) okX rfl (by kernel_rfl) (fun n hn=>(hFu n hn).1) (fun n hn=>(hFu n hn).2) (fun _ h=>by simp at h) (v:=rv) (g:=gg) (by simp only[aW]; exact hcc) mg (by simp[]) ?_
   intro Z D mZ hFZ hNZ hnZ hDZ
   have hD0:D=[]:=List.eq_nil_iff_forall_not_mem.2 (fun q hq=>by simpa using hDZ q hq)
   subst hD0
   replace mZ:Mod [] X Z:=mZ
   replace hNZ:∀ m,X.next<=m->m<gg.next->Z.get m=gg.get m:=hNZ
   have okZ:=mZ.ok okX
   have hZx:=mZ.next
   have hrvZ:fQ x Z rv w1:=by
    obtain⟨n,s,cc,o,e,h1,h2,h3⟩:=hrv
    exact⟨n,s,cc,o,e,(bg (hNZ n h2 h3)).trans h1,by omega,by rw[hnZ]; exact h3⟩
   have hidr:∀ n∈ae rv,x<=n/\n<Z.next/\Z.get n≠none:=hrvZ.vt
   obtain⟨nr,sr,cr,EO,rfl,hb3,hlo3,hlt3⟩:=id hrvZ
   obtain⟨z,hz⟩:=Go.Ax.bP Z.next
   have hzb:Z.base<=z:=hz▸okZ
   have hlt3':=hlt3
   rw[hz]at hlt3'
   rw[show Z=ext Z [] from rfl]
   simp (maxDischargeDepth:=6) only[hz,hlt3',hA,b9,zW,seval]
   obtain⟨rvV,hrvV⟩:∃ q,q=Value.slice (some ⟨nr,0,Rg sr⟩) w1.length (w1.length+cr):=⟨_,rfl⟩
   have hone1:one rvV=true:=by rw[hrvV]; rfl
   rw[<-hrvV]at hrvZ hidr ⊢
   rw[Ls (by simp only[aW,seval])]
   generalize hY2:ext Z _=Y2
   have mY2:Mod [] Z Y2:=hY2▸Mod.ext okZ
   have hY2n:Y2.next=z+1:=by rw[<-hY2,ai,hz]; rfl
   have hk2:bk Y2 (z+0)=some ⟨56,false,[rvV]⟩:=by rw[<-hY2,bu hz (by simp)]; rfl
   have okY2:=mY2.ok okZ
   have mXY2:Mod [] X Y2:=mZ.trans mY2
   have hF2:∀ n∈(z+0)::ae u,Y2.get n≠none/\n<Y2.next:=fun n hn=>by
    rcases zA7.1 hn with rfl|hn
    ·exact⟨dT hk2,by omega⟩
    ·have:=gr.at_.ne n hn
     exact⟨by rw[mXY2.get n this.2 (by simp)]; exact this.1,zD5 this.2 mXY2.next⟩
   have hrn2:=aL Y2 ((z+0)::ae u)
   have hgtk:(g.take k).length=k:=by rw[List.length_take]; omega
   have vsY:=gr.at_.of (G:=Y2.restrict ((z+0)::ae u)) (by rw[hrn2.1]; exact mXY2.next) (fun n hn=>by rw[aU,if_pos (by simp[hn]),mXY2.get n (gr.at_.ne n hn).2 (by simp)])
   have hrvY2:fQ (b+2) Y2 rvV w1:=by
    obtain⟨n,s,c',o,e,h1,h2,h3⟩:=hrvZ.of mY2.next (fun n hn=>mY2.get n (hidr n hn).2.1 (by simp))
    exact⟨n,s,c',o,e,h1,by omega,h3⟩
   have hscr:aO Y2.next (rvs++[rvV])=true:=cB (dN mXY2.next _ gr.sc) (by rw[hrvV]; simp only[aO,aS,Bool.and_true]; exact a8 (by omega))
   obtain⟨G2,hap2,hvs2,hmd2,hgn2,_⟩:=ta (P:=Tryz.prog) (H:=Y2.restrict ((z+0)::ae u)) (st:=39) (xt:=39) (e:=56) (sz:=1) (by1:=24) (z:=.slice none 0 0) (n:=z+0) (off:=0) (cnt2:=1) (cap:=1) (s:=some 0) (x:=Y2.next) (ws:=[rvV]) (b:=⟨56,false,[rvV]⟩)
    (by kernel_rfl) (by kernel_rfl) (by kernel_rfl) (by kernel_rfl) rfl (by kernel_rfl) vsY (jR ((bg (by rw[aU,if_pos (by simp)])).trans hk2)) (by simp) rfl (by simp[hone1]) (by decide) (by simp only[small,zA4,zE6]; omega) hrn2.1 (by rw[hrn2.1]; exact hscr)
   refine mQ (H:=Y2) (W:=ae u) ((z+0)::ae u) okY2 (fun n hn=>(hF2 n hn).1) (fun n hn=>(hF2 n hn).2) (fun n hn=>by simp[hn]) (M5 (v:=_) (G:=G2) rfl (by simp only[aW,seval]; exact hap2)) (hmd2 (by rw[hrn2.1,hrn2.2.1]; exact zA8 _)) (by simp only[aw,cx,hA,true_or,and_true]) ?_
   intro Z3 D3 mZ3 hFZ3 hNZ3 hnZ3 hDZ3
   rw[hgn2]at hnZ3 hNZ3
   have hb4:bk Z3 Y2.next=some ⟨56,true,rvs++[rvV]⟩:=by
    obtain⟨_,_,⟨h0,_⟩|⟨_,n,e,hbn,_⟩⟩:=hvs2
    ·omega
    ·cases e
     exact (bg (hNZ3 _ (zA8 _) (by omega))).trans hbn
   have gr3:=gr.push mXY2 (by omega) hrvY2 (fun n hn=>by rw[hx]; exact (hidr n hn).1) hone1 mZ3 hb4 (by omega)
   have nbu:∀ j,j<b+2->j∉ae u:=fun j hj h=>by have:=(gr.apart j h).1; omega
   have keep:∀ j,j<b+2->bk Z3 j=bk X j:=fun j hj=>(mZ3.bk (by omega) (nbu j hj)).trans (mXY2.bk (by omega) (by simp))
   have k0':=(keep (b+0) (by omega)).trans k0
   have k1':=(keep (b+1) (by omega)).trans k1
   obtain⟨z3,hz3⟩:=Go.Ax.bP Z3.next
   have l3:b+0<z3:=by omega
   have l4:Y2.next<z3:=by omega
   rw[hgtk]at gr3 ⊢
   rw[show Z3=ext Z3 [] from rfl]
   simp (maxDischargeDepth:=6) only[g1,g11,hz3,k0',l3,l4,hA,bO (show k<1000000 by omega),b9,zW,seval]
   refine⟨⟨fun _=>.inr (.inl (by omega)),.inr (.inl (by omega)),fun _=>.inr (.inl (by omega))⟩,?_⟩
   generalize hU:uw Z3 (b+0) 0 _=U
   have mU:Mod [b+0] Z3 U:=hU▸Mod.uw (by simp)
   have hU2:bk U (b+0)=some ⟨41,false,[.slice (some ⟨Y2.next,0,none⟩) (k+1) (k+1),.int .i64 r,.int .i64 c]⟩:=by rw[<-hU,bR,k0']; rfl
   have mXU:Mod ((b+0)::ae u) X U:=((mXY2.mono (by simp)).trans (mZ3.mono (fun n hn=>zC7 _ hn))).trans (mU.mono (by simp))
   have hUn:=mU.next
   refine aM ⟨(k+1,.slice (some ⟨Y2.next,0,none⟩) (k+1) (k+1),rvs++[rvV]),by simp only; omega,mX.step mXU hok (fun n hn=>?_),by rw[ai]; simp only[zB6]; omega,?_,hU2,?_,by simp only; omega,?_,?_,?_,?_,?_⟩
   ·rcases zA7.1 hn with rfl|hn
    ·exact .inr (by omega)
    ·have:=(gr.apart n hn).1; exact .inr (by omega)
   ·exact (mU.bk (by omega) (by simp)).trans k1'
   ·simp only
    rw[show g.take (k+1)=g.take k++[w1] from by rw[List.take_add_one,hr1]; rfl]
    refine gr3.of mU.next fun n hn hm=>mU.get n hn ?_
    simp only[zA5]
    rintro rfl
    rcases zB2.1 hm with hm|hm
    ·have:=(gr3.apart _ hm).1; omega
    ·have:=(gr3.ids _ hm).1; omega
   ·exact g1
   ·exact g2
   ·exact g9
   ·exact g10
   ·rfl
 ·clear g1 g2 g9 g10 g11 k0 k1 n0 m0
  rintro E X ⟨u,rvs,mX,xl,k1,k0,gr,g1,g2⟩
  obtain⟨au,eu⟩:=gr.at_.len
  obtain⟨x,hx⟩:=Go.Ax.bP X.next
  rw[hx]at xl
  have l1:b+1<x:=by omega
  have l0:b+0<x:=by omega
  have hsu:aS x (.slice au g.length g.length)=true:=by
   rw[<-eu]
   obtain⟨_,_,⟨_,rfl⟩|⟨_,n,rfl,_,h⟩⟩:=gr.at_
   ·rfl
   ·exact a8 (by rw[<-hx]; exact h)
  rw[eu]at k0
  rw[show X=ext X [] from rfl]
  simp (maxDischargeDepth:=6) only[g1,g2,hx,k0,k1,l0,l1,hsu,Tryz.results38,zW,seval]
  generalize hU:uw X (b+1) 0 _=U
  have mU:Mod [b+1] X U:=hU▸Mod.uw (by simp)
  refine⟨u,rvs,by rw[eu],?_,mX.step mU hok (fun n hn=>by simp only[zA5]at hn; exact .inr (by omega))⟩
  have gU:=gr.of (Y:=U) mU.next fun n hn hm=>mU.get n hn (by
   simp only[zA5]
   rintro rfl
   rcases zB2.1 hm with hm|hm
   ·have:=(gr.apart _ hm).1; omega
   ·have:=(gr.ids _ hm).1; omega)
  exact⟨gU.at_,fun i rv l h1 h2=>by
   obtain⟨n,s,c',o,e,h3,h4,h5⟩:=gU.row i rv l h1 h2
   exact⟨n,s,c',o,e,h3,by omega,h5⟩,gU.nd,fun n hn=>⟨by have:=(gU.apart n hn).1; omega,(gU.apart n hn).2⟩,gU.sc⟩
def Ly (H:aa) (v:Value):Prop:=∀ n off s len c b,v=.slice (some ⟨n,off,s⟩) len c->rk H n=some b->aO H.next b.l=true
theorem eE.y6 {H:aa} {v:Value} {g:List (List Ce)} (h:eE H v g) (cR:g≠[]):∃ F:List Nat,(∀ n∈F,H.get n≠none/\n<H.next)/\∀ G:aa,H.next<=G.next->(∀ n∈F,G.get n=H.get n)->eE G v g/\(Ly H v->Ly G v):=by
 rcases h with⟨h,_⟩|⟨_,n,off,s,c,e,o,L,rfl,hb,hlt,hle,ht⟩
 ·exact absurd h cR
 refine⟨n::(List.range g.length).flatMap fun k=>D7 (g.getD k []) (L.getD (off+k) (.slice none 0 0)),fun m hm=>?_,fun G hn hg=>⟨.inr ⟨cR,n,off,s,c,e,o,L,rfl,(nf (hg n (by simp))).trans hb,by omega,hle,fun k row hk=>?_⟩,fun hs n' off' s' len' c' b' e' hb'=>?_⟩⟩
 ·rcases zA7.1 hm with rfl|hm
  ·exact⟨L3 hb,hlt⟩
  ·obtain⟨k,hk,hm⟩:=zE2.1 hm
   have hk:=zG0.1 hk
   obtain⟨row,hrow⟩:∃ row,g[k]?=some row:=⟨_,zB1 hk⟩
   obtain⟨rv,hrv,hr⟩:=ht k row hrow
   rw[zC8,hrow,zC8,hrv]at hm
   simp only[Option.getD_some]at hm
   unfold D7 at hm
   split at hm
   ·cases hm
   ·rename_i hl; exact hr.ne hl m hm
 ·obtain⟨rv,hrv,hr⟩:=ht k row hk
  refine⟨rv,hrv,hr.R6 hn fun m hm=>hg m (zC7 _ (zE2.2 ⟨k,zG0.2 (zG1.1 hk).1,?_⟩))⟩
  rw[zC8,hk,zC8,hrv]
  exact hm
 ·cases e'
  rw[nf (hg n (by simp))]at hb'
  exact dN hn _ (hs n off s _ _ b' rfl hb')
theorem jB.p8 {H G:aa} {v:Value} {l:List Op} (h:jB H v l) (m:Mod [] H G):jB G v l:=by
 rcases h with⟨rfl,a,c,rfl⟩|⟨hl,n,off,s,c,e,o,L,rfl,hb,hlt,hle,ht⟩
 ·exact .inl ⟨rfl,a,c,rfl⟩
 ·exact .inr ⟨hl,n,off,s,c,e,o,L,rfl,(nf (m.get n hlt (by simp))).trans hb,m.lt hlt,hle,ht⟩
theorem jB.fX {H:aa} {v:Value} {l:List Op} (h:jB H v l) (hl:l≠[]):∀ n∈ae v,n<H.next:=by
 rcases h with⟨rfl,_⟩|⟨_,n,off,s,c,e,o,L,rfl,hb,hlt,_⟩
 ·exact absurd rfl hl
 ·intro m hm; simp only[ae,zA5]at hm; omega
def St.start (g:List (List Ce)) (r c:Int):St:=⟨g,r,c,⟨0,0,false,false,false⟩,max r 0,c,decide (0<=r)⟩
def St.atR (y:St):Int:=if y.shown=true then y.row else -1
def St.HU (W:Nat) (y:St):Int:=if y.shown=true then min y.col ((W:Int)-1) else 0
theorem PL {g:List (List Ce)} {r c:Int} (h:A8 g r c=0):(St.start g r c).Ok (sT g)/\(∀ l∈g,l≠[])/\g≠[]:=by
 unfold A8 at h
 cases h1:(decide ((g.length:Int)<1)||decide (200<(g.length:Int))) with
 |true=>rw[h1,cond_true]at h; omega
 |false =>
  rw[h1,cond_false]at h
  simp only[Bool.or_eq_false_iff,decide_eq_false_iff_not]at h1
  obtain⟨W,hW⟩:=Go.Ax.bP (sT g)
  rw[hW]at h ⊢
  cases h2:(decide ((W:Int)<1)||decide (1000<(W:Int))||(!(decide (0<=r)&&decide (r<(g.length:Int))&&decide (0<=c)&&decide (c<(W:Int)))&&!(decide (r=-1)&&decide (c=0)))) with
  |true=>rw[h2,cond_true]at h; omega
  |false =>
   rw[h2,cond_false]at h
   cases h3:qL W g with
   |false=>rw[h3,cond_false]at h; omega
   |true =>
    have hw:∀ l∈g,l.length=W:=fun l hl=>by
     have:=zC6.1 h3 l hl
     unfold r7 at this
     simp only[zA4,decide_eq_true_eq]at this
     exact this.1
    simp only[Bool.or_eq_false_iff,decide_eq_false_iff_not]at h2
    obtain⟨⟨w1,w2⟩,hp⟩:=h2
    have hpos:(0<=r/\r<(g.length:Int)/\0<=c/\c<(W:Int))\/(r=-1/\c=0):=by
     by_cases q:(r=-1/\c=0)
     ·exact .inr q
     ·left
      have:(decide (r=-1)&&decide (c=0))=false:=by
       by_cases q1:r=-1<;>by_cases q2:c=0<;>simp_all
      rw[this]at hp
      simp only[zG2,Bool.and_true,Bool.not_eq_false',zA4,decide_eq_true_eq]at hp
      exact⟨hp.1.1.1,hp.1.1.2,hp.1.2,hp.2⟩
    refine⟨⟨by show 1<=g.length; omega,by show g.length<=200; omega,by omega,by omega,hw,by show 0<=max r 0; omega,by show max r 0<g.length; omega,by show 0<=c; omega,by show c<=W; omega⟩,fun l hl e=>?_,fun e=>?_⟩
    ·have:=hw l hl; rw[e]at this; simp at this; omega
    ·rw[e]at h1; simp at h1
theorem yT {W:Nat} {r:List UInt8->Option (List Int)}:∀ (l:List Op) (i:Nat) (x y:St),x.Ok W->St.all W r l i x=.inl y->y.Ok W
 |[],_,x,y,ok,h=>by rw[St.all]at h; cases h; exact ok
 |o::l,i,x,y,ok,h=>by
  rw[St.all]at h
  cases hd:x.pY W r o with
  |none=>rw[hd]at h; cases h
  |some z=>rw[hd]at h; exact yT l (i+1) z y (vW ok hd) h
def RU (H:aa) (g:List (List Ce)) (r c:Int) (l:List Op) (out:Out) (X:aa):Prop :=
 Mod [] H X/\if A8 g r c=0 then (match St.all (sT g) fU l 0 (St.start g r c) with
  |.inr i=>out=.ok (.tuple #[.agg #[.slice none 0 0,.int .i64 0,.int .i64 0],.int .i64 5,.int .i64 (i:Int)])
  |.inl y=>∃ u rvs N,out=.ok (.tuple #[.agg #[u,.int .i64 y.atR,.int .i64 (y.HU (sT g))],.int .i64 0,.int .i64 0])/\H.next<=N/\jn N X u rvs y.ah)
 else out=.ok (.tuple #[.agg #[.slice none 0 0,.int .i64 0,.int .i64 0],.int .i64 (A8 g r c),.int .i64 0])
theorem Of (H:aa) (v ov:Value) (g:List (List Ce)) (r c:Int) (l:List Op) (hg:eE H v g) (hl:jB H ov l) (t:yO H) (h2:2<=H.next) (hok:H.base<=H.next) (hs:aS H.next v=true) (hw:∀ l∈g,l.length<=10000) (hgl:g.length<=10000)
  (hlen:∀ o∈l,o.text.data.toList.length<=2000000) (hll:l.length<=10000) :
  bF Tryz.prog 20 [.agg ⟨[v,.int .i64 r,.int .i64 c]⟩,ov] H (RU H g r c l):=by
 obtain⟨b,hb⟩:=Go.Ax.bP H.next
 have hbb:H.base<=b:=hb▸hok
 obtain⟨a0,c0,e0⟩:=hg.sl
 rw[hb]at hs
 have hs':=hs
 rw[e0]at hs
 obtain⟨k,hk⟩:=Go.Ax.bP (A8 g r c)
 refine aG mixed Tryz.func20 rfl Tryz.ntmps20 (zA6 rfl) ?_
 rw[e0]
 simp only[hb,hs,zW,Nat.reduceLeDiff,Nat.reduceLT,Nat.reduceAdd,Nat.reduceEqDiff]
 rw[<-e0]
 obtain⟨X,hX⟩:=Go.Ax.bP (ext H [⟨41,false,[v,.int .i64 r,.int .i64 c]⟩,⟨41,false,[.slice none 0 0,.int .i64 0,.int .i64 0]⟩])
 have mX:Mod [] H X:=hX▸Mod.ext hok
 have nX:X.next=b+2:=by rw[<-hX,ai,hb]; rfl
 have k0:bk X (b+0)=some ⟨41,false,[v,.int .i64 r,.int .i64 c]⟩:=by rw[<-hX,bu hb (by simp)]; rfl
 have k1:bk X (b+1)=some ⟨41,false,[.slice none 0 0,.int .i64 0,.int .i64 0]⟩:=by rw[<-hX,bu hb (by simp)]; rfl
 have okX:=mX.ok hok
 have gX:eE X v g:=hX▸hg.ext
 rw[hX]
 have hck:=Ke X v g r c gX (fun l hl=>by have:=hw l hl; omega) (by omega)
 rw[hk]at hck
 rw[show X=ext X [] from rfl]
 refine hck.to ?_
 rw[show X=ext X [] from rfl]
 have l0:b+0<b+2:=by omega
 have l1:b+1<b+2:=by omega
 by_cases hk0:k=0
 ·have hd:decide (¬k=0)=false:=by simp[hk0]
  rw[hk0]at hk
  obtain⟨ok,cR,hgne⟩:=PL hk
  obtain⟨W,hW⟩:=Go.Ax.bP (sT g)
  rw[hW]at ok
  obtain⟨F,hF,hFG⟩:=gX.y6 hgne
  have hrn:=aL X F
  obtain⟨gR,_⟩:=hFG (X.restrict F) (by rw[hrn.1]; exact zA8 _) (fun n hn=>by rw[aU,if_pos hn])
  obtain⟨_,gg,hcc,u,rvs,rfl,gr,mg⟩:=I3 (X.restrict F) v g r c gR (by rw[hrn.1,hrn.2.1]; exact zA8 _) (by rw[hrn.1,nX]; exact cM (by omega) _ hs') cR hw hgl
  rw[hrn.1]at gr
  simp only[hd,zW,Nat.reduceLT]
  refine bf [(10,1),(11,10),(11,1),(12,11),(12,1)] [] (by kernel_rfl) (by kernel_rfl) rfl fun ops anc hA hG=>?_
  simp only[aw]at hA
  simp only[nX,k0,l0,b9,zW,Nat.reduceLeDiff,Nat.reduceLT,Nat.reduceAdd,Nat.reduceEqDiff]
  refine oM (H:=ext X []) (W:=[]) F okX rfl (by kernel_rfl) (fun n hn=>(hF n hn).1) (fun n hn=>(hF n hn).2) (fun _ h=>by simp at h) (v:=.agg ⟨[u,.int .i64 r,.int .i64 c]⟩) (g:=gg) (by simp only[aW]; exact hcc) mg (by simp only[aw,cx,and_true]; simp) ?_
  intro Z D mZ hFZ hNZ hnZ hDZ
  have hD0:D=[]:=List.eq_nil_iff_forall_not_mem.2 (fun q hq=>by simpa using hDZ q hq)
  subst hD0
  replace mZ:Mod [] X Z:=mZ
  replace hNZ:∀ m,X.next<=m->m<gg.next->Z.get m=gg.get m:=hNZ
  have grZ:Grow (b+2) Z u rvs g:=by
   have:=gr.of (Y:=Z) (by omega) (fun n hn hm=>hNZ n (by
    rcases zB2.1 hm with hm|hm
    ·exact (gr.apart n hm).1
    ·exact (gr.ids n hm).1) hn)
   rw[nX]at this
   exact this
  obtain⟨au,eu⟩:=grZ.at_.len
  have hsu:=grZ.at_.sc
  have slu:Cv u:=by
   obtain⟨_,_,⟨h0,_⟩|⟨_,n,e,_⟩⟩:=grZ.at_
   ·exact absurd (List.length_eq_zero_iff.1 h0) hgne
   ·exact⟨n,_,e⟩
  have okZ:=mZ.ok okX
  obtain⟨zn,hzn⟩:∃ z,Z.next=z:=⟨_,rfl⟩
  have hzb:Z.base<=zn:=hzn▸okZ
  have hz2:b+2<=zn:=by have:=mZ.next; omega
  have kz0:bk Z (b+0)=_:=(mZ.bk (by omega) (by simp)).trans k0
  have kz1:bk Z (b+1)=_:=(mZ.bk (by omega) (by simp)).trans k1
  have hg2:gg.next=zn:=by omega
  have l0z:b+0<zn:=by omega
  rw[hzn]at hsu
  rw[eu]at hsu
  rw[show Z=ext Z [] from rfl,eu]
  simp only[hzn,kz0,l0z,hg2,hsu,nX,hA,b9,zW,Nat.reduceLT,Nat.reduceAdd,Nat.reduceEqDiff]
  rw[<-eu]
  obtain⟨Y1,hY1⟩:=Go.Ax.bP (ext Z [⟨83,false,(St.start g r c).cells u⟩])
  have mY1:Mod [] Z Y1:=hY1▸Mod.ext okZ
  have nY1:Y1.next=zn+1:=by rw[<-hY1,ai,hzn]; rfl
  have kp:bk Y1 (zn+0)=some ⟨83,false,(St.start g r c).cells u⟩:=by rw[<-hY1,bu hzn (by simp)]; rfl
  have mHZ:Mod [] H Z:=mX.trans mZ
  have mHY:Mod [] H Y1:=mHZ.trans mY1
  have aY1:cT 83 (b+2) Y1 (zn+0) u rvs (St.start g r c):=by
   have own:=grZ.own
   refine⟨kp,own.of mY1.next fun n h1 h2 h3=>mY1.get n h2 (by simp),fun h=>?_,by omega,by omega⟩
   rcases zB2.1 h with h|h
   ·have:=(own.QF _ h).2.1; omega
   ·have:=(own.ids _ h).2.1; omega
  have tY1:yO Y1:=t.of (mHY.get 0 (by omega) (by simp)) (mHY.get 1 (by omega) (by simp))
  have key:=Gd (b+2) Y1 (zn+0) W u ov rvs (St.start g r c) l (hl.p8 mHY) (fun h n hn=>by have:=hl.fX h n hn; omega) aY1 slu tY1 (by omega) (by omega) (mY1.ok okZ) ok hlen hll
  simp only[St.start,St.cells]at hY1
  rw[hY1]
  refine key.mono ?_
  rintro out Y ⟨mY,hr⟩
  have keep:∀ n,n<b+2->bk Y n=bk Y1 n:=fun n hn=>by
   obtain⟨Ws,h1,m1⟩:=mY
   exact m1.bk (by omega) fun h=>by have:=(h1 n h).1; omega
  have ky1:=(keep (b+1) (by omega)).trans ((mY1.bk (by omega) (by simp)).trans kz1)
  have mHYf:Mod [] H Y:=mY.mod mHY hok (by omega)
  have okY:=mY.ok (mY1.ok okZ)
  obtain⟨yn,hyn⟩:∃ n,Y.next=n:=⟨_,rfl⟩
  have hzy:zn+1<=yn:=by have:=mY.next; omega
  have l1y:b+1<yn:=by omega
  rw[show Y=ext Y [] from rfl]
  cases hall:St.all W fU l 0 (St.start g r c) with
  |inr i =>
   rw[hall]at hr
   obtain rfl:=hr
   have hdi:decide ((0:Int)<=(i:Int))=true:=decide_eq_true (by omega)
   simp only[hyn,ky1,l1y,hdi,Tryz.results20,zW,Nat.reduceLeDiff,Nat.reduceLT,Nat.reduceAdd,Nat.reduceEqDiff]
   have mU:Mod [b+1] Y (uw Y (b+1) 0 [.slice none 0 0,.int .i64 0,.int .i64 0]):=Mod.uw (by simp)
   refine⟨mHYf.step mU hok (fun n hn=>.inr (by simp only[zA5]at hn; omega)),?_⟩
   rw[if_pos hk,hW,hall]
  |inl y =>
   rw[hall]at hr
   obtain⟨rfl,u2,rvs2,sl2,a2⟩:=hr
   have hdi:decide ((0:Int)<=-1)=false:=by decide
   have kpy:=a2.cell
   simp only[St.cells]at kpy
   have lpy:zn+0<yn:=by omega
   have oky:=yT l 0 _ y ok hall
   simp only[hyn,lpy,kpy,hdi,zW,Nat.reduceLeDiff,Nat.reduceLT,Nat.reduceAdd,Nat.reduceEqDiff]
   obtain⟨a3,m3⟩:=a2.C6 (y:={y with sr:=-1}) okY (off:=1) (vs:=[.int .i64 (-1)]) (L:=[]) rfl rfl
   obtain⟨a4,m4⟩:=a3.C6 (y:={y with sr:=-1,sc:=0}) (m3.ok okY) (off:=2) (vs:=[.int .i64 0]) (L:=[]) rfl rfl
   have ok4:=m4.ok (m3.ok okY)
   have m34:Mod [zn+0] Y (ext (uw (uw Y (zn+0) 1 [.int .i64 (-1)]) (zn+0) 2 [.int .i64 0]) []):=m3.trans m4
   generalize hY4:ext (uw (uw Y (zn+0) 1 [.int .i64 (-1)]) (zn+0) 2 [.int .i64 0]) []=Y4 at a4 ok4 m34 ⊢
   replace a4:cT 83 (b+2) Y4 (zn+0) u2 rvs2 {y with sr:=-1,sc:=0}:=hY4▸a4
   replace ok4:Y4.base<=Y4.next:=hY4▸ok4
   rw[show Y4=ext Y4 [] from rfl]
   refine gZ (fun E' Z2=>Mod [zn+0] Y Z2/\E' 4=.pointer (some ⟨b+1,0,none⟩)/\E' 8=.pointer (some ⟨zn+0,0,none⟩)/\cT 83 (b+2) Z2 (zn+0) u2 rvs2 {y with sr:=y.atR,sc:=y.HU W}) ?_ ?_
   ·have oky4:St.Ok {y with sr:=-1,sc:=0} W:=⟨oky.h1,oky.h2,oky.w1,oky.w2,oky.wid,oky.row0,oky.row1,oky.col0,oky.col1⟩
    obtain⟨m,hml,hmp,⟨_,_,_,hmb⟩,hwd⟩:=mP a4 oky4
    have hFn:∀ n∈[zn+0,m],(ext Y4 []).get n≠none:=fun n hn=>by
     simp only[zA7,zD2,or_false]at hn
     rcases hn with rfl|rfl
     ·exact dT a4.cell
     ·exact dT hmb
    have n4:Y4.next=yn:=by rw[<-hY4,ai,b6,b6,hyn]; rfl
    have k4:=a4.cell
    simp only[St.cells]at k4
    cases hsh:y.shown with
    |false =>
     have e1:y.atR=-1:=by simp[St.atR,hsh]
     have e2:y.HU W=0:=by simp[St.HU,hsh]
     rw[e1,e2]
     simp only[lh]
     rw[hsh]at a4
     exact aj ⟨m34,by simp only[aW,Nat.reduceEqDiff],by simp only[aW,Nat.reduceEqDiff],a4⟩
    |true =>
     have e1:y.atR=y.row:=by simp[St.atR,hsh]
     have e2:y.HU W=min y.col ((W:Int)-1):=by simp[St.HU,hsh]
     have hw1:IntKind.i64.wrap ((W:Int)-1)=(W:Int)-1:=aQ (by have:=oky.w1; omega) (by have:=oky.w2; omega)
     rw[e1,e2]
     simp only[lh]
     refine bf [(17,5),(17,9),(17,11),(21,17),(21,5),(21,9),(21,11)] [] (by kernel_rfl) (by kernel_rfl) rfl fun ops anc hA hG=>?_
     simp only[aw]at hA
     simp only[n4,lpy,k4,b9,zW,Nat.reduceLT,Nat.reduceAdd,Nat.reduceEqDiff]
     refine bx (v:=.int .i64 W) [zn+0,m] rfl (by kernel_rfl) (zA6 rfl) hFn (fun G hn hg=>hwd G hn hg) (by simp[cQ]) ?_
     simp only[n4,lpy,k4,hw1,hA,b9,zW,Nat.reduceLeDiff,Nat.reduceLT,Nat.reduceAdd,Nat.reduceEqDiff]
     obtain⟨a5,m5⟩:=a4.C6 (y:={y with sr:=y.row,sc:=0}) ok4 (off:=1) (vs:=[.int .i64 y.row]) (L:=[]) rfl rfl
     obtain⟨a6,m6⟩:=a5.C6 (y:={y with sr:=y.row,sc:=min y.col ((W:Int)-1)}) (m5.ok ok4) (off:=2) (vs:=[.int .i64 (min y.col ((W:Int)-1))]) (L:=[]) rfl rfl
     rw[hsh]at a6
     exact aj ⟨m34.trans (m5.trans m6),by simp only[aW,Nat.reduceEqDiff],by simp only[aW,Nat.reduceEqDiff],a6⟩
   ·rintro E Z2 ⟨m2,e4,e8,a7⟩
    obtain⟨z2,hz2n⟩:∃ n,Z2.next=n:=⟨_,rfl⟩
    have hyz2:yn<=z2:=by have:=m2.next; omega
    have k7:=a7.cell
    simp only[St.cells]at k7
    have l7:zn+0<z2:=by omega
    have l8:b+1<z2:=by omega
    have k8:=(m2.bk (n:=b+1) (by omega) (by simp only[zA5]; omega)).trans ky1
    obtain⟨nu,hu,eu2⟩:=sl2
    have hnu:nu<z2:=by
     have:=(a7.own.QF nu (by rw[eu2]; simp[ae])).2.1
     omega
    have hsu2:aS z2 u2=true:=by rw[eu2]; exact a8 hnu
    rw[show Z2=ext Z2 [] from rfl]
    rw[eu2]at k7 hsu2
    simp only[e4,e8,hz2n,l7,l8,k7,k8,hsu2,Tryz.results20,zW,Nat.reduceLeDiff,Nat.reduceLT,Nat.reduceAdd,Nat.reduceEqDiff]
    rw[<-eu2]
    have mU:Mod [b+1] Z2 (uw Z2 (b+1) 0 [u2,.int .i64 y.atR,.int .i64 (y.HU W)]):=Mod.uw (by simp)
    have mHZ2:Mod [] H Z2:=mHYf.step m2 hok (fun n hn=>.inr (by simp only[zA5]at hn; omega))
    refine⟨mHZ2.step mU hok (fun n hn=>.inr (by simp only[zA5]at hn; omega)),?_⟩
    rw[if_pos hk,hW,hall]
    refine⟨u2,rvs2,b+2,rfl,by omega,a7.own.of mU.next fun n h1 h2 h3=>mU.get n h2 (by simp only[zA5]; omega)⟩
 ·have hd:decide (¬k=0)=true:=by simp[hk0]
  simp only[hd,nX,k1,l1,Tryz.results20,zW,Nat.reduceLeDiff,Nat.reduceLT,Nat.reduceAdd,Nat.reduceEqDiff]
  have mU:Mod [b+1] X (uw X (b+1) 0 [.slice none 0 0,.int .i64 0,.int .i64 0]):=Mod.uw (by simp)
  refine⟨mX.step mU hok (fun n hn=>.inr (by simp only[zA5]at hn; omega)),?_⟩
  rw[if_neg (by rw[hk]; exact hk0),hk]
theorem B3 (w:Nat) (h1:1<=w) (hw:w<=300) (H:aa):br Tryz.prog 36 [.int .i64 (w:Int)] H (.ok (.slice (some ⟨H.next,0,some 0⟩) w w)) (ext H [⟨77,false,aN (List.replicate w Ce.blank)⟩]):=by
 refine jd (fun wf hsc=>?_) (fun _ _=>jv _ _)
 obtain⟨b,hb⟩:=Go.Ax.bP H.next
 refine aG mixed Tryz.func36 rfl Tryz.ntmps36 (zA6 rfl) ?_
 simp only[hb,zW,seval]
 refine (xw w h1 (by omega) Ce.blank (b+0) (some 0) (ext H (_::_)) (by rw[bu hb (by simp)]; rfl)).to ?_
 simp only[hb,zB0,zB6,Tryz.results36,zW,seval]
 exact⟨_,rfl,by omega,by rw[bu hb (by simp)]; rfl,Mod.ext wf.base⟩
def gJ (h w:Nat):List (List Ce):=List.replicate h (List.replicate w Ce.blank)
theorem yQ (h w:Nat):(gJ h w).length=h:=by simp[gJ]
def Kk (H:aa) (h w:Nat) (out:Out) (H1:aa):Prop:=∃ q rvs,out=.ok (.tuple #[.agg #[.slice (some ⟨q,0,none⟩) h h,.int .i64 (-1),.int .i64 0],.int .i64 0])/\q<H1.next/\Grow H.next H1 (.slice (some ⟨q,0,none⟩) h h) rvs (gJ h w)/\Mod [] H H1
theorem F9 (h w:Nat) (h1:1<=h) (h2:h<=200) (w1:1<=w) (w2:w<=300) (H:aa) (hok:H.base<=H.next):bF Tryz.prog 19 [.int .i64 (h:Int),.int .i64 (w:Int)] H (Kk H h w):=by
 obtain⟨b,hb⟩:∃ b,H.next=b:=⟨_,rfl⟩
 have hbase:H.base<=b:=hb▸hok
 have c1:decide ((h:Int)<1)=false:=decide_eq_false (by omega)
 have c2:decide ((200:Int)<(h:Int))=false:=decide_eq_false (by omega)
 have c3:decide ((w:Int)<1)=false:=decide_eq_false (by omega)
 have c4:decide ((1000:Int)<(w:Int))=false:=decide_eq_false (by omega)
 refine aG mixed Tryz.func19 rfl Tryz.ntmps19 (zA6 rfl) ?_
 simp (maxDischargeDepth:=6) only[hb,hbase,c1,c2,c3,c4,zW,seval]
 refine eT fun E hE=>?_
 have g1:E 1=.int .i64 (w:Int):=by rw[hE]; simp only[aW,seval]
 have g4:E 4=.pointer (some ⟨b+0,0,none⟩):=by rw[hE]; simp only[aW,seval]
 have g6:E 6=.pointer (some ⟨b+1,0,none⟩):=by rw[hE]; simp only[aW,seval]
 have gB:E 23=.int .i64 (h:Int):=by rw[hE]; simp only[aW,seval]
 have gC:E 24=.int .i64 ((0:Nat):Int):=by rw[hE]; (simp only[aW]<;>rfl)
 clear hE
 generalize hX0:ext H (_::_)=X0
 have m0:Mod [] H X0:=hX0▸Mod.ext hok
 have n0:X0.next=b+2:=by rw[<-hX0,ai,hb]; rfl
 have k0:bk X0 (b+0)=some ⟨41,false,[.slice none 0 0,.int .i64 0,.int .i64 0]⟩:=by rw[<-hX0,bu hb (by simp)]; rfl
 have k1:bk X0 (b+1)=some ⟨41,false,[.slice none 0 0,.int .i64 (-1),.int .i64 0]⟩:=by rw[<-hX0,bu hb (by simp)]; rfl
 clear hX0
 refine bE (fun E' X=>∃ u rvs,Mod [] H X/\b+2<=X.next/\bk X (b+0)=some ⟨41,false,[.slice none 0 0,.int .i64 0,.int .i64 0]⟩/\bk X (b+1)=some ⟨41,false,[u,.int .i64 (-1),.int .i64 0]⟩/\Grow (b+2) X u rvs (gJ h w)/\E' 4=.pointer (some ⟨b+0,0,none⟩)/\E' 6=.pointer (some ⟨b+1,0,none⟩)) ?_ ?_
 ·refine cU (fun (k:Nat × Value × List Value) E' X=>Mod [] H X/\b+2<=X.next/\bk X (b+0)=some ⟨41,false,[.slice none 0 0,.int .i64 0,.int .i64 0]⟩/\bk X (b+1)=some ⟨41,false,[k.2.1,.int .i64 (-1),.int .i64 0]⟩/\Grow (b+2) X k.2.1 k.2.2 (gJ k.1 w)/\k.1<=h/\E' 1=.int .i64 (w:Int)/\E' 4=.pointer (some ⟨b+0,0,none⟩)/\E' 6=.pointer (some ⟨b+1,0,none⟩)/\E' 23=.int .i64 (h:Int)/\E' 24=.int .i64 (k.1:Int)) (fun k=>h-k.1) (0,.slice none 0 0,[])
   ⟨m0,by omega,k0,k1,Grow.nil,zB7 _,g1,g4,g6,gB,gC⟩ ?_
  clear g1 g4 g6 gB gC k0 k1 n0 m0
  rintro⟨k,u,rvs⟩ E X ⟨mX,xl,k0,k1,gr,hk,g1,g4,g6,gB,gC⟩
  simp only at k0 k1 gr hk gC
  obtain⟨x,hx⟩:∃ x,X.next=x:=⟨_,rfl⟩
  have okX:=mX.ok hok
  have hxb:X.base<=x:=hx▸okX
  rw[hx]at xl
  have l1:b+1<x:=by omega
  rw[show X=ext X [] from rfl]
  by_cases hkl:k=h
  ·have hc:decide ((k:Int)<(h:Int))=false:=by simp[hkl]
   simp (maxDischargeDepth:=6) only[gB,gC,hc,zW,seval]
   rw[hkl]at gr
   exact aj ⟨u,rvs,mX,by rw[ai,hx]; simpa using xl,k0,k1,gr,by simp only[g4,aW,seval],by simp only[g6,aW,seval]⟩
  ·have hlt:k<h:=by omega
   have hc:decide ((k:Int)<(h:Int))=true:=decide_eq_true (by omega)
   obtain⟨au,eu⟩:=gr.at_.len
   have onu:one u=true:=by rw[eu]; rfl
   have scu:aS x u=true:=hx▸gr.at_.sc
   simp (maxDischargeDepth:=6) only[gB,gC,hc,zW,seval]
   refine bf [(4,3),(5,1),(5,3),(5,4),(6,3),(6,4),(6,5),(7,1),(7,3),(7,4),(7,5)] [] (by kernel_rfl) (by kernel_rfl) rfl fun ops anc hA hG=>?_
   simp only[aw]at hA
   simp (maxDischargeDepth:=6) only[g1,g6,hx,l1,k1,b9,zW,seval]
   refine sw (H:=ext X []) (v:=.slice (some ⟨x+0,0,some 0⟩) w w) (M:=[⟨77,false,aN (List.replicate w Ce.blank)⟩]) [] (by simp (maxDischargeDepth:=6) only[aW,seval]) (by kernel_rfl) (by decide) (fun _ h=>by cases h) (fun G hn _=>?_) (by simp (maxDischargeDepth:=6) only[b9]) ?_
   ·simp only[aW]
    have:=B3 w w1 w2 G
    rw[hn,ext_nil,hx]at this
    exact this
   simp (maxDischargeDepth:=6) only[hx,hA,zB0,zB6,b9,zW,seval]
   rw[Ls (by simp only[aW,seval])]
   obtain⟨rvV,hrvV⟩:∃ q,q=Value.slice (some ⟨x+0,0,some 0⟩) w w:=⟨_,rfl⟩
   have hone1:one rvV=true:=by rw[hrvV]; rfl
   rw[<-hrvV]
   generalize hY2:ext X _=Y2
   have mXY2:Mod [] X Y2:=hY2▸Mod.ext okX
   have hY2n:Y2.next=x+2:=by rw[<-hY2,ai,hx]; rfl
   have hk1:bk Y2 (x+0)=some ⟨77,false,aN (List.replicate w Ce.blank)⟩:=by rw[<-hY2,bu hx (by simp)]; rfl
   have hk2:bk Y2 (x+1)=some ⟨56,false,[rvV]⟩:=by rw[<-hY2,bu hx (by simp)]; rfl
   have okY2:=mXY2.ok okX
   have hF2:∀ n∈(x+1)::ae u,Y2.get n≠none/\n<Y2.next:=fun n hn=>by
    rcases zA7.1 hn with rfl|hn
    ·exact⟨dT hk2,by omega⟩
    ·have:=gr.at_.ne n hn
     exact⟨by rw[mXY2.get n this.2 (by simp)]; exact this.1,zD5 this.2 mXY2.next⟩
   have hrn2:=aL Y2 ((x+1)::ae u)
   have hgtk:=yQ k w
   have vsY:=gr.at_.of (G:=Y2.restrict ((x+1)::ae u)) (by rw[hrn2.1]; exact mXY2.next) (fun n hn=>by rw[aU,if_pos (by simp[hn]),mXY2.get n (gr.at_.ne n hn).2 (by simp)])
   have hlw:(List.replicate w Ce.blank).length=w:=by simp
   have hrvY2:fQ (b+2) Y2 rvV (List.replicate w Ce.blank):=⟨x+0,false,0,false,by rw[hrvV,hlw]; rfl,hk1,by omega,by omega⟩
   have hscr:aO Y2.next (rvs++[rvV])=true:=cB (dN mXY2.next _ gr.sc) (by rw[hrvV]; simp only[aO,aS,Bool.and_true]; exact a8 (by omega))
   obtain⟨G2,hap2,hvs2,hmd2,hgn2,_⟩:=ta (P:=Tryz.prog) (H:=Y2.restrict ((x+1)::ae u)) (st:=39) (xt:=39) (e:=56) (sz:=1) (by1:=24) (z:=.slice none 0 0) (n:=x+1) (off:=0) (cnt2:=1) (cap:=1) (s:=some 0) (x:=Y2.next) (ws:=[rvV]) (b:=⟨56,false,[rvV]⟩)
    (by kernel_rfl) (by kernel_rfl) (by kernel_rfl) (by kernel_rfl) rfl (by kernel_rfl) vsY (jR ((bg (by rw[aU,if_pos (by simp)])).trans hk2)) (by simp) rfl (by simp[hone1]) (by decide) (by simp only[small,zA4,zE6]; omega) hrn2.1 (by rw[hrn2.1]; exact hscr)
   refine mQ (H:=Y2) (W:=ae u) ((x+1)::ae u) okY2 (fun n hn=>(hF2 n hn).1) (fun n hn=>(hF2 n hn).2) (fun n hn=>by simp[hn]) (M5 (v:=_) (G:=G2) (by simp only[aW,seval]) (by simp only[aW,seval]; exact hap2)) (hmd2 (by rw[hrn2.1,hrn2.2.1]; exact zA8 _)) (by simp only[aw,cx,hA,true_or,and_true]) ?_
   intro Z3 D3 mZ3 hFZ3 hNZ3 hnZ3 hDZ3
   rw[hgn2]at hnZ3 hNZ3
   have hb4:bk Z3 Y2.next=some ⟨56,true,rvs++[rvV]⟩:=by
    obtain⟨_,_,⟨h0,_⟩|⟨_,n,e,hbn,_⟩⟩:=hvs2
    ·omega
    ·cases e
     exact (bg (hNZ3 _ (zA8 _) (by omega))).trans hbn
   have gr3:=gr.push mXY2 (by omega) hrvY2 (fun n hn=>by rw[hrvV]at hn; simp only[ae,zA5]at hn; omega) hone1 mZ3 hb4 (by omega)
   have nbu:∀ j,j<b+2->j∉ae u:=fun j hj h=>by have:=(gr.apart j h).1; omega
   have keep:∀ j,j<b+2->bk Z3 j=bk X j:=fun j hj=>(mZ3.bk (by omega) (nbu j hj)).trans (mXY2.bk (by omega) (by simp))
   have k0':=(keep (b+0) (by omega)).trans k0
   have k1':=(keep (b+1) (by omega)).trans k1
   obtain⟨z3,hz3⟩:∃ z3,Z3.next=z3:=⟨_,rfl⟩
   have l3:b+1<z3:=by omega
   have l4:Y2.next<z3:=by omega
   rw[hgtk]at gr3 ⊢
   rw[show Z3=ext Z3 [] from rfl]
   simp (maxDischargeDepth:=6) only[g6,gC,hz3,k1',l3,l4,hA,bO (show k<1000000 by omega),b9,zW,seval]
   generalize hU:uw Z3 (b+1) 0 _=U
   have mU:Mod [b+1] Z3 U:=hU▸Mod.uw (by simp)
   have hU2:bk U (b+1)=some ⟨41,false,[.slice (some ⟨Y2.next,0,none⟩) (k+1) (k+1),.int .i64 (-1),.int .i64 0]⟩:=by rw[<-hU,bR,k1']; rfl
   have mXU:Mod ((b+1)::ae u) X U:=((mXY2.mono (by simp)).trans (mZ3.mono (fun n hn=>zC7 _ hn))).trans (mU.mono (by simp))
   have hUn:=mU.next
   refine aM ⟨(k+1,.slice (some ⟨Y2.next,0,none⟩) (k+1) (k+1),rvs++[rvV]),by simp only; omega,mX.step mXU hok (fun n hn=>?_),by rw[ai]; simp only[zB6]; omega,?_,hU2,?_,by simp only; omega,?_,?_,?_,?_,?_⟩
   ·rcases zA7.1 hn with rfl|hn
    ·exact .inr (by omega)
    ·have:=(gr.apart n hn).1; exact .inr (by omega)
   ·exact (mU.bk (by omega) (by simp)).trans k0'
   ·simp only
    rw[show gJ (k+1) w=gJ k w++[List.replicate w Ce.blank] from by unfold gJ; rw[List.replicate_succ']]
    refine gr3.of mU.next fun n hn hm=>mU.get n hn ?_
    simp only[zA5]
    rintro rfl
    rcases zB2.1 hm with hm|hm
    ·have:=(gr3.apart _ hm).1; omega
    ·have:=(gr3.ids _ hm).1; omega
   ·simp only[g1,aW,seval]
   ·simp only[g4,aW,seval]
   ·simp only[g6,aW,seval]
   ·simp only[gB,aW,seval]
   ·simp only[aW]
 ·clear g1 g4 g6 gB gC k0 k1 n0 m0
  rintro E X ⟨u,rvs,mX,xl,k0,k1,gr,g4,g6⟩
  obtain⟨q,rfl,hql⟩:∃ q,u=.slice (some ⟨q,0,none⟩) h h/\q<X.next:=by
   have hl:=yQ h w
   obtain⟨_,_,⟨h0,_⟩|⟨_,n,rfl,_,hn⟩⟩:=gr.at_
   ·omega
   ·exact⟨n,by rw[hl],hn⟩
  obtain⟨x,hx⟩:∃ x,X.next=x:=⟨_,rfl⟩
  rw[hx]at xl hql
  have l1:b+1<x:=by omega
  have l0:b+0<x:=by omega
  rw[show X=ext X [] from rfl]
  simp (maxDischargeDepth:=6) only[g4,g6,hx,k0,k1,l0,l1,hql,Tryz.results19,zW,seval]
  generalize hU:uw X (b+0) 0 _=U
  have mU:Mod [b+0] X U:=hU▸Mod.uw (by simp)
  refine⟨q,rvs,rfl,mU.lt (by omega),?_,mX.step mU hok (fun n hn=>by simp only[zA5]at hn; exact .inr (by omega))⟩
  have gU:=gr.of (Y:=U) mU.next fun n hn hm=>mU.get n hn (by
   simp only[zA5]
   rintro rfl
   rcases zB2.1 hm with hm|hm
   ·have:=(gr.apart _ hm).1; omega
   ·have:=(gr.ids _ hm).1; omega)
  exact⟨gU.at_,fun i rv l h1 h2=>by
   obtain⟨n,s,c',o,e,h3,h4,h5⟩:=gU.row i rv l h1 h2
   exact⟨n,s,c',o,e,h3,by omega,h5⟩,gU.nd,fun n hn=>⟨by have:=(gU.apart n hn).1; omega,(gU.apart n hn).2⟩,gU.sc⟩
theorem CX (h w:Int) (hb:h<1\/w<1) (h2:h<=200) (w2:w<=1000) (H:aa) (hok:H.base<=H.next):bF Tryz.prog 19 [.int .i64 h,.int .i64 w] H (fun out X=>Mod [] H X/\out=.ok (.tuple #[.agg #[.slice none 0 0,.int .i64 0,.int .i64 0],.int .i64 3])):=by
 obtain⟨b,hbn⟩:=Go.Ax.bP H.next
 have hbase:H.base<=b:=hbn▸hok
 have c2:decide ((200:Int)<h)=false:=decide_eq_false (by omega)
 refine aG mixed Tryz.func19 rfl Tryz.ntmps19 (zA6 rfl) ?_
 by_cases h1:h<1
 ·have c1:decide (h<1)=true:=decide_eq_true h1
  simp only[hbn,hbase,c1,Tryz.results19,zW,seval]
  exact⟨Mod.ext hok,trivial⟩
 ·have c1:decide (h<1)=false:=decide_eq_false h1
  have c3:decide (w<1)=true:=decide_eq_true (by omega)
  simp only[hbn,hbase,c1,c2,c3,Tryz.results19,zW,seval]
  exact⟨Mod.ext hok,trivial⟩
end Go.Proofs.YtpohjcacnkhnkaaGreatDoor
namespace Go.Proofs.YtpohjcacnkhnkaaGreatDoor.Tq
open Go.Ax
theorem LQ (b:Bool) (x y:Int × Int) (hx:x.2<=4) (hy:y.2<=4):(cond b x y).2<=4:=by cases b<;>assumption
theorem OB (l:List UInt8):(sH l).2<=4:=by
 unfold sH
 repeat' apply LQ
 all_goals (simp only; omega)
theorem zJ:∀ (n:Nat) (l:List UInt8) (r:List Int),l.length<=n->fU l=some r->l.length<=4*r.length
 |0,l,r,hn,h=>by omega
 |n+1,l,r,hn,h=>by
  by_cases h0:0<l.length
  ·rw[kr l h0]at h
   have h4:=OB l
   obtain⟨k0,k1,_⟩:=lE l h0
   split at h
   ·cases h
   ·rename_i hz
    obtain⟨q,hq,rfl⟩:=zB3.1 h
    have:=zJ n _ q (by rw[zD8]; omega) hq
    rw[zD8]at this
    rw[zB0]
    omega
  ·omega
theorem C2 {W:Nat}:∀ (l:List Int) (n:Int),St.fits W l n=true->n<=W->n+l.length<=W
 |[],n,_,h=>by simpa using h
 |c::l,n,h,_=>by
  obtain⟨f1,f2,f3⟩:=mj h
  have:=C2 l _ f3 f2
  rw[zB0]
  omega
theorem nK (ns:List Nat) (f:UInt8):(fW ns f).length<=5*ns.length+3:=by
 have:=join_le ns
 simp only[fW,zB0,zB4,zB6]
 omega
theorem M4 (k:OR):(j8 k).length<=10:=by
 unfold j8
 simp only[zB0,zB4,apply_ite List.length,zB6]
 (repeat' split)<;>omega
theorem Qs {o:yX} (h3:o.kind≠3) {b:List UInt8} (h:l9 o=some b):b.length<=200:=by
 unfold l9 at h
 by_cases k1:o.kind=1
 ·rw[if_pos k1]at h
  split at h
  ·cases h
   exact zC3 (nK _ _) (by simp)
  ·cases h
 rw[if_neg k1]at h
 by_cases k2:o.kind=2
 ·rw[if_pos k2]at h
  split at h
  ·cases h
   have:=M4 o.look
   exact zC3 (nK _ _) (by omega)
  ·cases h
 rw[if_neg k2,if_neg h3]at h
 by_cases k4:o.kind=4
 ·rw[if_pos k4]at h
  cases h
  exact zC3 (nK _ _) (by simp)
 rw[if_neg k4]at h
 by_cases k5:o.kind=5\/o.kind=6
 ·rw[if_pos k5]at h
  split at h
  ·cases h
   have h1:=nK [o.row.toNat+1,o.col.toNat+1] 114
   have h2:=nK [o.row.toNat+1,0+1] 72
   have h3:=nK [o.n.toNat] (cond (decide (o.kind=5)) 77 76)
   have h4:=nK [] 114
   simp only[zB0,zB6]at h1 h2 h3 h4
   simp only[uI,zB4,zB0,zB6]
   omega
  ·cases h
 rw[if_neg k5]at h
 by_cases k7:o.kind=7
 ·rw[if_pos k7]at h
  cases h; simp
 rw[if_neg k7]at h
 by_cases k8:o.kind=8
 ·rw[if_pos k8]at h
  cases h; simp
 rw[if_neg k8]at h
 cases h
theorem vW {W:Nat} {x y:St} {o:yX} (hW:W<=100) (ok:x.Ok W) (h:x.pY W fU o=some y):(∀ b,l9 o=some b->b.length<=400)/\(o.kind=3->o.text.size<=1000000000):=by
 by_cases h3:o.kind=3
 ·have key:o.text.data.toList.length<=400:=by
   unfold St.pY at h
   rw[if_neg (by omega),if_neg (by omega),if_pos h3]at h
   split at h
   ·cases h
   ·rename_i l hl
    split at h
    ·rename_i hf
     have h1:=zJ _ _ _ (zA8 _) hl
     have h2:=C2 _ _ hf ok.col1
     have h4:=ok.col0
     omega
    ·cases h
  refine⟨fun b hb=>?_,fun _=>by rw[show o.text.size=o.text.data.toList.length from Array.length_toList.symm]; omega⟩
  unfold l9 at hb
  rw[if_neg (by omega),if_neg (by omega),if_pos h3]at hb
  split at hb
  ·cases hb
  ·split at hb
   ·cases hb; omega
   ·cases hb
 ·exact⟨fun b hb=>by have:=Qs h3 hb; omega,fun h=>absurd h h3⟩
theorem yT {W:Nat} (hW:W<=100):∀ (l:List yX) (i:Nat) {x y:St} {t:Tm},qx W x t->St.all W fU l i x=.inl y->∀ o∈l,(∀ b,l9 o=some b->b.length<=400)/\(o.kind=3->o.text.size<=1000000000)
 |[],i,x,y,t,s,h=>by simp
 |o::l,i,x,y,t,s,h=>by
  rw[St.all]at h
  cases hd:x.pY W fU o with
  |none=>rw[hd]at h; cases h
  |some z =>
   rw[hd]at h
   obtain⟨b,hb,s1⟩:=MV s hd
   intro q hq
   rcases zA7.1 hq with rfl|hq
   ·exact vW hW s.ok hd
   ·exact yT hW l (i+1) s1 h q hq
theorem OH (l:List Ce):Go.Proofs.YtpohjcacnkhnkaaGreatDoor.aN (l.map Gx)=aN l:=by
 induction l with
 |nil=>rfl
 |cons c l ih=>rw[zC0,Go.Proofs.YtpohjcacnkhnkaaGreatDoor.bU,ih,bU]; rfl
theorem Nk {H:aa} {v:Value} {l:List Ce} (h:eQ H v l):Go.Proofs.YtpohjcacnkhnkaaGreatDoor.eQ H v (l.map Gx):=by
 rcases h with⟨rfl,h⟩|⟨hl,n,off,s,c,e,o,L,rfl,hb,hlt,hle,ht⟩
 ·exact .inl ⟨rfl,h⟩
 ·exact .inr ⟨by simpa using hl,n,off,s,c,e,o,L,by rw[zD7],jR hb,hlt,by rw[zD7]; exact hle,by rw[zD7,OH]; exact ht⟩
theorem Jc {H:aa} {v:Value} {g:List (List Ce)} (h:eE H v g):Go.Proofs.YtpohjcacnkhnkaaGreatDoor.eE H v (oh g):=by
 rcases h with⟨rfl,h⟩|⟨hl,n,off,s,c,e,o,L,rfl,hb,hlt,hle,ht⟩
 ·exact .inl ⟨rfl,h⟩
 ·refine .inr ⟨by simpa[oh]using hl,n,off,s,c,e,o,L,by rw[oh,zD7],jR hb,hlt,by rw[oh,zD7]; exact hle,fun k row hk=>?_⟩
  rw[oh,zF0,zB3]at hk
  obtain⟨r,hr,rfl⟩:=hk
  obtain⟨rv,h1,h2⟩:=ht k r hr
  exact⟨rv,h1,Nk h2⟩
theorem Nw {W:Nat} {x:St} {t:Tm} (s:qx W x t):t.qJ=x.atR/\t.qA=x.HU W:=by
 have h1:=s.width
 unfold Tm.qJ Tm.qA St.atR St.HU Tm.inside
 rw[s.shown,s.row,s.col,h1]
 cases t.shown<;>exact⟨rfl,rfl⟩
theorem J6 {h w:Nat}:St.start (gJ h w) (-1) 0=(⟨List.replicate h (List.replicate w oq),-1,0,⟨0,0,false,false,false⟩,0,0,false⟩:St):=rfl
theorem Lu {H:aa} {h w:Nat} (ok:H.base<=H.next) (tb:tj H) (h1:1<=h) (h2:h<=40) (w1:1<=w) (w2:w<=100) :
  bF Tryz.prog 10 [.int .i64 (h:Int),.int .i64 (w:Int)] H fun out H1=>∃ p,out=.ok (.tuple ⟨[.pointer (some ⟨p.t,0,none⟩),.int .i64 0]⟩)/\Live H1 p (Tm.new h w)/\Mod [] H H1/\∀ n∈p.aJ,H.next<=n:=by
 refine (Pe H h w ok h1 (by omega) w1 (by omega)).mono ?_
 rintro out H1 ⟨p,rfl,t,m,hn,_,_⟩
 have b0:=m.bk tb.l0 (by simp)
 have b1:=m.bk tb.l1 (by simp)
 refine⟨p,rfl,⟨t,MY h1 (by omega) w1 (by omega),⟨fun a ha=>by rw[b0]; exact tb.f a ha,fun i hi=>by rw[b1]; exact tb.a i hi,m.lt tb.l0,m.lt tb.l1⟩,fun hm=>?_,fun hm=>?_,by simp[Tm.new]⟩,m,hn⟩
 ·have:=hn 0 hm; have:=tb.l0; omega
 ·have:=hn 1 hm; have:=tb.l1; omega
theorem Ol (H:aa) (t:yO H):br Tryz.prog 6 [] H (.ok (.bool true)) H:=by
 obtain⟨e1,e2,b1,b2⟩:=t
 refine Js mixed (Kn _) rfl (IQ e1 e2) (fun x hx=>?_)
 simp only[Rm,zA7,zD2,or_false]at hx
 rcases hx with rfl|rfl
 ·exact⟨show 0<Tryz.prog.globals.size by decide +kernel,by kernel_rfl,b1⟩
 ·exact⟨show 1<Tryz.prog.globals.size by decide +kernel,by kernel_rfl,b2⟩
theorem Lh {N:Nat} {H K:aa} {n w h:Nat} {rs:List (Nat × Bool)} {g:List (List Ce)} (o:Fc N H (.slice (some ⟨n,0,none⟩) h h) w rs g) (hg:g.length=h) (hl:rs.length=h) (h1:1<=h) (w1:1<=w) (hw:∀ l∈g,l.length=w) (hn:K.next=H.next) (hK:∀ m∈n::rs.map (·.1),K.get m=H.get m):eE K (.slice (some ⟨n,0,none⟩) h h) g:=by
 have hb:bk H n=some ⟨56,true,rs.map (bB w)⟩:=by
  rcases o.at_ with⟨e,_⟩|⟨_,n',e,hb'⟩
  ·rw[e]at hl; simp at hl; omega
  ·simp only[Value.slice.injEq,Option.some.injEq,Addr.mk.injEq,and_true]at e
   rw[e.1]; exact hb'
 have hlt:=o.blk n (by simp[ae])
 refine .inr ⟨fun e=>by rw[e]at hg; simp at hg; omega,n,0,none,h,56,true,rs.map (bB w),by rw[hg],(bg (hK n (by simp))).trans hb,by rw[hn]; exact hlt.2.1,by simp; omega,fun k row hk=>?_⟩
 have hkl:k<rs.length:=by
  rcases zC2 k g.length with h'|h'
  ·omega
  ·rw[zC5 h']at hk; cases hk
 have hq:=zB1 hkl
 refine⟨bB w rs[k],by rw[zB8,zF0,hq]; rfl,?_⟩
 have hrow:=o.row k _ row hq hk
 have hrl:=hw row (zB9 hk)
 have hrng:=o.vt _ (zG7 hkl)
 refine .inr ⟨fun e=>by rw[e]at hrl; simp at hrl; omega,rs[k].1,0,_,w,77,rs[k].2,aN row,by rw[hrl]; rfl,(bg (hK _ (zC7 _ (zB5.2 ⟨_,zG7 hkl,rfl⟩)))).trans hrow,by rw[hn]; exact hrng.2,by rw[bC]; omega,?_⟩
 rw[zD1,zD6 (by rw[bC]; exact zA8 _)]
theorem Qv {N:Nat} {H:aa} {n w h:Nat} {rs:List (Nat × Bool)} {g:List (List Ce)} (o:Fc N H (.slice (some ⟨n,0,none⟩) h h) w rs g) (hg:g.length=h) (hl:rs.length=h) (h1:1<=h):∀ m∈n::rs.map (·.1),H.get m≠none/\N<=m/\m<H.next:=by
 intro m hm
 rcases zA7.1 hm with rfl|hm
 ·have:=o.blk m (by simp[ae])
  exact⟨o.at_.ne m (by simp[ae]),this.1,this.2.1⟩
 ·obtain⟨q,hq,rfl⟩:=zB5.1 hm
  obtain⟨i,hi,rfl⟩:=List.mem_iff_getElem.1 hq
  have h2:=zB1 hi
  have hi2:i<g.length:=by omega
  exact⟨dT (o.row i _ _ h2 (zB1 hi2)),o.vt _ hq⟩
theorem Q8 {H:aa} {v:Value} {l:List UInt8} (h:du H 5 1 v (ay l) l.length):nm H v l:=by
 obtain⟨h1,h2,⟨h0,rfl⟩|⟨h0,n,rfl,hb,hlt⟩⟩:=h
 ·have:l=[]:=zE9 h0
  subst this
  exact⟨⟨_,rfl⟩,fun k c hk=>by simp at hk⟩
 ·exact Mz hb
theorem I5 (H:aa) (h w:Int) (ov:Value) (l:List yX) (hl:jB H ov l) (t:Ps H) (hlen:∀ o∈l,o.text.data.toList.length<=2000000) (hsc:aS H.next ov=true) (hok:H.base<=H.next) :
  bF Tryz.prog 4 [.int .i64 h,.int .i64 w,ov] H (fun out X=>out=.ok (.bool true)/\Mod [] H X):=by
 obtain⟨oa,oc,eo⟩:=hl.sl
 obtain⟨x0,hx0⟩:∃ x,H.next=x:=⟨_,rfl⟩
 refine aG mixed Tryz.func4 rfl Tryz.ntmps4 (zA6 rfl) ?_
 simp (maxDischargeDepth:=6) only[zW,seval]
 refine (Ol (ext H []) t.2.1).to ?_
 by_cases c1:60<l.length
 ·have d1:decide ((60:Int)<(l.length:Int))=true:=decide_eq_true (by omega)
  rw[eo]
  simp (maxDischargeDepth:=6) only[d1,Tryz.results4,zW,seval]
  exact⟨trivial,Mod.refl⟩
 have d1:decide ((60:Int)<(l.length:Int))=false:=decide_eq_false (by omega)
 by_cases c2:40<h
 ·have d2:decide (40<h)=true:=decide_eq_true c2
  rw[eo]
  simp (maxDischargeDepth:=6) only[d1,d2,Tryz.results4,zW,seval]
  exact⟨trivial,Mod.refl⟩
 have d2:decide (40<h)=false:=decide_eq_false c2
 by_cases c3:100<w
 ·have d3:decide (100<w)=true:=decide_eq_true c3
  rw[eo]
  simp (maxDischargeDepth:=6) only[d1,d2,d3,Tryz.results4,zW,seval]
  exact⟨trivial,Mod.refl⟩
 have d3:decide (100<w)=false:=decide_eq_false c3
 by_cases hbad:h<1\/w<1
 ·rw[eo]
  simp (maxDischargeDepth:=6) only[d1,d2,d3,zW,seval]
  refine (CX h w hbad (by omega) (by omega) (ext H []) hok).mono ?_
  rintro out X ⟨mX,rfl⟩
  have okX:=mX.ok hok
  obtain⟨x,hx⟩:=Go.Ax.bP X.next
  have xb:X.base<=x:=hx▸okX
  rw[show X=ext X [] from rfl]
  simp (maxDischargeDepth:=6) only[hx,xb,seval,ne_eq,not_false_eq_true,decide_true,Tryz.results4,zW]
  exact⟨trivial,mX.trans (Mod.ext okX)⟩
 obtain⟨h,rfl⟩:∃ n:Nat,h=n:=⟨h.toNat,by omega⟩
 obtain⟨w,rfl⟩:∃ n:Nat,w=n:=⟨w.toNat,by omega⟩
 rw[eo]
 simp (maxDischargeDepth:=6) only[d1,d2,d3,zW,seval]
 rw[<-eo]
 refine (F9 h w (by omega) (by omega) (by omega) (by omega) (ext H []) hok).mono ?_
 rintro out X ⟨q,rvs0,rfl,hq,gr0,mX⟩
 have hg:=gr0.own.ah
 have okX:=mX.ok hok
 obtain⟨x,hx⟩:=Go.Ax.bP X.next
 have xb:X.base<=x:=hx▸okX
 rw[hx]at hq
 have hz:∀ i:Decidable (¬True),@decide (¬True) i=false:=fun i=>by simp
 rw[show X=ext X [] from rfl]
 simp (maxDischargeDepth:=6) only[hx,xb,hq,hz,zW,seval]
 obtain⟨X1,hX1⟩:=Go.Ax.bP (ext X [⟨41,false,[.slice (some ⟨q,0,none⟩) h h,.int .i64 (-1),.int .i64 0]⟩])
 have m1:Mod [] X X1:=hX1▸Mod.ext okX
 have mX1:=mX.trans m1
 have ok1:=mX1.ok hok
 have n1:X1.next=x+1:=by rw[<-hX1,ai,hx]; rfl
 have hgl:(gJ h w).length=h:=by simp[gJ]
 have t1:=t.mod mX1 (by simp)
 have hl1:jB X1 ov l:=hl.p8 mX1
 rw[hX1]
 refine (Of X1 (.slice (some ⟨q,0,none⟩) h h) ov (gJ h w) (-1) 0 l (hX1▸hg.ext) hl1 t1.2.1 (by have:=t1.1; omega) ok1 (a8 (show q<X1.next by have:q<x:=hq; omega)) (fun a ha=>by rw[List.eq_of_mem_replicate ha,zE4]; omega) (by omega) hlen (by omega)).mono ?_
 rintro out Y ⟨mY,hout⟩
 have mHY:=mX1.trans mY
 have okY:=mHY.ok hok
 obtain⟨y,hy⟩:=Go.Ax.bP Y.next
 have yb:Y.base<=y:=hy▸okY
 split at hout
 case isFalse hchk =>
  subst hout
  have cR:∀ i:Decidable (¬A8 (gJ h w) (-1) 0=0),@decide (¬A8 (gJ h w) (-1) 0=0) i=true:=fun i=>by simp[hchk]
  rw[show Y=ext Y [] from rfl]
  simp (maxDischargeDepth:=6) only[hy,yb,cR,Tryz.results4,zW,seval]
  exact⟨trivial,mHY.trans (Mod.ext okY)⟩
 have hwd:sT (gJ h w)=w:=by
  obtain⟨k,rfl⟩:∃ k,h=k+1:=⟨h-1,by omega⟩
  simp[sT,gJ,List.replicate_succ]
 rw[hwd,J6]at hout
 split at hout
 ·rename_i i hall
  subst hout
  rw[show Y=ext Y [] from rfl]
  simp (maxDischargeDepth:=6) only[hy,yb,seval,ne_eq,not_false_eq_true,decide_true,Tryz.results4,zW]
  exact⟨trivial,mHY.trans (Mod.ext okY)⟩
 rename_i yv hall
 obtain⟨u,rvs,N,rfl,hN,own⟩:=hout
 obtain⟨b,hbs,sim⟩:=Hm l 0 (Hp (by omega) (by omega) (by omega) (by omega)) hall
 have hok2:=yT (by omega) l 0 (Hp (by omega) (by omega) (by omega) (by omega)) hall
 rw[show Y=ext Y [] from rfl]
 have hu:aS y u=true/\one u=true:=by
  rcases own.at_ with⟨_,rfl⟩|⟨m,s,c,o,rfl,_,_,hm,_⟩
  ·exact⟨rfl,rfl⟩
  ·exact⟨a8 (show m<y by omega),rfl⟩
 obtain⟨scu,onu⟩:=hu
 simp (maxDischargeDepth:=6) only[hy,yb,scu,onu,hz,ne_eq,not_false_eq_true,zW,seval]
 obtain⟨Y1,hY1⟩:=Go.Ax.bP (ext Y [⟨41,false,[u,.int .i64 yv.atR,.int .i64 (St.HU w yv)]⟩])
 have mY1:Mod [] Y Y1:=hY1▸Mod.ext okY
 have mHY1:=mHY.trans mY1
 have okY1:=mHY1.ok hok
 have nY1:Y1.next=y+1:=by rw[<-hY1,ai,hy]; rfl
 have kY1:bk Y1 (y+0)=some ⟨41,false,[u,.int .i64 yv.atR,.int .i64 (St.HU w yv)]⟩:=by rw[<-hY1,bu hy (by simp)]; rfl
 have own1:jn N Y1 u rvs yv.ah:=own.of mY1.next fun n _ h2 _=>mY1.get n h2 (by simp)
 rw[hY1]
 refine (OF Y1 (t.mod mHY1 (by simp)) ov l (hl.p8 mHY1) (by omega) (fun o ho=>(hok2 o ho).1) (fun o ho=>(hok2 o ho).2) (cM mHY1.next _ hsc) okY1).mono ?_
 rintro out Z ⟨mZ,hout⟩
 rw[hbs]at hout
 obtain⟨bv,rfl,vZ,lbv⟩:=hout
 have mHZ:=mHY1.trans mZ
 have okZ:=mHZ.ok hok
 have hzy:=mZ.next
 have kZ:=(mZ.bk (show y+0<Y1.next by omega) (by simp)).trans kY1
 have Qb:jn N Z u rvs yv.ah:=own1.of mZ.next fun n _ h2 _=>mZ.get n h2 (by simp)
 have tZ:=t.mod mHZ (by simp)
 rw[show Z=ext Z [] from rfl]
 simp (maxDischargeDepth:=6) only[zW,seval]
 refine (Lu okZ (OD tZ.2.1 (by have:=tZ.1; omega) (by have:=tZ.1; omega)) (by omega) (by omega) (by omega) (by omega)).mono ?_
 rintro _ A ⟨p,rfl,lv,mA,np⟩
 have mHA:=mHZ.trans mA
 have okA:=mHA.ok hok
 have hAZ:=mA.next
 have kA:=(mA.bk (show y+0<Z.next by omega) (by simp)).trans kZ
 have ownA:jn N A u rvs yv.ah:=Qb.of mA.next fun n _ h2 _=>mA.get n h2 (by simp)
 have vA:du A 5 1 bv (ay b) b.length:=vZ.of mA.next fun n hn=>mA.get n (vZ.ne n hn).2 (by simp)
 rw[show A=ext A [] from rfl]
 simp (maxDischargeDepth:=6) only[hz,ne_eq,not_false_eq_true,zW,seval]
 have hblen:=AF (fun o ho=>(hok2 o ho).1) hbs
 refine (PG A p (Tm.new h w) bv b lv.at_ lv.sz okA lv.tb lv.p0 lv.p1 (Q8 vA) (fun n hn=>(vA.ne n hn).2) (fun n hn hp=>by have:=np n hp; have:=(vZ.ne n hn).2; omega) (fun k=>zC3 (G7 _ lv.sz lv.pl (by simp[Tm.new])) (by omega)) (by omega) lv.pl).mono ?_
 rintro _ B ⟨rfl,p',st⟩
 have mB:Mod [] H B:=mHA.step st.mod hok fun n hn=>.inr (by have:=np n hn; have:=mHZ.next; omega)
 have okB:=mB.ok hok
 have hBA:=st.mod.next
 have sF:=sim
 obtain⟨F,hF⟩:=Go.Ax.bP ((Tm.new h w).feed fL b)
 have lvB:Live B p' F:=hF▸lv.step st
 rw[hF]at st sF
 have kB:bk B (y+0)=some ⟨41,false,[u,.int .i64 yv.atR,.int .i64 (St.HU w yv)]⟩:=(st.mod.bk (by omega) fun hm=>by have:=np _ hm; omega).trans kA
 have ownB:jn N B u rvs yv.ah:=ownA.of st.mod.next fun n h1 h2 h3=>st.mod.get n h2 fun hm=>by
  have h4:=np n hm
  have h5:n<Y.next:=by
   rcases zB2.1 h3 with h|h
   ·exact (own.QF n h).2.1
   ·exact (own.ids n h).2.1
  omega
 obtain⟨z,hz'⟩:∃ z,B.next=z:=⟨_,rfl⟩
 have ly:y+0<z:=by omega
 rw[show B=ext B [] from rfl]
 simp (maxDischargeDepth:=6) only[lh,seval]
 refine bf [(3,1),(3,2)] [] (by kernel_rfl) (by kernel_rfl) rfl fun ops anc hA hG=>?_
 simp only[aw]at hA
 simp (maxDischargeDepth:=6) only[b9,aW,seval]
 have hFg:F.ah.length=F.h:=rfl
 have hF1:=lvB.sz.h1
 have hF2:=lvB.sz.h2
 have hFw1:=lvB.sz.w1
 have hFw2:=lvB.sz.w2
 have hFws:∀ l∈F.ah,l.length=F.w:=lvB.sz.ws
 have hrn:=aL B p'.aJ
 have hsu:=Ln (B.restrict p'.aJ) p' F (lvB.at_.of (by rw[hrn.1]; exact zA8 _) fun m hm=>by rw[aU,if_pos hm]) lvB.sz (by rw[hrn.1,hrn.2.1]; exact zA8 _)
 rw[show p'.t=p.t from st.same]at hsu
 obtain⟨_,gg,hc,rsu,nu,rfl,hrlu,hou,mu⟩:=hsu
 rw[hrn.1]at hou
 refine oM (H:=ext B []) (W:=[]) p'.aJ okB rfl (by kernel_rfl) lvB.at_.ne lvB.at_.lt (fun _ h=>by simp at h) (v:=.agg ⟨[.slice (some ⟨nu,0,none⟩) F.h F.h,.int .i64 F.qJ,.int .i64 F.qA]⟩) (g:=gg) (by simp only[aW]; exact hc) mu (by simp only[cx]) ?_
 intro C D mC hFC hNC hnC hD
 have hD0:D=[]:=List.eq_nil_iff_forall_not_mem.2 (fun q hq=>by simpa using hD q hq)
 subst hD0
 replace mC:Mod [] B C:=mC
 replace hNC:∀ m,B.next<=m->m<gg.next->C.get m=gg.get m:=hNC
 obtain⟨c,hc'⟩:∃ z,gg.next=z:=⟨_,rfl⟩
 have hCn:C.next=c:=by rw[hnC,hc']
 have houC:Fc B.next C (.slice (some ⟨nu,0,none⟩) F.h F.h) F.w rsu F.ah:=hou.of (by omega) (by omega) (fun m h1 h2=>hNC m h1 h2)
 have kC:bk C (y+0)=some ⟨41,false,[u,.int .i64 yv.atR,.int .i64 (St.HU w yv)]⟩:=(mC.bk (by omega) (by simp)).trans kB
 have ownC:jn N C u rvs yv.ah:=ownB.of mC.next fun n _ h2 _=>mC.get n h2 (by simp)
 have hmC:=mC.next
 have lyc:y+0<c:=by omega
 rw[show C=ext C [] from rfl]
 simp (maxDischargeDepth:=6) only[hCn,kC,lyc,ai,hz',hc',b9,zW,seval]
 have huid:∀ n∈ae u++rvs.flatMap ae,n<y/\C.get n≠none:=fun n hn=>by
  rcases zB2.1 hn with h|h
  ·exact⟨hy▸(own.QF n h).2.1,(ownC.QF n h).2.2.1⟩
  ·exact⟨hy▸(own.ids n h).2.1,(ownC.ids n h).2.2⟩
 have cR:=Qv houC hFg hrlu hF1
 refine⟨.inr fun _=>⟨.inl (by omega),fun m hm=>.inl (by have:=(huid m (List.mem_append_left _ (by simpa using hm))).1; omega)⟩,?_⟩
 obtain⟨cu1,cu2⟩:=Nw sF
 refine bx (v:=.bool true) ((nu::rsu.map (·.1))++(ae u++rvs.flatMap ae)) (by simp (maxDischargeDepth:=6) only[aW,seval]) (by kernel_rfl) (by decide) (fun m hm=>?_) (fun K hn hg=>?_) (by simp (maxDischargeDepth:=6) only[hA,b9,lh]) ?_
 ·rcases zB2.1 hm with h|h
  ·exact (cR m h).1
  ·exact (huid m h).2
 ·simp only[aW,seval]
  have g1:=Jc (Lh (K:=K) houC hFg hrlu hF1 hFw1 hFws hn (fun m hm=>hg m (List.mem_append_left _ hm)))
  have g2:Go.Proofs.YtpohjcacnkhnkaaGreatDoor.eE K u yv.ah:=(ownC.of (G:=K) (Nat.le_of_eq hn.symm) fun n _ _ h3=>hg n (List.mem_append_right _ h3)).ah
  have:=Go.Proofs.YtpohjcacnkhnkaaGreatDoor.yZ K _ _ (oh F.ah) yv.ah F.qJ F.qA yv.atR (yv.HU w) g1 g2 (by rw[oh,zD7]; omega) (fun l hl=>by
   obtain⟨r,hr,rfl⟩:=zB5.1 hl
   rw[zD7,hFws r hr]
   omega)
  rw[decide_eq_true ⟨sF.ah.symm,cu1,cu2⟩]at this
  exact this
 simp (maxDischargeDepth:=6) only[hCn,Tryz.results4,b9,zW,seval]
 exact mB.trans mC
end Go.Proofs.YtpohjcacnkhnkaaGreatDoor.Tq
namespace Go.Ax
open Go.ChangeShapes
section
variable {P : Program} {ρ : Ren} {H : aa} {w : World}
variable {K : Type} {enc : TypeId × Value -> K} {spare : Nat -> Bool} {held : Bool}
theorem NO {t:TypeId} {v:Value} (h:qI P t v=true):af v=true:=by
 unfold qI at h
 split at h<;>first|rfl|cases h
theorem Ei:∀ {ts:List TypeId} {cs:List Value},fits P ts cs=true->∀ v∈cs,af v=true
 |[],[],_,v,hv=>by cases hv
 |t::ts,c::cs,h,v,hv=>by
  simp only[fits,zA4]at h
  rcases zA7.1 hv with rfl|hv
  ·exact NO h.1
  ·exact Ei h.2 v hv
 |[],_::_,h,_,_=>by cases h
 |_::_,[],h,_,_=>by cases h
def RY (P:Program) (t:TypeId):Bool :=
 match P.underlying t with
 |some (.int .u8)=>false
 |some (.int .u64)=>false
 |_=>true
theorem OK {t:TypeId} {v:Value} (hn:RY P t=true) (h:qI P t v=true):y7 v=false:=by
 cases v with
 |int k n =>
  unfold qI at h
  split at h
  ·rename_i hv; cases hv
  ·rename_i a b c hu hv
   cases hv
   have e:a=k:=by simpa using h
   rw[e]at hu
   unfold RY at hn
   rw[hu]at hn
   cases k<;>first|rfl|cases hn
  ·rename_i hv; cases hv
  ·cases h
 |_=>rfl
def B5 (P:Program) (ts:List TypeId) (vs:List Value) (len:Nat):Prop:=∀ i,i<len->fits P ts ((vs.drop (i*ts.length)).take ts.length)=true
theorem J9 {ts:List TypeId} {vs:List Value} {len:Nat} (hl:vs.length=len*ts.length) (h:B5 P ts vs len):∀ v∈vs,af v=true:=by
 intro v hv
 rw[wQ len vs hl]at hv
 obtain⟨l,hl2,hv⟩:=List.mem_flatten.1 hv
 obtain⟨i,hi,rfl⟩:=zB5.1 hl2
 exact Ei (h i (zG0.1 hi)) v hv
theorem yw {vs:List Value} (h:∀ v∈vs,af v=true) (i:Nat) (hi:i<vs.length):ρ.val (vs.getD i undef)=vs.getD i undef :=
 df ρ _ (h _ (by simp[List.getD,hi]))
theorem Ro.RQ (R:Ro P ρ H w) {t e t0:TypeId} {ts:List TypeId} {D fuel:Nat} {v:Value} {x:DataW K × List MemPlace} (ht:P.underlying t=some (.slice e)) (hsz:bh P e=some (t0::ts).length) (hfl:flat P D e=some (t0::ts)) (hu:RY P t0=true)
  (hall:∀ b,spare b=true) (h:DataW.trod enc P w 0 spare held fuel t [v]=some x) :
  ∃ ρ1 H1 u vs len,Ro P ρ1 H1 w/\Ext H.next ρ ρ1/\K1 H H1/\ρ1.val u=v/\aS H1.next u=true/\P9 H1 (t0::ts).length u vs len/\B5 P (t0::ts) vs len/\∀ i,i<len->∃ (n:Nat) (y:DataW K × List MemPlace),DataW.trod enc P w 0 spare held n e ((vs.drop (i*(t0::ts).length)).take (t0::ts).length)=some y/\∃ l r,x.1=.slice l r/\y.1∈l:=by
 rcases DataW.trod_slice ht h with⟨h1,_⟩|⟨a,len,cap,_,_,_,_,h1,_,_,hlc,_⟩
 ·simp only[List.cons.injEq,and_true]at h1
  subst h1
  exact⟨ρ,H,.slice none 0 0,[],0,R,Ext.refl _ _,K1.refl,by rw[Ren.val],rfl,⟨by simp,none,0,rfl,.inl rfl⟩,fun i hi=>absurd hi (by omega),fun i hi=>absurd hi (by omega)⟩
 ·simp only[List.cons.injEq,and_true]at h1
  subst h1
  have hs0:=N2 hall ht hsz h
  obtain⟨b,off,s⟩:=a
  simp only at hs0
  rcases hs0 with hs0|⟨rfl,rfl⟩
  case inr =>
   obtain⟨ρ1,H1,u,q1,q2,q3,q4,q5,q6⟩:=R.sl (sz:=(t0::ts).length) (len:=0) (cap:=0) (b:=b) (off:=off) (sp:=s) (vs:=[]) (.inr ⟨rfl,rfl⟩) (by simp) (.inl rfl) rfl (.inl rfl) (zA8 _)
   exact⟨ρ1,H1,u,[],0,q1,q2,q3,q4,q5,q6,fun i hi=>absurd hi (by omega),fun i hi=>absurd hi (by omega)⟩
  subst hs0
  obtain⟨vs,n,k1,k2,k3,_⟩:=Ja ht hsz h
  have hch:B5 P (t0::ts) vs len:=fun i hi=>by
   obtain⟨y,hy,_⟩:=k3 i hi
   exact sS n D e (t0::ts) _ y hfl hsz hy
  have haf:=J9 k1 hch
  have hsc:aO H.next vs=true:=nR _ (yq haf)
  have h0:len=0\/∃ i,i<vs.length/\y7 (ρ.val (vs.getD i undef))=false:=by
   rcases Nat.eq_zero_or_pos len with h|h
   ·exact .inl h
   ·right
    have hp:0<vs.length:=by rw[k1]; exact Nat.mul_pos h (by simp)
    refine⟨0,hp,?_⟩
    rw[yw haf 0 hp]
    have hc:=hch 0 h
    rw[zF7,zD1]at hc
    cases vs with
    |nil=>simp at hp
    |cons y ys =>
     simp only[zB0,List.take_succ_cons,fits,zA4]at hc
     exact OK hu hc.1
  have hcell:len=0\/∃ c e fz,w.heap[b]?=some (.cells c e fz)/\∀ i,i<vs.length->c[off+i]?=some (ρ.val (vs.getD i undef)):=by
   rcases k2 with h|⟨c,e',fz,h1,h2⟩
   ·left
    exact (Nat.mul_eq_zero.1 h).resolve_right (by simp)
   ·exact .inr ⟨c,e',fz,h1,fun i hi=>by rw[yw haf i hi]; exact h2 i hi⟩
  obtain⟨ρ1,H1,u,q1,q2,q3,q4,q5,q6⟩:=R.sl (cap:=cap) (.inl rfl) k1 hcell hsc h0 hlc
  exact⟨ρ1,H1,u,vs,len,q1,q2,q3,q4,q5,q6,hch,fun i hi=>by obtain⟨y,hy,_,h⟩:=k3 i hi; exact⟨n,y,hy,h⟩⟩
end
open Go.ChangeShapes
section
variable {P : Program} {ρ : Ren} {H : aa} {w : World}
variable {K : Type} {enc : TypeId × Value -> K} {spare : Nat -> Bool} {held : Bool}
def PO (P:Program) (t:TypeId):Option (List (TypeId × Nat)) :=
 match P.underlying t with
 |some (.struct fs)=>some (fs.toList.map fun f=>(f.type,f.offset))
 |_=>none
theorem Fa {t:TypeId} {l:List (TypeId × Nat)} {fuel base:Nat} {cs:List Value} {x:DataW K × List MemPlace} (h:PO P t=some l) (hx:DataW.trod enc P w base spare held fuel t cs=some x) :
  cs.length=P.cellsOf t/\∃ n:Nat,∀ (i:Nat) (ty:TypeId) (off:Nat),l[i]?=some (ty,off)->∃ y,DataW.trod enc P w base spare held n ty ((cs.drop off).take (P.cellsOf ty))=some y/\(Wt P t x.1->Wt P ty y.1)/\∃ l,x.1=.agg l/\y.1∈l:=by
 unfold PO at h
 split at h
 ·rename_i fs hu
  simp only[Option.some.injEq]at h
  subst h
  obtain⟨xs,n,_,hxe,hl,hxs,hf⟩:=DataW.trod_struct hu hx
  refine⟨hl,n,fun i ty off hi=>?_⟩
  rw[zF0,zB3]at hi
  obtain⟨f,hfi,he⟩:=hi
  simp only[Prod.mk.injEq]at he
  obtain⟨rfl,rfl⟩:=he
  have hfi':fs[i]?=some f:=by simpa using hfi
  have hlt:i<fs.size:=(Array.getElem?_eq_some_iff.1 hfi').1
  have:=hf i f hfi'
  rw[zB1 (by omega)]at this
  refine⟨_,this,fun hw m hm=>hw m ?_,_,congrArg (·.1) hxe,zB5.2 ⟨_,zG7 _,rfl⟩⟩
  rw[hxe,DataW.weights,hu]
  exact DataW.weights_mem_each (j:=i) (by simp[hfi]) (by simp[zB1 (show i<xs.length by omega)]) m hm
 ·cases h
theorem C3 {α:Type} {ts:List TypeId} {f:α->List Value} (hf:∀ cs,fits P ts cs=true->∃ a,cs=f a):∀ (len:Nat) (vs:List Value),vs.length=len*ts.length->B5 P ts vs len->∃ l:List α,l.length=len/\vs=l.flatMap f
 |0,vs,hl,_=>⟨[],rfl,by simpa using hl⟩
 |len+1,vs,hl,h=>by
  have h0:=h 0 (by omega)
  rw[zF7,zD1]at h0
  obtain⟨a,ha⟩:=hf _ h0
  obtain⟨l,h1,h2⟩:=C3 hf len (vs.drop ts.length) (by rw[zD8,hl,Nat.succ_mul]; omega) (fun i hi=>by
   have:=h (i+1) (by omega)
   rw[zG3]
   rw[Nat.succ_mul,Nat.add_comm]at this
   exact this)
  refine⟨a::l,by simp[h1],?_⟩
  rw[List.flatMap_cons,<-h2,<-ha,zG8]
end
open Go.ChangeShapes
section
variable {P : Program} {w : World}
theorem Au (N:Nat):∀ (T:List (Nat × TypeId × List Value)) (n:Nat),(qa N T).get n≠none->∃ x∈T,x.1=n
 |[],n,h=>absurd (ow _ n) h
 |(g,e,vs)::r,n,h=>by
  rw[qa,aa.pE]at h
  by_cases hg:n=g
  ·exact⟨(g,e,vs),by simp,hg.symm⟩
  ·rw[if_neg hg]at h
   obtain⟨x,hx,e⟩:=Au N r n h
   exact⟨x,by simp[hx],e⟩
theorem Ro.RN (T:List (Nat × TypeId × List Value)) (h:∀ x∈T,x.1<P.globals.size/\Cg x.2.2=true/\∃ c,w.heap[x.1]?=some (.cells c x.2.1 (0,0))/\c.toList=x.2.2) (h8:∀ x∈T,x.2.2.all y7=true):Ro P Ren.same (qa P.globals.size T) w:=by
 obtain⟨k1,k2,k3⟩:=nT P.globals.size T
 refine⟨wW T h,by rw[k1,k2],k3,fun n hn=>.inr ?_⟩
 obtain⟨x,hx,rfl⟩:=Au _ T n hn
 obtain⟨h1,_,c,h3,h4⟩:=h x hx
 exact⟨h1,c,_,h3,fun v hv=>by rw[h4]at hv; exact zC6.1 (h8 x hx) v hv⟩
theorem sM {H:aa} {g:Nat} {e:TypeId} {vs:List Value}:bk (H.put g (some (Ca e vs))) g=some ⟨e,false,vs⟩:=by
 refine PM ⟨RV.ofList vs,?_,RV.n_ofList _,fun i hi=>?_⟩
 ·simp only[bH,aa.pE,if_true,Ca]
 ·rw[RV.cb]
theorem tf {H:aa} {g n:Nat} {e:TypeId} {vs:List Value} {b:Option Bl} (hn:n≠g) (h:bk H n=b):bk (H.put g (some (Ca e vs))) n=b:=(bg (by rw[aa.pE,if_neg hn])).trans h
end
end Go.Ax
namespace Go.Proofs.YtpohjcacnkhnkaaGreatDoor.Tq
open Go.ChangeShapes Go.WideShapes Go.ChangeAt Go.RowKit Go.Ax
theorem qv {K:Type} {enc:TypeId × Value->K} {P:Program} (hl:laidOutB P=true) {W W':World} (hb:Below W.heap.size W W'):∀ {ts:List TypeId} {vs:List Value} {ds:List (DataW K)} {ps:List MemPlace},
  (ts.all fun t=>P.readableRec t&&Nat.blt t P.types.size)=true->DataW.TrodAll enc P W 0 (fun _=>true) true ts vs ds ps->(∀ x∈ps,x.block<W.heap.size)->DataW.TrodAll enc P W' 0 (fun b=>decide (b<W.heap.size)) true ts vs ds ps
 |[],[],[],ps,_,h,_=>h
 |t::ts,v::vs,d::ds,ps,ht,h,hp=>by
  obtain⟨p,q,h1,h2,rfl⟩:=h
  simp only[List.all_cons,zA4]at ht
  exact⟨p,q,Below.trod hl ht.1.1 (bN ht.1.2) h1 hb (fun x hx=>hp x (by simp[hx])),qv hl hb (by simpa using ht.2) h2 (fun x hx=>hp x (by simp[hx])),rfl⟩
theorem Qb:ownKnob Tryz.prog.godebug=none:=by kernel_rfl
theorem LM:laidOutB Tryz.prog=true:=by kernel_rfl
theorem Sx:Tryz.prog.underlying 3=some (.int .i64):=by kernel_rfl
theorem Sw:Tryz.prog.underlying 4=some .bool:=by kernel_rfl
theorem Sm:Tryz.prog.underlying 9=some .string:=by kernel_rfl
abbrev CN (e1 e2 e3:TypeId):List (Nat × TypeId × List Value):=[(0,e1,dc Go.Proofs.YtpohjcacnkhnkaaGreatDoor.vE),(1,e2,dc Go.Proofs.YtpohjcacnkhnkaaGreatDoor.sD),(2,e3,dc Jq)]
def Laid (w:World) (e1 e2 e3:TypeId):Prop:=(∃ c,w.heap[0]?=some (.cells c e1 (0,0))/\c.toList=dc Go.Proofs.YtpohjcacnkhnkaaGreatDoor.vE)/\(∃ c,w.heap[1]?=some (.cells c e2 (0,0))/\c.toList=dc Go.Proofs.YtpohjcacnkhnkaaGreatDoor.sD)/\∃ c,w.heap[2]?=some (.cells c e3 (0,0))/\c.toList=dc Jq
theorem JI {w:World} (h:laidMet Tryz.prog Rows.termAppliesRow.laid w):∃ e1 e2 e3,Laid w e1 e2 e3:=by
 obtain⟨c1,t1,a1,b1⟩:=yW h (name := "unicode/utf8.first") (d:=Go.Proofs.YtpohjcacnkhnkaaGreatDoor.vE) (.tail _ (.tail _ (.tail _ (.tail _ (.head _))))) (g:=0) (t:=148) (e:=5) (ts:=[5]) (D:=1000) (n:=256) (by kernel_rfl) (by kernel_rfl) (by kernel_rfl) (by kernel_rfl) (by kernel_rfl) (by kernel_rfl) (by kernel_rfl) (bN (by kernel_rfl))
 obtain⟨c2,t2,a2,b2⟩:=yW h (name := "unicode/utf8.acceptRanges") (d:=Go.Proofs.YtpohjcacnkhnkaaGreatDoor.sD) (.tail _ (.tail _ (.tail _ (.head _)))) (g:=1) (t:=151) (e:=150) (ts:=[5,5]) (D:=1000) (n:=16) (by kernel_rfl) (by kernel_rfl) (by kernel_rfl) (by kernel_rfl) (by kernel_rfl) (by kernel_rfl) (by kernel_rfl) (bN (by kernel_rfl))
 obtain⟨c3,t3,a3,b3⟩:=yW h (name := "internal/strconv.uint64pow10") (d:=Jq) (.tail _ (.tail _ (.head _))) (g:=2) (t:=195) (e:=173) (ts:=[173]) (D:=1000) (n:=20) (by kernel_rfl) (by kernel_rfl) (by kernel_rfl) (by kernel_rfl) (by kernel_rfl) (by kernel_rfl) (by kernel_rfl) (bN (by kernel_rfl))
 exact⟨t1,t2,t3,⟨c1,a1,b1⟩,⟨c2,a2,b2⟩,c3,a3,b3⟩
theorem Laid.ro {W:World} {e1 e2 e3:TypeId} (h:Laid W e1 e2 e3):∃ ρ H,Ro Tryz.prog ρ H W/\Ps H:=by
 have hn:2<(qa Tryz.prog.globals.size (CN e1 e2 e3)).next:=by
  rw[(nT Tryz.prog.globals.size (CN e1 e2 e3)).1]
  exact zA6 (by kernel_rfl)
 refine⟨_,_,Ro.RN (CN e1 e2 e3) (fun x hx=>?_) (fun x hx=>?_),hn,⟨e1,e2,sM,tf (by decide) sM⟩,hn,e3,tf (by decide) (tf (by decide) sM)⟩
 ·simp only[CN,zA7,zD2,or_false]at hx
  rcases hx with rfl|rfl|rfl
  ·exact⟨show 0<Tryz.prog.globals.size by decide +kernel,by kernel_rfl,h.1⟩
  ·exact⟨show 1<Tryz.prog.globals.size by decide +kernel,by kernel_rfl,h.2.1⟩
  ·exact⟨show 2<Tryz.prog.globals.size by decide +kernel,by kernel_rfl,h.2.2⟩
 ·simp only[CN,zA7,zD2,or_false]at hx
  rcases hx with rfl|rfl|rfl
  ·exact (by kernel_rfl:(dc Go.Proofs.YtpohjcacnkhnkaaGreatDoor.vE).all y7=true)
  ·exact (by kernel_rfl:(dc Go.Proofs.YtpohjcacnkhnkaaGreatDoor.sD).all y7=true)
  ·exact (by kernel_rfl:(dc Jq).all y7=true)
theorem tQ {H:Type} {d:DataW H} {l:List (DataW H)} (h:d∈l):Rows.uptoBulk d<=Rows.uptoBulkAll l:=by
 induction l with
 |nil=>cases h
 |cons x r ih =>
  simp only[Rows.uptoBulkAll]
  cases zA7.1 h with
  |inl e=>subst e; omega
  |inr e=>have:=ih e; omega
theorem Rv:∀ cs,fits Tryz.prog [3,3,3,3,3,3,4,4,4,9] cs=true->∃ c:yX,cs=c.cells:=fun cs h=>by
 have hl:=lP h
 match cs,hl,h with
 |[a,b,c,d,e,f,g,h0,i,j],_,h =>
  simp only[fits,zA4,Bool.and_true]at h
  obtain⟨h1,h2,h3,h4,h5,h6,h7,h8,h9,h10⟩:=h
  unfold qI at h1 h2 h3 h4 h5 h6 h7 h8 h9 h10
  rw[Sx]at h1 h2 h3 h4 h5 h6
  rw[Sw]at h7 h8 h9
  rw[Sm]at h10
  cases a<;>simp at h1
  cases b<;>simp at h2
  cases c<;>simp at h3
  cases d<;>simp at h4
  cases e<;>simp at h5
  cases f<;>simp at h6
  cases g<;>simp at h7
  cases h0<;>simp at h8
  cases i<;>simp at h9
  cases j<;>simp at h10
  subst h1 h2 h3 h4 h5 h6
  exact⟨⟨_,_,_,_,⟨_,_,_,_,_⟩,_⟩,rfl⟩
section
variable {K : Type} {enc : TypeId × Value -> K} {W : World} {ρ : Ren} {H : aa} {held : Bool}
theorem MF {n:Nat} {s:ByteArray} {y:DataW K × List MemPlace} (h:DataW.trod enc Tryz.prog W 0 (fun _=>true) held n 9 [.string s]=some y):s.data.toList.length<=Rows.uptoBulk y.1:=by
 cases n with
 |zero=>simp[DataW.trod]at h
 |succ n =>
  unfold DataW.trod at h
  rw[Sm]at h
  simp only at h
  split at h
  ·simp only[Option.some.injEq]at h
   subst h
   simp[Rows.uptoBulk]
  ·cases h
theorem N7 {n:Nat} {o:yX} {y:DataW K × List MemPlace} (h:DataW.trod enc Tryz.prog W 0 (fun _=>true) held n 58 o.cells=some y):o.text.data.toList.length<=Rows.uptoBulk y.1:=by
 have hf:PO Tryz.prog 58=some [(3,0),(3,1),(3,2),(3,3),(44,4),(9,9)]:=by kernel_rfl
 obtain⟨_,m,h2⟩:=Fa hf h
 obtain⟨z,hz,_,l,hl,hzl⟩:=h2 5 9 9 rfl
 have hc:Tryz.prog.cellsOf 9=1:=by kernel_rfl
 rw[hc]at hz
 have h3:=MF hz
 have h4:=tQ hzl
 rw[hl,Rows.uptoBulk]
 omega
theorem PH (R:Ro Tryz.prog ρ H W) {v:Value} {d:DataW K} {p:List MemPlace} (h:DataW.Trod enc Tryz.prog W 0 (fun _=>true) held 23 v d p) (hv:v.cells.toList=[v]) :
  ∃ ρ1 H1 u l,Ro Tryz.prog ρ1 H1 W/\Ext H.next ρ ρ1/\K1 H H1/\ρ1.val u=v/\aS H1.next u=true/\jB H1 u l/\∀ o∈l,o.text.data.toList.length<=Rows.uptoBulk d:=by
 obtain⟨fuel,hf⟩:=h
 rw[hv]at hf
 obtain⟨ρ1,H1,u,vs,len,k1,k2,k3,k4,k5,k6,k7,k8⟩:=R.RQ (t:=23) (e:=58) (t0:=3) (ts:=[3,3,3,3,3,4,4,4,9]) (D:=1000) (by kernel_rfl) (by kernel_rfl) (by kernel_rfl) (by kernel_rfl) (fun _=>rfl) hf
 obtain⟨h1,a,cap,rfl,h3⟩:=k6
 obtain⟨l,hl,rfl⟩:=C3 Rv len vs h1 k7
 refine⟨ρ1,H1,_,l,k1,k2,k3,k4,k5,?_,fun o ho=>?_⟩
 ·by_cases h0:l=[]
  ·subst h0
   subst hl
   exact .inl ⟨rfl,a,cap,rfl⟩
  ·have cR:len≠0:=fun h=>h0 (zE9 (by omega))
   obtain⟨n,e,rfl,h4,h5,h6⟩:=h3.resolve_left cR
   refine .inr ⟨h0,n,0,some 0,cap,e,true,_,by rw[hl],h5,h4,by rw[h1,hl]; simp,?_⟩
   rw[zD1,zD6 (by rw[h1,hl]; simp)]
   rfl
 ·obtain⟨i,hi⟩:=List.getElem?_of_mem ho
  have hlt:=(zG1.1 hi).1
  obtain⟨n,y,hy,r,q,hx,hm⟩:=k8 i (by omega)
  have hy':DataW.trod enc Tryz.prog W 0 (fun _=>true) held n 58 (((l.flatMap Op.cells).drop (i*10)).take 10)=some y:=hy
  rw[wx Op.cells 10 L7 l i o hi]at hy'
  have h5:=N7 hy'
  have h6:=tQ hm
  simp only at hx
  rw[hx,Rows.uptoBulk]
  omega
end
end Go.Proofs.YtpohjcacnkhnkaaGreatDoor.Tq
