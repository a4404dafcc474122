/- Parts of the proof, one behind the other. -/
import Derived.Test.YtpohjcacnkhnkaaGreatDoorM4
import Derived.Test.YtpohjcacnkhnkaaGreatDoorM5
import Derived.Test.YtpohjcacnkhnkaaGreatDoorM3
import Derived.Shelf.Bits.Mul64
import Derived.Laws.Strings
set_option linter.all false
set_option maxRecDepth 10000
set_option maxHeartbeats 16000000
open And renaming intro -> zA0
open Option renaming bind_eq_bind -> zA1, bind_eq_some_iff -> zA2, bind_some -> zA3, map_some -> zA9, map_eq_some_iff -> zB3
open Bool renaming and_eq_true -> zA4, false_eq_true -> zC4, not_true -> zE0, and_self -> zE3, not_false -> zG2
open List renaming mem_singleton -> zA5, mem_cons -> zA7, length_cons -> zB0, getElem?_eq_getElem -> zB1, mem_append -> zB2, length_append -> zB4, mem_map -> zB5, length_nil -> zB6, mem_of_getElem? -> zB9, map_cons -> zC0, nil_append -> zC1, getElem?_eq_none -> zC5, all_eq_true -> zC6, mem_cons_of_mem -> zC7, getD_eq_getElem?_getD -> zC8, nodup_cons -> zC9, append_nil -> zD0, drop_zero -> zD1, not_mem_nil -> zD2, append_assoc -> zD3, nodup_append -> zD4, take_of_length_le -> zD6, length_map -> zD7, length_drop -> zD8, mem_flatMap -> zE2, length_replicate -> zE4, mem_cons_self -> zE5, cons_append -> zE7, eq_nil_of_length_eq_zero -> zE9, getElem?_map -> zF0, drop_eq_nil_of_le -> zF1, length_set -> zF3, map_nil -> zF4, getElem?_cons_zero -> zF5, mem_of_mem_take -> zF6, mem_of_mem_drop -> zF9, mem_range -> zG0, getElem?_eq_some_iff -> zG1, drop_drop -> zG3, getElem?_cons_succ -> zG4, getElem_mem -> zG7, take_append_drop -> zG8
open Nat renaming le_of_ble_eq_true -> zA6, le_refl -> zA8, zero_le -> zB7, zero_add -> zB8, lt_or_ge -> zC2, le_trans -> zC3, lt_of_lt_of_le -> zD5, lt_succ_self -> zD9, add_zero -> zE1, ble_eq -> zE6, mul_one -> zE8, min -> zF2, zero_mul -> zF7, add_sub_cancel_left -> zF8, sub_self -> zG5
open Int renaming toNat_natCast -> zG6

namespace Go.Proofs.YtpohjcacnkhnkaaGreatDoor.Tq
open Go.Ax
structure Rp where
 t:Nat
 rb:Nat
 rs:List (Nat × Bool)
 rv:Value
 pv:Value
def bB (w:Nat) (q:Nat × Bool):Value:=.slice (some ⟨q.1,0,if q.2 then none else some 0⟩) w w
def Tm.w (x:Tm):Nat:=(x.ah.headD []).length
def Tm.h (x:Tm):Nat:=x.ah.length
def ba (p:Rp) (x:Tm):List Value:=[.int .i64 x.row,.int .i64 x.col,.int .i64 x.pen.fore,.int .i64 x.pen.back,.bool x.pen.bold,.bool x.pen.under,.bool x.pen.inv,
 .int .i64 x.srow,.int .i64 x.scol,.int .i64 x.spen.fore,.int .i64 x.spen.back,.bool x.spen.bold,.bool x.spen.under,.bool x.spen.inv,
 .slice (some ⟨p.rb,0,none⟩) x.h x.h,.bool x.shown,.int .i64 x.top,.int .i64 x.bottom,.int .i64 (x.mode:Int),p.rv,p.pv,.bool x.middle,jU x.last]
def Rp.aJ (p:Rp):List Nat:=p.t::p.rb::(p.rs.map (·.1)++ae p.rv++ae p.pv)
structure cd (H:aa) (p:Rp) (x:Tm):Prop where
 cell:bk H p.t=some ⟨66,false,ba p x⟩
 rows:bk H p.rb=some ⟨56,true,p.rs.map (bB x.w)⟩
 len:p.rs.length=x.h
 row:∀ (i:Nat) (q:Nat × Bool) (l:List Ce),p.rs[i]?=some q->x.ah[i]?=some l->bk H q.1=some ⟨77,q.2,aN l⟩
 rest:cK H p.rv x.rest
 par:cK H p.pv x.params
 nd:p.aJ.Nodup
 lt:∀ n∈p.aJ,n<H.next
section
variable {H G H1 H2 : aa} {p p1 p2 : Rp} {x y z : Tm}
theorem cd.of (g:cd H p x) (hn:H.next<=G.next) (hg:∀ n∈p.aJ,G.get n=H.get n):cd G p x where
 cell:=(bg (hg _ (by simp[Rp.aJ]))).trans g.cell
 rows:=(bg (hg _ (by simp[Rp.aJ]))).trans g.rows
 len:=g.len
 row:=fun i q l h1 h2=>(bg (hg _ (by simp only[Rp.aJ,zA7,zB2,zB5]; exact .inr (.inr (.inl (.inl ⟨q,zB9 h1,rfl⟩)))))).trans (g.row i q l h1 h2)
 rest:=g.rest.of fun n hn=>hg n (by simp[Rp.aJ,hn])
 par:=g.par.of fun n hn=>hg n (by simp[Rp.aJ,hn])
 nd:=g.nd
 lt:=fun n hn'=>zD5 (g.lt n hn') hn
theorem cd.rowOf (g:cd H p x) {i:Nat} {l:List Ce} (h:x.ah[i]?=some l):∃ q,p.rs[i]?=some q/\q.1∈p.aJ/\bk H q.1=some ⟨77,q.2,aN l⟩:=by
 have hlt:i<p.rs.length:=by
  rw[g.len]
  rcases zC2 i x.ah.length with h'|h'
  ·exact h'
  ·rw[zC5 h']at h; cases h
 refine⟨p.rs[i],zB1 hlt,?_,g.row i _ l (zB1 hlt) h⟩
 simp only[Rp.aJ,zA7,zB2,zB5]
 exact .inr (.inr (.inl (.inl ⟨p.rs[i],zG7 _,rfl⟩)))
theorem cd.ne (g:cd H p x):∀ n∈p.aJ,H.get n≠none:=by
 intro n hn
 simp only[Rp.aJ,zA7,zB2,zB5]at hn
 rcases hn with rfl|rfl|(⟨q,hq,rfl⟩|hn)|hn
 ·exact dT g.cell
 ·exact dT g.rows
 ·obtain⟨i,hi,rfl⟩:=List.mem_iff_getElem.1 hq
  have hlt:i<x.ah.length:=by rw[show x.ah.length=x.h from rfl,<-g.len]; exact hi
  exact dT (g.row i _ _ (zB1 hi) (zB1 hlt))
 ·exact g.rest.ne n hn
 ·exact g.par.ne n hn
structure Step (H:aa) (p:Rp) (H1:aa) (p1:Rp) (y:Tm):Prop where
 at_:cd H1 p1 y
 mod:Mod p.aJ H H1
 same:p1.t=p.t
 new:∀ n∈p1.aJ,n∈p.aJ\/H.next<=n
theorem Step.refl (g:cd H p x):Step H p H p x:=⟨g,Mod.refl,rfl,fun _ h=>.inl h⟩
theorem Step.ok (s:Step H p H1 p1 y) (hok:H.base<=H.next):H1.base<=H1.next:=s.mod.ok hok
theorem Step.trans (hok:H.base<=H.next) (a:Step H p H1 p1 y) (b:Step H1 p1 H2 p2 z):Step H p H2 p2 z where
 at_:=b.at_
 mod:=a.mod.step b.mod hok a.new
 same:=b.same.trans a.same
 new:=fun n hn=>(b.new n hn).elim (a.new n) fun h=>.inr (zC3 a.mod.next h)
theorem cd.put (g:cd H p x) (m:Mod [p.t] H H1) (h:bk H1 p.t=some ⟨66,false,ba p y⟩) (h1:y.ah=x.ah) (h2:y.rest=x.rest) (h3:y.params=x.params):Step H p H1 p y:=by
 have hnd:p.t∉p.rb::(p.rs.map (·.1)++ae p.rv++ae p.pv):=(zC9.1 g.nd).1
 have hget:∀ n∈p.rb::(p.rs.map (·.1)++ae p.rv++ae p.pv),H1.get n=H.get n:=fun n hn=>m.get n (g.lt n (zC7 _ hn)) (fun e=>hnd (by simp only[zA5]at e; exact e▸hn))
 refine⟨⟨h,?_,?_,?_,?_,?_,g.nd,fun n hn=>m.lt (g.lt n hn)⟩,m.mono (by intro n hn; simp only[zA5]at hn; subst hn; simp[Rp.aJ]),rfl,fun _ h=>.inl h⟩
 ·rw[bg (hget _ (by simp)),g.rows,Tm.w,Tm.w,h1]
 ·rw[g.len,Tm.h,Tm.h,h1]
 ·intro i q l hq hl
  rw[h1]at hl
  rw[bg (hget _ ?_)]
  ·exact g.row i q l hq hl
  ·simp only[zA7,zB2,zB5]
   exact .inr (.inl (.inl ⟨q,zB9 hq,rfl⟩))
 ·rw[h2]; exact g.rest.of fun n hn=>hget n (by simp[hn])
 ·rw[h3]; exact g.par.of fun n hn=>hget n (by simp[hn])
theorem cd.one (g:cd H p x) {off:Nat} {vs:List Value} (h:cL (ba p x) off vs=ba p y) (h1:y.ah=x.ah) (h2:y.rest=x.rest) (h3:y.params=x.params):Step H p (Go.Ax.ext (uw H p.t off vs) []) p y :=
 g.put (Mod.uw (by simp)) (by rw[ext_nil,bR,g.cell]; exact congrArg (fun l=>some (Bl.mk 66 false l)) h) h1 h2 h3
theorem cd.two (g:cd H p x) {off off2:Nat} {vs vs2:List Value} (h:cL (cL (ba p x) off vs) off2 vs2=ba p y) (h1:y.ah=x.ah) (h2:y.rest=x.rest) (h3:y.params=x.params):Step H p (Go.Ax.ext (uw (uw H p.t off vs) p.t off2 vs2) []) p y :=
 g.put ((Mod.uw (by simp)).trans (Mod.uw (by simp))) (by rw[ext_nil,bR,bR,g.cell]; exact congrArg (fun l=>some (Bl.mk 66 false l)) h) h1 h2 h3
def yO (H:aa):Prop:=∃ e1 e2,bk H 0=some ⟨e1,false,dc vE⟩/\bk H 1=some ⟨e2,false,dc sD⟩
end
def gF (f:FuncId) (args:List Value) (H:aa) (p:Rp) (v:Value) (y:Tm):Prop :=
 bF Tryz.prog f (.pointer (some ⟨p.t,0,none⟩)::args) H fun out H1=>out=.ok v/\∃ p1,Step H p H1 p1 y
structure Tm.Sz (x:Tm):Prop where
 h1:1<=x.h
 h2:x.h<=200
 w1:1<=x.w
 w2:x.w<=300
 ws:∀ l∈x.ah,l.length=x.w
 r1:0<=x.row
 r2:x.row<x.h
 c1:0<=x.col
 c2:x.col<=x.w
 sr1:0<=x.srow
 sr2:x.srow<x.h
 sc1:0<=x.scol
 sc2:x.scol<=x.w
 t1:0<=x.top
 t2:x.top<=x.bottom
 t3:x.bottom<x.h
 md:x.mode<5
 hd:∀ l∈x.ah,(l.getD 0 sp).rune≠-1
theorem Tm.Sz.head {x:Tm} (s:x.Sz):x.ah[0]?=some (x.ah.headD []):=by
 have:=s.h1
 unfold Tm.h at this
 cases hg:x.ah with
 |nil=>rw[hg]at this; simp at this
 |cons a r=>rfl
theorem cd.first {H:aa} {p:Rp} {x:Tm} (g:cd H p x) (s:x.Sz):∃ q,p.rs[0]?=some q/\(p.rs.map (bB x.w))[0]?=some (bB x.w q):=by
 obtain⟨q,hq,_⟩:=g.rowOf s.head
 exact⟨q,hq,by rw[zF0,hq]; rfl⟩
theorem Mh (H:aa) (p:Rp) (x:Tm) (g:cd H p x) (s:x.Sz):Pure 32 [.pointer (some ⟨p.t,0,none⟩)] H (.bool true):=by
 obtain⟨b,hb⟩:=Go.Ax.bP H.next
 have hT:p.t<b:=hb▸g.lt p.t (by simp[Rp.aJ])
 have h1:=g.cell
 simp only[ba]at h1
 have hc:decide ((0:Int)<(x.h:Int))=true:=decide_eq_true (by have:=s.h1; omega)
 refine bJ mixed Tryz.func32 rfl Tryz.ntmps32 (zA6 rfl) fun wf hsc=>?_
 simp only[hb,hT,h1,hc,Tryz.results32,zW,seval]
 exact Fin.pure rfl
theorem gW (H:aa) (p:Rp) (x:Tm) (g:cd H p x) (s:x.Sz):Pure 71 [.pointer (some ⟨p.t,0,none⟩)] H (.int .i64 (x.w:Int)):=by
 obtain⟨b,hb⟩:=Go.Ax.bP H.next
 have hT:p.t<b:=hb▸g.lt p.t (by simp[Rp.aJ])
 have hR:p.rb<b:=hb▸g.lt p.rb (by simp[Rp.aJ])
 have h1:=g.cell
 simp only[ba]at h1
 have h2:=g.rows
 obtain⟨q,_,hq⟩:=g.first s
 have hi:=sG (len:=x.h) (cap:=x.h) (n:=p.rb) (s:=none) (i:=0) (k:=0) rfl s.h1
 refine bJ mixed Tryz.func71 rfl Tryz.ntmps71 (zA6 rfl) fun wf hsc=>?_
 simp only[hb,hT,hR,h1,h2,hi,hq,bB,Tryz.results71,zW,seval]
 exact Fin.pure rfl
theorem Aj (x:Tm):x.inside=min x.col ((x.w:Int)-1):=rfl
theorem oI (H:aa) (p:Rp) (x:Tm) (g:cd H p x) (s:x.Sz):Pure 34 [.pointer (some ⟨p.t,0,none⟩)] H (.int .i64 x.inside):=by
 obtain⟨b,hb⟩:=Go.Ax.bP H.next
 have hT:p.t<b:=hb▸g.lt p.t (by simp[Rp.aJ])
 have h1:=g.cell
 simp only[ba]at h1
 have hw:IntKind.i64.wrap ((x.w:Int)-1)=(x.w:Int)-1:=aQ (by have:=s.w2; omega) (by have:=s.w2; omega)
 refine bJ mixed Tryz.func34 rfl Tryz.ntmps34 (zA6 rfl) fun wf hsc=>?_
 simp only[zW,seval]
 refine bf [] [] (by kernel_rfl) rfl rfl fun ops anc hA hG=>?_
 simp only[hb,hT,h1,b9,zW,seval]
 refine bx (v:=.int .i64 (x.w:Int)) p.aJ (by simp only[aW,seval]) (by kernel_rfl) (by decide) g.ne (fun K hn hg=>?_) (by simp (maxDischargeDepth:=6) only[b9]) ?_
 ·simp only[aW]
  exact gW K p x (g.of (by rw[hn]; exact zA8 _) hg) s
 simp only[hb,hw,Tryz.results34,b9,zW,seval]
 exact Fin.cz (by rw[Aj]) rfl
theorem Qd (H:aa) (p:Rp) (x:Tm) (c:UInt8):Pure 43 [.pointer (some ⟨p.t,0,none⟩),jU c] H (.int .i64 0):=by
 refine bJ mixed Tryz.func43 rfl Tryz.ntmps43 (zA6 rfl) fun wf hsc=>?_
 simp only[Tryz.results43,zW,seval]
 exact Fin.pure rfl
def dX (l:List Int):List Value:=l.map fun n=>.int .i64 n
theorem Aa (l:List Int) (k:Nat):(dX l)[k]?=l[k]?.map fun n=>.int .i64 n:=by simp[dX]
theorem iI (l:List Int):(dX l).length=l.length:=by simp[dX]
theorem BQ (l m:List Int):dX (l++m)=dX l++dX m:=by simp[dX]
def ef (H:aa) (v:Value) (l:List Int):Prop :=
 (l=[]/\∃ a c,v=.slice a 0 c)\/(l≠[]/\∃ n pre o,v=.slice (some ⟨n,List.length pre,if o then none else some 0⟩) l.length l.length/\bk H n=some ⟨3,o,dX (pre++l)⟩)
theorem ef.sl {H:aa} {v:Value} {l:List Int} (h:ef H v l):∃ a c,v=.slice a l.length c:=by
 rcases h with⟨rfl,a,c,rfl⟩|⟨_,n,pre,o,rfl,_⟩<;>exact⟨_,_,rfl⟩
theorem ef.get {H:aa} {v:Value} {l:List Int} (h:ef H v l) {k:Nat} {c:Int} (hk:l[k]?=some c):∃ n off,aP Tryz.prog 22 v (.int .i64 (k:Int))=some (.pointer (some ⟨n,off,none⟩))/\n∈ae v/\H.get n≠none/\∀ q,oL Tryz.prog 3 off (EO (bk H n) q)=some (.int .i64 c):=by
 have hlt:k<l.length:=by
  rcases zC2 k l.length with h'|h'
  ·exact h'
  ·rw[zC5 h']at hk; cases hk
 rcases h with⟨rfl,_⟩|⟨h,n,pre,o,rfl,hb⟩
 ·simp at hlt
 ·have h1:eX Tryz.prog 3=some false:=by kernel_rfl
  refine⟨n,pre.length+k,KW rfl hlt,by simp[ae],dT hb,fun q=>?_⟩
  rw[hb,iM,kF h1,Aa,List.getElem?_append_right (by omega),zF8,hk]
  rfl
theorem ef.of {H G:aa} {v:Value} {l:List Int} (h:ef H v l) (hg:∀ n∈ae v,G.get n=H.get n):ef G v l:=by
 rcases h with⟨rfl,a,c,rfl⟩|⟨h,n,pre,o,rfl,hb⟩
 ·exact .inl ⟨rfl,a,c,rfl⟩
 ·exact .inr ⟨h,n,pre,o,rfl,(bg (hg n (by simp[ae]))).trans hb⟩
theorem ef.ne {H:aa} {v:Value} {l:List Int} (h:ef H v l) (hl:l≠[]):∀ n∈ae v,H.get n≠none:=by
 rcases h with⟨rfl,a,c,rfl⟩|⟨h,n,pre,o,rfl,hb⟩
 ·exact absurd rfl hl
 ·intro m hm
  simp only[ae,zA5]at hm
  subst hm
  exact dT hb
theorem jw (H:aa) (v:Value) (l:List Int) (h:ef H v l) (hl:l≠[]):Pure 158 [v] H (.int .i64 (count l)):=by
 obtain⟨a,r,rfl⟩:∃ a r,l=a::r:=by cases l with|nil=>exact absurd rfl hl|cons a r=>exact⟨a,r,rfl⟩
 obtain⟨n,off,hi,_,cR,hld⟩:=h.get (k:=0) (c:=a) rfl
 rw[show ((0:Nat):Int)=0 from rfl]at hi
 refine bJ mixed Tryz.func158 rfl Tryz.ntmps158 (zA6 rfl) fun wf hsc=>?_
 have hlt:n<H.next:=by
  cases hb:bk H n with
  |none=>have h':=hld none; rw[hb]at h'; cases h'
  |some b=>exact wf.lt hb
 simp only[hi,hlt,hld,Tryz.results158,zW,seval]
 exact Fin.cz (by simp only[count,List.headD_cons]) rfl
theorem Es (H:aa) (v:Value) (l:List Int) (h:ef H v l):Pure 159 [v] H (.int .i64 (snd l)):=by
 obtain⟨a,c,e⟩:=h.sl
 refine bJ mixed Tryz.func159 rfl Tryz.ntmps159 (zA6 rfl) fun wf hsc=>?_
 by_cases hc:1<l.length
 ·obtain⟨n,off,hi,_,cR,hld⟩:=h.get (k:=1) (c:=l[1]) (zB1 hc)
  have hlt:n<H.next:=by
   cases hb:bk H n with
   |none=>have h':=hld none; rw[hb]at h'; cases h'
   |some b=>exact wf.lt hb
  have hd:decide ((1:Int)<(l.length:Int))=true:=decide_eq_true (by omega)
  rw[show ((1:Nat):Int)=1 from rfl]at hi
  rw[e]at hi ⊢
  simp only[hi,hlt,hld,hd,Tryz.results159,zW,seval]
  exact Fin.cz (by simp only[snd,List.getD,zB1 hc,Option.getD_some]) rfl
 ·have hd:decide ((1:Int)<(l.length:Int))=false:=decide_eq_false (by omega)
  rw[e]
  simp only[hd,Tryz.results159,zW,seval]
  exact Fin.cz (by simp only[snd,List.getD,zC5 (show l.length<=1 by omega),Option.getD_none]) rfl
theorem LK (H:aa) (p:Rp) (x:Tm) (c:UInt8) (g:cd H p x) (ok:H.base<=H.next):gF 45 [jU c] H p (.int .i64 ((x.ignore c).2:Int)) (x.ignore c).1:=by
 obtain⟨b,hb⟩:=Go.Ax.bP H.next
 have hT:p.t<b:=hb▸g.lt p.t (by simp[Rp.aJ])
 have h1:=g.cell
 simp only[ba]at h1
 obtain⟨d1,hd1⟩:∃ d,decide ((c.toNat:Int)=7)=d:=⟨_,rfl⟩
 obtain⟨d2,hd2⟩:∃ d,decide ((c.toNat:Int)=92)=d:=⟨_,rfl⟩
 obtain⟨d3,hd3⟩:∃ d,decide ((x.last.toNat:Int)=27)=d:=⟨_,rfl⟩
 have e1:c=7 ↔ d1=true:=by rw[<-hd1,decide_eq_true_iff,<-UInt8.toNat_inj]; simp; omega
 have e2:c=92 ↔ d2=true:=by rw[<-hd2,decide_eq_true_iff,<-UInt8.toNat_inj]; simp; omega
 have e3:x.last=27 ↔ d3=true:=by rw[<-hd3,decide_eq_true_iff,<-UInt8.toNat_inj]; simp; omega
 refine aG mixed Tryz.func45 rfl Tryz.ntmps45 (zA6 rfl) ?_
 have key:x.ignore c=cond (d1||(d2&&d3)) (x,0) ({x with last:=c},4):=by
  simp only[Tm.ignore,e1,e2,e3]
  cases d1<;>cases d2<;>cases d3<;>rfl
 rw[key]
 cases d1<;>cases d2<;>cases d3<;>simp only[hb,hT,h1,hd1,hd2,hd3,Bool.or_false,Bool.or_true,Bool.and_false,Bool.and_true,cond_true,cond_false,Tryz.results45,zW,seval]<;>first
  |exact⟨trivial,p,Step.refl g⟩
  |exact⟨trivial,p,g.one (y:={x with last:=c}) rfl rfl rfl rfl⟩
  |exact⟨rfl,p,Step.refl g⟩
  |exact⟨rfl,p,g.one (y:={x with last:=c}) rfl rfl rfl rfl⟩
theorem jM (H:aa) (p:Rp) (x:Tm) (r c:Int) (g:cd H p x) (s:x.Sz) (ok:H.base<=H.next):gF 157 [.int .i64 r,.int .i64 c] H p (.tuple #[]) (x.cn r c):=by
 obtain⟨b,hb⟩:=Go.Ax.bP H.next
 have hT:p.t<b:=hb▸g.lt p.t (by simp[Rp.aJ])
 have h1:=g.cell
 simp only[ba]at h1
 have s1:=s.h2
 have s2:=s.w2
 have hw:IntKind.i64.wrap ((x.w:Int)-1)=(x.w:Int)-1:=aQ (by omega) (by omega)
 have hh:IntKind.i64.wrap ((x.h:Int)-1)=(x.h:Int)-1:=aQ (by omega) (by omega)
 refine aG mixed Tryz.func157 rfl Tryz.ntmps157 (zA6 rfl) ?_
 simp only[fO,seval]
 refine bf [(20,6),(20,13),(24,6),(24,13),(24,20)] [] (by kernel_rfl) (by kernel_rfl) rfl fun ops anc hA hG=>?_
 simp only[aw]at hA
 simp only[hb,hT,h1,b9,zW,seval]
 refine bx (v:=.int .i64 (x.w:Int)) p.aJ (by simp only[aW,seval]) (by kernel_rfl) (by decide) g.ne (fun K hn hg=>?_) (by simp (maxDischargeDepth:=6) only[b9]) ?_
 ·simp only[aW]
  exact gW K p x (g.of (by rw[hn]; exact zA8 _) hg) s
 simp only[hb,hT,h1,hA,hw,hh,Tryz.results157,b9,zW,seval]
 exact⟨p,g.two (y:=x.cn r c) rfl rfl rfl rfl⟩
theorem Step.merge {H H1 g:aa} {p p1:Rp} {x y:Tm} (g0:cd H p x) (s:Step (H.restrict p.aJ) p g p1 y) (m:Mod p.aJ H H1) (h1:∀ n∈p.aJ,H1.get n=g.get n) (h2:∀ n,H.next<=n->n<g.next->H1.get n=g.get n) (h3:H1.next=g.next):Step H p H1 p1 y:=by
 have hn:=aL H p.aJ
 have hnew:∀ n∈p1.aJ,n∈p.aJ\/H.next<=n:=fun n hn'=>(s.new n hn').imp id (fun h=>by rw[hn.1]at h; exact h)
 refine⟨s.at_.of (by rw[h3]; exact zA8 _) fun n hn'=>?_,m,s.same,hnew⟩
 rcases hnew n hn' with h|h
 ·exact h1 n h
 ·exact h2 n h (s.at_.lt n hn')
section
variable {N : Nat} {E : Env} {ds : List Deferred} {ops : Array Oper} {anc : List Nat} {d : Nat} {ty : TypeId} {pos : String} {after : Array Edge} {i : Nat} {fps : List Fp} {Q : ag -> aa -> Prop} {H : aa}
theorem ed {f:FuncId} {args:List Operand} {ts:Array TypeId} {v:Value} {as':List Value} {p:Rp} {x y:Tm} (g:cd H p x) (ok:H.base<=H.next) (ha:args.all (bj Tryz.prog N)=true) (hb:aF Tryz.prog f=true) (hd:d<N)
  (hargs:args.map (cm E)=.pointer (some ⟨p.t,0,none⟩)::as')
  (hm:∀ r∈fps,(anc.getD i 0).testBit r.i=true\/(r.hi<=r.lo/\(∀ n∈r.W,n∉p.aJ)/\(∀ n∈r.F,n∉p.aJ)))
  (hC:∀ G,cd G p x->G.base<=G.next->gF f as' G p v y) (h:∀ H' p1,Step H p H' p1 y->Q (bA N (cE E d v) ds) H') :
  nA Tryz.prog ops anc ⟨some d,.call ⟨.value (.func f),⟨args⟩,ts⟩,ty,pos,after,none⟩ [] i fps (bA N E ds) H Q:=by
 have hrn:=aL H p.aJ
 obtain⟨_,gg,hc,rfl,p1,st⟩:=hC (H.restrict p.aJ) (g.of (by rw[hrn.1]; exact zA8 _) fun m hm=>by rw[aU,if_pos hm]) (by rw[hrn.1,hrn.2.1]; exact zA8 _)
 refine oM (W:=p.aJ) p.aJ ok ha hb g.ne g.lt (fun _ h=>h) (v:=v) (g:=gg) (by rw[hargs]; exact hc) st.mod hm ?_
 intro H1 D m1 hF hN hx _
 rw[Gj,dG N E ds d v hd]
 exact h H1 p1 (Step.merge g st m1 hF hN hx)
end
section
variable {H H1 : aa} {p : Rp} {x : Tm}
theorem cd.Ky (g:cd H p x) {k:Nat} {q:Nat × Bool} (hq:p.rs[k]?=some q):q.1∈p.aJ/\q.1≠p.t/\q.1≠p.rb:=by
 have hm:q.1∈p.rs.map (·.1):=zB5.2 ⟨q,zB9 hq,rfl⟩
 have hnd:=zC9.1 g.nd
 have hnd2:=zC9.1 hnd.2
 refine⟨by simp only[Rp.aJ,zA7,zB2]; exact .inr (.inr (.inl (.inl hm))),?_,?_⟩
 ·intro e
  exact hnd.1 (e▸(by simp only[zA7,zB2]; exact .inr (.inl (.inl hm))))
 ·intro e
  exact hnd2.1 (e▸(by simp only[zB2]; exact .inl (.inl hm)))
theorem cd.putRow (g:cd H p x) {k:Nat} {q:Nat × Bool} {l l':List Ce} (hq:p.rs[k]?=some q) (hl:x.ah[k]?=some l) (m:Mod [q.1] H H1) (h:bk H1 q.1=some ⟨77,q.2,aN l'⟩) (hlen:l'.length=l.length):Step H p H1 p {x with ah:=x.ah.set k l'}:=by
 obtain⟨q1,q2,q3⟩:=g.Ky hq
 have hget:∀ n,n<H.next->n≠q.1->H1.get n=H.get n:=fun n hn cR=>m.get n hn (by simp only[zA5]; exact cR)
 have hk:k<x.ah.length:=by
  rcases zC2 k x.ah.length with h'|h'
  ·exact h'
  ·rw[zC5 h']at hl; cases hl
 have hw:Tm.w {x with ah:=x.ah.set k l'}=x.w:=by
  simp only[Tm.w]
  cases hg:x.ah with
  |nil=>rw[hg]at hk; simp at hk
  |cons a r =>
   cases k with
   |zero =>
    rw[hg]at hl
    simp only[zF5,Option.some.injEq]at hl
    subst hl
    simp[hlen]
   |succ k=>simp
 have hh:Tm.h {x with ah:=x.ah.set k l'}=x.h:=by simp[Tm.h]
 have hnd:=g.nd
 simp only[Rp.aJ]at hnd
 have hb0:∀ n∈p.aJ,n<H.next:=g.lt
 have hnd3:(p.rs.map (·.1)++ae p.rv++ae p.pv).Nodup:=(zC9.1 (zC9.1 hnd).2).2
 have hqm:q.1∈p.rs.map (·.1):=zB5.2 ⟨q,zB9 hq,rfl⟩
 have hrv:∀ n∈ae p.rv,n≠q.1:=by
  intro n hn e
  rw[zD3]at hnd3
  exact (zD4.1 hnd3).2.2 q.1 hqm n (by simp[hn]) e.symm
 have hpv:∀ n∈ae p.pv,n≠q.1:=by
  intro n hn e
  rw[zD3]at hnd3
  exact (zD4.1 hnd3).2.2 q.1 hqm n (by simp[hn]) e.symm
 refine⟨⟨?_,?_,?_,?_,?_,?_,g.nd,fun n hn=>m.lt (g.lt n hn)⟩,m.mono (by intro n hn; simp only[zA5]at hn; subst hn; exact q1),rfl,fun _ h=>.inl h⟩
 ·rw[bg (hget _ (hb0 _ (by simp[Rp.aJ])) q2.symm),g.cell]
  simp only[ba,hh]
 ·rw[bg (hget _ (hb0 _ (by simp[Rp.aJ])) q3.symm),g.rows,hw]
 ·rw[g.len,hh]
 ·intro i q' l2 hq' hl2
  simp only[List.getElem?_set]at hl2
  by_cases hik:k=i
  ·subst hik
   rw[hq]at hq'
   cases hq'
   rw[if_pos rfl,if_pos hk]at hl2
   cases hl2
   exact h
  ·rw[if_neg hik]at hl2
   have cR:q'.1≠q.1:=by
    intro e
    have hnd4:(p.rs.map (·.1)).Nodup:=(zD4.1 (zD4.1 hnd3).1).1
    have hi:i<p.rs.length:=by
     rcases zC2 i p.rs.length with h'|h'
     ·exact h'
     ·rw[zC5 h']at hq'; cases hq'
    have hk2:k<p.rs.length:=by
     rcases zC2 k p.rs.length with h'|h'
     ·exact h'
     ·rw[zC5 h']at hq; cases hq
    have e1:(p.rs.map (·.1))[i]'(by simpa using hi)=q'.1:=by
     rw[zB1 hi]at hq'
     simp only[Option.some.injEq]at hq'
     simp[hq']
    have e2:(p.rs.map (·.1))[k]'(by simpa using hk2)=q.1:=by
     rw[zB1 hk2]at hq
     simp only[Option.some.injEq]at hq
     simp[hq]
    have hp:=List.pairwise_iff_getElem.1 hnd4
    rcases Nat.lt_trichotomy i k with h'|h'|h'
    ·exact hp i k (by simpa using hi) (by simpa using hk2) h' (e1.trans (e.trans e2.symm))
    ·exact hik h'.symm
    ·exact hp k i (by simpa using hk2) (by simpa using hi) h' (e2.trans (e.symm.trans e1.symm))
   have hin:=(g.Ky hq').1
   rw[bg (hget _ (hb0 _ hin) cR)]
   exact g.row i q' l2 hq' hl2
 ·exact g.rest.of fun n hn=>hget n (hb0 n (by simp[Rp.aJ,hn])) (hrv n hn)
 ·exact g.par.of fun n hn=>hget n (hb0 n (by simp[Rp.aJ,hn])) (hpv n hn)
end
structure kJ (H:aa) (v:Value) (l:List Int):Prop where
 at_:ef H v l
 ne:l≠[]
 rg:∀ n∈l,0<=n/\n<=9999
 len:l.length<=100
 lt:∀ n∈ae v,n<H.next
theorem kJ.cR {H:aa} {v:Value} {l:List Int} (h:kJ H v l):∀ n∈ae v,H.get n≠none:=h.at_.ne h.ne
theorem kJ.head {H:aa} {v:Value} {l:List Int} (h:kJ H v l):0<=l.headD 0/\l.headD 0<=9999:=by
 cases l with
 |nil=>exact absurd rfl h.ne
 |cons a r=>exact h.rg a (by simp)
theorem kJ.count {H:aa} {v:Value} {l:List Int} (h:kJ H v l):1<=count l/\count l<=9999:=by
 have:=h.head
 simp only[YtpohjcacnkhnkaaGreatDoor.Tq.count]
 omega
theorem kJ.snd {H:aa} {v:Value} {l:List Int} (h:kJ H v l):0<=snd l/\snd l<=9999:=by
 simp only[YtpohjcacnkhnkaaGreatDoor.Tq.snd]
 by_cases hc:1<l.length
 ·have:=h.rg l[1] (zG7 _)
  simp only[List.getD,zB1 hc,Option.getD_some]
  exact this
 ·simp[List.getD,zC5 (show l.length<=1 by omega)]
theorem kt {x:Tm} (s:x.Sz):0<=x.inside/\x.inside<x.w:=by
 have h1:=s.w1
 have h2:=s.c1
 rw[Aj]
 omega
theorem RX (H:aa) (p:Rp) (x:Tm) (v:Value) (l:List Int) (g:cd H p x) (s:x.Sz) (ok:H.base<=H.next) (hp:kJ H v l):gF 138 [v] H p (.tuple #[]) (x.cn (x.row-count l) (x.col)):=by
 obtain⟨b,hb⟩:=Go.Ax.bP H.next
 have hT:p.t<b:=hb▸g.lt p.t (by simp[Rp.aJ])
 have h1:=g.cell
 simp only[ba]at h1
 have s1:=s.h2
 have s3:=s.r1
 have s4:=s.r2
 have s6:=hp.count
 have hw:IntKind.i64.wrap (x.row-count l)=x.row-count l:=aQ (by omega) (by omega)
 refine aG mixed Tryz.func138 rfl Tryz.ntmps138 (zA6 rfl) ?_
 simp only[fO,seval]
 refine bf [(14,5),(14,7),(14,13)] [] (by kernel_rfl) (by kernel_rfl) rfl fun ops anc hA hG=>?_
 simp only[aw]at hA
 simp only[hb,hT,h1,b9,zW,seval]
 refine bx (v:=.int .i64 (count l)) (ae v) (by simp only[aW,seval]) (by kernel_rfl) (by decide) hp.cR (fun K hn hg=>?_) (by simp (maxDischargeDepth:=6) only[b9]) ?_
 ·simp only[aW]
  exact jw K v l (hp.at_.of hg) hp.ne
 simp only[hb,hT,h1,hw,b9,zW,seval]
 refine ed (as':=[.int .i64 (x.row-count l),.int .i64 (x.col)]) g ok rfl (by kernel_rfl) (by decide) rfl (by simp only[aw,cx,hA,true_or,and_true]) (fun G gG okG=>jM G p x _ _ gG s okG) fun H1 p1 st=>?_
 rw[show H1=ext H1 [] from rfl]
 simp only[Tryz.results138,b9,lh]
 exact⟨p1,st⟩
theorem Qk (H:aa) (p:Rp) (x:Tm) (v:Value) (l:List Int) (g:cd H p x) (s:x.Sz) (ok:H.base<=H.next) (hp:kJ H v l):gF 139 [v] H p (.tuple #[]) (x.cn (x.row+count l) (x.col)):=by
 obtain⟨b,hb⟩:=Go.Ax.bP H.next
 have hT:p.t<b:=hb▸g.lt p.t (by simp[Rp.aJ])
 have h1:=g.cell
 simp only[ba]at h1
 have s1:=s.h2
 have s3:=s.r1
 have s4:=s.r2
 have s6:=hp.count
 have hw:IntKind.i64.wrap (x.row+count l)=x.row+count l:=aQ (by omega) (by omega)
 refine aG mixed Tryz.func139 rfl Tryz.ntmps139 (zA6 rfl) ?_
 simp only[fO,seval]
 refine bf [(14,5),(14,7),(14,13)] [] (by kernel_rfl) (by kernel_rfl) rfl fun ops anc hA hG=>?_
 simp only[aw]at hA
 simp only[hb,hT,h1,b9,zW,seval]
 refine bx (v:=.int .i64 (count l)) (ae v) (by simp only[aW,seval]) (by kernel_rfl) (by decide) hp.cR (fun K hn hg=>?_) (by simp (maxDischargeDepth:=6) only[b9]) ?_
 ·simp only[aW]
  exact jw K v l (hp.at_.of hg) hp.ne
 simp only[hb,hT,h1,hw,b9,zW,seval]
 refine ed (as':=[.int .i64 (x.row+count l),.int .i64 (x.col)]) g ok rfl (by kernel_rfl) (by decide) rfl (by simp only[aw,cx,hA,true_or,and_true]) (fun G gG okG=>jM G p x _ _ gG s okG) fun H1 p1 st=>?_
 rw[show H1=ext H1 [] from rfl]
 simp only[Tryz.results139,b9,lh]
 exact⟨p1,st⟩
theorem OT (H:aa) (p:Rp) (x:Tm) (v:Value) (l:List Int) (g:cd H p x) (s:x.Sz) (ok:H.base<=H.next) (hp:kJ H v l):gF 140 [v] H p (.tuple #[]) (x.cn (x.row) (x.inside+count l)):=by
 obtain⟨b,hb⟩:=Go.Ax.bP H.next
 have hT:p.t<b:=hb▸g.lt p.t (by simp[Rp.aJ])
 have h1:=g.cell
 simp only[ba]at h1
 have s2:=s.w2
 have s5:=kt s
 have s6:=hp.count
 have hw:IntKind.i64.wrap (x.inside+count l)=x.inside+count l:=aQ (by omega) (by omega)
 refine aG mixed Tryz.func140 rfl Tryz.ntmps140 (zA6 rfl) ?_
 simp only[fO,seval]
 refine bf [(11,5),(11,7),(11,9)] [] (by kernel_rfl) (by kernel_rfl) rfl fun ops anc hA hG=>?_
 simp only[aw]at hA
 simp only[hb,hT,h1,b9,zW,seval]
 refine bx (v:=.int .i64 x.inside) p.aJ (by simp only[aW,seval]) (by kernel_rfl) (by decide) g.ne (fun K hn hg=>?_) (by simp (maxDischargeDepth:=6) only[b9]) ?_
 ·simp only[aW]
  exact oI K p x (g.of (by rw[hn]; exact zA8 _) hg) s
 simp only[hb,b9,zW,seval]
 refine bx (v:=.int .i64 (count l)) (ae v) (by simp only[aW,seval]) (by kernel_rfl) (by decide) hp.cR (fun K hn hg=>?_) (by simp (maxDischargeDepth:=6) only[b9]) ?_
 ·simp only[aW]
  exact jw K v l (hp.at_.of hg) hp.ne
 simp only[hb,hw,b9,zW,seval]
 refine ed (as':=[.int .i64 (x.row),.int .i64 (x.inside+count l)]) g ok rfl (by kernel_rfl) (by decide) rfl (by simp only[aw,cx,hA,true_or,and_true]) (fun G gG okG=>jM G p x _ _ gG s okG) fun H1 p1 st=>?_
 rw[show H1=ext H1 [] from rfl]
 simp only[Tryz.results140,b9,lh]
 exact⟨p1,st⟩
theorem QA (H:aa) (p:Rp) (x:Tm) (v:Value) (l:List Int) (g:cd H p x) (s:x.Sz) (ok:H.base<=H.next) (hp:kJ H v l):gF 141 [v] H p (.tuple #[]) (x.cn (x.row) (x.inside-count l)):=by
 obtain⟨b,hb⟩:=Go.Ax.bP H.next
 have hT:p.t<b:=hb▸g.lt p.t (by simp[Rp.aJ])
 have h1:=g.cell
 simp only[ba]at h1
 have s2:=s.w2
 have s5:=kt s
 have s6:=hp.count
 have hw:IntKind.i64.wrap (x.inside-count l)=x.inside-count l:=aQ (by omega) (by omega)
 refine aG mixed Tryz.func141 rfl Tryz.ntmps141 (zA6 rfl) ?_
 simp only[fO,seval]
 refine bf [(11,5),(11,7),(11,9)] [] (by kernel_rfl) (by kernel_rfl) rfl fun ops anc hA hG=>?_
 simp only[aw]at hA
 simp only[hb,hT,h1,b9,zW,seval]
 refine bx (v:=.int .i64 x.inside) p.aJ (by simp only[aW,seval]) (by kernel_rfl) (by decide) g.ne (fun K hn hg=>?_) (by simp (maxDischargeDepth:=6) only[b9]) ?_
 ·simp only[aW]
  exact oI K p x (g.of (by rw[hn]; exact zA8 _) hg) s
 simp only[hb,b9,zW,seval]
 refine bx (v:=.int .i64 (count l)) (ae v) (by simp only[aW,seval]) (by kernel_rfl) (by decide) hp.cR (fun K hn hg=>?_) (by simp (maxDischargeDepth:=6) only[b9]) ?_
 ·simp only[aW]
  exact jw K v l (hp.at_.of hg) hp.ne
 simp only[hb,hw,b9,zW,seval]
 refine ed (as':=[.int .i64 (x.row),.int .i64 (x.inside-count l)]) g ok rfl (by kernel_rfl) (by decide) rfl (by simp only[aw,cx,hA,true_or,and_true]) (fun G gG okG=>jM G p x _ _ gG s okG) fun H1 p1 st=>?_
 rw[show H1=ext H1 [] from rfl]
 simp only[Tryz.results141,b9,lh]
 exact⟨p1,st⟩
theorem NQ (H:aa) (p:Rp) (x:Tm) (v:Value) (l:List Int) (g:cd H p x) (s:x.Sz) (ok:H.base<=H.next) (hp:kJ H v l):gF 142 [v] H p (.tuple #[]) (x.cn (x.row) (count l-1)):=by
 obtain⟨b,hb⟩:=Go.Ax.bP H.next
 have hT:p.t<b:=hb▸g.lt p.t (by simp[Rp.aJ])
 have h1:=g.cell
 simp only[ba]at h1
 have s6:=hp.count
 have hw:IntKind.i64.wrap (count l-1)=count l-1:=aQ (by omega) (by omega)
 refine aG mixed Tryz.func142 rfl Tryz.ntmps142 (zA6 rfl) ?_
 simp only[fO,seval]
 refine bf [(9,5),(9,7)] [] (by kernel_rfl) (by kernel_rfl) rfl fun ops anc hA hG=>?_
 simp only[aw]at hA
 simp only[hb,hT,h1,b9,zW,seval]
 refine bx (v:=.int .i64 (count l)) (ae v) (by simp only[aW,seval]) (by kernel_rfl) (by decide) hp.cR (fun K hn hg=>?_) (by simp (maxDischargeDepth:=6) only[b9]) ?_
 ·simp only[aW]
  exact jw K v l (hp.at_.of hg) hp.ne
 simp only[hb,hw,b9,zW,seval]
 refine ed (as':=[.int .i64 (x.row),.int .i64 (count l-1)]) g ok rfl (by kernel_rfl) (by decide) rfl (by simp only[aw,cx,hA,true_or,and_true]) (fun G gG okG=>jM G p x _ _ gG s okG) fun H1 p1 st=>?_
 rw[show H1=ext H1 [] from rfl]
 simp only[Tryz.results142,b9,lh]
 exact⟨p1,st⟩
theorem NW (H:aa) (p:Rp) (x:Tm) (v:Value) (l:List Int) (g:cd H p x) (s:x.Sz) (ok:H.base<=H.next) (hp:kJ H v l):gF 143 [v] H p (.tuple #[]) (x.cn (count l-1) (x.col)):=by
 obtain⟨b,hb⟩:=Go.Ax.bP H.next
 have hT:p.t<b:=hb▸g.lt p.t (by simp[Rp.aJ])
 have h1:=g.cell
 simp only[ba]at h1
 have s6:=hp.count
 have hw:IntKind.i64.wrap (count l-1)=count l-1:=aQ (by omega) (by omega)
 refine aG mixed Tryz.func143 rfl Tryz.ntmps143 (zA6 rfl) ?_
 simp only[fO,seval]
 refine bf [(9,2),(9,8)] [] (by kernel_rfl) (by kernel_rfl) rfl fun ops anc hA hG=>?_
 simp only[aw]at hA
 simp only[b9,aW,seval]
 refine bx (v:=.int .i64 (count l)) (ae v) (by simp only[aW,seval]) (by kernel_rfl) (by decide) hp.cR (fun K hn hg=>?_) (by simp (maxDischargeDepth:=6) only[b9]) ?_
 ·simp only[aW]
  exact jw K v l (hp.at_.of hg) hp.ne
 simp only[hb,hT,h1,hw,b9,zW,seval]
 refine ed (as':=[.int .i64 (count l-1),.int .i64 (x.col)]) g ok rfl (by kernel_rfl) (by decide) rfl (by simp only[aw,cx,hA,true_or,and_true]) (fun G gG okG=>jM G p x _ _ gG s okG) fun H1 p1 st=>?_
 rw[show H1=ext H1 [] from rfl]
 simp only[Tryz.results143,b9,lh]
 exact⟨p1,st⟩
theorem CZ (H:aa) (p:Rp) (x:Tm) (v:Value) (l:List Int) (g:cd H p x) (s:x.Sz) (ok:H.base<=H.next) (hp:kJ H v l):gF 144 [v] H p (.tuple #[]) (x.cn (count l-1) (max 1 (snd l)-1)):=by
 have s6:=hp.count
 have s7:=hp.snd
 have hw:IntKind.i64.wrap (count l-1)=count l-1:=aQ (by omega) (by omega)
 have hw2:IntKind.i64.wrap (max 1 (snd l)-1)=max 1 (snd l)-1:=aQ (by omega) (by omega)
 refine aG mixed Tryz.func144 rfl Tryz.ntmps144 (zA6 rfl) ?_
 simp only[zW,seval]
 refine (jw (ext H []) v l hp.at_ hp.ne).to ?_
 simp only[hw,zW,seval]
 refine (Es (ext H []) v l hp.at_).to ?_
 simp only[hw2,zW,seval]
 refine (jM (ext H []) p x _ _ g s ok).mono ?_
 rintro _ H1 ⟨rfl,p1,st⟩
 rw[show H1=ext H1 [] from rfl]
 simp only[Tryz.results144,lh,seval]
 exact⟨trivial,p1,st⟩
def kN (l:List Ce) (a i:Nat):List Ce:=l.take a++List.replicate (i-a) sp++l.drop i
theorem zS (l:List Ce) (a i:Nat) (h:a<=i) (h2:i<=l.length):(kN l a i).length=l.length:=by
 simp only[kN,zB4,List.length_take,zE4,zD8]; omega
theorem Ez (l:List Ce) (a:Nat):kN l a a=l:=by simp[kN]
theorem Jv (l:List Ce) (a i:Nat) (h:a<=i) (h2:i<l.length):(kN l a i).set i sp=kN l a (i+1):=by
 have h3:(l.take a++List.replicate (i-a) sp).length=i:=by simp; omega
 rw[kN,List.set_append_right _ _ (by omega),h3,zG5,List.drop_eq_getElem_cons h2,List.set_cons_zero,kN,show i+1-a=i-a+1 by omega,List.replicate_succ']
 simp
def lH (l:List Ce) (a b:Nat):List Ce:=if a<b/\(l.getD a sp).rune=-1 then l.set (a-1) sp else l
def j6 (l:List Ce) (a b:Nat):List Ce:=if a<b/\b<l.length/\(l.getD b sp).rune=-1 then l.set b sp else l
theorem pU (l:List Ce) (a b:Nat):(lH l a b).length=l.length:=by unfold lH; split<;>simp
theorem pM (l:List Ce) (a b:Nat):(j6 l a b).length=l.length:=by unfold j6; split<;>simp
theorem sZ (l:List Ce) (a b:Nat) (h:a<=b):iR l a b=kN (j6 (lH l a b) a b) a b:=by
 simp only[iR,kN,lH,j6]
 rw[Nat.max_eq_right h]
 rfl
theorem qR (l:List Ce) (a b:Nat) (h:a<=b) (h2:b<=l.length):(iR l a b).length=l.length:=by
 rw[sZ l a b h,zS _ _ _ h (by rw[pM,pU]; exact h2),pM,pU]
theorem jL {c:Ce} {N k:Nat} {e:TypeId} {o:Bool} {l:List Ce} (h:k<l.length):vw Tryz.prog 77 N (k*6) c.val (some ⟨e,o,aN l⟩)=some ⟨e,o,aN (l.set k c)⟩:=by
 have hv:c.val.cells.toList=c.cells:=rfl
 rw[l5 (by rw[hv]; exact Rt) (by rw[hv,bC]; simp only[Ce.cells,zB0,zB6]; omega) (by rw[hv]; rfl) (by rw[hv]; rfl),hv,jD l k c h]
theorem Gf {N k:Nat} {e:TypeId} {o:Bool} {l:List Ce} (h:k<l.length):vw Tryz.prog 77 N (k*6) (.agg ⟨[.int .i64 32,.int .i64 0,.int .i64 0,.bool false,.bool false,.bool false]⟩) (some ⟨e,o,aN l⟩)=some ⟨e,o,aN (l.set k sp)⟩:=jL (c:=sp) h
theorem vL {X:aa} {n k:Nat} {e:TypeId} {o:Bool} {l:List Ce} {c:Ce} (hX:bk X n=some ⟨e,o,aN l⟩) (h:k<l.length):bk (ext (uw X n (k*6) c.cells) []) n=some ⟨e,o,aN (l.set k c)⟩:=by
 rw[ext_nil,bR,hX,zA9,vJ,jD l k c h]
theorem yl (x:Tm) (k a b:Nat):x.blank k a b={x with ah:=x.ah.set k (iR (x.ah.getD k []) a b)}:=rfl
theorem B3 (H:aa) (p:Rp) (x:Tm) (k a b:Nat) (l:List Ce) (g:cd H p x) (s:x.Sz) (ok:H.base<=H.next) (hl:x.ah[k]?=some l) (hab:a<=b) (hbw:b<=x.w) (hr:a<b->(l.getD a sp).rune=-1->0<a) :
  gF 137 [.int .i64 (k:Int),.int .i64 (a:Int),.int .i64 (b:Int)] H p (.tuple #[]) (x.blank k a b):=by
 obtain⟨n,hn⟩:=Go.Ax.bP H.next
 have hT:p.t<n:=hn▸g.lt p.t (by simp[Rp.aJ])
 have hR:p.rb<n:=hn▸g.lt p.rb (by simp[Rp.aJ])
 have h1:=g.cell
 simp only[ba]at h1
 have h2:=g.rows
 obtain⟨q,hq,hqm,hqb⟩:=g.rowOf hl
 have hQ:q.1<n:=hn▸g.lt q.1 hqm
 have hlw:l.length=x.w:=s.ws l (zB9 hl)
 have s1:=s.h2
 have s2:=s.w2
 have hk:k<x.h:=by
  rcases zC2 k x.ah.length with h'|h'
  ·exact h'
  ·rw[zC5 h']at hl; cases hl
 have hqr:(p.rs.map (bB x.w))[k]?=some (bB x.w q):=by rw[zF0,hq]; rfl
 have hi:=sG (len:=x.h) (cap:=x.h) (n:=p.rb) (s:=none) (i:=(k:Int)) (k:=k) rfl hk
 obtain⟨d1,hd1⟩:∃ d,decide ((a:Int)<(b:Int))=d:=⟨_,rfl⟩
 have e1:a<b ↔ d1=true:=by rw[<-hd1,decide_eq_true_iff]; omega
 refine aG mixed Tryz.func137 rfl Tryz.ntmps137 (zA6 rfl) ?_
 refine kH (fun E' H'=>Mod [q.1] H H'/\bk H' q.1=some ⟨77,q.2,aN l⟩/\E' 0=.pointer (some ⟨p.t,0,none⟩)/\E' 1=.int .i64 (k:Int)/\E' 2=.int .i64 (a:Int)/\E' 3=.int .i64 (b:Int)/\E' 8=bB x.w q) ?_ ?_
 ·simp only[hn,hT,hR,h1,h2,hi,hqr,bB,zW,seval]
  refine aj ⟨Mod.refl,hqb,?_,?_,?_,?_,?_⟩<;>simp only[aW,seval]
 rintro E X ⟨mX,hX,g0,g1,g2,g3,g8⟩
 refine kH (fun E' H'=>Mod [q.1] H H'/\bk H' q.1=some ⟨77,q.2,aN (lH l a b)⟩/\E' 0=.pointer (some ⟨p.t,0,none⟩)/\E' 1=.int .i64 (k:Int)/\E' 2=.int .i64 (a:Int)/\E' 3=.int .i64 (b:Int)/\E' 8=bB x.w q) ?_ ?_
 ·obtain⟨m,hm⟩:=Go.Ax.bP X.next
  have hQm:q.1<m:=hm▸mX.lt (hn▸hQ)
  rw[show X=ext X [] from rfl]
  cases d1 with
  |false =>
   have hA:lH l a b=l:=by unfold lH; rw[if_neg (fun h=>by have:=e1.1 h.1; simp at this)]
   simp only[g2,g3,hd1,bB,zW,seval]
   refine aj ⟨mX,by rw[hA]; exact hX,?_,?_,?_,?_,?_⟩<;>simp only[g0,g1,g2,g3,g8,bB,aW,seval]
  |true =>
   have hlt:a<b:=e1.2 rfl
   have hal:a<l.length:=by omega
   obtain⟨c,hc⟩:∃ c,l[a]?=some c:=⟨_,zB1 hal⟩
   have hcr:l.getD a sp=c:=by rw[List.getD,hc]; rfl
   have hia:=iG (len:=x.w) (cap:=x.w) (n:=q.1) (s:=if q.2=true then none else some 0) (i:=(a:Int)) (k:=a) rfl (by omega)
   have hld:=AU hc
   obtain⟨d2,hd2⟩:∃ d,decide (c.rune=-1)=d:=⟨_,rfl⟩
   have e2:c.rune=-1 ↔ d2=true:=by rw[<-hd2,decide_eq_true_iff]
   cases d2 with
   |false =>
    have hA:lH l a b=l:=by unfold lH; rw[if_neg (fun h=>by have:=e2.1 (hcr▸h.2); simp at this)]
    simp only[g2,g3,g8,hd1,hd2,hm,hQm,hX,hia,hld,bB,zW,seval]
    refine aj ⟨mX,by rw[hA]; exact hX,?_,?_,?_,?_,?_⟩<;>simp only[g0,g1,g2,g3,g8,bB,aW,seval]
   |true =>
    have hpos:0<a:=hr hlt (by rw[hcr]; exact e2.2 rfl)
    have hA:lH l a b=l.set (a-1) sp:=by unfold lH; rw[if_pos ⟨hlt,by rw[hcr]; exact e2.2 rfl⟩]
    have hw1:IntKind.i64.wrap ((a:Int)-1)=(a:Int)-1:=aQ (by omega) (by omega)
    have hia2:=iG (len:=x.w) (cap:=x.w) (n:=q.1) (s:=if q.2=true then none else some 0) (i:=(a:Int)-1) (k:=a-1) (by omega) (by omega)
    have hst:∀ N,vw Tryz.prog 77 N ((a-1)*6) (.agg ⟨[.int .i64 32,.int .i64 0,.int .i64 0,.bool false,.bool false,.bool false]⟩) (some ⟨77,q.2,aN l⟩)=some ⟨77,q.2,aN (l.set (a-1) sp)⟩:=fun N=>Gf (by omega)
    simp only[g2,g3,g8,hd1,hd2,hm,hQm,hX,hia,hia2,hld,hw1,hst,bB,zW,seval]
    refine aj ⟨mX.trans (Mod.uw (by simp)),by rw[hA]; exact vL (c:=sp) hX (by omega),?_,?_,?_,?_,?_⟩<;>simp only[g0,g1,g2,g3,g8,bB,aW,seval]
 generalize hl2:lH l a b=l2
 have hl2w:l2.length=x.w:=by rw[<-hl2,pU,hlw]
 clear hX mX g0 g1 g2 g3 g8 X E
 rintro E X ⟨mX,hX,g0,g1,g2,g3,g8⟩
 refine kH (fun E' H'=>Mod [q.1] H H'/\bk H' q.1=some ⟨77,q.2,aN (j6 l2 a b)⟩/\E' 0=.pointer (some ⟨p.t,0,none⟩)/\E' 1=.int .i64 (k:Int)/\E' 2=.int .i64 (a:Int)/\E' 3=.int .i64 (b:Int)/\E' 8=bB x.w q) ?_ ?_
 ·obtain⟨m,hm⟩:=Go.Ax.bP X.next
  have hQm:q.1<m:=hm▸mX.lt (hn▸hQ)
  rw[show X=ext X [] from rfl]
  cases d1 with
  |false =>
   have hA:j6 l2 a b=l2:=by unfold j6; rw[if_neg (fun h=>by have:=e1.1 h.1; simp at this)]
   simp only[g2,g3,hd1,bB,zW,seval]
   refine aj ⟨mX,by rw[hA]; exact hX,?_,?_,?_,?_,?_⟩<;>simp only[g0,g1,g2,g3,g8,bB,aW,seval]
  |true =>
   have hlt:a<b:=e1.2 rfl
   by_cases hbl:b<x.w
   ·obtain⟨c,hc⟩:∃ c,l2[b]?=some c:=⟨_,zB1 (by omega)⟩
    have hcr:l2.getD b sp=c:=by rw[List.getD,hc]; rfl
    have hd3:decide ((b:Int)<(x.w:Int))=true:=decide_eq_true (by omega)
    have hia:=iG (len:=x.w) (cap:=x.w) (n:=q.1) (s:=if q.2=true then none else some 0) (i:=(b:Int)) (k:=b) rfl (by omega)
    have hld:=AU hc
    obtain⟨d2,hd2⟩:∃ d,decide (c.rune=-1)=d:=⟨_,rfl⟩
    have e2:c.rune=-1 ↔ d2=true:=by rw[<-hd2,decide_eq_true_iff]
    cases d2 with
    |false =>
     have hA:j6 l2 a b=l2:=by unfold j6; rw[if_neg (fun h=>by have:=e2.1 (hcr▸h.2.2); simp at this)]
     simp only[g2,g3,g8,hd1,hd2,hd3,hm,hQm,hX,hia,hld,bB,zW,seval]
     refine aj ⟨mX,by rw[hA]; exact hX,?_,?_,?_,?_,?_⟩<;>simp only[g0,g1,g2,g3,g8,bB,aW,seval]
    |true =>
     have hA:j6 l2 a b=l2.set b sp:=by unfold j6; rw[if_pos ⟨hlt,by omega,by rw[hcr]; exact e2.2 rfl⟩]
     have hst:∀ N,vw Tryz.prog 77 N (b*6) (.agg ⟨[.int .i64 32,.int .i64 0,.int .i64 0,.bool false,.bool false,.bool false]⟩) (some ⟨77,q.2,aN l2⟩)=some ⟨77,q.2,aN (l2.set b sp)⟩:=fun N=>Gf (by omega)
     simp only[g2,g3,g8,hd1,hd2,hd3,hm,hQm,hX,hia,hld,hst,bB,zW,seval]
     refine aj ⟨mX.trans (Mod.uw (by simp)),by rw[hA]; exact vL (c:=sp) hX (by omega),?_,?_,?_,?_,?_⟩<;>simp only[g0,g1,g2,g3,g8,bB,aW,seval]
   ·have hA:j6 l2 a b=l2:=by unfold j6; rw[if_neg (fun h=>by have:=h.2.1; omega)]
    have hd3:decide ((b:Int)<(x.w:Int))=false:=decide_eq_false (by omega)
    simp only[g2,g3,g8,hd1,hd3,bB,zW,seval]
    refine aj ⟨mX,by rw[hA]; exact hX,?_,?_,?_,?_,?_⟩<;>simp only[g0,g1,g2,g3,g8,bB,aW,seval]
 generalize hl3:j6 l2 a b=l3
 have hl3w:l3.length=x.w:=by rw[<-hl3,pM,hl2w]
 clear hX mX g0 g1 g2 g3 g8 X E
 rintro E X ⟨mX,hX,g0,g1,g2,g3,g8⟩
 simp only[g2,zW,seval]
 refine eT fun E hE=>?_
 have f2:E 2=.int .i64 (a:Int):=by rw[hE]; simp only[g2,aW,seval]
 have f3:E 3=.int .i64 (b:Int):=by rw[hE]; simp only[g3,aW,seval]
 have f8:E 8=bB x.w q:=by rw[hE]; simp only[g8,aW,seval]
 have f9:E 9=.int .i64 (a:Int):=by rw[hE]; rfl
 clear hE g0 g1 g2 g3 g8
 refine cU (fun (i:Nat) E' H'=>Mod [q.1] H H'/\a<=i/\i<=b/\bk H' q.1=some ⟨77,q.2,aN (kN l3 a i)⟩/\E' 2=.int .i64 (a:Int)/\E' 3=.int .i64 (b:Int)/\E' 8=bB x.w q/\E' 9=.int .i64 (i:Int)) (fun i=>b-i) a
  ⟨mX,zA8 _,hab,by rw[Ez]; exact hX,f2,f3,f8,f9⟩ ?_
 clear hX mX f2 f3 f8 f9 X E
 rintro i E X ⟨mX,i1,i2,hX,f2,f3,f8,f9⟩
 obtain⟨m,hm⟩:=Go.Ax.bP X.next
 have hQm:q.1<m:=hm▸mX.lt (hn▸hQ)
 rw[show X=ext X [] from rfl]
 by_cases hib:i=b
 ·have hd:decide ((i:Int)<(b:Int))=false:=decide_eq_false (by omega)
  simp only[f3,f9,hd,Tryz.results137,zW,seval]
  refine⟨trivial,p,?_⟩
  have:=g.putRow (H1:=ext X []) hq hl mX (l':=iR l a b) (by rw[sZ l a b hab,hl2,hl3,<-hib]; exact hX) (qR l a b hab (by omega))
  rw[yl,List.getD,hl]
  exact this
 ·have hd:decide ((i:Int)<(b:Int))=true:=decide_eq_true (by omega)
  have hil:i<l3.length:=by omega
  have hfl:=zS l3 a i i1 (by omega)
  have hia:=iG (len:=x.w) (cap:=x.w) (n:=q.1) (s:=if q.2=true then none else some 0) (i:=(i:Int)) (k:=i) rfl (by omega)
  have hst:∀ N,vw Tryz.prog 77 N (i*6) (.agg ⟨[.int .i64 32,.int .i64 0,.int .i64 0,.bool false,.bool false,.bool false]⟩) (some ⟨77,q.2,aN (kN l3 a i)⟩)=some ⟨77,q.2,aN ((kN l3 a i).set i sp)⟩:=fun N=>Gf (by omega)
  simp only[f3,f8,f9,hd,hm,hQm,hX,hia,hst,bO (show i<1000000 by omega),bB,zW,seval]
  refine aM ⟨i+1,by omega,mX.trans (Mod.uw (by simp)),by omega,by omega,by rw[<-Jv l3 a i i1 hil]; exact vL (c:=sp) hX (by omega),?_,?_,?_,?_⟩<;>simp only[f2,f3,f8,bB,aW,seval]
theorem E3 (l:List Ce) (k:Nat) (c:Ce) (hc:c.rune≠-1\/k≠0) (h:(l.getD 0 sp).rune≠-1):((l.set k c).getD 0 sp).rune≠-1:=by
 cases l with
 |nil=>simpa using h
 |cons a r =>
  cases k with
  |zero =>
   rcases hc with hc|hc
   ·simpa using hc
   ·exact absurd rfl hc
  |succ k=>simpa using h
theorem rQ:sp.rune≠-1:=by decide
theorem KI (l:List Ce) (a b:Nat) (h:(l.getD 0 sp).rune≠-1):((lH l a b).getD 0 sp).rune≠-1:=by
 unfold lH
 split
 ·exact E3 l _ _ (.inl rQ) h
 ·exact h
theorem MC (l:List Ce) (a b:Nat) (h:(l.getD 0 sp).rune≠-1):((j6 l a b).getD 0 sp).rune≠-1:=by
 unfold j6
 split
 ·exact E3 l _ _ (.inl rQ) h
 ·exact h
theorem LH (l:List Ce) (a b:Nat) (h1:a<=b) (h2:b<=l.length) (h:(l.getD 0 sp).rune≠-1):((kN l a b).getD 0 sp).rune≠-1:=by
 unfold kN
 cases a with
 |zero =>
  cases b with
  |zero=>simpa using h
  |succ b=>simp[List.replicate_succ,rQ]
 |succ a =>
  cases l with
  |nil=>simp at h2; omega
  |cons c r=>simpa using h
theorem Je (l:List Ce) (a b:Nat) (h1:a<=b) (h2:b<=l.length) (h:(l.getD 0 sp).rune≠-1):((iR l a b).getD 0 sp).rune≠-1:=by
 rw[sZ l a b h1]
 exact LH _ a b h1 (by rw[pM,pU]; exact h2) (MC _ a b (KI _ a b h))
def Tm.setRow (x:Tm) (k:Nat) (l:List Ce):Tm:={x with ah:=x.ah.set k l}
theorem yV (x:Tm) (k:Nat) (l:List Ce):(x.setRow k l).h=x.h:=by simp[Tm.setRow,Tm.h]
theorem wR {x:Tm} (s:x.Sz) (k:Nat) (l:List Ce) (h:l.length=x.w):(x.setRow k l).w=x.w:=by
 have h1:=s.h1
 simp only[Tm.setRow,Tm.w,Tm.h]at *
 cases hg:x.ah with
 |nil=>rw[hg]at h1; simp at h1
 |cons a r =>
  rw[hg]at h
  cases k with
  |zero=>simpa using h
  |succ k=>simp
theorem Tm.Sz.setRow {x:Tm} (s:x.Sz) {k:Nat} {l:List Ce} (h:l.length=x.w) (hd:(l.getD 0 sp).rune≠-1):(x.setRow k l).Sz:=by
 have e1:=yV x k l
 have e2:=wR s k l h
 have hm:∀ r∈(x.setRow k l).ah,r=l\/r∈x.ah:=fun r hr=>by
  have:=List.mem_or_eq_of_mem_set hr
  exact this.symm
 exact⟨by rw[e1]; exact s.h1,by rw[e1]; exact s.h2,by rw[e2]; exact s.w1,by rw[e2]; exact s.w2,fun r hr=>by
   rw[e2]
   rcases hm r hr with rfl|h'
   ·exact h
   ·exact s.ws r h',s.r1,by rw[e1]; exact s.r2,s.c1,by rw[e2]; exact s.c2,s.sr1,by rw[e1]; exact s.sr2,s.sc1,by rw[e2]; exact s.sc2,s.t1,s.t2,by rw[e1]; exact s.t3,s.md,fun r hr=>by
   rcases hm r hr with rfl|h'
   ·exact hd
   ·exact s.hd r h'⟩
theorem Tm.Sz.rowAt {x:Tm} (s:x.Sz) {k:Nat} (hk:k<x.h):∃ l,x.ah[k]?=some l/\x.ah.getD k []=l/\l.length=x.w/\(l.getD 0 sp).rune≠-1:=by
 have hlt:k<x.ah.length:=hk
 refine⟨x.ah[k],zB1 hlt,by simp[List.getD,zB1 hlt],s.ws _ (zG7 _),s.hd _ (zG7 _)⟩
theorem Tm.Sz.blank {x:Tm} (s:x.Sz) {k a b:Nat} (hk:k<x.h) (h1:a<=b) (h2:b<=x.w):(x.blank k a b).Sz:=by
 obtain⟨l,_,e,hl,hd⟩:=s.rowAt hk
 rw[yl,e]
 exact s.setRow (by rw[qR l a b h1 (by omega),hl]) (Je l a b h1 (by omega) hd)
theorem gP {x:Tm} (s:x.Sz) {k a b:Nat} (hk:k<x.h) (h1:a<=b) (h2:b<=x.w):(x.blank k a b).h=x.h/\(x.blank k a b).w=x.w:=by
 obtain⟨l,_,e,hl,hd⟩:=s.rowAt hk
 rw[yl,e]
 exact⟨yV x k _,wR s k _ (by rw[qR l a b h1 (by omega),hl])⟩
theorem Tm.Sz.move {x:Tm} (s:x.Sz) (r c:Int) (r1:0<=r) (r2:r<x.h) (c1:0<=c) (c2:c<=x.w):Tm.Sz {x with row:=r,col:=c} :=
 ⟨s.h1,s.h2,s.w1,s.w2,s.ws,r1,r2,c1,c2,s.sr1,s.sr2,s.sc1,s.sc2,s.t1,s.t2,s.t3,s.md,s.hd⟩
theorem Tm.Sz.cn {x:Tm} (s:x.Sz) (r c:Int):(x.cn r c).Sz:=by
 have h1:=s.h1
 have w1:=s.w1
 refine s.move _ _ ?_ ?_ ?_ ?_<;>simp only[Tm.bS,Tm.width,Tm.h,Tm.w]at*<;> omega
theorem si {H:aa} {p:Rp} {x:Tm} {k a b:Nat} (g:cd H p x) (s:x.Sz) (ok:H.base<=H.next) (hk:k<x.h) (hab:a<=b) (hbw:b<=x.w):gF 137 [.int .i64 (k:Int),.int .i64 (a:Int),.int .i64 (b:Int)] H p (.tuple #[]) (x.blank k a b):=by
 obtain⟨l,e1,_,_,hd⟩:=s.rowAt hk
 refine B3 H p x k a b l g s ok e1 hab hbw fun _ h=>?_
 cases a with
 |zero=>exact absurd h hd
 |succ a=>omega
end Go.Proofs.YtpohjcacnkhnkaaGreatDoor.Tq
namespace Go.Proofs.YtpohjcacnkhnkaaGreatDoor
open Go.Ax
structure Ce where
 rune:Int
 fore:Int
 back:Int
 bold:Bool
 under:Bool
 inv:Bool
deriving DecidableEq
def Ce.cells (c:Ce):List Value:=[.int .i64 c.rune,.int .i64 c.fore,.int .i64 c.back,.bool c.bold,.bool c.under,.bool c.inv]
def Ce.val (c:Ce):Value:=.agg #[.int .i64 c.rune,.int .i64 c.fore,.int .i64 c.back,.bool c.bold,.bool c.under,.bool c.inv]
def aN (l:List Ce):List Value:=l.flatMap Ce.cells
theorem bU (c:Ce) (l:List Ce):aN (c::l)=c.cells++aN l:=rfl
theorem gh (l m:List Ce):aN (l++m)=aN l++aN m:=by simp[aN]
theorem bC (l:List Ce):(aN l).length=l.length*6:=by
 induction l with
 |nil=>rfl
 |cons c l ih=>rw[bU,zB4,ih]; simp[Ce.cells]; omega
theorem r9 (l:List Ce):(aN l).all one=true:=by
 induction l with
 |nil=>rfl
 |cons c l ih=>rw[bU,List.all_append,ih]; rfl
theorem jv (l:List Ce) (n:Nat):aO n (aN l)=true:=by
 induction l with
 |nil=>rfl
 |cons c l ih =>
  rw[bU]
  simp only[Ce.cells,zE7,zC1,aO,aS,ih,zE3]
def eQ (H:aa) (v:Value) (l:List Ce):Prop :=
 (l=[]/\∃ a c,v=.slice a 0 c)\/(l≠[]/\∃ n off s c e o L,v=.slice (some ⟨n,off,s⟩) l.length c/\rk H n=some ⟨e,o,L⟩/\n<H.next/\off+l.length*6<=L.length/\(L.drop off).take (l.length*6)=aN l)
theorem eQ.sl {H:aa} {v:Value} {l:List Ce} (h:eQ H v l):∃ a c,v=.slice a l.length c:=by
 rcases h with⟨rfl,a,c,rfl⟩|⟨_,n,off,s,c,e,o,L,rfl,_⟩
 ·exact⟨a,c,rfl⟩
 ·exact⟨_,_,rfl⟩
theorem eQ.of {H G:aa} {v:Value} {l:List Ce} (h:eQ H v l) (hn:H.next<=G.next) (hg:∀ n∈ae v,G.get n=H.get n):eQ G v l:=by
 rcases h with⟨rfl,a,c,rfl⟩|⟨hl,n,off,s,c,e,o,L,rfl,hb,hlt,hle,ht⟩
 ·exact .inl ⟨rfl,a,c,rfl⟩
 ·exact .inr ⟨hl,n,off,s,c,e,o,L,rfl,(nf (hg n (by simp[ae]))).trans hb,by omega,hle,ht⟩
theorem xY:∀ (l:List Ce) (k:Nat) (c:Ce) (L:List Value) (off:Nat),l[k]?=some c->(L.drop off).take (l.length*6)=aN l->(L.drop (off+k*6)).take 6=c.cells:=by
 intro l k c L off hk h
 have hlt:k<l.length:=by
  rcases zC2 k l.length with h'|h'
  ·exact h'
  ·rw[zC5 h']at hk; cases hk
 have key:∀ (l:List Ce) (k:Nat),l[k]?=some c->((aN l).drop (k*6)).take 6=c.cells:=by
  intro l
  induction l with
  |nil=>intro k h; simp at h
  |cons q ps ih =>
   intro k h
   cases k with
   |zero =>
    simp only[zF5,Option.some.injEq]at h
    subst h
    simp[aN,Ce.cells]
   |succ k =>
    have ih:=ih k (by simpa using h)
    rw[bU,show (k+1)*6=q.cells.length+k*6 by simp[Ce.cells]; omega,List.drop_append,zF1 (by omega),zC1,zF8]
    exact ih
 have h2:=key l k hk
 rw[<-h,List.drop_take,zG3,List.take_take,Nat.min_eq_left (by omega)]at h2
 exact h2
theorem xV {l:List Ce} {k:Nat} {c:Ce} {e:TypeId} {o:Bool} {L:List Value} {off:Nat} (hk:l[k]?=some c) (hle:off+l.length*6<=L.length) (h:(L.drop off).take (l.length*6)=aN l):oL Tryz.prog 77 (off+k*6) (some ⟨e,o,L⟩)=some c.val:=by
 have hlt:k<l.length:=by
  rcases zC2 k l.length with h'|h'
  ·exact h'
  ·rw[zC5 h']at hk; cases hk
 have h1:eX Tryz.prog 77=some true:=by kernel_rfl
 have h2:bh Tryz.prog 77=some 6:=by kernel_rfl
 simp only[oL,h1,h2,zA3,xY l k c L off hk h]
 rw[if_pos (by omega)]
 rfl
theorem iG {len cap n off:Nat} {s:Option Nat} {i:Int} {k:Nat} (hi:i=k) (hk:k<len):aP Tryz.prog 56 (.slice (some ⟨n,off,s⟩) len cap) (.int .i64 i)=some (.pointer (some ⟨n,off+k*6,none⟩)):=by
 subst hi
 rw[gl (e:=77) (sz:=6) (by kernel_rfl) (by kernel_rfl) (by omega) (by omega)]
 simp
theorem KR (r s:Ce):ES r.cells s.cells=decide (r=s):=by
 obtain⟨a,b,c,d,e,f⟩:=r
 obtain⟨a',b',c',d',e',f'⟩:=s
 simp only[Ce.cells,ES,O5,Bool.and_true,Ce.mk.injEq]
 by_cases h1:a=a'<;>by_cases h2:b=b'<;>by_cases h3:c=c'<;>by_cases h4:d=d'<;>by_cases h5:e=e'<;>by_cases h6:f=f'<;>simp[h1,h2,h3,h4,h5,h6]
theorem Rx:flat Tryz.prog 10000 77=some [3,3,3,4,4,4]:=by kernel_rfl
theorem QY:eX Tryz.prog 77=some true:=by kernel_rfl
theorem Q3:Tryz.prog.eqGuardType Tryz.prog.depth 77=false:=by kernel_rfl
theorem vI (r:Ce):fits Tryz.prog [3,3,3,4,4,4] r.cells=true:=by
 have h3:∀ n,qI Tryz.prog 3 (.int .i64 n)=true:=fun n=>by kernel_rfl
 have h4:∀ n,qI Tryz.prog 4 (.bool n)=true:=fun n=>by kernel_rfl
 simp only[Ce.cells,fits,h3,h4,zE3]
theorem DV (H:aa) (v1 v2:Value) (l1 l2:List Ce) (h1:eQ H v1 l1) (h2:eQ H v2 l2) (hl:l1.length<1000000):Pure 31 [v1,v2] H (.bool (decide (l1=l2))):=by
 obtain⟨b,hb⟩:=Go.Ax.bP H.next
 refine bJ mixed Tryz.func31 rfl Tryz.ntmps31 (zA6 rfl) fun wf hsc=>?_
 obtain⟨a1,c1,e1⟩:=h1.sl
 obtain⟨a2,c2,e2⟩:=h2.sl
 rw[e1,e2]
 simp only[zW,seval]
 rw[<-e1,<-e2]
 refine eT fun E hE=>?_
 have g0:E 0=v1:=by rw[hE]; rfl
 have g1:E 1=v2:=by rw[hE]; rfl
 have g5:E 5=.bool (decide ((l1.length:Int)=(l2.length:Int))):=by rw[hE]; rfl
 have g6:E 6=.int .i64 0:=by rw[hE]; rfl
 clear hE
 have hfin:∀ s:Bool,(s=true->l1=l2)->(s=false->l1≠l2)->s=decide (l1=l2):=fun s h1 h2=>by
  cases s
  ·rw[decide_eq_false (h2 rfl)]
  ·rw[decide_eq_true (h1 rfl)]
 refine bE (fun E' H'=>H'=ext H []/\E' 5=.bool (decide (l1=l2))) ?_ ?_
 ·refine cU (fun (k:Nat × Bool) E' H'=>H'=ext H []/\E' 0=v1/\E' 1=v2/\E' 5=.bool k.2/\E' 6=.int .i64 (k.1:Int)/\k.1<=l1.length/\(k.2=true->l1.length=l2.length/\l1.take k.1=l2.take k.1)/\(k.2=false->l1≠l2)) (fun k=>l1.length-k.1) (0,decide ((l1.length:Int)=(l2.length:Int)))
   ⟨rfl,g0,g1,g5,g6,zB7 _,fun h=>⟨by have:=of_decide_eq_true h; omega,rfl⟩,fun h e=>by rw[e]at h; simp at h⟩ ?_
  clear g0 g1 g5 g6
  rintro⟨k,s⟩ E H' ⟨hH,g0,g1,g5,g6,hk,hs1,hs2⟩
  simp only at g5 g6 hk hs1 hs2
  rw[hH]
  cases s with
  |false =>
   simp only[g5,zW,seval]
   refine aj ⟨rfl,?_⟩
   simp only[g5,aW,seval]
   rw[decide_eq_false (hs2 rfl)]
  |true =>
   obtain⟨hlen,hpre⟩:=hs1 rfl
   by_cases hkl:k=l1.length
   ·have hc:decide ((k:Int)<(l1.length:Int))=false:=by simp[hkl]
    rw[e1]at g0
    simp only[g0,g5,g6,hc,zW,seval]
    refine aj ⟨rfl,?_⟩
    simp only[g5,aW,seval]
    have:l1=l2:=by
     have e3:=hpre
     rw[hkl,List.take_length,hlen,List.take_length]at e3
     exact e3
    rw[decide_eq_true this]
   ·have hlt:k<l1.length:=by omega
    have hc:decide ((k:Int)<(l1.length:Int))=true:=decide_eq_true (by omega)
    rcases h1 with⟨h,_⟩|⟨_,n1,o1,s1,c1,t1,p1,L1,rfl,b1,n1l,le1,tk1⟩
    ·rw[h]at hlt; simp at hlt
    rcases h2 with⟨h,_⟩|⟨_,n2,o2,s2,c2,t2,p2,L2,rfl,b2,n2l,le2,tk2⟩
    ·rw[h]at hlen; simp at hlen; simp[hlen]at hlt
    obtain⟨r1,hr1⟩:∃ r,l1[k]?=some r:=⟨_,zB1 hlt⟩
    obtain⟨r2,hr2⟩:∃ r,l2[k]?=some r:=⟨_,zB1 (by omega)⟩
    have i1:=iG (n:=n1) (off:=o1) (s:=s1) (cap:=c1) (i:=(k:Int)) rfl hlt
    have i2:=iG (n:=n2) (off:=o2) (s:=s2) (cap:=c2) (i:=(k:Int)) (len:=l2.length) rfl (by omega)
    have q1:=xV (e:=t1) (o:=p1) hr1 le1 tk1
    have q2:=xV (e:=t2) (o:=p2) hr2 le2 tk2
    rw[hb]at n1l n2l
    simp only[g0,g5,g6,hc,zW,seval]
    refine bf [] [] (by kernel_rfl) rfl rfl fun ops anc hA hG=>?_
    simp only[g0,g1,g6,hb,i1,i2,b1,b2,n1l,n2l,q1,q2,dQ,Ce.val,b9,zW,seval]
    refine Nc (ts:=[3,3,3,4,4,4]) (xs:=r1.cells) (ys:=r2.cells) (r:=decide (r1=r2)) Rx QY Q3 (by rw[KR]; rfl) rfl rfl (by decide) (by simp only[aW,seval]; rfl) (by simp only[aW]; rfl) (vI _) (vI _) ?_
    simp only[g6,bO (show k<1000000 by omega),b9,zW,seval]
    refine aM ⟨(k+1,decide (r1=r2)),by simp only; omega,rfl,?_,?_,?_,?_,by simp only; omega,fun h=>⟨hlen,?_⟩,fun h e=>?_⟩<;>try simp only[g0,g1,aW,seval]
    ·have h:=of_decide_eq_true h
     rw[List.take_add_one,List.take_add_one,hr1,hr2,hpre,h]
    ·have h:=of_decide_eq_false h
     rw[e]at hr1
     rw[hr1]at hr2
     exact h (Option.some.inj hr2)
 ·rintro E H' ⟨hH,g5⟩
  rw[hH]
  simp only[g5,Tryz.results31,zW,seval]
  exact Fin.pure rfl
end Go.Proofs.YtpohjcacnkhnkaaGreatDoor
namespace Go.Ax
theorem OW {P:Program} {ro:Option Nat} {b:Bool} {x y:Code} {Q:Exit->ag->aa->Prop} {a:ag} {H:aa}:gO P ro (.cond (.const (.bool b)) x y) Q a H=qw P ro x y Q a H (.bool b):=by
 simp only[gO,qw,aK,af,if_true]
end Go.Ax
namespace Go.Proofs.YtpohjcacnkhnkaaGreatDoor
open Go.Ax
set_option maxRecDepth 100000
def RT:Go.Shelf.Ren:=⟨fun n=>if n=264 then 129 else 0,fun n=>if n=46 then 138 else if n=53 then 173 else n,fun n=>n⟩
theorem QS:Go.Proofs.Lays.n264 Tryz.prog RT:=by
 constructor
 all_goals first
  |exact mixed
  |kernel_rfl
  |(intro w; kernel_rfl)
theorem OA (H:aa) (w:Nat) (hw:w<1000000):Pure 129 [.int .u64 1,.int .u64 (w:Int)] H (.tuple #[.int .u64 0,.int .u64 (w:Int)]):=by
 intro ρ W r hsc F n R hF hR
 have hc:=Go.Proofs.Any.bits_Mul64 QS 1 w (by omega) (by omega) W
 have h0:1*w / 18446744073709551616=0:=by omega
 have h1:1*w % 18446744073709551616=w:=by omega
 rw[h0,h1]at hc
 have e1:[Value.int .u64 1,Value.int .u64 (w:Int)].map ρ.val=[Value.int .u64 1,Value.int .u64 (w:Int)]:=tg ρ _ (fun x hx=>by simp only[zA7,zD2,or_false]at hx; rcases hx with rfl|rfl<;>rfl)
 rw[e1]
 refine (hF.calls hc).mono ?_
 rintro e w' ⟨rfl,rfl⟩
 have:=hR ρ w' (St.refl r) rfl
 rwa [df ρ _ rfl]at this
theorem QU (H:aa) (w:Nat) (hw:w<1000000):Pure 92 [.int .u64 1,.int .u64 (w:Int)] H (.tuple #[.int .u64 0,.int .u64 (w:Int)]):=by
 refine bJ mixed Tryz.func92 rfl Tryz.ntmps92 (zA6 rfl) fun wf hsc=>?_
 simp only[OW,zW,seval]
 refine (OA (ext H []) w hw).to ?_
 simp only[Tryz.results92,zW,seval]
 exact Fin.cz rfl rfl
abbrev Ce.zero:Ce:=⟨0,0,0,false,false,false⟩
abbrev Ce.blank:Ce:=⟨32,0,0,false,false,false⟩
theorem MZ (n:Nat):aV Ce.zero.cells n=aN (List.replicate n Ce.zero):=by
 induction n with
 |zero=>rfl
 |succ n ih=>rw[aV,ih,List.replicate_succ,bU]
theorem Nu {X:aa} {w:Nat} (h:w<=1000):fG Tryz.prog X 56 (.int .i64 (w:Int)) (.int .i64 (w:Int))=(cF X 77 (aN (List.replicate w Ce.zero)) false).map fun g=>(.slice (some ⟨X.next,0,some 0⟩) w w,g):=by
 rw[LP (e:=77) (sz:=6) (by1:=32) (z:=Ce.zero.val) (by kernel_rfl) (by kernel_rfl) (by kernel_rfl) (by kernel_rfl) rfl (by simp only[small,zA4,zE6]; omega)]
 rw[show Ce.zero.val.cells.toList=Ce.zero.cells from rfl,MZ]
theorem wrap_u64 {n:Nat} (h:n<100000):IntKind.u64.wrap (n:Int)=n:=by
 simp only[IntKind.wrap,IntKind.signed,IntKind.bits]
 simp
 omega
theorem tH (l:List Ce) (k:Nat):(aN l).take (k*6)=aN (l.take k):=by
 induction l generalizing k with
 |nil=>simp[aN]
 |cons c l ih =>
  cases k with
  |zero=>simp[aN]
  |succ k=>rw[bU,List.take_succ_cons,bU,show (k+1)*6=c.cells.length+k*6 by simp[Ce.cells]; omega,List.take_append,zD6 (by omega),zF8,ih]
theorem pO (l:List Ce) (k:Nat):(aN l).drop (k*6)=aN (l.drop k):=by
 induction l generalizing k with
 |nil=>simp[aN]
 |cons c l ih =>
  cases k with
  |zero=>simp[aN]
  |succ k=>rw[bU,List.drop_succ_cons,show (k+1)*6=c.cells.length+k*6 by simp[Ce.cells]; omega,List.drop_append,zF1 (by omega),zC1,zF8,ih]
theorem rT (pre new fX:List Ce) (h:new.length<=fX.length):cL (aN (pre++fX)) (pre.length*6) (aN new)=aN (pre++(new++fX.drop new.length)):=by
 have e:pre.length*6=(aN pre).length:=(bC pre).symm
 rw[gh,e,nH _ _ _ (by rw[bC,bC]; omega),bC,pO,gh,gh]
theorem Q6 {G:aa} {q off dl dc n off2 sl sc:Nat} {s2:Option Nat} {b bq:Bl} (hq:bk G q=some bq) (hlt:q<G.next) (hb:bk G n=some b) {l:List Ce} (hle:off2+zF2 sl dl*6<=b.l.length) (hl:(b.l.drop off2).take (zF2 sl dl*6)=aN l) (hw:off+zF2 sl dl*6<=bq.l.length) (hll:l.length=zF2 sl dl) :
  aD Tryz.prog G .copy ⟨[56,56]⟩ [.slice (some ⟨q,off,some 0⟩) dl dc,.slice (some ⟨n,off2,s2⟩) sl sc]=some (goInt (zF2 sl dl),uw G q off (aN l)):=by
 rw[w6 (e:=77) (sz:=6) (by kernel_rfl) (by kernel_rfl) rfl hb hle,hl]
 have:=ku (H:=G) (L:=[]) (vs:=aN l) hlt hq (by rw[bC,hll]; exact hw) (r9 l) (jv l _)
 rw[ext_nil,ext_nil]at this
 rw[this]
 rfl
theorem xw (w:Nat) (h1:1<=w) (hw:w<=1000) (c:Ce) (n:Nat) (s:Option Nat) (H:aa) (hn:bk H n=some ⟨77,false,c.cells⟩) :
  br Tryz.prog 61 [.slice (some ⟨n,0,s⟩) 1 1,.int .i64 (w:Int)] H (.ok (.slice (some ⟨H.next,0,some 0⟩) w w)) (ext H [⟨77,false,aN (List.replicate w c)⟩]):=by
 refine jd (fun wf hsc=>?_) (fun _ _=>jv _ _)
 obtain⟨b,hb⟩:=Go.Ax.bP H.next
 have hbase:H.base<=b:=hb▸wf.base
 have hnb:n<b:=hb▸wf.lt hn
 have hneg:decide ((w:Int)<0)=false:=decide_eq_false (by omega)
 have hcv:∀ (X:aa) (k:IntKind) (m:Int),cj Tryz.prog X 3 138 (.int k m)=some (.int .u64 (IntKind.u64.wrap m),X):=fun X k m=>iL (u:=.int .i64) (by kernel_rfl) (by kernel_rfl)
 have hcv2:∀ (X:aa) (k:IntKind) (m:Int),cj Tryz.prog X 138 3 (.int k m)=some (.int .i64 (IntKind.i64.wrap m),X):=fun X k m=>iL (u:=.int .u64) (by kernel_rfl) (by kernel_rfl)
 have u1:IntKind.u64.wrap ((1:Nat):Int)=1:=by decide
 have huw:IntKind.u64.wrap (w:Int)=w:=wrap_u64 (by omega)
 have iw:IntKind.i64.wrap (w:Int)=w:=aQ (by omega) (by omega)
 have z1:decide ((0:Int)>0)=false:=by decide
 have z2:decide ((w:Int)>9223372036854775807)=false:=decide_eq_false (by omega)
 refine aG mixed Tryz.func61 rfl Tryz.ntmps61 (zA6 rfl) ?_
 simp only[hneg,bQ,hcv,u1,huw,zW,Nat.reduceLT,Nat.reduceAdd,Nat.reduceEqDiff]
 refine (QU (ext H []) w (by omega)).to ?_
 simp only[bQ,hcv2,iw,z1,z2,Nu (show w<=1000 by omega),jv,hb,zW,Nat.reduceLT,Nat.reduceEqDiff]
 generalize hG:ext H [_]=G
 have mG:Mod [] H G:=hG▸Mod.ext wf.base
 have hGn:G.next=b+1:=by rw[<-hG,ai,hb]; rfl
 have hq:bk G (b+0)=some ⟨77,false,aN (List.replicate w Ce.zero)⟩:=by rw[<-hG,bu hb (by simp)]; rfl
 have hnG:=(mG.bk (hb▸hnb) (by simp)).trans hn
 have m1:zF2 1 w=1:=Nat.min_eq_left h1
 have hcp:=Q6 (G:=G) (q:=b+0) (off:=0) (dl:=w) (dc:=w) (n:=n) (off2:=0) (sl:=1) (sc:=1) (s2:=s) (l:=[c]) hq (by omega) hnG (by rw[m1]; simp[Ce.cells]) (by rw[m1]; rfl) (by rw[m1,bC,zE4]; omega) (by rw[m1]; rfl)
 rw[m1]at hcp
 simp only[hcp,zW,Nat.reduceLT]
 generalize hK:uw G (b+0) 0 _=K
 have mK:Mod [b+0] G K:=hK▸Mod.uw (by simp)
 have hKn:K.next=b+1:=by rw[<-hK,b6,hGn]
 have hKq:bk K (b+0)=some ⟨77,false,aN (List.replicate 1 c++List.replicate (w-1) Ce.zero)⟩:=by
  rw[<-hK,bR,hq]
  have:=rT [] [c] (List.replicate w Ce.zero) (by simp; omega)
  simp only[zC1,zB6,zF7,zB0,List.drop_replicate]at this
  show some (Bl.mk 77 false (cL (aN (List.replicate w Ce.zero)) 0 (aN [c])))=_
  rw[this]
  rfl
 have mHK:Mod [] H K:=mG.step mK wf.base (fun k hk=>.inr (by simp only[zA5]at hk; omega))
 refine eT fun E hE=>?_
 have g7:E 7=.slice (some ⟨b+0,0,some 0⟩) w w:=by rw[hE]; rfl
 have g8:E 8=.int .i64 ((1:Nat):Int):=by rw[hE]; rfl
 clear hE
 refine bE (fun E' H'=>Mod [] H H'/\bk H' (b+0)=some ⟨77,false,aN (List.replicate w c)⟩/\E' 7=.slice (some ⟨b+0,0,some 0⟩) w w) ?_ ?_
 ·refine cU (fun (m:Nat) E' H'=>Mod [] H H'/\b+0<H'.next/\1<=m/\m<=w/\bk H' (b+0)=some ⟨77,false,aN (List.replicate m c++List.replicate (w-m) Ce.zero)⟩/\E' 7=.slice (some ⟨b+0,0,some 0⟩) w w/\E' 8=.int .i64 (m:Int)) (fun m=>w-m) 1
   ⟨mHK,by omega,zA8 _,h1,hKq,g7,g8⟩ ?_
  clear g7 g8
  rintro m E X ⟨mX,lX,hm1,hmw,hqX,g7,g8⟩
  rw[show X=ext X [] from rfl]
  by_cases hme:m=w
  ·have hc:decide ((m:Int)<(w:Int))=false:=by simp[hme]
   simp only[g7,g8,hc,zW,Nat.reduceLT,Nat.reduceEqDiff]
   refine aj ⟨mX,?_,?_⟩
   ·rw[ext_nil,hqX,hme,zG5]; simp
   ·exact g7
  ·have hlt:m<w:=by omega
   have hc:decide ((m:Int)<(w:Int))=true:=decide_eq_true (by omega)
   have okX:=mX.ok wf.base
   simp only[g7,g8,hc,zW,Nat.reduceLT,Nat.reduceEqDiff]
   refine bf [(7,3),(7,6),(9,7)] [] (by kernel_rfl) (by kernel_rfl) rfl fun ops anc hA hG2=>?_
   simp only[aw]at hA
   simp only[g7,g8,b9,aW,Nat.reduceLT,Nat.reduceAdd,Nat.reduceEqDiff]
   have hbm:bound 0 (some (.int .i64 (m:Int)))=some m:=by simp[bound]
   have hbm2:bound w (some (.int .i64 (m:Int)))=some m:=by simp[bound]
   rw[ph]
   refine Dd (v:=.slice (some ⟨b+0,0+m*6,some 0⟩) (w-m) (w-m)) rfl (by decide) (fun G=>sN (by simp only[aW,Nat.reduceLT]) (by simp (maxDischargeDepth:=6) only[aW,Nat.reduceLT,lM]) rfl rfl ?_) (by simp (maxDischargeDepth:=6) only[b9]) ?_
   ·simp only[jk,jj,aW,Nat.reduceEqDiff]
    exact ym (e:=77) (sz:=6) (by kernel_rfl) (by kernel_rfl) hbm rfl (zA8 _) hmw hlt
   simp only[g7,g8,b9,zW,Nat.reduceLT,Nat.reduceAdd,Nat.reduceEqDiff]
   rw[ph]
   refine Dd (v:=.slice (some ⟨b+0,0+0*6,some 0⟩) (m-0) (w-0)) rfl (by decide) (fun G=>sN (by simp only[aW,Nat.reduceLT]) rfl (by simp (maxDischargeDepth:=6) only[aW,Nat.reduceLT,lM]) rfl ?_) (by simp (maxDischargeDepth:=6) only[b9,Nat.reduceAdd,Nat.reduceMul]) ?_
   ·simp only[jk,jj,aW,Nat.reduceAdd,Nat.reduceMul,Nat.reduceEqDiff]
    exact ym (e:=77) (sz:=6) (by kernel_rfl) (by kernel_rfl) rfl hbm2 hmw (zB7 _) (by omega)
   simp only[zW,Nat.reduceLT,Nat.reduceAdd,Nat.reduceMul]
   rw[NR rfl]
   have hrn:=aL X [b+0]
   have hqR:bk (X.restrict [b+0]) (b+0)=some ⟨77,false,aN (List.replicate m c++List.replicate (w-m) Ce.zero)⟩:=(bg (by rw[aU,if_pos (by simp)])).trans hqX
   obtain⟨j,hj⟩:=Go.Ax.bP (zF2 m (w-m))
   have hjm:j<=m/\j<=w-m/\0<j:=by rw[<-hj]; exact⟨Nat.min_le_left _ _,Nat.min_le_right _ _,Nat.lt_min.2 ⟨by omega,by omega⟩⟩
   have hcl:(aN (List.replicate m c++List.replicate (w-m) Ce.zero)).length=w*6:=by rw[bC]; simp; omega
   have hcp2:=Q6 (G:=X.restrict [b+0]) (q:=b+0) (off:=0+m*6) (dl:=w-m) (dc:=w-m) (n:=b+0) (off2:=0+0*6) (sl:=m-0) (sc:=w-0) (s2:=some 0) (l:=List.replicate j c) hqR (by rw[hrn.1]; exact lX) hqR
    (by rw[Nat.sub_zero,hj,hcl]; omega) (by rw[Nat.sub_zero,hj,zF7,zB8,zD1,tH,List.take_append,List.take_replicate,zE4,show j-m=0 by omega,Nat.min_eq_left hjm.1]; simp) (by rw[Nat.sub_zero,hj,hcl]; omega) (by rw[Nat.sub_zero,hj,zE4])
   rw[Nat.sub_zero,hj]at hcp2
   refine mQ (W:=[b+0]) [b+0] okX (fun k hk=>by simp only[zA5]at hk; subst hk; exact dT hqX) (fun k hk=>by simp only[zA5]at hk; subst hk; exact lX) (fun _ h=>h)
    (qQ (v:=goInt j) rfl (by simp only[aW,Nat.reduceEqDiff]; rw[Nat.sub_zero]; exact hcp2)) (Mod.uw (by simp)) (by simp only[aw,cx,hA,true_or,and_true]) ?_
   intro H1 D mH1 hF1 _ _ _
   have hw8:IntKind.i64.wrap ((m:Int)+(j:Int))=((m+j:Nat):Int):=by
    have:=aQ (n:=(m:Int)+(j:Int)) (by omega) (by omega)
    rw[show IntKind.i64.wrap ((m:Int)+(j:Int))=_ from this]; omega
   rw[show H1=ext H1 [] from rfl]
   simp only[goInt,hw8,b9,zW,Nat.reduceLT,Nat.reduceAdd,Nat.reduceEqDiff]
   have hq1:bk H1 (b+0)=some ⟨77,false,aN (List.replicate (m+j) c++List.replicate (w-(m+j)) Ce.zero)⟩:=by
    rw[bg (hF1 (b+0) (by simp)),bR,show bk ((ext X []).restrict [b+0]) (b+0)=_ from hqR]
    have:=rT (List.replicate m c) (List.replicate j c) (List.replicate (w-m) Ce.zero) (by simp; omega)
    rw[zE4,zE4,List.drop_replicate]at this
    show some (Bl.mk 77 false (cL (aN _) (0+m*6) (aN (List.replicate j c))))=_
    rw[zB8,this,<-zD3,List.replicate_append_replicate,show w-m-j=w-(m+j) by omega]
   refine aM ⟨m+j,by omega,(mX.step mH1 wf.base (fun k hk=>.inr (by simp only[zA5]at hk; omega))),mH1.lt lX,by omega,by omega,hq1,?_,?_⟩<;>simp only[g7,aW,Nat.reduceEqDiff]
 ·clear g7 g8
  rintro E X ⟨mX,hqX,g7⟩
  rw[show X=ext X [] from rfl]
  simp only[g7,Tryz.results61,zW,Nat.reduceLT]
  exact⟨b+0,rfl,by omega,hqX,mX⟩
end Go.Proofs.YtpohjcacnkhnkaaGreatDoor
namespace Go.Proofs.YtpohjcacnkhnkaaGreatDoor.Tq
open Go.Ax
theorem KQ (w:Nat):Go.Proofs.YtpohjcacnkhnkaaGreatDoor.aN (List.replicate w Go.Proofs.YtpohjcacnkhnkaaGreatDoor.Ce.blank)=aN (List.replicate w sp):=by
 induction w with
 |zero=>rfl
 |succ w ih=>rw[List.replicate_succ,List.replicate_succ,Go.Proofs.YtpohjcacnkhnkaaGreatDoor.bU,ih,bU]; rfl
theorem DK (w:Nat) (h1:1<=w) (hw:w<=300) (H:aa):br Tryz.prog 26 [.int .i64 (w:Int)] H (.ok (.slice (some ⟨H.next,0,some 0⟩) w w)) (ext H [⟨77,false,aN (List.replicate w sp)⟩]):=by
 refine jd (fun wf hsc=>?_) (fun _ _=>jv _ _)
 obtain⟨b,hb⟩:=Go.Ax.bP H.next
 refine aG mixed Tryz.func26 rfl Tryz.ntmps26 (zA6 rfl) ?_
 simp only[hb,zW,seval]
 have hr:=Go.Proofs.YtpohjcacnkhnkaaGreatDoor.xw w h1 (by omega) Go.Proofs.YtpohjcacnkhnkaaGreatDoor.Ce.blank (b+0) (some 0) (ext H [⟨77,false,[.int .i64 32,.int .i64 0,.int .i64 0,.bool false,.bool false,.bool false]⟩]) (by rw[bu hb (by simp)]; rfl)
 rw[KQ]at hr
 refine hr.to ?_
 simp only[hb,zB0,zB6,Tryz.results26,zW,seval]
 exact⟨_,rfl,by omega,by rw[bu hb (by simp)]; rfl,Mod.ext wf.base⟩
section
variable {P : Program} {H : aa}
theorem qB {t e:TypeId} {sz n off len cap:Nat} {lo hi:Option Value} {l h:Nat} {b:Bl} (hu:P.underlying t=some (.slice e)) (hsz:bh P e=some sz) (hl:bound 0 lo=some l) (hh:bound len hi=some h) (h1:h<=cap) (h2:l<=h) (h3:l<cap) (hb:bk H n=some b) (ho:b.o=true) :
  cg P H t (.slice (some ⟨n,off,none⟩) len cap) lo hi none=some (.slice (some ⟨n,off+l*sz,none⟩) (h-l) (cap-l),H):=by
 simp only[cg,hu,hsz,fm,hl,hh,zA1,zA3,cY,jt hb,ho,zA9,zE0]
 rw[if_pos ⟨h1,h2⟩]
 by_cases h0:l=0
 ·subst h0
  simp
 ·rw[if_neg h0,if_pos h3]
theorem Cp {t e:TypeId} {sz n off len cap:Nat} {lo hi:Option Value} {l h:Nat} {b:Bl} (hu:P.underlying t=some (.slice e)) (hsz:bh P e=some sz) (hl:bound 0 lo=some l) (hh:bound len hi=some h) (h1:h=cap) (h2:l=cap) (h3:0<cap) (hb:bk H n=some b) (ho:b.o=true) (h4:sz≠0:=by decide) :
  cg P H t (.slice (some ⟨n,off,none⟩) len cap) lo hi none=some (.slice (some ⟨n,off+l*sz,some (off+1)⟩) 0 0,H):=by
 simp only[cg,hu,hsz,fm,hl,hh,zA1,zA3,cY,jt hb,ho,zA9,zE0]
 rw[if_pos ⟨by omega,by omega⟩,if_neg (by omega),if_neg (by omega),if_neg h4]
theorem Qy {dt st e:TypeId} {sz m off k n off2 sl sc:Nat} {s2:Option Nat} {b:Bl} (hu:P.underlying dt=some (.slice e)) (hsz:bh P e=some sz) (hb:bk H n=some b) (hle:off2<=b.l.length) :
  aD P H .copy ⟨[dt,st]⟩ [.slice (some ⟨m,off,some (k+1)⟩) 0 0,.slice (some ⟨n,off2,s2⟩) sl sc]=some (goInt 0,H):=by
 have hm0:zF2 sl 0=0:=Nat.min_eq_right (zB7 _)
 have hf:=fI (sz:=sz) (cnt:=0) (off:=off2) (len:=sl) (cap:=sc) (s:=s2) hb (by omega)
 simp only[aD,Ai,hu,hsz,zA1,zA3,iY,hm0,hf]
 rw[if_neg (by simp)]
end
theorem dM {d k:Nat}:bound d (some (.int .i64 (k:Int)))=some k:=by simp[bound]
theorem sn (w:Nat) (l:List (Nat × Bool)):(l.map (bB w)).all one=true:=by
 rw[zC6]
 intro v hv
 obtain⟨q,_,rfl⟩:=zB5.1 hv
 rfl
theorem N6 {X:aa} {rb top n m h:Nat} {w:Nat} {A S Z:List (Nat × Bool)} (hlt:rb<X.next) (hb:bk X rb=some ⟨56,true,(A++S++Z).map (bB w)⟩) (hA:A.length=top) (hS:S.length=m) (hh:h=top+m+Z.length) (hn:n<=m) (hn1:1<=n) (hsc:∀ q∈A++S++Z,q.1<X.next) :
  ∃ sv Y,cg Tryz.prog X 39 (.slice (some ⟨rb,top,none⟩) m (h-top)) (some (.int .i64 (n:Int))) none none=some (sv,X)/\aD Tryz.prog X .copy ⟨[39,39]⟩ [.slice (some ⟨rb,top,none⟩) m (h-top),sv]=some (goInt ((m-n:Nat)),Y)/\Mod [rb] X Y/\Y.next=X.next/\bk Y rb=some ⟨56,true,(A++S.drop n++S.drop (m-n)++Z).map (bB w)⟩:=by
 have hu:Tryz.prog.underlying 39=some (.slice 56):=by kernel_rfl
 have hsz:bh Tryz.prog 56=some 1:=by kernel_rfl
 have hsl:∃ s2 sc,cg Tryz.prog X 39 (.slice (some ⟨rb,top,none⟩) m (h-top)) (some (.int .i64 (n:Int))) none none=some (.slice (some ⟨rb,top+n*1,s2⟩) (m-n) sc,X):=by
  by_cases hc:n<h-top
  ·exact⟨none,_,qB hu hsz dM rfl (by omega) hn hc hb rfl⟩
  ·have e:m-n=0:=by omega
   rw[e]
   exact⟨some (top+1),0,Cp hu hsz dM rfl (by omega) (by omega) (by omega) hb rfl⟩
 obtain⟨s2,sc,hsl⟩:=hsl
 have hlen:((A++S++Z).map (bB w)).length=top+m+Z.length:=by simp[hA,hS]; omega
 have hmin:zF2 (m-n) m=m-n:=Nat.min_eq_left (by omega)
 have hcp:=w6 (P:=Tryz.prog) (H:=X) (dt:=39) (st:=39) (e:=56) (sz:=1) (m:=rb) (off:=top) (dl:=m) (dc:=h-top) (n:=rb) (off2:=top+n*1) (sl:=m-n) (sc:=sc) (s:=none) (s2:=s2) hu hsz rfl hb (by rw[hmin,hlen]; omega)
 have hcs:(((A++S++Z).map (bB w)).drop (top+n*1)).take ((m-n)*1)=(S.drop n).map (bB w):=by
  rw[zE8,zE8,<-List.map_drop,<-List.map_take,zD3,List.drop_append,zF1 (by omega),zC1,show top+n-A.length=n by omega,List.drop_append,List.take_append,zD6 (by simp; omega)]
  simp[hS]
 have hone:((S.drop n).map (bB w)).all one=true:=sn w _
 have hscb:aO (X.next+0) ((S.drop n).map (bB w))=true:=by
  rw[zE1]
  refine bL.2 fun v hv=>?_
  obtain⟨q,hq,rfl⟩:=zB5.1 hv
  exact a8 (hsc q (by simp[zF9 hq]))
 have hwr:=ku (H:=X) (L:=[]) (n:=rb) (off:=top) (vs:=(S.drop n).map (bB w)) hlt hb (by rw[hlen]; simp; omega) hone hscb
 rw[ext_nil,ext_nil]at hwr
 rw[hmin,hcs,hwr]at hcp
 refine⟨_,_,hsl,hcp,Mod.uw (by simp),by rw[b6],?_⟩
 rw[bR,hb]
 refine congrArg (fun l=>some (Bl.mk 56 true l)) ?_
 have e:((A++S++Z).map (bB w))=A.map (bB w)++(S++Z).map (bB w):=by simp
 show cL ((A++S++Z).map (bB w)) top _=_
 have e2:top=(A.map (bB w)).length:=by simp[hA]
 rw[e,e2,nH _ _ _ (by simp[hS]; omega)]
 have e3:((S++Z).map (bB w)).drop ((S.drop n).map (bB w)).length=(S.drop (m-n)++Z).map (bB w):=by
  rw[<-List.map_drop,zD7,zD8,hS,List.drop_append,show m-n-S.length=0 by omega,zD1]
 rw[e3]
 simp
theorem IV {X:aa} {rb top n m h:Nat} {w:Nat} {A S Z:List (Nat × Bool)} (hlt:rb<X.next) (hb:bk X rb=some ⟨56,true,(A++S++Z).map (bB w)⟩) (hA:A.length=top) (hS:S.length=m) (hh:h=top+m+Z.length) (hn:n<=m) (hn1:1<=n) (hsc:∀ q∈A++S++Z,q.1<X.next) :
  ∃ sv Y,cg Tryz.prog X 39 (.slice (some ⟨rb,top,none⟩) m (h-top)) (some (.int .i64 (n:Int))) none none=some (sv,X)/\(∃ k,aD Tryz.prog X .copy ⟨[39,39]⟩ [sv,.slice (some ⟨rb,top,none⟩) m (h-top)]=some (k,Y))/\Mod [rb] X Y/\Y.next=X.next/\bk Y rb=some ⟨56,true,(A++S.take n++S.take (m-n)++Z).map (bB w)⟩:=by
 have hu:Tryz.prog.underlying 39=some (.slice 56):=by kernel_rfl
 have hsz:bh Tryz.prog 56=some 1:=by kernel_rfl
 have hlen:((A++S++Z).map (bB w)).length=top+m+Z.length:=by simp[hA,hS]; omega
 by_cases hc:n<h-top
 ·have hsl:=qB (P:=Tryz.prog) (H:=X) (t:=39) (e:=56) (sz:=1) (n:=rb) (off:=top) (len:=m) (cap:=h-top) (lo:=some (.int .i64 (n:Int))) (hi:=none) (l:=n) (h:=m) hu hsz dM rfl (by omega) hn hc hb rfl
  have hmin:zF2 m (m-n)=m-n:=Nat.min_eq_right (by omega)
  have hcp:=w6 (P:=Tryz.prog) (H:=X) (dt:=39) (st:=39) (e:=56) (sz:=1) (m:=rb) (off:=top+n*1) (dl:=m-n) (dc:=h-top-n) (n:=rb) (off2:=top) (sl:=m) (sc:=h-top) (s:=none) (s2:=none) hu hsz rfl hb (by rw[hmin,hlen]; omega)
  have hcs:(((A++S++Z).map (bB w)).drop top).take ((m-n)*1)=(S.take (m-n)).map (bB w):=by
   rw[zE8,<-List.map_drop,<-List.map_take,zD3,List.drop_append,zF1 (by omega),zC1,show top-A.length=0 by omega,zD1,List.take_append,show m-n-S.length=0 by omega,List.take_zero,zD0]
  have hone:((S.take (m-n)).map (bB w)).all one=true:=sn w _
  have hscb:aO (X.next+0) ((S.take (m-n)).map (bB w))=true:=by
   rw[zE1]
   refine bL.2 fun v hv=>?_
   obtain⟨q,hq,rfl⟩:=zB5.1 hv
   exact a8 (hsc q (by simp[zF6 hq]))
  have hwr:=ku (H:=X) (L:=[]) (n:=rb) (off:=top+n*1) (vs:=(S.take (m-n)).map (bB w)) hlt hb (by rw[hlen]; simp; omega) hone hscb
  rw[ext_nil,ext_nil]at hwr
  rw[hmin,hcs,hwr]at hcp
  refine⟨_,_,hsl,⟨_,hcp⟩,Mod.uw (by simp),by rw[b6],?_⟩
  rw[bR,hb]
  refine congrArg (fun l=>some (Bl.mk 56 true l)) ?_
  have e:((A++S++Z).map (bB w))=(A++S.take n).map (bB w)++(S.drop n++Z).map (bB w):=by
   rw[<-List.map_append,zD3,zD3]
   congr 2
   rw[<-zD3,zG8]
  show cL ((A++S++Z).map (bB w)) (top+n*1) _=_
  have e2:top+n*1=((A++S.take n).map (bB w)).length:=by simp[hA,hS]; omega
  rw[e,e2,nH _ _ _ (by simp[hS])]
  have e3:((S.drop n++Z).map (bB w)).drop ((S.take (m-n)).map (bB w)).length=Z.map (bB w):=by
   rw[<-List.map_drop,zD7,List.length_take,hS,Nat.min_eq_left (by omega),List.drop_append,zF1 (by simp[hS]),zC1,show m-n-(S.drop n).length=0 by simp[hS],zD1]
  rw[e3]
  simp
 ·have e:m-n=0:=by omega
  have hsl:=Cp (P:=Tryz.prog) (H:=X) (t:=39) (e:=56) (sz:=1) (n:=rb) (off:=top) (len:=m) (cap:=h-top) (lo:=some (.int .i64 (n:Int))) (hi:=none) (l:=n) (h:=m) hu hsz dM rfl (by omega) (by omega) (by omega) hb rfl
  have hcp:=Qy (P:=Tryz.prog) (H:=X) (dt:=39) (st:=39) (e:=56) (sz:=1) (m:=rb) (off:=top+n*1) (k:=top) (n:=rb) (off2:=top) (sl:=m) (sc:=h-top) (s2:=none) hu hsz hb (by rw[hlen]; omega)
  refine⟨_,_,hsl,⟨_,hcp⟩,Mod.refl,rfl,?_⟩
  rw[hb,e,zD6 (show S.length<=n by omega)]
  simp
theorem Nv (H:aa) (p:Rp) (x:Tm) (rs:List (Nat × Bool)) (h1:bk H p.t=some ⟨66,false,ba p x⟩) (h2:bk H p.rb=some ⟨56,true,rs.map (bB x.w)⟩) (hx:1<=x.h) (hr:rs≠[]):Pure 71 [.pointer (some ⟨p.t,0,none⟩)] H (.int .i64 (x.w:Int)):=by
 obtain⟨b,hb⟩:=Go.Ax.bP H.next
 have g1:=h1
 simp only[ba]at h1
 obtain⟨q,hq⟩:∃ q,rs[0]?=some q:=by cases rs with|nil=>exact absurd rfl hr|cons a r=>exact⟨a,rfl⟩
 have hq2:(rs.map (bB x.w))[0]?=some (bB x.w q):=by rw[zF0,hq]; rfl
 have hi:=sG (len:=x.h) (cap:=x.h) (n:=p.rb) (s:=none) (i:=0) (k:=0) rfl hx
 refine bJ mixed Tryz.func71 rfl Tryz.ntmps71 (zA6 rfl) fun wf hsc=>?_
 have hT:p.t<b:=hb▸wf.lt g1
 have hR:p.rb<b:=hb▸wf.lt h2
 simp only[hb,hT,hR,h1,h2,hi,hq2,bB,Tryz.results71,zW,seval]
 exact Fin.pure rfl
theorem Bg {α β:Type} {l:List α} {m:List β} {z:α × β}:z∈l.zip m ↔ ∃ i:Nat,l[i]?=some z.1/\m[i]?=some z.2:=by
 rw[List.mem_iff_getElem?]
 constructor
 ·rintro⟨i,hi⟩
  refine⟨i,?_⟩
  rw[List.getElem?_zip_eq_some]at hi
  exact hi
 ·rintro⟨i,h1,h2⟩
  exact⟨i,List.getElem?_zip_eq_some.2 ⟨h1,h2⟩⟩
theorem cd.Q4 {H Y:aa} {p:Rp} {x:Tm} (g:cd H p x) (m:Mod [p.rb] H Y) (rs:List (Nat × Bool)) (gr:List (List Ce)) (hb:bk Y p.rb=some ⟨56,true,rs.map (bB x.w)⟩) (hl1:rs.length=x.h) (hl2:gr.length=x.h)
  (hrow:∀ z∈rs.zip gr,z∈p.rs.zip x.ah\/(H.next<=z.1.1/\bk Y z.1.1=some ⟨77,z.1.2,aN z.2⟩)) (hnd:(rs.map (·.1)).Nodup) (hin:∀ q∈rs,q∈p.rs\/(H.next<=q.1/\q.1<Y.next)) (hw:Tm.w {x with ah:=gr}=x.w) :
  Step H p Y {p with rs:=rs} {x with ah:=gr}:=by
 have hnd0:=g.nd
 simp only[Rp.aJ]at hnd0
 have n1:=zC9.1 hnd0
 have n2:=zC9.1 n1.2
 have hb0:∀ n∈p.aJ,n<H.next:=g.lt
 have hget:∀ n,n<H.next->n≠p.rb->Y.get n=H.get n:=fun n hn cR=>m.get n hn (by simp only[zA5]; exact cR)
 have hrs:∀ q∈p.rs,q.1∈p.aJ/\q.1≠p.rb:=fun q hq=>by
  have hm:q.1∈p.rs.map (·.1):=zB5.2 ⟨q,hq,rfl⟩
  exact⟨by simp only[Rp.aJ,zA7,zB2]; exact .inr (.inr (.inl (.inl hm))),fun e=>n2.1 (e▸(by simp only[zB2]; exact .inl (.inl hm)))⟩
 have hold:∀ n,n∈ae p.rv++ae p.pv->n∈p.aJ/\n≠p.rb/\n≠p.t/\n∉p.rs.map (·.1):=fun n hn=>by
  have n3:=n2.2
  rw[zD3]at n3
  refine⟨?_,fun e=>n2.1 (e▸?_),fun e=>n1.1 (e▸?_),fun e=>(zD4.1 n3).2.2 n e n hn rfl⟩<;>simp only[Rp.aJ,zA7,zB2]at hn ⊢
  ·rcases hn with h|h
   ·exact .inr (.inr (.inl (.inr h)))
   ·exact .inr (.inr (.inr h))
  ·rcases hn with h|h
   ·exact .inl (.inr h)
   ·exact .inr h
  ·rcases hn with h|h
   ·exact .inr (.inl (.inr h))
   ·exact .inr (.inr h)
 have htb:p.t∈p.aJ/\p.t≠p.rb:=⟨by simp[Rp.aJ],fun e=>n1.1 (by rw[e]; simp)⟩
 have htr:p.t∉p.rs.map (·.1):=fun h=>n1.1 (by simp only[zA7,zB2]; exact .inr (.inl (.inl h)))
 have hrr:p.rb∉p.rs.map (·.1):=fun h=>n2.1 (by simp only[zB2]; exact .inl (.inl h))
 have hrbl:p.rb∈p.aJ:=by simp[Rp.aJ]
 have hnot:∀ n,n∈p.aJ->n∉p.rs.map (·.1)->n∉rs.map (·.1):=fun n hn hnr hm=>by
  obtain⟨q,hq,rfl⟩:=zB5.1 hm
  rcases hin q hq with h|⟨h,_⟩
  ·exact hnr (zB5.2 ⟨q,h,rfl⟩)
  ·have:=hb0 _ hn; omega
 have hnew:∀ n∈({p with rs:=rs}:Rp).aJ,n∈p.aJ\/(H.next<=n/\n<Y.next):=by
  intro n hn
  simp only[Rp.aJ,zA7,zB2,zB5]at hn
  rcases hn with rfl|rfl|(⟨q,hq,rfl⟩|hn)|hn
  ·exact .inl htb.1
  ·exact .inl hrbl
  ·rcases hin q hq with h|h
   ·exact .inl (hrs q h).1
   ·exact .inr h
  ·exact .inl (hold n (by simp[hn])).1
  ·exact .inl (hold n (by simp[hn])).1
 refine⟨⟨?_,?_,?_,?_,?_,?_,?_,fun n hn=>?_⟩,m.mono (by intro n hn; simp only[zA5]at hn; subst hn; exact hrbl),rfl,fun n hn=>(hnew n hn).imp id (fun h=>h.1)⟩
 ·rw[bg (hget _ (hb0 _ htb.1) htb.2),g.cell]
  have:Tm.h {x with ah:=gr}=x.h:=hl2
  simp only[ba,this]
 ·rw[hw]; exact hb
 ·exact hl1.trans hl2.symm
 ·intro i q l hq hl
  rcases hrow (q,l) (Bg.2 ⟨i,hq,hl⟩) with h|⟨_,h⟩
  ·obtain⟨j,h1,h2⟩:=Bg.1 h
   simp only at h1 h2
   obtain⟨h3,h4⟩:=hrs q (zB9 h1)
   rw[bg (hget _ (hb0 _ h3) h4)]
   exact g.row j q l h1 h2
  ·exact h
 ·exact g.rest.of fun n hn=>hget n (hb0 n (hold n (by simp[hn])).1) (hold n (by simp[hn])).2.1
 ·exact g.par.of fun n hn=>hget n (hb0 n (hold n (by simp[hn])).1) (hold n (by simp[hn])).2.1
 ·have n3:=n2.2
  rw[zD3]at n3
  have n4:=zD4.1 n3
  simp only[Rp.aJ]
  refine zC9.2 ⟨?_,zC9.2 ⟨?_,?_⟩⟩
  ·simp only[zA7,zB2,not_or]
   refine⟨htb.2,⟨hnot _ htb.1 htr,fun h=>(hold p.t (by simp[h])).2.2.1 rfl⟩,fun h=>(hold p.t (by simp[h])).2.2.1 rfl⟩
  ·simp only[zB2,not_or]
   refine⟨⟨hnot _ hrbl hrr,fun h=>(hold p.rb (by simp[h])).2.1 rfl⟩,fun h=>(hold p.rb (by simp[h])).2.1 rfl⟩
  ·rw[zD3]
   exact zD4.2 ⟨hnd,n4.2.1,fun a ha b hb e=>hnot b (hold b hb).1 (hold b hb).2.2.2 (e▸ha)⟩
 ·rcases hnew n hn with h|h
  ·exact m.lt (hb0 n h)
  ·exact h.2
theorem JD {α:Type} {A N Z:List α} (h:(A++Z).Nodup) (hn:N.Nodup) (hd:∀ a∈N,a∉A++Z):(A++N++Z).Nodup:=by
 have h1:=zD4.1 h
 refine zD4.2 ⟨zD4.2 ⟨h1.1,hn,fun a ha b hb e=>hd b hb (by simp[<-e,ha])⟩,h1.2.1,fun a ha b hb e=>?_⟩
 rcases zB2.1 ha with h'|h'
 ·exact h1.2.2 a h' b hb e
 ·exact hd a h' (by simp[e,hb])
theorem Ms {len cap n off:Nat} {s:Option Nat} {i:Int} {k:Nat} (hi:i=k) (hk:k<len):aP Tryz.prog 39 (.slice (some ⟨n,off,s⟩) len cap) (.int .i64 i)=some (.pointer (some ⟨n,off+k,none⟩)):=by
 subst hi
 rw[gl (e:=56) (sz:=1) (by kernel_rfl) (by kernel_rfl) (by omega) (by omega)]
 simp
abbrev eO (w:Nat):List Ce:=List.replicate w sp
def cH {α:Type} (l:List α) (top m k:Nat) (up:Bool):List α:=l.take top++cond up (((l.drop top).take m).drop k) []
def dZ {α:Type} (l:List α) (top m k:Nat) (up:Bool):List α:=cond up [] (((l.drop top).take m).take (m-k))++l.drop (top+m)
theorem kn {α:Type} (l:List α) {top m k:Nat} (up:Bool) (h:top+m<=l.length) (hk:k<=m):(cH l top m k up).length=top+cond up (m-k) 0:=by
 cases up<;>simp[cH]<;>omega
theorem tV {α:Type} (l:List α) {top m k:Nat} (up:Bool) (h:top+m<=l.length) (hk:k<=m):(dZ l top m k up).length=cond up 0 (m-k)+(l.length-(top+m)):=by
 cases up<;>simp[dZ]<;>omega
theorem xM {α:Type} (l:List α) (top m:Nat):l=l.take top++(l.drop top).take m++l.drop (top+m):=by
 rw[zD3,<-zG3,zG8,zG8]
theorem su {α:Type} (l:List α) (top m k:Nat) (up:Bool):(cH l top m k up++dZ l top m k up).Sublist l:=by
 have h:=xM l top m
 conv=>rhs; rw[h]
 cases up
 ·simp only[cH,dZ,cond_false,zD0]
  rw[<-zD3]
  exact ((List.Sublist.refl _).append (List.take_sublist _ _)).append (List.Sublist.refl _)
 ·simp only[cH,dZ,cond_true,zC1]
  exact ((List.Sublist.refl _).append (List.drop_sublist _ _)).append (List.Sublist.refl _)
theorem E9 {α β:Type} (l:List α) (g:List β) (n:Nat):(l.zip g).take n=(l.take n).zip (g.take n):=by simp only[List.zip,List.take_zipWith]
theorem E1 {α β:Type} (l:List α) (g:List β) (n:Nat):(l.zip g).drop n=(l.drop n).zip (g.drop n):=by simp only[List.zip,List.drop_zipWith]
theorem Kh {α β:Type} (l:List α) (g:List β) (top m k:Nat) (up:Bool) (h:l.length=g.length):(cH l top m k up).zip (cH g top m k up)=cH (l.zip g) top m k up:=by
 cases up
 ·simp[cH,E9]
 ·simp only[cH,cond_true]
  rw[List.zip_append (by simp[h])]
  simp[E9,E1]
theorem JE {α β:Type} (l:List α) (g:List β) (top m k:Nat) (up:Bool) (h:l.length=g.length):(dZ l top m k up).zip (dZ g top m k up)=dZ (l.zip g) top m k up:=by
 cases up
 ·simp only[dZ,cond_false]
  rw[List.zip_append (by simp[h])]
  simp[E9,E1]
 ·simp[dZ,E1]
theorem wU (w:Nat) (g:List (List Ce)) (top bot n:Nat) (up:Bool):iZ w g top bot n up=cH g top (bot+1-top) (min n (bot+1-top)) up++List.replicate (min n (bot+1-top)) (eO w)++dZ g top (bot+1-top) (min n (bot+1-top)) up:=by
 cases up<;>simp[iZ,cH,dZ]
theorem B2 (x:Tm) (top bot n:Nat) (up:Bool):x.fN top bot n up={x with ah:=iZ x.w x.ah top bot n up}:=rfl
theorem EV (H:aa) (p:Rp) (x:Tm) (top bot n:Nat) (up:Bool) (g:cd H p x) (s:x.Sz) (ok:H.base<=H.next) (htb:top<=bot) (hbh:bot<x.h) (hn1:1<=n) (hn2:n<=10000) :
  gF 82 [.int .i64 (top:Int),.int .i64 (bot:Int),.int .i64 (n:Int),.bool up] H p (.tuple #[]) (x.fN top bot n up):=by
 obtain⟨b,hb⟩:∃ b,H.next=b:=⟨_,rfl⟩
 have hT:p.t<b:=hb▸g.lt p.t (by simp[Rp.aJ])
 have hR:p.rb<H.next:=g.lt p.rb (by simp[Rp.aJ])
 have h1:=g.cell
 simp only[ba]at h1
 have s1:=s.h2
 have s2:=s.w2
 have s3:=s.w1
 obtain⟨m,hm⟩:∃ m,bot+1-top=m:=⟨_,rfl⟩
 obtain⟨k,hk⟩:∃ k,min n m=k:=⟨_,rfl⟩
 have hkm:k<=m:=by omega
 have hk1:1<=k:=by omega
 have htm:top+m<=x.h:=by omega
 have hrl:=g.len
 have hwb:IntKind.i64.wrap ((bot:Int)+1)=((bot+1:Nat):Int):=bO (by omega)
 have hmin:min (n:Int) (m:Int)=(k:Int):=by omega
 have hwk:IntKind.i64.wrap ((m:Int)-(k:Int))=((m-k:Nat):Int):=by
  have:=aQ (n:=(m:Int)-(k:Int)) (by omega) (by omega)
  rw[show IntKind.i64.wrap ((m:Int)-(k:Int))=_ from this]; omega
 have hrs:=xM p.rs top m
 have hrow:=g.rows
 rw[hrs]at hrow
 have hA:(p.rs.take top).length=top:=by simp; omega
 have hS:((p.rs.drop top).take m).length=m:=by simp; omega
 have hZ:x.h=top+m+(p.rs.drop (top+m)).length:=by simp; omega
 have hsc:∀ q∈p.rs.take top++(p.rs.drop top).take m++p.rs.drop (top+m),q.1<H.next:=by
  rw[<-hrs]
  intro q hq
  exact g.lt q.1 (by simp only[Rp.aJ,zA7,zB2,zB5]; exact .inr (.inr (.inl (.inl ⟨q,hq,rfl⟩))))
 have hu:Tryz.prog.underlying 39=some (.slice 56):=by kernel_rfl
 have hsz:bh Tryz.prog 56=some 1:=by kernel_rfl
 have hsl0:cg Tryz.prog (ext H []) 39 (.slice (some ⟨p.rb,0,none⟩) x.h x.h) (some (.int .i64 (top:Int))) (some (.int .i64 ((bot+1:Nat):Int))) none=some (.slice (some ⟨p.rb,top,none⟩) m (x.h-top),ext H []):=by
  have:=qB (P:=Tryz.prog) (H:=H) (n:=p.rb) (off:=0) (len:=x.h) (cap:=x.h) hu hsz (dM (d:=0) (k:=top)) (dM (d:=x.h) (k:=bot+1)) (by omega) (by omega) (by omega) hrow rfl
  rw[hm,zB8,zE8]at this
  exact this
 refine aG mixed Tryz.func82 rfl Tryz.ntmps82 (zA6 rfl) ?_
 refine kH (fun E' H'=>H'=H/\E' 0=.pointer (some ⟨p.t,0,none⟩)/\E' 3=.int .i64 (n:Int)/\E' 4=.bool up/\E' 10=.slice (some ⟨p.rb,top,none⟩) m (x.h-top)) ?_ ?_
 ·simp (maxDischargeDepth:=6) only[hb,hT,h1,hwb,hsl0,zW,seval]
  refine aj ⟨rfl,?_,?_,?_,?_⟩<;>simp only[aW,seval]
 rintro E X ⟨rfl,g0,g3,g4,g10⟩
 refine kH (fun E' H'=>H'=X/\E' 0=.pointer (some ⟨p.t,0,none⟩)/\E' 3=.int .i64 (k:Int)/\E' 4=.bool up/\E' 10=.slice (some ⟨p.rb,top,none⟩) m (x.h-top)) ?_ ?_
 ·simp (maxDischargeDepth:=6) only[g3,g10,hmin,zW,seval]
  refine aj ⟨rfl,?_,?_,?_,?_⟩<;>simp only[g0,g4,g10,aW,seval]
 clear g0 g3 g4 g10 E
 rintro E Y ⟨rfl,g0,g3,g4,g10⟩
 refine kH (fun E' H'=>∃ D c,Mod [p.rb] Y H'/\H'.next=Y.next/\List.length D=k/\bk H' p.rb=some ⟨56,true,(cH p.rs top m k up++D++dZ p.rs top m k up).map (bB x.w)⟩/\E' 0=.pointer (some ⟨p.t,0,none⟩)/\E' 10=.slice (some ⟨p.rb,(cH p.rs top m k up).length,none⟩) k c) ?_ ?_
 ·rw[kn p.rs up (by omega) hkm]
  cases up with
  |true =>
   obtain⟨sv,V,e1,e2,e3,e4,e5⟩:=N6 (X:=Y) (n:=k) (h:=x.h) hR hrow hA hS hZ hkm hk1 hsc
   rw[show Y=ext Y [] from rfl]at e1
   rw[show V=ext V [] from rfl,show aD Tryz.prog Y=aD Tryz.prog (ext Y []) from rfl]at e2
   have e6:=qB (P:=Tryz.prog) (H:=V) (n:=p.rb) (off:=top) (len:=m) (cap:=x.h-top) (hi:=none) hu hsz (dM (d:=0) (k:=m-k)) rfl (by omega) (by omega) (by omega) e5 rfl
   rw[show V=ext V [] from rfl]at e6
   rw[show Y=ext Y [] from rfl]
   simp (maxDischargeDepth:=6) only[g3,g4,g10,e1,e2,e6,hwk,zW,seval]
   refine aj ⟨((p.rs.drop top).take m).drop (m-k),x.h-top-(m-k),e3,e4,by simp; omega,?_,?_,?_⟩
   ·rw[ext_nil,e5]; simp[cH,dZ]
   ·simp only[g0,aW,seval]
   ·simp only[aW]
    rw[show m-(m-k)=k by omega,zE8]
    rfl
  |false =>
   obtain⟨sv,V,e1,⟨kv,e2⟩,e3,e4,e5⟩:=IV (X:=Y) (n:=k) (h:=x.h) hR hrow hA hS hZ hkm hk1 hsc
   rw[show Y=ext Y [] from rfl]at e1
   rw[show V=ext V [] from rfl,show aD Tryz.prog Y=aD Tryz.prog (ext Y []) from rfl]at e2
   have e6:=qB (P:=Tryz.prog) (H:=V) (n:=p.rb) (off:=top) (len:=m) (cap:=x.h-top) (lo:=none) hu hsz rfl (dM (d:=m) (k:=k)) (by omega) (by omega) (by omega) e5 rfl
   rw[show V=ext V [] from rfl]at e6
   rw[show Y=ext Y [] from rfl]
   simp (maxDischargeDepth:=6) only[g3,g4,g10,e1,e2,e6,zW,seval]
   refine aj ⟨((p.rs.drop top).take m).take k,x.h-top-0,e3,e4,by simp; omega,?_,?_,?_⟩
   ·rw[ext_nil,e5]; simp[cH,dZ]
   ·simp only[g0,aW,seval]
   ·simp only[aW]
    rfl
 clear g0 g3 g4 g10 E
 rintro E X ⟨D,c,mX,nX,hD,hbX,g0,g10⟩
 have hRA:(cH p.rs top m k up).length+k+(dZ p.rs top m k up).length=x.h:=by
  rw[kn p.rs up (by omega) hkm,tV p.rs up (by omega) hkm]
  cases up<;>simp<;>omega
 have hgl:x.ah.length=x.h:=rfl
 have htne:p.t≠p.rb:=fun e=>(zC9.1 g.nd).1 (by rw[e]; simp)
 rw[show X=ext X [] from rfl]
 simp (maxDischargeDepth:=6) only[g10,zW,seval]
 refine eT fun E' hE=>?_
 have f0:E' 0=.pointer (some ⟨p.t,0,none⟩):=by rw[hE]; simp only[g0,aW,seval]
 have f10:E' 10=.slice (some ⟨p.rb,(cH p.rs top m k up).length,none⟩) k c:=by rw[hE]; simp only[g10,aW,seval]
 have f45:E' 45=.int .i64 (k:Int):=by rw[hE]; simp only[aW,seval]
 have f46:E' 46=.int .i64 ((0:Nat):Int):=by rw[hE]; (simp only[aW]<;>rfl)
 clear hE g0 g10 E
 refine cU (fun (N:List (Nat × Bool)) E' H'=>Mod [p.rb] Y H'/\N.length<=k/\bk H' p.rb=some ⟨56,true,(cH p.rs top m k up++N++D.drop N.length++dZ p.rs top m k up).map (bB x.w)⟩/\(∀ q∈N,Y.next<=q.1/\q.1<H'.next/\bk H' q.1=some ⟨77,q.2,aN (eO x.w)⟩)/\(N.map (·.1)).Nodup/\E' 0=.pointer (some ⟨p.t,0,none⟩)/\E' 10=.slice (some ⟨p.rb,(cH p.rs top m k up).length,none⟩) k c/\E' 45=.int .i64 (k:Int)/\E' 46=.int .i64 (N.length:Int)) (fun N=>k-N.length) []
  ⟨mX,zB7 _,by rw[ext_nil]; simpa using hbX,by simp,by simp,f0,f10,f45,f46⟩ ?_
 clear f0 f10 f45 f46 mX nX hbX X E'
 rintro N E X ⟨mX,hN,hbX,hq,hnd,f0,f10,f45,f46⟩
 rw[show X=ext X [] from rfl]
 by_cases hNk:N.length=k
 ·have hd:decide ((N.length:Int)<(k:Int))=false:=decide_eq_false (by omega)
  simp (maxDischargeDepth:=6) only[f45,f46,hd,Tryz.results82,zW,seval]
  rw[show D.drop N.length=[] from zF1 (by omega),zD0]at hbX
  refine⟨trivial,{p with rs:=cH p.rs top m k up++N++dZ p.rs top m k up},?_⟩
  have hG:=wU x.w x.ah top bot n up
  rw[hm,hk]at hG
  rw[B2,hG]
  have hrN:(List.replicate k (eO x.w)).length=N.length:=by simp[hNk]
  have hlA:(cH p.rs top m k up).length=(cH x.ah top m k up).length:=by
   rw[kn p.rs up (by omega) hkm,kn x.ah up (by omega) hkm]
  have hzip:(cH p.rs top m k up++N++dZ p.rs top m k up).zip (cH x.ah top m k up++List.replicate k (eO x.w)++dZ x.ah top m k up)=cH (p.rs.zip x.ah) top m k up++N.zip (List.replicate k (eO x.w))++dZ (p.rs.zip x.ah) top m k up:=by
   rw[List.zip_append (by simp only[zB4]; omega),List.zip_append hlA,Kh _ _ _ _ _ _ (by omega),JE _ _ _ _ _ _ (by omega)]
  have hsub:=su (p.rs.zip x.ah) top m k up
  have hsub2:=su p.rs top m k up
  have hndr:(p.rs.map (·.1)).Nodup:=by
   have hnd0:=g.nd
   simp only[Rp.aJ]at hnd0
   exact (zD4.1 (zD4.1 (zC9.1 (zC9.1 hnd0).2).2).1).1
  have hold:∀ q∈p.rs,q.1<Y.next:=fun q hq'=>g.lt q.1 (by simp only[Rp.aJ,zA7,zB2,zB5]; exact .inr (.inr (.inl (.inl ⟨q,hq',rfl⟩))))
  refine g.Q4 (Y:=ext X []) mX (cH p.rs top m k up++N++dZ p.rs top m k up) _ hbX ?_ ?_ ?_ ?_ ?_ ?_
  ·simp only[zB4]; omega
  ·simp only[zB4,zE4]
   rw[kn x.ah up (by omega) hkm,tV x.ah up (by omega) hkm]
   cases up<;>simp<;>omega
  ·intro z hz
   rw[hzip]at hz
   simp only[zB2]at hz
   rcases hz with (hz|hz)|hz
   ·exact .inl (hsub.mem (by simp[hz]))
   ·have h2:=Bg.1 hz
    obtain⟨i,h3,h4⟩:=h2
    have h5:=hq z.1 (zB9 h3)
    have h6:z.2=eO x.w:=by
     have:=zB9 h4
     exact List.eq_of_mem_replicate this
    exact .inr ⟨h5.1,by rw[h6]; exact h5.2.2⟩
   ·exact .inl (hsub.mem (by simp[hz]))
  ·rw[List.map_append,List.map_append]
   refine JD ?_ hnd ?_
   ·rw[<-List.map_append]
    exact (hsub2.map _).nodup hndr
   ·intro a ha hb'
    obtain⟨q,hq',rfl⟩:=zB5.1 ha
    rw[<-List.map_append]at hb'
    obtain⟨q2,hq2,e⟩:=zB5.1 hb'
    have h7:=hold q2 (hsub2.mem hq2)
    have h8:=(hq q hq').1
    omega
  ·intro q hq'
   simp only[zB2]at hq'
   rcases hq' with (h|h)|h
   ·exact .inl (hsub2.mem (by simp[h]))
   ·exact .inr ⟨(hq q h).1,(hq q h).2.1⟩
   ·exact .inl (hsub2.mem (by simp[h]))
  ·have cR:0<(cH x.ah top m k up++List.replicate k (eO x.w)++dZ x.ah top m k up).length:=by simp; omega
   have hall:∀ l∈cH x.ah top m k up++List.replicate k (eO x.w)++dZ x.ah top m k up,l.length=x.w:=by
    have hsub3:=su x.ah top m k up
    intro l hl
    simp only[zB2]at hl
    rcases hl with (h|h)|h
    ·exact s.ws l (hsub3.mem (by simp[h]))
    ·rw[List.eq_of_mem_replicate h]; simp
    ·exact s.ws l (hsub3.mem (by simp[h]))
   show ((cH x.ah top m k up++List.replicate k (eO x.w)++dZ x.ah top m k up).headD []).length=x.w
   generalize cH x.ah top m k up++List.replicate k (eO x.w)++dZ x.ah top m k up=L at cR hall
   cases L with
   |nil=>simp at cR
   |cons a r=>exact hall a (by simp)
 ·have hlt:N.length<k:=by omega
  have hd:decide ((N.length:Int)<(k:Int))=true:=decide_eq_true (by omega)
  have okX:=mX.ok ok
  obtain⟨xn,hxn⟩:∃ xn,X.next=xn:=⟨_,rfl⟩
  have hxb:X.base<=xn:=hxn▸okX
  have hRx:p.rb<xn:=hxn▸mX.lt hR
  have h1X:bk X p.t=some ⟨66,false,ba p x⟩:=(mX.bk (g.lt p.t (by simp[Rp.aJ])) (by simp only[zA5]; exact htne)).trans g.cell
  have hw:=Nv X p x _ h1X hbX s.h1 (by intro e; have:=congrArg List.length e; simp only[zB4,zD8,zB6]at this; omega)
  obtain⟨d,hdd⟩:∃ d,D.drop N.length=d::D.drop (N.length+1):=⟨_,List.drop_eq_getElem_cons (by omega)⟩
  have hia:=Ms (len:=k) (cap:=c) (n:=p.rb) (off:=(cH p.rs top m k up).length) (s:=none) (i:=(N.length:Int)) (k:=N.length) rfl hlt
  have hput:cL ((cH p.rs top m k up++N++D.drop N.length++dZ p.rs top m k up).map (bB x.w)) ((cH p.rs top m k up).length+N.length) [.slice (some ⟨xn+0,0,some 0⟩) x.w x.w]=(cH p.rs top m k up++(N++[(xn+0,false)])++D.drop (N++[(xn+0,false)]).length++dZ p.rs top m k up).map (bB x.w):=by
   have e1:(cH p.rs top m k up++N++D.drop N.length++dZ p.rs top m k up).map (bB x.w)=(cH p.rs top m k up++N).map (bB x.w)++(bB x.w d::(D.drop (N.length+1)++dZ p.rs top m k up).map (bB x.w)):=by
    rw[hdd]; simp
   have e2:(cH p.rs top m k up).length+N.length=((cH p.rs top m k up++N).map (bB x.w)).length:=by simp
   rw[e1,e2,nH _ _ _ (by simp)]
   simp[bB]
  have hst:∀ v,v=.slice (some ⟨xn+0,0,some 0⟩) x.w x.w->vw Tryz.prog 56 (xn+1) ((cH p.rs top m k up).length+N.length) v (some ⟨56,true,(cH p.rs top m k up++N++D.drop N.length++dZ p.rs top m k up).map (bB x.w)⟩)=some ⟨56,true,cL ((cH p.rs top m k up++N++D.drop N.length++dZ p.rs top m k up).map (bB x.w)) ((cH p.rs top m k up).length+N.length) [v]⟩:=by
   rintro v rfl
   exact l5 (v:=.slice (some ⟨xn+0,0,some 0⟩) x.w x.w) (by exact hsz) (by simp only[zD7,zB4,zD8,zB0,zB6,Value.cells]; omega) rfl (by simp only[Value.cells,aO,aS,Bool.and_true]; exact a8 (by omega))
  have hws:=bO (show N.length<1000000 by omega)
  simp (maxDischargeDepth:=6) only[f0,f10,f45,f46,hd,zW,seval]
  refine (show br Tryz.prog 71 _ (ext X []) _ _ from hw).to ?_
  simp (maxDischargeDepth:=6) only[zW,seval]
  refine (DK x.w s3 s2 (ext X [])).to ?_
  simp (maxDischargeDepth:=6) only[f46,hxn,hRx,hbX,hia,hst _ rfl,hws,zW,seval]
  have mU:Mod [p.rb] X (uw X p.rb ((cH p.rs top m k up).length+N.length) [.slice (some ⟨xn+0,0,some 0⟩) x.w x.w]):=Mod.uw (by simp)
  have hUn:(uw X p.rb ((cH p.rs top m k up).length+N.length) [.slice (some ⟨xn+0,0,some 0⟩) x.w x.w]).next=xn:=by rw[b6,hxn]
  refine aM ⟨N++[(xn+0,false)],by simp only[zB4,zB0,zB6]; omega,(mX.trans mU).trans (Mod.ext (mU.ok okX)),by simp only[zB4,zB0,zB6]; omega,?_,?_,?_,?_,?_,?_,?_⟩
  ·rw[iN (by rw[hUn]; exact hRx),bR,hbX,zA9,vJ,hput]
  ·intro q hq'
   rcases zB2.1 hq' with h|h
   ·obtain⟨q1,q2,q3⟩:=hq q h
    refine⟨q1,by rw[ai,hUn]; omega,?_⟩
    rw[iN (by rw[hUn]; omega),oC (by have:=hR; omega)]
    exact q3
   ·simp only[zA5]at h
    subst h
    refine⟨by have:=mX.next; omega,by rw[ai,hUn]; simp,?_⟩
    rw[bu hUn (by simp)]
    rfl
  ·rw[List.map_append]
   refine zD4.2 ⟨hnd,by simp,fun a ha b' hb' e=>?_⟩
   obtain⟨q,hq',rfl⟩:=zB5.1 ha
   simp only[zC0,zF4,zA5]at hb'
   have:=(hq q hq').2.1
   omega
  ·simp only[f0,aW,seval]
  ·simp only[f10,aW,seval]
  ·simp only[f45,aW,seval]
  ·simp only[aW,seval,zB4,zB0,zB6]
theorem gq {a b:Int} {d:Bool} (h:decide (a=b)=d):a=b ↔ d=true:=by rw[<-h,decide_eq_true_iff]
theorem pk (x:Tm):x.width=(x.w:Int):=rfl
theorem pB (x:Tm):x.bS=(x.h:Int):=rfl
theorem Tm.Sz.cX {x:Tm} (s:x.Sz) (l:List Int):(x.cX l).Sz/\(x.cX l).h=x.h/\(x.cX l).w=x.w/\(x.cX l).row=x.row:=by
 obtain⟨r,hr⟩:∃ r:Nat,x.row=r:=⟨x.row.toNat,by have:=s.r1; omega⟩
 have hi:=kt s
 obtain⟨i,hie⟩:∃ i:Nat,x.inside=i:=⟨x.inside.toNat,by omega⟩
 have hrh:r<x.h:=by have:=s.r2; omega
 unfold Tm.cX
 rw[pk]
 split
 ·rw[hr,hie]
  exact⟨s.blank hrh (by omega) (by omega),(gP s hrh (by omega) (by omega)).1,(gP s hrh (by omega) (by omega)).2,hr⟩
 ·split
  ·rw[hr,hie,show ((i:Nat):Int)+1=((i+1:Nat):Int) from by omega,show (0:Int)=((0:Nat):Int) from rfl]
   exact⟨s.blank hrh (by omega) (by omega),(gP s hrh (by omega) (by omega)).1,(gP s hrh (by omega) (by omega)).2,hr⟩
  ·split
   ·rw[hr,show (0:Int)=((0:Nat):Int) from rfl]
    exact⟨s.blank hrh (by omega) (by omega),(gP s hrh (by omega) (by omega)).1,(gP s hrh (by omega) (by omega)).2,hr⟩
   ·exact⟨s,rfl,rfl,rfl⟩
theorem yC (H:aa) (p:Rp) (x:Tm) (v:Value) (l:List Int) (g:cd H p x) (s:x.Sz) (ok:H.base<=H.next) (hp:kJ H v l):gF 146 [v] H p (.tuple #[]) (x.cX l):=by
 obtain⟨b,hb⟩:=Go.Ax.bP H.next
 have hT:p.t<b:=hb▸g.lt p.t (by simp[Rp.aJ])
 have h1:=g.cell
 simp only[ba]at h1
 have s2:=s.w2
 obtain⟨r,hr⟩:∃ r:Nat,x.row=r:=⟨x.row.toNat,by have:=s.r1; omega⟩
 have hi:=kt s
 obtain⟨i,hie⟩:∃ i:Nat,x.inside=i:=⟨x.inside.toNat,by omega⟩
 have hrh:r<x.h:=by have:=s.r2; omega
 obtain⟨a,r',rfl⟩:∃ a r,l=a::r:=by cases l with|nil=>exact absurd rfl hp.ne|cons a r=>exact⟨a,r,rfl⟩
 obtain⟨n,off,hia,hnv,cR,hld⟩:=hp.at_.get (k:=0) (c:=a) rfl
 rw[show ((0:Nat):Int)=0 from rfl]at hia
 obtain⟨d0,hd0⟩:∃ d,decide (a=0)=d:=⟨_,rfl⟩
 obtain⟨d1,hd1⟩:∃ d,decide (a=1)=d:=⟨_,rfl⟩
 obtain⟨d2,hd2⟩:∃ d,decide (a=2)=d:=⟨_,rfl⟩
 have e0:=gq hd0
 have e1:=gq hd1
 have e2:=gq hd2
 have hw1:IntKind.i64.wrap (x.inside+1)=((i+1:Nat):Int):=by
  have:=aQ (n:=x.inside+1) (by omega) (by omega)
  rw[show IntKind.i64.wrap (x.inside+1)=_ from this]; omega
 have hnb:n<b:=hb▸hp.lt n hnv
 have key:x.cX (a::r')=cond d0 (x.blank r i x.w) (cond d1 (x.blank r (0:Nat) (i+1:Nat)) (cond d2 (x.blank r (0:Nat) x.w) x)):=by
  unfold Tm.cX
  simp only[List.headD_cons,e0,e1,e2,hr,hie,pk]
  cases d0<;>cases d1<;>cases d2<;>rfl
 rw[key]
 have hin:∀ K,cd K p x->Pure 34 [.pointer (some ⟨p.t,0,none⟩)] K (.int .i64 x.inside):=fun K gK=>oI K p x gK s
 refine aG mixed Tryz.func146 rfl Tryz.ntmps146 (zA6 rfl) ?_
 cases d0 with
 |true =>
  simp only[hb,hia,hnb,hld,hd0,cond_true,zW,seval]
  refine bf [(10,5),(10,7),(10,9)] [] (by kernel_rfl) (by kernel_rfl) rfl fun ops anc hA hG=>?_
  simp only[aw]at hA
  simp only[hb,hT,h1,b9,zW,seval]
  refine bx (v:=.int .i64 x.inside) p.aJ (by simp only[aW,seval]) (by kernel_rfl) (by decide) g.ne (fun K hn hg=>?_) (by simp (maxDischargeDepth:=6) only[b9]) ?_
  ·simp only[aW]
   exact hin K (g.of (by rw[hn]; exact zA8 _) hg)
  simp only[hb,b9,zW,seval]
  refine bx (v:=.int .i64 (x.w:Int)) p.aJ (by simp only[aW,seval]) (by kernel_rfl) (by decide) g.ne (fun K hn hg=>?_) (by simp (maxDischargeDepth:=6) only[b9]) ?_
  ·simp only[aW]
   exact gW K p x (g.of (by rw[hn]; exact zA8 _) hg) s
  simp only[hb,b9,lh,seval]
  refine ed (as':=[.int .i64 x.row,.int .i64 x.inside,.int .i64 (x.w:Int)]) g ok rfl (by kernel_rfl) (by decide) rfl (by simp only[aw,cx,hA,true_or,and_true]) (fun G gG okG=>by rw[hr,hie]; exact si gG s okG hrh (by omega) (zA8 _)) fun H1 p1 st=>?_
  rw[show H1=ext H1 [] from rfl]
  simp only[Tryz.results146,b9,lh]
  exact⟨p1,st⟩
 |false =>
  cases d1 with
  |true =>
   simp only[hb,hia,hnb,hld,hd0,hd1,cond_true,cond_false,zW,seval]
   refine bf [(9,5),(9,7)] [] (by kernel_rfl) (by kernel_rfl) rfl fun ops anc hA hG=>?_
   simp only[aw]at hA
   simp only[hb,hT,h1,b9,zW,seval]
   refine bx (v:=.int .i64 x.inside) p.aJ (by simp only[aW,seval]) (by kernel_rfl) (by decide) g.ne (fun K hn hg=>?_) (by simp (maxDischargeDepth:=6) only[b9]) ?_
   ·simp only[aW]
    exact hin K (g.of (by rw[hn]; exact zA8 _) hg)
   simp only[hb,hw1,b9,zW,seval]
   refine ed (as':=[.int .i64 x.row,.int .i64 ((0:Nat):Int),.int .i64 ((i+1:Nat):Int)]) g ok rfl (by kernel_rfl) (by decide) (by simp only[aW,seval]<;>rfl) (by simp only[aw,cx,hA,true_or,and_true]) (fun G gG okG=>by rw[hr]; exact si gG s okG hrh (by omega) (by omega)) fun H1 p1 st=>?_
   rw[show H1=ext H1 [] from rfl]
   simp only[Tryz.results146,b9,lh]
   exact⟨p1,st⟩
  |false =>
   cases d2 with
   |true =>
    simp only[hb,hia,hnb,hld,hd0,hd1,hd2,cond_true,cond_false,zW,seval]
    refine bf [(8,5),(8,7)] [] (by kernel_rfl) (by kernel_rfl) rfl fun ops anc hA hG=>?_
    simp only[aw]at hA
    simp only[hb,hT,h1,b9,zW,seval]
    refine bx (v:=.int .i64 (x.w:Int)) p.aJ (by simp only[aW,seval]) (by kernel_rfl) (by decide) g.ne (fun K hn hg=>?_) (by simp (maxDischargeDepth:=6) only[b9]) ?_
    ·simp only[aW]
     exact gW K p x (g.of (by rw[hn]; exact zA8 _) hg) s
    simp only[hb,b9,lh,seval]
    refine ed (as':=[.int .i64 x.row,.int .i64 ((0:Nat):Int),.int .i64 (x.w:Int)]) g ok rfl (by kernel_rfl) (by decide) (by simp only[aW,seval]<;>rfl) (by simp only[aw,cx,hA,true_or,and_true]) (fun G gG okG=>by rw[hr]; exact si gG s okG hrh (by omega) (zA8 _)) fun H1 p1 st=>?_
    rw[show H1=ext H1 [] from rfl]
    simp only[Tryz.results146,b9,lh]
    exact⟨p1,st⟩
   |false =>
    simp only[hb,hia,hnb,hld,hd0,hd1,hd2,cond_false,Tryz.results146,zW,seval]
    exact⟨trivial,p,Step.refl g⟩
def Tm.dS (l:List Int) (i:Nat) (t:Tm):Tm :=
 if (i<t.row/\(l.headD 0=1\/l.headD 0=2))\/(i>t.row/\(l.headD 0=0\/l.headD 0=2)) then t.blank i (0:Nat) t.w else t
theorem kI (l:List Int) (i k:Nat) (t:Tm):Tm.eJ l i (k+1) t=Tm.eJ l (i+1) k (t.dS l i):=rfl
theorem Tm.Sz.dS {x:Tm} (s:x.Sz) (l:List Int) {i:Nat} (hi:i<x.h):(x.dS l i).Sz/\(x.dS l i).h=x.h/\(x.dS l i).w=x.w/\(x.dS l i).row=x.row:=by
 unfold Tm.dS
 split
 ·exact⟨s.blank hi (zB7 _) (zA8 _),(gP s hi (zB7 _) (zA8 _)).1,(gP s hi (zB7 _) (zA8 _)).2,rfl⟩
 ·exact⟨s,rfl,rfl,rfl⟩
theorem Tm.Sz.eJ (l:List Int):∀ (k i:Nat) {x:Tm},x.Sz->i+k<=x.h->(Tm.eJ l i k x).Sz
 |0,_,_,s,_=>s
 |k+1,i,x,s,h=>by
  rw[kI]
  obtain⟨a,b,_,_⟩:=s.dS l (i:=i) (by omega)
  exact Tm.Sz.eJ l k (i+1) a (by omega)
theorem Tm.Sz.kO {x:Tm} (s:x.Sz) (l:List Int):(x.kO l).Sz:=by
 obtain⟨a,b,_,_⟩:=s.cX l
 exact Tm.Sz.eJ l _ _ a (by rw[b]; simp[Tm.h])
theorem Fl (H:aa) (p:Rp) (x:Tm) (v:Value) (l:List Int) (g:cd H p x) (s:x.Sz) (ok:H.base<=H.next) (hp:kJ H v l) (hv:∀ n∈ae v,n∉p.aJ):gF 145 [v] H p (.tuple #[]) (x.kO l):=by
 have s1:=s.h2
 obtain⟨a,r',rfl⟩:∃ a r,l=a::r:=by cases l with|nil=>exact absurd rfl hp.ne|cons a r=>exact⟨a,r,rfl⟩
 obtain⟨n,off,hia,hnv,cR,hld⟩:=hp.at_.get (k:=0) (c:=a) rfl
 rw[show ((0:Nat):Int)=0 from rfl]at hia
 obtain⟨d0,hd0⟩:∃ d,decide (a=0)=d:=⟨_,rfl⟩
 obtain⟨d1,hd1⟩:∃ d,decide (a=1)=d:=⟨_,rfl⟩
 obtain⟨d2,hd2⟩:∃ d,decide (a=2)=d:=⟨_,rfl⟩
 have e0:=gq hd0
 have e1:=gq hd1
 have e2:=gq hd2
 obtain⟨sA,hA,wA,rA⟩:=s.cX (a::r')
 refine aG mixed Tryz.func145 rfl Tryz.ntmps145 (zA6 rfl) ?_
 simp only[zW,seval]
 refine (yC (ext H []) p x v (a::r') g s ok hp).mono ?_
 rintro _ H1 ⟨rfl,p1,st⟩
 rw[ext_nil]at st
 rw[show H1=ext H1 [] from rfl]
 have hT1:p.t<H1.next:=st.same▸st.at_.lt p1.t (by simp[Rp.aJ])
 have h1:=st.at_.cell
 rw[st.same]at h1
 simp only[ba,hA]at h1
 simp only[hT1,h1,zW,seval]
 refine eT fun E hE=>?_
 have g0:E 0=.pointer (some ⟨p.t,0,none⟩):=by rw[hE]; rfl
 have g1:E 1=v:=by rw[hE]; rfl
 have g12:E 12=.int .i64 (x.h:Int):=by rw[hE]; rfl
 have g13:E 13=.int .i64 ((0:Nat):Int):=by rw[hE]; rfl
 clear hE h1 hT1
 refine cU (fun (q:Nat × Tm × Rp) E' H'=>Step H p H' q.2.2 q.2.1/\q.2.1.Sz/\q.2.1.h=x.h/\q.2.1.w=x.w/\q.2.1.row=x.row/\q.1<=x.h/\Tm.eJ (a::r') q.1 (x.h-q.1) q.2.1=x.kO (a::r')/\E' 0=.pointer (some ⟨p.t,0,none⟩)/\E' 1=v/\E' 12=.int .i64 (x.h:Int)/\E' 13=.int .i64 (q.1:Int)) (fun q=>x.h-q.1) (0,x.cX (a::r'),p1)
  ⟨st,sA,hA,wA,rA,zB7 _,rfl,g0,g1,g12,g13⟩ ?_
 clear g0 g1 g12 g13 st sA hA wA rA p1 H1 E
 rintro⟨i,y,p1⟩ E X ⟨st,sy,hy,wy,ry,hi,hfin,g0,g1,g12,g13⟩
 simp only at st sy hy wy ry hi hfin g13
 have okX:=st.ok ok
 rw[show X=ext X [] from rfl]
 by_cases hih:i=x.h
 ·have hd:decide ((i:Int)<(x.h:Int))=false:=decide_eq_false (by omega)
  simp only[g12,g13,hd,Tryz.results145,zW,seval]
  rw[hih,zG5]at hfin
  rw[<-hfin]
  exact⟨trivial,p1,st⟩
 ·have hd:decide ((i:Int)<(x.h:Int))=true:=decide_eq_true (by omega)
  have hilt:i<x.h:=by omega
  obtain⟨b,hb⟩:=Go.Ax.bP X.next
  have hT:p.t<b:=hb▸st.same▸st.at_.lt p1.t (by simp[Rp.aJ])
  have hnb:n<b:=hb▸zD5 (hp.lt n hnv) st.mod.next
  have hldX:∀ q,oL Tryz.prog 3 off (EO (bk X n) q)=some (.int .i64 a):=fun q=>by rw[st.mod.bk (hp.lt n hnv) (hv n hnv)]; exact hld q
  have h1:=st.at_.cell
  rw[st.same]at h1
  simp only[ba]at h1
  obtain⟨dl,hdl⟩:∃ d,decide ((i:Int)<y.row)=d:=⟨_,rfl⟩
  obtain⟨dg,hdg⟩:∃ d,decide (y.row<(i:Int))=d:=⟨_,rfl⟩
  have el:(i:Int)<y.row ↔ dl=true:=by rw[<-hdl,decide_eq_true_iff]
  have eg:y.row<(i:Int) ↔ dg=true:=by rw[<-hdg,decide_eq_true_iff]
  have hone:y.dS (a::r') i=cond ((dl&&(d1||d2))||(dg&&(d0||d2))) (y.blank i (0:Nat) y.w) y:=by
   unfold Tm.dS
   simp only[List.headD_cons,gt_iff_lt,el,eg,e0,e1,e2]
   cases dl<;>cases dg<;>cases d0<;>cases d1<;>cases d2<;>rfl
  obtain⟨sO,hO,wO,rO⟩:=sy.dS (a::r') (i:=i) (by omega)
  have hstep:Tm.eJ (a::r') (i+1) (x.h-(i+1)) (y.dS (a::r') i)=x.kO (a::r'):=by
   rw[<-hfin,show x.h-i=(x.h-(i+1))+1 by omega,kI]
  have hW:br Tryz.prog 71 [.pointer (some ⟨p.t,0,none⟩)] (ext X []) (.ok (.int .i64 (y.w:Int))) (ext X []):=by
   rw[<-st.same]; exact gW X p1 y st.at_ sy
  have hB:bF Tryz.prog 137 [.pointer (some ⟨p.t,0,none⟩),.int .i64 (i:Int),.int .i64 0,.int .i64 (y.w:Int)] (ext X []) (fun out H1=>out=.ok (.tuple #[])/\∃ p2,Step X p1 H1 p2 (y.blank i (0:Nat) y.w)):=by
   rw[<-st.same]; exact si st.at_ sy okX (by omega) (zB7 _) (zA8 _)
  have hws:=bO (show i<1000000 by omega)
  cases dl<;>cases dg<;>cases d0<;>cases d1<;>cases d2<;>first
   |(exfalso; first|(have q1:=el.2 rfl; have q2:=eg.2 rfl; omega)|(have q1:=e0.2 rfl; have q2:=e1.2 rfl; omega)|(have q1:=e0.2 rfl; have q2:=e2.2 rfl; omega)|(have q1:=e1.2 rfl; have q2:=e2.2 rfl; omega))
   | (simp only [g0, g1, g12, g13, hd, hws, hb, hT, h1, hia, hnb, hldX, hdl, hdg, hd0, hd1, hd2, zW, seval]
      refine aM ⟨(i+1,y.dS (a::r') i,p1),by simp only; omega,by rw[hone]; exact st,sO,hO.trans hy,wO.trans wy,rO.trans ry,by simp only; omega,hstep,?_,?_,?_,?_⟩<;>simp only[g0,g1,g12,aW,seval])
   | (simp only [g0, g1, g12, g13, hd, hb, hT, h1, hia, hnb, hldX, hdl, hdg, hd0, hd1, hd2, zW, seval]
      refine hW.to ?_
      simp only[zW,seval]
      refine hB.mono ?_
      rintro _ Y ⟨rfl,p2,st2⟩
      rw[show Y=ext Y [] from rfl]
      simp only[g13,hws,zW,seval]
      refine aM ⟨(i+1,y.dS (a::r') i,p2),by simp only; omega,by rw[hone]; exact st.trans ok st2,sO,hO.trans hy,wO.trans wy,rO.trans ry,by simp only; omega,hstep,?_,?_,?_,?_⟩<;>simp only[g0,g1,g12,aW,seval])
theorem OJ {x:Tm} (s:x.Sz) {top bot n:Nat} (up:Bool) (h1:top<=bot) (h2:bot<x.h):(x.fN top bot n up).h=x.h/\(x.fN top bot n up).w=x.w/\(∀ l∈(x.fN top bot n up).ah,l.length=x.w/\(l.getD 0 sp).rune≠-1):=by
 have hgl:x.ah.length=x.h:=rfl
 have hall:∀ l∈(x.fN top bot n up).ah,l.length=x.w/\(l.getD 0 sp).rune≠-1:=by
  have hsub:=su x.ah top (bot+1-top) (min n (bot+1-top)) up
  rw[B2,wU]
  intro l hl
  simp only[zB2]at hl
  rcases hl with (h|h)|h
  ·have:=hsub.mem (a:=l) (by simp[h]); exact⟨s.ws l this,s.hd l this⟩
  ·rw[List.eq_of_mem_replicate h]
   refine⟨by simp,?_⟩
   have:=s.w1
   obtain⟨w,hw⟩:∃ w,x.w=w+1:=⟨x.w-1,by omega⟩
   rw[hw]
   simp[List.replicate_succ,rQ]
  ·have:=hsub.mem (a:=l) (by simp[h]); exact⟨s.ws l this,s.hd l this⟩
 have hlen:(x.fN top bot n up).ah.length=x.h:=by
  rw[B2,wU]
  simp only[zB4,zE4]
  rw[kn x.ah up (by omega) (by omega),tV x.ah up (by omega) (by omega)]
  cases up<;>simp<;>omega
 refine⟨hlen,?_,hall⟩
 have h1:=s.h1
 show ((x.fN top bot n up).ah.headD []).length=x.w
 generalize (x.fN top bot n up).ah=L at hall hlen
 cases L with
 |nil=>simp at hlen; omega
 |cons a r=>exact (hall a (by simp)).1
theorem Tm.Sz.fN {x:Tm} (s:x.Sz) {top bot n:Nat} (up:Bool) (h1:top<=bot) (h2:bot<x.h):(x.fN top bot n up).Sz:=by
 obtain⟨e1,e2,e3⟩:=OJ (n:=n) s up h1 h2
 exact⟨by rw[e1]; exact s.h1,by rw[e1]; exact s.h2,by rw[e2]; exact s.w1,by rw[e2]; exact s.w2,fun r hr=>by rw[e2]; exact (e3 r hr).1,s.r1,by rw[e1]; exact s.r2,s.c1,by rw[e2]; exact s.c2,s.sr1,by rw[e1]; exact s.sr2,s.sc1,by rw[e2]; exact s.sc2,s.t1,s.t2,by rw[e1]; exact s.t3,s.md,fun r hr=>(e3 r hr).2⟩
theorem Tm.Sz.lines {x:Tm} (s:x.Sz) (n:Nat) (up:Bool):(x.lines n up).Sz:=by
 unfold Tm.lines
 split
 ·rename_i h
  obtain⟨r,hr⟩:∃ r:Nat,x.row=r:=⟨x.row.toNat,by have:=s.r1; omega⟩
  obtain⟨b,hb⟩:∃ b:Nat,x.bottom=b:=⟨x.bottom.toNat,by have:=s.t1; have:=s.t2; omega⟩
  rw[hr,hb]
  have:=s.t3
  exact s.fN up (by omega) (by omega)
 ·exact s
theorem Hk (H:aa) (p:Rp) (x:Tm) (n:Nat) (up:Bool) (g:cd H p x) (s:x.Sz) (ok:H.base<=H.next) (hn1:1<=n) (hn2:n<=10000):gF 160 [.int .i64 (n:Int),.bool up] H p (.tuple #[]) (x.lines n up):=by
 obtain⟨b,hb⟩:=Go.Ax.bP H.next
 have hT:p.t<b:=hb▸g.lt p.t (by simp[Rp.aJ])
 have h1:=g.cell
 simp only[ba]at h1
 obtain⟨r,hr⟩:∃ r:Nat,x.row=r:=⟨x.row.toNat,by have:=s.r1; omega⟩
 obtain⟨bo,hbo⟩:∃ b:Nat,x.bottom=b:=⟨x.bottom.toNat,by have:=s.t1; have:=s.t2; omega⟩
 obtain⟨d1,hd1⟩:∃ d,decide (x.top<=x.row)=d:=⟨_,rfl⟩
 obtain⟨d2,hd2⟩:∃ d,decide (x.row<=x.bottom)=d:=⟨_,rfl⟩
 have e1:x.row ≥ x.top ↔ d1=true:=by rw[<-hd1,decide_eq_true_iff]
 have e2:x.row<=x.bottom ↔ d2=true:=by rw[<-hd2,decide_eq_true_iff]
 have key:x.lines n up=cond (d1&&d2) (x.fN r bo n up) x:=by
  unfold Tm.lines
  simp only[e1,e2]
  rw[hr,hbo]
  cases d1<;>cases d2<;>rfl
 rw[key]
 refine aG mixed Tryz.func160 rfl Tryz.ntmps160 (zA6 rfl) ?_
 simp only[zW,seval]
 refine bf [] [(10,16)] (by kernel_rfl) rfl (by kernel_rfl) fun ops anc hA hG=>?_
 simp only[aw]at hG
 cases d1 with
 |false =>
  simp only[hb,hT,h1,hd1,hG,Bool.false_and,cond_false,Tryz.results160,b9,zW,seval]
  exact⟨p,Step.refl g⟩
 |true =>
  cases d2 with
  |false =>
   simp only[hb,hT,h1,hd1,hd2,hG,Bool.true_and,cond_false,Tryz.results160,b9,zW,seval]
   exact⟨p,Step.refl g⟩
  |true =>
   simp only[hb,hT,h1,hd1,hd2,hG,Bool.true_and,cond_true,b9,zW,seval]
   refine bf [(12,5),(12,9)] [] (by kernel_rfl) (by kernel_rfl) rfl fun ops anc hA hG=>?_
   simp only[aw]at hA
   simp only[hb,hT,h1,b9,zW,seval]
   refine ed (as':=[.int .i64 x.row,.int .i64 x.bottom,.int .i64 (n:Int),.bool up]) g ok rfl (by kernel_rfl) (by decide) rfl (by simp only[aw,cx,hA,true_or,and_true]) (fun G gG okG=>by rw[hr,hbo]; exact EV G p x r bo n up gG s okG (by have:=e2.2 rfl; omega) (by have:=s.t3; omega) hn1 hn2) fun H1 p1 st=>?_
   rw[show H1=ext H1 [] from rfl]
   simp only[Tryz.results160,b9,lh]
   exact⟨p1,st⟩
theorem xe (H:aa) (p:Rp) (x:Tm) (v:Value) (l:List Int) (g:cd H p x) (s:x.Sz) (ok:H.base<=H.next) (hp:kJ H v l):gF 147 [v] H p (.tuple #[]) (x.lines (count l) false):=by
 have hc:=hp.count
 obtain⟨n,hn⟩:∃ n:Nat,count l=n:=⟨(count l).toNat,by omega⟩
 refine aG mixed Tryz.func147 rfl Tryz.ntmps147 (zA6 rfl) ?_
 simp only[zW,seval]
 refine (jw (ext H []) v l hp.at_ hp.ne).to ?_
 rw[hn]
 simp only[zW,seval]
 refine (Hk (ext H []) p x n false g s ok (by omega) (by omega)).mono ?_
 rintro _ H1 ⟨rfl,p1,st⟩
 rw[show H1=ext H1 [] from rfl]
 simp only[Tryz.results147,lh,seval]
 exact⟨trivial,p1,st⟩
theorem wb (H:aa) (p:Rp) (x:Tm) (v:Value) (l:List Int) (g:cd H p x) (s:x.Sz) (ok:H.base<=H.next) (hp:kJ H v l):gF 148 [v] H p (.tuple #[]) (x.lines (count l) true):=by
 have hc:=hp.count
 obtain⟨n,hn⟩:∃ n:Nat,count l=n:=⟨(count l).toNat,by omega⟩
 refine aG mixed Tryz.func148 rfl Tryz.ntmps148 (zA6 rfl) ?_
 simp only[zW,seval]
 refine (jw (ext H []) v l hp.at_ hp.ne).to ?_
 rw[hn]
 simp only[zW,seval]
 refine (Hk (ext H []) p x n true g s ok (by omega) (by omega)).mono ?_
 rintro _ H1 ⟨rfl,p1,st⟩
 rw[show H1=ext H1 [] from rfl]
 simp only[Tryz.results148,lh,seval]
 exact⟨trivial,p1,st⟩
theorem Tm.Sz.Sa {x:Tm} (s:x.Sz) (a b:Int) (h1:0<=a) (h2:a<=b) (h3:b<x.h):Tm.Sz {x with top:=a,bottom:=b} :=
 ⟨s.h1,s.h2,s.w1,s.w2,s.ws,s.r1,s.r2,s.c1,s.c2,s.sr1,s.sr2,s.sc1,s.sc2,h1,h2,h3,s.md,s.hd⟩
def F6 (x:Tm) (l:List Int):Int:=if snd l-1<0\/snd l-1 ≥ x.bS then x.bS-1 else snd l-1
theorem GG {x:Tm} (s:x.Sz) (l:List Int):F6 x l<x.h:=by
 unfold F6
 rw[pB]
 split
 ·omega
 ·rename_i h; omega
theorem tA (x:Tm) (l:List Int):x.region l=if count l-1<=F6 x l then Tm.cn {x with top:=count l-1,bottom:=F6 x l} 0 0 else x:=rfl
theorem Tm.Sz.region {x:Tm} (s:x.Sz) (l:List Int):(x.region l).Sz:=by
 rw[tA]
 split
 ·rename_i h
  refine (s.Sa _ _ ?_ h (GG s l)).cn 0 0
  simp only[count]; omega
 ·exact s
theorem Nj (H:aa) (p:Rp) (x:Tm) (v:Value) (l:List Int) (g:cd H p x) (s:x.Sz) (ok:H.base<=H.next) (hp:kJ H v l):gF 150 [v] H p (.tuple #[]) (x.region l):=by
 obtain⟨b,hb⟩:=Go.Ax.bP H.next
 have hT:p.t<b:=hb▸g.lt p.t (by simp[Rp.aJ])
 have h1:=g.cell
 simp only[ba]at h1
 have hc:=hp.count
 have hsn:=hp.snd
 have s1:=s.h2
 have s0:=s.h1
 have hw1:IntKind.i64.wrap (count l-1)=count l-1:=aQ (by omega) (by omega)
 have hw2:IntKind.i64.wrap (snd l-1)=snd l-1:=aQ (by omega) (by omega)
 have hw3:IntKind.i64.wrap ((x.h:Int)-1)=(x.h:Int)-1:=aQ (by omega) (by omega)
 obtain⟨d1,hd1⟩:∃ d,decide (snd l-1<0)=d:=⟨_,rfl⟩
 obtain⟨d2,hd2⟩:∃ d,decide ((x.h:Int)<=snd l-1)=d:=⟨_,rfl⟩
 have e1:snd l-1<0 ↔ d1=true:=by rw[<-hd1,decide_eq_true_iff]
 have e2:snd l-1 ≥ (x.h:Int) ↔ d2=true:=by rw[<-hd2,decide_eq_true_iff]
 have hB:F6 x l=cond (d1||d2) ((x.h:Int)-1) (snd l-1):=by
  unfold F6
  simp only[pB,e1,e2]
  cases d1<;>cases d2<;>rfl
 obtain⟨B,hBe⟩:=Go.Ax.bP (F6 x l)
 have hBl:=GG s l
 obtain⟨d3,hd3⟩:∃ d,decide (count l-1<=B)=d:=⟨_,rfl⟩
 have e3:count l-1<=B ↔ d3=true:=by rw[<-hd3,decide_eq_true_iff]
 rw[tA]
 rw[hBe]at hB hBl ⊢
 have key:(if count l-1<=B then Tm.cn {x with top:=count l-1,bottom:=B} 0 0 else x)=cond d3 (Tm.cn {x with top:=count l-1,bottom:=B} 0 0) x:=by
  simp only[e3]
  cases d3<;>rfl
 rw[key]
 refine aG mixed Tryz.func150 rfl Tryz.ntmps150 (zA6 rfl) ?_
 refine kH (fun E' H'=>H'=H/\E' 0=.pointer (some ⟨p.t,0,none⟩)/\E' 4=.int .i64 (count l-1)/\E' 5=.int .i64 (snd l-1)) ?_ ?_
 ·simp only[zW,seval]
  refine (jw (ext H []) v l hp.at_ hp.ne).to ?_
  simp only[hw1,zW,seval]
  refine (Es (ext H []) v l hp.at_).to ?_
  simp only[hw2,zW,seval]
  refine aj ⟨rfl,?_,?_,?_⟩<;>simp only[aW,seval]
 rintro E X ⟨hX,g0,g4,g5⟩
 rw[hX]
 refine kH (fun E' H'=>H'=H/\E' 0=.pointer (some ⟨p.t,0,none⟩)/\E' 4=.int .i64 (count l-1)/\E' 5=.int .i64 B) ?_ ?_
 ·rw[show H=ext H [] from rfl]
  cases d1<;>cases d2<;>(simp only[Bool.or_true,Bool.or_false,cond_true,cond_false]at hB; simp (maxDischargeDepth:=6) only[g0,g5,hb,hT,h1,hd1,hd2,hw3,zW,seval]; refine aj ⟨rfl,?_,?_,?_⟩<;>simp (maxDischargeDepth:=6) only[g0,g4,g5,hB,aW,seval])
 clear hX g0 g4 g5 E X
 rintro E X ⟨hX,g0,g4,g5⟩
 rw[hX]
 cases d3 with
 |false =>
  simp only[g4,g5,hd3,cond_false,Tryz.results150,zW,seval]
  exact⟨trivial,p,Step.refl g⟩
 |true =>
  have hle:=e3.2 rfl
  rw[show H=ext H [] from rfl]
  simp only[g0,g4,g5,hb,hT,h1,hd3,cond_true,zW,seval]
  generalize hV:uw (uw H p.t 16 _) p.t 17 _=V
  have st:Step H p V p {x with top:=count l-1,bottom:=B}:=by
   rw[<-hV]
   exact g.two (off:=16) (off2:=17) (vs:=[.int .i64 (count l-1)]) (vs2:=[.int .i64 B]) (y:={x with top:=count l-1,bottom:=B}) rfl rfl rfl rfl
  refine (jM (ext V []) p _ 0 0 st.at_ (s.Sa _ _ (by omega) hle hBl) (st.ok ok)).mono ?_
  rintro _ H1 ⟨rfl,p1,st2⟩
  rw[show H1=ext H1 [] from rfl]
  simp only[Tryz.results150,lh,seval]
  exact⟨trivial,p1,st.trans ok st2⟩
theorem Tm.Sz.Dy {x:Tm} (s:x.Sz) (c:Int) (c1:0<=c) (c2:c<=x.w):Tm.Sz {x with col:=c}:=s.move x.row c s.r1 s.r2 c1 c2
theorem Tm.Sz.Pb {x:Tm} (s:x.Sz) (r:Int) (c1:0<=r) (c2:r<x.h):Tm.Sz {x with row:=r}:=s.move r x.col c1 c2 s.c1 s.c2
theorem Rk {a:Int} (h:0<=a):a.tmod 8=a % 8:=Int.tmod_eq_emod_of_nonneg h
theorem Tm.Sz.control {x:Tm} (s:x.Sz) (c:Int):(x.control c).Sz:=by
 have hi:=kt s
 have h1:=s.h1
 have w1:=s.w1
 have c1:=s.c1
 have c2:=s.c2
 unfold Tm.control
 rw[pk,pB]
 split
 ·exact s.Dy _ (by omega) (by omega)
 ·split
  ·exact s.Dy _ (by omega) (by omega)
  ·split
   ·split
    ·obtain⟨t,ht⟩:∃ r:Nat,x.top=r:=⟨x.top.toNat,by have:=s.t1; omega⟩
     obtain⟨b,hb⟩:∃ b:Nat,x.bottom=b:=⟨x.bottom.toNat,by have:=s.t1; have:=s.t2; omega⟩
     rw[ht,hb]
     exact s.fN (n:=1) true (by have:=s.t2; omega) (by have:=s.t3; omega)
    ·exact s.Pb _ (by have:=s.r1; omega) (by omega)
   ·split
    ·exact s.Dy _ (by omega) (by omega)
    ·exact s
theorem Jn (H:aa) (p:Rp) (x:Tm) (c:Int) (g:cd H p x) (s:x.Sz) (ok:H.base<=H.next):gF 113 [.int .i64 c] H p (.tuple #[]) (x.control c):=by
 obtain⟨b,hb⟩:=Go.Ax.bP H.next
 have hT:p.t<b:=hb▸g.lt p.t (by simp[Rp.aJ])
 have h1:=g.cell
 simp only[ba]at h1
 have hi:=kt s
 have s1:=s.h2
 have s2:=s.w2
 have s3:=s.c1
 have s4:=s.c2
 have s5:=s.r1
 have s6:=s.r2
 obtain⟨to,hto⟩:∃ r:Nat,x.top=r:=⟨x.top.toNat,by have:=s.t1; omega⟩
 obtain⟨bo,hbo⟩:∃ b:Nat,x.bottom=b:=⟨x.bottom.toNat,by have:=s.t1; have:=s.t2; omega⟩
 obtain⟨d8,hd8⟩:∃ d,decide (c=8)=d:=⟨_,rfl⟩
 obtain⟨d9,hd9⟩:∃ d,decide (c=9)=d:=⟨_,rfl⟩
 obtain⟨d10,hd10⟩:∃ d,decide (c=10)=d:=⟨_,rfl⟩
 obtain⟨d13,hd13⟩:∃ d,decide (c=13)=d:=⟨_,rfl⟩
 obtain⟨db,hdb⟩:∃ d,decide (x.row=x.bottom)=d:=⟨_,rfl⟩
 have e8:=gq hd8
 have e9:=gq hd9
 have e10:=gq hd10
 have e13:=gq hd13
 have eb:=gq hdb
 have hw1:IntKind.i64.wrap (x.inside-1)=x.inside-1:=aQ (by omega) (by omega)
 have hw2:IntKind.i64.wrap ((x.w:Int)-1)=(x.w:Int)-1:=aQ (by omega) (by omega)
 have hm8:=Rk s3
 have hw3:IntKind.i64.wrap (x.col-x.col % 8)=x.col-x.col % 8:=aQ (by omega) (by omega)
 have hw4:IntKind.i64.wrap (x.col-x.col % 8+8)=x.col-x.col % 8+8:=aQ (by omega) (by omega)
 have hw5:IntKind.i64.wrap (x.row+1)=x.row+1:=aQ (by omega) (by omega)
 have hw6:IntKind.i64.wrap ((x.h:Int)-1)=(x.h:Int)-1:=aQ (by omega) (by omega)
 have key:x.control c=cond d8 {x with col:=max 0 (x.inside-1)} (cond d9 {x with col:=min ((x.w:Int)-1) (x.col-x.col % 8+8)} (cond d10 (cond db (x.fN to bo (1:Nat) true) {x with row:=min (x.row+1) ((x.h:Int)-1)}) (cond d13 {x with col:=0} x))):=by
  unfold Tm.control
  simp only[e8,e9,e10,e13,eb]
  rw[pk,pB,hto,hbo]
  cases d8<;>cases d9<;>cases d10<;>cases d13<;>cases db<;>rfl
 rw[key]
 refine aG mixed Tryz.func113 rfl Tryz.ntmps113 (zA6 rfl) ?_
 cases d8 with
 |true =>
  simp only[hd8,cond_true,zW,seval]
  refine (oI (ext H []) p x g s).to ?_
  simp only[hb,hT,h1,hw1,Tryz.results113,zW,seval]
  exact⟨trivial,p,g.one (y:={x with col:=max 0 (x.inside-1)}) rfl rfl rfl rfl⟩
 |false =>
  cases d9 with
  |true =>
   simp only[hd8,hd9,cond_true,cond_false,zW,seval]
   refine bf [(21,2),(21,8),(21,13)] [] (by kernel_rfl) (by kernel_rfl) rfl fun ops anc hA hG=>?_
   simp only[aw]at hA
   simp only[b9,aW,seval]
   refine bx (v:=.int .i64 (x.w:Int)) p.aJ (by simp only[aW,seval]) (by kernel_rfl) (by decide) g.ne (fun K hn hg=>?_) (by simp (maxDischargeDepth:=6) only[b9]) ?_
   ·simp only[aW]
    exact gW K p x (g.of (by rw[hn]; exact zA8 _) hg) s
   simp only[hb,hT,h1,hA,hw2,hm8,hw3,hw4,seval,Tryz.results113,b9,zW]
   exact⟨p,g.one (y:={x with col:=min ((x.w:Int)-1) (x.col-x.col % 8+8)}) rfl rfl rfl rfl⟩
  |false =>
   cases d10 with
   |true =>
    simp only[hd8,hd9,hd10,cond_true,cond_false,zW,seval]
    refine bf [] [] (by kernel_rfl) rfl rfl fun ops anc hA hG=>?_
    simp only[hb,hT,h1,b9,zW,seval]
    cases db with
    |true =>
     simp only[hdb,cond_true,lh]
     refine bf [(9,4),(9,8)] [] (by kernel_rfl) (by kernel_rfl) rfl fun ops anc hA hG=>?_
     simp only[aw]at hA
     simp only[hb,hT,h1,b9,zW,seval]
     refine ed (as':=[.int .i64 x.top,.int .i64 x.bottom,.int .i64 ((1:Nat):Int),.bool true]) g ok rfl (by kernel_rfl) (by decide) (by simp only[aW,seval]<;>rfl) (by simp only[aw,cx,hA,true_or,and_true]) (fun G gG okG=>by rw[hto,hbo]; exact EV G p x to bo 1 true gG s okG (by have:=s.t2; omega) (by have:=s.t3; omega) (by omega) (by omega)) fun H1 p1 st=>?_
     rw[show H1=ext H1 [] from rfl]
     simp only[Tryz.results113,b9,lh]
     exact⟨p1,st⟩
    |false =>
     simp only[hdb,cond_false,lh]
     refine bf [(17,5),(17,10)] [] (by kernel_rfl) (by kernel_rfl) rfl fun ops anc hA hG=>?_
     simp only[aw]at hA
     simp only[hb,hT,h1,hA,hw5,hw6,Tryz.results113,b9,zW,seval]
     exact⟨p,g.one (y:={x with row:=min (x.row+1) ((x.h:Int)-1)}) rfl rfl rfl rfl⟩
   |false =>
    cases d13 with
    |true =>
     simp only[hb,hT,h1,hd8,hd9,hd10,hd13,cond_true,cond_false,Tryz.results113,zW,seval]
     exact⟨trivial,p,g.one (y:={x with col:=0}) rfl rfl rfl rfl⟩
    |false =>
     simp only[hd8,hd9,hd10,hd13,cond_false,Tryz.results113,zW,seval]
     exact⟨trivial,p,Step.refl g⟩
structure Wd (wd:Int->Nat):Prop where
 call:∀ (c:Int) (H:aa),-2147483648<=c->c<=2147483647->Pure 88 [.int .i64 c] H (.int .i64 (wd c:Int))
 le:∀ c,wd c<=2
def Tm.put (x:Tm) (k i:Nat) (c:Ce):Tm:=x.setRow k ((x.ah.getD k []).set i c)
theorem Tm.Sz.put {x:Tm} (s:x.Sz) {k i:Nat} {c:Ce} (hk:k<x.h) (hc:c.rune≠-1\/i≠0):(x.put k i c).Sz:=by
 obtain⟨l,_,e,hl,hd⟩:=s.rowAt hk
 unfold Tm.put
 rw[e]
 exact s.setRow (by simp[hl]) (E3 l i c hc hd)
theorem Fo {x:Tm} (s:x.Sz) {k i:Nat} {c:Ce} (hk:k<x.h):(x.put k i c).h=x.h/\(x.put k i c).w=x.w:=by
 obtain⟨l,_,e,hl,hd⟩:=s.rowAt hk
 unfold Tm.put
 rw[e]
 exact⟨yV x k _,wR s k _ (by simp[hl])⟩
def Tm.written (x:Tm) (r c n:Nat) (ch:Int):Tm :=
 let t:=x.blank r c (c+n:Nat)
 let t:=t.put r c ⟨ch,x.pen⟩
 let t:=if n=2 then t.put r (c+1) ⟨-1,x.pen⟩ else t
 {t with col:=x.col+n}
theorem DO (u:yY) (x:Tm) (ch:Int) (r c:Nat) (hr:x.row=r) (hc:x.col=c):x.write u ch=if u.wd ch=0\/x.col+u.wd ch>(x.w:Int) then x else x.written r c (u.wd ch) ch:=by
 obtain⟨row,col,pen,srow,scol,spen,ah,shown,top,bottom,mode,rest,params,middle,last⟩:=x
 simp only at hr hc
 subst hr
 subst hc
 unfold Tm.write Tm.written
 generalize u.wd ch=n
 simp only[pk]
 split
 ·rfl
 ·split<;>rfl
theorem Tm.Sz.written {x:Tm} (s:x.Sz) {r c n:Nat} {ch:Int} (hr:r<x.h) (hc:x.col=c) (hcn:c+n<=x.w) (hch:ch≠-1):(x.written r c n ch).Sz:=by
 have s1:=s.blank hr (show c<=c+n by omega) hcn
 have h1:=gP s hr (show c<=c+n by omega) hcn
 have s2:=s1.put (i:=c) (c:=⟨ch,x.pen⟩) (by rw[h1.1]; exact hr) (.inl hch)
 have h2:=Fo s1 (i:=c) (c:=⟨ch,x.pen⟩) (by rw[h1.1]; exact hr)
 unfold Tm.written
 simp only
 split
 ·have s3:=s2.put (i:=c+1) (c:=⟨-1,x.pen⟩) (by rw[h2.1,h1.1]; exact hr) (.inr (by omega))
  have h3:=Fo s2 (i:=c+1) (c:=⟨-1,x.pen⟩) (by rw[h2.1,h1.1]; exact hr)
  exact s3.Dy _ (by omega) (by rw[h3.2,h2.2,h1.2]; omega)
 ·exact s2.Dy _ (by omega) (by rw[h2.2,h1.2]; omega)
theorem cd.Rd {H:aa} {p:Rp} {x:Tm} (g:cd H p x) (s:x.Sz) {k i:Nat} {q:Nat × Bool} (hk:k<x.h) (hq:p.rs[k]?=some q) (hi:i<x.w) (c:Ce):Step H p (ext (uw H q.1 (i*6) c.cells) []) p (x.put k i c):=by
 obtain⟨l,e1,e,hl,_⟩:=s.rowAt hk
 unfold Tm.put
 rw[e]
 exact g.putRow hq e1 (Mod.uw (by simp)) (vL (g.row k q l hq e1) (by omega)) (by simp)
theorem Oa (u:yY) (hu:Wd u.wd) (H:aa) (p:Rp) (x:Tm) (ch:Int) (g:cd H p x) (s:x.Sz) (ok:H.base<=H.next) (hc1:-2147483648<=ch) (hc2:ch<=2147483647) (hch:ch≠-1):gF 114 [.int .i64 ch] H p (.tuple #[]) (x.write u ch):=by
 obtain⟨b,hb⟩:=Go.Ax.bP H.next
 have hT:p.t<b:=hb▸g.lt p.t (by simp[Rp.aJ])
 have h1:=g.cell
 simp only[ba]at h1
 have s2:=s.w2
 obtain⟨r,hr⟩:∃ r:Nat,x.row=r:=⟨x.row.toNat,by have:=s.r1; omega⟩
 obtain⟨c,hc⟩:∃ c:Nat,x.col=c:=⟨x.col.toNat,by have:=s.c1; omega⟩
 have hrh:r<x.h:=by have:=s.r2; omega
 rw[DO u x ch r c hr hc]
 have hn2:=hu.le ch
 have hwd:=hu.call ch (ext H []) hc1 hc2
 generalize hn:u.wd ch=n at hn2 hwd
 obtain⟨d0,hd0⟩:∃ d,decide ((n:Int)=0)=d:=⟨_,rfl⟩
 obtain⟨d1,hd1⟩:∃ d,decide ((x.w:Int)<x.col+n)=d:=⟨_,rfl⟩
 have e0:n=0 ↔ d0=true:=by rw[<-hd0,decide_eq_true_iff]; omega
 have e1:x.col+(n:Int)>(x.w:Int) ↔ d1=true:=by rw[<-hd1,decide_eq_true_iff]
 have hw1:IntKind.i64.wrap (x.col+(n:Int))=x.col+(n:Int):=aQ (by have:=s.c2; omega) (by have:=s.c2; omega)
 have key:(if n=0\/x.col+(n:Int)>(x.w:Int) then x else x.written r c n ch)=cond (d0||d1) x (x.written r c n ch):=by
  simp only[e0,e1]
  cases d0<;>cases d1<;>rfl
 rw[key]
 refine aG mixed Tryz.func114 rfl Tryz.ntmps114 (zA6 rfl) ?_
 simp only[zW,seval]
 refine hwd.to ?_
 simp only[zW,seval]
 refine bf [] [(2,10)] (by kernel_rfl) rfl (by kernel_rfl) fun ops anc hA hG=>?_
 simp only[aw]at hG
 cases d0 with
 |true =>
  simp only[hd0,hG,Bool.true_or,cond_true,Tryz.results114,b9,zW,seval]
  exact⟨p,Step.refl g⟩
 |false =>
  simp only[hb,hT,h1,hd0,hG,hw1,b9,zW,seval]
  refine bx (v:=.int .i64 (x.w:Int)) p.aJ (by simp only[aW,seval]) (by kernel_rfl) (by decide) g.ne (fun K hn hg=>?_) (by simp (maxDischargeDepth:=6) only[b9]) ?_
  ·simp only[aW]
   exact gW K p x (g.of (by rw[hn]; exact zA8 _) hg) s
  cases d1 with
  |true =>
   simp only[hb,hd1,hG,Bool.or_true,cond_true,Tryz.results114,b9,zW,seval]
   exact⟨p,Step.refl g⟩
  |false =>
   simp only[hb,hd1,hG,Bool.or_false,cond_false,b9,zW,seval]
   have hcn:c+n<=x.w:=by
    have:¬(x.col+(n:Int)>(x.w:Int)):=fun h=>by have:=e1.1 h; simp at this
    omega
   have hn1:1<=n:=by
    have:¬n=0:=fun h=>by have:=e0.1 h; simp at this
    omega
   have hcw:c<x.w:=by omega
   refine bf [(18,5),(18,10),(18,15)] [] (by kernel_rfl) (by kernel_rfl) rfl fun ops anc hA hG=>?_
   simp only[aw]at hA
   simp only[hb,hT,h1,hw1,b9,zW,seval]
   refine ed (as':=[.int .i64 x.row,.int .i64 x.col,.int .i64 (x.col+(n:Int))]) g ok rfl (by kernel_rfl) (by decide) rfl (by simp only[aw,cx,hA,true_or,and_true]) (fun G gG okG=>by rw[hr,hc]; exact si gG s okG hrh (show c<=c+n by omega) hcn) fun V p1 st=>?_
   have sz1:=s.blank hrh (show c<=c+n by omega) hcn
   have hw2:=gP s hrh (show c<=c+n by omega) hcn
   have hT1:p.t<V.next:=st.same▸st.at_.lt p1.t (by simp[Rp.aJ])
   have hR1:p1.rb<V.next:=st.at_.lt p1.rb (by simp[Rp.aJ])
   have v1:=st.at_.cell
   rw[st.same]at v1
   simp only[ba,hw2.1]at v1
   have v2:=st.at_.rows
   rw[hw2.2]at v2
   obtain⟨l,el,_⟩:=sz1.rowAt (k:=r) (by rw[hw2.1]; exact hrh)
   obtain⟨q,hq,hqm,hqb⟩:=st.at_.rowOf el
   have hqr:(p1.rs.map (bB x.w))[r]?=some (bB x.w q):=by rw[zF0,hq]; rfl
   have hQ:q.1<V.next:=st.at_.lt q.1 hqm
   obtain⟨_,hqt,hqrb⟩:=st.at_.Ky hq
   rw[st.same]at hqt
   have hri:=sG (len:=x.h) (cap:=x.h) (n:=p1.rb) (s:=none) (i:=x.row) (k:=r) hr hrh
   have hci:=iG (len:=x.w) (cap:=x.w) (n:=q.1) (s:=if q.2=true then none else some 0) (i:=x.col) (k:=c) hc hcw
   obtain⟨vb,hvb⟩:=Go.Ax.bP V.next
   rw[hvb]at hT1 hR1 hQ
   have hrow1:(x.blank (↑r) (↑c) (↑(c+n))).row=x.row:=rfl
   have hcol1:(x.blank (↑r) (↑c) (↑(c+n))).col=x.col:=rfl
   have hpen1:(x.blank (↑r) (↑c) (↑(c+n))).pen=x.pen:=rfl
   rw[show V=ext V [] from rfl]
   simp only[lh]
   refine bf [] [] (by kernel_rfl) rfl rfl fun ops anc hA hG=>?_
   simp only[hvb,hT1,hR1,v1,v2,hrow1,hcol1,hpen1,hqr,hri,bB,b9,zW,seval]
   have hst:∀ N,vw Tryz.prog 77 N (c*6) (.agg ⟨[.int .i64 ch,.int .i64 x.pen.fore,.int .i64 x.pen.back,.bool x.pen.bold,.bool x.pen.under,.bool x.pen.inv]⟩) (some ⟨77,q.2,aN l⟩)=some ⟨77,q.2,aN (l.set c ⟨ch,x.pen⟩)⟩:=fun N=>jL (c:=⟨ch,x.pen⟩) (by omega)
   refine bf [(14,5),(14,11)] [] (by kernel_rfl) (by kernel_rfl) rfl fun ops anc hA hG=>?_
   simp only[aw]at hA
   simp only[hvb,hT1,hQ,v1,hrow1,hcol1,hpen1,hci,hqb,hst,hA,b9,zW,seval]
   have st2:=st.trans ok (st.at_.Rd sz1 (by rw[hw2.1]; exact hrh) hq (by rw[hw2.2]; exact hcw) ⟨ch,x.pen⟩)
   have sz2:=sz1.put (k:=r) (i:=c) (c:=⟨ch,x.pen⟩) (by rw[hw2.1]; exact hrh) (.inl hch)
   have hw3:=Fo sz1 (k:=r) (i:=c) (c:=⟨ch,x.pen⟩) (by rw[hw2.1]; exact hrh)
   obtain⟨d2,hd2⟩:∃ d,decide ((n:Int)=2)=d:=⟨_,rfl⟩
   have e2:n=2 ↔ d2=true:=by rw[<-hd2,decide_eq_true_iff]; omega
   have hwr:x.written r c n ch={cond d2 (((x.blank r c (c+n:Nat)).put r c ⟨ch,x.pen⟩).put r (c+1) ⟨-1,x.pen⟩) ((x.blank r c (c+n:Nat)).put r c ⟨ch,x.pen⟩) with col:=x.col+n}:=by
    unfold Tm.written
    simp only[e2]
    cases d2<;>rfl
   rw[hwr]
   simp only[Ce.cells]at st2
   generalize hW:uw V q.1 (c*6) _=W at st2 ⊢
   have hWn:W.next=vb:=by rw[<-hW,b6,hvb]
   have hT2:p.t<vb:=hT1
   rw[ext_nil]at st2
   cases d2 with
   |false =>
    have v3:=st2.at_.cell
    rw[st.same]at v3
    simp only[ba]at v3
    have hcol2:((x.blank (↑r) (↑c) (↑(c+n))).put r c ⟨ch,x.pen⟩).col=x.col:=rfl
    simp only[hWn,hT1,v3,hcol2,hw1,hd2,cond_false,Tryz.results114,b9,zW,seval]
    refine⟨p1,?_⟩
    have st3:=st2.trans ok (st2.at_.one (off:=1) (vs:=[.int .i64 (x.col+n)]) (y:={(x.blank r c (c+n:Nat)).put r c ⟨ch,x.pen⟩ with col:=x.col+n}) rfl rfl rfl rfl)
    rw[st.same]at st3
    exact st3
   |true =>
    have hn2':=e2.2 rfl
    have v3:=st2.at_.cell
    rw[st.same]at v3
    simp only[ba]at v3
    have hcol2:((x.blank (↑r) (↑c) (↑(c+n))).put r c ⟨ch,x.pen⟩).col=x.col:=rfl
    have hpen2:((x.blank (↑r) (↑c) (↑(c+n))).put r c ⟨ch,x.pen⟩).pen=x.pen:=rfl
    obtain⟨l2,el2,_⟩:=sz2.rowAt (k:=r) (by rw[hw3.1,hw2.1]; exact hrh)
    have hqb2:=st2.at_.row r q l2 hq el2
    have hci2:=iG (len:=x.w) (cap:=x.w) (n:=q.1) (s:=if q.2=true then none else some 0) (i:=x.col+1) (k:=c+1) (by omega) (by omega)
    have hw4:IntKind.i64.wrap (x.col+1)=x.col+1:=aQ (by omega) (by omega)
    have hst2:∀ N,vw Tryz.prog 77 N ((c+1)*6) (.agg ⟨[.int .i64 (-1),.int .i64 x.pen.fore,.int .i64 x.pen.back,.bool x.pen.bold,.bool x.pen.under,.bool x.pen.inv]⟩) (some ⟨77,q.2,aN l2⟩)=some ⟨77,q.2,aN (l2.set (c+1) ⟨-1,x.pen⟩)⟩:=fun N=>jL (c:=⟨-1,x.pen⟩) (by omega)
    simp only[hd2,cond_true,lh]
    refine bf [(14,5),(14,11)] [] (by kernel_rfl) (by kernel_rfl) rfl fun ops anc hA hG=>?_
    simp only[aw]at hA
    simp only[hWn,hT1,hQ,v3,hcol2,hpen2,hw4,hci2,hqb2,hst2,hA,b9,zW,seval]
    have st3:=st2.trans ok (st2.at_.Rd (i:=c+1) sz2 (by rw[hw3.1,hw2.1]; exact hrh) hq (by rw[hw3.2,hw2.2]; omega) ⟨-1,x.pen⟩)
    simp only[Ce.cells]at st3
    generalize hZ:uw W q.1 ((c+1)*6) _=Z at st3 ⊢
    have hZn:Z.next=vb:=by rw[<-hZ,b6,hWn]
    rw[ext_nil]at st3
    have v4:=st3.at_.cell
    rw[st.same]at v4
    simp only[ba]at v4
    have hcol3:(((x.blank (↑r) (↑c) (↑(c+n))).put r c ⟨ch,x.pen⟩).put r (c+1) ⟨-1,x.pen⟩).col=x.col:=rfl
    simp only[hZn,hT1,v4,hcol3,hw1,Tryz.results114,b9,zW,seval]
    refine⟨p1,?_⟩
    have st4:=st3.trans ok (st3.at_.one (off:=1) (vs:=[.int .i64 (x.col+n)]) (y:={((x.blank r c (c+n:Nat)).put r c ⟨ch,x.pen⟩).put r (c+1) ⟨-1,x.pen⟩ with col:=x.col+n}) rfl rfl rfl rfl)
    rw[st.same]at st4
    exact st4
theorem Tm.Sz.write {u:yY} {x:Tm} (s:x.Sz) {ch:Int} (hch:ch≠-1):(x.write u ch).Sz:=by
 obtain⟨r,hr⟩:∃ r:Nat,x.row=r:=⟨x.row.toNat,by have:=s.r1; omega⟩
 obtain⟨c,hc⟩:∃ c:Nat,x.col=c:=⟨x.col.toNat,by have:=s.c1; omega⟩
 rw[DO u x ch r c hr hc]
 split
 ·exact s
 ·rename_i h
  exact s.written (by have:=s.r2; omega) hc (by omega) hch
theorem Tm.Sz.character {u:yY} {x:Tm} (s:x.Sz) (ch:Int):(x.character u ch).Sz:=by
 unfold Tm.character
 split
 ·exact s.control ch
 ·exact s.write (by omega)
theorem DX (u:yY) (hu:Wd u.wd) (H:aa) (p:Rp) (x:Tm) (ch:Int) (g:cd H p x) (s:x.Sz) (ok:H.base<=H.next) (hc1:-2147483648<=ch) (hc2:ch<=2147483647):gF 81 [.int .i64 ch] H p (.tuple #[]) (x.character u ch):=by
 obtain⟨d1,hd1⟩:∃ d,decide (ch<32)=d:=⟨_,rfl⟩
 obtain⟨d2,hd2⟩:∃ d,decide (ch=127)=d:=⟨_,rfl⟩
 have e1:ch<32 ↔ d1=true:=by rw[<-hd1,decide_eq_true_iff]
 have e2:=gq hd2
 have key:x.character u ch=cond (d1||d2) (x.control ch) (x.write u ch):=by
  unfold Tm.character
  simp only[e1,e2]
  cases d1<;>cases d2<;>rfl
 rw[key]
 refine aG mixed Tryz.func81 rfl Tryz.ntmps81 (zA6 rfl) ?_
 have cR:d1=false->ch≠-1:=fun h e=>by
  have:=e1.1 (by omega)
  rw[h]at this
  cases this
 have hfin:∀ y f,gF f [.int .i64 ch] H p (.tuple #[]) y->bF Tryz.prog f [.pointer (some ⟨p.t,0,none⟩),.int .i64 ch] (ext H []) (fun out H1=>out=.ok (.tuple #[])/\∃ p1,Step H p H1 p1 y):=fun y f h=>h
 cases d1<;>cases d2<;>simp only[hd1,hd2,Bool.or_true,Bool.or_false,cond_true,cond_false,zW,seval]
 ·refine (hfin _ _ (Oa u hu H p x ch g s ok hc1 hc2 (cR rfl))).mono ?_
  rintro _ H1 ⟨rfl,p1,st⟩
  rw[show H1=ext H1 [] from rfl]
  simp only[Tryz.results81,lh,seval]
  exact⟨trivial,p1,st⟩
 all_goals
  refine (hfin _ _ (Jn H p x ch g s ok)).mono ?_
  rintro _ H1 ⟨rfl,p1,st⟩
  rw[show H1=ext H1 [] from rfl]
  simp only[Tryz.results81,lh,seval]
  exact⟨trivial,p1,st⟩
def Tm.di (x:Tm) (l:Lk):Tm:={x with pen:=l}
theorem Tm.Sz.di {x:Tm} (s:x.Sz) (l:Lk):(x.di l).Sz :=
 ⟨s.h1,s.h2,s.w1,s.w2,s.ws,s.r1,s.r2,s.c1,s.c2,s.sr1,s.sr2,s.sc1,s.sc2,s.t1,s.t2,s.t3,s.md,s.hd⟩
theorem DB (H:aa) (p:Rp) (x:Tm) (n:Int) (g:cd H p x):gF 161 [.int .i64 n] H p (.tuple #[]) (x.di (x.pen.attribute n)):=by
 obtain⟨b,hb⟩:=Go.Ax.bP H.next
 have hT:p.t<b:=hb▸g.lt p.t (by simp[Rp.aJ])
 have h1:=g.cell
 simp only[ba]at h1
 refine aG mixed Tryz.func161 rfl Tryz.ntmps161 (zA6 rfl) ?_
 by_cases h0:n=0
 ·subst h0
  simp only[hb,hT,h1,decide_true,Tryz.results161,zW,seval]
  exact⟨trivial,p,g.one (y:=x.di .no) rfl rfl rfl rfl⟩
 by_cases h1':n=1
 ·subst h1'
  simp only[hb,hT,h1,seval,decide_true,decide_false,Tryz.results161,zW]
  exact⟨trivial,p,g.one (y:=x.di {x.pen with bold:=true}) rfl rfl rfl rfl⟩
 by_cases h22:n=22
 ·subst h22
  simp only[hb,hT,h1,seval,decide_true,decide_false,Tryz.results161,zW]
  exact⟨trivial,p,g.one (y:=x.di {x.pen with bold:=false}) rfl rfl rfl rfl⟩
 by_cases h4:n=4
 ·subst h4
  simp only[hb,hT,h1,seval,decide_true,decide_false,Tryz.results161,zW]
  exact⟨trivial,p,g.one (y:=x.di {x.pen with under:=true}) rfl rfl rfl rfl⟩
 by_cases h24:n=24
 ·subst h24
  simp only[hb,hT,h1,seval,decide_true,decide_false,Tryz.results161,zW]
  exact⟨trivial,p,g.one (y:=x.di {x.pen with under:=false}) rfl rfl rfl rfl⟩
 by_cases h7:n=7
 ·subst h7
  simp only[hb,hT,h1,seval,decide_true,decide_false,Tryz.results161,zW]
  exact⟨trivial,p,g.one (y:=x.di {x.pen with inv:=true}) rfl rfl rfl rfl⟩
 by_cases h27:n=27
 ·subst h27
  simp only[hb,hT,h1,seval,decide_true,decide_false,Tryz.results161,zW]
  exact⟨trivial,p,g.one (y:=x.di {x.pen with inv:=false}) rfl rfl rfl rfl⟩
 by_cases h39:n=39
 ·subst h39
  simp only[hb,hT,h1,seval,decide_true,decide_false,Tryz.results161,zW]
  exact⟨trivial,p,g.one (y:=x.di {x.pen with fore:=0}) rfl rfl rfl rfl⟩
 by_cases h49:n=49
 ·subst h49
  simp only[hb,hT,h1,seval,decide_true,decide_false,Tryz.results161,zW]
  exact⟨trivial,p,g.one (y:=x.di {x.pen with back:=0}) rfl rfl rfl rfl⟩
 have key:x.di (x.pen.attribute n)=x:=by
  simp only[Lk.attribute,h0,h1',h22,h4,h24,h7,h27,h39,h49,or_self,if_false,Tm.di]
 rw[key]
 simp only[h0,h1',h22,h4,h24,h7,h27,h39,h49,decide_false,Tryz.results161,zW,seval]
 exact⟨trivial,p,Step.refl g⟩
theorem ef.drop {H:aa} {v:Value} {l:List Int} (h:ef H v l) (hl:l≠[]) {k:Nat} (hk:k<=l.length):∃ v',cg Tryz.prog (ext H []) 22 v (some (.int .i64 (k:Int))) none none=some (v',ext H [])/\ef H v' (l.drop k)/\ae v'=ae v:=by
 have hu:Tryz.prog.underlying 22=some (.slice 3):=by kernel_rfl
 have hsz:bh Tryz.prog 3=some 1:=by kernel_rfl
 rcases h with⟨h,_⟩|⟨_,n,pre,o,rfl,hb⟩
 ·exact absurd h hl
 rw[ext_nil]
 have hpos:0<l.length:=List.length_pos_iff.2 hl
 by_cases hkl:k<l.length
 ·refine⟨.slice (some ⟨n,(pre++l.take k).length,if o=true then none else some 0⟩) (l.drop k).length (l.drop k).length,?_,.inr ⟨?_,n,pre++l.take k,o,rfl,?_⟩,by simp[ae]⟩
  ·have e:(pre++l.take k).length=pre.length+k*1:=by simp; omega
   rw[e,zD8]
   cases o with
   |true=>exact qB hu hsz dM rfl (zA8 _) hk hkl hb rfl
   |false=>exact ym hu hsz dM rfl (zA8 _) hk hkl
  ·intro e
   have:=congrArg List.length e
   simp at this
   omega
  ·rw[hb,zD3,zG8]
 ·have hke:k=l.length:=by omega
  cases o with
  |true=>exact⟨_,Cp hu hsz dM rfl rfl hke hpos hb rfl,.inl ⟨zF1 (by omega),_,_,rfl⟩,by simp[ae]⟩
  |false =>
   refine⟨.slice (some ⟨n,pre.length,some 0⟩) 0 0,?_,.inl ⟨zF1 (by omega),_,_,rfl⟩,by simp[ae]⟩
   have hbn:bound 0 (some (.int .i64 (k:Int)))=some k:=dM
   simp only[cg,hu,hsz,fm,hbn,zA1,zA3,cY]
   rw[hke]
   simp[bound]
theorem JV (k:Lk):Lk.attributes [] k=k:=by rw[Lk.attributes]
theorem CU {n:Int} {r:List Int} (k:Lk) (h:n=38\/n=48) (hr:r.length<2):Lk.attributes (n::r) k=k:=by
 match r,hr with
 |[],_=>simp only[Lk.attributes,h,if_true]
 |[_],_=>simp only[Lk.attributes,h,if_true]
theorem Gu {n a b:Int} {r:List Int} (k:Lk) (h:n=38\/n=48):Lk.attributes (n::a::b::r) k=if a≠5\/b>255 then k else Lk.attributes r (if n=38 then {k with fore:=b+1} else {k with back:=b+1}):=by
 rw[Lk.attributes,if_pos h]
theorem F3 {n:Int} {r:List Int} (k:Lk) (h:¬(n=38\/n=48)) (h2:30<=n/\n<=37):Lk.attributes (n::r) k=Lk.attributes r {k with fore:=n-29}:=by
 match r with
 |[]=>simp only[Lk.attributes,h,h2,if_true,if_false,and_self]
 |[_]=>simp only[Lk.attributes,h,h2,if_true,if_false,and_self]
 |_::_::_=>rw[Lk.attributes,if_neg h,if_pos h2]
theorem FP {n:Int} {r:List Int} (k:Lk) (h:¬(n=38\/n=48)) (h2:¬(30<=n/\n<=37)) (h3:40<=n/\n<=47):Lk.attributes (n::r) k=Lk.attributes r {k with back:=n-39}:=by
 match r with
 |[]=>simp only[Lk.attributes,h,h2,h3,if_true,if_false,and_self]
 |[_]=>simp only[Lk.attributes,h,h2,h3,if_true,if_false,and_self]
 |_::_::_=>rw[Lk.attributes,if_neg h,if_neg h2,if_pos h3]
theorem DR {n:Int} {r:List Int} (k:Lk) (h:¬(n=38\/n=48)) (h2:¬(30<=n/\n<=37)) (h3:¬(40<=n/\n<=47)):Lk.attributes (n::r) k=Lk.attributes r (k.attribute n):=by
 match r with
 |[]=>simp only[Lk.attributes,h,h2,h3,if_false]
 |[_]=>simp only[Lk.attributes,h,h2,h3,if_false]
 |_::_::_=>rw[Lk.attributes,if_neg h,if_neg h2,if_neg h3]
theorem B7 (H:aa) (p:Rp) (x:Tm) (v:Value) (l:List Int) (g:cd H p x) (ok:H.base<=H.next) (hp:kJ H v l) (hv:∀ n∈ae v,n∉p.aJ):gF 149 [v] H p (.tuple #[]) (x.di (Lk.attributes l x.pen)):=by
 refine aG mixed Tryz.func149 rfl Tryz.ntmps149 (zA6 rfl) ?_
 simp only[zW,Nat.reduceAdd]
 refine eT fun E hE=>?_
 have g0:E 0=.pointer (some ⟨p.t,0,none⟩):=by rw[hE]; rfl
 have g1:E 1=v:=by rw[hE]; rfl
 clear hE
 refine cU (fun (q:List Int × Lk × Value × Rp) E' H'=>Step H p H' q.2.2.2 (x.di q.2.1)/\ef H' q.2.2.1 q.1/\ae q.2.2.1=ae v/\(∀ n∈q.1,0<=n)/\Lk.attributes q.1 q.2.1=Lk.attributes l x.pen/\E' 0=.pointer (some ⟨p.t,0,none⟩)/\E' 1=q.2.2.1) (fun q=>q.1.length) (l,x.pen,v,p)
  ⟨Step.refl g,hp.at_,rfl,fun n hn=>(hp.rg n hn).1,rfl,g0,g1⟩ ?_
 clear g0 g1 E
 rintro⟨m,k,w,p1⟩ E X ⟨st,hm,hw,hrg,hfin,g0,g1⟩
 simp only at st hm hw hrg hfin g1
 rw[show X=ext X [] from rfl]
 cases m with
 |nil =>
  obtain⟨a,c,e⟩:=hm.sl
  rw[e]at g1
  have hd':decide ((0:Int)<((0:Nat):Int))=false:=by decide
  simp only[g1,hd',Tryz.results149,zW,Nat.reduceLT]
  rw[JV]at hfin
  rw[<-hfin]
  exact⟨trivial,p1,st⟩
 |cons n r =>
  obtain⟨a,c,e⟩:=hm.sl
  obtain⟨L,hL⟩:=Go.Ax.bP ((n::r).length)
  rw[hL]at e
  obtain⟨b,hb⟩:=Go.Ax.bP X.next
  have hT:p.t<b:=hb▸st.same▸st.at_.lt p1.t (by simp[Rp.aJ])
  have h1:=st.at_.cell
  rw[st.same]at h1
  simp only[ba]at h1
  have hlt:∀ q∈ae v,q<b:=fun q hq=>hb▸zD5 (hp.lt q hq) st.mod.next
  obtain⟨n1,o1,i1,m1,_,ld1⟩:=hm.get (k:=0) (c:=n) rfl
  have t1:=hlt n1 (hw▸m1)
  obtain⟨w1,sl1,hm1,hw1⟩:=hm.drop (by simp) (k:=1) (by simp)
  rw[List.drop_one,List.tail_cons]at hm1
  obtain⟨a1,c1,e1⟩:=hm1.sl
  obtain⟨L1,hL1⟩:∃ L,r.length=L:=⟨_,rfl⟩
  rw[hL1]at e1
  have hd':decide ((0:Int)<(L:Int))=true:=decide_eq_true (by rw[zB0]at hL; omega)
  rw[show ((0:Nat):Int)=0 from rfl]at i1
  rw[show ((1:Nat):Int)=1 from rfl]at sl1
  rw[e]at g1 i1 sl1
  by_cases h38:n=38\/n=48
  ·have hsel:∃ d,decide (n=38)=d/\(d=false->decide (n=48)=true)/\(d=true ↔ n=38):=⟨_,rfl,fun h=>decide_eq_true (by have:=of_decide_eq_false h; omega),by simp⟩
   obtain⟨d38,hd38,hd48,ed38⟩:=hsel
   by_cases hr:r.length<2
   ·have hd2:decide ((L1:Int)<2)=true:=decide_eq_true (by omega)
    rw[CU k h38 hr]at hfin
    cases d38 with
    |true =>
     simp only[g1,hb,i1,t1,ld1,sl1,e1,hd',hd38,hd2,Tryz.results149,zW,Nat.reduceLT,Nat.reduceEqDiff]
     rw[<-hfin]
     exact⟨trivial,p1,st⟩
    |false =>
     simp only[g1,hb,i1,t1,ld1,sl1,e1,hd',hd38,hd48 rfl,hd2,Tryz.results149,zW,Nat.reduceLT,Nat.reduceEqDiff]
     rw[<-hfin]
     exact⟨trivial,p1,st⟩
   ·match r,hr,hm,hm1,hfin,hrg,hL,hL1 with
    |[],hr,_,_,_,_,_,_=>simp at hr
    |[_],hr,_,_,_,_,_,_=>simp at hr
    |a2::b2::r2,hr,hm,hm1,hfin,hrg,hL,hL1 =>
     rw[Gu k h38]at hfin
     have hd2:decide ((L1:Int)<2)=false:=decide_eq_false (by simp only[zB0]at hL1; omega)
     obtain⟨n2,o2,i2,m2,_,ld2⟩:=hm1.get (k:=0) (c:=a2) rfl
     obtain⟨n3,o3,i3,m3,_,ld3⟩:=hm1.get (k:=1) (c:=b2) rfl
     have t2:=hlt n2 (hw▸hw1▸m2)
     have t3:=hlt n3 (hw▸hw1▸m3)
     rw[show ((0:Nat):Int)=0 from rfl]at i2
     rw[show ((1:Nat):Int)=1 from rfl]at i3
     rw[e1]at i2 i3 sl1
     obtain⟨d5,hd5⟩:∃ d,decide (a2=5)=d:=⟨_,rfl⟩
     obtain⟨dB,hdB⟩:∃ d,decide ((255:Int)<b2)=d:=⟨_,rfl⟩
     have hd5':decide (¬a2=5)=!d5:=by rw[<-hd5]; simp
     have e5:a2=5 ↔ d5=true:=gq hd5
     have eB:b2>255 ↔ dB=true:=by rw[<-hdB,decide_eq_true_iff]
     have hb2:=hrg b2 (by simp)
     have hwb:b2<=255->IntKind.i64.wrap (b2+1)=b2+1:=fun h=>aQ (by omega) (by omega)
     have hkey:Lk.attributes l x.pen=cond (!d5||dB) k (Lk.attributes r2 (cond d38 {k with fore:=b2+1} {k with back:=b2+1})):=by
      rw[<-hfin]
      simp only[ne_eq,e5,eB,<-ed38]
      cases d5<;>cases dB<;>cases d38<;>rfl
     have hdis1:∀ q∈ae w1,q≠p.t:=fun q hq e=>hv q (hw▸hw1▸hq) (e▸by simp[Rp.aJ])
     cases d5 with
     |false =>
      rw[hkey]
      cases d38 with
      |true =>
       simp only[g1,hb,i1,i2,t1,t2,ld1,ld2,sl1,hd',hd38,hd2,hd5',zG2,Bool.true_or,cond_true,Tryz.results149,zW,Nat.reduceLT,Nat.reduceAdd,Nat.reduceEqDiff]
       exact⟨trivial,p1,st⟩
      |false =>
       simp only[g1,hb,i1,i2,t1,t2,ld1,ld2,sl1,hd',hd38,hd48 rfl,hd2,hd5',zG2,Bool.true_or,cond_true,Tryz.results149,zW,Nat.reduceLT,Nat.reduceAdd,Nat.reduceEqDiff]
       exact⟨trivial,p1,st⟩
     |true =>
      cases dB with
      |true =>
       rw[hkey]
       cases d38 with
       |true =>
        simp only[g1,hb,i1,i2,i3,t1,t2,t3,ld1,ld2,ld3,sl1,hd',hd38,hd2,hd5',hdB,zE0,Bool.false_or,cond_true,Tryz.results149,zW,Nat.reduceLT,Nat.reduceAdd,Nat.reduceEqDiff]
        exact⟨trivial,p1,st⟩
       |false =>
        simp only[g1,hb,i1,i2,i3,t1,t2,t3,ld1,ld2,ld3,sl1,hd',hd38,hd48 rfl,hd2,hd5',hdB,zE0,Bool.false_or,cond_true,Tryz.results149,zW,Nat.reduceLT,Nat.reduceAdd,Nat.reduceEqDiff]
        exact⟨trivial,p1,st⟩
      |false =>
       have hle:b2<=255:=by
        have:¬b2>255:=fun h=>by have:=eB.1 h; simp at this
        omega
       simp only[zE0,Bool.false_or,cond_false]at hkey
       cases d38 with
       |true =>
        have st2:=st.trans ok (st.at_.one (off:=2) (vs:=[.int .i64 (b2+1)]) (y:=x.di {k with fore:=b2+1}) rfl rfl rfl rfl)
        rw[st.same]at st2
        simp only[g0,g1,hb,hT,h1,i1,i2,i3,t1,t2,t3,ld1,ld2,ld3,sl1,hd',hd38,hd2,hd5',hdB,hwb hle,zW,Nat.reduceLeDiff,Nat.reduceLT,Nat.reduceAdd,Nat.reduceEqDiff]
        generalize hV:uw X p.t 2 _=V at st2 ⊢
        rw[ext_nil]at st2
        have hmV:ef V w1 (a2::b2::r2):=hm1.of fun q hq=>by rw[<-hV]; exact gL (hdis1 q hq)
        obtain⟨w2,sl2,hm2,hw2⟩:=hmV.drop (by simp) (k:=2) (by simp)
        rw[show (a2::b2::r2).drop 2=r2 from rfl]at hm2
        rw[show ((2:Nat):Int)=2 from rfl,e1]at sl2
        simp only[sl2,zW,Nat.reduceLT]
        refine aM ⟨(r2,{k with fore:=b2+1},w2,p1),by simp only[]; omega,st2,hm2,hw2.trans (hw1.trans hw),fun q hq=>hrg q (by simp[hq]),by rw[hkey]; rfl,?_,?_⟩<;>simp only[g0,aW,Nat.reduceEqDiff]
       |false =>
        have st2:=st.trans ok (st.at_.one (off:=3) (vs:=[.int .i64 (b2+1)]) (y:=x.di {k with back:=b2+1}) rfl rfl rfl rfl)
        rw[st.same]at st2
        simp only[g0,g1,hb,hT,h1,i1,i2,i3,t1,t2,t3,ld1,ld2,ld3,sl1,hd',hd38,hd48 rfl,hd2,hd5',hdB,hwb hle,zW,Nat.reduceLeDiff,Nat.reduceLT,Nat.reduceAdd,Nat.reduceEqDiff]
        generalize hV:uw X p.t 3 _=V at st2 ⊢
        rw[ext_nil]at st2
        have hmV:ef V w1 (a2::b2::r2):=hm1.of fun q hq=>by rw[<-hV]; exact gL (hdis1 q hq)
        obtain⟨w2,sl2,hm2,hw2⟩:=hmV.drop (by simp) (k:=2) (by simp)
        rw[show (a2::b2::r2).drop 2=r2 from rfl]at hm2
        rw[show ((2:Nat):Int)=2 from rfl,e1]at sl2
        simp only[sl2,zW,Nat.reduceLT]
        refine aM ⟨(r2,{k with back:=b2+1},w2,p1),by simp only[]; omega,st2,hm2,hw2.trans (hw1.trans hw),fun q hq=>hrg q (by simp[hq]),by rw[hkey]; rfl,?_,?_⟩<;>simp only[g0,aW,Nat.reduceEqDiff]
  ·have f38:decide (n=38)=false:=decide_eq_false (fun e=>h38 (.inl e))
   have f48:decide (n=48)=false:=decide_eq_false (fun e=>h38 (.inr e))
   have hdis1:∀ q∈ae w1,q≠p.t:=fun q hq e=>hv q (hw▸hw1▸hq) (e▸by simp[Rp.aJ])
   have hrg2:∀ q∈r,0<=q:=fun q hq=>hrg q (by simp[hq])
   by_cases h30:30<=n/\n<=37
   ·have q1:decide (30<=n)=true:=decide_eq_true h30.1
    have q2:decide (n<=37)=true:=decide_eq_true h30.2
    have hwn:IntKind.i64.wrap (n-29)=n-29:=aQ (by omega) (by omega)
    rw[F3 k h38 h30]at hfin
    have st2:=st.trans ok (st.at_.one (off:=2) (vs:=[.int .i64 (n-29)]) (y:=x.di {k with fore:=n-29}) rfl rfl rfl rfl)
    rw[st.same]at st2
    simp only[g0,g1,hb,hT,h1,i1,t1,ld1,sl1,hd',f38,f48,q1,q2,hwn,zW,Nat.reduceLeDiff,Nat.reduceLT,Nat.reduceAdd,Nat.reduceEqDiff]
    generalize hV:uw X p.t 2 _=V at st2 ⊢
    rw[ext_nil]at st2
    have hmV:ef V w1 r:=hm1.of fun q hq=>by rw[<-hV]; exact gL (hdis1 q hq)
    refine aM ⟨(r,{k with fore:=n-29},w1,p1),by simp only[]; omega,st2,hmV,hw1.trans hw,hrg2,hfin,?_,?_⟩<;>simp only[g0,aW,Nat.reduceEqDiff]
   ·obtain⟨d1,hd1⟩:∃ d,decide (30<=n)=d:=⟨_,rfl⟩
    by_cases h40:40<=n/\n<=47
    ·have q0:decide (30<=n)=true:=decide_eq_true (by omega)
     have q00:decide (n<=37)=false:=decide_eq_false (by omega)
     have q1:decide (40<=n)=true:=decide_eq_true h40.1
     have q2:decide (n<=47)=true:=decide_eq_true h40.2
     have hwn:IntKind.i64.wrap (n-39)=n-39:=aQ (by omega) (by omega)
     rw[FP k h38 h30 h40]at hfin
     have st2:=st.trans ok (st.at_.one (off:=3) (vs:=[.int .i64 (n-39)]) (y:=x.di {k with back:=n-39}) rfl rfl rfl rfl)
     rw[st.same]at st2
     simp only[g0,g1,hb,hT,h1,i1,t1,ld1,sl1,hd',f38,f48,q0,q00,q1,q2,hwn,zW,Nat.reduceLeDiff,Nat.reduceLT,Nat.reduceAdd,Nat.reduceEqDiff]
     generalize hV:uw X p.t 3 _=V at st2 ⊢
     rw[ext_nil]at st2
     have hmV:ef V w1 r:=hm1.of fun q hq=>by rw[<-hV]; exact gL (hdis1 q hq)
     refine aM ⟨(r,{k with back:=n-39},w1,p1),by simp only[]; omega,st2,hmV,hw1.trans hw,hrg2,hfin,?_,?_⟩<;>simp only[g0,aW,Nat.reduceEqDiff]
    ·rw[DR k h38 h30 h40]at hfin
     have hat:=DB (ext X []) p1 (x.di k) n st.at_
     unfold gF at hat
     rw[st.same]at hat
     obtain⟨d2,hd2⟩:∃ d,decide (n<=37)=d:=⟨_,rfl⟩
     obtain⟨d3,hd3⟩:∃ d,decide (40<=n)=d:=⟨_,rfl⟩
     obtain⟨d4,hd4⟩:∃ d,decide (n<=47)=d:=⟨_,rfl⟩
     have c1:¬(d1=true/\d2=true):=fun h=>h30 ⟨of_decide_eq_true (hd1.trans h.1),of_decide_eq_true (hd2.trans h.2)⟩
     have c2:¬(d3=true/\d4=true):=fun h=>h40 ⟨of_decide_eq_true (hd3.trans h.1),of_decide_eq_true (hd4.trans h.2)⟩
     cases d1<;>cases d2<;>cases d3<;>cases d4<;>first
      |exact absurd ⟨rfl,rfl⟩ c1
      |exact absurd ⟨rfl,rfl⟩ c2
      | (simp only [g0, g1, hb, i1, t1, ld1, sl1, hd', f38, f48, hd1, hd2, hd3, hd4, zW, Nat.reduceLT, Nat.reduceEqDiff]
         refine hat.mono ?_
         rintro _ V ⟨rfl,p2,stv⟩
         have st2:=st.trans ok stv
         have hmV:ef V w1 r:=hm1.of fun q hq=>stv.mod.get q (by rw[ext_nil]; exact hb▸hlt q (hw▸hw1▸hq)) (fun hin=>by
          rcases st.new q hin with h|h
          ·exact hv q (hw▸hw1▸hq) h
          ·have:=hp.lt q (hw▸hw1▸hq); omega)
         rw[show V=ext V [] from rfl]
         simp only[lh,Nat.reduceLT]
         refine aM ⟨(r,k.attribute n,w1,p2),by simp only[]; omega,st2,hmV,hw1.trans hw,hrg2,hfin,?_,?_⟩<;>simp only[g0,aW,Nat.reduceEqDiff])
def Gb (i:Nat) (k:Int) (f:Nat):MapEntry:={key:=.int .u8 k,val:=.func (.func f) #[] #[],born:=i}
def Re:List MapEntry:=[]
def Ia:List MapEntry:=Re++[Gb 0 65 138]
def Ix:List MapEntry:=Ia++[Gb 1 66 139]
def GW:List MapEntry:=Ix++[Gb 2 67 140]
def Hc:List MapEntry:=GW++[Gb 3 68 141]
def G9:List MapEntry:=Hc++[Gb 4 71 142]
def HL:List MapEntry:=G9++[Gb 5 100 143]
def HF:List MapEntry:=HL++[Gb 6 72 144]
def IB:List MapEntry:=HF++[Gb 7 102 144]
def HJ:List MapEntry:=IB++[Gb 8 74 145]
def BH:List MapEntry:=HJ++[Gb 9 75 146]
def BO:List MapEntry:=BH++[Gb 10 76 147]
def Bh:List MapEntry:=BO++[Gb 11 77 148]
def A1:List MapEntry:=Bh++[Gb 12 109 149]
def BD:List MapEntry:=A1++[Gb 13 114 150]
def tu:dw:=fE BD 14
theorem MW (H:aa) (ok:H.base<=H.next):bF Tryz.prog 115 [] (ext H []) fun out H1=>out=.ok (.map (some H.next))/\H1=H.new tu:=by
 obtain⟨b,hb⟩:=Go.Ax.bP H.next
 have hu:Tryz.prog.underlying 154=some (.map 5 153):=by kernel_rfl
 have hk:Tryz.prog.underlying 5=some (.int .u8):=by kernel_rfl
 have U:∀ (es:List MapEntry) (c:Nat) (k:Int) (f:Nat),Instr.findNow (.int .u8) (.int .u8 k) es 0=some none->bM Tryz.prog ((ext H []).new (fE es c)) 154 (.map (some (b+0))) (.int .u8 k) (.func (.func f) #[] #[])=some ((ext H []).new (fE (es++[Gb c k f]) (c+1))):=fun es c k f hf=>Gs (H:=ext H []) hb ok hu hk rfl rfl hf
 have u0:bM Tryz.prog ((ext H []).new (fE [] 0)) 154 (.map (some (b+0))) (.int .u8 65) (.func (.func 138) #[] #[])=some ((ext H []).new (fE Ia 1)):=U [] 0 65 138 rfl
 have u1:bM Tryz.prog ((ext H []).new (fE Ia 1)) 154 (.map (some (b+0))) (.int .u8 66) (.func (.func 139) #[] #[])=some ((ext H []).new (fE Ix 2)):=U Ia 1 66 139 rfl
 have u2:bM Tryz.prog ((ext H []).new (fE Ix 2)) 154 (.map (some (b+0))) (.int .u8 67) (.func (.func 140) #[] #[])=some ((ext H []).new (fE GW 3)):=U Ix 2 67 140 rfl
 have u3:bM Tryz.prog ((ext H []).new (fE GW 3)) 154 (.map (some (b+0))) (.int .u8 68) (.func (.func 141) #[] #[])=some ((ext H []).new (fE Hc 4)):=U GW 3 68 141 rfl
 have u4:bM Tryz.prog ((ext H []).new (fE Hc 4)) 154 (.map (some (b+0))) (.int .u8 71) (.func (.func 142) #[] #[])=some ((ext H []).new (fE G9 5)):=U Hc 4 71 142 rfl
 have u5:bM Tryz.prog ((ext H []).new (fE G9 5)) 154 (.map (some (b+0))) (.int .u8 100) (.func (.func 143) #[] #[])=some ((ext H []).new (fE HL 6)):=U G9 5 100 143 rfl
 have u6:bM Tryz.prog ((ext H []).new (fE HL 6)) 154 (.map (some (b+0))) (.int .u8 72) (.func (.func 144) #[] #[])=some ((ext H []).new (fE HF 7)):=U HL 6 72 144 rfl
 have u7:bM Tryz.prog ((ext H []).new (fE HF 7)) 154 (.map (some (b+0))) (.int .u8 102) (.func (.func 144) #[] #[])=some ((ext H []).new (fE IB 8)):=U HF 7 102 144 rfl
 have u8:bM Tryz.prog ((ext H []).new (fE IB 8)) 154 (.map (some (b+0))) (.int .u8 74) (.func (.func 145) #[] #[])=some ((ext H []).new (fE HJ 9)):=U IB 8 74 145 rfl
 have u9:bM Tryz.prog ((ext H []).new (fE HJ 9)) 154 (.map (some (b+0))) (.int .u8 75) (.func (.func 146) #[] #[])=some ((ext H []).new (fE BH 10)):=U HJ 9 75 146 rfl
 have u10:bM Tryz.prog ((ext H []).new (fE BH 10)) 154 (.map (some (b+0))) (.int .u8 76) (.func (.func 147) #[] #[])=some ((ext H []).new (fE BO 11)):=U BH 10 76 147 rfl
 have u11:bM Tryz.prog ((ext H []).new (fE BO 11)) 154 (.map (some (b+0))) (.int .u8 77) (.func (.func 148) #[] #[])=some ((ext H []).new (fE Bh 12)):=U BO 11 77 148 rfl
 have u12:bM Tryz.prog ((ext H []).new (fE Bh 12)) 154 (.map (some (b+0))) (.int .u8 109) (.func (.func 149) #[] #[])=some ((ext H []).new (fE A1 13)):=U Bh 12 109 149 rfl
 have u13:bM Tryz.prog ((ext H []).new (fE A1 13)) 154 (.map (some (b+0))) (.int .u8 114) (.func (.func 150) #[] #[])=some ((ext H []).new (fE BD 14)):=U A1 13 114 150 rfl
 refine aG mixed Tryz.func115 rfl Tryz.ntmps115 (zA6 rfl) ?_
 simp only[hb,NM,Ri,ai,u0,u1,u2,u3,u4,u5,u6,u7,u8,u9,u10,u11,u12,u13,Tryz.results115,zW,seval]
 exact⟨rfl,rfl⟩
theorem Step.quiet {H H1:aa} {p:Rp} {x:Tm} (g:cd H p x) (m:Mod [] H H1):Step H p H1 p x :=
 ⟨g.of m.next fun n hn=>m.get n (g.lt n hn) (by simp),m.mono (by simp),rfl,fun _ h=>.inl h⟩
theorem Ap (l:List Int):(dX l).all one=true:=by simp[dX,one]
theorem C9 (l:List Int) (n:Nat):aO n (dX l)=true:=by
 induction l with
 |nil=>rfl
 |cons a l ih=>simp only[dX,zC0,aO,aS,Bool.true_and]; exact ih
def Bi (H:aa) (w:Value) (l:List Int):Prop:=l≠[]/\∃ n o,w=.slice (some ⟨n,0,if o then none else some 0⟩) l.length l.length/\bk H n=some ⟨3,o,dX l⟩/\n<H.next
theorem Bi.at_ {H:aa} {w:Value} {l:List Int} (h:Bi H w l):ef H w l:=by
 obtain⟨h1,n,o,rfl,hb,_⟩:=h
 exact .inr ⟨h1,n,[],o,rfl,hb⟩
theorem Nb {X:aa} {w:Value} {l:List Int} {k:Nat} (h:Bi X w l) (hk:X.next=k) (hlen:l.length<=200) (hok:X.base<=X.next) :
  ∃ w' G,aD Tryz.prog (ext X [⟨3,false,[.int .i64 0]⟩]) .append ⟨[22,22]⟩ [w,.slice (some ⟨k+0,0,some 0⟩) 1 1]=some (w',ext G [])/\Bi G w' (l++[0])/\Mod (ae w) X G/\(∀ n∈ae w',X.next<=n):=by
 obtain⟨cR,n,o,rfl,hb,hlt⟩:=h
 have hkb:bk (ext X [⟨3,false,[.int .i64 0]⟩]) (k+0)=some ⟨3,false,[.int .i64 0]⟩:=by rw[bu hk (by simp)]; rfl
 have hbX:bk (ext X [⟨3,false,[.int .i64 0]⟩]) n=some ⟨3,o,dX l⟩:=(iN hlt).trans hb
 have hsm:small (l.length+1) 8=true:=by simp only[small,zA4,zE6]; omega
 have hcs:dX l++[.int .i64 0]=dX (l++[0]):=by simp[dX]
 cases o with
 |false =>
  have happ:=pI (P:=Tryz.prog) (H:=ext X [⟨3,false,[.int .i64 0]⟩]) (st:=22) (xt:=22) (e:=3) (sz:=1) (by1:=8) (z:=.int .i64 0) (m:=n) (k:=l.length) (n:=k+0) (off:=0) (cnt:=1) (cap:=1) (s:=some 0)
   (by kernel_rfl) (by kernel_rfl) (by kernel_rfl) (by kernel_rfl) rfl (by kernel_rfl) hbX (by rw[iI]; omega) (Ap l) hkb (by simp) rfl (by decide) hsm
  have ht:(dX l).take (l.length*1)=dX l:=zD6 (by rw[iI]; omega)
  simp only[ht]at happ
  have ht2:([Value.int .i64 0].drop 0).take (1*1)=[.int .i64 0]:=rfl
  rw[ht2,hcs]at happ
  have hn:=eN (H:=X) (L:=[⟨3,false,[.int .i64 0]⟩]) (e:=3) (l:=dX (l++[0])) (o:=true) (C9 _ _)
  rw[hn,zA9]at happ
  refine⟨_,ext X [⟨3,false,[.int .i64 0]⟩,⟨3,true,dX (l++[0])⟩],happ,⟨by simp,k+1,true,?_,?_,?_⟩,Mod.ext hok,fun q hq=>?_⟩
  ·rw[ai,hk]; simp
  ·rw[bu hk (by simp)]; rfl
  ·rw[ai,hk]; simp
  ·simp only[ae,zA5,ai]at hq; omega
 |true =>
  have happ:=C0 (P:=Tryz.prog) (H:=ext X [⟨3,false,[.int .i64 0]⟩]) (st:=22) (xt:=22) (e:=3) (sz:=1) (by1:=8) (z:=.int .i64 0) (m:=n) (k:=l.length) (fX:=dX l) (n:=k+0) (off:=0) (cnt:=1) (cap:=1) (s:=some 0)
   (by kernel_rfl) (by kernel_rfl) (by kernel_rfl) (by kernel_rfl) rfl (by kernel_rfl) hbX (by rw[iI]; omega) (Ap l) hkb (by simp) rfl (by decide) hsm
  have ht2:([Value.int .i64 0].drop 0).take (1*1)=[.int .i64 0]:=rfl
  simp only[ht2,hcs]at happ
  rw[Ge hlt]at happ
  have hn:=eN (H:=dp X n) (L:=[⟨3,false,[.int .i64 0]⟩]) (e:=3) (l:=dX (l++[0])) (o:=true) (C9 _ _)
  rw[hn,zA9]at happ
  have mD:Mod (ae (.slice (some ⟨n,0,none⟩) l.length l.length)) X (dp X n):=Mod.cE (by simp[ae])
  refine⟨_,ext (dp X n) [⟨3,false,[.int .i64 0]⟩,⟨3,true,dX (l++[0])⟩],happ,⟨by simp,k+1,true,?_,?_,?_⟩,mD.trans (Mod.ext (mD.ok hok)),fun q hq=>?_⟩
  ·rw[ai,hk]; simp
  ·rw[bu (show (dp X n).next=k from hk) (by simp)]; rfl
  ·rw[ai,iO,hk]; simp
  ·simp only[ae,zA5,ai]at hq; omega
theorem LD {X:aa} {w:Value} {d:List Int} {a c:Int} (h:Bi X w (d++[a])) (n:Nat) (hn:ae w=[n]):Bi (uw X n d.length [.int .i64 c]) w (d++[c]):=by
 obtain⟨_,m,o,rfl,hb,hlt⟩:=h
 simp only[ae,List.cons.injEq,and_true]at hn
 subst hn
 refine⟨by simp,m,o,by simp,?_,by rw[b6]; exact hlt⟩
 rw[bR,hb]
 refine congrArg (fun l=>some (Bl.mk 3 o l)) ?_
 show cL (dX (d++[a])) d.length [.int .i64 c]=_
 rw[BQ,show d.length=(dX d).length from (iI d).symm,nH _ _ _ (by simp[dX])]
 simp[dX]
theorem Qo {c:UInt8} (h:48<=c):IntKind.u8.wrap ((c.toNat:Int)-48)=(c.toNat:Int)-48:=by
 have h1:=c.toNat_lt
 have h2:48<=c.toNat:=h
 simp only[IntKind.wrap,IntKind.signed,IntKind.bits]
 simp
 omega
theorem Ji (l:List UInt8):cG (ay l)=some l:=by
 induction l with
 |nil=>rfl
 |cons c l ih =>
  rw[uF,cG,ih]
  simp
theorem cK.str {H:aa} {v:Value} {l:List UInt8} (h:cK H v l):cj Tryz.prog (ext H []) 25 9 v=some (.string ⟨l.toArray⟩,ext H []):=by
 have h1:Tryz.prog.underlying 25=some (.slice 5):=by kernel_rfl
 have h2:Tryz.prog.underlying 9=some .string:=by kernel_rfl
 have h3:Tryz.prog.underlying 5=some (.int .u8):=by kernel_rfl
 have key:∀ a,v=.slice a l.length l.length->cO H 1 l.length (.slice a l.length l.length)=some (ay l)->cj Tryz.prog (ext H []) 25 9 v=some (.string ⟨l.toArray⟩,ext H []):=by
  rintro a rfl hf
  rw[ext_nil]
  simp only[cj,h1,h2,hf,zA1,zA3,h3,Ji,zA9]
 rcases h with⟨rfl,rfl⟩|⟨h,n,pre,rfl,hb⟩|⟨rfl,n,off,k,L,rfl,hb,hle⟩|⟨rfl,n,rfl,hb⟩
 ·exact key _ rfl rfl
 ·refine key _ rfl ?_
  rw[fI hb (by simp[eU])]
  simp only[zE8,qj]
  rw[<-eU pre,List.drop_left,zD6 (by simp[eU])]
 ·refine key _ rfl ?_
  have:=fI (sz:=1) (cnt:=0) (n:=n) (off:=off) (len:=0) (cap:=0) (s:=some (k+1)) hb (by simp; exact hle)
  simpa[ay]using this
 ·refine key _ rfl ?_
  have:=fI (sz:=1) (cnt:=0) (n:=n) (off:=0) (len:=0) (cap:=0) (s:=some 0) hb (by simp)
  simpa[ay]using this
theorem Ql (l:List UInt8) (m:List UInt8):((⟨l.toArray⟩:ByteArray).toList == (⟨m.toArray⟩:ByteArray).toList)=decide (l=m):=by
 rw[ByteArray.toList_eq,ByteArray.toList_eq]
 by_cases h:l=m
 ·subst h; simp
 ·simp[h]
theorem zg {x:Tm} {f:UInt8} {l:List Int} (h:f≠65/\f≠66/\f≠67/\f≠68/\f≠71/\f≠100/\f≠72/\f≠102/\f≠74/\f≠75/\f≠76/\f≠77/\f≠109/\f≠114):x.dK f l=x:=by
 obtain⟨h1,h2,h3,h4,h5,h6,h7,h8,h9,h10,h11,h12,h13,h14⟩:=h
 rw[Tm.dK,if_neg h1,if_neg h2,if_neg h3,if_neg h4,if_neg h5,if_neg h6,if_neg (fun h=>h.elim h7 h8),if_neg h9,if_neg h10,if_neg h11,if_neg h12,if_neg h13,if_neg h14]
theorem Tm.Sz.dK {x:Tm} (s:x.Sz) (f:UInt8) (l:List Int) (hl:1<=count l):(x.dK f l).Sz:=by
 obtain⟨n,hn⟩:∃ n:Nat,count l=n:=⟨(count l).toNat,by omega⟩
 unfold Tm.dK
 by_cases h0:f=65
 ·rw[if_pos h0]; exact s.cn _ _
 rw[if_neg h0]
 by_cases h1:f=66
 ·rw[if_pos h1]; exact s.cn _ _
 rw[if_neg h1]
 by_cases h2:f=67
 ·rw[if_pos h2]; exact s.cn _ _
 rw[if_neg h2]
 by_cases h3:f=68
 ·rw[if_pos h3]; exact s.cn _ _
 rw[if_neg h3]
 by_cases h4:f=71
 ·rw[if_pos h4]; exact s.cn _ _
 rw[if_neg h4]
 by_cases h5:f=100
 ·rw[if_pos h5]; exact s.cn _ _
 rw[if_neg h5]
 by_cases h6:f=72\/f=102
 ·rw[if_pos h6]; exact s.cn _ _
 rw[if_neg h6]
 by_cases h7:f=74
 ·rw[if_pos h7]; exact s.kO l
 rw[if_neg h7]
 by_cases h8:f=75
 ·rw[if_pos h8]; exact (s.cX l).1
 rw[if_neg h8]
 by_cases h9:f=76
 ·rw[if_pos h9]; rw[hn]; exact s.lines _ _
 rw[if_neg h9]
 by_cases h10:f=77
 ·rw[if_pos h10]; rw[hn]; exact s.lines _ _
 rw[if_neg h10]
 by_cases h11:f=109
 ·rw[if_pos h11]; exact s.di _
 rw[if_neg h11]
 by_cases h12:f=114
 ·rw[if_pos h12]; exact s.region l
 rw[if_neg h12]
 exact s
theorem Jw (l:List Int):1<=count l:=by simp only[count]; omega
theorem Tm.Sz.Ju {x:Tm} (s:x.Sz) (b:Bool):Tm.Sz {x with shown:=b} :=
 ⟨s.h1,s.h2,s.w1,s.w2,s.ws,s.r1,s.r2,s.c1,s.c2,s.sr1,s.sr2,s.sc1,s.sc2,s.t1,s.t2,s.t3,s.md,s.hd⟩
theorem Tm.Sz.fw {x:Tm} (s:x.Sz) (f:UInt8):(x.fw f).Sz:=by
 unfold Tm.fw
 split
 ·exact s.Ju _
 ·split
  ·exact s.dK f _ (Jw _)
  ·exact s
theorem j0 {c:UInt8} {n:Nat} (hn:n<256):decide ((c.toNat:Int)=(n:Int))=decide (c=UInt8.ofNat n):=by
 have:(c.toNat:Int)=(n:Int) ↔ c=UInt8.ofNat n:=by
  rw[<-UInt8.toNat_inj,UInt8.toNat_ofNat_of_lt' hn]
  omega
 simp only[this]
def yc:List (Nat × Nat):=[(65,138),(66,139),(67,140),(68,141),(71,142),(100,143),(72,144),(102,144),(74,145),(75,146),(76,147),(77,148),(109,149),(114,150)]
def nI (n:Nat):Option Nat:=(yc.find? fun q=>Nat.beq q.1 n).map (·.2)
def Qg:Option Nat->Value
 |some f=>.func (.func f) #[] #[]
 |none=>.nilFunc
def KD (n:Nat):Bool:=match Instr.findNow (.int .u8) (.int .u8 (n:Int)) BD 0,nI n with
 |some (some (_,.func (.func f) ⟨[]⟩ ⟨[]⟩)),some g=>Nat.beq f g
 |some none,none=>true
 |_,_=>false
theorem Fm:((List.range 256).all KD)=true:=by kernel_rfl
theorem Kw {X:aa} (c:UInt8):lK Tryz.prog (X.new tu) 154 (.map (some X.next)) (.int .u8 (c.toNat:Int)) false=some (Qg (nI c.toNat)):=by
 have hu:Tryz.prog.underlying 154=some (.map 5 153):=by kernel_rfl
 have hk:Tryz.prog.underlying 5=some (.int .u8):=by kernel_rfl
 have hz:zeroOf Tryz.prog 153=some .nilFunc:=by kernel_rfl
 have hm:zF (X.new tu) (some X.next)=some ⟨BD⟩:=by
  simp only[zF,aa.fA,if_true]
  rfl
 have hc:=zC6.1 Fm c.toNat (zG0.2 c.toNat_lt)
 unfold KD at hc
 simp only[lK,hu,hm,hk,zA1,zA3,o7,lA,zE3,if_true,hz]
 split at hc
 ·rename_i i f g h1 h2
  rw[h1,h2,Nat.eq_of_beq_eq_true hc]
  rfl
 ·rename_i h1 h2
  rw[h1,h2]
  rfl
 ·cases hc
theorem NH (H:aa) (p:Rp) (x:Tm) (v:Value) (l:List Int) (c:UInt8) (f:Nat) (g:cd H p x) (s:x.Sz) (ok:H.base<=H.next) (hp:kJ H v l) (hv:∀ n∈ae v,n∉p.aJ) (hf:nI c.toNat=some f):gF f [v] H p (.tuple #[]) (x.dK c l):=by
 have hmem:(c.toNat,f)∈yc:=by
  unfold nI at hf
  simp only[zB3]at hf
  obtain⟨q,h1,h2⟩:=hf
  have h3:=List.find?_some h1
  have h4:q.1=c.toNat:=Nat.eq_of_beq_eq_true h3
  rw[<-h4,<-h2]
  exact List.mem_of_find?_eq_some h1
 have hcn:∀ n:UInt8,c.toNat=n.toNat->c=n:=fun n h=>UInt8.toNat_inj.1 h
 simp only[yc,zA7,Prod.mk.injEq,zD2,or_false]at hmem
 rcases hmem with⟨h,rfl⟩|⟨h,rfl⟩|⟨h,rfl⟩|⟨h,rfl⟩|⟨h,rfl⟩|⟨h,rfl⟩|⟨h,rfl⟩|⟨h,rfl⟩|⟨h,rfl⟩|⟨h,rfl⟩|⟨h,rfl⟩|⟨h,rfl⟩|⟨h,rfl⟩|⟨h,rfl⟩
 ·have:=hcn 65 h; subst this; exact RX H p x v l g s ok hp
 ·have:=hcn 66 h; subst this; exact Qk H p x v l g s ok hp
 ·have:=hcn 67 h; subst this; exact OT H p x v l g s ok hp
 ·have:=hcn 68 h; subst this; exact QA H p x v l g s ok hp
 ·have:=hcn 71 h; subst this; exact NQ H p x v l g s ok hp
 ·have:=hcn 100 h; subst this; exact NW H p x v l g s ok hp
 ·have:=hcn 72 h; subst this; exact CZ H p x v l g s ok hp
 ·have:=hcn 102 h; subst this; exact CZ H p x v l g s ok hp
 ·have:=hcn 74 h; subst this; exact Fl H p x v l g s ok hp hv
 ·have:=hcn 75 h; subst this; exact yC H p x v l g s ok hp
 ·have:=hcn 76 h; subst this; exact xe H p x v l g s ok hp
 ·have:=hcn 77 h; subst this; exact wb H p x v l g s ok hp
 ·have:=hcn 109 h; subst this; exact B7 H p x v l g ok hp hv
 ·have:=hcn 114 h; subst this; exact Nj H p x v l g s ok hp
theorem xR {x:Tm} {l:List Int} {c:UInt8} (hf:nI c.toNat=none):x.dK c l=x:=by
 have hn:∀ n:UInt8,nI n.toNat≠none->c≠n:=fun n h e=>h (e▸hf)
 refine zg ⟨hn 65 (by decide),hn 66 (by decide),hn 67 (by decide),hn 68 (by decide),hn 71 (by decide),hn 100 (by decide),hn 72 (by decide),hn 102 (by decide),hn 74 (by decide),hn 75 (by decide),hn 76 (by decide),hn 77 (by decide),hn 109 (by decide),hn 114 (by decide)⟩
theorem oJ:∀ (b:List UInt8) (d:List Int) (a:Int) (l:List Int),numbers b d a=some l->l≠[]/\l.length<=b.length+d.length+1/\((∀ n∈d,0<=n/\n<=9999)->0<=a/\a<=9999->∀ n∈l,0<=n/\n<=9999)
 |[],d,a,l,h=>by
  simp only[numbers,Option.some.injEq]at h
  subst h
  refine⟨by simp,by simp,fun h1 h2 n hn=>?_⟩
  simp only[zB2,zA5]at hn
  rcases hn with hn|rfl
  ·exact h1 n hn
  ·exact h2
 |c::r,d,a,l,h=>by
  unfold numbers at h
  by_cases h1:c=59
  ·rw[if_pos h1]at h
   obtain⟨q1,q2,q3⟩:=oJ r _ _ l h
   refine⟨q1,by simp only[zB4,zB0,zB6]at q2 ⊢; omega,fun h2 h3=>q3 (fun n hn=>?_) ⟨by omega,by omega⟩⟩
   simp only[zB2,zA5]at hn
   rcases hn with hn|rfl
   ·exact h2 n hn
   ·exact h3
  ·rw[if_neg h1]at h
   by_cases h2:48<=c/\c<=57
   ·rw[if_pos h2]at h
    obtain⟨q1,q2,q3⟩:=oJ r _ _ l h
    refine⟨q1,by simp only[zB0]; omega,fun h3 h4=>q3 h3 ?_⟩
    have h5:48<=c.toNat:=h2.1
    omega
   ·rw[if_neg h2]at h; cases h
theorem Jg (H:aa) (p:Rp) (x:Tm) (c:UInt8) (g:cd H p x) (s:x.Sz) (ok:H.base<=H.next) (hpl:x.params.length<=64):gF 83 [jU c] H p (.tuple #[]) (x.fw c):=by
 obtain⟨b,hb⟩:=Go.Ax.bP H.next
 have hT:p.t<b:=hb▸g.lt p.t (by simp[Rp.aJ])
 have h1:=g.cell
 simp only[ba]at h1
 have hstr:=g.par.str
 have hsq:(((⟨x.params.toArray⟩:ByteArray).toList == (⟨#[63,50,53]⟩:ByteArray).toList))=decide (x.params=[63,50,53]):=Ql x.params [63,50,53]
 obtain⟨dq,hdq⟩:∃ d,decide (x.params=[63,50,53])=d:=⟨_,rfl⟩
 rw[hdq]at hsq
 have O5:x.params=[63,50,53] ↔ dq=true:=by rw[<-hdq,decide_eq_true_iff]
 have q104:=j0 (c:=c) (n:=104) (by omega)
 have q108:=j0 (c:=c) (n:=108) (by omega)
 rw[show (UInt8.ofNat 104)=104 from rfl,show ((104:Nat):Int)=104 from rfl]at q104
 rw[show (UInt8.ofNat 108)=108 from rfl,show ((108:Nat):Int)=108 from rfl]at q108
 obtain⟨dh,hdh⟩:∃ d,decide (c=104)=d:=⟨_,rfl⟩
 obtain⟨dl,hdl⟩:∃ d,decide (c=108)=d:=⟨_,rfl⟩
 have eh:c=104 ↔ dh=true:=by rw[<-hdh,decide_eq_true_iff]
 have el:c=108 ↔ dl=true:=by rw[<-hdl,decide_eq_true_iff]
 rw[hdh]at q104
 rw[hdl]at q108
 have key:x.fw c=cond (dq&&(dh||dl)) {x with shown:=dh} (match numbers x.params [] 0 with
  |some l=>x.dK c l
  |none=>x):=by
  unfold Tm.fw
  simp only[O5,eh,el]
  cases dq<;>cases dh<;>cases dl<;>rfl
 rw[key]
 refine aG mixed Tryz.func83 rfl Tryz.ntmps83 (zA6 rfl) ?_
 have hnoS:∀ a b:ByteArray,fu Tryz.prog (ext H []) .eql 9 (.string a) (.string b)=none:=fun a b=>by kernel_rfl
 cases hD:(dq&&(dh||dl)) with
 |true =>
  simp only[hb,hT,h1,bQ,hstr,cond_true,zW,seval]
  refine (IC rfl rfl (by simp only[aW]; rfl) (by simp only[aW]; rfl) (by decide) (hnoS _ _)).mpr ?_
  cases dq<;>cases dh<;>cases dl<;>first
   |(exfalso; revert hD; decide)
   | (simp only [hb, hT, h1, hsq, q104, q108, Tryz.results83, zW, seval]
      exact⟨trivial,p,g.one (y:={x with shown:=true}) rfl rfl rfl rfl⟩)
   | (simp only [hb, hT, h1, hsq, q104, q108, Tryz.results83, zW, seval]
      exact⟨trivial,p,g.one (y:={x with shown:=false}) rfl rfl rfl rfl⟩)
 |false =>
 rw[cond_false]
 refine kH (fun E' H'=>H'=H/\E' 0=.pointer (some ⟨p.t,0,none⟩)/\E' 1=jU c) ?_ ?_
 ·simp only[hb,hT,h1,bQ,hstr,zW,seval]
  refine (IC rfl rfl (by simp only[aW]; rfl) (by simp only[aW]; rfl) (by decide) (hnoS _ _)).mpr ?_
  cases dq<;>cases dh<;>cases dl<;>first
   |(exfalso; revert hD; decide)
   | (simp only [hsq, q104, q108, zW, seval]
      refine aj ⟨rfl,?_,?_⟩<;>simp only[aW,seval])
 rintro E X ⟨hX,g0,g1⟩
 rw[hX]
 clear hX X
 obtain⟨apv,hpv⟩:=g.par.sl
 have h2:=h1
 rw[hpv]at h2
 -- the first number
 have hw0:Bi (ext H [⟨3,false,[.int .i64 0]⟩]) (.slice (some ⟨b+0,0,some 0⟩) 1 1) [0]:=⟨by simp,b+0,false,rfl,by rw[bu hb (by simp)]; rfl,by rw[ai,hb]; simp⟩
 rw[show H=ext H [] from rfl]
 simp only[g0,hb,hT,h2,zW,seval]
 refine eT fun E' hE=>?_
 have f0:E' 0=.pointer (some ⟨p.t,0,none⟩):=by rw[hE]; simp only[g0,aW,seval]
 have f1:E' 1=jU c:=by rw[hE]; simp only[g1,aW,seval]
 have f4:E' 4=.slice (some ⟨b+0,0,some 0⟩) 1 1:=by rw[hE]; rfl
 have f32:E' 32=.slice apv x.params.length x.params.length:=by rw[hE]; rfl
 have f33:E' 33=.int .i64 (x.params.length:Int):=by rw[hE]; rfl
 have f34:E' 34=.int .i64 ((0:Nat):Int):=by rw[hE]; rfl
 clear hE g0 g1 E
 refine bE (fun E' H'=>∃ l w,Mod [] H H'/\numbers x.params [] 0=some l/\Bi H' w l/\(∀ n∈ae w,H.next<=n)/\E' 0=.pointer (some ⟨p.t,0,none⟩)/\E' 1=jU c/\E' 4=w) ?_ ?_
 ·refine cU (fun (q:Nat × List Int × Int × Value) E' H'=>Mod [] H H'/\q.1<=x.params.length/\numbers (x.params.drop q.1) q.2.1 q.2.2.1=numbers x.params [] 0/\q.2.1.length<=q.1/\0<=q.2.2.1/\q.2.2.1<=9999/\Bi H' q.2.2.2 (q.2.1++[q.2.2.1])/\(∀ n∈ae q.2.2.2,H.next<=n)/\E' 0=.pointer (some ⟨p.t,0,none⟩)/\E' 1=jU c/\E' 4=q.2.2.2/\E' 32=.slice apv x.params.length x.params.length/\E' 33=.int .i64 (x.params.length:Int)/\E' 34=.int .i64 (q.1:Int)) (fun q=>x.params.length-q.1) (0,[],0,.slice (some ⟨b+0,0,some 0⟩) 1 1)
   ⟨Mod.ext ok,zB7 _,rfl,zA8 _,Int.le_refl _,by simp only; omega,hw0,fun n hn=>by simp only[ae,zA5]at hn; omega,f0,f1,f4,f32,f33,f34⟩ ?_
  clear f0 f1 f4 f32 f33 f34 hw0 E'
  rintro⟨i,d,a,w⟩ E X ⟨mX,hi,hnum,hdl',ha0,ha9,hw,hwn,f0,f1,f4,f32,f33,f34⟩
  simp only at mX hi hnum hdl' ha0 ha9 hw hwn f4 f34
  rw[show X=ext X [] from rfl]
  have okX:=mX.ok ok
  by_cases hie:i=x.params.length
  ·have hd:decide ((i:Int)<(x.params.length:Int))=false:=decide_eq_false (by omega)
   simp only[f33,f34,hd,zW,seval]
   rw[hie,List.drop_length]at hnum
   refine aj ⟨_,w,mX,?_,hw,hwn,?_,?_,?_⟩<;>try simp only[f0,f1,f4,aW,seval]
   rw[<-hnum]; rfl
  ·have hlt:i<x.params.length:=by omega
   have hd:decide ((i:Int)<(x.params.length:Int))=true:=decide_eq_true (by omega)
   obtain⟨xb,hxb⟩:=Go.Ax.bP X.next
   obtain⟨ch,hch⟩:∃ ch,x.params[i]?=some ch:=⟨_,zB1 hlt⟩
   obtain⟨n1,o1,i1,m1,ld1⟩:=g.par.get hch
   have hn1:n1<H.next:=g.lt n1 (by simp[Rp.aJ,m1])
   have ld1':∀ q,oL Tryz.prog 5 o1 (EO (bk X n1) q)=some (jU ch):=fun q=>by rw[mX.bk hn1 (by simp)]; exact ld1 q
   have hn1x:n1<xb:=hxb▸mX.lt hn1
   rw[hpv]at i1
   have hdrop:x.params.drop i=ch::x.params.drop (i+1):=by
    rw[List.drop_eq_getElem_cons hlt]
    congr 1
    rw[zB1 hlt]at hch
    exact Option.some.inj hch
   rw[hdrop]at hnum
   have hw':=hw
   obtain⟨_,nw,o,hwe,hwb,hwlt⟩:=hw'
   have hlen:(d++[a]).length=d.length+1:=by simp
   rw[hlen]at hwe
   have hwi:aP Tryz.prog 22 (.slice (some ⟨nw,0,if o=true then none else some 0⟩) (d.length+1) (d.length+1)) (.int .i64 (d.length:Int))=some (.pointer (some ⟨nw,d.length,none⟩)):=by
    have:=KW (len:=d.length+1) (cap:=d.length+1) (n:=nw) (off:=0) (s:=if o=true then none else some 0) (i:=(d.length:Int)) (k:=d.length) rfl (by omega)
    rw[zB8]at this
    exact this
   have hwl:IntKind.i64.wrap (((d.length+1:Nat):Int)-1)=(d.length:Int):=by
    have:=aQ (n:=((d.length+1:Nat):Int)-1) (by omega) (by omega)
    rw[show IntKind.i64.wrap (((d.length+1:Nat):Int)-1)=_ from this]; omega
   have hws:=bO (show i<1000000 by omega)
   have q59:=j0 (c:=ch) (n:=59) (by omega)
   rw[show (UInt8.ofNat 59)=59 from rfl,show ((59:Nat):Int)=59 from rfl]at q59
   have hwx:nw<xb:=hxb▸hwlt
   obtain⟨L,hL⟩:=Go.Ax.bP (d.length+1)
   rw[hL]at hwe hwi hwl
   rw[hwe]at f4
   by_cases h59:ch=59
   ·have hd59:decide ((ch.toNat:Int)=59)=true:=by rw[q59]; exact decide_eq_true h59
    obtain⟨w',G,happ,hwG,mG,hGn⟩:=Nb hw hxb (by simp; omega) okX
    rw[hwe]at happ
    simp only[f4,f32,f33,f34,hd,hxb,hn1x,i1,ld1',hwl,hwi,hd59,happ,hws,zW,seval]
    refine aM ⟨(i+1,d++[a],0,w'),by simp only; omega,mX.step mG ok (fun n hn=>.inr (hwn n hn)),by simp only; omega,?_,by simp; omega,Int.le_refl _,by simp only; omega,hwG,fun n hn=>?_,?_,?_,?_,?_,?_,?_⟩<;>try simp only[f0,f1,f32,f33,aW,seval]
    ·rw[<-hnum]
     conv=>rhs; rw[numbers,if_pos h59]
    ·have:=hGn n hn
     have:=mX.next
     omega
   ·have hd59:decide ((ch.toNat:Int)=59)=false:=by rw[q59]; exact decide_eq_false h59
    by_cases hdig:48<=ch/\ch<=57
    ·have c1:48<=ch.toNat:=hdig.1
     have c2:ch.toNat<=57:=hdig.2
     have p1:decide ((48:Int)<=(ch.toNat:Int))=true:=decide_eq_true (by omega)
     have p2:decide ((ch.toNat:Int)<=57)=true:=decide_eq_true (by omega)
     have ldl:(dX (d++[a]))[d.length]?=some (.int .i64 a):=by
      rw[Aa]
      simp
     have hs8:=Qo hdig.1
     have hcv:∀ (Y:aa) (m:Int),cj Tryz.prog Y 5 3 (.int .u8 m)=some (.int .i64 (IntKind.i64.wrap m),Y):=fun Y m=>iL (u:=.int .u8) (by kernel_rfl) (by kernel_rfl)
     have hw8:IntKind.i64.wrap ((ch.toNat:Int)-48)=(ch.toNat:Int)-48:=aQ (by omega) (by omega)
     have hw10:IntKind.i64.wrap (a*10)=a*10:=aQ (by omega) (by omega)
     have hw11:IntKind.i64.wrap (a*10+((ch.toNat:Int)-48))=a*10+((ch.toNat:Int)-48):=aQ (by omega) (by omega)
     have hst:∀ N v,vw Tryz.prog 3 N d.length (.int .i64 v) (some ⟨3,o,dX (d++[a])⟩)=some ⟨3,o,cL (dX (d++[a])) d.length [.int .i64 v]⟩:=fun N v=>l5 (v:=.int .i64 v) (by kernel_rfl) (by simp only[Value.cells,iI,zB4,zB0,zB6]; omega) rfl rfl
     have hset:=LD (c:=min 9999 (a*10+((ch.toNat:Int)-48))) hw nw (by rw[hwe]; simp[ae])
     simp only[f4,f32,f33,f34,hd,hxb,hn1x,i1,ld1',hwl,hwi,hd59,p1,p2,hwx,ldl,hs8,bQ,hcv,hw8,hw10,hw11,hwb,hst,hws,zW,seval]
     refine aM ⟨(i+1,d,min 9999 (a*10+((ch.toNat:Int)-48)),w),by simp only; omega,mX.step (W':=[nw]) (Mod.uw (by simp)) ok (fun n hn=>.inr (hwn n (by rw[hwe]; simpa[ae]using hn))),by simp only; omega,?_,by simp only; omega,by simp only; omega,by simp only; omega,hset,hwn,?_,?_,?_,?_,?_,?_⟩<;>try simp only[f0,f1,f4,f32,f33,aW,seval]
     ·rw[<-hnum]
      conv=>rhs; rw[numbers,if_neg h59,if_pos hdig]
     ·exact hwe.symm
    ·have hnone:numbers x.params [] 0=none:=by
      rw[<-hnum,numbers,if_neg h59,if_neg hdig]
     rw[hnone]
     obtain⟨e1,he1⟩:∃ e,decide ((48:Int)<=(ch.toNat:Int))=e:=⟨_,rfl⟩
     obtain⟨e2,he2⟩:∃ e,decide ((ch.toNat:Int)<=57)=e:=⟨_,rfl⟩
     have hno:¬(e1=true/\e2=true):=fun h=>by
      have t1:=of_decide_eq_true (he1.trans h.1)
      have t2:=of_decide_eq_true (he2.trans h.2)
      exact hdig (zA0 (show 48<=ch.toNat by omega) (show ch.toNat<=57 by omega))
     cases e1<;>cases e2<;>first
      |exact absurd ⟨rfl,rfl⟩ hno
      | (simp only [f4, f32, f33, f34, hd, hxb, hn1x, i1, ld1', hwl, hwi, hd59, he1, he2, eF, Tryz.results83, zW, seval]
         exact⟨trivial,p,Step.quiet g mX⟩)
 clear f0 f1 f4 f32 f33 f34 E'
 rintro E X ⟨l,w,mX,hnum,hw,hwn,f0,f1,f4⟩
 rw[hnum]
 have okX:=mX.ok ok
 have gX:cd X p x:=g.of mX.next fun n hn=>mX.get n (g.lt n hn) (by simp)
 obtain⟨q1,q2,q3⟩:=oJ _ _ _ _ hnum
 rw[show X=ext X [] from rfl]
 simp only[zW]
 refine (MW X okX).mono ?_
 rintro _ Y ⟨rfl,rfl⟩
 have mY:Mod [] X (X.new tu):=Mod.new okX
 have okY:=mY.ok okX
 have gY:cd (X.new tu) p x:=gX.of mY.next fun n hn=>mY.get n (gX.lt n hn) (by simp)
 have hlk:=Kw (X:=X) c
 rw[show X.new tu=ext (X.new tu) [] from rfl]at hlk
 have hwY:ef (X.new tu) w l:=hw.at_.of fun n hn=>by
  obtain⟨_,nw,o,hwe,_,hlt⟩:=hw
  rw[hwe]at hn
  simp only[ae,zA5]at hn
  exact mY.get n (by omega) (by simp)
 have hpY:kJ (X.new tu) w l:=⟨hwY,q1,q3 (by simp) ⟨Int.le_refl _,by omega⟩,by simp only[zB6]at q2; omega,fun n hn=>by
  obtain⟨_,nw,o,hwe,_,hlt⟩:=hw
  rw[hwe]at hn
  simp only[ae,zA5]at hn
  have:=mY.next
  omega⟩
 have hvY:∀ n∈ae w,n∉p.aJ:=fun n hn hb'=>by
  have:=hwn n hn
  have:=g.lt n hb'
  omega
 rw[show X.new tu=ext (X.new tu) [] from rfl]
 cases hf:nI c.toNat with
 |none =>
  rw[hf]at hlk
  rw[xR hf]
  simp only[f1,CK,hlk,Qg,zW,seval]
  refine (nL (p:=.nilFunc) (q:=.nilFunc) (v:=.bool false) rfl rfl rfl rfl (by decide) (by kernel_rfl) rfl rfl (by kernel_rfl) rfl).mpr ?_
  simp only[Tryz.results83,zW,seval]
  exact⟨trivial,p,Step.quiet g (mX.trans mY)⟩
 |some f =>
  rw[hf]at hlk
  have hfin:=NH (X.new tu) p x w l c f gY s okY hpY hvY hf
  simp only[f0,f1,f4,CK,hlk,Qg,zW,seval]
  have hbody:aF Tryz.prog f=true:=by
   have hmem:f∈yc.map (·.2):=by
    unfold nI at hf
    simp only[zB3]at hf
    obtain⟨q,h1,h2⟩:=hf
    exact zB5.2 ⟨q,List.mem_of_find?_eq_some h1,h2⟩
   have hall:(yc.map (·.2)).all (aF Tryz.prog)=true:=by kernel_rfl
   exact zC6.1 hall f hmem
  refine vK (f:=f) (ca:=[]) rfl rfl rfl hbody ?_
  simp only[aW,seval]
  refine bF.mono (show bF Tryz.prog f [.pointer (some ⟨p.t,0,none⟩),w] (ext (X.new tu) []) _ from hfin) ?_
  rintro _ Z ⟨rfl,p1,st⟩
  rw[show Z=ext Z [] from rfl]
  simp only[Tryz.results83,lh,seval]
  exact⟨trivial,p1,(Step.quiet g (mX.trans mY)).trans ok st⟩
theorem lz {H:aa} {n:Nat} {b:Bl} (h:bk H n=some b):∃ rv,bH H n=some (rv,b.e,b.o)/\rv.n=b.l.length:=by
 obtain⟨rv,h1,h2,h3⟩:=qY h
 exact⟨rv,h1,h2⟩
theorem Bn {P:Program} {H:aa} {st xt e:TypeId} {sz by1 m off k n off2 cnt cap:Nat} {sp s:Option Nat} {z:Value} {b bm:Bl} (hu:P.underlying st=some (.slice e)) (hsz:bh P e=some sz) (hby:bytesOf P e=some by1) (hz:zeroOf P e=some z) (hzl:z.cells.toList.length=sz) (hi:fj P xt=some false)
  (hm:bk H m=some bm) (he:bm.e=e) (ho:bm.o=true) (hle:off+k*sz<=bm.l.length) (hone:((bm.l.drop off).take (k*sz)).all one=true) (hsp:sp=none\/(∃ j,sp=some (j+1))/\k=0)
  (hb:bk H n=some b) (hle2:off2+cnt*sz<=b.l.length) (hone2:b.l.all one=true) (hc:0<cnt) (hsm:small (k+cnt) by1=true) :
  aD P H .append ⟨[st,xt]⟩ [.slice (some ⟨m,off,sp⟩) k k,.slice (some ⟨n,off2,s⟩) cnt cap]=(cF (H.cE m none) e ((bm.l.drop off).take (k*sz)++(b.l.drop off2).take (cnt*sz)) true).map fun g=>(.slice (some ⟨H.next,0,none⟩) (k+cnt) (k+cnt),g):=by
 have hl:((b.l.drop off2).take (cnt*sz)).length=cnt*sz:=by simp; omega
 have hl2:((bm.l.drop off).take (k*sz)).length=k*sz:=by simp; omega
 obtain⟨rv,hcm,hrn⟩:=lz hm
 have hop:=jt hm
 rw[ho]at hop
 have hf:=fI (sz:=sz) (cnt:=k) (off:=off) (len:=k) (cap:=k) (s:=sp) hm hle
 have hex:fC H ⟨m,off,sp⟩ k k=some false:=by
  rcases hsp with rfl|⟨⟨j,rfl⟩,rfl⟩
  ·simp only[fC,cY,hop,zA9,zE0]
  ·simp only[fC,hop]
   rfl
 simp only[aD,eP,hu,hsz,hby,hz,hi,zA1,zA3,iY,fI hb hle2,hl,hzl,hsm,and_self,if_true,cW]
 rw[if_neg (by omega)]
 simp only[hf,zA3,hl2,hone,lG hone2,decide_true,zE3,if_true,hex,hcm]
 rw[if_pos ⟨he,by rw[zE6,hrn]; omega⟩]
 cases cF (H.cE m none) e ((bm.l.drop off).take (k*sz)++(b.l.drop off2).take (cnt*sz)) true<;>rfl
theorem AM {X:aa} {v:Value} {l:List UInt8} {k:Nat} {c:UInt8} (h:cK X v l) (hlt:∀ n∈ae v,n<X.next) (hk:X.next=k) (hlen:l.length<=1000) (hok:X.base<=X.next) :
  ∃ G,aD Tryz.prog (ext X [⟨5,false,[jU c]⟩]) .append ⟨[25,25]⟩ [v,.slice (some ⟨k+0,0,some 0⟩) 1 1]=some (.slice (some ⟨k+1,0,none⟩) (l.length+1) (l.length+1),ext G [])/\cK G (.slice (some ⟨k+1,0,none⟩) (l.length+1) (l.length+1)) (l++[c])/\Mod (ae v) X G/\k+1<G.next:=by
 have hkb:bk (ext X [⟨5,false,[jU c]⟩]) (k+0)=some ⟨5,false,[jU c]⟩:=by rw[bu hk (by simp)]; rfl
 have hsm:∀ j,j<=1001->small j 1=true:=fun j hj=>by simp only[small,zA4,zE6]; omega
 have ht2:([jU c].drop 0).take (1*1)=[jU c]:=rfl
 have hcs:ay l++[jU c]=ay (l++[c]):=by simp[ay]
 have a1:Tryz.prog.underlying 25=some (.slice 5):=by kernel_rfl
 have a2:bh Tryz.prog 5=some 1:=by kernel_rfl
 have a3:bytesOf Tryz.prog 5=some 1:=by kernel_rfl
 have a4:zeroOf Tryz.prog 5=some (.int .u8 0):=by kernel_rfl
 have a5:fj Tryz.prog 25=some false:=by kernel_rfl
 -- the result, if nothing is dropped
 have fin1:∀ (L:List Value),L=ay (l++[c])->(cF (ext X [⟨5,false,[jU c]⟩]) 5 L true)=some (ext X [⟨5,false,[jU c]⟩,⟨5,true,ay (l++[c])⟩]):=by
  rintro L rfl
  exact eN (H:=X) (L:=[⟨5,false,[jU c]⟩]) (AW _ _)
 have res1:cK (ext X [⟨5,false,[jU c]⟩,⟨5,true,ay (l++[c])⟩]) (.slice (some ⟨k+1,0,none⟩) (l.length+1) (l.length+1)) (l++[c]):=by
  refine .inr (.inl ⟨by simp,k+1,[],by simp,?_⟩)
  rw[bu hk (by simp)]; rfl
 have id1:k+1<(ext X [⟨5,false,[jU c]⟩,⟨5,true,ay (l++[c])⟩]).next:=by rw[ai]; simp; omega
 have open1:∀ m off sp,m<X.next->(cF ((ext X [⟨5,false,[jU c]⟩]).cE m none) 5 (ay (l++[c])) true)=some (ext (dp X m) [⟨5,false,[jU c]⟩,⟨5,true,ay (l++[c])⟩])/\cK (ext (dp X m) [⟨5,false,[jU c]⟩,⟨5,true,ay (l++[c])⟩]) (.slice (some ⟨k+1,0,none⟩) (l.length+1) (l.length+1)) (l++[c])/\Mod (ae (.slice (some ⟨m,off,sp⟩) l.length l.length)) X (ext (dp X m) [⟨5,false,[jU c]⟩,⟨5,true,ay (l++[c])⟩])/\k+1<(ext (dp X m) [⟨5,false,[jU c]⟩,⟨5,true,ay (l++[c])⟩]).next:=by
  intro m off sp hm
  have hk2:(dp X m).next=k:=hk
  refine⟨?_,?_,?_,by rw[ai,iO]; simp; omega⟩
  ·rw[Ge hm]
   exact eN (H:=dp X m) (L:=[⟨5,false,[jU c]⟩]) (AW _ _)
  ·refine .inr (.inl ⟨by simp,k+1,[],by simp,?_⟩)
   rw[bu hk2 (by simp)]; rfl
  ·have mD:Mod (ae (.slice (some ⟨m,off,sp⟩) l.length l.length)) X (dp X m):=Mod.cE (by simp[ae])
   exact mD.trans (Mod.ext (mD.ok hok))
 rcases h with⟨rfl,rfl⟩|⟨cR,n,pre,rfl,hb⟩|⟨rfl,n,off,j,L,rfl,hb,hle⟩|⟨rfl,n,rfl,hb⟩
 ·have happ:=Il (P:=Tryz.prog) (H:=ext X [⟨5,false,[jU c]⟩]) (st:=25) (xt:=25) (n:=k+0) (off:=0) (cnt:=1) (cap:=1) (s:=some 0) a1 a2 a3 a4 rfl a5 hkb (by simp) rfl (by decide) (hsm 1 (by omega))
  rw[ht2,fin1 [jU c] rfl,zA9,ai,hk]at happ
  exact⟨ext X [⟨5,false,[jU c]⟩,⟨5,true,ay [c]⟩],happ,res1,Mod.ext hok,id1⟩
 ·have hn:=hlt n (by simp[ae])
  have hbX:=(iN (L:=[⟨5,false,[jU c]⟩]) hn).trans hb
  have happ:=Bn (P:=Tryz.prog) (H:=ext X [⟨5,false,[jU c]⟩]) (st:=25) (xt:=25) (m:=n) (off:=pre.length) (k:=l.length) (n:=k+0) (off2:=0) (cnt:=1) (cap:=1) (s:=some 0) a1 a2 a3 a4 rfl a5 hbX rfl rfl (by simp[eU]) (lG (Fy _) _ _) (.inl rfl) hkb (by simp) rfl (by decide) (hsm _ (by omega))
  have hdr:((ay (pre++l)).drop pre.length).take (l.length*1)=ay l:=by
   rw[zE8,qj,<-eU pre,List.drop_left,zD6 (by rw[eU]; exact zA8 _)]
  simp only[hdr,ht2,hcs]at happ
  obtain⟨o1,o2,o3,o4⟩:=open1 n pre.length none hn
  rw[o1,zA9,ai,hk]at happ
  exact⟨ext (dp X n) [⟨5,false,[jU c]⟩,⟨5,true,ay (l++[c])⟩],happ,o2,o3,o4⟩
 ·have hn:=hlt n (by simp[ae])
  have hbX:=(iN (L:=[⟨5,false,[jU c]⟩]) hn).trans hb
  have happ:=Bn (P:=Tryz.prog) (H:=ext X [⟨5,false,[jU c]⟩]) (st:=25) (xt:=25) (m:=n) (off:=off) (k:=0) (sp:=some (j+1)) (n:=k+0) (off2:=0) (cnt:=1) (cap:=1) (s:=some 0) a1 a2 a3 a4 rfl a5 hbX rfl rfl (by simp only[zF7,zE1]; exact hle) (by simp) (.inr ⟨⟨j,rfl⟩,rfl⟩) hkb (by simp) rfl (by decide) (hsm _ (by omega))
  have hdr:(L.drop off).take (0*1)++[jU c]=ay ([]++[c]):=by simp[ay]
  simp only[ht2,hdr]at happ
  obtain⟨o1,o2,o3,o4⟩:=open1 n off (some (j+1)) hn
  rw[o1,zA9,ai,hk]at happ
  exact⟨ext (dp X n) [⟨5,false,[jU c]⟩,⟨5,true,ay [c]⟩],happ,o2,o3,o4⟩
 ·have hn:=hlt n (by simp[ae])
  have hbX:=(iN (L:=[⟨5,false,[jU c]⟩]) hn).trans hb
  have happ:=pI (P:=Tryz.prog) (H:=ext X [⟨5,false,[jU c]⟩]) (st:=25) (xt:=25) (m:=n) (k:=0) (n:=k+0) (off:=0) (cnt:=1) (cap:=1) (s:=some 0) a1 a2 a3 a4 rfl a5 hbX (by simp) rfl hkb (by simp) rfl (by decide) (hsm _ (by omega))
  rw[ht2]at happ
  rw[show (Bl.mk 5 false []).l.take (0*1)++[jU c]=ay ([]++[c]) from rfl,fin1 _ rfl,zA9,ai,hk]at happ
  exact⟨ext X [⟨5,false,[jU c]⟩,⟨5,true,ay [c]⟩],happ,res1,Mod.ext hok,id1⟩
theorem cd.Co {H H1:aa} {p:Rp} {x y:Tm} (g:cd H p x) (rv pv:Value) (m:Mod (p.t::(ae p.rv++ae p.pv)) H H1) (hc:bk H1 p.t=some ⟨66,false,ba {p with rv:=rv,pv:=pv} y⟩) (h1:y.ah=x.ah) (hr:cK H1 rv y.rest) (hp:cK H1 pv y.params)
  (hi:∀ n∈ae rv++ae pv,n∈ae p.rv++ae p.pv\/(H.next<=n/\n<H1.next)) (hnd:(ae rv++ae pv).Nodup):Step H p H1 {p with rv:=rv,pv:=pv} y:=by
 have hnd0:=g.nd
 simp only[Rp.aJ]at hnd0
 have n1:=zC9.1 hnd0
 have n2:=zC9.1 n1.2
 have n3:=n2.2
 rw[zD3]at n3
 have n4:=zD4.1 n3
 have hin:∀ n∈ae p.rv++ae p.pv,n∈p.aJ:=fun n hn=>by simp only[Rp.aJ,zA7,zB2]at hn ⊢; rcases hn with h|h<;>simp[h]
 have hrs:∀ q∈p.rs,q.1∈p.aJ:=fun q hq=>by simp only[Rp.aJ,zA7,zB2,zB5]; exact .inr (.inr (.inl (.inl ⟨q,hq,rfl⟩)))
 have hrsW:∀ q∈p.rs,q.1∉p.t::(ae p.rv++ae p.pv):=fun q hq hm=>by
  have hqm:q.1∈p.rs.map (·.1):=zB5.2 ⟨q,hq,rfl⟩
  rcases zA7.1 hm with e|h
  ·exact n1.1 (e▸(by simp only[zA7,zB2]; exact .inr (.inl (.inl hqm))))
  ·exact n4.2.2 q.1 hqm q.1 h rfl
 have hrbW:p.rb∉p.t::(ae p.rv++ae p.pv):=fun hm=>by
  rcases zA7.1 hm with e|h
  ·exact n1.1 (by rw[e]; simp)
  ·rcases zB2.1 h with h|h
   ·exact n2.1 (by simp[h])
   ·exact n2.1 (by simp[h])
 have hout:∀ n∈ae rv++ae pv,n≠p.t/\n≠p.rb/\n∉p.rs.map (·.1):=fun n hn=>by
  rcases hi n hn with h|⟨h,_⟩
  ·refine⟨fun e=>n1.1 (e▸?_),fun e=>n2.1 (e▸?_),fun e=>n4.2.2 n e n h rfl⟩<;>rcases zB2.1 h with h|h<;>simp[h]
  ·refine⟨fun e=>?_,fun e=>?_,fun e=>?_⟩
   ·have:=g.lt p.t (by simp[Rp.aJ]); omega
   ·have:=g.lt p.rb (by simp[Rp.aJ]); omega
   ·obtain⟨q,hq,rfl⟩:=zB5.1 e
    have:=g.lt q.1 (hrs q hq); omega
 have hnew:∀ n∈({p with rv:=rv,pv:=pv}:Rp).aJ,n∈p.aJ\/(H.next<=n/\n<H1.next):=by
  intro n hn
  simp only[Rp.aJ,zA7,zD3]at hn
  rcases hn with rfl|rfl|hn
  ·exact .inl (by simp[Rp.aJ])
  ·exact .inl (by simp[Rp.aJ])
  ·rcases zB2.1 hn with h|h
   ·obtain⟨q,hq,rfl⟩:=zB5.1 h
    exact .inl (hrs q hq)
   ·exact (hi n h).imp (hin n) id
 have hw:y.w=x.w:=by simp only[Tm.w,h1]
 have hh:y.h=x.h:=by simp only[Tm.h,h1]
 refine⟨⟨hc,?_,?_,?_,hr,hp,?_,fun n hn=>?_⟩,m.mono ?_,rfl,fun n hn=>(hnew n hn).imp id (fun h=>h.1)⟩
 ·rw[m.bk (g.lt _ (by simp[Rp.aJ])) hrbW,g.rows,hw]
 ·rw[hh]; exact g.len
 ·intro i q l hq hl
  rw[h1]at hl
  have hqm:=zB9 hq
  rw[m.bk (g.lt _ (hrs q hqm)) (hrsW q hqm)]
  exact g.row i q l hq hl
 ·simp only[Rp.aJ,zD3]
  refine zC9.2 ⟨?_,zC9.2 ⟨?_,zD4.2 ⟨n4.1,hnd,fun a ha b hb e=>(hout b hb).2.2 (e▸ha)⟩⟩⟩
  ·intro hm
   rcases zA7.1 hm with e|hm
   ·exact n1.1 (by rw[e]; simp)
   ·rcases zB2.1 hm with h|h
    ·exact n1.1 (by simp only[zA7,zB2]; exact .inr (.inl (.inl h)))
    ·exact (hout _ h).1 rfl
  ·intro hm
   rcases zB2.1 hm with h|h
   ·exact n2.1 (by simp only[zB2]; exact .inl (.inl h))
   ·exact (hout _ h).2.1 rfl
 ·rcases hnew n hn with h|h
  ·exact m.lt (g.lt n h)
  ·exact h.2
 ·intro n hn
  rcases zA7.1 hn with rfl|h
  ·simp[Rp.aJ]
  ·exact hin n h
theorem Lo {c:UInt8} {n:Nat} (hn:n<256):decide ((n:Int)<=(c.toNat:Int))=decide (UInt8.ofNat n<=c):=by
 have:(n:Int)<=(c.toNat:Int) ↔ UInt8.ofNat n<=c:=by
  rw[UInt8.le_iff_toNat_le,UInt8.toNat_ofNat_of_lt' hn]
  omega
 simp only[this]
theorem Rz {c:UInt8} {n:Nat} (hn:n<256):decide ((c.toNat:Int)<=(n:Int))=decide (c<=UInt8.ofNat n):=by
 have:(c.toNat:Int)<=(n:Int) ↔ c<=UInt8.ofNat n:=by
  rw[UInt8.le_iff_toNat_le,UInt8.toNat_ofNat_of_lt' hn]
  omega
 simp only[this]
theorem LO {c:UInt8} {n:Nat} (hn:n<256):decide ((c.toNat:Int)<(n:Int))=decide (c<UInt8.ofNat n):=by
 have:(c.toNat:Int)<(n:Int) ↔ c<UInt8.ofNat n:=by
  rw[UInt8.lt_iff_toNat_lt,UInt8.toNat_ofNat_of_lt' hn]
  omega
 simp only[this]
theorem RB {c:UInt8} {n:Nat} (hn:n<256):decide ((n:Int)<(c.toNat:Int))=decide (UInt8.ofNat n<c):=by
 have:(n:Int)<(c.toNat:Int) ↔ UInt8.ofNat n<c:=by
  rw[UInt8.lt_iff_toNat_lt,UInt8.toNat_ofNat_of_lt' hn]
  omega
 simp only[this]
theorem Tm.Sz.BC {x:Tm} (s:x.Sz) (m:Bool) (l:List UInt8):Tm.Sz {x with middle:=m,params:=l} :=
 ⟨s.h1,s.h2,s.w1,s.w2,s.ws,s.r1,s.r2,s.c1,s.c2,s.sr1,s.sr2,s.sc1,s.sc2,s.t1,s.t2,s.t3,s.md,s.hd⟩
theorem Tm.Sz.parameter {x:Tm} (s:x.Sz) (c:UInt8):(x.parameter c).1.Sz:=by
 unfold Tm.parameter
 by_cases h1:c=27
 ·rw[if_pos h1]; exact s
 rw[if_neg h1]
 by_cases h2:64<=c/\c<=126
 ·rw[if_pos h2]
  simp only
  split
  ·exact s.fw c
  ·exact s
 rw[if_neg h2]
 by_cases h3:c<32\/c>126\/(c ≥ 48/\x.middle=true)
 ·rw[if_pos h3]; exact s
 rw[if_neg h3]
 simp only
 split
 ·exact s.BC _ _
 ·exact s.BC _ x.params
theorem CF (H:aa) (p:Rp) (x:Tm) (c:UInt8) (g:cd H p x) (s:x.Sz) (ok:H.base<=H.next) (hpl:x.params.length<=65):gF 44 [jU c] H p (.int .i64 ((x.parameter c).2:Int)) (x.parameter c).1:=by
 obtain⟨b,hb⟩:=Go.Ax.bP H.next
 have hT:p.t<b:=hb▸g.lt p.t (by simp[Rp.aJ])
 have h1:=g.cell
 simp only[ba]at h1
 obtain⟨apv,hpv⟩:=g.par.sl
 have h2:=h1
 rw[hpv]at h2
 obtain⟨d27,hd27⟩:∃ d,decide (c=27)=d:=⟨_,rfl⟩
 obtain⟨d64,hd64⟩:∃ d,decide (64<=c)=d:=⟨_,rfl⟩
 obtain⟨d126,hd126⟩:∃ d,decide (c<=126)=d:=⟨_,rfl⟩
 obtain⟨d32,hd32⟩:∃ d,decide (c<32)=d:=⟨_,rfl⟩
 obtain⟨d127,hd127⟩:∃ d,decide (126<c)=d:=⟨_,rfl⟩
 obtain⟨d48,hd48⟩:∃ d,decide (48<=c)=d:=⟨_,rfl⟩
 obtain⟨dl48,hdl48⟩:∃ d,decide (c<48)=d:=⟨_,rfl⟩
 obtain⟨dm,hdm⟩:∃ d,x.middle=d:=⟨_,rfl⟩
 obtain⟨dp,hdp⟩:∃ d,decide (x.params.length<=64)=d:=⟨_,rfl⟩
 have e27:c=27 ↔ d27=true:=by rw[<-hd27,decide_eq_true_iff]
 have e64:64<=c ↔ d64=true:=by rw[<-hd64,decide_eq_true_iff]
 have e126:c<=126 ↔ d126=true:=by rw[<-hd126,decide_eq_true_iff]
 have e32:c<32 ↔ d32=true:=by rw[<-hd32,decide_eq_true_iff]
 have e127:126<c ↔ d127=true:=by rw[<-hd127,decide_eq_true_iff]
 have e48:48<=c ↔ d48=true:=by rw[<-hd48,decide_eq_true_iff]
 have ep:x.params.length<=64 ↔ dp=true:=by rw[<-hdp,decide_eq_true_iff]
 have q27:decide ((c.toNat:Int)=27)=d27:=(j0 (n:=27) (by omega)).trans hd27
 have q64:decide ((64:Int)<=(c.toNat:Int))=d64:=(Lo (n:=64) (by omega)).trans hd64
 have q126:decide ((c.toNat:Int)<=126)=d126:=(Rz (n:=126) (by omega)).trans hd126
 have q32:decide ((c.toNat:Int)<32)=d32:=(LO (n:=32) (by omega)).trans hd32
 have q127:decide ((126:Int)<(c.toNat:Int))=d127:=(RB (n:=126) (by omega)).trans hd127
 have q48:decide ((48:Int)<=(c.toNat:Int))=d48:=(Lo (n:=48) (by omega)).trans hd48
 have ql48:decide ((c.toNat:Int)<48)=dl48:=(LO (n:=48) (by omega)).trans hdl48
 have qp:decide ((x.params.length:Int)<=64)=dp:=by
  rw[<-hdp]
  by_cases h:x.params.length<=64
  ·rw[decide_eq_true h,decide_eq_true (by omega)]
  ·rw[decide_eq_false h,decide_eq_false (by omega)]
 have key:x.parameter c=cond d27 (x,1) (cond (d64&&d126) (cond dp (x.fw c) x,0) (cond (d32||(d127||(d48&&dm))) (x,0) (cond dp {x with middle:=dm||dl48,params:=x.params++[c]} {x with middle:=dm||dl48},3))):=by
  unfold Tm.parameter
  simp only[e27,e64,e126,e32,gt_iff_lt,ge_iff_le,e127,e48,hdm,hdl48,ep]
  cases d27<;>cases d64<;>cases d126<;>cases d32<;>cases d127<;>cases d48<;>cases dm<;>cases dp<;>rfl
 rw[key]
 refine aG mixed Tryz.func44 rfl Tryz.ntmps44 (zA6 rfl) ?_
 cases d27 with
 |true =>
  simp (maxDischargeDepth:=6) only[q27,cond_true,Tryz.results44,zW,Nat.reduceLT,Nat.reduceAdd,Nat.reduceEqDiff]
  exact⟨rfl,p,Step.refl g⟩
 |false =>
 rw[cond_false]
 cases hA:(d64&&d126) with
 |true =>
  rw[cond_true]
  cases d64<;>cases d126<;>first
   |(exfalso; revert hA; decide)
   |skip
  cases dp with
  |true =>
   simp (maxDischargeDepth:=6) only[hb,hT,h2,q27,q64,q126,qp,cond_true,zW,Nat.reduceLT,Nat.reduceAdd,Nat.reduceEqDiff]
   refine (Jg (ext H []) p x c g s ok (ep.2 rfl)).mono ?_
   rintro _ H1 ⟨rfl,p1,st⟩
   rw[show H1=ext H1 [] from rfl]
   simp (maxDischargeDepth:=6) only[Tryz.results44,zW,Nat.reduceLT]
   exact⟨rfl,p1,st⟩
  |false =>
   simp (maxDischargeDepth:=6) only[hb,hT,h2,q27,q64,q126,qp,cond_false,Tryz.results44,zW,Nat.reduceLT,Nat.reduceAdd,Nat.reduceEqDiff]
   exact⟨rfl,p,Step.refl g⟩
 |false =>
 rw[cond_false]
 cases hB:(d32||(d127||(d48&&dm))) with
 |true =>
  rw[cond_true]
  cases d64<;>cases d126<;>cases d32<;>cases d127<;>cases d48<;>cases dm<;>first
   |(exfalso; revert hA; decide)
   |(exfalso; revert hB; decide)
   | (simp (maxDischargeDepth := 6) only [hb, hT, h1, hdm, q27, q64, q126, q32, q127, q48, Tryz.results44, zW, Nat.reduceLT, Nat.reduceAdd, Nat.reduceEqDiff]
      exact⟨rfl,p,Step.refl g⟩)
 |false =>
 rw[cond_false]
 refine kH (fun E' H'=>H'=H/\E' 0=.pointer (some ⟨p.t,0,none⟩)/\E' 1=jU c) ?_ ?_
 ·simp (maxDischargeDepth:=6) only[zW,Nat.reduceLT,Nat.reduceAdd]
  refine aj ⟨rfl,?_,?_⟩<;>simp only[aW,Nat.reduceEqDiff]
 rintro E X ⟨hX,g0,g1⟩
 rw[hX,L6,Cu]
 refine bE (fun E' H'=>H'=H/\E' 0=.pointer (some ⟨p.t,0,none⟩)/\E' 1=jU c) ?_ ?_
 ·rw[show H=ext H [] from rfl]
  cases d64<;>cases d126<;>cases d32<;>cases d127<;>cases d48<;>cases dm<;>first
   |(exfalso; revert hA; decide)
   |(exfalso; revert hB; decide)
   | (simp (maxDischargeDepth := 6) only [g0, g1, hb, hT, h1, hdm, q27, q64, q126, q32, q127, q48, zW, Nat.reduceLT, Nat.reduceAdd, Nat.reduceEqDiff]
      refine aj ⟨rfl,?_,?_⟩<;>simp only[g0,g1,aW,Nat.reduceEqDiff])
 clear hX g0 g1 E X
 rintro E X ⟨hX,g0,g1⟩
 rw[hX,show H=ext H [] from rfl]
 have st1:Step H p (ext (uw H p.t 21 [.bool (dm||dl48)]) []) p {x with middle:=dm||dl48}:=g.one rfl rfl rfl rfl
 have okV:=st1.ok ok
 rw[ext_nil]at st1 okV
 have hc1:=st1.at_.cell
 simp only[ba]at hc1
 have hc2:=hc1
 rw[hpv]at hc2
 obtain⟨V,hV⟩:=Go.Ax.bP (uw H p.t 21 [.bool (dm||dl48)])
 rw[hV]at st1 okV hc1 hc2
 have hVn:V.next=b:=by rw[<-hV,b6,hb]
 have hst:∀ d,d=(dm||dl48)->uw H p.t 21 [.bool d]=V:=fun d h=>h▸hV
 cases dp with
 |false =>
  rw[cond_false]
  cases dm<;>cases dl48 <;>
   (have hst1:=hst _ rfl
    simp only[Bool.or_true,Bool.or_false]at hst1 hc2 st1
    simp (maxDischargeDepth:=6) only[g0,g1,hb,hT,h1,hdm,ql48,hst1,hVn,hc2,qp,Tryz.results44,zW,Nat.reduceLeDiff,Nat.reduceLT,Nat.reduceAdd,Nat.reduceEqDiff]
    exact⟨rfl,p,st1⟩)
 |true =>
  rw[cond_true]
  have hle:=ep.2 rfl
  obtain⟨G,happ,hwG,mG,hn2⟩:=AM (c:=c) st1.at_.par (fun n hn=>st1.at_.lt n (by simp[Rp.aJ,hn])) hVn (by simp only; omega) okV
  obtain⟨nw,hnw⟩:=Go.Ax.bP (b+1)
  have hn1:V.next<=nw:=by omega
  rw[hnw]at happ hwG hn2
  simp only at happ hwG
  obtain⟨w',hw'⟩:∃ w':Value,.slice (some ⟨nw,0,none⟩) (x.params.length+1) (x.params.length+1)=w':=⟨_,rfl⟩
  rw[hw']at hwG
  have hid:ae w'=[nw]:=by rw[<-hw']; simp[ae]
  have hTv:p.t∉ae p.pv:=fun h=>(zC9.1 g.nd).1 (by simp[h])
  have hbG:bk G p.t=some ⟨66,false,ba p {x with middle:=dm||dl48}⟩:=by rw[mG.bk (st1.at_.lt p.t (by simp[Rp.aJ])) hTv]; exact st1.at_.cell
  have hbG2:=hbG
  simp only[ba]at hbG2
  have okG:=mG.ok okV
  obtain⟨gn,hgn⟩:=Go.Ax.bP G.next
  have hTG:p.t<gn:=by rw[<-hgn]; exact mG.lt (st1.at_.lt p.t (by simp[Rp.aJ]))
  have hnwg:nw<gn:=hgn▸hn2
  have mU:Mod [p.t] G (uw G p.t 20 [w']):=Mod.uw (by simp)
  have hrvn:nw∉ae p.rv:=fun h=>by have:=st1.at_.lt nw (by simp[Rp.aJ,h]); omega
  have stF:Step V p (uw G p.t 20 [w']) {p with rv:=p.rv,pv:=w'} {x with middle:=dm||dl48,params:=x.params++[c]}:=by
   refine st1.at_.Co p.rv w' ((mG.mono (by intro n hn; simp[hn])).trans (mU.mono (by intro n hn; simp at hn; simp[hn]))) ?_ rfl ?_ ?_ ?_ ?_
   ·rw[bR,hbG]; rfl
   ·refine st1.at_.rest.of fun n hn=>?_
    rw[gL (fun e=>(zC9.1 g.nd).1 (by rw[<-e]; simp[hn]))]
    refine mG.get n (st1.at_.lt n (by simp[Rp.aJ,hn])) (fun h=>?_)
    have hnd:=(zC9.1 (zC9.1 g.nd).2).2
    exact (zD4.1 hnd).2.2 n (by simp[hn]) n h rfl
   ·refine hwG.of fun n hn=>?_
    rw[hid]at hn
    simp only[zA5]at hn
    exact gL (by have:=st1.at_.lt p.t (by simp[Rp.aJ]); omega)
   ·intro n hn
    rcases zB2.1 hn with h|h
    ·exact .inl (by simp[h])
    ·rw[hid]at h
     simp only[zA5]at h
     exact .inr ⟨by omega,by rw[b6]; omega⟩
   ·rw[hid]
    have hnd:=(zC9.1 (zC9.1 g.nd).2).2
    rw[zD3]at hnd
    have hnd2:=(zD4.1 (zD4.1 hnd).2.1).1
    exact zD4.2 ⟨hnd2,by simp,fun a ha b' hb' e=>by simp only[zA5]at hb'; exact hrvn (hb'▸e▸ha)⟩
  rw[<-hw']at stF
  rw[hpv]at happ
  cases dm<;>cases dl48 <;>
   (have hst1:=hst _ rfl
    simp only[Bool.or_true,Bool.or_false]at hst1 hc2 st1 stF hbG2
    simp (maxDischargeDepth:=6) only[g0,g1,hb,hT,h1,hdm,ql48,hst1,hVn,hc2,qp,happ,hgn,hTG,hnwg,hbG2,Tryz.results44,zW,Nat.reduceLeDiff,Nat.reduceLT,Nat.reduceAdd,Nat.reduceEqDiff]
    exact⟨rfl,_,st1.trans ok stF⟩)
end Go.Proofs.YtpohjcacnkhnkaaGreatDoor.Tq
namespace Go.Ax
section
variable {P : Program} {N : Nat} {E : Env} {ds : List Deferred} {ops : Array Oper} {rest : List Oper} {ty : TypeId} {pos : String} {after : Array Edge} {H : aa}
theorem AS {Q:ag->aa->Prop} {i:Nat} {fps:List Fp} {anc:List Nat} {args:List Operand} {ts:Array TypeId} {dst:Option Nat} (ha:args.all (bj P N)=true) :
  fH P ops anc (⟨dst,.call ⟨.builtin .append,⟨args⟩,ts⟩,ty,pos,after,none⟩::rest) i fps (bA N E ds) H Q=nA P ops anc ⟨dst,.call ⟨.builtin .append,⟨args⟩,ts⟩,ty,pos,after,none⟩ rest i fps (bA N E ds) H Q:=by
 simp only[fH,cw,ja,ib,pj,p9,nA,cp ha,QJ,kU]
end
end Go.Ax
namespace Go.Proofs.YtpohjcacnkhnkaaGreatDoor.Tq
open Go.Ax
def jY (H:aa) (v:Value) (w:Nat) (rs:List (Nat × Bool)):Prop :=
 (rs=[]/\v=.slice none 0 0)\/(rs≠[]/\∃ n,v=.slice (some ⟨n,0,none⟩) rs.length rs.length/\bk H n=some ⟨56,true,rs.map (bB w)⟩)
theorem jY.of {H G:aa} {v:Value} {w:Nat} {rs:List (Nat × Bool)} (h:jY H v w rs) (hg:∀ n∈ae v,G.get n=H.get n):jY G v w rs:=by
 rcases h with⟨rfl,rfl⟩|⟨h,n,rfl,hb⟩
 ·exact .inl ⟨rfl,rfl⟩
 ·exact .inr ⟨h,n,rfl,(bg (hg n (by simp[ae]))).trans hb⟩
theorem jY.ne {H:aa} {v:Value} {w:Nat} {rs:List (Nat × Bool)} (h:jY H v w rs):∀ n∈ae v,H.get n≠none:=by
 rcases h with⟨rfl,rfl⟩|⟨h,n,rfl,hb⟩<;>intro m hm<;>simp only[ae,zA5,zD2]at hm
 subst hm; exact dT hb
theorem Ee {X:aa} {v:Value} {w:Nat} {rs:List (Nat × Bool)} {q:Nat × Bool} {k x:Nat} (h:jY X v w rs) (hx:X.next=x) (hk:bk X k=some ⟨56,false,[bB w q]⟩) (hlen:rs.length<=1000) (hsc:∀ r∈rs++[q],r.1<X.next) :
  ∃ G,aD Tryz.prog X .append ⟨[39,39]⟩ [v,.slice (some ⟨k,0,some 0⟩) 1 1]=some (.slice (some ⟨x,0,none⟩) (rs.length+1) (rs.length+1),G)/\jY G (.slice (some ⟨x,0,none⟩) (rs.length+1) (rs.length+1)) w (rs++[q])/\(X.base<=X.next->Mod (ae v) X G)/\G.next=x+1:=by
 have a1:Tryz.prog.underlying 39=some (.slice 56):=by kernel_rfl
 have a2:bh Tryz.prog 56=some 1:=by kernel_rfl
 have a3:bytesOf Tryz.prog 56=some 24:=by kernel_rfl
 have a4:zeroOf Tryz.prog 56=some (.slice none 0 0):=by kernel_rfl
 have a5:fj Tryz.prog 39=some false:=by kernel_rfl
 have hsm:∀ j,j<=1001->small j 24=true:=fun j hj=>by simp only[small,zA4,zE6]; omega
 have ht2:([bB w q].drop 0).take (1*1)=[bB w q]:=rfl
 have hone1:[bB w q].all one=true:=sn w [q]
 have hscL:∀ M:aa,X.next<=M.next->aO (M.next+0) ((rs++[q]).map (bB w))=true:=fun M hM=>by
  rw[zE1]
  refine bL.2 fun v hv=>?_
  obtain⟨r,hr,rfl⟩:=zB5.1 hv
  exact a8 (zD5 (hsc r hr) hM)
 rcases h with⟨rfl,rfl⟩|⟨cR,n,rfl,hb⟩
 ·have happ:=Il (P:=Tryz.prog) (H:=X) (st:=39) (xt:=39) (n:=k) (off:=0) (cnt:=1) (cap:=1) (s:=some 0) a1 a2 a3 a4 rfl a5 hk (by simp) hone1 (by decide) (hsm 1 (by omega))
  have hn:=eN (H:=X) (L:=[]) (e:=56) (l:=[bB w q]) (o:=true) (hscL X (zA8 _))
  rw[ht2,show X=ext X [] from rfl,hn,zA9]at happ
  refine⟨ext X [⟨56,true,[bB w q]⟩],?_,.inr ⟨by simp,x,rfl,?_⟩,fun hok=>Mod.ext hok,by rw[ai,hx]; rfl⟩
  ·rw[show (ext X []).next=x from hx]at happ; exact happ
  ·rw[show x=x+0 from rfl,bu hx (by simp)]; rfl
 ·have happ:=Bn (P:=Tryz.prog) (H:=X) (st:=39) (xt:=39) (m:=n) (off:=0) (k:=rs.length) (sp:=none) (n:=k) (off2:=0) (cnt:=1) (cap:=1) (s:=some 0) a1 a2 a3 a4 rfl a5 hb rfl rfl (by simp) (lG (sn w rs) _ _) (.inl rfl) hk (by simp) hone1 (by decide) (hsm _ (by omega))
  have hdr:((rs.map (bB w)).drop 0).take (rs.length*1)=rs.map (bB w):=by rw[zD1]; exact zD6 (by simp)
  simp only[hdr,ht2]at happ
  have hcs:rs.map (bB w)++[bB w q]=(rs++[q]).map (bB w):=by simp
  have hn:=eN (H:=dp X n) (L:=[]) (e:=56) (l:=(rs++[q]).map (bB w)) (o:=true) (hscL (dp X n) (zA8 _))
  rw[hcs,show X.cE n none=ext (dp X n) [] from rfl,hn,zA9]at happ
  refine⟨ext (dp X n) [⟨56,true,(rs++[q]).map (bB w)⟩],?_,.inr ⟨by simp,x,by simp,?_⟩,fun hok=>?_,by rw[ai,iO,hx]; rfl⟩
  ·rw[hx]at happ; exact happ
  ·rw[show x=x+0 from rfl,bu (show (dp X n).next=x from hx) (by simp)]; rfl
  ·have mD:Mod (ae (.slice (some ⟨n,0,none⟩) rs.length rs.length)) X (dp X n):=Mod.cE (by simp[ae])
   exact mD.trans (Mod.ext (mD.ok hok))
def tr (v:Value) (b:Int):List Value:=[.int .i64 0,.int .i64 0,.int .i64 0,.int .i64 0,.bool false,.bool false,.bool false,.int .i64 0,.int .i64 0,.int .i64 0,.int .i64 0,.bool false,.bool false,.bool false,v,.bool false,.int .i64 0,.int .i64 b,.int .i64 0,.slice none 0 0,.slice none 0 0,.bool false,.int .u8 0]
theorem MP (h w:Nat):(Tm.new h w).h=h:=by simp[Tm.new,Tm.h]
theorem Pu {h:Nat} (w:Nat) (hh:1<=h):(Tm.new h w).w=w:=by
 obtain⟨k,rfl⟩:∃ k,h=k+1:=⟨h-1,by omega⟩
 simp[Tm.new,Tm.w,List.replicate_succ]
theorem MY {h w:Nat} (h1:1<=h) (h2:h<=200) (w1:1<=w) (w2:w<=300):(Tm.new h w).Sz:=by
 have e1:=MP h w
 have e2:=Pu w h1
 refine⟨by omega,by omega,by omega,by omega,fun l hl=>?_,Int.le_refl _,?_,Int.le_refl _,?_,Int.le_refl _,?_,Int.le_refl _,?_,Int.le_refl _,?_,?_,by simp[Tm.new],fun l hl=>?_⟩
 ·rw[e2]; simp only[Tm.new]at hl; rw[List.eq_of_mem_replicate hl]; simp
 ·rw[e1]; simp only[Tm.new]; omega
 ·rw[e2]; simp only[Tm.new]; omega
 ·rw[e1]; simp only[Tm.new]; omega
 ·rw[e2]; simp only[Tm.new]; omega
 ·simp only[Tm.new]; omega
 ·rw[e1]; simp only[Tm.new]; omega
 ·simp only[Tm.new]at hl
  rw[List.eq_of_mem_replicate hl]
  obtain⟨k,rfl⟩:∃ k,w=k+1:=⟨w-1,by omega⟩
  simp[List.replicate_succ,rQ]
theorem Pe (H:aa) (h w:Nat) (ok:H.base<=H.next) (h1:1<=h) (h2:h<=200) (w1:1<=w) (w2:w<=300) :
  bF Tryz.prog 10 [.int .i64 (h:Int),.int .i64 (w:Int)] H fun out H1=>∃ p,out=.ok (.tuple ⟨[.pointer (some ⟨p.t,0,none⟩),.int .i64 0]⟩)/\cd H1 p (Tm.new h w)/\Mod [] H H1/\(∀ n∈p.aJ,H.next<=n)/\p.rv=.slice none 0 0/\p.pv=.slice none 0 0:=by
 obtain⟨b,hb⟩:=Go.Ax.bP H.next
 have hbb:H.base<=b:=hb▸ok
 have d1:decide ((h:Int)<1)=false:=decide_eq_false (by omega)
 have d2:decide ((200:Int)<(h:Int))=false:=decide_eq_false (by omega)
 have d3:decide ((w:Int)<1)=false:=decide_eq_false (by omega)
 have d4:decide ((1000:Int)<(w:Int))=false:=decide_eq_false (by omega)
 have hw1:IntKind.i64.wrap ((h:Int)-1)=(h:Int)-1:=aQ (by omega) (by omega)
 refine aG mixed Tryz.func10 rfl Tryz.ntmps10 (zA6 rfl) ?_
 simp only[hb,d1,d2,d3,d4,hw1,zW,seval]
 refine eT fun E hE=>?_
 have f1:E 1=.int .i64 (w:Int):=by rw[hE]; rfl
 have f6:E 6=.pointer (some ⟨b+0,0,none⟩):=by rw[hE]; rfl
 have f25:E 25=.int .i64 (h:Int):=by rw[hE]; rfl
 have f26:E 26=.int .i64 ((0:Nat):Int):=by rw[hE]; rfl
 clear hE
 refine bE (fun E' H'=>∃ rs v,rs.length=h/\Mod [] H H'/\bk H' (b+0)=some ⟨66,false,tr v ((h:Int)-1)⟩/\jY H' v w rs/\(∀ q∈rs,b+0<q.1/\q.1<H'.next/\bk H' q.1=some ⟨77,q.2,aN (eO w)⟩)/\(rs.map (·.1)).Nodup/\(∀ n∈ae v,b+0<n/\n<H'.next/\n∉rs.map (·.1))/\E' 6=.pointer (some ⟨b+0,0,none⟩)) ?_ ?_
 ·refine cU (fun (q:List (Nat × Bool) × Value) E' H'=>q.1.length<=h/\Mod [] H H'/\b+0<H'.next/\bk H' (b+0)=some ⟨66,false,tr q.2 ((h:Int)-1)⟩/\jY H' q.2 w q.1/\(∀ r∈q.1,b+0<r.1/\r.1<H'.next/\bk H' r.1=some ⟨77,r.2,aN (eO w)⟩)/\(q.1.map (·.1)).Nodup/\(∀ n∈ae q.2,b+0<n/\n<H'.next/\n∉q.1.map (·.1))/\E' 1=.int .i64 (w:Int)/\E' 6=.pointer (some ⟨b+0,0,none⟩)/\E' 25=.int .i64 (h:Int)/\E' 26=.int .i64 (q.1.length:Int)) (fun q=>h-q.1.length) ([],.slice none 0 0)
   ⟨zB7 _,Mod.ext ok,by rw[ai,hb]; simp,by rw[bu hb (by simp)]; rfl,.inl ⟨rfl,rfl⟩,by simp,by simp,by simp[ae],f1,f6,f25,f26⟩ ?_
  clear f1 f6 f25 f26 E
  rintro⟨rs,v⟩ E X ⟨hl,mX,hbX,hc,hrs,hrow,hnd,hv,f1,f6,f25,f26⟩
  simp only at hl hc hrs hrow hnd hv f26
  rw[show X=ext X [] from rfl]
  have okX:=mX.ok ok
  by_cases hlh:rs.length=h
  ·have hd:decide ((rs.length:Int)<(h:Int))=false:=decide_eq_false (by omega)
   simp only[f25,f26,hd,zW,seval]
   refine aj ⟨rs,v,hlh,mX,hc,hrs,hrow,hnd,hv,?_⟩
   simp only[f6,aW,seval]
  ·have hd:decide ((rs.length:Int)<(h:Int))=true:=decide_eq_true (by omega)
   obtain⟨x,hx⟩:=Go.Ax.bP X.next
   have hbx:b+0<x:=hx▸hbX
   have hvx:∀ n∈ae v,n<x:=fun n hn=>hx▸(hv n hn).2.1
   have hc2:=hc
   simp only[tr]at hc2
   have hws:=bO (show rs.length<1000000 by omega)
   simp only[f25,f26,hd,zW,seval]
   refine bf [(7,6),(8,4),(8,6),(8,7),(11,4),(11,6),(11,7),(11,8)] [] (by kernel_rfl) (by kernel_rfl) rfl fun ops anc hA hG=>?_
   simp only[aw]at hA
   simp only[f1,f6,hx,hbx,hc2,b9,zW,seval]
   refine sw (v:=.slice (some ⟨x+0,0,some 0⟩) w w) (M:=[⟨77,false,aN (List.replicate w sp)⟩]) [] (by simp only[aW,seval]) (by kernel_rfl) (by decide) (fun n hn=>by simp at hn) (fun K hn hg=>?_) (by simp (maxDischargeDepth:=6) only[b9]) ?_
   ·simp only[aW]
    have:=DK w w1 w2 K
    rw[hn,ext_nil,hx]at this
    exact this
   simp only[hx,hA,zB0,zB6,b9,zW,seval]
   rw[AS rfl]
   obtain⟨Z,hZ⟩:=Go.Ax.bP (ext X [⟨77,false,aN (List.replicate w sp)⟩,⟨56,false,[.slice (some ⟨x+0,0,some 0⟩) w w]⟩])
   have mZ:Mod [] X Z:=hZ▸Mod.ext okX
   have okZ:=mZ.ok okX
   have hZn:Z.next=x+2:=by rw[<-hZ,ai,hx]; rfl
   have hZ1:bk Z (x+1)=some ⟨56,false,[bB w (x+0,false)]⟩:=by rw[<-hZ,bu hx (by simp)]; rfl
   have hZ0:bk Z (x+0)=some ⟨77,false,aN (eO w)⟩:=by rw[<-hZ,bu hx (by simp)]; rfl
   have hZo:∀ n,n<x->Z.get n=X.get n:=fun n hn=>mZ.get n (by omega) (by simp)
   rw[hZ]
   have hrn:=aL Z (ae v++[x+1])
   have hR:∀ n∈ae v++[x+1],(Z.restrict (ae v++[x+1])).get n=Z.get n:=fun n hn=>by rw[aU,if_pos hn]
   have hrsZ:jY Z v w rs:=hrs.of fun n hn=>hZo n (hvx n hn)
   obtain⟨G,happ,hrsG,mG,hGn⟩:=Ee (x:=x+2) (k:=x+1) (q:=(x+0,false)) (hrsZ.of fun n hn=>hR n (by simp[hn])) (by rw[hrn.1,hZn]) ((bg (hR (x+1) (by simp))).trans hZ1) (by omega) (fun r hr=>by
    rw[hrn.1,hZn]
    rcases zB2.1 hr with h|h
    ·have:=(hrow r h).2.1; omega
    ·simp only[zA5]at h; subst h; simp only; omega)
   have mG:=mG (by rw[hrn.1,hrn.2.1]; exact zA8 _)
   have hneZ:∀ n∈ae v++[x+1],Z.get n≠none:=fun n hn=>by
    rcases zB2.1 hn with h|h
    ·exact hrsZ.ne n h
    ·simp only[zA5]at h; subst h; exact dT hZ1
   refine mQ (W:=ae v) (ae v++[x+1]) okZ hneZ (fun n hn=>by
     rcases zB2.1 hn with h|h
     ·have:=hvx n h; omega
     ·simp only[zA5]at h; omega) (fun n hn=>by simp[hn])
    (qQ (v:=.slice (some ⟨x+2,0,none⟩) (rs.length+1) (rs.length+1)) rfl (by simp only[aW,seval]; exact happ)) mG (by simp only[aw,cx,hA,true_or,and_true]) ?_
   intro H1 D mH1 hF1 hN1 hnx hD1
   have hnx:H1.next=x+3:=by rw[hnx,hGn]
   have hT1:bk H1 (b+0)=some ⟨66,false,tr v ((h:Int)-1)⟩:=by
    rw[mH1.bk (by omega) (fun hh=>by have:=(hv _ hh).1; omega),bg (hZo _ hbx)]; exact hc
   have hT2:=hT1
   simp only[tr]at hT2
   have hTn:b+0<x+3:=by omega
   rw[show H1=ext H1 [] from rfl]
   simp only[hnx,hTn,hT2,hA,b9,zW,seval]
   refine⟨⟨fun _=>.inr (.inl (by omega)),.inr (.inl (by omega)),.inr (.inl (by omega))⟩,⟨fun _=>.inr (.inl (by omega)),.inr (.inl (by omega)),.inr (.inl (by omega))⟩,?_⟩
   simp only[f26,hws,zW,seval]
   have mU:Mod [b+0] H1 (uw H1 (b+0) 14 [.slice (some ⟨x+2,0,none⟩) (rs.length+1) (rs.length+1)]):=Mod.uw (by simp)
   have hnewB:bk H1 (x+2)=some ⟨56,true,(rs++[(x+0,false)]).map (bB w)⟩:=by
    rw[bg (hN1 (x+2) (by omega) (by omega))]
    rcases hrsG with⟨h,_⟩|⟨_,n,e,hb'⟩
    ·simp at h
    ·simp only[Value.slice.injEq,Option.some.injEq,Addr.mk.injEq,and_true]at e
     rw[e.1]; exact hb'
   have hget:∀ n,n<x+2->n≠b+0->n∉ae v->(uw H1 (b+0) 14 [.slice (some ⟨x+2,0,none⟩) (rs.length+1) (rs.length+1)]).get n=Z.get n:=fun n h1' h2' h3'=>by
    rw[gL h2',mH1.get n (by omega) h3']
   refine aM ⟨(rs++[(x+0,false)],.slice (some ⟨x+2,0,none⟩) (rs.length+1) (rs.length+1)),by simp only[zB4,zB0,zB6]; omega,by simp only[zB4,zB0,zB6]; omega,?_,?_,?_,?_,?_,?_,?_,?_,?_,?_,?_⟩
   ·have m1:Mod (ae v) X H1:=(mZ.mono (by simp)).trans mH1
    exact (mX.step m1 ok (fun n hn=>.inr (by have:=(hv n hn).1; omega))).step mU ok (fun n hn=>.inr (by simp only[zA5]at hn; omega))
   ·rw[ext_nil,b6,hnx]; omega
   ·rw[ext_nil,bR,hT1]; rfl
   ·refine .inr ⟨by simp,x+2,by simp,?_⟩
    rw[ext_nil,oC (by omega)]
    exact hnewB
   ·intro r hr
    rcases zB2.1 hr with h|h
    ·obtain⟨q1,q2,q3⟩:=hrow r h
     refine⟨q1,by rw[ext_nil,b6,hnx]; omega,?_⟩
     rw[ext_nil,bg (hget r.1 (by omega) (by omega) (fun hh=>(hv _ hh).2.2 (zB5.2 ⟨r,h,rfl⟩))),bg (hZo r.1 (by omega))]
     exact q3
    ·simp only[zA5]at h
     subst h
     refine⟨by simp only; omega,by rw[ext_nil,b6,hnx]; simp only; omega,?_⟩
     rw[ext_nil,bg (hget (x+0) (by omega) (by omega) (fun hh=>by have:=hvx _ hh; omega))]
     exact hZ0
   ·rw[List.map_append]
    refine zD4.2 ⟨hnd,by simp,fun a ha b' hb' e=>?_⟩
    obtain⟨r,hr,rfl⟩:=zB5.1 ha
    simp only[zC0,zF4,zA5]at hb'
    have:=(hrow r hr).2.1
    omega
   ·intro n hn
    simp only[ae,zA5]at hn
    subst hn
    refine⟨by omega,by rw[ext_nil,b6,hnx]; omega,fun hm=>?_⟩
    obtain⟨r,hr,e⟩:=zB5.1 hm
    rcases zB2.1 hr with h|h
    ·have:=(hrow r h).2.1; omega
    ·simp only[zA5]at h
     subst h
     simp only at e
     omega
   ·exact f1
   ·exact f6
   ·exact f25
   ·simp only[zB4,zB0,zB6,aW,seval]
 ·clear f1 f6 f25 f26 E
  rintro E X ⟨rs,v,hl,mX,hc,hrs,hrow,hnd,hv,f6⟩
  rw[show X=ext X [] from rfl]
  simp only[f6,Tryz.results10,zW,seval]
  rcases hrs with⟨h,_⟩|⟨_,n,rfl,hbn⟩
  ·rw[h]at hl; simp at hl; omega
  have hn:=hv n (by simp[ae])
  refine⟨⟨b+0,n,rs,.slice none 0 0,.slice none 0 0⟩,rfl,?_,mX,?_,rfl,rfl⟩
  ·refine⟨?_,?_,?_,?_,.inl ⟨rfl,rfl⟩,.inl ⟨rfl,rfl⟩,?_,?_⟩
   ·rw[ext_nil,hc,hl]
    simp only[tr,ba,MP]
    rfl
   ·rw[ext_nil,Pu w h1]; exact hbn
   ·rw[MP]; exact hl
   ·intro i q l hq hl'
    have:l=eO w:=by
     have:=zB9 hl'
     simp only[Tm.new]at this
     exact List.eq_of_mem_replicate this
    rw[this]
    exact (hrow q (zB9 hq)).2.2
   ·simp only[Rp.aJ,ae,zD0]
    refine zC9.2 ⟨?_,zC9.2 ⟨hn.2.2,hnd⟩⟩
    intro hm
    rcases zA7.1 hm with e|hm
    ·omega
    ·obtain⟨r,hr,e⟩:=zB5.1 hm
     have:=(hrow r hr).1
     omega
   ·intro m hm
    simp only[Rp.aJ,ae,zD0,zA7,zB5]at hm
    rcases hm with rfl|rfl|⟨r,hr,rfl⟩
    ·have:=hn.1; have:=hn.2.1; rw[ext_nil]; omega
    ·exact hn.2.1
    ·exact (hrow r hr).2.1
  ·intro m hm
   simp only[Rp.aJ,ae,zD0,zA7,zB5]at hm
   rcases hm with rfl|rfl|⟨r,hr,rfl⟩
   ·omega
   ·have:=hn.1; omega
   ·have:=(hrow r hr).1; omega
theorem Tm.Sz.saved {x:Tm} (s:x.Sz):Tm.Sz {x with srow:=x.row,scol:=x.col,spen:=x.pen} :=
 ⟨s.h1,s.h2,s.w1,s.w2,s.ws,s.r1,s.r2,s.c1,s.c2,s.r1,s.r2,s.c1,s.c2,s.t1,s.t2,s.t3,s.md,s.hd⟩
theorem Tm.Sz.Lx {x:Tm} (s:x.Sz):Tm.Sz {x with row:=x.srow,col:=x.scol,pen:=x.spen} :=
 ⟨s.h1,s.h2,s.w1,s.w2,s.ws,s.sr1,s.sr2,s.sc1,s.sc2,s.sr1,s.sr2,s.sc1,s.sc2,s.t1,s.t2,s.t3,s.md,s.hd⟩
theorem Tm.Sz.EE {x:Tm} (s:x.Sz) (c:UInt8):Tm.Sz {x with last:=c} :=
 ⟨s.h1,s.h2,s.w1,s.w2,s.ws,s.r1,s.r2,s.c1,s.c2,s.sr1,s.sr2,s.sc1,s.sc2,s.t1,s.t2,s.t3,s.md,s.hd⟩
theorem cd.fresh {H V:aa} {p p1:Rp} {x y:Tm} (g:cd H p x) (g1:cd V p1 y) (mV:Mod [] H V) (hn:∀ n∈p1.aJ,H.next<=n) (hrv:p1.rv=.slice none 0 0) (hpv:p1.pv=.slice none 0 0) :
  Step H p (ext (uw V p.t 0 (ba p1 y)) []) {p1 with t:=p.t} y:=by
 have hT:=g.lt p.t (by simp[Rp.aJ])
 have hTV:bk V p.t=some ⟨66,false,ba p x⟩:=(mV.bk hT (by simp)).trans g.cell
 have hge:∀ n∈p1.rb::(p1.rs.map (·.1)++ae p1.rv++ae p1.pv),H.next<=n/\n<V.next:=fun n hn'=>⟨hn n (by simp only[Rp.aJ,zA7]; exact .inr (zA7.1 hn')),g1.lt n (by simp only[Rp.aJ,zA7]; exact .inr (zA7.1 hn'))⟩
 have hget:∀ n∈p1.rb::(p1.rs.map (·.1)++ae p1.rv++ae p1.pv),(ext (uw V p.t 0 (ba p1 y)) []).get n=V.get n:=fun n hn'=>by
  rw[ext_nil]; exact gL (by have:=(hge n hn').1; omega)
 have hnd:=zC9.1 g1.nd
 refine⟨⟨?_,?_,g1.len,?_,?_,?_,?_,?_⟩,?_,rfl,?_⟩
 ·rw[ext_nil,bR,hTV]
  refine congrArg (fun l=>some (Bl.mk 66 false l)) ?_
  simp only[ba,zW]
 ·rw[bg (hget _ (by simp))]; exact g1.rows
 ·intro i q l hq hl
  rw[bg (hget q.1 (by simp only[zA7,zB2,zB5]; exact .inr (.inl (.inl ⟨q,zB9 hq,rfl⟩))))]
  exact g1.row i q l hq hl
 ·exact g1.rest.of fun n hn'=>hget n (by simp[hn'])
 ·exact g1.par.of fun n hn'=>hget n (by simp[hn'])
 ·simp only[Rp.aJ]at hnd ⊢
  exact zC9.2 ⟨fun hm=>by have:=(hge _ hm).1; omega,hnd.2⟩
 ·intro n hn'
  rw[ext_nil,b6]
  simp only[Rp.aJ]at hn'
  rcases zA7.1 hn' with rfl|h
  ·exact mV.lt hT
  ·exact (hge n h).2
 ·refine (mV.mono (by simp)).trans (Mod.uw (by simp[Rp.aJ]))
 ·intro n hn'
  simp only[Rp.aJ]at hn'
  rcases zA7.1 hn' with rfl|h
  ·exact .inl (by simp[Rp.aJ])
  ·exact .inr (hge n h).1
theorem Tm.Sz.second {x:Tm} (s:x.Sz) (c:UInt8):(x.second c).1.Sz:=by
 unfold Tm.second
 by_cases h1:c=91
 ·rw[if_pos h1]; exact s.BC _ _
 rw[if_neg h1]
 by_cases h2:c=93
 ·rw[if_pos h2]; exact s.EE _
 rw[if_neg h2]
 by_cases h3:c=27
 ·rw[if_pos h3]; exact s
 rw[if_neg h3]
 by_cases h4:32<=c/\c<48
 ·rw[if_pos h4]; exact s
 rw[if_neg h4]
 by_cases h5:c=55
 ·rw[if_pos h5]; exact s.saved
 rw[if_neg h5]
 by_cases h6:c=56
 ·rw[if_pos h6]; exact s.Lx
 rw[if_neg h6]
 by_cases h7:c=99
 ·rw[if_pos h7]; exact MY s.h1 s.h2 s.w1 s.w2
 rw[if_neg h7]
 by_cases h8:c=77/\x.row=x.top
 ·rw[if_pos h8]
  obtain⟨t,ht⟩:∃ r:Nat,x.top=r:=⟨x.top.toNat,by have:=s.t1; omega⟩
  obtain⟨b,hb⟩:∃ b:Nat,x.bottom=b:=⟨x.bottom.toNat,by have:=s.t1; have:=s.t2; omega⟩
  simp only[ht,hb]
  exact s.fN (n:=1) false (by have:=s.t2; omega) (by have:=s.t3; omega)
 rw[if_neg h8]
 by_cases h9:c=77
 ·rw[if_pos h9]; exact s.Pb _ (by omega) (by have:=s.r1; have:=s.r2; omega)
 rw[if_neg h9]; exact s
theorem Kc (H:aa) (p:Rp) (x:Tm) (c:UInt8) (g:cd H p x) (s:x.Sz) (ok:H.base<=H.next):gF 42 [jU c] H p (.int .i64 ((x.second c).2:Int)) (x.second c).1:=by
 obtain⟨b,hb⟩:=Go.Ax.bP H.next
 have hT:p.t<b:=hb▸g.lt p.t (by simp[Rp.aJ])
 have h1:=g.cell
 simp only[ba]at h1
 have q27:=j0 (c:=c) (n:=27) (by omega)
 have q91:=j0 (c:=c) (n:=91) (by omega)
 have q93:=j0 (c:=c) (n:=93) (by omega)
 have q55:=j0 (c:=c) (n:=55) (by omega)
 have q56:=j0 (c:=c) (n:=56) (by omega)
 have q99:=j0 (c:=c) (n:=99) (by omega)
 have q77:=j0 (c:=c) (n:=77) (by omega)
 have q32:=Lo (c:=c) (n:=32) (by omega)
 have q48:=LO (c:=c) (n:=48) (by omega)
 simp only[Int.cast_ofNat_Int]at q27 q91 q93 q55 q56 q99 q77 q32 q48
 refine aG mixed Tryz.func42 rfl Tryz.ntmps42 (zA6 rfl) ?_
 by_cases h91:c=91
 ·have hk:x.second c=({x with params:=[],middle:=false},3):=by unfold Tm.second; rw[if_pos h91]
  have t91:decide ((c.toNat:Int)=91)=true:=by rw[q91]; exact decide_eq_true h91
  rw[hk]
  simp only[hb,hT,h1,t91,Tryz.results42,zW,Nat.reduceLeDiff,Nat.reduceLT,Nat.reduceAdd,Nat.reduceEqDiff]
  refine⟨rfl,_,g.Co (y:={x with params:=[],middle:=false}) p.rv (.slice none 0 0) (((Mod.uw (by simp)).trans (Mod.uw (by simp))):Mod _ H (ext (uw (uw H p.t 20 [.slice none 0 0]) p.t 21 [.bool false]) [])) ?_ rfl ?_ (.inl ⟨rfl,rfl⟩) ?_ ?_⟩
  ·rw[ext_nil,bR,bR,g.cell]; rfl
  ·refine g.rest.of fun n hn=>?_
   have cR:n≠p.t:=fun e=>(zC9.1 g.nd).1 (by rw[<-e]; simp[hn])
   rw[ext_nil,gL cR,gL cR]
  ·intro n hn
   simp only[ae,zD0]at hn
   exact .inl (by simp[hn])
  ·simp only[ae,zD0]
   have hnd:=(zC9.1 (zC9.1 g.nd).2).2
   rw[zD3]at hnd
   exact (zD4.1 (zD4.1 hnd).2.1).1
 have f91:decide ((c.toNat:Int)=91)=false:=by rw[q91]; exact decide_eq_false h91
 by_cases h93:c=93
 ·have hk:x.second c=({x with last:=0},4):=by unfold Tm.second; rw[if_neg h91,if_pos h93]
  have t93:decide ((c.toNat:Int)=93)=true:=by rw[q93]; exact decide_eq_true h93
  rw[hk]
  simp only[hb,hT,h1,f91,t93,Tryz.results42,zW,Nat.reduceLeDiff,Nat.reduceLT,Nat.reduceAdd,Nat.reduceEqDiff]
  exact⟨rfl,p,g.one (y:={x with last:=0}) rfl rfl rfl rfl⟩
 have f93:decide ((c.toNat:Int)=93)=false:=by rw[q93]; exact decide_eq_false h93
 by_cases h27:c=27
 ·have hk:x.second c=(x,1):=by unfold Tm.second; rw[if_neg h91,if_neg h93,if_pos h27]
  have t27:decide ((c.toNat:Int)=27)=true:=by rw[q27]; exact decide_eq_true h27
  rw[hk]
  simp only[f91,f93,t27,Tryz.results42,zW,Nat.reduceLT,Nat.reduceAdd,Nat.reduceEqDiff]
  exact⟨rfl,p,Step.refl g⟩
 have f27:decide ((c.toNat:Int)=27)=false:=by rw[q27]; exact decide_eq_false h27
 by_cases h32:32<=c/\c<48
 ·have hk:x.second c=(x,2):=by unfold Tm.second; rw[if_neg h91,if_neg h93,if_neg h27,if_pos h32]
  have t32:decide ((32:Int)<=(c.toNat:Int))=true:=by rw[q32]; exact decide_eq_true h32.1
  have t48:decide ((c.toNat:Int)<48)=true:=by rw[q48]; exact decide_eq_true h32.2
  rw[hk]
  simp only[f91,f93,f27,t32,t48,Tryz.results42,zW,Nat.reduceLT,Nat.reduceAdd,Nat.reduceEqDiff]
  exact⟨rfl,p,Step.refl g⟩
 obtain⟨d32,hd32⟩:∃ d,decide ((32:Int)<=(c.toNat:Int))=d:=⟨_,rfl⟩
 obtain⟨d48,hd48⟩:∃ d,decide ((c.toNat:Int)<48)=d:=⟨_,rfl⟩
 have hno:¬(d32=true/\d48=true):=fun h=>h32 ⟨of_decide_eq_true (q32.symm.trans (hd32.trans h.1)),of_decide_eq_true (q48.symm.trans (hd48.trans h.2))⟩
 refine kH (fun E' H'=>H'=H/\E' 0=.pointer (some ⟨p.t,0,none⟩)/\E' 1=jU c) ?_ ?_
 ·simp only[zW,Nat.reduceLT,Nat.reduceAdd]
  refine aj ⟨rfl,?_,?_⟩<;>simp only[aW,Nat.reduceEqDiff]
 rintro E X ⟨hX,g0,g1⟩
 rw[hX,show H=ext H [] from rfl]
 by_cases h55:c=55
 ·have hk:x.second c=({x with srow:=x.row,scol:=x.col,spen:=x.pen},0):=by unfold Tm.second; rw[if_neg h91,if_neg h93,if_neg h27,if_neg h32,if_pos h55]
  have t55:decide ((c.toNat:Int)=55)=true:=by rw[q55]; exact decide_eq_true h55
  rw[hk]
  cases d32<;>cases d48<;>first
   |exact absurd ⟨rfl,rfl⟩ hno
   | (simp only [g0, g1, hb, hT, h1, f91, f93, f27, hd32, hd48, t55, Tryz.results42, zW, Nat.reduceLeDiff, Nat.reduceLT, Nat.reduceAdd, Nat.reduceEqDiff]
      exact⟨rfl,p,g.one (y:={x with srow:=x.row,scol:=x.col,spen:=x.pen}) rfl rfl rfl rfl⟩)
 have f55:decide ((c.toNat:Int)=55)=false:=by rw[q55]; exact decide_eq_false h55
 by_cases h56:c=56
 ·have hk:x.second c=({x with row:=x.srow,col:=x.scol,pen:=x.spen},0):=by unfold Tm.second; rw[if_neg h91,if_neg h93,if_neg h27,if_neg h32,if_neg h55,if_pos h56]
  have t56:decide ((c.toNat:Int)=56)=true:=by rw[q56]; exact decide_eq_true h56
  rw[hk]
  cases d32<;>cases d48<;>first
   |exact absurd ⟨rfl,rfl⟩ hno
   | (simp only [g0, g1, hb, hT, h1, f91, f93, f27, hd32, hd48, f55, t56, Tryz.results42, zW, Nat.reduceLeDiff, Nat.reduceLT, Nat.reduceAdd, Nat.reduceEqDiff]
      exact⟨rfl,p,g.one (y:={x with row:=x.srow,col:=x.scol,pen:=x.spen}) rfl rfl rfl rfl⟩)
 have f56:decide ((c.toNat:Int)=56)=false:=by rw[q56]; exact decide_eq_false h56
 by_cases h99:c=99
 ·have hk:x.second c=(Tm.new x.h x.w,0):=by unfold Tm.second; rw[if_neg h91,if_neg h93,if_neg h27,if_neg h32,if_neg h55,if_neg h56,if_pos h99]; rfl
  have t99:decide ((c.toNat:Int)=99)=true:=by rw[q99]; exact decide_eq_true h99
  rw[hk]
  cases d32<;>cases d48<;>first
   |exact absurd ⟨rfl,rfl⟩ hno
   |skip
  all_goals
   simp only[g1,f91,f93,f27,hd32,hd48,f55,f56,t99,zW,Nat.reduceLT,Nat.reduceEqDiff]
   refine bf [(7,3),(7,6),(8,7),(9,7),(10,7),(11,7),(12,7)] [] (by kernel_rfl) (by kernel_rfl) rfl fun ops anc hA hG=>?_
   simp only[aw]at hA
   simp only[g0,hb,hT,h1,b9,zW,Nat.reduceLT,Nat.reduceAdd,Nat.reduceEqDiff]
   refine bx (v:=.int .i64 (x.w:Int)) p.aJ (by simp only[aW,Nat.reduceLT]) (by kernel_rfl) (by decide) g.ne (fun K hn hg=>?_) (by simp (maxDischargeDepth:=6) only[b9]) ?_
   ·simp only[aW]
    exact gW K p x (g.of (by rw[hn]; exact zA8 _) hg) s
   simp only[hb,b9,lh,Nat.reduceAdd]
   have hrn:=aL H []
   obtain⟨_,gg,hc,p1,rfl,t1,m1,n1,rv1,pv1⟩:=Pe (H.restrict []) x.h x.w (by rw[hrn.1,hrn.2.1]; exact zA8 _) s.h1 s.h2 s.w1 s.w2
   rw[hrn.1]at n1
   refine oM (H:=ext H []) (W:=[]) [] ok rfl (by kernel_rfl) (fun n hn=>by simp at hn) (fun n hn=>by simp at hn) (fun _ h=>h) (v:=.tuple ⟨[.pointer (some ⟨p1.t,0,none⟩),.int .i64 0]⟩) (g:=gg) (by simp only[aW,Nat.reduceEqDiff]; exact hc) m1 (by simp only[aw,cx,hA,true_or,and_true]) ?_
   intro H1 D mH1 hF hN hx hD
   have ht1:cd H1 p1 (Tm.new x.h x.w):=t1.of (by rw[hx]; exact zA8 _) fun n hn=>hN n (n1 n hn) (t1.lt n hn)
   have hTx:p.t<H1.next:=mH1.lt (g.lt p.t (by simp[Rp.aJ]))
   have hRx:p1.rb<H1.next:=ht1.lt p1.rb (by simp[Rp.aJ])
   obtain⟨L,hL⟩:=Go.Ax.bP (ba p1 (Tm.new x.h x.w))
   have hLl:L.length=23:=by rw[<-hL]; rfl
   have hL1:L.all one=true:=by rw[<-hL]; simp only[ba,rv1,pv1]; rfl
   have hLs:∀ N,H1.next<=N->aO N L=true:=fun N hN=>by
    rw[<-hL]
    simp only[ba,rv1,pv1,aO,aS,Bool.true_and,Bool.and_true]
    exact a8 (by omega)
   have hld:∀ q,oL Tryz.prog 66 0 (EO (bk (ext H1 []) p1.t) q)=some (.agg ⟨L⟩):=fun q=>by
    rw[ext_nil,ht1.cell,iM,hL,sJ (by kernel_rfl),show bh Tryz.prog 66=some 23 from by kernel_rfl,zA3,if_pos (by omega),zD1,zD6 (by omega)]
   have hcx:bk H1 p.t=some ⟨66,false,ba p x⟩:=(mH1.bk (g.lt p.t (by simp[Rp.aJ])) (by simp)).trans g.cell
   have hst:∀ N,H1.next<=N->vw Tryz.prog 66 N 0 (.agg ⟨L⟩) (bk H1 p.t)=some ⟨66,false,cL (ba p x) 0 L⟩:=fun N hN=>by
    rw[hcx]
    exact l5 (v:=.agg ⟨L⟩) (by rw[ko,hLl]; kernel_rfl) (by rw[ko,hLl]; exact zA8 _) (by rw[ko]; exact hL1) (by rw[ko]; exact hLs N hN)
   have hst':=hst (H1.next+0) (zA8 _)
   have hfr:=g.fresh ht1 mH1 n1 rv1 pv1
   rw[hL]at hfr
   rw[show H1=ext H1 [] from rfl]
   simp only[g0,hA,hld,hTx,hst',Tryz.results42,b9,zW,Nat.reduceLT,Nat.reduceAdd,Nat.reduceEqDiff]
   exact⟨rfl,_,hfr⟩
 have f99:decide ((c.toNat:Int)=99)=false:=by rw[q99]; exact decide_eq_false h99
 have s3:=s.r1
 have s4:=s.r2
 have s5:=s.h2
 obtain⟨to,hto⟩:∃ r:Nat,x.top=r:=⟨x.top.toNat,by have:=s.t1; omega⟩
 obtain⟨bo,hbo⟩:∃ b:Nat,x.bottom=b:=⟨x.bottom.toNat,by have:=s.t1; have:=s.t2; omega⟩
 have hwr:IntKind.i64.wrap (x.row-1)=x.row-1:=aQ (by omega) (by omega)
 by_cases h77:c=77
 ·have t77:decide ((c.toNat:Int)=77)=true:=by rw[q77]; exact decide_eq_true h77
  by_cases htop:x.row=x.top
  ·have hk:x.second c=(x.fN to bo (1:Nat) false,0):=by
    unfold Tm.second; rw[if_neg h91,if_neg h93,if_neg h27,if_neg h32,if_neg h55,if_neg h56,if_neg h99,if_pos ⟨h77,htop⟩,hto,hbo]; rfl
   have dt:decide (x.row=x.top)=true:=decide_eq_true htop
   rw[hk]
   cases d32<;>cases d48<;>first
    |exact absurd ⟨rfl,rfl⟩ hno
    |skip
   all_goals
    simp only[g1,f91,f93,f27,hd32,hd48,f55,f56,f99,zW,Nat.reduceLT,Nat.reduceEqDiff]
    refine bf [] [(2,74)] (by kernel_rfl) rfl (by kernel_rfl) fun ops anc hA hG=>?_
    simp only[aw]at hG
    simp only[g0,g1,hb,hT,h1,hG,t77,dt,b9,zW,Nat.reduceLT,Nat.reduceAdd,Nat.reduceEqDiff]
    refine bf [(9,4),(9,8)] [] (by kernel_rfl) (by kernel_rfl) rfl fun ops anc hA hG=>?_
    simp only[aw]at hA
    simp only[g0,hb,hT,h1,b9,zW,Nat.reduceLT,Nat.reduceAdd,Nat.reduceEqDiff]
    refine ed (as':=[.int .i64 x.top,.int .i64 x.bottom,.int .i64 ((1:Nat):Int),.bool false]) g ok rfl (by kernel_rfl) (by decide) (by simp only[aW,Nat.reduceEqDiff]<;>rfl) (by simp only[aw,cx,hA,true_or,and_true]) (fun G gG okG=>by rw[hto,hbo]; exact EV G p x to bo 1 false gG s okG (by have:=s.t2; omega) (by have:=s.t3; omega) (by omega) (by omega)) fun H1 p1 st=>?_
    rw[show H1=ext H1 [] from rfl]
    simp only[Tryz.results42,zW,Nat.reduceLT]
    exact⟨rfl,p1,st⟩
  ·have hk:x.second c=({x with row:=max 0 (x.row-1)},0):=by
    unfold Tm.second; rw[if_neg h91,if_neg h93,if_neg h27,if_neg h32,if_neg h55,if_neg h56,if_neg h99,if_neg (fun h=>htop h.2),if_pos h77]
   have dt:decide (x.row=x.top)=false:=decide_eq_false htop
   rw[hk]
   cases d32<;>cases d48<;>first
    |exact absurd ⟨rfl,rfl⟩ hno
    |skip
   all_goals
    simp only[g1,f91,f93,f27,hd32,hd48,f55,f56,f99,zW,Nat.reduceLT,Nat.reduceEqDiff]
    refine bf [] [(2,74)] (by kernel_rfl) rfl (by kernel_rfl) fun ops anc hA hG=>?_
    simp only[aw]at hG
    simp only[g0,g1,hb,hT,h1,hG,t77,dt,hwr,Tryz.results42,b9,zW,Nat.reduceLeDiff,Nat.reduceLT,Nat.reduceAdd,Nat.reduceEqDiff]
    exact⟨rfl,p,g.one (y:={x with row:=max 0 (x.row-1)}) rfl rfl rfl rfl⟩
 have f77:decide ((c.toNat:Int)=77)=false:=by rw[q77]; exact decide_eq_false h77
 have hk:x.second c=(x,0):=by unfold Tm.second; rw[if_neg h91,if_neg h93,if_neg h27,if_neg h32,if_neg h55,if_neg h56,if_neg h99,if_neg (fun h=>h77 h.1),if_neg h77]
 rw[hk]
 cases d32<;>cases d48<;>first
  |exact absurd ⟨rfl,rfl⟩ hno
  |skip
 all_goals
  simp only[g1,f91,f93,f27,hd32,hd48,f55,f56,f99,zW,Nat.reduceLT,Nat.reduceEqDiff]
  refine bf [] [(2,74)] (by kernel_rfl) rfl (by kernel_rfl) fun ops anc hA hG=>?_
  simp only[aw]at hG
  simp only[g1,hG,f77,Tryz.results42,b9,zW,Nat.reduceLT,Nat.reduceAdd,Nat.reduceEqDiff]
  exact⟨rfl,p,Step.refl g⟩
theorem Fe {P:Program} {t e:TypeId} {sz len n off:Nat} {k:IntKind} {i:Int} (hu:P.underlying t=some (.array len e)) (hsz:bh P e=some sz) (h0:0<=i) (h1:i<len):aP P t (.pointer (some ⟨n,off,none⟩)) (.int k i)=some (.pointer (some ⟨n,off+i.toNat*sz,none⟩)):=by
 simp only[aP,hu,hsz,zA1,zA3]
 rw[if_pos ⟨h0,h1⟩,dR]
def cf (a:Nat):Int:=match (dc vE)[a]? with
 |some (.int .u8 n)=>n
 |_=>0
def gQ (a:Nat):Int:=match (dc sD)[a]? with
 |some (.int .u8 n)=>n
 |_=>0
def KM (a:Nat):Bool:=match (dc vE)[a]? with
 |some (.int .u8 n)=>decide (0<=n)&&decide (n<256)&&(decide (240<=n)||(decide (2<=fe .u8 n 7)&&decide (fe .u8 n 7<=4)))&&decide (0<=fe .u8 n 7)&&decide (fe .u8 n 7<8)&&decide (0<=jZ .u8 n 4)&&decide (jZ .u8 n 4<16)
 |_=>false
theorem Oj:((List.range 256).all KM)=true:=by kernel_rfl
def Ma (a:Nat):Bool:=match (dc sD)[a]? with
 |some (.int .u8 n)=>decide (0<=n)&&decide (n<256)
 |_=>false
theorem OU:((List.range 32).all Ma)=true:=by kernel_rfl
structure Rb (a:Nat):Prop where
 get:(dc vE)[a]?=some (.int .u8 (cf a))
 lo:0<=cf a
 hi:cf a<256
 sz:240<=cf a\/(2<=fe .u8 (cf a) 7/\fe .u8 (cf a) 7<=4)
 s0:0<=fe .u8 (cf a) 7
 s8:fe .u8 (cf a) 7<8
 i0:0<=jZ .u8 (cf a) 4
 i1:jZ .u8 (cf a) 4<16
theorem Bx {a:Nat} (h:a<256):Rb a:=by
 have hc:=zC6.1 Oj a (zG0.2 h)
 unfold KM at hc
 split at hc
 ·rename_i n hn
  have e:cf a=n:=by simp only[cf,hn]
  simp only[zA4,Bool.or_eq_true,decide_eq_true_eq]at hc
  obtain⟨⟨⟨⟨⟨⟨h1,h2⟩,h3⟩,h4⟩,h5⟩,h6⟩,h7⟩:=hc
  exact⟨by rw[e]; exact hn,by rw[e]; exact h1,by rw[e]; exact h2,by rw[e]; exact h3,by rw[e]; exact h4,by rw[e]; exact h5,by rw[e]; exact h6,by rw[e]; exact h7⟩
 ·cases hc
theorem Kt {a:Nat} (h:a<32):(dc sD)[a]?=some (.int .u8 (gQ a))/\0<=gQ a/\gQ a<256:=by
 have hc:=zC6.1 OU a (zG0.2 h)
 unfold Ma at hc
 split at hc
 ·rename_i n hn
  have e:gQ a=n:=by simp only[gQ,hn]
  simp only[zA4,decide_eq_true_eq]at hc
  exact⟨by rw[e]; exact hn,by rw[e]; exact hc.1,by rw[e]; exact hc.2⟩
 ·cases hc
structure tj (H:aa):Prop where
 f:∀ a,a<256->∀ q,oL Tryz.prog 5 a (EO (bk H 0) q)=some (.int .u8 (cf a))
 a:∀ i,i<16->∀ q,oL Tryz.prog 150 (i*2) (EO (bk H 1) q)=some (.agg ⟨[.int .u8 (gQ (i*2)),.int .u8 (gQ (i*2+1))]⟩)
 l0:0<H.next
 l1:1<H.next
theorem On:(dc sD).length=32:=by kernel_rfl
theorem OD {H:aa} (h:yO H) (h0:0<H.next) (h1:1<H.next):tj H:=by
 obtain⟨e1,e2,b1,b2⟩:=h
 refine⟨fun a ha q=>?_,fun i hi q=>?_,h0,h1⟩
 ·rw[b1,iM,kF (by kernel_rfl),(Bx ha).get]
 ·rw[b2,iM,sJ (by kernel_rfl),show bh Tryz.prog 150=some 2 from by kernel_rfl,zA3,if_pos (by rw[On]; omega)]
  have g1:=(Kt (show i*2<32 by omega)).1
  have g2:=(Kt (show i*2+1<32 by omega)).1
  have hd:((dc sD).drop (i*2)).take 2=[.int .u8 (gQ (i*2)),.int .u8 (gQ (i*2+1))]:=by
   apply List.ext_getElem?
   intro j
   rw[List.getElem?_take]
   split
   ·rw[List.getElem?_drop]
    match j,‹j<2› with
    |0,_=>rw[zE1,g1]; rfl
    |1,_=>rw[g2]; rfl
   ·rw[zC5 (by simp; omega)]
  rw[hd]
def r5 (lo hi:Int):List UInt8->Bool
 |[]=>false
 |b::[]=>cond (decide ((b.toNat:Int)<lo)||decide (hi<(b.toNat:Int))) true false
 |b::c::_=>cond (decide ((b.toNat:Int)<lo)||decide (hi<(b.toNat:Int))) true (decide ((c.toNat:Int)<128)||decide (191<(c.toNat:Int)))
def jb:List UInt8->Bool
 |[]=>false
 |a::r=>cond (decide (IntKind.i64.wrap (fe .u8 (cf a.toNat) 7)<=((r.length+1:Nat):Int))) true (r5 (gQ ((jZ .u8 (cf a.toNat) 4).toNat*2)) (gQ ((jZ .u8 (cf a.toNat) 4).toNat*2+1)) r)
theorem QT {a:UInt8}:aP Tryz.prog 148 (.pointer (some ⟨0,0,none⟩)) (.int .u8 (a.toNat:Int))=some (.pointer (some ⟨0,a.toNat,none⟩)):=by
 have:=Fe (P:=Tryz.prog) (t:=148) (e:=5) (sz:=1) (len:=256) (n:=0) (off:=0) (k:=.u8) (i:=(a.toNat:Int)) (by kernel_rfl) (by kernel_rfl) (by omega) (by have:=a.toNat_lt; omega)
 simpa using this
theorem Rh {i:Int} (h0:0<=i) (h1:i<16):aP Tryz.prog 151 (.pointer (some ⟨1,0,none⟩)) (.int .u8 i)=some (.pointer (some ⟨1,i.toNat*2,none⟩)):=by
 have:=Fe (P:=Tryz.prog) (t:=151) (e:=150) (sz:=2) (len:=16) (n:=1) (off:=0) (k:=.u8) (i:=i) (by kernel_rfl) (by kernel_rfl) h0 h1
 simpa using this
theorem PY (H:aa) (v:Value) (l:List UInt8) (h:cK H v l) (hlt:∀ n∈ae v,n<H.next) (ht:tj H) (hl:l≠[]) (hlen:l.length<1000000):Pure 79 [v] H (.bool (jb l)):=by
 obtain⟨b,hb⟩:=Go.Ax.bP H.next
 obtain⟨av,e⟩:=h.sl
 obtain⟨a,r,rfl⟩:∃ a r,l=a::r:=by cases l with|nil=>exact absurd rfl hl|cons a r=>exact⟨a,r,rfl⟩
 obtain⟨L,hL⟩:=Go.Ax.bP ((a::r).length)
 have hLr:L=r.length+1:=by rw[<-hL]; rfl
 rw[hL]at e
 obtain⟨n0,o0,i0,m0,ld0⟩:=h.get (k:=0) (c:=a) rfl
 rw[e,show ((0:Nat):Int)=0 from rfl]at i0
 have t0:n0<b:=hb▸hlt n0 m0
 have fo:=Bx a.toNat_lt
 have hf0:=ht.f a.toNat a.toNat_lt
 have l0:0<b:=hb▸ht.l0
 have l1:1<b:=hb▸ht.l1
 have hx0:=QT (a:=a)
 have hx1:=Rh fo.i0 fo.i1
 have hacc:=ht.a (jZ .u8 (cf a.toNat) 4).toNat (by have:=fo.i0; have:=fo.i1; omega)
 have hcv:∀ (X:aa) (k:IntKind) (m:Int),cj Tryz.prog X 5 3 (.int k m)=some (.int .i64 (IntKind.i64.wrap m),X):=fun X k m=>iL (u:=.int .u8) (by kernel_rfl) (by kernel_rfl)
 have dz:decide ((L:Int)=0)=false:=decide_eq_false (by omega)
 obtain⟨d1,hd1⟩:∃ d,decide (IntKind.i64.wrap (fe .u8 (cf a.toNat) 7)<=(L:Int))=d:=⟨_,rfl⟩
 obtain⟨lo,hlo⟩:=Go.Ax.bP (gQ ((jZ .u8 (cf a.toNat) 4).toNat*2))
 obtain⟨hi,hhi⟩:=Go.Ax.bP (gQ ((jZ .u8 (cf a.toNat) 4).toNat*2+1))
 rw[hlo,hhi]at hacc
 have key:jb (a::r)=cond d1 true (r5 lo hi r):=by
  simp only[jb,<-hLr,hd1,hlo,hhi]
 rw[key]
 refine bJ mixed Tryz.func79 rfl Tryz.ntmps79 (zA6 rfl) fun wf hsc=>?_
 have hbase:H.base<=b:=hb▸wf.base
 rw[e]
 cases d1 with
 |true =>
  simp only[hb,dz,i0,t0,ld0,hx0,l0,hf0,ou,iT,bQ,hcv,hd1,cond_true,Tryz.results79,zW,seval]
  exact Fin.pure rfl
 |false =>
  simp only[hb,hbase,dz,i0,t0,ld0,hx0,l0,l1,hf0,ou,iT,oG,iQ,bQ,hcv,hd1,cond_false,hx1,hacc,seval,zW]
  refine bf [] [(2,26),(9,33)] (by kernel_rfl) rfl (by kernel_rfl) fun ops anc hA hG=>?_
  simp only[aw]at hG
  match r,h,hl,hlen,hL,hLr,key with
  |[],h,hl,hlen,hL,hLr,key =>
   have g1:decide ((1:Int)<(L:Int))=false:=decide_eq_false (by rw[hLr]; simp)
   have g2:decide ((2:Int)<(L:Int))=false:=decide_eq_false (by rw[hLr]; simp)
   simp only[hG,g1,g2,r5,Tryz.results79,b9,zW,seval]
   exact Fin.pure rfl
  |b1::[],h,hl,hlen,hL,hLr,key =>
   have g1:decide ((1:Int)<(L:Int))=true:=decide_eq_true (by rw[hLr]; simp)
   have g2:decide ((2:Int)<(L:Int))=false:=decide_eq_false (by rw[hLr]; simp)
   obtain⟨n1,o1,i1,m1,ld1⟩:=h.get (k:=1) (c:=b1) rfl
   rw[e,show ((1:Nat):Int)=1 from rfl]at i1
   have t1:n1<b:=hb▸hlt n1 m1
   obtain⟨dA,hdA⟩:∃ d,decide ((b1.toNat:Int)<lo)=d:=⟨_,rfl⟩
   obtain⟨dB,hdB⟩:∃ d,decide (hi<(b1.toNat:Int))=d:=⟨_,rfl⟩
   simp only[r5,hdA,hdB]
   cases dA with
   |true =>
    simp only[hb,hG,g1,i1,t1,ld1,hdA,Bool.true_or,cond_true,Tryz.results79,b9,zW,seval]
    exact Fin.pure rfl
   |false =>
    cases dB with
    |true =>
     simp only[hb,hG,g1,i1,t1,ld1,hdA,hdB,Bool.or_true,cond_true,Tryz.results79,b9,zW,seval]
     exact Fin.pure rfl
    |false =>
     simp only[hb,hG,g1,g2,i1,t1,ld1,hdA,hdB,Bool.or_false,cond_false,Tryz.results79,b9,zW,seval]
     exact Fin.pure rfl
  |b1::c1::r3,h,hl,hlen,hL,hLr,key =>
   have g1:decide ((1:Int)<(L:Int))=true:=decide_eq_true (by rw[hLr]; simp only[zB0]; omega)
   have g2:decide ((2:Int)<(L:Int))=true:=decide_eq_true (by rw[hLr]; simp only[zB0]; omega)
   obtain⟨n1,o1,i1,m1,ld1⟩:=h.get (k:=1) (c:=b1) rfl
   obtain⟨n2,o2,i2,m2,ld2⟩:=h.get (k:=2) (c:=c1) rfl
   rw[e,show ((1:Nat):Int)=1 from rfl]at i1
   rw[e,show ((2:Nat):Int)=2 from rfl]at i2
   have t1:n1<b:=hb▸hlt n1 m1
   have t2:n2<b:=hb▸hlt n2 m2
   obtain⟨dA,hdA⟩:∃ d,decide ((b1.toNat:Int)<lo)=d:=⟨_,rfl⟩
   obtain⟨dB,hdB⟩:∃ d,decide (hi<(b1.toNat:Int))=d:=⟨_,rfl⟩
   obtain⟨dC,hdC⟩:∃ d,decide ((c1.toNat:Int)<128)=d:=⟨_,rfl⟩
   obtain⟨dD,hdD⟩:∃ d,decide (191<(c1.toNat:Int))=d:=⟨_,rfl⟩
   simp only[r5,hdA,hdB,hdC,hdD]
   cases dA with
   |true =>
    simp only[hb,hG,g1,i1,t1,ld1,hdA,Bool.true_or,cond_true,Tryz.results79,b9,zW,seval]
    exact Fin.pure rfl
   |false =>
    cases dB with
    |true =>
     simp only[hb,hG,g1,i1,t1,ld1,hdA,hdB,Bool.or_true,cond_true,Tryz.results79,b9,zW,seval]
     exact Fin.pure rfl
    |false =>
     cases dC<;>cases dD <;>
      (simp only[hb,hG,g1,g2,i1,t1,ld1,i2,t2,ld2,hdA,hdB,hdC,hdD,Bool.or_true,Bool.or_false,cond_false,Tryz.results79,b9,zW,seval]
       exact Fin.pure rfl)
end Go.Proofs.YtpohjcacnkhnkaaGreatDoor.Tq
