/- Parts of the proof, one behind the other. -/
import Derived.Test.YtpohjcacnkhnkaaGreatDoorM4
import Derived.Test.YtpohjcacnkhnkaaGreatDoorM5
import Derived.Test.YtpohjcacnkhnkaaGreatDoorM3
import Derived.Shelf.Bits.Mul64
import Derived.Laws.Strings
set_option linter.all false
set_option maxRecDepth 10000
set_option maxHeartbeats 16000000
open Option renaming some->ap,none->bi
open Bool renaming true->bv,false->gc
open Decidable renaming decide->ge
open Go renaming Value->gt,TypeId->ii,Program->io,World->ip,Operand->i4
open Option.some renaming injEq->i5
open Prod.mk renaming injEq->i6
open Go.Value renaming int->i7,pointer->i9,slice->jp,bool->kw
open Go.IntKind renaming i64->i8
open And renaming intro -> zA0
open Option renaming bind_eq_bind -> zA1, bind_eq_some_iff -> zA2, bind_some -> zA4, map_some -> zB1, map_eq_some_iff -> zB5
open List renaming length_cons -> zA3, mem_singleton -> zA6, mem_cons -> zA9, length_nil -> zB0, length_append -> zB2, getElem?_eq_getElem -> zB3, mem_append -> zB4, mem_map -> zB6, nodup_cons -> zB8, map_cons -> zB9, mem_of_getElem? -> zC0, length_drop -> zC1, take_of_length_le -> zC3, mem_cons_of_mem -> zC4, getElem?_eq_none -> zC5, append_assoc -> zC9, nil_append -> zD0, drop_zero -> zD2, all_eq_true -> zD3, append_nil -> zD4, nodup_append -> zD5, mem_cons_self -> zD7, getElem?_eq_some_iff -> zE0, getElem?_map -> zE1, getD_eq_getElem?_getD -> zE3, map_nil -> zE6, eq_nil_of_length_eq_zero -> zE7, drop_eq_nil_of_le -> zE8, length_map -> zE9, length_take -> zF1, not_mem_nil -> zF2, getElem?_cons_zero -> zF3, getElem?_set -> zF4, mem_range -> zF5, cons_append -> zG1, length_replicate -> zG2, ext_getElem? -> zG4, getElem?_append_right -> zG5, getElem?_cons_succ -> zG6
open Nat renaming le_refl -> zA5, le_of_ble_eq_true -> zA8, zero_le -> zB7, lt_or_ge -> zC2, zero_add -> zC6, le_trans -> zC7, lt_of_lt_of_le -> zD1, add_zero -> zD6, lt_succ_self -> zD9, ble_eq -> zE2, mul_one -> zE5, min -> zF0, add_sub_cancel_left -> zF9, sub_self -> zG0
open Bool renaming and_eq_true -> zA7, false_eq_true -> zC8, and_self -> zD8, not_true -> zE4, or_false -> zF6, false_and -> zF7, or_true -> zF8, or_eq_true -> zG3
namespace Go.Proofs.YtpohjcacnkhnkaaGreatDoor.Tq
open Go.Ax
structure Rp where
 t:Nat
 rb:Nat
 rs:List (Nat × Bool)
 rv:gt
 pv:gt
def aM(w:Nat)(q:Nat × Bool):Value:=jp (ap ⟨q.1,0,if q.2 then bi else ap 0⟩) w w
def Tm.w(x:Tm):Nat:=(x.grid.headD []).length
def Tm.h(x:Tm):Nat:=x.grid.length
def aW(p:Rp)(x:Tm):List Value:=[i7 i8 x.row,i7 i8 x.col,i7 i8 x.pen.fore,i7 i8 x.pen.back,kw x.pen.bold,kw x.pen.under,kw x.pen.inv,
 i7 i8 x.srow,i7 i8 x.scol,i7 i8 x.spen.fore,i7 i8 x.spen.back,kw x.spen.bold,kw x.spen.under,kw x.spen.inv,
 jp (ap ⟨p.rb,0,bi⟩) x.h x.h,kw x.shown,i7 i8 x.top,i7 i8 x.bottom,i7 i8 (x.mode:Int),p.rv,p.pv,kw x.middle,gD x.last]
def Rp.au(p:Rp):List Nat:=p.t::p.rb::(p.rs.map (·.1)++ae p.rv++ae p.pv)
structure b7 (H:aa) (p:Rp) (x:Tm):Prop where
 cell:bk H p.t=ap ⟨66,gc,aW p x⟩
 rows:bk H p.rb=ap ⟨56,bv,p.rs.map (aM x.w)⟩
 len:p.rs.length=x.h
 row:∀(i:Nat)(q:Nat × Bool)(l:List Ce),p.rs[i]?=ap q->x.grid[i]?=ap l->bk H q.1=ap ⟨77,q.2,aQ l⟩
 rest:bD H p.rv x.rest
 par:bD H p.pv x.params
 nd:p.au.Nodup
 lt:∀ n∈p.au,n<H.next
section
variable{H G H1 H2:aa}{p p1 p2:Rp}{x y z:Tm}
def b7.of(g:b7 H p x)(a:H.next<=G.next)(b:∀ n∈p.au,G.get n=H.get n):b7 G p x where
 cell:=(aO (b _ nl)).trans g.cell
 rows:=(aO (b _ nl)).trans g.rows
 len:=g.len
 row:=fun i q l e f=>(aO (b _ (by simp only[Rp.au,zA9,zB4,zB6]; exact .inr (.inr (.inl (.inl ⟨q,zC0 e,rfl⟩)))))).trans (g.row i q l e f)
 rest:=g.rest.of fun n a=>b n (by simp[Rp.au,a])
 par:=g.par.of fun n a=>b n (by simp[Rp.au,a])
 nd:=g.nd
 lt:=fun n c=>zD1 (g.lt n c) a
def b7.rowOf(g:b7 H p x){i:Nat}{l:List Ce}(h:x.grid[i]?=ap l):∃ q,p.rs[i]?=ap q/\q.1∈p.au/\bk H q.1=ap ⟨77,q.2,aQ l⟩:=by
 have a:i<p.rs.length:=by
  rw[g.len];rcases zC2 i x.grid.length with h'|h'
  .exact h'
  .rw[zC5 h']at h; cases h
 refine⟨p.rs[i],zB3 a,?_,g.row i _ l (zB3 a) h⟩;simp only[Rp.au,zA9,zB4,zB6];exact .inr (.inr (.inl (.inl ⟨p.rs[i],List.getElem_mem _,rfl⟩)))
def b7.ne(g:b7 H p x):∀ n∈p.au,H.get n≠none:=by
 intro n hn;simp only[Rp.au,zA9,zB4,zB6]at hn;rcases hn with rfl|rfl|(⟨q,b,rfl⟩|hn)|hn
 .exact fI g.cell
 .exact fI g.rows
 .obtain⟨i,hi,rfl⟩:=List.mem_iff_getElem.1 b;have a:i<x.grid.length:=by rw[show x.grid.length=x.h from rfl,<-g.len]; exact hi
  exact fI (g.row i _ _ (zB3 hi) (zB3 a))
 .exact g.rest.ne n hn
 .exact g.par.ne n hn
structure Step (H:aa) (p:Rp) (H1:aa) (p1:Rp) (y:Tm):Prop where
 at_:b7 H1 p1 y
 mod:Mod p.au H H1
 same:p1.t=p.t
 new:∀ n∈p1.au,n∈p.au\/H.next<=n
def Step.refl(g:b7 H p x):Step H p H p x:=⟨g,Mod.refl,rfl,fun _ h=>.inl h⟩
def Step.ok(s:Step H p H1 p1 y)(a:H.base<=H.next):H1.base<=H1.next:=s.mod.ok a
def Step.trans(c:H.base<=H.next)(a:Step H p H1 p1 y)(b:Step H1 p1 H2 p2 z):Step H p H2 p2 z where
 at_:=b.at_
 mod:=a.mod.step b.mod c a.new
 same:=b.same.trans a.same
 new:=fun n e=>(b.new n e).elim (a.new n) fun h=>.inr (zC7 a.mod.next h)
def b7.put(g:b7 H p x)(m:Mod [p.t] H H1)(h:bk H1 p.t=ap ⟨66,gc,aW p y⟩)(c:y.grid=x.grid)(o:y.rest=x.rest)(r:y.params=x.params):Step H p H1 p y:=by
 have f:p.t∉p.rb::(p.rs.map (·.1)++ae p.rv++ae p.pv):=(zB8.1 g.nd).1;have a:∀ n∈p.rb::(p.rs.map (·.1)++ae p.rv++ae p.pv),H1.get n=H.get n:=fun n b=>m.get n (g.lt n (zC4 _ b)) (fun e=>f (by simp only[zA6]at e; exact e▸b));refine⟨⟨h,?_,?_,?_,?_,?_,g.nd,fun n b=>m.lt (g.lt n b)⟩,m.mono (by intro n b; simp only[zA6]at b; subst b; simp[Rp.au]),rfl,fun _ h=>.inl h⟩
 .rw[aO (a _ lw),g.rows,Tm.w,Tm.w,c]
 .rw[g.len,Tm.h,Tm.h,c]
 .intro i q l j k;rw[c]at k;rw[aO (a _ ?_)]
  .exact g.row i q l j k
  .simp only[zA9,zB4,zB6];exact .inr (.inl (.inl ⟨q,zC0 j,rfl⟩))
 .rw[o]; exact g.rest.of fun n b=>a n (by simp[b])
 .rw[r]; exact g.par.of fun n b=>a n (by simp[b])
def b7.one(g:b7 H p x){off:Nat}{vs:List gt}(h:cQ (aW p x) off vs=aW p y)(a:y.grid=x.grid)(b:y.rest=x.rest)(c:y.params=x.params):Step H p (Go.Ax.ext (uw H p.t off vs) []) p y :=
 g.put (Mod.uw lw) (by rw[ext_nil,bR,g.cell]; exact congrArg (fun l=>ap (Bl.mk 66 gc l)) h) a b c
def b7.two(g:b7 H p x){off off2:Nat}{vs vs2:List gt}(h:cQ (cQ (aW p x) off vs) off2 vs2=aW p y)(a:y.grid=x.grid)(b:y.rest=x.rest)(c:y.params=x.params):Step H p (Go.Ax.ext (uw (uw H p.t off vs) p.t off2 vs2) []) p y :=
 g.put ((Mod.uw lw).trans (Mod.uw lw)) (by rw[ext_nil,bR,bR,g.cell]; exact congrArg (fun l=>ap (Bl.mk 66 gc l)) h) a b c
def KE(H:aa):Prop:=∃ a b,bk H 0=ap ⟨a,gc,dc vI⟩/\bk H 1=ap ⟨b,gc,dc r5⟩
end
def gp(f:FuncId)(args:List gt)(H:aa)(p:Rp)(v:gt)(y:Tm):Prop :=
 aL Tryz.prog f (i9 (ap ⟨p.t,0,bi⟩)::args) H fun out H1=>out=.ok v/\∃ p1,Step H p H1 p1 y
structure Tm.Sz (x:Tm):Prop where
 h1:1<=x.h
 h2:x.h<=200
 w1:1<=x.w
 w2:x.w<=300
 ws:∀ l∈x.grid,l.length=x.w
 r1:0<=x.row
 r2:x.row<x.h
 c1:0<=x.col
 c2:x.col<=x.w
 sr1:0<=x.srow
 sr2:x.srow<x.h
 sc1:0<=x.scol
 sc2:x.scol<=x.w
 t1:0<=x.top
 t2:x.top<=x.bottom
 t3:x.bottom<x.h
 md:x.mode<5
 hd:∀ l∈x.grid,(l.getD 0 sp).rune≠-1
def Tm.Sz.head{x:Tm}(s:x.Sz):x.grid[0]?=ap (x.grid.headD []):=by
 have:=s.h1;unfold Tm.h at this
 cases b:x.grid with
 |nil=>rw[b]at this; simp at this
 |cons a r=>rfl
def b7.first{H:aa}{p:Rp}{x:Tm}(g:b7 H p x)(s:x.Sz):∃ q,p.rs[0]?=ap q/\(p.rs.map (aM x.w))[0]?=ap (aM x.w q):=by obtain⟨q,a,_⟩:=g.rowOf s.head;exact⟨q,a,by rw[zE1,a]; rfl⟩
def Fw(H:aa)(p:Rp)(x:Tm)(g:b7 H p x)(s:x.Sz):Pure 32 [i9 (ap ⟨p.t,0,bi⟩)] H (kw bv):=by obtain⟨b,a⟩:=ac H.next;have e:p.t<b:=a▸g.lt p.t nl;have c:=g.cell;simp only[aW]at c;have f:ge ((0:Int)<(x.h:Int))=true:=decide_eq_true (by have:=s.h1; omega);refine ba mixed Tryz.func32 rfl Tryz.ntmps32 (zA8 rfl) fun wf j=>?_;simp only[a,e,c,f,Tryz.results32,zW,seval];exact Fin.pure rfl
def iK(H:aa)(p:Rp)(x:Tm)(g:b7 H p x)(s:x.Sz):Pure 71 [i9 (ap ⟨p.t,0,bi⟩)] H (i7 i8 (x.w:Int)):=by obtain⟨b,a⟩:=ac H.next;have e:p.t<b:=a▸g.lt p.t nl;have f:p.rb<b:=a▸g.lt p.rb nl;have c:=g.cell;simp only[aW]at c;have j:=g.rows;obtain⟨q,_,l⟩:=g.first s;have hi:=eP (len:=x.h) (cap:=x.h) (n:=p.rb) (s:=bi) (i:=0) (k:=0) rfl s.h1;refine ba mixed Tryz.func71 rfl Tryz.ntmps71 (zA8 rfl) fun wf m=>?_;simp only[a,e,f,c,j,hi,l,aM,Tryz.results71,zW,seval];exact Fin.pure rfl
theorem pF(x:Tm):x.inside=min x.col ((x.w:Int)-1):=rfl
def oH(H:aa)(p:Rp)(x:Tm)(g:b7 H p x)(s:x.Sz):Pure 34 [i9 (ap ⟨p.t,0,bi⟩)] H (i7 i8 x.inside):=by
 obtain⟨b,a⟩:=ac H.next;have e:p.t<b:=a▸g.lt p.t nl;have c:=g.cell;simp only[aW]at c;have f:IntKind.i64.wrap ((x.w:Int)-1)=(x.w:Int)-1:=ak (by have:=s.w2; omega) (by have:=s.w2; omega);refine ba mixed Tryz.func34 rfl Tryz.ntmps34 (zA8 rfl) fun wf h=>?_;simp only[zW,seval];refine aK [] [] ls rfl rfl fun ops anc l m=>?_;simp only[a,e,c,bh,zW,seval];refine aN (v:=i7 i8 (x.w:Int)) p.au (by simp only[aE,seval]) ls mt g.ne (fun K j k=>?_) (by simp (maxDischargeDepth:=6) only[bh]) ?_
 .simp only[aE];exact iK K p x (g.of (by rw[j]; exact zA5 _) k) s
 simp only[a,f,Tryz.results34,bh,zW,seval];exact Fin.cq (by rw[pF]) rfl
def QT(H:aa)(p:Rp)(x:Tm)(c:UInt8):Pure 43 [i9 (ap ⟨p.t,0,bi⟩),gD c] H (i7 i8 0):=by refine ba mixed Tryz.func43 rfl Tryz.ntmps43 (zA8 rfl) fun wf a=>?_;simp only[Tryz.results43,zW,seval];exact Fin.pure rfl
def dI(l:List Int):List Value:=l.map fun n=>i7 i8 n
def tM(l:List Int)(k:Nat):(dI l)[k]?=l[k]?.map fun n=>i7 i8 n:=by simp[dI]
def gq(l:List Int):(dI l).length=l.length:=by simp[dI]
def Cf(l m:List Int):dI (l++m)=dI l++dI m:=by simp[dI]
def dY(H:aa)(v:gt)(l:List Int):Prop :=
 (l=[]/\∃ a c,v=.slice a 0 c)\/(l≠[]/\∃ n b o,v=jp (ap ⟨n,List.length b,if o then bi else ap 0⟩) l.length l.length/\bk H n=ap ⟨3,o,dI (b++l)⟩)
def dY.sl{H:aa}{v:gt}{l:List Int}(h:dY H v l):∃ a c,v=.slice a l.length c:=by rcases h with⟨rfl,a,c,rfl⟩|⟨_,n,b,o,rfl,_⟩<;>exact⟨_,_,rfl⟩
def dY.get{H:aa}{v:gt}{l:List Int}(h:dY H v l){k:Nat}{c:Int}(b:l[k]?=ap c):∃ n off,aS Tryz.prog 22 v (i7 i8 (k:Int))=ap (i9 (ap ⟨n,off,bi⟩))/\n∈ae v/\H.get n≠bi/\∀ q,rl Tryz.prog 3 off (CW (bk H n) q)=ap (i7 i8 c):=by
 have a:k<l.length:=by
  rcases zC2 k l.length with h'|h'
  .exact h'
  .rw[zC5 h']at b; cases b
 rcases h with⟨rfl,_⟩|⟨h,n,e,o,rfl,f⟩
 .simp at a
 .have g:ey Tryz.prog 3=ap false:=by kernel_rfl
  refine⟨n,e.length+k,ta rfl a,by simp[ae],fI f,fun q=>?_⟩;rw[f,gN,lL g,tM,zG5 li,zF9,b];rfl
def dY.of{H G:aa}{v:gt}{l:List Int}(h:dY H v l)(e:∀ n∈ae v,G.get n=H.get n):dY G v l:=by
 rcases h with⟨rfl,a,c,rfl⟩|⟨h,n,b,o,rfl,f⟩
 .exact .inl ⟨rfl,a,c,rfl⟩
 .exact .inr ⟨h,n,b,o,rfl,(aO (e n ol)).trans f⟩
def dY.ne{H:aa}{v:gt}{l:List Int}(h:dY H v l)(e:l≠[]):∀ n∈ae v,H.get n≠none:=by
 rcases h with⟨rfl,a,c,rfl⟩|⟨h,n,f,o,rfl,g⟩
 .exact absurd rfl e
 .intro m b;simp only[ae,zA6]at b;subst b;exact fI g
def imax(a b:Int):(if b>a then b else a)=max a b:=by omega
def jx(H:aa)(v:gt)(l:List Int)(h:dY H v l)(m:l≠[]):Pure 158 [v] H (i7 i8 (count l)):=by
 obtain⟨a,r,rfl⟩:∃ a r,l=a::r:=by cases l with|nil=>exact absurd rfl m|cons a r=>exact⟨a,r,rfl⟩
 obtain⟨n,off,hi,_,dK,e⟩:=h.get (k:=0) (c:=a) rfl;rw[show ((0:Nat):Int)=0 from rfl]at hi;refine ba mixed Tryz.func158 rfl Tryz.ntmps158 (zA8 rfl) fun wf o=>?_
 have f:n<H.next:=by
  cases g:bk H n with
  |none=>have j:=e bi; rw[g]at j; cases j
  |some b=>exact wf.lt g
 simp only[hi,f,e,Tryz.results158,zW,seval];exact Fin.cq (by simp only[count,List.headD_cons]) rfl
def C5(H:aa)(v:gt)(l:List Int)(h:dY H v l):Pure 159 [v] H (i7 i8 (snd l)):=by
 obtain⟨a,c,e⟩:=h.sl;refine ba mixed Tryz.func159 rfl Tryz.ntmps159 (zA8 rfl) fun wf r=>?_;by_cases m:1<l.length
 .obtain⟨n,off,hi,_,dK,f⟩:=h.get (k:=1) (c:=l[1]) (zB3 m)
  have g:n<H.next:=by
   cases o:bk H n with
   |none=>have q:=f bi; rw[o]at q; cases q
   |some b=>exact wf.lt o
  have j:ge ((1:Int)<(l.length:Int))=true:=decide_eq_true li;rw[show ((1:Nat):Int)=1 from rfl]at hi;rw[e]at hi ⊢;simp only[hi,g,f,j,Tryz.results159,zW,seval];exact Fin.cq (by simp only[snd,List.getD,zB3 m,Option.getD_some]) rfl
 .have j:ge ((1:Int)<(l.length:Int))=false:=decide_eq_false li;rw[e];simp only[j,Tryz.results159,zW,seval];exact Fin.cq (by simp only[snd,List.getD,zC5 (show l.length<=1 by omega),Option.getD_none]) rfl
def NJ(H:aa)(p:Rp)(x:Tm)(c:UInt8)(g:b7 H p x)(ok:H.base<=H.next):gp 45 [gD c] H p (i7 i8 ((x.ignore c).2:Int)) (x.ignore c).1:=by
 obtain⟨b,m⟩:=ac H.next;have o:p.t<b:=m▸g.lt p.t nl;have n:=g.cell;simp only[aW]at n
 obtain⟨h,a⟩:∃ d,ge ((c.toNat:Int)=7)=d:=⟨_,rfl⟩
 obtain⟨j,e⟩:∃ d,ge ((c.toNat:Int)=92)=d:=⟨_,rfl⟩
 obtain⟨k,f⟩:∃ d,ge ((x.last.toNat:Int)=27)=d:=⟨_,rfl⟩
 have q:c=7 ↔ h=true:=by rw[<-a,decide_eq_true_iff,<-UInt8.toNat_inj]; simp; omega
 have r:c=92 ↔ j=true:=by rw[<-e,decide_eq_true_iff,<-UInt8.toNat_inj]; simp; omega
 have s:x.last=27 ↔ k=true:=by rw[<-f,decide_eq_true_iff,<-UInt8.toNat_inj]; simp; omega
 refine aH mixed Tryz.func45 rfl Tryz.ntmps45 (zA8 rfl) ?_;have l:x.ignore c=cond (h||(j&&k)) (x,0) ({x with last:=c},4):=by simp only[Tm.ignore,q,r,s];cases h<;>cases j<;>cases k<;>rfl
 rw[l]
 cases h<;>cases j<;>cases k<;>simp only[m,o,n,a,e,f,zF6,zF8,Bool.and_false,Bool.and_true,cond_true,cond_false,Tryz.results45,zW,seval]<;>first
  |exact⟨trivial,p,Step.refl g⟩
  |exact⟨trivial,p,g.one (y:={x with last:=c}) rfl rfl rfl rfl⟩
  |exact⟨rfl,p,Step.refl g⟩
  |exact⟨rfl,p,g.one (y:={x with last:=c}) rfl rfl rfl rfl⟩
def jI(H:aa)(p:Rp)(x:Tm)(r c:Int)(g:b7 H p x)(s:x.Sz)(ok:H.base<=H.next):gp 157 [i7 i8 r,i7 i8 c] H p (.tuple #[]) (x.bp r c):=by
 obtain⟨b,a⟩:=ac H.next;have f:p.t<b:=a▸g.lt p.t nl;have e:=g.cell;simp only[aW]at e;have o:=s.h2;have s2:=s.w2;have k:IntKind.i64.wrap ((x.w:Int)-1)=(x.w:Int)-1:=ak li li;have l:IntKind.i64.wrap ((x.h:Int)-1)=(x.h:Int)-1:=ak li li;refine aH mixed Tryz.func157 rfl Tryz.ntmps157 (zA8 rfl) ?_;simp only[fq,seval];refine aK [(20,6),(20,13),(24,6),(24,13),(24,20)] [] ls ls rfl fun ops anc j q=>?_;simp only[aj]at j;simp only[a,f,e,bh,zW,seval];refine aN (v:=i7 i8 (x.w:Int)) p.au (by simp only[aE,seval]) ls mt g.ne (fun K m n=>?_) (by simp (maxDischargeDepth:=6) only[bh]) ?_
 .simp only[aE];exact iK K p x (g.of (by rw[m]; exact zA5 _) n) s
 simp only[a,f,e,j,k,l,Tryz.results157,bh,zW,seval];exact⟨p,g.two (y:=x.bp r c) rfl rfl rfl rfl⟩
def Step.merge{H H1 g:aa}{p p1:Rp}{x y:Tm}(k:b7 H p x)(s:Step (H.restrict p.au) p g p1 y)(m:Mod p.au H H1)(c:∀ n∈p.au,H1.get n=g.get n)(e:∀ n,H.next<=n->n<g.next->H1.get n=g.get n)(f:H1.next=g.next):Step H p H1 p1 y:=by
 have j:=aI H p.au;have b:∀ n∈p1.au,n∈p.au\/H.next<=n:=fun n a=>(s.new n a).imp id (fun h=>by rw[j.1]at h; exact h);refine⟨s.at_.of (by rw[f]; exact zA5 _) fun n a=>?_,m,s.same,b⟩;rcases b n a with h|h
 .exact c n h
 .exact e n h (s.at_.lt n a)
section
variable{N:Nat}{E:Env}{ds:List Deferred}{ops:Array Oper}{anc:List Nat}{d:Nat}{ty:ii}{pos:String}{after:Array Edge}{i:Nat}{fps:List Fp}{Q:ai -> aa -> Prop}{H:aa}
def ei{f:FuncId}{args:List i4}{ts:Array ii}{v:gt}{as':List gt}{p:Rp}{x y:Tm}(g:b7 H p x)(ok:H.base<=H.next)(j:args.all (bd Tryz.prog N)=bv)(k:aB Tryz.prog f=bv)(l:d<N)
  (a:args.map (bX E)=i9 (ap ⟨p.t,0,bi⟩)::as')
  (c:∀ r∈fps,(anc.getD i 0).testBit r.i=bv\/(r.hi<=r.lo/\(∀ n∈r.W,n∉p.au)/\(∀ n∈r.F,n∉p.au)))
  (o:∀ G,b7 G p x->G.base<=G.next->gp f as' G p v y) (h:∀ e p1,Step H p e p1 y->Q (bj N (cy E d v) ds) e) :
  mh Tryz.prog ops anc ⟨ap d,.call ⟨.value (.func f),⟨args⟩,ts⟩,ty,pos,after,bi⟩ [] i fps (bj N E ds) H Q:=by
 have b:=aI H p.au;obtain⟨_,q,s,rfl,p1,st⟩:=o (H.restrict p.au) (g.of (by rw[b.1]; exact zA5 _) fun m c=>by rw[bf,if_pos c]) (by rw[b.1,b.2.1]; exact zA5 _);refine jH (W:=p.au) p.au ok j k g.ne g.lt (fun _ h=>h) (v:=v) (g:=q) (by rw[a]; exact s) st.mod c ?_;intro H1 D u w A hx _;rw[zc,cW N E ds d v l];exact h H1 p1 (Step.merge g st u w A hx)
end
section
variable{H H1:aa}{p:Rp}{x:Tm}
def b7.uN(g:b7 H p x){k:Nat}{q:Nat × Bool}(f:p.rs[k]?=ap q):q.1∈p.au/\q.1≠p.t/\q.1≠p.rb:=by
 have c:q.1∈p.rs.map (·.1):=zB6.2 ⟨q,zC0 f,rfl⟩;have a:=zB8.1 g.nd;have b:=zB8.1 a.2;refine⟨by simp only[Rp.au,zA9,zB4]; exact .inr (.inr (.inl (.inl c))),?_,?_⟩
 .intro e;exact a.1 (e▸(by simp only[zA9,zB4]; exact .inr (.inl (.inl c))))
 .intro e;exact b.1 (e▸(by simp only[zB4]; exact .inl (.inl c)))
def b7.putRow(g:b7 H p x){k:Nat}{q:Nat × Bool}{l l':List Ce}(u:p.rs[k]?=ap q)(A:x.grid[k]?=ap l)(m:Mod [q.1] H H1)(h:bk H1 q.1=ap ⟨77,q.2,aQ l'⟩)(B:l'.length=l.length):Step H p H1 p {x with grid:=x.grid.set k l'}:=by
 obtain⟨V,W,X⟩:=g.uN u;have c:∀ n,n<H.next->n≠q.1->H1.get n=H.get n:=fun n j dK=>m.get n j (by simp only[zA6]; exact dK)
 have I:k<x.grid.length:=by
  rcases zC2 k x.grid.length with h'|h'
  .exact h'
  .rw[zC5 h']at A; cases A
 have Y:Tm.w {x with grid:=x.grid.set k l'}=x.w:=by
  simp only[Tm.w]
  cases O:x.grid with
  |nil=>rw[O]at I; simp at I
  |cons a r =>
   cases k with
   |zero =>rw[O]at A;simp only[zF3,i5]at A;subst A;simp[B]
   |succ k=>simp
 have R:Tm.h {x with grid:=x.grid.set k l'}=x.h:=by simp[Tm.h]
 have C:=g.nd;simp only[Rp.au]at C;have o:∀ n∈p.au,n<H.next:=g.lt;have f:(p.rs.map (·.1)++ae p.rv++ae p.pv).Nodup:=(zB8.1 (zB8.1 C).2).2;have D:q.1∈p.rs.map (·.1):=zB6.2 ⟨q,zC0 u,rfl⟩;have J:∀ n∈ae p.rv,n≠q.1:=by intro n j e;rw[zC9]at f;exact (zD5.1 f).2.2 q.1 D n (by simp[j]) e.symm
 have K:∀ n∈ae p.pv,n≠q.1:=by intro n j e;rw[zC9]at f;exact (zD5.1 f).2.2 q.1 D n (by simp[j]) e.symm
 refine⟨⟨?_,?_,?_,?_,?_,?_,g.nd,fun n j=>m.lt (g.lt n j)⟩,m.mono (by intro n j; simp only[zA6]at j; subst j; exact V),rfl,fun _ h=>.inl h⟩
 .rw[aO (c _ (o _ nl) W.symm),g.cell];simp only[aW,R]
 .rw[aO (c _ (o _ nl) X.symm),g.rows,Y]
 .rw[g.len,R]
 .intro i L Z b s;simp only[zF4]at s;by_cases v:k=i
  .subst v;rw[u]at b;cases b;rw[if_pos rfl,if_pos I]at s;cases s;exact h
  .rw[if_neg v]at s
   have dK:L.1≠q.1:=by
    intro e;have F:(p.rs.map (·.1)).Nodup:=(zD5.1 (zD5.1 f).1).1
    have hi:i<p.rs.length:=by
     rcases zC2 i p.rs.length with h'|h'
     .exact h'
     .rw[zC5 h']at b; cases b
    have t:k<p.rs.length:=by
     rcases zC2 k p.rs.length with h'|h'
     .exact h'
     .rw[zC5 h']at u; cases u
    have S:(p.rs.map (·.1))[i]'(by simpa using hi)=L.1:=by rw[zB3 hi]at b;simp only[i5]at b;simp[b]
    have T:(p.rs.map (·.1))[k]'(by simpa using t)=q.1:=by rw[zB3 t]at u;simp only[i5]at u;simp[u]
    have U:=List.pairwise_iff_getElem.1 F;rcases Nat.lt_trichotomy i k with h'|h'|h'
    .exact U i k (by simpa using hi) (by simpa using t) h' (S.trans (e.trans T.symm))
    .exact v h'.symm
    .exact U k i (by simpa using t) (by simpa using hi) h' (T.trans (e.symm.trans S.symm))
   have M:=(g.uN b).1;rw[aO (c _ (o _ M) dK)];exact g.row i L Z b s
 .exact g.rest.of fun n j=>c n (o n (by simp[Rp.au,j])) (J n j)
 .exact g.par.of fun n j=>c n (o n (by simp[Rp.au,j])) (K n j)
end
structure kI (H:aa) (v:gt) (l:List Int):Prop where
 at_:dY H v l
 ne:l≠[]
 rg:∀ n∈l,0<=n/\n<=9999
 len:l.length<=100
 lt:∀ n∈ae v,n<H.next
def kI.dK{H:aa}{v:gt}{l:List Int}(h:kI H v l):∀ n∈ae v,H.get n≠none:=h.at_.ne h.ne
def kI.head{H:aa}{v:gt}{l:List Int}(h:kI H v l):0<=l.headD 0/\l.headD 0<=9999:=by
 cases l with
 |nil=>exact absurd rfl h.ne
 |cons a r=>exact h.rg a lw
def kI.count{H:aa}{v:gt}{l:List Int}(h:kI H v l):1<=count l/\count l<=9999:=by have:=h.head;simp only[YtpohjcacnkhnkaaGreatDoor.Tq.count];omega
def kI.snd{H:aa}{v:gt}{l:List Int}(h:kI H v l):0<=snd l/\snd l<=9999:=by
 simp only[YtpohjcacnkhnkaaGreatDoor.Tq.snd];by_cases a:1<l.length
 .have:=h.rg l[1] (List.getElem_mem _);simp only[List.getD,zB3 a,Option.getD_some];exact this
 .simp[List.getD,zC5 (show l.length<=1 by omega)]
def eT{x:Tm}(s:x.Sz):0<=x.inside/\x.inside<x.w:=by have a:=s.w1;have b:=s.c1;rw[pF];omega
def Se(H:aa)(p:Rp)(x:Tm)(v:gt)(l:List Int)(g:b7 H p x)(s:x.Sz)(ok:H.base<=H.next)(a:kI H v l):gp 138 [v] H p (.tuple #[]) (x.bp (x.row-count l) (x.col)):=by
 obtain⟨b,c⟩:=ac H.next;have h:p.t<b:=c▸g.lt p.t nl;have e:=g.cell;simp only[aW]at e;have o:=s.h2;have q:=s.r1;have r:=s.r2;have u:=a.count;have k:IntKind.i64.wrap (x.row-count l)=x.row-count l:=ak li li;refine aH mixed Tryz.func138 rfl Tryz.ntmps138 (zA8 rfl) ?_;simp only[fq,seval];refine aK [(14,5),(14,7),(14,13)] [] ls ls rfl fun ops anc j w=>?_;simp only[aj]at j;simp only[c,h,e,bh,zW,seval];refine aN (v:=i7 i8 (count l)) (ae v) (by simp only[aE,seval]) ls mt a.dK (fun K A m=>?_) (by simp (maxDischargeDepth:=6) only[bh]) ?_
 .simp only[aE];exact jx K v l (a.at_.of m) a.ne
 simp only[c,h,e,k,bh,zW,seval];refine ei (as':=[i7 i8 (x.row-count l),i7 i8 (x.col)]) g ok rfl ls mt rfl (by simp only[aj,bu,j,true_or,and_true]) (fun G n f=>jI G p x _ _ n s f) fun H1 p1 st=>?_;rw[show H1=ext H1 [] from rfl];simp only[Tryz.results138,bh,fX];exact⟨p1,st⟩
def Qq(H:aa)(p:Rp)(x:Tm)(v:gt)(l:List Int)(g:b7 H p x)(s:x.Sz)(ok:H.base<=H.next)(a:kI H v l):gp 139 [v] H p (.tuple #[]) (x.bp (x.row+count l) (x.col)):=by
 obtain⟨b,c⟩:=ac H.next;have h:p.t<b:=c▸g.lt p.t nl;have e:=g.cell;simp only[aW]at e;have o:=s.h2;have q:=s.r1;have r:=s.r2;have u:=a.count;have k:IntKind.i64.wrap (x.row+count l)=x.row+count l:=ak li li;refine aH mixed Tryz.func139 rfl Tryz.ntmps139 (zA8 rfl) ?_;simp only[fq,seval];refine aK [(14,5),(14,7),(14,13)] [] ls ls rfl fun ops anc j w=>?_;simp only[aj]at j;simp only[c,h,e,bh,zW,seval];refine aN (v:=i7 i8 (count l)) (ae v) (by simp only[aE,seval]) ls mt a.dK (fun K A m=>?_) (by simp (maxDischargeDepth:=6) only[bh]) ?_
 .simp only[aE];exact jx K v l (a.at_.of m) a.ne
 simp only[c,h,e,k,bh,zW,seval];refine ei (as':=[i7 i8 (x.row+count l),i7 i8 (x.col)]) g ok rfl ls mt rfl (by simp only[aj,bu,j,true_or,and_true]) (fun G n f=>jI G p x _ _ n s f) fun H1 p1 st=>?_;rw[show H1=ext H1 [] from rfl];simp only[Tryz.results139,bh,fX];exact⟨p1,st⟩
def OZ(H:aa)(p:Rp)(x:Tm)(v:gt)(l:List Int)(g:b7 H p x)(s:x.Sz)(ok:H.base<=H.next)(a:kI H v l):gp 140 [v] H p (.tuple #[]) (x.bp (x.row) (x.inside+count l)):=by
 obtain⟨b,c⟩:=ac H.next;have m:p.t<b:=c▸g.lt p.t nl;have h:=g.cell;simp only[aW]at h;have s2:=s.w2;have q:=eT s;have r:=a.count;have n:IntKind.i64.wrap (x.inside+count l)=x.inside+count l:=ak li li;refine aH mixed Tryz.func140 rfl Tryz.ntmps140 (zA8 rfl) ?_;simp only[fq,seval];refine aK [(11,5),(11,7),(11,9)] [] ls ls rfl fun ops anc j u=>?_;simp only[aj]at j;simp only[c,m,h,bh,zW,seval];refine aN (v:=i7 i8 x.inside) p.au (by simp only[aE,seval]) ls mt g.ne (fun K k e=>?_) (by simp (maxDischargeDepth:=6) only[bh]) ?_
 .simp only[aE];exact oH K p x (g.of (by rw[k]; exact zA5 _) e) s
 simp only[c,bh,zW,seval];refine aN (v:=i7 i8 (count l)) (ae v) (by simp only[aE,seval]) ls mt a.dK (fun K k e=>?_) (by simp (maxDischargeDepth:=6) only[bh]) ?_
 .simp only[aE];exact jx K v l (a.at_.of e) a.ne
 simp only[c,n,bh,zW,seval];refine ei (as':=[i7 i8 (x.row),i7 i8 (x.inside+count l)]) g ok rfl ls mt rfl (by simp only[aj,bu,j,true_or,and_true]) (fun G o f=>jI G p x _ _ o s f) fun H1 p1 st=>?_;rw[show H1=ext H1 [] from rfl];simp only[Tryz.results140,bh,fX];exact⟨p1,st⟩
def Qr(H:aa)(p:Rp)(x:Tm)(v:gt)(l:List Int)(g:b7 H p x)(s:x.Sz)(ok:H.base<=H.next)(a:kI H v l):gp 141 [v] H p (.tuple #[]) (x.bp (x.row) (x.inside-count l)):=by
 obtain⟨b,c⟩:=ac H.next;have m:p.t<b:=c▸g.lt p.t nl;have h:=g.cell;simp only[aW]at h;have s2:=s.w2;have q:=eT s;have r:=a.count;have n:IntKind.i64.wrap (x.inside-count l)=x.inside-count l:=ak li li;refine aH mixed Tryz.func141 rfl Tryz.ntmps141 (zA8 rfl) ?_;simp only[fq,seval];refine aK [(11,5),(11,7),(11,9)] [] ls ls rfl fun ops anc j u=>?_;simp only[aj]at j;simp only[c,m,h,bh,zW,seval];refine aN (v:=i7 i8 x.inside) p.au (by simp only[aE,seval]) ls mt g.ne (fun K k e=>?_) (by simp (maxDischargeDepth:=6) only[bh]) ?_
 .simp only[aE];exact oH K p x (g.of (by rw[k]; exact zA5 _) e) s
 simp only[c,bh,zW,seval];refine aN (v:=i7 i8 (count l)) (ae v) (by simp only[aE,seval]) ls mt a.dK (fun K k e=>?_) (by simp (maxDischargeDepth:=6) only[bh]) ?_
 .simp only[aE];exact jx K v l (a.at_.of e) a.ne
 simp only[c,n,bh,zW,seval];refine ei (as':=[i7 i8 (x.row),i7 i8 (x.inside-count l)]) g ok rfl ls mt rfl (by simp only[aj,bu,j,true_or,and_true]) (fun G o f=>jI G p x _ _ o s f) fun H1 p1 st=>?_;rw[show H1=ext H1 [] from rfl];simp only[Tryz.results141,bh,fX];exact⟨p1,st⟩
def N4(H:aa)(p:Rp)(x:Tm)(v:gt)(l:List Int)(g:b7 H p x)(s:x.Sz)(ok:H.base<=H.next)(a:kI H v l):gp 142 [v] H p (.tuple #[]) (x.bp (x.row) (count l-1)):=by
 obtain⟨b,c⟩:=ac H.next;have j:p.t<b:=c▸g.lt p.t nl;have f:=g.cell;simp only[aW]at f;have o:=a.count;have k:IntKind.i64.wrap (count l-1)=count l-1:=ak li li;refine aH mixed Tryz.func142 rfl Tryz.ntmps142 (zA8 rfl) ?_;simp only[fq,seval];refine aK [(9,5),(9,7)] [] ls ls rfl fun ops anc h q=>?_;simp only[aj]at h;simp only[c,j,f,bh,zW,seval];refine aN (v:=i7 i8 (count l)) (ae v) (by simp only[aE,seval]) ls mt a.dK (fun K r m=>?_) (by simp (maxDischargeDepth:=6) only[bh]) ?_
 .simp only[aE];exact jx K v l (a.at_.of m) a.ne
 simp only[c,k,bh,zW,seval];refine ei (as':=[i7 i8 (x.row),i7 i8 (count l-1)]) g ok rfl ls mt rfl (by simp only[aj,bu,h,true_or,and_true]) (fun G n e=>jI G p x _ _ n s e) fun H1 p1 st=>?_;rw[show H1=ext H1 [] from rfl];simp only[Tryz.results142,bh,fX];exact⟨p1,st⟩
def NU(H:aa)(p:Rp)(x:Tm)(v:gt)(l:List Int)(g:b7 H p x)(s:x.Sz)(ok:H.base<=H.next)(a:kI H v l):gp 143 [v] H p (.tuple #[]) (x.bp (count l-1) (x.col)):=by
 obtain⟨b,e⟩:=ac H.next;have j:p.t<b:=e▸g.lt p.t nl;have f:=g.cell;simp only[aW]at f;have o:=a.count;have k:IntKind.i64.wrap (count l-1)=count l-1:=ak li li;refine aH mixed Tryz.func143 rfl Tryz.ntmps143 (zA8 rfl) ?_;simp only[fq,seval];refine aK [(9,2),(9,8)] [] ls ls rfl fun ops anc h q=>?_;simp only[aj]at h;simp only[bh,aE,seval];refine aN (v:=i7 i8 (count l)) (ae v) (by simp only[aE,seval]) ls mt a.dK (fun K r m=>?_) (by simp (maxDischargeDepth:=6) only[bh]) ?_
 .simp only[aE];exact jx K v l (a.at_.of m) a.ne
 simp only[e,j,f,k,bh,zW,seval];refine ei (as':=[i7 i8 (count l-1),i7 i8 (x.col)]) g ok rfl ls mt rfl (by simp only[aj,bu,h,true_or,and_true]) (fun G n c=>jI G p x _ _ n s c) fun H1 p1 st=>?_;rw[show H1=ext H1 [] from rfl];simp only[Tryz.results143,bh,fX];exact⟨p1,st⟩
def Dn(H:aa)(p:Rp)(x:Tm)(v:gt)(l:List Int)(g:b7 H p x)(s:x.Sz)(ok:H.base<=H.next)(a:kI H v l):gp 144 [v] H p (.tuple #[]) (x.bp (count l-1) (max 1 (snd l)-1)):=by have e:=a.count;have f:=a.snd;have c:IntKind.i64.wrap (count l-1)=count l-1:=ak li li;have b:IntKind.i64.wrap (max 1 (snd l)-1)=max 1 (snd l)-1:=ak li li;refine aH mixed Tryz.func144 rfl Tryz.ntmps144 (zA8 rfl) ?_;simp only[zW,seval];refine (jx (ext H []) v l a.at_ a.ne).to ?_;simp only[c,zW,seval];refine (C5 (ext H []) v l a.at_).to ?_;simp only[b,zW,seval];refine (jI (ext H []) p x _ _ g s ok).mono ?_;rintro _ H1 ⟨rfl,p1,st⟩;rw[show H1=ext H1 [] from rfl];simp only[Tryz.results144,fX,seval];exact⟨trivial,p1,st⟩
def jL(l:List Ce)(a i:Nat):List Ce:=l.take a++List.replicate (i-a) sp++l.drop i
def Aj(l:List Ce)(a i:Nat)(h:a<=i)(b:i<=l.length):(jL l a i).length=l.length:=by simp only[jL,zB2,zF1,zG2,zC1]; omega
def uf(l:List Ce)(a:Nat):jL l a a=l:=by simp[jL]
def Kn(l:List Ce)(a i:Nat)(h:a<=i)(b:i<l.length):(jL l a i).set i sp=jL l a (i+1):=by
 have c:(l.take a++List.replicate (i-a) sp).length=i:=by simp; omega
 rw[jL,List.set_append_right _ _ li,c,zG0,List.drop_eq_getElem_cons b,List.set_cons_zero,jL,show i+1-a=i-a+1 by omega,List.replicate_succ'];simp
def iQ(l:List Ce)(a b:Nat):List Ce:=if a<b/\(l.getD a sp).rune=-1 then l.set (a-1) sp else l
def iX(l:List Ce)(a b:Nat):List Ce:=if a<b/\b<l.length/\(l.getD b sp).rune=-1 then l.set b sp else l
def jj(l:List Ce)(a b:Nat):(iQ l a b).length=l.length:=by unfold iQ; split<;>simp
def l5(l:List Ce)(a b:Nat):(iX l a b).length=l.length:=by unfold iX; split<;>simp
def mw(l:List Ce)(a b:Nat)(h:a<=b):ic l a b=jL (iX (iQ l a b) a b) a b:=by simp only[ic,jL,iQ,iX];rw[Nat.max_eq_right h];rfl
def kt(l:List Ce)(a b:Nat)(h:a<=b)(c:b<=l.length):(ic l a b).length=l.length:=by rw[mw l a b h,Aj _ _ _ h (by rw[l5,jj]; exact c),l5,jj]
def oX{c:Ce}{N k:Nat}{e:ii}{o:Bool}{l:List Ce}(h:k<l.length):sQ Tryz.prog 77 N (k*6) c.val (ap ⟨e,o,aQ l⟩)=ap ⟨e,o,aQ (l.set k c)⟩:=by have a:c.val.cells.toList=c.cells:=rfl;rw[nA (by rw[a]; exact QL) (by rw[a,bP]; simp only[Ce.cells,zA3,zB0]; omega) (by rw[a]; rfl) (by rw[a]; rfl),a,Ep l k c h]
def tw{N k:Nat}{e:ii}{o:Bool}{l:List Ce}(h:k<l.length):sQ Tryz.prog 77 N (k*6) (.agg ⟨[i7 i8 32,i7 i8 0,i7 i8 0,kw gc,kw gc,kw gc]⟩) (ap ⟨e,o,aQ l⟩)=ap ⟨e,o,aQ (l.set k sp)⟩:=oX (c:=sp) h
def lC{X:aa}{n k:Nat}{e:ii}{o:Bool}{l:List Ce}{c:Ce}(a:bk X n=ap ⟨e,o,aQ l⟩)(h:k<l.length):bk (ext (uw X n (k*6) c.cells) []) n=ap ⟨e,o,aQ (l.set k c)⟩:=by rw[ext_nil,bR,a,zB1,r6,Ep l k c h]
theorem ky(x:Tm)(k a b:Nat):x.blank k a b={x with grid:=x.grid.set k (ic (x.grid.getD k []) a b)}:=rfl
def OK(H:aa)(p:Rp)(x:Tm)(k a b:Nat)(l:List Ce)(g:b7 H p x)(s:x.Sz)(ok:H.base<=H.next)(Y:x.grid[k]?=ap l)(U:a<=b)(hbw:b<=x.w)(hr:a<b->(l.getD a sp).rune=-1->0<a) :
  gp 137 [i7 i8 (k:Int),i7 i8 (a:Int),i7 i8 (b:Int)] H p (.tuple #[]) (x.blank k a b):=by
 obtain⟨n,V⟩:=ac H.next;have hT:p.t<n:=V▸g.lt p.t nl;have hR:p.rb<n:=V▸g.lt p.rb nl;have h1:=g.cell;simp only[aW]at h1;have h2:=g.rows;obtain⟨q,hq,hqm,hqb⟩:=g.rowOf Y;have hQ:q.1<n:=V▸g.lt q.1 hqm;have hlw:l.length=x.w:=s.ws l (zC0 Y);have s1:=s.h2;have s2:=s.w2
 have hk:k<x.h:=by
  rcases zC2 k x.grid.length with h'|h'
  .exact h'
  .rw[zC5 h']at Y; cases Y
 have hqr:(p.rs.map (aM x.w))[k]?=ap (aM x.w q):=by rw[zE1,hq]; rfl
 have hi:=eP (len:=x.h) (cap:=x.h) (n:=p.rb) (s:=bi) (i:=(k:Int)) (k:=k) rfl hk
 obtain⟨d1,v⟩:∃ d,ge ((a:Int)<(b:Int))=d:=⟨_,rfl⟩
 have e1:a<b ↔ d1=true:=by rw[<-v,decide_eq_true_iff]; omega
 refine aH mixed Tryz.func137 rfl Tryz.ntmps137 (zA8 rfl) ?_;refine fW (fun e L=>Mod [q.1] H L/\bk L q.1=ap ⟨77,q.2,aQ l⟩/\e 0=i9 (ap ⟨p.t,0,bi⟩)/\e 1=i7 i8 (k:Int)/\e 2=i7 i8 (a:Int)/\e 3=i7 i8 (b:Int)/\e 8=aM x.w q) ?_ ?_
 .simp only[V,hT,hR,h1,h2,hi,hqr,aM,zW,seval];refine ah ⟨Mod.refl,hqb,?_,?_,?_,?_,?_⟩<;>simp only[aE,seval]
 rintro E X ⟨r,f,J,K,j,o,u⟩;refine fW (fun e L=>Mod [q.1] H L/\bk L q.1=ap ⟨77,q.2,aQ (iQ l a b)⟩/\e 0=i9 (ap ⟨p.t,0,bi⟩)/\e 1=i7 i8 (k:Int)/\e 2=i7 i8 (a:Int)/\e 3=i7 i8 (b:Int)/\e 8=aM x.w q) ?_ ?_
 .obtain⟨m,R⟩:=ac X.next;have A:q.1<m:=R▸r.lt (V▸hQ);rw[show X=ext X [] from rfl]
  cases d1 with
  |false =>
   have F:iQ l a b=l:=by unfold iQ; rw[if_neg (fun h=>by have:=e1.1 h.1; simp at this)]
   simp only[j,o,v,aM,zW,seval];refine ah ⟨r,by rw[F]; exact f,?_,?_,?_,?_,?_⟩<;>simp only[J,K,j,o,u,aM,aE,seval]
  |true =>
   have S:a<b:=e1.2 rfl;have hal:a<l.length:=by omega
   obtain⟨c,hc⟩:∃ c,l[a]?=ap c:=⟨_,zB3 hal⟩
   have I:l.getD a sp=c:=by rw[List.getD,hc]; rfl
   have B:=jP (len:=x.w) (cap:=x.w) (n:=q.1) (s:=if q.2=bv then bi else ap 0) (i:=(a:Int)) (k:=a) rfl li;have M:=pQ hc
   obtain⟨d2,C⟩:∃ d,ge (c.rune=-1)=d:=⟨_,rfl⟩
   have Z:c.rune=-1 ↔ d2=true:=by rw[<-C,decide_eq_true_iff]
   cases d2 with
   |false =>
    have F:iQ l a b=l:=by unfold iQ; rw[if_neg (fun h=>by have:=Z.1 (I▸h.2); simp at this)]
    simp only[j,o,u,v,C,R,A,f,B,M,aM,zW,seval];refine ah ⟨r,by rw[F]; exact f,?_,?_,?_,?_,?_⟩<;>simp only[J,K,j,o,u,aM,aE,seval]
   |true =>
    have hpos:0<a:=hr S (by rw[I]; exact Z.2 rfl);have F:iQ l a b=l.set (a-1) sp:=by unfold iQ; rw[if_pos ⟨S,by rw[I]; exact Z.2 rfl⟩]
    have hw1:IntKind.i64.wrap ((a:Int)-1)=(a:Int)-1:=ak li li;have hia2:=jP (len:=x.w) (cap:=x.w) (n:=q.1) (s:=if q.2=bv then bi else ap 0) (i:=(a:Int)-1) (k:=a-1) li li;have O:∀ N,sQ Tryz.prog 77 N ((a-1)*6) (.agg ⟨[i7 i8 32,i7 i8 0,i7 i8 0,kw gc,kw gc,kw gc]⟩) (ap ⟨77,q.2,aQ l⟩)=ap ⟨77,q.2,aQ (l.set (a-1) sp)⟩:=fun N=>tw li;simp only[j,o,u,v,C,R,A,f,B,hia2,M,hw1,O,aM,zW,seval];refine ah ⟨r.trans (Mod.uw lw),by rw[F]; exact lC (c:=sp) f li,?_,?_,?_,?_,?_⟩<;>simp only[J,K,j,o,u,aM,aE,seval]
 generalize hl2:iQ l a b=D;have hl2w:D.length=x.w:=by rw[<-hl2,jj,hlw]
 clear f r J K j o u X E;rintro E X ⟨r,f,J,K,j,o,u⟩;refine fW (fun e L=>Mod [q.1] H L/\bk L q.1=ap ⟨77,q.2,aQ (iX D a b)⟩/\e 0=i9 (ap ⟨p.t,0,bi⟩)/\e 1=i7 i8 (k:Int)/\e 2=i7 i8 (a:Int)/\e 3=i7 i8 (b:Int)/\e 8=aM x.w q) ?_ ?_
 .obtain⟨m,R⟩:=ac X.next;have A:q.1<m:=R▸r.lt (V▸hQ);rw[show X=ext X [] from rfl]
  cases d1 with
  |false =>
   have F:iX D a b=D:=by unfold iX; rw[if_neg (fun h=>by have:=e1.1 h.1; simp at this)]
   simp only[j,o,v,aM,zW,seval];refine ah ⟨r,by rw[F]; exact f,?_,?_,?_,?_,?_⟩<;>simp only[J,K,j,o,u,aM,aE,seval]
  |true =>
   have S:a<b:=e1.2 rfl;by_cases hbl:b<x.w
   .obtain⟨c,hc⟩:∃ c,D[b]?=ap c:=⟨_,zB3 li⟩
    have I:D.getD b sp=c:=by rw[List.getD,hc]; rfl
    have T:ge ((b:Int)<(x.w:Int))=true:=decide_eq_true li;have B:=jP (len:=x.w) (cap:=x.w) (n:=q.1) (s:=if q.2=bv then bi else ap 0) (i:=(b:Int)) (k:=b) rfl li;have M:=pQ hc
    obtain⟨d2,C⟩:∃ d,ge (c.rune=-1)=d:=⟨_,rfl⟩
    have Z:c.rune=-1 ↔ d2=true:=by rw[<-C,decide_eq_true_iff]
    cases d2 with
    |false =>
     have F:iX D a b=D:=by unfold iX; rw[if_neg (fun h=>by have:=Z.1 (I▸h.2.2); simp at this)]
     simp only[j,o,u,v,C,T,R,A,f,B,M,aM,zW,seval];refine ah ⟨r,by rw[F]; exact f,?_,?_,?_,?_,?_⟩<;>simp only[J,K,j,o,u,aM,aE,seval]
    |true =>
     have F:iX D a b=D.set b sp:=by unfold iX; rw[if_pos ⟨S,by omega,by rw[I]; exact Z.2 rfl⟩]
     have O:∀ N,sQ Tryz.prog 77 N (b*6) (.agg ⟨[i7 i8 32,i7 i8 0,i7 i8 0,kw gc,kw gc,kw gc]⟩) (ap ⟨77,q.2,aQ D⟩)=ap ⟨77,q.2,aQ (D.set b sp)⟩:=fun N=>tw li;simp only[j,o,u,v,C,T,R,A,f,B,M,O,aM,zW,seval];refine ah ⟨r.trans (Mod.uw lw),by rw[F]; exact lC (c:=sp) f li,?_,?_,?_,?_,?_⟩<;>simp only[J,K,j,o,u,aM,aE,seval]
   .have F:iX D a b=D:=by unfold iX; rw[if_neg (fun h=>by have:=h.2.1; omega)]
    have T:ge ((b:Int)<(x.w:Int))=false:=decide_eq_false li;simp only[j,o,u,v,T,aM,zW,seval];refine ah ⟨r,by rw[F]; exact f,?_,?_,?_,?_,?_⟩<;>simp only[J,K,j,o,u,aM,aE,seval]
 generalize hl3:iX D a b=W;have hl3w:W.length=x.w:=by rw[<-hl3,l5,hl2w]
 clear f r J K j o u X E;rintro E X ⟨r,f,J,K,j,o,u⟩;simp only[j,zW,seval];refine c7 fun E hE=>?_;have f2:E 2=i7 i8 (a:Int):=by rw[hE]; simp only[j,aE,seval]
 have f3:E 3=i7 i8 (b:Int):=by rw[hE]; simp only[o,aE,seval]
 have f8:E 8=aM x.w q:=by rw[hE]; simp only[u,aE,seval]
 have f9:E 9=i7 i8 (a:Int):=by rw[hE]; rfl
 clear hE J K j o u
 refine b8 (fun (i:Nat) e L=>Mod [q.1] H L/\a<=i/\i<=b/\bk L q.1=ap ⟨77,q.2,aQ (jL W a i)⟩/\e 2=i7 i8 (a:Int)/\e 3=i7 i8 (b:Int)/\e 8=aM x.w q/\e 9=i7 i8 (i:Int)) (fun i=>b-i) a
  ⟨r,zA5 _,U,by rw[uf]; exact f,f2,f3,f8,f9⟩ ?_
 clear f r f2 f3 f8 f9 X E;rintro i E X ⟨r,i1,i2,f,f2,f3,f8,f9⟩;obtain⟨m,R⟩:=ac X.next;have A:q.1<m:=R▸r.lt (V▸hQ);rw[show X=ext X [] from rfl];by_cases hib:i=b
 .have hd:ge ((i:Int)<(b:Int))=false:=decide_eq_false li;simp only[f3,f9,hd,Tryz.results137,zW,seval];refine⟨trivial,p,?_⟩;have:=g.putRow (H1:=ext X []) hq Y r (l':=ic l a b) (by rw[mw l a b U,hl2,hl3,<-hib]; exact f) (kt l a b U li);rw[ky,List.getD,Y];exact this
 .have hd:ge ((i:Int)<(b:Int))=true:=decide_eq_true li;have hil:i<W.length:=by omega
  have hfl:=Aj W a i i1 li;have B:=jP (len:=x.w) (cap:=x.w) (n:=q.1) (s:=if q.2=bv then bi else ap 0) (i:=(i:Int)) (k:=i) rfl li;have O:∀ N,sQ Tryz.prog 77 N (i*6) (.agg ⟨[i7 i8 32,i7 i8 0,i7 i8 0,kw gc,kw gc,kw gc]⟩) (ap ⟨77,q.2,aQ (jL W a i)⟩)=ap ⟨77,q.2,aQ ((jL W a i).set i sp)⟩:=fun N=>tw li;simp only[f3,f8,f9,hd,R,A,f,B,O,bA (show i<1000000 by omega),aM,zW,seval];refine aC ⟨i+1,by omega,r.trans (Mod.uw lw),by omega,by omega,by rw[<-Kn W a i i1 hil]; exact lC (c:=sp) f li,?_,?_,?_,?_⟩<;>simp only[f2,f3,f8,aM,aE,seval]
def FJ(l:List Ce)(k:Nat)(c:Ce)(hc:c.rune≠-1\/k≠0)(h:(l.getD 0 sp).rune≠-1):((l.set k c).getD 0 sp).rune≠-1:=by
 cases l with
 |nil=>simpa using h
 |cons a r =>
  cases k with
  |zero =>
   rcases hc with hc|hc
   .simpa using hc
   .exact absurd rfl hc
  |succ k=>simpa using h
def ru:sp.rune≠-1:=by decide
def Lu(l:List Ce)(a b:Nat)(h:(l.getD 0 sp).rune≠-1):((iQ l a b).getD 0 sp).rune≠-1:=by
 unfold iQ;split
 .exact FJ l _ _ (.inl ru) h
 .exact h
def Ml(l:List Ce)(a b:Nat)(h:(l.getD 0 sp).rune≠-1):((iX l a b).getD 0 sp).rune≠-1:=by
 unfold iX;split
 .exact FJ l _ _ (.inl ru) h
 .exact h
def Lq(l:List Ce)(a b:Nat)(f:a<=b)(e:b<=l.length)(h:(l.getD 0 sp).rune≠-1):((jL l a b).getD 0 sp).rune≠-1:=by
 unfold jL
 cases a with
 |zero =>
  cases b with
  |zero=>simpa using h
  |succ b=>simp[List.replicate_succ,ru]
 |succ a =>
  cases l with
  |nil=>simp at e; omega
  |cons c r=>simpa using h
def Av(l:List Ce)(a b:Nat)(c:a<=b)(e:b<=l.length)(h:(l.getD 0 sp).rune≠-1):((ic l a b).getD 0 sp).rune≠-1:=by rw[mw l a b c];exact Lq _ a b c (by rw[l5,jj]; exact e) (Ml _ a b (Lu _ a b h))
def Tm.setRow(x:Tm)(k:Nat)(l:List Ce):Tm:={x with grid:=x.grid.set k l}
def zf(x:Tm)(k:Nat)(l:List Ce):(x.setRow k l).h=x.h:=by simp[Tm.setRow,Tm.h]
def rN{x:Tm}(s:x.Sz)(k:Nat)(l:List Ce)(h:l.length=x.w):(x.setRow k l).w=x.w:=by
 have b:=s.h1
 simp only[Tm.setRow,Tm.w,Tm.h]at *
 cases c:x.grid with
 |nil=>rw[c]at b; simp at b
 |cons a r =>
  rw[c]at h
  cases k with
  |zero=>simpa using h
  |succ k=>simp
def Tm.Sz.setRow{x:Tm}(s:x.Sz){k:Nat}{l:List Ce}(h:l.length=x.w)(f:(l.getD 0 sp).rune≠-1):(x.setRow k l).Sz:=by
 have a:=zf x k l;have b:=rN s k l h;have e:∀ r∈(x.setRow k l).grid,r=l\/r∈x.grid:=fun r c=>by have:=List.mem_or_eq_of_mem_set c;exact this.symm
 exact⟨by rw[a]; exact s.h1,by rw[a]; exact s.h2,by rw[b]; exact s.w1,by rw[b]; exact s.w2,fun r c=>by
   rw[b];rcases e r c with rfl|h'
   .exact h
   .exact s.ws r h',s.r1,by rw[a]; exact s.r2,s.c1,by rw[b]; exact s.c2,s.sr1,by rw[a]; exact s.sr2,s.sc1,by rw[b]; exact s.sc2,s.t1,s.t2,by rw[a]; exact s.t3,s.md,fun r c=>by
   rcases e r c with rfl|h'
   .exact f
   .exact s.hd r h'⟩
def Tm.Sz.rowAt{x:Tm}(s:x.Sz){k:Nat}(b:k<x.h):∃ l,x.grid[k]?=ap l/\x.grid.getD k []=l/\l.length=x.w/\(l.getD 0 sp).rune≠-1:=by have a:k<x.grid.length:=b;refine⟨x.grid[k],zB3 a,by simp[List.getD,zB3 a],s.ws _ (List.getElem_mem _),s.hd _ (List.getElem_mem _)⟩
def Tm.Sz.blank{x:Tm}(s:x.Sz){k a b:Nat}(f:k<x.h)(c:a<=b)(m:b<=x.w):(x.blank k a b).Sz:=by obtain⟨l,_,e,g,j⟩:=s.rowAt f;rw[ky,e];exact s.setRow (by rw[kt l a b c li,g]) (Av l a b c li j)
def ft{x:Tm}(s:x.Sz){k a b:Nat}(c:k<x.h)(f:a<=b)(j:b<=x.w):(x.blank k a b).h=x.h/\(x.blank k a b).w=x.w:=by obtain⟨l,_,e,g,m⟩:=s.rowAt c;rw[ky,e];exact⟨zf x k _,rN s k _ (by rw[kt l a b f li,g])⟩
def Tm.Sz.move{x:Tm}(s:x.Sz)(r c:Int)(a:0<=r)(b:r<x.h)(e:0<=c)(f:c<=x.w):Tm.Sz {x with row:=r,col:=c} :=
 ⟨s.h1,s.h2,s.w1,s.w2,s.ws,a,b,e,f,s.sr1,s.sr2,s.sc1,s.sc2,s.t1,s.t2,s.t3,s.md,s.hd⟩
def Tm.Sz.bp{x:Tm}(s:x.Sz)(r c:Int):(x.bp r c).Sz:=by have a:=s.h1;have w1:=s.w1;refine s.move _ _ ?_ ?_ ?_ ?_<;>simp only[Tm.eQ,Tm.width,Tm.h,Tm.w]at*<;> omega
def rT{H:aa}{p:Rp}{x:Tm}{k a b:Nat}(g:b7 H p x)(s:x.Sz)(ok:H.base<=H.next)(f:k<x.h)(c:a<=b)(e:b<=x.w):gp 137 [i7 i8 (k:Int),i7 i8 (a:Int),i7 i8 (b:Int)] H p (.tuple #[]) (x.blank k a b):=by
 obtain⟨l,j,_,_,m⟩:=s.rowAt f;refine OK H p x k a b l g s ok j c e fun _ h=>?_
 cases a with
 |zero=>exact absurd h m
 |succ a=>omega
end Go.Proofs.YtpohjcacnkhnkaaGreatDoor.Tq
namespace Go.Proofs.YtpohjcacnkhnkaaGreatDoor
open Go.Ax
structure Ce where
 rune:Int
 fore:Int
 back:Int
 bold:Bool
 under:Bool
 inv:Bool
deriving DecidableEq
def Ce.cells(c:Ce):List Value:=[i7 i8 c.rune,i7 i8 c.fore,i7 i8 c.back,kw c.bold,kw c.under,kw c.inv]
def Ce.val(c:Ce):Value:=.agg #[i7 i8 c.rune,i7 i8 c.fore,i7 i8 c.back,kw c.bold,kw c.under,kw c.inv]
def aQ(l:List Ce):List Value:=l.flatMap Ce.cells
theorem cA(c:Ce)(l:List Ce):aQ (c::l)=c.cells++aQ l:=rfl
def eX(l m:List Ce):aQ (l++m)=aQ l++aQ m:=by simp[aQ]
def bP(l:List Ce):(aQ l).length=l.length*6:=by
 induction l with
 |nil=>rfl
 |cons c l a=>rw[cA,zB2,a]; simp[Ce.cells]; omega
def sE(l:List Ce):(aQ l).all one=true:=by
 induction l with
 |nil=>rfl
 |cons c l a=>rw[cA,List.all_append,a]; rfl
def j5(l:List Ce)(n:Nat):aX n (aQ l)=true:=by
 induction l with
 |nil=>rfl
 |cons c l a =>rw[cA];simp only[Ce.cells,zG1,zD0,aX,aV,a,zD8]
def iJ(H:aa)(v:gt)(l:List Ce):Prop :=
 (l=[]/\∃ a c,v=.slice a 0 c)\/(l≠[]/\∃ n off s c e o L,v=jp (ap ⟨n,off,s⟩) l.length c/\rk H n=ap ⟨e,o,L⟩/\n<H.next/\off+l.length*6<=L.length/\(L.drop off).take (l.length*6)=aQ l)
def iJ.sl{H:aa}{v:gt}{l:List Ce}(h:iJ H v l):∃ a c,v=.slice a l.length c:=by
 rcases h with⟨rfl,a,c,rfl⟩|⟨_,n,off,s,c,e,o,L,rfl,_⟩
 .exact⟨a,c,rfl⟩
 .exact⟨_,_,rfl⟩
def iJ.of{H G:aa}{v:gt}{l:List Ce}(h:iJ H v l)(q:H.next<=G.next)(f:∀ n∈ae v,G.get n=H.get n):iJ G v l:=by
 rcases h with⟨rfl,a,c,rfl⟩|⟨g,n,off,s,c,e,o,L,rfl,j,k,b,m⟩
 .exact .inl ⟨rfl,a,c,rfl⟩
 .exact .inr ⟨g,n,off,s,c,e,o,L,rfl,(oF (f n ol)).trans j,by omega,b,m⟩
def DY:∀(l:List Ce)(k:Nat)(c:Ce)(L:List gt)(off:Nat),l[k]?=ap c->(L.drop off).take (l.length*6)=aQ l->(L.drop (off+k*6)).take 6=c.cells:=by
 intro l k c L off a h
 have g:k<l.length:=by
  rcases zC2 k l.length with h'|h'
  .exact h'
  .rw[zC5 h']at a; cases a
 have b:∀(l:List Ce)(k:Nat),l[k]?=ap c->((aQ l).drop (k*6)).take 6=c.cells:=by
  intro l
  induction l with
  |nil=>intro k h; simp at h
  |cons q j e =>
   intro k h
   cases k with
   |zero =>simp only[zF3,i5]at h;subst h;simp[aQ,Ce.cells]
   |succ k =>have e:=e k (by simpa using h);rw[cA,show (k+1)*6=q.cells.length+k*6 by simp[Ce.cells]; omega,List.drop_append,zE8 li,zD0,zF9];exact e
 have f:=b l k a;rw[<-h,List.drop_take,List.drop_drop,List.take_take,Nat.min_eq_left li]at f;exact f
def E9{l:List Ce}{k:Nat}{c:Ce}{e:ii}{o:Bool}{L:List gt}{off:Nat}(a:l[k]?=ap c)(b:off+l.length*6<=L.length)(h:(L.drop off).take (l.length*6)=aQ l):rl Tryz.prog 77 (off+k*6) (ap ⟨e,o,L⟩)=ap c.val:=by
 have f:k<l.length:=by
  rcases zC2 k l.length with h'|h'
  .exact h'
  .rw[zC5 h']at a; cases a
 have g:ey Tryz.prog 77=ap true:=by kernel_rfl
 have j:bg Tryz.prog 77=ap 6:=by kernel_rfl
 simp only[rl,g,j,zA4,DY l k c L off a h];rw[if_pos li];rfl
def jP{len cap n off:Nat}{s:Option Nat}{i:Int}{k:Nat}(hi:i=k)(a:k<len):aS Tryz.prog 56 (jp (ap ⟨n,off,s⟩) len cap) (i7 i8 i)=ap (i9 (ap ⟨n,off+k*6,bi⟩)):=by subst hi;rw[gP (e:=77) (sz:=6) ls ls li li];simp
def Qb(r s:Ce):BB r.cells s.cells=ge (r=s):=by obtain⟨a,b,c,d,e,f⟩:=r;obtain⟨g,h,j,k,l,m⟩:=s;simp only[Ce.cells,BB,MT,Bool.and_true,Ce.mk.injEq];by_cases n:a=g<;>by_cases o:b=h<;>by_cases q:c=j<;>by_cases t:d=k<;>by_cases u:e=l<;>by_cases v:f=m<;>simp[n,o,q,t,u,v]
def RW:flat Tryz.prog 10000 77=ap [3,3,3,4,4,4]:=by kernel_rfl
def R6:ey Tryz.prog 77=ap true:=by kernel_rfl
def R7:Tryz.prog.eqGuardType Tryz.prog.depth 77=false:=by kernel_rfl
def I7(r:Ce):fits Tryz.prog [3,3,3,4,4,4] r.cells=true:=by
 have a:∀ n,pr Tryz.prog 3 (i7 i8 n)=true:=fun n=>by kernel_rfl
 have b:∀ n,pr Tryz.prog 4 (kw n)=true:=fun n=>by kernel_rfl
 simp only[Ce.cells,fits,a,b,zD8]
def Ex(H:aa)(K L:gt)(a f:List Ce)(M:iJ H K a)(O:iJ H L f)(hl:a.length<1000000):Pure 31 [K,L] H (kw (ge (a=f))):=by
 obtain⟨b,hb⟩:=ac H.next;refine ba mixed Tryz.func31 rfl Tryz.ntmps31 (zA8 rfl) fun wf hsc=>?_;obtain⟨a1,c1,R⟩:=M.sl;obtain⟨a2,c2,e2⟩:=O.sl;rw[R,e2];simp only[zW,seval];rw[<-R,<-e2];refine c7 fun E w=>?_;have q:E 0=K:=by rw[w]; rfl
 have A:E 1=L:=by rw[w]; rfl
 have g:E 5=kw (ge ((a.length:Int)=(f.length:Int))):=by rw[w]; rfl
 have t:E 6=i7 i8 0:=by rw[w]; rfl
 clear w
 have hfin:∀ s:Bool,(s=bv->a=f)->(s=gc->a≠f)->s=ge (a=f):=fun s M O=>by
  cases s
  .rw[decide_eq_false (O rfl)]
  .rw[decide_eq_true (M rfl)]
 refine bn (fun v B=>B=ext H []/\v 5=kw (ge (a=f))) ?_ ?_
 .refine b8 (fun (k:Nat × Bool) v B=>B=ext H []/\v 0=K/\v 1=L/\v 5=kw k.2/\v 6=i7 i8 (k.1:Int)/\k.1<=a.length/\(k.2=bv->a.length=f.length/\a.take k.1=f.take k.1)/\(k.2=gc->a≠f)) (fun k=>a.length-k.1) (0,ge ((a.length:Int)=(f.length:Int)))
   ⟨rfl,q,A,g,t,zB7 _,fun h=>⟨by have:=of_decide_eq_true h; omega,rfl⟩,fun h e=>by rw[e]at h; simp at h⟩ ?_
  clear q A g t;rintro⟨k,s⟩ E B ⟨S,q,A,g,t,hk,C,D⟩;simp only at g t hk C D;rw[S]
  cases s with
  |false =>simp only[g,zW,seval];refine ah ⟨rfl,?_⟩;simp only[g,aE,seval];rw[decide_eq_false (D rfl)]
  |true =>
   obtain⟨c,u⟩:=C rfl;by_cases F:k=a.length
   .have T:ge ((k:Int)<(a.length:Int))=false:=by simp[F]
    rw[R]at q;simp only[q,g,t,T,zW,seval];refine ah ⟨rfl,?_⟩;simp only[g,aE,seval];have:a=f:=by have e3:=u;rw[F,List.take_length,c,List.take_length]at e3;exact e3
    rw[decide_eq_true this]
   .have j:k<a.length:=by omega
    have T:ge ((k:Int)<(a.length:Int))=true:=decide_eq_true li
    rcases M with⟨h,_⟩|⟨_,n1,o1,s1,c1,t1,p1,L1,rfl,b1,I,U,V⟩
    .rw[h]at j; simp at j
    rcases O with⟨h,_⟩|⟨_,n2,o2,s2,c2,t2,p2,L2,rfl,b2,J,W,X⟩
    .rw[h]at c; simp at c; simp[c]at j
    obtain⟨Y,l⟩:∃ r,a[k]?=ap r:=⟨_,zB3 j⟩
    obtain⟨Z,m⟩:∃ r,f[k]?=ap r:=⟨_,zB3 li⟩
    have i1:=jP (n:=n1) (off:=o1) (s:=s1) (cap:=c1) (i:=(k:Int)) rfl j;have i2:=jP (n:=n2) (off:=o2) (s:=s2) (cap:=c2) (i:=(k:Int)) (len:=f.length) rfl li;have q1:=E9 (e:=t1) (o:=p1) l U V;have q2:=E9 (e:=t2) (o:=p2) m W X;rw[hb]at I J;simp only[q,g,t,T,zW,seval];refine aK [] [] ls rfl rfl fun ops anc hA hG=>?_;simp only[q,A,t,hb,i1,i2,b1,b2,I,J,q1,q2,gE,Ce.val,bh,zW,seval];refine QF (ts:=[3,3,3,4,4,4]) (xs:=Y.cells) (ys:=Z.cells) (r:=ge (Y=Z)) RW R6 R7 (by rw[Qb]; rfl) rfl rfl mt (by simp only[aE,seval]; rfl) qr (I7 _) (I7 _) ?_;simp only[t,bA (show k<1000000 by omega),bh,zW,seval];refine aC ⟨(k+1,ge (Y=Z)),by simp only; omega,rfl,?_,?_,?_,?_,by simp only; omega,fun h=>⟨c,?_⟩,fun h e=>?_⟩<;>try simp only[q,A,aE,seval]
    .have h:=of_decide_eq_true h;rw[List.take_add_one,List.take_add_one,l,m,u,h]
    .have h:=of_decide_eq_false h;rw[e]at l;rw[l]at m;exact h (Option.some.inj m)
 .rintro E B ⟨S,g⟩;rw[S];simp only[g,Tryz.results31,zW,seval];exact Fin.pure rfl
end Go.Proofs.YtpohjcacnkhnkaaGreatDoor
namespace Go.Ax
def OI{P:io}{ro:Option Nat}{b:Bool}{x y:Code}{Q:Exit->ai->aa->Prop}{a:ai}{H:aa}:gO P ro (.cond (.const (kw b)) x y) Q a H=qf P ro x y Q a H (kw b):=by simp only[gO,qf,aP,af,if_true]
end Go.Ax
namespace Go.Proofs.YtpohjcacnkhnkaaGreatDoor
open Go.Ax
set_option maxRecDepth 100000
def R9:Go.Shelf.Ren:=⟨fun n=>if n=264 then 129 else 0,fun n=>if n=46 then 138 else if n=53 then 173 else n,fun n=>n⟩
def RJ:Go.Proofs.Lays.n264 Tryz.prog R9:=by
 constructor
 all_goals first
  |exact mixed
  |kernel_rfl
  |(intro w; kernel_rfl)
def OC(H:aa)(w:Nat)(k:w<1000000):Pure 129 [.int .u64 1,.int .u64 (w:Int)] H (.tuple #[.int .u64 0,.int .u64 (w:Int)]):=by
 intro ρ W r b F n R c f;have a:=Go.Proofs.Any.bits_Mul64 RJ 1 w li li W;have g:1*w / 18446744073709551616=0:=by omega
 have h:1*w % 18446744073709551616=w:=by omega
 rw[g,h]at a;have j:[Value.int .u64 1,Value.int .u64 (w:Int)].map ρ.val=[Value.int .u64 1,Value.int .u64 (w:Int)]:=tD ρ _ (fun x hx=>by simp only[zA9,zF2,or_false]at hx; rcases hx with rfl|rfl<;>rfl);rw[j];refine (c.calls a).mono ?_;rintro e w' ⟨rfl,rfl⟩;have:=f ρ w' (St.refl r) rfl;rwa [di ρ _ rfl]at this
def RK(H:aa)(w:Nat)(a:w<1000000):Pure 92 [.int .u64 1,.int .u64 (w:Int)] H (.tuple #[.int .u64 0,.int .u64 (w:Int)]):=by refine ba mixed Tryz.func92 rfl Tryz.ntmps92 (zA8 rfl) fun wf b=>?_;simp only[OI,zW,seval];refine (OC (ext H []) w a).to ?_;simp only[Tryz.results92,zW,seval];exact Fin.cq rfl rfl
abbrev Ce.zero:Ce:=⟨0,0,0,gc,gc,gc⟩
abbrev Ce.blank:Ce:=⟨32,0,0,gc,gc,gc⟩
def LJ(n:Nat):cg Ce.zero.cells n=aQ (List.replicate n Ce.zero):=by
 induction n with
 |zero=>rfl
 |succ n a=>rw[cg,a,List.replicate_succ,cA]
def OF{X:aa}{w:Nat}(h:w<=1000):fc Tryz.prog X 56 (i7 i8 (w:Int)) (i7 i8 (w:Int))=(cH X 77 (aQ (List.replicate w Ce.zero)) gc).map fun g=>(jp (ap ⟨X.next,0,ap 0⟩) w w,g):=by rw[Lv (e:=77) (sz:=6) (by1:=32) (z:=Ce.zero.val) ls ls ls ls rfl sm];rw[show Ce.zero.val.cells.toList=Ce.zero.cells from rfl,LJ]
def wrap_u64{n:Nat}(h:n<100000):IntKind.u64.wrap (n:Int)=n:=by simp only[IntKind.wrap,IntKind.signed,IntKind.bits];simp;omega
def tC(l:List Ce)(k:Nat):(aQ l).take (k*6)=aQ (l.take k):=by
 induction l generalizing k with
 |nil=>simp[aQ]
 |cons c l a =>
  cases k with
  |zero=>simp[aQ]
  |succ k=>rw[cA,List.take_succ_cons,cA,show (k+1)*6=c.cells.length+k*6 by simp[Ce.cells]; omega,List.take_append,zC3 li,zF9,a]
def pJ(l:List Ce)(k:Nat):(aQ l).drop (k*6)=aQ (l.drop k):=by
 induction l generalizing k with
 |nil=>simp[aQ]
 |cons c l a =>
  cases k with
  |zero=>simp[aQ]
  |succ k=>rw[cA,List.drop_succ_cons,show (k+1)*6=c.cells.length+k*6 by simp[Ce.cells]; omega,List.drop_append,zE8 li,zD0,zF9,a]
def r7(a new old:List Ce)(h:new.length<=old.length):cQ (aQ (a++old)) (a.length*6) (aQ new)=aQ (a++(new++old.drop new.length)):=by have e:a.length*6=(aQ a).length:=(bP a).symm;rw[eX,e,ng _ _ _ (by rw[bP,bP]; omega),bP,pJ,eX,eX]
def RN{G:aa}{q off dl dc n off2 sl sc:Nat}{s2:Option Nat}{b g:Bl}(h:bk G q=ap g)(a:q<G.next)(j:bk G n=ap b){l:List Ce}(c:off2+zF0 sl dl*6<=b.l.length)(k:(b.l.drop off2).take (zF0 sl dl*6)=aQ l)(m:off+zF0 sl dl*6<=g.l.length)(f:l.length=zF0 sl dl) :
  aF Tryz.prog G .copy ⟨[56,56]⟩ [jp (ap ⟨q,off,ap 0⟩) dl dc,jp (ap ⟨n,off2,s2⟩) sl sc]=ap (goInt (zF0 sl dl),uw G q off (aQ l)):=by
 rw[y9 (e:=77) (sz:=6) ls ls rfl j c,k];have:=me (H:=G) (L:=[]) (vs:=aQ l) a h (by rw[bP,f]; exact m) (sE l) (j5 l _);rw[ext_nil,ext_nil]at this;rw[this];rfl
def KX(w:Nat)(h1:1<=w)(hw:w<=1000)(c:Ce)(n:Nat)(s:Option Nat)(H:aa)(hn:bk H n=ap ⟨77,gc,c.cells⟩) :
  br Tryz.prog 61 [jp (ap ⟨n,0,s⟩) 1 1,i7 i8 (w:Int)] H (.ok (jp (ap ⟨H.next,0,ap 0⟩) w w)) (ext H [⟨77,gc,aQ (List.replicate w c)⟩]):=by
 refine tj (fun wf hsc=>?_) (fun _ _=>j5 _ _);obtain⟨b,A⟩:=ac H.next;have Y:H.base<=b:=A▸wf.base;have Z:n<b:=A▸wf.lt hn;have F:ge ((w:Int)<0)=false:=decide_eq_false li;have hcv:∀(X:aa)(k:IntKind)(m:Int),bM Tryz.prog X 3 138 (.int k m)=ap (.int .u64 (IntKind.u64.wrap m),X):=fun X k m=>im (u:=.int i8) ls ls;have I:∀(X:aa)(k:IntKind)(m:Int),bM Tryz.prog X 138 3 (.int k m)=ap (i7 i8 (IntKind.i64.wrap m),X):=fun X k m=>im (u:=.int .u64) ls ls;have u1:IntKind.u64.wrap ((1:Nat):Int)=1:=by decide
 have huw:IntKind.u64.wrap (w:Int)=w:=wrap_u64 li;have iw:IntKind.i64.wrap (w:Int)=w:=ak li li;have z1:ge ((0:Int)>0)=false:=by decide
 have z2:ge ((w:Int)>9223372036854775807)=false:=decide_eq_false li;refine aH mixed Tryz.func61 rfl Tryz.ntmps61 (zA8 rfl) ?_;simp only[F,aY,hcv,u1,huw,zW,Nat.reduceLT,Nat.reduceAdd,Nat.reduceEqDiff];refine (RK (ext H []) w li).to ?_;simp only[aY,I,iw,z1,z2,OF (show w<=1000 by omega),j5,A,zW,Nat.reduceLT,Nat.reduceEqDiff];generalize hG:ext H [_]=G;have mG:Mod [] H G:=hG▸Mod.ext wf.base;have hGn:G.next=b+1:=by rw[<-hG,aA,A]; rfl
 have hq:bk G (b+0)=ap ⟨77,gc,aQ (List.replicate w Ce.zero)⟩:=by rw[<-hG,bJ A lw]; rfl
 have hnG:=(mG.bk (A▸Z) lw).trans hn;have J:zF0 1 w=1:=Nat.min_eq_left h1;have L:=RN (G:=G) (q:=b+0) (off:=0) (dl:=w) (dc:=w) (n:=n) (off2:=0) (sl:=1) (sc:=1) (s2:=s) (l:=[c]) hq li hnG (by rw[J]; simp[Ce.cells]) (by rw[J]; rfl) (by rw[J,bP,zG2]; omega) (by rw[J]; rfl);rw[J]at L;simp only[L,zW,Nat.reduceLT];generalize hK:uw G (b+0) 0 _=K;have mK:Mod [b+0] G K:=hK▸Mod.uw lw;have hKn:K.next=b+1:=by rw[<-hK,bE,hGn]
 have hKq:bk K (b+0)=ap ⟨77,gc,aQ (List.replicate 1 c++List.replicate (w-1) Ce.zero)⟩:=by rw[<-hK,bR,hq];have:=r7 [] [c] (List.replicate w Ce.zero) pp;simp only[zD0,zB0,Nat.zero_mul,zA3,List.drop_replicate]at this;show ap (Bl.mk 77 gc (cQ (aQ (List.replicate w Ce.zero)) 0 (aQ [c])))=_;rw[this];rfl
 have mHK:Mod [] H K:=mG.step mK wf.base (fun k g=>.inr (by simp only[zA6]at g; omega));refine c7 fun E hE=>?_;have a:E 7=jp (ap ⟨b+0,0,ap 0⟩) w w:=by rw[hE]; rfl
 have o:E 8=i7 i8 ((1:Nat):Int):=by rw[hE]; rfl
 clear hE;refine bn (fun V B=>Mod [] H B/\bk B (b+0)=ap ⟨77,gc,aQ (List.replicate w c)⟩/\V 7=jp (ap ⟨b+0,0,ap 0⟩) w w) ?_ ?_
 .refine b8 (fun (m:Nat) V B=>Mod [] H B/\b+0<B.next/\1<=m/\m<=w/\bk B (b+0)=ap ⟨77,gc,aQ (List.replicate m c++List.replicate (w-m) Ce.zero)⟩/\V 7=jp (ap ⟨b+0,0,ap 0⟩) w w/\V 8=i7 i8 (m:Int)) (fun m=>w-m) 1
   ⟨mHK,by omega,zA5 _,h1,hKq,a,o⟩ ?_
  clear a o;rintro m E X ⟨M,lX,hm1,O,f,a,o⟩;rw[show X=ext X [] from rfl];by_cases R:m=w
  .have hc:ge ((m:Int)<(w:Int))=false:=by simp[R]
   simp only[a,o,hc,zW,Nat.reduceLT,Nat.reduceEqDiff];refine ah ⟨M,?_,?_⟩
   .rw[ext_nil,f,R,zG0]; simp
   .exact a
  .have hlt:m<w:=by omega
   have hc:ge ((m:Int)<(w:Int))=true:=decide_eq_true li;have okX:=M.ok wf.base;simp only[a,o,hc,zW,Nat.reduceLT,Nat.reduceEqDiff];refine aK [(7,3),(7,6),(9,7)] [] ls ls rfl fun ops anc hA hG2=>?_;simp only[aj]at hA;simp only[a,o,bh,aE,Nat.reduceLT,Nat.reduceAdd,Nat.reduceEqDiff];have hbm:bound 0 (ap (i7 i8 (m:Int)))=ap m:=by simp[bound]
   have S:bound w (ap (i7 i8 (m:Int)))=ap m:=by simp[bound]
   rw[wV];refine wE (v:=jp (ap ⟨b+0,0+m*6,ap 0⟩) (w-m) (w-m)) rfl mt (fun G=>tn t4 (by simp (maxDischargeDepth:=6) only[aE,Nat.reduceLT,iB]) rfl rfl ?_) (by simp (maxDischargeDepth:=6) only[bh]) ?_
   .simp only[mn,lS,aE,Nat.reduceEqDiff];exact xT (e:=77) (sz:=6) ls ls hbm rfl (zA5 _) O hlt
   simp only[a,o,bh,zW,Nat.reduceLT,Nat.reduceAdd,Nat.reduceEqDiff];rw[wV];refine wE (v:=jp (ap ⟨b+0,0+0*6,ap 0⟩) (m-0) (w-0)) rfl mt (fun G=>tn t4 rfl (by simp (maxDischargeDepth:=6) only[aE,Nat.reduceLT,iB]) rfl ?_) (by simp (maxDischargeDepth:=6) only[bh,Nat.reduceAdd,Nat.reduceMul]) ?_
   .simp only[mn,lS,aE,Nat.reduceAdd,Nat.reduceMul,Nat.reduceEqDiff];exact xT (e:=77) (sz:=6) ls ls rfl S O (zB7 _) li
   simp only[zW,Nat.reduceLT,Nat.reduceAdd,Nat.reduceMul];rw[Pd rfl];have hrn:=aI X [b+0];have t:bk (X.restrict [b+0]) (b+0)=ap ⟨77,gc,aQ (List.replicate m c++List.replicate (w-m) Ce.zero)⟩:=(aO (by rw[bf,if_pos lw])).trans f;obtain⟨j,C⟩:=ac (zF0 m (w-m));have hjm:j<=m/\j<=w-m/\0<j:=by rw[<-C]; exact⟨Nat.min_le_left _ _,Nat.min_le_right _ _,Nat.lt_min.2 ⟨by omega,by omega⟩⟩
   have T:(aQ (List.replicate m c++List.replicate (w-m) Ce.zero)).length=w*6:=by rw[bP]; simp; omega
   have r:=RN (G:=X.restrict [b+0]) (q:=b+0) (off:=0+m*6) (dl:=w-m) (dc:=w-m) (n:=b+0) (off2:=0+0*6) (sl:=m-0) (sc:=w-0) (s2:=ap 0) (l:=List.replicate j c) t (by rw[hrn.1]; exact lX) t
    (by rw[Nat.sub_zero,C,T]; omega) (by rw[Nat.sub_zero,C,Nat.zero_mul,zC6,zD2,tC,List.take_append,List.take_replicate,zG2,show j-m=0 by omega,Nat.min_eq_left hjm.1]; simp) (by rw[Nat.sub_zero,C,T]; omega) (by rw[Nat.sub_zero,C,zG2])
   rw[Nat.sub_zero,C]at r
   refine my (W:=[b+0]) [b+0] okX (fun k g=>by simp only[zA6]at g; subst g; exact fI f) (fun k g=>by simp only[zA6]at g; subst g; exact lX) (fun _ h=>h)
    (jl (v:=goInt j) rfl (by simp only[aE,Nat.reduceEqDiff]; rw[Nat.sub_zero]; exact r)) (Mod.uw lw) (by simp only[aj,bu,hA,true_or,and_true]) ?_
   intro H1 D U hF1 _ _ _;have hw8:IntKind.i64.wrap ((m:Int)+(j:Int))=((m+j:Nat):Int):=by have:=ak (n:=(m:Int)+(j:Int)) li li;rw[show IntKind.i64.wrap ((m:Int)+(j:Int))=_ from this]; omega
   rw[show H1=ext H1 [] from rfl];simp only[goInt,hw8,bh,zW,Nat.reduceLT,Nat.reduceAdd,Nat.reduceEqDiff];have hq1:bk H1 (b+0)=ap ⟨77,gc,aQ (List.replicate (m+j) c++List.replicate (w-(m+j)) Ce.zero)⟩:=by rw[aO (hF1 (b+0) lw),bR,show bk ((ext X []).restrict [b+0]) (b+0)=_ from t];have:=r7 (List.replicate m c) (List.replicate j c) (List.replicate (w-m) Ce.zero) pp;rw[zG2,zG2,List.drop_replicate]at this;show ap (Bl.mk 77 gc (cQ (aQ _) (0+m*6) (aQ (List.replicate j c))))=_;rw[zC6,this,<-zC9,List.replicate_append_replicate,show w-m-j=w-(m+j) by omega]
   refine aC ⟨m+j,by omega,(M.step U wf.base (fun k g=>.inr (by simp only[zA6]at g; omega))),U.lt lX,by omega,by omega,hq1,?_,?_⟩<;>simp only[a,aE,Nat.reduceEqDiff]
 .clear a o;rintro E X ⟨M,f,a⟩;rw[show X=ext X [] from rfl];simp only[a,Tryz.results61,zW,Nat.reduceLT];exact⟨b+0,rfl,by omega,f,M⟩
end Go.Proofs.YtpohjcacnkhnkaaGreatDoor
namespace Go.Proofs.YtpohjcacnkhnkaaGreatDoor.Tq
open Go.Ax
def Nk(w:Nat):Go.Proofs.YtpohjcacnkhnkaaGreatDoor.aQ (List.replicate w Go.Proofs.YtpohjcacnkhnkaaGreatDoor.Ce.blank)=aQ (List.replicate w sp):=by
 induction w with
 |zero=>rfl
 |succ w a=>rw[List.replicate_succ,List.replicate_succ,Go.Proofs.YtpohjcacnkhnkaaGreatDoor.cA,a,cA]; rfl
def Ec(w:Nat)(e:1<=w)(g:w<=300)(H:aa):br Tryz.prog 26 [i7 i8 (w:Int)] H (.ok (jp (ap ⟨H.next,0,ap 0⟩) w w)) (ext H [⟨77,gc,aQ (List.replicate w sp)⟩]):=by refine tj (fun wf f=>?_) (fun _ _=>j5 _ _);obtain⟨b,a⟩:=ac H.next;refine aH mixed Tryz.func26 rfl Tryz.ntmps26 (zA8 rfl) ?_;simp only[a,zW,seval];have c:=Go.Proofs.YtpohjcacnkhnkaaGreatDoor.KX w e li Go.Proofs.YtpohjcacnkhnkaaGreatDoor.Ce.blank (b+0) (ap 0) (ext H [⟨77,gc,[i7 i8 32,i7 i8 0,i7 i8 0,kw gc,kw gc,kw gc]⟩]) (by rw[bJ a lw]; rfl);rw[Nk]at c;refine c.to ?_;simp only[a,zA3,zB0,Tryz.results26,zW,seval];exact⟨_,rfl,by omega,by rw[bJ a lw]; rfl,Mod.ext wf.base⟩
section
variable{P:io}{H:aa}
def oS{t e:ii}{sz n off len cap:Nat}{lo hi:Option gt}{l h:Nat}{b:Bl}(f:P.underlying t=ap (.slice e))(a:bg P e=ap sz)(g:bound 0 lo=ap l)(j:bound len hi=ap h)(k:h<=cap)(m:l<=h)(q:l<cap)(r:bk H n=ap b)(s:b.o=bv) :
  cw P H t (jp (ap ⟨n,off,bi⟩) len cap) lo hi bi=ap (jp (ap ⟨n,off+l*sz,bi⟩) (h-l) (cap-l),H):=by
 simp only[cw,f,a,kh,g,j,zA1,zA4,dW,l6 r,s,zB1,zE4];rw[if_pos ⟨k,m⟩];by_cases c:l=0
 .subst c;simp
 .rw[if_neg c,if_pos q]
def Cu{t e:ii}{sz n off len cap:Nat}{lo hi:Option gt}{l h:Nat}{b:Bl}(c:P.underlying t=ap (.slice e))(a:bg P e=ap sz)(f:bound 0 lo=ap l)(g:bound len hi=ap h)(q:h=cap)(r:l=cap)(s:0<cap)(j:bk H n=ap b)(k:b.o=bv)(m:sz≠0:=by decide) :
  cw P H t (jp (ap ⟨n,off,bi⟩) len cap) lo hi bi=ap (jp (ap ⟨n,off+l*sz,ap (off+1)⟩) 0 0,H):=by
 simp only[cw,c,a,kh,f,g,zA1,zA4,dW,l6 j,k,zB1,zE4];rw[if_pos ⟨by omega,by omega⟩,if_neg li,if_neg li,if_neg m]
def QG{dt st e:ii}{sz m off k n off2 sl sc:Nat}{s2:Option Nat}{b:Bl}(f:P.underlying dt=ap (.slice e))(a:bg P e=ap sz)(g:bk H n=ap b)(h:off2<=b.l.length) :
  aF P H .copy ⟨[dt,st]⟩ [jp (ap ⟨m,off,ap (k+1)⟩) 0 0,jp (ap ⟨n,off2,s2⟩) sl sc]=ap (goInt 0,H):=by
 have c:zF0 sl 0=0:=Nat.min_eq_right (zB7 _);have j:=fA (sz:=sz) (cnt:=0) (off:=off2) (len:=sl) (cap:=sc) (s:=s2) g li;simp only[aF,Aq,f,a,zA1,zA4,kz,c,j];rw[if_neg lw]
end
def cz{d k:Nat}:bound d (ap (i7 i8 (k:Int)))=ap k:=by simp[bound]
def sg(w:Nat)(l:List (Nat × Bool)):(l.map (aM w)).all one=true:=by rw[zD3];intro v a;obtain⟨q,_,rfl⟩:=zB6.1 a;rfl
def O5{X:aa}{b a n m h w:Nat}{A S Z:List (Nat × Bool)}(C:b<X.next)(k:bk X b=ap ⟨56,bv,(A++S++Z).map (aM w)⟩)(J:A.length=a)(B:S.length=m)(hh:h=a+m+Z.length)(M:n<=m)(O:1<=n)(D:∀ q∈A++S++Z,q.1<X.next) :
  ∃ K Y,cw Tryz.prog X 39 (jp (ap ⟨b,a,bi⟩) m (h-a)) (ap (i7 i8 (n:Int))) bi bi=ap (K,X)/\aF Tryz.prog X .copy ⟨[39,39]⟩ [jp (ap ⟨b,a,bi⟩) m (h-a),K]=ap (goInt ((m-n:Nat)),Y)/\Mod [b] X Y/\Y.next=X.next/\bk Y b=ap ⟨56,bv,(A++S.drop n++S.drop (m-n)++Z).map (aM w)⟩:=by
 have F:Tryz.prog.underlying 39=ap (.slice 56):=by kernel_rfl
 have g:bg Tryz.prog 56=ap 1:=by kernel_rfl
 have j:∃ s2 sc,cw Tryz.prog X 39 (jp (ap ⟨b,a,bi⟩) m (h-a)) (ap (i7 i8 (n:Int))) bi bi=ap (jp (ap ⟨b,a+n*1,s2⟩) (m-n) sc,X):=by
  by_cases R:n<h-a
  .exact⟨bi,_,oS F g cz rfl li M R k rfl⟩
  .have e:m-n=0:=by omega
   rw[e];exact⟨ap (a+1),0,Cu F g cz rfl li li li k rfl⟩
 obtain⟨s2,sc,j⟩:=j;have c:((A++S++Z).map (aM w)).length=a+m+Z.length:=by simp[J,B]; omega
 have f:zF0 (m-n) m=m-n:=Nat.min_eq_left li;have o:=y9 (P:=Tryz.prog) (H:=X) (dt:=39) (st:=39) (e:=56) (sz:=1) (m:=b) (off:=a) (dl:=m) (dc:=h-a) (n:=b) (off2:=a+n*1) (sl:=m-n) (sc:=sc) (s:=bi) (s2:=s2) F g rfl k (by rw[f,c]; omega);have I:(((A++S++Z).map (aM w)).drop (a+n*1)).take ((m-n)*1)=(S.drop n).map (aM w):=by rw[zE5,zE5,<-List.map_drop,<-List.map_take,zC9,List.drop_append,zE8 li,zD0,show a+n-A.length=n by omega,List.drop_append,List.take_append,zC3 pp];simp[B]
 have r:((S.drop n).map (aM w)).all one=true:=sg w _;have t:aX (X.next+0) ((S.drop n).map (aM w))=true:=by rw[zD6];refine cx.2 fun v T=>?_;obtain⟨q,U,rfl⟩:=zB6.1 T;exact bx (D q (by simp[List.mem_of_mem_drop U]))
 have u:=me (H:=X) (L:=[]) (n:=b) (off:=a) (vs:=(S.drop n).map (aM w)) C k (by rw[c]; simp; omega) r t;rw[ext_nil,ext_nil]at u;rw[f,I,u]at o;refine⟨_,_,j,o,Mod.uw lw,by rw[bE],?_⟩;rw[bR,k];refine congrArg (fun l=>ap (Bl.mk 56 bv l)) ?_;have e:((A++S++Z).map (aM w))=A.map (aM w)++(S++Z).map (aM w):=by simp
 show cQ ((A++S++Z).map (aM w)) a _=_;have V:a=(A.map (aM w)).length:=by simp[J]
 rw[e,V,ng _ _ _ (by simp[B]; omega)];have W:((S++Z).map (aM w)).drop ((S.drop n).map (aM w)).length=(S.drop (m-n)++Z).map (aM w):=by rw[<-List.map_drop,zE9,zC1,B,List.drop_append,show m-n-S.length=0 by omega,zD2]
 rw[W];simp
def Jo{X:aa}{b a n m h w:Nat}{A S Z:List (Nat × Bool)}(I:b<X.next)(o:bk X b=ap ⟨56,bv,(A++S++Z).map (aM w)⟩)(M:A.length=a)(u:S.length=m)(hh:h=a+m+Z.length)(R:n<=m)(T:1<=n)(J:∀ q∈A++S++Z,q.1<X.next) :
  ∃ O Y,cw Tryz.prog X 39 (jp (ap ⟨b,a,bi⟩) m (h-a)) (ap (i7 i8 (n:Int))) bi bi=ap (O,X)/\(∃ k,aF Tryz.prog X .copy ⟨[39,39]⟩ [O,jp (ap ⟨b,a,bi⟩) m (h-a)]=ap (k,Y))/\Mod [b] X Y/\Y.next=X.next/\bk Y b=ap ⟨56,bv,(A++S.take n++S.take (m-n)++Z).map (aM w)⟩:=by
 have F:Tryz.prog.underlying 39=ap (.slice 56):=by kernel_rfl
 have f:bg Tryz.prog 56=ap 1:=by kernel_rfl
 have c:((A++S++Z).map (aM w)).length=a+m+Z.length:=by simp[M,u]; omega
 by_cases U:n<h-a
 .have r:=oS (P:=Tryz.prog) (H:=X) (t:=39) (e:=56) (sz:=1) (n:=b) (off:=a) (len:=m) (cap:=h-a) (lo:=ap (i7 i8 (n:Int))) (hi:=bi) (l:=n) (h:=m) F f cz rfl li R U o rfl;have j:zF0 m (m-n)=m-n:=Nat.min_eq_right li;have g:=y9 (P:=Tryz.prog) (H:=X) (dt:=39) (st:=39) (e:=56) (sz:=1) (m:=b) (off:=a+n*1) (dl:=m-n) (dc:=h-a-n) (n:=b) (off2:=a) (sl:=m) (sc:=h-a) (s:=bi) (s2:=bi) F f rfl o (by rw[j,c]; omega);have K:(((A++S++Z).map (aM w)).drop a).take ((m-n)*1)=(S.take (m-n)).map (aM w):=by rw[zE5,<-List.map_drop,<-List.map_take,zC9,List.drop_append,zE8 li,zD0,show a-A.length=0 by omega,zD2,List.take_append,show m-n-S.length=0 by omega,List.take_zero,zD4]
  have B:((S.take (m-n)).map (aM w)).all one=true:=sg w _;have C:aX (X.next+0) ((S.take (m-n)).map (aM w))=true:=by rw[zD6];refine cx.2 fun v V=>?_;obtain⟨q,W,rfl⟩:=zB6.1 V;exact bx (J q (by simp[List.mem_of_mem_take W]))
  have D:=me (H:=X) (L:=[]) (n:=b) (off:=a+n*1) (vs:=(S.take (m-n)).map (aM w)) I o (by rw[c]; simp; omega) B C;rw[ext_nil,ext_nil]at D;rw[j,K,D]at g;refine⟨_,_,r,⟨_,g⟩,Mod.uw lw,by rw[bE],?_⟩;rw[bR,o];refine congrArg (fun l=>ap (Bl.mk 56 bv l)) ?_;have e:((A++S++Z).map (aM w))=(A++S.take n).map (aM w)++(S.drop n++Z).map (aM w):=by rw[<-List.map_append,zC9,zC9];congr 2;rw[<-zC9,List.take_append_drop]
  show cQ ((A++S++Z).map (aM w)) (a+n*1) _=_;have e2:a+n*1=((A++S.take n).map (aM w)).length:=by simp[M,u]; omega
  rw[e,e2,ng _ _ _ (by simp[u])];have e3:((S.drop n++Z).map (aM w)).drop ((S.take (m-n)).map (aM w)).length=Z.map (aM w):=by rw[<-List.map_drop,zE9,zF1,u,Nat.min_eq_left li,List.drop_append,zE8 (by simp[u]),zD0,show m-n-(S.drop n).length=0 by simp[u],zD2]
  rw[e3];simp
 .have e:m-n=0:=by omega
  have r:=Cu (P:=Tryz.prog) (H:=X) (t:=39) (e:=56) (sz:=1) (n:=b) (off:=a) (len:=m) (cap:=h-a) (lo:=ap (i7 i8 (n:Int))) (hi:=bi) (l:=n) (h:=m) F f cz rfl li li li o rfl;have g:=QG (P:=Tryz.prog) (H:=X) (dt:=39) (st:=39) (e:=56) (sz:=1) (m:=b) (off:=a+n*1) (k:=a) (n:=b) (off2:=a) (sl:=m) (sc:=h-a) (s2:=bi) F f o (by rw[c]; omega);refine⟨_,_,r,⟨_,g⟩,Mod.refl,rfl,?_⟩;rw[o,e,zC3 (show S.length<=n by omega)];simp
def NZ(H:aa)(p:Rp)(x:Tm)(rs:List (Nat × Bool))(c:bk H p.t=ap ⟨66,gc,aW p x⟩)(g:bk H p.rb=ap ⟨56,bv,rs.map (aM x.w)⟩)(hx:1<=x.h)(j:rs≠[]):Pure 71 [i9 (ap ⟨p.t,0,bi⟩)] H (i7 i8 (x.w:Int)):=by
 obtain⟨b,e⟩:=ac H.next;have l:=c;simp only[aW]at c;obtain⟨q,m⟩:∃ q,rs[0]?=ap q:=by cases rs with|nil=>exact absurd rfl j|cons a r=>exact⟨a,rfl⟩
 have f:(rs.map (aM x.w))[0]?=ap (aM x.w q):=by rw[zE1,m]; rfl
 have hi:=eP (len:=x.h) (cap:=x.h) (n:=p.rb) (s:=bi) (i:=0) (k:=0) rfl hx;refine ba mixed Tryz.func71 rfl Tryz.ntmps71 (zA8 rfl) fun wf o=>?_;have u:p.t<b:=e▸wf.lt l;have v:p.rb<b:=e▸wf.lt g;simp only[e,u,v,c,g,hi,f,aM,Tryz.results71,zW,seval];exact Fin.pure rfl
def Ct{α β:Type}{l:List α}{m:List β}{z:α × β}:z∈l.zip m ↔ ∃ i:Nat,l[i]?=ap z.1/\m[i]?=ap z.2:=by
 rw[List.mem_iff_getElem?];constructor
 .rintro⟨i,hi⟩;refine⟨i,?_⟩;rw[List.getElem?_zip_eq_some]at hi;exact hi
 .rintro⟨i,a,b⟩;exact⟨i,List.getElem?_zip_eq_some.2 ⟨a,b⟩⟩
def b7.Ld{H Y:aa}{p:Rp}{x:Tm}(g:b7 H p x)(m:Mod [p.rb] H Y)(rs:List (Nat × Bool))(B:List (List Ce))(L:bk Y p.rb=ap ⟨56,bv,rs.map (aM x.w)⟩)(R:rs.length=x.h)(C:B.length=x.h)
  (D:∀ z∈rs.zip B,z∈p.rs.zip x.grid\/(H.next<=z.1.1/\bk Y z.1.1=ap ⟨77,z.1.2,aQ z.2⟩)) (S:(rs.map (·.1)).Nodup) (F:∀ q∈rs,q∈p.rs\/(H.next<=q.1/\q.1<Y.next)) (Z:Tm.w {x with grid:=B}=x.w) :
  Step H p Y {p with rs:=rs} {x with grid:=B}:=by
 have u:=g.nd;simp only[Rp.au]at u;have M:=zB8.1 u;have I:=zB8.1 M.2;have k:∀ n∈p.au,n<H.next:=g.lt;have f:∀ n,n<H.next->n≠p.rb->Y.get n=H.get n:=fun n hn dK=>m.get n hn (by simp only[zA6]; exact dK);have J:∀ q∈p.rs,q.1∈p.au/\q.1≠p.rb:=fun q A=>by have O:q.1∈p.rs.map (·.1):=zB6.2 ⟨q,A,rfl⟩;exact⟨by simp only[Rp.au,zA9,zB4]; exact .inr (.inr (.inl (.inl O))),fun e=>I.1 (e▸(by simp only[zB4]; exact .inl (.inl O)))⟩
 have c:∀ n,n∈ae p.rv++ae p.pv->n∈p.au/\n≠p.rb/\n≠p.t/\n∉p.rs.map (·.1):=fun n hn=>by
  have K:=I.2;rw[zC9]at K;refine⟨?_,fun e=>I.1 (e▸?_),fun e=>M.1 (e▸?_),fun e=>(zD5.1 K).2.2 n e n hn rfl⟩<;>simp only[Rp.au,zA9,zB4]at hn ⊢
  .rcases hn with h|h
   .exact .inr (.inr (.inl (.inr h)))
   .exact .inr (.inr (.inr h))
  .rcases hn with h|h
   .exact .inl (.inr h)
   .exact .inr h
  .rcases hn with h|h
   .exact .inr (.inl (.inr h))
   .exact .inr (.inr h)
 have o:p.t∈p.au/\p.t≠p.rb:=⟨by simp[Rp.au],fun e=>M.1 (by rw[e]; simp)⟩
 have T:p.t∉p.rs.map (·.1):=fun h=>M.1 (by simp only[zA9,zB4]; exact .inr (.inl (.inl h)));have U:p.rb∉p.rs.map (·.1):=fun h=>I.1 (by simp only[zB4]; exact .inl (.inl h));have r:p.rb∈p.au:=by simp[Rp.au]
 have s:∀ n,n∈p.au->n∉p.rs.map (·.1)->n∉rs.map (·.1):=fun n hn V O=>by
  obtain⟨q,A,rfl⟩:=zB6.1 O
  rcases F q A with h|⟨h,_⟩
  .exact V (zB6.2 ⟨q,h,rfl⟩)
  .have:=k _ hn; omega
 have v:∀ n∈({p with rs:=rs}:Rp).au,n∈p.au\/(H.next<=n/\n<Y.next):=by
  intro n hn;simp only[Rp.au,zA9,zB4,zB6]at hn;rcases hn with rfl|rfl|(⟨q,A,rfl⟩|hn)|hn
  .exact .inl o.1
  .exact .inl r
  .rcases F q A with h|h
   .exact .inl (J q h).1
   .exact .inr h
  .exact .inl (c n (by simp[hn])).1
  .exact .inl (c n (by simp[hn])).1
 refine⟨⟨?_,?_,?_,?_,?_,?_,?_,fun n hn=>?_⟩,m.mono (by intro n hn; simp only[zA6]at hn; subst hn; exact r),rfl,fun n hn=>(v n hn).imp id (fun h=>h.1)⟩
 .rw[aO (f _ (k _ o.1) o.2),g.cell];have:Tm.h {x with grid:=B}=x.h:=C;simp only[aW,this]
 .rw[Z]; exact L
 .exact R.trans C.symm
 .intro i q l A hl
  rcases D (q,l) (Ct.2 ⟨i,A,hl⟩) with h|⟨_,h⟩
  .obtain⟨j,W,X⟩:=Ct.1 h;simp only at W X;obtain⟨h3,h4⟩:=J q (zC0 W);rw[aO (f _ (k _ h3) h4)];exact g.row j q l W X
  .exact h
 .exact g.rest.of fun n hn=>f n (k n (c n (by simp[hn])).1) (c n (by simp[hn])).2.1
 .exact g.par.of fun n hn=>f n (k n (c n (by simp[hn])).1) (c n (by simp[hn])).2.1
 .have K:=I.2;rw[zC9]at K;have n4:=zD5.1 K;simp only[Rp.au];refine zB8.2 ⟨?_,zB8.2 ⟨?_,?_⟩⟩
  .simp only[zA9,zB4,not_or];refine⟨o.2,⟨s _ o.1 T,fun h=>(c p.t pu).2.2.1 rfl⟩,fun h=>(c p.t pu).2.2.1 rfl⟩
  .simp only[zB4,not_or];refine⟨⟨s _ r U,fun h=>(c p.rb pu).2.1 rfl⟩,fun h=>(c p.rb pu).2.1 rfl⟩
  .rw[zC9];exact zD5.2 ⟨S,n4.2.1,fun a ha b L e=>s b (c b L).1 (c b L).2.2.2 (e▸ha)⟩
 .rcases v n hn with h|h
  .exact m.lt (k n h)
  .exact h.2
def JE{α:Type}{A N Z:List α}(h:(A++Z).Nodup)(k:N.Nodup)(j:∀ a∈N,a∉A++Z):(A++N++Z).Nodup:=by
 have f:=zD5.1 h;refine zD5.2 ⟨zD5.2 ⟨f.1,k,fun a g b c e=>j b c (by simp[<-e,g])⟩,f.2.1,fun a g b c e=>?_⟩;rcases zB4.1 g with h'|h'
 .exact f.2.2 a h' b c e
 .exact j a h' (by simp[e,c])
def KN{len cap n off:Nat}{s:Option Nat}{i:Int}{k:Nat}(hi:i=k)(a:k<len):aS Tryz.prog 39 (jp (ap ⟨n,off,s⟩) len cap) (i7 i8 i)=ap (i9 (ap ⟨n,off+k,bi⟩)):=by subst hi;rw[gP (e:=56) (sz:=1) ls ls li li];simp
abbrev bT(w:Nat):List Ce:=List.replicate w sp
def cE{α:Type}(l:List α)(a m k:Nat)(up:Bool):List α:=l.take a++cond up (((l.drop a).take m).drop k) []
def ef{α:Type}(l:List α)(a m k:Nat)(up:Bool):List α:=cond up [] (((l.drop a).take m).take (m-k))++l.drop (a+m)
def kp{α:Type}(l:List α){a m k:Nat}(up:Bool)(h:a+m<=l.length)(b:k<=m):(cE l a m k up).length=a+cond up (m-k) 0:=by cases up<;>simp[cE]<;>omega
def sS{α:Type}(l:List α){a m k:Nat}(up:Bool)(h:a+m<=l.length)(b:k<=m):(ef l a m k up).length=cond up 0 (m-k)+(l.length-(a+m)):=by cases up<;>simp[ef]<;>omega
def wF{α:Type}(l:List α)(a m:Nat):l=l.take a++(l.drop a).take m++l.drop (a+m):=by rw[zC9,<-List.drop_drop,List.take_append_drop,List.take_append_drop]
def r8{α:Type}(l:List α)(a m k:Nat)(up:Bool):(cE l a m k up++ef l a m k up).Sublist l:=by
 have h:=wF l a m;conv=>rhs; rw[h]
 cases up
 .simp only[cE,ef,cond_false,zD4];rw[<-zC9];exact ((List.Sublist.refl _).append (List.take_sublist _ _)).append (List.Sublist.refl _)
 .simp only[cE,ef,cond_true,zD0];exact ((List.Sublist.refl _).append (List.drop_sublist _ _)).append (List.Sublist.refl _)
def Gm{α β:Type}(l:List α)(g:List β)(n:Nat):(l.zip g).take n=(l.take n).zip (g.take n):=by simp only[List.zip,List.take_zipWith]
def Fl{α β:Type}(l:List α)(g:List β)(n:Nat):(l.zip g).drop n=(l.drop n).zip (g.drop n):=by simp only[List.zip,List.drop_zipWith]
def Jv{α β:Type}(l:List α)(g:List β)(a m k:Nat)(up:Bool)(h:l.length=g.length):(cE l a m k up).zip (cE g a m k up)=cE (l.zip g) a m k up:=by
 cases up
 .simp[cE,Gm]
 .simp only[cE,cond_true];rw[List.zip_append pu];simp[Gm,Fl]
def JU{α β:Type}(l:List α)(g:List β)(a m k:Nat)(up:Bool)(h:l.length=g.length):(ef l a m k up).zip (ef g a m k up)=ef (l.zip g) a m k up:=by
 cases up
 .simp only[ef,cond_false];rw[List.zip_append pu];simp[Gm,Fl]
 .simp[ef,Fl]
def xL(w:Nat)(g:List (List Ce))(a b n:Nat)(up:Bool):fT w g a b n up=cE g a (b+1-a) (min n (b+1-a)) up++List.replicate (min n (b+1-a)) (bT w)++ef g a (b+1-a) (min n (b+1-a)) up:=by cases up<;>simp[fT,cE,ef]
theorem vL(x:Tm)(a b n:Nat)(up:Bool):x.fe a b n up={x with grid:=fT x.w x.grid a b n up}:=rfl
def FB(H:aa)(p:Rp)(x:Tm)(f u n:Nat)(up:Bool)(g:b7 H p x)(s:x.Sz)(ok:H.base<=H.next)(htb:f<=u)(hbh:u<x.h)(hn1:1<=n)(hn2:n<=10000) :
  gp 82 [i7 i8 (f:Int),i7 i8 (u:Int),i7 i8 (n:Int),kw up] H p (.tuple #[]) (x.fe f u n up):=by
 obtain⟨b,hb⟩:=ac (H.next);have hT:p.t<b:=hb▸g.lt p.t nl;have hR:p.rb<H.next:=g.lt p.rb nl;have h1:=g.cell;simp only[aW]at h1;have s1:=s.h2;have s2:=s.w2;have s3:=s.w1;obtain⟨m,hm⟩:=ac (u+1-f);obtain⟨k,hk⟩:=ac (min n m);have B:k<=m:=by omega
 have hk1:1<=k:=by omega
 have htm:f+m<=x.h:=by omega
 have hrl:=g.len;have hwb:IntKind.i64.wrap ((u:Int)+1)=((u+1:Nat):Int):=bA li;have hmin:min (n:Int) (m:Int)=(k:Int):=by omega
 have hwk:IntKind.i64.wrap ((m:Int)-(k:Int))=((m-k:Nat):Int):=by have:=ak (n:=(m:Int)-(k:Int)) li li;rw[show IntKind.i64.wrap ((m:Int)-(k:Int))=_ from this]; omega
 have hrs:=wF p.rs f m;have I:=g.rows;rw[hrs]at I;have hA:(p.rs.take f).length=f:=by simp; omega
 have hS:((p.rs.drop f).take m).length=m:=by simp; omega
 have hZ:x.h=f+m+(p.rs.drop (f+m)).length:=by simp; omega
 have hsc:∀ q∈p.rs.take f++(p.rs.drop f).take m++p.rs.drop (f+m),q.1<H.next:=by rw[<-hrs];intro q hq;exact g.lt q.1 (by simp only[Rp.au,zA9,zB4,zB6]; exact .inr (.inr (.inl (.inl ⟨q,hq,rfl⟩))))
 have hu:Tryz.prog.underlying 39=ap (.slice 56):=by kernel_rfl
 have U:bg Tryz.prog 56=ap 1:=by kernel_rfl
 have hsl0:cw Tryz.prog (ext H []) 39 (jp (ap ⟨p.rb,0,bi⟩) x.h x.h) (ap (i7 i8 (f:Int))) (ap (i7 i8 ((u+1:Nat):Int))) bi=ap (jp (ap ⟨p.rb,f,bi⟩) m (x.h-f),ext H []):=by have:=oS (P:=Tryz.prog) (H:=H) (n:=p.rb) (off:=0) (len:=x.h) (cap:=x.h) hu U (cz (d:=0) (k:=f)) (cz (d:=x.h) (k:=u+1)) li li li I rfl;rw[hm,zC6,zE5]at this;exact this
 refine aH mixed Tryz.func82 rfl Tryz.ntmps82 (zA8 rfl) ?_;refine fW (fun j M=>M=H/\j 0=i9 (ap ⟨p.t,0,bi⟩)/\j 3=i7 i8 (n:Int)/\j 4=kw up/\j 10=jp (ap ⟨p.rb,f,bi⟩) m (x.h-f)) ?_ ?_
 .simp (maxDischargeDepth:=6) only[hb,hT,h1,hwb,hsl0,zW,seval];refine ah ⟨rfl,?_,?_,?_,?_⟩<;>simp only[aE,seval]
 rintro E X ⟨rfl,W,g3,g4,o⟩;refine fW (fun j M=>M=X/\j 0=i9 (ap ⟨p.t,0,bi⟩)/\j 3=i7 i8 (k:Int)/\j 4=kw up/\j 10=jp (ap ⟨p.rb,f,bi⟩) m (x.h-f)) ?_ ?_
 .simp (maxDischargeDepth:=6) only[g3,o,hmin,zW,seval];refine ah ⟨rfl,?_,?_,?_,?_⟩<;>simp only[W,g4,o,aE,seval]
 clear W g3 g4 o E;rintro E Y ⟨rfl,W,g3,g4,o⟩;refine fW (fun j M=>∃ D c,Mod [p.rb] Y M/\M.next=Y.next/\List.length D=k/\bk M p.rb=ap ⟨56,bv,(cE p.rs f m k up++D++ef p.rs f m k up).map (aM x.w)⟩/\j 0=i9 (ap ⟨p.t,0,bi⟩)/\j 10=jp (ap ⟨p.rb,(cE p.rs f m k up).length,bi⟩) k c) ?_ ?_
 .rw[kp p.rs up li B]
  cases up with
  |true =>
   obtain⟨sv,V,e1,e2,e3,e4,e5⟩:=O5 (X:=Y) (n:=k) (h:=x.h) hR I hA hS hZ B hk1 hsc;rw[show Y=ext Y [] from rfl]at e1;rw[show V=ext V [] from rfl,show aF Tryz.prog Y=aF Tryz.prog (ext Y []) from rfl]at e2;have e6:=oS (P:=Tryz.prog) (H:=V) (n:=p.rb) (off:=f) (len:=m) (cap:=x.h-f) (hi:=bi) hu U (cz (d:=0) (k:=m-k)) rfl li li li e5 rfl;rw[show V=ext V [] from rfl]at e6;rw[show Y=ext Y [] from rfl];simp (maxDischargeDepth:=6) only[g3,g4,o,e1,e2,e6,hwk,zW,seval];refine ah ⟨((p.rs.drop f).take m).drop (m-k),x.h-f-(m-k),e3,e4,by simp; omega,?_,?_,?_⟩
   .rw[ext_nil,e5]; simp[cE,ef]
   .simp only[W,aE,seval]
   .simp only[aE];rw[show m-(m-k)=k by omega,zE5];rfl
  |false =>
   obtain⟨sv,V,e1,⟨kv,e2⟩,e3,e4,e5⟩:=Jo (X:=Y) (n:=k) (h:=x.h) hR I hA hS hZ B hk1 hsc;rw[show Y=ext Y [] from rfl]at e1;rw[show V=ext V [] from rfl,show aF Tryz.prog Y=aF Tryz.prog (ext Y []) from rfl]at e2;have e6:=oS (P:=Tryz.prog) (H:=V) (n:=p.rb) (off:=f) (len:=m) (cap:=x.h-f) (lo:=bi) hu U rfl (cz (d:=m) (k:=k)) li li li e5 rfl;rw[show V=ext V [] from rfl]at e6;rw[show Y=ext Y [] from rfl];simp (maxDischargeDepth:=6) only[g3,g4,o,e1,e2,e6,zW,seval];refine ah ⟨((p.rs.drop f).take m).take k,x.h-f-0,e3,e4,by simp; omega,?_,?_,?_⟩
   .rw[ext_nil,e5]; simp[cE,ef]
   .simp only[W,aE,seval]
   .simp only[aE];rfl
 clear W g3 g4 o E;rintro E X ⟨D,c,Z,nX,hD,F,W,o⟩;have hRA:(cE p.rs f m k up).length+k+(ef p.rs f m k up).length=x.h:=by rw[kp p.rs up li B,sS p.rs up li B];cases up<;>simp<;>omega
 have hgl:x.grid.length=x.h:=rfl;have htne:p.t≠p.rb:=fun e=>(zB8.1 g.nd).1 (by rw[e]; simp);rw[show X=ext X [] from rfl];simp (maxDischargeDepth:=6) only[o,zW,seval];refine c7 fun j hE=>?_;have f0:j 0=i9 (ap ⟨p.t,0,bi⟩):=by rw[hE]; simp only[W,aE,seval]
 have R:j 10=jp (ap ⟨p.rb,(cE p.rs f m k up).length,bi⟩) k c:=by rw[hE]; simp only[o,aE,seval]
 have J:j 45=i7 i8 (k:Int):=by rw[hE]; simp only[aE,seval]
 have K:j 46=i7 i8 ((0:Nat):Int):=by rw[hE]; (simp only[aE]<;>rfl)
 clear hE W o E
 refine b8 (fun (N:List (Nat × Bool)) j M=>Mod [p.rb] Y M/\N.length<=k/\bk M p.rb=ap ⟨56,bv,(cE p.rs f m k up++N++D.drop N.length++ef p.rs f m k up).map (aM x.w)⟩/\(∀ q∈N,Y.next<=q.1/\q.1<M.next/\bk M q.1=ap ⟨77,q.2,aQ (bT x.w)⟩)/\(N.map (·.1)).Nodup/\j 0=i9 (ap ⟨p.t,0,bi⟩)/\j 10=jp (ap ⟨p.rb,(cE p.rs f m k up).length,bi⟩) k c/\j 45=i7 i8 (k:Int)/\j 46=i7 i8 (N.length:Int)) (fun N=>k-N.length) []
  ⟨Z,zB7 _,by rw[ext_nil]; simpa using F,by simp,by simp,f0,R,J,K⟩ ?_
 clear f0 R J K Z nX F X j;rintro N E X ⟨Z,hN,F,hq,hnd,f0,R,J,K⟩;rw[show X=ext X [] from rfl];by_cases hNk:N.length=k
 .have hd:ge ((N.length:Int)<(k:Int))=false:=decide_eq_false li;simp (maxDischargeDepth:=6) only[J,K,hd,Tryz.results82,zW,seval];rw[show D.drop N.length=[] from zE8 li,zD4]at F;refine⟨trivial,{p with rs:=cE p.rs f m k up++N++ef p.rs f m k up},?_⟩;have hG:=xL x.w x.grid f u n up;rw[hm,hk]at hG;rw[vL,hG];have hrN:(List.replicate k (bT x.w)).length=N.length:=by simp[hNk]
  have hlA:(cE p.rs f m k up).length=(cE x.grid f m k up).length:=by rw[kp p.rs up li B,kp x.grid up li B]
  have hzip:(cE p.rs f m k up++N++ef p.rs f m k up).zip (cE x.grid f m k up++List.replicate k (bT x.w)++ef x.grid f m k up)=cE (p.rs.zip x.grid) f m k up++N.zip (List.replicate k (bT x.w))++ef (p.rs.zip x.grid) f m k up:=by rw[List.zip_append (by simp only[zB2]; omega),List.zip_append hlA,Jv _ _ _ _ _ _ li,JU _ _ _ _ _ _ li]
  have hsub:=r8 (p.rs.zip x.grid) f m k up;have C:=r8 p.rs f m k up;have hndr:(p.rs.map (·.1)).Nodup:=by have hnd0:=g.nd;simp only[Rp.au]at hnd0;exact (zD5.1 (zD5.1 (zB8.1 (zB8.1 hnd0).2).2).1).1
  have hold:∀ q∈p.rs,q.1<Y.next:=fun q A=>g.lt q.1 (by simp only[Rp.au,zA9,zB4,zB6]; exact .inr (.inr (.inl (.inl ⟨q,A,rfl⟩))));refine g.Ld (Y:=ext X []) Z (cE p.rs f m k up++N++ef p.rs f m k up) _ F ?_ ?_ ?_ ?_ ?_ ?_
  .simp only[zB2]; omega
  .simp only[zB2,zG2];rw[kp x.grid up li B,sS x.grid up li B];cases up<;>simp<;>omega
  .intro z hz;rw[hzip]at hz;simp only[zB4]at hz;rcases hz with (hz|hz)|hz
   .exact .inl (hsub.mem (by simp[hz]))
   .have h2:=Ct.1 hz;obtain⟨i,h3,h4⟩:=h2;have h5:=hq z.1 (zC0 h3);have h6:z.2=bT x.w:=by have:=zC0 h4;exact List.eq_of_mem_replicate this
    exact .inr ⟨h5.1,by rw[h6]; exact h5.2.2⟩
   .exact .inl (hsub.mem (by simp[hz]))
  .rw[List.map_append,List.map_append];refine JE ?_ hnd ?_
   .rw[<-List.map_append];exact (C.map _).nodup hndr
   .intro a ha hb';obtain⟨q,A,rfl⟩:=zB6.1 ha;rw[<-List.map_append]at hb';obtain⟨q2,hq2,e⟩:=zB6.1 hb';have h7:=hold q2 (C.mem hq2);have h8:=(hq q A).1;omega
  .intro q A;simp only[zB4]at A;rcases A with (h|h)|h
   .exact .inl (C.mem pu)
   .exact .inr ⟨(hq q h).1,(hq q h).2.1⟩
   .exact .inl (C.mem pu)
  .have dK:0<(cE x.grid f m k up++List.replicate k (bT x.w)++ef x.grid f m k up).length:=by simp; omega
   have hall:∀ l∈cE x.grid f m k up++List.replicate k (bT x.w)++ef x.grid f m k up,l.length=x.w:=by
    have S:=r8 x.grid f m k up;intro l hl;simp only[zB4]at hl;rcases hl with (h|h)|h
    .exact s.ws l (S.mem pu)
    .rw[List.eq_of_mem_replicate h]; simp
    .exact s.ws l (S.mem pu)
   show ((cE x.grid f m k up++List.replicate k (bT x.w)++ef x.grid f m k up).headD []).length=x.w;generalize cE x.grid f m k up++List.replicate k (bT x.w)++ef x.grid f m k up=L at dK hall
   cases L with
   |nil=>simp at dK
   |cons a r=>exact hall a lw
 .have hlt:N.length<k:=by omega
  have hd:ge ((N.length:Int)<(k:Int))=true:=decide_eq_true li;have okX:=Z.ok ok;obtain⟨O,hxn⟩:=ac (X.next);have hxb:X.base<=O:=hxn▸okX;have hRx:p.rb<O:=hxn▸Z.lt hR;have h1X:bk X p.t=ap ⟨66,gc,aW p x⟩:=(Z.bk (g.lt p.t nl) (by simp only[zA6]; exact htne)).trans g.cell;have hw:=NZ X p x _ h1X F s.h1 (by intro e; have:=congrArg List.length e; simp only[zB2,zC1,zB0]at this; omega)
  obtain⟨d,hdd⟩:∃ d,D.drop N.length=d::D.drop (N.length+1):=⟨_,List.drop_eq_getElem_cons li⟩
  have hia:=KN (len:=k) (cap:=c) (n:=p.rb) (off:=(cE p.rs f m k up).length) (s:=bi) (i:=(N.length:Int)) (k:=N.length) rfl hlt
  have hput:cQ ((cE p.rs f m k up++N++D.drop N.length++ef p.rs f m k up).map (aM x.w)) ((cE p.rs f m k up).length+N.length) [jp (ap ⟨O+0,0,ap 0⟩) x.w x.w]=(cE p.rs f m k up++(N++[(O+0,gc)])++D.drop (N++[(O+0,gc)]).length++ef p.rs f m k up).map (aM x.w):=by
   have e1:(cE p.rs f m k up++N++D.drop N.length++ef p.rs f m k up).map (aM x.w)=(cE p.rs f m k up++N).map (aM x.w)++(aM x.w d::(D.drop (N.length+1)++ef p.rs f m k up).map (aM x.w)):=by rw[hdd]; simp
   have e2:(cE p.rs f m k up).length+N.length=((cE p.rs f m k up++N).map (aM x.w)).length:=by simp
   rw[e1,e2,ng _ _ _ lw];simp[aM]
  have hst:∀ v,v=jp (ap ⟨O+0,0,ap 0⟩) x.w x.w->sQ Tryz.prog 56 (O+1) ((cE p.rs f m k up).length+N.length) v (ap ⟨56,bv,(cE p.rs f m k up++N++D.drop N.length++ef p.rs f m k up).map (aM x.w)⟩)=ap ⟨56,bv,cQ ((cE p.rs f m k up++N++D.drop N.length++ef p.rs f m k up).map (aM x.w)) ((cE p.rs f m k up).length+N.length) [v]⟩:=by rintro v rfl;exact nA (v:=jp (ap ⟨O+0,0,ap 0⟩) x.w x.w) (by exact U) (by simp only[zE9,zB2,zC1,zA3,zB0,Value.cells]; omega) rfl (by simp only[Value.cells,aX,aV,Bool.and_true]; exact bx li)
  have hws:=bA (show N.length<1000000 by omega);simp (maxDischargeDepth:=6) only[f0,R,J,K,hd,zW,seval];refine (show br Tryz.prog 71 _ (ext X []) _ _ from hw).to ?_;simp (maxDischargeDepth:=6) only[zW,seval];refine (Ec x.w s3 s2 (ext X [])).to ?_;simp (maxDischargeDepth:=6) only[K,hxn,hRx,F,hia,hst _ rfl,hws,zW,seval];have mU:Mod [p.rb] X (uw X p.rb ((cE p.rs f m k up).length+N.length) [jp (ap ⟨O+0,0,ap 0⟩) x.w x.w]):=Mod.uw lw;have T:(uw X p.rb ((cE p.rs f m k up).length+N.length) [jp (ap ⟨O+0,0,ap 0⟩) x.w x.w]).next=O:=by rw[bE,hxn]
  refine aC ⟨N++[(O+0,gc)],by simp only[zB2,zA3,zB0]; omega,(Z.trans mU).trans (Mod.ext (mU.ok okX)),by simp only[zB2,zA3,zB0]; omega,?_,?_,?_,?_,?_,?_,?_⟩
  .rw[iI (by rw[T]; exact hRx),bR,F,zB1,r6,hput]
  .intro q A;rcases zB4.1 A with h|h
   .obtain⟨q1,q2,q3⟩:=hq q h;refine⟨q1,by rw[aA,T]; omega,?_⟩;rw[iI (by rw[T]; omega),eJ (by have:=hR; omega)];exact q3
   .simp only[zA6]at h;subst h;refine⟨by have:=Z.next; omega,by rw[aA,T]; simp,?_⟩;rw[bJ T lw];rfl
  .rw[List.map_append];refine zD5.2 ⟨hnd,by simp,fun a ha b' hb' e=>?_⟩;obtain⟨q,A,rfl⟩:=zB6.1 ha;simp only[zB9,zE6,zA6]at hb';have:=(hq q A).2.1;omega
  .simp only[f0,aE,seval]
  .simp only[R,aE,seval]
  .simp only[J,aE,seval]
  .simp only[aE,seval,zB2,zA3,zB0]
def er{a b:Int}{d:Bool}(h:ge (a=b)=d):a=b ↔ d=true:=by rw[<-h,decide_eq_true_iff]
theorem gS(x:Tm):x.width=(x.w:Int):=rfl
theorem ja(x:Tm):x.eQ=(x.h:Int):=rfl
def Tm.Sz.aU{x:Tm}(s:x.Sz)(l:List Int):(x.aU l).Sz/\(x.aU l).h=x.h/\(x.aU l).w=x.w/\(x.aU l).row=x.row:=by
 obtain⟨r,b⟩:∃ r:Nat,x.row=r:=⟨x.row.toNat,by have:=s.r1; omega⟩
 have hi:=eT s
 obtain⟨i,c⟩:∃ i:Nat,x.inside=i:=⟨x.inside.toNat,by omega⟩
 have a:r<x.h:=by have:=s.r2; omega
 unfold Tm.aU;rw[gS];split
 .rw[b,c];exact⟨s.blank a li li,(ft s a li li).1,(ft s a li li).2,b⟩
 .split
  .rw[b,c,show ((i:Nat):Int)+1=((i+1:Nat):Int) from by omega,show (0:Int)=((0:Nat):Int) from rfl];exact⟨s.blank a li li,(ft s a li li).1,(ft s a li li).2,b⟩
  .split
   .rw[b,show (0:Int)=((0:Nat):Int) from rfl];exact⟨s.blank a li li,(ft s a li li).1,(ft s a li li).2,b⟩
   .exact⟨s,rfl,rfl,rfl⟩
def yV(H:aa)(p:Rp)(x:Tm)(v:gt)(l:List Int)(g:b7 H p x)(s:x.Sz)(ok:H.base<=H.next)(O:kI H v l):gp 146 [v] H p (.tuple #[]) (x.aU l):=by
 obtain⟨b,e⟩:=ac H.next;have R:p.t<b:=e▸g.lt p.t nl;have L:=g.cell;simp only[aW]at L;have s2:=s.w2
 obtain⟨r,M⟩:∃ r:Nat,x.row=r:=⟨x.row.toNat,by have:=s.r1; omega⟩
 have hi:=eT s
 obtain⟨i,F⟩:∃ i:Nat,x.inside=i:=⟨x.inside.toNat,by omega⟩
 have A:r<x.h:=by have:=s.r2; omega
 obtain⟨a,Z,rfl⟩:∃ a r,l=a::r:=by cases l with|nil=>exact absurd rfl O.ne|cons a r=>exact⟨a,r,rfl⟩
 obtain⟨n,off,f,S,dK,m⟩:=O.at_.get (k:=0) (c:=a) rfl;rw[show ((0:Nat):Int)=0 from rfl]at f
 obtain⟨T,p9⟩:∃ d,ge (a=0)=d:=⟨_,rfl⟩
 obtain⟨U,o⟩:∃ d,ge (a=1)=d:=⟨_,rfl⟩
 obtain⟨V,B⟩:∃ d,ge (a=2)=d:=⟨_,rfl⟩
 have e0:=er p9;have e1:=er o;have e2:=er B;have W:IntKind.i64.wrap (x.inside+1)=((i+1:Nat):Int):=by have:=ak (n:=x.inside+1) li li;rw[show IntKind.i64.wrap (x.inside+1)=_ from this]; omega
 have q:n<b:=e▸O.lt n S;have X:x.aU (a::Z)=cond T (x.blank r i x.w) (cond U (x.blank r (0:Nat) (i+1:Nat)) (cond V (x.blank r (0:Nat) x.w) x)):=by unfold Tm.aU;simp only[List.headD_cons,e0,e1,e2,M,F,gS];cases T<;>cases U<;>cases V<;>rfl
 rw[X];have I:∀ K,b7 K p x->Pure 34 [i9 (ap ⟨p.t,0,bi⟩)] K (i7 i8 x.inside):=fun K gK=>oH K p x gK s;refine aH mixed Tryz.func146 rfl Tryz.ntmps146 (zA8 rfl) ?_
 cases T with
 |true =>
  simp only[e,f,q,m,p9,cond_true,zW,seval];refine aK [(10,5),(10,7),(10,9)] [] ls ls rfl fun ops anc u Y=>?_;simp only[aj]at u;simp only[e,R,L,bh,zW,seval];refine aN (v:=i7 i8 x.inside) p.au (by simp only[aE,seval]) ls mt g.ne (fun K C D=>?_) (by simp (maxDischargeDepth:=6) only[bh]) ?_
  .simp only[aE];exact I K (g.of (by rw[C]; exact zA5 _) D)
  simp only[e,bh,zW,seval];refine aN (v:=i7 i8 (x.w:Int)) p.au (by simp only[aE,seval]) ls mt g.ne (fun K C D=>?_) (by simp (maxDischargeDepth:=6) only[bh]) ?_
  .simp only[aE];exact iK K p x (g.of (by rw[C]; exact zA5 _) D) s
  simp only[e,bh,fX,seval];refine ei (as':=[i7 i8 x.row,i7 i8 x.inside,i7 i8 (x.w:Int)]) g ok rfl ls mt rfl (by simp only[aj,bu,u,true_or,and_true]) (fun G J j=>by rw[M,F]; exact rT J s j A li (zA5 _)) fun H1 p1 st=>?_;rw[show H1=ext H1 [] from rfl];simp only[Tryz.results146,bh,fX];exact⟨p1,st⟩
 |false =>
  cases U with
  |true =>
   simp only[e,f,q,m,p9,o,cond_true,cond_false,zW,seval];refine aK [(9,5),(9,7)] [] ls ls rfl fun ops anc u Y=>?_;simp only[aj]at u;simp only[e,R,L,bh,zW,seval];refine aN (v:=i7 i8 x.inside) p.au (by simp only[aE,seval]) ls mt g.ne (fun K C D=>?_) (by simp (maxDischargeDepth:=6) only[bh]) ?_
   .simp only[aE];exact I K (g.of (by rw[C]; exact zA5 _) D)
   simp only[e,W,bh,zW,seval];refine ei (as':=[i7 i8 x.row,i7 i8 ((0:Nat):Int),i7 i8 ((i+1:Nat):Int)]) g ok rfl ls mt (by simp only[aE,seval]<;>rfl) (by simp only[aj,bu,u,true_or,and_true]) (fun G J j=>by rw[M]; exact rT J s j A li li) fun H1 p1 st=>?_;rw[show H1=ext H1 [] from rfl];simp only[Tryz.results146,bh,fX];exact⟨p1,st⟩
  |false =>
   cases V with
   |true =>
    simp only[e,f,q,m,p9,o,B,cond_true,cond_false,zW,seval];refine aK [(8,5),(8,7)] [] ls ls rfl fun ops anc u Y=>?_;simp only[aj]at u;simp only[e,R,L,bh,zW,seval];refine aN (v:=i7 i8 (x.w:Int)) p.au (by simp only[aE,seval]) ls mt g.ne (fun K C D=>?_) (by simp (maxDischargeDepth:=6) only[bh]) ?_
    .simp only[aE];exact iK K p x (g.of (by rw[C]; exact zA5 _) D) s
    simp only[e,bh,fX,seval];refine ei (as':=[i7 i8 x.row,i7 i8 ((0:Nat):Int),i7 i8 (x.w:Int)]) g ok rfl ls mt (by simp only[aE,seval]<;>rfl) (by simp only[aj,bu,u,true_or,and_true]) (fun G J j=>by rw[M]; exact rT J s j A li (zA5 _)) fun H1 p1 st=>?_;rw[show H1=ext H1 [] from rfl];simp only[Tryz.results146,bh,fX];exact⟨p1,st⟩
   |false =>simp only[e,f,q,m,p9,o,B,cond_false,Tryz.results146,zW,seval];exact⟨trivial,p,Step.refl g⟩
def Tm.bK(l:List Int)(i:Nat)(t:Tm):Tm :=
 if (i<t.row/\(l.headD 0=1\/l.headD 0=2))\/(i>t.row/\(l.headD 0=0\/l.headD 0=2)) then t.blank i (0:Nat) t.w else t
theorem cV(l:List Int)(i k:Nat)(t:Tm):Tm.bL l i (k+1) t=Tm.bL l (i+1) k (t.bK l i):=rfl
def Tm.Sz.bK{x:Tm}(s:x.Sz)(l:List Int){i:Nat}(hi:i<x.h):(x.bK l i).Sz/\(x.bK l i).h=x.h/\(x.bK l i).w=x.w/\(x.bK l i).row=x.row:=by
 unfold Tm.bK;split
 .exact⟨s.blank hi (zB7 _) (zA5 _),(ft s hi (zB7 _) (zA5 _)).1,(ft s hi (zB7 _) (zA5 _)).2,rfl⟩
 .exact⟨s,rfl,rfl,rfl⟩
def Tm.Sz.bL(l:List Int):∀(k i:Nat){x:Tm},x.Sz->i+k<=x.h->(Tm.bL l i k x).Sz
 |0,_,_,s,_=>s
 |k+1,i,x,s,h=>by rw[cV];obtain⟨a,b,_,_⟩:=s.bK l (i:=i) li;exact Tm.Sz.bL l k (i+1) a li
def Tm.Sz.cf{x:Tm}(s:x.Sz)(l:List Int):(x.cf l).Sz:=by obtain⟨a,b,_,_⟩:=s.aU l;exact Tm.Sz.bL l _ _ a (by rw[b]; simp[Tm.h])
def F6(H:aa)(p:Rp)(x:Tm)(v:gt)(l:List Int)(g:b7 H p x)(s:x.Sz)(ok:H.base<=H.next)(O:kI H v l)(hv:∀ n∈ae v,n∉p.au):gp 145 [v] H p (.tuple #[]) (x.cf l):=by
 have s1:=s.h2;obtain⟨a,m,rfl⟩:∃ a r,l=a::r:=by cases l with|nil=>exact absurd rfl O.ne|cons a r=>exact⟨a,r,rfl⟩
 obtain⟨n,off,C,D,dK,hld⟩:=O.at_.get (k:=0) (c:=a) rfl;rw[show ((0:Nat):Int)=0 from rfl]at C
 obtain⟨d0,p9⟩:∃ d,ge (a=0)=d:=⟨_,rfl⟩
 obtain⟨d1,F⟩:∃ d,ge (a=1)=d:=⟨_,rfl⟩
 obtain⟨d2,I⟩:∃ d,ge (a=2)=d:=⟨_,rfl⟩
 have e0:=er p9;have e1:=er F;have e2:=er I;obtain⟨sA,hA,wA,rA⟩:=s.aU (a::m);refine aH mixed Tryz.func145 rfl Tryz.ntmps145 (zA8 rfl) ?_;simp only[zW,seval];refine (yV (ext H []) p x v (a::m) g s ok O).mono ?_;rintro _ H1 ⟨rfl,p1,st⟩;rw[ext_nil]at st;rw[show H1=ext H1 [] from rfl];have R:p.t<H1.next:=st.same▸st.at_.lt p1.t nl;have u:=st.at_.cell;rw[st.same]at u;simp only[aW,hA]at u;simp only[R,u,zW,seval];refine c7 fun E S=>?_;have J:E 0=i9 (ap ⟨p.t,0,bi⟩):=by rw[S]; rfl
 have K:E 1=v:=by rw[S]; rfl
 have e:E 12=i7 i8 (x.h:Int):=by rw[S]; rfl
 have f:E 13=i7 i8 ((0:Nat):Int):=by rw[S]; rfl
 clear S u R
 refine b8 (fun (q:Nat × Tm × Rp) V H'=>Step H p H' q.2.2 q.2.1/\q.2.1.Sz/\q.2.1.h=x.h/\q.2.1.w=x.w/\q.2.1.row=x.row/\q.1<=x.h/\Tm.bL (a::m) q.1 (x.h-q.1) q.2.1=x.cf (a::m)/\V 0=i9 (ap ⟨p.t,0,bi⟩)/\V 1=v/\V 12=i7 i8 (x.h:Int)/\V 13=i7 i8 (q.1:Int)) (fun q=>x.h-q.1) (0,x.aU (a::m),p1)
  ⟨st,sA,hA,wA,rA,zB7 _,rfl,J,K,e,f⟩ ?_
 clear J K e f st sA hA wA rA p1 H1 E;rintro⟨i,y,p1⟩ E X ⟨st,W,hy,wy,ry,hi,j,J,K,e,f⟩;simp only at st W hy wy ry hi j f;have okX:=st.ok ok;rw[show X=ext X [] from rfl];by_cases hih:i=x.h
 .have Z:ge ((i:Int)<(x.h:Int))=false:=decide_eq_false li;simp only[e,f,Z,Tryz.results145,zW,seval];rw[hih,zG0]at j;rw[<-j];exact⟨trivial,p1,st⟩
 .have Z:ge ((i:Int)<(x.h:Int))=true:=decide_eq_true li;have hilt:i<x.h:=by omega
  obtain⟨b,hb⟩:=ac X.next;have hT:p.t<b:=hb▸st.same▸st.at_.lt p1.t nl;have T:n<b:=hb▸zD1 (O.lt n D) st.mod.next;have A:∀ q,rl Tryz.prog 3 off (CW (bk X n) q)=ap (i7 i8 a):=fun q=>by rw[st.mod.bk (O.lt n D) (hv n D)]; exact hld q
  have u:=st.at_.cell;rw[st.same]at u;simp only[aW]at u
  obtain⟨dl,L⟩:∃ d,ge ((i:Int)<y.row)=d:=⟨_,rfl⟩
  obtain⟨dg,M⟩:∃ d,ge (y.row<(i:Int))=d:=⟨_,rfl⟩
  have el:(i:Int)<y.row ↔ dl=true:=by rw[<-L,decide_eq_true_iff]
  have eg:y.row<(i:Int) ↔ dg=true:=by rw[<-M,decide_eq_true_iff]
  have B:y.bK (a::m) i=cond ((dl&&(d1||d2))||(dg&&(d0||d2))) (y.blank i (0:Nat) y.w) y:=by unfold Tm.bK;simp only[List.headD_cons,gt_iff_lt,el,eg,e0,e1,e2];cases dl<;>cases dg<;>cases d0<;>cases d1<;>cases d2<;>rfl
  obtain⟨sO,hO,wO,rO⟩:=W.bK (a::m) (i:=i) li;have o:Tm.bL (a::m) (i+1) (x.h-(i+1)) (y.bK (a::m) i)=x.cf (a::m):=by rw[<-j,show x.h-i=(x.h-(i+1))+1 by omega,cV]
  have hW:br Tryz.prog 71 [i9 (ap ⟨p.t,0,bi⟩)] (ext X []) (.ok (i7 i8 (y.w:Int))) (ext X []):=by rw[<-st.same]; exact iK X p1 y st.at_ W
  have hB:aL Tryz.prog 137 [i9 (ap ⟨p.t,0,bi⟩),i7 i8 (i:Int),i7 i8 0,i7 i8 (y.w:Int)] (ext X []) (fun out H1=>out=.ok (.tuple #[])/\∃ p2,Step X p1 H1 p2 (y.blank i (0:Nat) y.w)):=by rw[<-st.same]; exact rT st.at_ W okX li (zB7 _) (zA5 _)
  have U:=bA (show i<1000000 by omega)
  cases dl<;>cases dg<;>cases d0<;>cases d1<;>cases d2<;>first
   |(exfalso; first|(have q1:=el.2 rfl; have q2:=eg.2 rfl; omega)|(have q1:=e0.2 rfl; have q2:=e1.2 rfl; omega)|(have q1:=e0.2 rfl; have q2:=e2.2 rfl; omega)|(have q1:=e1.2 rfl; have q2:=e2.2 rfl; omega))
   | (simp only [J, K, e, f, Z, U, hb, hT, u, C, T, A, L, M, p9, F, I, zW, seval]
      refine aC ⟨(i+1,y.bK (a::m) i,p1),by simp only; omega,by rw[B]; exact st,sO,hO.trans hy,wO.trans wy,rO.trans ry,by simp only; omega,o,?_,?_,?_,?_⟩<;>simp only[J,K,e,aE,seval])
   | (simp only [J, K, e, f, Z, hb, hT, u, C, T, A, L, M, p9, F, I, zW, seval]
      refine hW.to ?_;simp only[zW,seval];refine hB.mono ?_;rintro _ Y ⟨rfl,p2,st2⟩;rw[show Y=ext Y [] from rfl];simp only[f,U,zW,seval]
      refine aC ⟨(i+1,y.bK (a::m) i,p2),by simp only; omega,by rw[B]; exact st.trans ok st2,sO,hO.trans hy,wO.trans wy,rO.trans ry,by simp only; omega,o,?_,?_,?_,?_⟩<;>simp only[J,K,e,aE,seval])
def wC{x:Tm}(s:x.Sz){b c n:Nat}(up:Bool)(k:b<=c)(q:c<x.h):(x.fe b c n up).h=x.h/\(x.fe b c n up).w=x.w/\(∀ l∈(x.fe b c n up).grid,l.length=x.w/\(l.getD 0 sp).rune≠-1):=by
 have m:x.grid.length=x.h:=rfl
 have e:∀ l∈(x.fe b c n up).grid,l.length=x.w/\(l.getD 0 sp).rune≠-1:=by
  have g:=r8 x.grid b (c+1-b) (min n (c+1-b)) up;rw[vL,xL];intro l j;simp only[zB4]at j;rcases j with (h|h)|h
  .have:=g.mem (a:=l) pu; exact⟨s.ws l this,s.hd l this⟩
  .rw[List.eq_of_mem_replicate h];refine⟨by simp,?_⟩;have:=s.w1
   obtain⟨w,o⟩:∃ w,x.w=w+1:=⟨x.w-1,by omega⟩
   rw[o];simp[List.replicate_succ,ru]
  .have:=g.mem (a:=l) pu; exact⟨s.ws l this,s.hd l this⟩
 have f:(x.fe b c n up).grid.length=x.h:=by rw[vL,xL];simp only[zB2,zG2];rw[kp x.grid up li li,sS x.grid up li li];cases up<;>simp<;>omega
 refine⟨f,?_,e⟩;have k:=s.h1;show ((x.fe b c n up).grid.headD []).length=x.w;generalize (x.fe b c n up).grid=L at e f
 cases L with
 |nil=>simp at f; omega
 |cons a r=>exact (e a lw).1
def Tm.Sz.fe{x:Tm}(s:x.Sz){b a n:Nat}(up:Bool)(j:b<=a)(k:a<x.h):(x.fe b a n up).Sz:=by obtain⟨c,e,g⟩:=wC (n:=n) s up j k;exact⟨by rw[c]; exact s.h1,by rw[c]; exact s.h2,by rw[e]; exact s.w1,by rw[e]; exact s.w2,fun r f=>by rw[e]; exact (g r f).1,s.r1,by rw[c]; exact s.r2,s.c1,by rw[e]; exact s.c2,s.sr1,by rw[c]; exact s.sr2,s.sc1,by rw[e]; exact s.sc2,s.t1,s.t2,by rw[c]; exact s.t3,s.md,fun r f=>(g r f).2⟩
def Tm.Sz.lines{x:Tm}(s:x.Sz)(n:Nat)(up:Bool):(x.lines n up).Sz:=by
 unfold Tm.lines;split
 .rename_i h
  obtain⟨r,a⟩:∃ r:Nat,x.row=r:=⟨x.row.toNat,by have:=s.r1; omega⟩
  obtain⟨b,c⟩:∃ b:Nat,x.bottom=b:=⟨x.bottom.toNat,by have:=s.t1; have:=s.t2; omega⟩
  rw[a,c];have:=s.t3;exact s.fe up li li
 .exact s
def Jd(H:aa)(p:Rp)(x:Tm)(n:Nat)(up:Bool)(g:b7 H p x)(s:x.Sz)(ok:H.base<=H.next)(o:1<=n)(q:n<=10000):gp 160 [i7 i8 (n:Int),kw up] H p (.tuple #[]) (x.lines n up):=by
 obtain⟨b,e⟩:=ac H.next;have k:p.t<b:=e▸g.lt p.t nl;have f:=g.cell;simp only[aW]at f
 obtain⟨r,A⟩:∃ r:Nat,x.row=r:=⟨x.row.toNat,by have:=s.r1; omega⟩
 obtain⟨B,h⟩:∃ b:Nat,x.bottom=b:=⟨x.bottom.toNat,by have:=s.t1; have:=s.t2; omega⟩
 obtain⟨l,a⟩:∃ d,ge (x.top<=x.row)=d:=⟨_,rfl⟩
 obtain⟨m,c⟩:∃ d,ge (x.row<=x.bottom)=d:=⟨_,rfl⟩
 have D:x.row ≥ x.top ↔ l=true:=by rw[<-a,decide_eq_true_iff]
 have C:x.row<=x.bottom ↔ m=true:=by rw[<-c,decide_eq_true_iff]
 have u:x.lines n up=cond (l&&m) (x.fe r B n up) x:=by unfold Tm.lines;simp only[D,C];rw[A,h];cases l<;>cases m<;>rfl
 rw[u];refine aH mixed Tryz.func160 rfl Tryz.ntmps160 (zA8 rfl) ?_;simp only[zW,seval];refine aK [] [(10,16)] ls rfl ls fun ops anc v j=>?_;simp only[aj]at j
 cases l with
 |false =>simp only[e,k,f,a,j,zF7,cond_false,Tryz.results160,bh,zW,seval];exact⟨p,Step.refl g⟩
 |true =>
  cases m with
  |false =>simp only[e,k,f,a,c,j,Bool.true_and,cond_false,Tryz.results160,bh,zW,seval];exact⟨p,Step.refl g⟩
  |true =>simp only[e,k,f,a,c,j,Bool.true_and,cond_true,bh,zW,seval];refine aK [(12,5),(12,9)] [] ls ls rfl fun ops anc v j=>?_;simp only[aj]at v;simp only[e,k,f,bh,zW,seval];refine ei (as':=[i7 i8 x.row,i7 i8 x.bottom,i7 i8 (n:Int),kw up]) g ok rfl ls mt rfl (by simp only[aj,bu,v,true_or,and_true]) (fun G F w=>by rw[A,h]; exact FB G p x r B n up F s w (by have:=C.2 rfl; omega) (by have:=s.t3; omega) o q) fun H1 p1 st=>?_;rw[show H1=ext H1 [] from rfl];simp only[Tryz.results160,bh,fX];exact⟨p1,st⟩
def M5(H:aa)(p:Rp)(x:Tm)(v:gt)(l:List Int)(g:b7 H p x)(s:x.Sz)(ok:H.base<=H.next)(a:kI H v l):gp 147 [v] H p (.tuple #[]) (x.lines (count l) gc):=by
 have c:=a.count
 obtain⟨n,b⟩:∃ n:Nat,count l=n:=⟨(count l).toNat,by omega⟩
 refine aH mixed Tryz.func147 rfl Tryz.ntmps147 (zA8 rfl) ?_;simp only[zW,seval];refine (jx (ext H []) v l a.at_ a.ne).to ?_;rw[b];simp only[zW,seval];refine (Jd (ext H []) p x n gc g s ok li li).mono ?_;rintro _ H1 ⟨rfl,p1,st⟩;rw[show H1=ext H1 [] from rfl];simp only[Tryz.results147,fX,seval];exact⟨trivial,p1,st⟩
def NM(H:aa)(p:Rp)(x:Tm)(v:gt)(l:List Int)(g:b7 H p x)(s:x.Sz)(ok:H.base<=H.next)(a:kI H v l):gp 148 [v] H p (.tuple #[]) (x.lines (count l) bv):=by
 have c:=a.count
 obtain⟨n,b⟩:∃ n:Nat,count l=n:=⟨(count l).toNat,by omega⟩
 refine aH mixed Tryz.func148 rfl Tryz.ntmps148 (zA8 rfl) ?_;simp only[zW,seval];refine (jx (ext H []) v l a.at_ a.ne).to ?_;rw[b];simp only[zW,seval];refine (Jd (ext H []) p x n bv g s ok li li).mono ?_;rintro _ H1 ⟨rfl,p1,st⟩;rw[show H1=ext H1 [] from rfl];simp only[Tryz.results148,fX,seval];exact⟨trivial,p1,st⟩
def Tm.Sz.So{x:Tm}(s:x.Sz)(a b:Int)(c:0<=a)(e:a<=b)(f:b<x.h):Tm.Sz {x with top:=a,bottom:=b} :=
 ⟨s.h1,s.h2,s.w1,s.w2,s.ws,s.r1,s.r2,s.c1,s.c2,s.sr1,s.sr2,s.sc1,s.sc2,c,e,f,s.md,s.hd⟩
def Ev(x:Tm)(l:List Int):Int:=if snd l-1<0\/snd l-1 ≥ x.eQ then x.eQ-1 else snd l-1
def IH{x:Tm}(s:x.Sz)(l:List Int):Ev x l<x.h:=by
 unfold Ev;rw[ja];split
 .omega
 .rename_i h; omega
theorem mi(x:Tm)(l:List Int):x.region l=if count l-1<=Ev x l then Tm.bp {x with top:=count l-1,bottom:=Ev x l} 0 0 else x:=rfl
def Tm.Sz.region{x:Tm}(s:x.Sz)(l:List Int):(x.region l).Sz:=by
 rw[mi];split
 .rename_i h;refine (s.So _ _ ?_ h (IH s l)).bp 0 0;simp only[count]; omega
 .exact s
def Mc(H:aa)(p:Rp)(x:Tm)(v:gt)(l:List Int)(g:b7 H p x)(s:x.Sz)(ok:H.base<=H.next)(f:kI H v l):gp 150 [v] H p (.tuple #[]) (x.region l):=by
 obtain⟨b,w⟩:=ac H.next;have R:p.t<b:=w▸g.lt p.t nl;have A:=g.cell;simp only[aW]at A;have Z:=f.count;have T:=f.snd;have s1:=s.h2;have s0:=s.h1;have C:IntKind.i64.wrap (count l-1)=count l-1:=ak li li;have D:IntKind.i64.wrap (snd l-1)=snd l-1:=ak li li;have F:IntKind.i64.wrap ((x.h:Int)-1)=(x.h:Int)-1:=ak li li
 obtain⟨q,j⟩:∃ d,ge (snd l-1<0)=d:=⟨_,rfl⟩
 obtain⟨d2,k⟩:∃ d,ge ((x.h:Int)<=snd l-1)=d:=⟨_,rfl⟩
 have U:snd l-1<0 ↔ q=true:=by rw[<-j,decide_eq_true_iff]
 have W:snd l-1 ≥ (x.h:Int) ↔ d2=true:=by rw[<-k,decide_eq_true_iff]
 have I:Ev x l=cond (q||d2) ((x.h:Int)-1) (snd l-1):=by unfold Ev;simp only[ja,U,W];cases q<;>cases d2<;>rfl
 obtain⟨B,J⟩:=ac (Ev x l);have m:=IH s l
 obtain⟨r,a⟩:∃ d,ge (count l-1<=B)=d:=⟨_,rfl⟩
 have S:count l-1<=B ↔ r=true:=by rw[<-a,decide_eq_true_iff]
 rw[mi];rw[J]at I m ⊢;have K:(if count l-1<=B then Tm.bp {x with top:=count l-1,bottom:=B} 0 0 else x)=cond r (Tm.bp {x with top:=count l-1,bottom:=B} 0 0) x:=by simp only[S];cases r<;>rfl
 rw[K];refine aH mixed Tryz.func150 rfl Tryz.ntmps150 (zA8 rfl) ?_;refine fW (fun c L=>L=H/\c 0=i9 (ap ⟨p.t,0,bi⟩)/\c 4=i7 i8 (count l-1)/\c 5=i7 i8 (snd l-1)) ?_ ?_
 .simp only[zW,seval];refine (jx (ext H []) v l f.at_ f.ne).to ?_;simp only[C,zW,seval];refine (C5 (ext H []) v l f.at_).to ?_;simp only[D,zW,seval];refine ah ⟨rfl,?_,?_,?_⟩<;>simp only[aE,seval]
 rintro E X ⟨u,n,o,e⟩;rw[u];refine fW (fun c L=>L=H/\c 0=i9 (ap ⟨p.t,0,bi⟩)/\c 4=i7 i8 (count l-1)/\c 5=i7 i8 B) ?_ ?_
 .rw[show H=ext H [] from rfl];cases q<;>cases d2<;>(simp only[zF8,zF6,cond_true,cond_false]at I; simp (maxDischargeDepth:=6) only[n,e,w,R,A,j,k,F,zW,seval]; refine ah ⟨rfl,?_,?_,?_⟩<;>simp (maxDischargeDepth:=6) only[n,o,e,I,aE,seval])
 clear u n o e E X;rintro E X ⟨u,n,o,e⟩;rw[u]
 cases r with
 |false =>simp only[o,e,a,cond_false,Tryz.results150,zW,seval];exact⟨trivial,p,Step.refl g⟩
 |true =>
  have M:=S.2 rfl;rw[show H=ext H [] from rfl];simp only[n,o,e,w,R,A,a,cond_true,zW,seval];generalize Y:uw (uw H p.t 16 _) p.t 17 _=V;have st:Step H p V p {x with top:=count l-1,bottom:=B}:=by rw[<-Y];exact g.two (off:=16) (off2:=17) (vs:=[i7 i8 (count l-1)]) (vs2:=[i7 i8 B]) (y:={x with top:=count l-1,bottom:=B}) rfl rfl rfl rfl
  refine (jI (ext V []) p _ 0 0 st.at_ (s.So _ _ li M m) (st.ok ok)).mono ?_;rintro _ H1 ⟨rfl,p1,O⟩;rw[show H1=ext H1 [] from rfl];simp only[Tryz.results150,fX,seval];exact⟨trivial,p1,st.trans ok O⟩
def Tm.Sz.z8{x:Tm}(s:x.Sz)(c:Int)(a:0<=c)(b:c<=x.w):Tm.Sz {x with col:=c}:=s.move x.row c s.r1 s.r2 a b
def Tm.Sz.PE{x:Tm}(s:x.Sz)(r:Int)(a:0<=r)(b:r<x.h):Tm.Sz {x with row:=r}:=s.move r x.col a b s.c1 s.c2
def RI{a:Int}(h:0<=a):a.tmod 8=a % 8:=Int.tmod_eq_emod_of_nonneg h
def Tm.Sz.control{x:Tm}(s:x.Sz)(c:Int):(x.control c).Sz:=by
 have hi:=eT s;have f:=s.h1;have w1:=s.w1;have g:=s.c1;have h:=s.c2;unfold Tm.control;rw[gS,ja];split
 .exact s.z8 _ li li
 .split
  .exact s.z8 _ li li
  .split
   .split
    .obtain⟨t,a⟩:∃ r:Nat,x.top=r:=⟨x.top.toNat,by have:=s.t1; omega⟩
     obtain⟨b,e⟩:∃ b:Nat,x.bottom=b:=⟨x.bottom.toNat,by have:=s.t1; have:=s.t2; omega⟩
     rw[a,e];exact s.fe (n:=1) bv (by have:=s.t2; omega) (by have:=s.t3; omega)
    .exact s.PE _ (by have:=s.r1; omega) li
   .split
    .exact s.z8 _ li li
    .exact s
def Ki(H:aa)(p:Rp)(x:Tm)(c:Int)(g:b7 H p x)(s:x.Sz)(ok:H.base<=H.next):gp 113 [i7 i8 c] H p (.tuple #[]) (x.control c):=by
 obtain⟨b,l⟩:=ac H.next;have u:p.t<b:=l▸g.lt p.t nl;have m:=g.cell;simp only[aW]at m;have hi:=eT s;have s1:=s.h2;have s2:=s.w2;have Z:=s.c1;have s4:=s.c2;have s5:=s.r1;have s6:=s.r2
 obtain⟨to,A⟩:∃ r:Nat,x.top=r:=⟨x.top.toNat,by have:=s.t1; omega⟩
 obtain⟨Y,B⟩:∃ b:Nat,x.bottom=b:=⟨x.bottom.toNat,by have:=s.t1; have:=s.t2; omega⟩
 obtain⟨C,e⟩:∃ d,ge (c=8)=d:=⟨_,rfl⟩
 obtain⟨D,f⟩:∃ d,ge (c=9)=d:=⟨_,rfl⟩
 obtain⟨n,a⟩:∃ d,ge (c=10)=d:=⟨_,rfl⟩
 obtain⟨o,j⟩:∃ d,ge (c=13)=d:=⟨_,rfl⟩
 obtain⟨F,q⟩:∃ d,ge (x.row=x.bottom)=d:=⟨_,rfl⟩
 have e8:=er e;have e9:=er f;have I:=er a;have J:=er j;have eb:=er q;have L:IntKind.i64.wrap (x.inside-1)=x.inside-1:=ak li li;have M:IntKind.i64.wrap ((x.w:Int)-1)=(x.w:Int)-1:=ak li li;have O:=RI Z;have R:IntKind.i64.wrap (x.col-x.col % 8)=x.col-x.col % 8:=ak li li;have S:IntKind.i64.wrap (x.col-x.col % 8+8)=x.col-x.col % 8+8:=ak li li;have T:IntKind.i64.wrap (x.row+1)=x.row+1:=ak li li;have U:IntKind.i64.wrap ((x.h:Int)-1)=(x.h:Int)-1:=ak li li;have V:x.control c=cond C {x with col:=max 0 (x.inside-1)} (cond D {x with col:=min ((x.w:Int)-1) (x.col-x.col % 8+8)} (cond n (cond F (x.fe to Y (1:Nat) bv) {x with row:=min (x.row+1) ((x.h:Int)-1)}) (cond o {x with col:=0} x))):=by unfold Tm.control;simp only[e8,e9,I,J,eb];rw[gS,ja,A,B];cases C<;>cases D<;>cases n<;>cases o<;>cases F<;>rfl
 rw[V];refine aH mixed Tryz.func113 rfl Tryz.ntmps113 (zA8 rfl) ?_
 cases C with
 |true =>simp only[e,cond_true,zW,seval];refine (oH (ext H []) p x g s).to ?_;simp only[l,u,m,L,Tryz.results113,zW,seval];exact⟨trivial,p,g.one (y:={x with col:=max 0 (x.inside-1)}) rfl rfl rfl rfl⟩
 |false =>
  cases D with
  |true =>
   simp only[e,f,cond_true,cond_false,zW,seval];refine aK [(21,2),(21,8),(21,13)] [] ls ls rfl fun ops anc k W=>?_;simp only[aj]at k;simp only[bh,aE,seval];refine aN (v:=i7 i8 (x.w:Int)) p.au (by simp only[aE,seval]) ls mt g.ne (fun K hn hg=>?_) (by simp (maxDischargeDepth:=6) only[bh]) ?_
   .simp only[aE];exact iK K p x (g.of (by rw[hn]; exact zA5 _) hg) s
   simp only[l,u,m,k,M,O,R,S,seval,Tryz.results113,bh,zW];exact⟨p,g.one (y:={x with col:=min ((x.w:Int)-1) (x.col-x.col % 8+8)}) rfl rfl rfl rfl⟩
  |false =>
   cases n with
   |true =>
    simp only[e,f,a,cond_true,cond_false,zW,seval];refine aK [] [] ls rfl rfl fun ops anc k W=>?_;simp only[l,u,m,bh,zW,seval]
    cases F with
    |true =>simp only[q,cond_true,fX];refine aK [(9,4),(9,8)] [] ls ls rfl fun ops anc k W=>?_;simp only[aj]at k;simp only[l,u,m,bh,zW,seval];refine ei (as':=[i7 i8 x.top,i7 i8 x.bottom,i7 i8 ((1:Nat):Int),kw bv]) g ok rfl ls mt (by simp only[aE,seval]<;>rfl) (by simp only[aj,bu,k,true_or,and_true]) (fun G gG X=>by rw[A,B]; exact FB G p x to Y 1 bv gG s X (by have:=s.t2; omega) (by have:=s.t3; omega) li li) fun H1 p1 st=>?_;rw[show H1=ext H1 [] from rfl];simp only[Tryz.results113,bh,fX];exact⟨p1,st⟩
    |false =>simp only[q,cond_false,fX];refine aK [(17,5),(17,10)] [] ls ls rfl fun ops anc k W=>?_;simp only[aj]at k;simp only[l,u,m,k,T,U,Tryz.results113,bh,zW,seval];exact⟨p,g.one (y:={x with row:=min (x.row+1) ((x.h:Int)-1)}) rfl rfl rfl rfl⟩
   |false =>
    cases o with
    |true =>simp only[l,u,m,e,f,a,j,cond_true,cond_false,Tryz.results113,zW,seval];exact⟨trivial,p,g.one (y:={x with col:=0}) rfl rfl rfl rfl⟩
    |false =>simp only[e,f,a,j,cond_false,Tryz.results113,zW,seval];exact⟨trivial,p,Step.refl g⟩
structure Wd (wd:Int->Nat):Prop where
 call:∀(c:Int)(H:aa),-2147483648<=c->c<=2147483647->Pure 88 [i7 i8 c] H (i7 i8 (wd c:Int))
 le:∀ c,wd c<=2
def Tm.put(x:Tm)(k i:Nat)(c:Ce):Tm:=x.setRow k ((x.grid.getD k []).set i c)
def Tm.Sz.put{x:Tm}(s:x.Sz){k i:Nat}{c:Ce}(a:k<x.h)(b:c.rune≠-1\/i≠0):(x.put k i c).Sz:=by obtain⟨l,_,e,f,g⟩:=s.rowAt a;unfold Tm.put;rw[e];exact s.setRow (by simp[f]) (FJ l i c b g)
def tc{x:Tm}(s:x.Sz){k i:Nat}{c:Ce}(a:k<x.h):(x.put k i c).h=x.h/\(x.put k i c).w=x.w:=by obtain⟨l,_,e,b,f⟩:=s.rowAt a;unfold Tm.put;rw[e];exact⟨zf x k _,rN s k _ (by simp[b])⟩
def Tm.written(x:Tm)(r c n:Nat)(a:Int):Tm :=
 let t:=x.blank r c (c+n:Nat)
 let t:=t.put r c ⟨a,x.pen⟩
 let t:=if n=2 then t.put r (c+1) ⟨-1,x.pen⟩ else t
 {t with col:=x.col+n}
def oP(u:n5)(x:Tm)(a:Int)(r c:Nat)(h:x.row=r)(j:x.col=c):x.write u a=if u.wd a=0\/x.col+u.wd a>(x.w:Int) then x else x.written r c (u.wd a) a:=by
 obtain⟨q,s,t,k,l,m,o,g,v,b,mode,rest,e,f,last⟩:=x;simp only at h j;subst h;subst j;unfold Tm.write Tm.written;generalize u.wd a=n;simp only[gS];split
 .rfl
 .split<;>rfl
def Tm.Sz.written{x:Tm}(s:x.Sz){r c n:Nat}{f:Int}(a:r<x.h)(o:x.col=c)(e:c+n<=x.w)(j:f≠-1):(x.written r c n f).Sz:=by
 have k:=s.blank a (show c<=c+n by omega) e;have b:=ft s a (show c<=c+n by omega) e;have s2:=k.put (i:=c) (c:=⟨f,x.pen⟩) (by rw[b.1]; exact a) (.inl j);have g:=tc k (i:=c) (c:=⟨f,x.pen⟩) (by rw[b.1]; exact a);unfold Tm.written;simp only;split
 .have l:=s2.put (i:=c+1) (c:=⟨-1,x.pen⟩) (by rw[g.1,b.1]; exact a) (.inr li);have m:=tc s2 (i:=c+1) (c:=⟨-1,x.pen⟩) (by rw[g.1,b.1]; exact a);exact l.z8 _ li (by rw[m.2,g.2,b.2]; omega)
 .exact s2.z8 _ li (by rw[g.2,b.2]; omega)
def b7.GG{H:aa}{p:Rp}{x:Tm}(g:b7 H p x)(s:x.Sz){k i:Nat}{q:Nat × Bool}(f:k<x.h)(a:p.rs[k]?=ap q)(hi:i<x.w)(c:Ce):Step H p (ext (uw H q.1 (i*6) c.cells) []) p (x.put k i c):=by obtain⟨l,b,e,j,_⟩:=s.rowAt f;unfold Tm.put;rw[e];exact g.putRow a b (Mod.uw lw) (lC (g.row k q l a b) li) lw
def On(u:n5)(hu:Wd u.wd)(H:aa)(p:Rp)(x:Tm)(a:Int)(g:b7 H p x)(s:x.Sz)(ok:H.base<=H.next)(hc1:-2147483648<=a)(hc2:a<=2147483647)(hch:a≠-1):gp 114 [i7 i8 a] H p (.tuple #[]) (x.write u a):=by
 obtain⟨b,hb⟩:=ac H.next;have hT:p.t<b:=hb▸g.lt p.t nl;have h1:=g.cell;simp only[aW]at h1;have s2:=s.w2
 obtain⟨r,hr⟩:∃ r:Nat,x.row=r:=⟨x.row.toNat,by have:=s.r1; omega⟩
 obtain⟨c,hc⟩:∃ c:Nat,x.col=c:=⟨x.col.toNat,by have:=s.c1; omega⟩
 have e:r<x.h:=by have:=s.r2; omega
 rw[oP u x a r c hr hc];have hn2:=hu.le a;have hwd:=hu.call a (ext H []) hc1 hc2;generalize hn:u.wd a=n at hn2 hwd
 obtain⟨d0,p9⟩:∃ d,ge ((n:Int)=0)=d:=⟨_,rfl⟩
 obtain⟨d1,O⟩:∃ d,ge ((x.w:Int)<x.col+n)=d:=⟨_,rfl⟩
 have e0:n=0 ↔ d0=true:=by rw[<-p9,decide_eq_true_iff]; omega
 have e1:x.col+(n:Int)>(x.w:Int) ↔ d1=true:=by rw[<-O,decide_eq_true_iff]
 have I:IntKind.i64.wrap (x.col+(n:Int))=x.col+(n:Int):=ak (by have:=s.c2; omega) (by have:=s.c2; omega);have key:(if n=0\/x.col+(n:Int)>(x.w:Int) then x else x.written r c n a)=cond (d0||d1) x (x.written r c n a):=by simp only[e0,e1];cases d0<;>cases d1<;>rfl
 rw[key];refine aH mixed Tryz.func114 rfl Tryz.ntmps114 (zA8 rfl) ?_;simp only[zW,seval];refine hwd.to ?_;simp only[zW,seval];refine aK [] [(2,10)] ls rfl ls fun ops anc F J=>?_;simp only[aj]at J
 cases d0 with
 |true =>simp only[p9,J,Bool.true_or,cond_true,Tryz.results114,bh,zW,seval];exact⟨p,Step.refl g⟩
 |false =>
  simp only[hb,hT,h1,p9,J,I,bh,zW,seval];refine aN (v:=i7 i8 (x.w:Int)) p.au (by simp only[aE,seval]) ls mt g.ne (fun K hn hg=>?_) (by simp (maxDischargeDepth:=6) only[bh]) ?_
  .simp only[aE];exact iK K p x (g.of (by rw[hn]; exact zA5 _) hg) s
  cases d1 with
  |true =>simp only[hb,O,J,zF8,cond_true,Tryz.results114,bh,zW,seval];exact⟨p,Step.refl g⟩
  |false =>
   simp only[hb,O,J,zF6,cond_false,bh,zW,seval]
   have R:c+n<=x.w:=by
    have:¬(x.col+(n:Int)>(x.w:Int)):=fun h=>by have:=e1.1 h; simp at this
    omega
   have hn1:1<=n:=by
    have:¬n=0:=fun h=>by have:=e0.1 h; simp at this
    omega
   have hcw:c<x.w:=by omega
   refine aK [(18,5),(18,10),(18,15)] [] ls ls rfl fun ops anc F J=>?_;simp only[aj]at F;simp only[hb,hT,h1,I,bh,zW,seval];refine ei (as':=[i7 i8 x.row,i7 i8 x.col,i7 i8 (x.col+(n:Int))]) g ok rfl ls mt rfl (by simp only[aj,bu,F,true_or,and_true]) (fun G gG okG=>by rw[hr,hc]; exact rT gG s okG e (show c<=c+n by omega) R) fun V p1 st=>?_;have L:=s.blank e (show c<=c+n by omega) R;have f:=ft s e (show c<=c+n by omega) R;have o:p.t<V.next:=st.same▸st.at_.lt p1.t nl;have hR1:p1.rb<V.next:=st.at_.lt p1.rb nl;have v1:=st.at_.cell;rw[st.same]at v1;simp only[aW,f.1]at v1;have v2:=st.at_.rows;rw[f.2]at v2;obtain⟨l,el,_⟩:=L.rowAt (k:=r) (by rw[f.1]; exact e);obtain⟨q,hq,hqm,hqb⟩:=st.at_.rowOf el;have hqr:(p1.rs.map (aM x.w))[r]?=ap (aM x.w q):=by rw[zE1,hq]; rfl
   have hQ:q.1<V.next:=st.at_.lt q.1 hqm;obtain⟨_,hqt,hqrb⟩:=st.at_.uN hq;rw[st.same]at hqt;have hri:=eP (len:=x.h) (cap:=x.h) (n:=p1.rb) (s:=bi) (i:=x.row) (k:=r) hr e;have hci:=jP (len:=x.w) (cap:=x.w) (n:=q.1) (s:=if q.2=bv then bi else ap 0) (i:=x.col) (k:=c) hc hcw;obtain⟨vb,M⟩:=ac V.next;rw[M]at o hR1 hQ;have B:(x.blank (↑r) (↑c) (↑(c+n))).row=x.row:=rfl;have C:(x.blank (↑r) (↑c) (↑(c+n))).col=x.col:=rfl;have D:(x.blank (↑r) (↑c) (↑(c+n))).pen=x.pen:=rfl;rw[show V=ext V [] from rfl];simp only[fX];refine aK [] [] ls rfl rfl fun ops anc F J=>?_;simp only[M,o,hR1,v1,v2,B,C,D,hqr,hri,aM,bh,zW,seval];have hst:∀ N,sQ Tryz.prog 77 N (c*6) (.agg ⟨[i7 i8 a,i7 i8 x.pen.fore,i7 i8 x.pen.back,kw x.pen.bold,kw x.pen.under,kw x.pen.inv]⟩) (ap ⟨77,q.2,aQ l⟩)=ap ⟨77,q.2,aQ (l.set c ⟨a,x.pen⟩)⟩:=fun N=>oX (c:=⟨a,x.pen⟩) li;refine aK [(14,5),(14,11)] [] ls ls rfl fun ops anc F J=>?_;simp only[aj]at F;simp only[M,o,hQ,v1,B,C,D,hci,hqb,hst,F,bh,zW,seval];have j:=st.trans ok (st.at_.GG L (by rw[f.1]; exact e) hq (by rw[f.2]; exact hcw) ⟨a,x.pen⟩);have sz2:=L.put (k:=r) (i:=c) (c:=⟨a,x.pen⟩) (by rw[f.1]; exact e) (.inl hch);have S:=tc L (k:=r) (i:=c) (c:=⟨a,x.pen⟩) (by rw[f.1]; exact e)
   obtain⟨d2,T⟩:∃ d,ge ((n:Int)=2)=d:=⟨_,rfl⟩
   have e2:n=2 ↔ d2=true:=by rw[<-T,decide_eq_true_iff]; omega
   have hwr:x.written r c n a={cond d2 (((x.blank r c (c+n:Nat)).put r c ⟨a,x.pen⟩).put r (c+1) ⟨-1,x.pen⟩) ((x.blank r c (c+n:Nat)).put r c ⟨a,x.pen⟩) with col:=x.col+n}:=by unfold Tm.written;simp only[e2];cases d2<;>rfl
   rw[hwr];simp only[Ce.cells]at j;generalize hW:uw V q.1 (c*6) _=W at j ⊢;have U:W.next=vb:=by rw[<-hW,bE,M]
   have hT2:p.t<vb:=o;rw[ext_nil]at j
   cases d2 with
   |false =>have X:=j.at_.cell;rw[st.same]at X;simp only[aW]at X;have A:((x.blank (↑r) (↑c) (↑(c+n))).put r c ⟨a,x.pen⟩).col=x.col:=rfl;simp only[U,o,X,A,I,T,cond_false,Tryz.results114,bh,zW,seval];refine⟨p1,?_⟩;have m:=j.trans ok (j.at_.one (off:=1) (vs:=[i7 i8 (x.col+n)]) (y:={(x.blank r c (c+n:Nat)).put r c ⟨a,x.pen⟩ with col:=x.col+n}) rfl rfl rfl rfl);rw[st.same]at m;exact m
   |true =>
    have hn2':=e2.2 rfl;have X:=j.at_.cell;rw[st.same]at X;simp only[aW]at X;have A:((x.blank (↑r) (↑c) (↑(c+n))).put r c ⟨a,x.pen⟩).col=x.col:=rfl;have Y:((x.blank (↑r) (↑c) (↑(c+n))).put r c ⟨a,x.pen⟩).pen=x.pen:=rfl;obtain⟨l2,el2,_⟩:=sz2.rowAt (k:=r) (by rw[S.1,f.1]; exact e);have hqb2:=j.at_.row r q l2 hq el2;have hci2:=jP (len:=x.w) (cap:=x.w) (n:=q.1) (s:=if q.2=bv then bi else ap 0) (i:=x.col+1) (k:=c+1) li li;have hw4:IntKind.i64.wrap (x.col+1)=x.col+1:=ak li li;have hst2:∀ N,sQ Tryz.prog 77 N ((c+1)*6) (.agg ⟨[i7 i8 (-1),i7 i8 x.pen.fore,i7 i8 x.pen.back,kw x.pen.bold,kw x.pen.under,kw x.pen.inv]⟩) (ap ⟨77,q.2,aQ l2⟩)=ap ⟨77,q.2,aQ (l2.set (c+1) ⟨-1,x.pen⟩)⟩:=fun N=>oX (c:=⟨-1,x.pen⟩) li;simp only[T,cond_true,fX];refine aK [(14,5),(14,11)] [] ls ls rfl fun ops anc F J=>?_;simp only[aj]at F;simp only[U,o,hQ,X,A,Y,hw4,hci2,hqb2,hst2,F,bh,zW,seval];have m:=j.trans ok (j.at_.GG (i:=c+1) sz2 (by rw[S.1,f.1]; exact e) hq (by rw[S.2,f.2]; omega) ⟨-1,x.pen⟩);simp only[Ce.cells]at m;generalize hZ:uw W q.1 ((c+1)*6) _=Z at m ⊢;have hZn:Z.next=vb:=by rw[<-hZ,bE,U]
    rw[ext_nil]at m;have v4:=m.at_.cell;rw[st.same]at v4;simp only[aW]at v4;have hcol3:(((x.blank (↑r) (↑c) (↑(c+n))).put r c ⟨a,x.pen⟩).put r (c+1) ⟨-1,x.pen⟩).col=x.col:=rfl;simp only[hZn,o,v4,hcol3,I,Tryz.results114,bh,zW,seval];refine⟨p1,?_⟩;have st4:=m.trans ok (m.at_.one (off:=1) (vs:=[i7 i8 (x.col+n)]) (y:={((x.blank r c (c+n:Nat)).put r c ⟨a,x.pen⟩).put r (c+1) ⟨-1,x.pen⟩ with col:=x.col+n}) rfl rfl rfl rfl);rw[st.same]at st4;exact st4
def Tm.Sz.write{u:n5}{x:Tm}(s:x.Sz){a:Int}(b:a≠-1):(x.write u a).Sz:=by
 obtain⟨r,f⟩:∃ r:Nat,x.row=r:=⟨x.row.toNat,by have:=s.r1; omega⟩
 obtain⟨c,e⟩:∃ c:Nat,x.col=c:=⟨x.col.toNat,by have:=s.c1; omega⟩
 rw[oP u x a r c f e];split
 .exact s
 .rename_i h;exact s.written (by have:=s.r2; omega) e li b
def Tm.Sz.character{u:n5}{x:Tm}(s:x.Sz)(a:Int):(x.character u a).Sz:=by
 unfold Tm.character;split
 .exact s.control a
 .exact s.write li
def Dr(u:n5)(q:Wd u.wd)(H:aa)(p:Rp)(x:Tm)(a:Int)(g:b7 H p x)(s:x.Sz)(ok:H.base<=H.next)(l:-2147483648<=a)(m:a<=2147483647):gp 81 [i7 i8 a] H p (.tuple #[]) (x.character u a):=by
 obtain⟨c,j⟩:∃ d,ge (a<32)=d:=⟨_,rfl⟩
 obtain⟨d2,k⟩:∃ d,ge (a=127)=d:=⟨_,rfl⟩
 have o:a<32 ↔ c=true:=by rw[<-j,decide_eq_true_iff]
 have r:=er k;have n:x.character u a=cond (c||d2) (x.control a) (x.write u a):=by unfold Tm.character;simp only[o,r];cases c<;>cases d2<;>rfl
 rw[n];refine aH mixed Tryz.func81 rfl Tryz.ntmps81 (zA8 rfl) ?_;have dK:c=gc->a≠-1:=fun h e=>by have:=o.1 li;rw[h]at this;cases this
 have b:∀ y f,gp f [i7 i8 a] H p (.tuple #[]) y->aL Tryz.prog f [i9 (ap ⟨p.t,0,bi⟩),i7 i8 a] (ext H []) (fun out H1=>out=.ok (.tuple #[])/\∃ p1,Step H p H1 p1 y):=fun y f h=>h;cases c<;>cases d2<;>simp only[j,k,zF8,zF6,cond_true,cond_false,zW,seval]
 .refine (b _ _ (On u q H p x a g s ok l m (dK rfl))).mono ?_;rintro _ H1 ⟨rfl,p1,st⟩;rw[show H1=ext H1 [] from rfl];simp only[Tryz.results81,fX,seval];exact⟨trivial,p1,st⟩
 all_goals
  refine (b _ _ (Ki H p x a g s ok)).mono ?_;rintro _ H1 ⟨rfl,p1,st⟩;rw[show H1=ext H1 [] from rfl];simp only[Tryz.results81,fX,seval];exact⟨trivial,p1,st⟩
def Tm.bQ(x:Tm)(l:Lk):Tm:={x with pen:=l}
def Tm.Sz.bQ{x:Tm}(s:x.Sz)(l:Lk):(x.bQ l).Sz :=
 ⟨s.h1,s.h2,s.w1,s.w2,s.ws,s.r1,s.r2,s.c1,s.c2,s.sr1,s.sr2,s.sc1,s.sc2,s.t1,s.t2,s.t3,s.md,s.hd⟩
def Dg(H:aa)(p:Rp)(x:Tm)(n:Int)(g:b7 H p x):gp 161 [i7 i8 n] H p (.tuple #[]) (x.bQ (x.pen.attribute n)):=by
 obtain⟨b,a⟩:=ac H.next;have e:p.t<b:=a▸g.lt p.t nl;have c:=g.cell;simp only[aW]at c;refine aH mixed Tryz.func161 rfl Tryz.ntmps161 (zA8 rfl) ?_;by_cases o:n=0
 .subst o;simp only[a,e,c,decide_true,Tryz.results161,zW,seval];exact⟨trivial,p,g.one (y:=x.bQ .no) rfl rfl rfl rfl⟩
 by_cases f:n=1
 .subst f;simp only[a,e,c,seval,decide_true,decide_false,Tryz.results161,zW];exact⟨trivial,p,g.one (y:=x.bQ {x.pen with bold:=true}) rfl rfl rfl rfl⟩
 by_cases h:n=22
 .subst h;simp only[a,e,c,seval,decide_true,decide_false,Tryz.results161,zW];exact⟨trivial,p,g.one (y:=x.bQ {x.pen with bold:=false}) rfl rfl rfl rfl⟩
 by_cases q:n=4
 .subst q;simp only[a,e,c,seval,decide_true,decide_false,Tryz.results161,zW];exact⟨trivial,p,g.one (y:=x.bQ {x.pen with under:=true}) rfl rfl rfl rfl⟩
 by_cases j:n=24
 .subst j;simp only[a,e,c,seval,decide_true,decide_false,Tryz.results161,zW];exact⟨trivial,p,g.one (y:=x.bQ {x.pen with under:=false}) rfl rfl rfl rfl⟩
 by_cases r:n=7
 .subst r;simp only[a,e,c,seval,decide_true,decide_false,Tryz.results161,zW];exact⟨trivial,p,g.one (y:=x.bQ {x.pen with inv:=true}) rfl rfl rfl rfl⟩
 by_cases k:n=27
 .subst k;simp only[a,e,c,seval,decide_true,decide_false,Tryz.results161,zW];exact⟨trivial,p,g.one (y:=x.bQ {x.pen with inv:=false}) rfl rfl rfl rfl⟩
 by_cases l:n=39
 .subst l;simp only[a,e,c,seval,decide_true,decide_false,Tryz.results161,zW];exact⟨trivial,p,g.one (y:=x.bQ {x.pen with fore:=0}) rfl rfl rfl rfl⟩
 by_cases m:n=49
 .subst m;simp only[a,e,c,seval,decide_true,decide_false,Tryz.results161,zW];exact⟨trivial,p,g.one (y:=x.bQ {x.pen with back:=0}) rfl rfl rfl rfl⟩
 have s:x.bQ (x.pen.attribute n)=x:=by simp only[Lk.attribute,o,f,h,q,j,r,k,l,m,or_self,if_false,Tm.bQ]
 rw[s];simp only[o,f,h,q,j,r,k,l,m,decide_false,Tryz.results161,zW,seval];exact⟨trivial,p,Step.refl g⟩
def dY.drop{H:aa}{v:gt}{l:List Int}(h:dY H v l)(s:l≠[]){k:Nat}(t:k<=l.length):∃ m,cw Tryz.prog (ext H []) 22 v (ap (i7 i8 (k:Int))) bi bi=ap (m,ext H [])/\dY H m (l.drop k)/\ae m=ae v:=by
 have j:Tryz.prog.underlying 22=ap (.slice 3):=by kernel_rfl
 have b:bg Tryz.prog 3=ap 1:=by kernel_rfl
 rcases h with⟨h,_⟩|⟨_,n,a,o,rfl,q⟩
 .exact absurd h s
 rw[ext_nil];have c:0<l.length:=List.length_pos_iff.2 s;by_cases f:k<l.length
 .refine⟨jp (ap ⟨n,(a++l.take k).length,if o=bv then bi else ap 0⟩) (l.drop k).length (l.drop k).length,?_,.inr ⟨?_,n,a++l.take k,o,rfl,?_⟩,by simp[ae]⟩
  .have e:(a++l.take k).length=a.length+k*1:=by simp; omega
   rw[e,zC1]
   cases o with
   |true=>exact oS j b cz rfl (zA5 _) t f q rfl
   |false=>exact xT j b cz rfl (zA5 _) t f
  .intro e;have:=congrArg List.length e;simp at this;omega
  .rw[q,zC9,List.take_append_drop]
 .have g:k=l.length:=by omega
  cases o with
  |true=>exact⟨_,Cu j b cz rfl rfl g c q rfl,.inl ⟨zE8 li,_,_,rfl⟩,by simp[ae]⟩
  |false =>refine⟨jp (ap ⟨n,a.length,ap 0⟩) 0 0,?_,.inl ⟨zE8 li,_,_,rfl⟩,by simp[ae]⟩;have r:bound 0 (ap (i7 i8 (k:Int)))=ap k:=cz;simp only[cw,j,b,kh,r,zA1,zA4,dW];rw[g];simp[bound]
def zZ(k:Lk):Lk.attributes [] k=k:=by rw[Lk.attributes]
def uu{n:Int}{r:List Int}(k:Lk)(h:n=38\/n=48)(a:r.length<2):Lk.attributes (n::r) k=k:=by
 match r,a with
 |[],_=>simp only[Lk.attributes,h,if_true]
 |[_],_=>simp only[Lk.attributes,h,if_true]
def wW{n a b:Int}{r:List Int}(k:Lk)(h:n=38\/n=48):Lk.attributes (n::a::b::r) k=if a≠5\/b>255 then k else Lk.attributes r (if n=38 then {k with fore:=b+1} else {k with back:=b+1}):=by rw[Lk.attributes,if_pos h]
def xy{n:Int}{r:List Int}(k:Lk)(h:¬(n=38\/n=48))(a:30<=n/\n<=37):Lk.attributes (n::r) k=Lk.attributes r {k with fore:=n-29}:=by
 match r with
 |[]=>simp only[Lk.attributes,h,a,if_true,if_false,and_self]
 |[_]=>simp only[Lk.attributes,h,a,if_true,if_false,and_self]
 |_::_::_=>rw[Lk.attributes,if_neg h,if_pos a]
def xe{n:Int}{r:List Int}(k:Lk)(h:¬(n=38\/n=48))(a:¬(30<=n/\n<=37))(b:40<=n/\n<=47):Lk.attributes (n::r) k=Lk.attributes r {k with back:=n-39}:=by
 match r with
 |[]=>simp only[Lk.attributes,h,a,b,if_true,if_false,and_self]
 |[_]=>simp only[Lk.attributes,h,a,b,if_true,if_false,and_self]
 |_::_::_=>rw[Lk.attributes,if_neg h,if_neg a,if_pos b]
def uH{n:Int}{r:List Int}(k:Lk)(h:¬(n=38\/n=48))(a:¬(30<=n/\n<=37))(b:¬(40<=n/\n<=47)):Lk.attributes (n::r) k=Lk.attributes r (k.attribute n):=by
 match r with
 |[]=>simp only[Lk.attributes,h,a,b,if_false]
 |[_]=>simp only[Lk.attributes,h,a,b,if_false]
 |_::_::_=>rw[Lk.attributes,if_neg h,if_neg a,if_neg b]
def B7(H:aa)(p:Rp)(x:Tm)(v:gt)(l:List Int)(g:b7 H p x)(ok:H.base<=H.next)(hp:kI H v l)(hv:∀ n∈ae v,n∉p.au):gp 149 [v] H p (.tuple #[]) (x.bQ (Lk.attributes l x.pen)):=by
 refine aH mixed Tryz.func149 rfl Tryz.ntmps149 (zA8 rfl) ?_;simp only[zW,Nat.reduceAdd];refine c7 fun E hE=>?_;have Z:E 0=i9 (ap ⟨p.t,0,bi⟩):=by rw[hE]; rfl
 have O:E 1=v:=by rw[hE]; rfl
 clear hE
 refine b8 (fun (q:List Int × Lk × gt × Rp) E' H'=>Step H p H' q.2.2.2 (x.bQ q.2.1)/\dY H' q.2.2.1 q.1/\ae q.2.2.1=ae v/\(∀ n∈q.1,0<=n)/\Lk.attributes q.1 q.2.1=Lk.attributes l x.pen/\E' 0=i9 (ap ⟨p.t,0,bi⟩)/\E' 1=q.2.2.1) (fun q=>q.1.length) (l,x.pen,v,p)
  ⟨Step.refl g,hp.at_,rfl,fun n hn=>(hp.rg n hn).1,rfl,Z,O⟩ ?_
 clear Z O E;rintro⟨m,k,w,p1⟩ E X ⟨st,hm,U,S,f,Z,O⟩;simp only at st hm U S f O;rw[show X=ext X [] from rfl]
 cases m with
 |nil =>
  obtain⟨a,c,e⟩:=hm.sl;rw[e]at O;have s:ge ((0:Int)<((0:Nat):Int))=false:=by decide
  simp only[O,s,Tryz.results149,zW,Nat.reduceLT];rw[zZ]at f;rw[<-f];exact⟨trivial,p1,st⟩
 |cons n r =>
  obtain⟨a,c,e⟩:=hm.sl;obtain⟨L,hL⟩:=ac ((n::r).length);rw[hL]at e;obtain⟨b,W⟩:=ac X.next;have hT:p.t<b:=W▸st.same▸st.at_.lt p1.t nl;have h1:=st.at_.cell;rw[st.same]at h1;simp only[aW]at h1;have hlt:∀ q∈ae v,q<b:=fun q C=>W▸zD1 (hp.lt q C) st.mod.next;obtain⟨n1,o1,i1,m1,_,D⟩:=hm.get (k:=0) (c:=n) rfl;have t1:=hlt n1 (U▸m1);obtain⟨w1,o,F,A⟩:=hm.drop lw (k:=1) lw;rw[List.drop_one,List.tail_cons]at F;obtain⟨a1,c1,e1⟩:=F.sl
  obtain⟨L1,hL1⟩:∃ L,r.length=L:=⟨_,rfl⟩
  rw[hL1]at e1;have s:ge ((0:Int)<(L:Int))=true:=decide_eq_true (by rw[zA3]at hL; omega);rw[show ((0:Nat):Int)=0 from rfl]at i1;rw[show ((1:Nat):Int)=1 from rfl]at o;rw[e]at O i1 o;by_cases T:n=38\/n=48
  .have hsel:∃ d,ge (n=38)=d/\(d=gc->ge (n=48)=bv)/\(d=bv ↔ n=38):=⟨_,rfl,fun h=>decide_eq_true (by have:=of_decide_eq_false h; omega),by simp⟩
   obtain⟨d38,u,Y,ed38⟩:=hsel;by_cases hr:r.length<2
   .have B:ge ((L1:Int)<2)=true:=decide_eq_true li;rw[uu k T hr]at f
    cases d38 with
    |true =>simp only[O,W,i1,t1,D,o,e1,s,u,B,Tryz.results149,zW,Nat.reduceLT,Nat.reduceEqDiff];rw[<-f];exact⟨trivial,p1,st⟩
    |false =>simp only[O,W,i1,t1,D,o,e1,s,u,Y rfl,B,Tryz.results149,zW,Nat.reduceLT,Nat.reduceEqDiff];rw[<-f];exact⟨trivial,p1,st⟩
   .match r,hr,hm,F,f,S,hL,hL1 with
    |[],hr,_,_,_,_,_,_=>simp at hr
    |[_],hr,_,_,_,_,_,_=>simp at hr
    |a2::J::r2,hr,hm,F,f,S,hL,hL1 =>
     rw[wW k T]at f;have B:ge ((L1:Int)<2)=false:=decide_eq_false (by simp only[zA3]at hL1; omega);obtain⟨n2,o2,i2,m2,_,ld2⟩:=F.get (k:=0) (c:=a2) rfl;obtain⟨n3,o3,i3,m3,_,ld3⟩:=F.get (k:=1) (c:=J) rfl;have t2:=hlt n2 (U▸A▸m2);have t3:=hlt n3 (U▸A▸m3);rw[show ((0:Nat):Int)=0 from rfl]at i2;rw[show ((1:Nat):Int)=1 from rfl]at i3;rw[e1]at i2 i3 o
     obtain⟨d5,hd5⟩:∃ d,ge (a2=5)=d:=⟨_,rfl⟩
     obtain⟨dB,hdB⟩:∃ d,ge ((255:Int)<J)=d:=⟨_,rfl⟩
     have K:ge (¬a2=5)=!d5:=by rw[<-hd5]; simp
     have e5:a2=5 ↔ d5=true:=er hd5;have eB:J>255 ↔ dB=true:=by rw[<-hdB,decide_eq_true_iff]
     have hb2:=S J lw;have hwb:J<=255->IntKind.i64.wrap (J+1)=J+1:=fun h=>ak li li;have R:Lk.attributes l x.pen=cond (!d5||dB) k (Lk.attributes r2 (cond d38 {k with fore:=J+1} {k with back:=J+1})):=by rw[<-f];simp only[ne_eq,e5,eB,<-ed38];cases d5<;>cases dB<;>cases d38<;>rfl
     have I:∀ q∈ae w1,q≠p.t:=fun q C e=>hv q (U▸A▸C) (e▸by simp[Rp.au])
     cases d5 with
     |false =>
      rw[R]
      cases d38 with
      |true =>simp only[O,W,i1,i2,t1,t2,D,ld2,o,s,u,B,K,Bool.not_false,Bool.true_or,cond_true,Tryz.results149,zW,Nat.reduceLT,Nat.reduceAdd,Nat.reduceEqDiff];exact⟨trivial,p1,st⟩
      |false =>simp only[O,W,i1,i2,t1,t2,D,ld2,o,s,u,Y rfl,B,K,Bool.not_false,Bool.true_or,cond_true,Tryz.results149,zW,Nat.reduceLT,Nat.reduceAdd,Nat.reduceEqDiff];exact⟨trivial,p1,st⟩
     |true =>
      cases dB with
      |true =>
       rw[R]
       cases d38 with
       |true =>simp only[O,W,i1,i2,i3,t1,t2,t3,D,ld2,ld3,o,s,u,B,K,hdB,zE4,Bool.false_or,cond_true,Tryz.results149,zW,Nat.reduceLT,Nat.reduceAdd,Nat.reduceEqDiff];exact⟨trivial,p1,st⟩
       |false =>simp only[O,W,i1,i2,i3,t1,t2,t3,D,ld2,ld3,o,s,u,Y rfl,B,K,hdB,zE4,Bool.false_or,cond_true,Tryz.results149,zW,Nat.reduceLT,Nat.reduceAdd,Nat.reduceEqDiff];exact⟨trivial,p1,st⟩
      |false =>
       have hle:J<=255:=by
        have:¬J>255:=fun h=>by have:=eB.1 h; simp at this
        omega
       simp only[zE4,Bool.false_or,cond_false]at R
       cases d38 with
       |true =>
        have j:=st.trans ok (st.at_.one (off:=2) (vs:=[i7 i8 (J+1)]) (y:=x.bQ {k with fore:=J+1}) rfl rfl rfl rfl);rw[st.same]at j;simp only[Z,O,W,hT,h1,i1,i2,i3,t1,t2,t3,D,ld2,ld3,o,s,u,B,K,hdB,hwb hle,zW,Nat.reduceLeDiff,Nat.reduceLT,Nat.reduceAdd,Nat.reduceEqDiff];generalize hV:uw X p.t 2 _=V at j ⊢;rw[ext_nil]at j;have M:dY V w1 (a2::J::r2):=F.of fun q C=>by rw[<-hV]; exact fD (I q C)
        obtain⟨w2,sl2,hm2,hw2⟩:=M.drop lw (k:=2) lw;rw[show (a2::J::r2).drop 2=r2 from rfl]at hm2;rw[show ((2:Nat):Int)=2 from rfl,e1]at sl2;simp only[sl2,zW,Nat.reduceLT];refine aC ⟨(r2,{k with fore:=J+1},w2,p1),by simp only[]; omega,j,hm2,hw2.trans (A.trans U),fun q C=>S q (by simp[C]),by rw[R]; rfl,?_,?_⟩<;>simp only[Z,aE,Nat.reduceEqDiff]
       |false =>
        have j:=st.trans ok (st.at_.one (off:=3) (vs:=[i7 i8 (J+1)]) (y:=x.bQ {k with back:=J+1}) rfl rfl rfl rfl);rw[st.same]at j;simp only[Z,O,W,hT,h1,i1,i2,i3,t1,t2,t3,D,ld2,ld3,o,s,u,Y rfl,B,K,hdB,hwb hle,zW,Nat.reduceLeDiff,Nat.reduceLT,Nat.reduceAdd,Nat.reduceEqDiff];generalize hV:uw X p.t 3 _=V at j ⊢;rw[ext_nil]at j;have M:dY V w1 (a2::J::r2):=F.of fun q C=>by rw[<-hV]; exact fD (I q C)
        obtain⟨w2,sl2,hm2,hw2⟩:=M.drop lw (k:=2) lw;rw[show (a2::J::r2).drop 2=r2 from rfl]at hm2;rw[show ((2:Nat):Int)=2 from rfl,e1]at sl2;simp only[sl2,zW,Nat.reduceLT];refine aC ⟨(r2,{k with back:=J+1},w2,p1),by simp only[]; omega,j,hm2,hw2.trans (A.trans U),fun q C=>S q (by simp[C]),by rw[R]; rfl,?_,?_⟩<;>simp only[Z,aE,Nat.reduceEqDiff]
  .have f38:ge (n=38)=false:=decide_eq_false (fun e=>T (.inl e));have f48:ge (n=48)=false:=decide_eq_false (fun e=>T (.inr e));have I:∀ q∈ae w1,q≠p.t:=fun q C e=>hv q (U▸A▸C) (e▸by simp[Rp.au]);have hrg2:∀ q∈r,0<=q:=fun q C=>S q (by simp[C]);by_cases h30:30<=n/\n<=37
   .have q1:ge (30<=n)=true:=decide_eq_true h30.1;have q2:ge (n<=37)=true:=decide_eq_true h30.2;have hwn:IntKind.i64.wrap (n-29)=n-29:=ak li li;rw[xy k T h30]at f;have j:=st.trans ok (st.at_.one (off:=2) (vs:=[i7 i8 (n-29)]) (y:=x.bQ {k with fore:=n-29}) rfl rfl rfl rfl);rw[st.same]at j;simp only[Z,O,W,hT,h1,i1,t1,D,o,s,f38,f48,q1,q2,hwn,zW,Nat.reduceLeDiff,Nat.reduceLT,Nat.reduceAdd,Nat.reduceEqDiff];generalize hV:uw X p.t 2 _=V at j ⊢;rw[ext_nil]at j;have M:dY V w1 r:=F.of fun q C=>by rw[<-hV]; exact fD (I q C)
    refine aC ⟨(r,{k with fore:=n-29},w1,p1),by simp only[]; omega,j,M,A.trans U,hrg2,f,?_,?_⟩<;>simp only[Z,aE,Nat.reduceEqDiff]
   .obtain⟨d1,hd1⟩:∃ d,ge (30<=n)=d:=⟨_,rfl⟩
    by_cases h40:40<=n/\n<=47
    .have q0:ge (30<=n)=true:=decide_eq_true li;have q00:ge (n<=37)=false:=decide_eq_false li;have q1:ge (40<=n)=true:=decide_eq_true h40.1;have q2:ge (n<=47)=true:=decide_eq_true h40.2;have hwn:IntKind.i64.wrap (n-39)=n-39:=ak li li;rw[xe k T h30 h40]at f;have j:=st.trans ok (st.at_.one (off:=3) (vs:=[i7 i8 (n-39)]) (y:=x.bQ {k with back:=n-39}) rfl rfl rfl rfl);rw[st.same]at j;simp only[Z,O,W,hT,h1,i1,t1,D,o,s,f38,f48,q0,q00,q1,q2,hwn,zW,Nat.reduceLeDiff,Nat.reduceLT,Nat.reduceAdd,Nat.reduceEqDiff];generalize hV:uw X p.t 3 _=V at j ⊢;rw[ext_nil]at j;have M:dY V w1 r:=F.of fun q C=>by rw[<-hV]; exact fD (I q C)
     refine aC ⟨(r,{k with back:=n-39},w1,p1),by simp only[]; omega,j,M,A.trans U,hrg2,f,?_,?_⟩<;>simp only[Z,aE,Nat.reduceEqDiff]
    .rw[uH k T h30 h40]at f;have hat:=Dg (ext X []) p1 (x.bQ k) n st.at_;unfold gp at hat;rw[st.same]at hat
     obtain⟨d2,B⟩:∃ d,ge (n<=37)=d:=⟨_,rfl⟩
     obtain⟨d3,hd3⟩:∃ d,ge (40<=n)=d:=⟨_,rfl⟩
     obtain⟨d4,hd4⟩:∃ d,ge (n<=47)=d:=⟨_,rfl⟩
     have c1:¬(d1=bv/\d2=bv):=fun h=>h30 ⟨of_decide_eq_true (hd1.trans h.1),of_decide_eq_true (B.trans h.2)⟩;have c2:¬(d3=bv/\d4=bv):=fun h=>h40 ⟨of_decide_eq_true (hd3.trans h.1),of_decide_eq_true (hd4.trans h.2)⟩
     cases d1<;>cases d2<;>cases d3<;>cases d4<;>first
      |exact absurd ⟨rfl,rfl⟩ c1
      |exact absurd ⟨rfl,rfl⟩ c2
      | (simp only [Z, O, W, i1, t1, D, o, s, f38, f48, hd1, B, hd3, hd4, zW, Nat.reduceLT, Nat.reduceEqDiff]
         refine hat.mono ?_;rintro _ V ⟨rfl,p2,stv⟩;have j:=st.trans ok stv
         have M:dY V w1 r:=F.of fun q C=>stv.mod.get q (by rw[ext_nil]; exact W▸hlt q (U▸A▸C)) (fun hin=>by
          rcases st.new q hin with h|h
          .exact hv q (U▸A▸C) h
          .have:=hp.lt q (U▸A▸C); omega)
         rw[show V=ext V [] from rfl];simp only[fX,Nat.reduceLT]
         refine aC ⟨(r,k.attribute n,w1,p2),by simp only[]; omega,j,M,A.trans U,hrg2,f,?_,?_⟩<;>simp only[Z,aE,Nat.reduceEqDiff])
def FN(i:Nat)(k:Int)(f:Nat):MapEntry:={key:=.int .u8 k,val:=.func (.func f) #[] #[],born:=i}
def RH:List MapEntry:=[]
def IB:List MapEntry:=RH++[FN 0 65 138]
def Hc:List MapEntry:=IB++[FN 1 66 139]
def IQ:List MapEntry:=Hc++[FN 2 67 140]
def I4:List MapEntry:=IQ++[FN 3 68 141]
def Iw:List MapEntry:=I4++[FN 4 71 142]
def HX:List MapEntry:=Iw++[FN 5 100 143]
def Ix:List MapEntry:=HX++[FN 6 72 144]
def GZ:List MapEntry:=Ix++[FN 7 102 144]
def HO:List MapEntry:=GZ++[FN 8 74 145]
def Cr:List MapEntry:=HO++[FN 9 75 146]
def Bx:List MapEntry:=Cr++[FN 10 76 147]
def Cm:List MapEntry:=Bx++[FN 11 77 148]
def BO:List MapEntry:=Cm++[FN 12 109 149]
def BN:List MapEntry:=BO++[FN 13 114 150]
def tW:dw:=fj BN 14
def Lg(H:aa)(ok:H.base<=H.next):aL Tryz.prog 115 [] (ext H []) fun out H1=>out=.ok (.map (ap H.next))/\H1=H.new tW:=by
 obtain⟨b,l⟩:=ac H.next;have m:Tryz.prog.underlying 154=ap (.map 5 153):=by kernel_rfl
 have n:Tryz.prog.underlying 5=ap (.int .u8):=by kernel_rfl
 have U:∀(a:List MapEntry)(c:Nat)(k:Int)(f:Nat),Instr.findNow (.int .u8) (.int .u8 k) a 0=ap bi->bN Tryz.prog ((ext H []).new (fj a c)) 154 (.map (ap (b+0))) (.int .u8 k) (.func (.func f) #[] #[])=ap ((ext H []).new (fj (a++[FN c k f]) (c+1))):=fun a c k f o=>Fs (H:=ext H []) l ok m n rfl rfl o;have q:bN Tryz.prog ((ext H []).new (fj [] 0)) 154 (.map (ap (b+0))) (.int .u8 65) (.func (.func 138) #[] #[])=ap ((ext H []).new (fj IB 1)):=U [] 0 65 138 rfl;have r:bN Tryz.prog ((ext H []).new (fj IB 1)) 154 (.map (ap (b+0))) (.int .u8 66) (.func (.func 139) #[] #[])=ap ((ext H []).new (fj Hc 2)):=U IB 1 66 139 rfl;have s:bN Tryz.prog ((ext H []).new (fj Hc 2)) 154 (.map (ap (b+0))) (.int .u8 67) (.func (.func 140) #[] #[])=ap ((ext H []).new (fj IQ 3)):=U Hc 2 67 140 rfl;have t:bN Tryz.prog ((ext H []).new (fj IQ 3)) 154 (.map (ap (b+0))) (.int .u8 68) (.func (.func 141) #[] #[])=ap ((ext H []).new (fj I4 4)):=U IQ 3 68 141 rfl;have u:bN Tryz.prog ((ext H []).new (fj I4 4)) 154 (.map (ap (b+0))) (.int .u8 71) (.func (.func 142) #[] #[])=ap ((ext H []).new (fj Iw 5)):=U I4 4 71 142 rfl;have v:bN Tryz.prog ((ext H []).new (fj Iw 5)) 154 (.map (ap (b+0))) (.int .u8 100) (.func (.func 143) #[] #[])=ap ((ext H []).new (fj HX 6)):=U Iw 5 100 143 rfl;have w:bN Tryz.prog ((ext H []).new (fj HX 6)) 154 (.map (ap (b+0))) (.int .u8 72) (.func (.func 144) #[] #[])=ap ((ext H []).new (fj Ix 7)):=U HX 6 72 144 rfl;have A:bN Tryz.prog ((ext H []).new (fj Ix 7)) 154 (.map (ap (b+0))) (.int .u8 102) (.func (.func 144) #[] #[])=ap ((ext H []).new (fj GZ 8)):=U Ix 7 102 144 rfl;have B:bN Tryz.prog ((ext H []).new (fj GZ 8)) 154 (.map (ap (b+0))) (.int .u8 74) (.func (.func 145) #[] #[])=ap ((ext H []).new (fj HO 9)):=U GZ 8 74 145 rfl;have u9:bN Tryz.prog ((ext H []).new (fj HO 9)) 154 (.map (ap (b+0))) (.int .u8 75) (.func (.func 146) #[] #[])=ap ((ext H []).new (fj Cr 10)):=U HO 9 75 146 rfl;have e:bN Tryz.prog ((ext H []).new (fj Cr 10)) 154 (.map (ap (b+0))) (.int .u8 76) (.func (.func 147) #[] #[])=ap ((ext H []).new (fj Bx 11)):=U Cr 10 76 147 rfl;have g:bN Tryz.prog ((ext H []).new (fj Bx 11)) 154 (.map (ap (b+0))) (.int .u8 77) (.func (.func 148) #[] #[])=ap ((ext H []).new (fj Cm 12)):=U Bx 11 77 148 rfl;have h:bN Tryz.prog ((ext H []).new (fj Cm 12)) 154 (.map (ap (b+0))) (.int .u8 109) (.func (.func 149) #[] #[])=ap ((ext H []).new (fj BO 13)):=U Cm 12 109 149 rfl;have j:bN Tryz.prog ((ext H []).new (fj BO 13)) 154 (.map (ap (b+0))) (.int .u8 114) (.func (.func 150) #[] #[])=ap ((ext H []).new (fj BN 14)):=U BO 13 114 150 rfl;refine aH mixed Tryz.func115 rfl Tryz.ntmps115 (zA8 rfl) ?_;simp only[l,Oo,Q8,aA,q,r,s,t,u,v,w,A,B,u9,e,g,h,j,Tryz.results115,zW,seval];exact⟨rfl,rfl⟩
def Step.quiet{H H1:aa}{p:Rp}{x:Tm}(g:b7 H p x)(m:Mod [] H H1):Step H p H1 p x :=
 ⟨g.of m.next fun n a=>m.get n (g.lt n a) lw,m.mono lw,rfl,fun _ h=>.inl h⟩
def Ae(l:List Int):(dI l).all one=true:=by simp[dI,one]
def D5(l:List Int)(n:Nat):aX n (dI l)=true:=by
 induction l with
 |nil=>rfl
 |cons a l b=>simp only[dI,zB9,aX,aV,Bool.true_and]; exact b
def qF(H:aa)(w:gt)(l:List Int):Prop:=l≠[]/\∃ n o,w=jp (ap ⟨n,0,if o then bi else ap 0⟩) l.length l.length/\bk H n=ap ⟨3,o,dI l⟩/\n<H.next
def qF.at_{H:aa}{w:gt}{l:List Int}(h:qF H w l):dY H w l:=by obtain⟨a,n,o,rfl,b,_⟩:=h;exact .inr ⟨a,n,[],o,rfl,b⟩
def Di{X:aa}{w:gt}{l:List Int}{k:Nat}(h:qF X w l)(b:X.next=k)(B:l.length<=200)(f:X.base<=X.next) :
  ∃ w' G,aF Tryz.prog (ext X [⟨3,gc,[i7 i8 0]⟩]) .append ⟨[22,22]⟩ [w,jp (ap ⟨k+0,0,ap 0⟩) 1 1]=ap (w',ext G [])/\qF G w' (l++[0])/\Mod (ae w) X G/\(∀ n∈ae w',X.next<=n):=by
 obtain⟨dK,n,o,rfl,D,g⟩:=h;have j:bk (ext X [⟨3,gc,[i7 i8 0]⟩]) (k+0)=ap ⟨3,gc,[i7 i8 0]⟩:=by rw[bJ b lw]; rfl
 have r:bk (ext X [⟨3,gc,[i7 i8 0]⟩]) n=ap ⟨3,o,dI l⟩:=(iI g).trans D;have t:small (l.length+1) 8=true:=by simp only[small,zA7,zE2]; omega
 have u:dI l++[i7 i8 0]=dI (l++[0]):=by simp[dI]
 cases o with
 |false =>
  have a:=kn (P:=Tryz.prog) (H:=ext X [⟨3,gc,[i7 i8 0]⟩]) (st:=22) (xt:=22) (e:=3) (sz:=1) (by1:=8) (z:=i7 i8 0) (m:=n) (k:=l.length) (n:=k+0) (off:=0) (cnt:=1) (cap:=1) (s:=ap 0)
   ls ls ls ls rfl ls r (by rw[gq]; omega) (Ae l) j lw rfl mt t
  have F:(dI l).take (l.length*1)=dI l:=zC3 (by rw[gq]; omega);simp only[F]at a;have c:([Value.int i8 0].drop 0).take (1*1)=[i7 i8 0]:=rfl;rw[c,u]at a;have v:=et (H:=X) (L:=[⟨3,gc,[i7 i8 0]⟩]) (e:=3) (l:=dI (l++[0])) (o:=true) (D5 _ _);rw[v,zB1]at a;refine⟨_,ext X [⟨3,gc,[i7 i8 0]⟩,⟨3,bv,dI (l++[0])⟩],a,⟨by simp,k+1,bv,?_,?_,?_⟩,Mod.ext f,fun q A=>?_⟩
  .rw[aA,b]; simp
  .rw[bJ b lw]; rfl
  .rw[aA,b]; simp
  .simp only[ae,zA6,aA]at A; omega
 |true =>
  have a:=ET (P:=Tryz.prog) (H:=ext X [⟨3,gc,[i7 i8 0]⟩]) (st:=22) (xt:=22) (e:=3) (sz:=1) (by1:=8) (z:=i7 i8 0) (m:=n) (k:=l.length) (old:=dI l) (n:=k+0) (off:=0) (cnt:=1) (cap:=1) (s:=ap 0)
   ls ls ls ls rfl ls r (by rw[gq]; omega) (Ae l) j lw rfl mt t
  have c:([Value.int i8 0].drop 0).take (1*1)=[i7 i8 0]:=rfl;simp only[c,u]at a;rw[GQ g]at a;have v:=et (H:=dp X n) (L:=[⟨3,gc,[i7 i8 0]⟩]) (e:=3) (l:=dI (l++[0])) (o:=true) (D5 _ _);rw[v,zB1]at a;have C:Mod (ae (jp (ap ⟨n,0,bi⟩) l.length l.length)) X (dp X n):=Mod.cy ol;refine⟨_,ext (dp X n) [⟨3,gc,[i7 i8 0]⟩,⟨3,bv,dI (l++[0])⟩],a,⟨by simp,k+1,bv,?_,?_,?_⟩,C.trans (Mod.ext (C.ok f)),fun q A=>?_⟩
  .rw[aA,b]; simp
  .rw[bJ (show (dp X n).next=k from b) lw]; rfl
  .rw[aA,iR,b]; simp
  .simp only[ae,zA6,aA]at A; omega
def C1{X:aa}{w:gt}{d:List Int}{a c:Int}(h:qF X w (d++[a]))(n:Nat)(e:ae w=[n]):qF (uw X n d.length [i7 i8 c]) w (d++[c]):=by obtain⟨_,m,o,rfl,f,b⟩:=h;simp only[ae,List.cons.injEq,and_true]at e;subst e;refine⟨by simp,m,o,by simp,?_,by rw[bE]; exact b⟩;rw[bR,f];refine congrArg (fun l=>ap (Bl.mk 3 o l)) ?_;show cQ (dI (d++[a])) d.length [i7 i8 c]=_;rw[Cf,show d.length=(dI d).length from (gq d).symm,ng _ _ _ (by simp[dI])];simp[dI]
def Mv{c:UInt8}(h:48<=c):IntKind.u8.wrap ((c.toNat:Int)-48)=(c.toNat:Int)-48:=by have a:=c.toNat_lt;have b:48<=c.toNat:=h;simp only[IntKind.wrap,IntKind.signed,IntKind.bits];simp;omega
def As(l:List UInt8):cC (aq l)=ap l:=by
 induction l with
 |nil=>rfl
 |cons c l a =>rw[ux,cC,a];simp
def bD.str{H:aa}{v:gt}{l:List UInt8}(h:bD H v l):bM Tryz.prog (ext H []) 25 9 v=ap (.string ⟨l.toArray⟩,ext H []):=by
 have g:Tryz.prog.underlying 25=ap (.slice 5):=by kernel_rfl
 have j:Tryz.prog.underlying 9=ap .string:=by kernel_rfl
 have m:Tryz.prog.underlying 5=ap (.int .u8):=by kernel_rfl
 have b:∀ a,v=.slice a l.length l.length->dj H 1 l.length (.slice a l.length l.length)=ap (aq l)->bM Tryz.prog (ext H []) 25 9 v=ap (.string ⟨l.toArray⟩,ext H []):=by rintro a rfl o;rw[ext_nil];simp only[bM,g,j,o,zA1,zA4,m,As,zB1]
 rcases h with⟨rfl,rfl⟩|⟨h,n,e,rfl,c⟩|⟨rfl,n,off,k,L,rfl,c,f⟩|⟨rfl,n,rfl,c⟩
 .exact b _ rfl rfl
 .refine b _ rfl ?_;rw[fA c (by simp[cR])];simp only[zE5,qt];rw[<-cR e,List.drop_left,zC3 (by simp[cR])]
 .refine b _ rfl ?_;have:=fA (sz:=1) (cnt:=0) (n:=n) (off:=off) (len:=0) (cap:=0) (s:=ap (k+1)) c (by simp; exact f);simpa[aq]using this
 .refine b _ rfl ?_;have:=fA (sz:=1) (cnt:=0) (n:=n) (off:=0) (len:=0) (cap:=0) (s:=ap 0) c lw;simpa[aq]using this
def Nr(l m:List UInt8):((⟨l.toArray⟩:ByteArray).toList == (⟨m.toArray⟩:ByteArray).toList)=ge (l=m):=by
 rw[ByteArray.toList_eq,ByteArray.toList_eq];by_cases h:l=m
 .subst h; simp
 .simp[h]
def qq{x:Tm}{f:UInt8}{l:List Int}(h:f≠65/\f≠66/\f≠67/\f≠68/\f≠71/\f≠100/\f≠72/\f≠102/\f≠74/\f≠75/\f≠76/\f≠77/\f≠109/\f≠114):x.aT f l=x:=by obtain⟨j,k,m,n,o,q,r,s,t,a,b,c,e,g⟩:=h;rw[Tm.aT,if_neg j,if_neg k,if_neg m,if_neg n,if_neg o,if_neg q,if_neg (fun h=>h.elim r s),if_neg t,if_neg a,if_neg b,if_neg c,if_neg e,if_neg g]
def Tm.Sz.aT{x:Tm}(s:x.Sz)(f:UInt8)(l:List Int)(v:1<=count l):(x.aT f l).Sz:=by
 obtain⟨n,e⟩:∃ n:Nat,count l=n:=⟨(count l).toNat,by omega⟩
 unfold Tm.aT;by_cases g:f=65
 .rw[if_pos g]; exact s.bp _ _
 rw[if_neg g];by_cases h:f=66
 .rw[if_pos h]; exact s.bp _ _
 rw[if_neg h];by_cases j:f=67
 .rw[if_pos j]; exact s.bp _ _
 rw[if_neg j];by_cases k:f=68
 .rw[if_pos k]; exact s.bp _ _
 rw[if_neg k];by_cases m:f=71
 .rw[if_pos m]; exact s.bp _ _
 rw[if_neg m];by_cases o:f=100
 .rw[if_pos o]; exact s.bp _ _
 rw[if_neg o];by_cases q:f=72\/f=102
 .rw[if_pos q]; exact s.bp _ _
 rw[if_neg q];by_cases r:f=74
 .rw[if_pos r]; exact s.cf l
 rw[if_neg r];by_cases t:f=75
 .rw[if_pos t]; exact (s.aU l).1
 rw[if_neg t];by_cases u:f=76
 .rw[if_pos u]; rw[e]; exact s.lines _ _
 rw[if_neg u];by_cases a:f=77
 .rw[if_pos a]; rw[e]; exact s.lines _ _
 rw[if_neg a];by_cases b:f=109
 .rw[if_pos b]; exact s.bQ _
 rw[if_neg b];by_cases c:f=114
 .rw[if_pos c]; exact s.region l
 rw[if_neg c];exact s
def tT(l:List Int):1<=count l:=by simp only[count]; omega
def Tm.Sz.zK{x:Tm}(s:x.Sz)(b:Bool):Tm.Sz {x with shown:=b} :=
 ⟨s.h1,s.h2,s.w1,s.w2,s.ws,s.r1,s.r2,s.c1,s.c2,s.sr1,s.sr2,s.sc1,s.sc2,s.t1,s.t2,s.t3,s.md,s.hd⟩
def Tm.Sz.dJ{x:Tm}(s:x.Sz)(f:UInt8):(x.dJ f).Sz:=by
 unfold Tm.dJ;split
 .exact s.zK _
 .split
  .exact s.aT f _ (tT _)
  .exact s
def jR{c:UInt8}{n:Nat}(a:n<256):ge ((c.toNat:Int)=(n:Int))=ge (c=UInt8.ofNat n):=by
 have:(c.toNat:Int)=(n:Int) ↔ c=UInt8.ofNat n:=by rw[<-UInt8.toNat_inj,UInt8.toNat_ofNat_of_lt' a];omega
 simp only[this]
def xO:List (Nat × Nat):=[(65,138),(66,139),(67,140),(68,141),(71,142),(100,143),(72,144),(102,144),(74,145),(75,146),(76,147),(77,148),(109,149),(114,150)]
def nE(n:Nat):Option Nat:=(xO.find? fun q=>Nat.beq q.1 n).map (·.2)
def QH:Option Nat->gt
 |some f=>.func (.func f) #[] #[]
 |none=>.nilFunc
def L4(n:Nat):Bool:=match Instr.findNow (.int .u8) (.int .u8 (n:Int)) BN 0,nE n with
 |some (ap (_,.func (.func f) ⟨[]⟩ ⟨[]⟩)),ap g=>Nat.beq f g
 |some bi,bi=>bv
 |_,_=>gc
def Ga:((List.range 256).all L4)=true:=by kernel_rfl
def LU{X:aa}(c:UInt8):lr Tryz.prog (X.new tW) 154 (.map (ap X.next)) (.int .u8 (c.toNat:Int)) gc=ap (QH (nE c.toNat)):=by
 have h:Tryz.prog.underlying 154=ap (.map 5 153):=by kernel_rfl
 have j:Tryz.prog.underlying 5=ap (.int .u8):=by kernel_rfl
 have k:zeroOf Tryz.prog 153=ap .nilFunc:=by kernel_rfl
 have l:zS (X.new tW) (ap X.next)=ap ⟨BN⟩:=by simp only[zS,aa.fN,if_true];rfl
 have a:=zD3.1 Ga c.toNat (zF5.2 c.toNat_lt);unfold L4 at a;simp only[lr,h,l,j,zA1,zA4,oC,lj,zD8,if_true,k];split at a
 .rename_i i f g b e;rw[b,e,Nat.eq_of_beq_eq_true a];rfl
 .rename_i b e;rw[b,e];rfl
 .cases a
def NS(H:aa)(p:Rp)(x:Tm)(v:gt)(l:List Int)(c:UInt8)(f:Nat)(g:b7 H p x)(s:x.Sz)(ok:H.base<=H.next)(b:kI H v l)(k:∀ n∈ae v,n∉p.au)(j:nE c.toNat=ap f):gp f [v] H p (.tuple #[]) (x.aT c l):=by
 have e:(c.toNat,f)∈xO:=by unfold nE at j;simp only[zB5]at j;obtain⟨q,m,o⟩:=j;have r:=List.find?_some m;have t:q.1=c.toNat:=Nat.eq_of_beq_eq_true r;rw[<-t,<-o];exact List.mem_of_find?_eq_some m
 have a:∀ n:UInt8,c.toNat=n.toNat->c=n:=fun n h=>UInt8.toNat_inj.1 h;simp only[xO,zA9,i6,zF2,or_false]at e
 rcases e with⟨h,rfl⟩|⟨h,rfl⟩|⟨h,rfl⟩|⟨h,rfl⟩|⟨h,rfl⟩|⟨h,rfl⟩|⟨h,rfl⟩|⟨h,rfl⟩|⟨h,rfl⟩|⟨h,rfl⟩|⟨h,rfl⟩|⟨h,rfl⟩|⟨h,rfl⟩|⟨h,rfl⟩
 .have:=a 65 h; subst this; exact Se H p x v l g s ok b
 .have:=a 66 h; subst this; exact Qq H p x v l g s ok b
 .have:=a 67 h; subst this; exact OZ H p x v l g s ok b
 .have:=a 68 h; subst this; exact Qr H p x v l g s ok b
 .have:=a 71 h; subst this; exact N4 H p x v l g s ok b
 .have:=a 100 h; subst this; exact NU H p x v l g s ok b
 .have:=a 72 h; subst this; exact Dn H p x v l g s ok b
 .have:=a 102 h; subst this; exact Dn H p x v l g s ok b
 .have:=a 74 h; subst this; exact F6 H p x v l g s ok b k
 .have:=a 75 h; subst this; exact yV H p x v l g s ok b
 .have:=a 76 h; subst this; exact M5 H p x v l g s ok b
 .have:=a 77 h; subst this; exact NM H p x v l g s ok b
 .have:=a 109 h; subst this; exact B7 H p x v l g ok b k
 .have:=a 114 h; subst this; exact Mc H p x v l g s ok b
def yv{x:Tm}{l:List Int}{c:UInt8}(b:nE c.toNat=bi):x.aT c l=x:=by have a:∀ n:UInt8,nE n.toNat≠bi->c≠n:=fun n h e=>h (e▸b);refine qq ⟨a 65 mt,a 66 mt,a 67 mt,a 68 mt,a 71 mt,a 100 mt,a 72 mt,a 102 mt,a 74 mt,a 75 mt,a 76 mt,a 77 mt,a 109 mt,a 114 mt⟩
def lg:∀(b:List UInt8)(d:List Int)(a:Int)(l:List Int),numbers b d a=ap l->l≠[]/\l.length<=b.length+d.length+1/\((∀ n∈d,0<=n/\n<=9999)->0<=a/\a<=9999->∀ n∈l,0<=n/\n<=9999)
 |[],d,a,l,h=>by
  simp only[numbers,i5]at h;subst h;refine⟨by simp,by simp,fun g f n e=>?_⟩;simp only[zB4,zA6]at e;rcases e with e|rfl
  .exact g n e
  .exact f
 |c::r,d,a,l,h=>by
  unfold numbers at h;by_cases g:c=59
  .rw[if_pos g]at h;obtain⟨j,o,k⟩:=lg r _ _ l h;refine⟨j,by simp only[zB2,zA3,zB0]at o ⊢; omega,fun f m=>k (fun n e=>?_) ⟨by omega,by omega⟩⟩;simp only[zB4,zA6]at e;rcases e with e|rfl
   .exact f n e
   .exact m
  .rw[if_neg g]at h;by_cases f:48<=c/\c<=57
   .rw[if_pos f]at h;obtain⟨j,o,k⟩:=lg r _ _ l h;refine⟨j,by simp only[zA3]; omega,fun m q=>k m ?_⟩;have s:48<=c.toNat:=f.1;omega
   .rw[if_neg f]at h; cases h
def J6(H:aa)(p:Rp)(x:Tm)(c:UInt8)(g:b7 H p x)(s:x.Sz)(ok:H.base<=H.next)(hpl:x.params.length<=64):gp 83 [gD c] H p (.tuple #[]) (x.dJ c):=by
 obtain⟨b,hb⟩:=ac H.next;have hT:p.t<b:=hb▸g.lt p.t nl;have h1:=g.cell;simp only[aW]at h1;have hstr:=g.par.str;have hsq:(((⟨x.params.toArray⟩:ByteArray).toList == (⟨#[63,50,53]⟩:ByteArray).toList))=ge (x.params=[63,50,53]):=Nr x.params [63,50,53]
 obtain⟨dq,hdq⟩:∃ d,ge (x.params=[63,50,53])=d:=⟨_,rfl⟩
 rw[hdq]at hsq;have MT:x.params=[63,50,53] ↔ dq=true:=by rw[<-hdq,decide_eq_true_iff]
 have K:=jR (c:=c) (n:=104) li;have M:=jR (c:=c) (n:=108) li;rw[show (UInt8.ofNat 104)=104 from rfl,show ((104:Nat):Int)=104 from rfl]at K;rw[show (UInt8.ofNat 108)=108 from rfl,show ((108:Nat):Int)=108 from rfl]at M
 obtain⟨dh,hdh⟩:∃ d,ge (c=104)=d:=⟨_,rfl⟩
 obtain⟨dl,hdl⟩:∃ d,ge (c=108)=d:=⟨_,rfl⟩
 have eh:c=104 ↔ dh=true:=by rw[<-hdh,decide_eq_true_iff]
 have el:c=108 ↔ dl=true:=by rw[<-hdl,decide_eq_true_iff]
 rw[hdh]at K;rw[hdl]at M
 have key:x.dJ c=cond (dq&&(dh||dl)) {x with shown:=dh} (match numbers x.params [] 0 with
  |some l=>x.aT c l
  |none=>x):=by
  unfold Tm.dJ;simp only[MT,eh,el];cases dq<;>cases dh<;>cases dl<;>rfl
 rw[key];refine aH mixed Tryz.func83 rfl Tryz.ntmps83 (zA8 rfl) ?_;have hnoS:∀ a b:ByteArray,df Tryz.prog (ext H []) .eql 9 (.string a) (.string b)=none:=fun a b=>by kernel_rfl
 cases hD:(dq&&(dh||dl)) with
 |true =>
  simp only[hb,hT,h1,aY,hstr,cond_true,zW,seval];refine (vT rfl rfl qr qr mt (hnoS _ _)).mpr ?_
  cases dq<;>cases dh<;>cases dl<;>first
   |(exfalso; revert hD; decide)
   | (simp only [hb, hT, h1, hsq, K, M, Tryz.results83, zW, seval]
      exact⟨trivial,p,g.one (y:={x with shown:=true}) rfl rfl rfl rfl⟩)
   | (simp only [hb, hT, h1, hsq, K, M, Tryz.results83, zW, seval]
      exact⟨trivial,p,g.one (y:={x with shown:=false}) rfl rfl rfl rfl⟩)
 |false =>
 rw[cond_false];refine fW (fun B H'=>H'=H/\B 0=i9 (ap ⟨p.t,0,bi⟩)/\B 1=gD c) ?_ ?_
 .simp only[hb,hT,h1,aY,hstr,zW,seval];refine (vT rfl rfl qr qr mt (hnoS _ _)).mpr ?_
  cases dq<;>cases dh<;>cases dl<;>first
   |(exfalso; revert hD; decide)
   | (simp only [hsq, K, M, zW, seval]
      refine ah ⟨rfl,?_,?_⟩<;>simp only[aE,seval])
 rintro E X ⟨hX,g0,g1⟩;rw[hX];clear hX X;obtain⟨apv,hpv⟩:=g.par.sl;have h2:=h1;rw[hpv]at h2
 -- the first number
 have hw0:qF (ext H [⟨3,gc,[i7 i8 0]⟩]) (jp (ap ⟨b+0,0,ap 0⟩) 1 1) [0]:=⟨by simp,b+0,gc,rfl,by rw[bJ hb lw]; rfl,by rw[aA,hb]; simp⟩
 rw[show H=ext H [] from rfl];simp only[g0,hb,hT,h2,zW,seval];refine c7 fun B hE=>?_;have f0:B 0=i9 (ap ⟨p.t,0,bi⟩):=by rw[hE]; simp only[g0,aE,seval]
 have f1:B 1=gD c:=by rw[hE]; simp only[g1,aE,seval]
 have T:B 4=jp (ap ⟨b+0,0,ap 0⟩) 1 1:=by rw[hE]; rfl
 have F:B 32=.slice apv x.params.length x.params.length:=by rw[hE]; rfl
 have C:B 33=i7 i8 (x.params.length:Int):=by rw[hE]; rfl
 have I:B 34=i7 i8 ((0:Nat):Int):=by rw[hE]; rfl
 clear hE g0 g1 E;refine bn (fun B H'=>∃ l w,Mod [] H H'/\numbers x.params [] 0=ap l/\qF H' w l/\(∀ n∈ae w,H.next<=n)/\B 0=i9 (ap ⟨p.t,0,bi⟩)/\B 1=gD c/\B 4=w) ?_ ?_
 .refine b8 (fun (q:Nat × List Int × Int × gt) B H'=>Mod [] H H'/\q.1<=x.params.length/\numbers (x.params.drop q.1) q.2.1 q.2.2.1=numbers x.params [] 0/\q.2.1.length<=q.1/\0<=q.2.2.1/\q.2.2.1<=9999/\qF H' q.2.2.2 (q.2.1++[q.2.2.1])/\(∀ n∈ae q.2.2.2,H.next<=n)/\B 0=i9 (ap ⟨p.t,0,bi⟩)/\B 1=gD c/\B 4=q.2.2.2/\B 32=.slice apv x.params.length x.params.length/\B 33=i7 i8 (x.params.length:Int)/\B 34=i7 i8 (q.1:Int)) (fun q=>x.params.length-q.1) (0,[],0,jp (ap ⟨b+0,0,ap 0⟩) 1 1)
   ⟨Mod.ext ok,zB7 _,rfl,zA5 _,Int.le_refl _,by simp only; omega,hw0,fun n J=>by simp only[ae,zA6]at J; omega,f0,f1,T,F,C,I⟩ ?_
  clear f0 f1 T F C I hw0 B;rintro⟨i,d,a,w⟩ E X ⟨O,hi,j,hdl',ha0,ha9,hw,R,f0,f1,T,F,C,I⟩;simp only at O hi j hdl' ha0 ha9 hw R T I;rw[show X=ext X [] from rfl];have V:=O.ok ok;by_cases hie:i=x.params.length
  .have hd:ge ((i:Int)<(x.params.length:Int))=false:=decide_eq_false li;simp only[C,I,hd,zW,seval];rw[hie,List.drop_length]at j;refine ah ⟨_,w,O,?_,hw,R,?_,?_,?_⟩<;>try simp only[f0,f1,T,aE,seval]
   rw[<-j]; rfl
  .have W:i<x.params.length:=by omega
   have hd:ge ((i:Int)<(x.params.length:Int))=true:=decide_eq_true li;obtain⟨xb,U⟩:=ac X.next
   obtain⟨r,hch⟩:∃ r,x.params[i]?=ap r:=⟨_,zB3 W⟩
   obtain⟨n1,o1,i1,m1,ld1⟩:=g.par.get hch;have hn1:n1<H.next:=g.lt n1 (by simp[Rp.au,m1]);have ld1':∀ q,rl Tryz.prog 5 o1 (CW (bk X n1) q)=ap (gD r):=fun q=>by rw[O.bk hn1 lw]; exact ld1 q
   have hn1x:n1<xb:=U▸O.lt hn1;rw[hpv]at i1;have hdrop:x.params.drop i=r::x.params.drop (i+1):=by rw[List.drop_eq_getElem_cons W];congr 1;rw[zB3 W]at hch;exact Option.some.inj hch
   rw[hdrop]at j;have hw':=hw;obtain⟨_,nw,o,A,hwb,hwlt⟩:=hw';have hlen:(d++[a]).length=d.length+1:=by simp
   rw[hlen]at A;have hwi:aS Tryz.prog 22 (jp (ap ⟨nw,0,if o=bv then bi else ap 0⟩) (d.length+1) (d.length+1)) (i7 i8 (d.length:Int))=ap (i9 (ap ⟨nw,d.length,bi⟩)):=by have:=ta (len:=d.length+1) (cap:=d.length+1) (n:=nw) (off:=0) (s:=if o=bv then bi else ap 0) (i:=(d.length:Int)) (k:=d.length) rfl li;rw[zC6]at this;exact this
   have hwl:IntKind.i64.wrap (((d.length+1:Nat):Int)-1)=(d.length:Int):=by have:=ak (n:=((d.length+1:Nat):Int)-1) li li;rw[show IntKind.i64.wrap (((d.length+1:Nat):Int)-1)=_ from this]; omega
   have hws:=bA (show i<1000000 by omega);have q59:=jR (c:=r) (n:=59) li;rw[show (UInt8.ofNat 59)=59 from rfl,show ((59:Nat):Int)=59 from rfl]at q59;have hwx:nw<xb:=U▸hwlt;obtain⟨L,hL⟩:=ac (d.length+1);rw[hL]at A hwi hwl;rw[A]at T;by_cases h59:r=59
   .have S:ge ((r.toNat:Int)=59)=true:=by rw[q59]; exact decide_eq_true h59
    obtain⟨w',G,happ,hwG,mG,hGn⟩:=Di hw U pp V;rw[A]at happ;simp only[T,F,C,I,hd,U,hn1x,i1,ld1',hwl,hwi,S,happ,hws,zW,seval];refine aC ⟨(i+1,d++[a],0,w'),by simp only; omega,O.step mG ok (fun n J=>.inr (R n J)),by simp only; omega,?_,by simp; omega,Int.le_refl _,by simp only; omega,hwG,fun n J=>?_,?_,?_,?_,?_,?_,?_⟩<;>try simp only[f0,f1,F,C,aE,seval]
    .rw[<-j];conv=>rhs; rw[numbers,if_pos h59]
    .have:=hGn n J;have:=O.next;omega
   .have S:ge ((r.toNat:Int)=59)=false:=by rw[q59]; exact decide_eq_false h59
    by_cases D:48<=r/\r<=57
    .have c1:48<=r.toNat:=D.1;have c2:r.toNat<=57:=D.2;have p1:ge ((48:Int)<=(r.toNat:Int))=true:=decide_eq_true li;have p2:ge ((r.toNat:Int)<=57)=true:=decide_eq_true li;have ldl:(dI (d++[a]))[d.length]?=ap (i7 i8 a):=by rw[tM];simp
     have hs8:=Mv D.1;have hcv:∀(Y:aa)(m:Int),bM Tryz.prog Y 5 3 (.int .u8 m)=ap (i7 i8 (IntKind.i64.wrap m),Y):=fun Y m=>im (u:=.int .u8) ls ls;have hw8:IntKind.i64.wrap ((r.toNat:Int)-48)=(r.toNat:Int)-48:=ak li li;have hw10:IntKind.i64.wrap (a*10)=a*10:=ak li li;have hw11:IntKind.i64.wrap (a*10+((r.toNat:Int)-48))=a*10+((r.toNat:Int)-48):=ak li li;have hst:∀ N v,sQ Tryz.prog 3 N d.length (i7 i8 v) (ap ⟨3,o,dI (d++[a])⟩)=ap ⟨3,o,cQ (dI (d++[a])) d.length [i7 i8 v]⟩:=fun N v=>nA (v:=i7 i8 v) ls (by simp only[Value.cells,gq,zB2,zA3,zB0]; omega) rfl rfl;have hset:=C1 (c:=min 9999 (a*10+((r.toNat:Int)-48))) hw nw (by rw[A]; simp[ae]);simp only[T,F,C,I,hd,U,hn1x,i1,ld1',hwl,hwi,S,p1,p2,hwx,ldl,hs8,aY,hcv,hw8,hw10,hw11,hwb,hst,hws,zW,seval];refine aC ⟨(i+1,d,min 9999 (a*10+((r.toNat:Int)-48)),w),by simp only; omega,O.step (W':=[nw]) (Mod.uw lw) ok (fun n J=>.inr (R n (by rw[A]; simpa[ae]using J))),by simp only; omega,?_,by simp only; omega,by simp only; omega,by simp only; omega,hset,R,?_,?_,?_,?_,?_,?_⟩<;>try simp only[f0,f1,T,F,C,aE,seval]
     .rw[<-j];conv=>rhs; rw[numbers,if_neg h59,if_pos D]
     .exact A.symm
    .have hnone:numbers x.params [] 0=none:=by
      rw[<-j,numbers,if_neg h59,if_neg D]
     rw[hnone]
     obtain⟨e1,he1⟩:∃ e,ge ((48:Int)<=(r.toNat:Int))=e:=⟨_,rfl⟩
     obtain⟨e2,he2⟩:∃ e,ge ((r.toNat:Int)<=57)=e:=⟨_,rfl⟩
     have hno:¬(e1=bv/\e2=bv):=fun h=>by have t1:=of_decide_eq_true (he1.trans h.1);have t2:=of_decide_eq_true (he2.trans h.2);exact D (zA0 (show 48<=r.toNat by omega) (show r.toNat<=57 by omega))
     cases e1<;>cases e2<;>first
      |exact absurd ⟨rfl,rfl⟩ hno
      | (simp only [T, F, C, I, hd, U, hn1x, i1, ld1', hwl, hwi, S, he1, he2, da, Tryz.results83, zW, seval]
         exact⟨trivial,p,Step.quiet g O⟩)
 clear f0 f1 T F C I B;rintro E X ⟨l,w,O,j,hw,R,f0,f1,T⟩;rw[j];have V:=O.ok ok;have gX:b7 X p x:=g.of O.next fun n J=>O.get n (g.lt n J) lw;obtain⟨q1,q2,q3⟩:=lg _ _ _ _ j;rw[show X=ext X [] from rfl];simp only[zW];refine (Lg X V).mono ?_;rintro _ Y ⟨rfl,rfl⟩;have mY:Mod [] X (X.new tW):=Mod.new V;have okY:=mY.ok V;have gY:b7 (X.new tW) p x:=gX.of mY.next fun n J=>mY.get n (gX.lt n J) lw;have hlk:=LU (X:=X) c;rw[show X.new tW=ext (X.new tW) [] from rfl]at hlk;have hwY:dY (X.new tW) w l:=hw.at_.of fun n J=>by obtain⟨_,nw,o,A,_,W⟩:=hw;rw[A]at J;simp only[ae,zA6]at J;exact mY.get n li lw
 have hpY:kI (X.new tW) w l:=⟨hwY,q1,q3 lw ⟨Int.le_refl _,by omega⟩,by simp only[zB0]at q2; omega,fun n J=>by
  obtain⟨_,nw,o,A,_,W⟩:=hw;rw[A]at J;simp only[ae,zA6]at J;have:=mY.next
  omega⟩
 have hvY:∀ n∈ae w,n∉p.au:=fun n J hb'=>by have:=R n J;have:=g.lt n hb';omega
 rw[show X.new tW=ext (X.new tW) [] from rfl]
 cases hf:nE c.toNat with
 |none =>rw[hf]at hlk;rw[yv hf];simp only[f1,Dy,hlk,QH,zW,seval];refine (ln (p:=.nilFunc) (q:=.nilFunc) (v:=kw gc) rfl rfl rfl rfl mt ls rfl rfl ls rfl).mpr ?_;simp only[Tryz.results83,zW,seval];exact⟨trivial,p,Step.quiet g (O.trans mY)⟩
 |some f =>
  rw[hf]at hlk;have hfin:=NS (X.new tW) p x w l c f gY s okY hpY hvY hf;simp only[f0,f1,T,Dy,hlk,QH,zW,seval]
  have hbody:aB Tryz.prog f=true:=by
   have hmem:f∈xO.map (·.2):=by unfold nE at hf;simp only[zB5]at hf;obtain⟨q,h1,h2⟩:=hf;exact zB6.2 ⟨q,List.mem_of_find?_eq_some h1,h2⟩
   have hall:(xO.map (·.2)).all (aB Tryz.prog)=true:=by kernel_rfl
   exact zD3.1 hall f hmem
  refine Hz (f:=f) (ca:=[]) rfl rfl rfl hbody ?_;simp only[aE,seval];refine aL.mono (show aL Tryz.prog f [i9 (ap ⟨p.t,0,bi⟩),w] (ext (X.new tW) []) _ from hfin) ?_;rintro _ Z ⟨rfl,p1,st⟩;rw[show Z=ext Z [] from rfl];simp only[Tryz.results83,fX,seval];exact⟨trivial,p1,(Step.quiet g (O.trans mY)).trans ok st⟩
def lD{H:aa}{n:Nat}{b:Bl}(h:bk H n=ap b):∃ rv,bI H n=ap (rv,b.e,b.o)/\rv.n=b.l.length:=by obtain⟨rv,a,c,f⟩:=qJ h;exact⟨rv,a,c⟩
def CU{P:io}{H:aa}{st xt e:ii}{sz by1 m off k n off2 cnt cap:Nat}{sp s:Option Nat}{z:gt}{b a:Bl}(J:P.underlying st=ap (.slice e))(r:bg P e=ap sz)(t:bytesOf P e=ap by1)(K:zeroOf P e=ap z)(u:z.cells.toList.length=sz)(hi:fM P xt=ap gc)
  (v:bk H m=ap a) (L:a.e=e) (M:a.o=bv) (w:off+k*sz<=a.l.length) (h:((a.l.drop off).take (k*sz)).all one=bv) (A:sp=bi\/(∃ j,sp=ap (j+1))/\k=0)
  (O:bk H n=ap b) (q:off2+cnt*sz<=b.l.length) (c:b.l.all one=bv) (T:0<cnt) (B:small (k+cnt) by1=bv) :
  aF P H .append ⟨[st,xt]⟩ [jp (ap ⟨m,off,sp⟩) k k,jp (ap ⟨n,off2,s⟩) cnt cap]=(cH (H.cy m bi) e ((a.l.drop off).take (k*sz)++(b.l.drop off2).take (cnt*sz)) bv).map fun g=>(jp (ap ⟨H.next,0,bi⟩) (k+cnt) (k+cnt),g):=by
 have R:((b.l.drop off2).take (cnt*sz)).length=cnt*sz:=by simp; omega
 have C:((a.l.drop off).take (k*sz)).length=k*sz:=by simp; omega
 obtain⟨rv,D,F⟩:=lD v;have f:=l6 v;rw[M]at f;have S:=fA (sz:=sz) (cnt:=k) (off:=off) (len:=k) (cap:=k) (s:=sp) v w
 have I:fK H ⟨m,off,sp⟩ k k=ap false:=by
  rcases A with rfl|⟨⟨j,rfl⟩,rfl⟩
  .simp only[fK,dW,f,zB1,zE4]
  .simp only[fK,f];rfl
 simp only[aF,fL,J,r,t,K,hi,zA1,zA4,kz,fA O q,R,u,B,and_self,if_true,dU];rw[if_neg li];simp only[S,zA4,C,h,nm c,decide_true,zD8,if_true,I,D];rw[if_pos ⟨L,by rw[zE2,F]; omega⟩];cases cH (H.cy m bi) e ((a.l.drop off).take (k*sz)++(b.l.drop off2).take (cnt*sz)) bv<;>rfl
def Bj{X:aa}{v:gt}{l:List UInt8}{k:Nat}{c:UInt8}(h:bD X v l)(u:∀ n∈ae v,n<X.next)(w:X.next=k)(Z:l.length<=1000)(A:X.base<=X.next) :
  ∃ G,aF Tryz.prog (ext X [⟨5,gc,[gD c]⟩]) .append ⟨[25,25]⟩ [v,jp (ap ⟨k+0,0,ap 0⟩) 1 1]=ap (jp (ap ⟨k+1,0,bi⟩) (l.length+1) (l.length+1),ext G [])/\bD G (jp (ap ⟨k+1,0,bi⟩) (l.length+1) (l.length+1)) (l++[c])/\Mod (ae v) X G/\k+1<G.next:=by
 have g:bk (ext X [⟨5,gc,[gD c]⟩]) (k+0)=ap ⟨5,gc,[gD c]⟩:=by rw[bJ w lw]; rfl
 have o:∀ j,j<=1001->small j 1=true:=fun j hj=>by simp only[small,zA7,zE2]; omega
 have q:([gD c].drop 0).take (1*1)=[gD c]:=rfl;have R:aq l++[gD c]=aq (l++[c]):=by simp[aq]
 have I:Tryz.prog.underlying 25=ap (.slice 5):=by kernel_rfl
 have J:bg Tryz.prog 5=ap 1:=by kernel_rfl
 have K:bytesOf Tryz.prog 5=ap 1:=by kernel_rfl
 have M:zeroOf Tryz.prog 5=ap (.int .u8 0):=by kernel_rfl
 have O:fM Tryz.prog 25=ap false:=by kernel_rfl
 -- the result, if nothing is dropped
 have r:∀(L:List gt),L=aq (l++[c])->(cH (ext X [⟨5,gc,[gD c]⟩]) 5 L bv)=ap (ext X [⟨5,gc,[gD c]⟩,⟨5,bv,aq (l++[c])⟩]):=by rintro L rfl;exact et (H:=X) (L:=[⟨5,gc,[gD c]⟩]) (p7 _ _)
 have t:bD (ext X [⟨5,gc,[gD c]⟩,⟨5,bv,aq (l++[c])⟩]) (jp (ap ⟨k+1,0,bi⟩) (l.length+1) (l.length+1)) (l++[c]):=by refine .inr (.inl ⟨by simp,k+1,[],by simp,?_⟩);rw[bJ w lw]; rfl
 have D:k+1<(ext X [⟨5,gc,[gD c]⟩,⟨5,bv,aq (l++[c])⟩]).next:=by rw[aA]; simp; omega
 have b:∀ m off sp,m<X.next->(cH ((ext X [⟨5,gc,[gD c]⟩]).cy m bi) 5 (aq (l++[c])) bv)=ap (ext (dp X m) [⟨5,gc,[gD c]⟩,⟨5,bv,aq (l++[c])⟩])/\bD (ext (dp X m) [⟨5,gc,[gD c]⟩,⟨5,bv,aq (l++[c])⟩]) (jp (ap ⟨k+1,0,bi⟩) (l.length+1) (l.length+1)) (l++[c])/\Mod (ae (jp (ap ⟨m,off,sp⟩) l.length l.length)) X (ext (dp X m) [⟨5,gc,[gD c]⟩,⟨5,bv,aq (l++[c])⟩])/\k+1<(ext (dp X m) [⟨5,gc,[gD c]⟩,⟨5,bv,aq (l++[c])⟩]).next:=by
  intro m off sp hm;have S:(dp X m).next=k:=w;refine⟨?_,?_,?_,by rw[aA,iR]; simp; omega⟩
  .rw[GQ hm];exact et (H:=dp X m) (L:=[⟨5,gc,[gD c]⟩]) (p7 _ _)
  .refine .inr (.inl ⟨by simp,k+1,[],by simp,?_⟩);rw[bJ S lw]; rfl
  .have mD:Mod (ae (jp (ap ⟨m,off,sp⟩) l.length l.length)) X (dp X m):=Mod.cy ol;exact mD.trans (Mod.ext (mD.ok A))
 rcases h with⟨rfl,rfl⟩|⟨dK,n,e,rfl,F⟩|⟨rfl,n,off,j,L,rfl,F,T⟩|⟨rfl,n,rfl,F⟩
 .have a:=G7 (P:=Tryz.prog) (H:=ext X [⟨5,gc,[gD c]⟩]) (st:=25) (xt:=25) (n:=k+0) (off:=0) (cnt:=1) (cap:=1) (s:=ap 0) I J K M rfl O g lw rfl mt (o 1 li);rw[q,r [gD c] rfl,zB1,aA,w]at a;exact⟨ext X [⟨5,gc,[gD c]⟩,⟨5,bv,aq [c]⟩],a,t,Mod.ext A,D⟩
 .have B:=u n ol;have f:=(iI (L:=[⟨5,gc,[gD c]⟩]) B).trans F;have a:=CU (P:=Tryz.prog) (H:=ext X [⟨5,gc,[gD c]⟩]) (st:=25) (xt:=25) (m:=n) (off:=e.length) (k:=l.length) (n:=k+0) (off2:=0) (cnt:=1) (cap:=1) (s:=ap 0) I J K M rfl O f rfl rfl (by simp[cR]) (nm (xd _) _ _) (.inl rfl) g lw rfl mt (o _ li);have C:((aq (e++l)).drop e.length).take (l.length*1)=aq l:=by rw[zE5,qt,<-cR e,List.drop_left,zC3 (by rw[cR]; exact zA5 _)]
  simp only[C,q,R]at a;obtain⟨U,V,W,Y⟩:=b n e.length bi B;rw[U,zB1,aA,w]at a;exact⟨ext (dp X n) [⟨5,gc,[gD c]⟩,⟨5,bv,aq (l++[c])⟩],a,V,W,Y⟩
 .have B:=u n ol;have f:=(iI (L:=[⟨5,gc,[gD c]⟩]) B).trans F;have a:=CU (P:=Tryz.prog) (H:=ext X [⟨5,gc,[gD c]⟩]) (st:=25) (xt:=25) (m:=n) (off:=off) (k:=0) (sp:=ap (j+1)) (n:=k+0) (off2:=0) (cnt:=1) (cap:=1) (s:=ap 0) I J K M rfl O f rfl rfl (by simp only[Nat.zero_mul,zD6]; exact T) lw (.inr ⟨⟨j,rfl⟩,rfl⟩) g lw rfl mt (o _ li);have C:(L.drop off).take (0*1)++[gD c]=aq ([]++[c]):=by simp[aq]
  simp only[q,C]at a;obtain⟨U,V,W,Y⟩:=b n off (ap (j+1)) B;rw[U,zB1,aA,w]at a;exact⟨ext (dp X n) [⟨5,gc,[gD c]⟩,⟨5,bv,aq [c]⟩],a,V,W,Y⟩
 .have B:=u n ol;have f:=(iI (L:=[⟨5,gc,[gD c]⟩]) B).trans F;have a:=kn (P:=Tryz.prog) (H:=ext X [⟨5,gc,[gD c]⟩]) (st:=25) (xt:=25) (m:=n) (k:=0) (n:=k+0) (off:=0) (cnt:=1) (cap:=1) (s:=ap 0) I J K M rfl O f lw rfl g lw rfl mt (o _ li);rw[q]at a;rw[show (Bl.mk 5 gc []).l.take (0*1)++[gD c]=aq ([]++[c]) from rfl,r _ rfl,zB1,aA,w]at a;exact⟨ext X [⟨5,gc,[gD c]⟩,⟨5,bv,aq [c]⟩],a,t,Mod.ext A,D⟩
def b7.CA{H H1:aa}{p:Rp}{x y:Tm}(g:b7 H p x)(rv pv:gt)(m:Mod (p.t::(ae p.rv++ae p.pv)) H H1)(K:bk H1 p.t=ap ⟨66,gc,aW {p with rv:=rv,pv:=pv} y⟩)(C:y.grid=x.grid)(L:bD H1 rv y.rest)(M:bD H1 pv y.params)
  (hi:∀ n∈ae rv++ae pv,n∈ae p.rv++ae p.pv\/(H.next<=n/\n<H1.next)) (D:(ae rv++ae pv).Nodup):Step H p H1 {p with rv:=rv,pv:=pv} y:=by
 have k:=g.nd;simp only[Rp.au]at k;have s:=zB8.1 k;have u:=zB8.1 s.2;have I:=u.2;rw[zC9]at I;have F:=zD5.1 I;have v:∀ n∈ae p.rv++ae p.pv,n∈p.au:=fun n hn=>by simp only[Rp.au,zA9,zB4]at hn ⊢; rcases hn with h|h<;>simp[h]
 have r:∀ q∈p.rs,q.1∈p.au:=fun q j=>by simp only[Rp.au,zA9,zB4,zB6]; exact .inr (.inr (.inl (.inl ⟨q,j,rfl⟩)))
 have A:∀ q∈p.rs,q.1∉p.t::(ae p.rv++ae p.pv):=fun q j hm=>by
  have c:q.1∈p.rs.map (·.1):=zB6.2 ⟨q,j,rfl⟩;rcases zA9.1 hm with e|h
  .exact s.1 (e▸(by simp only[zA9,zB4]; exact .inr (.inl (.inl c))))
  .exact F.2.2 q.1 c q.1 h rfl
 have B:p.rb∉p.t::(ae p.rv++ae p.pv):=fun hm=>by
  rcases zA9.1 hm with e|h
  .exact s.1 (by rw[e]; simp)
  .rcases zB4.1 h with h|h
   .exact u.1 pu
   .exact u.1 pu
 have f:∀ n∈ae rv++ae pv,n≠p.t/\n≠p.rb/\n∉p.rs.map (·.1):=fun n hn=>by
  rcases hi n hn with h|⟨h,_⟩
  .refine⟨fun e=>s.1 (e▸?_),fun e=>u.1 (e▸?_),fun e=>F.2.2 n e n h rfl⟩<;>rcases zB4.1 h with h|h<;>simp[h]
  .refine⟨fun e=>?_,fun e=>?_,fun e=>?_⟩
   .have:=g.lt p.t nl; omega
   .have:=g.lt p.rb nl; omega
   .obtain⟨q,j,rfl⟩:=zB6.1 e;have:=g.lt q.1 (r q j); omega
 have o:∀ n∈({p with rv:=rv,pv:=pv}:Rp).au,n∈p.au\/(H.next<=n/\n<H1.next):=by
  intro n hn;simp only[Rp.au,zA9,zC9]at hn;rcases hn with rfl|rfl|hn
  .exact .inl nl
  .exact .inl nl
  .rcases zB4.1 hn with h|h
   .obtain⟨q,j,rfl⟩:=zB6.1 h;exact .inl (r q j)
   .exact (hi n h).imp (v n) id
 have O:y.w=x.w:=by simp only[Tm.w,C]
 have R:y.h=x.h:=by simp only[Tm.h,C]
 refine⟨⟨K,?_,?_,?_,L,M,?_,fun n hn=>?_⟩,m.mono ?_,rfl,fun n hn=>(o n hn).imp id (fun h=>h.1)⟩
 .rw[m.bk (g.lt _ nl) B,g.rows,O]
 .rw[R]; exact g.len
 .intro i q l j J;rw[C]at J;have c:=zC0 j;rw[m.bk (g.lt _ (r q c)) (A q c)];exact g.row i q l j J
 .simp only[Rp.au,zC9];refine zB8.2 ⟨?_,zB8.2 ⟨?_,zD5.2 ⟨F.1,D,fun a S b T e=>(f b T).2.2 (e▸S)⟩⟩⟩
  .intro hm;rcases zA9.1 hm with e|hm
   .exact s.1 (by rw[e]; simp)
   .rcases zB4.1 hm with h|h
    .exact s.1 (by simp only[zA9,zB4]; exact .inr (.inl (.inl h)))
    .exact (f _ h).1 rfl
  .intro hm;rcases zB4.1 hm with h|h
   .exact u.1 (by simp only[zB4]; exact .inl (.inl h))
   .exact (f _ h).2.1 rfl
 .rcases o n hn with h|h
  .exact m.lt (g.lt n h)
  .exact h.2
 .intro n hn;rcases zA9.1 hn with rfl|h
  .simp[Rp.au]
  .exact v n h
def K6{c:UInt8}{n:Nat}(a:n<256):ge ((n:Int)<=(c.toNat:Int))=ge (UInt8.ofNat n<=c):=by
 have:(n:Int)<=(c.toNat:Int) ↔ UInt8.ofNat n<=c:=by rw[UInt8.le_iff_toNat_le,UInt8.toNat_ofNat_of_lt' a];omega
 simp only[this]
def Rz{c:UInt8}{n:Nat}(a:n<256):ge ((c.toNat:Int)<=(n:Int))=ge (c<=UInt8.ofNat n):=by
 have:(c.toNat:Int)<=(n:Int) ↔ c<=UInt8.ofNat n:=by rw[UInt8.le_iff_toNat_le,UInt8.toNat_ofNat_of_lt' a];omega
 simp only[this]
def Lx{c:UInt8}{n:Nat}(a:n<256):ge ((c.toNat:Int)<(n:Int))=ge (c<UInt8.ofNat n):=by
 have:(c.toNat:Int)<(n:Int) ↔ c<UInt8.ofNat n:=by rw[UInt8.lt_iff_toNat_lt,UInt8.toNat_ofNat_of_lt' a];omega
 simp only[this]
def Rk{c:UInt8}{n:Nat}(a:n<256):ge ((n:Int)<(c.toNat:Int))=ge (UInt8.ofNat n<c):=by
 have:(n:Int)<(c.toNat:Int) ↔ UInt8.ofNat n<c:=by rw[UInt8.lt_iff_toNat_lt,UInt8.toNat_ofNat_of_lt' a];omega
 simp only[this]
def Tm.Sz.Cn{x:Tm}(s:x.Sz)(m:Bool)(l:List UInt8):Tm.Sz {x with middle:=m,params:=l} :=
 ⟨s.h1,s.h2,s.w1,s.w2,s.ws,s.r1,s.r2,s.c1,s.c2,s.sr1,s.sr2,s.sc1,s.sc2,s.t1,s.t2,s.t3,s.md,s.hd⟩
def Tm.Sz.parameter{x:Tm}(s:x.Sz)(c:UInt8):(x.parameter c).1.Sz:=by
 unfold Tm.parameter;by_cases a:c=27
 .rw[if_pos a]; exact s
 rw[if_neg a];by_cases b:64<=c/\c<=126
 .rw[if_pos b];simp only;split
  .exact s.dJ c
  .exact s
 rw[if_neg b];by_cases e:c<32\/c>126\/(c ≥ 48/\x.middle=bv)
 .rw[if_pos e]; exact s
 rw[if_neg e];simp only;split
 .exact s.Cn _ _
 .exact s.Cn _ x.params
def DX(H:aa)(p:Rp)(x:Tm)(c:UInt8)(g:b7 H p x)(s:x.Sz)(ok:H.base<=H.next)(hpl:x.params.length<=65):gp 44 [gD c] H p (i7 i8 ((x.parameter c).2:Int)) (x.parameter c).1:=by
 obtain⟨b,S⟩:=ac H.next;have hT:p.t<b:=S▸g.lt p.t nl;have h1:=g.cell;simp only[aW]at h1;obtain⟨apv,hpv⟩:=g.par.sl;have h2:=h1;rw[hpv]at h2
 obtain⟨B,T⟩:∃ d,ge (c=27)=d:=⟨_,rfl⟩
 obtain⟨l,U⟩:∃ d,ge (64<=c)=d:=⟨_,rfl⟩
 obtain⟨j,C⟩:∃ d,ge (c<=126)=d:=⟨_,rfl⟩
 obtain⟨o,W⟩:∃ d,ge (c<32)=d:=⟨_,rfl⟩
 obtain⟨k,D⟩:∃ d,ge (126<c)=d:=⟨_,rfl⟩
 obtain⟨q,Y⟩:∃ d,ge (48<=c)=d:=⟨_,rfl⟩
 obtain⟨dl48,F⟩:∃ d,ge (c<48)=d:=⟨_,rfl⟩
 obtain⟨r,I⟩:∃ d,x.middle=d:=⟨_,rfl⟩
 obtain⟨dp,hdp⟩:∃ d,ge (x.params.length<=64)=d:=⟨_,rfl⟩
 have e27:c=27 ↔ B=true:=by rw[<-T,decide_eq_true_iff]
 have e64:64<=c ↔ l=true:=by rw[<-U,decide_eq_true_iff]
 have e126:c<=126 ↔ j=true:=by rw[<-C,decide_eq_true_iff]
 have e32:c<32 ↔ o=true:=by rw[<-W,decide_eq_true_iff]
 have e127:126<c ↔ k=true:=by rw[<-D,decide_eq_true_iff]
 have e48:48<=c ↔ q=true:=by rw[<-Y,decide_eq_true_iff]
 have ep:x.params.length<=64 ↔ dp=true:=by rw[<-hdp,decide_eq_true_iff]
 have J:ge ((c.toNat:Int)=27)=B:=(jR (n:=27) li).trans T;have L:ge ((64:Int)<=(c.toNat:Int))=l:=(K6 (n:=64) li).trans U;have v:ge ((c.toNat:Int)<=126)=j:=(Rz (n:=126) li).trans C;have q32:ge ((c.toNat:Int)<32)=o:=(Lx (n:=32) li).trans W;have Z:ge ((126:Int)<(c.toNat:Int))=k:=(Rk (n:=126) li).trans D;have q48:ge ((48:Int)<=(c.toNat:Int))=q:=(K6 (n:=48) li).trans Y;have ql48:ge ((c.toNat:Int)<48)=dl48:=(Lx (n:=48) li).trans F
 have qp:ge ((x.params.length:Int)<=64)=dp:=by
  rw[<-hdp];by_cases h:x.params.length<=64
  .rw[decide_eq_true h,decide_eq_true li]
  .rw[decide_eq_false h,decide_eq_false li]
 have key:x.parameter c=cond B (x,1) (cond (l&&j) (cond dp (x.dJ c) x,0) (cond (o||(k||(q&&r))) (x,0) (cond dp {x with middle:=r||dl48,params:=x.params++[c]} {x with middle:=r||dl48},3))):=by unfold Tm.parameter;simp only[e27,e64,e126,e32,gt_iff_lt,ge_iff_le,e127,e48,I,F,ep];cases B<;>cases l<;>cases j<;>cases o<;>cases k<;>cases q<;>cases r<;>cases dp<;>rfl
 rw[key];refine aH mixed Tryz.func44 rfl Tryz.ntmps44 (zA8 rfl) ?_
 cases B with
 |true =>simp (maxDischargeDepth:=6) only[J,cond_true,Tryz.results44,zW,Nat.reduceLT,Nat.reduceAdd,Nat.reduceEqDiff];exact⟨rfl,p,Step.refl g⟩
 |false =>
 rw[cond_false]
 cases hA:(l&&j) with
 |true =>
  rw[cond_true]
  cases l<;>cases j<;>first
   |(exfalso; revert hA; decide)
   |skip
  cases dp with
  |true =>simp (maxDischargeDepth:=6) only[S,hT,h2,J,L,v,qp,cond_true,zW,Nat.reduceLT,Nat.reduceAdd,Nat.reduceEqDiff];refine (J6 (ext H []) p x c g s ok (ep.2 rfl)).mono ?_;rintro _ H1 ⟨rfl,p1,st⟩;rw[show H1=ext H1 [] from rfl];simp (maxDischargeDepth:=6) only[Tryz.results44,zW,Nat.reduceLT];exact⟨rfl,p1,st⟩
  |false =>simp (maxDischargeDepth:=6) only[S,hT,h2,J,L,v,qp,cond_false,Tryz.results44,zW,Nat.reduceLT,Nat.reduceAdd,Nat.reduceEqDiff];exact⟨rfl,p,Step.refl g⟩
 |false =>
 rw[cond_false]
 cases hB:(o||(k||(q&&r))) with
 |true =>
  rw[cond_true]
  cases l<;>cases j<;>cases o<;>cases k<;>cases q<;>cases r<;>first
   |(exfalso; revert hA; decide)
   |(exfalso; revert hB; decide)
   | (simp (maxDischargeDepth := 6) only [S, hT, h1, I, J, L, v, q32, Z, q48, Tryz.results44, zW, Nat.reduceLT, Nat.reduceAdd, Nat.reduceEqDiff]
      exact⟨rfl,p,Step.refl g⟩)
 |false =>
 rw[cond_false];refine fW (fun E' H'=>H'=H/\E' 0=i9 (ap ⟨p.t,0,bi⟩)/\E' 1=gD c) ?_ ?_
 .simp (maxDischargeDepth:=6) only[zW,Nat.reduceLT,Nat.reduceAdd];refine ah ⟨rfl,?_,?_⟩<;>simp only[aE,Nat.reduceEqDiff]
 rintro E X ⟨hX,g0,g1⟩;rw[hX,LX,CB];refine bn (fun E' H'=>H'=H/\E' 0=i9 (ap ⟨p.t,0,bi⟩)/\E' 1=gD c) ?_ ?_
 .rw[show H=ext H [] from rfl]
  cases l<;>cases j<;>cases o<;>cases k<;>cases q<;>cases r<;>first
   |(exfalso; revert hA; decide)
   |(exfalso; revert hB; decide)
   | (simp (maxDischargeDepth := 6) only [g0, g1, S, hT, h1, I, J, L, v, q32, Z, q48, zW, Nat.reduceLT, Nat.reduceAdd, Nat.reduceEqDiff]
      refine ah ⟨rfl,?_,?_⟩<;>simp only[g0,g1,aE,Nat.reduceEqDiff])
 clear hX g0 g1 E X;rintro E X ⟨hX,g0,g1⟩;rw[hX,show H=ext H [] from rfl];have f:Step H p (ext (uw H p.t 21 [kw (r||dl48)]) []) p {x with middle:=r||dl48}:=g.one rfl rfl rfl rfl;have M:=f.ok ok;rw[ext_nil]at f M;have hc1:=f.at_.cell;simp only[aW]at hc1;have A:=hc1;rw[hpv]at A;obtain⟨V,hV⟩:=ac (uw H p.t 21 [kw (r||dl48)]);rw[hV]at f M hc1 A;have hVn:V.next=b:=by rw[<-hV,bE,S]
 have hst:∀ d,d=(r||dl48)->uw H p.t 21 [kw d]=V:=fun d h=>h▸hV
 cases dp with
 |false =>
  rw[cond_false]
  cases r<;>cases dl48 <;>
   (have m:=hst _ rfl
    simp only[zF8,zF6]at m A f;simp (maxDischargeDepth:=6) only[g0,g1,S,hT,h1,I,ql48,m,hVn,A,qp,Tryz.results44,zW,Nat.reduceLeDiff,Nat.reduceLT,Nat.reduceAdd,Nat.reduceEqDiff]
    exact⟨rfl,p,f⟩)
 |true =>
  rw[cond_true];have hle:=ep.2 rfl;obtain⟨G,w,O,mG,hn2⟩:=Bj (c:=c) f.at_.par (fun n u=>f.at_.lt n (by simp[Rp.au,u])) hVn rc M;obtain⟨nw,hnw⟩:=ac (b+1);have hn1:V.next<=nw:=by omega
  rw[hnw]at w O hn2;simp only at w O
  obtain⟨w',hw'⟩:∃ w':gt,jp (ap ⟨nw,0,bi⟩) (x.params.length+1) (x.params.length+1)=w':=⟨_,rfl⟩
  rw[hw']at O;have hid:ae w'=[nw]:=by rw[<-hw']; simp[ae]
  have hTv:p.t∉ae p.pv:=fun h=>(zB8.1 g.nd).1 pu;have hbG:bk G p.t=ap ⟨66,gc,aW p {x with middle:=r||dl48}⟩:=by rw[mG.bk (f.at_.lt p.t nl) hTv]; exact f.at_.cell
  have K:=hbG;simp only[aW]at K;have okG:=mG.ok M;obtain⟨gn,hgn⟩:=ac G.next;have hTG:p.t<gn:=by rw[<-hgn]; exact mG.lt (f.at_.lt p.t nl)
  have hnwg:nw<gn:=hgn▸hn2;have mU:Mod [p.t] G (uw G p.t 20 [w']):=Mod.uw lw;have hrvn:nw∉ae p.rv:=fun h=>by have:=f.at_.lt nw (by simp[Rp.au,h]); omega
  have stF:Step V p (uw G p.t 20 [w']) {p with rv:=p.rv,pv:=w'} {x with middle:=r||dl48,params:=x.params++[c]}:=by
   refine f.at_.CA p.rv w' ((mG.mono (by intro n u; simp[u])).trans (mU.mono (by intro n u; simp at u; simp[u]))) ?_ rfl ?_ ?_ ?_ ?_
   .rw[bR,hbG]; rfl
   .refine f.at_.rest.of fun n u=>?_;rw[fD (fun e=>(zB8.1 g.nd).1 (by rw[<-e]; simp[u]))];refine mG.get n (f.at_.lt n (by simp[Rp.au,u])) (fun h=>?_);have R:=(zB8.1 (zB8.1 g.nd).2).2;exact (zD5.1 R).2.2 n (by simp[u]) n h rfl
   .refine O.of fun n u=>?_;rw[hid]at u;simp only[zA6]at u;exact fD (by have:=f.at_.lt p.t nl; omega)
   .intro n u;rcases zB4.1 u with h|h
    .exact .inl pu
    .rw[hid]at h;simp only[zA6]at h;exact .inr ⟨by omega,by rw[bE]; omega⟩
   .rw[hid];have R:=(zB8.1 (zB8.1 g.nd).2).2;rw[zC9]at R;have hnd2:=(zD5.1 (zD5.1 R).2.1).1;exact zD5.2 ⟨hnd2,by simp,fun a ha b' hb' e=>by simp only[zA6]at hb'; exact hrvn (hb'▸e▸ha)⟩
  rw[<-hw']at stF;rw[hpv]at w
  cases r<;>cases dl48 <;>
   (have m:=hst _ rfl
    simp only[zF8,zF6]at m A f stF K;simp (maxDischargeDepth:=6) only[g0,g1,S,hT,h1,I,ql48,m,hVn,A,qp,w,hgn,hTG,hnwg,K,Tryz.results44,zW,Nat.reduceLeDiff,Nat.reduceLT,Nat.reduceAdd,Nat.reduceEqDiff]
    exact⟨rfl,_,f.trans ok stF⟩)
end Go.Proofs.YtpohjcacnkhnkaaGreatDoor.Tq
namespace Go.Ax
section
variable{P:io}{N:Nat}{E:Env}{ds:List Deferred}{ops:Array Oper}{rest:List Oper}{ty:ii}{pos:String}{after:Array Edge}{H:aa}
def mL{Q:ai->aa->Prop}{i:Nat}{fps:List Fp}{anc:List Nat}{args:List i4}{ts:Array ii}{dst:Option Nat}(a:args.all (bd P N)=bv) :
  eV P ops anc (⟨dst,.call ⟨.builtin .append,⟨args⟩,ts⟩,ty,pos,after,bi⟩::rest) i fps (bj N E ds) H Q=mh P ops anc ⟨dst,.call ⟨.builtin .append,⟨args⟩,ts⟩,ty,pos,after,bi⟩ rest i fps (bj N E ds) H Q:=by
 simp only[eV,cG,iM,gC,oQ,qA,mh,cT a,Rx,kQ]
end
end Go.Ax
namespace Go.Proofs.YtpohjcacnkhnkaaGreatDoor.Tq
open Go.Ax
def gF(H:aa)(v:gt)(w:Nat)(rs:List (Nat × Bool)):Prop :=
 (rs=[]/\v=jp bi 0 0)\/(rs≠[]/\∃ n,v=jp (ap ⟨n,0,bi⟩) rs.length rs.length/\bk H n=ap ⟨56,bv,rs.map (aM w)⟩)
def gF.of{H G:aa}{v:gt}{w:Nat}{rs:List (Nat × Bool)}(h:gF H v w rs)(a:∀ n∈ae v,G.get n=H.get n):gF G v w rs:=by
 rcases h with⟨rfl,rfl⟩|⟨h,n,rfl,b⟩
 .exact .inl ⟨rfl,rfl⟩
 .exact .inr ⟨h,n,rfl,(aO (a n ol)).trans b⟩
def gF.ne{H:aa}{v:gt}{w:Nat}{rs:List (Nat × Bool)}(h:gF H v w rs):∀ n∈ae v,H.get n≠none:=by rcases h with⟨rfl,rfl⟩|⟨h,n,rfl,b⟩<;>intro m a<;>simp only[ae,zA6,zF2]at a;subst a; exact fI b
def rH{X:aa}{v:gt}{w:Nat}{rs:List (Nat × Bool)}{q:Nat × Bool}{k x:Nat}(h:gF X v w rs)(hx:X.next=x)(D:bk X k=ap ⟨56,gc,[aM w q]⟩)(F:rs.length<=1000)(u:∀ r∈rs++[q],r.1<X.next) :
  ∃ G,aF Tryz.prog X .append ⟨[39,39]⟩ [v,jp (ap ⟨k,0,ap 0⟩) 1 1]=ap (jp (ap ⟨x,0,bi⟩) (rs.length+1) (rs.length+1),G)/\gF G (jp (ap ⟨x,0,bi⟩) (rs.length+1) (rs.length+1)) w (rs++[q])/\(X.base<=X.next->Mod (ae v) X G)/\G.next=x+1:=by
 have I:Tryz.prog.underlying 39=ap (.slice 56):=by kernel_rfl
 have J:bg Tryz.prog 56=ap 1:=by kernel_rfl
 have K:bytesOf Tryz.prog 56=ap 24:=by kernel_rfl
 have O:zeroOf Tryz.prog 56=ap (jp bi 0 0):=by kernel_rfl
 have R:fM Tryz.prog 39=ap false:=by kernel_rfl
 have g:∀ j,j<=1001->small j 24=true:=fun j Y=>by simp only[small,zA7,zE2]; omega
 have t:([aM w q].drop 0).take (1*1)=[aM w q]:=rfl;have b:[aM w q].all one=true:=sg w [q];have c:∀ M:aa,X.next<=M.next->aX (M.next+0) ((rs++[q]).map (aM w))=true:=fun M T=>by rw[zD6];refine cx.2 fun v U=>?_;obtain⟨r,V,rfl⟩:=zB6.1 U;exact bx (zD1 (u r V) T)
 rcases h with⟨rfl,rfl⟩|⟨dK,n,rfl,W⟩
 .have a:=G7 (P:=Tryz.prog) (H:=X) (st:=39) (xt:=39) (n:=k) (off:=0) (cnt:=1) (cap:=1) (s:=ap 0) I J K O rfl R D lw b mt (g 1 li);have A:=et (H:=X) (L:=[]) (e:=56) (l:=[aM w q]) (o:=true) (c X (zA5 _));rw[t,show X=ext X [] from rfl,A,zB1]at a;refine⟨ext X [⟨56,bv,[aM w q]⟩],?_,.inr ⟨by simp,x,rfl,?_⟩,fun f=>Mod.ext f,by rw[aA,hx]; rfl⟩
  .rw[show (ext X []).next=x from hx]at a; exact a
  .rw[show x=x+0 from rfl,bJ hx lw]; rfl
 .have a:=CU (P:=Tryz.prog) (H:=X) (st:=39) (xt:=39) (m:=n) (off:=0) (k:=rs.length) (sp:=bi) (n:=k) (off2:=0) (cnt:=1) (cap:=1) (s:=ap 0) I J K O rfl R W rfl rfl lw (nm (sg w rs) _ _) (.inl rfl) D lw b mt (g _ li);have B:((rs.map (aM w)).drop 0).take (rs.length*1)=rs.map (aM w):=by rw[zD2]; exact zC3 lw
  simp only[B,t]at a;have C:rs.map (aM w)++[aM w q]=(rs++[q]).map (aM w):=by simp
  have A:=et (H:=dp X n) (L:=[]) (e:=56) (l:=(rs++[q]).map (aM w)) (o:=true) (c (dp X n) (zA5 _));rw[C,show X.cy n bi=ext (dp X n) [] from rfl,A,zB1]at a;refine⟨ext (dp X n) [⟨56,bv,(rs++[q]).map (aM w)⟩],?_,.inr ⟨by simp,x,by simp,?_⟩,fun f=>?_,by rw[aA,iR,hx]; rfl⟩
  .rw[hx]at a; exact a
  .rw[show x=x+0 from rfl,bJ (show (dp X n).next=x from hx) lw]; rfl
  .have S:Mod (ae (jp (ap ⟨n,0,bi⟩) rs.length rs.length)) X (dp X n):=Mod.cy ol;exact S.trans (Mod.ext (S.ok f))
def sV(v:gt)(b:Int):List Value:=[i7 i8 0,i7 i8 0,i7 i8 0,i7 i8 0,kw gc,kw gc,kw gc,i7 i8 0,i7 i8 0,i7 i8 0,i7 i8 0,kw gc,kw gc,kw gc,v,kw gc,i7 i8 0,i7 i8 b,i7 i8 0,jp bi 0 0,jp bi 0 0,kw gc,.int .u8 0]
def xG(h w:Nat):(Tm.new h w).h=h:=by simp[Tm.new,Tm.h]
def EO{h:Nat}(w:Nat)(a:1<=h):(Tm.new h w).w=w:=by
 obtain⟨k,rfl⟩:∃ k,h=k+1:=⟨h-1,by omega⟩
 simp[Tm.new,Tm.w,List.replicate_succ]
def xS{h w:Nat}(e:1<=h)(f:h<=200)(w1:1<=w)(g:w<=300):(Tm.new h w).Sz:=by
 have b:=xG h w;have c:=EO w e;refine⟨by omega,by omega,by omega,by omega,fun l a=>?_,Int.le_refl _,?_,Int.le_refl _,?_,Int.le_refl _,?_,Int.le_refl _,?_,Int.le_refl _,?_,?_,by simp[Tm.new],fun l a=>?_⟩
 .rw[c]; simp only[Tm.new]at a; rw[List.eq_of_mem_replicate a]; simp
 .rw[b]; simp only[Tm.new]; omega
 .rw[c]; simp only[Tm.new]; omega
 .rw[b]; simp only[Tm.new]; omega
 .rw[c]; simp only[Tm.new]; omega
 .simp only[Tm.new]; omega
 .rw[b]; simp only[Tm.new]; omega
 .simp only[Tm.new]at a;rw[List.eq_of_mem_replicate a]
  obtain⟨k,rfl⟩:∃ k,w=k+1:=⟨w-1,by omega⟩
  simp[List.replicate_succ,ru]
def PO(H:aa)(h w:Nat)(ok:H.base<=H.next)(h1:1<=h)(h2:h<=200)(w1:1<=w)(w2:w<=300) :
  aL Tryz.prog 10 [i7 i8 (h:Int),i7 i8 (w:Int)] H fun out H1=>∃ p,out=.ok (.tuple ⟨[i9 (ap ⟨p.t,0,bi⟩),i7 i8 0]⟩)/\b7 H1 p (Tm.new h w)/\Mod [] H H1/\(∀ n∈p.au,H.next<=n)/\p.rv=jp bi 0 0/\p.pv=jp bi 0 0:=by
 obtain⟨b,hb⟩:=ac H.next;have hbb:H.base<=b:=hb▸ok;have d1:ge ((h:Int)<1)=false:=decide_eq_false li;have d2:ge ((200:Int)<(h:Int))=false:=decide_eq_false li;have d3:ge ((w:Int)<1)=false:=decide_eq_false li;have d4:ge ((1000:Int)<(w:Int))=false:=decide_eq_false li;have hw1:IntKind.i64.wrap ((h:Int)-1)=(h:Int)-1:=ak li li;refine aH mixed Tryz.func10 rfl Tryz.ntmps10 (zA8 rfl) ?_;simp only[hb,d1,d2,d3,d4,hw1,zW,seval];refine c7 fun E hE=>?_;have V:E 1=i7 i8 (w:Int):=by rw[hE]; rfl
 have C:E 6=i9 (ap ⟨b+0,0,bi⟩):=by rw[hE]; rfl
 have j:E 25=i7 i8 (h:Int):=by rw[hE]; rfl
 have g:E 26=i7 i8 ((0:Nat):Int):=by rw[hE]; rfl
 clear hE;refine bn (fun Y s=>∃ rs v,rs.length=h/\Mod [] H s/\bk s (b+0)=ap ⟨66,gc,sV v ((h:Int)-1)⟩/\gF s v w rs/\(∀ q∈rs,b+0<q.1/\q.1<s.next/\bk s q.1=ap ⟨77,q.2,aQ (bT w)⟩)/\(rs.map (·.1)).Nodup/\(∀ n∈ae v,b+0<n/\n<s.next/\n∉rs.map (·.1))/\Y 6=i9 (ap ⟨b+0,0,bi⟩)) ?_ ?_
 .refine b8 (fun (q:List (Nat × Bool) × gt) Y s=>q.1.length<=h/\Mod [] H s/\b+0<s.next/\bk s (b+0)=ap ⟨66,gc,sV q.2 ((h:Int)-1)⟩/\gF s q.2 w q.1/\(∀ r∈q.1,b+0<r.1/\r.1<s.next/\bk s r.1=ap ⟨77,r.2,aQ (bT w)⟩)/\(q.1.map (·.1)).Nodup/\(∀ n∈ae q.2,b+0<n/\n<s.next/\n∉q.1.map (·.1))/\Y 1=i7 i8 (w:Int)/\Y 6=i9 (ap ⟨b+0,0,bi⟩)/\Y 25=i7 i8 (h:Int)/\Y 26=i7 i8 (q.1.length:Int)) (fun q=>h-q.1.length) ([],jp bi 0 0)
   ⟨zB7 _,Mod.ext ok,by rw[aA,hb]; simp,by rw[bJ hb lw]; rfl,.inl ⟨rfl,rfl⟩,by simp,by simp,by simp[ae],V,C,j,g⟩ ?_
  clear V C j g E;rintro⟨rs,v⟩ E X ⟨hl,mX,hbX,hc,A,c,B,I,V,C,j,g⟩;simp only at hl hc A c B I g;rw[show X=ext X [] from rfl];have okX:=mX.ok ok;by_cases hlh:rs.length=h
  .have hd:ge ((rs.length:Int)<(h:Int))=false:=decide_eq_false li;simp only[j,g,hd,zW,seval];refine ah ⟨rs,v,hlh,mX,hc,A,c,B,I,?_⟩;simp only[C,aE,seval]
  .have hd:ge ((rs.length:Int)<(h:Int))=true:=decide_eq_true li;obtain⟨x,hx⟩:=ac X.next;have hbx:b+0<x:=hx▸hbX;have O:∀ n∈ae v,n<x:=fun n f=>hx▸(I n f).2.1;have hc2:=hc;simp only[sV]at hc2;have hws:=bA (show rs.length<1000000 by omega);simp only[j,g,hd,zW,seval];refine aK [(7,6),(8,4),(8,6),(8,7),(11,4),(11,6),(11,7),(11,8)] [] ls ls rfl fun ops anc hA hG=>?_;simp only[aj]at hA;simp only[V,C,hx,hbx,hc2,bh,zW,seval];refine ES (v:=jp (ap ⟨x+0,0,ap 0⟩) w w) (M:=[⟨77,gc,aQ (List.replicate w sp)⟩]) [] (by simp only[aE,seval]) ls mt (fun n f=>by simp at f) (fun K f hg=>?_) (by simp (maxDischargeDepth:=6) only[bh]) ?_
   .simp only[aE];have:=Ec w w1 w2 K;rw[f,ext_nil,hx]at this;exact this
   simp only[hx,hA,zA3,zB0,bh,zW,seval];rw[mL rfl];obtain⟨Z,hZ⟩:=ac (ext X [⟨77,gc,aQ (List.replicate w sp)⟩,⟨56,gc,[jp (ap ⟨x+0,0,ap 0⟩) w w]⟩]);have mZ:Mod [] X Z:=hZ▸Mod.ext okX;have okZ:=mZ.ok okX;have hZn:Z.next=x+2:=by rw[<-hZ,aA,hx]; rfl
   have hZ1:bk Z (x+1)=ap ⟨56,gc,[aM w (x+0,gc)]⟩:=by rw[<-hZ,bJ hx lw]; rfl
   have hZ0:bk Z (x+0)=ap ⟨77,gc,aQ (bT w)⟩:=by rw[<-hZ,bJ hx lw]; rfl
   have R:∀ n,n<x->Z.get n=X.get n:=fun n f=>mZ.get n li lw;rw[hZ];have F:=aI Z (ae v++[x+1]);have hR:∀ n∈ae v++[x+1],(Z.restrict (ae v++[x+1])).get n=Z.get n:=fun n f=>by rw[bf,if_pos f]
   have J:gF Z v w rs:=A.of fun n f=>R n (O n f)
   obtain⟨G,happ,hrsG,mG,hGn⟩:=rH (x:=x+2) (k:=x+1) (q:=(x+0,gc)) (J.of fun n f=>hR n (by simp[f])) (by rw[F.1,hZn]) ((aO (hR (x+1) lw)).trans hZ1) li (fun r u=>by
    rw[F.1,hZn];rcases zB4.1 u with h|h
    .have:=(c r h).2.1; omega
    .simp only[zA6]at h; subst h; simp only; omega)
   have mG:=mG (by rw[F.1,F.2.1]; exact zA5 _)
   have hneZ:∀ n∈ae v++[x+1],Z.get n≠none:=fun n f=>by
    rcases zB4.1 f with h|h
    .exact J.ne n h
    .simp only[zA6]at h; subst h; exact fI hZ1
   refine my (W:=ae v) (ae v++[x+1]) okZ hneZ (fun n f=>by
     rcases zB4.1 f with h|h
     .have:=O n h; omega
     .simp only[zA6]at h; omega) (fun n f=>by simp[f])
    (jl (v:=jp (ap ⟨x+2,0,bi⟩) (rs.length+1) (rs.length+1)) rfl (by simp only[aE,seval]; exact happ)) mG (by simp only[aj,bu,hA,true_or,and_true]) ?_
   intro H1 D S hF1 hN1 o hD1;have o:H1.next=x+3:=by rw[o,hGn]
   have hT1:bk H1 (b+0)=ap ⟨66,gc,sV v ((h:Int)-1)⟩:=by rw[S.bk li (fun hh=>by have:=(I _ hh).1; omega),aO (R _ hbx)]; exact hc
   have hT2:=hT1;simp only[sV]at hT2;have hTn:b+0<x+3:=by omega
   rw[show H1=ext H1 [] from rfl];simp only[o,hTn,hT2,hA,bh,zW,seval];refine⟨⟨fun _=>.inr (.inl li),.inr (.inl li),.inr (.inl li)⟩,⟨fun _=>.inr (.inl li),.inr (.inl li),.inr (.inl li)⟩,?_⟩;simp only[g,hws,zW,seval];have mU:Mod [b+0] H1 (uw H1 (b+0) 14 [jp (ap ⟨x+2,0,bi⟩) (rs.length+1) (rs.length+1)]):=Mod.uw lw
   have T:bk H1 (x+2)=ap ⟨56,bv,(rs++[(x+0,gc)]).map (aM w)⟩:=by
    rw[aO (hN1 (x+2) li li)]
    rcases hrsG with⟨h,_⟩|⟨_,n,e,U⟩
    .simp at h
    .simp only[Value.slice.injEq,i5,Addr.mk.injEq,and_true]at e;rw[e.1]; exact U
   have L:∀ n,n<x+2->n≠b+0->n∉ae v->(uw H1 (b+0) 14 [jp (ap ⟨x+2,0,bi⟩) (rs.length+1) (rs.length+1)]).get n=Z.get n:=fun n h1' h2' h3'=>by rw[fD h2',S.get n li h3']
   refine aC ⟨(rs++[(x+0,gc)],jp (ap ⟨x+2,0,bi⟩) (rs.length+1) (rs.length+1)),by simp only[zB2,zA3,zB0]; omega,by simp only[zB2,zA3,zB0]; omega,?_,?_,?_,?_,?_,?_,?_,?_,?_,?_,?_⟩
   .have m1:Mod (ae v) X H1:=(mZ.mono lw).trans S;exact (mX.step m1 ok (fun n f=>.inr (by have:=(I n f).1; omega))).step mU ok (fun n f=>.inr (by simp only[zA6]at f; omega))
   .rw[ext_nil,bE,o]; omega
   .rw[ext_nil,bR,hT1]; rfl
   .refine .inr ⟨by simp,x+2,by simp,?_⟩;rw[ext_nil,eJ li];exact T
   .intro r u;rcases zB4.1 u with h|h
    .obtain⟨q1,q2,q3⟩:=c r h;refine⟨q1,by rw[ext_nil,bE,o]; omega,?_⟩;rw[ext_nil,aO (L r.1 li li (fun hh=>(I _ hh).2.2 (zB6.2 ⟨r,h,rfl⟩))),aO (R r.1 li)];exact q3
    .simp only[zA6]at h;subst h;refine⟨by simp only; omega,by rw[ext_nil,bE,o]; simp only; omega,?_⟩;rw[ext_nil,aO (L (x+0) li li (fun hh=>by have:=O _ hh; omega))];exact hZ0
   .rw[List.map_append];refine zD5.2 ⟨B,by simp,fun a ha b' U e=>?_⟩;obtain⟨r,u,rfl⟩:=zB6.1 ha;simp only[zB9,zE6,zA6]at U;have:=(c r u).2.1;omega
   .intro n f;simp only[ae,zA6]at f;subst f;refine⟨by omega,by rw[ext_nil,bE,o]; omega,fun hm=>?_⟩;obtain⟨r,u,e⟩:=zB6.1 hm;rcases zB4.1 u with h|h
    .have:=(c r h).2.1; omega
    .simp only[zA6]at h;subst h;simp only at e;omega
   .exact V
   .exact C
   .exact j
   .simp only[zB2,zA3,zB0,aE,seval]
 .clear V C j g E;rintro E X ⟨rs,v,hl,mX,hc,A,c,B,I,C⟩;rw[show X=ext X [] from rfl];simp only[C,Tryz.results10,zW,seval]
  rcases A with⟨h,_⟩|⟨_,n,rfl,hbn⟩
  .rw[h]at hl; simp at hl; omega
  have f:=I n ol;refine⟨⟨b+0,n,rs,jp bi 0 0,jp bi 0 0⟩,rfl,?_,mX,?_,rfl,rfl⟩
  .refine⟨?_,?_,?_,?_,.inl ⟨rfl,rfl⟩,.inl ⟨rfl,rfl⟩,?_,?_⟩
   .rw[ext_nil,hc,hl];simp only[sV,aW,xG];rfl
   .rw[ext_nil,EO w h1]; exact hbn
   .rw[xG]; exact hl
   .intro i q l hq hl';have:l=bT w:=by have:=zC0 hl';simp only[Tm.new]at this;exact List.eq_of_mem_replicate this
    rw[this];exact (c q (zC0 hq)).2.2
   .simp only[Rp.au,ae,zD4];refine zB8.2 ⟨?_,zB8.2 ⟨f.2.2,B⟩⟩;intro hm;rcases zA9.1 hm with e|hm
    .omega
    .obtain⟨r,u,e⟩:=zB6.1 hm;have:=(c r u).1;omega
   .intro m hm;simp only[Rp.au,ae,zD4,zA9,zB6]at hm
    rcases hm with rfl|rfl|⟨r,u,rfl⟩
    .have:=f.1; have:=f.2.1; rw[ext_nil]; omega
    .exact f.2.1
    .exact (c r u).2.1
  .intro m hm;simp only[Rp.au,ae,zD4,zA9,zB6]at hm
   rcases hm with rfl|rfl|⟨r,u,rfl⟩
   .omega
   .have:=f.1; omega
   .have:=(c r u).1; omega
def Tm.Sz.saved{x:Tm}(s:x.Sz):Tm.Sz {x with srow:=x.row,scol:=x.col,spen:=x.pen} :=
 ⟨s.h1,s.h2,s.w1,s.w2,s.ws,s.r1,s.r2,s.c1,s.c2,s.r1,s.r2,s.c1,s.c2,s.t1,s.t2,s.t3,s.md,s.hd⟩
def Tm.Sz.L9{x:Tm}(s:x.Sz):Tm.Sz {x with row:=x.srow,col:=x.scol,pen:=x.spen} :=
 ⟨s.h1,s.h2,s.w1,s.w2,s.ws,s.sr1,s.sr2,s.sc1,s.sc2,s.sr1,s.sr2,s.sc1,s.sc2,s.t1,s.t2,s.t3,s.md,s.hd⟩
def Tm.Sz.DF{x:Tm}(s:x.Sz)(c:UInt8):Tm.Sz {x with last:=c} :=
 ⟨s.h1,s.h2,s.w1,s.w2,s.ws,s.r1,s.r2,s.c1,s.c2,s.sr1,s.sr2,s.sc1,s.sc2,s.t1,s.t2,s.t3,s.md,s.hd⟩
def b7.fresh{H V:aa}{p p1:Rp}{x y:Tm}(g:b7 H p x)(e:b7 V p1 y)(j:Mod [] H V)(r:∀ n∈p1.au,H.next<=n)(s:p1.rv=jp bi 0 0)(u:p1.pv=jp bi 0 0) :
  Step H p (ext (uw V p.t 0 (aW p1 y)) []) {p1 with t:=p.t} y:=by
 have m:=g.lt p.t nl;have k:bk V p.t=ap ⟨66,gc,aW p x⟩:=(j.bk m lw).trans g.cell
 have c:∀ n∈p1.rb::(p1.rs.map (·.1)++ae p1.rv++ae p1.pv),H.next<=n/\n<V.next:=fun n a=>⟨r n (by simp only[Rp.au,zA9]; exact .inr (zA9.1 a)),e.lt n (by simp only[Rp.au,zA9]; exact .inr (zA9.1 a))⟩
 have b:∀ n∈p1.rb::(p1.rs.map (·.1)++ae p1.rv++ae p1.pv),(ext (uw V p.t 0 (aW p1 y)) []).get n=V.get n:=fun n a=>by rw[ext_nil]; exact fD (by have:=(c n a).1; omega)
 have f:=zB8.1 e.nd;refine⟨⟨?_,?_,e.len,?_,?_,?_,?_,?_⟩,?_,rfl,?_⟩
 .rw[ext_nil,bR,k];refine congrArg (fun l=>ap (Bl.mk 66 gc l)) ?_;simp only[aW,zW]
 .rw[aO (b _ lw)]; exact e.rows
 .intro i q l o v;rw[aO (b q.1 (by simp only[zA9,zB4,zB6]; exact .inr (.inl (.inl ⟨q,zC0 o,rfl⟩))))];exact e.row i q l o v
 .exact e.rest.of fun n a=>b n (by simp[a])
 .exact e.par.of fun n a=>b n (by simp[a])
 .simp only[Rp.au]at f ⊢;exact zB8.2 ⟨fun w=>by have:=(c _ w).1; omega,f.2⟩
 .intro n a;rw[ext_nil,bE];simp only[Rp.au]at a;rcases zA9.1 a with rfl|h
  .exact j.lt m
  .exact (c n h).2
 .refine (j.mono lw).trans (Mod.uw nl)
 .intro n a;simp only[Rp.au]at a;rcases zA9.1 a with rfl|h
  .exact .inl nl
  .exact .inr (c n h).1
def Tm.Sz.second{x:Tm}(s:x.Sz)(c:UInt8):(x.second c).1.Sz:=by
 unfold Tm.second;by_cases a:c=91
 .rw[if_pos a]; exact s.Cn _ _
 rw[if_neg a];by_cases e:c=93
 .rw[if_pos e]; exact s.DF _
 rw[if_neg e];by_cases f:c=27
 .rw[if_pos f]; exact s
 rw[if_neg f];by_cases g:32<=c/\c<48
 .rw[if_pos g]; exact s
 rw[if_neg g];by_cases h:c=55
 .rw[if_pos h]; exact s.saved
 rw[if_neg h];by_cases j:c=56
 .rw[if_pos j]; exact s.L9
 rw[if_neg j];by_cases k:c=99
 .rw[if_pos k]; exact xS s.h1 s.h2 s.w1 s.w2
 rw[if_neg k];by_cases l:c=77/\x.row=x.top
 .rw[if_pos l]
  obtain⟨t,o⟩:∃ r:Nat,x.top=r:=⟨x.top.toNat,by have:=s.t1; omega⟩
  obtain⟨b,q⟩:∃ b:Nat,x.bottom=b:=⟨x.bottom.toNat,by have:=s.t1; have:=s.t2; omega⟩
  simp only[o,q];exact s.fe (n:=1) gc (by have:=s.t2; omega) (by have:=s.t3; omega)
 rw[if_neg l];by_cases m:c=77
 .rw[if_pos m]; exact s.PE _ li (by have:=s.r1; have:=s.r2; omega)
 rw[if_neg m]; exact s
def Kg(H:aa)(p:Rp)(x:Tm)(c:UInt8)(g:b7 H p x)(s:x.Sz)(ok:H.base<=H.next):gp 42 [gD c] H p (i7 i8 ((x.second c).2:Int)) (x.second c).1:=by
 obtain⟨b,V⟩:=ac H.next;have hT:p.t<b:=V▸g.lt p.t nl;have Z:=g.cell;simp only[aW]at Z;have q27:=jR (c:=c) (n:=27) li;have q91:=jR (c:=c) (n:=91) li;have q93:=jR (c:=c) (n:=93) li;have q55:=jR (c:=c) (n:=55) li;have q56:=jR (c:=c) (n:=56) li;have q99:=jR (c:=c) (n:=99) li;have q77:=jR (c:=c) (n:=77) li;have q32:=K6 (c:=c) (n:=32) li;have q48:=Lx (c:=c) (n:=48) li;simp only[Int.cast_ofNat_Int]at q27 q91 q93 q55 q56 q99 q77 q32 q48;refine aH mixed Tryz.func42 rfl Tryz.ntmps42 (zA8 rfl) ?_;by_cases a:c=91
 .have o:x.second c=({x with params:=[],middle:=false},3):=by unfold Tm.second; rw[if_pos a]
  have t91:ge ((c.toNat:Int)=91)=true:=by rw[q91]; exact decide_eq_true a
  rw[o];simp only[V,hT,Z,t91,Tryz.results42,zW,Nat.reduceLeDiff,Nat.reduceLT,Nat.reduceAdd,Nat.reduceEqDiff];refine⟨rfl,_,g.CA (y:={x with params:=[],middle:=false}) p.rv (jp bi 0 0) (((Mod.uw lw).trans (Mod.uw lw)):Mod _ H (ext (uw (uw H p.t 20 [jp bi 0 0]) p.t 21 [kw gc]) [])) ?_ rfl ?_ (.inl ⟨rfl,rfl⟩) ?_ ?_⟩
  .rw[ext_nil,bR,bR,g.cell]; rfl
  .refine g.rest.of fun n O=>?_;have dK:n≠p.t:=fun e=>(zB8.1 g.nd).1 (by rw[<-e]; simp[O]);rw[ext_nil,fD dK,fD dK]
  .intro n O;simp only[ae,zD4]at O;exact .inl (by simp[O])
  .simp only[ae,zD4];have hnd:=(zB8.1 (zB8.1 g.nd).2).2;rw[zC9]at hnd;exact (zD5.1 (zD5.1 hnd).2.1).1
 have u:ge ((c.toNat:Int)=91)=false:=by rw[q91]; exact decide_eq_false a
 by_cases f:c=93
 .have o:x.second c=({x with last:=0},4):=by unfold Tm.second; rw[if_neg a,if_pos f]
  have t93:ge ((c.toNat:Int)=93)=true:=by rw[q93]; exact decide_eq_true f
  rw[o];simp only[V,hT,Z,u,t93,Tryz.results42,zW,Nat.reduceLeDiff,Nat.reduceLT,Nat.reduceAdd,Nat.reduceEqDiff];exact⟨rfl,p,g.one (y:={x with last:=0}) rfl rfl rfl rfl⟩
 have A:ge ((c.toNat:Int)=93)=false:=by rw[q93]; exact decide_eq_false f
 by_cases l:c=27
 .have o:x.second c=(x,1):=by unfold Tm.second; rw[if_neg a,if_neg f,if_pos l]
  have t27:ge ((c.toNat:Int)=27)=true:=by rw[q27]; exact decide_eq_true l
  rw[o];simp only[u,A,t27,Tryz.results42,zW,Nat.reduceLT,Nat.reduceAdd,Nat.reduceEqDiff];exact⟨rfl,p,Step.refl g⟩
 have C:ge ((c.toNat:Int)=27)=false:=by rw[q27]; exact decide_eq_false l
 by_cases m:32<=c/\c<48
 .have o:x.second c=(x,2):=by unfold Tm.second; rw[if_neg a,if_neg f,if_neg l,if_pos m]
  have t32:ge ((32:Int)<=(c.toNat:Int))=true:=by rw[q32]; exact decide_eq_true m.1
  have t48:ge ((c.toNat:Int)<48)=true:=by rw[q48]; exact decide_eq_true m.2
  rw[o];simp only[u,A,C,t32,t48,Tryz.results42,zW,Nat.reduceLT,Nat.reduceAdd,Nat.reduceEqDiff];exact⟨rfl,p,Step.refl g⟩
 obtain⟨F,j⟩:∃ d,ge ((32:Int)<=(c.toNat:Int))=d:=⟨_,rfl⟩
 obtain⟨I,k⟩:∃ d,ge ((c.toNat:Int)<48)=d:=⟨_,rfl⟩
 have R:¬(F=bv/\I=bv):=fun h=>m ⟨of_decide_eq_true (q32.symm.trans (j.trans h.1)),of_decide_eq_true (q48.symm.trans (k.trans h.2))⟩;refine fW (fun E' H'=>H'=H/\E' 0=i9 (ap ⟨p.t,0,bi⟩)/\E' 1=gD c) ?_ ?_
 .simp only[zW,Nat.reduceLT,Nat.reduceAdd];refine ah ⟨rfl,?_,?_⟩<;>simp only[aE,Nat.reduceEqDiff]
 rintro E X ⟨hX,g0,g1⟩;rw[hX,show H=ext H [] from rfl];by_cases B:c=55
 .have o:x.second c=({x with srow:=x.row,scol:=x.col,spen:=x.pen},0):=by unfold Tm.second; rw[if_neg a,if_neg f,if_neg l,if_neg m,if_pos B]
  have t55:ge ((c.toNat:Int)=55)=true:=by rw[q55]; exact decide_eq_true B
  rw[o]
  cases F<;>cases I<;>first
   |exact absurd ⟨rfl,rfl⟩ R
   | (simp only [g0, g1, V, hT, Z, u, A, C, j, k, t55, Tryz.results42, zW, Nat.reduceLeDiff, Nat.reduceLT, Nat.reduceAdd, Nat.reduceEqDiff]
      exact⟨rfl,p,g.one (y:={x with srow:=x.row,scol:=x.col,spen:=x.pen}) rfl rfl rfl rfl⟩)
 have U:ge ((c.toNat:Int)=55)=false:=by rw[q55]; exact decide_eq_false B
 by_cases J:c=56
 .have o:x.second c=({x with row:=x.srow,col:=x.scol,pen:=x.spen},0):=by unfold Tm.second; rw[if_neg a,if_neg f,if_neg l,if_neg m,if_neg B,if_pos J]
  have t56:ge ((c.toNat:Int)=56)=true:=by rw[q56]; exact decide_eq_true J
  rw[o]
  cases F<;>cases I<;>first
   |exact absurd ⟨rfl,rfl⟩ R
   | (simp only [g0, g1, V, hT, Z, u, A, C, j, k, U, t56, Tryz.results42, zW, Nat.reduceLeDiff, Nat.reduceLT, Nat.reduceAdd, Nat.reduceEqDiff]
      exact⟨rfl,p,g.one (y:={x with row:=x.srow,col:=x.scol,pen:=x.spen}) rfl rfl rfl rfl⟩)
 have f56:ge ((c.toNat:Int)=56)=false:=by rw[q56]; exact decide_eq_false J
 by_cases S:c=99
 .have o:x.second c=(Tm.new x.h x.w,0):=by unfold Tm.second; rw[if_neg a,if_neg f,if_neg l,if_neg m,if_neg B,if_neg J,if_pos S]; rfl
  have t99:ge ((c.toNat:Int)=99)=true:=by rw[q99]; exact decide_eq_true S
  rw[o]
  cases F<;>cases I<;>first
   |exact absurd ⟨rfl,rfl⟩ R
   |skip
  all_goals
   simp only[g1,u,A,C,j,k,U,f56,t99,zW,Nat.reduceLT,Nat.reduceEqDiff];refine aK [(7,3),(7,6),(8,7),(9,7),(10,7),(11,7),(12,7)] [] ls ls rfl fun ops anc hA Y=>?_;simp only[aj]at hA;simp only[g0,V,hT,Z,bh,zW,Nat.reduceLT,Nat.reduceAdd,Nat.reduceEqDiff];refine aN (v:=i7 i8 (x.w:Int)) p.au t4 ls mt g.ne (fun K O hg=>?_) (by simp (maxDischargeDepth:=6) only[bh]) ?_
   .simp only[aE];exact iK K p x (g.of (by rw[O]; exact zA5 _) hg) s
   simp only[V,bh,fX,Nat.reduceAdd];have hrn:=aI H [];obtain⟨_,gg,hc,p1,rfl,t1,m1,n1,rv1,pv1⟩:=PO (H.restrict []) x.h x.w (by rw[hrn.1,hrn.2.1]; exact zA5 _) s.h1 s.h2 s.w1 s.w2;rw[hrn.1]at n1;refine jH (H:=ext H []) (W:=[]) [] ok rfl ls (fun n O=>by simp at O) (fun n O=>by simp at O) (fun _ h=>h) (v:=.tuple ⟨[i9 (ap ⟨p1.t,0,bi⟩),i7 i8 0]⟩) (g:=gg) (by simp only[aE,Nat.reduceEqDiff]; exact hc) m1 (by simp only[aj,bu,hA,true_or,and_true]) ?_;intro H1 D mH1 hF hN hx hD;have ht1:b7 H1 p1 (Tm.new x.h x.w):=t1.of (by rw[hx]; exact zA5 _) fun n O=>hN n (n1 n O) (t1.lt n O);have hTx:p.t<H1.next:=mH1.lt (g.lt p.t nl);have hRx:p1.rb<H1.next:=ht1.lt p1.rb nl;obtain⟨L,hL⟩:=ac (aW p1 (Tm.new x.h x.w));have hLl:L.length=23:=by rw[<-hL]; rfl
   have hL1:L.all one=true:=by rw[<-hL]; simp only[aW,rv1,pv1]; rfl
   have hLs:∀ N,H1.next<=N->aX N L=true:=fun N hN=>by rw[<-hL];simp only[aW,rv1,pv1,aX,aV,Bool.true_and,Bool.and_true];exact bx li
   have hld:∀ q,rl Tryz.prog 66 0 (CW (bk (ext H1 []) p1.t) q)=ap (.agg ⟨L⟩):=fun q=>by rw[ext_nil,ht1.cell,gN,hL,zk ls,show bg Tryz.prog 66=ap 23 from by kernel_rfl,zA4,if_pos li,zD2,zC3 li]
   have hcx:bk H1 p.t=ap ⟨66,gc,aW p x⟩:=(mH1.bk (g.lt p.t nl) lw).trans g.cell;have hst:∀ N,H1.next<=N->sQ Tryz.prog 66 N 0 (.agg ⟨L⟩) (bk H1 p.t)=ap ⟨66,gc,cQ (aW p x) 0 L⟩:=fun N hN=>by rw[hcx];exact nA (v:=.agg ⟨L⟩) (by rw[kr,hLl]; kernel_rfl) (by rw[kr,hLl]; exact zA5 _) (by rw[kr]; exact hL1) (by rw[kr]; exact hLs N hN)
   have hst':=hst (H1.next+0) (zA5 _);have hfr:=g.fresh ht1 mH1 n1 rv1 pv1;rw[hL]at hfr;rw[show H1=ext H1 [] from rfl];simp only[g0,hA,hld,hTx,hst',Tryz.results42,bh,zW,Nat.reduceLT,Nat.reduceAdd,Nat.reduceEqDiff];exact⟨rfl,_,hfr⟩
 have f99:ge ((c.toNat:Int)=99)=false:=by rw[q99]; exact decide_eq_false S
 have s3:=s.r1;have s4:=s.r2;have s5:=s.h2
 obtain⟨to,hto⟩:∃ r:Nat,x.top=r:=⟨x.top.toNat,by have:=s.t1; omega⟩
 obtain⟨bo,hbo⟩:∃ b:Nat,x.bottom=b:=⟨x.bottom.toNat,by have:=s.t1; have:=s.t2; omega⟩
 have hwr:IntKind.i64.wrap (x.row-1)=x.row-1:=ak li li;by_cases T:c=77
 .have t77:ge ((c.toNat:Int)=77)=true:=by rw[q77]; exact decide_eq_true T
  by_cases M:x.row=x.top
  .have o:x.second c=(x.fe to bo (1:Nat) gc,0):=by
    unfold Tm.second; rw[if_neg a,if_neg f,if_neg l,if_neg m,if_neg B,if_neg J,if_neg S,if_pos ⟨T,M⟩,hto,hbo]; rfl
   have dt:ge (x.row=x.top)=true:=decide_eq_true M;rw[o]
   cases F<;>cases I<;>first
    |exact absurd ⟨rfl,rfl⟩ R
    |skip
   all_goals
    simp only[g1,u,A,C,j,k,U,f56,f99,zW,Nat.reduceLT,Nat.reduceEqDiff];refine aK [] [(2,74)] ls rfl ls fun ops anc hA Y=>?_;simp only[aj]at Y;simp only[g0,g1,V,hT,Z,Y,t77,dt,bh,zW,Nat.reduceLT,Nat.reduceAdd,Nat.reduceEqDiff];refine aK [(9,4),(9,8)] [] ls ls rfl fun ops anc hA Y=>?_;simp only[aj]at hA;simp only[g0,V,hT,Z,bh,zW,Nat.reduceLT,Nat.reduceAdd,Nat.reduceEqDiff];refine ei (as':=[i7 i8 x.top,i7 i8 x.bottom,i7 i8 ((1:Nat):Int),kw gc]) g ok rfl ls mt (by simp only[aE,Nat.reduceEqDiff]<;>rfl) (by simp only[aj,bu,hA,true_or,and_true]) (fun G gG okG=>by rw[hto,hbo]; exact FB G p x to bo 1 gc gG s okG (by have:=s.t2; omega) (by have:=s.t3; omega) li li) fun H1 p1 st=>?_;rw[show H1=ext H1 [] from rfl];simp only[Tryz.results42,zW,Nat.reduceLT];exact⟨rfl,p1,st⟩
  .have o:x.second c=({x with row:=max 0 (x.row-1)},0):=by
    unfold Tm.second; rw[if_neg a,if_neg f,if_neg l,if_neg m,if_neg B,if_neg J,if_neg S,if_neg (fun h=>M h.2),if_pos T]
   have dt:ge (x.row=x.top)=false:=decide_eq_false M;rw[o]
   cases F<;>cases I<;>first
    |exact absurd ⟨rfl,rfl⟩ R
    |skip
   all_goals
    simp only[g1,u,A,C,j,k,U,f56,f99,zW,Nat.reduceLT,Nat.reduceEqDiff];refine aK [] [(2,74)] ls rfl ls fun ops anc hA Y=>?_;simp only[aj]at Y;simp only[g0,g1,V,hT,Z,Y,t77,dt,hwr,Tryz.results42,bh,zW,Nat.reduceLeDiff,Nat.reduceLT,Nat.reduceAdd,Nat.reduceEqDiff];exact⟨rfl,p,g.one (y:={x with row:=max 0 (x.row-1)}) rfl rfl rfl rfl⟩
 have f77:ge ((c.toNat:Int)=77)=false:=by rw[q77]; exact decide_eq_false T
 have o:x.second c=(x,0):=by unfold Tm.second; rw[if_neg a,if_neg f,if_neg l,if_neg m,if_neg B,if_neg J,if_neg S,if_neg (fun h=>T h.1),if_neg T]
 rw[o]
 cases F<;>cases I<;>first
  |exact absurd ⟨rfl,rfl⟩ R
  |skip
 all_goals
  simp only[g1,u,A,C,j,k,U,f56,f99,zW,Nat.reduceLT,Nat.reduceEqDiff];refine aK [] [(2,74)] ls rfl ls fun ops anc hA Y=>?_;simp only[aj]at Y;simp only[g1,Y,f77,Tryz.results42,bh,zW,Nat.reduceLT,Nat.reduceAdd,Nat.reduceEqDiff];exact⟨rfl,p,Step.refl g⟩
def FG{P:io}{t e:ii}{sz len n off:Nat}{k:IntKind}{i:Int}(b:P.underlying t=ap (.array len e))(a:bg P e=ap sz)(c:0<=i)(f:i<len):aS P t (i9 (ap ⟨n,off,bi⟩)) (.int k i)=ap (i9 (ap ⟨n,off+i.toNat*sz,bi⟩)):=by simp only[aS,b,a,zA1,zA4];rw[if_pos ⟨c,f⟩,dT]
def ck(a:Nat):Int:=match (dc vI)[a]? with
 |some (.int .u8 n)=>n
 |_=>0
def gQ(a:Nat):Int:=match (dc r5)[a]? with
 |some (.int .u8 n)=>n
 |_=>0
def K2(a:Nat):Bool:=match (dc vI)[a]? with
 |some (.int .u8 n)=>ge (0<=n)&&ge (n<256)&&(ge (240<=n)||(ge (2<=fb .u8 n 7)&&ge (fb .u8 n 7<=4)))&&ge (0<=fb .u8 n 7)&&ge (fb .u8 n 7<8)&&ge (0<=jS .u8 n 4)&&ge (jS .u8 n 4<16)
 |_=>gc
def NV:((List.range 256).all K2)=true:=by kernel_rfl
def Mm(a:Nat):Bool:=match (dc r5)[a]? with
 |some (.int .u8 n)=>ge (0<=n)&&ge (n<256)
 |_=>gc
def OP:((List.range 32).all Mm)=true:=by kernel_rfl
structure Rf (a:Nat):Prop where
 get:(dc vI)[a]?=ap (.int .u8 (ck a))
 lo:0<=ck a
 hi:ck a<256
 sz:240<=ck a\/(2<=fb .u8 (ck a) 7/\fb .u8 (ck a) 7<=4)
 s0:0<=fb .u8 (ck a) 7
 s8:fb .u8 (ck a) 7<8
 i0:0<=jS .u8 (ck a) 4
 i1:jS .u8 (ck a) 4<16
def B3{a:Nat}(h:a<256):Rf a:=by
 have b:=zD3.1 NV a (zF5.2 h);unfold K2 at b;split at b
 .rename_i n c;have e:ck a=n:=by simp only[ck,c]
  simp only[zA7,zG3,decide_eq_true_eq]at b;obtain⟨⟨⟨⟨⟨⟨f,g⟩,j⟩,k⟩,l⟩,m⟩,o⟩:=b;exact⟨by rw[e]; exact c,by rw[e]; exact f,by rw[e]; exact g,by rw[e]; exact j,by rw[e]; exact k,by rw[e]; exact l,by rw[e]; exact m,by rw[e]; exact o⟩
 .cases b
def KI{a:Nat}(h:a<32):(dc r5)[a]?=ap (.int .u8 (gQ a))/\0<=gQ a/\gQ a<256:=by
 have b:=zD3.1 OP a (zF5.2 h);unfold Mm at b;split at b
 .rename_i n c;have e:gQ a=n:=by simp only[gQ,c]
  simp only[zA7,decide_eq_true_eq]at b;exact⟨by rw[e]; exact c,by rw[e]; exact b.1,by rw[e]; exact b.2⟩
 .cases b
structure ss (H:aa):Prop where
 f:∀ a,a<256->∀ q,rl Tryz.prog 5 a (CW (bk H 0) q)=ap (.int .u8 (ck a))
 a:∀ i,i<16->∀ q,rl Tryz.prog 150 (i*2) (CW (bk H 1) q)=ap (.agg ⟨[.int .u8 (gQ (i*2)),.int .u8 (gQ (i*2+1))]⟩)
 l0:0<H.next
 l1:1<H.next
def Pc:(dc r5).length=32:=by kernel_rfl
def Pm{H:aa}(h:KE H)(b:0<H.next)(c:1<H.next):ss H:=by
 obtain⟨n,o,e,f⟩:=h;refine⟨fun a g q=>?_,fun i hi q=>?_,b,c⟩
 .rw[e,gN,lL ls,(B3 g).get]
 .rw[f,gN,zk ls,show bg Tryz.prog 150=ap 2 from by kernel_rfl,zA4,if_pos (by rw[Pc]; omega)];have k:=(KI (show i*2<32 by omega)).1;have l:=(KI (show i*2+1<32 by omega)).1
  have m:((dc r5).drop (i*2)).take 2=[.int .u8 (gQ (i*2)),.int .u8 (gQ (i*2+1))]:=by
   apply zG4;intro j;rw[List.getElem?_take];split
   .rw[List.getElem?_drop]
    match j,‹j<2› with
    |0,_=>rw[zD6,k]; rfl
    |1,_=>rw[l]; rfl
   .rw[zC5 pp]
  rw[m]
def lA(lo hi:Int):List UInt8->Bool
 |[]=>gc
 |b::[]=>cond (ge ((b.toNat:Int)<lo)||ge (hi<(b.toNat:Int))) bv gc
 |b::c::_=>cond (ge ((b.toNat:Int)<lo)||ge (hi<(b.toNat:Int))) bv (ge ((c.toNat:Int)<128)||ge (191<(c.toNat:Int)))
def gz:List UInt8->Bool
 |[]=>gc
 |a::r=>cond (ge (IntKind.i64.wrap (fb .u8 (ck a.toNat) 7)<=((r.length+1:Nat):Int))) bv (lA (gQ ((jS .u8 (ck a.toNat) 4).toNat*2)) (gQ ((jS .u8 (ck a.toNat) 4).toNat*2+1)) r)
def Rt{a:UInt8}:aS Tryz.prog 148 (i9 (ap ⟨0,0,bi⟩)) (.int .u8 (a.toNat:Int))=ap (i9 (ap ⟨0,a.toNat,bi⟩)):=by have:=FG (P:=Tryz.prog) (t:=148) (e:=5) (sz:=1) (len:=256) (n:=0) (off:=0) (k:=.u8) (i:=(a.toNat:Int)) ls ls li (by have:=a.toNat_lt; omega);simpa using this
def RL{i:Int}(a:0<=i)(b:i<16):aS Tryz.prog 151 (i9 (ap ⟨1,0,bi⟩)) (.int .u8 i)=ap (i9 (ap ⟨1,i.toNat*2,bi⟩)):=by have:=FG (P:=Tryz.prog) (t:=151) (e:=150) (sz:=2) (len:=16) (n:=1) (off:=0) (k:=.u8) (i:=i) ls ls a b;simpa using this
def Qf(H:aa)(v:gt)(l:List UInt8)(h:bD H v l)(A:∀ n∈ae v,n<H.next)(ht:ss H)(O:l≠[])(t:l.length<1000000):Pure 79 [v] H (kw (gz l)):=by
 obtain⟨b,o⟩:=ac H.next;obtain⟨av,e⟩:=h.sl;obtain⟨a,r,rfl⟩:∃ a r,l=a::r:=by cases l with|nil=>exact absurd rfl O|cons a r=>exact⟨a,r,rfl⟩
 obtain⟨L,M⟩:=ac ((a::r).length);have g:L=r.length+1:=by rw[<-M]; rfl
 rw[M]at e;obtain⟨n0,o0,i0,m0,R⟩:=h.get (k:=0) (c:=a) rfl;rw[e,show ((0:Nat):Int)=0 from rfl]at i0;have t0:n0<b:=o▸A n0 m0;have fo:=B3 a.toNat_lt;have S:=ht.f a.toNat a.toNat_lt;have l0:0<b:=o▸ht.l0;have l1:1<b:=o▸ht.l1;have T:=Rt (a:=a);have hx1:=RL fo.i0 fo.i1;have D:=ht.a (jS .u8 (ck a.toNat) 4).toNat (by have:=fo.i0; have:=fo.i1; omega);have U:∀(X:aa)(k:IntKind)(m:Int),bM Tryz.prog X 5 3 (.int k m)=ap (i7 i8 (IntKind.i64.wrap m),X):=fun X k m=>im (u:=.int .u8) ls ls;have dz:ge ((L:Int)=0)=false:=decide_eq_false li
 obtain⟨d1,I⟩:∃ d,ge (IntKind.i64.wrap (fb .u8 (ck a.toNat) 7)<=(L:Int))=d:=⟨_,rfl⟩
 obtain⟨lo,V⟩:=ac (gQ ((jS .u8 (ck a.toNat) 4).toNat*2));obtain⟨hi,W⟩:=ac (gQ ((jS .u8 (ck a.toNat) 4).toNat*2+1));rw[V,W]at D;have w:gz (a::r)=cond d1 bv (lA lo hi r):=by simp only[gz,<-g,I,V,W]
 rw[w];refine ba mixed Tryz.func79 rfl Tryz.ntmps79 (zA8 rfl) fun wf hsc=>?_;have J:H.base<=b:=o▸wf.base;rw[e]
 cases d1 with
 |true =>simp only[o,dz,i0,t0,R,T,l0,S,oY,iH,aY,U,I,cond_true,Tryz.results79,zW,seval];exact Fin.pure rfl
 |false =>
  simp only[o,J,dz,i0,t0,R,T,l0,l1,S,oY,iH,oT,iP,aY,U,I,cond_false,hx1,D,seval,zW];refine aK [] [(2,26),(9,33)] ls rfl ls fun ops anc hA F=>?_;simp only[aj]at F
  match r,h,O,t,M,g,w with
  |[],h,O,t,M,g,w =>have B:ge ((1:Int)<(L:Int))=false:=decide_eq_false (by rw[g]; simp);have Y:ge ((2:Int)<(L:Int))=false:=decide_eq_false (by rw[g]; simp);simp only[F,B,Y,lA,Tryz.results79,bh,zW,seval];exact Fin.pure rfl
  |b1::[],h,O,t,M,g,w =>
   have B:ge ((1:Int)<(L:Int))=true:=decide_eq_true (by rw[g]; simp);have Y:ge ((2:Int)<(L:Int))=false:=decide_eq_false (by rw[g]; simp);obtain⟨Z,o1,C,m1,q⟩:=h.get (k:=1) (c:=b1) rfl;rw[e,show ((1:Nat):Int)=1 from rfl]at C;have K:Z<b:=o▸A Z m1
   obtain⟨dA,j⟩:∃ d,ge ((b1.toNat:Int)<lo)=d:=⟨_,rfl⟩
   obtain⟨dB,s⟩:∃ d,ge (hi<(b1.toNat:Int))=d:=⟨_,rfl⟩
   simp only[lA,j,s]
   cases dA with
   |true =>simp only[o,F,B,C,K,q,j,Bool.true_or,cond_true,Tryz.results79,bh,zW,seval];exact Fin.pure rfl
   |false =>
    cases dB with
    |true =>simp only[o,F,B,C,K,q,j,s,zF8,cond_true,Tryz.results79,bh,zW,seval];exact Fin.pure rfl
    |false =>simp only[o,F,B,Y,C,K,q,j,s,zF6,cond_false,Tryz.results79,bh,zW,seval];exact Fin.pure rfl
  |b1::c1::r3,h,O,t,M,g,w =>
   have B:ge ((1:Int)<(L:Int))=true:=decide_eq_true (by rw[g]; simp only[zA3]; omega);have Y:ge ((2:Int)<(L:Int))=true:=decide_eq_true (by rw[g]; simp only[zA3]; omega);obtain⟨Z,o1,C,m1,q⟩:=h.get (k:=1) (c:=b1) rfl;obtain⟨n2,o2,i2,m2,ld2⟩:=h.get (k:=2) (c:=c1) rfl;rw[e,show ((1:Nat):Int)=1 from rfl]at C;rw[e,show ((2:Nat):Int)=2 from rfl]at i2;have K:Z<b:=o▸A Z m1;have t2:n2<b:=o▸A n2 m2
   obtain⟨dA,j⟩:∃ d,ge ((b1.toNat:Int)<lo)=d:=⟨_,rfl⟩
   obtain⟨dB,s⟩:∃ d,ge (hi<(b1.toNat:Int))=d:=⟨_,rfl⟩
   obtain⟨dC,hdC⟩:∃ d,ge ((c1.toNat:Int)<128)=d:=⟨_,rfl⟩
   obtain⟨dD,hdD⟩:∃ d,ge (191<(c1.toNat:Int))=d:=⟨_,rfl⟩
   simp only[lA,j,s,hdC,hdD]
   cases dA with
   |true =>simp only[o,F,B,C,K,q,j,Bool.true_or,cond_true,Tryz.results79,bh,zW,seval];exact Fin.pure rfl
   |false =>
    cases dB with
    |true =>simp only[o,F,B,C,K,q,j,s,zF8,cond_true,Tryz.results79,bh,zW,seval];exact Fin.pure rfl
    |false =>
     cases dC<;>cases dD <;>
      (simp only[o,F,B,Y,C,K,q,i2,t2,ld2,j,s,hdC,hdD,zF8,zF6,cond_false,Tryz.results79,bh,zW,seval]
       exact Fin.pure rfl)
end Go.Proofs.YtpohjcacnkhnkaaGreatDoor.Tq
