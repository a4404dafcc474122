/- Parts of the proof, one behind the other. -/
import Derived.Test.YtpohjcacnkhnkaaGreatDoorM4
import Derived.Test.YtpohjcacnkhnkaaGreatDoorM5
import Derived.Test.YtpohjcacnkhnkaaGreatDoorM3
import Derived.Shelf.Bits.Mul64
import Derived.Laws.Strings
set_option linter.all false
set_option maxRecDepth 10000
set_option maxHeartbeats 16000000
open Option renaming some->a9,none->bi
open Bool renaming true->bv,false->ci
open Decidable renaming decide->f7
open Go renaming Value->go,TypeId->io,Program->ip,World->i6,Operand->i7
open Option.some renaming injEq->i8
open Prod.mk renaming injEq->i9
open Go.Value renaming int->jp,pointer->li,slice->lm,bool->ls
open Go.IntKind renaming i64->kw
open And renaming intro -> zA0
open Option renaming bind_eq_bind -> zA1, bind_eq_some_iff -> zA2, bind_some -> zA3, map_some -> zB2, map_eq_some_iff -> zB5, getD_some -> zH9
open Nat renaming le_refl -> zA4, le_of_ble_eq_true -> zA7, zero_le -> zB7, lt_or_ge -> zC0, zero_add -> zC2, le_trans -> zC4, add_zero -> zD5, lt_of_lt_of_le -> zE0, ble_eq -> zE8, mul_one -> zF0, lt_succ_self -> zF3, le_of_eq -> zF6, min -> zF9, add_sub_cancel_left -> zG2, sub_self -> zG8, min_eq_left -> zH0, zero_mul -> zH1
open List renaming mem_singleton -> zA5, mem_cons -> zA8, length_cons -> zA9, getElem?_eq_getElem -> zB0, mem_append -> zB1, length_append -> zB3, length_nil -> zB4, nil_append -> zB6, map_cons -> zB8, mem_cons_of_mem -> zB9, mem_map -> zC1, all_eq_true -> zC3, mem_of_getElem? -> zC5, length_drop -> zC6, append_nil -> zC7, append_assoc -> zC8, getD_eq_getElem?_getD -> zC9, drop_zero -> zD0, getElem?_eq_none -> zD3, take_of_length_le -> zD4, nodup_cons -> zD6, not_mem_nil -> zD7, length_take -> zD9, length_map -> zE1, mem_of_mem_take -> zE2, cons_append -> zE3, mem_of_mem_drop -> zE4, eq_nil_of_length_eq_zero -> zE5, nodup_append -> zE6, map_nil -> zE7, drop_eq_nil_of_le -> zE9, length_replicate -> zF1, mem_cons_self -> zF2, getElem?_eq_some_iff -> zF5, mem_range -> zF7, mem_append_left -> zF8, getElem?_map -> zG0, getElem?_cons_zero -> zG1, mem_flatMap -> zG3, take_add_one -> zG4, getElem?_append_right -> zG5, mem_append_right -> zG6, take_append_drop -> zG9, take_length -> zH2, drop_drop -> zH3, drop_eq_getElem_cons -> zH4, eq_of_mem_replicate -> zH6, getElem?_cons_succ -> zH8, length_singleton -> zI0
open Bool renaming and_eq_true -> zA6, not_true -> zD1, false_eq_true -> zD2, and_self -> zD8, not_false -> zF4, or_eq_true -> zH5, or_false -> zH7
open Int renaming toNat_natCast -> zG7
namespace Go.Proofs.YtpohjcacnkhnkaaGreatDoor.Tq
open Go.Ax
structure Rp where
 t:Nat
 rb:Nat
 rs:List (Nat × Bool)
 rv:go
 pv:go
def bE(w:Nat)(q:Nat × Bool):Value:=lm (a9 ⟨q.1,0,if q.2 then bi else a9 0⟩) w w
def Tm.w(x:Tm):Nat:=(x.aj.headD []).length
def Tm.h(x:Tm):Nat:=x.aj.length
def bh(p:Rp)(x:Tm):List Value:=[jp kw x.row,jp kw x.col,jp kw x.b7.fore,jp kw x.b7.back,ls x.b7.bold,ls x.b7.under,ls x.b7.inv,
 jp kw x.srow,jp kw x.scol,jp kw x.spen.fore,jp kw x.spen.back,ls x.spen.bold,ls x.spen.under,ls x.spen.inv,
 lm (a9 ⟨p.rb,0,bi⟩) x.h x.h,ls x.shown,jp kw x.top,jp kw x.bottom,jp kw (x.mode:Int),p.rv,p.pv,ls x.middle,kA x.last]
def Rp.aM(p:Rp):List Nat:=p.t::p.rb::(p.rs.map (·.1)++ae p.rv++ae p.pv)
structure cx (H:aa) (p:Rp) (x:Tm):Prop where
 cell:bk H p.t=a9 ⟨66,ci,bh p x⟩
 rows:bk H p.rb=a9 ⟨56,bv,p.rs.map (bE x.w)⟩
 len:p.rs.length=x.h
 row:∀(i:Nat)(q:Nat × Bool)(l:List Ce),p.rs[i]?=a9 q->x.aj[i]?=a9 l->bk H q.1=a9 ⟨77,q.2,a8 l⟩
 rest:cW H p.rv x.rest
 par:cW H p.pv x.params
 nd:p.aM.Nodup
 lt:∀ n∈p.aM,n<H.next
section
variable{H G H1 H2:aa}{p p1 p2:Rp}{x y z:Tm}
def cx.of(g:cx H p x)(a:H.next<=G.next)(b:∀ n∈p.aM,G.get n=H.get n):cx G p x where
 cell:=(bg (b _ pi)).trans g.cell
 rows:=(bg (b _ pi)).trans g.rows
 len:=g.len
 row:=fun i q l e f=>(bg (b _ (by simp only[Rp.aM,zA8,zB1,zC1]; exact .inr (.inr (.inl (.inl ⟨q,zC5 e,rfl⟩)))))).trans (g.row i q l e f)
 rest:=g.rest.of fun n a=>b n (by simp[Rp.aM,a])
 par:=g.par.of fun n a=>b n (by simp[Rp.aM,a])
 nd:=g.nd
 lt:=fun n c=>zE0 (g.lt n c) a
def cx.rowOf(g:cx H p x){i:Nat}{l:List Ce}(h:x.aj[i]?=a9 l):∃ q,p.rs[i]?=a9 q/\q.1∈p.aM/\bk H q.1=a9 ⟨77,q.2,a8 l⟩:=by
 have a:i<p.rs.length:=by
  rw[g.len];rcases zC0 i x.aj.length with h'|h'
  .exact h'
  .rw[zD3 h']at h; cases h
 refine⟨p.rs[i],zB0 a,?_,g.row i _ l (zB0 a) h⟩;simp only[Rp.aM,zA8,zB1,zC1];exact .inr (.inr (.inl (.inl ⟨p.rs[i],List.getElem_mem _,rfl⟩)))
def cx.ne(g:cx H p x):∀ n∈p.aM,H.get n≠none:=by
 intro n hn;simp only[Rp.aM,zA8,zB1,zC1]at hn;rcases hn with rfl|rfl|(⟨q,b,rfl⟩|hn)|hn
 .exact fa g.cell
 .exact fa g.rows
 .obtain⟨i,hi,rfl⟩:=List.mem_iff_getElem.1 b;have a:i<x.aj.length:=by rw[show x.aj.length=x.h from rfl,<-g.len]; exact hi
  exact fa (g.row i _ _ (zB0 hi) (zB0 a))
 .exact g.rest.ne n hn
 .exact g.par.ne n hn
structure Step (H:aa) (p:Rp) (H1:aa) (p1:Rp) (y:Tm):Prop where
 at_:cx H1 p1 y
 mod:Mod p.aM H H1
 same:p1.t=p.t
 new:∀ n∈p1.aM,n∈p.aM\/H.next<=n
def Step.refl(g:cx H p x):Step H p H p x:=⟨g,Mod.refl,rfl,fun _ h=>.inl h⟩
def Step.ok(s:Step H p H1 p1 y)(a:H.base<=H.next):H1.base<=H1.next:=s.mod.ok a
def Step.trans(c:H.base<=H.next)(a:Step H p H1 p1 y)(b:Step H1 p1 H2 p2 z):Step H p H2 p2 z where
 at_:=b.at_
 mod:=a.mod.step b.mod c a.new
 same:=b.same.trans a.same
 new:=fun n e=>(b.new n e).elim (a.new n) fun h=>.inr (zC4 a.mod.next h)
def cx.put(g:cx H p x)(m:Mod [p.t] H H1)(h:bk H1 p.t=a9 ⟨66,ci,bh p y⟩)(c:y.aj=x.aj)(o:y.rest=x.rest)(r:y.params=x.params):Step H p H1 p y:=by
 have f:p.t∉p.rb::(p.rs.map (·.1)++ae p.rv++ae p.pv):=(zD6.1 g.nd).1;have a:∀ n∈p.rb::(p.rs.map (·.1)++ae p.rv++ae p.pv),H1.get n=H.get n:=fun n b=>m.get n (g.lt n (zB9 _ b)) (fun e=>f (by simp only[zA5]at e; exact e▸b));refine⟨⟨h,?_,?_,?_,?_,?_,g.nd,fun n b=>m.lt (g.lt n b)⟩,m.mono (by intro n b; simp only[zA5]at b; subst b; simp[Rp.aM]),rfl,fun _ h=>.inl h⟩
 .rw[bg (a _ nl),g.rows,Tm.w,Tm.w,c]
 .rw[g.len,Tm.h,Tm.h,c]
 .intro i q l j k;rw[c]at k;rw[bg (a _ ?_)]
  .exact g.row i q l j k
  .simp only[zA8,zB1,zC1];exact .inr (.inl (.inl ⟨q,zC5 j,rfl⟩))
 .rw[o]; exact g.rest.of fun n b=>a n (by simp[b])
 .rw[r]; exact g.par.of fun n b=>a n (by simp[b])
def cx.one(g:cx H p x){off:Nat}{vs:List go}(h:dj (bh p x) off vs=bh p y)(a:y.aj=x.aj)(b:y.rest=x.rest)(c:y.params=x.params):Step H p (Go.Ax.ext (uw H p.t off vs) []) p y :=
 g.put (Mod.uw nl) (by rw[ext_nil,bR,g.cell]; exact congrArg (fun l=>a9 (Bl.mk 66 ci l)) h) a b c
def cx.two(g:cx H p x){off off2:Nat}{vs vs2:List go}(h:dj (dj (bh p x) off vs) off2 vs2=bh p y)(a:y.aj=x.aj)(b:y.rest=x.rest)(c:y.params=x.params):Step H p (Go.Ax.ext (uw (uw H p.t off vs) p.t off2 vs2) []) p y :=
 g.put ((Mod.uw nl).trans (Mod.uw nl)) (by rw[ext_nil,bR,bR,g.cell]; exact congrArg (fun l=>a9 (Bl.mk 66 ci l)) h) a b c
def Od(H:aa):Prop:=∃ a b,bk H 0=a9 ⟨a,ci,dc yi⟩/\bk H 1=a9 ⟨b,ci,dc uc⟩
end
def iK(f:FuncId)(args:List go)(H:aa)(p:Rp)(v:go)(y:Tm):Prop :=
 bF Tryz.prog f (li (a9 ⟨p.t,0,bi⟩)::args) H fun out H1=>out=.ok v/\∃ p1,Step H p H1 p1 y
structure Tm.Sz (x:Tm):Prop where
 h1:1<=x.h
 h2:x.h<=200
 w1:1<=x.w
 w2:x.w<=300
 ws:∀ l∈x.aj,l.length=x.w
 r1:0<=x.row
 r2:x.row<x.h
 c1:0<=x.col
 c2:x.col<=x.w
 sr1:0<=x.srow
 sr2:x.srow<x.h
 sc1:0<=x.scol
 sc2:x.scol<=x.w
 t1:0<=x.top
 t2:x.top<=x.bottom
 t3:x.bottom<x.h
 md:x.mode<5
 hd:∀ l∈x.aj,(l.getD 0 sp).rune≠-1
def Tm.Sz.head{x:Tm}(s:x.Sz):x.aj[0]?=a9 (x.aj.headD []):=by
 have:=s.h1;unfold Tm.h at this
 cases b:x.aj with
 |nil=>rw[b]at this; simp at this
 |cons a r=>rfl
def cx.first{H:aa}{p:Rp}{x:Tm}(g:cx H p x)(s:x.Sz):∃ q,p.rs[0]?=a9 q/\(p.rs.map (bE x.w))[0]?=a9 (bE x.w q):=by obtain⟨q,a,_⟩:=g.rowOf s.head;exact⟨q,a,by rw[zG0,a]; rfl⟩
def Pw(H:aa)(p:Rp)(x:Tm)(g:cx H p x)(s:x.Sz):Pure 32 [li (a9 ⟨p.t,0,bi⟩)] H (ls bv):=by obtain⟨b,a⟩:=ac H.next;have e:p.t<b:=a▸g.lt p.t pi;have c:=g.cell;simp only[bh]at c;have f:f7 ((0:Int)<(x.h:Int))=true:=decide_eq_true (by have:=s.h1; omega);refine bA mixed Tryz.func32 rfl Tryz.ntmps32 (zA7 rfl) fun wf j=>?_;simp only[a,e,c,f,Tryz.results32,zW,seval];exact Fin.pure rfl
def ja(H:aa)(p:Rp)(x:Tm)(g:cx H p x)(s:x.Sz):Pure 71 [li (a9 ⟨p.t,0,bi⟩)] H (jp kw (x.w:Int)):=by obtain⟨b,a⟩:=ac H.next;have e:p.t<b:=a▸g.lt p.t pi;have f:p.rb<b:=a▸g.lt p.rb pi;have c:=g.cell;simp only[bh]at c;have j:=g.rows;obtain⟨q,_,l⟩:=g.first s;have hi:=uF (len:=x.h) (cap:=x.h) (n:=p.rb) (s:=bi) (i:=0) (k:=0) rfl s.h1;refine bA mixed Tryz.func71 rfl Tryz.ntmps71 (zA7 rfl) fun wf m=>?_;simp only[a,e,f,c,j,hi,l,bE,Tryz.results71,zW,seval];exact Fin.pure rfl
theorem BV(x:Tm):x.inside=min x.col ((x.w:Int)-1):=rfl
def qs(H:aa)(p:Rp)(x:Tm)(g:cx H p x)(s:x.Sz):Pure 34 [li (a9 ⟨p.t,0,bi⟩)] H (jp kw x.inside):=by
 obtain⟨b,a⟩:=ac H.next;have e:p.t<b:=a▸g.lt p.t pi;have c:=g.cell;simp only[bh]at c;have f:IntKind.i64.wrap ((x.w:Int)-1)=(x.w:Int)-1:=aR (by have:=s.w2; omega) (by have:=s.w2; omega);refine bA mixed Tryz.func34 rfl Tryz.ntmps34 (zA7 rfl) fun wf h=>?_;simp only[zW,seval];refine aQ [] [] m9 rfl rfl fun ops anc l m=>?_;simp only[a,e,c,bS,zW,seval];refine bI (v:=jp kw (x.w:Int)) p.aM (by simp only[aF,seval]) m9 ol g.ne (fun K j k=>?_) (by simp (maxDischargeDepth:=6) only[bS]) ?_
 .simp only[aF];exact ja K p x (g.of (by rw[j]; exact zA4 _) k) s
 simp only[a,f,Tryz.results34,bS,zW,seval];exact Fin.cf (by rw[BV]) rfl
def Ul(H:aa)(p:Rp)(x:Tm)(c:UInt8):Pure 43 [li (a9 ⟨p.t,0,bi⟩),kA c] H (jp kw 0):=by refine bA mixed Tryz.func43 rfl Tryz.ntmps43 (zA7 rfl) fun wf a=>?_;simp only[Tryz.results43,zW,seval];exact Fin.pure rfl
def eG(l:List Int):List Value:=l.map fun n=>jp kw n
def BW(l:List Int)(k:Nat):(eG l)[k]?=l[k]?.map fun n=>jp kw n:=by simp[eG]
def jF(l:List Int):(eG l).length=l.length:=by simp[eG]
def DR(l m:List Int):eG (l++m)=eG l++eG m:=by simp[eG]
def eM(H:aa)(v:go)(l:List Int):Prop :=
 (l=[]/\∃ a c,v=.slice a 0 c)\/(l≠[]/\∃ n b o,v=lm (a9 ⟨n,List.length b,if o then bi else a9 0⟩) l.length l.length/\bk H n=a9 ⟨3,o,eG (b++l)⟩)
def eM.sl{H:aa}{v:go}{l:List Int}(h:eM H v l):∃ a c,v=.slice a l.length c:=by rcases h with⟨rfl,a,c,rfl⟩|⟨_,n,b,o,rfl,_⟩<;>exact⟨_,_,rfl⟩
def eM.get{H:aa}{v:go}{l:List Int}(h:eM H v l){k:Nat}{c:Int}(b:l[k]?=a9 c):∃ n off,aW Tryz.prog 22 v (jp kw (k:Int))=a9 (li (a9 ⟨n,off,bi⟩))/\n∈ae v/\H.get n≠bi/\∀ q,rL Tryz.prog 3 off (HY (bk H n) q)=a9 (jp kw c):=by
 have a:k<l.length:=by
  rcases zC0 k l.length with h'|h'
  .exact h'
  .rw[zD3 h']at b; cases b
 rcases h with⟨rfl,_⟩|⟨h,n,e,o,rfl,f⟩
 .simp at a
 .have g:fj Tryz.prog 3=a9 false:=by kernel_rfl
  refine⟨n,e.length+k,Qq rfl a,by simp[ae],fa f,fun q=>?_⟩;rw[f,jL,lf g,BW,zG5 lw,zG2,b];rfl
def eM.of{H G:aa}{v:go}{l:List Int}(h:eM H v l)(e:∀ n∈ae v,G.get n=H.get n):eM G v l:=by
 rcases h with⟨rfl,a,c,rfl⟩|⟨h,n,b,o,rfl,f⟩
 .exact .inl ⟨rfl,a,c,rfl⟩
 .exact .inr ⟨h,n,b,o,rfl,(bg (e n pm)).trans f⟩
def eM.ne{H:aa}{v:go}{l:List Int}(h:eM H v l)(e:l≠[]):∀ n∈ae v,H.get n≠none:=by
 rcases h with⟨rfl,a,c,rfl⟩|⟨h,n,f,o,rfl,g⟩
 .exact absurd rfl e
 .intro m b;simp only[ae,zA5]at b;subst b;exact fa g
def kl(H:aa)(v:go)(l:List Int)(h:eM H v l)(m:l≠[]):Pure 158 [v] H (jp kw (count l)):=by
 obtain⟨a,r,rfl⟩:∃ a r,l=a::r:=by cases l with|nil=>exact absurd rfl m|cons a r=>exact⟨a,r,rfl⟩
 obtain⟨n,off,hi,_,cn,e⟩:=h.get (k:=0) (c:=a) rfl;rw[show ((0:Nat):Int)=0 from rfl]at hi;refine bA mixed Tryz.func158 rfl Tryz.ntmps158 (zA7 rfl) fun wf o=>?_
 have f:n<H.next:=by
  cases g:bk H n with
  |none=>have j:=e bi; rw[g]at j; cases j
  |some b=>exact wf.lt g
 simp only[hi,f,e,Tryz.results158,zW,seval];exact Fin.cf (by simp only[count,List.headD_cons]) rfl
def FB(H:aa)(v:go)(l:List Int)(h:eM H v l):Pure 159 [v] H (jp kw (snd l)):=by
 obtain⟨a,c,e⟩:=h.sl;refine bA mixed Tryz.func159 rfl Tryz.ntmps159 (zA7 rfl) fun wf r=>?_;by_cases m:1<l.length
 .obtain⟨n,off,hi,_,cn,f⟩:=h.get (k:=1) (c:=l[1]) (zB0 m)
  have g:n<H.next:=by
   cases o:bk H n with
   |none=>have q:=f bi; rw[o]at q; cases q
   |some b=>exact wf.lt o
  have j:f7 ((1:Int)<(l.length:Int))=true:=decide_eq_true lw;rw[show ((1:Nat):Int)=1 from rfl]at hi;rw[e]at hi ⊢;simp only[hi,g,f,j,Tryz.results159,zW,seval];exact Fin.cf (by simp only[snd,List.getD,zB0 m,zH9]) rfl
 .have j:f7 ((1:Int)<(l.length:Int))=false:=decide_eq_false lw;rw[e];simp only[j,Tryz.results159,zW,seval];exact Fin.cf (by simp only[snd,List.getD,zD3 (show l.length<=1 by omega),Option.getD_none]) rfl
def OJ(H:aa)(p:Rp)(x:Tm)(c:UInt8)(g:cx H p x)(ok:H.base<=H.next):iK 45 [kA c] H p (jp kw ((x.ignore c).2:Int)) (x.ignore c).1:=by
 obtain⟨b,m⟩:=ac H.next;have o:p.t<b:=m▸g.lt p.t pi;have n:=g.cell;simp only[bh]at n
 obtain⟨h,a⟩:∃ d,f7 ((c.toNat:Int)=7)=d:=⟨_,rfl⟩
 obtain⟨j,e⟩:∃ d,f7 ((c.toNat:Int)=92)=d:=⟨_,rfl⟩
 obtain⟨k,f⟩:∃ d,f7 ((x.last.toNat:Int)=27)=d:=⟨_,rfl⟩
 have q:c=7 ↔ h=true:=by rw[<-a,decide_eq_true_iff,<-UInt8.toNat_inj]; simp; omega
 have r:c=92 ↔ j=true:=by rw[<-e,decide_eq_true_iff,<-UInt8.toNat_inj]; simp; omega
 have s:x.last=27 ↔ k=true:=by rw[<-f,decide_eq_true_iff,<-UInt8.toNat_inj]; simp; omega
 refine aI mixed Tryz.func45 rfl Tryz.ntmps45 (zA7 rfl) ?_;have l:x.ignore c=cond (h||(j&&k)) (x,0) ({x with last:=c},4):=by simp only[Tm.ignore,q,r,s];cases h<;>cases j<;>cases k<;>rfl
 rw[l]
 cases h<;>cases j<;>cases k<;>simp only[m,o,n,a,e,f,zH7,Bool.or_true,Bool.and_false,Bool.and_true,cond_true,cond_false,Tryz.results45,zW,seval]<;>first
  |exact⟨trivial,p,Step.refl g⟩
  |exact⟨trivial,p,g.one (y:={x with last:=c}) rfl rfl rfl rfl⟩
  |exact⟨rfl,p,Step.refl g⟩
  |exact⟨rfl,p,g.one (y:={x with last:=c}) rfl rfl rfl rfl⟩
def kB(H:aa)(p:Rp)(x:Tm)(r c:Int)(g:cx H p x)(s:x.Sz)(ok:H.base<=H.next):iK 157 [jp kw r,jp kw c] H p (.tuple #[]) (x.bQ r c):=by
 obtain⟨b,a⟩:=ac H.next;have f:p.t<b:=a▸g.lt p.t pi;have e:=g.cell;simp only[bh]at e;have o:=s.h2;have s2:=s.w2;have k:IntKind.i64.wrap ((x.w:Int)-1)=(x.w:Int)-1:=aR lw lw;have l:IntKind.i64.wrap ((x.h:Int)-1)=(x.h:Int)-1:=aR lw lw;refine aI mixed Tryz.func157 rfl Tryz.ntmps157 (zA7 rfl) ?_;simp only[gE,seval];refine aQ [(20,6),(20,13),(24,6),(24,13),(24,20)] [] m9 m9 rfl fun ops anc j q=>?_;simp only[aw]at j;simp only[a,f,e,bS,zW,seval];refine bI (v:=jp kw (x.w:Int)) p.aM (by simp only[aF,seval]) m9 ol g.ne (fun K m n=>?_) (by simp (maxDischargeDepth:=6) only[bS]) ?_
 .simp only[aF];exact ja K p x (g.of (by rw[m]; exact zA4 _) n) s
 simp only[a,f,e,j,k,l,Tryz.results157,bS,zW,seval];exact⟨p,g.two (y:=x.bQ r c) rfl rfl rfl rfl⟩
def Step.merge{H H1 g:aa}{p p1:Rp}{x y:Tm}(k:cx H p x)(s:Step (H.restrict p.aM) p g p1 y)(m:Mod p.aM H H1)(c:∀ n∈p.aM,H1.get n=g.get n)(e:∀ n,H.next<=n->n<g.next->H1.get n=g.get n)(f:H1.next=g.next):Step H p H1 p1 y:=by
 have j:=aK H p.aM;have b:∀ n∈p1.aM,n∈p.aM\/H.next<=n:=fun n a=>(s.new n a).imp id (fun h=>by rw[j.1]at h; exact h);refine⟨s.at_.of (by rw[f]; exact zA4 _) fun n a=>?_,m,s.same,b⟩;rcases b n a with h|h
 .exact c n h
 .exact e n h (s.at_.lt n a)
section
variable{N:Nat}{E:Env}{ds:List Deferred}{ops:Array Oper}{anc:List Nat}{d:Nat}{ty:io}{pos:String}{after:Array Edge}{i:Nat}{fps:List Fp}{Q:ah -> aa -> Prop}{H:aa}
def eJ{f:FuncId}{args:List i7}{ts:Array io}{v:go}{as':List go}{p:Rp}{x y:Tm}(g:cx H p x)(ok:H.base<=H.next)(j:args.all (bj Tryz.prog N)=bv)(k:aD Tryz.prog f=bv)(l:d<N)
  (a:args.map (cy E)=li (a9 ⟨p.t,0,bi⟩)::as')
  (c:∀ r∈fps,(anc.getD i 0).testBit r.i=bv\/(r.hi<=r.lo/\(∀ n∈r.W,n∉p.aM)/\(∀ n∈r.F,n∉p.aM)))
  (o:∀ G,cx G p x->G.base<=G.next->iK f as' G p v y) (h:∀ e p1,Step H p e p1 y->Q (bu N (cH E d v) ds) e) :
  oz Tryz.prog ops anc ⟨a9 d,.call ⟨.value (.func f),⟨args⟩,ts⟩,ty,pos,after,bi⟩ [] i fps (bu N E ds) H Q:=by
 have b:=aK H p.aM;obtain⟨_,q,s,rfl,p1,st⟩:=o (H.restrict p.aM) (g.of (by rw[b.1]; exact zA4 _) fun m c=>by rw[aU,if_pos c]) (by rw[b.1,b.2.1]; exact zA4 _);refine mi (W:=p.aM) p.aM ok j k g.ne g.lt (fun _ h=>h) (v:=v) (g:=q) (by rw[a]; exact s) st.mod c ?_;intro H1 D u w A hx _;rw[Jn,dK N E ds d v l];exact h H1 p1 (Step.merge g st u w A hx)
end
section
variable{H H1:aa}{p:Rp}{x:Tm}
def cx.Qo(g:cx H p x){k:Nat}{q:Nat × Bool}(f:p.rs[k]?=a9 q):q.1∈p.aM/\q.1≠p.t/\q.1≠p.rb:=by
 have c:q.1∈p.rs.map (·.1):=zC1.2 ⟨q,zC5 f,rfl⟩;have a:=zD6.1 g.nd;have b:=zD6.1 a.2;refine⟨by simp only[Rp.aM,zA8,zB1]; exact .inr (.inr (.inl (.inl c))),?_,?_⟩
 .intro e;exact a.1 (e▸(by simp only[zA8,zB1]; exact .inr (.inl (.inl c))))
 .intro e;exact b.1 (e▸(by simp only[zB1]; exact .inl (.inl c)))
def cx.putRow(g:cx H p x){k:Nat}{q:Nat × Bool}{l l':List Ce}(u:p.rs[k]?=a9 q)(A:x.aj[k]?=a9 l)(m:Mod [q.1] H H1)(h:bk H1 q.1=a9 ⟨77,q.2,a8 l'⟩)(B:l'.length=l.length):Step H p H1 p {x with aj:=x.aj.set k l'}:=by
 obtain⟨V,W,X⟩:=g.Qo u;have c:∀ n,n<H.next->n≠q.1->H1.get n=H.get n:=fun n j cn=>m.get n j (by simp only[zA5]; exact cn)
 have I:k<x.aj.length:=by
  rcases zC0 k x.aj.length with h'|h'
  .exact h'
  .rw[zD3 h']at A; cases A
 have Y:Tm.w {x with aj:=x.aj.set k l'}=x.w:=by
  simp only[Tm.w]
  cases O:x.aj with
  |nil=>rw[O]at I; simp at I
  |cons a r =>
   cases k with
   |zero =>rw[O]at A;simp only[zG1,i8]at A;subst A;simp[B]
   |succ k=>simp
 have R:Tm.h {x with aj:=x.aj.set k l'}=x.h:=by simp[Tm.h]
 have C:=g.nd;simp only[Rp.aM]at C;have o:∀ n∈p.aM,n<H.next:=g.lt;have f:(p.rs.map (·.1)++ae p.rv++ae p.pv).Nodup:=(zD6.1 (zD6.1 C).2).2;have D:q.1∈p.rs.map (·.1):=zC1.2 ⟨q,zC5 u,rfl⟩;have J:∀ n∈ae p.rv,n≠q.1:=by intro n j e;rw[zC8]at f;exact (zE6.1 f).2.2 q.1 D n (by simp[j]) e.symm
 have K:∀ n∈ae p.pv,n≠q.1:=by intro n j e;rw[zC8]at f;exact (zE6.1 f).2.2 q.1 D n (by simp[j]) e.symm
 refine⟨⟨?_,?_,?_,?_,?_,?_,g.nd,fun n j=>m.lt (g.lt n j)⟩,m.mono (by intro n j; simp only[zA5]at j; subst j; exact V),rfl,fun _ h=>.inl h⟩
 .rw[bg (c _ (o _ pi) W.symm),g.cell];simp only[bh,R]
 .rw[bg (c _ (o _ pi) X.symm),g.rows,Y]
 .rw[g.len,R]
 .intro i L l2 b s;simp only[List.getElem?_set]at s;by_cases v:k=i
  .subst v;rw[u]at b;cases b;rw[if_pos rfl,if_pos I]at s;cases s;exact h
  .rw[if_neg v]at s
   have cn:L.1≠q.1:=by
    intro e;have F:(p.rs.map (·.1)).Nodup:=(zE6.1 (zE6.1 f).1).1
    have hi:i<p.rs.length:=by
     rcases zC0 i p.rs.length with h'|h'
     .exact h'
     .rw[zD3 h']at b; cases b
    have t:k<p.rs.length:=by
     rcases zC0 k p.rs.length with h'|h'
     .exact h'
     .rw[zD3 h']at u; cases u
    have S:(p.rs.map (·.1))[i]'(by simpa using hi)=L.1:=by rw[zB0 hi]at b;simp only[i8]at b;simp[b]
    have T:(p.rs.map (·.1))[k]'(by simpa using t)=q.1:=by rw[zB0 t]at u;simp only[i8]at u;simp[u]
    have U:=List.pairwise_iff_getElem.1 F;rcases Nat.lt_trichotomy i k with h'|h'|h'
    .exact U i k (by simpa using hi) (by simpa using t) h' (S.trans (e.trans T.symm))
    .exact v h'.symm
    .exact U k i (by simpa using t) (by simpa using hi) h' (T.trans (e.symm.trans S.symm))
   have M:=(g.Qo b).1;rw[bg (c _ (o _ M) cn)];exact g.row i L l2 b s
 .exact g.rest.of fun n j=>c n (o n (by simp[Rp.aM,j])) (J n j)
 .exact g.par.of fun n j=>c n (o n (by simp[Rp.aM,j])) (K n j)
end
structure ma (H:aa) (v:go) (l:List Int):Prop where
 at_:eM H v l
 ne:l≠[]
 rg:∀ n∈l,0<=n/\n<=9999
 len:l.length<=100
 lt:∀ n∈ae v,n<H.next
def ma.cn{H:aa}{v:go}{l:List Int}(h:ma H v l):∀ n∈ae v,H.get n≠none:=h.at_.ne h.ne
def ma.head{H:aa}{v:go}{l:List Int}(h:ma H v l):0<=l.headD 0/\l.headD 0<=9999:=by
 cases l with
 |nil=>exact absurd rfl h.ne
 |cons a r=>exact h.rg a nl
def ma.count{H:aa}{v:go}{l:List Int}(h:ma H v l):1<=count l/\count l<=9999:=by have:=h.head;simp only[YtpohjcacnkhnkaaGreatDoor.Tq.count];omega
def ma.snd{H:aa}{v:go}{l:List Int}(h:ma H v l):0<=snd l/\snd l<=9999:=by
 simp only[YtpohjcacnkhnkaaGreatDoor.Tq.snd];by_cases a:1<l.length
 .have:=h.rg l[1] (List.getElem_mem _);simp only[List.getD,zB0 a,zH9];exact this
 .simp[List.getD,zD3 (show l.length<=1 by omega)]
def jv{x:Tm}(s:x.Sz):0<=x.inside/\x.inside<x.w:=by have a:=s.w1;have b:=s.c1;rw[BV];omega
def Wr(H:aa)(p:Rp)(x:Tm)(v:go)(l:List Int)(g:cx H p x)(s:x.Sz)(ok:H.base<=H.next)(a:ma H v l):iK 138 [v] H p (.tuple #[]) (x.bQ (x.row-count l) (x.col)):=by
 obtain⟨b,c⟩:=ac H.next;have h:p.t<b:=c▸g.lt p.t pi;have e:=g.cell;simp only[bh]at e;have o:=s.h2;have q:=s.r1;have r:=s.r2;have u:=a.count;have k:IntKind.i64.wrap (x.row-count l)=x.row-count l:=aR lw lw;refine aI mixed Tryz.func138 rfl Tryz.ntmps138 (zA7 rfl) ?_;simp only[gE,seval];refine aQ [(14,5),(14,7),(14,13)] [] m9 m9 rfl fun ops anc j w=>?_;simp only[aw]at j;simp only[c,h,e,bS,zW,seval];refine bI (v:=jp kw (count l)) (ae v) (by simp only[aF,seval]) m9 ol a.cn (fun K A m=>?_) (by simp (maxDischargeDepth:=6) only[bS]) ?_
 .simp only[aF];exact kl K v l (a.at_.of m) a.ne
 simp only[c,h,e,k,bS,zW,seval];refine eJ (as':=[jp kw (x.row-count l),jp kw (x.col)]) g ok rfl m9 ol rfl (by simp only[aw,cG,j,true_or,and_true]) (fun G n f=>kB G p x _ _ n s f) fun H1 p1 st=>?_;rw[show H1=ext H1 [] from rfl];simp only[Tryz.results138,bS,gV];exact⟨p1,st⟩
def UQ(H:aa)(p:Rp)(x:Tm)(v:go)(l:List Int)(g:cx H p x)(s:x.Sz)(ok:H.base<=H.next)(a:ma H v l):iK 139 [v] H p (.tuple #[]) (x.bQ (x.row+count l) (x.col)):=by
 obtain⟨b,c⟩:=ac H.next;have h:p.t<b:=c▸g.lt p.t pi;have e:=g.cell;simp only[bh]at e;have o:=s.h2;have q:=s.r1;have r:=s.r2;have u:=a.count;have k:IntKind.i64.wrap (x.row+count l)=x.row+count l:=aR lw lw;refine aI mixed Tryz.func139 rfl Tryz.ntmps139 (zA7 rfl) ?_;simp only[gE,seval];refine aQ [(14,5),(14,7),(14,13)] [] m9 m9 rfl fun ops anc j w=>?_;simp only[aw]at j;simp only[c,h,e,bS,zW,seval];refine bI (v:=jp kw (count l)) (ae v) (by simp only[aF,seval]) m9 ol a.cn (fun K A m=>?_) (by simp (maxDischargeDepth:=6) only[bS]) ?_
 .simp only[aF];exact kl K v l (a.at_.of m) a.ne
 simp only[c,h,e,k,bS,zW,seval];refine eJ (as':=[jp kw (x.row+count l),jp kw (x.col)]) g ok rfl m9 ol rfl (by simp only[aw,cG,j,true_or,and_true]) (fun G n f=>kB G p x _ _ n s f) fun H1 p1 st=>?_;rw[show H1=ext H1 [] from rfl];simp only[Tryz.results139,bS,gV];exact⟨p1,st⟩
def S4(H:aa)(p:Rp)(x:Tm)(v:go)(l:List Int)(g:cx H p x)(s:x.Sz)(ok:H.base<=H.next)(a:ma H v l):iK 140 [v] H p (.tuple #[]) (x.bQ (x.row) (x.inside+count l)):=by
 obtain⟨b,c⟩:=ac H.next;have m:p.t<b:=c▸g.lt p.t pi;have h:=g.cell;simp only[bh]at h;have s2:=s.w2;have q:=jv s;have r:=a.count;have n:IntKind.i64.wrap (x.inside+count l)=x.inside+count l:=aR lw lw;refine aI mixed Tryz.func140 rfl Tryz.ntmps140 (zA7 rfl) ?_;simp only[gE,seval];refine aQ [(11,5),(11,7),(11,9)] [] m9 m9 rfl fun ops anc j u=>?_;simp only[aw]at j;simp only[c,m,h,bS,zW,seval];refine bI (v:=jp kw x.inside) p.aM (by simp only[aF,seval]) m9 ol g.ne (fun K k e=>?_) (by simp (maxDischargeDepth:=6) only[bS]) ?_
 .simp only[aF];exact qs K p x (g.of (by rw[k]; exact zA4 _) e) s
 simp only[c,bS,zW,seval];refine bI (v:=jp kw (count l)) (ae v) (by simp only[aF,seval]) m9 ol a.cn (fun K k e=>?_) (by simp (maxDischargeDepth:=6) only[bS]) ?_
 .simp only[aF];exact kl K v l (a.at_.of e) a.ne
 simp only[c,n,bS,zW,seval];refine eJ (as':=[jp kw (x.row),jp kw (x.inside+count l)]) g ok rfl m9 ol rfl (by simp only[aw,cG,j,true_or,and_true]) (fun G o f=>kB G p x _ _ o s f) fun H1 p1 st=>?_;rw[show H1=ext H1 [] from rfl];simp only[Tryz.results140,bS,gV];exact⟨p1,st⟩
def U5(H:aa)(p:Rp)(x:Tm)(v:go)(l:List Int)(g:cx H p x)(s:x.Sz)(ok:H.base<=H.next)(a:ma H v l):iK 141 [v] H p (.tuple #[]) (x.bQ (x.row) (x.inside-count l)):=by
 obtain⟨b,c⟩:=ac H.next;have m:p.t<b:=c▸g.lt p.t pi;have h:=g.cell;simp only[bh]at h;have s2:=s.w2;have q:=jv s;have r:=a.count;have n:IntKind.i64.wrap (x.inside-count l)=x.inside-count l:=aR lw lw;refine aI mixed Tryz.func141 rfl Tryz.ntmps141 (zA7 rfl) ?_;simp only[gE,seval];refine aQ [(11,5),(11,7),(11,9)] [] m9 m9 rfl fun ops anc j u=>?_;simp only[aw]at j;simp only[c,m,h,bS,zW,seval];refine bI (v:=jp kw x.inside) p.aM (by simp only[aF,seval]) m9 ol g.ne (fun K k e=>?_) (by simp (maxDischargeDepth:=6) only[bS]) ?_
 .simp only[aF];exact qs K p x (g.of (by rw[k]; exact zA4 _) e) s
 simp only[c,bS,zW,seval];refine bI (v:=jp kw (count l)) (ae v) (by simp only[aF,seval]) m9 ol a.cn (fun K k e=>?_) (by simp (maxDischargeDepth:=6) only[bS]) ?_
 .simp only[aF];exact kl K v l (a.at_.of e) a.ne
 simp only[c,n,bS,zW,seval];refine eJ (as':=[jp kw (x.row),jp kw (x.inside-count l)]) g ok rfl m9 ol rfl (by simp only[aw,cG,j,true_or,and_true]) (fun G o f=>kB G p x _ _ o s f) fun H1 p1 st=>?_;rw[show H1=ext H1 [] from rfl];simp only[Tryz.results141,bS,gV];exact⟨p1,st⟩
def Sd(H:aa)(p:Rp)(x:Tm)(v:go)(l:List Int)(g:cx H p x)(s:x.Sz)(ok:H.base<=H.next)(a:ma H v l):iK 142 [v] H p (.tuple #[]) (x.bQ (x.row) (count l-1)):=by
 obtain⟨b,c⟩:=ac H.next;have j:p.t<b:=c▸g.lt p.t pi;have f:=g.cell;simp only[bh]at f;have o:=a.count;have k:IntKind.i64.wrap (count l-1)=count l-1:=aR lw lw;refine aI mixed Tryz.func142 rfl Tryz.ntmps142 (zA7 rfl) ?_;simp only[gE,seval];refine aQ [(9,5),(9,7)] [] m9 m9 rfl fun ops anc h q=>?_;simp only[aw]at h;simp only[c,j,f,bS,zW,seval];refine bI (v:=jp kw (count l)) (ae v) (by simp only[aF,seval]) m9 ol a.cn (fun K r m=>?_) (by simp (maxDischargeDepth:=6) only[bS]) ?_
 .simp only[aF];exact kl K v l (a.at_.of m) a.ne
 simp only[c,k,bS,zW,seval];refine eJ (as':=[jp kw (x.row),jp kw (count l-1)]) g ok rfl m9 ol rfl (by simp only[aw,cG,h,true_or,and_true]) (fun G n e=>kB G p x _ _ n s e) fun H1 p1 st=>?_;rw[show H1=ext H1 [] from rfl];simp only[Tryz.results142,bS,gV];exact⟨p1,st⟩
def SB(H:aa)(p:Rp)(x:Tm)(v:go)(l:List Int)(g:cx H p x)(s:x.Sz)(ok:H.base<=H.next)(a:ma H v l):iK 143 [v] H p (.tuple #[]) (x.bQ (count l-1) (x.col)):=by
 obtain⟨b,e⟩:=ac H.next;have j:p.t<b:=e▸g.lt p.t pi;have f:=g.cell;simp only[bh]at f;have o:=a.count;have k:IntKind.i64.wrap (count l-1)=count l-1:=aR lw lw;refine aI mixed Tryz.func143 rfl Tryz.ntmps143 (zA7 rfl) ?_;simp only[gE,seval];refine aQ [(9,2),(9,8)] [] m9 m9 rfl fun ops anc h q=>?_;simp only[aw]at h;simp only[bS,aF,seval];refine bI (v:=jp kw (count l)) (ae v) (by simp only[aF,seval]) m9 ol a.cn (fun K r m=>?_) (by simp (maxDischargeDepth:=6) only[bS]) ?_
 .simp only[aF];exact kl K v l (a.at_.of m) a.ne
 simp only[e,j,f,k,bS,zW,seval];refine eJ (as':=[jp kw (count l-1),jp kw (x.col)]) g ok rfl m9 ol rfl (by simp only[aw,cG,h,true_or,and_true]) (fun G n c=>kB G p x _ _ n s c) fun H1 p1 st=>?_;rw[show H1=ext H1 [] from rfl];simp only[Tryz.results143,bS,gV];exact⟨p1,st⟩
def Fh(H:aa)(p:Rp)(x:Tm)(v:go)(l:List Int)(g:cx H p x)(s:x.Sz)(ok:H.base<=H.next)(a:ma H v l):iK 144 [v] H p (.tuple #[]) (x.bQ (count l-1) (max 1 (snd l)-1)):=by have e:=a.count;have f:=a.snd;have c:IntKind.i64.wrap (count l-1)=count l-1:=aR lw lw;have b:IntKind.i64.wrap (max 1 (snd l)-1)=max 1 (snd l)-1:=aR lw lw;refine aI mixed Tryz.func144 rfl Tryz.ntmps144 (zA7 rfl) ?_;simp only[zW,seval];refine (kl (ext H []) v l a.at_ a.ne).to ?_;simp only[c,zW,seval];refine (FB (ext H []) v l a.at_).to ?_;simp only[b,zW,seval];refine (kB (ext H []) p x _ _ g s ok).mono ?_;rintro _ H1 ⟨rfl,p1,st⟩;rw[show H1=ext H1 [] from rfl];simp only[Tryz.results144,gV,seval];exact⟨trivial,p1,st⟩
def kQ(l:List Ce)(a i:Nat):List Ce:=l.take a++List.replicate (i-a) sp++l.drop i
def BK(l:List Ce)(a i:Nat)(h:a<=i)(b:i<=l.length):(kQ l a i).length=l.length:=by simp only[kQ,zB3,zD9,zF1,zC6]; omega
def Ft(l:List Ce)(a:Nat):kQ l a a=l:=by simp[kQ]
def M6(l:List Ce)(a i:Nat)(h:a<=i)(b:i<l.length):(kQ l a i).set i sp=kQ l a (i+1):=by
 have c:(l.take a++List.replicate (i-a) sp).length=i:=by simp; omega
 rw[kQ,List.set_append_right _ _ lw,c,zG8,zH4 b,List.set_cons_zero,kQ,show i+1-a=i-a+1 by omega,List.replicate_succ'];simp
def jS(l:List Ce)(a b:Nat):List Ce:=if a<b/\(l.getD a sp).rune=-1 then l.set (a-1) sp else l
def kK(l:List Ce)(a b:Nat):List Ce:=if a<b/\b<l.length/\(l.getD b sp).rune=-1 then l.set b sp else l
def jZ(l:List Ce)(a b:Nat):(jS l a b).length=l.length:=by unfold jS; split<;>simp
def ou(l:List Ce)(a b:Nat):(kK l a b).length=l.length:=by unfold kK; split<;>simp
def rl(l:List Ce)(a b:Nat)(h:a<=b):ic l a b=kQ (kK (jS l a b) a b) a b:=by simp only[ic,kQ,jS,kK];rw[Nat.max_eq_right h];rfl
def sM(l:List Ce)(a b:Nat)(h:a<=b)(c:b<=l.length):(ic l a b).length=l.length:=by rw[rl l a b h,BK _ _ _ h (by rw[ou,jZ]; exact c),ou,jZ]
def Ay{c:Ce}{N k:Nat}{e:io}{o:Bool}{l:List Ce}(h:k<l.length):Cc Tryz.prog 77 N (k*6) c.val (a9 ⟨e,o,a8 l⟩)=a9 ⟨e,o,a8 (l.set k c)⟩:=by have a:c.val.cells.toList=c.cells:=rfl;rw[oG (by rw[a]; exact VV) (by rw[a,bx]; simp only[Ce.cells,zA9,zB4]; omega) (by rw[a]; rfl) (by rw[a]; rfl),a,Hn l k c h]
def IM{N k:Nat}{e:io}{o:Bool}{l:List Ce}(h:k<l.length):Cc Tryz.prog 77 N (k*6) (.agg ⟨[jp kw 32,jp kw 0,jp kw 0,ls ci,ls ci,ls ci]⟩) (a9 ⟨e,o,a8 l⟩)=a9 ⟨e,o,a8 (l.set k sp)⟩:=Ay (c:=sp) h
def yw{X:aa}{n k:Nat}{e:io}{o:Bool}{l:List Ce}{c:Ce}(a:bk X n=a9 ⟨e,o,a8 l⟩)(h:k<l.length):bk (ext (uw X n (k*6) c.cells) []) n=a9 ⟨e,o,a8 (l.set k c)⟩:=by rw[ext_nil,bR,a,zB2,yo,Hn l k c h]
theorem qt(x:Tm)(k a b:Nat):x.blank k a b={x with aj:=x.aj.set k (ic (x.aj.getD k []) a b)}:=rfl
def EU(H:aa)(p:Rp)(x:Tm)(k a b:Nat)(l:List Ce)(g:cx H p x)(s:x.Sz)(ok:H.base<=H.next)(W:x.aj[k]?=a9 l)(T:a<=b)(hbw:b<=x.w)(hr:a<b->(l.getD a sp).rune=-1->0<a) :
  iK 137 [jp kw (k:Int),jp kw (a:Int),jp kw (b:Int)] H p (.tuple #[]) (x.blank k a b):=by
 obtain⟨n,U⟩:=ac H.next;have hT:p.t<n:=U▸g.lt p.t pi;have hR:p.rb<n:=U▸g.lt p.rb pi;have h1:=g.cell;simp only[bh]at h1;have h2:=g.rows;obtain⟨q,hq,hqm,hqb⟩:=g.rowOf W;have hQ:q.1<n:=U▸g.lt q.1 hqm;have hlw:l.length=x.w:=s.ws l (zC5 W);have s1:=s.h2;have s2:=s.w2
 have hk:k<x.h:=by
  rcases zC0 k x.aj.length with h'|h'
  .exact h'
  .rw[zD3 h']at W; cases W
 have hqr:(p.rs.map (bE x.w))[k]?=a9 (bE x.w q):=by rw[zG0,hq]; rfl
 have hi:=uF (len:=x.h) (cap:=x.h) (n:=p.rb) (s:=bi) (i:=(k:Int)) (k:=k) rfl hk
 obtain⟨d1,v⟩:∃ d,f7 ((a:Int)<(b:Int))=d:=⟨_,rfl⟩
 have e1:a<b ↔ d1=true:=by rw[<-v,decide_eq_true_iff]; omega
 refine aI mixed Tryz.func137 rfl Tryz.ntmps137 (zA7 rfl) ?_;refine lg (fun e K=>Mod [q.1] H K/\bk K q.1=a9 ⟨77,q.2,a8 l⟩/\e 0=li (a9 ⟨p.t,0,bi⟩)/\e 1=jp kw (k:Int)/\e 2=jp kw (a:Int)/\e 3=jp kw (b:Int)/\e 8=bE x.w q) ?_ ?_
 .simp only[U,hT,hR,h1,h2,hi,hqr,bE,zW,seval];refine ag ⟨Mod.refl,hqb,?_,?_,?_,?_,?_⟩<;>simp only[aF,seval]
 rintro E X ⟨r,f,I,J,j,o,u⟩;refine lg (fun e K=>Mod [q.1] H K/\bk K q.1=a9 ⟨77,q.2,a8 (jS l a b)⟩/\e 0=li (a9 ⟨p.t,0,bi⟩)/\e 1=jp kw (k:Int)/\e 2=jp kw (a:Int)/\e 3=jp kw (b:Int)/\e 8=bE x.w q) ?_ ?_
 .obtain⟨m,O⟩:=ac X.next;have A:q.1<m:=O▸r.lt (U▸hQ);rw[show X=ext X [] from rfl]
  cases d1 with
  |false =>
   have D:jS l a b=l:=by unfold jS; rw[if_neg (fun h=>by have:=e1.1 h.1; simp at this)]
   simp only[j,o,v,bE,zW,seval];refine ag ⟨r,by rw[D]; exact f,?_,?_,?_,?_,?_⟩<;>simp only[I,J,j,o,u,bE,aF,seval]
  |true =>
   have R:a<b:=e1.2 rfl;have hal:a<l.length:=by omega
   obtain⟨c,hc⟩:∃ c,l[a]?=a9 c:=⟨_,zB0 hal⟩
   have F:l.getD a sp=c:=by rw[List.getD,hc]; rfl
   have B:=eU (len:=x.w) (cap:=x.w) (n:=q.1) (s:=if q.2=bv then bi else a9 0) (i:=(a:Int)) (k:=a) rfl lw;have L:=Cd hc
   obtain⟨d2,C⟩:∃ d,f7 (c.rune=-1)=d:=⟨_,rfl⟩
   have Y:c.rune=-1 ↔ d2=true:=by rw[<-C,decide_eq_true_iff]
   cases d2 with
   |false =>
    have D:jS l a b=l:=by unfold jS; rw[if_neg (fun h=>by have:=Y.1 (F▸h.2); simp at this)]
    simp only[j,o,u,v,C,O,A,f,B,L,bE,zW,seval];refine ag ⟨r,by rw[D]; exact f,?_,?_,?_,?_,?_⟩<;>simp only[I,J,j,o,u,bE,aF,seval]
   |true =>
    have hpos:0<a:=hr R (by rw[F]; exact Y.2 rfl);have D:jS l a b=l.set (a-1) sp:=by unfold jS; rw[if_pos ⟨R,by rw[F]; exact Y.2 rfl⟩]
    have hw1:IntKind.i64.wrap ((a:Int)-1)=(a:Int)-1:=aR lw lw;have hia2:=eU (len:=x.w) (cap:=x.w) (n:=q.1) (s:=if q.2=bv then bi else a9 0) (i:=(a:Int)-1) (k:=a-1) lw lw;have M:∀ N,Cc Tryz.prog 77 N ((a-1)*6) (.agg ⟨[jp kw 32,jp kw 0,jp kw 0,ls ci,ls ci,ls ci]⟩) (a9 ⟨77,q.2,a8 l⟩)=a9 ⟨77,q.2,a8 (l.set (a-1) sp)⟩:=fun N=>IM lw;simp only[j,o,u,v,C,O,A,f,B,hia2,L,hw1,M,bE,zW,seval];refine ag ⟨r.trans (Mod.uw nl),by rw[D]; exact yw (c:=sp) f lw,?_,?_,?_,?_,?_⟩<;>simp only[I,J,j,o,u,bE,aF,seval]
 generalize hl2:jS l a b=l2;have hl2w:l2.length=x.w:=by rw[<-hl2,jZ,hlw]
 clear f r I J j o u X E;rintro E X ⟨r,f,I,J,j,o,u⟩;refine lg (fun e K=>Mod [q.1] H K/\bk K q.1=a9 ⟨77,q.2,a8 (kK l2 a b)⟩/\e 0=li (a9 ⟨p.t,0,bi⟩)/\e 1=jp kw (k:Int)/\e 2=jp kw (a:Int)/\e 3=jp kw (b:Int)/\e 8=bE x.w q) ?_ ?_
 .obtain⟨m,O⟩:=ac X.next;have A:q.1<m:=O▸r.lt (U▸hQ);rw[show X=ext X [] from rfl]
  cases d1 with
  |false =>
   have D:kK l2 a b=l2:=by unfold kK; rw[if_neg (fun h=>by have:=e1.1 h.1; simp at this)]
   simp only[j,o,v,bE,zW,seval];refine ag ⟨r,by rw[D]; exact f,?_,?_,?_,?_,?_⟩<;>simp only[I,J,j,o,u,bE,aF,seval]
  |true =>
   have R:a<b:=e1.2 rfl;by_cases hbl:b<x.w
   .obtain⟨c,hc⟩:∃ c,l2[b]?=a9 c:=⟨_,zB0 lw⟩
    have F:l2.getD b sp=c:=by rw[List.getD,hc]; rfl
    have S:f7 ((b:Int)<(x.w:Int))=true:=decide_eq_true lw;have B:=eU (len:=x.w) (cap:=x.w) (n:=q.1) (s:=if q.2=bv then bi else a9 0) (i:=(b:Int)) (k:=b) rfl lw;have L:=Cd hc
    obtain⟨d2,C⟩:∃ d,f7 (c.rune=-1)=d:=⟨_,rfl⟩
    have Y:c.rune=-1 ↔ d2=true:=by rw[<-C,decide_eq_true_iff]
    cases d2 with
    |false =>
     have D:kK l2 a b=l2:=by unfold kK; rw[if_neg (fun h=>by have:=Y.1 (F▸h.2.2); simp at this)]
     simp only[j,o,u,v,C,S,O,A,f,B,L,bE,zW,seval];refine ag ⟨r,by rw[D]; exact f,?_,?_,?_,?_,?_⟩<;>simp only[I,J,j,o,u,bE,aF,seval]
    |true =>
     have D:kK l2 a b=l2.set b sp:=by unfold kK; rw[if_pos ⟨R,by omega,by rw[F]; exact Y.2 rfl⟩]
     have M:∀ N,Cc Tryz.prog 77 N (b*6) (.agg ⟨[jp kw 32,jp kw 0,jp kw 0,ls ci,ls ci,ls ci]⟩) (a9 ⟨77,q.2,a8 l2⟩)=a9 ⟨77,q.2,a8 (l2.set b sp)⟩:=fun N=>IM lw;simp only[j,o,u,v,C,S,O,A,f,B,L,M,bE,zW,seval];refine ag ⟨r.trans (Mod.uw nl),by rw[D]; exact yw (c:=sp) f lw,?_,?_,?_,?_,?_⟩<;>simp only[I,J,j,o,u,bE,aF,seval]
   .have D:kK l2 a b=l2:=by unfold kK; rw[if_neg (fun h=>by have:=h.2.1; omega)]
    have S:f7 ((b:Int)<(x.w:Int))=false:=decide_eq_false lw;simp only[j,o,u,v,S,bE,zW,seval];refine ag ⟨r,by rw[D]; exact f,?_,?_,?_,?_,?_⟩<;>simp only[I,J,j,o,u,bE,aF,seval]
 generalize hl3:kK l2 a b=V;have hl3w:V.length=x.w:=by rw[<-hl3,ou,hl2w]
 clear f r I J j o u X E;rintro E X ⟨r,f,I,J,j,o,u⟩;simp only[j,zW,seval];refine da fun E hE=>?_;have f2:E 2=jp kw (a:Int):=by rw[hE]; simp only[j,aF,seval]
 have Z:E 3=jp kw (b:Int):=by rw[hE]; simp only[o,aF,seval]
 have f8:E 8=bE x.w q:=by rw[hE]; simp only[u,aF,seval]
 have f9:E 9=jp kw (a:Int):=by rw[hE]; rfl
 clear hE I J j o u
 refine cp (fun (i:Nat) e K=>Mod [q.1] H K/\a<=i/\i<=b/\bk K q.1=a9 ⟨77,q.2,a8 (kQ V a i)⟩/\e 2=jp kw (a:Int)/\e 3=jp kw (b:Int)/\e 8=bE x.w q/\e 9=jp kw (i:Int)) (fun i=>b-i) a
  ⟨r,zA4 _,T,by rw[Ft]; exact f,f2,Z,f8,f9⟩ ?_
 clear f r f2 Z f8 f9 X E;rintro i E X ⟨r,i1,i2,f,f2,Z,f8,f9⟩;obtain⟨m,O⟩:=ac X.next;have A:q.1<m:=O▸r.lt (U▸hQ);rw[show X=ext X [] from rfl];by_cases hib:i=b
 .have hd:f7 ((i:Int)<(b:Int))=false:=decide_eq_false lw;simp only[Z,f9,hd,Tryz.results137,zW,seval];refine⟨trivial,p,?_⟩;have:=g.putRow (H1:=ext X []) hq W r (l':=ic l a b) (by rw[rl l a b T,hl2,hl3,<-hib]; exact f) (sM l a b T lw);rw[qt,List.getD,W];exact this
 .have hd:f7 ((i:Int)<(b:Int))=true:=decide_eq_true lw;have hil:i<V.length:=by omega
  have hfl:=BK V a i i1 lw;have B:=eU (len:=x.w) (cap:=x.w) (n:=q.1) (s:=if q.2=bv then bi else a9 0) (i:=(i:Int)) (k:=i) rfl lw;have M:∀ N,Cc Tryz.prog 77 N (i*6) (.agg ⟨[jp kw 32,jp kw 0,jp kw 0,ls ci,ls ci,ls ci]⟩) (a9 ⟨77,q.2,a8 (kQ V a i)⟩)=a9 ⟨77,q.2,a8 ((kQ V a i).set i sp)⟩:=fun N=>IM lw;simp only[Z,f8,f9,hd,O,A,f,B,M,ba (show i<1000000 by omega),bE,zW,seval];refine aG ⟨i+1,by omega,r.trans (Mod.uw nl),by omega,by omega,by rw[<-M6 V a i i1 hil]; exact yw (c:=sp) f lw,?_,?_,?_,?_⟩<;>simp only[f2,Z,f8,bE,aF,seval]
def JD(l:List Ce)(k:Nat)(c:Ce)(hc:c.rune≠-1\/k≠0)(h:(l.getD 0 sp).rune≠-1):((l.set k c).getD 0 sp).rune≠-1:=by
 cases l with
 |nil=>simpa using h
 |cons a r =>
  cases k with
  |zero =>
   rcases hc with hc|hc
   .simpa using hc
   .exact absurd rfl hc
  |succ k=>simpa using h
def tW:sp.rune≠-1:=by decide
def Rs(l:List Ce)(a b:Nat)(h:(l.getD 0 sp).rune≠-1):((jS l a b).getD 0 sp).rune≠-1:=by
 unfold jS;split
 .exact JD l _ _ (.inl tW) h
 .exact h
def OQ(l:List Ce)(a b:Nat)(h:(l.getD 0 sp).rune≠-1):((kK l a b).getD 0 sp).rune≠-1:=by
 unfold kK;split
 .exact JD l _ _ (.inl tW) h
 .exact h
def Rg(l:List Ce)(a b:Nat)(f:a<=b)(e:b<=l.length)(h:(l.getD 0 sp).rune≠-1):((kQ l a b).getD 0 sp).rune≠-1:=by
 unfold kQ
 cases a with
 |zero =>
  cases b with
  |zero=>simpa using h
  |succ b=>simp[List.replicate_succ,tW]
 |succ a =>
  cases l with
  |nil=>simp at e; omega
  |cons c r=>simpa using h
def Nh(l:List Ce)(a b:Nat)(c:a<=b)(e:b<=l.length)(h:(l.getD 0 sp).rune≠-1):((ic l a b).getD 0 sp).rune≠-1:=by rw[rl l a b c];exact Rg _ a b c (by rw[ou,jZ]; exact e) (OQ _ a b (Rs _ a b h))
def Tm.setRow(x:Tm)(k:Nat)(l:List Ce):Tm:={x with aj:=x.aj.set k l}
def AH(x:Tm)(k:Nat)(l:List Ce):(x.setRow k l).h=x.h:=by simp[Tm.setRow,Tm.h]
def AO{x:Tm}(s:x.Sz)(k:Nat)(l:List Ce)(h:l.length=x.w):(x.setRow k l).w=x.w:=by
 have b:=s.h1
 simp only[Tm.setRow,Tm.w,Tm.h]at *
 cases c:x.aj with
 |nil=>rw[c]at b; simp at b
 |cons a r =>
  rw[c]at h
  cases k with
  |zero=>simpa using h
  |succ k=>simp
def Tm.Sz.setRow{x:Tm}(s:x.Sz){k:Nat}{l:List Ce}(h:l.length=x.w)(f:(l.getD 0 sp).rune≠-1):(x.setRow k l).Sz:=by
 have a:=AH x k l;have b:=AO s k l h;have e:∀ r∈(x.setRow k l).aj,r=l\/r∈x.aj:=fun r c=>by have:=List.mem_or_eq_of_mem_set c;exact this.symm
 exact⟨by rw[a]; exact s.h1,by rw[a]; exact s.h2,by rw[b]; exact s.w1,by rw[b]; exact s.w2,fun r c=>by
   rw[b];rcases e r c with rfl|h'
   .exact h
   .exact s.ws r h',s.r1,by rw[a]; exact s.r2,s.c1,by rw[b]; exact s.c2,s.sr1,by rw[a]; exact s.sr2,s.sc1,by rw[b]; exact s.sc2,s.t1,s.t2,by rw[a]; exact s.t3,s.md,fun r c=>by
   rcases e r c with rfl|h'
   .exact f
   .exact s.hd r h'⟩
def Tm.Sz.rowAt{x:Tm}(s:x.Sz){k:Nat}(b:k<x.h):∃ l,x.aj[k]?=a9 l/\x.aj.getD k []=l/\l.length=x.w/\(l.getD 0 sp).rune≠-1:=by have a:k<x.aj.length:=b;refine⟨x.aj[k],zB0 a,by simp[List.getD,zB0 a],s.ws _ (List.getElem_mem _),s.hd _ (List.getElem_mem _)⟩
def Tm.Sz.blank{x:Tm}(s:x.Sz){k a b:Nat}(f:k<x.h)(c:a<=b)(m:b<=x.w):(x.blank k a b).Sz:=by obtain⟨l,_,e,g,j⟩:=s.rowAt f;rw[qt,e];exact s.setRow (by rw[sM l a b c lw,g]) (Nh l a b c lw j)
def iE{x:Tm}(s:x.Sz){k a b:Nat}(c:k<x.h)(f:a<=b)(j:b<=x.w):(x.blank k a b).h=x.h/\(x.blank k a b).w=x.w:=by obtain⟨l,_,e,g,m⟩:=s.rowAt c;rw[qt,e];exact⟨AH x k _,AO s k _ (by rw[sM l a b f lw,g])⟩
def Tm.Sz.move{x:Tm}(s:x.Sz)(r c:Int)(a:0<=r)(r2:r<x.h)(b:0<=c)(c2:c<=x.w):Tm.Sz {x with row:=r,col:=c} :=
 ⟨s.h1,s.h2,s.w1,s.w2,s.ws,a,r2,b,c2,s.sr1,s.sr2,s.sc1,s.sc2,s.t1,s.t2,s.t3,s.md,s.hd⟩
def Tm.Sz.bQ{x:Tm}(s:x.Sz)(r c:Int):(x.bQ r c).Sz:=by have a:=s.h1;have w1:=s.w1;refine s.move _ _ ?_ ?_ ?_ ?_<;>simp only[Tm.cd,Tm.width,Tm.h,Tm.w]at*<;> omega
def uu{H:aa}{p:Rp}{x:Tm}{k a b:Nat}(g:cx H p x)(s:x.Sz)(ok:H.base<=H.next)(f:k<x.h)(c:a<=b)(e:b<=x.w):iK 137 [jp kw (k:Int),jp kw (a:Int),jp kw (b:Int)] H p (.tuple #[]) (x.blank k a b):=by
 obtain⟨l,j,_,_,m⟩:=s.rowAt f;refine EU H p x k a b l g s ok j c e fun _ h=>?_
 cases a with
 |zero=>exact absurd h m
 |succ a=>omega
end Go.Proofs.YtpohjcacnkhnkaaGreatDoor.Tq
namespace Go.Proofs.YtpohjcacnkhnkaaGreatDoor
open Go.Ax
structure Ce where
 rune:Int
 fore:Int
 back:Int
 bold:Bool
 under:Bool
 inv:Bool
deriving DecidableEq
def Ce.cells(c:Ce):List Value:=[jp kw c.rune,jp kw c.fore,jp kw c.back,ls c.bold,ls c.under,ls c.inv]
def Ce.val(c:Ce):Value:=.agg #[jp kw c.rune,jp kw c.fore,jp kw c.back,ls c.bold,ls c.under,ls c.inv]
def a8(l:List Ce):List Value:=l.flatMap Ce.cells
theorem cP(c:Ce)(l:List Ce):a8 (c::l)=c.cells++a8 l:=rfl
def fb(l m:List Ce):a8 (l++m)=a8 l++a8 m:=by simp[a8]
def bx(l:List Ce):(a8 l).length=l.length*6:=by
 induction l with
 |nil=>rfl
 |cons c l a=>rw[cP,zB3,a]; simp[Ce.cells]; omega
def tS(l:List Ce):(a8 l).all one=true:=by
 induction l with
 |nil=>rfl
 |cons c l a=>rw[cP,List.all_append,a]; rfl
def kj(l:List Ce)(n:Nat):aT n (a8 l)=true:=by
 induction l with
 |nil=>rfl
 |cons c l a =>rw[cP];simp only[Ce.cells,zE3,zB6,aT,aV,a,zD8]
def dZ(H:aa)(v:go)(l:List Ce):Prop :=
 (l=[]/\∃ a c,v=.slice a 0 c)\/(l≠[]/\∃ n off s c e o L,v=lm (a9 ⟨n,off,s⟩) l.length c/\rk H n=a9 ⟨e,o,L⟩/\n<H.next/\off+l.length*6<=L.length/\(L.drop off).take (l.length*6)=a8 l)
def dZ.sl{H:aa}{v:go}{l:List Ce}(h:dZ H v l):∃ a c,v=.slice a l.length c:=by
 rcases h with⟨rfl,a,c,rfl⟩|⟨_,n,off,s,c,e,o,L,rfl,_⟩
 .exact⟨a,c,rfl⟩
 .exact⟨_,_,rfl⟩
def dZ.of{H G:aa}{v:go}{l:List Ce}(h:dZ H v l)(q:H.next<=G.next)(f:∀ n∈ae v,G.get n=H.get n):dZ G v l:=by
 rcases h with⟨rfl,a,c,rfl⟩|⟨g,n,off,s,c,e,o,L,rfl,j,k,b,m⟩
 .exact .inl ⟨rfl,a,c,rfl⟩
 .exact .inr ⟨g,n,off,s,c,e,o,L,rfl,(kh (f n pm)).trans j,by omega,b,m⟩
def zx:∀(l:List Ce)(k:Nat)(c:Ce)(L:List go)(off:Nat),l[k]?=a9 c->(L.drop off).take (l.length*6)=a8 l->(L.drop (off+k*6)).take 6=c.cells:=by
 intro l k c L off a h
 have g:k<l.length:=by
  rcases zC0 k l.length with h'|h'
  .exact h'
  .rw[zD3 h']at a; cases a
 have b:∀(l:List Ce)(k:Nat),l[k]?=a9 c->((a8 l).drop (k*6)).take 6=c.cells:=by
  intro l
  induction l with
  |nil=>intro k h; simp at h
  |cons q ps e =>
   intro k h
   cases k with
   |zero =>simp only[zG1,i8]at h;subst h;simp[a8,Ce.cells]
   |succ k =>have e:=e k (by simpa using h);rw[cP,show (k+1)*6=q.cells.length+k*6 by simp[Ce.cells]; omega,List.drop_append,zE9 lw,zB6,zG2];exact e
 have f:=b l k a;rw[<-h,List.drop_take,zH3,List.take_take,zH0 lw]at f;exact f
def gm{l:List Ce}{k:Nat}{c:Ce}{e:io}{o:Bool}{L:List go}{off:Nat}(a:l[k]?=a9 c)(b:off+l.length*6<=L.length)(h:(L.drop off).take (l.length*6)=a8 l):rL Tryz.prog 77 (off+k*6) (a9 ⟨e,o,L⟩)=a9 c.val:=by
 have f:k<l.length:=by
  rcases zC0 k l.length with h'|h'
  .exact h'
  .rw[zD3 h']at a; cases a
 have g:fj Tryz.prog 77=a9 true:=by kernel_rfl
 have j:br Tryz.prog 77=a9 6:=by kernel_rfl
 simp only[rL,g,j,zA3,zx l k c L off a h];rw[if_pos lw];rfl
def eU{len cap n off:Nat}{s:Option Nat}{i:Int}{k:Nat}(hi:i=k)(a:k<len):aW Tryz.prog 56 (lm (a9 ⟨n,off,s⟩) len cap) (jp kw i)=a9 (li (a9 ⟨n,off+k*6,bi⟩)):=by subst hi;rw[gk (e:=77) (sz:=6) m9 m9 lw lw];simp
def wF(r s:Ce):Ei r.cells s.cells=f7 (r=s):=by obtain⟨a,b,c,d,e,f⟩:=r;obtain⟨g,h,j,k,l,m⟩:=s;simp only[Ce.cells,Ei,Sw,Bool.and_true,Ce.mk.injEq];by_cases n:a=g<;>by_cases o:b=h<;>by_cases q:c=j<;>by_cases t:d=k<;>by_cases u:e=l<;>by_cases v:f=m<;>simp[n,o,q,t,u,v]
def NO:flat Tryz.prog 10000 77=a9 [3,3,3,4,4,4]:=by kernel_rfl
def Nv:fj Tryz.prog 77=a9 true:=by kernel_rfl
def NP:Tryz.prog.eqGuardType Tryz.prog.depth 77=false:=by kernel_rfl
def jc(r:Ce):fits Tryz.prog [3,3,3,4,4,4] r.cells=true:=by
 have a:∀ n,Ed Tryz.prog 3 (jp kw n)=true:=fun n=>by kernel_rfl
 have b:∀ n,Ed Tryz.prog 4 (ls n)=true:=fun n=>by kernel_rfl
 simp only[Ce.cells,fits,a,b,zD8]
def Gv(H:aa)(J K:go)(a l2:List Ce)(L:dZ H J a)(M:dZ H K l2)(hl:a.length<1000000):Pure 31 [J,K] H (ls (f7 (a=l2))):=by
 obtain⟨b,Y⟩:=ac H.next;refine bA mixed Tryz.func31 rfl Tryz.ntmps31 (zA7 rfl) fun wf hsc=>?_;obtain⟨a1,Z,O⟩:=L.sl;obtain⟨a2,c2,e2⟩:=M.sl;rw[O,e2];simp only[zW,seval];rw[<-O,<-e2];refine da fun E v=>?_;have m:E 0=J:=by rw[v]; rfl
 have w:E 1=K:=by rw[v]; rfl
 have f:E 5=ls (f7 ((a.length:Int)=(l2.length:Int))):=by rw[v]; rfl
 have q:E 6=jp kw 0:=by rw[v]; rfl
 clear v
 have hfin:∀ s:Bool,(s=bv->a=l2)->(s=ci->a≠l2)->s=f7 (a=l2):=fun s L M=>by
  cases s
  .rw[decide_eq_false (M rfl)]
  .rw[decide_eq_true (L rfl)]
 refine aS (fun u A=>A=ext H []/\u 5=ls (f7 (a=l2))) ?_ ?_
 .refine cp (fun (k:Nat × Bool) u A=>A=ext H []/\u 0=J/\u 1=K/\u 5=ls k.2/\u 6=jp kw (k.1:Int)/\k.1<=a.length/\(k.2=bv->a.length=l2.length/\a.take k.1=l2.take k.1)/\(k.2=ci->a≠l2)) (fun k=>a.length-k.1) (0,f7 ((a.length:Int)=(l2.length:Int)))
   ⟨rfl,m,w,f,q,zB7 _,fun h=>⟨by have:=of_decide_eq_true h; omega,rfl⟩,fun h e=>by rw[e]at h; simp at h⟩ ?_
  clear m w f q;rintro⟨k,s⟩ E A ⟨R,m,w,f,q,hk,B,C⟩;simp only at f q hk B C;rw[R]
  cases s with
  |false =>simp only[f,zW,seval];refine ag ⟨rfl,?_⟩;simp only[f,aF,seval];rw[decide_eq_false (C rfl)]
  |true =>
   obtain⟨c,t⟩:=B rfl;by_cases D:k=a.length
   .have S:f7 ((k:Int)<(a.length:Int))=false:=by simp[D]
    rw[O]at m;simp only[m,f,q,S,zW,seval];refine ag ⟨rfl,?_⟩;simp only[f,aF,seval];have:a=l2:=by have e3:=t;rw[D,zH2,c,zH2]at e3;exact e3
    rw[decide_eq_true this]
   .have g:k<a.length:=by omega
    have S:f7 ((k:Int)<(a.length:Int))=true:=decide_eq_true lw
    rcases L with⟨h,_⟩|⟨_,n1,o1,s1,Z,t1,p1,L1,rfl,b1,F,T,U⟩
    .rw[h]at g; simp at g
    rcases M with⟨h,_⟩|⟨_,n2,o2,s2,c2,t2,p2,L2,rfl,b2,I,V,W⟩
    .rw[h]at c; simp at c; simp[c]at g
    obtain⟨X,j⟩:∃ r,a[k]?=a9 r:=⟨_,zB0 g⟩
    obtain⟨r2,l⟩:∃ r,l2[k]?=a9 r:=⟨_,zB0 lw⟩
    have i1:=eU (n:=n1) (off:=o1) (s:=s1) (cap:=Z) (i:=(k:Int)) rfl g;have i2:=eU (n:=n2) (off:=o2) (s:=s2) (cap:=c2) (i:=(k:Int)) (len:=l2.length) rfl lw;have q1:=gm (e:=t1) (o:=p1) j T U;have q2:=gm (e:=t2) (o:=p2) l V W;rw[Y]at F I;simp only[m,f,q,S,zW,seval];refine aQ [] [] m9 rfl rfl fun ops anc hA hG=>?_;simp only[m,w,q,Y,i1,i2,b1,b2,F,I,q1,q2,cm,Ce.val,bS,zW,seval];refine vI (ts:=[3,3,3,4,4,4]) (xs:=X.cells) (ys:=r2.cells) (r:=f7 (X=r2)) NO Nv NP (by rw[wF]; rfl) rfl rfl ol (by simp only[aF,seval]; rfl) rx (jc _) (jc _) ?_;simp only[q,ba (show k<1000000 by omega),bS,zW,seval];refine aG ⟨(k+1,f7 (X=r2)),by simp only; omega,rfl,?_,?_,?_,?_,by simp only; omega,fun h=>⟨c,?_⟩,fun h e=>?_⟩<;>try simp only[m,w,aF,seval]
    .have h:=of_decide_eq_true h;rw[zG4,zG4,j,l,t,h]
    .have h:=of_decide_eq_false h;rw[e]at j;rw[j]at l;exact h (Option.some.inj l)
 .rintro E A ⟨R,f⟩;rw[R];simp only[f,Tryz.results31,zW,seval];exact Fin.pure rfl
end Go.Proofs.YtpohjcacnkhnkaaGreatDoor
namespace Go.Ax
def SS{P:ip}{ro:Option Nat}{b:Bool}{x y:Code}{Q:Exit->ah->aa->Prop}{a:ah}{H:aa}:gL P ro (.cond (.const (ls b)) x y) Q a H=sj P ro x y Q a H (ls b):=by simp only[gL,sj,aO,af,if_true]
end Go.Ax
namespace Go.Proofs.YtpohjcacnkhnkaaGreatDoor
open Go.Ax
set_option maxRecDepth 100000
def WA:Go.Shelf.Ren:=⟨fun n=>if n=264 then 129 else 0,fun n=>if n=46 then 138 else if n=53 then 173 else n,fun n=>n⟩
def Vn:Go.Proofs.Lays.n264 Tryz.prog WA:=by
 constructor
 all_goals first
  |exact mixed
  |kernel_rfl
  |(intro w; kernel_rfl)
def TA(H:aa)(w:Nat)(k:w<1000000):Pure 129 [.int .u64 1,.int .u64 (w:Int)] H (.tuple #[.int .u64 0,.int .u64 (w:Int)]):=by
 intro ρ W r b F n R c f;have a:=Go.Proofs.Any.bits_Mul64 Vn 1 w lw lw W;have g:1*w / 18446744073709551616=0:=by omega
 have h:1*w % 18446744073709551616=w:=by omega
 rw[g,h]at a;have j:[Value.int .u64 1,Value.int .u64 (w:Int)].map ρ.val=[Value.int .u64 1,Value.int .u64 (w:Int)]:=vM ρ _ (fun x hx=>by simp only[zA8,zD7,or_false]at hx; rcases hx with rfl|rfl<;>rfl);rw[j];refine (c.calls a).mono ?_;rintro e w' ⟨rfl,rfl⟩;have:=f ρ w' (St.refl r) rfl;rwa [dM ρ _ rfl]at this
def VL(H:aa)(w:Nat)(a:w<1000000):Pure 92 [.int .u64 1,.int .u64 (w:Int)] H (.tuple #[.int .u64 0,.int .u64 (w:Int)]):=by refine bA mixed Tryz.func92 rfl Tryz.ntmps92 (zA7 rfl) fun wf b=>?_;simp only[SS,zW,seval];refine (TA (ext H []) w a).to ?_;simp only[Tryz.results92,zW,seval];exact Fin.cf rfl rfl
abbrev Ce.zero:Ce:=⟨0,0,0,ci,ci,ci⟩
abbrev Ce.blank:Ce:=⟨32,0,0,ci,ci,ci⟩
def Ru(n:Nat):bf Ce.zero.cells n=a8 (List.replicate n Ce.zero):=by
 induction n with
 |zero=>rfl
 |succ n a=>rw[bf,a,List.replicate_succ,cP]
def SA{X:aa}{w:Nat}(h:w<=1000):fS Tryz.prog X 56 (jp kw (w:Int)) (jp kw (w:Int))=(cJ X 77 (a8 (List.replicate w Ce.zero)) ci).map fun g=>(lm (a9 ⟨X.next,0,a9 0⟩) w w,g):=by rw[Q2 (e:=77) (sz:=6) (by1:=32) (z:=Ce.zero.val) m9 m9 m9 m9 rfl sm];rw[show Ce.zero.val.cells.toList=Ce.zero.cells from rfl,Ru]
def wrap_u64{n:Nat}(h:n<100000):IntKind.u64.wrap (n:Int)=n:=by simp only[IntKind.wrap,IntKind.signed,IntKind.bits];simp;omega
def wE(l:List Ce)(k:Nat):(a8 l).take (k*6)=a8 (l.take k):=by
 induction l generalizing k with
 |nil=>simp[a8]
 |cons c l a =>
  cases k with
  |zero=>simp[a8]
  |succ k=>rw[cP,List.take_succ_cons,cP,show (k+1)*6=c.cells.length+k*6 by simp[Ce.cells]; omega,List.take_append,zD4 lw,zG2,a]
def q5(l:List Ce)(k:Nat):(a8 l).drop (k*6)=a8 (l.drop k):=by
 induction l generalizing k with
 |nil=>simp[a8]
 |cons c l a =>
  cases k with
  |zero=>simp[a8]
  |succ k=>rw[cP,List.drop_succ_cons,show (k+1)*6=c.cells.length+k*6 by simp[Ce.cells]; omega,List.drop_append,zE9 lw,zB6,zG2,a]
def th(a new gO:List Ce)(h:new.length<=gO.length):dj (a8 (a++gO)) (a.length*6) (a8 new)=a8 (a++(new++gO.drop new.length)):=by have e:a.length*6=(a8 a).length:=(bx a).symm;rw[fb,e,pq _ _ _ (by rw[bx,bx]; omega),bx,q5,fb,fb]
def Vz{G:aa}{q off dl dc n off2 sl sc:Nat}{s2:Option Nat}{b g:Bl}(h:bk G q=a9 g)(a:q<G.next)(j:bk G n=a9 b){l:List Ce}(c:off2+zF9 sl dl*6<=b.l.length)(k:(b.l.drop off2).take (zF9 sl dl*6)=a8 l)(m:off+zF9 sl dl*6<=g.l.length)(f:l.length=zF9 sl dl) :
  aE Tryz.prog G .copy ⟨[56,56]⟩ [lm (a9 ⟨q,off,a9 0⟩) dl dc,lm (a9 ⟨n,off2,s2⟩) sl sc]=a9 (goInt (zF9 sl dl),uw G q off (a8 l)):=by
 rw[y7 (e:=77) (sz:=6) m9 m9 rfl j c,k];have:=ke (H:=G) (L:=[]) (vs:=a8 l) a h (by rw[bx,f]; exact m) (tS l) (kj l _);rw[ext_nil,ext_nil]at this;rw[this];rfl
def AR(w:Nat)(h1:1<=w)(hw:w<=1000)(c:Ce)(n:Nat)(s:Option Nat)(H:aa)(hn:bk H n=a9 ⟨77,ci,c.cells⟩) :
  bD Tryz.prog 61 [lm (a9 ⟨n,0,s⟩) 1 1,jp kw (w:Int)] H (.ok (lm (a9 ⟨H.next,0,a9 0⟩) w w)) (ext H [⟨77,ci,a8 (List.replicate w c)⟩]):=by
 refine j8 (fun wf hsc=>?_) (fun _ _=>kj _ _);obtain⟨b,A⟩:=ac H.next;have Y:H.base<=b:=A▸wf.base;have Z:n<b:=A▸wf.lt hn;have F:f7 ((w:Int)<0)=false:=decide_eq_false lw;have hcv:∀(X:aa)(k:IntKind)(m:Int),bB Tryz.prog X 3 138 (.int k m)=a9 (.int .u64 (IntKind.u64.wrap m),X):=fun X k m=>gF (u:=.int kw) m9 m9;have I:∀(X:aa)(k:IntKind)(m:Int),bB Tryz.prog X 138 3 (.int k m)=a9 (jp kw (IntKind.i64.wrap m),X):=fun X k m=>gF (u:=.int .u64) m9 m9;have u1:IntKind.u64.wrap ((1:Nat):Int)=1:=by decide
 have huw:IntKind.u64.wrap (w:Int)=w:=wrap_u64 lw;have iw:IntKind.i64.wrap (w:Int)=w:=aR lw lw;have z1:f7 ((0:Int)>0)=false:=by decide
 have z2:f7 ((w:Int)>9223372036854775807)=false:=decide_eq_false lw;refine aI mixed Tryz.func61 rfl Tryz.ntmps61 (zA7 rfl) ?_;simp only[F,bp,hcv,u1,huw,zW,Nat.reduceLT,Nat.reduceAdd,Nat.reduceEqDiff];refine (VL (ext H []) w lw).to ?_;simp only[bp,I,iw,z1,z2,SA (show w<=1000 by omega),kj,A,zW,Nat.reduceLT,Nat.reduceEqDiff];generalize hG:ext H [_]=G;have mG:Mod [] H G:=hG▸Mod.ext wf.base;have hGn:G.next=b+1:=by rw[<-hG,ai,A]; rfl
 have hq:bk G (b+0)=a9 ⟨77,ci,a8 (List.replicate w Ce.zero)⟩:=by rw[<-hG,aZ A nl]; rfl
 have hnG:=(mG.bk (A▸Z) nl).trans hn;have J:zF9 1 w=1:=zH0 h1;have L:=Vz (G:=G) (q:=b+0) (off:=0) (dl:=w) (dc:=w) (n:=n) (off2:=0) (sl:=1) (sc:=1) (s2:=s) (l:=[c]) hq lw hnG (by rw[J]; simp[Ce.cells]) (by rw[J]; rfl) (by rw[J,bx,zF1]; omega) (by rw[J]; rfl);rw[J]at L;simp only[L,zW,Nat.reduceLT];generalize hK:uw G (b+0) 0 _=K;have mK:Mod [b+0] G K:=hK▸Mod.uw nl;have hKn:K.next=b+1:=by rw[<-hK,cw,hGn]
 have hKq:bk K (b+0)=a9 ⟨77,ci,a8 (List.replicate 1 c++List.replicate (w-1) Ce.zero)⟩:=by rw[<-hK,bR,hq];have:=th [] [c] (List.replicate w Ce.zero) pp;simp only[zB6,zB4,zH1,zA9,List.drop_replicate]at this;show a9 (Bl.mk 77 ci (dj (a8 (List.replicate w Ce.zero)) 0 (a8 [c])))=_;rw[this];rfl
 have mHK:Mod [] H K:=mG.step mK wf.base (fun k g=>.inr (by simp only[zA5]at g; omega));refine da fun E hE=>?_;have a:E 7=lm (a9 ⟨b+0,0,a9 0⟩) w w:=by rw[hE]; rfl
 have o:E 8=jp kw ((1:Nat):Int):=by rw[hE]; rfl
 clear hE;refine aS (fun V B=>Mod [] H B/\bk B (b+0)=a9 ⟨77,ci,a8 (List.replicate w c)⟩/\V 7=lm (a9 ⟨b+0,0,a9 0⟩) w w) ?_ ?_
 .refine cp (fun (m:Nat) V B=>Mod [] H B/\b+0<B.next/\1<=m/\m<=w/\bk B (b+0)=a9 ⟨77,ci,a8 (List.replicate m c++List.replicate (w-m) Ce.zero)⟩/\V 7=lm (a9 ⟨b+0,0,a9 0⟩) w w/\V 8=jp kw (m:Int)) (fun m=>w-m) 1
   ⟨mHK,by omega,zA4 _,h1,hKq,a,o⟩ ?_
  clear a o;rintro m E X ⟨M,lX,hm1,O,f,a,o⟩;rw[show X=ext X [] from rfl];by_cases R:m=w
  .have hc:f7 ((m:Int)<(w:Int))=false:=by simp[R]
   simp only[a,o,hc,zW,Nat.reduceLT,Nat.reduceEqDiff];refine ag ⟨M,?_,?_⟩
   .rw[ext_nil,f,R,zG8]; simp
   .exact a
  .have hlt:m<w:=by omega
   have hc:f7 ((m:Int)<(w:Int))=true:=decide_eq_true lw;have okX:=M.ok wf.base;simp only[a,o,hc,zW,Nat.reduceLT,Nat.reduceEqDiff];refine aQ [(7,3),(7,6),(9,7)] [] m9 m9 rfl fun ops anc hA hG2=>?_;simp only[aw]at hA;simp only[a,o,bS,aF,Nat.reduceLT,Nat.reduceAdd,Nat.reduceEqDiff];have hbm:bound 0 (a9 (jp kw (m:Int)))=a9 m:=by simp[bound]
   have S:bound w (a9 (jp kw (m:Int)))=a9 m:=by simp[bound]
   rw[gi];refine Gb (v:=lm (a9 ⟨b+0,0+m*6,a9 0⟩) (w-m) (w-m)) rfl ol (fun G=>vH (by simp only[aF,Nat.reduceLT]) (by simp (maxDischargeDepth:=6) only[aF,Nat.reduceLT,mI]) rfl rfl ?_) (by simp (maxDischargeDepth:=6) only[bS]) ?_
   .simp only[ec,dY,aF,Nat.reduceEqDiff];exact yW (e:=77) (sz:=6) m9 m9 hbm rfl (zA4 _) O hlt
   simp only[a,o,bS,zW,Nat.reduceLT,Nat.reduceAdd,Nat.reduceEqDiff];rw[gi];refine Gb (v:=lm (a9 ⟨b+0,0+0*6,a9 0⟩) (m-0) (w-0)) rfl ol (fun G=>vH (by simp only[aF,Nat.reduceLT]) rfl (by simp (maxDischargeDepth:=6) only[aF,Nat.reduceLT,mI]) rfl ?_) (by simp (maxDischargeDepth:=6) only[bS,Nat.reduceAdd,Nat.reduceMul]) ?_
   .simp only[ec,dY,aF,Nat.reduceAdd,Nat.reduceMul,Nat.reduceEqDiff];exact yW (e:=77) (sz:=6) m9 m9 rfl S O (zB7 _) lw
   simp only[zW,Nat.reduceLT,Nat.reduceAdd,Nat.reduceMul];rw[S6 rfl];have hrn:=aK X [b+0];have t:bk (X.restrict [b+0]) (b+0)=a9 ⟨77,ci,a8 (List.replicate m c++List.replicate (w-m) Ce.zero)⟩:=(bg (by rw[aU,if_pos nl])).trans f;obtain⟨j,C⟩:=ac (zF9 m (w-m));have hjm:j<=m/\j<=w-m/\0<j:=by rw[<-C]; exact⟨Nat.min_le_left _ _,Nat.min_le_right _ _,Nat.lt_min.2 ⟨by omega,by omega⟩⟩
   have T:(a8 (List.replicate m c++List.replicate (w-m) Ce.zero)).length=w*6:=by rw[bx]; simp; omega
   have r:=Vz (G:=X.restrict [b+0]) (q:=b+0) (off:=0+m*6) (dl:=w-m) (dc:=w-m) (n:=b+0) (off2:=0+0*6) (sl:=m-0) (sc:=w-0) (s2:=a9 0) (l:=List.replicate j c) t (by rw[hrn.1]; exact lX) t
    (by rw[Nat.sub_zero,C,T]; omega) (by rw[Nat.sub_zero,C,zH1,zC2,zD0,wE,List.take_append,List.take_replicate,zF1,show j-m=0 by omega,zH0 hjm.1]; simp) (by rw[Nat.sub_zero,C,T]; omega) (by rw[Nat.sub_zero,C,zF1])
   rw[Nat.sub_zero,C]at r
   refine lU (W:=[b+0]) [b+0] okX (fun k g=>by simp only[zA5]at g; subst g; exact fa f) (fun k g=>by simp only[zA5]at g; subst g; exact lX) (fun _ h=>h)
    (sZ (v:=goInt j) rfl (by simp only[aF,Nat.reduceEqDiff]; rw[Nat.sub_zero]; exact r)) (Mod.uw nl) (by simp only[aw,cG,hA,true_or,and_true]) ?_
   intro H1 D U hF1 _ _ _;have hw8:IntKind.i64.wrap ((m:Int)+(j:Int))=((m+j:Nat):Int):=by have:=aR (n:=(m:Int)+(j:Int)) lw lw;rw[show IntKind.i64.wrap ((m:Int)+(j:Int))=_ from this]; omega
   rw[show H1=ext H1 [] from rfl];simp only[goInt,hw8,bS,zW,Nat.reduceLT,Nat.reduceAdd,Nat.reduceEqDiff];have hq1:bk H1 (b+0)=a9 ⟨77,ci,a8 (List.replicate (m+j) c++List.replicate (w-(m+j)) Ce.zero)⟩:=by rw[bg (hF1 (b+0) nl),bR,show bk ((ext X []).restrict [b+0]) (b+0)=_ from t];have:=th (List.replicate m c) (List.replicate j c) (List.replicate (w-m) Ce.zero) pp;rw[zF1,zF1,List.drop_replicate]at this;show a9 (Bl.mk 77 ci (dj (a8 _) (0+m*6) (a8 (List.replicate j c))))=_;rw[zC2,this,<-zC8,List.replicate_append_replicate,show w-m-j=w-(m+j) by omega]
   refine aG ⟨m+j,by omega,(M.step U wf.base (fun k g=>.inr (by simp only[zA5]at g; omega))),U.lt lX,by omega,by omega,hq1,?_,?_⟩<;>simp only[a,aF,Nat.reduceEqDiff]
 .clear a o;rintro E X ⟨M,f,a⟩;rw[show X=ext X [] from rfl];simp only[a,Tryz.results61,zW,Nat.reduceLT];exact⟨b+0,rfl,by omega,f,M⟩
end Go.Proofs.YtpohjcacnkhnkaaGreatDoor
namespace Go.Proofs.YtpohjcacnkhnkaaGreatDoor.Tq
open Go.Ax
def Qt(w:Nat):Go.Proofs.YtpohjcacnkhnkaaGreatDoor.a8 (List.replicate w Go.Proofs.YtpohjcacnkhnkaaGreatDoor.Ce.blank)=a8 (List.replicate w sp):=by
 induction w with
 |zero=>rfl
 |succ w a=>rw[List.replicate_succ,List.replicate_succ,Go.Proofs.YtpohjcacnkhnkaaGreatDoor.cP,a,cP]; rfl
def GR(w:Nat)(e:1<=w)(g:w<=300)(H:aa):bD Tryz.prog 26 [jp kw (w:Int)] H (.ok (lm (a9 ⟨H.next,0,a9 0⟩) w w)) (ext H [⟨77,ci,a8 (List.replicate w sp)⟩]):=by refine j8 (fun wf f=>?_) (fun _ _=>kj _ _);obtain⟨b,a⟩:=ac H.next;refine aI mixed Tryz.func26 rfl Tryz.ntmps26 (zA7 rfl) ?_;simp only[a,zW,seval];have c:=Go.Proofs.YtpohjcacnkhnkaaGreatDoor.AR w e lw Go.Proofs.YtpohjcacnkhnkaaGreatDoor.Ce.blank (b+0) (a9 0) (ext H [⟨77,ci,[jp kw 32,jp kw 0,jp kw 0,ls ci,ls ci,ls ci]⟩]) (by rw[aZ a nl]; rfl);rw[Qt]at c;refine c.to ?_;simp only[a,zA9,zB4,Tryz.results26,zW,seval];exact⟨_,rfl,by omega,by rw[aZ a nl]; rfl,Mod.ext wf.base⟩
section
variable{P:ip}{H:aa}
def sH{t e:io}{sz n off len cap:Nat}{lo hi:Option go}{l h:Nat}{b:Bl}(f:P.underlying t=a9 (.slice e))(a:br P e=a9 sz)(g:bound 0 lo=a9 l)(j:bound len hi=a9 h)(k:h<=cap)(m:l<=h)(q:l<cap)(r:bk H n=a9 b)(s:b.o=bv) :
  bX P H t (lm (a9 ⟨n,off,bi⟩) len cap) lo hi bi=a9 (lm (a9 ⟨n,off+l*sz,bi⟩) (h-l) (cap-l),H):=by
 simp only[bX,f,a,et,g,j,zA1,zA3,cX,jx r,s,zB2,zD1];rw[if_pos ⟨k,m⟩];by_cases c:l=0
 .subst c;simp
 .rw[if_neg c,if_pos q]
def DP{t e:io}{sz n off len cap:Nat}{lo hi:Option go}{l h:Nat}{b:Bl}(c:P.underlying t=a9 (.slice e))(a:br P e=a9 sz)(f:bound 0 lo=a9 l)(g:bound len hi=a9 h)(q:h=cap)(r:l=cap)(s:0<cap)(j:bk H n=a9 b)(k:b.o=bv)(m:sz≠0:=by decide) :
  bX P H t (lm (a9 ⟨n,off,bi⟩) len cap) lo hi bi=a9 (lm (a9 ⟨n,off+l*sz,a9 (off+1)⟩) 0 0,H):=by
 simp only[bX,c,a,et,f,g,zA1,zA3,cX,jx j,k,zB2,zD1];rw[if_pos ⟨by omega,by omega⟩,if_neg lw,if_neg lw,if_neg m]
def Uk{dt st e:io}{sz m off k n off2 sl sc:Nat}{s2:Option Nat}{b:Bl}(f:P.underlying dt=a9 (.slice e))(a:br P e=a9 sz)(g:bk H n=a9 b)(h:off2<=b.l.length) :
  aE P H .copy ⟨[dt,st]⟩ [lm (a9 ⟨m,off,a9 (k+1)⟩) 0 0,lm (a9 ⟨n,off2,s2⟩) sl sc]=a9 (goInt 0,H):=by
 have c:zF9 sl 0=0:=Nat.min_eq_right (zB7 _);have j:=fF (sz:=sz) (cnt:=0) (off:=off2) (len:=sl) (cap:=sc) (s:=s2) g lw;simp only[aE,CW,f,a,zA1,zA3,jD,c,j];rw[if_neg nl]
end
def dW{d k:Nat}:bound d (a9 (jp kw (k:Int)))=a9 k:=by simp[bound]
def uO(w:Nat)(l:List (Nat × Bool)):(l.map (bE w)).all one=true:=by rw[zC3];intro v a;obtain⟨q,_,rfl⟩:=zC1.1 a;rfl
def Tc{X:aa}{a top n m h w:Nat}{A S Z:List (Nat × Bool)}(B:a<X.next)(j:bk X a=a9 ⟨56,bv,(A++S++Z).map (bE w)⟩)(I:A.length=top)(u:S.length=m)(W:h=top+m+Z.length)(K:n<=m)(M:1<=n)(C:∀ q∈A++S++Z,q.1<X.next) :
  ∃ J Y,bX Tryz.prog X 39 (lm (a9 ⟨a,top,bi⟩) m (h-top)) (a9 (jp kw (n:Int))) bi bi=a9 (J,X)/\aE Tryz.prog X .copy ⟨[39,39]⟩ [lm (a9 ⟨a,top,bi⟩) m (h-top),J]=a9 (goInt ((m-n:Nat)),Y)/\Mod [a] X Y/\Y.next=X.next/\bk Y a=a9 ⟨56,bv,(A++S.drop n++S.drop (m-n)++Z).map (bE w)⟩:=by
 have D:Tryz.prog.underlying 39=a9 (.slice 56):=by kernel_rfl
 have f:br Tryz.prog 56=a9 1:=by kernel_rfl
 have g:∃ s2 sc,bX Tryz.prog X 39 (lm (a9 ⟨a,top,bi⟩) m (h-top)) (a9 (jp kw (n:Int))) bi bi=a9 (lm (a9 ⟨a,top+n*1,s2⟩) (m-n) sc,X):=by
  by_cases O:n<h-top
  .exact⟨bi,_,sH D f dW rfl lw K O j rfl⟩
  .have e:m-n=0:=by omega
   rw[e];exact⟨a9 (top+1),0,DP D f dW rfl lw lw lw j rfl⟩
 obtain⟨s2,sc,g⟩:=g;have b:((A++S++Z).map (bE w)).length=top+m+Z.length:=by simp[I,u]; omega
 have c:zF9 (m-n) m=m-n:=zH0 lw;have k:=y7 (P:=Tryz.prog) (H:=X) (dt:=39) (st:=39) (e:=56) (sz:=1) (m:=a) (off:=top) (dl:=m) (dc:=h-top) (n:=a) (off2:=top+n*1) (sl:=m-n) (sc:=sc) (s:=bi) (s2:=s2) D f rfl j (by rw[c,b]; omega);have F:(((A++S++Z).map (bE w)).drop (top+n*1)).take ((m-n)*1)=(S.drop n).map (bE w):=by rw[zF0,zF0,<-List.map_drop,<-List.map_take,zC8,List.drop_append,zE9 lw,zB6,show top+n-A.length=n by omega,List.drop_append,List.take_append,zD4 pp];simp[u]
 have o:((S.drop n).map (bE w)).all one=true:=uO w _;have r:aT (X.next+0) ((S.drop n).map (bE w))=true:=by rw[zD5];refine ck.2 fun v R=>?_;obtain⟨q,T,rfl⟩:=zC1.1 R;exact bd (C q (by simp[zE4 T]))
 have t:=ke (H:=X) (L:=[]) (n:=a) (off:=top) (vs:=(S.drop n).map (bE w)) B j (by rw[b]; simp; omega) o r;rw[ext_nil,ext_nil]at t;rw[c,F,t]at k;refine⟨_,_,g,k,Mod.uw nl,by rw[cw],?_⟩;rw[bR,j];refine congrArg (fun l=>a9 (Bl.mk 56 bv l)) ?_;have e:((A++S++Z).map (bE w))=A.map (bE w)++(S++Z).map (bE w):=by simp
 show dj ((A++S++Z).map (bE w)) top _=_;have U:top=(A.map (bE w)).length:=by simp[I]
 rw[e,U,pq _ _ _ (by simp[u]; omega)];have V:((S++Z).map (bE w)).drop ((S.drop n).map (bE w)).length=(S.drop (m-n)++Z).map (bE w):=by rw[<-List.map_drop,zE1,zC6,u,List.drop_append,show m-n-S.length=0 by omega,zD0]
 rw[V];simp
def NA{X:aa}{a top n m h w:Nat}{A S Z:List (Nat × Bool)}(F:a<X.next)(j:bk X a=a9 ⟨56,bv,(A++S++Z).map (bE w)⟩)(K:A.length=top)(r:S.length=m)(hh:h=top+m+Z.length)(O:n<=m)(R:1<=n)(I:∀ q∈A++S++Z,q.1<X.next) :
  ∃ M Y,bX Tryz.prog X 39 (lm (a9 ⟨a,top,bi⟩) m (h-top)) (a9 (jp kw (n:Int))) bi bi=a9 (M,X)/\(∃ k,aE Tryz.prog X .copy ⟨[39,39]⟩ [M,lm (a9 ⟨a,top,bi⟩) m (h-top)]=a9 (k,Y))/\Mod [a] X Y/\Y.next=X.next/\bk Y a=a9 ⟨56,bv,(A++S.take n++S.take (m-n)++Z).map (bE w)⟩:=by
 have D:Tryz.prog.underlying 39=a9 (.slice 56):=by kernel_rfl
 have c:br Tryz.prog 56=a9 1:=by kernel_rfl
 have b:((A++S++Z).map (bE w)).length=top+m+Z.length:=by simp[K,r]; omega
 by_cases T:n<h-top
 .have o:=sH (P:=Tryz.prog) (H:=X) (t:=39) (e:=56) (sz:=1) (n:=a) (off:=top) (len:=m) (cap:=h-top) (lo:=a9 (jp kw (n:Int))) (hi:=bi) (l:=n) (h:=m) D c dW rfl lw O T j rfl;have g:zF9 m (m-n)=m-n:=Nat.min_eq_right lw;have f:=y7 (P:=Tryz.prog) (H:=X) (dt:=39) (st:=39) (e:=56) (sz:=1) (m:=a) (off:=top+n*1) (dl:=m-n) (dc:=h-top-n) (n:=a) (off2:=top) (sl:=m) (sc:=h-top) (s:=bi) (s2:=bi) D c rfl j (by rw[g,b]; omega);have J:(((A++S++Z).map (bE w)).drop top).take ((m-n)*1)=(S.take (m-n)).map (bE w):=by rw[zF0,<-List.map_drop,<-List.map_take,zC8,List.drop_append,zE9 lw,zB6,show top-A.length=0 by omega,zD0,List.take_append,show m-n-S.length=0 by omega,List.take_zero,zC7]
  have u:((S.take (m-n)).map (bE w)).all one=true:=uO w _;have B:aT (X.next+0) ((S.take (m-n)).map (bE w))=true:=by rw[zD5];refine ck.2 fun v U=>?_;obtain⟨q,V,rfl⟩:=zC1.1 U;exact bd (I q (by simp[zE2 V]))
  have C:=ke (H:=X) (L:=[]) (n:=a) (off:=top+n*1) (vs:=(S.take (m-n)).map (bE w)) F j (by rw[b]; simp; omega) u B;rw[ext_nil,ext_nil]at C;rw[g,J,C]at f;refine⟨_,_,o,⟨_,f⟩,Mod.uw nl,by rw[cw],?_⟩;rw[bR,j];refine congrArg (fun l=>a9 (Bl.mk 56 bv l)) ?_;have e:((A++S++Z).map (bE w))=(A++S.take n).map (bE w)++(S.drop n++Z).map (bE w):=by rw[<-List.map_append,zC8,zC8];congr 2;rw[<-zC8,zG9]
  show dj ((A++S++Z).map (bE w)) (top+n*1) _=_;have W:top+n*1=((A++S.take n).map (bE w)).length:=by simp[K,r]; omega
  rw[e,W,pq _ _ _ (by simp[r])];have e3:((S.drop n++Z).map (bE w)).drop ((S.take (m-n)).map (bE w)).length=Z.map (bE w):=by rw[<-List.map_drop,zE1,zD9,r,zH0 lw,List.drop_append,zE9 (by simp[r]),zB6,show m-n-(S.drop n).length=0 by simp[r],zD0]
  rw[e3];simp
 .have e:m-n=0:=by omega
  have o:=DP (P:=Tryz.prog) (H:=X) (t:=39) (e:=56) (sz:=1) (n:=a) (off:=top) (len:=m) (cap:=h-top) (lo:=a9 (jp kw (n:Int))) (hi:=bi) (l:=n) (h:=m) D c dW rfl lw lw lw j rfl;have f:=Uk (P:=Tryz.prog) (H:=X) (dt:=39) (st:=39) (e:=56) (sz:=1) (m:=a) (off:=top+n*1) (k:=top) (n:=a) (off2:=top) (sl:=m) (sc:=h-top) (s2:=bi) D c j (by rw[b]; omega);refine⟨_,_,o,⟨_,f⟩,Mod.refl,rfl,?_⟩;rw[j,e,zD4 (show S.length<=n by omega)];simp
def Ts(H:aa)(p:Rp)(x:Tm)(c:List (Nat × Bool))(e:bk H p.t=a9 ⟨66,ci,bh p x⟩)(j:bk H p.rb=a9 ⟨56,bv,c.map (bE x.w)⟩)(hx:1<=x.h)(l:c≠[]):Pure 71 [li (a9 ⟨p.t,0,bi⟩)] H (jp kw (x.w:Int)):=by
 obtain⟨b,f⟩:=ac H.next;have m:=e;simp only[bh]at e;obtain⟨q,o⟩:∃ q,c[0]?=a9 q:=by cases c with|nil=>exact absurd rfl l|cons a r=>exact⟨a,rfl⟩
 have g:(c.map (bE x.w))[0]?=a9 (bE x.w q):=by rw[zG0,o]; rfl
 have hi:=uF (len:=x.h) (cap:=x.h) (n:=p.rb) (s:=bi) (i:=0) (k:=0) rfl hx;refine bA mixed Tryz.func71 rfl Tryz.ntmps71 (zA7 rfl) fun wf u=>?_;have v:p.t<b:=f▸wf.lt m;have A:p.rb<b:=f▸wf.lt j;simp only[f,v,A,e,j,hi,g,bE,Tryz.results71,zW,seval];exact Fin.pure rfl
def Fa{α β:Type}{l:List α}{m:List β}{z:α × β}:z∈l.zip m ↔ ∃ i:Nat,l[i]?=a9 z.1/\m[i]?=a9 z.2:=by
 rw[List.mem_iff_getElem?];constructor
 .rintro⟨i,hi⟩;refine⟨i,?_⟩;rw[List.getElem?_zip_eq_some]at hi;exact hi
 .rintro⟨i,a,b⟩;exact⟨i,List.getElem?_zip_eq_some.2 ⟨a,b⟩⟩
def cx.V9{H Y:aa}{p:Rp}{x:Tm}(g:cx H p x)(m:Mod [p.rb] H Y)(rs:List (Nat × Bool))(gr:List (List Ce))(K:bk Y p.rb=a9 ⟨56,bv,rs.map (bE x.w)⟩)(O:rs.length=x.h)(B:gr.length=x.h)
  (C:∀ z∈rs.zip gr,z∈p.rs.zip x.aj\/(H.next<=z.1.1/\bk Y z.1.1=a9 ⟨77,z.1.2,a8 z.2⟩)) (R:(rs.map (·.1)).Nodup) (D:∀ q∈rs,q∈p.rs\/(H.next<=q.1/\q.1<Y.next)) (X:Tm.w {x with aj:=gr}=x.w) :
  Step H p Y {p with rs:=rs} {x with aj:=gr}:=by
 have u:=g.nd;simp only[Rp.aM]at u;have L:=zD6.1 u;have F:=zD6.1 L.2;have k:∀ n∈p.aM,n<H.next:=g.lt;have f:∀ n,n<H.next->n≠p.rb->Y.get n=H.get n:=fun n hn cn=>m.get n hn (by simp only[zA5]; exact cn);have I:∀ q∈p.rs,q.1∈p.aM/\q.1≠p.rb:=fun q A=>by have M:q.1∈p.rs.map (·.1):=zC1.2 ⟨q,A,rfl⟩;exact⟨by simp only[Rp.aM,zA8,zB1]; exact .inr (.inr (.inl (.inl M))),fun e=>F.1 (e▸(by simp only[zB1]; exact .inl (.inl M)))⟩
 have c:∀ n,n∈ae p.rv++ae p.pv->n∈p.aM/\n≠p.rb/\n≠p.t/\n∉p.rs.map (·.1):=fun n hn=>by
  have J:=F.2;rw[zC8]at J;refine⟨?_,fun e=>F.1 (e▸?_),fun e=>L.1 (e▸?_),fun e=>(zE6.1 J).2.2 n e n hn rfl⟩<;>simp only[Rp.aM,zA8,zB1]at hn ⊢
  .rcases hn with h|h
   .exact .inr (.inr (.inl (.inr h)))
   .exact .inr (.inr (.inr h))
  .rcases hn with h|h
   .exact .inl (.inr h)
   .exact .inr h
  .rcases hn with h|h
   .exact .inr (.inl (.inr h))
   .exact .inr (.inr h)
 have o:p.t∈p.aM/\p.t≠p.rb:=⟨by simp[Rp.aM],fun e=>L.1 (by rw[e]; simp)⟩
 have S:p.t∉p.rs.map (·.1):=fun h=>L.1 (by simp only[zA8,zB1]; exact .inr (.inl (.inl h)));have T:p.rb∉p.rs.map (·.1):=fun h=>F.1 (by simp only[zB1]; exact .inl (.inl h));have r:p.rb∈p.aM:=by simp[Rp.aM]
 have s:∀ n,n∈p.aM->n∉p.rs.map (·.1)->n∉rs.map (·.1):=fun n hn U M=>by
  obtain⟨q,A,rfl⟩:=zC1.1 M
  rcases D q A with h|⟨h,_⟩
  .exact U (zC1.2 ⟨q,h,rfl⟩)
  .have:=k _ hn; omega
 have v:∀ n∈({p with rs:=rs}:Rp).aM,n∈p.aM\/(H.next<=n/\n<Y.next):=by
  intro n hn;simp only[Rp.aM,zA8,zB1,zC1]at hn;rcases hn with rfl|rfl|(⟨q,A,rfl⟩|hn)|hn
  .exact .inl o.1
  .exact .inl r
  .rcases D q A with h|h
   .exact .inl (I q h).1
   .exact .inr h
  .exact .inl (c n (by simp[hn])).1
  .exact .inl (c n (by simp[hn])).1
 refine⟨⟨?_,?_,?_,?_,?_,?_,?_,fun n hn=>?_⟩,m.mono (by intro n hn; simp only[zA5]at hn; subst hn; exact r),rfl,fun n hn=>(v n hn).imp id (fun h=>h.1)⟩
 .rw[bg (f _ (k _ o.1) o.2),g.cell];have:Tm.h {x with aj:=gr}=x.h:=B;simp only[bh,this]
 .rw[X]; exact K
 .exact O.trans B.symm
 .intro i q l A Z
  rcases C (q,l) (Fa.2 ⟨i,A,Z⟩) with h|⟨_,h⟩
  .obtain⟨j,V,W⟩:=Fa.1 h;simp only at V W;obtain⟨h3,h4⟩:=I q (zC5 V);rw[bg (f _ (k _ h3) h4)];exact g.row j q l V W
  .exact h
 .exact g.rest.of fun n hn=>f n (k n (c n (by simp[hn])).1) (c n (by simp[hn])).2.1
 .exact g.par.of fun n hn=>f n (k n (c n (by simp[hn])).1) (c n (by simp[hn])).2.1
 .have J:=F.2;rw[zC8]at J;have n4:=zE6.1 J;simp only[Rp.aM];refine zD6.2 ⟨?_,zD6.2 ⟨?_,?_⟩⟩
  .simp only[zA8,zB1,not_or];refine⟨o.2,⟨s _ o.1 S,fun h=>(c p.t py).2.2.1 rfl⟩,fun h=>(c p.t py).2.2.1 rfl⟩
  .simp only[zB1,not_or];refine⟨⟨s _ r T,fun h=>(c p.rb py).2.1 rfl⟩,fun h=>(c p.rb py).2.1 rfl⟩
  .rw[zC8];exact zE6.2 ⟨R,n4.2.1,fun a ha b K e=>s b (c b K).1 (c b K).2.2.2 (e▸ha)⟩
 .rcases v n hn with h|h
  .exact m.lt (k n h)
  .exact h.2
def N4{α:Type}{A N Z:List α}(h:(A++Z).Nodup)(k:N.Nodup)(j:∀ a∈N,a∉A++Z):(A++N++Z).Nodup:=by
 have f:=zE6.1 h;refine zE6.2 ⟨zE6.2 ⟨f.1,k,fun a g b c e=>j b c (by simp[<-e,g])⟩,f.2.1,fun a g b c e=>?_⟩;rcases zB1.1 g with h'|h'
 .exact f.2.2 a h' b c e
 .exact j a h' (by simp[e,c])
def QE{len cap n off:Nat}{s:Option Nat}{i:Int}{k:Nat}(hi:i=k)(a:k<len):aW Tryz.prog 39 (lm (a9 ⟨n,off,s⟩) len cap) (jp kw i)=a9 (li (a9 ⟨n,off+k,bi⟩)):=by subst hi;rw[gk (e:=56) (sz:=1) m9 m9 lw lw];simp
abbrev fm(w:Nat):List Ce:=List.replicate w sp
def cT{α:Type}(l:List α)(top m k:Nat)(up:Bool):List α:=l.take top++cond up (((l.drop top).take m).drop k) []
def eE{α:Type}(l:List α)(top m k:Nat)(up:Bool):List α:=cond up [] (((l.drop top).take m).take (m-k))++l.drop (top+m)
def lT{α:Type}(l:List α){top m k:Nat}(up:Bool)(h:top+m<=l.length)(a:k<=m):(cT l top m k up).length=top+cond up (m-k) 0:=by cases up<;>simp[cT]<;>omega
def vg{α:Type}(l:List α){top m k:Nat}(up:Bool)(h:top+m<=l.length)(a:k<=m):(eE l top m k up).length=cond up 0 (m-k)+(l.length-(top+m)):=by cases up<;>simp[eE]<;>omega
def zX{α:Type}(l:List α)(top m:Nat):l=l.take top++(l.drop top).take m++l.drop (top+m):=by rw[zC8,<-zH3,zG9,zG9]
def tN{α:Type}(l:List α)(top m k:Nat)(up:Bool):(cT l top m k up++eE l top m k up).Sublist l:=by
 have h:=zX l top m;conv=>rhs; rw[h]
 cases up
 .simp only[cT,eE,cond_false,zC7];rw[<-zC8];exact ((List.Sublist.refl _).append (List.take_sublist _ _)).append (List.Sublist.refl _)
 .simp only[cT,eE,cond_true,zB6];exact ((List.Sublist.refl _).append (List.drop_sublist _ _)).append (List.Sublist.refl _)
def Ia{α β:Type}(l:List α)(g:List β)(n:Nat):(l.zip g).take n=(l.take n).zip (g.take n):=by simp only[List.zip,List.take_zipWith]
def Ja{α β:Type}(l:List α)(g:List β)(n:Nat):(l.zip g).drop n=(l.drop n).zip (g.drop n):=by simp only[List.zip,List.drop_zipWith]
def NQ{α β:Type}(l:List α)(g:List β)(top m k:Nat)(up:Bool)(h:l.length=g.length):(cT l top m k up).zip (cT g top m k up)=cT (l.zip g) top m k up:=by
 cases up
 .simp[cT,Ia]
 .simp only[cT,cond_true];rw[List.zip_append py];simp[Ia,Ja]
def Mw{α β:Type}(l:List α)(g:List β)(top m k:Nat)(up:Bool)(h:l.length=g.length):(eE l top m k up).zip (eE g top m k up)=eE (l.zip g) top m k up:=by
 cases up
 .simp only[eE,cond_false];rw[List.zip_append py];simp[Ia,Ja]
 .simp[eE,Ja]
def zI(w:Nat)(g:List (List Ce))(top bot n:Nat)(up:Bool):jw w g top bot n up=cT g top (bot+1-top) (min n (bot+1-top)) up++List.replicate (min n (bot+1-top)) (fm w)++eE g top (bot+1-top) (min n (bot+1-top)) up:=by cases up<;>simp[jw,cT,eE]
theorem Fc(x:Tm)(top bot n:Nat)(up:Bool):x.fA top bot n up={x with aj:=jw x.w x.aj top bot n up}:=rfl
def H9(H:aa)(p:Rp)(x:Tm)(top bot n:Nat)(up:Bool)(g:cx H p x)(s:x.Sz)(ok:H.base<=H.next)(htb:top<=bot)(hbh:bot<x.h)(hn1:1<=n)(hn2:n<=10000) :
  iK 82 [jp kw (top:Int),jp kw (bot:Int),jp kw (n:Int),ls up] H p (.tuple #[]) (x.fA top bot n up):=by
 obtain⟨b,hb⟩:=ac (H.next);have hT:p.t<b:=hb▸g.lt p.t pi;have hR:p.rb<H.next:=g.lt p.rb pi;have h1:=g.cell;simp only[bh]at h1;have s1:=s.h2;have s2:=s.w2;have s3:=s.w1;obtain⟨m,hm⟩:=ac (bot+1-top);obtain⟨k,hk⟩:=ac (min n m);have u:k<=m:=by omega
 have hk1:1<=k:=by omega
 have htm:top+m<=x.h:=by omega
 have hrl:=g.len;have hwb:IntKind.i64.wrap ((bot:Int)+1)=((bot+1:Nat):Int):=ba lw;have hmin:min (n:Int) (m:Int)=(k:Int):=by omega
 have hwk:IntKind.i64.wrap ((m:Int)-(k:Int))=((m-k:Nat):Int):=by have:=aR (n:=(m:Int)-(k:Int)) lw lw;rw[show IntKind.i64.wrap ((m:Int)-(k:Int))=_ from this]; omega
 have hrs:=zX p.rs top m;have C:=g.rows;rw[hrs]at C;have hA:(p.rs.take top).length=top:=by simp; omega
 have hS:((p.rs.drop top).take m).length=m:=by simp; omega
 have hZ:x.h=top+m+(p.rs.drop (top+m)).length:=by simp; omega
 have hsc:∀ q∈p.rs.take top++(p.rs.drop top).take m++p.rs.drop (top+m),q.1<H.next:=by rw[<-hrs];intro q hq;exact g.lt q.1 (by simp only[Rp.aM,zA8,zB1,zC1]; exact .inr (.inr (.inl (.inl ⟨q,hq,rfl⟩))))
 have hu:Tryz.prog.underlying 39=a9 (.slice 56):=by kernel_rfl
 have S:br Tryz.prog 56=a9 1:=by kernel_rfl
 have hsl0:bX Tryz.prog (ext H []) 39 (lm (a9 ⟨p.rb,0,bi⟩) x.h x.h) (a9 (jp kw (top:Int))) (a9 (jp kw ((bot+1:Nat):Int))) bi=a9 (lm (a9 ⟨p.rb,top,bi⟩) m (x.h-top),ext H []):=by have:=sH (P:=Tryz.prog) (H:=H) (n:=p.rb) (off:=0) (len:=x.h) (cap:=x.h) hu S (dW (d:=0) (k:=top)) (dW (d:=x.h) (k:=bot+1)) lw lw lw C rfl;rw[hm,zC2,zF0]at this;exact this
 refine aI mixed Tryz.func82 rfl Tryz.ntmps82 (zA7 rfl) ?_;refine lg (fun f J=>J=H/\f 0=li (a9 ⟨p.t,0,bi⟩)/\f 3=jp kw (n:Int)/\f 4=ls up/\f 10=lm (a9 ⟨p.rb,top,bi⟩) m (x.h-top)) ?_ ?_
 .simp (maxDischargeDepth:=6) only[hb,hT,h1,hwb,hsl0,zW,seval];refine ag ⟨rfl,?_,?_,?_,?_⟩<;>simp only[aF,seval]
 rintro E X ⟨rfl,T,g3,g4,j⟩;refine lg (fun f J=>J=X/\f 0=li (a9 ⟨p.t,0,bi⟩)/\f 3=jp kw (k:Int)/\f 4=ls up/\f 10=lm (a9 ⟨p.rb,top,bi⟩) m (x.h-top)) ?_ ?_
 .simp (maxDischargeDepth:=6) only[g3,j,hmin,zW,seval];refine ag ⟨rfl,?_,?_,?_,?_⟩<;>simp only[T,g4,j,aF,seval]
 clear T g3 g4 j E;rintro E Y ⟨rfl,T,g3,g4,j⟩;refine lg (fun f J=>∃ D c,Mod [p.rb] Y J/\J.next=Y.next/\List.length D=k/\bk J p.rb=a9 ⟨56,bv,(cT p.rs top m k up++D++eE p.rs top m k up).map (bE x.w)⟩/\f 0=li (a9 ⟨p.t,0,bi⟩)/\f 10=lm (a9 ⟨p.rb,(cT p.rs top m k up).length,bi⟩) k c) ?_ ?_
 .rw[lT p.rs up lw u]
  cases up with
  |true =>
   obtain⟨sv,V,e1,e2,e3,e4,e5⟩:=Tc (X:=Y) (n:=k) (h:=x.h) hR C hA hS hZ u hk1 hsc;rw[show Y=ext Y [] from rfl]at e1;rw[show V=ext V [] from rfl,show aE Tryz.prog Y=aE Tryz.prog (ext Y []) from rfl]at e2;have e6:=sH (P:=Tryz.prog) (H:=V) (n:=p.rb) (off:=top) (len:=m) (cap:=x.h-top) (hi:=bi) hu S (dW (d:=0) (k:=m-k)) rfl lw lw lw e5 rfl;rw[show V=ext V [] from rfl]at e6;rw[show Y=ext Y [] from rfl];simp (maxDischargeDepth:=6) only[g3,g4,j,e1,e2,e6,hwk,zW,seval];refine ag ⟨((p.rs.drop top).take m).drop (m-k),x.h-top-(m-k),e3,e4,by simp; omega,?_,?_,?_⟩
   .rw[ext_nil,e5]; simp[cT,eE]
   .simp only[T,aF,seval]
   .simp only[aF];rw[show m-(m-k)=k by omega,zF0];rfl
  |false =>
   obtain⟨sv,V,e1,⟨kv,e2⟩,e3,e4,e5⟩:=NA (X:=Y) (n:=k) (h:=x.h) hR C hA hS hZ u hk1 hsc;rw[show Y=ext Y [] from rfl]at e1;rw[show V=ext V [] from rfl,show aE Tryz.prog Y=aE Tryz.prog (ext Y []) from rfl]at e2;have e6:=sH (P:=Tryz.prog) (H:=V) (n:=p.rb) (off:=top) (len:=m) (cap:=x.h-top) (lo:=bi) hu S rfl (dW (d:=m) (k:=k)) lw lw lw e5 rfl;rw[show V=ext V [] from rfl]at e6;rw[show Y=ext Y [] from rfl];simp (maxDischargeDepth:=6) only[g3,g4,j,e1,e2,e6,zW,seval];refine ag ⟨((p.rs.drop top).take m).take k,x.h-top-0,e3,e4,by simp; omega,?_,?_,?_⟩
   .rw[ext_nil,e5]; simp[cT,eE]
   .simp only[T,aF,seval]
   .simp only[aF];rfl
 clear T g3 g4 j E;rintro E X ⟨D,c,U,nX,hD,B,T,j⟩;have hRA:(cT p.rs top m k up).length+k+(eE p.rs top m k up).length=x.h:=by rw[lT p.rs up lw u,vg p.rs up lw u];cases up<;>simp<;>omega
 have hgl:x.aj.length=x.h:=rfl;have htne:p.t≠p.rb:=fun e=>(zD6.1 g.nd).1 (by rw[e]; simp);rw[show X=ext X [] from rfl];simp (maxDischargeDepth:=6) only[j,zW,seval];refine da fun f hE=>?_;have f0:f 0=li (a9 ⟨p.t,0,bi⟩):=by rw[hE]; simp only[T,aF,seval]
 have M:f 10=lm (a9 ⟨p.rb,(cT p.rs top m k up).length,bi⟩) k c:=by rw[hE]; simp only[j,aF,seval]
 have F:f 45=jp kw (k:Int):=by rw[hE]; simp only[aF,seval]
 have I:f 46=jp kw ((0:Nat):Int):=by rw[hE]; (simp only[aF]<;>rfl)
 clear hE T j E
 refine cp (fun (N:List (Nat × Bool)) f J=>Mod [p.rb] Y J/\N.length<=k/\bk J p.rb=a9 ⟨56,bv,(cT p.rs top m k up++N++D.drop N.length++eE p.rs top m k up).map (bE x.w)⟩/\(∀ q∈N,Y.next<=q.1/\q.1<J.next/\bk J q.1=a9 ⟨77,q.2,a8 (fm x.w)⟩)/\(N.map (·.1)).Nodup/\f 0=li (a9 ⟨p.t,0,bi⟩)/\f 10=lm (a9 ⟨p.rb,(cT p.rs top m k up).length,bi⟩) k c/\f 45=jp kw (k:Int)/\f 46=jp kw (N.length:Int)) (fun N=>k-N.length) []
  ⟨U,zB7 _,by rw[ext_nil]; simpa using B,by simp,by simp,f0,M,F,I⟩ ?_
 clear f0 M F I U nX B X f;rintro N E X ⟨U,hN,B,hq,hnd,f0,M,F,I⟩;rw[show X=ext X [] from rfl];by_cases hNk:N.length=k
 .have hd:f7 ((N.length:Int)<(k:Int))=false:=decide_eq_false lw;simp (maxDischargeDepth:=6) only[F,I,hd,Tryz.results82,zW,seval];rw[show D.drop N.length=[] from zE9 lw,zC7]at B;refine⟨trivial,{p with rs:=cT p.rs top m k up++N++eE p.rs top m k up},?_⟩;have hG:=zI x.w x.aj top bot n up;rw[hm,hk]at hG;rw[Fc,hG];have hrN:(List.replicate k (fm x.w)).length=N.length:=by simp[hNk]
  have hlA:(cT p.rs top m k up).length=(cT x.aj top m k up).length:=by rw[lT p.rs up lw u,lT x.aj up lw u]
  have hzip:(cT p.rs top m k up++N++eE p.rs top m k up).zip (cT x.aj top m k up++List.replicate k (fm x.w)++eE x.aj top m k up)=cT (p.rs.zip x.aj) top m k up++N.zip (List.replicate k (fm x.w))++eE (p.rs.zip x.aj) top m k up:=by rw[List.zip_append (by simp only[zB3]; omega),List.zip_append hlA,NQ _ _ _ _ _ _ lw,Mw _ _ _ _ _ _ lw]
  have hsub:=tN (p.rs.zip x.aj) top m k up;have A:=tN p.rs top m k up;have hndr:(p.rs.map (·.1)).Nodup:=by have hnd0:=g.nd;simp only[Rp.aM]at hnd0;exact (zE6.1 (zE6.1 (zD6.1 (zD6.1 hnd0).2).2).1).1
  have hold:∀ q∈p.rs,q.1<Y.next:=fun q o=>g.lt q.1 (by simp only[Rp.aM,zA8,zB1,zC1]; exact .inr (.inr (.inl (.inl ⟨q,o,rfl⟩))));refine g.V9 (Y:=ext X []) U (cT p.rs top m k up++N++eE p.rs top m k up) _ B ?_ ?_ ?_ ?_ ?_ ?_
  .simp only[zB3]; omega
  .simp only[zB3,zF1];rw[lT x.aj up lw u,vg x.aj up lw u];cases up<;>simp<;>omega
  .intro z hz;rw[hzip]at hz;simp only[zB1]at hz;rcases hz with (hz|hz)|hz
   .exact .inl (hsub.mem (by simp[hz]))
   .have h2:=Fa.1 hz;obtain⟨i,h3,h4⟩:=h2;have h5:=hq z.1 (zC5 h3);have h6:z.2=fm x.w:=by have:=zC5 h4;exact zH6 this
    exact .inr ⟨h5.1,by rw[h6]; exact h5.2.2⟩
   .exact .inl (hsub.mem (by simp[hz]))
  .rw[List.map_append,List.map_append];refine N4 ?_ hnd ?_
   .rw[<-List.map_append];exact (A.map _).nodup hndr
   .intro a ha W;obtain⟨q,o,rfl⟩:=zC1.1 ha;rw[<-List.map_append]at W;obtain⟨q2,hq2,e⟩:=zC1.1 W;have h7:=hold q2 (A.mem hq2);have h8:=(hq q o).1;omega
  .intro q o;simp only[zB1]at o;rcases o with (h|h)|h
   .exact .inl (A.mem py)
   .exact .inr ⟨(hq q h).1,(hq q h).2.1⟩
   .exact .inl (A.mem py)
  .have cn:0<(cT x.aj top m k up++List.replicate k (fm x.w)++eE x.aj top m k up).length:=by simp; omega
   have hall:∀ l∈cT x.aj top m k up++List.replicate k (fm x.w)++eE x.aj top m k up,l.length=x.w:=by
    have O:=tN x.aj top m k up;intro l hl;simp only[zB1]at hl;rcases hl with (h|h)|h
    .exact s.ws l (O.mem py)
    .rw[zH6 h]; simp
    .exact s.ws l (O.mem py)
   show ((cT x.aj top m k up++List.replicate k (fm x.w)++eE x.aj top m k up).headD []).length=x.w;generalize cT x.aj top m k up++List.replicate k (fm x.w)++eE x.aj top m k up=L at cn hall
   cases L with
   |nil=>simp at cn
   |cons a r=>exact hall a nl
 .have hlt:N.length<k:=by omega
  have hd:f7 ((N.length:Int)<(k:Int))=true:=decide_eq_true lw;have okX:=U.ok ok;obtain⟨K,Z⟩:=ac (X.next);have hxb:X.base<=K:=Z▸okX;have hRx:p.rb<K:=Z▸U.lt hR;have h1X:bk X p.t=a9 ⟨66,ci,bh p x⟩:=(U.bk (g.lt p.t pi) (by simp only[zA5]; exact htne)).trans g.cell;have hw:=Ts X p x _ h1X B s.h1 (by intro e; have:=congrArg List.length e; simp only[zB3,zC6,zB4]at this; omega)
  obtain⟨d,hdd⟩:∃ d,D.drop N.length=d::D.drop (N.length+1):=⟨_,zH4 lw⟩
  have hia:=QE (len:=k) (cap:=c) (n:=p.rb) (off:=(cT p.rs top m k up).length) (s:=bi) (i:=(N.length:Int)) (k:=N.length) rfl hlt
  have hput:dj ((cT p.rs top m k up++N++D.drop N.length++eE p.rs top m k up).map (bE x.w)) ((cT p.rs top m k up).length+N.length) [lm (a9 ⟨K+0,0,a9 0⟩) x.w x.w]=(cT p.rs top m k up++(N++[(K+0,ci)])++D.drop (N++[(K+0,ci)]).length++eE p.rs top m k up).map (bE x.w):=by
   have e1:(cT p.rs top m k up++N++D.drop N.length++eE p.rs top m k up).map (bE x.w)=(cT p.rs top m k up++N).map (bE x.w)++(bE x.w d::(D.drop (N.length+1)++eE p.rs top m k up).map (bE x.w)):=by rw[hdd]; simp
   have e2:(cT p.rs top m k up).length+N.length=((cT p.rs top m k up++N).map (bE x.w)).length:=by simp
   rw[e1,e2,pq _ _ _ nl];simp[bE]
  have hst:∀ v,v=lm (a9 ⟨K+0,0,a9 0⟩) x.w x.w->Cc Tryz.prog 56 (K+1) ((cT p.rs top m k up).length+N.length) v (a9 ⟨56,bv,(cT p.rs top m k up++N++D.drop N.length++eE p.rs top m k up).map (bE x.w)⟩)=a9 ⟨56,bv,dj ((cT p.rs top m k up++N++D.drop N.length++eE p.rs top m k up).map (bE x.w)) ((cT p.rs top m k up).length+N.length) [v]⟩:=by rintro v rfl;exact oG (v:=lm (a9 ⟨K+0,0,a9 0⟩) x.w x.w) (by exact S) (by simp only[zE1,zB3,zC6,zA9,zB4,Value.cells]; omega) rfl (by simp only[Value.cells,aT,aV,Bool.and_true]; exact bd lw)
  have hws:=ba (show N.length<1000000 by omega);simp (maxDischargeDepth:=6) only[f0,M,F,I,hd,zW,seval];refine (show bD Tryz.prog 71 _ (ext X []) _ _ from hw).to ?_;simp (maxDischargeDepth:=6) only[zW,seval];refine (GR x.w s3 s2 (ext X [])).to ?_;simp (maxDischargeDepth:=6) only[I,Z,hRx,B,hia,hst _ rfl,hws,zW,seval];have mU:Mod [p.rb] X (uw X p.rb ((cT p.rs top m k up).length+N.length) [lm (a9 ⟨K+0,0,a9 0⟩) x.w x.w]):=Mod.uw nl;have R:(uw X p.rb ((cT p.rs top m k up).length+N.length) [lm (a9 ⟨K+0,0,a9 0⟩) x.w x.w]).next=K:=by rw[cw,Z]
  refine aG ⟨N++[(K+0,ci)],by simp only[zB3,zA9,zB4]; omega,(U.trans mU).trans (Mod.ext (mU.ok okX)),by simp only[zB3,zA9,zB4]; omega,?_,?_,?_,?_,?_,?_,?_⟩
  .rw[kf (by rw[R]; exact hRx),bR,B,zB2,yo,hput]
  .intro q o;rcases zB1.1 o with h|h
   .obtain⟨q1,q2,q3⟩:=hq q h;refine⟨q1,by rw[ai,R]; omega,?_⟩;rw[kf (by rw[R]; omega),pU (by have:=hR; omega)];exact q3
   .simp only[zA5]at h;subst h;refine⟨by have:=U.next; omega,by rw[ai,R]; simp,?_⟩;rw[aZ R nl];rfl
  .rw[List.map_append];refine zE6.2 ⟨hnd,by simp,fun a ha b' W e=>?_⟩;obtain⟨q,o,rfl⟩:=zC1.1 ha;simp only[zB8,zE7,zA5]at W;have:=(hq q o).2.1;omega
  .simp only[f0,aF,seval]
  .simp only[M,aF,seval]
  .simp only[F,aF,seval]
  .simp only[aF,seval,zB3,zA9,zB4]
def iM{a b:Int}{d:Bool}(h:f7 (a=b)=d):a=b ↔ d=true:=by rw[<-h,decide_eq_true_iff]
theorem nJ(x:Tm):x.width=(x.w:Int):=rfl
theorem qT(x:Tm):x.cd=(x.h:Int):=rfl
def Tm.Sz.cg{x:Tm}(s:x.Sz)(l:List Int):(x.cg l).Sz/\(x.cg l).h=x.h/\(x.cg l).w=x.w/\(x.cg l).row=x.row:=by
 obtain⟨r,b⟩:∃ r:Nat,x.row=r:=⟨x.row.toNat,by have:=s.r1; omega⟩
 have hi:=jv s
 obtain⟨i,c⟩:∃ i:Nat,x.inside=i:=⟨x.inside.toNat,by omega⟩
 have a:r<x.h:=by have:=s.r2; omega
 unfold Tm.cg;rw[nJ];split
 .rw[b,c];exact⟨s.blank a lw lw,(iE s a lw lw).1,(iE s a lw lw).2,b⟩
 .split
  .rw[b,c,show ((i:Nat):Int)+1=((i+1:Nat):Int) from by omega,show (0:Int)=((0:Nat):Int) from rfl];exact⟨s.blank a lw lw,(iE s a lw lw).1,(iE s a lw lw).2,b⟩
  .split
   .rw[b,show (0:Int)=((0:Nat):Int) from rfl];exact⟨s.blank a lw lw,(iE s a lw lw).1,(iE s a lw lw).2,b⟩
   .exact⟨s,rfl,rfl,rfl⟩
def Ba(H:aa)(p:Rp)(x:Tm)(v:go)(l:List Int)(g:cx H p x)(s:x.Sz)(ok:H.base<=H.next)(O:ma H v l):iK 146 [v] H p (.tuple #[]) (x.cg l):=by
 obtain⟨b,e⟩:=ac H.next;have R:p.t<b:=e▸g.lt p.t pi;have L:=g.cell;simp only[bh]at L;have s2:=s.w2
 obtain⟨r,M⟩:∃ r:Nat,x.row=r:=⟨x.row.toNat,by have:=s.r1; omega⟩
 have hi:=jv s
 obtain⟨i,F⟩:∃ i:Nat,x.inside=i:=⟨x.inside.toNat,by omega⟩
 have A:r<x.h:=by have:=s.r2; omega
 obtain⟨a,Z,rfl⟩:∃ a r,l=a::r:=by cases l with|nil=>exact absurd rfl O.ne|cons a r=>exact⟨a,r,rfl⟩
 obtain⟨n,off,f,S,cn,m⟩:=O.at_.get (k:=0) (c:=a) rfl;rw[show ((0:Nat):Int)=0 from rfl]at f
 obtain⟨T,gQ⟩:∃ d,f7 (a=0)=d:=⟨_,rfl⟩
 obtain⟨U,o⟩:∃ d,f7 (a=1)=d:=⟨_,rfl⟩
 obtain⟨V,B⟩:∃ d,f7 (a=2)=d:=⟨_,rfl⟩
 have e0:=iM gQ;have e1:=iM o;have e2:=iM B;have W:IntKind.i64.wrap (x.inside+1)=((i+1:Nat):Int):=by have:=aR (n:=x.inside+1) lw lw;rw[show IntKind.i64.wrap (x.inside+1)=_ from this]; omega
 have q:n<b:=e▸O.lt n S;have X:x.cg (a::Z)=cond T (x.blank r i x.w) (cond U (x.blank r (0:Nat) (i+1:Nat)) (cond V (x.blank r (0:Nat) x.w) x)):=by unfold Tm.cg;simp only[List.headD_cons,e0,e1,e2,M,F,nJ];cases T<;>cases U<;>cases V<;>rfl
 rw[X];have I:∀ K,cx K p x->Pure 34 [li (a9 ⟨p.t,0,bi⟩)] K (jp kw x.inside):=fun K gK=>qs K p x gK s;refine aI mixed Tryz.func146 rfl Tryz.ntmps146 (zA7 rfl) ?_
 cases T with
 |true =>
  simp only[e,f,q,m,gQ,cond_true,zW,seval];refine aQ [(10,5),(10,7),(10,9)] [] m9 m9 rfl fun ops anc u Y=>?_;simp only[aw]at u;simp only[e,R,L,bS,zW,seval];refine bI (v:=jp kw x.inside) p.aM (by simp only[aF,seval]) m9 ol g.ne (fun K C D=>?_) (by simp (maxDischargeDepth:=6) only[bS]) ?_
  .simp only[aF];exact I K (g.of (by rw[C]; exact zA4 _) D)
  simp only[e,bS,zW,seval];refine bI (v:=jp kw (x.w:Int)) p.aM (by simp only[aF,seval]) m9 ol g.ne (fun K C D=>?_) (by simp (maxDischargeDepth:=6) only[bS]) ?_
  .simp only[aF];exact ja K p x (g.of (by rw[C]; exact zA4 _) D) s
  simp only[e,bS,gV,seval];refine eJ (as':=[jp kw x.row,jp kw x.inside,jp kw (x.w:Int)]) g ok rfl m9 ol rfl (by simp only[aw,cG,u,true_or,and_true]) (fun G J j=>by rw[M,F]; exact uu J s j A lw (zA4 _)) fun H1 p1 st=>?_;rw[show H1=ext H1 [] from rfl];simp only[Tryz.results146,bS,gV];exact⟨p1,st⟩
 |false =>
  cases U with
  |true =>
   simp only[e,f,q,m,gQ,o,cond_true,cond_false,zW,seval];refine aQ [(9,5),(9,7)] [] m9 m9 rfl fun ops anc u Y=>?_;simp only[aw]at u;simp only[e,R,L,bS,zW,seval];refine bI (v:=jp kw x.inside) p.aM (by simp only[aF,seval]) m9 ol g.ne (fun K C D=>?_) (by simp (maxDischargeDepth:=6) only[bS]) ?_
   .simp only[aF];exact I K (g.of (by rw[C]; exact zA4 _) D)
   simp only[e,W,bS,zW,seval];refine eJ (as':=[jp kw x.row,jp kw ((0:Nat):Int),jp kw ((i+1:Nat):Int)]) g ok rfl m9 ol (by simp only[aF,seval]<;>rfl) (by simp only[aw,cG,u,true_or,and_true]) (fun G J j=>by rw[M]; exact uu J s j A lw lw) fun H1 p1 st=>?_;rw[show H1=ext H1 [] from rfl];simp only[Tryz.results146,bS,gV];exact⟨p1,st⟩
  |false =>
   cases V with
   |true =>
    simp only[e,f,q,m,gQ,o,B,cond_true,cond_false,zW,seval];refine aQ [(8,5),(8,7)] [] m9 m9 rfl fun ops anc u Y=>?_;simp only[aw]at u;simp only[e,R,L,bS,zW,seval];refine bI (v:=jp kw (x.w:Int)) p.aM (by simp only[aF,seval]) m9 ol g.ne (fun K C D=>?_) (by simp (maxDischargeDepth:=6) only[bS]) ?_
    .simp only[aF];exact ja K p x (g.of (by rw[C]; exact zA4 _) D) s
    simp only[e,bS,gV,seval];refine eJ (as':=[jp kw x.row,jp kw ((0:Nat):Int),jp kw (x.w:Int)]) g ok rfl m9 ol (by simp only[aF,seval]<;>rfl) (by simp only[aw,cG,u,true_or,and_true]) (fun G J j=>by rw[M]; exact uu J s j A lw (zA4 _)) fun H1 p1 st=>?_;rw[show H1=ext H1 [] from rfl];simp only[Tryz.results146,bS,gV];exact⟨p1,st⟩
   |false =>simp only[e,f,q,m,gQ,o,B,cond_false,Tryz.results146,zW,seval];exact⟨trivial,p,Step.refl g⟩
def Tm.cR(l:List Int)(i:Nat)(t:Tm):Tm :=
 if (i<t.row/\(l.headD 0=1\/l.headD 0=2))\/(i>t.row/\(l.headD 0=0\/l.headD 0=2)) then t.blank i (0:Nat) t.w else t
theorem ij(l:List Int)(i k:Nat)(t:Tm):Tm.c9 l i (k+1) t=Tm.c9 l (i+1) k (t.cR l i):=rfl
def Tm.Sz.cR{x:Tm}(s:x.Sz)(l:List Int){i:Nat}(hi:i<x.h):(x.cR l i).Sz/\(x.cR l i).h=x.h/\(x.cR l i).w=x.w/\(x.cR l i).row=x.row:=by
 unfold Tm.cR;split
 .exact⟨s.blank hi (zB7 _) (zA4 _),(iE s hi (zB7 _) (zA4 _)).1,(iE s hi (zB7 _) (zA4 _)).2,rfl⟩
 .exact⟨s,rfl,rfl,rfl⟩
def Tm.Sz.c9(l:List Int):∀(k i:Nat){x:Tm},x.Sz->i+k<=x.h->(Tm.c9 l i k x).Sz
 |0,_,_,s,_=>s
 |k+1,i,x,s,h=>by rw[ij];obtain⟨a,b,_,_⟩:=s.cR l (i:=i) lw;exact Tm.Sz.c9 l k (i+1) a lw
def Tm.Sz.ig{x:Tm}(s:x.Sz)(l:List Int):(x.ig l).Sz:=by obtain⟨a,b,_,_⟩:=s.cg l;exact Tm.Sz.c9 l _ _ a (by rw[b]; simp[Tm.h])
def JA(H:aa)(p:Rp)(x:Tm)(v:go)(l:List Int)(g:cx H p x)(s:x.Sz)(ok:H.base<=H.next)(O:ma H v l)(hv:∀ n∈ae v,n∉p.aM):iK 145 [v] H p (.tuple #[]) (x.ig l):=by
 have s1:=s.h2;obtain⟨a,m,rfl⟩:∃ a r,l=a::r:=by cases l with|nil=>exact absurd rfl O.ne|cons a r=>exact⟨a,r,rfl⟩
 obtain⟨n,off,C,D,cn,hld⟩:=O.at_.get (k:=0) (c:=a) rfl;rw[show ((0:Nat):Int)=0 from rfl]at C
 obtain⟨d0,gQ⟩:∃ d,f7 (a=0)=d:=⟨_,rfl⟩
 obtain⟨d1,F⟩:∃ d,f7 (a=1)=d:=⟨_,rfl⟩
 obtain⟨d2,I⟩:∃ d,f7 (a=2)=d:=⟨_,rfl⟩
 have e0:=iM gQ;have e1:=iM F;have e2:=iM I;obtain⟨sA,hA,wA,rA⟩:=s.cg (a::m);refine aI mixed Tryz.func145 rfl Tryz.ntmps145 (zA7 rfl) ?_;simp only[zW,seval];refine (Ba (ext H []) p x v (a::m) g s ok O).mono ?_;rintro _ H1 ⟨rfl,p1,st⟩;rw[ext_nil]at st;rw[show H1=ext H1 [] from rfl];have R:p.t<H1.next:=st.same▸st.at_.lt p1.t pi;have u:=st.at_.cell;rw[st.same]at u;simp only[bh,hA]at u;simp only[R,u,zW,seval];refine da fun E S=>?_;have J:E 0=li (a9 ⟨p.t,0,bi⟩):=by rw[S]; rfl
 have K:E 1=v:=by rw[S]; rfl
 have e:E 12=jp kw (x.h:Int):=by rw[S]; rfl
 have f:E 13=jp kw ((0:Nat):Int):=by rw[S]; rfl
 clear S u R
 refine cp (fun (q:Nat × Tm × Rp) V H'=>Step H p H' q.2.2 q.2.1/\q.2.1.Sz/\q.2.1.h=x.h/\q.2.1.w=x.w/\q.2.1.row=x.row/\q.1<=x.h/\Tm.c9 (a::m) q.1 (x.h-q.1) q.2.1=x.ig (a::m)/\V 0=li (a9 ⟨p.t,0,bi⟩)/\V 1=v/\V 12=jp kw (x.h:Int)/\V 13=jp kw (q.1:Int)) (fun q=>x.h-q.1) (0,x.cg (a::m),p1)
  ⟨st,sA,hA,wA,rA,zB7 _,rfl,J,K,e,f⟩ ?_
 clear J K e f st sA hA wA rA p1 H1 E;rintro⟨i,y,p1⟩ E X ⟨st,W,hy,wy,ry,hi,j,J,K,e,f⟩;simp only at st W hy wy ry hi j f;have okX:=st.ok ok;rw[show X=ext X [] from rfl];by_cases hih:i=x.h
 .have Z:f7 ((i:Int)<(x.h:Int))=false:=decide_eq_false lw;simp only[e,f,Z,Tryz.results145,zW,seval];rw[hih,zG8]at j;rw[<-j];exact⟨trivial,p1,st⟩
 .have Z:f7 ((i:Int)<(x.h:Int))=true:=decide_eq_true lw;have hilt:i<x.h:=by omega
  obtain⟨b,hb⟩:=ac X.next;have hT:p.t<b:=hb▸st.same▸st.at_.lt p1.t pi;have T:n<b:=hb▸zE0 (O.lt n D) st.mod.next;have A:∀ q,rL Tryz.prog 3 off (HY (bk X n) q)=a9 (jp kw a):=fun q=>by rw[st.mod.bk (O.lt n D) (hv n D)]; exact hld q
  have u:=st.at_.cell;rw[st.same]at u;simp only[bh]at u
  obtain⟨dl,L⟩:∃ d,f7 ((i:Int)<y.row)=d:=⟨_,rfl⟩
  obtain⟨dg,M⟩:∃ d,f7 (y.row<(i:Int))=d:=⟨_,rfl⟩
  have el:(i:Int)<y.row ↔ dl=true:=by rw[<-L,decide_eq_true_iff]
  have eg:y.row<(i:Int) ↔ dg=true:=by rw[<-M,decide_eq_true_iff]
  have B:y.cR (a::m) i=cond ((dl&&(d1||d2))||(dg&&(d0||d2))) (y.blank i (0:Nat) y.w) y:=by unfold Tm.cR;simp only[List.headD_cons,gt_iff_lt,el,eg,e0,e1,e2];cases dl<;>cases dg<;>cases d0<;>cases d1<;>cases d2<;>rfl
  obtain⟨sO,hO,wO,rO⟩:=W.cR (a::m) (i:=i) lw;have o:Tm.c9 (a::m) (i+1) (x.h-(i+1)) (y.cR (a::m) i)=x.ig (a::m):=by rw[<-j,show x.h-i=(x.h-(i+1))+1 by omega,ij]
  have hW:bD Tryz.prog 71 [li (a9 ⟨p.t,0,bi⟩)] (ext X []) (.ok (jp kw (y.w:Int))) (ext X []):=by rw[<-st.same]; exact ja X p1 y st.at_ W
  have hB:bF Tryz.prog 137 [li (a9 ⟨p.t,0,bi⟩),jp kw (i:Int),jp kw 0,jp kw (y.w:Int)] (ext X []) (fun out H1=>out=.ok (.tuple #[])/\∃ p2,Step X p1 H1 p2 (y.blank i (0:Nat) y.w)):=by rw[<-st.same]; exact uu st.at_ W okX lw (zB7 _) (zA4 _)
  have U:=ba (show i<1000000 by omega)
  cases dl<;>cases dg<;>cases d0<;>cases d1<;>cases d2<;>first
   |(exfalso; first|(have q1:=el.2 rfl; have q2:=eg.2 rfl; omega)|(have q1:=e0.2 rfl; have q2:=e1.2 rfl; omega)|(have q1:=e0.2 rfl; have q2:=e2.2 rfl; omega)|(have q1:=e1.2 rfl; have q2:=e2.2 rfl; omega))
   | (simp only [J, K, e, f, Z, U, hb, hT, u, C, T, A, L, M, gQ, F, I, zW, seval]
      refine aG ⟨(i+1,y.cR (a::m) i,p1),by simp only; omega,by rw[B]; exact st,sO,hO.trans hy,wO.trans wy,rO.trans ry,by simp only; omega,o,?_,?_,?_,?_⟩<;>simp only[J,K,e,aF,seval])
   | (simp only [J, K, e, f, Z, hb, hT, u, C, T, A, L, M, gQ, F, I, zW, seval]
      refine hW.to ?_;simp only[zW,seval];refine hB.mono ?_;rintro _ Y ⟨rfl,p2,st2⟩;rw[show Y=ext Y [] from rfl];simp only[f,U,zW,seval]
      refine aG ⟨(i+1,y.cR (a::m) i,p2),by simp only; omega,by rw[B]; exact st.trans ok st2,sO,hO.trans hy,wO.trans wy,rO.trans ry,by simp only; omega,o,?_,?_,?_,?_⟩<;>simp only[J,K,e,aF,seval])
def LG{x:Tm}(s:x.Sz){top bot n:Nat}(up:Bool)(g:top<=bot)(m:bot<x.h):(x.fA top bot n up).h=x.h/\(x.fA top bot n up).w=x.w/\(∀ l∈(x.fA top bot n up).aj,l.length=x.w/\(l.getD 0 sp).rune≠-1):=by
 have j:x.aj.length=x.h:=rfl
 have b:∀ l∈(x.fA top bot n up).aj,l.length=x.w/\(l.getD 0 sp).rune≠-1:=by
  have e:=tN x.aj top (bot+1-top) (min n (bot+1-top)) up;rw[Fc,zI];intro l f;simp only[zB1]at f;rcases f with (h|h)|h
  .have:=e.mem (a:=l) py; exact⟨s.ws l this,s.hd l this⟩
  .rw[zH6 h];refine⟨by simp,?_⟩;have:=s.w1
   obtain⟨w,k⟩:∃ w,x.w=w+1:=⟨x.w-1,by omega⟩
   rw[k];simp[List.replicate_succ,tW]
  .have:=e.mem (a:=l) py; exact⟨s.ws l this,s.hd l this⟩
 have c:(x.fA top bot n up).aj.length=x.h:=by rw[Fc,zI];simp only[zB3,zF1];rw[lT x.aj up lw lw,vg x.aj up lw lw];cases up<;>simp<;>omega
 refine⟨c,?_,b⟩;have g:=s.h1;show ((x.fA top bot n up).aj.headD []).length=x.w;generalize (x.fA top bot n up).aj=L at b c
 cases L with
 |nil=>simp at c; omega
 |cons a r=>exact (b a nl).1
def Tm.Sz.fA{x:Tm}(s:x.Sz){top bot n:Nat}(up:Bool)(f:top<=bot)(g:bot<x.h):(x.fA top bot n up).Sz:=by obtain⟨a,b,e⟩:=LG (n:=n) s up f g;exact⟨by rw[a]; exact s.h1,by rw[a]; exact s.h2,by rw[b]; exact s.w1,by rw[b]; exact s.w2,fun r c=>by rw[b]; exact (e r c).1,s.r1,by rw[a]; exact s.r2,s.c1,by rw[b]; exact s.c2,s.sr1,by rw[a]; exact s.sr2,s.sc1,by rw[b]; exact s.sc2,s.t1,s.t2,by rw[a]; exact s.t3,s.md,fun r c=>(e r c).2⟩
def Tm.Sz.lines{x:Tm}(s:x.Sz)(n:Nat)(up:Bool):(x.lines n up).Sz:=by
 unfold Tm.lines;split
 .rename_i h
  obtain⟨r,a⟩:∃ r:Nat,x.row=r:=⟨x.row.toNat,by have:=s.r1; omega⟩
  obtain⟨b,c⟩:∃ b:Nat,x.bottom=b:=⟨x.bottom.toNat,by have:=s.t1; have:=s.t2; omega⟩
  rw[a,c];have:=s.t3;exact s.fA up lw lw
 .exact s
def J7(H:aa)(p:Rp)(x:Tm)(n:Nat)(up:Bool)(g:cx H p x)(s:x.Sz)(ok:H.base<=H.next)(o:1<=n)(q:n<=10000):iK 160 [jp kw (n:Int),ls up] H p (.tuple #[]) (x.lines n up):=by
 obtain⟨b,e⟩:=ac H.next;have k:p.t<b:=e▸g.lt p.t pi;have f:=g.cell;simp only[bh]at f
 obtain⟨r,A⟩:∃ r:Nat,x.row=r:=⟨x.row.toNat,by have:=s.r1; omega⟩
 obtain⟨B,h⟩:∃ b:Nat,x.bottom=b:=⟨x.bottom.toNat,by have:=s.t1; have:=s.t2; omega⟩
 obtain⟨l,a⟩:∃ d,f7 (x.top<=x.row)=d:=⟨_,rfl⟩
 obtain⟨m,c⟩:∃ d,f7 (x.row<=x.bottom)=d:=⟨_,rfl⟩
 have D:x.row ≥ x.top ↔ l=true:=by rw[<-a,decide_eq_true_iff]
 have C:x.row<=x.bottom ↔ m=true:=by rw[<-c,decide_eq_true_iff]
 have u:x.lines n up=cond (l&&m) (x.fA r B n up) x:=by unfold Tm.lines;simp only[D,C];rw[A,h];cases l<;>cases m<;>rfl
 rw[u];refine aI mixed Tryz.func160 rfl Tryz.ntmps160 (zA7 rfl) ?_;simp only[zW,seval];refine aQ [] [(10,16)] m9 rfl m9 fun ops anc v j=>?_;simp only[aw]at j
 cases l with
 |false =>simp only[e,k,f,a,j,Bool.false_and,cond_false,Tryz.results160,bS,zW,seval];exact⟨p,Step.refl g⟩
 |true =>
  cases m with
  |false =>simp only[e,k,f,a,c,j,Bool.true_and,cond_false,Tryz.results160,bS,zW,seval];exact⟨p,Step.refl g⟩
  |true =>simp only[e,k,f,a,c,j,Bool.true_and,cond_true,bS,zW,seval];refine aQ [(12,5),(12,9)] [] m9 m9 rfl fun ops anc v j=>?_;simp only[aw]at v;simp only[e,k,f,bS,zW,seval];refine eJ (as':=[jp kw x.row,jp kw x.bottom,jp kw (n:Int),ls up]) g ok rfl m9 ol rfl (by simp only[aw,cG,v,true_or,and_true]) (fun G F w=>by rw[A,h]; exact H9 G p x r B n up F s w (by have:=C.2 rfl; omega) (by have:=s.t3; omega) o q) fun H1 p1 st=>?_;rw[show H1=ext H1 [] from rfl];simp only[Tryz.results160,bS,gV];exact⟨p1,st⟩
def AY(H:aa)(p:Rp)(x:Tm)(v:go)(l:List Int)(g:cx H p x)(s:x.Sz)(ok:H.base<=H.next)(a:ma H v l):iK 147 [v] H p (.tuple #[]) (x.lines (count l) ci):=by
 have c:=a.count
 obtain⟨n,b⟩:∃ n:Nat,count l=n:=⟨(count l).toNat,by omega⟩
 refine aI mixed Tryz.func147 rfl Tryz.ntmps147 (zA7 rfl) ?_;simp only[zW,seval];refine (kl (ext H []) v l a.at_ a.ne).to ?_;rw[b];simp only[zW,seval];refine (J7 (ext H []) p x n ci g s ok lw lw).mono ?_;rintro _ H1 ⟨rfl,p1,st⟩;rw[show H1=ext H1 [] from rfl];simp only[Tryz.results147,gV,seval];exact⟨trivial,p1,st⟩
def zQ(H:aa)(p:Rp)(x:Tm)(v:go)(l:List Int)(g:cx H p x)(s:x.Sz)(ok:H.base<=H.next)(a:ma H v l):iK 148 [v] H p (.tuple #[]) (x.lines (count l) bv):=by
 have c:=a.count
 obtain⟨n,b⟩:∃ n:Nat,count l=n:=⟨(count l).toNat,by omega⟩
 refine aI mixed Tryz.func148 rfl Tryz.ntmps148 (zA7 rfl) ?_;simp only[zW,seval];refine (kl (ext H []) v l a.at_ a.ne).to ?_;rw[b];simp only[zW,seval];refine (J7 (ext H []) p x n bv g s ok lw lw).mono ?_;rintro _ H1 ⟨rfl,p1,st⟩;rw[show H1=ext H1 [] from rfl];simp only[Tryz.results148,gV,seval];exact⟨trivial,p1,st⟩
def Tm.Sz.WR{x:Tm}(s:x.Sz)(a b:Int)(c:0<=a)(e:a<=b)(f:b<x.h):Tm.Sz {x with top:=a,bottom:=b} :=
 ⟨s.h1,s.h2,s.w1,s.w2,s.ws,s.r1,s.r2,s.c1,s.c2,s.sr1,s.sr2,s.sc1,s.sc2,c,e,f,s.md,s.hd⟩
def Gp(x:Tm)(l:List Int):Int:=if snd l-1<0\/snd l-1 ≥ x.cd then x.cd-1 else snd l-1
def KQ{x:Tm}(s:x.Sz)(l:List Int):Gp x l<x.h:=by
 unfold Gp;rw[qT];split
 .omega
 .rename_i h; omega
theorem nR(x:Tm)(l:List Int):x.region l=if count l-1<=Gp x l then Tm.bQ {x with top:=count l-1,bottom:=Gp x l} 0 0 else x:=rfl
def Tm.Sz.region{x:Tm}(s:x.Sz)(l:List Int):(x.region l).Sz:=by
 rw[nR];split
 .rename_i h;refine (s.WR _ _ ?_ h (KQ s l)).bQ 0 0;simp only[count]; omega
 .exact s
def OS(H:aa)(p:Rp)(x:Tm)(v:go)(l:List Int)(g:cx H p x)(s:x.Sz)(ok:H.base<=H.next)(f:ma H v l):iK 150 [v] H p (.tuple #[]) (x.region l):=by
 obtain⟨b,w⟩:=ac H.next;have R:p.t<b:=w▸g.lt p.t pi;have A:=g.cell;simp only[bh]at A;have Z:=f.count;have T:=f.snd;have s1:=s.h2;have s0:=s.h1;have C:IntKind.i64.wrap (count l-1)=count l-1:=aR lw lw;have D:IntKind.i64.wrap (snd l-1)=snd l-1:=aR lw lw;have F:IntKind.i64.wrap ((x.h:Int)-1)=(x.h:Int)-1:=aR lw lw
 obtain⟨q,j⟩:∃ d,f7 (snd l-1<0)=d:=⟨_,rfl⟩
 obtain⟨d2,k⟩:∃ d,f7 ((x.h:Int)<=snd l-1)=d:=⟨_,rfl⟩
 have U:snd l-1<0 ↔ q=true:=by rw[<-j,decide_eq_true_iff]
 have W:snd l-1 ≥ (x.h:Int) ↔ d2=true:=by rw[<-k,decide_eq_true_iff]
 have I:Gp x l=cond (q||d2) ((x.h:Int)-1) (snd l-1):=by unfold Gp;simp only[qT,U,W];cases q<;>cases d2<;>rfl
 obtain⟨B,J⟩:=ac (Gp x l);have m:=KQ s l
 obtain⟨r,a⟩:∃ d,f7 (count l-1<=B)=d:=⟨_,rfl⟩
 have S:count l-1<=B ↔ r=true:=by rw[<-a,decide_eq_true_iff]
 rw[nR];rw[J]at I m ⊢;have K:(if count l-1<=B then Tm.bQ {x with top:=count l-1,bottom:=B} 0 0 else x)=cond r (Tm.bQ {x with top:=count l-1,bottom:=B} 0 0) x:=by simp only[S];cases r<;>rfl
 rw[K];refine aI mixed Tryz.func150 rfl Tryz.ntmps150 (zA7 rfl) ?_;refine lg (fun c L=>L=H/\c 0=li (a9 ⟨p.t,0,bi⟩)/\c 4=jp kw (count l-1)/\c 5=jp kw (snd l-1)) ?_ ?_
 .simp only[zW,seval];refine (kl (ext H []) v l f.at_ f.ne).to ?_;simp only[C,zW,seval];refine (FB (ext H []) v l f.at_).to ?_;simp only[D,zW,seval];refine ag ⟨rfl,?_,?_,?_⟩<;>simp only[aF,seval]
 rintro E X ⟨u,n,o,e⟩;rw[u];refine lg (fun c L=>L=H/\c 0=li (a9 ⟨p.t,0,bi⟩)/\c 4=jp kw (count l-1)/\c 5=jp kw B) ?_ ?_
 .rw[show H=ext H [] from rfl];cases q<;>cases d2<;>(simp only[Bool.or_true,zH7,cond_true,cond_false]at I; simp (maxDischargeDepth:=6) only[n,e,w,R,A,j,k,F,zW,seval]; refine ag ⟨rfl,?_,?_,?_⟩<;>simp (maxDischargeDepth:=6) only[n,o,e,I,aF,seval])
 clear u n o e E X;rintro E X ⟨u,n,o,e⟩;rw[u]
 cases r with
 |false =>simp only[o,e,a,cond_false,Tryz.results150,zW,seval];exact⟨trivial,p,Step.refl g⟩
 |true =>
  have M:=S.2 rfl;rw[show H=ext H [] from rfl];simp only[n,o,e,w,R,A,a,cond_true,zW,seval];generalize Y:uw (uw H p.t 16 _) p.t 17 _=V;have st:Step H p V p {x with top:=count l-1,bottom:=B}:=by rw[<-Y];exact g.two (off:=16) (off2:=17) (vs:=[jp kw (count l-1)]) (vs2:=[jp kw B]) (y:={x with top:=count l-1,bottom:=B}) rfl rfl rfl rfl
  refine (kB (ext V []) p _ 0 0 st.at_ (s.WR _ _ lw M m) (st.ok ok)).mono ?_;rintro _ H1 ⟨rfl,p1,O⟩;rw[show H1=ext H1 [] from rfl];simp only[Tryz.results150,gV,seval];exact⟨trivial,p1,st.trans ok O⟩
def Tm.Sz.GA{x:Tm}(s:x.Sz)(c:Int)(a:0<=c)(c2:c<=x.w):Tm.Sz {x with col:=c}:=s.move x.row c s.r1 s.r2 a c2
def Tm.Sz.TQ{x:Tm}(s:x.Sz)(r:Int)(a:0<=r)(c2:r<x.h):Tm.Sz {x with row:=r}:=s.move r x.col a c2 s.c1 s.c2
def VH{a:Int}(h:0<=a):a.tmod 8=a % 8:=Int.tmod_eq_emod_of_nonneg h
def Tm.Sz.control{x:Tm}(s:x.Sz)(c:Int):(x.control c).Sz:=by
 have hi:=jv s;have f:=s.h1;have w1:=s.w1;have g:=s.c1;have c2:=s.c2;unfold Tm.control;rw[nJ,qT];split
 .exact s.GA _ lw lw
 .split
  .exact s.GA _ lw lw
  .split
   .split
    .obtain⟨t,a⟩:∃ r:Nat,x.top=r:=⟨x.top.toNat,by have:=s.t1; omega⟩
     obtain⟨b,e⟩:∃ b:Nat,x.bottom=b:=⟨x.bottom.toNat,by have:=s.t1; have:=s.t2; omega⟩
     rw[a,e];exact s.fA (n:=1) bv (by have:=s.t2; omega) (by have:=s.t3; omega)
    .exact s.TQ _ (by have:=s.r1; omega) lw
   .split
    .exact s.GA _ lw lw
    .exact s
def ME(H:aa)(p:Rp)(x:Tm)(c:Int)(g:cx H p x)(s:x.Sz)(ok:H.base<=H.next):iK 113 [jp kw c] H p (.tuple #[]) (x.control c):=by
 obtain⟨b,l⟩:=ac H.next;have u:p.t<b:=l▸g.lt p.t pi;have m:=g.cell;simp only[bh]at m;have hi:=jv s;have s1:=s.h2;have s2:=s.w2;have Z:=s.c1;have s4:=s.c2;have s5:=s.r1;have s6:=s.r2
 obtain⟨to,A⟩:∃ r:Nat,x.top=r:=⟨x.top.toNat,by have:=s.t1; omega⟩
 obtain⟨Y,B⟩:∃ b:Nat,x.bottom=b:=⟨x.bottom.toNat,by have:=s.t1; have:=s.t2; omega⟩
 obtain⟨C,e⟩:∃ d,f7 (c=8)=d:=⟨_,rfl⟩
 obtain⟨D,f⟩:∃ d,f7 (c=9)=d:=⟨_,rfl⟩
 obtain⟨n,a⟩:∃ d,f7 (c=10)=d:=⟨_,rfl⟩
 obtain⟨o,j⟩:∃ d,f7 (c=13)=d:=⟨_,rfl⟩
 obtain⟨F,q⟩:∃ d,f7 (x.row=x.bottom)=d:=⟨_,rfl⟩
 have e8:=iM e;have e9:=iM f;have I:=iM a;have J:=iM j;have eb:=iM q;have L:IntKind.i64.wrap (x.inside-1)=x.inside-1:=aR lw lw;have M:IntKind.i64.wrap ((x.w:Int)-1)=(x.w:Int)-1:=aR lw lw;have O:=VH Z;have R:IntKind.i64.wrap (x.col-x.col % 8)=x.col-x.col % 8:=aR lw lw;have S:IntKind.i64.wrap (x.col-x.col % 8+8)=x.col-x.col % 8+8:=aR lw lw;have T:IntKind.i64.wrap (x.row+1)=x.row+1:=aR lw lw;have U:IntKind.i64.wrap ((x.h:Int)-1)=(x.h:Int)-1:=aR lw lw;have V:x.control c=cond C {x with col:=max 0 (x.inside-1)} (cond D {x with col:=min ((x.w:Int)-1) (x.col-x.col % 8+8)} (cond n (cond F (x.fA to Y (1:Nat) bv) {x with row:=min (x.row+1) ((x.h:Int)-1)}) (cond o {x with col:=0} x))):=by unfold Tm.control;simp only[e8,e9,I,J,eb];rw[nJ,qT,A,B];cases C<;>cases D<;>cases n<;>cases o<;>cases F<;>rfl
 rw[V];refine aI mixed Tryz.func113 rfl Tryz.ntmps113 (zA7 rfl) ?_
 cases C with
 |true =>simp only[e,cond_true,zW,seval];refine (qs (ext H []) p x g s).to ?_;simp only[l,u,m,L,Tryz.results113,zW,seval];exact⟨trivial,p,g.one (y:={x with col:=max 0 (x.inside-1)}) rfl rfl rfl rfl⟩
 |false =>
  cases D with
  |true =>
   simp only[e,f,cond_true,cond_false,zW,seval];refine aQ [(21,2),(21,8),(21,13)] [] m9 m9 rfl fun ops anc k W=>?_;simp only[aw]at k;simp only[bS,aF,seval];refine bI (v:=jp kw (x.w:Int)) p.aM (by simp only[aF,seval]) m9 ol g.ne (fun K hn hg=>?_) (by simp (maxDischargeDepth:=6) only[bS]) ?_
   .simp only[aF];exact ja K p x (g.of (by rw[hn]; exact zA4 _) hg) s
   simp only[l,u,m,k,M,O,R,S,seval,Tryz.results113,bS,zW];exact⟨p,g.one (y:={x with col:=min ((x.w:Int)-1) (x.col-x.col % 8+8)}) rfl rfl rfl rfl⟩
  |false =>
   cases n with
   |true =>
    simp only[e,f,a,cond_true,cond_false,zW,seval];refine aQ [] [] m9 rfl rfl fun ops anc k W=>?_;simp only[l,u,m,bS,zW,seval]
    cases F with
    |true =>simp only[q,cond_true,gV];refine aQ [(9,4),(9,8)] [] m9 m9 rfl fun ops anc k W=>?_;simp only[aw]at k;simp only[l,u,m,bS,zW,seval];refine eJ (as':=[jp kw x.top,jp kw x.bottom,jp kw ((1:Nat):Int),ls bv]) g ok rfl m9 ol (by simp only[aF,seval]<;>rfl) (by simp only[aw,cG,k,true_or,and_true]) (fun G gG X=>by rw[A,B]; exact H9 G p x to Y 1 bv gG s X (by have:=s.t2; omega) (by have:=s.t3; omega) lw lw) fun H1 p1 st=>?_;rw[show H1=ext H1 [] from rfl];simp only[Tryz.results113,bS,gV];exact⟨p1,st⟩
    |false =>simp only[q,cond_false,gV];refine aQ [(17,5),(17,10)] [] m9 m9 rfl fun ops anc k W=>?_;simp only[aw]at k;simp only[l,u,m,k,T,U,Tryz.results113,bS,zW,seval];exact⟨p,g.one (y:={x with row:=min (x.row+1) ((x.h:Int)-1)}) rfl rfl rfl rfl⟩
   |false =>
    cases o with
    |true =>simp only[l,u,m,e,f,a,j,cond_true,cond_false,Tryz.results113,zW,seval];exact⟨trivial,p,g.one (y:={x with col:=0}) rfl rfl rfl rfl⟩
    |false =>simp only[e,f,a,j,cond_false,Tryz.results113,zW,seval];exact⟨trivial,p,Step.refl g⟩
structure Wd (wd:Int->Nat):Prop where
 call:∀(c:Int)(H:aa),-2147483648<=c->c<=2147483647->Pure 88 [jp kw c] H (jp kw (wd c:Int))
 le:∀ c,wd c<=2
def Tm.put(x:Tm)(k i:Nat)(c:Ce):Tm:=x.setRow k ((x.aj.getD k []).set i c)
def Tm.Sz.put{x:Tm}(s:x.Sz){k i:Nat}{c:Ce}(a:k<x.h)(b:c.rune≠-1\/i≠0):(x.put k i c).Sz:=by obtain⟨l,_,e,f,g⟩:=s.rowAt a;unfold Tm.put;rw[e];exact s.setRow (by simp[f]) (JD l i c b g)
def Bm{x:Tm}(s:x.Sz){k i:Nat}{c:Ce}(a:k<x.h):(x.put k i c).h=x.h/\(x.put k i c).w=x.w:=by obtain⟨l,_,e,b,f⟩:=s.rowAt a;unfold Tm.put;rw[e];exact⟨AH x k _,AO s k _ (by simp[b])⟩
def Tm.written(x:Tm)(r c n:Nat)(a:Int):Tm :=
 let t:=x.blank r c (c+n:Nat)
 let t:=t.put r c ⟨a,x.b7⟩
 let t:=if n=2 then t.put r (c+1) ⟨-1,x.b7⟩ else t
 {t with col:=x.col+n}
def uR(u:AW)(x:Tm)(a:Int)(r c:Nat)(h:x.row=r)(j:x.col=c):x.write u a=if u.wd a=0\/x.col+u.wd a>(x.w:Int) then x else x.written r c (u.wd a) a:=by
 obtain⟨row,o,b7,k,l,m,aj,g,top,b,mode,rest,e,f,last⟩:=x;simp only at h j;subst h;subst j;unfold Tm.write Tm.written;generalize u.wd a=n;simp only[nJ];split
 .rfl
 .split<;>rfl
def Tm.Sz.written{x:Tm}(s:x.Sz){r c n:Nat}{f:Int}(a:r<x.h)(o:x.col=c)(e:c+n<=x.w)(j:f≠-1):(x.written r c n f).Sz:=by
 have k:=s.blank a (show c<=c+n by omega) e;have b:=iE s a (show c<=c+n by omega) e;have s2:=k.put (i:=c) (c:=⟨f,x.b7⟩) (by rw[b.1]; exact a) (.inl j);have g:=Bm k (i:=c) (c:=⟨f,x.b7⟩) (by rw[b.1]; exact a);unfold Tm.written;simp only;split
 .have l:=s2.put (i:=c+1) (c:=⟨-1,x.b7⟩) (by rw[g.1,b.1]; exact a) (.inr lw);have m:=Bm s2 (i:=c+1) (c:=⟨-1,x.b7⟩) (by rw[g.1,b.1]; exact a);exact l.GA _ lw (by rw[m.2,g.2,b.2]; omega)
 .exact s2.GA _ lw (by rw[g.2,b.2]; omega)
def cx.To{H:aa}{p:Rp}{x:Tm}(g:cx H p x)(s:x.Sz){k i:Nat}{q:Nat × Bool}(f:k<x.h)(a:p.rs[k]?=a9 q)(hi:i<x.w)(c:Ce):Step H p (ext (uw H q.1 (i*6) c.cells) []) p (x.put k i c):=by obtain⟨l,b,e,j,_⟩:=s.rowAt f;unfold Tm.put;rw[e];exact g.putRow a b (Mod.uw nl) (yw (g.row k q l a b) lw) nl
def Tx(u:AW)(hu:Wd u.wd)(H:aa)(p:Rp)(x:Tm)(a:Int)(g:cx H p x)(s:x.Sz)(ok:H.base<=H.next)(hc1:-2147483648<=a)(hc2:a<=2147483647)(hch:a≠-1):iK 114 [jp kw a] H p (.tuple #[]) (x.write u a):=by
 obtain⟨b,hb⟩:=ac H.next;have hT:p.t<b:=hb▸g.lt p.t pi;have h1:=g.cell;simp only[bh]at h1;have s2:=s.w2
 obtain⟨r,hr⟩:∃ r:Nat,x.row=r:=⟨x.row.toNat,by have:=s.r1; omega⟩
 obtain⟨c,hc⟩:∃ c:Nat,x.col=c:=⟨x.col.toNat,by have:=s.c1; omega⟩
 have e:r<x.h:=by have:=s.r2; omega
 rw[uR u x a r c hr hc];have hn2:=hu.le a;have hwd:=hu.call a (ext H []) hc1 hc2;generalize hn:u.wd a=n at hn2 hwd
 obtain⟨d0,gQ⟩:∃ d,f7 ((n:Int)=0)=d:=⟨_,rfl⟩
 obtain⟨d1,O⟩:∃ d,f7 ((x.w:Int)<x.col+n)=d:=⟨_,rfl⟩
 have e0:n=0 ↔ d0=true:=by rw[<-gQ,decide_eq_true_iff]; omega
 have e1:x.col+(n:Int)>(x.w:Int) ↔ d1=true:=by rw[<-O,decide_eq_true_iff]
 have I:IntKind.i64.wrap (x.col+(n:Int))=x.col+(n:Int):=aR (by have:=s.c2; omega) (by have:=s.c2; omega);have key:(if n=0\/x.col+(n:Int)>(x.w:Int) then x else x.written r c n a)=cond (d0||d1) x (x.written r c n a):=by simp only[e0,e1];cases d0<;>cases d1<;>rfl
 rw[key];refine aI mixed Tryz.func114 rfl Tryz.ntmps114 (zA7 rfl) ?_;simp only[zW,seval];refine hwd.to ?_;simp only[zW,seval];refine aQ [] [(2,10)] m9 rfl m9 fun ops anc F J=>?_;simp only[aw]at J
 cases d0 with
 |true =>simp only[gQ,J,Bool.true_or,cond_true,Tryz.results114,bS,zW,seval];exact⟨p,Step.refl g⟩
 |false =>
  simp only[hb,hT,h1,gQ,J,I,bS,zW,seval];refine bI (v:=jp kw (x.w:Int)) p.aM (by simp only[aF,seval]) m9 ol g.ne (fun K hn hg=>?_) (by simp (maxDischargeDepth:=6) only[bS]) ?_
  .simp only[aF];exact ja K p x (g.of (by rw[hn]; exact zA4 _) hg) s
  cases d1 with
  |true =>simp only[hb,O,J,Bool.or_true,cond_true,Tryz.results114,bS,zW,seval];exact⟨p,Step.refl g⟩
  |false =>
   simp only[hb,O,J,zH7,cond_false,bS,zW,seval]
   have R:c+n<=x.w:=by
    have:¬(x.col+(n:Int)>(x.w:Int)):=fun h=>by have:=e1.1 h; simp at this
    omega
   have hn1:1<=n:=by
    have:¬n=0:=fun h=>by have:=e0.1 h; simp at this
    omega
   have hcw:c<x.w:=by omega
   refine aQ [(18,5),(18,10),(18,15)] [] m9 m9 rfl fun ops anc F J=>?_;simp only[aw]at F;simp only[hb,hT,h1,I,bS,zW,seval];refine eJ (as':=[jp kw x.row,jp kw x.col,jp kw (x.col+(n:Int))]) g ok rfl m9 ol rfl (by simp only[aw,cG,F,true_or,and_true]) (fun G gG okG=>by rw[hr,hc]; exact uu gG s okG e (show c<=c+n by omega) R) fun V p1 st=>?_;have L:=s.blank e (show c<=c+n by omega) R;have f:=iE s e (show c<=c+n by omega) R;have o:p.t<V.next:=st.same▸st.at_.lt p1.t pi;have hR1:p1.rb<V.next:=st.at_.lt p1.rb pi;have v1:=st.at_.cell;rw[st.same]at v1;simp only[bh,f.1]at v1;have v2:=st.at_.rows;rw[f.2]at v2;obtain⟨l,el,_⟩:=L.rowAt (k:=r) (by rw[f.1]; exact e);obtain⟨q,hq,hqm,hqb⟩:=st.at_.rowOf el;have hqr:(p1.rs.map (bE x.w))[r]?=a9 (bE x.w q):=by rw[zG0,hq]; rfl
   have hQ:q.1<V.next:=st.at_.lt q.1 hqm;obtain⟨_,hqt,hqrb⟩:=st.at_.Qo hq;rw[st.same]at hqt;have hri:=uF (len:=x.h) (cap:=x.h) (n:=p1.rb) (s:=bi) (i:=x.row) (k:=r) hr e;have hci:=eU (len:=x.w) (cap:=x.w) (n:=q.1) (s:=if q.2=bv then bi else a9 0) (i:=x.col) (k:=c) hc hcw;obtain⟨vb,M⟩:=ac V.next;rw[M]at o hR1 hQ;have B:(x.blank (↑r) (↑c) (↑(c+n))).row=x.row:=rfl;have C:(x.blank (↑r) (↑c) (↑(c+n))).col=x.col:=rfl;have D:(x.blank (↑r) (↑c) (↑(c+n))).b7=x.b7:=rfl;rw[show V=ext V [] from rfl];simp only[gV];refine aQ [] [] m9 rfl rfl fun ops anc F J=>?_;simp only[M,o,hR1,v1,v2,B,C,D,hqr,hri,bE,bS,zW,seval];have hst:∀ N,Cc Tryz.prog 77 N (c*6) (.agg ⟨[jp kw a,jp kw x.b7.fore,jp kw x.b7.back,ls x.b7.bold,ls x.b7.under,ls x.b7.inv]⟩) (a9 ⟨77,q.2,a8 l⟩)=a9 ⟨77,q.2,a8 (l.set c ⟨a,x.b7⟩)⟩:=fun N=>Ay (c:=⟨a,x.b7⟩) lw;refine aQ [(14,5),(14,11)] [] m9 m9 rfl fun ops anc F J=>?_;simp only[aw]at F;simp only[M,o,hQ,v1,B,C,D,hci,hqb,hst,F,bS,zW,seval];have j:=st.trans ok (st.at_.To L (by rw[f.1]; exact e) hq (by rw[f.2]; exact hcw) ⟨a,x.b7⟩);have sz2:=L.put (k:=r) (i:=c) (c:=⟨a,x.b7⟩) (by rw[f.1]; exact e) (.inl hch);have S:=Bm L (k:=r) (i:=c) (c:=⟨a,x.b7⟩) (by rw[f.1]; exact e)
   obtain⟨d2,T⟩:∃ d,f7 ((n:Int)=2)=d:=⟨_,rfl⟩
   have e2:n=2 ↔ d2=true:=by rw[<-T,decide_eq_true_iff]; omega
   have hwr:x.written r c n a={cond d2 (((x.blank r c (c+n:Nat)).put r c ⟨a,x.b7⟩).put r (c+1) ⟨-1,x.b7⟩) ((x.blank r c (c+n:Nat)).put r c ⟨a,x.b7⟩) with col:=x.col+n}:=by unfold Tm.written;simp only[e2];cases d2<;>rfl
   rw[hwr];simp only[Ce.cells]at j;generalize hW:uw V q.1 (c*6) _=W at j ⊢;have U:W.next=vb:=by rw[<-hW,cw,M]
   have hT2:p.t<vb:=o;rw[ext_nil]at j
   cases d2 with
   |false =>have X:=j.at_.cell;rw[st.same]at X;simp only[bh]at X;have A:((x.blank (↑r) (↑c) (↑(c+n))).put r c ⟨a,x.b7⟩).col=x.col:=rfl;simp only[U,o,X,A,I,T,cond_false,Tryz.results114,bS,zW,seval];refine⟨p1,?_⟩;have m:=j.trans ok (j.at_.one (off:=1) (vs:=[jp kw (x.col+n)]) (y:={(x.blank r c (c+n:Nat)).put r c ⟨a,x.b7⟩ with col:=x.col+n}) rfl rfl rfl rfl);rw[st.same]at m;exact m
   |true =>
    have hn2':=e2.2 rfl;have X:=j.at_.cell;rw[st.same]at X;simp only[bh]at X;have A:((x.blank (↑r) (↑c) (↑(c+n))).put r c ⟨a,x.b7⟩).col=x.col:=rfl;have Y:((x.blank (↑r) (↑c) (↑(c+n))).put r c ⟨a,x.b7⟩).b7=x.b7:=rfl;obtain⟨l2,el2,_⟩:=sz2.rowAt (k:=r) (by rw[S.1,f.1]; exact e);have hqb2:=j.at_.row r q l2 hq el2;have hci2:=eU (len:=x.w) (cap:=x.w) (n:=q.1) (s:=if q.2=bv then bi else a9 0) (i:=x.col+1) (k:=c+1) lw lw;have hw4:IntKind.i64.wrap (x.col+1)=x.col+1:=aR lw lw;have hst2:∀ N,Cc Tryz.prog 77 N ((c+1)*6) (.agg ⟨[jp kw (-1),jp kw x.b7.fore,jp kw x.b7.back,ls x.b7.bold,ls x.b7.under,ls x.b7.inv]⟩) (a9 ⟨77,q.2,a8 l2⟩)=a9 ⟨77,q.2,a8 (l2.set (c+1) ⟨-1,x.b7⟩)⟩:=fun N=>Ay (c:=⟨-1,x.b7⟩) lw;simp only[T,cond_true,gV];refine aQ [(14,5),(14,11)] [] m9 m9 rfl fun ops anc F J=>?_;simp only[aw]at F;simp only[U,o,hQ,X,A,Y,hw4,hci2,hqb2,hst2,F,bS,zW,seval];have m:=j.trans ok (j.at_.To (i:=c+1) sz2 (by rw[S.1,f.1]; exact e) hq (by rw[S.2,f.2]; omega) ⟨-1,x.b7⟩);simp only[Ce.cells]at m;generalize hZ:uw W q.1 ((c+1)*6) _=Z at m ⊢;have hZn:Z.next=vb:=by rw[<-hZ,cw,U]
    rw[ext_nil]at m;have v4:=m.at_.cell;rw[st.same]at v4;simp only[bh]at v4;have hcol3:(((x.blank (↑r) (↑c) (↑(c+n))).put r c ⟨a,x.b7⟩).put r (c+1) ⟨-1,x.b7⟩).col=x.col:=rfl;simp only[hZn,o,v4,hcol3,I,Tryz.results114,bS,zW,seval];refine⟨p1,?_⟩;have st4:=m.trans ok (m.at_.one (off:=1) (vs:=[jp kw (x.col+n)]) (y:={((x.blank r c (c+n:Nat)).put r c ⟨a,x.b7⟩).put r (c+1) ⟨-1,x.b7⟩ with col:=x.col+n}) rfl rfl rfl rfl);rw[st.same]at st4;exact st4
def Tm.Sz.write{u:AW}{x:Tm}(s:x.Sz){a:Int}(b:a≠-1):(x.write u a).Sz:=by
 obtain⟨r,f⟩:∃ r:Nat,x.row=r:=⟨x.row.toNat,by have:=s.r1; omega⟩
 obtain⟨c,e⟩:∃ c:Nat,x.col=c:=⟨x.col.toNat,by have:=s.c1; omega⟩
 rw[uR u x a r c f e];split
 .exact s
 .rename_i h;exact s.written (by have:=s.r2; omega) e lw b
def Tm.Sz.character{u:AW}{x:Tm}(s:x.Sz)(a:Int):(x.character u a).Sz:=by
 unfold Tm.character;split
 .exact s.control a
 .exact s.write lw
def G4(u:AW)(q:Wd u.wd)(H:aa)(p:Rp)(x:Tm)(a:Int)(g:cx H p x)(s:x.Sz)(ok:H.base<=H.next)(l:-2147483648<=a)(m:a<=2147483647):iK 81 [jp kw a] H p (.tuple #[]) (x.character u a):=by
 obtain⟨c,j⟩:∃ d,f7 (a<32)=d:=⟨_,rfl⟩
 obtain⟨d2,k⟩:∃ d,f7 (a=127)=d:=⟨_,rfl⟩
 have o:a<32 ↔ c=true:=by rw[<-j,decide_eq_true_iff]
 have r:=iM k;have n:x.character u a=cond (c||d2) (x.control a) (x.write u a):=by unfold Tm.character;simp only[o,r];cases c<;>cases d2<;>rfl
 rw[n];refine aI mixed Tryz.func81 rfl Tryz.ntmps81 (zA7 rfl) ?_;have cn:c=ci->a≠-1:=fun h e=>by have:=o.1 lw;rw[h]at this;cases this
 have b:∀ y f,iK f [jp kw a] H p (.tuple #[]) y->bF Tryz.prog f [li (a9 ⟨p.t,0,bi⟩),jp kw a] (ext H []) (fun out H1=>out=.ok (.tuple #[])/\∃ p1,Step H p H1 p1 y):=fun y f h=>h;cases c<;>cases d2<;>simp only[j,k,Bool.or_true,zH7,cond_true,cond_false,zW,seval]
 .refine (b _ _ (Tx u q H p x a g s ok l m (cn rfl))).mono ?_;rintro _ H1 ⟨rfl,p1,st⟩;rw[show H1=ext H1 [] from rfl];simp only[Tryz.results81,gV,seval];exact⟨trivial,p1,st⟩
 all_goals
  refine (b _ _ (ME H p x a g s ok)).mono ?_;rintro _ H1 ⟨rfl,p1,st⟩;rw[show H1=ext H1 [] from rfl];simp only[Tryz.results81,gV,seval];exact⟨trivial,p1,st⟩
def Tm.dJ(x:Tm)(l:Lk):Tm:={x with b7:=l}
def Tm.Sz.dJ{x:Tm}(s:x.Sz)(l:Lk):(x.dJ l).Sz :=
 ⟨s.h1,s.h2,s.w1,s.w2,s.ws,s.r1,s.r2,s.c1,s.c2,s.sr1,s.sr2,s.sc1,s.sc2,s.t1,s.t2,s.t3,s.md,s.hd⟩
def G8(H:aa)(p:Rp)(x:Tm)(n:Int)(g:cx H p x):iK 161 [jp kw n] H p (.tuple #[]) (x.dJ (x.b7.attribute n)):=by
 obtain⟨b,a⟩:=ac H.next;have e:p.t<b:=a▸g.lt p.t pi;have c:=g.cell;simp only[bh]at c;refine aI mixed Tryz.func161 rfl Tryz.ntmps161 (zA7 rfl) ?_;by_cases o:n=0
 .subst o;simp only[a,e,c,decide_true,Tryz.results161,zW,seval];exact⟨trivial,p,g.one (y:=x.dJ .no) rfl rfl rfl rfl⟩
 by_cases f:n=1
 .subst f;simp only[a,e,c,seval,decide_true,decide_false,Tryz.results161,zW];exact⟨trivial,p,g.one (y:=x.dJ {x.b7 with bold:=true}) rfl rfl rfl rfl⟩
 by_cases h:n=22
 .subst h;simp only[a,e,c,seval,decide_true,decide_false,Tryz.results161,zW];exact⟨trivial,p,g.one (y:=x.dJ {x.b7 with bold:=false}) rfl rfl rfl rfl⟩
 by_cases q:n=4
 .subst q;simp only[a,e,c,seval,decide_true,decide_false,Tryz.results161,zW];exact⟨trivial,p,g.one (y:=x.dJ {x.b7 with under:=true}) rfl rfl rfl rfl⟩
 by_cases j:n=24
 .subst j;simp only[a,e,c,seval,decide_true,decide_false,Tryz.results161,zW];exact⟨trivial,p,g.one (y:=x.dJ {x.b7 with under:=false}) rfl rfl rfl rfl⟩
 by_cases r:n=7
 .subst r;simp only[a,e,c,seval,decide_true,decide_false,Tryz.results161,zW];exact⟨trivial,p,g.one (y:=x.dJ {x.b7 with inv:=true}) rfl rfl rfl rfl⟩
 by_cases k:n=27
 .subst k;simp only[a,e,c,seval,decide_true,decide_false,Tryz.results161,zW];exact⟨trivial,p,g.one (y:=x.dJ {x.b7 with inv:=false}) rfl rfl rfl rfl⟩
 by_cases l:n=39
 .subst l;simp only[a,e,c,seval,decide_true,decide_false,Tryz.results161,zW];exact⟨trivial,p,g.one (y:=x.dJ {x.b7 with fore:=0}) rfl rfl rfl rfl⟩
 by_cases m:n=49
 .subst m;simp only[a,e,c,seval,decide_true,decide_false,Tryz.results161,zW];exact⟨trivial,p,g.one (y:=x.dJ {x.b7 with back:=0}) rfl rfl rfl rfl⟩
 have s:x.dJ (x.b7.attribute n)=x:=by simp only[Lk.attribute,o,f,h,q,j,r,k,l,m,or_self,if_false,Tm.dJ]
 rw[s];simp only[o,f,h,q,j,r,k,l,m,decide_false,Tryz.results161,zW,seval];exact⟨trivial,p,Step.refl g⟩
def eM.drop{H:aa}{v:go}{l:List Int}(h:eM H v l)(s:l≠[]){k:Nat}(t:k<=l.length):∃ m,bX Tryz.prog (ext H []) 22 v (a9 (jp kw (k:Int))) bi bi=a9 (m,ext H [])/\eM H m (l.drop k)/\ae m=ae v:=by
 have j:Tryz.prog.underlying 22=a9 (.slice 3):=by kernel_rfl
 have b:br Tryz.prog 3=a9 1:=by kernel_rfl
 rcases h with⟨h,_⟩|⟨_,n,a,o,rfl,q⟩
 .exact absurd h s
 rw[ext_nil];have c:0<l.length:=List.length_pos_iff.2 s;by_cases f:k<l.length
 .refine⟨lm (a9 ⟨n,(a++l.take k).length,if o=bv then bi else a9 0⟩) (l.drop k).length (l.drop k).length,?_,.inr ⟨?_,n,a++l.take k,o,rfl,?_⟩,by simp[ae]⟩
  .have e:(a++l.take k).length=a.length+k*1:=by simp; omega
   rw[e,zC6]
   cases o with
   |true=>exact sH j b dW rfl (zA4 _) t f q rfl
   |false=>exact yW j b dW rfl (zA4 _) t f
  .intro e;have:=congrArg List.length e;simp at this;omega
  .rw[q,zC8,zG9]
 .have g:k=l.length:=by omega
  cases o with
  |true=>exact⟨_,DP j b dW rfl rfl g c q rfl,.inl ⟨zE9 lw,_,_,rfl⟩,by simp[ae]⟩
  |false =>refine⟨lm (a9 ⟨n,a.length,a9 0⟩) 0 0,?_,.inl ⟨zE9 lw,_,_,rfl⟩,by simp[ae]⟩;have r:bound 0 (a9 (jp kw (k:Int)))=a9 k:=dW;simp only[bX,j,b,et,r,zA1,zA3,cX];rw[g];simp[bound]
def MH(k:Lk):Lk.attributes [] k=k:=by rw[Lk.attributes]
def FP{n:Int}{r:List Int}(k:Lk)(h:n=38\/n=48)(a:r.length<2):Lk.attributes (n::r) k=k:=by
 match r,a with
 |[],_=>simp only[Lk.attributes,h,if_true]
 |[_],_=>simp only[Lk.attributes,h,if_true]
def I9{n a b:Int}{r:List Int}(k:Lk)(h:n=38\/n=48):Lk.attributes (n::a::b::r) k=if a≠5\/b>255 then k else Lk.attributes r (if n=38 then {k with fore:=b+1} else {k with back:=b+1}):=by rw[Lk.attributes,if_pos h]
def H6{n:Int}{r:List Int}(k:Lk)(h:¬(n=38\/n=48))(a:30<=n/\n<=37):Lk.attributes (n::r) k=Lk.attributes r {k with fore:=n-29}:=by
 match r with
 |[]=>simp only[Lk.attributes,h,a,if_true,if_false,and_self]
 |[_]=>simp only[Lk.attributes,h,a,if_true,if_false,and_self]
 |_::_::_=>rw[Lk.attributes,if_neg h,if_pos a]
def Ji{n:Int}{r:List Int}(k:Lk)(h:¬(n=38\/n=48))(a:¬(30<=n/\n<=37))(b:40<=n/\n<=47):Lk.attributes (n::r) k=Lk.attributes r {k with back:=n-39}:=by
 match r with
 |[]=>simp only[Lk.attributes,h,a,b,if_true,if_false,and_self]
 |[_]=>simp only[Lk.attributes,h,a,b,if_true,if_false,and_self]
 |_::_::_=>rw[Lk.attributes,if_neg h,if_neg a,if_pos b]
def Gw{n:Int}{r:List Int}(k:Lk)(h:¬(n=38\/n=48))(a:¬(30<=n/\n<=37))(b:¬(40<=n/\n<=47)):Lk.attributes (n::r) k=Lk.attributes r (k.attribute n):=by
 match r with
 |[]=>simp only[Lk.attributes,h,a,b,if_false]
 |[_]=>simp only[Lk.attributes,h,a,b,if_false]
 |_::_::_=>rw[Lk.attributes,if_neg h,if_neg a,if_neg b]
def E0(H:aa)(p:Rp)(x:Tm)(v:go)(l:List Int)(g:cx H p x)(ok:H.base<=H.next)(hp:ma H v l)(hv:∀ n∈ae v,n∉p.aM):iK 149 [v] H p (.tuple #[]) (x.dJ (Lk.attributes l x.b7)):=by
 refine aI mixed Tryz.func149 rfl Tryz.ntmps149 (zA7 rfl) ?_;simp only[zW,Nat.reduceAdd];refine da fun E hE=>?_;have Z:E 0=li (a9 ⟨p.t,0,bi⟩):=by rw[hE]; rfl
 have O:E 1=v:=by rw[hE]; rfl
 clear hE
 refine cp (fun (q:List Int × Lk × go × Rp) E' H'=>Step H p H' q.2.2.2 (x.dJ q.2.1)/\eM H' q.2.2.1 q.1/\ae q.2.2.1=ae v/\(∀ n∈q.1,0<=n)/\Lk.attributes q.1 q.2.1=Lk.attributes l x.b7/\E' 0=li (a9 ⟨p.t,0,bi⟩)/\E' 1=q.2.2.1) (fun q=>q.1.length) (l,x.b7,v,p)
  ⟨Step.refl g,hp.at_,rfl,fun n hn=>(hp.rg n hn).1,rfl,Z,O⟩ ?_
 clear Z O E;rintro⟨m,k,w,p1⟩ E X ⟨st,hm,U,S,f,Z,O⟩;simp only at st hm U S f O;rw[show X=ext X [] from rfl]
 cases m with
 |nil =>
  obtain⟨a,c,e⟩:=hm.sl;rw[e]at O;have s:f7 ((0:Int)<((0:Nat):Int))=false:=by decide
  simp only[O,s,Tryz.results149,zW,Nat.reduceLT];rw[MH]at f;rw[<-f];exact⟨trivial,p1,st⟩
 |cons n r =>
  obtain⟨a,c,e⟩:=hm.sl;obtain⟨L,hL⟩:=ac ((n::r).length);rw[hL]at e;obtain⟨b,W⟩:=ac X.next;have hT:p.t<b:=W▸st.same▸st.at_.lt p1.t pi;have h1:=st.at_.cell;rw[st.same]at h1;simp only[bh]at h1;have hlt:∀ q∈ae v,q<b:=fun q C=>W▸zE0 (hp.lt q C) st.mod.next;obtain⟨n1,o1,i1,m1,_,D⟩:=hm.get (k:=0) (c:=n) rfl;have t1:=hlt n1 (U▸m1);obtain⟨w1,o,F,A⟩:=hm.drop nl (k:=1) nl;rw[List.drop_one,List.tail_cons]at F;obtain⟨a1,c1,e1⟩:=F.sl
  obtain⟨L1,hL1⟩:∃ L,r.length=L:=⟨_,rfl⟩
  rw[hL1]at e1;have s:f7 ((0:Int)<(L:Int))=true:=decide_eq_true (by rw[zA9]at hL; omega);rw[show ((0:Nat):Int)=0 from rfl]at i1;rw[show ((1:Nat):Int)=1 from rfl]at o;rw[e]at O i1 o;by_cases T:n=38\/n=48
  .have hsel:∃ d,f7 (n=38)=d/\(d=ci->f7 (n=48)=bv)/\(d=bv ↔ n=38):=⟨_,rfl,fun h=>decide_eq_true (by have:=of_decide_eq_false h; omega),by simp⟩
   obtain⟨d38,u,Y,ed38⟩:=hsel;by_cases hr:r.length<2
   .have B:f7 ((L1:Int)<2)=true:=decide_eq_true lw;rw[FP k T hr]at f
    cases d38 with
    |true =>simp only[O,W,i1,t1,D,o,e1,s,u,B,Tryz.results149,zW,Nat.reduceLT,Nat.reduceEqDiff];rw[<-f];exact⟨trivial,p1,st⟩
    |false =>simp only[O,W,i1,t1,D,o,e1,s,u,Y rfl,B,Tryz.results149,zW,Nat.reduceLT,Nat.reduceEqDiff];rw[<-f];exact⟨trivial,p1,st⟩
   .match r,hr,hm,F,f,S,hL,hL1 with
    |[],hr,_,_,_,_,_,_=>simp at hr
    |[_],hr,_,_,_,_,_,_=>simp at hr
    |a2::J::r2,hr,hm,F,f,S,hL,hL1 =>
     rw[I9 k T]at f;have B:f7 ((L1:Int)<2)=false:=decide_eq_false (by simp only[zA9]at hL1; omega);obtain⟨n2,o2,i2,m2,_,ld2⟩:=F.get (k:=0) (c:=a2) rfl;obtain⟨n3,o3,i3,m3,_,ld3⟩:=F.get (k:=1) (c:=J) rfl;have t2:=hlt n2 (U▸A▸m2);have t3:=hlt n3 (U▸A▸m3);rw[show ((0:Nat):Int)=0 from rfl]at i2;rw[show ((1:Nat):Int)=1 from rfl]at i3;rw[e1]at i2 i3 o
     obtain⟨d5,hd5⟩:∃ d,f7 (a2=5)=d:=⟨_,rfl⟩
     obtain⟨dB,hdB⟩:∃ d,f7 ((255:Int)<J)=d:=⟨_,rfl⟩
     have K:f7 (¬a2=5)=!d5:=by rw[<-hd5]; simp
     have e5:a2=5 ↔ d5=true:=iM hd5;have eB:J>255 ↔ dB=true:=by rw[<-hdB,decide_eq_true_iff]
     have hb2:=S J nl;have hwb:J<=255->IntKind.i64.wrap (J+1)=J+1:=fun h=>aR lw lw;have R:Lk.attributes l x.b7=cond (!d5||dB) k (Lk.attributes r2 (cond d38 {k with fore:=J+1} {k with back:=J+1})):=by rw[<-f];simp only[ne_eq,e5,eB,<-ed38];cases d5<;>cases dB<;>cases d38<;>rfl
     have I:∀ q∈ae w1,q≠p.t:=fun q C e=>hv q (U▸A▸C) (e▸by simp[Rp.aM])
     cases d5 with
     |false =>
      rw[R]
      cases d38 with
      |true =>simp only[O,W,i1,i2,t1,t2,D,ld2,o,s,u,B,K,zF4,Bool.true_or,cond_true,Tryz.results149,zW,Nat.reduceLT,Nat.reduceAdd,Nat.reduceEqDiff];exact⟨trivial,p1,st⟩
      |false =>simp only[O,W,i1,i2,t1,t2,D,ld2,o,s,u,Y rfl,B,K,zF4,Bool.true_or,cond_true,Tryz.results149,zW,Nat.reduceLT,Nat.reduceAdd,Nat.reduceEqDiff];exact⟨trivial,p1,st⟩
     |true =>
      cases dB with
      |true =>
       rw[R]
       cases d38 with
       |true =>simp only[O,W,i1,i2,i3,t1,t2,t3,D,ld2,ld3,o,s,u,B,K,hdB,zD1,Bool.false_or,cond_true,Tryz.results149,zW,Nat.reduceLT,Nat.reduceAdd,Nat.reduceEqDiff];exact⟨trivial,p1,st⟩
       |false =>simp only[O,W,i1,i2,i3,t1,t2,t3,D,ld2,ld3,o,s,u,Y rfl,B,K,hdB,zD1,Bool.false_or,cond_true,Tryz.results149,zW,Nat.reduceLT,Nat.reduceAdd,Nat.reduceEqDiff];exact⟨trivial,p1,st⟩
      |false =>
       have hle:J<=255:=by
        have:¬J>255:=fun h=>by have:=eB.1 h; simp at this
        omega
       simp only[zD1,Bool.false_or,cond_false]at R
       cases d38 with
       |true =>
        have j:=st.trans ok (st.at_.one (off:=2) (vs:=[jp kw (J+1)]) (y:=x.dJ {k with fore:=J+1}) rfl rfl rfl rfl);rw[st.same]at j;simp only[Z,O,W,hT,h1,i1,i2,i3,t1,t2,t3,D,ld2,ld3,o,s,u,B,K,hdB,hwb hle,zW,Nat.reduceLeDiff,Nat.reduceLT,Nat.reduceAdd,Nat.reduceEqDiff];generalize hV:uw X p.t 2 _=V at j ⊢;rw[ext_nil]at j;have M:eM V w1 (a2::J::r2):=F.of fun q C=>by rw[<-hV]; exact iV (I q C)
        obtain⟨w2,sl2,hm2,hw2⟩:=M.drop nl (k:=2) nl;rw[show (a2::J::r2).drop 2=r2 from rfl]at hm2;rw[show ((2:Nat):Int)=2 from rfl,e1]at sl2;simp only[sl2,zW,Nat.reduceLT];refine aG ⟨(r2,{k with fore:=J+1},w2,p1),by simp only[]; omega,j,hm2,hw2.trans (A.trans U),fun q C=>S q (by simp[C]),by rw[R]; rfl,?_,?_⟩<;>simp only[Z,aF,Nat.reduceEqDiff]
       |false =>
        have j:=st.trans ok (st.at_.one (off:=3) (vs:=[jp kw (J+1)]) (y:=x.dJ {k with back:=J+1}) rfl rfl rfl rfl);rw[st.same]at j;simp only[Z,O,W,hT,h1,i1,i2,i3,t1,t2,t3,D,ld2,ld3,o,s,u,Y rfl,B,K,hdB,hwb hle,zW,Nat.reduceLeDiff,Nat.reduceLT,Nat.reduceAdd,Nat.reduceEqDiff];generalize hV:uw X p.t 3 _=V at j ⊢;rw[ext_nil]at j;have M:eM V w1 (a2::J::r2):=F.of fun q C=>by rw[<-hV]; exact iV (I q C)
        obtain⟨w2,sl2,hm2,hw2⟩:=M.drop nl (k:=2) nl;rw[show (a2::J::r2).drop 2=r2 from rfl]at hm2;rw[show ((2:Nat):Int)=2 from rfl,e1]at sl2;simp only[sl2,zW,Nat.reduceLT];refine aG ⟨(r2,{k with back:=J+1},w2,p1),by simp only[]; omega,j,hm2,hw2.trans (A.trans U),fun q C=>S q (by simp[C]),by rw[R]; rfl,?_,?_⟩<;>simp only[Z,aF,Nat.reduceEqDiff]
  .have f38:f7 (n=38)=false:=decide_eq_false (fun e=>T (.inl e));have f48:f7 (n=48)=false:=decide_eq_false (fun e=>T (.inr e));have I:∀ q∈ae w1,q≠p.t:=fun q C e=>hv q (U▸A▸C) (e▸by simp[Rp.aM]);have hrg2:∀ q∈r,0<=q:=fun q C=>S q (by simp[C]);by_cases h30:30<=n/\n<=37
   .have q1:f7 (30<=n)=true:=decide_eq_true h30.1;have q2:f7 (n<=37)=true:=decide_eq_true h30.2;have hwn:IntKind.i64.wrap (n-29)=n-29:=aR lw lw;rw[H6 k T h30]at f;have j:=st.trans ok (st.at_.one (off:=2) (vs:=[jp kw (n-29)]) (y:=x.dJ {k with fore:=n-29}) rfl rfl rfl rfl);rw[st.same]at j;simp only[Z,O,W,hT,h1,i1,t1,D,o,s,f38,f48,q1,q2,hwn,zW,Nat.reduceLeDiff,Nat.reduceLT,Nat.reduceAdd,Nat.reduceEqDiff];generalize hV:uw X p.t 2 _=V at j ⊢;rw[ext_nil]at j;have M:eM V w1 r:=F.of fun q C=>by rw[<-hV]; exact iV (I q C)
    refine aG ⟨(r,{k with fore:=n-29},w1,p1),by simp only[]; omega,j,M,A.trans U,hrg2,f,?_,?_⟩<;>simp only[Z,aF,Nat.reduceEqDiff]
   .obtain⟨d1,hd1⟩:∃ d,f7 (30<=n)=d:=⟨_,rfl⟩
    by_cases h40:40<=n/\n<=47
    .have q0:f7 (30<=n)=true:=decide_eq_true lw;have q00:f7 (n<=37)=false:=decide_eq_false lw;have q1:f7 (40<=n)=true:=decide_eq_true h40.1;have q2:f7 (n<=47)=true:=decide_eq_true h40.2;have hwn:IntKind.i64.wrap (n-39)=n-39:=aR lw lw;rw[Ji k T h30 h40]at f;have j:=st.trans ok (st.at_.one (off:=3) (vs:=[jp kw (n-39)]) (y:=x.dJ {k with back:=n-39}) rfl rfl rfl rfl);rw[st.same]at j;simp only[Z,O,W,hT,h1,i1,t1,D,o,s,f38,f48,q0,q00,q1,q2,hwn,zW,Nat.reduceLeDiff,Nat.reduceLT,Nat.reduceAdd,Nat.reduceEqDiff];generalize hV:uw X p.t 3 _=V at j ⊢;rw[ext_nil]at j;have M:eM V w1 r:=F.of fun q C=>by rw[<-hV]; exact iV (I q C)
     refine aG ⟨(r,{k with back:=n-39},w1,p1),by simp only[]; omega,j,M,A.trans U,hrg2,f,?_,?_⟩<;>simp only[Z,aF,Nat.reduceEqDiff]
    .rw[Gw k T h30 h40]at f;have hat:=G8 (ext X []) p1 (x.dJ k) n st.at_;unfold iK at hat;rw[st.same]at hat
     obtain⟨d2,B⟩:∃ d,f7 (n<=37)=d:=⟨_,rfl⟩
     obtain⟨d3,hd3⟩:∃ d,f7 (40<=n)=d:=⟨_,rfl⟩
     obtain⟨d4,hd4⟩:∃ d,f7 (n<=47)=d:=⟨_,rfl⟩
     have c1:¬(d1=bv/\d2=bv):=fun h=>h30 ⟨of_decide_eq_true (hd1.trans h.1),of_decide_eq_true (B.trans h.2)⟩;have c2:¬(d3=bv/\d4=bv):=fun h=>h40 ⟨of_decide_eq_true (hd3.trans h.1),of_decide_eq_true (hd4.trans h.2)⟩
     cases d1<;>cases d2<;>cases d3<;>cases d4<;>first
      |exact absurd ⟨rfl,rfl⟩ c1
      |exact absurd ⟨rfl,rfl⟩ c2
      | (simp only [Z, O, W, i1, t1, D, o, s, f38, f48, hd1, B, hd3, hd4, zW, Nat.reduceLT, Nat.reduceEqDiff]
         refine hat.mono ?_;rintro _ V ⟨rfl,p2,stv⟩;have j:=st.trans ok stv
         have M:eM V w1 r:=F.of fun q C=>stv.mod.get q (by rw[ext_nil]; exact W▸hlt q (U▸A▸C)) (fun hin=>by
          rcases st.new q hin with h|h
          .exact hv q (U▸A▸C) h
          .have:=hp.lt q (U▸A▸C); omega)
         rw[show V=ext V [] from rfl];simp only[gV,Nat.reduceLT]
         refine aG ⟨(r,k.attribute n,w1,p2),by simp only[]; omega,j,M,A.trans U,hrg2,f,?_,?_⟩<;>simp only[Z,aF,Nat.reduceEqDiff])
def Ih(i:Nat)(k:Int)(f:Nat):MapEntry:={key:=.int .u8 k,val:=.func (.func f) #[] #[],born:=i}
def VA:List MapEntry:=[]
def KP:List MapEntry:=VA++[Ih 0 65 138]
def LI:List MapEntry:=KP++[Ih 1 66 139]
def LP:List MapEntry:=LI++[Ih 2 67 140]
def KS:List MapEntry:=LP++[Ih 3 68 141]
def L3:List MapEntry:=KS++[Ih 4 71 142]
def Ls:List MapEntry:=L3++[Ih 5 100 143]
def Kn:List MapEntry:=Ls++[Ih 6 72 144]
def LN:List MapEntry:=Kn++[Ih 7 102 144]
def J5:List MapEntry:=LN++[Ih 8 74 145]
def EK:List MapEntry:=J5++[Ih 9 75 146]
def D8:List MapEntry:=EK++[Ih 10 76 147]
def En:List MapEntry:=D8++[Ih 11 77 148]
def E9:List MapEntry:=En++[Ih 12 109 149]
def EI:List MapEntry:=E9++[Ih 13 114 150]
def wv:dO:=fX EI 14
def Py(H:aa)(ok:H.base<=H.next):bF Tryz.prog 115 [] (ext H []) fun out H1=>out=.ok (.map (a9 H.next))/\H1=H.new wv:=by
 obtain⟨b,l⟩:=ac H.next;have m:Tryz.prog.underlying 154=a9 (.map 5 153):=by kernel_rfl
 have n:Tryz.prog.underlying 5=a9 (.int .u8):=by kernel_rfl
 have U:∀(a:List MapEntry)(c:Nat)(k:Int)(f:Nat),Instr.findNow (.int .u8) (.int .u8 k) a 0=a9 bi->b6 Tryz.prog ((ext H []).new (fX a c)) 154 (.map (a9 (b+0))) (.int .u8 k) (.func (.func f) #[] #[])=a9 ((ext H []).new (fX (a++[Ih c k f]) (c+1))):=fun a c k f o=>Iy (H:=ext H []) l ok m n rfl rfl o;have q:b6 Tryz.prog ((ext H []).new (fX [] 0)) 154 (.map (a9 (b+0))) (.int .u8 65) (.func (.func 138) #[] #[])=a9 ((ext H []).new (fX KP 1)):=U [] 0 65 138 rfl;have r:b6 Tryz.prog ((ext H []).new (fX KP 1)) 154 (.map (a9 (b+0))) (.int .u8 66) (.func (.func 139) #[] #[])=a9 ((ext H []).new (fX LI 2)):=U KP 1 66 139 rfl;have s:b6 Tryz.prog ((ext H []).new (fX LI 2)) 154 (.map (a9 (b+0))) (.int .u8 67) (.func (.func 140) #[] #[])=a9 ((ext H []).new (fX LP 3)):=U LI 2 67 140 rfl;have t:b6 Tryz.prog ((ext H []).new (fX LP 3)) 154 (.map (a9 (b+0))) (.int .u8 68) (.func (.func 141) #[] #[])=a9 ((ext H []).new (fX KS 4)):=U LP 3 68 141 rfl;have u:b6 Tryz.prog ((ext H []).new (fX KS 4)) 154 (.map (a9 (b+0))) (.int .u8 71) (.func (.func 142) #[] #[])=a9 ((ext H []).new (fX L3 5)):=U KS 4 71 142 rfl;have v:b6 Tryz.prog ((ext H []).new (fX L3 5)) 154 (.map (a9 (b+0))) (.int .u8 100) (.func (.func 143) #[] #[])=a9 ((ext H []).new (fX Ls 6)):=U L3 5 100 143 rfl;have w:b6 Tryz.prog ((ext H []).new (fX Ls 6)) 154 (.map (a9 (b+0))) (.int .u8 72) (.func (.func 144) #[] #[])=a9 ((ext H []).new (fX Kn 7)):=U Ls 6 72 144 rfl;have A:b6 Tryz.prog ((ext H []).new (fX Kn 7)) 154 (.map (a9 (b+0))) (.int .u8 102) (.func (.func 144) #[] #[])=a9 ((ext H []).new (fX LN 8)):=U Kn 7 102 144 rfl;have B:b6 Tryz.prog ((ext H []).new (fX LN 8)) 154 (.map (a9 (b+0))) (.int .u8 74) (.func (.func 145) #[] #[])=a9 ((ext H []).new (fX J5 9)):=U LN 8 74 145 rfl;have u9:b6 Tryz.prog ((ext H []).new (fX J5 9)) 154 (.map (a9 (b+0))) (.int .u8 75) (.func (.func 146) #[] #[])=a9 ((ext H []).new (fX EK 10)):=U J5 9 75 146 rfl;have e:b6 Tryz.prog ((ext H []).new (fX EK 10)) 154 (.map (a9 (b+0))) (.int .u8 76) (.func (.func 147) #[] #[])=a9 ((ext H []).new (fX D8 11)):=U EK 10 76 147 rfl;have g:b6 Tryz.prog ((ext H []).new (fX D8 11)) 154 (.map (a9 (b+0))) (.int .u8 77) (.func (.func 148) #[] #[])=a9 ((ext H []).new (fX En 12)):=U D8 11 77 148 rfl;have h:b6 Tryz.prog ((ext H []).new (fX En 12)) 154 (.map (a9 (b+0))) (.int .u8 109) (.func (.func 149) #[] #[])=a9 ((ext H []).new (fX E9 13)):=U En 12 109 149 rfl;have j:b6 Tryz.prog ((ext H []).new (fX E9 13)) 154 (.map (a9 (b+0))) (.int .u8 114) (.func (.func 150) #[] #[])=a9 ((ext H []).new (fX EI 14)):=U E9 13 114 150 rfl;refine aI mixed Tryz.func115 rfl Tryz.ntmps115 (zA7 rfl) ?_;simp only[l,Ty,VC,ai,q,r,s,t,u,v,w,A,B,u9,e,g,h,j,Tryz.results115,zW,seval];exact⟨rfl,rfl⟩
def Step.quiet{H H1:aa}{p:Rp}{x:Tm}(g:cx H p x)(m:Mod [] H H1):Step H p H1 p x :=
 ⟨g.of m.next fun n a=>m.get n (g.lt n a) nl,m.mono nl,rfl,fun _ h=>.inl h⟩
def Dg(l:List Int):(eG l).all one=true:=by simp[eG,one]
def GX(l:List Int)(n:Nat):aT n (eG l)=true:=by
 induction l with
 |nil=>rfl
 |cons a l b=>simp only[eG,zB8,aT,aV,Bool.true_and]; exact b
def Fb(H:aa)(w:go)(l:List Int):Prop:=l≠[]/\∃ n o,w=lm (a9 ⟨n,0,if o then bi else a9 0⟩) l.length l.length/\bk H n=a9 ⟨3,o,eG l⟩/\n<H.next
def Fb.at_{H:aa}{w:go}{l:List Int}(h:Fb H w l):eM H w l:=by obtain⟨a,n,o,rfl,b,_⟩:=h;exact .inr ⟨a,n,[],o,rfl,b⟩
def O7{X:aa}{w:go}{l:List Int}{k:Nat}(h:Fb X w l)(b:X.next=k)(B:l.length<=200)(f:X.base<=X.next) :
  ∃ w' G,aE Tryz.prog (ext X [⟨3,ci,[jp kw 0]⟩]) .append ⟨[22,22]⟩ [w,lm (a9 ⟨k+0,0,a9 0⟩) 1 1]=a9 (w',ext G [])/\Fb G w' (l++[0])/\Mod (ae w) X G/\(∀ n∈ae w',X.next<=n):=by
 obtain⟨cn,n,o,rfl,D,g⟩:=h;have j:bk (ext X [⟨3,ci,[jp kw 0]⟩]) (k+0)=a9 ⟨3,ci,[jp kw 0]⟩:=by rw[aZ b nl]; rfl
 have r:bk (ext X [⟨3,ci,[jp kw 0]⟩]) n=a9 ⟨3,o,eG l⟩:=(kf g).trans D;have t:small (l.length+1) 8=true:=by simp only[small,zA6,zE8]; omega
 have u:eG l++[jp kw 0]=eG (l++[0]):=by simp[eG]
 cases o with
 |false =>
  have a:=qZ (P:=Tryz.prog) (H:=ext X [⟨3,ci,[jp kw 0]⟩]) (st:=22) (xt:=22) (e:=3) (sz:=1) (by1:=8) (z:=jp kw 0) (m:=n) (k:=l.length) (n:=k+0) (off:=0) (cnt:=1) (cap:=1) (s:=a9 0)
   m9 m9 m9 m9 rfl m9 r (by rw[jF]; omega) (Dg l) j nl rfl ol t
  have F:(eG l).take (l.length*1)=eG l:=zD4 (by rw[jF]; omega);simp only[F]at a;have c:([Value.int kw 0].drop 0).take (1*1)=[jp kw 0]:=rfl;rw[c,u]at a;have v:=ey (H:=X) (L:=[⟨3,ci,[jp kw 0]⟩]) (e:=3) (l:=eG (l++[0])) (o:=true) (GX _ _);rw[v,zB2]at a;refine⟨_,ext X [⟨3,ci,[jp kw 0]⟩,⟨3,bv,eG (l++[0])⟩],a,⟨by simp,k+1,bv,?_,?_,?_⟩,Mod.ext f,fun q A=>?_⟩
  .rw[ai,b]; simp
  .rw[aZ b nl]; rfl
  .rw[ai,b]; simp
  .simp only[ae,zA5,ai]at A; omega
 |true =>
  have a:=Gn (P:=Tryz.prog) (H:=ext X [⟨3,ci,[jp kw 0]⟩]) (st:=22) (xt:=22) (e:=3) (sz:=1) (by1:=8) (z:=jp kw 0) (m:=n) (k:=l.length) (gO:=eG l) (n:=k+0) (off:=0) (cnt:=1) (cap:=1) (s:=a9 0)
   m9 m9 m9 m9 rfl m9 r (by rw[jF]; omega) (Dg l) j nl rfl ol t
  have c:([Value.int kw 0].drop 0).take (1*1)=[jp kw 0]:=rfl;simp only[c,u]at a;rw[Jx g]at a;have v:=ey (H:=dp X n) (L:=[⟨3,ci,[jp kw 0]⟩]) (e:=3) (l:=eG (l++[0])) (o:=true) (GX _ _);rw[v,zB2]at a;have C:Mod (ae (lm (a9 ⟨n,0,bi⟩) l.length l.length)) X (dp X n):=Mod.cH pm;refine⟨_,ext (dp X n) [⟨3,ci,[jp kw 0]⟩,⟨3,bv,eG (l++[0])⟩],a,⟨by simp,k+1,bv,?_,?_,?_⟩,C.trans (Mod.ext (C.ok f)),fun q A=>?_⟩
  .rw[ai,b]; simp
  .rw[aZ (show (dp X n).next=k from b) nl]; rfl
  .rw[ai,jN,b]; simp
  .simp only[ae,zA5,ai]at A; omega
def RC{X:aa}{w:go}{d:List Int}{a c:Int}(h:Fb X w (d++[a]))(n:Nat)(e:ae w=[n]):Fb (uw X n d.length [jp kw c]) w (d++[c]):=by obtain⟨_,m,o,rfl,f,b⟩:=h;simp only[ae,List.cons.injEq,and_true]at e;subst e;refine⟨by simp,m,o,by simp,?_,by rw[cw]; exact b⟩;rw[bR,f];refine congrArg (fun l=>a9 (Bl.mk 3 o l)) ?_;show dj (eG (d++[a])) d.length [jp kw c]=_;rw[DR,show d.length=(eG d).length from (jF d).symm,pq _ _ _ (by simp[eG])];simp[eG]
def UY{c:UInt8}(h:48<=c):IntKind.u8.wrap ((c.toNat:Int)-48)=(c.toNat:Int)-48:=by have a:=c.toNat_lt;have b:48<=c.toNat:=h;simp only[IntKind.wrap,IntKind.signed,IntKind.bits];simp;omega
def MB(l:List UInt8):cB (ak l)=a9 l:=by
 induction l with
 |nil=>rfl
 |cons c l a =>rw[xS,cB,a];simp
def cW.str{H:aa}{v:go}{l:List UInt8}(h:cW H v l):bB Tryz.prog (ext H []) 25 9 v=a9 (.string ⟨l.toArray⟩,ext H []):=by
 have g:Tryz.prog.underlying 25=a9 (.slice 5):=by kernel_rfl
 have j:Tryz.prog.underlying 9=a9 .string:=by kernel_rfl
 have m:Tryz.prog.underlying 5=a9 (.int .u8):=by kernel_rfl
 have b:∀ a,v=.slice a l.length l.length->cK H 1 l.length (.slice a l.length l.length)=a9 (ak l)->bB Tryz.prog (ext H []) 25 9 v=a9 (.string ⟨l.toArray⟩,ext H []):=by rintro a rfl o;rw[ext_nil];simp only[bB,g,j,o,zA1,zA3,m,MB,zB2]
 rcases h with⟨rfl,rfl⟩|⟨h,n,e,rfl,c⟩|⟨rfl,n,off,k,L,rfl,c,f⟩|⟨rfl,n,rfl,c⟩
 .exact b _ rfl rfl
 .refine b _ rfl ?_;rw[fF c (by simp[fu])];simp only[zF0,rQ];rw[<-fu e,List.drop_left,zD4 (by simp[fu])]
 .refine b _ rfl ?_;have:=fF (sz:=1) (cnt:=0) (n:=n) (off:=off) (len:=0) (cap:=0) (s:=a9 (k+1)) c (by simp; exact f);simpa[ak]using this
 .refine b _ rfl ?_;have:=fF (sz:=1) (cnt:=0) (n:=n) (off:=0) (len:=0) (cap:=0) (s:=a9 0) c nl;simpa[ak]using this
def Uf(l m:List UInt8):((⟨l.toArray⟩:ByteArray).toList == (⟨m.toArray⟩:ByteArray).toList)=f7 (l=m):=by
 rw[ByteArray.toList_eq,ByteArray.toList_eq];by_cases h:l=m
 .subst h; simp
 .simp[h]
def BA{x:Tm}{f:UInt8}{l:List Int}(h:f≠65/\f≠66/\f≠67/\f≠68/\f≠71/\f≠100/\f≠72/\f≠102/\f≠74/\f≠75/\f≠76/\f≠77/\f≠109/\f≠114):x.cQ f l=x:=by obtain⟨j,k,m,n,o,q,r,s,t,a,b,c,e,g⟩:=h;rw[Tm.cQ,if_neg j,if_neg k,if_neg m,if_neg n,if_neg o,if_neg q,if_neg (fun h=>h.elim r s),if_neg t,if_neg a,if_neg b,if_neg c,if_neg e,if_neg g]
def Tm.Sz.cQ{x:Tm}(s:x.Sz)(f:UInt8)(l:List Int)(v:1<=count l):(x.cQ f l).Sz:=by
 obtain⟨n,e⟩:∃ n:Nat,count l=n:=⟨(count l).toNat,by omega⟩
 unfold Tm.cQ;by_cases g:f=65
 .rw[if_pos g]; exact s.bQ _ _
 rw[if_neg g];by_cases h:f=66
 .rw[if_pos h]; exact s.bQ _ _
 rw[if_neg h];by_cases j:f=67
 .rw[if_pos j]; exact s.bQ _ _
 rw[if_neg j];by_cases k:f=68
 .rw[if_pos k]; exact s.bQ _ _
 rw[if_neg k];by_cases m:f=71
 .rw[if_pos m]; exact s.bQ _ _
 rw[if_neg m];by_cases o:f=100
 .rw[if_pos o]; exact s.bQ _ _
 rw[if_neg o];by_cases q:f=72\/f=102
 .rw[if_pos q]; exact s.bQ _ _
 rw[if_neg q];by_cases r:f=74
 .rw[if_pos r]; exact s.ig l
 rw[if_neg r];by_cases t:f=75
 .rw[if_pos t]; exact (s.cg l).1
 rw[if_neg t];by_cases u:f=76
 .rw[if_pos u]; rw[e]; exact s.lines _ _
 rw[if_neg u];by_cases a:f=77
 .rw[if_pos a]; rw[e]; exact s.lines _ _
 rw[if_neg a];by_cases b:f=109
 .rw[if_pos b]; exact s.dJ _
 rw[if_neg b];by_cases c:f=114
 .rw[if_pos c]; exact s.region l
 rw[if_neg c];exact s
def BX(l:List Int):1<=count l:=by simp only[count]; omega
def Tm.Sz.M0{x:Tm}(s:x.Sz)(b:Bool):Tm.Sz {x with shown:=b} :=
 ⟨s.h1,s.h2,s.w1,s.w2,s.ws,s.r1,s.r2,s.c1,s.c2,s.sr1,s.sr2,s.sc1,s.sc2,s.t1,s.t2,s.t3,s.md,s.hd⟩
def Tm.Sz.dP{x:Tm}(s:x.Sz)(f:UInt8):(x.dP f).Sz:=by
 unfold Tm.dP;split
 .exact s.M0 _
 .split
  .exact s.cQ f _ (BX _)
  .exact s
def lB{c:UInt8}{n:Nat}(a:n<256):f7 ((c.toNat:Int)=(n:Int))=f7 (c=UInt8.ofNat n):=by
 have:(c.toNat:Int)=(n:Int) ↔ c=UInt8.ofNat n:=by rw[<-UInt8.toNat_inj,UInt8.toNat_ofNat_of_lt' a];omega
 simp only[this]
def AB:List (Nat × Nat):=[(65,138),(66,139),(67,140),(68,141),(71,142),(100,143),(72,144),(102,144),(74,145),(75,146),(76,147),(77,148),(109,149),(114,150)]
def oT(n:Nat):Option Nat:=(AB.find? fun q=>Nat.beq q.1 n).map (·.2)
def U2:Option Nat->go
 |some f=>.func (.func f) #[] #[]
 |none=>.nilFunc
def Rb(n:Nat):Bool:=match Instr.findNow (.int .u8) (.int .u8 (n:Int)) EI 0,oT n with
 |some (a9 (_,.func (.func f) ⟨[]⟩ ⟨[]⟩)),a9 g=>Nat.beq f g
 |some bi,bi=>bv
 |_,_=>ci
def IP:((List.range 256).all Rb)=true:=by kernel_rfl
def Om{X:aa}(c:UInt8):mR Tryz.prog (X.new wv) 154 (.map (a9 X.next)) (.int .u8 (c.toNat:Int)) ci=a9 (U2 (oT c.toNat)):=by
 have h:Tryz.prog.underlying 154=a9 (.map 5 153):=by kernel_rfl
 have j:Tryz.prog.underlying 5=a9 (.int .u8):=by kernel_rfl
 have k:zeroOf Tryz.prog 153=a9 .nilFunc:=by kernel_rfl
 have l:CF (X.new wv) (a9 X.next)=a9 ⟨EI⟩:=by simp only[CF,aa.fk,if_true];rfl
 have a:=zC3.1 IP c.toNat (zF7.2 c.toNat_lt);unfold Rb at a;simp only[mR,h,l,j,zA1,zA3,qg,mQ,zD8,if_true,k];split at a
 .rename_i i f g b e;rw[b,e,Nat.eq_of_beq_eq_true a];rfl
 .rename_i b e;rw[b,e];rfl
 .cases a
def Te(H:aa)(p:Rp)(x:Tm)(v:go)(l:List Int)(c:UInt8)(f:Nat)(g:cx H p x)(s:x.Sz)(ok:H.base<=H.next)(b:ma H v l)(k:∀ n∈ae v,n∉p.aM)(j:oT c.toNat=a9 f):iK f [v] H p (.tuple #[]) (x.cQ c l):=by
 have e:(c.toNat,f)∈AB:=by unfold oT at j;simp only[zB5]at j;obtain⟨q,m,o⟩:=j;have r:=List.find?_some m;have t:q.1=c.toNat:=Nat.eq_of_beq_eq_true r;rw[<-t,<-o];exact List.mem_of_find?_eq_some m
 have a:∀ n:UInt8,c.toNat=n.toNat->c=n:=fun n h=>UInt8.toNat_inj.1 h;simp only[AB,zA8,i9,zD7,or_false]at e
 rcases e with⟨h,rfl⟩|⟨h,rfl⟩|⟨h,rfl⟩|⟨h,rfl⟩|⟨h,rfl⟩|⟨h,rfl⟩|⟨h,rfl⟩|⟨h,rfl⟩|⟨h,rfl⟩|⟨h,rfl⟩|⟨h,rfl⟩|⟨h,rfl⟩|⟨h,rfl⟩|⟨h,rfl⟩
 .have:=a 65 h; subst this; exact Wr H p x v l g s ok b
 .have:=a 66 h; subst this; exact UQ H p x v l g s ok b
 .have:=a 67 h; subst this; exact S4 H p x v l g s ok b
 .have:=a 68 h; subst this; exact U5 H p x v l g s ok b
 .have:=a 71 h; subst this; exact Sd H p x v l g s ok b
 .have:=a 100 h; subst this; exact SB H p x v l g s ok b
 .have:=a 72 h; subst this; exact Fh H p x v l g s ok b
 .have:=a 102 h; subst this; exact Fh H p x v l g s ok b
 .have:=a 74 h; subst this; exact JA H p x v l g s ok b k
 .have:=a 75 h; subst this; exact Ba H p x v l g s ok b
 .have:=a 76 h; subst this; exact AY H p x v l g s ok b
 .have:=a 77 h; subst this; exact zQ H p x v l g s ok b
 .have:=a 109 h; subst this; exact E0 H p x v l g ok b k
 .have:=a 114 h; subst this; exact OS H p x v l g s ok b
def zp{x:Tm}{l:List Int}{c:UInt8}(b:oT c.toNat=bi):x.cQ c l=x:=by have a:∀ n:UInt8,oT n.toNat≠bi->c≠n:=fun n h e=>h (e▸b);refine BA ⟨a 65 ol,a 66 ol,a 67 ol,a 68 ol,a 71 ol,a 100 ol,a 72 ol,a 102 ol,a 74 ol,a 75 ol,a 76 ol,a 77 ol,a 109 ol,a 114 ol⟩
def pS:∀(b:List UInt8)(d:List Int)(a:Int)(l:List Int),numbers b d a=a9 l->l≠[]/\l.length<=b.length+d.length+1/\((∀ n∈d,0<=n/\n<=9999)->0<=a/\a<=9999->∀ n∈l,0<=n/\n<=9999)
 |[],d,a,l,h=>by
  simp only[numbers,i8]at h;subst h;refine⟨by simp,by simp,fun g f n e=>?_⟩;simp only[zB1,zA5]at e;rcases e with e|rfl
  .exact g n e
  .exact f
 |c::r,d,a,l,h=>by
  unfold numbers at h;by_cases g:c=59
  .rw[if_pos g]at h;obtain⟨j,o,k⟩:=pS r _ _ l h;refine⟨j,by simp only[zB3,zA9,zB4]at o ⊢; omega,fun f m=>k (fun n e=>?_) ⟨by omega,by omega⟩⟩;simp only[zB1,zA5]at e;rcases e with e|rfl
   .exact f n e
   .exact m
  .rw[if_neg g]at h;by_cases f:48<=c/\c<=57
   .rw[if_pos f]at h;obtain⟨j,o,k⟩:=pS r _ _ l h;refine⟨j,by simp only[zA9]; omega,fun m q=>k m ?_⟩;have s:48<=c.toNat:=f.1;omega
   .rw[if_neg f]at h; cases h
def MA(H:aa)(p:Rp)(x:Tm)(c:UInt8)(g:cx H p x)(s:x.Sz)(ok:H.base<=H.next)(hpl:x.params.length<=64):iK 83 [kA c] H p (.tuple #[]) (x.dP c):=by
 obtain⟨b,hb⟩:=ac H.next;have hT:p.t<b:=hb▸g.lt p.t pi;have h1:=g.cell;simp only[bh]at h1;have hstr:=g.par.str;have hsq:(((⟨x.params.toArray⟩:ByteArray).toList == (⟨#[63,50,53]⟩:ByteArray).toList))=f7 (x.params=[63,50,53]):=Uf x.params [63,50,53]
 obtain⟨dq,hdq⟩:∃ d,f7 (x.params=[63,50,53])=d:=⟨_,rfl⟩
 rw[hdq]at hsq;have Sw:x.params=[63,50,53] ↔ dq=true:=by rw[<-hdq,decide_eq_true_iff]
 have K:=lB (c:=c) (n:=104) lw;have M:=lB (c:=c) (n:=108) lw;rw[show (UInt8.ofNat 104)=104 from rfl,show ((104:Nat):Int)=104 from rfl]at K;rw[show (UInt8.ofNat 108)=108 from rfl,show ((108:Nat):Int)=108 from rfl]at M
 obtain⟨dh,hdh⟩:∃ d,f7 (c=104)=d:=⟨_,rfl⟩
 obtain⟨dl,hdl⟩:∃ d,f7 (c=108)=d:=⟨_,rfl⟩
 have eh:c=104 ↔ dh=true:=by rw[<-hdh,decide_eq_true_iff]
 have el:c=108 ↔ dl=true:=by rw[<-hdl,decide_eq_true_iff]
 rw[hdh]at K;rw[hdl]at M
 have key:x.dP c=cond (dq&&(dh||dl)) {x with shown:=dh} (match numbers x.params [] 0 with
  |some l=>x.cQ c l
  |none=>x):=by
  unfold Tm.dP;simp only[Sw,eh,el];cases dq<;>cases dh<;>cases dl<;>rfl
 rw[key];refine aI mixed Tryz.func83 rfl Tryz.ntmps83 (zA7 rfl) ?_;have hnoS:∀ a b:ByteArray,fV Tryz.prog (ext H []) .eql 9 (.string a) (.string b)=none:=fun a b=>by kernel_rfl
 cases hD:(dq&&(dh||dl)) with
 |true =>
  simp only[hb,hT,h1,bp,hstr,cond_true,zW,seval];refine (KC rfl rfl rx rx ol (hnoS _ _)).mpr ?_
  cases dq<;>cases dh<;>cases dl<;>first
   |(exfalso; revert hD; decide)
   | (simp only [hb, hT, h1, hsq, K, M, Tryz.results83, zW, seval]
      exact⟨trivial,p,g.one (y:={x with shown:=true}) rfl rfl rfl rfl⟩)
   | (simp only [hb, hT, h1, hsq, K, M, Tryz.results83, zW, seval]
      exact⟨trivial,p,g.one (y:={x with shown:=false}) rfl rfl rfl rfl⟩)
 |false =>
 rw[cond_false];refine lg (fun B H'=>H'=H/\B 0=li (a9 ⟨p.t,0,bi⟩)/\B 1=kA c) ?_ ?_
 .simp only[hb,hT,h1,bp,hstr,zW,seval];refine (KC rfl rfl rx rx ol (hnoS _ _)).mpr ?_
  cases dq<;>cases dh<;>cases dl<;>first
   |(exfalso; revert hD; decide)
   | (simp only [hsq, K, M, zW, seval]
      refine ag ⟨rfl,?_,?_⟩<;>simp only[aF,seval])
 rintro E X ⟨hX,g0,g1⟩;rw[hX];clear hX X;obtain⟨apv,hpv⟩:=g.par.sl;have h2:=h1;rw[hpv]at h2
 -- the first number
 have hw0:Fb (ext H [⟨3,ci,[jp kw 0]⟩]) (lm (a9 ⟨b+0,0,a9 0⟩) 1 1) [0]:=⟨by simp,b+0,ci,rfl,by rw[aZ hb nl]; rfl,by rw[ai,hb]; simp⟩
 rw[show H=ext H [] from rfl];simp only[g0,hb,hT,h2,zW,seval];refine da fun B hE=>?_;have f0:B 0=li (a9 ⟨p.t,0,bi⟩):=by rw[hE]; simp only[g0,aF,seval]
 have f1:B 1=kA c:=by rw[hE]; simp only[g1,aF,seval]
 have T:B 4=lm (a9 ⟨b+0,0,a9 0⟩) 1 1:=by rw[hE]; rfl
 have F:B 32=.slice apv x.params.length x.params.length:=by rw[hE]; rfl
 have C:B 33=jp kw (x.params.length:Int):=by rw[hE]; rfl
 have I:B 34=jp kw ((0:Nat):Int):=by rw[hE]; rfl
 clear hE g0 g1 E;refine aS (fun B H'=>∃ l w,Mod [] H H'/\numbers x.params [] 0=a9 l/\Fb H' w l/\(∀ n∈ae w,H.next<=n)/\B 0=li (a9 ⟨p.t,0,bi⟩)/\B 1=kA c/\B 4=w) ?_ ?_
 .refine cp (fun (q:Nat × List Int × Int × go) B H'=>Mod [] H H'/\q.1<=x.params.length/\numbers (x.params.drop q.1) q.2.1 q.2.2.1=numbers x.params [] 0/\q.2.1.length<=q.1/\0<=q.2.2.1/\q.2.2.1<=9999/\Fb H' q.2.2.2 (q.2.1++[q.2.2.1])/\(∀ n∈ae q.2.2.2,H.next<=n)/\B 0=li (a9 ⟨p.t,0,bi⟩)/\B 1=kA c/\B 4=q.2.2.2/\B 32=.slice apv x.params.length x.params.length/\B 33=jp kw (x.params.length:Int)/\B 34=jp kw (q.1:Int)) (fun q=>x.params.length-q.1) (0,[],0,lm (a9 ⟨b+0,0,a9 0⟩) 1 1)
   ⟨Mod.ext ok,zB7 _,rfl,zA4 _,Int.le_refl _,by simp only; omega,hw0,fun n J=>by simp only[ae,zA5]at J; omega,f0,f1,T,F,C,I⟩ ?_
  clear f0 f1 T F C I hw0 B;rintro⟨i,d,a,w⟩ E X ⟨O,hi,j,hdl',ha0,ha9,hw,R,f0,f1,T,F,C,I⟩;simp only at O hi j hdl' ha0 ha9 hw R T I;rw[show X=ext X [] from rfl];have V:=O.ok ok;by_cases hie:i=x.params.length
  .have hd:f7 ((i:Int)<(x.params.length:Int))=false:=decide_eq_false lw;simp only[C,I,hd,zW,seval];rw[hie,List.drop_length]at j;refine ag ⟨_,w,O,?_,hw,R,?_,?_,?_⟩<;>try simp only[f0,f1,T,aF,seval]
   rw[<-j]; rfl
  .have W:i<x.params.length:=by omega
   have hd:f7 ((i:Int)<(x.params.length:Int))=true:=decide_eq_true lw;obtain⟨xb,U⟩:=ac X.next
   obtain⟨r,hch⟩:∃ r,x.params[i]?=a9 r:=⟨_,zB0 W⟩
   obtain⟨n1,o1,i1,m1,ld1⟩:=g.par.get hch;have hn1:n1<H.next:=g.lt n1 (by simp[Rp.aM,m1]);have ld1':∀ q,rL Tryz.prog 5 o1 (HY (bk X n1) q)=a9 (kA r):=fun q=>by rw[O.bk hn1 nl]; exact ld1 q
   have hn1x:n1<xb:=U▸O.lt hn1;rw[hpv]at i1;have hdrop:x.params.drop i=r::x.params.drop (i+1):=by rw[zH4 W];congr 1;rw[zB0 W]at hch;exact Option.some.inj hch
   rw[hdrop]at j;have hw':=hw;obtain⟨_,nw,o,A,hwb,hwlt⟩:=hw';have hlen:(d++[a]).length=d.length+1:=by simp
   rw[hlen]at A;have hwi:aW Tryz.prog 22 (lm (a9 ⟨nw,0,if o=bv then bi else a9 0⟩) (d.length+1) (d.length+1)) (jp kw (d.length:Int))=a9 (li (a9 ⟨nw,d.length,bi⟩)):=by have:=Qq (len:=d.length+1) (cap:=d.length+1) (n:=nw) (off:=0) (s:=if o=bv then bi else a9 0) (i:=(d.length:Int)) (k:=d.length) rfl lw;rw[zC2]at this;exact this
   have hwl:IntKind.i64.wrap (((d.length+1:Nat):Int)-1)=(d.length:Int):=by have:=aR (n:=((d.length+1:Nat):Int)-1) lw lw;rw[show IntKind.i64.wrap (((d.length+1:Nat):Int)-1)=_ from this]; omega
   have hws:=ba (show i<1000000 by omega);have q59:=lB (c:=r) (n:=59) lw;rw[show (UInt8.ofNat 59)=59 from rfl,show ((59:Nat):Int)=59 from rfl]at q59;have hwx:nw<xb:=U▸hwlt;obtain⟨L,hL⟩:=ac (d.length+1);rw[hL]at A hwi hwl;rw[A]at T;by_cases h59:r=59
   .have S:f7 ((r.toNat:Int)=59)=true:=by rw[q59]; exact decide_eq_true h59
    obtain⟨w',G,happ,hwG,mG,hGn⟩:=O7 hw U pp V;rw[A]at happ;simp only[T,F,C,I,hd,U,hn1x,i1,ld1',hwl,hwi,S,happ,hws,zW,seval];refine aG ⟨(i+1,d++[a],0,w'),by simp only; omega,O.step mG ok (fun n J=>.inr (R n J)),by simp only; omega,?_,by simp; omega,Int.le_refl _,by simp only; omega,hwG,fun n J=>?_,?_,?_,?_,?_,?_,?_⟩<;>try simp only[f0,f1,F,C,aF,seval]
    .rw[<-j];conv=>rhs; rw[numbers,if_pos h59]
    .have:=hGn n J;have:=O.next;omega
   .have S:f7 ((r.toNat:Int)=59)=false:=by rw[q59]; exact decide_eq_false h59
    by_cases D:48<=r/\r<=57
    .have c1:48<=r.toNat:=D.1;have c2:r.toNat<=57:=D.2;have p1:f7 ((48:Int)<=(r.toNat:Int))=true:=decide_eq_true lw;have p2:f7 ((r.toNat:Int)<=57)=true:=decide_eq_true lw;have ldl:(eG (d++[a]))[d.length]?=a9 (jp kw a):=by rw[BW];simp
     have hs8:=UY D.1;have hcv:∀(Y:aa)(m:Int),bB Tryz.prog Y 5 3 (.int .u8 m)=a9 (jp kw (IntKind.i64.wrap m),Y):=fun Y m=>gF (u:=.int .u8) m9 m9;have hw8:IntKind.i64.wrap ((r.toNat:Int)-48)=(r.toNat:Int)-48:=aR lw lw;have hw10:IntKind.i64.wrap (a*10)=a*10:=aR lw lw;have hw11:IntKind.i64.wrap (a*10+((r.toNat:Int)-48))=a*10+((r.toNat:Int)-48):=aR lw lw;have hst:∀ N v,Cc Tryz.prog 3 N d.length (jp kw v) (a9 ⟨3,o,eG (d++[a])⟩)=a9 ⟨3,o,dj (eG (d++[a])) d.length [jp kw v]⟩:=fun N v=>oG (v:=jp kw v) m9 (by simp only[Value.cells,jF,zB3,zA9,zB4]; omega) rfl rfl;have hset:=RC (c:=min 9999 (a*10+((r.toNat:Int)-48))) hw nw (by rw[A]; simp[ae]);simp only[T,F,C,I,hd,U,hn1x,i1,ld1',hwl,hwi,S,p1,p2,hwx,ldl,hs8,bp,hcv,hw8,hw10,hw11,hwb,hst,hws,zW,seval];refine aG ⟨(i+1,d,min 9999 (a*10+((r.toNat:Int)-48)),w),by simp only; omega,O.step (W':=[nw]) (Mod.uw nl) ok (fun n J=>.inr (R n (by rw[A]; simpa[ae]using J))),by simp only; omega,?_,by simp only; omega,by simp only; omega,by simp only; omega,hset,R,?_,?_,?_,?_,?_,?_⟩<;>try simp only[f0,f1,T,F,C,aF,seval]
     .rw[<-j];conv=>rhs; rw[numbers,if_neg h59,if_pos D]
     .exact A.symm
    .have hnone:numbers x.params [] 0=none:=by
      rw[<-j,numbers,if_neg h59,if_neg D]
     rw[hnone]
     obtain⟨e1,he1⟩:∃ e,f7 ((48:Int)<=(r.toNat:Int))=e:=⟨_,rfl⟩
     obtain⟨e2,he2⟩:∃ e,f7 ((r.toNat:Int)<=57)=e:=⟨_,rfl⟩
     have hno:¬(e1=bv/\e2=bv):=fun h=>by have t1:=of_decide_eq_true (he1.trans h.1);have t2:=of_decide_eq_true (he2.trans h.2);exact D (zA0 (show 48<=r.toNat by omega) (show r.toNat<=57 by omega))
     cases e1<;>cases e2<;>first
      |exact absurd ⟨rfl,rfl⟩ hno
      | (simp only [T, F, C, I, hd, U, hn1x, i1, ld1', hwl, hwi, S, he1, he2, cO, Tryz.results83, zW, seval]
         exact⟨trivial,p,Step.quiet g O⟩)
 clear f0 f1 T F C I B;rintro E X ⟨l,w,O,j,hw,R,f0,f1,T⟩;rw[j];have V:=O.ok ok;have gX:cx X p x:=g.of O.next fun n J=>O.get n (g.lt n J) nl;obtain⟨q1,q2,q3⟩:=pS _ _ _ _ j;rw[show X=ext X [] from rfl];simp only[zW];refine (Py X V).mono ?_;rintro _ Y ⟨rfl,rfl⟩;have mY:Mod [] X (X.new wv):=Mod.new V;have okY:=mY.ok V;have gY:cx (X.new wv) p x:=gX.of mY.next fun n J=>mY.get n (gX.lt n J) nl;have hlk:=Om (X:=X) c;rw[show X.new wv=ext (X.new wv) [] from rfl]at hlk;have hwY:eM (X.new wv) w l:=hw.at_.of fun n J=>by obtain⟨_,nw,o,A,_,W⟩:=hw;rw[A]at J;simp only[ae,zA5]at J;exact mY.get n lw nl
 have hpY:ma (X.new wv) w l:=⟨hwY,q1,q3 nl ⟨Int.le_refl _,by omega⟩,by simp only[zB4]at q2; omega,fun n J=>by
  obtain⟨_,nw,o,A,_,W⟩:=hw;rw[A]at J;simp only[ae,zA5]at J;have:=mY.next
  omega⟩
 have hvY:∀ n∈ae w,n∉p.aM:=fun n J hb'=>by have:=R n J;have:=g.lt n hb';omega
 rw[show X.new wv=ext (X.new wv) [] from rfl]
 cases hf:oT c.toNat with
 |none =>rw[hf]at hlk;rw[zp hf];simp only[f1,HC,hlk,U2,zW,seval];refine (pj (p:=.nilFunc) (q:=.nilFunc) (v:=ls ci) rfl rfl rfl rfl ol m9 rfl rfl m9 rfl).mpr ?_;simp only[Tryz.results83,zW,seval];exact⟨trivial,p,Step.quiet g (O.trans mY)⟩
 |some f =>
  rw[hf]at hlk;have hfin:=Te (X.new wv) p x w l c f gY s okY hpY hvY hf;simp only[f0,f1,T,HC,hlk,U2,zW,seval]
  have hbody:aD Tryz.prog f=true:=by
   have hmem:f∈AB.map (·.2):=by unfold oT at hf;simp only[zB5]at hf;obtain⟨q,h1,h2⟩:=hf;exact zC1.2 ⟨q,List.mem_of_find?_eq_some h1,h2⟩
   have hall:(AB.map (·.2)).all (aD Tryz.prog)=true:=by kernel_rfl
   exact zC3.1 hall f hmem
  refine qY (f:=f) (ca:=[]) rfl rfl rfl hbody ?_;simp only[aF,seval];refine bF.mono (show bF Tryz.prog f [li (a9 ⟨p.t,0,bi⟩),w] (ext (X.new wv) []) _ from hfin) ?_;rintro _ Z ⟨rfl,p1,st⟩;rw[show Z=ext Z [] from rfl];simp only[Tryz.results83,gV,seval];exact⟨trivial,p1,(Step.quiet g (O.trans mY)).trans ok st⟩
def ni{H:aa}{n:Nat}{b:Bl}(h:bk H n=a9 b):∃ rv,bO H n=a9 (rv,b.e,b.o)/\rv.n=b.l.length:=by obtain⟨rv,a,c,f⟩:=sw h;exact⟨rv,a,c⟩
def DI{P:ip}{H:aa}{st xt e:io}{sz by1 m off k n off2 cnt cap:Nat}{sp s:Option Nat}{z:go}{b bm:Bl}(I:P.underlying st=a9 (.slice e))(q:br P e=a9 sz)(r:bytesOf P e=a9 by1)(J:zeroOf P e=a9 z)(t:z.cells.toList.length=sz)(hi:fE P xt=a9 ci)
  (u:bk H m=a9 bm) (K:bm.e=e) (L:bm.o=bv) (v:off+k*sz<=bm.l.length) (f:((bm.l.drop off).take (k*sz)).all one=bv) (w:sp=bi\/(∃ j,sp=a9 (j+1))/\k=0)
  (M:bk H n=a9 b) (h:off2+cnt*sz<=b.l.length) (a:b.l.all one=bv) (S:0<cnt) (A:small (k+cnt) by1=bv) :
  aE P H .append ⟨[st,xt]⟩ [lm (a9 ⟨m,off,sp⟩) k k,lm (a9 ⟨n,off2,s⟩) cnt cap]=(cJ (H.cH m bi) e ((bm.l.drop off).take (k*sz)++(b.l.drop off2).take (cnt*sz)) bv).map fun g=>(lm (a9 ⟨H.next,0,bi⟩) (k+cnt) (k+cnt),g):=by
 have O:((b.l.drop off2).take (cnt*sz)).length=cnt*sz:=by simp; omega
 have B:((bm.l.drop off).take (k*sz)).length=k*sz:=by simp; omega
 obtain⟨rv,C,D⟩:=ni u;have c:=jx u;rw[L]at c;have R:=fF (sz:=sz) (cnt:=k) (off:=off) (len:=k) (cap:=k) (s:=sp) u v
 have F:fR H ⟨m,off,sp⟩ k k=a9 false:=by
  rcases w with rfl|⟨⟨j,rfl⟩,rfl⟩
  .simp only[fR,cX,c,zB2,zD1]
  .simp only[fR,c];rfl
 simp only[aE,e7,I,q,r,J,hi,zA1,zA3,jD,fF M h,O,t,A,and_self,if_true,dv];rw[if_neg lw];simp only[R,zA3,B,f,nc a,decide_true,zD8,if_true,F,C];rw[if_pos ⟨K,by rw[zE8,D]; omega⟩];cases cJ (H.cH m bi) e ((bm.l.drop off).take (k*sz)++(b.l.drop off2).take (cnt*sz)) bv<;>rfl
def Cv{X:aa}{v:go}{l:List UInt8}{k:Nat}{c:UInt8}(h:cW X v l)(u:∀ n∈ae v,n<X.next)(w:X.next=k)(Z:l.length<=1000)(A:X.base<=X.next) :
  ∃ G,aE Tryz.prog (ext X [⟨5,ci,[kA c]⟩]) .append ⟨[25,25]⟩ [v,lm (a9 ⟨k+0,0,a9 0⟩) 1 1]=a9 (lm (a9 ⟨k+1,0,bi⟩) (l.length+1) (l.length+1),ext G [])/\cW G (lm (a9 ⟨k+1,0,bi⟩) (l.length+1) (l.length+1)) (l++[c])/\Mod (ae v) X G/\k+1<G.next:=by
 have g:bk (ext X [⟨5,ci,[kA c]⟩]) (k+0)=a9 ⟨5,ci,[kA c]⟩:=by rw[aZ w nl]; rfl
 have o:∀ j,j<=1001->small j 1=true:=fun j hj=>by simp only[small,zA6,zE8]; omega
 have q:([kA c].drop 0).take (1*1)=[kA c]:=rfl;have R:ak l++[kA c]=ak (l++[c]):=by simp[ak]
 have I:Tryz.prog.underlying 25=a9 (.slice 5):=by kernel_rfl
 have J:br Tryz.prog 5=a9 1:=by kernel_rfl
 have K:bytesOf Tryz.prog 5=a9 1:=by kernel_rfl
 have M:zeroOf Tryz.prog 5=a9 (.int .u8 0):=by kernel_rfl
 have O:fE Tryz.prog 25=a9 false:=by kernel_rfl
 -- the result, if nothing is dropped
 have r:∀(L:List go),L=ak (l++[c])->(cJ (ext X [⟨5,ci,[kA c]⟩]) 5 L bv)=a9 (ext X [⟨5,ci,[kA c]⟩,⟨5,bv,ak (l++[c])⟩]):=by rintro L rfl;exact ey (H:=X) (L:=[⟨5,ci,[kA c]⟩]) (vo _ _)
 have t:cW (ext X [⟨5,ci,[kA c]⟩,⟨5,bv,ak (l++[c])⟩]) (lm (a9 ⟨k+1,0,bi⟩) (l.length+1) (l.length+1)) (l++[c]):=by refine .inr (.inl ⟨by simp,k+1,[],by simp,?_⟩);rw[aZ w nl]; rfl
 have D:k+1<(ext X [⟨5,ci,[kA c]⟩,⟨5,bv,ak (l++[c])⟩]).next:=by rw[ai]; simp; omega
 have b:∀ m off sp,m<X.next->(cJ ((ext X [⟨5,ci,[kA c]⟩]).cH m bi) 5 (ak (l++[c])) bv)=a9 (ext (dp X m) [⟨5,ci,[kA c]⟩,⟨5,bv,ak (l++[c])⟩])/\cW (ext (dp X m) [⟨5,ci,[kA c]⟩,⟨5,bv,ak (l++[c])⟩]) (lm (a9 ⟨k+1,0,bi⟩) (l.length+1) (l.length+1)) (l++[c])/\Mod (ae (lm (a9 ⟨m,off,sp⟩) l.length l.length)) X (ext (dp X m) [⟨5,ci,[kA c]⟩,⟨5,bv,ak (l++[c])⟩])/\k+1<(ext (dp X m) [⟨5,ci,[kA c]⟩,⟨5,bv,ak (l++[c])⟩]).next:=by
  intro m off sp hm;have S:(dp X m).next=k:=w;refine⟨?_,?_,?_,by rw[ai,jN]; simp; omega⟩
  .rw[Jx hm];exact ey (H:=dp X m) (L:=[⟨5,ci,[kA c]⟩]) (vo _ _)
  .refine .inr (.inl ⟨by simp,k+1,[],by simp,?_⟩);rw[aZ S nl]; rfl
  .have mD:Mod (ae (lm (a9 ⟨m,off,sp⟩) l.length l.length)) X (dp X m):=Mod.cH pm;exact mD.trans (Mod.ext (mD.ok A))
 rcases h with⟨rfl,rfl⟩|⟨cn,n,e,rfl,F⟩|⟨rfl,n,off,j,L,rfl,F,T⟩|⟨rfl,n,rfl,F⟩
 .have a:=Li (P:=Tryz.prog) (H:=ext X [⟨5,ci,[kA c]⟩]) (st:=25) (xt:=25) (n:=k+0) (off:=0) (cnt:=1) (cap:=1) (s:=a9 0) I J K M rfl O g nl rfl ol (o 1 lw);rw[q,r [kA c] rfl,zB2,ai,w]at a;exact⟨ext X [⟨5,ci,[kA c]⟩,⟨5,bv,ak [c]⟩],a,t,Mod.ext A,D⟩
 .have B:=u n pm;have f:=(kf (L:=[⟨5,ci,[kA c]⟩]) B).trans F;have a:=DI (P:=Tryz.prog) (H:=ext X [⟨5,ci,[kA c]⟩]) (st:=25) (xt:=25) (m:=n) (off:=e.length) (k:=l.length) (n:=k+0) (off2:=0) (cnt:=1) (cap:=1) (s:=a9 0) I J K M rfl O f rfl rfl (by simp[fu]) (nc (JN _) _ _) (.inl rfl) g nl rfl ol (o _ lw);have C:((ak (e++l)).drop e.length).take (l.length*1)=ak l:=by rw[zF0,rQ,<-fu e,List.drop_left,zD4 (by rw[fu]; exact zA4 _)]
  simp only[C,q,R]at a;obtain⟨U,V,W,Y⟩:=b n e.length bi B;rw[U,zB2,ai,w]at a;exact⟨ext (dp X n) [⟨5,ci,[kA c]⟩,⟨5,bv,ak (l++[c])⟩],a,V,W,Y⟩
 .have B:=u n pm;have f:=(kf (L:=[⟨5,ci,[kA c]⟩]) B).trans F;have a:=DI (P:=Tryz.prog) (H:=ext X [⟨5,ci,[kA c]⟩]) (st:=25) (xt:=25) (m:=n) (off:=off) (k:=0) (sp:=a9 (j+1)) (n:=k+0) (off2:=0) (cnt:=1) (cap:=1) (s:=a9 0) I J K M rfl O f rfl rfl (by simp only[zH1,zD5]; exact T) nl (.inr ⟨⟨j,rfl⟩,rfl⟩) g nl rfl ol (o _ lw);have C:(L.drop off).take (0*1)++[kA c]=ak ([]++[c]):=by simp[ak]
  simp only[q,C]at a;obtain⟨U,V,W,Y⟩:=b n off (a9 (j+1)) B;rw[U,zB2,ai,w]at a;exact⟨ext (dp X n) [⟨5,ci,[kA c]⟩,⟨5,bv,ak [c]⟩],a,V,W,Y⟩
 .have B:=u n pm;have f:=(kf (L:=[⟨5,ci,[kA c]⟩]) B).trans F;have a:=qZ (P:=Tryz.prog) (H:=ext X [⟨5,ci,[kA c]⟩]) (st:=25) (xt:=25) (m:=n) (k:=0) (n:=k+0) (off:=0) (cnt:=1) (cap:=1) (s:=a9 0) I J K M rfl O f nl rfl g nl rfl ol (o _ lw);rw[q]at a;rw[show (Bl.mk 5 ci []).l.take (0*1)++[kA c]=ak ([]++[c]) from rfl,r _ rfl,zB2,ai,w]at a;exact⟨ext X [⟨5,ci,[kA c]⟩,⟨5,bv,ak [c]⟩],a,t,Mod.ext A,D⟩
def cx.EP{H H1:aa}{p:Rp}{x y:Tm}(g:cx H p x)(rv pv:go)(m:Mod (p.t::(ae p.rv++ae p.pv)) H H1)(K:bk H1 p.t=a9 ⟨66,ci,bh {p with rv:=rv,pv:=pv} y⟩)(C:y.aj=x.aj)(L:cW H1 rv y.rest)(M:cW H1 pv y.params)
  (hi:∀ n∈ae rv++ae pv,n∈ae p.rv++ae p.pv\/(H.next<=n/\n<H1.next)) (D:(ae rv++ae pv).Nodup):Step H p H1 {p with rv:=rv,pv:=pv} y:=by
 have k:=g.nd;simp only[Rp.aM]at k;have s:=zD6.1 k;have u:=zD6.1 s.2;have I:=u.2;rw[zC8]at I;have F:=zE6.1 I;have v:∀ n∈ae p.rv++ae p.pv,n∈p.aM:=fun n hn=>by simp only[Rp.aM,zA8,zB1]at hn ⊢; rcases hn with h|h<;>simp[h]
 have r:∀ q∈p.rs,q.1∈p.aM:=fun q j=>by simp only[Rp.aM,zA8,zB1,zC1]; exact .inr (.inr (.inl (.inl ⟨q,j,rfl⟩)))
 have A:∀ q∈p.rs,q.1∉p.t::(ae p.rv++ae p.pv):=fun q j hm=>by
  have c:q.1∈p.rs.map (·.1):=zC1.2 ⟨q,j,rfl⟩;rcases zA8.1 hm with e|h
  .exact s.1 (e▸(by simp only[zA8,zB1]; exact .inr (.inl (.inl c))))
  .exact F.2.2 q.1 c q.1 h rfl
 have B:p.rb∉p.t::(ae p.rv++ae p.pv):=fun hm=>by
  rcases zA8.1 hm with e|h
  .exact s.1 (by rw[e]; simp)
  .rcases zB1.1 h with h|h
   .exact u.1 py
   .exact u.1 py
 have f:∀ n∈ae rv++ae pv,n≠p.t/\n≠p.rb/\n∉p.rs.map (·.1):=fun n hn=>by
  rcases hi n hn with h|⟨h,_⟩
  .refine⟨fun e=>s.1 (e▸?_),fun e=>u.1 (e▸?_),fun e=>F.2.2 n e n h rfl⟩<;>rcases zB1.1 h with h|h<;>simp[h]
  .refine⟨fun e=>?_,fun e=>?_,fun e=>?_⟩
   .have:=g.lt p.t pi; omega
   .have:=g.lt p.rb pi; omega
   .obtain⟨q,j,rfl⟩:=zC1.1 e;have:=g.lt q.1 (r q j); omega
 have o:∀ n∈({p with rv:=rv,pv:=pv}:Rp).aM,n∈p.aM\/(H.next<=n/\n<H1.next):=by
  intro n hn;simp only[Rp.aM,zA8,zC8]at hn;rcases hn with rfl|rfl|hn
  .exact .inl pi
  .exact .inl pi
  .rcases zB1.1 hn with h|h
   .obtain⟨q,j,rfl⟩:=zC1.1 h;exact .inl (r q j)
   .exact (hi n h).imp (v n) id
 have O:y.w=x.w:=by simp only[Tm.w,C]
 have R:y.h=x.h:=by simp only[Tm.h,C]
 refine⟨⟨K,?_,?_,?_,L,M,?_,fun n hn=>?_⟩,m.mono ?_,rfl,fun n hn=>(o n hn).imp id (fun h=>h.1)⟩
 .rw[m.bk (g.lt _ pi) B,g.rows,O]
 .rw[R]; exact g.len
 .intro i q l j J;rw[C]at J;have c:=zC5 j;rw[m.bk (g.lt _ (r q c)) (A q c)];exact g.row i q l j J
 .simp only[Rp.aM,zC8];refine zD6.2 ⟨?_,zD6.2 ⟨?_,zE6.2 ⟨F.1,D,fun a S b T e=>(f b T).2.2 (e▸S)⟩⟩⟩
  .intro hm;rcases zA8.1 hm with e|hm
   .exact s.1 (by rw[e]; simp)
   .rcases zB1.1 hm with h|h
    .exact s.1 (by simp only[zA8,zB1]; exact .inr (.inl (.inl h)))
    .exact (f _ h).1 rfl
  .intro hm;rcases zB1.1 hm with h|h
   .exact u.1 (by simp only[zB1]; exact .inl (.inl h))
   .exact (f _ h).2.1 rfl
 .rcases o n hn with h|h
  .exact m.lt (g.lt n h)
  .exact h.2
 .intro n hn;rcases zA8.1 hn with rfl|h
  .simp[Rp.aM]
  .exact v n h
def Rj{c:UInt8}{n:Nat}(a:n<256):f7 ((n:Int)<=(c.toNat:Int))=f7 (UInt8.ofNat n<=c):=by
 have:(n:Int)<=(c.toNat:Int) ↔ UInt8.ofNat n<=c:=by rw[UInt8.le_iff_toNat_le,UInt8.toNat_ofNat_of_lt' a];omega
 simp only[this]
def VM{c:UInt8}{n:Nat}(a:n<256):f7 ((c.toNat:Int)<=(n:Int))=f7 (c<=UInt8.ofNat n):=by
 have:(c.toNat:Int)<=(n:Int) ↔ c<=UInt8.ofNat n:=by rw[UInt8.le_iff_toNat_le,UInt8.toNat_ofNat_of_lt' a];omega
 simp only[this]
def Rl{c:UInt8}{n:Nat}(a:n<256):f7 ((c.toNat:Int)<(n:Int))=f7 (c<UInt8.ofNat n):=by
 have:(c.toNat:Int)<(n:Int) ↔ c<UInt8.ofNat n:=by rw[UInt8.lt_iff_toNat_lt,UInt8.toNat_ofNat_of_lt' a];omega
 simp only[this]
def Vt{c:UInt8}{n:Nat}(a:n<256):f7 ((n:Int)<(c.toNat:Int))=f7 (UInt8.ofNat n<c):=by
 have:(n:Int)<(c.toNat:Int) ↔ UInt8.ofNat n<c:=by rw[UInt8.lt_iff_toNat_lt,UInt8.toNat_ofNat_of_lt' a];omega
 simp only[this]
def Tm.Sz.Ez{x:Tm}(s:x.Sz)(m:Bool)(l:List UInt8):Tm.Sz {x with middle:=m,params:=l} :=
 ⟨s.h1,s.h2,s.w1,s.w2,s.ws,s.r1,s.r2,s.c1,s.c2,s.sr1,s.sr2,s.sc1,s.sc2,s.t1,s.t2,s.t3,s.md,s.hd⟩
def Tm.Sz.parameter{x:Tm}(s:x.Sz)(c:UInt8):(x.parameter c).1.Sz:=by
 unfold Tm.parameter;by_cases a:c=27
 .rw[if_pos a]; exact s
 rw[if_neg a];by_cases b:64<=c/\c<=126
 .rw[if_pos b];simp only;split
  .exact s.dP c
  .exact s
 rw[if_neg b];by_cases e:c<32\/c>126\/(c ≥ 48/\x.middle=bv)
 .rw[if_pos e]; exact s
 rw[if_neg e];simp only;split
 .exact s.Ez _ _
 .exact s.Ez _ x.params
def GO(H:aa)(p:Rp)(x:Tm)(c:UInt8)(g:cx H p x)(s:x.Sz)(ok:H.base<=H.next)(hpl:x.params.length<=65):iK 44 [kA c] H p (jp kw ((x.parameter c).2:Int)) (x.parameter c).1:=by
 obtain⟨b,S⟩:=ac H.next;have hT:p.t<b:=S▸g.lt p.t pi;have h1:=g.cell;simp only[bh]at h1;obtain⟨apv,hpv⟩:=g.par.sl;have h2:=h1;rw[hpv]at h2
 obtain⟨B,T⟩:∃ d,f7 (c=27)=d:=⟨_,rfl⟩
 obtain⟨l,U⟩:∃ d,f7 (64<=c)=d:=⟨_,rfl⟩
 obtain⟨j,C⟩:∃ d,f7 (c<=126)=d:=⟨_,rfl⟩
 obtain⟨o,W⟩:∃ d,f7 (c<32)=d:=⟨_,rfl⟩
 obtain⟨k,D⟩:∃ d,f7 (126<c)=d:=⟨_,rfl⟩
 obtain⟨q,Y⟩:∃ d,f7 (48<=c)=d:=⟨_,rfl⟩
 obtain⟨dl48,F⟩:∃ d,f7 (c<48)=d:=⟨_,rfl⟩
 obtain⟨r,I⟩:∃ d,x.middle=d:=⟨_,rfl⟩
 obtain⟨dp,hdp⟩:∃ d,f7 (x.params.length<=64)=d:=⟨_,rfl⟩
 have e27:c=27 ↔ B=true:=by rw[<-T,decide_eq_true_iff]
 have e64:64<=c ↔ l=true:=by rw[<-U,decide_eq_true_iff]
 have e126:c<=126 ↔ j=true:=by rw[<-C,decide_eq_true_iff]
 have e32:c<32 ↔ o=true:=by rw[<-W,decide_eq_true_iff]
 have e127:126<c ↔ k=true:=by rw[<-D,decide_eq_true_iff]
 have e48:48<=c ↔ q=true:=by rw[<-Y,decide_eq_true_iff]
 have ep:x.params.length<=64 ↔ dp=true:=by rw[<-hdp,decide_eq_true_iff]
 have J:f7 ((c.toNat:Int)=27)=B:=(lB (n:=27) lw).trans T;have L:f7 ((64:Int)<=(c.toNat:Int))=l:=(Rj (n:=64) lw).trans U;have v:f7 ((c.toNat:Int)<=126)=j:=(VM (n:=126) lw).trans C;have q32:f7 ((c.toNat:Int)<32)=o:=(Rl (n:=32) lw).trans W;have Z:f7 ((126:Int)<(c.toNat:Int))=k:=(Vt (n:=126) lw).trans D;have q48:f7 ((48:Int)<=(c.toNat:Int))=q:=(Rj (n:=48) lw).trans Y;have ql48:f7 ((c.toNat:Int)<48)=dl48:=(Rl (n:=48) lw).trans F
 have qp:f7 ((x.params.length:Int)<=64)=dp:=by
  rw[<-hdp];by_cases h:x.params.length<=64
  .rw[decide_eq_true h,decide_eq_true lw]
  .rw[decide_eq_false h,decide_eq_false lw]
 have key:x.parameter c=cond B (x,1) (cond (l&&j) (cond dp (x.dP c) x,0) (cond (o||(k||(q&&r))) (x,0) (cond dp {x with middle:=r||dl48,params:=x.params++[c]} {x with middle:=r||dl48},3))):=by unfold Tm.parameter;simp only[e27,e64,e126,e32,gt_iff_lt,ge_iff_le,e127,e48,I,F,ep];cases B<;>cases l<;>cases j<;>cases o<;>cases k<;>cases q<;>cases r<;>cases dp<;>rfl
 rw[key];refine aI mixed Tryz.func44 rfl Tryz.ntmps44 (zA7 rfl) ?_
 cases B with
 |true =>simp (maxDischargeDepth:=6) only[J,cond_true,Tryz.results44,zW,Nat.reduceLT,Nat.reduceAdd,Nat.reduceEqDiff];exact⟨rfl,p,Step.refl g⟩
 |false =>
 rw[cond_false]
 cases hA:(l&&j) with
 |true =>
  rw[cond_true]
  cases l<;>cases j<;>first
   |(exfalso; revert hA; decide)
   |skip
  cases dp with
  |true =>simp (maxDischargeDepth:=6) only[S,hT,h2,J,L,v,qp,cond_true,zW,Nat.reduceLT,Nat.reduceAdd,Nat.reduceEqDiff];refine (MA (ext H []) p x c g s ok (ep.2 rfl)).mono ?_;rintro _ H1 ⟨rfl,p1,st⟩;rw[show H1=ext H1 [] from rfl];simp (maxDischargeDepth:=6) only[Tryz.results44,zW,Nat.reduceLT];exact⟨rfl,p1,st⟩
  |false =>simp (maxDischargeDepth:=6) only[S,hT,h2,J,L,v,qp,cond_false,Tryz.results44,zW,Nat.reduceLT,Nat.reduceAdd,Nat.reduceEqDiff];exact⟨rfl,p,Step.refl g⟩
 |false =>
 rw[cond_false]
 cases hB:(o||(k||(q&&r))) with
 |true =>
  rw[cond_true]
  cases l<;>cases j<;>cases o<;>cases k<;>cases q<;>cases r<;>first
   |(exfalso; revert hA; decide)
   |(exfalso; revert hB; decide)
   | (simp (maxDischargeDepth := 6) only [S, hT, h1, I, J, L, v, q32, Z, q48, Tryz.results44, zW, Nat.reduceLT, Nat.reduceAdd, Nat.reduceEqDiff]
      exact⟨rfl,p,Step.refl g⟩)
 |false =>
 rw[cond_false];refine lg (fun E' H'=>H'=H/\E' 0=li (a9 ⟨p.t,0,bi⟩)/\E' 1=kA c) ?_ ?_
 .simp (maxDischargeDepth:=6) only[zW,Nat.reduceLT,Nat.reduceAdd];refine ag ⟨rfl,?_,?_⟩<;>simp only[aF,Nat.reduceEqDiff]
 rintro E X ⟨hX,g0,g1⟩;rw[hX,KT,EA];refine aS (fun E' H'=>H'=H/\E' 0=li (a9 ⟨p.t,0,bi⟩)/\E' 1=kA c) ?_ ?_
 .rw[show H=ext H [] from rfl]
  cases l<;>cases j<;>cases o<;>cases k<;>cases q<;>cases r<;>first
   |(exfalso; revert hA; decide)
   |(exfalso; revert hB; decide)
   | (simp (maxDischargeDepth := 6) only [g0, g1, S, hT, h1, I, J, L, v, q32, Z, q48, zW, Nat.reduceLT, Nat.reduceAdd, Nat.reduceEqDiff]
      refine ag ⟨rfl,?_,?_⟩<;>simp only[g0,g1,aF,Nat.reduceEqDiff])
 clear hX g0 g1 E X;rintro E X ⟨hX,g0,g1⟩;rw[hX,show H=ext H [] from rfl];have f:Step H p (ext (uw H p.t 21 [ls (r||dl48)]) []) p {x with middle:=r||dl48}:=g.one rfl rfl rfl rfl;have M:=f.ok ok;rw[ext_nil]at f M;have hc1:=f.at_.cell;simp only[bh]at hc1;have A:=hc1;rw[hpv]at A;obtain⟨V,hV⟩:=ac (uw H p.t 21 [ls (r||dl48)]);rw[hV]at f M hc1 A;have hVn:V.next=b:=by rw[<-hV,cw,S]
 have hst:∀ d,d=(r||dl48)->uw H p.t 21 [ls d]=V:=fun d h=>h▸hV
 cases dp with
 |false =>
  rw[cond_false]
  cases r<;>cases dl48 <;>
   (have m:=hst _ rfl
    simp only[Bool.or_true,zH7]at m A f;simp (maxDischargeDepth:=6) only[g0,g1,S,hT,h1,I,ql48,m,hVn,A,qp,Tryz.results44,zW,Nat.reduceLeDiff,Nat.reduceLT,Nat.reduceAdd,Nat.reduceEqDiff]
    exact⟨rfl,p,f⟩)
 |true =>
  rw[cond_true];have hle:=ep.2 rfl;obtain⟨G,w,O,mG,hn2⟩:=Cv (c:=c) f.at_.par (fun n u=>f.at_.lt n (by simp[Rp.aM,u])) hVn (by simp only; omega) M;obtain⟨nw,hnw⟩:=ac (b+1);have hn1:V.next<=nw:=by omega
  rw[hnw]at w O hn2;simp only at w O
  obtain⟨w',hw'⟩:∃ w':go,lm (a9 ⟨nw,0,bi⟩) (x.params.length+1) (x.params.length+1)=w':=⟨_,rfl⟩
  rw[hw']at O;have hid:ae w'=[nw]:=by rw[<-hw']; simp[ae]
  have hTv:p.t∉ae p.pv:=fun h=>(zD6.1 g.nd).1 py;have hbG:bk G p.t=a9 ⟨66,ci,bh p {x with middle:=r||dl48}⟩:=by rw[mG.bk (f.at_.lt p.t pi) hTv]; exact f.at_.cell
  have K:=hbG;simp only[bh]at K;have okG:=mG.ok M;obtain⟨gn,hgn⟩:=ac G.next;have hTG:p.t<gn:=by rw[<-hgn]; exact mG.lt (f.at_.lt p.t pi)
  have hnwg:nw<gn:=hgn▸hn2;have mU:Mod [p.t] G (uw G p.t 20 [w']):=Mod.uw nl;have hrvn:nw∉ae p.rv:=fun h=>by have:=f.at_.lt nw (by simp[Rp.aM,h]); omega
  have stF:Step V p (uw G p.t 20 [w']) {p with rv:=p.rv,pv:=w'} {x with middle:=r||dl48,params:=x.params++[c]}:=by
   refine f.at_.EP p.rv w' ((mG.mono (by intro n u; simp[u])).trans (mU.mono (by intro n u; simp at u; simp[u]))) ?_ rfl ?_ ?_ ?_ ?_
   .rw[bR,hbG]; rfl
   .refine f.at_.rest.of fun n u=>?_;rw[iV (fun e=>(zD6.1 g.nd).1 (by rw[<-e]; simp[u]))];refine mG.get n (f.at_.lt n (by simp[Rp.aM,u])) (fun h=>?_);have R:=(zD6.1 (zD6.1 g.nd).2).2;exact (zE6.1 R).2.2 n (by simp[u]) n h rfl
   .refine O.of fun n u=>?_;rw[hid]at u;simp only[zA5]at u;exact iV (by have:=f.at_.lt p.t pi; omega)
   .intro n u;rcases zB1.1 u with h|h
    .exact .inl py
    .rw[hid]at h;simp only[zA5]at h;exact .inr ⟨by omega,by rw[cw]; omega⟩
   .rw[hid];have R:=(zD6.1 (zD6.1 g.nd).2).2;rw[zC8]at R;have hnd2:=(zE6.1 (zE6.1 R).2.1).1;exact zE6.2 ⟨hnd2,by simp,fun a ha b' hb' e=>by simp only[zA5]at hb'; exact hrvn (hb'▸e▸ha)⟩
  rw[<-hw']at stF;rw[hpv]at w
  cases r<;>cases dl48 <;>
   (have m:=hst _ rfl
    simp only[Bool.or_true,zH7]at m A f stF K;simp (maxDischargeDepth:=6) only[g0,g1,S,hT,h1,I,ql48,m,hVn,A,qp,w,hgn,hTG,hnwg,K,Tryz.results44,zW,Nat.reduceLeDiff,Nat.reduceLT,Nat.reduceAdd,Nat.reduceEqDiff]
    exact⟨rfl,_,f.trans ok stF⟩)
end Go.Proofs.YtpohjcacnkhnkaaGreatDoor.Tq
namespace Go.Ax
section
variable{P:ip}{N:Nat}{E:Env}{ds:List Deferred}{ops:Array Oper}{rest:List Oper}{ty:io}{pos:String}{after:Array Edge}{H:aa}
def Cf{Q:ah->aa->Prop}{i:Nat}{fps:List Fp}{anc:List Nat}{args:List i7}{ts:Array io}{dst:Option Nat}(a:args.all (bj P N)=bv) :
  fO P ops anc (⟨dst,.call ⟨.builtin .append,⟨args⟩,ts⟩,ty,pos,after,bi⟩::rest) i fps (bu N E ds) H Q=oz P ops anc ⟨dst,.call ⟨.builtin .append,⟨args⟩,ts⟩,ty,pos,after,bi⟩ rest i fps (bu N E ds) H Q:=by
 simp only[fO,cN,jQ,jk,qu,sf,oz,cD a,Vd,mj]
end
end Go.Ax
namespace Go.Proofs.YtpohjcacnkhnkaaGreatDoor.Tq
open Go.Ax
def kS(H:aa)(v:go)(w:Nat)(a:List (Nat × Bool)):Prop :=
 (a=[]/\v=lm bi 0 0)\/(a≠[]/\∃ n,v=lm (a9 ⟨n,0,bi⟩) a.length a.length/\bk H n=a9 ⟨56,bv,a.map (bE w)⟩)
def kS.of{H G:aa}{v:go}{w:Nat}{a:List (Nat × Bool)}(h:kS H v w a)(b:∀ n∈ae v,G.get n=H.get n):kS G v w a:=by
 rcases h with⟨rfl,rfl⟩|⟨h,n,rfl,c⟩
 .exact .inl ⟨rfl,rfl⟩
 .exact .inr ⟨h,n,rfl,(bg (b n pm)).trans c⟩
def kS.ne{H:aa}{v:go}{w:Nat}{b:List (Nat × Bool)}(h:kS H v w b):∀ n∈ae v,H.get n≠none:=by rcases h with⟨rfl,rfl⟩|⟨h,n,rfl,c⟩<;>intro m a<;>simp only[ae,zA5,zD7]at a;subst a; exact fa c
def Hl{X:aa}{v:go}{w:Nat}{b:List (Nat × Bool)}{q:Nat × Bool}{k x:Nat}(h:kS X v w b)(hx:X.next=x)(F:bk X k=a9 ⟨56,ci,[bE w q]⟩)(I:b.length<=1000)(A:∀ r∈b++[q],r.1<X.next) :
  ∃ G,aE Tryz.prog X .append ⟨[39,39]⟩ [v,lm (a9 ⟨k,0,a9 0⟩) 1 1]=a9 (lm (a9 ⟨x,0,bi⟩) (b.length+1) (b.length+1),G)/\kS G (lm (a9 ⟨x,0,bi⟩) (b.length+1) (b.length+1)) w (b++[q])/\(X.base<=X.next->Mod (ae v) X G)/\G.next=x+1:=by
 have J:Tryz.prog.underlying 39=a9 (.slice 56):=by kernel_rfl
 have K:br Tryz.prog 56=a9 1:=by kernel_rfl
 have O:bytesOf Tryz.prog 56=a9 24:=by kernel_rfl
 have R:zeroOf Tryz.prog 56=a9 (lm bi 0 0):=by kernel_rfl
 have S:fE Tryz.prog 39=a9 false:=by kernel_rfl
 have t:∀ j,j<=1001->small j 24=true:=fun j Z=>by simp only[small,zA6,zE8]; omega
 have u:([bE w q].drop 0).take (1*1)=[bE w q]:=rfl;have c:[bE w q].all one=true:=uO w [q];have f:∀ M:aa,X.next<=M.next->aT (M.next+0) ((b++[q]).map (bE w))=true:=fun M U=>by rw[zD5];refine ck.2 fun v V=>?_;obtain⟨r,W,rfl⟩:=zC1.1 V;exact bd (zE0 (A r W) U)
 rcases h with⟨rfl,rfl⟩|⟨cn,n,rfl,Y⟩
 .have a:=Li (P:=Tryz.prog) (H:=X) (st:=39) (xt:=39) (n:=k) (off:=0) (cnt:=1) (cap:=1) (s:=a9 0) J K O R rfl S F nl c ol (t 1 lw);have B:=ey (H:=X) (L:=[]) (e:=56) (l:=[bE w q]) (o:=true) (f X (zA4 _));rw[u,show X=ext X [] from rfl,B,zB2]at a;refine⟨ext X [⟨56,bv,[bE w q]⟩],?_,.inr ⟨by simp,x,rfl,?_⟩,fun g=>Mod.ext g,by rw[ai,hx]; rfl⟩
  .rw[show (ext X []).next=x from hx]at a; exact a
  .rw[show x=x+0 from rfl,aZ hx nl]; rfl
 .have a:=DI (P:=Tryz.prog) (H:=X) (st:=39) (xt:=39) (m:=n) (off:=0) (k:=b.length) (sp:=bi) (n:=k) (off2:=0) (cnt:=1) (cap:=1) (s:=a9 0) J K O R rfl S Y rfl rfl nl (nc (uO w b) _ _) (.inl rfl) F nl c ol (t _ lw);have C:((b.map (bE w)).drop 0).take (b.length*1)=b.map (bE w):=by rw[zD0]; exact zD4 nl
  simp only[C,u]at a;have D:b.map (bE w)++[bE w q]=(b++[q]).map (bE w):=by simp
  have B:=ey (H:=dp X n) (L:=[]) (e:=56) (l:=(b++[q]).map (bE w)) (o:=true) (f (dp X n) (zA4 _));rw[D,show X.cH n bi=ext (dp X n) [] from rfl,B,zB2]at a;refine⟨ext (dp X n) [⟨56,bv,(b++[q]).map (bE w)⟩],?_,.inr ⟨by simp,x,by simp,?_⟩,fun g=>?_,by rw[ai,jN,hx]; rfl⟩
  .rw[hx]at a; exact a
  .rw[show x=x+0 from rfl,aZ (show (dp X n).next=x from hx) nl]; rfl
  .have T:Mod (ae (lm (a9 ⟨n,0,bi⟩) b.length b.length)) X (dp X n):=Mod.cH pm;exact T.trans (Mod.ext (T.ok g))
def vm(v:go)(b:Int):List Value:=[jp kw 0,jp kw 0,jp kw 0,jp kw 0,ls ci,ls ci,ls ci,jp kw 0,jp kw 0,jp kw 0,jp kw 0,ls ci,ls ci,ls ci,v,ls ci,jp kw 0,jp kw b,jp kw 0,lm bi 0 0,lm bi 0 0,ls ci,.int .u8 0]
def G7(h w:Nat):(Tm.new h w).h=h:=by simp[Tm.new,Tm.h]
def L8{h:Nat}(w:Nat)(a:1<=h):(Tm.new h w).w=w:=by
 obtain⟨k,rfl⟩:∃ k,h=k+1:=⟨h-1,by omega⟩
 simp[Tm.new,Tm.w,List.replicate_succ]
def Dv{h w:Nat}(e:1<=h)(f:h<=200)(w1:1<=w)(g:w<=300):(Tm.new h w).Sz:=by
 have b:=G7 h w;have c:=L8 w e;refine⟨by omega,by omega,by omega,by omega,fun l a=>?_,Int.le_refl _,?_,Int.le_refl _,?_,Int.le_refl _,?_,Int.le_refl _,?_,Int.le_refl _,?_,?_,by simp[Tm.new],fun l a=>?_⟩
 .rw[c]; simp only[Tm.new]at a; rw[zH6 a]; simp
 .rw[b]; simp only[Tm.new]; omega
 .rw[c]; simp only[Tm.new]; omega
 .rw[b]; simp only[Tm.new]; omega
 .rw[c]; simp only[Tm.new]; omega
 .simp only[Tm.new]; omega
 .rw[b]; simp only[Tm.new]; omega
 .simp only[Tm.new]at a;rw[zH6 a]
  obtain⟨k,rfl⟩:∃ k,w=k+1:=⟨w-1,by omega⟩
  simp[List.replicate_succ,tW]
def TR(H:aa)(h w:Nat)(ok:H.base<=H.next)(h1:1<=h)(h2:h<=200)(w1:1<=w)(w2:w<=300) :
  bF Tryz.prog 10 [jp kw (h:Int),jp kw (w:Int)] H fun out H1=>∃ p,out=.ok (.tuple ⟨[li (a9 ⟨p.t,0,bi⟩),jp kw 0]⟩)/\cx H1 p (Tm.new h w)/\Mod [] H H1/\(∀ n∈p.aM,H.next<=n)/\p.rv=lm bi 0 0/\p.pv=lm bi 0 0:=by
 obtain⟨b,hb⟩:=ac H.next;have hbb:H.base<=b:=hb▸ok;have d1:f7 ((h:Int)<1)=false:=decide_eq_false lw;have d2:f7 ((200:Int)<(h:Int))=false:=decide_eq_false lw;have d3:f7 ((w:Int)<1)=false:=decide_eq_false lw;have d4:f7 ((1000:Int)<(w:Int))=false:=decide_eq_false lw;have hw1:IntKind.i64.wrap ((h:Int)-1)=(h:Int)-1:=aR lw lw;refine aI mixed Tryz.func10 rfl Tryz.ntmps10 (zA7 rfl) ?_;simp only[hb,d1,d2,d3,d4,hw1,zW,seval];refine da fun E hE=>?_;have Y:E 1=jp kw (w:Int):=by rw[hE]; rfl
 have F:E 6=li (a9 ⟨b+0,0,bi⟩):=by rw[hE]; rfl
 have o:E 25=jp kw (h:Int):=by rw[hE]; rfl
 have j:E 26=jp kw ((0:Nat):Int):=by rw[hE]; rfl
 clear hE;refine aS (fun E' u=>∃ g v,g.length=h/\Mod [] H u/\bk u (b+0)=a9 ⟨66,ci,vm v ((h:Int)-1)⟩/\kS u v w g/\(∀ q∈g,b+0<q.1/\q.1<u.next/\bk u q.1=a9 ⟨77,q.2,a8 (fm w)⟩)/\(g.map (·.1)).Nodup/\(∀ n∈ae v,b+0<n/\n<u.next/\n∉g.map (·.1))/\E' 6=li (a9 ⟨b+0,0,bi⟩)) ?_ ?_
 .refine cp (fun (q:List (Nat × Bool) × go) E' u=>q.1.length<=h/\Mod [] H u/\b+0<u.next/\bk u (b+0)=a9 ⟨66,ci,vm q.2 ((h:Int)-1)⟩/\kS u q.2 w q.1/\(∀ r∈q.1,b+0<r.1/\r.1<u.next/\bk u r.1=a9 ⟨77,r.2,a8 (fm w)⟩)/\(q.1.map (·.1)).Nodup/\(∀ n∈ae q.2,b+0<n/\n<u.next/\n∉q.1.map (·.1))/\E' 1=jp kw (w:Int)/\E' 6=li (a9 ⟨b+0,0,bi⟩)/\E' 25=jp kw (h:Int)/\E' 26=jp kw (q.1.length:Int)) (fun q=>h-q.1.length) ([],lm bi 0 0)
   ⟨zB7 _,Mod.ext ok,by rw[ai,hb]; simp,by rw[aZ hb nl]; rfl,.inl ⟨rfl,rfl⟩,by simp,by simp,by simp[ae],Y,F,o,j⟩ ?_
  clear Y F o j E;rintro⟨g,v⟩ E X ⟨hl,mX,hbX,hc,B,c,C,J,Y,F,o,j⟩;simp only at hl hc B c C J j;rw[show X=ext X [] from rfl];have okX:=mX.ok ok;by_cases hlh:g.length=h
  .have hd:f7 ((g.length:Int)<(h:Int))=false:=decide_eq_false lw;simp only[o,j,hd,zW,seval];refine ag ⟨g,v,hlh,mX,hc,B,c,C,J,?_⟩;simp only[F,aF,seval]
  .have hd:f7 ((g.length:Int)<(h:Int))=true:=decide_eq_true lw;obtain⟨x,hx⟩:=ac X.next;have hbx:b+0<x:=hx▸hbX;have R:∀ n∈ae v,n<x:=fun n f=>hx▸(J n f).2.1;have hc2:=hc;simp only[vm]at hc2;have hws:=ba (show g.length<1000000 by omega);simp only[o,j,hd,zW,seval];refine aQ [(7,6),(8,4),(8,6),(8,7),(11,4),(11,6),(11,7),(11,8)] [] m9 m9 rfl fun ops anc hA hG=>?_;simp only[aw]at hA;simp only[Y,F,hx,hbx,hc2,bS,zW,seval];refine ue (v:=lm (a9 ⟨x+0,0,a9 0⟩) w w) (M:=[⟨77,ci,a8 (List.replicate w sp)⟩]) [] (by simp only[aF,seval]) m9 ol (fun n f=>by simp at f) (fun K f hg=>?_) (by simp (maxDischargeDepth:=6) only[bS]) ?_
   .simp only[aF];have:=GR w w1 w2 K;rw[f,ext_nil,hx]at this;exact this
   simp only[hx,hA,zA9,zB4,bS,zW,seval];rw[Cf rfl];obtain⟨Z,hZ⟩:=ac (ext X [⟨77,ci,a8 (List.replicate w sp)⟩,⟨56,ci,[lm (a9 ⟨x+0,0,a9 0⟩) w w]⟩]);have mZ:Mod [] X Z:=hZ▸Mod.ext okX;have okZ:=mZ.ok okX;have hZn:Z.next=x+2:=by rw[<-hZ,ai,hx]; rfl
   have hZ1:bk Z (x+1)=a9 ⟨56,ci,[bE w (x+0,ci)]⟩:=by rw[<-hZ,aZ hx nl]; rfl
   have hZ0:bk Z (x+0)=a9 ⟨77,ci,a8 (fm w)⟩:=by rw[<-hZ,aZ hx nl]; rfl
   have S:∀ n,n<x->Z.get n=X.get n:=fun n f=>mZ.get n lw nl;rw[hZ];have I:=aK Z (ae v++[x+1]);have hR:∀ n∈ae v++[x+1],(Z.restrict (ae v++[x+1])).get n=Z.get n:=fun n f=>by rw[aU,if_pos f]
   have L:kS Z v w g:=B.of fun n f=>S n (R n f)
   obtain⟨G,happ,hrsG,mG,hGn⟩:=Hl (x:=x+2) (k:=x+1) (q:=(x+0,ci)) (L.of fun n f=>hR n (by simp[f])) (by rw[I.1,hZn]) ((bg (hR (x+1) nl)).trans hZ1) lw (fun r A=>by
    rw[I.1,hZn];rcases zB1.1 A with h|h
    .have:=(c r h).2.1; omega
    .simp only[zA5]at h; subst h; simp only; omega)
   have mG:=mG (by rw[I.1,I.2.1]; exact zA4 _)
   have hneZ:∀ n∈ae v++[x+1],Z.get n≠none:=fun n f=>by
    rcases zB1.1 f with h|h
    .exact L.ne n h
    .simp only[zA5]at h; subst h; exact fa hZ1
   refine lU (W:=ae v) (ae v++[x+1]) okZ hneZ (fun n f=>by
     rcases zB1.1 f with h|h
     .have:=R n h; omega
     .simp only[zA5]at h; omega) (fun n f=>by simp[f])
    (sZ (v:=lm (a9 ⟨x+2,0,bi⟩) (g.length+1) (g.length+1)) rfl (by simp only[aF,seval]; exact happ)) mG (by simp only[aw,cG,hA,true_or,and_true]) ?_
   intro H1 D T hF1 hN1 s hD1;have s:H1.next=x+3:=by rw[s,hGn]
   have hT1:bk H1 (b+0)=a9 ⟨66,ci,vm v ((h:Int)-1)⟩:=by rw[T.bk lw (fun hh=>by have:=(J _ hh).1; omega),bg (S _ hbx)]; exact hc
   have hT2:=hT1;simp only[vm]at hT2;have hTn:b+0<x+3:=by omega
   rw[show H1=ext H1 [] from rfl];simp only[s,hTn,hT2,hA,bS,zW,seval];refine⟨⟨fun _=>.inr (.inl lw),.inr (.inl lw),.inr (.inl lw)⟩,⟨fun _=>.inr (.inl lw),.inr (.inl lw),.inr (.inl lw)⟩,?_⟩;simp only[j,hws,zW,seval];have mU:Mod [b+0] H1 (uw H1 (b+0) 14 [lm (a9 ⟨x+2,0,bi⟩) (g.length+1) (g.length+1)]):=Mod.uw nl
   have U:bk H1 (x+2)=a9 ⟨56,bv,(g++[(x+0,ci)]).map (bE w)⟩:=by
    rw[bg (hN1 (x+2) lw lw)]
    rcases hrsG with⟨h,_⟩|⟨_,n,e,V⟩
    .simp at h
    .simp only[Value.slice.injEq,i8,Addr.mk.injEq,and_true]at e;rw[e.1]; exact V
   have O:∀ n,n<x+2->n≠b+0->n∉ae v->(uw H1 (b+0) 14 [lm (a9 ⟨x+2,0,bi⟩) (g.length+1) (g.length+1)]).get n=Z.get n:=fun n h1' h2' h3'=>by rw[iV h2',T.get n lw h3']
   refine aG ⟨(g++[(x+0,ci)],lm (a9 ⟨x+2,0,bi⟩) (g.length+1) (g.length+1)),by simp only[zB3,zA9,zB4]; omega,by simp only[zB3,zA9,zB4]; omega,?_,?_,?_,?_,?_,?_,?_,?_,?_,?_,?_⟩
   .have m1:Mod (ae v) X H1:=(mZ.mono nl).trans T;exact (mX.step m1 ok (fun n f=>.inr (by have:=(J n f).1; omega))).step mU ok (fun n f=>.inr (by simp only[zA5]at f; omega))
   .rw[ext_nil,cw,s]; omega
   .rw[ext_nil,bR,hT1]; rfl
   .refine .inr ⟨by simp,x+2,by simp,?_⟩;rw[ext_nil,pU lw];exact U
   .intro r A;rcases zB1.1 A with h|h
    .obtain⟨q1,q2,q3⟩:=c r h;refine⟨q1,by rw[ext_nil,cw,s]; omega,?_⟩;rw[ext_nil,bg (O r.1 lw lw (fun hh=>(J _ hh).2.2 (zC1.2 ⟨r,h,rfl⟩))),bg (S r.1 lw)];exact q3
    .simp only[zA5]at h;subst h;refine⟨by simp only; omega,by rw[ext_nil,cw,s]; simp only; omega,?_⟩;rw[ext_nil,bg (O (x+0) lw lw (fun hh=>by have:=R _ hh; omega))];exact hZ0
   .rw[List.map_append];refine zE6.2 ⟨C,by simp,fun a ha b' V e=>?_⟩;obtain⟨r,A,rfl⟩:=zC1.1 ha;simp only[zB8,zE7,zA5]at V;have:=(c r A).2.1;omega
   .intro n f;simp only[ae,zA5]at f;subst f;refine⟨by omega,by rw[ext_nil,cw,s]; omega,fun hm=>?_⟩;obtain⟨r,A,e⟩:=zC1.1 hm;rcases zB1.1 A with h|h
    .have:=(c r h).2.1; omega
    .simp only[zA5]at h;subst h;simp only at e;omega
   .exact Y
   .exact F
   .exact o
   .simp only[zB3,zA9,zB4,aF,seval]
 .clear Y F o j E;rintro E X ⟨g,v,hl,mX,hc,B,c,C,J,F⟩;rw[show X=ext X [] from rfl];simp only[F,Tryz.results10,zW,seval]
  rcases B with⟨h,_⟩|⟨_,n,rfl,hbn⟩
  .rw[h]at hl; simp at hl; omega
  have f:=J n pm;refine⟨⟨b+0,n,g,lm bi 0 0,lm bi 0 0⟩,rfl,?_,mX,?_,rfl,rfl⟩
  .refine⟨?_,?_,?_,?_,.inl ⟨rfl,rfl⟩,.inl ⟨rfl,rfl⟩,?_,?_⟩
   .rw[ext_nil,hc,hl];simp only[vm,bh,G7];rfl
   .rw[ext_nil,L8 w h1]; exact hbn
   .rw[G7]; exact hl
   .intro i q l hq hl';have:l=fm w:=by have:=zC5 hl';simp only[Tm.new]at this;exact zH6 this
    rw[this];exact (c q (zC5 hq)).2.2
   .simp only[Rp.aM,ae,zC7];refine zD6.2 ⟨?_,zD6.2 ⟨f.2.2,C⟩⟩;intro hm;rcases zA8.1 hm with e|hm
    .omega
    .obtain⟨r,A,e⟩:=zC1.1 hm;have:=(c r A).1;omega
   .intro m hm;simp only[Rp.aM,ae,zC7,zA8,zC1]at hm
    rcases hm with rfl|rfl|⟨r,A,rfl⟩
    .have:=f.1; have:=f.2.1; rw[ext_nil]; omega
    .exact f.2.1
    .exact (c r A).2.1
  .intro m hm;simp only[Rp.aM,ae,zC7,zA8,zC1]at hm
   rcases hm with rfl|rfl|⟨r,A,rfl⟩
   .omega
   .have:=f.1; omega
   .have:=(c r A).1; omega
def Tm.Sz.saved{x:Tm}(s:x.Sz):Tm.Sz {x with srow:=x.row,scol:=x.col,spen:=x.b7} :=
 ⟨s.h1,s.h2,s.w1,s.w2,s.ws,s.r1,s.r2,s.c1,s.c2,s.r1,s.r2,s.c1,s.c2,s.t1,s.t2,s.t3,s.md,s.hd⟩
def Tm.Sz.Oy{x:Tm}(s:x.Sz):Tm.Sz {x with row:=x.srow,col:=x.scol,b7:=x.spen} :=
 ⟨s.h1,s.h2,s.w1,s.w2,s.ws,s.sr1,s.sr2,s.sc1,s.sc2,s.sr1,s.sr2,s.sc1,s.sc2,s.t1,s.t2,s.t3,s.md,s.hd⟩
def Tm.Sz.FY{x:Tm}(s:x.Sz)(c:UInt8):Tm.Sz {x with last:=c} :=
 ⟨s.h1,s.h2,s.w1,s.w2,s.ws,s.r1,s.r2,s.c1,s.c2,s.sr1,s.sr2,s.sc1,s.sc2,s.t1,s.t2,s.t3,s.md,s.hd⟩
def cx.fresh{H V:aa}{p p1:Rp}{x y:Tm}(g:cx H p x)(e:cx V p1 y)(j:Mod [] H V)(r:∀ n∈p1.aM,H.next<=n)(s:p1.rv=lm bi 0 0)(u:p1.pv=lm bi 0 0) :
  Step H p (ext (uw V p.t 0 (bh p1 y)) []) {p1 with t:=p.t} y:=by
 have m:=g.lt p.t pi;have k:bk V p.t=a9 ⟨66,ci,bh p x⟩:=(j.bk m nl).trans g.cell
 have c:∀ n∈p1.rb::(p1.rs.map (·.1)++ae p1.rv++ae p1.pv),H.next<=n/\n<V.next:=fun n a=>⟨r n (by simp only[Rp.aM,zA8]; exact .inr (zA8.1 a)),e.lt n (by simp only[Rp.aM,zA8]; exact .inr (zA8.1 a))⟩
 have b:∀ n∈p1.rb::(p1.rs.map (·.1)++ae p1.rv++ae p1.pv),(ext (uw V p.t 0 (bh p1 y)) []).get n=V.get n:=fun n a=>by rw[ext_nil]; exact iV (by have:=(c n a).1; omega)
 have f:=zD6.1 e.nd;refine⟨⟨?_,?_,e.len,?_,?_,?_,?_,?_⟩,?_,rfl,?_⟩
 .rw[ext_nil,bR,k];refine congrArg (fun l=>a9 (Bl.mk 66 ci l)) ?_;simp only[bh,zW]
 .rw[bg (b _ nl)]; exact e.rows
 .intro i q l o v;rw[bg (b q.1 (by simp only[zA8,zB1,zC1]; exact .inr (.inl (.inl ⟨q,zC5 o,rfl⟩))))];exact e.row i q l o v
 .exact e.rest.of fun n a=>b n (by simp[a])
 .exact e.par.of fun n a=>b n (by simp[a])
 .simp only[Rp.aM]at f ⊢;exact zD6.2 ⟨fun w=>by have:=(c _ w).1; omega,f.2⟩
 .intro n a;rw[ext_nil,cw];simp only[Rp.aM]at a;rcases zA8.1 a with rfl|h
  .exact j.lt m
  .exact (c n h).2
 .refine (j.mono nl).trans (Mod.uw pi)
 .intro n a;simp only[Rp.aM]at a;rcases zA8.1 a with rfl|h
  .exact .inl pi
  .exact .inr (c n h).1
def Tm.Sz.second{x:Tm}(s:x.Sz)(c:UInt8):(x.second c).1.Sz:=by
 unfold Tm.second;by_cases a:c=91
 .rw[if_pos a]; exact s.Ez _ _
 rw[if_neg a];by_cases e:c=93
 .rw[if_pos e]; exact s.FY _
 rw[if_neg e];by_cases f:c=27
 .rw[if_pos f]; exact s
 rw[if_neg f];by_cases g:32<=c/\c<48
 .rw[if_pos g]; exact s
 rw[if_neg g];by_cases h:c=55
 .rw[if_pos h]; exact s.saved
 rw[if_neg h];by_cases j:c=56
 .rw[if_pos j]; exact s.Oy
 rw[if_neg j];by_cases k:c=99
 .rw[if_pos k]; exact Dv s.h1 s.h2 s.w1 s.w2
 rw[if_neg k];by_cases l:c=77/\x.row=x.top
 .rw[if_pos l]
  obtain⟨t,o⟩:∃ r:Nat,x.top=r:=⟨x.top.toNat,by have:=s.t1; omega⟩
  obtain⟨b,q⟩:∃ b:Nat,x.bottom=b:=⟨x.bottom.toNat,by have:=s.t1; have:=s.t2; omega⟩
  simp only[o,q];exact s.fA (n:=1) ci (by have:=s.t2; omega) (by have:=s.t3; omega)
 rw[if_neg l];by_cases m:c=77
 .rw[if_pos m]; exact s.TQ _ lw (by have:=s.r1; have:=s.r2; omega)
 rw[if_neg m]; exact s
def Mu(H:aa)(p:Rp)(x:Tm)(c:UInt8)(g:cx H p x)(s:x.Sz)(ok:H.base<=H.next):iK 42 [kA c] H p (jp kw ((x.second c).2:Int)) (x.second c).1:=by
 obtain⟨b,V⟩:=ac H.next;have hT:p.t<b:=V▸g.lt p.t pi;have Z:=g.cell;simp only[bh]at Z;have q27:=lB (c:=c) (n:=27) lw;have q91:=lB (c:=c) (n:=91) lw;have q93:=lB (c:=c) (n:=93) lw;have q55:=lB (c:=c) (n:=55) lw;have q56:=lB (c:=c) (n:=56) lw;have q99:=lB (c:=c) (n:=99) lw;have q77:=lB (c:=c) (n:=77) lw;have q32:=Rj (c:=c) (n:=32) lw;have q48:=Rl (c:=c) (n:=48) lw;simp only[Int.cast_ofNat_Int]at q27 q91 q93 q55 q56 q99 q77 q32 q48;refine aI mixed Tryz.func42 rfl Tryz.ntmps42 (zA7 rfl) ?_;by_cases a:c=91
 .have o:x.second c=({x with params:=[],middle:=false},3):=by unfold Tm.second; rw[if_pos a]
  have t91:f7 ((c.toNat:Int)=91)=true:=by rw[q91]; exact decide_eq_true a
  rw[o];simp only[V,hT,Z,t91,Tryz.results42,zW,Nat.reduceLeDiff,Nat.reduceLT,Nat.reduceAdd,Nat.reduceEqDiff];refine⟨rfl,_,g.EP (y:={x with params:=[],middle:=false}) p.rv (lm bi 0 0) (((Mod.uw nl).trans (Mod.uw nl)):Mod _ H (ext (uw (uw H p.t 20 [lm bi 0 0]) p.t 21 [ls ci]) [])) ?_ rfl ?_ (.inl ⟨rfl,rfl⟩) ?_ ?_⟩
  .rw[ext_nil,bR,bR,g.cell]; rfl
  .refine g.rest.of fun n O=>?_;have cn:n≠p.t:=fun e=>(zD6.1 g.nd).1 (by rw[<-e]; simp[O]);rw[ext_nil,iV cn,iV cn]
  .intro n O;simp only[ae,zC7]at O;exact .inl (by simp[O])
  .simp only[ae,zC7];have hnd:=(zD6.1 (zD6.1 g.nd).2).2;rw[zC8]at hnd;exact (zE6.1 (zE6.1 hnd).2.1).1
 have u:f7 ((c.toNat:Int)=91)=false:=by rw[q91]; exact decide_eq_false a
 by_cases f:c=93
 .have o:x.second c=({x with last:=0},4):=by unfold Tm.second; rw[if_neg a,if_pos f]
  have t93:f7 ((c.toNat:Int)=93)=true:=by rw[q93]; exact decide_eq_true f
  rw[o];simp only[V,hT,Z,u,t93,Tryz.results42,zW,Nat.reduceLeDiff,Nat.reduceLT,Nat.reduceAdd,Nat.reduceEqDiff];exact⟨rfl,p,g.one (y:={x with last:=0}) rfl rfl rfl rfl⟩
 have A:f7 ((c.toNat:Int)=93)=false:=by rw[q93]; exact decide_eq_false f
 by_cases l:c=27
 .have o:x.second c=(x,1):=by unfold Tm.second; rw[if_neg a,if_neg f,if_pos l]
  have t27:f7 ((c.toNat:Int)=27)=true:=by rw[q27]; exact decide_eq_true l
  rw[o];simp only[u,A,t27,Tryz.results42,zW,Nat.reduceLT,Nat.reduceAdd,Nat.reduceEqDiff];exact⟨rfl,p,Step.refl g⟩
 have C:f7 ((c.toNat:Int)=27)=false:=by rw[q27]; exact decide_eq_false l
 by_cases m:32<=c/\c<48
 .have o:x.second c=(x,2):=by unfold Tm.second; rw[if_neg a,if_neg f,if_neg l,if_pos m]
  have t32:f7 ((32:Int)<=(c.toNat:Int))=true:=by rw[q32]; exact decide_eq_true m.1
  have t48:f7 ((c.toNat:Int)<48)=true:=by rw[q48]; exact decide_eq_true m.2
  rw[o];simp only[u,A,C,t32,t48,Tryz.results42,zW,Nat.reduceLT,Nat.reduceAdd,Nat.reduceEqDiff];exact⟨rfl,p,Step.refl g⟩
 obtain⟨F,j⟩:∃ d,f7 ((32:Int)<=(c.toNat:Int))=d:=⟨_,rfl⟩
 obtain⟨I,k⟩:∃ d,f7 ((c.toNat:Int)<48)=d:=⟨_,rfl⟩
 have R:¬(F=bv/\I=bv):=fun h=>m ⟨of_decide_eq_true (q32.symm.trans (j.trans h.1)),of_decide_eq_true (q48.symm.trans (k.trans h.2))⟩;refine lg (fun E' H'=>H'=H/\E' 0=li (a9 ⟨p.t,0,bi⟩)/\E' 1=kA c) ?_ ?_
 .simp only[zW,Nat.reduceLT,Nat.reduceAdd];refine ag ⟨rfl,?_,?_⟩<;>simp only[aF,Nat.reduceEqDiff]
 rintro E X ⟨hX,g0,g1⟩;rw[hX,show H=ext H [] from rfl];by_cases B:c=55
 .have o:x.second c=({x with srow:=x.row,scol:=x.col,spen:=x.b7},0):=by unfold Tm.second; rw[if_neg a,if_neg f,if_neg l,if_neg m,if_pos B]
  have t55:f7 ((c.toNat:Int)=55)=true:=by rw[q55]; exact decide_eq_true B
  rw[o]
  cases F<;>cases I<;>first
   |exact absurd ⟨rfl,rfl⟩ R
   | (simp only [g0, g1, V, hT, Z, u, A, C, j, k, t55, Tryz.results42, zW, Nat.reduceLeDiff, Nat.reduceLT, Nat.reduceAdd, Nat.reduceEqDiff]
      exact⟨rfl,p,g.one (y:={x with srow:=x.row,scol:=x.col,spen:=x.b7}) rfl rfl rfl rfl⟩)
 have U:f7 ((c.toNat:Int)=55)=false:=by rw[q55]; exact decide_eq_false B
 by_cases J:c=56
 .have o:x.second c=({x with row:=x.srow,col:=x.scol,b7:=x.spen},0):=by unfold Tm.second; rw[if_neg a,if_neg f,if_neg l,if_neg m,if_neg B,if_pos J]
  have t56:f7 ((c.toNat:Int)=56)=true:=by rw[q56]; exact decide_eq_true J
  rw[o]
  cases F<;>cases I<;>first
   |exact absurd ⟨rfl,rfl⟩ R
   | (simp only [g0, g1, V, hT, Z, u, A, C, j, k, U, t56, Tryz.results42, zW, Nat.reduceLeDiff, Nat.reduceLT, Nat.reduceAdd, Nat.reduceEqDiff]
      exact⟨rfl,p,g.one (y:={x with row:=x.srow,col:=x.scol,b7:=x.spen}) rfl rfl rfl rfl⟩)
 have f56:f7 ((c.toNat:Int)=56)=false:=by rw[q56]; exact decide_eq_false J
 by_cases S:c=99
 .have o:x.second c=(Tm.new x.h x.w,0):=by unfold Tm.second; rw[if_neg a,if_neg f,if_neg l,if_neg m,if_neg B,if_neg J,if_pos S]; rfl
  have t99:f7 ((c.toNat:Int)=99)=true:=by rw[q99]; exact decide_eq_true S
  rw[o]
  cases F<;>cases I<;>first
   |exact absurd ⟨rfl,rfl⟩ R
   |skip
  all_goals
   simp only[g1,u,A,C,j,k,U,f56,t99,zW,Nat.reduceLT,Nat.reduceEqDiff];refine aQ [(7,3),(7,6),(8,7),(9,7),(10,7),(11,7),(12,7)] [] m9 m9 rfl fun ops anc hA Y=>?_;simp only[aw]at hA;simp only[g0,V,hT,Z,bS,zW,Nat.reduceLT,Nat.reduceAdd,Nat.reduceEqDiff];refine bI (v:=jp kw (x.w:Int)) p.aM (by simp only[aF,Nat.reduceLT]) m9 ol g.ne (fun K O hg=>?_) (by simp (maxDischargeDepth:=6) only[bS]) ?_
   .simp only[aF];exact ja K p x (g.of (by rw[O]; exact zA4 _) hg) s
   simp only[V,bS,gV,Nat.reduceAdd];have hrn:=aK H [];obtain⟨_,gg,hc,p1,rfl,t1,m1,n1,rv1,pv1⟩:=TR (H.restrict []) x.h x.w (by rw[hrn.1,hrn.2.1]; exact zA4 _) s.h1 s.h2 s.w1 s.w2;rw[hrn.1]at n1;refine mi (H:=ext H []) (W:=[]) [] ok rfl m9 (fun n O=>by simp at O) (fun n O=>by simp at O) (fun _ h=>h) (v:=.tuple ⟨[li (a9 ⟨p1.t,0,bi⟩),jp kw 0]⟩) (g:=gg) (by simp only[aF,Nat.reduceEqDiff]; exact hc) m1 (by simp only[aw,cG,hA,true_or,and_true]) ?_;intro H1 D mH1 hF hN hx hD;have ht1:cx H1 p1 (Tm.new x.h x.w):=t1.of (by rw[hx]; exact zA4 _) fun n O=>hN n (n1 n O) (t1.lt n O);have hTx:p.t<H1.next:=mH1.lt (g.lt p.t pi);have hRx:p1.rb<H1.next:=ht1.lt p1.rb pi;obtain⟨L,hL⟩:=ac (bh p1 (Tm.new x.h x.w));have hLl:L.length=23:=by rw[<-hL]; rfl
   have hL1:L.all one=true:=by rw[<-hL]; simp only[bh,rv1,pv1]; rfl
   have hLs:∀ N,H1.next<=N->aT N L=true:=fun N hN=>by rw[<-hL];simp only[bh,rv1,pv1,aT,aV,Bool.true_and,Bool.and_true];exact bd lw
   have hld:∀ q,rL Tryz.prog 66 0 (HY (bk (ext H1 []) p1.t) q)=a9 (.agg ⟨L⟩):=fun q=>by rw[ext_nil,ht1.cell,jL,hL,vY m9,show br Tryz.prog 66=a9 23 from by kernel_rfl,zA3,if_pos lw,zD0,zD4 lw]
   have hcx:bk H1 p.t=a9 ⟨66,ci,bh p x⟩:=(mH1.bk (g.lt p.t pi) nl).trans g.cell;have hst:∀ N,H1.next<=N->Cc Tryz.prog 66 N 0 (.agg ⟨L⟩) (bk H1 p.t)=a9 ⟨66,ci,dj (bh p x) 0 L⟩:=fun N hN=>by rw[hcx];exact oG (v:=.agg ⟨L⟩) (by rw[lS,hLl]; kernel_rfl) (by rw[lS,hLl]; exact zA4 _) (by rw[lS]; exact hL1) (by rw[lS]; exact hLs N hN)
   have hst':=hst (H1.next+0) (zA4 _);have hfr:=g.fresh ht1 mH1 n1 rv1 pv1;rw[hL]at hfr;rw[show H1=ext H1 [] from rfl];simp only[g0,hA,hld,hTx,hst',Tryz.results42,bS,zW,Nat.reduceLT,Nat.reduceAdd,Nat.reduceEqDiff];exact⟨rfl,_,hfr⟩
 have f99:f7 ((c.toNat:Int)=99)=false:=by rw[q99]; exact decide_eq_false S
 have s3:=s.r1;have s4:=s.r2;have s5:=s.h2
 obtain⟨to,hto⟩:∃ r:Nat,x.top=r:=⟨x.top.toNat,by have:=s.t1; omega⟩
 obtain⟨bo,hbo⟩:∃ b:Nat,x.bottom=b:=⟨x.bottom.toNat,by have:=s.t1; have:=s.t2; omega⟩
 have hwr:IntKind.i64.wrap (x.row-1)=x.row-1:=aR lw lw;by_cases T:c=77
 .have t77:f7 ((c.toNat:Int)=77)=true:=by rw[q77]; exact decide_eq_true T
  by_cases M:x.row=x.top
  .have o:x.second c=(x.fA to bo (1:Nat) ci,0):=by
    unfold Tm.second; rw[if_neg a,if_neg f,if_neg l,if_neg m,if_neg B,if_neg J,if_neg S,if_pos ⟨T,M⟩,hto,hbo]; rfl
   have dt:f7 (x.row=x.top)=true:=decide_eq_true M;rw[o]
   cases F<;>cases I<;>first
    |exact absurd ⟨rfl,rfl⟩ R
    |skip
   all_goals
    simp only[g1,u,A,C,j,k,U,f56,f99,zW,Nat.reduceLT,Nat.reduceEqDiff];refine aQ [] [(2,74)] m9 rfl m9 fun ops anc hA Y=>?_;simp only[aw]at Y;simp only[g0,g1,V,hT,Z,Y,t77,dt,bS,zW,Nat.reduceLT,Nat.reduceAdd,Nat.reduceEqDiff];refine aQ [(9,4),(9,8)] [] m9 m9 rfl fun ops anc hA Y=>?_;simp only[aw]at hA;simp only[g0,V,hT,Z,bS,zW,Nat.reduceLT,Nat.reduceAdd,Nat.reduceEqDiff];refine eJ (as':=[jp kw x.top,jp kw x.bottom,jp kw ((1:Nat):Int),ls ci]) g ok rfl m9 ol (by simp only[aF,Nat.reduceEqDiff]<;>rfl) (by simp only[aw,cG,hA,true_or,and_true]) (fun G gG okG=>by rw[hto,hbo]; exact H9 G p x to bo 1 ci gG s okG (by have:=s.t2; omega) (by have:=s.t3; omega) lw lw) fun H1 p1 st=>?_;rw[show H1=ext H1 [] from rfl];simp only[Tryz.results42,zW,Nat.reduceLT];exact⟨rfl,p1,st⟩
  .have o:x.second c=({x with row:=max 0 (x.row-1)},0):=by
    unfold Tm.second; rw[if_neg a,if_neg f,if_neg l,if_neg m,if_neg B,if_neg J,if_neg S,if_neg (fun h=>M h.2),if_pos T]
   have dt:f7 (x.row=x.top)=false:=decide_eq_false M;rw[o]
   cases F<;>cases I<;>first
    |exact absurd ⟨rfl,rfl⟩ R
    |skip
   all_goals
    simp only[g1,u,A,C,j,k,U,f56,f99,zW,Nat.reduceLT,Nat.reduceEqDiff];refine aQ [] [(2,74)] m9 rfl m9 fun ops anc hA Y=>?_;simp only[aw]at Y;simp only[g0,g1,V,hT,Z,Y,t77,dt,hwr,Tryz.results42,bS,zW,Nat.reduceLeDiff,Nat.reduceLT,Nat.reduceAdd,Nat.reduceEqDiff];exact⟨rfl,p,g.one (y:={x with row:=max 0 (x.row-1)}) rfl rfl rfl rfl⟩
 have f77:f7 ((c.toNat:Int)=77)=false:=by rw[q77]; exact decide_eq_false T
 have o:x.second c=(x,0):=by unfold Tm.second; rw[if_neg a,if_neg f,if_neg l,if_neg m,if_neg B,if_neg J,if_neg S,if_neg (fun h=>T h.1),if_neg T]
 rw[o]
 cases F<;>cases I<;>first
  |exact absurd ⟨rfl,rfl⟩ R
  |skip
 all_goals
  simp only[g1,u,A,C,j,k,U,f56,f99,zW,Nat.reduceLT,Nat.reduceEqDiff];refine aQ [] [(2,74)] m9 rfl m9 fun ops anc hA Y=>?_;simp only[aw]at Y;simp only[g1,Y,f77,Tryz.results42,bS,zW,Nat.reduceLT,Nat.reduceAdd,Nat.reduceEqDiff];exact⟨rfl,p,Step.refl g⟩
def Jh{P:ip}{t e:io}{sz len n off:Nat}{k:IntKind}{i:Int}(b:P.underlying t=a9 (.array len e))(a:br P e=a9 sz)(c:0<=i)(f:i<len):aW P t (li (a9 ⟨n,off,bi⟩)) (.int k i)=a9 (li (a9 ⟨n,off+i.toNat*sz,bi⟩)):=by simp only[aW,b,a,zA1,zA3];rw[if_pos ⟨c,f⟩,kJ]
def cF(a:Nat):Int:=match (dc yi)[a]? with
 |some (.int .u8 n)=>n
 |_=>0
def iY(a:Nat):Int:=match (dc uc)[a]? with
 |some (.int .u8 n)=>n
 |_=>0
def Qp(a:Nat):Bool:=match (dc yi)[a]? with
 |some (.int .u8 n)=>f7 (0<=n)&&f7 (n<256)&&(f7 (240<=n)||(f7 (2<=eQ .u8 n 7)&&f7 (eQ .u8 n 7<=4)))&&f7 (0<=eQ .u8 n 7)&&f7 (eQ .u8 n 7<8)&&f7 (0<=jC .u8 n 4)&&f7 (jC .u8 n 4<16)
 |_=>ci
def Th:((List.range 256).all Qp)=true:=by kernel_rfl
def Rk(a:Nat):Bool:=match (dc uc)[a]? with
 |some (.int .u8 n)=>f7 (0<=n)&&f7 (n<256)
 |_=>ci
def SN:((List.range 32).all Rk)=true:=by kernel_rfl
structure Vv (a:Nat):Prop where
 get:(dc yi)[a]?=a9 (.int .u8 (cF a))
 lo:0<=cF a
 hi:cF a<256
 sz:240<=cF a\/(2<=eQ .u8 (cF a) 7/\eQ .u8 (cF a) 7<=4)
 s0:0<=eQ .u8 (cF a) 7
 s8:eQ .u8 (cF a) 7<8
 i0:0<=jC .u8 (cF a) 4
 i1:jC .u8 (cF a) 4<16
def EG{a:Nat}(h:a<256):Vv a:=by
 have b:=zC3.1 Th a (zF7.2 h);unfold Qp at b;split at b
 .rename_i n c;have e:cF a=n:=by simp only[cF,c]
  simp only[zA6,zH5,decide_eq_true_eq]at b;obtain⟨⟨⟨⟨⟨⟨f,g⟩,j⟩,k⟩,l⟩,m⟩,o⟩:=b;exact⟨by rw[e]; exact c,by rw[e]; exact f,by rw[e]; exact g,by rw[e]; exact j,by rw[e]; exact k,by rw[e]; exact l,by rw[e]; exact m,by rw[e]; exact o⟩
 .cases b
def OP{a:Nat}(h:a<32):(dc uc)[a]?=a9 (.int .u8 (iY a))/\0<=iY a/\iY a<256:=by
 have b:=zC3.1 SN a (zF7.2 h);unfold Rk at b;split at b
 .rename_i n c;have e:iY a=n:=by simp only[iY,c]
  simp only[zA6,decide_eq_true_eq]at b;exact⟨by rw[e]; exact c,by rw[e]; exact b.1,by rw[e]; exact b.2⟩
 .cases b
structure ti (H:aa):Prop where
 f:∀ a,a<256->∀ q,rL Tryz.prog 5 a (HY (bk H 0) q)=a9 (.int .u8 (cF a))
 a:∀ i,i<16->∀ q,rL Tryz.prog 150 (i*2) (HY (bk H 1) q)=a9 (.agg ⟨[.int .u8 (iY (i*2)),.int .u8 (iY (i*2+1))]⟩)
 l0:0<H.next
 l1:1<H.next
def S5:(dc uc).length=32:=by kernel_rfl
def R8{H:aa}(h:Od H)(b:0<H.next)(c:1<H.next):ti H:=by
 obtain⟨n,o,e,f⟩:=h;refine⟨fun a g q=>?_,fun i hi q=>?_,b,c⟩
 .rw[e,jL,lf m9,(EG g).get]
 .rw[f,jL,vY m9,show br Tryz.prog 150=a9 2 from by kernel_rfl,zA3,if_pos (by rw[S5]; omega)];have k:=(OP (show i*2<32 by omega)).1;have l:=(OP (show i*2+1<32 by omega)).1
  have m:((dc uc).drop (i*2)).take 2=[.int .u8 (iY (i*2)),.int .u8 (iY (i*2+1))]:=by
   apply List.ext_getElem?;intro j;rw[List.getElem?_take];split
   .rw[List.getElem?_drop]
    match j,‹j<2› with
    |0,_=>rw[zD5,k]; rfl
    |1,_=>rw[l]; rfl
   .rw[zD3 pp]
  rw[m]
def tQ(lo hi:Int):List UInt8->Bool
 |[]=>ci
 |b::[]=>cond (f7 ((b.toNat:Int)<lo)||f7 (hi<(b.toNat:Int))) bv ci
 |b::c::_=>cond (f7 ((b.toNat:Int)<lo)||f7 (hi<(b.toNat:Int))) bv (f7 ((c.toNat:Int)<128)||f7 (191<(c.toNat:Int)))
def jR:List UInt8->Bool
 |[]=>ci
 |a::r=>cond (f7 (IntKind.i64.wrap (eQ .u8 (cF a.toNat) 7)<=((r.length+1:Nat):Int))) bv (tQ (iY ((jC .u8 (cF a.toNat) 4).toNat*2)) (iY ((jC .u8 (cF a.toNat) 4).toNat*2+1)) r)
def Vq{a:UInt8}:aW Tryz.prog 148 (li (a9 ⟨0,0,bi⟩)) (.int .u8 (a.toNat:Int))=a9 (li (a9 ⟨0,a.toNat,bi⟩)):=by have:=Jh (P:=Tryz.prog) (t:=148) (e:=5) (sz:=1) (len:=256) (n:=0) (off:=0) (k:=.u8) (i:=(a.toNat:Int)) m9 m9 lw (by have:=a.toNat_lt; omega);simpa using this
def Vr{i:Int}(a:0<=i)(b:i<16):aW Tryz.prog 151 (li (a9 ⟨1,0,bi⟩)) (.int .u8 i)=a9 (li (a9 ⟨1,i.toNat*2,bi⟩)):=by have:=Jh (P:=Tryz.prog) (t:=151) (e:=150) (sz:=2) (len:=16) (n:=1) (off:=0) (k:=.u8) (i:=i) m9 m9 a b;simpa using this
def Ud(H:aa)(v:go)(l:List UInt8)(h:cW H v l)(A:∀ n∈ae v,n<H.next)(ht:ti H)(O:l≠[])(t:l.length<1000000):Pure 79 [v] H (ls (jR l)):=by
 obtain⟨b,o⟩:=ac H.next;obtain⟨av,e⟩:=h.sl;obtain⟨a,r,rfl⟩:∃ a r,l=a::r:=by cases l with|nil=>exact absurd rfl O|cons a r=>exact⟨a,r,rfl⟩
 obtain⟨L,M⟩:=ac ((a::r).length);have g:L=r.length+1:=by rw[<-M]; rfl
 rw[M]at e;obtain⟨n0,o0,i0,m0,R⟩:=h.get (k:=0) (c:=a) rfl;rw[e,show ((0:Nat):Int)=0 from rfl]at i0;have t0:n0<b:=o▸A n0 m0;have fo:=EG a.toNat_lt;have S:=ht.f a.toNat a.toNat_lt;have l0:0<b:=o▸ht.l0;have l1:1<b:=o▸ht.l1;have T:=Vq (a:=a);have hx1:=Vr fo.i0 fo.i1;have D:=ht.a (jC .u8 (cF a.toNat) 4).toNat (by have:=fo.i0; have:=fo.i1; omega);have U:∀(X:aa)(k:IntKind)(m:Int),bB Tryz.prog X 5 3 (.int k m)=a9 (jp kw (IntKind.i64.wrap m),X):=fun X k m=>gF (u:=.int .u8) m9 m9;have dz:f7 ((L:Int)=0)=false:=decide_eq_false lw
 obtain⟨d1,I⟩:∃ d,f7 (IntKind.i64.wrap (eQ .u8 (cF a.toNat) 7)<=(L:Int))=d:=⟨_,rfl⟩
 obtain⟨lo,V⟩:=ac (iY ((jC .u8 (cF a.toNat) 4).toNat*2));obtain⟨hi,W⟩:=ac (iY ((jC .u8 (cF a.toNat) 4).toNat*2+1));rw[V,W]at D;have w:jR (a::r)=cond d1 bv (tQ lo hi r):=by simp only[jR,<-g,I,V,W]
 rw[w];refine bA mixed Tryz.func79 rfl Tryz.ntmps79 (zA7 rfl) fun wf hsc=>?_;have J:H.base<=b:=o▸wf.base;rw[e]
 cases d1 with
 |true =>simp only[o,dz,i0,t0,R,T,l0,S,ml,fQ,bp,U,I,cond_true,Tryz.results79,zW,seval];exact Fin.pure rfl
 |false =>
  simp only[o,J,dz,i0,t0,R,T,l0,l1,S,ml,fQ,mh,fU,bp,U,I,cond_false,hx1,D,seval,zW];refine aQ [] [(2,26),(9,33)] m9 rfl m9 fun ops anc hA F=>?_;simp only[aw]at F
  match r,h,O,t,M,g,w with
  |[],h,O,t,M,g,w =>have B:f7 ((1:Int)<(L:Int))=false:=decide_eq_false (by rw[g]; simp);have Y:f7 ((2:Int)<(L:Int))=false:=decide_eq_false (by rw[g]; simp);simp only[F,B,Y,tQ,Tryz.results79,bS,zW,seval];exact Fin.pure rfl
  |b1::[],h,O,t,M,g,w =>
   have B:f7 ((1:Int)<(L:Int))=true:=decide_eq_true (by rw[g]; simp);have Y:f7 ((2:Int)<(L:Int))=false:=decide_eq_false (by rw[g]; simp);obtain⟨Z,o1,C,m1,q⟩:=h.get (k:=1) (c:=b1) rfl;rw[e,show ((1:Nat):Int)=1 from rfl]at C;have K:Z<b:=o▸A Z m1
   obtain⟨dA,j⟩:∃ d,f7 ((b1.toNat:Int)<lo)=d:=⟨_,rfl⟩
   obtain⟨dB,s⟩:∃ d,f7 (hi<(b1.toNat:Int))=d:=⟨_,rfl⟩
   simp only[tQ,j,s]
   cases dA with
   |true =>simp only[o,F,B,C,K,q,j,Bool.true_or,cond_true,Tryz.results79,bS,zW,seval];exact Fin.pure rfl
   |false =>
    cases dB with
    |true =>simp only[o,F,B,C,K,q,j,s,Bool.or_true,cond_true,Tryz.results79,bS,zW,seval];exact Fin.pure rfl
    |false =>simp only[o,F,B,Y,C,K,q,j,s,zH7,cond_false,Tryz.results79,bS,zW,seval];exact Fin.pure rfl
  |b1::c1::r3,h,O,t,M,g,w =>
   have B:f7 ((1:Int)<(L:Int))=true:=decide_eq_true (by rw[g]; simp only[zA9]; omega);have Y:f7 ((2:Int)<(L:Int))=true:=decide_eq_true (by rw[g]; simp only[zA9]; omega);obtain⟨Z,o1,C,m1,q⟩:=h.get (k:=1) (c:=b1) rfl;obtain⟨n2,o2,i2,m2,ld2⟩:=h.get (k:=2) (c:=c1) rfl;rw[e,show ((1:Nat):Int)=1 from rfl]at C;rw[e,show ((2:Nat):Int)=2 from rfl]at i2;have K:Z<b:=o▸A Z m1;have t2:n2<b:=o▸A n2 m2
   obtain⟨dA,j⟩:∃ d,f7 ((b1.toNat:Int)<lo)=d:=⟨_,rfl⟩
   obtain⟨dB,s⟩:∃ d,f7 (hi<(b1.toNat:Int))=d:=⟨_,rfl⟩
   obtain⟨dC,hdC⟩:∃ d,f7 ((c1.toNat:Int)<128)=d:=⟨_,rfl⟩
   obtain⟨dD,hdD⟩:∃ d,f7 (191<(c1.toNat:Int))=d:=⟨_,rfl⟩
   simp only[tQ,j,s,hdC,hdD]
   cases dA with
   |true =>simp only[o,F,B,C,K,q,j,Bool.true_or,cond_true,Tryz.results79,bS,zW,seval];exact Fin.pure rfl
   |false =>
    cases dB with
    |true =>simp only[o,F,B,C,K,q,j,s,Bool.or_true,cond_true,Tryz.results79,bS,zW,seval];exact Fin.pure rfl
    |false =>
     cases dC<;>cases dD <;>
      (simp only[o,F,B,Y,C,K,q,i2,t2,ld2,j,s,hdC,hdD,Bool.or_true,zH7,cond_false,Tryz.results79,bS,zW,seval]
       exact Fin.pure rfl)
end Go.Proofs.YtpohjcacnkhnkaaGreatDoor.Tq
