/- Parts of the proof, one behind the other. -/
import Derived.Test.YtpohjcacnkhnkaaGreatDoorM7
import Derived.Test.YtpohjcacnkhnkaaGreatDoorM6
import Derived.Test.YtpohjcacnkhnkaaGreatDoorM3
import Derived.Test.YtpohjcacnkhnkaaGreatDoorM4
set_option linter.all false
set_option maxRecDepth 10000
set_option maxHeartbeats 16000000
open Option renaming some->ap,none->bi
open Bool renaming true->bv,false->gc
open Decidable renaming decide->ge
open Go renaming Value->gt,TypeId->ii,Program->io,World->ip,Operand->i4
open Option.some renaming injEq->i5
open Prod.mk renaming injEq->i6
open Go.Value renaming int->i7,pointer->i9,slice->jp,bool->kw
open Go.IntKind renaming i64->i8
open And renaming intro -> zA0
open Option renaming bind_eq_bind -> zA1, bind_eq_some_iff -> zA2, bind_some -> zA4, map_some -> zB1, map_eq_some_iff -> zB5
open List renaming length_cons -> zA3, mem_singleton -> zA6, mem_cons -> zA9, length_nil -> zB0, length_append -> zB2, getElem?_eq_getElem -> zB3, mem_append -> zB4, mem_map -> zB6, nodup_cons -> zB8, map_cons -> zB9, mem_of_getElem? -> zC0, length_drop -> zC1, take_of_length_le -> zC3, mem_cons_of_mem -> zC4, getElem?_eq_none -> zC5, append_assoc -> zC9, nil_append -> zD0, drop_zero -> zD2, all_eq_true -> zD3, append_nil -> zD4, nodup_append -> zD5, mem_cons_self -> zD7, getElem?_eq_some_iff -> zE0, getElem?_map -> zE1, getD_eq_getElem?_getD -> zE3, map_nil -> zE6, eq_nil_of_length_eq_zero -> zE7, drop_eq_nil_of_le -> zE8, length_map -> zE9, length_take -> zF1, not_mem_nil -> zF2, getElem?_cons_zero -> zF3, getElem?_set -> zF4, mem_range -> zF5, cons_append -> zG1, length_replicate -> zG2, ext_getElem? -> zG4, getElem?_append_right -> zG5, getElem?_cons_succ -> zG6
open Nat renaming le_refl -> zA5, le_of_ble_eq_true -> zA8, zero_le -> zB7, lt_or_ge -> zC2, zero_add -> zC6, le_trans -> zC7, lt_of_lt_of_le -> zD1, add_zero -> zD6, lt_succ_self -> zD9, ble_eq -> zE2, mul_one -> zE5, min -> zF0, add_sub_cancel_left -> zF9, sub_self -> zG0
open Bool renaming and_eq_true -> zA7, false_eq_true -> zC8, and_self -> zD8, not_true -> zE4, or_false -> zF6, false_and -> zF7, or_true -> zF8, or_eq_true -> zG3
namespace Go.Proofs.YtpohjcacnkhnkaaGreatDoor.Tq
open Go.Ax
def cellW(c:Int):Nat:=if c<32\/c=127 then 0 else cB c
def oN:cellW (-1)=0:=by simp[cellW]
def oV:cellW 32=1:=by kernel_rfl
structure Lk.Ok (l:Lk):Prop where
 f0:0<=l.fore
 f1:l.fore<=256
 b0:0<=l.back
 b1:l.back<=256
def Lk.AB:Lk.no.Ok:=⟨by decide,by decide,by decide,by decide⟩
def Whole(l:List Ce):Prop:=∀ i c,l[i]?=ap c->c.look.Ok/\(cellW c.rune=1\/(cellW c.rune=2/\l[i+1]?=ap ⟨-1,c.look⟩)\/(c.rune=-1/\∃ j q,i=j+1/\l[j]?=ap q/\cellW q.rune=2/\q.look=c.look))
def zU(w:Nat):Whole (List.replicate w sp):=fun i c h=>by have:=zC0 h;rw[List.eq_of_mem_replicate this];exact⟨Lk.AB,.inl oV⟩
def JO(l:List Ce)(a b k:Nat)(c:a<=b)(h:b<=l.length):(jL l a b)[k]?=if a<=k/\k<b then ap sp else l[k]?:=by
 unfold jL;have i:(l.take a).length=a:=by simp; omega
 by_cases f:k<a
 .rw[if_neg li,zC9,List.getElem?_append_left li,List.getElem?_take,if_pos f]
 .by_cases g:k<b
  .rw[if_pos ⟨by omega,g⟩,zC9,zG5 li,List.getElem?_append_left pp,List.getElem?_replicate,if_pos li]
  .rw[if_neg li,zG5 pp,List.getElem?_drop];congr 1;simp;omega
def ej(l:List Ce)(a b k:Nat)(g:a<b)(o:b<=l.length):(ic l a b)[k]?=if a<=k/\k<b then ap sp else if (k+1=a/\(l.getD a sp).rune=-1)\/(k=b/\(l.getD b sp).rune=-1) then ap sp else l[k]?:=by
 rw[mw l a b li,JO _ a b k li (by rw[l5,jj]; exact o)];by_cases h:a<=k/\k<b
 .rw[if_pos h,if_pos h]
 rw[if_neg h,if_neg h]
 have e:(iQ l a b).getD b sp=l.getD b sp:=by
  unfold iQ;split
  .simp only[zE3,zF4];rw[if_neg li]
  .rfl
 have n:(iQ l a b)[k]?=if k+1=a/\(l.getD a sp).rune=-1 then ap sp else l[k]?:=by
  unfold iQ;by_cases q:(l.getD a sp).rune=-1
  .rw[if_pos ⟨g,q⟩,zF4];by_cases e:k+1=a
   .rw[if_pos li,if_pos li,if_pos ⟨e,q⟩]
   .rw[if_neg (show ¬(k+1=a/\(l.getD a sp).rune=-1) from fun h=>e h.1)];by_cases f:a-1=k
    .exact absurd (show a=0/\k=0 by omega) (fun t=>h ⟨by omega,by omega⟩)
    .rw[if_neg f]
  .rw[if_neg (fun h=>q h.2),if_neg (fun h=>q h.2)]
 unfold iX;rw[e,jj];by_cases q:b<l.length/\(l.getD b sp).rune=-1
 .rw[if_pos ⟨g,q⟩,zF4];by_cases f:b=k
  .rw[if_pos f,if_pos (by rw[jj]; omega),if_pos (.inr ⟨f.symm,q.2⟩)]
  .rw[if_neg f,n];by_cases c:k+1=a/\(l.getD a sp).rune=-1
   .rw[if_pos c,if_pos (.inl c)]
   .rw[if_neg c,if_neg (fun h=>h.elim c fun h=>f h.1.symm)]
 .rw[if_neg (fun h=>q h.2),n];by_cases c:k+1=a/\(l.getD a sp).rune=-1
  .rw[if_pos c,if_pos (.inl c)]
  .rw[if_neg c];by_cases i:k=b/\(l.getD b sp).rune=-1
   .exfalso;refine q ⟨?_,i.2⟩;have j:=i.2;rw[zE3]at j;by_cases s:b<l.length
    .exact s
    .rw[zC5 li]at j;simp[sp]at j
   .rw[if_neg (fun h=>h.elim c i)]
def getD_some{l:List Ce}{i:Nat}{c:Ce}(h:l[i]?=ap c):l.getD i sp=c:=by simp[zE3,h]
def Kx{l:List Ce}{i:Nat}(h:(l.getD i sp).rune=-1):∃ c,l[i]?=ap c/\c.rune=-1:=by
 rw[zE3]at h
 cases e:l[i]? with
 |none=>rw[e]at h; simp[sp]at h
 |some c=>rw[e]at h; exact⟨c,rfl,h⟩
def Whole.half{l:List Ce}(w:Whole l){i:Nat}{c:Ce}(h:l[i]?=ap c)(b:c.rune=-1):∃ j q,i=j+1/\l[j]?=ap q/\cellW q.rune=2/\q.look=c.look:=by
 rcases (w i c h).2 with a|⟨a,_⟩|⟨_,a⟩
 .rw[b,oN]at a; cases a
 .rw[b,oN]at a; cases a
 .exact a
def Whole.blank{l:List Ce}(w:Whole l){a b:Nat}(k:a<b)(t:b<=l.length):Whole (ic l a b):=by
 intro i c g;rw[ej l a b i k t]at g;by_cases y:a<=i/\i<b
 .rw[if_pos y]at g;cases g;exact⟨Lk.AB,.inl oV⟩
 rw[if_neg y]at g;by_cases s:(i+1=a/\(l.getD a sp).rune=-1)\/(i=b/\(l.getD b sp).rune=-1)
 .rw[if_pos s]at g;cases g;exact⟨Lk.AB,.inl oV⟩
 rw[if_neg s]at g;obtain⟨ok,h⟩:=w i c g;refine⟨ok,?_⟩
 rcases h with h|⟨h,u⟩|⟨h,j,q,rfl,o,f,v⟩
 .exact .inl h
 .refine .inr (.inl ⟨h,?_⟩);rw[ej l a b _ k t,if_neg,if_neg]
  .exact u
  .rintro (⟨e,n⟩|⟨e,n⟩)
   .obtain⟨d,z,x⟩:=Kx n;obtain⟨j,q,B,o,f,_⟩:=w.half z x;obtain rfl:j=i+1:=by omega
    rw[u]at o;cases o;rw[oN]at f;cases f
   .omega
  .intro A;have e:i+1=a:=by omega
   exact s (.inl ⟨e,by rw[<-e,getD_some u]⟩)
 .refine .inr (.inr ⟨h,j,q,rfl,?_,f,v⟩);rw[ej l a b _ k t,if_neg,if_neg]
  .exact o
  .rintro (⟨e,n⟩|⟨e,n⟩)
   .omega
   .rw[<-e,getD_some o]at n;rw[n,oN]at f;cases f
  .intro A;have e:j+1=b:=by omega
   exact s (.inr ⟨e,by rw[<-e,getD_some g]; exact h⟩)
def Whole.GG{l:List Ce}(w:Whole l){k:Nat}{c:Ce}(f:l[k]?=ap sp)(t:cellW c.rune=1)(ok:c.look.Ok):Whole (l.set k c):=by
 have g:=(zE0.1 f).1;intro i d b;rw[zF4]at b;by_cases e:k=i
 .rw[if_pos e,if_pos g]at b;cases b;exact⟨ok,.inl t⟩
 rw[if_neg e]at b;obtain⟨ok,h⟩:=w i d b;refine⟨ok,?_⟩
 rcases h with h|⟨h,n⟩|⟨h,j,q,rfl,o,a,s⟩
 .exact .inl h
 .refine .inr (.inl ⟨h,?_⟩);rw[zF4,if_neg]
  .exact n
  .rintro rfl;rw[f]at n;simp[sp]at n
 .refine .inr (.inr ⟨h,j,q,rfl,?_,a,s⟩);rw[zF4,if_neg]
  .exact o
  .rintro rfl;rw[f]at o;cases o;rw[show sp.rune=32 from rfl,oV]at a;cases a
def Whole.Sh{l:List Ce}(w:Whole l){k:Nat}{c:Int}{lk:Lk}(z:l[k]?=ap sp)(n:l[k+1]?=ap sp)(A:cellW c=2)(ok:lk.Ok):Whole ((l.set k ⟨c,lk⟩).set (k+1) ⟨-1,lk⟩):=by
 have v:=(zE0.1 z).1;have o:=(zE0.1 n).1
 have s:∀ i,((l.set k ⟨c,lk⟩).set (k+1) ⟨-1,lk⟩)[i]?=if k+1=i then ap ⟨-1,lk⟩ else if k=i then ap ⟨c,lk⟩ else l[i]?:=fun i=>by
  rw[zF4];by_cases e:k+1=i
  .rw[if_pos e,if_pos e,if_pos (by simpa using o)]
  .rw[if_neg e,if_neg e,zF4];by_cases g:k=i
   .rw[if_pos g,if_pos g,if_pos v]
   .rw[if_neg g,if_neg g]
 intro i d f;rw[s]at f;by_cases x:k+1=i
 .rw[if_pos x]at f;cases f;refine⟨ok,.inr (.inr ⟨rfl,k,⟨c,lk⟩,x.symm,?_,A,rfl⟩)⟩;rw[s,if_neg li,if_pos rfl]
 rw[if_neg x]at f;by_cases g:k=i
 .rw[if_pos g]at f;cases f;refine⟨ok,.inr (.inl ⟨A,?_⟩)⟩;rw[s,if_pos li]
 rw[if_neg g]at f;obtain⟨ok,h⟩:=w i d f;refine⟨ok,?_⟩
 have dK:∀ {j:Nat} {q:Ce},l[j]?=ap q->(q.rune=-1\/cellW q.rune=2)->k≠j/\k+1≠j:=fun {j q} u hr=>by
  have:∀ {m:Nat},l[m]?=ap sp->m≠j:=fun {m} B e=>by
   rw[e,u]at B;cases B;rcases hr with hr|hr
   .exact absurd hr mt
   .rw[show sp.rune=32 from rfl,oV]at hr;cases hr
  exact⟨this z,this n⟩
 rcases h with h|⟨h,C⟩|⟨h,j,q,rfl,u,t,y⟩
 .exact .inl h
 .obtain⟨a,b⟩:=dK C (.inl rfl);exact .inr (.inl ⟨h,by rw[s,if_neg b,if_neg a]; exact C⟩)
 .obtain⟨a,b⟩:=dK u (.inr t);exact .inr (.inr ⟨h,j,q,rfl,by rw[s,if_neg b,if_neg a]; exact u,t,y⟩)
structure Tm.fQ (x:Tm):Prop where
 rows:∀ l∈x.grid,Whole l
 pen:x.pen.Ok
 spen:x.spen.Ok
def Ic(h w:Nat):(Tm.new h w).fQ:=⟨fun l a=>by
 simp only[Tm.new]at a;rw[List.eq_of_mem_replicate a]
 exact zU w,Lk.AB,Lk.AB⟩
def Tm.fQ.setRow{x:Tm}(v:x.fQ){k:Nat}{l:List Ce}(h:Whole l):(x.setRow k l).fQ :=
 ⟨fun r a=>(List.mem_or_eq_of_mem_set a).elim (v.rows r) (fun e=>e▸h),v.pen,v.spen⟩
def Tm.fQ.rowAt{x:Tm}(v:x.fQ){k:Nat}{l:List Ce}(h:x.grid[k]?=ap l):Whole l:=v.rows l (zC0 h)
def Tm.fQ.blank{x:Tm}(v:x.fQ)(s:x.Sz){k a b:Nat}(c:k<x.h)(f:a<b)(i:b<=x.w):(x.blank k a b).fQ:=by obtain⟨l,g,e,j,_⟩:=s.rowAt c;rw[ky,e];exact v.setRow ((v.rowAt g).blank f li)
def Tm.fQ.move{x:Tm}(v:x.fQ)(r c:Int):Tm.fQ {x with row:=r,col:=c}:=⟨v.rows,v.pen,v.spen⟩
def Tm.fQ.bp{x:Tm}(v:x.fQ)(r c:Int):(x.bp r c).fQ:=v.move _ _
def Tm.fQ.written{x:Tm}(v:x.fQ)(s:x.Sz){r c n:Nat}{k:Int}(g:r<x.h)(z:c+n<=x.w)(t:cellW k=n)(A:n=1\/n=2):(x.written r c n k).fQ:=by
 obtain⟨l,B,e,C,_⟩:=s.rowAt g;have o:r<x.grid.length:=g;have u:=(v.rowAt B).blank (a:=c) (b:=c+n) li li;have y:(x.blank r c (c+n:Nat))=x.setRow r (ic l c (c+n)):=by rw[ky,e]; rfl
 have f:∀ L:List Ce,(x.grid.set r L).getD r []=L:=fun L=>by simp[zE3,o]
 rcases A with rfl|rfl
 .have i:=ej l c (c+1) c li li;rw[if_pos ⟨zA5 _,by omega⟩]at i;have q:=u.GG (c:=⟨k,x.pen⟩) i t v.pen;unfold Tm.written;rw[y];simp only[Tm.put,Tm.setRow,f,List.set_set];exact⟨fun r g=>(List.mem_or_eq_of_mem_set g).elim (v.rows r) (fun e=>e▸q),v.pen,v.spen⟩
 .have i:=ej l c (c+2) c li li;rw[if_pos ⟨zA5 _,by omega⟩]at i;have j:=ej l c (c+2) (c+1) li li;rw[if_pos ⟨by omega,by omega⟩]at j;have q:=u.Sh (lk:=x.pen) i j t v.pen;unfold Tm.written;rw[y];simp only[Tm.put,Tm.setRow,f,List.set_set,if_true];exact⟨fun r g=>(List.mem_or_eq_of_mem_set g).elim (v.rows r) (fun e=>e▸q),v.pen,v.spen⟩
def qE(l:List Ce)(i:Nat):List Ce:=if (l.getD i sp).rune=-1 then l.set (i-1) sp else l
def tt(l:List Ce)(i:Nat):List Ce:=if i+1<l.length/\(l.getD (i+1) sp).rune=-1 then l.set (i+1) sp else l
def zq(l:List Ce)(i:Nat):List Ce:=(tt (qE l i) i).set i sp
def oE(l:List Ce)(i:Nat):(qE l i).length=l.length:=by unfold qE; split<;>simp
def yM(l:List Ce)(i:Nat):(tt l i).length=l.length:=by unfold tt; split<;>simp
def Lh(l:List Ce)(i:Nat):(zq l i).length=l.length:=by rw[zq,List.length_set,yM,oE]
def fh(l:List Ce):Nat->Nat->List Ce
 |_,0=>l
 |k,n+1=>fh (zq l k) (k+1) n
def oh(l:List Ce):∀(n k:Nat),fh l k (n+1)=zq (fh l k n) (k+n)
 |0,k=>rfl
 |n+1,k=>by have h:=oh (zq l k) n (k+1);rw[fh,h,fh,show k+1+n=k+(n+1) by omega]
def Ee{l:List Ce}{i:Nat}(hi:i<l.length)(f:(l.getD i sp).rune=-1->0<i)(j:Nat) :
  (zq l i)[j]?=if j=i then ap sp else if (j+1=i/\(l.getD i sp).rune=-1)\/(j=i+1/\i+1<l.length/\(l.getD (i+1) sp).rune=-1) then ap sp else l[j]?:=by
 have e:(qE l i).getD (i+1) sp=l.getD (i+1) sp:=by
  unfold qE;split
  .simp only[zE3,zF4];rw[if_neg li]
  .rfl
 have g:(qE l i)[j]?=if j+1=i/\(l.getD i sp).rune=-1 then ap sp else l[j]?:=by
  unfold qE;by_cases q:(l.getD i sp).rune=-1
  .have:=f q;rw[if_pos q,zF4];by_cases h:j+1=i
   .rw[if_pos li,if_pos li,if_pos ⟨h,q⟩]
   .rw[if_neg li,if_neg (fun c=>h c.1)]
  .rw[if_neg q,if_neg (fun h=>q h.2)]
 have k:(tt (qE l i) i)[j]?=if j=i+1/\i+1<l.length/\(l.getD (i+1) sp).rune=-1 then ap sp else (qE l i)[j]?:=by
  unfold tt;rw[e,oE];by_cases q:i+1<l.length/\(l.getD (i+1) sp).rune=-1
  .rw[if_pos q,zF4,oE];by_cases h:j=i+1
   .rw[if_pos h.symm,if_pos q.1,if_pos ⟨h,q⟩]
   .rw[if_neg (fun e=>h e.symm),if_neg (fun c=>h c.1)]
  .rw[if_neg q,if_neg (fun h=>q h.2)]
 rw[zq,zF4,yM,oE];by_cases h:i=j
 .rw[if_pos h,if_pos hi,if_pos h.symm]
 .rw[if_neg h,if_neg (fun e=>h e.symm),k,g];by_cases a:j=i+1/\i+1<l.length/\(l.getD (i+1) sp).rune=-1
  .rw[if_pos a,if_pos (.inr a)]
  .rw[if_neg a];by_cases b:j+1=i/\(l.getD i sp).rune=-1
   .rw[if_pos b,if_pos (.inl b)]
   .rw[if_neg b,if_neg (fun h=>h.elim b a)]
def nr{l:List Ce}{a:Nat}(o:(l.getD a sp).rune=-1->0<a):∀ n,a+n<=l.length->fh l a n=ic l a (a+n)
 |0,h=>by rw[fh,mw l a _ li,zD6,uf];unfold iX iQ;rw[if_neg li,if_neg li]
 |n+1,h=>by
  rw[oh,nr o n li];refine zG4 fun j=>?_
  cases n with
  |zero =>
   have t:ic l a (a+0)=l:=by have:=nr o 0 li;rw[<-this]; rfl
   rw[t,zD6,Ee li o,ej l a (a+(0+1)) j li h];by_cases g:j=a
   .rw[if_pos g,if_pos (show a<=j/\j<a+(0+1) by omega)]
   .rw[if_neg g,if_neg (show ¬(a<=j/\j<a+(0+1)) by omega)];by_cases f:j+1=a/\(l.getD a sp).rune=-1
    .rw[if_pos (.inl f),if_pos (.inl f)]
    .by_cases b:j=a+1/\(l.getD (a+1) sp).rune=-1
     .by_cases c:a+1<l.length
      .rw[if_pos (.inr ⟨b.1,c,b.2⟩),if_pos (.inr ⟨by omega,by rw[show a+(0+1)=a+1 by omega]; exact b.2⟩)]
      .rw[zE3,zC5 li]at b;exact absurd b.2 mt
     .rw[if_neg (fun h=>h.elim f fun h=>b ⟨h.1,h.2.2⟩),if_neg (fun h=>h.elim f fun h=>b ⟨by omega,by rw[show a+1=a+(0+1) by omega]; exact h.2⟩)]
  |succ m =>
   have k:a+(m+1)<=l.length:=by omega
   have i:=kt l a (a+(m+1)) li k
   have s:((ic l a (a+(m+1))).getD (a+(m+1)) sp).rune≠-1:=by
    rw[zE3,ej l a (a+(m+1)) _ li k,if_neg li];by_cases q:(l.getD (a+(m+1)) sp).rune=-1
    .rw[if_pos (.inr ⟨rfl,q⟩)]; decide
    .rw[if_neg (fun h=>h.elim (fun h=>by omega) fun h=>q h.2),<-zE3]; exact q
   have u:(ic l a (a+(m+1))).getD (a+(m+1)+1) sp=l.getD (a+(m+1)+1) sp:=by rw[zE3,ej l a (a+(m+1)) _ li k,if_neg li,if_neg (fun h=>h.elim (fun h=>by omega) fun h=>by omega),zE3]
   rw[Ee li (fun h=>absurd h s),u,i,ej l a (a+(m+1)) j li k,ej l a (a+(m+1+1)) j li h]
   by_cases g:j=a+(m+1)
   .rw[if_pos g,if_pos (show a<=j/\j<a+(m+1+1) by omega)]
   .rw[if_neg g]
    by_cases f:a<=j/\j<a+(m+1)
    .rw[if_pos f,if_pos (show a<=j/\j<a+(m+1+1) by omega)];split<;>rfl
    .rw[if_neg f,if_neg (show ¬(a<=j/\j<a+(m+1+1)) by omega)];by_cases b:j+1=a/\(l.getD a sp).rune=-1
     .rw[if_neg (fun h=>h.elim (fun h=>s h.2) fun h=>by omega),if_pos (.inl b),if_pos (.inl b)]
     .by_cases c:j=a+(m+1+1)/\(l.getD (a+(m+1+1)) sp).rune=-1
      .by_cases v:a+(m+1)+1<l.length
       .rw[if_pos (.inr ⟨by omega,v,by rw[show a+(m+1)+1=a+(m+1+1) by omega]; exact c.2⟩),if_pos (.inr c)]
       .rw[zE3,zC5 li]at c;exact absurd c.2 mt
      .rw[if_neg (fun h=>h.elim (fun h=>s h.2) fun h=>c ⟨by omega,by rw[show a+(m+1+1)=a+(m+1)+1 by omega]; exact h.2.2⟩),if_neg (fun h=>h.elim b fun h=>absurd h.1 g),if_neg (fun h=>h.elim b c)]
def Ob(H:aa)(p:Rq)(x:Tm)(k i:Nat)(l:List Ce)(g:cL H p x)(s:x.Sz)(ok:H.base<=H.next)(Y:x.grid[k]?=ap l)(hi:i<x.w)(hr:(l.getD i sp).rune=-1->0<i) :
  zt 99 [i7 i8 (k:Int),i7 i8 (i:Int),sp.val] H p (.tuple #[]) {x with grid:=x.grid.set k (zq l i)}:=by
 obtain⟨n,O⟩:=ac H.next;have hT:p.t<n:=O▸g.lt p.t pi;have hR:p.rb<n:=O▸g.lt p.rb pi;have h1:=g.cell;simp only[bF]at h1;have h2:=g.rows;obtain⟨q,hq,Z,hqb⟩:=g.rowOf Y;have hQ:q.1<n:=O▸g.lt q.1 Z;have hlw:l.length=x.w:=s.ws l (zC0 Y);have s2:=s.w2;have hk:k<x.h:=(zE0.1 Y).1;have hqr:(p.rs.map (aM x.w))[k]?=ap (aM x.w q):=by rw[zE1,hq]; rfl
 have S:=eP (len:=x.h) (cap:=x.h) (n:=p.rb) (s:=bi) (i:=(k:Int)) (k:=k) rfl hk;have K:=fun (j:Nat) (z:Int) (hz:z=j) (hj:j<x.w)=>jP (len:=x.w) (cap:=x.w) (n:=q.1) (s:=if q.2=bv then bi else ap 0) (i:=z) (k:=j) hz hj;have hw1:IntKind.i64.wrap ((i:Int)-1)=(i:Int)-1:=ak li li;have P:IntKind.i64.wrap ((i:Int)+1)=(i:Int)+1:=ak li li;refine aH mixed Tryz.func99 rfl Tryz.ntmps99 (zA8 rfl) ?_;refine fW (fun a b=>b=ext H [⟨77,gc,sp.cells⟩]/\a 0=i9 (ap ⟨p.t,0,bi⟩)/\a 1=i7 i8 (k:Int)/\a 2=i7 i8 (i:Int)/\a 7=i9 (ap ⟨n+0,0,bi⟩)) ?_ ?_
 .simp only[O,Ce.val,sp,Lk.no,zW,seval];refine ah ⟨rfl,?_,?_,?_,?_⟩<;>simp only[aE,seval]
 rintro E X ⟨rfl,f0,f1,f2,f7⟩;refine fW (fun a b=>Mod [q.1] H b/\n<b.next/\bk b (n+0)=ap ⟨77,gc,sp.cells⟩/\bk b q.1=ap ⟨77,q.2,aQ l⟩/\a 2=i7 i8 (i:Int)/\a 7=i9 (ap ⟨n+0,0,bi⟩)/\a 8=aM x.w q) ?_ ?_
 .simp only[f0,f1,O,hT,hR,h1,h2,S,hqr,aM,zW,seval];refine ah ⟨Mod.ext ok,by rw[aA,O]; simp,by rw[bJ O lw]; rfl,by rw[iI li]; exact hqb,?_,?_,?_⟩<;>simp only[f2,f7,aE,seval]
 clear f0 f1 f2 f7 E;rintro E X ⟨G,L,C,f,o,I,u⟩;refine fW (fun a b=>Mod [q.1] H b/\n<b.next/\bk b (n+0)=ap ⟨77,gc,sp.cells⟩/\bk b q.1=ap ⟨77,q.2,aQ (qE l i)⟩/\a 2=i7 i8 (i:Int)/\a 7=i9 (ap ⟨n+0,0,bi⟩)/\a 8=aM x.w q) ?_ ?_
 .obtain⟨m,Q⟩:=ac X.next;have v:q.1<m:=by omega
  obtain⟨c,T⟩:∃ c,l[i]?=ap c:=⟨_,zB3 li⟩
  have A:l.getD i sp=c:=by rw[List.getD,T]; rfl
  have y:=K i _ rfl hi;have D:=pQ T;rw[show X=ext X [] from rfl];by_cases J:c.rune=-1
  .have hpos:0<i:=hr (by rw[A]; exact J);have M:qE l i=l.set (i-1) sp:=by unfold qE; rw[if_pos (by rw[A]; exact J)]
   have R:ge (c.rune=-1)=true:=decide_eq_true J;have ia2:=K (i-1) ((i:Int)-1) li li;have F:∀ N,sQ Tryz.prog 77 N ((i-1)*6) (.agg ⟨[i7 i8 32,i7 i8 0,i7 i8 0,kw gc,kw gc,kw gc]⟩) (ap ⟨77,q.2,aQ l⟩)=ap ⟨77,q.2,aQ (l.set (i-1) sp)⟩:=fun N=>tw li;simp only[o,u,R,Q,v,f,y,ia2,D,hw1,F,aM,zW,seval];refine ah ⟨G.trans (Mod.uw lw),by rw[aA,bE]; simpa using L,by rw[ext_nil,eJ li]; exact C,by rw[M]; exact lC (c:=sp) f li,?_,?_,?_⟩<;>simp only[o,I,u,aM,aE,seval]
  .have M:qE l i=l:=by unfold qE; rw[if_neg (by rw[A]; exact J)]
   have R:ge (c.rune=-1)=false:=decide_eq_false J;simp only[o,u,R,Q,v,f,y,D,aM,zW,seval];refine ah ⟨G,L,C,by rw[M]; exact f,?_,?_,?_⟩<;>simp only[o,I,u,aM,aE,seval]
 generalize U:qE l i=B;have V:B.length=x.w:=by rw[<-U,oE,hlw]
 clear f C L G o I u X E;rintro E X ⟨G,L,C,f,o,I,u⟩;refine fW (fun a b=>Mod [q.1] H b/\n<b.next/\bk b (n+0)=ap ⟨77,gc,sp.cells⟩/\bk b q.1=ap ⟨77,q.2,aQ (tt B i)⟩/\a 2=i7 i8 (i:Int)/\a 7=i9 (ap ⟨n+0,0,bi⟩)/\a 8=aM x.w q) ?_ ?_
 .obtain⟨m,Q⟩:=ac X.next;have v:q.1<m:=by omega
  rw[show X=ext X [] from rfl];by_cases hb:i+1<x.w
  .obtain⟨c,T⟩:∃ c,B[i+1]?=ap c:=⟨_,zB3 li⟩
   have A:B.getD (i+1) sp=c:=by rw[List.getD,T]; rfl
   have p9:ge ((i:Int)+1<(x.w:Int))=true:=decide_eq_true li;have y:=K (i+1) ((i:Int)+1) li hb;have D:=pQ T;by_cases J:c.rune=-1
   .have M:tt B i=B.set (i+1) sp:=by unfold tt; rw[if_pos ⟨by omega,by rw[A]; exact J⟩]
    have R:ge (c.rune=-1)=true:=decide_eq_true J;have F:∀ N,sQ Tryz.prog 77 N ((i+1)*6) (.agg ⟨[i7 i8 32,i7 i8 0,i7 i8 0,kw gc,kw gc,kw gc]⟩) (ap ⟨77,q.2,aQ B⟩)=ap ⟨77,q.2,aQ (B.set (i+1) sp)⟩:=fun N=>tw li;simp only[o,u,p9,R,Q,v,f,y,D,P,F,aM,zW,seval];refine ah ⟨G.trans (Mod.uw lw),by rw[aA,bE]; simpa using L,by rw[ext_nil,eJ li]; exact C,by rw[M]; exact lC (c:=sp) f li,?_,?_,?_⟩<;>simp only[o,I,u,aM,aE,seval]
   .have M:tt B i=B:=by unfold tt; rw[if_neg (fun h=>J (by rw[<-A]; exact h.2))]
    have R:ge (c.rune=-1)=false:=decide_eq_false J;simp only[o,u,p9,R,Q,v,f,y,D,P,aM,zW,seval];refine ah ⟨G,L,C,by rw[M]; exact f,?_,?_,?_⟩<;>simp only[o,I,u,aM,aE,seval]
  .have M:tt B i=B:=by unfold tt; rw[if_neg (fun h=>by have:=h.1; omega)]
   have p9:ge ((i:Int)+1<(x.w:Int))=false:=decide_eq_false li;simp only[o,u,p9,P,aM,zW,seval];refine ah ⟨G,L,C,by rw[M]; exact f,?_,?_,?_⟩<;>simp only[o,I,u,aM,aE,seval]
 generalize W:tt B i=l3;have hl3w:l3.length=x.w:=by rw[<-W,yM,V]
 clear f C L G o I u X E;rintro E X ⟨G,L,C,f,o,I,u⟩;obtain⟨m,Q⟩:=ac X.next;have v:q.1<m:=by omega
 have hnm:n+0<m:=by omega
 have y:=K i _ rfl hi;have F:∀ N,sQ Tryz.prog 77 N (i*6) (.agg ⟨[i7 i8 32,i7 i8 0,i7 i8 0,kw gc,kw gc,kw gc]⟩) (ap ⟨77,q.2,aQ l3⟩)=ap ⟨77,q.2,aQ (l3.set i sp)⟩:=fun N=>tw li;simp only[Ce.cells,sp,Lk.no]at C;rw[show X=ext X [] from rfl];simp only[o,I,u,Q,v,hnm,f,C,y,F,aM,Tryz.results99,zW,seval];refine⟨trivial,p,?_⟩;exact g.putRow hq Y (G.trans (Mod.uw lw)) (l':=zq l i) (by rw[zq,U,W]; exact lC (c:=sp) f li) (Lh l i)
def Bs(x:Tm)(k:Nat)(l m:List Ce):({({x with grid:=x.grid.set k l}:Tm) with grid:=(({x with grid:=x.grid.set k l}:Tm).grid).set k m}:Tm)={x with grid:=x.grid.set k m}:=by simp only[List.set_set]
def vp{x:Tm}{k:Nat}{l:List Ce}(h:x.grid[k]?=ap l):({x with grid:=x.grid.set k l}:Tm)=x:=by
 have:x.grid.set k l=x.grid:=by
  refine zG4 fun j=>?_;rw[zF4];split
  .rename_i e;subst e;rw[if_pos (zE0.1 h).1,h]
  .rfl
 rw[this]
def tz{l:List Ce}{a n w:Nat}(c:l.length=w)(f:a+n<=w)(b:(l.getD 0 sp).rune≠-1):fh l a n=ic l a (a+n)/\(fh l a n).length=w/\((fh l a n).getD 0 sp).rune≠-1:=by
 have h:=nr (l:=l) (a:=a) (fun h=>by
  cases a with
  |zero=>exact absurd h b
  |succ a=>omega) n li
 rw[h];exact⟨rfl,by rw[kt l a _ li li,c],Av l a _ li li b⟩
def KS(H:aa)(p:Rq)(x:Tm)(k a n:Nat)(l:List Ce)(s:x.Sz)(g:cL H p {x with grid:=x.grid.set k (fh l a n)})(ok:H.base<=H.next)(c:x.grid[k]?=ap l)(q:a+n<x.w) :
  zt 99 [i7 i8 (k:Int),i7 i8 ((a+n:Nat):Int),sp.val] H p (.tuple #[]) {x with grid:=x.grid.set k (fh l a (n+1))}:=by
 have f:k<x.grid.length:=(zE0.1 c).1;obtain⟨y,i,z,b,t⟩:=s.rowAt (k:=k) f;rw[c]at i;cases i;obtain⟨A,j,o⟩:=tz (l:=l) (a:=a) (n:=n) b li t;have sz:Tm.Sz {x with grid:=x.grid.set k (fh l a n)}:=s.setRow j o;have u:Tm.w {x with grid:=x.grid.set k (fh l a n)}=x.w:=rN s k _ j
 have:=Ob H p _ k (a+n) (fh l a n) g sz ok (by simp only[zF4,if_true]; rw[if_pos f]) (by rw[u]; exact q) (fun h=>by
  cases v:a+n with
  |zero=>rw[v]at h; exact absurd h o
  |succ m=>omega)
 rw[Bs,<-oh]at this;exact this
def yl(H:aa)(p:Rq)(x:Tm)(k a b:Nat)(g:cL H p x)(s:x.Sz)(ok:H.base<=H.next)(I:k<x.h)(J:a<=b)(K:b<=x.w) :
  zt 130 [i7 i8 (k:Int),i7 i8 (a:Int),i7 i8 (b:Int)] H p (.tuple #[]) (x.blank k a b):=by
 obtain⟨l,D,L,y,M⟩:=s.rowAt (k:=k) I;have s2:=s.w2;refine aH mixed Tryz.func130 rfl Tryz.ntmps130 (zA8 rfl) ?_;simp only[zW,seval];refine c7 fun E j=>?_;have o:E 0=i9 (ap ⟨p.t,0,bi⟩):=by rw[j]; rfl
 have u:E 1=i7 i8 (k:Int):=by rw[j]; rfl
 have i:E 3=i7 i8 (b:Int):=by rw[j]; rfl
 have c:E 8=i7 i8 ((a+0:Nat):Int):=by rw[j]; simp only[aE]; rfl
 clear j
 refine b8 (fun (q:Nat × Rq) v X=>a+q.1<=b/\eZ H p X q.2 {x with grid:=x.grid.set k (fh l a q.1)}/\v 0=i9 (ap ⟨p.t,0,bi⟩)/\v 1=i7 i8 (k:Int)/\v 3=i7 i8 (b:Int)/\v 8=i7 i8 ((a+q.1:Nat):Int)) (fun q=>b-a-q.1) (0,p)
  ⟨by simp only; omega,by rw[fh,vp D]; exact eZ.refl g,o,u,i,c⟩ ?_
 clear o u i c E;rintro⟨n,F⟩ E X ⟨N,st,o,u,i,c⟩;simp only at N st c;have z:=st.ok ok;rw[show X=ext X [] from rfl];by_cases O:a+n=b
 .have f:ge (((a+n:Nat):Int)<(b:Int))=false:=decide_eq_false li;simp only[i,c,f,Tryz.results130,zW,seval];rw[(tz y li M).1,O]at st;refine⟨trivial,F,?_⟩;rw[ky,L];exact st
 .have f:ge (((a+n:Nat):Int)<(b:Int))=true:=decide_eq_true li;have A:IntKind.i64.wrap (((a+n:Nat):Int)+1)=((a+(n+1):Nat):Int):=(ak li li).trans li;have G:=KS X F x k a n l s st.at_ z D li;rw[zt,st.same]at G;simp only[o,u,i,c,f,zW,seval];refine aL.mono (show aL Tryz.prog 99 _ (ext X []) _ from G) ?_;rintro _ Y ⟨rfl,P,B⟩;have C:=st.trans ok B;rw[show Y=ext Y [] from rfl];simp only[c,A,zW,seval];refine aC ⟨(n+1,P),by simp only; omega,by simp only; omega,C,?_,?_,?_,?_⟩<;>simp only[o,u,i,aE,seval]
def qU(H:aa)(n:Nat)(S:n<=1000)(T:1<=n)(ok:H.base<=H.next):aL Tryz.prog 27 [i7 i8 (n:Int)] H fun out X=>∃ m,out=.ok (jp (ap ⟨m,0,bi⟩) n n)/\bk X m=ap ⟨77,bv,aQ (List.replicate n sp)⟩/\H.next<=m/\m<X.next/\Mod [] H X:=by
 refine aH mixed Tryz.func27 rfl Tryz.ntmps27 (zA8 rfl) ?_;simp only[zW,seval];refine c7 fun E t=>?_;have c:E 0=i7 i8 (n:Int):=by rw[t]; rfl
 have a:E 3=jp bi 0 0:=by rw[t]; rfl
 have f:E 4=i7 i8 ((0:Nat):Int):=by rw[t]; rfl
 clear t;refine bn (fun k X=>∃ v,k 3=v/\Mod [] H X/\cK X 77 6 v (aQ (List.replicate n sp)) n/\∀ m∈ae v,H.next<=m) ?_ ?_
 .refine b8 (fun (q:Nat × gt) k X=>q.1<=n/\Mod [] H X/\cK X 77 6 q.2 (aQ (List.replicate q.1 sp)) q.1/\(∀ m∈ae q.2,H.next<=m)/\k 0=i7 i8 (n:Int)/\k 3=q.2/\k 4=i7 i8 (q.1:Int)) (fun q=>n-q.1) (0,jp bi 0 0)
   ⟨zB7 _,Mod.refl,cK.nil,fun m y=>by simp[ae]at y,c,a,f⟩ ?_
  clear c a f E;rintro⟨i,v⟩ E X ⟨hi,g,j,l,c,a,f⟩;simp only at hi j l a f;have o:=g.ok ok;rw[show X=ext X [] from rfl];by_cases K:i=n
  .have A:ge ((i:Int)<(n:Int))=false:=decide_eq_false li;subst K;simp only[c,f,A,zW,seval];exact ah ⟨v,by simp only[a,aE,seval],g,j,l⟩
  .have A:ge ((i:Int)<(n:Int))=true:=decide_eq_true li;obtain⟨x,hx⟩:=ac X.next;obtain⟨u,b⟩:=ac (ext X [⟨77,gc,sp.cells⟩]);have w:Mod [] X u:=b▸Mod.ext o;have L:u.next=x+1:=by rw[<-b,aA,hx]; rfl
   have M:bk u (x+0)=ap ⟨77,gc,sp.cells⟩:=by rw[<-b,bJ hx lw]; rfl
   have N:cK u 77 6 v (aQ (List.replicate i sp)) i:=j.of w.next fun q B=>w.get q (j.ne q B).2 lw;obtain⟨G,C,J,O,U,_⟩:=Cc (P:=Tryz.prog) (st:=56) (xt:=56) (e:=77) (sz:=6) (by1:=32) (z:=.agg #[i7 i8 0,i7 i8 0,i7 i8 0,kw gc,kw gc,kw gc]) (off:=0) (cap:=1) (s:=ap 0) (cnt2:=1) (ws:=sp.cells) ls ls ls ls rfl ls N (ma M) (by simp[Ce.cells]) rfl rfl mt sm L (eI (j5 _ _) rfl);rw[<-b]at C;have D:IntKind.i64.wrap ((i:Int)+1)=((i+1:Nat):Int):=bA li;simp only[Ce.cells,sp,Lk.no]at C;simp only[c,a,f,A,hx,C,D,zW,seval];have F:aQ (List.replicate i sp)++sp.cells=aQ (List.replicate (i+1) sp):=by rw[List.replicate_succ',eX]; simp[aQ]
   rw[F]at J;have Q:Mod [] H G:=(g.trans w).step (O (w.ok o)) ok fun q B=>.inr (l q B);refine aC ⟨(i+1,jp (ap ⟨x+1,0,bi⟩) (i+1) (i+1)),by simp only; omega,by simp only; omega,Q,J,fun m y=>by simp only[ae,zA6]at y; have:=g.next; omega,?_,?_,?_⟩<;>simp only[c,aE,seval]
 .clear c a f E;rintro E X ⟨v,a,g,j,l⟩;rw[show X=ext X [] from rfl];simp only[a,Tryz.results27,zW,seval];obtain⟨_,_,⟨h,_⟩|⟨_,m,rfl,R,I⟩⟩:=j
  .omega
  .exact⟨m,rfl,R,l m ol,I,g⟩
def vR{α:Type}(l:List α)(e i:Nat)(q:α):List α:=(l.eraseIdx e).insertIdx i q
section
variable{α β:Type}
def CO{l:List α}{e i:Nat}{q:α}(a:e<l.length)(hi:i<l.length):(vR l e i q).length=l.length:=by rw[vR,List.length_insertIdx,List.length_eraseIdx,if_pos a,if_pos li]; omega
def ke{l:List α}{e i:Nat}{q:α}(a:e<l.length)(hi:i<l.length)(j:Nat) :
  (vR l e i q)[j]?=if j<i then (if j<e then l[j]? else l[j+1]?) else if j=i then ap q else if j<=e then l[j-1]? else l[j]?:=by
 rw[vR,List.getElem?_insertIdx,List.length_eraseIdx,if_pos a];simp only[List.getElem?_eraseIdx];split
 .rfl
 .split
  .rw[if_pos li]
  .by_cases h:j<=e
   .rw[if_pos h,if_pos li]
   .rw[if_neg h,if_neg li,Nat.sub_add_cancel li]
def Ov{l:List α}{e i:Nat}{q a:α}(c:e<l.length)(hi:i<l.length)(h:a∈vR l e i q):a=q\/a∈l:=by
 obtain⟨j,b⟩:=List.getElem?_of_mem h;rw[ke c hi]at b;split at b
 .split at b<;>exact .inr (zC0 b)
 .split at b
  .exact .inl (Option.some.inj b).symm
  .split at b<;>exact .inr (zC0 b)
def Ha(f:α->β){l:List α}{e i:Nat}{q:α}(a:e<l.length)(hi:i<l.length):(vR l e i q).map f=vR (l.map f) e i (f q):=by
 refine zG4 fun j=>?_;rw[zE1,ke a hi,ke (by simpa using a) (by simpa using hi)];simp only[zE1]
 (repeat' split)<;>rfl
def Kj{l:List α}{e i:Nat}{q:α}(a:l.Nodup)(b:q∉l)(c:e<l.length)(hi:i<l.length):(vR l e i q).Nodup:=by
 rw[vR];have f:i<=(l.eraseIdx e).length:=by rw[List.length_eraseIdx,if_pos c]; omega
 rw[(List.perm_insertIdx q (l.eraseIdx e) f).nodup_iff,zB8];exact⟨fun h=>b ((List.eraseIdx_sublist l e).mem h),(List.eraseIdx_sublist l e).nodup a⟩
def M1{l:List α}{m:List β}{e i:Nat}{q a:α}{r b:β}(s:l.length=m.length)(o:e<l.length)(hi:i<l.length){j:Nat}(c:(vR l e i q)[j]?=ap a)(f:(vR m e i r)[j]?=ap b):(a=q/\b=r)\/∃ k:Nat,l[k]?=ap a/\m[k]?=ap b:=by
 rw[ke o hi]at c;rw[ke li li]at f;by_cases h:j<i
 .rw[if_pos h]at c f;by_cases g:j<e
  .rw[if_pos g]at c f; exact .inr ⟨_,c,f⟩
  .rw[if_neg g]at c f; exact .inr ⟨_,c,f⟩
 .rw[if_neg h]at c f;by_cases g:j=i
  .rw[if_pos g]at c f; exact .inl ⟨(Option.some.inj c).symm,(Option.some.inj f).symm⟩
  .rw[if_neg g]at c f;by_cases n:j<=e
   .rw[if_pos n]at c f; exact .inr ⟨_,c,f⟩
   .rw[if_neg n]at c f; exact .inr ⟨_,c,f⟩
end
def l9(w:Nat){g:List (List Ce)}{t b n:Nat}(up:Bool)(h:t<=b)(q:b<g.length)(o:n<=b+1-t)(j:Nat) :
  (fT w g t b n up)[j]?=if j<t then g[j]? else if b<j then g[j]? else cond up (if j+n<=b then g[j+n]? else ap (bT w)) (if j<t+n then ap (bT w) else g[j-n]?):=by
 have f:(g.take t).length=t:=by rw[zF1]; omega
 have a:((g.drop t).take (b+1-t)).length=b+1-t:=by rw[zF1,zC1]; omega
 simp only[fT,Nat.min_eq_left o]
 have i:∀(u:Bool),(if u=bv then ((g.drop t).take (b+1-t)).drop n++List.replicate n (List.replicate w sp) else List.replicate n (List.replicate w sp)++((g.drop t).take (b+1-t)).take (b+1-t-n)).length=b+1-t:=fun u=>by
  cases u
  .simp only[zC8,if_false,zB2,zG2,zF1,a]; omega
  .simp only[if_true,zB2,zG2,zC1,a]; omega
 by_cases k:j<t
 .rw[if_pos k,zC9,List.getElem?_append_left li,List.getElem?_take,if_pos k]
 rw[if_neg k];by_cases l:b<j
 .rw[if_pos l,zG5 (by rw[zB2,f,i]; omega),zB2,f,i,List.getElem?_drop];congr 1; omega
 rw[if_neg l,List.getElem?_append_left (by rw[zB2,f,i]; omega),zG5 li,f];cases up
 .simp only[zC8,if_false,cond_false];by_cases c:j<t+n
  .rw[if_pos c,List.getElem?_append_left (by rw[zG2]; omega),List.getElem?_replicate,if_pos li]
  .rw[if_neg c,zG5 (by rw[zG2]; omega),zG2,List.getElem?_take,if_pos li,List.getElem?_take,if_pos li,List.getElem?_drop];congr 1; omega
 .simp only[if_true,cond_true];by_cases c:j+n<=b
  .rw[if_pos c,List.getElem?_append_left (by rw[zC1,a]; omega),List.getElem?_drop,List.getElem?_take,if_pos li,List.getElem?_drop];congr 1; omega
  .rw[if_neg c,zG5 (by rw[zC1,a]; omega),zC1,a,List.getElem?_replicate,if_pos li]
def FO(w:Nat){g:List (List Ce)}{t b n:Nat}(up:Bool)(h:t<=b)(a:b<g.length)(f:n<b+1-t)(c:(fT w g t b n up).length=g.length) :
  vR (fT w g t b n up) (cond up t b) (cond up b t) (bT w)=fT w g t b (n+1) up:=by
 refine zG4 fun j=>?_;cases up
 .simp only[cond_false]at c ⊢;rw[ke li li];simp only[l9 w gc h a (show n<=b+1-t by omega),l9 w gc h a (show n+1<=b+1-t by omega),cond_false]
  (repeat' split)<;>first|rfl|(exfalso; omega)|(congr 1; omega)
 .simp only[cond_true]at c ⊢;rw[ke li li];simp only[l9 w bv h a (show n<=b+1-t by omega),l9 w bv h a (show n+1<=b+1-t by omega),cond_true]
  (repeat' split)<;>first|rfl|(exfalso; omega)|(congr 1; omega)
def yo(w:Nat){g:List (List Ce)}{t b:Nat}(up:Bool)(h:t<=b)(a:b<g.length):∀ n,n<=b+1-t->(fT w g t b n up).length=g.length/\(fT w g t b 0 up)=g
 |n,c=>by
  refine⟨?_,zG4 fun j=>?_⟩
  .unfold fT;simp only[zB2,zF1,zC1];cases up<;>simp<;>omega
  .rw[l9 w up h a (zB7 _)];split
   .rfl
   split
   .rfl
   cases up
   .simp only[cond_false]; rw[if_neg li]; rfl
   .simp only[cond_true]; rw[if_pos li]; rfl
def ym:∀(l:List gt)(k:Nat)(v:gt),k<l.length->cQ l k [v]=l.set k v
 |[],k,v,h=>by simp at h
 |x::r,0,v,_=>by rw[List.set_cons_zero];show v::cQ r 0 []=v::r;rw[MU]
 |x::r,k+1,v,h=>by rw[List.set_cons_succ,<-ym r k v (by simpa using h)]; rfl
def cL.Ld{H Y:aa}{p:Rq}{x:Tm}(g:cL H p x){m e i:Nat}(mod:Mod [p.rb] H Y)(F:bk Y p.rb=ap ⟨56,bv,vR (p.rs.map (aM x.w)) e i (aM x.w (m,bv))⟩)(G:bk Y m=ap ⟨77,bv,aQ (bT x.w)⟩)(I:H.next<=m)(J:m<Y.next)(B:e<x.h)(hi:i<x.h)(K:Tm.w {x with grid:=vR x.grid e i (bT x.w)}=x.w) :
  eZ H p Y {p with rs:=vR p.rs e i (m,bv)} {x with grid:=vR x.grid e i (bT x.w)}:=by
 have b:e<p.rs.length:=by rw[g.len]; exact B
 have c:i<p.rs.length:=by rw[g.len]; exact hi
 have v:e<x.grid.length:=B;have y:i<x.grid.length:=hi;have C:=zB8.1 g.nd;have D:=zB8.1 C.2;have s:∀ n,n<H.next->n≠p.rb->Y.get n=H.get n:=fun n a dK=>mod.get n a (by simp only[zA6]; exact dK)
 have f:∀ n∈(vR p.rs e i (m,bv)).map (·.1),n=m\/n∈p.rs.map (·.1):=fun n a=>by
  obtain⟨q,A,rfl⟩:=zB6.1 a;rcases Ov b c A with rfl|h
  .exact .inl rfl
  .exact .inr (zB6.2 ⟨q,h,rfl⟩)
 have o:∀ n∈p.au,n<H.next:=g.lt;have L:p.t<H.next:=o _ pi
 have z:∀ n∈({p with rs:=vR p.rs e i (m,bv)}:Rq).au,n∈p.au\/n=m:=fun n a=>by
  simp only[Rq.au,zA9]at a ⊢;rcases a with h|h|h
  .exact .inl (.inl h)
  .exact .inl (.inr (.inl h))
  .rcases f n h with h|h
   .exact .inr h
   .exact .inl (.inr (.inr h))
 refine⟨⟨?_,?_,?_,?_,?_,fun n a=>?_⟩,mod.mono (by intro n a; simp only[zA6]at a; subst a; simp[Rq.au]),rfl,rfl,fun n a=>?_⟩
 .rw[aO (s _ L g.RU),g.cell];have:Tm.h {x with grid:=vR x.grid e i (bT x.w)}=x.h:=CO v y;simp only[bF,this]
 .rw[K,Ha _ b c]; exact F
 .rw[CO b c,g.len];exact (CO v y).symm
 .intro j q l A M
  rcases M1 (l:=p.rs) (m:=x.grid) (by rw[g.len]; rfl) b c A M with⟨rfl,rfl⟩|⟨k,E,N⟩
  .exact G
  .obtain⟨O,Q,P⟩:=g.uN E;rw[aO (s _ (o _ O) P)];exact g.row k q l E N
 .simp only[Rq.au];have u:∀ n∈p.au,n≠m:=fun n a=>by have:=o n a; omega
  refine zB8.2 ⟨?_,zB8.2 ⟨?_,?_⟩⟩
  .rw[zA9,not_or];refine⟨g.RU,fun h=>?_⟩;rcases f _ h with h|h
   .exact u p.t pi h
   .exact C.1 (zC4 _ h)
  .intro h;rcases f _ h with h|h
   .exact u p.rb pi h
   .exact D.1 h
  .rw[Ha _ b c];refine Kj D.2 (fun h=>u m ?_ rfl) (by simpa using b) (by simpa using c);simp only[Rq.au,zA9]; exact .inr (.inr h)
 .rcases z n a with h|rfl
  .exact mod.lt (o n h)
  .exact J
 .rcases z n a with h|rfl
  .exact .inl h
  .exact .inr I
def M7(L:List gt)(t i:Nat)(M:List gt):Prop:=M.length=L.length/\∀ j,M[j]?=if t<=j/\j<i then L[j+1]? else L[j]?
def KT(L:List gt)(b i:Nat)(M:List gt):Prop:=M.length=L.length/\∀ j,M[j]?=if i<j/\j<=b then L[j-1]? else L[j]?
def Jg{L M:List gt}{t i:Nat}{v:gt}(h:M7 L t i M)(f:t<=i)(a:L[i+1]?=ap v):M[i+1]?=ap v/\M7 L t (i+1) (M.set i v):=by
 have b:=(zE0.1 a).1;refine⟨by rw[h.2,if_neg li]; exact a,by rw[List.length_set]; exact h.1,fun j=>?_⟩;rw[zF4,h.1];by_cases e:i=j
 .rw[if_pos e,if_pos li,if_pos li,<-e,a]
 .rw[if_neg e,h.2];by_cases c:t<=j/\j<i
  .rw[if_pos c,if_pos li]
  .rw[if_neg c,if_neg li]
def KA{L M:List gt}{b i:Nat}{v:gt}(h:KT L b (i+1) M)(f:i+1<=b)(g:b<L.length)(a:L[i]?=ap v):M[i]?=ap v/\KT L b i (M.set (i+1) v):=by
 refine⟨by rw[h.2,if_neg li]; exact a,by rw[List.length_set]; exact h.1,fun j=>?_⟩;rw[zF4,h.1];by_cases e:i+1=j
 .rw[if_pos e,if_pos li,if_pos li,<-e,<-a]; rfl
 .rw[if_neg e,h.2];by_cases c:i+1<j/\j<=b
  .rw[if_pos c,if_pos li]
  .rw[if_neg c,if_neg li]
def L6{L M:List gt}{t b:Nat}{v:gt}(h:M7 L t b M)(c:t<=b)(a:b<L.length):M.set b v=vR L t b v:=by
 refine zG4 fun j=>?_;rw[zF4,h.1,ke li a,h.2]
 (repeat' split)<;>first|rfl|(exfalso; omega)|(congr 1; omega)
def MN{L M:List gt}{t b:Nat}{v:gt}(h:KT L b t M)(c:t<=b)(a:b<L.length):M.set t v=vR L b t v:=by
 refine zG4 fun j=>?_;rw[zF4,h.1,ke a li,h.2]
 (repeat' split)<;>first|rfl|(exfalso; omega)|(congr 1; omega)
def BU{w N i:Nat}{q:Nat × Bool}{M:List gt}(hi:i<M.length)(a:q.1<N):sQ Tryz.prog 56 N i (jp (ap ⟨q.1,0,if q.2=bv then bi else ap 0⟩) w w) (ap ⟨56,bv,M⟩)=ap ⟨56,bv,M.set i (aM w q)⟩:=by have h:=nA (P:=Tryz.prog) (t:=56) (e:=56) (o:=true) (l:=M) (N:=N) (off:=i) (v:=jp (ap ⟨q.1,0,if q.2=bv then bi else ap 0⟩) w w) ls (by simp only[Value.cells,zA3,zB0]; omega) rfl (by simp only[Value.cells,aX,aV,Bool.and_true]; exact bx a);rw[h];exact congrArg (fun l=>ap (Bl.mk 56 bv l)) (ym M i _ hi)
def B4{X:aa}{n i w:Nat}{q:Nat × Bool}{M:List gt}(h:bk X n=ap ⟨56,bv,M⟩)(hi:i<M.length):bk (uw X n i [jp (ap ⟨q.1,0,if q.2=bv then bi else ap 0⟩) w w]) n=ap ⟨56,bv,M.set i (aM w q)⟩:=by rw[bR,h,zB1,r6,ym M i _ hi]; rfl
def Ao(H:aa)(p:Rq)(x:Tm)(M:List gt)(w:Nat)(q:Nat × Bool)(a:bk H p.t=ap ⟨71,gc,bF p x⟩)(f:bk H p.rb=ap ⟨56,bv,M⟩)(g:M[0]?=ap (aM w q))(hx:1<=x.h):Pure 72 [i9 (ap ⟨p.t,0,bi⟩)] H (i7 i8 (w:Int)):=by obtain⟨b,c⟩:=ac H.next;simp only[bF]at a;have hi:=eP (len:=x.h) (cap:=x.h) (n:=p.rb) (s:=bi) (i:=0) (k:=0) rfl hx;refine ba mixed Tryz.func72 rfl Tryz.ntmps72 (zA8 rfl) fun wf j=>?_;have l:p.t<b:=c▸wf.lt a;have o:p.rb<b:=c▸wf.lt f;simp only[c,l,o,a,f,hi,g,aM,Tryz.results72,zW,seval];exact Fin.pure rfl
def AV{rs:List (Nat × Bool)}{w:Nat}{v:gt}(h:v∈rs.map (aM w)):∃ q∈rs,v=aM w q:=by obtain⟨q,a,rfl⟩:=zB6.1 h;exact⟨q,a,rfl⟩
def mQ(H:aa)(p:Rq)(x:Tm)(t b n:Nat)(up:Bool)(g:cL H p x)(s:x.Sz)(ok:H.base<=H.next)(o:t<=b)(hbh:b<x.h)(hn:n<=10000) :
  zt 96 [i7 i8 (t:Int),i7 i8 (b:Int),i7 i8 (n:Int),kw up] H p (.tuple #[]) (x.fe t b n up):=by
 have s1:=s.h1;have s2:=s.h2;have s3:=s.w1;have s4:=s.w2;have hbg:b<x.grid.length:=hbh;obtain⟨N,hN⟩:=ac (min n (b+1-t));have hNl:N<=b+1-t:=by omega
 have hroll:x.fe t b n up={x with grid:=fT x.w x.grid t b N up}:=by
  rw[vL];have:fT x.w x.grid t b n up=fT x.w x.grid t b N up:=by simp only[fT];rw[show min N (b+1-t)=min n (b+1-t) by omega]
  rw[this]
 rw[hroll];have hw1:IntKind.i64.wrap ((b:Int)-(t:Int))=(b:Int)-t:=ak li li;have hw2:IntKind.i64.wrap ((b:Int)-(t:Int)+1)=(b:Int)-t+1:=ak li li;have hmin:(if (b:Int)-t+1<(n:Int) then (b:Int)-t+1 else (n:Int))=(N:Int):=by split<;>omega
 refine aH mixed Tryz.func96 rfl Tryz.ntmps96 (zA8 rfl) ?_;simp only[hw1,hw2,zW,seval];refine c7 fun E hE=>?_;have g0:E 0=i9 (ap ⟨p.t,0,bi⟩):=by rw[hE]; rfl
 have g1:E 1=i7 i8 (t:Int):=by rw[hE]; rfl
 have g2:E 2=i7 i8 (b:Int):=by rw[hE]; rfl
 have g3:E 3=i7 i8 ((N-0:Nat):Int):=by rw[hE]; simp only[aE]; exact congrArg (Value.int i8) li
 have g4:E 4=kw up:=by rw[hE]; rfl
 clear hE
 refine b8 (fun (q:Nat × Rq) c X=>q.1<=N/\eZ H p X q.2 {x with grid:=fT x.w x.grid t b q.1 up}/\c 0=i9 (ap ⟨p.t,0,bi⟩)/\c 1=i7 i8 (t:Int)/\c 2=i7 i8 (b:Int)/\c 3=i7 i8 ((N-q.1:Nat):Int)/\c 4=kw up) (fun q=>N-q.1) (0,p)
  ⟨zB7 _,by rw[(yo x.w up o hbg 0 (zB7 _)).2]; exact eZ.refl g,g0,g1,g2,g3,g4⟩ ?_
 clear g0 g1 g2 g3 g4 E;rintro⟨k,a⟩ E X ⟨hk,st,g0,g1,g2,g3,g4⟩;simp only at hk st g3;have okX:=st.ok ok;rw[show X=ext X [] from rfl];by_cases he:k=N
 .have hd:ge ((0:Int)<((N-k:Nat):Int))=false:=decide_eq_false li;rw[he]at st;simp only[g3,hd,Tryz.results96,zW,seval];exact⟨trivial,a,st⟩
 have hd:ge ((0:Int)<((N-k:Nat):Int))=true:=decide_eq_true li;have hwk:IntKind.i64.wrap (((N-k:Nat):Int)-1)=((N-(k+1):Nat):Int):=(ak li li).trans li;have gX:=st.at_;have hkb:k<b+1-t:=by omega
 have sy:(x.fe t b k up).Sz:=s.fe up o hbh;obtain⟨yh,yw,_⟩:=wC s (n:=k) up o hbh;have hry:({x with grid:=fT x.w x.grid t b k up}:Tm)=x.fe t b k up:=rfl;rw[hry]at st gX;have hT2:p.t<X.next:=st.same▸gX.lt a.t pi;have hR2:a.rb<X.next:=gX.lt a.rb pi;have h1:=gX.cell;rw[st.same]at h1;have h2:=gX.rows;rw[yw]at h2;have hrl:a.rs.length=x.h:=gX.len.trans yh;have hLl:(a.rs.map (aM x.w)).length=x.h:=by rw[zE9,hrl]
 have htb2:¬p.t=a.rb:=fun e=>gX.RU (st.same.trans e);have hqlt:∀ q∈a.rs,q.1<X.next:=fun q hq=>gX.lt q.1 (by simp only[Rq.au,zA9,zB6]; exact .inr (.inr ⟨q,hq,rfl⟩));have hgrl:=yo x.w up o hbg k li
 have hfin:∀(Z:aa)(m:Nat),Mod [a.rb] X Z->bk Z a.rb=ap ⟨56,bv,vR (a.rs.map (aM x.w)) (cond up t b) (cond up b t) (aM x.w (m,bv))⟩->bk Z m=ap ⟨77,bv,aQ (bT x.w)⟩->X.next<=m->m<Z.next->∃ p3,eZ H p Z p3 {x with grid:=fT x.w x.grid t b (k+1) up}:=fun Z m mZ kZ bZ hm1 hm2=>by
  have hco:cond up t b<x.h/\cond up b t<x.h:=by cases up<;>simp only[cond_true,cond_false]<;>omega
  have hsucc:=FO x.w up o hbg hkb hgrl.1;have hrow:=wC s (n:=k+1) up o hbh
  have:=gX.Ld (Y:=Z) (m:=m) (e:=cond up t b) (i:=cond up b t) mZ (by rw[yw]; exact kZ) (by rw[yw]; exact bZ) hm1 hm2 (by rw[yh]; exact hco.1) (by rw[yh]; exact hco.2) (by
   rw[yw];show Tm.w {x with grid:=vR (fT x.w x.grid t b k up) _ _ _}=_;rw[hsucc]
   exact hrow.2.1)
  rw[yw]at this;have e:({(x.fe t b k up) with grid:=vR (x.fe t b k up).grid (cond up t b) (cond up b t) (bT x.w)}:Tm)={x with grid:=fT x.w x.grid t b (k+1) up}:=by rw[<-hsucc]; rfl
  rw[e]at this;exact⟨_,st.trans ok this⟩
 cases up with
 |true =>
  simp only[cond_true]at hfin;simp only[g1,g3,g4,hd,zW,seval];refine c7 fun J f=>?_;have l:J 0=i9 (ap ⟨p.t,0,bi⟩):=by rw[f]; simp only[g0,aE,seval]
  have u:J 1=i7 i8 (t:Int):=by rw[f]; simp only[g1,aE,seval]
  have y:J 2=i7 i8 (b:Int):=by rw[f]; simp only[g2,aE,seval]
  have G:J 3=i7 i8 ((N-k:Nat):Int):=by rw[f]; simp only[g3,aE,seval]
  have I:J 4=kw true:=by rw[f]; simp only[g4,aE,seval]
  have O:J 10=i7 i8 (t:Int):=by rw[f]; rfl
  clear f g0 g1 g2 g3 g4 E;refine bn (fun c Y=>∃ M,M7 (a.rs.map (aM x.w)) t b M/\Mod [a.rb] X Y/\bk Y a.rb=ap ⟨56,bv,M⟩/\c 0=i9 (ap ⟨p.t,0,bi⟩)/\c 1=i7 i8 (t:Int)/\c 2=i7 i8 (b:Int)/\c 3=i7 i8 ((N-k:Nat):Int)/\c 4=kw bv) ?_ ?_
  .refine b8 (fun (i:Nat) c Y=>t<=i/\i<=b/\(∃ M,M7 (a.rs.map (aM x.w)) t i M/\Mod [a.rb] X Y/\bk Y a.rb=ap ⟨56,bv,M⟩)/\c 0=i9 (ap ⟨p.t,0,bi⟩)/\c 1=i7 i8 (t:Int)/\c 2=i7 i8 (b:Int)/\c 3=i7 i8 ((N-k:Nat):Int)/\c 4=kw bv/\c 10=i7 i8 (i:Int)) (fun i=>b-i) t
    ⟨zA5 _,o,⟨a.rs.map (aM x.w),⟨rfl,fun j=>by rw[if_neg li]⟩,Mod.refl,h2⟩,l,u,y,G,I,O⟩ ?_
   clear l u y G I O J;rintro i E Y ⟨hi1,hi2,⟨M,L,A,P⟩,l,u,y,G,I,O⟩
   obtain⟨Q,B⟩:∃ n,Y.next=n:=⟨_,rfl⟩
   have hmy:=A.next;have R:p.t<Q:=by omega
   have hRy:a.rb<Q:=by omega
   have cY:=(A.bk hT2 (by simp only[zA6]; exact htb2)).trans h1;simp only[bF,yh]at cY;rw[show Y=ext Y [] from rfl];by_cases hie:i=b
   .have S:ge ((i:Int)<(b:Int))=false:=decide_eq_false li;subst hie;simp only[y,O,S,zW,seval];exact ah ⟨M,L,A,P,by simp only[l,aE,seval],by simp only[u,aE,seval],by simp only[y,aE,seval],by simp only[G,aE,seval],by simp only[I,aE,seval]⟩
   .have S:ge ((i:Int)<(b:Int))=true:=decide_eq_true li
    obtain⟨q,hq⟩:∃ q,a.rs[i+1]?=ap q:=⟨_,zB3 li⟩
    have hLq:(a.rs.map (aM x.w))[i+1]?=ap (aM x.w q):=by rw[zE1,hq]; rfl
    have hQ:q.1<Q:=by have:=hqlt q (zC0 hq); omega
    obtain⟨hMq,hM2⟩:=Jg L hi1 hLq;have hMl:M.length=x.h:=L.1.trans hLl;have hwi:IntKind.i64.wrap ((i:Int)+1)=((i+1:Nat):Int):=bA li;have ia1:=eP (len:=x.h) (cap:=x.h) (n:=a.rb) (s:=bi) (i:=((i+1:Nat):Int)) (k:=i+1) rfl li;have ia2:=eP (len:=x.h) (cap:=x.h) (n:=a.rb) (s:=bi) (i:=(i:Int)) (k:=i) rfl li;have T:=fun U (hN0:q.1<U)=>BU (w:=x.w) (N:=U) (q:=q) (M:=M) (i:=i) li hN0;have F:=B4 (w:=x.w) (q:=q) (i:=i) P li;have nxt:i+1<=b:=by omega
    simp only[aM]at hMq;simp only[y,O,S,zW,seval];refine aK [(14,3),(14,8),(14,12)] [] ls ls rfl fun ops anc hA hG=>?_;simp only[aj]at hA;simp only[l,O,B,R,hRy,cY,P,hwi,ia1,ia2,hMq,T (Q+0) hQ,hA,bh,zW,seval];refine aC ⟨i+1,by omega,by omega,nxt,⟨_,hM2,A.trans (Mod.uw lw),by rw[ext_nil]; exact F⟩,?_,?_,?_,?_,?_,?_⟩<;>simp only[l,u,y,G,I,aE,seval]
  clear l u y G I O J;rintro E Y ⟨M,L,A,P,l,u,y,G,I⟩;have okY:=A.ok okX
  obtain⟨Q,B⟩:∃ n,Y.next=n:=⟨_,rfl⟩
  have hmy:=A.next;have R:p.t<Q:=by omega
  have hRy:a.rb<Q:=by omega
  have cY:=(A.bk hT2 (by simp only[zA6]; exact htb2)).trans h1
  obtain⟨q0,hq0⟩:∃ q,M[0]?=ap (aM x.w q):=by
   obtain⟨v0,hv0⟩:∃ v,M[0]?=ap v:=⟨_,zB3 (by rw[L.1,hLl]; omega)⟩
   have h:=L.2 0;rw[hv0]at h;obtain⟨q,_,e⟩:=AV (rs:=a.rs) (w:=x.w) (v:=v0) (by split at h<;>exact zC0 h.symm);exact⟨q,by rw[hv0,e]⟩
  have cY2:=cY;simp only[bF,yh]at cY2;rw[show Y=ext Y [] from rfl];try simp only[fX]
  refine aK [(7,6),(9,3),(9,6),(9,7)] [] ls ls rfl fun ops anc hA hG=>?_;simp only[aj]at hA;simp only[l,y,B,R,cY2,bh,zW,seval]
  refine aN (v:=i7 i8 (x.w:Int)) [p.t,a.rb] rfl ls mt (fun n hn=>by
   simp only[zA9,zF2,or_false]at hn;rcases hn with rfl|rfl
   .exact fI cY
   .exact fI P) (fun K hn hg=>?_) (by simp only[bh]) ?_
  .simp only[aE];have:=Ao K a (x.fe t b k bv) M x.w q0 (by rw[st.same]; exact (aO (hg _ lw)).trans cY) ((aO (hg _ lw)).trans P) hq0 (by rw[yh]; omega);rw[st.same]at this;exact this
  simp only[B,bh,fX,seval];have V:=aI Y [];obtain⟨_,gg,hcc,m,rfl,bm,lm,hmg,mg⟩:=qU (Y.restrict []) x.w li s3 (by rw[V.1,V.2.1]; exact zA5 _);rw[V.1]at lm;refine jH (H:=ext Y []) (W:=[]) [] okY rfl ls (fun _ h=>by simp at h) (fun _ h=>by simp at h) (fun _ h=>by simp at h) (v:=jp (ap ⟨m,0,bi⟩) x.w x.w) (g:=gg) (by simp only[aE]; exact hcc) mg (by simp only[aj,bu,hA,true_or,and_true]; simp) ?_;intro C D mC hFC hNC hnC hD;have hD0:D=[]:=List.eq_nil_iff_forall_not_mem.2 (fun q hq=>by simpa using hD q hq);subst hD0;replace mC:Mod [] Y C:=mC
  obtain⟨cn,hcn⟩:∃ n,C.next=n:=⟨_,rfl⟩
  have hmC:m<cn:=by omega
  have hRc:a.rb<cn:=by omega
  have kC:=(mC.bk (n:=a.rb) li lw).trans P;have bC:bk C m=ap ⟨77,bv,aQ (List.replicate x.w sp)⟩:=(aO (hNC m lm hmg)).trans bm;have hMl:M.length=x.h:=L.1.trans hLl;have ia3:=eP (len:=x.h) (cap:=x.h) (n:=a.rb) (s:=bi) (i:=(b:Int)) (k:=b) rfl li;have T:∀ U,m<U->sQ Tryz.prog 56 U b (jp (ap ⟨m,0,bi⟩) x.w x.w) (ap ⟨56,bv,M⟩)=ap ⟨56,bv,M.set b (aM x.w (m,bv))⟩:=fun U h=>BU (w:=x.w) (N:=U) (q:=(m,bv)) (M:=M) (i:=b) li h;have F:bk (uw C a.rb b [jp (ap ⟨m,0,bi⟩) x.w x.w]) a.rb=ap ⟨56,bv,M.set b (aM x.w (m,bv))⟩:=B4 (w:=x.w) (q:=(m,bv)) (i:=b) kC li;rw[L6 L o li]at F;obtain⟨p3,st3⟩:=hfin (uw C a.rb b [jp (ap ⟨m,0,bi⟩) x.w x.w]) m ((A.trans (mC.mono lw)).trans (Mod.uw lw)) F (by rw[eJ (fun e=>by omega)]; exact bC) li (by rw[bE]; omega);rw[show C=ext C [] from rfl];simp only[G,hcn,hRc,kC,ia3,T (cn+0) hmC,hA,hwk,bh,zW,seval];refine⟨fun _=>.inr (.inl li),?_⟩;refine aC ⟨(k+1,p3),by simp only; omega,by simp only; omega,by rw[ext_nil]; exact st3,?_,?_,?_,?_,?_⟩<;>simp only[l,u,y,I,aE,seval]
 |false =>
  simp only[cond_false]at hfin;simp only[g2,g3,g4,hd,zW,seval];refine c7 fun J f=>?_;have l:J 0=i9 (ap ⟨p.t,0,bi⟩):=by rw[f]; simp only[g0,aE,seval]
  have u:J 1=i7 i8 (t:Int):=by rw[f]; simp only[g1,aE,seval]
  have y:J 2=i7 i8 (b:Int):=by rw[f]; simp only[g2,aE,seval]
  have G:J 3=i7 i8 ((N-k:Nat):Int):=by rw[f]; simp only[g3,aE,seval]
  have I:J 4=kw false:=by rw[f]; simp only[g4,aE,seval]
  have f11:J 11=i7 i8 (b:Int):=by rw[f]; rfl
  clear f g0 g1 g2 g3 g4 E;refine bn (fun c Y=>∃ M,KT (a.rs.map (aM x.w)) b t M/\Mod [a.rb] X Y/\bk Y a.rb=ap ⟨56,bv,M⟩/\c 0=i9 (ap ⟨p.t,0,bi⟩)/\c 1=i7 i8 (t:Int)/\c 2=i7 i8 (b:Int)/\c 3=i7 i8 ((N-k:Nat):Int)/\c 4=kw gc) ?_ ?_
  .refine b8 (fun (i:Nat) c Y=>t<=i/\i<=b/\(∃ M,KT (a.rs.map (aM x.w)) b i M/\Mod [a.rb] X Y/\bk Y a.rb=ap ⟨56,bv,M⟩)/\c 0=i9 (ap ⟨p.t,0,bi⟩)/\c 1=i7 i8 (t:Int)/\c 2=i7 i8 (b:Int)/\c 3=i7 i8 ((N-k:Nat):Int)/\c 4=kw gc/\c 11=i7 i8 (i:Int)) (fun i=>i-t) b
    ⟨o,zA5 _,⟨a.rs.map (aM x.w),⟨rfl,fun j=>by rw[if_neg li]⟩,Mod.refl,h2⟩,l,u,y,G,I,f11⟩ ?_
   clear l u y G I f11 J;rintro i E Y ⟨hi1,hi2,⟨M,L,A,P⟩,l,u,y,G,I,f11⟩
   obtain⟨Q,B⟩:∃ n,Y.next=n:=⟨_,rfl⟩
   have hmy:=A.next;have R:p.t<Q:=by omega
   have hRy:a.rb<Q:=by omega
   have cY:=(A.bk hT2 (by simp only[zA6]; exact htb2)).trans h1;simp only[bF,yh]at cY;rw[show Y=ext Y [] from rfl];by_cases hie:i=t
   .have S:ge ((t:Int)<(i:Int))=false:=decide_eq_false li;subst hie;simp only[u,f11,S,zW,seval];exact ah ⟨M,L,A,P,by simp only[l,aE,seval],by simp only[u,aE,seval],by simp only[y,aE,seval],by simp only[G,aE,seval],by simp only[I,aE,seval]⟩
   .have S:ge ((t:Int)<(i:Int))=true:=decide_eq_true li
    obtain⟨i,rfl⟩:∃ z,i=z+1:=⟨i-1,by omega⟩
    obtain⟨q,hq⟩:∃ q,a.rs[i]?=ap q:=⟨_,zB3 li⟩
    have hLq:(a.rs.map (aM x.w))[i]?=ap (aM x.w q):=by rw[zE1,hq]; rfl
    have hQ:q.1<Q:=by have:=hqlt q (zC0 hq); omega
    obtain⟨hMq,hM2⟩:=KA L hi2 li hLq;have hMl:M.length=x.h:=L.1.trans hLl;have hwi:IntKind.i64.wrap (((i+1:Nat):Int)-1)=(i:Int):=(ak li li).trans li;have ia1:=eP (len:=x.h) (cap:=x.h) (n:=a.rb) (s:=bi) (i:=(i:Int)) (k:=i) rfl li;have ia2:=eP (len:=x.h) (cap:=x.h) (n:=a.rb) (s:=bi) (i:=((i+1:Nat):Int)) (k:=i+1) rfl li;have T:=fun U (hN0:q.1<U)=>BU (w:=x.w) (N:=U) (q:=q) (M:=M) (i:=i+1) li hN0;have F:=B4 (w:=x.w) (q:=q) (i:=i+1) P li;have nxt:t<=i:=by omega
    simp only[aM]at hMq;simp only[u,f11,S,zW,seval];refine aK [(14,3),(14,8),(14,12)] [] ls ls rfl fun ops anc hA hG=>?_;simp only[aj]at hA;simp only[l,f11,B,R,hRy,cY,P,hwi,ia1,ia2,hMq,T (Q+0) hQ,hA,bh,zW,seval];refine aC ⟨i,by omega,nxt,by omega,⟨_,hM2,A.trans (Mod.uw lw),by rw[ext_nil]; exact F⟩,?_,?_,?_,?_,?_,?_⟩<;>simp only[l,u,y,G,I,aE,seval]
  clear l u y G I f11 J;rintro E Y ⟨M,L,A,P,l,u,y,G,I⟩;have okY:=A.ok okX
  obtain⟨Q,B⟩:∃ n,Y.next=n:=⟨_,rfl⟩
  have hmy:=A.next;have R:p.t<Q:=by omega
  have hRy:a.rb<Q:=by omega
  have cY:=(A.bk hT2 (by simp only[zA6]; exact htb2)).trans h1
  obtain⟨q0,hq0⟩:∃ q,M[0]?=ap (aM x.w q):=by
   obtain⟨v0,hv0⟩:∃ v,M[0]?=ap v:=⟨_,zB3 (by rw[L.1,hLl]; omega)⟩
   have h:=L.2 0;rw[hv0]at h;obtain⟨q,_,e⟩:=AV (rs:=a.rs) (w:=x.w) (v:=v0) (by split at h<;>exact zC0 h.symm);exact⟨q,by rw[hv0,e]⟩
  have cY2:=cY;simp only[bF,yh]at cY2;rw[show Y=ext Y [] from rfl];try simp only[l,u,y,G,I,zW,seval]
  refine aK [(7,6),(9,3),(9,6),(9,7)] [] ls ls rfl fun ops anc hA hG=>?_;simp only[aj]at hA;simp only[l,u,B,R,cY2,bh,zW,seval]
  refine aN (v:=i7 i8 (x.w:Int)) [p.t,a.rb] rfl ls mt (fun n hn=>by
   simp only[zA9,zF2,or_false]at hn;rcases hn with rfl|rfl
   .exact fI cY
   .exact fI P) (fun K hn hg=>?_) (by simp only[bh]) ?_
  .simp only[aE];have:=Ao K a (x.fe t b k gc) M x.w q0 (by rw[st.same]; exact (aO (hg _ lw)).trans cY) ((aO (hg _ lw)).trans P) hq0 (by rw[yh]; omega);rw[st.same]at this;exact this
  simp only[B,bh,fX,seval];have V:=aI Y [];obtain⟨_,gg,hcc,m,rfl,bm,lm,hmg,mg⟩:=qU (Y.restrict []) x.w li s3 (by rw[V.1,V.2.1]; exact zA5 _);rw[V.1]at lm;refine jH (H:=ext Y []) (W:=[]) [] okY rfl ls (fun _ h=>by simp at h) (fun _ h=>by simp at h) (fun _ h=>by simp at h) (v:=jp (ap ⟨m,0,bi⟩) x.w x.w) (g:=gg) (by simp only[aE]; exact hcc) mg (by simp only[aj,bu,hA,true_or,and_true]; simp) ?_;intro C D mC hFC hNC hnC hD;have hD0:D=[]:=List.eq_nil_iff_forall_not_mem.2 (fun q hq=>by simpa using hD q hq);subst hD0;replace mC:Mod [] Y C:=mC
  obtain⟨cn,hcn⟩:∃ n,C.next=n:=⟨_,rfl⟩
  have hmC:m<cn:=by omega
  have hRc:a.rb<cn:=by omega
  have kC:=(mC.bk (n:=a.rb) li lw).trans P;have bC:bk C m=ap ⟨77,bv,aQ (List.replicate x.w sp)⟩:=(aO (hNC m lm hmg)).trans bm;have hMl:M.length=x.h:=L.1.trans hLl;have ia3:=eP (len:=x.h) (cap:=x.h) (n:=a.rb) (s:=bi) (i:=(t:Int)) (k:=t) rfl li;have T:∀ U,m<U->sQ Tryz.prog 56 U t (jp (ap ⟨m,0,bi⟩) x.w x.w) (ap ⟨56,bv,M⟩)=ap ⟨56,bv,M.set t (aM x.w (m,bv))⟩:=fun U h=>BU (w:=x.w) (N:=U) (q:=(m,bv)) (M:=M) (i:=t) li h;have F:bk (uw C a.rb t [jp (ap ⟨m,0,bi⟩) x.w x.w]) a.rb=ap ⟨56,bv,M.set t (aM x.w (m,bv))⟩:=B4 (w:=x.w) (q:=(m,bv)) (i:=t) kC li;rw[MN L o li]at F;obtain⟨p3,st3⟩:=hfin (uw C a.rb t [jp (ap ⟨m,0,bi⟩) x.w x.w]) m ((A.trans (mC.mono lw)).trans (Mod.uw lw)) F (by rw[eJ (fun e=>by omega)]; exact bC) li (by rw[bE]; omega);rw[show C=ext C [] from rfl];simp only[G,hcn,hRc,kC,ia3,T (cn+0) hmC,hA,hwk,bh,zW,seval];refine⟨fun _=>.inr (.inl li),?_⟩;refine aC ⟨(k+1,p3),by simp only; omega,by simp only; omega,by rw[ext_nil]; exact st3,?_,?_,?_,?_,?_⟩<;>simp only[l,u,y,I,aE,seval]
def uM(H:aa)(p:Rq)(x:Tm)(c:Int)(g:cL H p x)(s:x.Sz)(ok:H.base<=H.next):zt 69 [i7 i8 c] H p (.tuple #[]) (x.control c):=by
 obtain⟨b,l⟩:=ac H.next;have z:p.t<b:=l▸g.lt p.t pi;have n:=g.cell;simp only[bF]at n;have hi:=eT s;have s1:=s.h2;have s2:=s.w2;have s3:=s.c1;have s4:=s.c2;have s5:=s.r1;have s6:=s.r2
 obtain⟨tq7,A⟩:∃ r:Nat,x.top=r:=⟨x.top.toNat,by have:=s.t1; omega⟩
 obtain⟨Z,B⟩:∃ b:Nat,x.bottom=b:=⟨x.bottom.toNat,by have:=s.t1; have:=s.t2; omega⟩
 obtain⟨C,f⟩:∃ d,ge (c=8)=d:=⟨_,rfl⟩
 obtain⟨D,i⟩:∃ d,ge (c=9)=d:=⟨_,rfl⟩
 obtain⟨o,a⟩:∃ d,ge (c=10)=d:=⟨_,rfl⟩
 obtain⟨q,j⟩:∃ d,ge (c=13)=d:=⟨_,rfl⟩
 obtain⟨E,u⟩:∃ d,ge (x.row=x.bottom)=d:=⟨_,rfl⟩
 have e8:=er f;have e9:=er i;have F:=er a;have I:=er j;have eb:=er u;have J:IntKind.i64.wrap (x.inside-1)=x.inside-1:=ak li li;have L:IntKind.i64.wrap ((x.w:Int)-1)=(x.w:Int)-1:=ak li li;have M:x.col.tdiv 8=x.col / 8:=Int.tdiv_eq_ediv_of_nonneg s3;have N:IntKind.i64.wrap (x.col.tdiv 8)=x.col / 8:=by rw[M]; exact ak li li
 have O:IntKind.i64.wrap (x.col / 8+1)=x.col / 8+1:=ak li li;have P:IntKind.i64.wrap ((x.col / 8+1)*8)=x.col-x.col % 8+8:=(ak li li).trans li;have Q:IntKind.i64.wrap (x.row+1)=x.row+1:=ak li li;have R:IntKind.i64.wrap ((x.h:Int)-1)=(x.h:Int)-1:=ak li li;have S:x.control c=cond C {x with col:=max 0 (x.inside-1)} (cond D {x with col:=min ((x.w:Int)-1) (x.col-x.col % 8+8)} (cond o (cond E (x.fe tq7 Z (1:Nat) bv) {x with row:=min (x.row+1) ((x.h:Int)-1)}) (cond q {x with col:=0} x))):=by unfold Tm.control;simp only[e8,e9,F,I,eb];rw[gS,ja,A,B];cases C<;>cases D<;>cases o<;>cases q<;>cases E<;>rfl
 rw[S];refine aH mixed Tryz.func69 rfl Tryz.ntmps69 (zA8 rfl) ?_
 cases C with
 |true =>
  simp only[f,cond_true,zW,seval];refine (r9 (ext H []) p x g s).to ?_;simp only[l,z,n,J,zW,seval];have st:=g.one (off:=2) (vs:=[i7 i8 (max 0 (x.inside-1))]) (y:={x with col:=max 0 (x.inside-1)}) rfl rfl;have T:(if (0:Int)<x.inside-1 then x.inside-1 else 0)=max 0 (x.inside-1):=imax _ _;try simp only[T]
  obtain⟨U,hU⟩:=ac (ext (uw H p.t 2 [i7 i8 (max 0 (x.inside-1))]) []);rw[hU]at st ⊢;have sz:Tm.Sz {x with col:=max 0 (x.inside-1)}:=s.z8 _ li li;have hw:=jk U p _ st.at_ sz;rw[show Tm.w {x with col:=max 0 (x.inside-1)}=x.w from rfl]at hw;rw[show U=ext U [] from rfl];refine (show br _ _ _ (ext U []) _ (ext U []) from hw).to ?_;have V:p.t<U.next:=st.at_.lt p.t pi;have kU:=st.at_.cell;simp only[bF]at kU;by_cases hw1':x.w=1
  .have W:ge ((x.w:Int)=1)=true:=decide_eq_true li;simp only[W,V,kU,Tryz.results69,zW,seval];refine⟨trivial,p,st.trans ok (st.at_.one (off:=2) (vs:=[i7 i8 0]) (y:={x with col:=max 0 (x.inside-1)}) ?_ rfl)⟩;have:max 0 (x.inside-1)=0:=by have:=pF x; omega
   simp only[bF,this]; rfl
  .have W:ge ((x.w:Int)=1)=false:=decide_eq_false li;simp only[W,Tryz.results69,zW,seval];exact⟨trivial,p,st⟩
 |false =>
 cases D with
 |true =>
  simp only[f,i,cond_true,cond_false,zW,seval];refine aK [(16,2),(16,8)] [] ls ls rfl fun ops anc k X=>?_;simp only[aj]at k;simp only[bh,aE,seval];refine aN (v:=i7 i8 (x.w:Int)) p.au (by simp only[aE,seval]) ls mt g.ne (fun K hn hg=>?_) (by simp (maxDischargeDepth:=6) only[bh]) ?_
  .simp only[aE];exact jk K p x (g.of (by rw[hn]; exact zA5 _) hg) s
  simp only[l,z,n,k,L,N,O,P,seval,Tryz.results69,bh,zW];exact⟨p,g.one (y:={x with col:=min ((x.w:Int)-1) (x.col-x.col % 8+8)}) rfl rfl⟩
 |false =>
 cases o with
 |true =>
  simp only[f,i,a,cond_true,cond_false,zW,seval];refine aK [] [] ls rfl rfl fun ops anc k X=>?_;simp only[l,z,n,bh,zW,seval]
  cases E with
  |true =>simp only[u,cond_true,fX];refine aK [(9,4),(9,8)] [] ls ls rfl fun ops anc k X=>?_;simp only[aj]at k;simp only[l,z,n,bh,zW,seval];refine fm (as':=[i7 i8 x.top,i7 i8 x.bottom,i7 i8 ((1:Nat):Int),kw bv]) g ok rfl ls mt (by simp only[aE,seval]<;>rfl) (by simp only[aj,bu,k,true_or,and_true]) (fun G gG Y=>by rw[A,B]; exact mQ G p x tq7 Z 1 bv gG s Y (by have:=s.t2; omega) (by have:=s.t3; omega) li) fun H1 p1 st=>?_;rw[show H1=ext H1 [] from rfl];simp only[Tryz.results69,bh,fX];exact⟨p1,st⟩
  |false =>simp only[u,cond_false,fX];refine aK [(17,5),(17,10)] [] ls ls rfl fun ops anc k X=>?_;simp only[aj]at k;simp only[l,z,n,k,Q,R,Tryz.results69,bh,zW,seval];exact⟨p,g.one (y:={x with row:=min (x.row+1) ((x.h:Int)-1)}) rfl rfl⟩
 |false =>
 cases q with
 |true =>simp only[l,z,n,f,i,a,j,cond_true,cond_false,Tryz.results69,zW,seval];exact⟨trivial,p,g.one (y:={x with col:=0}) rfl rfl⟩
 |false =>simp only[f,i,a,j,cond_false,Tryz.results69,zW,seval];exact⟨trivial,p,eZ.refl g⟩
def sM(v:gt)(b:Int):List Value:=[v,i7 i8 0,i7 i8 0,i7 i8 0,i7 i8 0,kw gc,kw gc,kw gc,i7 i8 0,i7 i8 0,i7 i8 0,i7 i8 0,kw gc,kw gc,kw gc,kw gc,i7 i8 0,i7 i8 b,jp bi 0 0]
def IY(H:aa)(h w:Nat)(ok:H.base<=H.next)(h1:1<=h)(h2:h<=200)(w1:1<=w)(w2:w<=300) :
  aL Tryz.prog 11 [i7 i8 (h:Int),i7 i8 (w:Int)] H fun out H1=>∃ p,out=.ok (.tuple ⟨[i9 (ap ⟨p.t,0,bi⟩),i7 i8 0]⟩)/\cL H1 p (Tm.new h w)/\Mod [] H H1/\(∀ n∈p.au,H.next<=n)/\p.rv=jp bi 0 0:=by
 obtain⟨b,hb⟩:=ac H.next;have hbb:H.base<=b:=hb▸ok;have d1:ge ((h:Int)<1)=false:=decide_eq_false li;have d2:ge ((200:Int)<(h:Int))=false:=decide_eq_false li;have d3:ge ((w:Int)<1)=false:=decide_eq_false li;have d4:ge ((1000:Int)<(w:Int))=false:=decide_eq_false li;have hw1:IntKind.i64.wrap ((h:Int)-1)=(h:Int)-1:=ak li li;refine aH mixed Tryz.func11 rfl Tryz.ntmps11 (zA8 rfl) ?_;simp (maxDischargeDepth:=6) only[hb,d1,d2,d3,d4,hw1,zW,seval];refine c7 fun E hE=>?_;have L:E 0=i7 i8 (h:Int):=by rw[hE]; rfl
 have S:E 1=i7 i8 (w:Int):=by rw[hE]; rfl
 have B:E 6=i9 (ap ⟨b+0,0,bi⟩):=by rw[hE]; rfl
 have F:E 7=i7 i8 ((0:Nat):Int):=by rw[hE]; rfl
 clear hE;refine bn (fun T o=>∃ rs v,rs.length=h/\Mod [] H o/\bk o (b+0)=ap ⟨71,gc,sM v ((h:Int)-1)⟩/\gF o v w rs/\(∀ q∈rs,b+0<q.1/\q.1<o.next/\bk o q.1=ap ⟨77,q.2,aQ (bT w)⟩)/\(rs.map (·.1)).Nodup/\(∀ n∈ae v,b+0<n/\n<o.next/\n∉rs.map (·.1))/\T 6=i9 (ap ⟨b+0,0,bi⟩)) ?_ ?_
 .refine b8 (fun (q:List (Nat × Bool) × gt) T o=>q.1.length<=h/\Mod [] H o/\b+0<o.next/\bk o (b+0)=ap ⟨71,gc,sM q.2 ((h:Int)-1)⟩/\gF o q.2 w q.1/\(∀ r∈q.1,b+0<r.1/\r.1<o.next/\bk o r.1=ap ⟨77,r.2,aQ (bT w)⟩)/\(q.1.map (·.1)).Nodup/\(∀ n∈ae q.2,b+0<n/\n<o.next/\n∉q.1.map (·.1))/\T 0=i7 i8 (h:Int)/\T 1=i7 i8 (w:Int)/\T 6=i9 (ap ⟨b+0,0,bi⟩)/\T 7=i7 i8 (q.1.length:Int)) (fun q=>h-q.1.length) ([],jp bi 0 0)
   ⟨zB7 _,Mod.ext ok,by rw[aA,hb]; simp,by rw[bJ hb lw]; rfl,.inl ⟨rfl,rfl⟩,by simp,by simp,by simp[ae],L,S,B,F⟩ ?_
  clear L S B F E;rintro⟨rs,v⟩ E X ⟨U,mX,hbX,V,u,c,z,I,L,S,B,F⟩;simp only at U V u c z I F;rw[show X=ext X [] from rfl];have okX:=mX.ok ok;by_cases hlh:rs.length=h
  .have hd:ge ((rs.length:Int)<(h:Int))=false:=decide_eq_false li;simp (maxDischargeDepth:=6) only[L,F,hd,zW,seval];refine ah ⟨rs,v,hlh,mX,V,u,c,z,I,?_⟩;simp only[B,aE,seval]
  .have hd:ge ((rs.length:Int)<(h:Int))=true:=decide_eq_true li;obtain⟨x,hx⟩:=ac X.next;have hbx:b+0<x:=hx▸hbX;have M:∀ n∈ae v,n<x:=fun n f=>hx▸(I n f).2.1;have hc2:=V;simp only[sM]at hc2;have hws:=bA (show rs.length<1000000 by omega);simp (maxDischargeDepth:=6) only[L,F,hd,zW,seval];refine aK [(7,6),(8,4),(8,6),(8,7),(11,4),(11,6),(11,7),(11,8)] [] ls ls rfl fun ops anc hA hG=>?_;simp only[aj]at hA;simp (maxDischargeDepth:=6) only[S,B,hx,hbx,hc2,bh,zW,seval];have A:=aI X [];obtain⟨_,gg,hcc,m,rfl,bm,lm,hmg,mg⟩:=qU (X.restrict []) w li w1 (by rw[A.1,A.2.1]; exact zA5 _);rw[A.1]at lm;refine jH (H:=ext X []) (W:=[]) [] okX rfl ls (fun _ h=>by simp at h) (fun _ h=>by simp at h) (fun _ h=>by simp at h) (v:=jp (ap ⟨m,0,bi⟩) w w) (g:=gg) (by simp only[aE]; exact hcc) mg (by simp[]) ?_;intro Y D mY hFY hNY hnY hD;have hD0:D=[]:=List.eq_nil_iff_forall_not_mem.2 (fun q hq=>by simpa using hD q hq);subst hD0;replace mY:Mod [] X Y:=mY;have N:=mY.ok okX;obtain⟨y,hy⟩:=ac Y.next;have hyb:Y.base<=y:=hy▸N;have hmy:=mY.next;have hby:b+0<y:=by omega
   have hmY:m<y:=by omega
   have bY:bk Y m=ap ⟨77,bv,aQ (bT w)⟩:=(aO (hNY m lm hmg)).trans bm;rw[show Y=ext Y [] from rfl];simp (maxDischargeDepth:=6) only[hy,hmY,hA,bh,zW,seval];rw[mL (by simp only[aE,seval])];obtain⟨Z,hZ⟩:=ac (ext Y [⟨56,gc,[jp (ap ⟨m,0,bi⟩) w w]⟩]);have mZ:Mod [] Y Z:=hZ▸Mod.ext N;have okZ:=mZ.ok N;have hZn:Z.next=y+1:=by rw[<-hZ,aA,hy]; rfl
   have hZ1:bk Z (y+0)=ap ⟨56,gc,[aM w (m,bv)]⟩:=by rw[<-hZ,bJ hy lw]; rfl
   have hZ0:bk Z m=ap ⟨77,bv,aQ (bT w)⟩:=(mZ.bk li lw).trans bY;have mXZ:=mY.trans mZ;have O:∀ n,n<x->Z.get n=X.get n:=fun n f=>mXZ.get n li lw;rw[hZ];have C:=aI Z (ae v++[y+0]);have hR:∀ n∈ae v++[y+0],(Z.restrict (ae v++[y+0])).get n=Z.get n:=fun n f=>by rw[bf,if_pos f]
   have J:gF Z v w rs:=u.of fun n f=>O n (M n f)
   obtain⟨G,happ,hrsG,mG,hGn⟩:=rH (x:=y+1) (k:=y+0) (q:=(m,bv)) (J.of fun n f=>hR n (by simp[f])) (by rw[C.1,hZn]) ((aO (hR (y+0) lw)).trans hZ1) li (fun r s=>by
    rw[C.1,hZn];rcases zB4.1 s with h|h
    .have:=(c r h).2.1; omega
    .simp only[zA6]at h; subst h; simp only; omega)
   have mG:=mG (by rw[C.1,C.2.1]; exact zA5 _)
   have hneZ:∀ n∈ae v++[y+0],Z.get n≠none:=fun n f=>by
    rcases zB4.1 f with h|h
    .exact J.ne n h
    .simp only[zA6]at h; subst h; exact fI hZ1
   refine my (W:=ae v) (ae v++[y+0]) okZ hneZ (fun n f=>by
     rcases zB4.1 f with h|h
     .have:=M n h; omega
     .simp only[zA6]at h; omega) (fun n f=>by simp[f])
    (jl (v:=jp (ap ⟨y+1,0,bi⟩) (rs.length+1) (rs.length+1)) rfl (by simp only[aE,seval]; exact happ)) mG (by simp only[aj,bu,hA,true_or,and_true]) ?_
   intro H1 D P hF1 hN1 j hD1;have j:H1.next=y+2:=by rw[j,hGn]
   have hT1:bk H1 (b+0)=ap ⟨71,gc,sM v ((h:Int)-1)⟩:=by rw[P.bk li (fun hh=>by have:=(I _ hh).1; omega),aO (O _ hbx)]; exact V
   have hT2:=hT1;simp only[sM]at hT2;have hTn:b+0<y+2:=by omega
   rw[show H1=ext H1 [] from rfl];simp (maxDischargeDepth:=6) only[F,j,hTn,hT2,hA,hws,bh,zW,seval];refine⟨⟨fun _=>.inr (.inl li),.inr (.inl li),fun _=>.inr (.inl li)⟩,⟨fun _=>.inr (.inl li),.inr (.inl li),fun _=>.inr (.inl li)⟩,?_⟩;have mU:Mod [b+0] H1 (uw H1 (b+0) 0 [jp (ap ⟨y+1,0,bi⟩) (rs.length+1) (rs.length+1)]):=Mod.uw lw
   have Q:bk H1 (y+1)=ap ⟨56,bv,(rs++[(m,bv)]).map (aM w)⟩:=by
    rw[aO (hN1 (y+1) li li)]
    rcases hrsG with⟨h,_⟩|⟨_,n,e,R⟩
    .simp at h
    .simp only[Value.slice.injEq,i5,Addr.mk.injEq,and_true]at e;rw[e.1]; exact R
   have K:∀ n,n<y+1->n≠b+0->n∉ae v->(uw H1 (b+0) 0 [jp (ap ⟨y+1,0,bi⟩) (rs.length+1) (rs.length+1)]).get n=Z.get n:=fun n h1' h2' h3'=>by rw[fD h2',P.get n li h3']
   refine aC ⟨(rs++[(m,bv)],jp (ap ⟨y+1,0,bi⟩) (rs.length+1) (rs.length+1)),by simp only[zB2,zA3,zB0]; omega,by simp only[zB2,zA3,zB0]; omega,?_,?_,?_,?_,?_,?_,?_,?_,?_,?_,?_⟩
   .have m1:Mod (ae v) X H1:=(mXZ.mono lw).trans P;exact (mX.step m1 ok (fun n f=>.inr (by have:=(I n f).1; omega))).step mU ok (fun n f=>.inr (by simp only[zA6]at f; omega))
   .rw[ext_nil,bE,j]; omega
   .rw[ext_nil,bR,hT1]; rfl
   .refine .inr ⟨by simp,y+1,by simp,?_⟩;rw[ext_nil,eJ li];exact Q
   .intro r s;rcases zB4.1 s with h|h
    .obtain⟨q1,q2,q3⟩:=c r h;refine⟨q1,by rw[ext_nil,bE,j]; omega,?_⟩;rw[ext_nil,aO (K r.1 li li (fun hh=>(I _ hh).2.2 (zB6.2 ⟨r,h,rfl⟩))),aO (O r.1 li)];exact q3
    .simp only[zA6]at h;subst h;refine⟨by simp only; omega,by rw[ext_nil,bE,j]; simp only; omega,?_⟩;rw[ext_nil,aO (K m li li (fun hh=>by have:=M _ hh; omega))];exact hZ0
   .rw[List.map_append];refine zD5.2 ⟨z,by simp,fun a ha b' R e=>?_⟩;obtain⟨r,s,rfl⟩:=zB6.1 ha;simp only[zB9,zE6,zA6]at R;have:=(c r s).2.1;omega
   .intro n f;simp only[ae,zA6]at f;subst f;refine⟨by omega,by rw[ext_nil,bE,j]; omega,fun hm=>?_⟩;obtain⟨r,s,e⟩:=zB6.1 hm;rcases zB4.1 s with h|h
    .have:=(c r h).2.1; omega
    .simp only[zA6]at h;subst h;simp only at e;omega
   .exact L
   .exact S
   .exact B
   .simp only[zB2,zA3,zB0,aE,seval]
 .clear L S B F E;rintro E X ⟨rs,v,U,mX,V,u,c,z,I,B⟩;rw[show X=ext X [] from rfl];simp (maxDischargeDepth:=6) only[B,Tryz.results11,zW,seval]
  rcases u with⟨h,_⟩|⟨_,n,rfl,hbn⟩
  .rw[h]at U; simp at U; omega
  have f:=I n ol;refine⟨⟨b+0,n,rs,jp bi 0 0⟩,rfl,?_,mX,?_,rfl⟩
  .refine⟨?_,?_,?_,?_,?_,?_⟩
   .rw[ext_nil,V,U];simp only[sM,bF,xG];rfl
   .rw[ext_nil,EO w h1]; exact hbn
   .rw[xG]; exact U
   .intro i q l hq hl';have:l=bT w:=by have:=zC0 hl';simp only[Tm.new]at this;exact List.eq_of_mem_replicate this
    rw[this];exact (c q (zC0 hq)).2.2
   .simp only[Rq.au];refine zB8.2 ⟨?_,zB8.2 ⟨f.2.2,z⟩⟩;intro hm;rcases zA9.1 hm with e|hm
    .omega
    .obtain⟨r,s,e⟩:=zB6.1 hm;have:=(c r s).1;omega
   .intro m hm;simp only[Rq.au,zA9,zB6]at hm
    rcases hm with rfl|rfl|⟨r,s,rfl⟩
    .have:=f.1; have:=f.2.1; rw[ext_nil]; omega
    .exact f.2.1
    .exact (c r s).2.1
  .intro m hm;simp only[Rq.au,zA9,zB6]at hm
   rcases hm with rfl|rfl|⟨r,s,rfl⟩
   .omega
   .have:=f.1; omega
   .have:=(c r s).1; omega
def Tm.Fk(t:Tm)(c:UInt8):Tm :=
 if c=55 then {t with srow:=t.row,scol:=t.col,spen:=t.pen}
 else if c=56 then {t with row:=t.srow,col:=t.scol,pen:=t.spen}
 else if c=99 then Tm.new t.eQ.toNat t.width.toNat
 else if c=77/\t.row=t.top then t.fe t.top t.bottom 1 gc
 else if c=77 then {t with row:=max 0 (t.row-1)}
 else t
def oM{c n:UInt8}{d:Bool}{m:Int}(a:(n.toNat:Int)=m)(h:ge ((c.toNat:Int)=m)=d):c=n ↔ d=true:=by rw[<-h,decide_eq_true_iff,<-UInt8.toNat_inj]; omega
def FT(H:aa)(p:Rq)(x:Tm)(c:UInt8)(g:cL H p x)(s:x.Sz)(ok:H.base<=H.next)(N:p.rv=jp bi 0 0):zt 65 [gD c] H p (.tuple #[]) (x.Fk c):=by
 obtain⟨b,u⟩:=ac (H.next);have J:p.t<b:=u▸g.lt p.t pi;have z:=g.cell;simp only[bF,N]at z;have s1:=s.h2;have s2:=s.w2;have s5:=s.r1;have s6:=s.r2
 obtain⟨tq7,O⟩:∃ r:Nat,x.top=r:=⟨x.top.toNat,by have:=s.t1; omega⟩
 obtain⟨bo,P⟩:∃ b:Nat,x.bottom=b:=⟨x.bottom.toNat,by have:=s.t1; have:=s.t2; omega⟩
 obtain⟨S,f⟩:∃ d,ge ((c.toNat:Int)=55)=d:=⟨_,rfl⟩
 obtain⟨T,j⟩:∃ d,ge ((c.toNat:Int)=56)=d:=⟨_,rfl⟩
 obtain⟨U,o⟩:∃ d,ge ((c.toNat:Int)=99)=d:=⟨_,rfl⟩
 obtain⟨V,B⟩:∃ d,ge ((c.toNat:Int)=77)=d:=⟨_,rfl⟩
 obtain⟨R,C⟩:∃ d,ge (x.row=x.top)=d:=⟨_,rfl⟩
 have e1:=oM (n:=55) rfl f;have e2:=oM (n:=56) rfl j;have e3:=oM (n:=99) rfl o;have e4:=oM (n:=77) rfl B;have e5:x.row=x.top ↔ R=true:=by rw[<-C,decide_eq_true_iff]
 have X:IntKind.i64.wrap (x.row-1)=x.row-1:=ak li li;have Z:x.Fk c=cond S {x with srow:=x.row,scol:=x.col,spen:=x.pen} (cond T {x with row:=x.srow,col:=x.scol,pen:=x.spen} (cond U (Tm.new x.h x.w) (cond V (cond R (x.fe tq7 bo (1:Nat) gc) {x with row:=max 0 (x.row-1)}) x))):=by unfold Tm.Fk;simp only[e1,e2,e3,e4,e5];rw[gS,ja,O,P];cases S<;>cases T<;>cases U<;>cases V<;>cases R<;>rfl
 rw[Z];refine aH mixed Tryz.func65 rfl Tryz.ntmps65 (zA8 rfl) ?_
 cases S with
 |true =>simp (maxDischargeDepth:=6) only[u,J,z,f,cond_true,Tryz.results65,zW,seval];exact⟨trivial,p,g.one (off:=8) (y:={x with srow:=x.row,scol:=x.col,spen:=x.pen}) rfl rfl⟩
 |false =>
 cases T with
 |true =>simp (maxDischargeDepth:=6) only[u,J,z,f,j,cond_true,cond_false,Tryz.results65,zW,seval];exact⟨trivial,p,g.one (off:=1) (y:={x with row:=x.srow,col:=x.scol,pen:=x.spen}) rfl rfl⟩
 |false =>
 cases U with
 |true =>
  simp (maxDischargeDepth:=6) only[f,j,o,cond_true,cond_false,zW,seval];refine aK [(7,6),(8,6),(8,7),(9,6),(9,7),(10,6),(10,7),(11,6),(11,7),(12,6),(12,7)] [] ls ls rfl fun ops anc E hG=>?_;simp only[aj]at E;simp (maxDischargeDepth:=6) only[u,J,z,bh,zW,seval];refine aN (v:=i7 i8 (x.w:Int)) p.au (by simp (maxDischargeDepth:=6) only[aE,seval]) ls mt g.ne (fun K hn hg=>?_) (by simp (maxDischargeDepth:=6) only[bh]) ?_
  .simp only[aE];exact jk K p x (g.of (by rw[hn]; exact zA5 _) hg) s
  simp (maxDischargeDepth:=6) only[u,bh,fX,seval];have F:=aI H [];obtain⟨_,gg,hcc,a,rfl,gf,mf,L,hpf⟩:=IY (H.restrict []) x.h x.w (by rw[F.1,F.2.1]; exact zA5 _) s.h1 s.h2 s.w1 s.w2;rw[F.1]at L;refine jH (H:=ext H []) (W:=[]) [] ok (by simp only[aE,seval]) ls (fun _ h=>by simp at h) (fun _ h=>by simp at h) (fun _ h=>by simp at h) (v:=.tuple #[i9 (ap ⟨a.t,0,bi⟩),i7 i8 0]) (g:=gg) (by simp only[aE,seval]; exact hcc) mf (by simp only[aj,bu,E,true_or,and_true]; simp) ?_;intro Y D M hFY hNY hnY hD;have hD0:D=[]:=List.eq_nil_iff_forall_not_mem.2 (fun q hq=>by simpa using hD q hq);subst hD0;replace M:Mod [] H Y:=M;have okY:=M.ok ok;obtain⟨y,hy⟩:=ac (Y.next);have hmy:=M.next;have A:cL Y a (Tm.new x.h x.w):=gf.of (Nat.le_of_eq hnY.symm) fun n hn=>hNY n (L n hn) (gf.lt n hn);have hTf:a.t<y:=hy▸A.lt a.t pi;have hTy:p.t<y:=by omega
  have dK:¬p.t=a.t:=fun e=>by have:=L a.t pi; omega
  have kT:=(M.bk (n:=p.t) li lw).trans z;have kf:=A.cell;simp only[bF,hpf]at kf;rw[show Y=ext Y [] from rfl];have hRf:a.rb<y:=hy▸A.lt a.rb pi;simp (maxDischargeDepth:=6) only[hy,hTf,hTy,hRf,dK,kT,kf,E,Tryz.results65,bh,zW,seval];have mU:∀ cs,Mod [p.t] H (uw (uw Y a.t 18 [jp bi 0 0]) p.t 0 cs):=fun cs=>by have m1:Mod [a.t] Y (uw Y a.t 18 [jp bi 0 0]):=Mod.uw lw;refine ((M.mono (W':=[]) lw).step m1 ok fun n hn=>.inr ?_).mono lw |>.trans (Mod.uw lw);simp only[zA6]at hn;subst hn;exact L a.t pi
  have Q:∀ n∈a.au,n≠p.t:=fun n hn e=>by have:=L n hn; omega
  have n1:=zB8.1 A.nd
  have I:∀ n∈a.rb::a.rs.map (·.1),n≠a.t/\n∈a.au:=fun n hn=>⟨fun e=>n1.1 (e▸hn),zC4 _ hn⟩
  have k:∀ cs,∀ n∈a.rb::a.rs.map (·.1),bk (uw (uw Y a.t 18 [jp bi 0 0]) p.t 0 cs) n=bk Y n:=fun cs n hn=>by rw[eJ (Q n (I n hn).2),eJ (I n hn).1]
  refine⟨⟨p.t,a.rb,a.rs,p.rv⟩,⟨⟨?_,?_,A.len,fun i q l h3 h4=>?_,?_,fun n hn=>?_⟩,(mU _).mono (by intro n hn; simp only[zA6]at hn; subst hn; simp[Rq.au]),rfl,rfl,fun n hn=>?_⟩⟩
  .rw[ext_nil,bR,eJ dK,kT];simp only[bF,N]; rfl
  .rw[ext_nil,k _ _ lw]; exact A.rows
  .rw[ext_nil,k _ _ (zC4 _ (zB6.2 ⟨q,zC0 h3,rfl⟩))];exact A.row i q l h3 h4
  .simp only[Rq.au];exact zB8.2 ⟨fun h=>Q p.t (I p.t h).2 rfl,n1.2⟩
  .rw[ext_nil,bE,bE];simp only[Rq.au,zA9]at hn;rcases hn with rfl|hn
   .omega
   .exact A.lt n (by simp only[Rq.au,zA9]; exact .inr hn)
  .simp only[Rq.au,zA9]at hn;rcases hn with rfl|hn
   .exact .inl pi
   .exact .inr (L n (by simp only[Rq.au,zA9]; exact .inr hn))
 |false =>
 cases V with
 |false =>simp (maxDischargeDepth:=6) only[f,j,o,B,cond_false,Tryz.results65,zW,seval];exact⟨trivial,p,eZ.refl g⟩
 |true =>
 simp (maxDischargeDepth:=6) only[f,j,o,B,cond_true,cond_false,zW,seval];refine aK [] [] ls rfl rfl fun ops anc E hG=>?_;simp (maxDischargeDepth:=6) only[u,J,z,bh,zW,seval]
 cases R with
 |true =>simp (maxDischargeDepth:=6) only[C,cond_true,fX];refine aK [(9,4),(9,8)] [] ls ls rfl fun ops anc E hG=>?_;simp only[aj]at E;simp (maxDischargeDepth:=6) only[u,J,z,bh,zW,seval];refine fm (as':=[i7 i8 x.top,i7 i8 x.bottom,i7 i8 ((1:Nat):Int),kw gc]) g ok (by simp only[aE,seval]) ls mt (by simp only[aE,seval]<;>rfl) (by simp only[aj,bu,E,true_or,and_true]) (fun G gG okG=>by rw[O,P]; exact mQ G p x tq7 bo 1 gc gG s okG (by have:=s.t2; omega) (by have:=s.t3; omega) li) fun H1 p1 st=>?_;rw[show H1=ext H1 [] from rfl];simp (maxDischargeDepth:=6) only[Tryz.results65,bh,fX];exact⟨p1,st⟩
 |false =>have hmx:(if (0:Int)<x.row-1 then x.row-1 else 0)=max 0 (x.row-1):=imax _ _;simp (maxDischargeDepth:=6) only[u,J,z,C,X,cond_false,Tryz.results65,bh,zW,seval];exact⟨p,g.one (off:=1) (vs:=[i7 i8 (max 0 (x.row-1))]) (y:={x with row:=max 0 (x.row-1)}) rfl rfl⟩
def BL{x:Tm}{m:Int}(g:0<=m)(h:2<m):x.aU [m]=x/\x.cf [m]=x:=by
 have b:x.aU [m]=x:=by have a:[m].headD 0=m:=rfl;unfold Tm.aU;rw[if_neg (by rw[a]; omega),if_neg (by rw[a]; omega),if_neg (by rw[a]; omega)]
 have c:∀ k i (t:Tm),Tm.bL [m] i k t=t:=by
  intro k
  induction k with
  |zero=>intro i t; rfl
  |succ k f =>intro i t;rw[cV,f];have a:[m].headD 0=m:=rfl;unfold Tm.bK;rw[if_neg (by rw[a]; omega)]
 exact⟨b,by unfold Tm.cf; rw[b,c]⟩
def AO(H:aa)(p:Rq)(x:Tm)(m:Int)(all:Bool)(g:cL H p x)(s:x.Sz)(ok:H.base<=H.next)(m0:0<=m):zt 95 [i7 i8 m,kw all] H p (.tuple #[]) (cond all (x.cf [m]) (x.aU [m])):=by
 obtain⟨b,hb⟩:=ac H.next;have hT:p.t<b:=hb▸g.lt p.t pi;have h1:=g.cell;simp only[bF]at h1;have hi:=eT s;have s1:=s.h2;have s2:=s.w2;have s5:=s.r1;have s6:=s.r2;have dm0:ge (m<0)=false:=decide_eq_false li;refine aH mixed Tryz.func95 rfl Tryz.ntmps95 (zA8 rfl) ?_;simp only[zW,Nat.reduceAdd];refine aK [(7,1),(8,1)] [] ls ls rfl fun ops anc hA hG=>?_;simp only[aj]at hA;simp only[bh,aE,Nat.reduceLT,Nat.reduceAdd,Nat.reduceEqDiff];refine aN (v:=i7 i8 (x.w:Int)) p.au t4 ls mt g.ne (fun K hn hg=>?_) (by simp (maxDischargeDepth:=6) only[bh]) ?_
 .simp only[aE];exact jk K p x (g.of (by rw[hn]; exact zA5 _) hg) s
 by_cases u:2<m
 .have I:ge (2<m)=true:=decide_eq_true u;obtain⟨k1,k2⟩:=BL (x:=x) m0 u;rw[k1,k2];simp only[hb,hT,h1,dm0,I,Tryz.results95,bh,zW,Nat.reduceLT,Nat.reduceAdd,Nat.reduceEqDiff];refine⟨p,?_⟩;cases all<;>exact eZ.refl g
 have I:ge (2<m)=false:=decide_eq_false u;simp only[hb,hT,h1,dm0,I,bh,zW,Nat.reduceLT,Nat.reduceAdd,Nat.reduceEqDiff]
 obtain⟨r,T⟩:∃ r:Nat,x.row=r:=⟨x.row.toNat,by omega⟩
 obtain⟨c,hc⟩:∃ c:Nat,x.inside=c:=⟨x.inside.toNat,by omega⟩
 have hrh:r<x.h:=by omega
 have J:IntKind.i64.wrap (x.inside+1)=x.inside+1:=ak li li
 obtain⟨F,tq7,hfr,hft,htw,her⟩:∃ F tq7:Nat,((m=0/\F=c/\tq7=x.w)\/(m=1/\F=0/\tq7=c+1)\/(m=2/\F=0/\tq7=x.w))/\F<=tq7/\tq7<=x.w/\x.aU [m]=x.blank r F tq7:=by
  have hm:m=0\/m=1\/m=2:=by omega
  rcases hm with rfl|rfl|rfl
  .refine⟨c,x.w,.inl ⟨rfl,rfl,rfl⟩,by omega,zA5 _,?_⟩;unfold Tm.aU; rw[if_pos (show [(0:Int)].headD 0=0 from rfl),gS,T,hc]
  .refine⟨0,c+1,.inr (.inl ⟨rfl,rfl,rfl⟩),by omega,by omega,?_⟩;unfold Tm.aU; rw[if_neg (show ¬ [(1:Int)].headD 0=0 from by decide),if_pos (show [(1:Int)].headD 0=1 from rfl),T,hc]; rfl
  .refine⟨0,x.w,.inr (.inr ⟨rfl,rfl,rfl⟩),by omega,zA5 _,?_⟩;unfold Tm.aU; rw[if_neg (show ¬ [(2:Int)].headD 0=0 from by decide),if_neg (show ¬ [(2:Int)].headD 0=1 from by decide),if_pos (show [(2:Int)].headD 0=2 from rfl),gS,T]; rfl
 refine dG (fun l X=>X=ext H []/\l 0=i9 (ap ⟨p.t,0,bi⟩)/\l 1=i7 i8 m/\l 2=kw all/\l 6=i7 i8 (x.w:Int)/\l 7=i7 i8 (x.h:Int)/\l 8=i7 i8 (F:Int)/\l 9=i7 i8 (tq7:Int)) ?_ ?_
 .have y:=r9 (ext H []) p x g s;rw[hc]at y J
  rcases hfr with⟨rfl,rfl,rfl⟩|⟨rfl,rfl,rfl⟩|⟨rfl,rfl,rfl⟩
  .simp only[decide_true,zW,Nat.reduceLT,Nat.reduceEqDiff];refine (show br _ _ _ (ext H []) _ (ext H []) from y).to ?_;simp only[zW,Nat.reduceLT];refine ah ⟨rfl,?_,?_,?_,?_,?_,?_,?_⟩<;>simp only[aE,Nat.reduceEqDiff]
  .have e1:ge ((1:Int)=0)=false:=by decide
   have e2:ge ((1:Int)=1)=true:=by decide
   have e3:((c:Int)+1)=((c+1:Nat):Int):=by omega
   rw[e3]at J;simp only[Int.reduceEq];refine (show br _ _ _ (ext H []) _ (ext H []) from y).to ?_;simp only[e3,J,zW,Nat.reduceLT];refine ah ⟨rfl,?_,?_,?_,?_,?_,?_,?_⟩<;>(simp only[aE,Nat.reduceEqDiff]<;>rfl)
  .have e1:ge ((2:Int)=0)=false:=by decide
   have e2:ge ((2:Int)=1)=false:=by decide
   simp only[e1,e2,zW,Nat.reduceLT,Nat.reduceEqDiff];refine ah ⟨rfl,?_,?_,?_,?_,?_,?_,?_⟩<;>(simp only[aE,Nat.reduceEqDiff]<;>rfl)
 rintro E X ⟨hX,f0,f1,f2,f6,f7,f8,f9⟩;rw[hX];have hcl:=yl H p x r F tq7 g s ok hrh hft htw;rw[<-her]at hcl;rw[T]at h1;simp only[f0,f8,f9,hb,hT,h1,zW,Nat.reduceLT,Nat.reduceAdd,Nat.reduceEqDiff];refine aL.mono (show aL Tryz.prog 130 _ (ext H []) _ from hcl) ?_;rintro _ Y ⟨rfl,p1,st1⟩;obtain⟨sz1,y1,y2,y3⟩:=s.aU [m];rw[show Y=ext Y [] from rfl];simp only[zW,Nat.reduceLT];refine c7 fun L M=>?_;have U:L 0=i9 (ap ⟨p.t,0,bi⟩):=by rw[M]; simp only[f0,aE,Nat.reduceEqDiff]
 have V:L 1=i7 i8 m:=by rw[M]; simp only[f1,aE,Nat.reduceEqDiff]
 have G:L 2=kw all:=by rw[M]; simp only[f2,aE,Nat.reduceEqDiff]
 have W:L 6=i7 i8 (x.w:Int):=by rw[M]; simp only[f6,aE,Nat.reduceEqDiff]
 have N:L 7=i7 i8 (x.h:Int):=by rw[M]; simp only[f7,aE,Nat.reduceEqDiff]
 have k:L 10=i7 i8 ((0:Nat):Int):=by rw[M]; rfl
 clear M f0 f1 f2 f6 f7 f8 f9 E
 refine b8 (fun (q:Nat × Tm × Rq) l Z=>q.1<=x.h/\eZ H p Z q.2.2 q.2.1/\q.2.1.Sz/\q.2.1.h=x.h/\q.2.1.w=x.w/\q.2.1.row=x.row/\Tm.bL [m] q.1 (x.h-q.1) q.2.1=x.cf [m]/\(all=gc->q.2.1=x.aU [m])/\l 0=i9 (ap ⟨p.t,0,bi⟩)/\l 1=i7 i8 m/\l 2=kw all/\l 6=i7 i8 (x.w:Int)/\l 7=i7 i8 (x.h:Int)/\l 10=i7 i8 (q.1:Int)) (fun q=>x.h-q.1) (0,x.aU [m],p1)
  ⟨zB7 _,st1,sz1,y1,y2,y3,by rw[Nat.sub_zero]; rfl,fun _=>rfl,U,V,G,W,N,k⟩ ?_
 clear U V G W N k L;rintro⟨i,z,O⟩ E Z ⟨hi',st,sz,z1,z2,z3,f,hfa,U,V,G,W,N,k⟩;simp only at hi' st sz z1 z2 z3 f hfa k;have okZ:=st.ok ok;rw[show Z=ext Z [] from rfl]
 cases all with
 |false =>rw[hfa rfl]at st;simp only[G,Tryz.results95,zW,Nat.reduceLT,Nat.reduceEqDiff];exact⟨trivial,O,st⟩
 |true =>
 by_cases he:i=x.h
 .have hd:ge ((i:Int)<(x.h:Int))=false:=decide_eq_false li;rw[he,zG0]at f;simp only[G,N,k,hd,Tryz.results95,zW,Nat.reduceLT,Nat.reduceEqDiff];rw[show Tm.bL [m] x.h 0 z=z from rfl]at f;rw[<-f];exact⟨trivial,O,st⟩
 have hd:ge ((i:Int)<(x.h:Int))=true:=decide_eq_true li;have hwi:IntKind.i64.wrap ((i:Int)+1)=((i+1:Nat):Int):=bA li
 obtain⟨zn,hzn⟩:∃ n,Z.next=n:=⟨_,rfl⟩
 have hTz:p.t<zn:=by have:=st.at_.lt O.t pi; rw[st.same]at this; omega
 have cZ:=st.at_.cell;rw[st.same]at cZ;simp only[bF,z3,T]at cZ;rw[show x.h-i=(x.h-(i+1))+1 by omega,cV]at f;obtain⟨o1,o2,o3,o4⟩:=sz.bK [m] (i:=i) li
 obtain⟨A,C⟩:∃ a,ge (m=1)=a:=⟨_,rfl⟩
 obtain⟨B,D⟩:∃ a,ge (m=0)=a:=⟨_,rfl⟩
 obtain⟨P,hag⟩:∃ a,ge ((r:Int)<(i:Int))=a:=⟨_,rfl⟩
 obtain⟨Q,hal⟩:∃ a,ge ((i:Int)<(r:Int))=a:=⟨_,rfl⟩
 have hn1:ge (¬m=1)=!A:=by rw[<-C,decide_not]
 have hn0:ge (¬m=0)=!B:=by rw[<-D,decide_not]
 have j:z.bK [m] i=cond ((!A&&P)||(!B&&Q)) (z.blank i (0:Nat) z.w) z:=by
  have hm:m=0\/m=1\/m=2:=by omega
  unfold Tm.bK;rw[z3,T];have k1:((i:Int)<(r:Int)) ↔ Q=true:=by rw[<-hal,decide_eq_true_iff]
  have k2:((i:Int)>(r:Int)) ↔ P=true:=by rw[<-hag,decide_eq_true_iff]
  simp only[k1,k2];rcases hm with rfl|rfl|rfl
  .have:B=true:=by rw[<-D]; rfl
   have:A=false:=by rw[<-C]; rfl
   subst B A;cases Q<;>cases P<;>rfl
  .have:B=false:=by rw[<-D]; rfl
   have:A=true:=by rw[<-C]; rfl
   subst B A;cases Q<;>cases P<;>rfl
  .have:B=false:=by rw[<-D]; rfl
   have:A=false:=by rw[<-C]; rfl
   subst B A;cases Q<;>cases P<;>rfl
 obtain⟨cd,R⟩:=ac (((!A&&P)||(!B&&Q)));rw[R]at j;have o:=yl (ext Z []) O z i 0 z.w st.at_ sz okZ li (zB7 _) (zA5 _);have fin:∀(Y:aa)(p3:Rq),eZ Z O Y p3 (z.bK [m] i)->eZ H p Y p3 (z.bK [m] i):=fun Y p3 h=>st.trans ok h;rw[z2]at o;unfold zt at o;rw[st.same]at o;cases A<;>cases P<;>cases B<;>cases Q<;>simp only[zE4,Bool.not_false,Bool.and_true,Bool.and_false,zF8,zF6]at j R hn1 hn0<;>subst R<;>simp (maxDischargeDepth:=6) only[cond_true,cond_false]at j<;>simp (maxDischargeDepth:=6) only[U,V,G,W,N,k,hd,hn1,hn0,hag,hal,hzn,hTz,cZ,zW,Nat.reduceLT,Nat.reduceAdd,Nat.reduceEqDiff]
 all_goals first
  | (refine aL.mono (show aL Tryz.prog 130 _ (ext Z []) _ from o) ?_
     rintro _ Y ⟨rfl,p3,st3⟩;rw[<-z2,show z.blank i (0:Nat) z.w=z.bK [m] i from j.symm]at st3;have S:=fin Y p3 st3;rw[show Y=ext Y [] from rfl];simp only[k,hwi,zW,Nat.reduceLT,Nat.reduceEqDiff]
     refine aC ⟨(i+1,z.bK [m] i,p3),by simp only; omega,by simp only; omega,S,o1,o2.trans z1,o3.trans z2,o4.trans z3,f,fun h=>absurd h mt,?_,?_,?_,?_,?_,?_⟩<;>simp only[U,V,G,W,N,aE,Nat.reduceEqDiff])
  | (have S := fin Z O (by rw [j]; exact eZ.refl st.at_)
     refine aC ⟨(i+1,z.bK [m] i,O),by simp only; omega,by simp only; omega,S,o1,o2.trans z1,o3.trans z2,o4.trans z3,f,fun h=>absurd h mt,?_,?_,?_,?_,?_,?_⟩<;>simp only[U,V,G,W,N,hwi,aE,Nat.reduceEqDiff])
def EG(H:aa)(v:gt)(l:List UInt8):Prop:=∃ n off c L,v=jp (ap ⟨n,off,bi⟩) l.length c/\bk H n=ap ⟨5,bv,aq L⟩/\n<H.next/\off+l.length<=L.length/\(L.drop off).take l.length=l
def EG.sl{H:aa}{v:gt}{l:List UInt8}(h:EG H v l):∃ n off c,v=jp (ap ⟨n,off,bi⟩) l.length c:=let ⟨n,off,c,_,h,_⟩:=h; ⟨n,off,c,h⟩
def EG.of{H G:aa}{v:gt}{l:List UInt8}(h:EG H v l)(g:H.next<=G.next)(a:∀ n∈ae v,G.get n=H.get n):EG G v l:=by obtain⟨n,off,c,L,rfl,b,i,f⟩:=h;exact⟨n,off,c,L,rfl,(aO (a n ol)).trans b,by omega,f⟩
def EG.lt{H:aa}{v:gt}{l:List UInt8}(h:EG H v l):∀ n∈ae v,n<H.next:=by obtain⟨n,off,c,L,rfl,b,f,g⟩:=h;intro m a;simp only[ae,zA6]at a;omega
def EG.zz{H G:aa}{v:gt}{l:List UInt8}(h:EG H v l)(m:Mod [] H G):EG G v l:=h.of m.next fun n a=>m.get n (h.lt n a) lw
def EG.get{H:aa}{v:gt}{l:List UInt8}(h:EG H v l){k:Nat}{c:UInt8}(b:l[k]?=ap c):∃ n off,aS Tryz.prog 25 v (i7 i8 (k:Int))=ap (i9 (ap ⟨n,off,bi⟩))/\n<H.next/\n∈ae v/\∀ q,rl Tryz.prog 5 off (CW (bk H n) q)=ap (gD c):=by obtain⟨n,off,o,L,rfl,g,f,i,j⟩:=h;have a:k<l.length:=(zE0.1 b).1;refine⟨n,off+k,CM rfl a,f,by simp[ae],fun q=>?_⟩;rw[g,gN,lL ls,ri];rw[<-j,List.getElem?_take,if_pos a,List.getElem?_drop]at b;rw[b];rfl
def EG.str{H:aa}{v:gt}{l:List UInt8}(h:EG H v l):bM Tryz.prog (ext H []) 25 9 v=ap (.string ⟨l.toArray⟩,ext H []):=by
 have a:Tryz.prog.underlying 25=ap (.slice 5):=by kernel_rfl
 have b:Tryz.prog.underlying 9=ap .string:=by kernel_rfl
 have f:Tryz.prog.underlying 5=ap (.int .u8):=by kernel_rfl
 obtain⟨n,off,c,L,rfl,g,i,j,k⟩:=h;have o:dj H 1 l.length (jp (ap ⟨n,off,bi⟩) l.length l.length)=ap (aq l):=by rw[fA g (by rw[cR]; omega)];simp only[zE5,El,Fh,k]
 rw[ext_nil];simp only[bM,a,b,o,zA1,zA4,f,As,zB1]
def bD.part{H:aa}{v:gt}{l:List UInt8}(h:bD H v l)(i:∀ n∈ae v,n<H.next){x y:Option gt}{lo hi:Nat}(hx:bound 0 x=ap lo)(k:bound l.length y=ap hi)(o:lo<=hi)(q:hi<=l.length)(c:lo<l.length) :
  ∃ u,(∀ G:aa,(∀ n∈ae v,G.get n=H.get n)->cw Tryz.prog G 25 v x y bi=ap (u,G))/\EG H u ((l.take hi).drop lo)/\ae u=ae v:=by
 have s:Tryz.prog.underlying 25=ap (.slice 5):=by kernel_rfl
 have g:bg Tryz.prog 5=ap 1:=by kernel_rfl
 rcases h with⟨rfl,rfl⟩|⟨_,n,b,rfl,f⟩|⟨rfl,n,off,j,L,rfl,f,t⟩|⟨rfl,n,rfl,f⟩
 .simp at c
 .have a:((l.take hi).drop lo).length=hi-lo:=by simp; omega
  refine⟨jp (ap ⟨n,b.length+lo*1,bi⟩) (hi-lo) (l.length-lo),fun G w=>oS s g hx k q o c ((aO (w n ol)).trans f) rfl,⟨n,b.length+lo*1,l.length-lo,b++l,by rw[a],f,i n ol,by rw[a,zB2]; omega,?_⟩,by simp[ae]⟩;rw[a,zE5,<-List.drop_drop,List.drop_left,List.drop_take]
 .simp at c
 .simp at c
def Gv(H:aa)(p:Rq)(x:Tm)(n m:Int)(g:cL H p x)(s:x.Sz)(ok:H.base<=H.next)(C:0<=n) :
  zt 98 [i7 i8 n,i7 i8 m] H p (.tuple #[]) (if n<=(if m<0\/m ≥ x.eQ then x.eQ-1 else m) then Tm.bp {x with top:=n,bottom:=if m<0\/m ≥ x.eQ then x.eQ-1 else m} 0 0 else x):=by
 obtain⟨b,l⟩:=ac H.next;have v:p.t<b:=l▸g.lt p.t pi;have o:=g.cell;simp only[bF]at o;have G:=s.h2;have s2:=s.h1;have i:IntKind.i64.wrap ((x.h:Int)-1)=(x.h:Int)-1:=ak li li;obtain⟨q,j⟩:=ac ((if m<0\/m ≥ x.eQ then x.eQ-1 else m));rw[j];rw[ja]at j;have D:q<x.h:=by rw[<-j]; split<;>omega
 have done:zt 94 [i7 i8 0,i7 i8 0] (ext (uw (uw H p.t 16 [i7 i8 n]) p.t 17 [i7 i8 q]) []) p (.tuple #[]) (Tm.bp {x with top:=n,bottom:=q} 0 0)\/¬n<=q:=by
  by_cases a:n<=q
  .have st:=g.two (off:=16) (vs:=[i7 i8 n]) (off2:=17) (vs2:=[i7 i8 q]) (y:={x with top:=n,bottom:=q}) rfl rfl
   have E:Tm.Sz {x with top:=n,bottom:=q}:=⟨s.h1,s.h2,s.w1,s.w2,s.ws,s.r1,s.r2,s.c1,s.c2,s.sr1,s.sr2,s.sc1,s.sc2,C,a,D,s.md,s.hd⟩
   exact .inl (iV _ p _ 0 0 st.at_ E (st.ok ok))
  .exact .inr a
 have w:eZ H p (ext (uw (uw H p.t 16 [i7 i8 n]) p.t 17 [i7 i8 q]) []) p {x with top:=n,bottom:=q}:=g.two (off:=16) (vs:=[i7 i8 n]) (off2:=17) (vs2:=[i7 i8 q]) rfl rfl;refine aH mixed Tryz.func98 rfl Tryz.ntmps98 (zA8 rfl) ?_
 have c:(m<0/\ge (m<0)=bv/\(x.h:Int)-1=q)\/(ge (m<0)=gc/\ge ((x.h:Int)-1<m)=bv/\(x.h:Int)-1=q)\/(ge (m<0)=gc/\ge ((x.h:Int)-1<m)=gc/\m=q):=by
  by_cases f:m<0
  .rw[if_pos (.inl f)]at j;exact .inl ⟨f,decide_eq_true f,j⟩
  .by_cases z:m ≥ x.h
   .rw[if_pos (.inr z)]at j;exact .inr (.inl ⟨decide_eq_false f,decide_eq_true li,j⟩)
   .rw[if_neg li]at j;exact .inr (.inr ⟨decide_eq_false f,decide_eq_false li,j⟩)
 by_cases a:n<=q
 .have d:ge (n<=q)=true:=decide_eq_true a;rw[if_pos a];rcases done with hd|hd
  .rcases c with⟨_,k,e⟩|⟨k,u,e⟩|⟨k,u,e⟩
   all_goals
    subst e
    (first|simp only[l,v,o,k,u,i,d,zW,seval]|simp (maxDischargeDepth:=6) only[l,v,o,k,i,d,zW,seval])
    refine aL.mono (show aL Tryz.prog 94 _ _ _ from hd) ?_;rintro _ Y ⟨rfl,F,A⟩;have B:=w.trans ok A;rw[show Y=ext Y [] from rfl];simp only[Tryz.results98,fX,seval];exact⟨trivial,F,B⟩
  .exact absurd a hd
 .have d:ge (n<=q)=false:=decide_eq_false a;rw[if_neg a]
  rcases c with⟨_,k,e⟩|⟨k,u,e⟩|⟨k,u,e⟩
  all_goals
   subst e
   (first|simp only[l,v,o,k,u,i,d,Tryz.results98,zW,seval]|simp (maxDischargeDepth:=6) only[l,v,o,k,i,d,Tryz.results98,zW,seval])
   exact⟨trivial,p,eZ.refl g⟩
def qF.last{H:aa}{w:gt}{d:List Int}{a:Int}(h:qF H w (d++[a])):∃ n o,w=jp (ap ⟨n,0,if o then bi else ap 0⟩) (d.length+1) (d.length+1)/\bk H n=ap ⟨3,o,dI (d++[a])⟩/\n<H.next:=by obtain⟨_,n,o,b,c,f⟩:=h;exact⟨n,o,by rw[b]; simp,c,f⟩
def C4(H:aa)(v:gt)(s:List UInt8)(l:List Int)(h:EG H v s)(ok:H.base<=H.next)(hs:s.length<=64)(hl:numbers s [] 0=ap l) :
  aL Tryz.prog 93 [v] H fun out H1=>∃ w,out=.ok w/\qF H1 w l/\Mod [] H H1/\∀ n∈ae w,H.next<=n:=by
 obtain⟨b,P⟩:=ac H.next;obtain⟨vn,vo,vc,C⟩:=h.sl;obtain⟨L,hL⟩:=ac s.length;rw[hL]at C hs;refine aH mixed Tryz.func93 rfl Tryz.ntmps93 (zA8 rfl) ?_;simp only[P,zW,seval];refine c7 fun E Y=>?_;have x:E 0=v:=by rw[Y]; rfl
 have y:E 3=jp (ap ⟨b+0,0,ap 0⟩) 1 1:=by rw[Y]; rfl
 have z:E 4=i7 i8 ((0:Nat):Int):=by rw[Y]; rfl
 clear Y
 have hn0:qF (ext H [⟨3,gc,[i7 i8 0]⟩]) (jp (ap ⟨b+0,0,ap 0⟩) 1 1) ([]++[0]):=⟨by simp,b+0,gc,rfl,by rw[bJ P lw]; rfl,by rw[aA,P]; simp⟩
 refine b8 (fun (q:Nat × List Int × Int × gt) E' X=>q.1<=L/\q.2.1.length<=q.1/\0<=q.2.2.1/\q.2.2.1<=9999/\numbers (s.drop q.1) q.2.1 q.2.2.1=ap l/\qF X q.2.2.2 (q.2.1++[q.2.2.1])/\Mod [] H X/\(∀ n∈ae q.2.2.2,b<=n)/\E' 0=v/\E' 3=q.2.2.2/\E' 4=i7 i8 (q.1:Int)) (fun q=>L-q.1) (0,[],0,jp (ap ⟨b+0,0,ap 0⟩) 1 1)
  ⟨zB7 _,zA5 _,Int.le_refl _,by simp only; omega,hl,hn0,Mod.ext ok,fun n A=>by simp only[ae,zA6]at A; omega,x,y,z⟩ ?_
 clear x y z E;rintro⟨i,d,a,w⟩ E X ⟨hi,hdl,a0,a1,f,Q,O,j,x,y,z⟩;simp only at hi hdl a0 a1 f Q j y z;have okX:=O.ok ok;rw[show X=ext X [] from rfl];by_cases he:i=L
 .have Z:ge ((i:Int)<(L:Int))=false:=decide_eq_false li;rw[zE8 li]at f;simp only[numbers,i5]at f;simp only[x,y,z,C,Z,Tryz.results93,zW,seval];exact⟨w,rfl,f▸Q,O,fun n A=>by have:=j n A; omega⟩
 have Z:ge ((i:Int)<(L:Int))=true:=decide_eq_true li
 obtain⟨c,hc⟩:∃ c,s[i]?=ap c:=⟨_,zB3 li⟩
 have hX:=h.zz O;obtain⟨xb,o⟩:=ac X.next;obtain⟨cn,co,ci,clt,cm,I⟩:=hX.get hc;rw[C]at ci;have t:cn<xb:=o▸clt;have hdr:s.drop i=c::s.drop (i+1):=by have:=zE0.1 hc;rw[<-this.2,List.getElem_cons_drop]
 rw[hdr]at f;have R:IntKind.i64.wrap ((i:Int)+1)=((i+1:Nat):Int):=bA li;obtain⟨J,wo,D,wb,wl⟩:=Q.last;by_cases B:c=59
 .have K:ge ((c.toNat:Int)=59)=true:=by subst B; rfl
  obtain⟨w',G,F,hG,mG,S⟩:=Di Q o pp okX;simp only[numbers,B,if_true]at f;have mH:Mod [] H G:=O.step mG ok fun n A=>.inr (P▸j n A);rw[D]at F;simp only[x,y,z,C,D,Z,ci,o,t,I,K,F,zW,seval];refine aC ⟨(i+1,d++[a],0,w'),by simp only; omega,by simp only; omega,by simp only[zB2,List.length_singleton]; omega,Int.le_refl _,by simp only; omega,f,hG,mH,fun n A=>by have:=S n A; have:=O.next; omega,?_,?_,?_⟩<;>simp only[x,C,R,aE,seval]
 .have K:ge ((c.toNat:Int)=59)=false:=decide_eq_false fun e=>B (UInt8.toNat_inj.1 pp);simp only[numbers,B,if_false]at f
  have g:48<=c/\c<=57:=by
   by_cases g:48<=c/\c<=57
   .exact g
   .rw[if_neg g]at f; cases f
  rw[if_pos g]at f;have c1:48<=c.toNat:=g.1;have c2:c.toNat<=57:=g.2;have hs8:=Mv g.1;have hw8:IntKind.i64.wrap ((c.toNat:Int)-48)=(c.toNat:Int)-48:=ak li li;have T:IntKind.i64.wrap (10*a)=10*a:=ak li li;have U:IntKind.i64.wrap (10*a+((c.toNat:Int)-48))=10*a+((c.toNat:Int)-48):=ak li li;have V:IntKind.i64.wrap (((d.length+1:Nat):Int)-1)=(d.length:Int):=by rw[show ((d.length+1:Nat):Int)-1=(d.length:Int) by omega];exact ak li li
  have M:aS Tryz.prog 22 (jp (ap ⟨J,0,if wo=bv then bi else ap 0⟩) (d.length+1) (d.length+1)) (i7 i8 (d.length:Int))=ap (i9 (ap ⟨J,d.length,bi⟩)):=by have:=ta (len:=d.length+1) (cap:=d.length+1) (n:=J) (off:=0) (s:=if wo=bv then bi else ap 0) (i:=(d.length:Int)) (k:=d.length) rfl li;rw[zC6]at this;exact this
  have ldl:(dI (d++[a]))[d.length]?=ap (i7 i8 a):=by rw[tM];simp
  have hst:∀ N v,sQ Tryz.prog 3 N d.length (i7 i8 v) (ap ⟨3,wo,dI (d++[a])⟩)=ap ⟨3,wo,cQ (dI (d++[a])) d.length [i7 i8 v]⟩:=fun N v=>nA (v:=i7 i8 v) ls (by simp only[Value.cells,gq,zB2,zA3,zB0]; omega) rfl rfl;have W:=C1 (c:=min 9999 (10*a+((c.toNat:Int)-48))) Q J (by rw[D]; simp[ae]);have wx:J<xb:=o▸wl;have mU:Mod [] H (uw X J d.length [i7 i8 (min 9999 (10*a+((c.toNat:Int)-48)))]):=O.step (W':=[J]) (Mod.uw lw) ok fun n A=>.inr (P▸j n (by rw[D]; simpa[ae]using A));obtain⟨Lw,hLw⟩:=ac (d.length+1);rw[hLw]at D M V;simp only[x,y,z,C,D,Z,ci,o,t,I,K,V,zW,seval];refine aK [(16,5),(16,10)] [] ls ls rfl fun ops anc hA hG=>?_;simp only[aj]at hA;simp only[x,y,z,C,D,ci,o,t,I,wx,wb,M,ldl,hs8,T,bh,zW,seval];refine mJ (u:=.int .u8) (k:=i8) (k0:=.u8) (n:=(c.toNat:Int)-48) rfl mt ls ls (by simp only[aE]) ?_;simp only[z,hw8,U,R,o,wx,wb,M,hst,hA,bh,zW,seval];refine aC ⟨(i+1,d,min 9999 (10*a+((c.toNat:Int)-48)),w),by simp only; omega,by simp only; omega,by simp only; omega,by simp only; omega,by simp only; omega,by rw[Int.mul_comm 10 a]; exact f,by rw[ext_nil]; exact W,by rw[ext_nil]; exact mU,j,?_,?_,?_⟩<;>simp only[x,y,C,D,aE,seval]
def yS(H:aa)(p:Rq)(x:Tm)(w:gt)(l:List Int)(g:cL H p x)(ok:H.base<=H.next)(hw:qF H w l)(h0:∀ n∈l,0<=n/\n<=9999)(hlen:l.length<=1000)(hv:∀ n∈ae w,n∉p.au):zt 97 [w] H p (.tuple #[]) (x.bQ (Lk.attributes l x.pen)):=by
 obtain⟨b,hb⟩:=ac H.next;have hT:p.t<b:=hb▸g.lt p.t pi;have h1:=g.cell;simp only[bF]at h1;obtain⟨L,hL⟩:=ac l.length;obtain⟨wa,wc,s⟩:∃ a c,w=.slice a L c:=hL▸hw.at_.sl;have hwl:∀ n∈ae w,n<H.next:=by obtain⟨_,n,o,rfl,_,h⟩:=hw;intro m hm;simp only[ae,zA6]at hm;omega
 refine aH mixed Tryz.func97 rfl Tryz.ntmps97 (zA8 rfl) ?_;simp only[zW,seval];refine c7 fun E hE=>?_;have Q:E 0=i9 (ap ⟨p.t,0,bi⟩):=by rw[hE]; rfl
 have v:E 1=w:=by rw[hE]; rfl
 have D:E 4=i9 (ap ⟨p.t,3,bi⟩):=by rw[hE]; rfl
 have F:E 5=i7 i8 ((0:Nat):Int):=by rw[hE]; rfl
 clear hE
 refine b8 (fun (q:Nat × Lk) E' X=>(q.1<=L/\eZ H p X p (x.bQ q.2)/\Lk.attributes (l.drop q.1) q.2=Lk.attributes l x.pen)/\E' 0=i9 (ap ⟨p.t,0,bi⟩)/\E' 1=w/\E' 4=i9 (ap ⟨p.t,3,bi⟩)/\E' 5=i7 i8 (q.1:Int)) (fun q=>L-q.1) (0,x.pen)
  ⟨⟨zB7 _,eZ.refl g,rfl⟩,Q,v,D,F⟩ ?_
 clear Q v D F E;rintro⟨i,k⟩ E X ⟨⟨hi,st,j⟩,Q,v,D,F⟩;simp only at hi st j F;rw[show X=ext X [] from rfl];have okX:=st.ok ok;by_cases he:i=L
 .have J:ge ((i:Int)<(L:Int))=false:=decide_eq_false li;rw[zE8 li,zZ]at j;simp only[v,F,s,J,Tryz.results97,zW,seval];rw[<-j];exact⟨trivial,p,st⟩
 have J:ge ((i:Int)<(L:Int))=true:=decide_eq_true li;have W:dY X w l:=hw.at_.of fun n hn=>st.mod.get n (hwl n hn) (hv n hn)
 obtain⟨n,hn⟩:∃ n,l[i]?=ap n:=⟨_,zB3 li⟩
 obtain⟨n0,n9⟩:=h0 n (zC0 hn);obtain⟨xb,u⟩:=ac X.next;have Z:∀ q∈ae w,q<xb:=fun q hq=>u▸zD1 (hwl q hq) st.mod.next;obtain⟨q1,o1,P,m1,_,z⟩:=W.get hn;have R:=Z q1 m1;rw[s]at P;have K:p.t<xb:=by have:=st.mod.next; omega
 have cX:=st.at_.cell;simp only[bF]at cX;have B:IntKind.i64.wrap ((i:Int)+1)=((i+1:Nat):Int):=bA li;have hdr:l.drop i=n::l.drop (i+1):=by have:=zE0.1 hn;rw[<-this.2,List.getElem_cons_drop]
 rw[hdr]at j
 have nx:∀(M:Lk)(Y:aa),eZ X p Y p (x.bQ M)->Lk.attributes (n::l.drop (i+1)) k=Lk.attributes (l.drop (i+1)) M->i+1<=L/\eZ H p Y p (x.bQ M)/\Lk.attributes (l.drop (i+1)) M=Lk.attributes l x.pen :=
  fun M Y s1 e=>⟨by omega,st.trans ok s1,e▸j⟩
 by_cases A:n=38\/n=48
 .have C:IntKind.i64.wrap ((i:Int)+2)=((i+2:Nat):Int):=by
   rw[show (i:Int)+2=((i+2:Nat):Int) by omega];exact ak li li
  have hlr:(l.drop (i+1)).length=L-(i+1):=by rw[zC1,hL]
  by_cases hr:(l.drop (i+1)).length<2
  .have S:ge ((L:Int)<=((i+2:Nat):Int))=true:=decide_eq_true li;rw[uu k A hr]at j;rw[<-j];rcases A with rfl|rfl
   all_goals
    simp only[v,F,s,J,u,P,R,z,C,S,seval,decide_true,decide_false,Tryz.results97,zW];exact⟨trivial,p,st⟩
  have S:ge ((L:Int)<=((i+2:Nat):Int))=false:=decide_eq_false li
  obtain⟨a2,ha2⟩:∃ a,l[i+1]?=ap a:=⟨_,zB3 li⟩
  obtain⟨G,hb2⟩:∃ a,l[i+2]?=ap a:=⟨_,zB3 li⟩
  have T:l.drop (i+1)=a2::G::l.drop (i+3):=by have e1:=zE0.1 ha2;have e2:=zE0.1 hb2;rw[<-e1.2,<-e2.2,List.getElem_cons_drop,List.getElem_cons_drop]
  rw[T,wW k A]at j;obtain⟨q2,o2,i2,m2,_,U⟩:=W.get ha2;obtain⟨q3,o3,i3,m3,_,ld3⟩:=W.get hb2;have t2:=Z q2 m2;have t3:=Z q3 m3;rw[s]at i2 i3;obtain⟨b0,b9⟩:=h0 G (zC0 hb2);have hwb:IntKind.i64.wrap (G+1)=G+1:=ak li li;have hw3:IntKind.i64.wrap (((i+2:Nat):Int)+1)=((i+3:Nat):Int):=bA li;have V:aS Tryz.prog 22 (.slice wa L wc) (i7 i8 ((i+1:Nat):Int))=ap (i9 (ap ⟨q2,o2,bi⟩)):=i2;have i3':aS Tryz.prog 22 (.slice wa L wc) (i7 i8 ((i+2:Nat):Int))=ap (i9 (ap ⟨q3,o3,bi⟩)):=i3;have ne3:q3≠p.t:=fun e=>hv q3 m3 (e▸by simp[Rq.au]);by_cases h5:a2=5
  .have d5:ge (¬a2=5)=false:=decide_eq_false (by simp[h5]);by_cases N:G>255
   .have d6:ge ((255:Int)<G)=true:=decide_eq_true N;rw[if_pos (.inr N)]at j;rw[<-j];rcases A with rfl|rfl
    all_goals
     simp only[v,F,s,J,u,P,R,z,B,C,S,V,t2,U,i3',t3,ld3,d5,d6,seval,decide_true,decide_false,Tryz.results97,zW];exact⟨trivial,p,st⟩
   .have d6:ge ((255:Int)<G)=false:=decide_eq_false N;rw[if_neg (by simp[h5]; omega)]at j
    have ny:∀(M:Lk)(Y:aa),eZ X p Y p (x.bQ M)->Lk.attributes (l.drop (i+3)) M=Lk.attributes l x.pen->i+3<=L/\eZ H p Y p (x.bQ M)/\Lk.attributes (l.drop (i+3)) M=Lk.attributes l x.pen :=
     fun M Y s1 e=>⟨by omega,st.trans ok s1,e⟩
    rcases A with rfl|rfl
    .simp only[v,D,F,s,J,u,P,R,z,K,cX,B,C,S,V,t2,U,i3',t3,ld3,d5,d6,hwb,hw3,seval,decide_true,decide_false,zW];refine aC ⟨(i+3,{k with fore:=G+1}),by simp only; omega,ny {k with fore:=G+1} _ (st.at_.one (y:=x.bQ {k with fore:=G+1}) rfl rfl) j,?_,?_,?_,?_⟩<;>simp only[Q,v,D,s,aE,seval]
    .simp only[v,D,F,s,J,u,P,R,z,K,cX,B,C,S,V,t2,U,i3',t3,ld3,d5,d6,hwb,hw3,seval,decide_true,decide_false,zW];refine aC ⟨(i+3,{k with back:=G+1}),by simp only; omega,ny {k with back:=G+1} _ (st.at_.one (y:=x.bQ {k with back:=G+1}) rfl rfl) j,?_,?_,?_,?_⟩<;>simp only[Q,v,D,s,aE,seval]
  .have d5:ge (¬a2=5)=true:=decide_eq_true h5;rw[if_pos (.inl h5)]at j;rw[<-j];rcases A with rfl|rfl
   all_goals
    simp only[v,F,s,J,u,P,R,z,B,C,S,V,t2,U,d5,seval,decide_true,decide_false,Tryz.results97,zW];exact⟨trivial,p,st⟩
 by_cases I:30<=n/\n<=37
 .have f:∀ m:Int,m<30->ge (n=m)=false:=fun m hm=>decide_eq_false li;have q1:ge (30<=n)=true:=decide_eq_true I.1;have q2:ge (n<=37)=true:=decide_eq_true I.2;have hwn:IntKind.i64.wrap (n-29)=n-29:=ak li li;simp only[v,D,F,s,J,u,P,R,z,K,cX,f 0 mt,f 1 mt,f 22 mt,f 4 mt,f 24 mt,f 7 mt,f 27 mt,q1,q2,hwn,B,zW,seval];refine aC ⟨(i+1,{k with fore:=n-29}),by simp only; omega,nx {k with fore:=n-29} _ (st.at_.one (y:=x.bQ {k with fore:=n-29}) rfl rfl) (xy k A I),?_,?_,?_,?_⟩<;>simp only[Q,v,D,s,aE,seval]
 by_cases O:40<=n/\n<=47
 .have f:∀ m:Int,m<40->ge (n=m)=false:=fun m hm=>decide_eq_false li;have q0:ge (30<=n)=true:=decide_eq_true li;have q3:ge (n<=37)=false:=decide_eq_false li;have q1:ge (40<=n)=true:=decide_eq_true O.1;have q2:ge (n<=47)=true:=decide_eq_true O.2;have hwn:IntKind.i64.wrap (n-39)=n-39:=ak li li;simp only[v,D,F,s,J,u,P,R,z,K,cX,f 0 mt,f 1 mt,f 22 mt,f 4 mt,f 24 mt,f 7 mt,f 27 mt,f 39 mt,q0,q1,q2,q3,hwn,B,zW,seval];refine aC ⟨(i+1,{k with back:=n-39}),by simp only; omega,nx {k with back:=n-39} _ (st.at_.one (y:=x.bQ {k with back:=n-39}) rfl rfl) (xe k A I O),?_,?_,?_,?_⟩<;>simp only[Q,v,D,s,aE,seval]
 have ho:=uH (r:=l.drop (i+1)) k A I O;by_cases hs:n=0\/n=1\/n=22\/n=4\/n=24\/n=7\/n=27\/n=39\/n=49
 .rcases hs with rfl|rfl|rfl|rfl|rfl|rfl|rfl|rfl|rfl
  all_goals
   simp only[v,D,F,s,J,u,P,R,z,K,cX,B,seval,decide_true,decide_false,zW];refine aC ⟨(i+1,k.attribute _),by simp only; omega,nx (k.attribute _) _ (st.at_.one (y:=x.bQ (k.attribute _)) rfl rfl) ho,?_,?_,?_,?_⟩<;>simp only[Q,v,D,s,aE,seval]
 have hk:k.attribute n=k:=by simp only[not_or]at hs;obtain⟨a1,a2,a3,a4,a5,a6,a7,a8,a9⟩:=hs;simp only[Lk.attribute,a1,a2,a3,a4,a5,a6,a7,a8,a9,or_self,if_false]
 rw[hk]at ho;have f:∀ m:Int,(m=0\/m=1\/m=22\/m=4\/m=24\/m=7\/m=27\/m=39\/m=49\/m=38\/m=48)->ge (n=m)=false:=fun m hm=>decide_eq_false li
 obtain⟨d1,hd1⟩:∃ d,ge (30<=n)=d:=⟨_,rfl⟩
 obtain⟨S,T⟩:∃ d,ge (n<=37)=d:=⟨_,rfl⟩
 obtain⟨d3,hd3⟩:∃ d,ge (40<=n)=d:=⟨_,rfl⟩
 obtain⟨d4,hd4⟩:∃ d,ge (n<=47)=d:=⟨_,rfl⟩
 have c1:¬(d1=bv/\S=bv):=fun h=>I ⟨of_decide_eq_true (hd1.trans h.1),of_decide_eq_true (T.trans h.2)⟩;have c2:¬(d3=bv/\d4=bv):=fun h=>O ⟨of_decide_eq_true (hd3.trans h.1),of_decide_eq_true (hd4.trans h.2)⟩
 cases d1<;>cases S<;>cases d3<;>cases d4<;>first
  |exact absurd ⟨rfl,rfl⟩ c1
  |exact absurd ⟨rfl,rfl⟩ c2
  | (simp only [v, F, s, J, u, P, R, z, f 0 mt, f 1 mt, f 22 mt, f 4 mt, f 24 mt, f 7 mt, f 27 mt, f 39 mt, f 49 mt, f 38 mt, f 48 mt, hd1, T, hd3, hd4, B, zW, seval]
     refine aC ⟨(i+1,k),by simp only; omega,nx k _ (eZ.refl st.at_) ho,?_,?_,?_,?_⟩<;>simp only[Q,v,D,s,aE,seval])
def Tm.seq(x:Tm)(s:List UInt8)(f:UInt8):Tm :=
 if s=[63,50,53]/\(f=104\/f=108) then {x with shown:=f=104}
 else match numbers s [] 0 with
  |some p=>x.aT f p
  |none=>x
def PB(c:UInt8):Prop:=c=59\/(48<=c/\c<=57)
def nO:∀(s:List UInt8)(d:List Int)(a:Int),(∀ c∈s,PB c)->∃ l,numbers s d a=ap l
 |[],_,_,_=>⟨_,rfl⟩
 |c::r,d,a,h=>by
  unfold numbers;have f:∀ c∈r,PB c:=fun q g=>h q (by simp[g]);by_cases b:c=59
  .rw[if_pos b]; exact nO r _ _ f
  .rw[if_neg b];rcases h c lw with h1|h1
   .exact absurd h1 b
   .rw[if_pos h1]; exact nO r _ _ f
def n6{k:UInt8}(b:¬PB k):∀(s:List UInt8)(d:List Int)(a:Int),k∈s->numbers s d a=bi
 |[],_,_,h=>by cases h
 |c::r,d,a,h=>by
  rw[numbers];split
  .rename_i f;rcases zA9.1 h with rfl|h
   .exact absurd (.inl f) b
   .exact n6 b r _ _ h
  .split
   .rename_i f g;rcases zA9.1 h with rfl|h
    .exact absurd (.inr g) b
    .exact n6 b r _ _ h
   .rfl
def w6(l:List Int):∀ k i (t:Tm),Tm.bL l i k t=Tm.bL [l.headD 0] i k t:=by
 intro k
 induction k with
 |zero=>intro i t; rfl
 |succ k a=>intro i t; rw[cV,cV,a]; rfl
def xK(x:Tm)(l:List Int)(all:Bool):cond all (x.cf [l.headD 0]) (x.aU [l.headD 0])=cond all (x.cf l) (x.aU l):=by
 cases all
 .rfl
 .show Tm.cf x _=Tm.cf x l;unfold Tm.cf;rw[w6 l];rfl
def BT(H:aa)(p:Rq)(x:Tm)(v:gt)(s:List UInt8)(f:UInt8)(g:cL H p x)(sz:x.Sz)(ok:H.base<=H.next)(h:EG H v s)(hlen:s.length<=1000000):zt 63 [v,gD f] H p (.tuple #[]) (if s.length<=64 then x.seq s f else x):=by
 obtain⟨b,hb⟩:=ac H.next;have hT:p.t<b:=hb▸g.lt p.t pi;have h1:=g.cell;simp only[bF]at h1;have hstr:=h.str;obtain⟨vn,vo,vc,U⟩:=h.sl;obtain⟨L,hL⟩:=ac s.length;rw[hL]at U hlen;rw[U]at hstr;have hsq:(((⟨s.toArray⟩:ByteArray).toList == (⟨#[63,50,53]⟩:ByteArray).toList))=ge (s=[63,50,53]):=Nr s [63,50,53]
 obtain⟨dq,hdq⟩:∃ d,ge (s=[63,50,53])=d:=⟨_,rfl⟩
 rw[hdq]at hsq;have MT:s=[63,50,53] ↔ dq=true:=by rw[<-hdq,decide_eq_true_iff]
 obtain⟨dh,q104⟩:∃ d,ge ((f.toNat:Int)=104)=d:=⟨_,rfl⟩
 obtain⟨dl,q108⟩:∃ d,ge ((f.toNat:Int)=108)=d:=⟨_,rfl⟩
 have eh:=oM (n:=104) rfl q104;have el:=oM (n:=108) rfl q108
 have key:x.seq s f=cond (dq&&(dh||dl)) {x with shown:=dh} (match numbers s [] 0 with
  |some l=>x.aT f l
  |none=>x):=by
  unfold Tm.seq;simp only[MT,eh,el];cases dq<;>cases dh<;>cases dl<;>rfl
 refine aH mixed Tryz.func63 rfl Tryz.ntmps63 (zA8 rfl) ?_;by_cases h64:64<L
 .have d64:ge ((64:Int)<(L:Int))=true:=decide_eq_true li;rw[if_neg li];simp only[U,d64,Tryz.results63,zW,seval];exact⟨trivial,p,eZ.refl g⟩
 have d64:ge ((64:Int)<(L:Int))=false:=decide_eq_false li;rw[if_pos li,key];have hnoS:∀ a b:ByteArray,df Tryz.prog (ext H []) .eql 9 (.string a) (.string b)=none:=fun a b=>by kernel_rfl
 refine fW (fun J H'=>H'=H/\J 0=i9 (ap ⟨p.t,0,bi⟩)/\J 1=v/\J 2=gD f) ?_ ?_
 .simp only[U,d64,zW,seval];refine ah ⟨rfl,?_,?_,?_⟩<;>simp only[aE,seval]
 rintro E X ⟨hX,e0,e1,e2⟩;rw[hX];clear hX X
 cases hD:(dq&&(dh||dl)) with
 |true =>
  rw[show H=ext H [] from rfl];simp only[e1,U,aY,hstr,cond_true,zW,seval];refine (vT rfl rfl qr qr mt (hnoS _ _)).mpr ?_
  cases dq<;>cases dh<;>cases dl<;>first
   |(exfalso; revert hD; decide)
   | (simp only [e0, e2, hb, hT, h1, hsq, q104, q108, Tryz.results63, zW, seval]
      exact⟨trivial,p,g.one (y:={x with shown:=true}) rfl rfl⟩)
   | (simp only [e0, e2, hb, hT, h1, hsq, q104, q108, Tryz.results63, zW, seval]
      exact⟨trivial,p,g.one (y:={x with shown:=false}) rfl rfl⟩)
 |false =>
 rw[cond_false];refine fW (fun J H'=>H'=H/\J 0=i9 (ap ⟨p.t,0,bi⟩)/\J 1=v/\J 2=gD f) ?_ ?_
 .rw[show H=ext H [] from rfl];simp only[e1,U,aY,hstr,zW,seval];refine (vT rfl rfl qr qr mt (hnoS _ _)).mpr ?_
  cases dq<;>cases dh<;>cases dl<;>first
   |(exfalso; revert hD; decide)
   | (simp only [e2, hsq, q104, q108, zW, seval]
      refine ah ⟨rfl,?_,?_,?_⟩<;>simp only[e0,e1,e2,U,aE,seval])
 clear e0 e1 e2 E;rintro E X ⟨hX,g0,g1,g2⟩;rw[hX];clear hX X;rw[show H=ext H [] from rfl];simp only[zW,seval];refine c7 fun J hE=>?_;have C:J 0=i9 (ap ⟨p.t,0,bi⟩):=by rw[hE]; simp only[g0,aE,seval]
 have S:J 1=v:=by rw[hE]; simp only[g1,aE,seval]
 have T:J 2=gD f:=by rw[hE]; simp only[g2,aE,seval]
 have f6:J 6=i7 i8 ((0:Nat):Int):=by rw[hE]; rfl
 clear hE g0 g1 g2 E;refine bn (fun J H'=>H'=H/\(∀ c∈s,PB c)/\J 0=i9 (ap ⟨p.t,0,bi⟩)/\J 1=v/\J 2=gD f) ?_ ?_
 .refine b8 (fun (q:Nat) J H'=>H'=H/\q<=L/\(∀ c∈s.take q,PB c)/\J 0=i9 (ap ⟨p.t,0,bi⟩)/\J 1=v/\J 2=gD f/\J 6=i7 i8 (q:Int)) (fun q=>L-q) 0
   ⟨rfl,zB7 _,by simp,C,S,T,f6⟩ ?_
  clear C S T f6 J;rintro i E X ⟨hX,hi,hok,C,S,T,f6⟩;rw[hX];clear hX X;rw[show H=ext H [] from rfl];by_cases he:i=L
  .have hd:ge ((i:Int)<(L:Int))=false:=decide_eq_false li;simp only[S,f6,U,hd,zW,seval];refine ah ⟨rfl,?_,?_,?_,?_⟩<;>try simp only[C,S,T,U,aE,seval]
   rwa [he,<-hL,List.take_length]at hok
  have hd:ge ((i:Int)<(L:Int))=true:=decide_eq_true li
  obtain⟨c,hc⟩:∃ c,s[i]?=ap c:=⟨_,zB3 li⟩
  obtain⟨cn,co,ci,clt,cm,cld⟩:=h.get hc;rw[U]at ci;rw[hb]at clt;have hwi:IntKind.i64.wrap ((i:Int)+1)=((i+1:Nat):Int):=bA li
  have nxt:PB c->∀ k∈s.take (i+1),PB k:=fun h' k hk=>by
   rw[List.take_add_one,hc]at hk;rcases zB4.1 hk with hk|hk
   .exact hok k hk
   .simp only[Option.toList,zA6]at hk;exact hk▸h'
  have bad:¬PB c->numbers s [] 0=none:=fun h'=>n6 h' s _ _ (zC0 hc);by_cases h59:c=59
  .have d1:ge (¬(c.toNat:Int)=59)=false:=by subst h59; rfl
   simp only[S,f6,U,hd,ci,hb,clt,cld,d1,zW,seval];refine aC ⟨i+1,by omega,rfl,by omega,nxt (.inl h59),?_,?_,?_,?_⟩<;>simp only[C,S,T,U,hwi,aE,seval]
  have d1:ge (¬(c.toNat:Int)=59)=true:=decide_eq_true fun e=>h59 (UInt8.toNat_inj.1 pp);by_cases h48:(c.toNat:Int)<48
  .have d2:ge ((c.toNat:Int)<48)=true:=decide_eq_true h48;rw[bad (fun h=>h.elim h59 fun h=>by have:48<=c.toNat:=h.1; omega)];simp only[S,f6,U,hd,ci,hb,clt,cld,d1,d2,da,Tryz.results63,zW,seval];exact⟨trivial,p,eZ.refl g⟩
  have d2:ge ((c.toNat:Int)<48)=false:=decide_eq_false h48;by_cases h57:(57:Int)<(c.toNat:Int)
  .have d3:ge ((57:Int)<(c.toNat:Int))=true:=decide_eq_true h57;rw[bad (fun h=>h.elim h59 fun h=>by have:c.toNat<=57:=h.2; omega)];simp only[S,f6,U,hd,ci,hb,clt,cld,d1,d2,d3,da,Tryz.results63,zW,seval];exact⟨trivial,p,eZ.refl g⟩
  have d3:ge ((57:Int)<(c.toNat:Int))=false:=decide_eq_false h57;simp only[S,f6,U,hd,ci,hb,clt,cld,d1,d2,d3,zW,seval];refine aC ⟨i+1,by omega,rfl,by omega,nxt (.inr ⟨show 48<=c.toNat by omega,show c.toNat<=57 by omega⟩),?_,?_,?_,?_⟩<;>simp only[C,S,T,U,hwi,aE,seval]
 clear C S T f6 J;rintro E X ⟨hX,hok,C,S,T⟩;rw[hX];clear hX X;obtain⟨l,hl⟩:=nO s [] 0 hok;rw[hl];obtain⟨n1,n2,n3⟩:=lg _ _ _ _ hl;have n4:=n3 lw ⟨Int.le_refl _,by omega⟩;simp only[zB0]at n2;rw[show H=ext H [] from rfl];simp only[S,zW,seval];refine aL.mono (show aL Tryz.prog 93 [v] (ext H []) _ from C4 H v s l h ok li hl) ?_;rintro _ Y ⟨w,rfl,hw,mY,hwn⟩;have D:=mY.ok ok;have N:cL Y p x:=(eZ.quiet g mY).at_;have st0:eZ H p Y p x:=eZ.quiet g mY;have hvY:∀ n∈ae w,n∉p.au:=fun n hn hb'=>by have:=hwn n hn;have:=g.lt n hb';omega
 obtain⟨a,r,rfl⟩:∃ a r,l=a::r:=by
  cases l with
  |nil=>exact absurd rfl n1
  |cons a r=>exact⟨a,r,rfl⟩
 obtain⟨yb,u⟩:=ac Y.next;have hwlt:∀ n∈ae w,n<yb:=by obtain⟨_,n,o,rfl,_,h⟩:=hw;intro m hm;simp only[ae,zA6]at hm;omega
 obtain⟨Lw,hLw⟩:=ac ((a::r).length);obtain⟨wa,wc,V⟩:∃ a' c,w=.slice a' Lw c:=hLw▸hw.at_.sl;obtain⟨q1,o1,i1,m1,_,ld1⟩:=hw.at_.get (k:=0) (c:=a) rfl;have t1:=hwlt q1 m1;rw[V,show ((0:Nat):Int)=0 from rfl]at i1;have a0:=n4 a lw;have hcnt:count (a::r)=max 1 a:=rfl
 obtain⟨j,M⟩:∃ j:Nat,count (a::r)=j:=⟨(count (a::r)).toNat,by rw[hcnt]; omega⟩
 have c1:1<=j:=by omega
 have c9:j<=9999:=by omega
 have s0:0<=snd (a::r)/\snd (a::r)<=9999:=by
  cases r with
  |nil=>exact⟨Int.le_refl _,show (0:Int)<=9999 by omega⟩
  |cons b r=>exact n4 b lw
 rw[show Y=ext Y [] from rfl];simp only[V,zW,seval];refine dG (fun J H'=>H'=Y/\J 0=i9 (ap ⟨p.t,0,bi⟩)/\J 2=gD f/\J 7=w/\J 8=i7 i8 (snd (a::r))) ?_ ?_
 .cases r with
  |nil =>have d:ge ((1:Int)<(Lw:Int))=false:=decide_eq_false (by simp only[List.length_singleton]at hLw; omega);simp only[d,fX];refine ah ⟨rfl,?_,?_,?_,?_⟩<;>(simp only[C,T,V,aE,seval]<;>rfl)
  |cons a2 r =>have d:ge ((1:Int)<(Lw:Int))=true:=decide_eq_true (by simp only[zA3]at hLw; omega);obtain⟨q2,o2,i2,m2,_,ld2⟩:=hw.at_.get (k:=1) (c:=a2) rfl;have t2:=hwlt q2 m2;rw[V,show ((1:Nat):Int)=1 from rfl]at i2;simp only[d,u,i2,t2,ld2,zW,seval];refine ah ⟨rfl,?_,?_,?_,?_⟩<;>(simp only[C,T,V,aE,seval]<;>rfl)
 clear C S T E;rintro E X ⟨hX,C,T,f7,f8⟩;rw[hX];clear hX X;rw[V]at f7;rw[show Y=ext Y [] from rfl];simp only[T,f7,u,i1,t1,ld1,zW,seval]
 have z:∀(y:Tm)(Z:aa)(B:Rq),x.aT f (a::r)=y->eZ Y p Z B y->∃ B,eZ H p Z B (x.aT f (a::r)):=fun y Z B e st=>⟨B,e▸st0.trans ok st⟩
 have F:p.t<yb:=by have:=mY.next; omega
 have W:=N.cell;simp only[bF]at W;have I:max 1 a=(j:Int):=by rw[<-M,hcnt]
 have s1:=sz.h2;have s2:=sz.w2;have s5:=sz.r1;have s6:=sz.r2;have s7:=eT sz;by_cases c65:f=65
 .have t:(f.toNat:Int)=65:=by subst c65; rfl
  have e:x.aT f (a::r)=x.bp (x.row-j) x.col:=by subst c65; simp[Tm.aT,M]
  have A:IntKind.i64.wrap (x.row-(j:Int))=x.row-(j:Int):=ak li li;simp only[I,t,decide_true,fX];refine aK [(13,5),(13,12)] [] ls ls rfl fun ops anc P hG=>?_;simp only[aj]at P;simp only[C,u,F,W,A,bh,zW,seval];refine fm (as':=[i7 i8 (x.row-(j:Int)),i7 i8 x.col]) N D rfl ls mt (by simp only[aE,seval]<;>rfl) (by simp only[aj,bu,P,true_or,and_true]) (fun G gG O=>iV G p x _ _ gG sz O) fun Z B st=>?_;rw[show Z=ext Z [] from rfl];simp only[Tryz.results63,bh,fX];exact z _ Z B e st
 by_cases c66:f=66
 .have t:(f.toNat:Int)=66:=by subst c66; rfl
  have e:x.aT f (a::r)=x.bp (x.row+j) x.col:=by subst c66; simp[Tm.aT,M]
  have A:IntKind.i64.wrap (x.row+(j:Int))=x.row+(j:Int):=ak li li;simp only[I,t,seval,decide_true,decide_false,zW];refine aK [(13,5),(13,12)] [] ls ls rfl fun ops anc P hG=>?_;simp only[aj]at P;simp only[C,u,F,W,A,bh,zW,seval];refine fm (as':=[i7 i8 (x.row+(j:Int)),i7 i8 x.col]) N D rfl ls mt (by simp only[aE,seval]<;>rfl) (by simp only[aj,bu,P,true_or,and_true]) (fun G gG O=>iV G p x _ _ gG sz O) fun Z B st=>?_;rw[show Z=ext Z [] from rfl];simp only[Tryz.results63,bh,fX];exact z _ Z B e st
 by_cases c67:f=67
 .have t:(f.toNat:Int)=67:=by subst c67; rfl
  have e:x.aT f (a::r)=x.bp x.row (x.inside+j):=by subst c67; simp[Tm.aT,M]
  have A:IntKind.i64.wrap (x.inside+(j:Int))=x.inside+(j:Int):=ak li li;simp only[I,t,seval,decide_true,decide_false,zW];refine aK [(10,5),(10,7)] [] ls ls rfl fun ops anc P hG=>?_;simp only[aj]at P;simp only[C,u,F,W,bh,zW,seval];refine aN (v:=i7 i8 x.inside) p.au (by simp only[aE,seval]) ls mt N.ne (fun K hn hg=>?_) (by simp (maxDischargeDepth:=6) only[bh]) ?_
  .simp only[aE];exact r9 K p x (N.of (by rw[hn]; exact zA5 _) hg) sz
  simp only[u,A,bh,zW,seval];refine fm (as':=[i7 i8 x.row,i7 i8 (x.inside+(j:Int))]) N D rfl ls mt (by simp only[aE,seval]<;>rfl) (by simp only[aj,bu,P,true_or,and_true]) (fun G gG O=>iV G p x _ _ gG sz O) fun Z B st=>?_;rw[show Z=ext Z [] from rfl];simp only[Tryz.results63,bh,fX];exact z _ Z B e st
 by_cases c68:f=68
 .have t:(f.toNat:Int)=68:=by subst c68; rfl
  have e:x.aT f (a::r)=x.bp x.row (x.inside-j):=by subst c68; simp[Tm.aT,M]
  have A:IntKind.i64.wrap (x.inside-(j:Int))=x.inside-(j:Int):=ak li li;simp only[I,t,seval,decide_true,decide_false,zW];refine aK [(10,5),(10,7)] [] ls ls rfl fun ops anc P hG=>?_;simp only[aj]at P;simp only[C,u,F,W,bh,zW,seval];refine aN (v:=i7 i8 x.inside) p.au (by simp only[aE,seval]) ls mt N.ne (fun K hn hg=>?_) (by simp (maxDischargeDepth:=6) only[bh]) ?_
  .simp only[aE];exact r9 K p x (N.of (by rw[hn]; exact zA5 _) hg) sz
  simp only[u,A,bh,zW,seval];refine fm (as':=[i7 i8 x.row,i7 i8 (x.inside-(j:Int))]) N D rfl ls mt (by simp only[aE,seval]<;>rfl) (by simp only[aj,bu,P,true_or,and_true]) (fun G gG O=>iV G p x _ _ gG sz O) fun Z B st=>?_;rw[show Z=ext Z [] from rfl];simp only[Tryz.results63,bh,fX];exact z _ Z B e st
 by_cases c71:f=71
 .have t:(f.toNat:Int)=71:=by subst c71; rfl
  have e:x.aT f (a::r)=x.bp x.row (j-1):=by subst c71; simp[Tm.aT,M]
  have A:IntKind.i64.wrap ((j:Int)-1)=(j:Int)-1:=ak li li;simp only[C,u,F,W,I,t,seval,decide_true,decide_false,A,zW];refine aL.mono (show aL Tryz.prog 94 _ (ext Y []) _ from iV Y p x _ _ N sz D) ?_;rintro _ Z ⟨rfl,B,st⟩;rw[show Z=ext Z [] from rfl];simp only[Tryz.results63,fX,seval];exact⟨trivial,z _ Z B e st⟩
 by_cases c100:f=100
 .have t:(f.toNat:Int)=100:=by subst c100; rfl
  have e:x.aT f (a::r)=x.bp (j-1) x.col:=by subst c100; simp[Tm.aT,M]
  have A:IntKind.i64.wrap ((j:Int)-1)=(j:Int)-1:=ak li li;simp only[C,u,F,W,I,t,seval,decide_true,decide_false,A,zW];refine aL.mono (show aL Tryz.prog 94 _ (ext Y []) _ from iV Y p x _ _ N sz D) ?_;rintro _ Z ⟨rfl,B,st⟩;rw[show Z=ext Z [] from rfl];simp only[Tryz.results63,fX,seval];exact⟨trivial,z _ Z B e st⟩
 by_cases c72:f=72
 .have t:(f.toNat:Int)=72:=by subst c72; rfl
  have e:x.aT f (a::r)=x.bp (j-1) (max 1 (snd (a::r))-1):=by subst c72; simp[Tm.aT,M]
  have A:IntKind.i64.wrap ((j:Int)-1)=(j:Int)-1:=ak li li;have hw2:IntKind.i64.wrap (max 1 (snd (a::r))-1)=max 1 (snd (a::r))-1:=ak li li;simp only[C,f8,I,t,seval,decide_true,decide_false,A,hw2,zW];refine aL.mono (show aL Tryz.prog 94 _ (ext Y []) _ from iV Y p x _ _ N sz D) ?_;rintro _ Z ⟨rfl,B,st⟩;rw[show Z=ext Z [] from rfl];simp only[Tryz.results63,fX,seval];exact⟨trivial,z _ Z B e st⟩
 by_cases c102:f=102
 .have t:(f.toNat:Int)=102:=by subst c102; rfl
  have e:x.aT f (a::r)=x.bp (j-1) (max 1 (snd (a::r))-1):=by subst c102; simp[Tm.aT,M]
  have A:IntKind.i64.wrap ((j:Int)-1)=(j:Int)-1:=ak li li;have hw2:IntKind.i64.wrap (max 1 (snd (a::r))-1)=max 1 (snd (a::r))-1:=ak li li;simp only[C,f8,I,t,seval,decide_true,decide_false,A,hw2,zW];refine aL.mono (show aL Tryz.prog 94 _ (ext Y []) _ from iV Y p x _ _ N sz D) ?_;rintro _ Z ⟨rfl,B,st⟩;rw[show Z=ext Z [] from rfl];simp only[Tryz.results63,fX,seval];exact⟨trivial,z _ Z B e st⟩
 by_cases c74:f=74
 .have t:(f.toNat:Int)=74:=by subst c74; rfl
  have e:x.aT f (a::r)=cond bv (x.cf [a]) (x.aU [a]):=by subst c74; rw[show [a]=[(a::r).headD 0] from rfl,xK]; simp[Tm.aT]
  simp only[C,T,f7,u,I,t,seval,decide_true,decide_false,i1,t1,ld1,zW];refine aL.mono (show aL Tryz.prog 95 _ (ext Y []) _ from AO Y p x a bv N sz D a0.1) ?_;rintro _ Z ⟨rfl,B,st⟩;rw[show Z=ext Z [] from rfl];simp only[Tryz.results63,fX,seval];exact⟨trivial,z _ Z B e st⟩
 by_cases c75:f=75
 .have t:(f.toNat:Int)=75:=by subst c75; rfl
  have e:x.aT f (a::r)=cond gc (x.cf [a]) (x.aU [a]):=by subst c75; rw[show [a]=[(a::r).headD 0] from rfl,xK]; simp[Tm.aT]
  simp only[C,T,f7,u,I,t,seval,decide_true,decide_false,i1,t1,ld1,zW];refine aL.mono (show aL Tryz.prog 95 _ (ext Y []) _ from AO Y p x a gc N sz D a0.1) ?_;rintro _ Z ⟨rfl,B,st⟩;rw[show Z=ext Z [] from rfl];simp only[Tryz.results63,fX,seval];exact⟨trivial,z _ Z B e st⟩
 by_cases c76:f=76
 .have t:(f.toNat:Int)=76:=by subst c76; rfl
  have e:x.aT f (a::r)=x.lines j false:=by subst c76; simp[Tm.aT,M]
  obtain⟨d1,Q⟩:∃ d,ge (x.top<=x.row)=d:=⟨_,rfl⟩
  obtain⟨d2,hd2⟩:∃ d,ge (x.row<=x.bottom)=d:=⟨_,rfl⟩
  have e1:x.row ≥ x.top ↔ d1=true:=by rw[<-Q,decide_eq_true_iff]
  have e2:x.row<=x.bottom ↔ d2=true:=by rw[<-hd2,decide_eq_true_iff]
  unfold Tm.lines at e;simp only[e1,e2]at e;simp only[I,t,seval,decide_true,decide_false,zW];refine aK [] [(10,180)] ls rfl ls fun ops anc P hG=>?_;have R:=hG (10,180) lw;simp only at R
  cases d1 with
  |false =>rw[if_neg lw]at e;simp only[C,u,F,W,Q,R,Tryz.results63,bh,zW,seval];exact z _ Y p e (eZ.refl N)
  |true =>
  cases d2 with
  |false =>rw[if_neg lw]at e;simp only[C,u,F,W,Q,hd2,R,Tryz.results63,bh,zW,seval];exact z _ Y p e (eZ.refl N)
  |true =>
   have S:=e1.2 rfl;have f2':=e2.2 rfl;rw[if_pos ⟨rfl,rfl⟩]at e
   obtain⟨rn,hrn⟩:∃ r:Nat,x.row=r:=⟨x.row.toNat,by omega⟩
   obtain⟨bo,hbo⟩:∃ r:Nat,x.bottom=r:=⟨x.bottom.toNat,by omega⟩
   have tb:=sz.t3;rw[hrn,hbo]at e;simp only[C,u,F,W,Q,hd2,R,bh,zW,seval];refine aK [(13,5),(13,9)] [] ls ls rfl fun ops anc P hG=>?_;simp only[aj]at P;simp only[C,T,u,F,W,t,seval,decide_false,bh,zW];refine fm (as':=[i7 i8 x.row,i7 i8 x.bottom,i7 i8 (j:Int),kw gc]) N D rfl ls mt (by simp only[aE,seval]<;>rfl) (by simp only[aj,bu,P,true_or,and_true]) (fun G gG O=>by rw[hrn,hbo]; exact mQ G p x rn bo j gc gG sz O li li li) fun Z B st=>?_;rw[show Z=ext Z [] from rfl];simp only[Tryz.results63,bh,fX];exact z _ Z B e st
 by_cases c77:f=77
 .have t:(f.toNat:Int)=77:=by subst c77; rfl
  have e:x.aT f (a::r)=x.lines j true:=by subst c77; simp[Tm.aT,M]
  obtain⟨d1,Q⟩:∃ d,ge (x.top<=x.row)=d:=⟨_,rfl⟩
  obtain⟨d2,hd2⟩:∃ d,ge (x.row<=x.bottom)=d:=⟨_,rfl⟩
  have e1:x.row ≥ x.top ↔ d1=true:=by rw[<-Q,decide_eq_true_iff]
  have e2:x.row<=x.bottom ↔ d2=true:=by rw[<-hd2,decide_eq_true_iff]
  unfold Tm.lines at e;simp only[e1,e2]at e;simp only[I,t,seval,decide_true,decide_false,zW];refine aK [] [(10,180)] ls rfl ls fun ops anc P hG=>?_;have R:=hG (10,180) lw;simp only at R
  cases d1 with
  |false =>rw[if_neg lw]at e;simp only[C,u,F,W,Q,R,Tryz.results63,bh,zW,seval];exact z _ Y p e (eZ.refl N)
  |true =>
  cases d2 with
  |false =>rw[if_neg lw]at e;simp only[C,u,F,W,Q,hd2,R,Tryz.results63,bh,zW,seval];exact z _ Y p e (eZ.refl N)
  |true =>
   have S:=e1.2 rfl;have f2':=e2.2 rfl;rw[if_pos ⟨rfl,rfl⟩]at e
   obtain⟨rn,hrn⟩:∃ r:Nat,x.row=r:=⟨x.row.toNat,by omega⟩
   obtain⟨bo,hbo⟩:∃ r:Nat,x.bottom=r:=⟨x.bottom.toNat,by omega⟩
   have tb:=sz.t3;rw[hrn,hbo]at e;simp only[C,u,F,W,Q,hd2,R,bh,zW,seval];refine aK [(13,5),(13,9)] [] ls ls rfl fun ops anc P hG=>?_;simp only[aj]at P;simp only[C,T,u,F,W,t,decide_true,bh,zW,seval];refine fm (as':=[i7 i8 x.row,i7 i8 x.bottom,i7 i8 (j:Int),kw bv]) N D rfl ls mt (by simp only[aE,seval]<;>rfl) (by simp only[aj,bu,P,true_or,and_true]) (fun G gG O=>by rw[hrn,hbo]; exact mQ G p x rn bo j bv gG sz O li li li) fun Z B st=>?_;rw[show Z=ext Z [] from rfl];simp only[Tryz.results63,bh,fX];exact z _ Z B e st
 by_cases c109:f=109
 .have t:(f.toNat:Int)=109:=by subst c109; rfl
  have e:x.aT f (a::r)=x.bQ (Lk.attributes (a::r) x.pen):=by subst c109; simp[Tm.aT,Tm.bQ]
  rw[<-V]at f7;simp only[C,f7,I,t,seval,decide_true,decide_false,zW];refine aL.mono (show aL Tryz.prog 97 _ (ext Y []) _ from yS Y p x w (a::r) N D hw n4 li hvY) ?_;rintro _ Z ⟨rfl,B,st⟩;rw[show Z=ext Z [] from rfl];simp only[Tryz.results63,fX,seval];exact⟨trivial,z _ Z B e st⟩
 by_cases c114:f=114
 .have t:(f.toNat:Int)=114:=by subst c114; rfl
  have e:x.aT f (a::r)=(if (j:Int)-1<=(if snd (a::r)-1<0\/snd (a::r)-1 ≥ x.eQ then x.eQ-1 else snd (a::r)-1) then Tm.bp {x with top:=(j:Int)-1,bottom:=if snd (a::r)-1<0\/snd (a::r)-1 ≥ x.eQ then x.eQ-1 else snd (a::r)-1} 0 0 else x):=by subst c114; simp[Tm.aT,Tm.region,M]
  have A:IntKind.i64.wrap ((j:Int)-1)=(j:Int)-1:=ak li li;have hw2:IntKind.i64.wrap (snd (a::r)-1)=snd (a::r)-1:=ak li li;simp only[C,f8,I,t,seval,decide_true,decide_false,A,hw2,zW];refine aL.mono (show aL Tryz.prog 98 _ (ext Y []) _ from Gv Y p x _ _ N sz D li) ?_;rintro _ Z ⟨rfl,B,st⟩;rw[show Z=ext Z [] from rfl];simp only[Tryz.results63,fX,seval];exact⟨trivial,z _ Z B e st⟩
 have e:x.aT f (a::r)=x:=qq ⟨c65,c66,c67,c68,c71,c100,c72,c102,c74,c75,c76,c77,c109,c114⟩;have t:∀ k:UInt8,∀ m:Int,(k.toNat:Int)=m->f≠k->ge ((f.toNat:Int)=m)=false:=fun k m hk h=>decide_eq_false fun e=>h (UInt8.toNat_inj.1 li);simp only[t 65 65 rfl c65,t 66 66 rfl c66,t 67 67 rfl c67,t 68 68 rfl c68,t 71 71 rfl c71,t 100 100 rfl c100,t 72 72 rfl c72,t 102 102 rfl c102,t 74 74 rfl c74,t 75 75 rfl c75,t 76 76 rfl c76,t 77 77 rfl c77,t 109 109 rfl c109,t 114 114 rfl c114,Tryz.results63,zW,seval];exact⟨trivial,z _ Y p e (eZ.refl N)⟩
def eM(c:UInt8):Nat :=
 if c.toNat<128 then 1 else if 194<=c.toNat/\c.toNat<224 then 2 else if 224<=c.toNat/\c.toNat<240 then 3 else if 240<=c.toNat/\c.toNat<245 then 4 else 0
def wL(a b:UInt8):Bool :=
 if a=224 then ge (160<=b.toNat) else if a=237 then ge (b.toNat<160) else if a=240 then ge (144<=b.toNat) else if a=244 then ge (b.toNat<144) else bv
def du:Nat->Bool->List UInt8->Nat × Bool
 |_,_,[]=>(0,gc)
 |i,m,c::r =>
  if 64<=c.toNat/\c.toNat<=126 then (i+1,bv)
  else if c.toNat=27 then (i,gc)
  else if 32<=c.toNat/\c.toNat<48 then du (i+1) bv r
  else if 48<=c.toNat/\c.toNat<64/\m=gc then du (i+1) m r
  else (i+1,gc)
def dP:Nat->List UInt8->Nat
 |_,[]=>0
 |i,c::r=>if c.toNat=7 then i+1 else if c.toNat=27/\r.head?=ap 92 then i+2 else dP (i+1) r
def LH(H:aa)(c:UInt8):Pure 66 [gD c] H (i7 i8 (eM c:Int)):=by
 have w:=c.toNat_lt;refine ba mixed Tryz.func66 rfl Tryz.ntmps66 (zA8 rfl) fun wf n=>?_
 have a:∃ b f g h i j k,ge ((c.toNat:Int)<128)=b/\ge ((194:Int)<=c.toNat)=f/\ge ((c.toNat:Int)<224)=g/\ge ((224:Int)<=c.toNat)=h/\ge ((c.toNat:Int)<240)=i/\ge ((240:Int)<=c.toNat)=j/\ge ((c.toNat:Int)<245)=k/\eM c=cond b 1 (cond (f&&g) 2 (cond (h&&i) 3 (cond (j&&k) 4 0))):=by
  refine⟨_,_,_,_,_,_,_,rfl,rfl,rfl,rfl,rfl,rfl,rfl,?_⟩;unfold eM;simp only[cond_eq_ite,zA7,decide_eq_true_eq]
  repeat' split
  all_goals omega
 obtain⟨b,f,g,h,i,j,k,l,o,q,s,t,u,v,e⟩:=a;rw[e]
 cases b with
 |true=>simp only[l,Tryz.results66,zW,seval]; exact Fin.pure rfl
 |false =>
 cases f<;>cases g<;>cases h<;>cases i<;>cases j<;>cases k<;>(simp only[l,o,q,s,t,u,v,Tryz.results66,zW,seval]; exact Fin.pure rfl)
def GA(H:aa)(a b:UInt8):Pure 67 [gD a,gD b] H (kw (wL a b)):=by
 refine ba mixed Tryz.func67 rfl Tryz.ntmps67 (zA8 rfl) fun wf o=>?_
 obtain⟨h,c⟩:∃ d,ge ((a.toNat:Int)=224)=d:=⟨_,rfl⟩
 obtain⟨i,f⟩:∃ d,ge ((a.toNat:Int)=237)=d:=⟨_,rfl⟩
 obtain⟨j,g⟩:∃ d,ge ((a.toNat:Int)=240)=d:=⟨_,rfl⟩
 obtain⟨k,l⟩:∃ d,ge ((a.toNat:Int)=244)=d:=⟨_,rfl⟩
 have q:=oM (n:=224) rfl c;have s:=oM (n:=237) rfl f;have t:=oM (n:=240) rfl g;have u:=oM (n:=244) rfl l;have v:ge ((160:Int)<=b.toNat)=ge (160<=b.toNat):=by simp only[decide_eq_decide]; omega
 have w:ge ((b.toNat:Int)<160)=ge (b.toNat<160):=by simp only[decide_eq_decide]; omega
 have x:ge ((144:Int)<=b.toNat)=ge (144<=b.toNat):=by simp only[decide_eq_decide]; omega
 have y:ge ((b.toNat:Int)<144)=ge (b.toNat<144):=by simp only[decide_eq_decide]; omega
 have e:wL a b=cond h (ge (160<=b.toNat)) (cond i (ge (b.toNat<160)) (cond j (ge (144<=b.toNat)) (cond k (ge (b.toNat<144)) bv))):=by unfold wL;simp only[q,s,t,u];cases h<;>cases i<;>cases j<;>cases k<;>rfl
 rw[e]
 cases h with
 |true=>simp only[c,v,Tryz.results67,zW,seval]; exact Fin.pure rfl
 |false =>
 cases i with
 |true=>simp only[c,f,w,Tryz.results67,zW,seval]; exact Fin.pure rfl
 |false =>
 cases j with
 |true=>simp only[c,f,g,x,Tryz.results67,zW,seval]; exact Fin.pure rfl
 |false =>
 cases k with
 |true=>simp only[c,f,g,l,y,Tryz.results67,zW,seval]; exact Fin.pure rfl
 |false=>simp only[c,f,g,l,Tryz.results67,zW,seval]; exact Fin.pure rfl
def vU{l:List UInt8}{i:Nat}{c:UInt8}(h:l[i]?=ap c):l.drop i=c::l.drop (i+1):=by have:=zE0.1 h;rw[<-this.2,List.getElem_cons_drop]
def KH(H:aa)(v:gt)(l:List UInt8)(h:bD H v l)(I:∀ n∈ae v,n<H.next)(M:2<=l.length)(D:l.length<900000) :
  Pure 62 [v] H (.tuple ⟨[i7 i8 ((du 2 gc (l.drop 2)).1:Int),kw (du 2 gc (l.drop 2)).2]⟩):=by
 obtain⟨b,u⟩:=ac H.next;obtain⟨Z,o⟩:=h.sl;obtain⟨L,U⟩:=ac l.length;rw[U]at o M D;obtain⟨R,N⟩:=ac (du 2 gc (l.drop 2));rw[N];refine ba mixed Tryz.func62 rfl Tryz.ntmps62 (zA8 rfl) fun wf V=>?_;simp only[zW,seval];refine c7 fun E F=>?_;have g:E 0=v:=by rw[F]; rfl
 have A:E 4=kw false:=by rw[F]; rfl
 have j:E 5=i7 i8 ((2:Nat):Int):=by rw[F]; rfl
 clear F
 refine b8 (fun (q:Nat × Bool) J X=>X=H/\q.1<=L/\du q.1 q.2 (l.drop q.1)=R/\J 0=v/\J 4=kw q.2/\J 5=i7 i8 (q.1:Int)) (fun q=>L-q.1) (2,gc)
  ⟨rfl,M,N,g,A,j⟩ ?_
 clear g A j E;rintro⟨i,m⟩ E X ⟨O,hi,a,g,A,j⟩;simp only at hi a A j;rw[O,show H=ext H [] from rfl];clear O X;by_cases he:i=L
 .have s:ge ((i:Int)<(L:Int))=false:=decide_eq_false li;rw[zE8 li]at a;simp only[g,j,o,s,Tryz.results62,zW,seval];rw[<-a];exact Fin.pure rfl
 have s:ge ((i:Int)<(L:Int))=true:=decide_eq_true li
 obtain⟨c,P⟩:∃ c,l[i]?=ap c:=⟨_,zB3 li⟩
 obtain⟨W,o1,w,Y,f⟩:=h.get P;have x:=I W Y;rw[u]at x;rw[o]at w;rw[vU P]at a;have k:IntKind.i64.wrap ((i:Int)+1)=((i+1:Nat):Int):=bA li;by_cases Q:64<=c.toNat/\c.toNat<=126
 .have t:ge ((64:Int)<=c.toNat)=true:=decide_eq_true li;have K:ge ((c.toNat:Int)<=126)=true:=decide_eq_true li;rw[du,if_pos Q]at a;simp only[g,j,o,s,u,w,x,f,t,K,k,Tryz.results62,zW,seval];rw[<-a];exact Fin.pure rfl
 rw[du,if_neg Q]at a;by_cases c2:126<c.toNat
 .have t:ge ((64:Int)<=c.toNat)=true:=decide_eq_true li;have K:ge ((c.toNat:Int)<=126)=false:=decide_eq_false li;have y:ge ((c.toNat:Int)=27)=false:=decide_eq_false li;have z:ge ((32:Int)<=c.toNat)=true:=decide_eq_true li;have B:ge ((c.toNat:Int)<48)=false:=decide_eq_false li;have C:ge ((48:Int)<=c.toNat)=true:=decide_eq_true li;have G:ge ((c.toNat:Int)<64)=false:=decide_eq_false li;rw[if_neg li,if_neg li,if_neg li]at a;simp only[g,j,o,s,u,w,x,f,t,K,y,z,B,C,G,k,Tryz.results62,zW,seval];rw[<-a];exact Fin.pure rfl
 have t:ge ((64:Int)<=c.toNat)=false:=decide_eq_false li;by_cases S:c.toNat=27
 .have y:ge ((c.toNat:Int)=27)=true:=decide_eq_true li;rw[if_pos S]at a;simp only[g,j,o,s,u,w,x,f,t,y,Tryz.results62,zW,seval];rw[<-a];exact Fin.pure rfl
 have y:ge ((c.toNat:Int)=27)=false:=decide_eq_false li;rw[if_neg S]at a;by_cases T:32<=c.toNat/\c.toNat<48
 .have z:ge ((32:Int)<=c.toNat)=true:=decide_eq_true li;have B:ge ((c.toNat:Int)<48)=true:=decide_eq_true li;rw[if_pos T]at a;simp only[g,j,o,s,u,w,x,f,t,y,z,B,k,zW,seval];refine aC ⟨(i+1,bv),by simp only; omega,rfl,by simp only; omega,a,?_,?_,?_⟩<;>simp only[g,o,aE,seval]
 rw[if_neg T]at a;by_cases c5:c.toNat<32
 .have z:ge ((32:Int)<=c.toNat)=false:=decide_eq_false li;have C:ge ((48:Int)<=c.toNat)=false:=decide_eq_false li;rw[if_neg li]at a;simp only[g,j,o,s,u,w,x,f,t,y,z,C,k,Tryz.results62,zW,seval];rw[<-a];exact Fin.pure rfl
 have z:ge ((32:Int)<=c.toNat)=true:=decide_eq_true li;have B:ge ((c.toNat:Int)<48)=false:=decide_eq_false li;have C:ge ((48:Int)<=c.toNat)=true:=decide_eq_true li;have G:ge ((c.toNat:Int)<64)=true:=decide_eq_true li
 cases m with
 |true =>rw[if_neg lw]at a;simp only[g,A,j,o,s,u,w,x,f,t,y,z,B,C,G,k,Tryz.results62,zW,seval];rw[<-a];exact Fin.pure rfl
 |false =>rw[if_pos ⟨by omega,by omega,rfl⟩]at a;simp only[g,A,j,o,s,u,w,x,f,t,y,z,B,C,G,zW,seval];rw[rK mt];simp only[j,k,zW,seval];refine aC ⟨(i+1,gc),by simp only; omega,rfl,by simp only; omega,a,?_,?_,?_⟩<;>simp only[g,A,o,aE,seval]
def Js(H:aa)(v:gt)(l:List UInt8)(h:bD H v l)(y:∀ n∈ae v,n<H.next)(N:2<=l.length)(z:l.length<900000) :
  Pure 64 [v] H (i7 i8 (dP 2 (l.drop 2):Int)):=by
 obtain⟨b,s⟩:=ac H.next;obtain⟨av,f⟩:=h.sl;obtain⟨L,Y⟩:=ac l.length;rw[Y]at f N z;obtain⟨R,O⟩:=ac (dP 2 (l.drop 2));rw[O];refine ba mixed Tryz.func64 rfl Tryz.ntmps64 (zA8 rfl) fun wf Z=>?_;simp only[zW,seval];refine c7 fun E G=>?_;have g:E 0=v:=by rw[G]; rfl
 have o:E 3=i7 i8 ((2:Nat):Int):=by rw[G]; rfl
 clear G
 refine b8 (fun (q:Nat) P X=>X=H/\q<=L/\dP q (l.drop q)=R/\P 0=v/\P 3=i7 i8 (q:Int)) (fun q=>L-q) 2
  ⟨rfl,N,O,g,o⟩ ?_
 clear g o E;rintro i E X ⟨Q,hi,a,g,o⟩;rw[Q,show H=ext H [] from rfl];clear Q X;by_cases he:i=L
 .have t:ge ((i:Int)<(L:Int))=false:=decide_eq_false li;rw[zE8 li]at a;simp only[g,o,f,t,Tryz.results64,zW,seval];rw[<-a];exact Fin.pure rfl
 have t:ge ((i:Int)<(L:Int))=true:=decide_eq_true li
 obtain⟨c,S⟩:∃ c,l[i]?=ap c:=⟨_,zB3 li⟩
 obtain⟨n1,o1,u,m1,j⟩:=h.get S;have w:=y n1 m1;rw[s]at w;rw[f]at u;rw[vU S]at a;have k:IntKind.i64.wrap ((i:Int)+1)=((i+1:Nat):Int):=bA li;have A:IntKind.i64.wrap ((i:Int)+2)=((i+2:Nat):Int):=by rw[show (i:Int)+2=((i+2:Nat):Int) by omega];exact ak li li
 by_cases T:c.toNat=7
 .have x:ge ((c.toNat:Int)=7)=true:=decide_eq_true li;rw[dP,if_pos T]at a;simp only[g,o,f,t,s,u,w,j,x,k,Tryz.results64,zW,seval];rw[<-a];exact Fin.pure rfl
 have x:ge ((c.toNat:Int)=7)=false:=decide_eq_false li;rw[dP,if_neg T]at a;by_cases U:c.toNat=27
 .have B:ge ((c.toNat:Int)=27)=true:=decide_eq_true li;by_cases I:i+1=L
  .have F:ge (((i+1:Nat):Int)<(L:Int))=false:=decide_eq_false li;rw[if_neg (by rw[zE8 li]; simp)]at a;simp only[g,o,f,t,s,u,w,j,x,B,F,k,zW,seval];refine aC ⟨i+1,by omega,rfl,by omega,a,?_,?_⟩<;>simp only[g,f,aE,seval]
  have F:ge (((i+1:Nat):Int)<(L:Int))=true:=decide_eq_true li
  obtain⟨V,C⟩:∃ c,l[i+1]?=ap c:=⟨_,zB3 li⟩
  obtain⟨n2,o2,J,m2,D⟩:=h.get C;have K:=y n2 m2;rw[s]at K;rw[f]at J;have hh:(l.drop (i+1)).head?=ap V:=by rw[vU C]; rfl
  rw[hh]at a;obtain⟨d,M⟩:=ac (ge ((V.toNat:Int)=92));have W:=oM (n:=92) rfl M
  cases d with
  |true =>rw[if_pos ⟨U,by rw[W.2 rfl]⟩]at a;simp only[g,o,f,t,s,u,w,j,J,K,D,x,B,F,M,k,A,Tryz.results64,zW,seval];rw[<-a];exact Fin.pure rfl
  |false =>rw[if_neg (fun h=>by have:=W.1 (Option.some.inj h.2); simp at this)]at a;simp only[g,o,f,t,s,u,w,j,J,K,D,x,B,F,M,k,zW,seval];refine aC ⟨i+1,by omega,rfl,by omega,a,?_,?_⟩<;>simp only[g,f,aE,seval]
 have B:ge ((c.toNat:Int)=27)=false:=decide_eq_false li;rw[if_neg (fun h=>U h.1)]at a;simp only[g,o,f,t,s,u,w,j,x,B,k,zW,seval];refine aC ⟨i+1,by omega,rfl,by omega,a,?_,?_⟩<;>simp only[g,f,aE,seval]
def cL.GG{H:aa}{p:Rq}{x:Tm}(g:cL H p x)(s:x.Sz){k i:Nat}{q:Nat × Bool}(f:k<x.h)(a:p.rs[k]?=ap q)(hi:i<x.w)(c:Ce):eZ H p (ext (uw H q.1 (i*6) c.cells) []) p (x.put k i c):=by obtain⟨l,b,e,j,_⟩:=s.rowAt f;unfold Tm.put;rw[e];exact g.putRow a b (Mod.uw lw) (lC (g.row k q l a b) li) lw
def L3(H:aa)(p:Rq)(x:Tm)(a:Int)(g:cL H p x)(s:x.Sz)(ok:H.base<=H.next)(hch:a≠-1):zt 70 [i7 i8 a] H p (.tuple #[]) (x.write cI a):=by
 obtain⟨b,hb⟩:=ac H.next;have hT:p.t<b:=hb▸g.lt p.t pi;have h1:=g.cell;simp only[bF]at h1;have s2:=s.w2
 obtain⟨r,hr⟩:∃ r:Nat,x.row=r:=⟨x.row.toNat,by have:=s.r1; omega⟩
 obtain⟨c,hc⟩:∃ c:Nat,x.col=c:=⟨x.col.toNat,by have:=s.c1; omega⟩
 have o:r<x.h:=by have:=s.r2; omega
 rw[oP cI x a r c hr hc];have hn2:cB a<=2:=By.le a;have R:=Go.Proofs.YtpohjcacnkhnkaaGreatDoor.xo (ext H []) a;rw[show cI.wd a=cB a from rfl];rw[show Go.Proofs.YtpohjcacnkhnkaaGreatDoor.cB a=cB a from rfl]at R;generalize hn:cB a=n at hn2 R
 obtain⟨d0,p9⟩:∃ d,ge ((n:Int)=0)=d:=⟨_,rfl⟩
 obtain⟨d1,S⟩:∃ d,ge ((x.w:Int)<x.col+n)=d:=⟨_,rfl⟩
 have e0:n=0 ↔ d0=true:=by rw[<-p9,decide_eq_true_iff]; omega
 have e1:x.col+(n:Int)>(x.w:Int) ↔ d1=true:=by rw[<-S,decide_eq_true_iff]
 have T:IntKind.i64.wrap (x.col+(n:Int))=x.col+(n:Int):=ak (by have:=s.c2; omega) (by have:=s.c2; omega);have key:(if n=0\/x.col+(n:Int)>(x.w:Int) then x else x.written r c n a)=cond (d0||d1) x (x.written r c n a):=by simp only[e0,e1];cases d0<;>cases d1<;>rfl
 rw[key];refine aH mixed Tryz.func70 rfl Tryz.ntmps70 (zA8 rfl) ?_;simp only[zW,seval];refine (show br _ _ _ (ext H []) _ (ext H []) from R).to ?_;simp only[zW,seval];refine aK [] [(2,10)] ls rfl ls fun ops anc I O=>?_;simp only[aj]at O
 cases d0 with
 |true =>simp only[p9,O,Bool.true_or,cond_true,Tryz.results70,bh,zW,seval];exact⟨p,eZ.refl g⟩
 |false =>
 simp only[hb,hT,h1,p9,O,T,bh,zW,seval];refine aN (v:=i7 i8 (x.w:Int)) p.au (by simp only[aE,seval]) ls mt g.ne (fun K hn hg=>?_) (by simp (maxDischargeDepth:=6) only[bh]) ?_
 .simp only[aE];exact jk K p x (g.of (by rw[hn]; exact zA5 _) hg) s
 cases d1 with
 |true =>simp only[hb,S,O,zF8,cond_true,Tryz.results70,bh,zW,seval];exact⟨p,eZ.refl g⟩
 |false =>
 have hcn:c+n<=x.w:=by
  have:¬(x.col+(n:Int)>(x.w:Int)):=fun h=>by have:=e1.1 h; simp at this
  omega
 have hn1:1<=n:=by
  have:¬n=0:=fun h=>by have:=e0.1 h; simp at this
  omega
 have hcw:c<x.w:=by omega
 obtain⟨l0,el0,el1,hlw0,hd0'⟩:=s.rowAt (k:=r) o;simp only[hb,S,O,zF6,cond_false,bh,zW,seval];refine c7 fun E hE=>?_;have C:E 0=i9 (ap ⟨p.t,0,bi⟩):=by rw[hE]; rfl
 have P:E 1=i7 i8 a:=by rw[hE]; rfl
 have B:E 4=i7 i8 (n:Int):=by rw[hE]; rfl
 have J:E 5=i7 i8 ((0:Nat):Int):=by rw[hE]; rfl
 clear hE;refine bn (fun Q X=>(∃ p2,eZ H p X p2 (x.blank r c (c+n:Nat)))/\Q 0=i9 (ap ⟨p.t,0,bi⟩)/\Q 1=i7 i8 a/\Q 4=i7 i8 (n:Int)) ?_ ?_
 .refine b8 (fun (q:Nat × Rq) Q X=>q.1<=n/\eZ H p X q.2 {x with grid:=x.grid.set r (fh l0 c q.1)}/\Q 0=i9 (ap ⟨p.t,0,bi⟩)/\Q 1=i7 i8 a/\Q 4=i7 i8 (n:Int)/\Q 5=i7 i8 (q.1:Int)) (fun q=>n-q.1) (0,p)
   ⟨zB7 _,by rw[fh,vp el0]; exact eZ.refl g,C,P,B,J⟩ ?_
  clear C P B J E;rintro⟨i,p2⟩ E X ⟨hi,st,C,P,B,J⟩;simp only at hi st J;have okX:=st.ok ok;rw[show X=ext X [] from rfl];by_cases he:i=n
  .have U:ge ((i:Int)<(n:Int))=false:=decide_eq_false li;simp only[B,J,U,zW,seval];rw[(tz hlw0 li hd0').1,he]at st;refine ah ⟨⟨p2,?_⟩,by simp only[C,aE,seval],by simp only[P,aE,seval],by simp only[B,aE,seval]⟩;rw[ky,el1];exact st
  .have U:ge ((i:Int)<(n:Int))=true:=decide_eq_true li;have f:IntKind.i64.wrap ((i:Int)+1)=((i+1:Nat):Int):=bA li;have z:IntKind.i64.wrap (x.col+(i:Int))=((c+i:Nat):Int):=(ak li li).trans li;have gX:=st.at_;obtain⟨y,hy⟩:=ac X.next;have hTx:p.t<y:=by have:=gX.lt p2.t pi; rw[st.same]at this; omega
   have A:=gX.cell;rw[st.same]at A;simp only[bF,hr]at A;simp only[B,J,U,zW,seval];refine aK [(14,5),(14,10)] [] ls ls rfl fun ops anc I O=>?_;simp only[aj]at I;simp only[C,J,hy,hTx,A,z,bh,zW,seval];refine fm (as':=[i7 i8 (r:Int),i7 i8 ((c+i:Nat):Int),sp.val]) gX okX rfl ls mt (by rw[st.same]; simp only[aE,seval]<;>rfl) (by simp only[aj,bu,I,true_or,and_true]) (fun G gG okG=>KS G p2 x r c i l0 s gG okG el0 li) fun Y p3 j=>?_;have L:=st.trans ok j;rw[show Y=ext Y [] from rfl];simp only[J,f,zW,seval];refine aC ⟨(i+1,p3),by simp only; omega,by simp only; omega,L,?_,?_,?_,?_⟩<;>simp only[C,P,B,aE,seval]
 clear C P B J E;rintro E V ⟨⟨p1,st⟩,C,P,B⟩;have M:=s.blank o (show c<=c+n by omega) hcn;have f:=ft s o (show c<=c+n by omega) hcn;have D:p.t<V.next:=st.same▸st.at_.lt p1.t pi;have hR1:p1.rb<V.next:=st.at_.lt p1.rb pi;have v1:=st.at_.cell;rw[st.same]at v1;simp only[bF,f.1]at v1;have v2:=st.at_.rows;rw[f.2]at v2;obtain⟨l,el,_⟩:=M.rowAt (k:=r) (by rw[f.1]; exact o);obtain⟨q,hq,hqm,hqb⟩:=st.at_.rowOf el;have hqr:(p1.rs.map (aM x.w))[r]?=ap (aM x.w q):=by rw[zE1,hq]; rfl
 have hQ:q.1<V.next:=st.at_.lt q.1 hqm;obtain⟨_,hqt,hqrb⟩:=st.at_.uN hq;have htb:=st.at_.RU;rw[st.same]at hqt htb;have hri:=eP (len:=x.h) (cap:=x.h) (n:=p1.rb) (s:=bi) (i:=x.row) (k:=r) hr o;have hci:=jP (len:=x.w) (cap:=x.w) (n:=q.1) (s:=if q.2=bv then bi else ap 0) (i:=x.col) (k:=c) hc hcw;obtain⟨vb,hvb⟩:=ac V.next;rw[hvb]at D hR1 hQ;have hrow1:(x.blank (↑r) (↑c) (↑(c+n))).row=x.row:=rfl;have hcol1:(x.blank (↑r) (↑c) (↑(c+n))).col=x.col:=rfl;have hpen1:(x.blank (↑r) (↑c) (↑(c+n))).pen=x.pen:=rfl;have hst:∀ N,sQ Tryz.prog 77 N (c*6) (.agg ⟨[i7 i8 a,i7 i8 x.pen.fore,i7 i8 x.pen.back,kw x.pen.bold,kw x.pen.under,kw x.pen.inv]⟩) (ap ⟨77,q.2,aQ l⟩)=ap ⟨77,q.2,aQ (l.set c ⟨a,x.pen⟩)⟩:=fun N=>oX (c:=⟨a,x.pen⟩) li;rw[show V=ext V [] from rfl];simp only[fX];refine aK [(24,3),(24,8),(24,10),(24,15),(24,21)] [] ls ls rfl fun ops anc I O=>?_;simp only[aj]at I;simp only[C,P,B,hvb,D,hR1,hQ,v1,v2,hrow1,hcol1,hpen1,hqr,hri,hci,hqb,hst,aM,I,bh,zW,seval];have u:=st.trans ok (st.at_.GG M (by rw[f.1]; exact o) hq (by rw[f.2]; exact hcw) ⟨a,x.pen⟩);have sz2:=M.put (k:=r) (i:=c) (c:=⟨a,x.pen⟩) (by rw[f.1]; exact o) (.inl hch);have z:=tc M (k:=r) (i:=c) (c:=⟨a,x.pen⟩) (by rw[f.1]; exact o)
 obtain⟨d2,hd2⟩:∃ d,ge ((n:Int)=2)=d:=⟨_,rfl⟩
 have e2:n=2 ↔ d2=true:=by rw[<-hd2,decide_eq_true_iff]; omega
 have hwr:x.written r c n a={cond d2 (((x.blank r c (c+n:Nat)).put r c ⟨a,x.pen⟩).put r (c+1) ⟨-1,x.pen⟩) ((x.blank r c (c+n:Nat)).put r c ⟨a,x.pen⟩) with col:=x.col+n}:=by unfold Tm.written;simp only[e2];cases d2<;>rfl
 rw[hwr];simp only[Ce.cells]at u;generalize hW:uw V q.1 (c*6) _=W at u ⊢;have hWn:W.next=vb:=by rw[<-hW,bE,hvb]
 rw[ext_nil]at u;have v3:=u.at_.cell;rw[st.same]at v3;simp only[bF,z.1,f.1]at v3;have F:((x.blank (↑r) (↑c) (↑(c+n))).put r c ⟨a,x.pen⟩).col=x.col:=rfl;have hrow2:((x.blank (↑r) (↑c) (↑(c+n))).put r c ⟨a,x.pen⟩).row=x.row:=rfl;have hpen2:((x.blank (↑r) (↑c) (↑(c+n))).put r c ⟨a,x.pen⟩).pen=x.pen:=rfl
 cases d2 with
 |false =>simp only[C,B,hWn,D,v3,F,T,hd2,cond_false,Tryz.results70,bh,zW,seval];refine⟨p1,?_⟩;have j:=u.trans ok (u.at_.one (off:=2) (vs:=[i7 i8 (x.col+n)]) (y:={(x.blank r c (c+n:Nat)).put r c ⟨a,x.pen⟩ with col:=x.col+n}) rfl rfl);rw[st.same]at j;exact j
 |true =>
  have hn2':=e2.2 rfl;have v2':=u.at_.rows;rw[z.2,f.2]at v2';obtain⟨l2,el2,_⟩:=sz2.rowAt (k:=r) (by rw[z.1,f.1]; exact o);have hqb2:=u.at_.row r q l2 hq el2;have hci2:=jP (len:=x.w) (cap:=x.w) (n:=q.1) (s:=if q.2=bv then bi else ap 0) (i:=x.col+1) (k:=c+1) li li;have hw4:IntKind.i64.wrap (x.col+1)=x.col+1:=ak li li;have hst2:∀ N,sQ Tryz.prog 77 N ((c+1)*6) (.agg ⟨[i7 i8 (-1),i7 i8 x.pen.fore,i7 i8 x.pen.back,kw x.pen.bold,kw x.pen.under,kw x.pen.inv]⟩) (ap ⟨77,q.2,aQ l2⟩)=ap ⟨77,q.2,aQ (l2.set (c+1) ⟨-1,x.pen⟩)⟩:=fun N=>oX (c:=⟨-1,x.pen⟩) li;simp only[hd2,cond_true,fX];refine aK [(24,3),(24,8),(24,10),(24,15),(24,21)] [] ls ls rfl fun ops anc I O=>?_;simp only[aj]at I;simp only[C,hWn,D,hR1,hQ,v3,v2',hrow2,F,hpen2,hqr,hri,hci2,hw4,hqb2,hst2,aM,I,bh,zW,seval];have j:=u.trans ok (u.at_.GG (i:=c+1) sz2 (by rw[z.1,f.1]; exact o) hq (by rw[z.2,f.2]; omega) ⟨-1,x.pen⟩);simp only[Ce.cells]at j;generalize hZ:uw W q.1 ((c+1)*6) _=Z at j ⊢;have hZn:Z.next=vb:=by rw[<-hZ,bE,hWn]
  rw[ext_nil]at j;have v4:=j.at_.cell;rw[st.same]at v4;simp only[bF]at v4;have hcol3:(((x.blank (↑r) (↑c) (↑(c+n))).put r c ⟨a,x.pen⟩).put r (c+1) ⟨-1,x.pen⟩).col=x.col:=rfl;simp only[B,hZn,D,v4,hcol3,T,Tryz.results70,bh,zW,seval];refine⟨p1,?_⟩;have L:=j.trans ok (j.at_.one (off:=2) (vs:=[i7 i8 (x.col+n)]) (y:={((x.blank r c (c+n:Nat)).put r c ⟨a,x.pen⟩).put r (c+1) ⟨-1,x.pen⟩ with col:=x.col+n}) rfl rfl);rw[st.same]at L;exact L
def atR(l:List UInt8):Int × Bool:=match nZ l with
 |some (p::_)=>(p,bv)
 |_=>(0,gc)
def Ql(H:aa)(s:ByteArray)(h:s.data.toList.length<=1000)(ok:H.base<=H.next):aL Tryz.prog 68 [.string s,i7 i8 0] H fun out H1=>Mod [] H H1/\out=.ok (.tuple ⟨[i7 i8 (atR s.data.toList).1,kw (atR s.data.toList).2]⟩):=by
 obtain⟨r,u⟩:=ac (nZ s.data.toList);refine aH mixed Tryz.func68 rfl Tryz.ntmps68 (zA8 rfl) ?_;simp only[zW,Nat.reduceLT,Nat.reduceAdd,Nat.reduceEqDiff];refine (zF (ext H []) s li ok).mono ?_;rintro out X ⟨b,a⟩;replace b:Mod [] H X:=b;unfold atR;rw[u]at a ⊢;obtain⟨z,hx⟩:=ac X.next;have f:ge ((0:Int)<0)=false:=by decide
 rw[show X=ext X [] from rfl]
 cases j:r with
 |none =>
  rw[j]at a;simp only[Pt]at a;subst a;have d:ge (((0:Nat):Int)<=0)=true:=by decide
  simp only[f,d,Tryz.results68,zW,Nat.reduceLT,Nat.reduceEqDiff];exact⟨b,trivial⟩
 |some l =>
  rw[j]at a;obtain⟨A,rfl,c,o⟩:=a
  cases l with
  |nil =>
   obtain⟨B,v⟩:=c.len;have d:ge (((0:Nat):Int)<=0)=true:=by decide
   rw[v];simp only[zB0,f,d,Tryz.results68,zW,Nat.reduceLT,Nat.reduceEqDiff];exact⟨b,trivial⟩
  |cons p l =>
   obtain⟨n,e,q,w,x⟩:=Ik (i:=0) c rfl;obtain⟨L,t⟩:=ac ((p::l).length);rw[t]at e;have g:0<L:=by rw[<-t]; simp
   have d:ge ((L:Int)<=0)=false:=decide_eq_false li;have y:=ta (len:=L) (cap:=L) (n:=n) (off:=0) (s:=bi) (i:=0) (k:=0) rfl g;rw[hx]at q;rw[e];simp only[f,d,hx,y,q,w,x,Tryz.results68,zW,Nat.reduceLT,Nat.reduceAdd,Nat.reduceEqDiff];exact⟨b,trivial⟩
def fE(a:UInt8):Nat->Nat->List UInt8->Option Nat
 |0,_,_=>bi
 |_+1,_,[]=>ap 0
 |n+1,i,c::r=>if c.toNat<128\/192<=c.toNat\/(i=1/\wL a c=gc) then ap 1 else fE a n (i+1) r
def Tm.eO(u:n5)(x:Tm)(l:List UInt8):Nat × Tm :=
 match fE (l.headD 0) (eM (l.headD 0)-1) 1 (l.drop 1) with
 |some n=>(n,x)
 |none=>if eM (l.headD 0)=0 then (1,x) else cond (atR (l.take (eM (l.headD 0)))).2 (eM (l.headD 0),x.character u (atR (l.take (eM (l.headD 0)))).1) (1,x)
def MX(c:UInt8):eM c<=4:=by
 unfold eM
 repeat' split
 all_goals omega
def tQ(a:UInt8):∀(n i:Nat)(l:List UInt8),fE a n i l=bi->n<=l.length
 |0,_,_,_=>zB7 _
 |n+1,_,[],h=>by cases h
 |n+1,i,c::r,h=>by
  unfold fE at h;split at h
  .cases h
  .have:=tQ a n _ r h;simp only[zA3];omega
def Jn(H:aa)(p:Rq)(x:Tm)(v:gt)(l:List UInt8)(g:cL H p x)(s:x.Sz)(ok:H.base<=H.next)(h:bD H v l)(O:∀ n∈ae v,n<H.next)(hl:l≠[])(hlen:l.length<900000) :
  zt 30 [v] H p (i7 i8 ((x.eO cI l).1:Int)) (x.eO cI l).2:=by
 obtain⟨b,F⟩:=ac H.next;obtain⟨av,q⟩:=h.sl;obtain⟨a,r,rfl⟩:∃ a r,l=a::r:=by cases l with|nil=>exact absurd rfl hl|cons a r=>exact⟨a,r,rfl⟩
 obtain⟨L,hL⟩:=ac ((a::r).length);rw[hL]at q hlen;have hL0:0<L:=by rw[<-hL]; simp
 obtain⟨k,hk⟩:=ac (eM a);have hk4:=MX a;obtain⟨n0,o0,i0,m0,ld0⟩:=h.get (k:=0) (c:=a) rfl;have t0:=O n0 m0;rw[F]at t0;rw[q,show ((0:Nat):Int)=0 from rfl]at i0;have hsz:=LH H a;rw[hk]at hsz hk4;obtain⟨R,j⟩:=ac (x.eO cI (a::r));rw[j];unfold Tm.eO at j;rw[show (a::r).headD 0=a from rfl,hk,List.drop_one,List.tail_cons]at j;refine aH mixed Tryz.func30 rfl Tryz.ntmps30 (zA8 rfl) ?_;simp only[q,F,i0,t0,ld0,zW,Nat.reduceLT,Nat.reduceAdd,Nat.reduceEqDiff];refine (show br Tryz.prog 66 [gD a] (ext H []) _ (ext H []) from hsz).to ?_;simp only[zW,Nat.reduceLT];refine c7 fun E hE=>?_;have B:E 0=i9 (ap ⟨p.t,0,bi⟩):=by rw[hE]; rfl
 have u:E 1=v:=by rw[hE]; simp only[q,aE,Nat.reduceEqDiff]
 have o:E 5=i7 i8 (k:Int):=by rw[hE]; rfl
 have z:E 6=i7 i8 ((1:Nat):Int):=by rw[hE]; rfl
 clear hE;refine bn (fun N X=>X=H/\fE a (k-1) 1 r=bi/\N 0=i9 (ap ⟨p.t,0,bi⟩)/\N 1=v/\N 5=i7 i8 (k:Int)) ?_ ?_
 .refine b8 (fun (i:Nat) N X=>X=H/\1<=i/\(i<=k\/(k=0/\i=1))/\i<=L/\fE a (k-i) i ((a::r).drop i)=fE a (k-1) 1 r/\N 0=i9 (ap ⟨p.t,0,bi⟩)/\N 1=v/\N 5=i7 i8 (k:Int)/\N 6=i7 i8 (i:Int)) (fun i=>k-i) 1
   ⟨rfl,zA5 _,by omega,by omega,rfl,B,u,o,z⟩ ?_
  clear B u o z E;rintro i E X ⟨hX,hi1,hik,hiL,f,B,u,o,z⟩;rw[hX,show H=ext H [] from rfl];clear hX X;by_cases hend:k<=i
  .have d:ge ((i:Int)<(k:Int))=false:=decide_eq_false li;have hki:k-i=0:=by omega
   rw[hki,fE]at f;simp only[o,z,d,zW,Nat.reduceLT,Nat.reduceEqDiff];refine ah ⟨rfl,f.symm,?_,?_,?_⟩<;>simp only[B,u,o,aE,Nat.reduceEqDiff]
  have d:ge ((i:Int)<(k:Int))=true:=decide_eq_true li
  obtain⟨m,hm⟩:∃ m,k-i=m+1:=⟨k-i-1,by omega⟩
  have hm2:k-(i+1)=m:=by omega
  by_cases hiL2:i=L
  .have P:ge ((i:Int)=(L:Int))=true:=decide_eq_true li;rw[hm,zE8 li,fE]at f;rw[<-f]at j;simp only at j;simp only[u,o,z,q,d,P,da,Tryz.results30,zW,Nat.reduceLT,Nat.reduceEqDiff];rw[<-j];exact⟨rfl,p,eZ.refl g⟩
  have P:ge ((i:Int)=(L:Int))=false:=decide_eq_false li
  obtain⟨c,hc⟩:∃ c,(a::r)[i]?=ap c:=⟨_,zB3 li⟩
  obtain⟨n1,o1,W,m1,G⟩:=h.get hc;have t1:=O n1 m1;rw[F]at t1;rw[q]at W;rw[hm,vU hc,fE]at f;have Q:IntKind.i64.wrap ((i:Int)+1)=((i+1:Nat):Int):=bA li;have nx:fE a m (i+1) ((a::r).drop (i+1))=fE a (k-1) 1 r->fE a (k-(i+1)) (i+1) ((a::r).drop (i+1))=fE a (k-1) 1 r:=fun e=>by rw[hm2]; exact e
  have S:(c.toNat<128\/192<=c.toNat\/(i=1/\wL a c=gc))->R=(1,x):=fun e=>by rw[if_pos e]at f;rw[<-f]at j;exact j.symm
  simp only[u,o,z,q,d,P,zW,Nat.reduceLT,Nat.reduceEqDiff];refine aK [] [(5,27),(12,34),(15,37)] ls rfl ls fun ops anc hA T=>?_;simp only[aj]at T;by_cases c1:c.toNat<128
  .have a1:ge ((c.toNat:Int)<128)=true:=decide_eq_true li;rw[S (.inl c1)];simp only[u,z,q,F,W,t1,G,a1,T,da,Tryz.results30,bh,zW,Nat.reduceLT,Nat.reduceAdd,Nat.reduceEqDiff];exact⟨rfl,p,eZ.refl g⟩
  have a1:ge ((c.toNat:Int)<128)=false:=decide_eq_false li;by_cases c2:192<=c.toNat
  .have a2:ge ((192:Int)<=c.toNat)=true:=decide_eq_true li;rw[S (.inr (.inl c2))];simp only[u,z,q,F,W,t1,G,a1,a2,T,da,Tryz.results30,bh,zW,Nat.reduceLT,Nat.reduceAdd,Nat.reduceEqDiff];exact⟨rfl,p,eZ.refl g⟩
  have a2:ge ((192:Int)<=c.toNat)=false:=decide_eq_false li;by_cases c3:i=1
  .have a3:ge ((i:Int)=1)=true:=decide_eq_true li;subst c3;rw[show ((1:Nat):Int)=1 from rfl]at W a3 z Q;simp only[u,z,q,F,i0,t0,ld0,W,t1,G,a1,a2,decide_true,T,bh,zW,Nat.reduceLT,Nat.reduceAdd,Nat.reduceEqDiff];refine aN (v:=kw (wL a c)) [] t4 ls mt lw (fun K hn hg=>?_) (by simp (maxDischargeDepth:=6) only[bh]) ?_
   .simp only[aE,Nat.reduceEqDiff];exact GA K a c
   obtain⟨e2,I⟩:∃ e,wL a c=e:=⟨_,rfl⟩
   cases e2 with
   |false =>rw[S (.inr (.inr ⟨rfl,I⟩))];simp only[F,I,T,da,Tryz.results30,bh,zW,Nat.reduceLT,Nat.reduceAdd,Nat.reduceEqDiff];exact⟨rfl,p,eZ.refl g⟩
   |true =>rw[if_neg (by rw[I]; simp; omega)]at f;simp only[z,F,I,T,Q,bh,zW,Nat.reduceLT,Nat.reduceAdd,Nat.reduceEqDiff];refine aC ⟨1+1,by omega,rfl,by omega,by omega,by omega,nx f,?_,?_,?_,?_⟩<;>simp only[B,u,q,o,aE,Nat.reduceAdd,Nat.reduceEqDiff]
  have a3:ge ((i:Int)=1)=false:=decide_eq_false li;rw[if_neg li]at f;simp only[u,z,q,F,W,t1,G,a1,a2,a3,T,Q,bh,zW,Nat.reduceLT,Nat.reduceAdd,Nat.reduceEqDiff];refine aC ⟨i+1,by omega,rfl,by omega,by omega,by omega,nx f,?_,?_,?_,?_⟩<;>simp only[B,u,q,o,aE,Nat.reduceEqDiff]
 clear B u o z E;rintro E X ⟨hX,f,B,u,o⟩;rw[hX,show H=ext H [] from rfl];clear hX X;rw[f]at j;simp only at j;have hkr:=tQ _ _ _ _ f;by_cases hk0:k=0
 .have d:ge ((k:Int)=0)=true:=decide_eq_true li;rw[if_pos hk0]at j;simp only[o,d,Tryz.results30,zW,Nat.reduceLT];rw[<-j];exact⟨rfl,p,eZ.refl g⟩
 have d:ge ((k:Int)=0)=false:=decide_eq_false li;rw[if_neg hk0]at j;have hkL:k<=(a::r).length:=by simp only[zA3]; omega
 obtain⟨w,J,hw,hid⟩:=h.part O (x:=bi) (y:=ap (i7 i8 (k:Int))) (lo:=0) (hi:=k) rfl cz (zB7 _) hkL lw;rw[zD2]at hw;replace J:=J (ext H []) (fun _ _=>by rw[ext_nil])
 obtain⟨s',hs'⟩:∃ s':ByteArray,s'=⟨((a::r).take k).toArray⟩:=⟨_,rfl⟩
 have hst:=hw.str;rw[<-hs']at hst;have hsd:s'.data.toList=(a::r).take k:=by rw[hs']
 have U:=Ql H s' (by rw[hsd,zF1]; omega) ok;rw[hsd]at U;obtain⟨A,hA⟩:=ac (atR ((a::r).take k));rw[hA]at U j;rw[q]at J;simp only[u,o,q,d,J,aY,hst,zW,Nat.reduceLT,Nat.reduceEqDiff];refine aL.mono (show aL Tryz.prog 68 _ (ext H []) _ from U) ?_;rintro _ Y ⟨mY,rfl⟩;have V:=mY.ok ok;have C:eZ H p Y p x:=eZ.quiet g mY;have gY:=C.at_;rw[show Y=ext Y [] from rfl];obtain⟨M,ok'⟩:=A
 cases ok' with
 |false =>rw[cond_false]at j;simp only[Tryz.results30,zW,Nat.reduceLT,Nat.reduceEqDiff];rw[<-j];exact⟨rfl,p,C⟩
 |true =>
 rw[cond_true]at j;simp only at j;unfold Tm.character at j;by_cases CY:M<32
 .have d1:ge (M<32)=true:=decide_eq_true CY;rw[if_pos (.inl CY)]at j;simp only[B,d1,zW,Nat.reduceLT,Nat.reduceEqDiff];refine aL.mono (show aL Tryz.prog 69 _ (ext Y []) _ from uM Y p x M gY s V) ?_;rintro _ Z ⟨rfl,p1,st⟩;rw[show Z=ext Z [] from rfl];simp only[o,Tryz.results30,zW,Nat.reduceLT,Nat.reduceEqDiff];rw[<-j];exact⟨rfl,p1,C.trans ok st⟩
 have d1:ge (M<32)=false:=decide_eq_false CY;by_cases D:M=127
 .have P:ge (M=127)=true:=decide_eq_true D;rw[if_pos (.inr D)]at j;simp only[B,d1,P,zW,Nat.reduceLT,Nat.reduceEqDiff];refine aL.mono (show aL Tryz.prog 69 _ (ext Y []) _ from uM Y p x M gY s V) ?_;rintro _ Z ⟨rfl,p1,st⟩;rw[show Z=ext Z [] from rfl];simp only[o,Tryz.results30,zW,Nat.reduceLT,Nat.reduceEqDiff];rw[<-j];exact⟨rfl,p1,C.trans ok st⟩
 have P:ge (M=127)=false:=decide_eq_false D;rw[if_neg li]at j;simp only[B,d1,P,zW,Nat.reduceLT,Nat.reduceEqDiff];refine aL.mono (show aL Tryz.prog 70 _ (ext Y []) _ from L3 Y p x M gY s V li) ?_;rintro _ Z ⟨rfl,p1,st⟩;rw[show Z=ext Z [] from rfl];simp only[o,Tryz.results30,zW,Nat.reduceLT,Nat.reduceEqDiff];rw[<-j];exact⟨rfl,p1,C.trans ok st⟩
def qO:∀(l:List UInt8)(i:Nat)(m:Bool)(n:Nat),du i m l=(n,bv)->i<n/\n<=i+l.length
 |[],i,m,n,h=>by simp[du]at h
 |c::r,i,m,n,h=>by
  rw[du]at h;simp only[zA3]
  repeat' split at h
  .obtain⟨rfl,_⟩:=Prod.mk.inj h; omega
  .cases (Prod.mk.inj h).2
  .have:=qO r _ _ _ h; omega
  .have:=qO r _ _ _ h; omega
  .cases (Prod.mk.inj h).2
def Tm.iE(x:Tm)(l:List UInt8):Nat × Tm :=
 if l.length<2 then (0,x)
 else if l.getD 1 0=91 then
  ((du 2 gc (l.drop 2)).1,cond (du 2 gc (l.drop 2)).2 (if ((l.take ((du 2 gc (l.drop 2)).1-1)).drop 2).length<=64 then x.seq ((l.take ((du 2 gc (l.drop 2)).1-1)).drop 2) (l.getD ((du 2 gc (l.drop 2)).1-1) 0) else x) x)
 else if l.getD 1 0=93 then (dP 2 (l.drop 2),x)
 else if l.getD 1 0=27 then (1,x)
 else if 32<=(l.getD 1 0).toNat/\(l.getD 1 0).toNat<48 then (if l.length<3 then 0 else 3,x)
 else (2,x.Fk (l.getD 1 0))
def DZ(H:aa)(p:Rq)(x:Tm)(v:gt)(l:List UInt8)(g:cL H p x)(s:x.Sz)(ok:H.base<=H.next)(X:p.rv=jp bi 0 0)(h:bD H v l)(o:∀ n∈ae v,n<H.next)(K:l.length<900000) :
  zt 29 [v] H p (i7 i8 ((x.iE l).1:Int)) (x.iE l).2:=by
 obtain⟨b,z⟩:=ac H.next;obtain⟨av,j⟩:=h.sl;obtain⟨L,Y⟩:=ac l.length;obtain⟨R,a⟩:=ac (x.iE l);rw[a];unfold Tm.iE at a;rw[Y]at j K a;refine aH mixed Tryz.func29 rfl Tryz.ntmps29 (zA8 rfl) ?_;by_cases h2:L<2
 .have d:ge ((L:Int)<2)=true:=decide_eq_true li;rw[if_pos h2]at a;simp only[j,d,Tryz.results29,zW,seval];rw[<-a];exact⟨rfl,p,eZ.refl g⟩
 have d:ge ((L:Int)<2)=false:=decide_eq_false li;rw[if_neg h2]at a
 obtain⟨c,hc⟩:∃ c,l[1]?=ap c:=⟨_,zB3 li⟩
 have hgd:l.getD 1 0=c:=by rw[zE3,hc]; rfl
 rw[hgd]at a;obtain⟨n1,o1,D,m1,w⟩:=h.get hc;have E:=o n1 m1;rw[z]at E;rw[j,show ((1:Nat):Int)=1 from rfl]at D;by_cases A:c=91
 .have t:(c.toNat:Int)=91:=by subst A; rfl
  rw[if_pos A]at a;have i:=KH H v l h o li li;obtain⟨q,hq⟩:=ac (du 2 gc (l.drop 2));rw[hq]at i a;rw[j]at i;obtain⟨n,whole⟩:=q;simp only at a i;simp only[j,z,d,D,E,w,t,decide_true,zW,seval];refine (show br Tryz.prog 62 _ (ext H []) _ (ext H []) from i).to ?_
  cases whole with
  |false =>rw[cond_false]at a;simp only[Tryz.results29,zW,seval];rw[<-a];exact⟨rfl,p,eZ.refl g⟩
  |true =>
  rw[cond_true]at a;obtain⟨e1,U⟩:=qO _ _ _ _ hq;rw[zC1,Y]at U
  obtain⟨k,rfl⟩:∃ k,n=k+1:=⟨n-1,by omega⟩
  rw[Nat.add_sub_cancel]at a;have M:IntKind.i64.wrap (((k+1:Nat):Int)-1)=(k:Int):=by rw[show ((k+1:Nat):Int)-1=(k:Int) by omega];exact ak li li
  obtain⟨f,hf⟩:∃ f,l[k]?=ap f:=⟨_,zB3 li⟩
  have hgf:l.getD k 0=f:=by rw[zE3,hf]; rfl
  rw[hgf]at a;obtain⟨n2,o2,i2,m2,ld2⟩:=h.get hf;have t2:=o n2 m2;rw[z]at t2;have N:=h.ne;obtain⟨u,O,hu,hid⟩:=h.part o (x:=ap (i7 i8 ((2:Nat):Int))) (y:=ap (i7 i8 (k:Int))) (lo:=2) (hi:=k) cz cz li li li;rw[j]at i2 O;obtain⟨S,hS⟩:=ac ((l.take k).drop 2);rw[hS]at hu a;have hSl:S.length<=L:=by rw[<-hS,zC1,zF1,Y]; omega
  simp only[zW,seval];refine aK [(10,4),(10,9)] [] ls ls rfl fun ops anc hA V=>?_;simp only[aj]at hA;simp only[M,bh,aE,seval];rw[wV];refine Kz (v:=u) (ae v) (by simp only[aE,seval]) (by simp (maxDischargeDepth:=6) only[aE,iB]) (by simp (maxDischargeDepth:=6) only[aE,seval,iB]) rfl mt N (fun G V=>?_) (by simp (maxDischargeDepth:=6) only[bh]) ?_
  .simp only[mn,lS,aE,seval];exact O G (by rw[<-j]; exact V)
  simp only[j,z,M,i2,t2,ld2,bh,zW,seval];refine Gz (as':=[u,gD f]) (y:=if S.length<=64 then x.seq S f else x) (ae v) (fun n W=>⟨N n W,by rw[ext_nil]; exact o n W⟩) (by rw[ext_nil]; exact g) ok rfl ls mt (by simp only[aE,seval]<;>rfl) (by simp only[aj,bu,hA,true_or,and_true]) (fun G gG okG hGn V=>BT G p x u S f gG s okG (hu.of (by rw[hGn]; exact zA5 _) fun n W=>by rw[V n (hid▸W),ext_nil]) li) fun Z p1 st=>?_;rw[ext_nil]at st;rw[show Z=ext Z [] from rfl];simp only[Tryz.results29,zW,seval];rw[<-a];exact⟨rfl,p1,st⟩
 have F:ge ((c.toNat:Int)=91)=false:=decide_eq_false fun e=>A (UInt8.toNat_inj.1 pp);rw[if_neg A]at a;by_cases B:c=93
 .have t:(c.toNat:Int)=93:=by subst B; rfl
  rw[if_pos B]at a;have P:=Js H v l h o li li;rw[j]at P;simp only[j,z,d,D,E,w,t,seval,decide_true,decide_false,zW];refine (show br Tryz.prog 64 _ (ext H []) _ (ext H []) from P).to ?_;simp only[Tryz.results29,zW,seval];rw[<-a];exact⟨rfl,p,eZ.refl g⟩
 have I:ge ((c.toNat:Int)=93)=false:=decide_eq_false fun e=>B (UInt8.toNat_inj.1 pp);rw[if_neg B]at a;by_cases C:c=27
 .have t:(c.toNat:Int)=27:=by subst C; rfl
  rw[if_pos C]at a;simp only[j,z,d,D,E,w,t,seval,decide_true,decide_false,Tryz.results29,zW];rw[<-a];exact⟨rfl,p,eZ.refl g⟩
 have J:ge ((c.toNat:Int)=27)=false:=decide_eq_false fun e=>C (UInt8.toNat_inj.1 pp);rw[if_neg C]at a;by_cases cm:32<=c.toNat/\c.toNat<48
 .have Q:ge ((32:Int)<=c.toNat)=true:=decide_eq_true li;have T:ge ((c.toNat:Int)<48)=true:=decide_eq_true li;rw[if_pos cm]at a;by_cases h3:L<3
  .have d3:ge ((L:Int)<3)=true:=decide_eq_true li;rw[if_pos h3]at a;simp only[j,z,d,D,E,w,F,I,J,Q,T,d3,Tryz.results29,zW,seval];rw[<-a];exact⟨rfl,p,eZ.refl g⟩
  .have d3:ge ((L:Int)<3)=false:=decide_eq_false li;rw[if_neg h3]at a;simp only[j,z,d,D,E,w,F,I,J,Q,T,d3,Tryz.results29,zW,seval];rw[<-a];exact⟨rfl,p,eZ.refl g⟩
 rw[if_neg cm]at a;have hes:=FT H p x c g s ok X
 obtain⟨e1,Q⟩:∃ e,ge ((32:Int)<=c.toNat)=e:=⟨_,rfl⟩
 obtain⟨U,T⟩:∃ e,ge ((c.toNat:Int)<48)=e:=⟨_,rfl⟩
 have hno:¬(e1=bv/\U=bv):=fun h=>cm ⟨by have:=of_decide_eq_true (Q.trans h.1); omega,by have:=of_decide_eq_true (T.trans h.2); omega⟩
 cases e1<;>cases U<;>first
  |exact absurd ⟨rfl,rfl⟩ hno
  | (simp only [j, z, d, D, E, w, F, I, J, Q, T, zW, seval]
     refine aL.mono (show aL Tryz.prog 65 _ (ext H []) _ from hes) ?_;rintro _ Z ⟨rfl,p1,st⟩;rw[show Z=ext Z [] from rfl];simp only[Tryz.results29,zW,seval];rw[<-a]
     exact⟨rfl,p1,st⟩)
def J8(x:Tm)(l:List UInt8)(c:UInt8):x.feed cI (l++[c])=(x.feed cI l).step cI c:=by simp[Tm.feed]
def QN(H:aa)(p:Rp)(x:Tm)(v:gt)(z:List UInt8)(g:b7 H p x)(s:x.Sz)(ok:H.base<=H.next)(O:ss H)(p0:0∉p.au)(p1:1∉p.au)(hb:pW H v z)(D:∀ n∈ae v,n<H.next)(hv:∀ n∈ae v,n∉p.au)(hrl:∀ k,(x.feed cI (z.take k)).rest.length<=900)(hbl:z.length<=3000000)(hpl:x.params.length<=65) :
  aL Tryz.prog 21 [i9 (ap ⟨p.t,0,bi⟩),v] H fun out H1=>out=.ok (i7 i8 0)/\(∃ U,Step H p H1 U (x.feed cI z)):=by
 obtain⟨b,V⟩:=ac (H.next);have hbb:H.base<=b:=V▸ok;have hT:p.t<b:=V▸g.lt p.t nl;obtain⟨av,F⟩:=hb.1;obtain⟨L,hL⟩:=ac (z.length);rw[hL]at F hbl;refine aH mixed Tryz.func21 rfl Tryz.ntmps21 (zA8 rfl) ?_;rw[F];simp (maxDischargeDepth:=6) only[zW,seval];refine (Fw (ext H []) p x g s).to ?_;simp (maxDischargeDepth:=6) only[V,hbb,hT,zW,seval];generalize G:ext H [_]=H0;have B:Mod [] H H0:=G▸Mod.ext ok;have C:=B.ok ok;have g0':b7 H0 p x:=g.of B.next fun n A=>B.get n (g.lt n A) lw;have tb0:ss H0:=by have b0:=B.bk O.l0 lw;have b1:=B.bk O.l1 lw;exact⟨fun a ha=>by rw[b0]; exact O.f a ha,fun i hi=>by rw[b1]; exact O.a i hi,B.lt O.l0,B.lt O.l1⟩
 have hH0n:H0.next=b+1:=by rw[<-G,aA,V]; rfl
 have W:∀ m:Nat,m<5->∀ q,rl Tryz.prog 85 m (CW (bk H0 (b+0)) q)=ap (.func (.func (41+m)) ⟨[i9 (ap ⟨p.t,0,bi⟩)]⟩ ⟨[]⟩):=by
  intro m hm q;rw[<-G,bJ V lw,zF3,gN];have:m=0\/m=1\/m=2\/m=3\/m=4:=by omega
  rcases this with rfl|rfl|rfl|rfl|rfl<;>exact lL ls
 have hb0:pW H0 v z:=hb.of fun n A=>B.get n (D n A) lw;have Y:∀ n∈ae v,n<H0.next:=fun n A=>B.lt (D n A);have hp0n:b+0∉p.au:=fun h=>by have:=g.lt _ h; omega
 refine c7 fun E Q=>?_;have R:E 0=i9 (ap ⟨p.t,0,bi⟩):=by rw[Q]; simp only[aE,seval]
 have S:E 5=i9 (ap ⟨b+0,0,bi⟩):=by rw[Q]; simp only[aE,seval]
 have w:E 22=.slice av L L:=by rw[Q]; simp only[aE,seval]
 have o:E 23=i7 i8 (L:Int):=by rw[Q]; simp only[aE,seval]
 have j:E 24=i7 i8 ((0:Nat):Int):=by rw[Q]; (simp only[aE]<;>rfl)
 clear Q
 have I:∀ m:Nat,m<5->aB Tryz.prog (41+m)=true:=by
  intro m hm;have:m=0\/m=1\/m=2\/m=3\/m=4:=by omega
  have hall:([41,42,43,44,45].all (aB Tryz.prog))=true:=by kernel_rfl
  have hget:=zD3.1 hall;rcases this with rfl|rfl|rfl|rfl|rfl<;>exact hget _ lw
 refine bn (fun T H'=>∃ U,Step H0 p H' U (x.feed cI z)) ?_ ?_
 .refine b8 (fun (q:Nat × Tm × Rp) T H'=>Step H0 p H' q.2.2 q.2.1/\q.2.1.Sz/\q.1<=L/\q.2.1=x.feed cI (z.take q.1)/\q.2.1.params.length<=65/\T 0=i9 (ap ⟨p.t,0,bi⟩)/\T 5=i9 (ap ⟨b+0,0,bi⟩)/\T 22=.slice av L L/\T 23=i7 i8 (L:Int)/\T 24=i7 i8 (q.1:Int)) (fun q=>L-q.1) (0,x,p)
   ⟨Step.refl g0',s,zB7 _,by simp[Tm.feed],hpl,R,S,w,o,j⟩ ?_
  clear R S w o j E;rintro⟨i,y,p2⟩ E X ⟨st,sy,hi,hy,J,R,S,w,o,j⟩;simp only at st sy hi hy J j;have hry:y.rest.length<=900:=hy▸hrl i;rw[show X=ext X [] from rfl];have okX:=st.ok C;by_cases hie:i=L
  .have hd:ge ((i:Int)<(L:Int))=false:=decide_eq_false li;simp (maxDischargeDepth:=6) only[o,j,hd,zW,seval];rw[hie,<-hL,List.take_length]at hy;rw[hy]at st;exact ah ⟨p2,st⟩
  .have hd:ge ((i:Int)<(L:Int))=true:=decide_eq_true li
   obtain⟨c,hc⟩:∃ c,z[i]?=ap c:=⟨_,zB3 li⟩
   obtain⟨n1,o1,i1,m1,ld1⟩:=hb0.2 i c hc;rw[F]at i1;obtain⟨xb,K⟩:=ac (X.next);have t1:n1<xb:=K▸st.mod.lt (Y n1 m1);have ld1':∀ q,rl Tryz.prog 5 o1 (CW (bk X n1) q)=ap (gD c):=fun q=>by rw[st.mod.bk (Y n1 m1) (hv n1 m1)]; exact ld1 q
   have hTx:p.t<xb:=K▸st.same▸st.at_.lt p2.t nl;have u:=st.at_.cell;rw[st.same]at u;simp only[aW]at u;have hmd:=sy.md;have hfx:∀ q,rl Tryz.prog 85 y.mode (CW (bk X (b+0)) q)=ap (.func (.func (41+y.mode)) ⟨[i9 (ap ⟨p.t,0,bi⟩)]⟩ ⟨[]⟩):=by intro q; rw[st.mod.bk li hp0n]; exact W y.mode hmd q
   have hb0x:b+0<xb:=by have:=st.mod.next; omega
   have hia:aS Tryz.prog 86 (i9 (ap ⟨b+0,0,bi⟩)) (i7 i8 (y.mode:Int))=ap (i9 (ap ⟨b+0,y.mode,bi⟩)):=by have:=FG (P:=Tryz.prog) (t:=86) (e:=85) (sz:=1) (len:=5) (n:=b+0) (off:=0) (k:=i8) (i:=(y.mode:Int)) ls ls li li;simpa using this
   obtain⟨tX,q0,q1⟩:=tb0.step st p0 p1;have M:=QE X p2 y c st.at_ sy okX tX q0 q1 li J;unfold gp at M;rw[st.same]at M;obtain⟨z1,z2,z3,z4⟩:=wz sy J c;have hws:IntKind.i64.wrap ((i:Int)+1)=((i+1:Nat):Int):=by rw[IntKind.wrap_i64]; omega
   simp (maxDischargeDepth:=6) only[R,S,w,o,j,hd,K,i1,t1,ld1',hTx,u,hb0x,hia,hfx,zW,seval];refine OS (f:=41+y.mode) (fs:=[i9 (ap ⟨p.t,0,bi⟩)]) (ca:=[]) (by simp only[aE,seval]) (by simp only[aE,seval]) (by simp only[aE,seval]) (I y.mode hmd) ?_;simp only[aE];refine aL.mono (show aL Tryz.prog (41+y.mode) [i9 (ap ⟨p.t,0,bi⟩),gD c] (ext X []) _ from M) ?_;rintro _ Z ⟨rfl,p3,st2⟩;have l:=st.trans C st2;have okZ:=l.ok C;obtain⟨zb,hzb⟩:=ac (Z.next);have hTz:p.t<zb:=hzb▸l.same▸l.at_.lt p3.t nl;have N:=l.at_.cell;rw[l.same]at N;simp only[aW]at N;have st4:=l.trans C (l.at_.one (off:=18) (vs:=[i7 i8 (((y.byte c).2:Nat):Int)]) (y:=(y.byte c).1.fY (y.byte c).2) rfl rfl rfl rfl);rw[l.same]at st4;rw[show Z=ext Z [] from rfl];simp (maxDischargeDepth:=6) only[j,hzb,hTz,N,hws,zW,seval];refine aC ⟨(i+1,(y.byte c).1.fY (y.byte c).2,p3),by simp only; omega,st4,z1.fY z2,by simp only; omega,?_,z3,?_,?_,?_,?_,?_⟩<;>try simp only[R,S,w,o,aE,seval]
   .have htk:z.take (i+1)=z.take i++[c]:=by
     rw[List.take_add_one,hc]; rfl
    rw[htk,J8,<-hy,step_eq]
 .clear R S w o j E;rintro E X ⟨U,st⟩;rw[show X=ext X [] from rfl];simp (maxDischargeDepth:=6) only[Tryz.results21,zW,seval];exact⟨trivial,U,(Step.quiet g B).trans ok st⟩
def Jf(H:aa)(w:Nat)(E:1<=w)(t:w<=300)(q:Nat × Bool)(l:List Ce)(i:l.length=w)(j:bk H q.1=ap ⟨77,q.2,aQ l⟩):br Tryz.prog 33 [aM w q] H (.ok (jp (ap ⟨H.next,0,bi⟩) w w)) (ext H [⟨77,bv,aQ l⟩]):=by
 refine tj (fun wf u=>?_) (fun _ _=>j5 _ _);obtain⟨b,c⟩:=ac H.next;have F:q.1<b:=c▸wf.lt j;have v:Tryz.prog.underlying 56=ap (.slice 77):=by kernel_rfl
 have x:bytesOf Tryz.prog 77=ap 32:=by kernel_rfl
 have y:zeroOf Tryz.prog 77=ap (Ce.zero.val):=by kernel_rfl
 have A:fM Tryz.prog 56=ap false:=by kernel_rfl
 have f:small (0+w) 32=true:=by simp only[small,zA7,zE2]; omega
 have B:bk (ext H [⟨77,gc,[]⟩]) (b+0)=ap ⟨77,gc,[]⟩:=by rw[bJ c lw]; rfl
 have g:bk (ext H [⟨77,gc,[]⟩]) q.1=ap ⟨77,q.2,aQ l⟩:=(iI li).trans j;have a:=kn (P:=Tryz.prog) (H:=ext H [⟨77,gc,[]⟩]) (st:=56) (xt:=56) (e:=77) (sz:=6) (by1:=32) (z:=Ce.zero.val) (m:=b+0) (k:=0) (n:=q.1) (off:=0) (cnt:=w) (cap:=w) (s:=if q.2=bv then bi else ap 0) v QL x y rfl A B lw rfl g (by rw[bP,i]; omega) (sE l) li f;have C:([]:List gt).take (0*6)++((aQ l).drop 0).take (w*6)=aQ l:=by have D:(aQ l).take (w*6)=aQ l:=zC3 (by rw[bP,i]; omega);rw[zD2,D]; simp
 have h:=et (H:=H) (L:=[⟨77,gc,[]⟩]) (e:=77) (l:=aQ l) (o:=true) (j5 _ _);simp only[C]at a;rw[h,zB1,aA,c,zC6]at a;refine aH mixed Tryz.func33 rfl Tryz.ntmps33 (zA8 rfl) ?_;simp only[c,aM,a,Tryz.results33,zW,seval];exact⟨_,rfl,by omega,by rw[bJ c lw]; rfl,Mod.ext wf.base⟩
def QR(H:aa)(x n:Int)(i:1<=n)(j:n<=1000000):∃ r:Int,0<=r/\r<n/\Pure 28 [i7 i8 x,i7 i8 n] H (i7 i8 r):=by
 have g:ge (n<=0)=false:=decide_eq_false li;have c:n≠0:=by omega
 have k:=Int.lt_tmod_of_pos x (show 0<n by omega);have l:=Int.tmod_lt_of_pos x (show 0<n by omega);by_cases a:x.tmod n<0
 .have b:ge (x.tmod n<0)=true:=decide_eq_true a;have h:IntKind.i64.wrap (x.tmod n+n)=x.tmod n+n:=ak li li;refine⟨x.tmod n+n,by omega,by omega,?_⟩;refine ba mixed Tryz.func28 rfl Tryz.ntmps28 (zA8 rfl) fun wf f=>?_;simp only[g,c,b,h,Tryz.results28,zW,seval];exact Fin.cq rfl rfl
 .have b:ge (x.tmod n<0)=false:=decide_eq_false a;refine⟨x.tmod n,by omega,by omega,?_⟩;refine ba mixed Tryz.func28 rfl Tryz.ntmps28 (zA8 rfl) fun wf f=>?_;simp only[g,c,b,Tryz.results28,zW,seval];exact Fin.cq rfl rfl
structure CZ (N:Nat) (H:aa) (v:gt) (w:Nat) (rs:List (Nat × Bool)) (g:List (List Ce)):Prop where
 at_:gF H v w rs
 row:∀(i:Nat)(q:Nat × Bool)(l:List Ce),rs[i]?=ap q->g[i]?=ap l->bk H q.1=ap ⟨77,q.2,aQ l⟩
 rng:∀ q∈rs,N<=q.1/\q.1<H.next
 nd:(rs.map (·.1)).Nodup
 blk:∀ n∈ae v,N<=n/\n<H.next/\n∉rs.map (·.1)
def CZ.of{N:Nat}{H G:aa}{v:gt}{w:Nat}{rs:List (Nat × Bool)}{g:List (List Ce)}(o:CZ N H v w rs g)(b:rs.length<=g.length)(c:H.next<=G.next)(f:∀ n,N<=n->n<H.next->G.get n=H.get n):CZ N G v w rs g where
 at_:=o.at_.of fun n a=>f n (o.blk n a).1 (o.blk n a).2.1
 row:=fun i q l h k=>by have:=o.rng q (zC0 h);rw[aO (f q.1 this.1 this.2)];exact o.row i q l h k
 rng:=fun q j=>⟨(o.rng q j).1,zD1 (o.rng q j).2 c⟩
 nd:=o.nd
 blk:=fun n a=>⟨(o.blk n a).1,zD1 (o.blk n a).2.1 c,(o.blk n a).2.2⟩
def Tm.jq(x:Tm):Int:=cond x.shown x.row (-1)
def Tm.jf(x:Tm):Int:=cond x.shown x.inside 0
def MR(H:aa)(p:Rp)(x:Tm)(g:b7 H p x)(s:x.Sz)(ok:H.base<=H.next) :
  aL Tryz.prog 15 [i9 (ap ⟨p.t,0,bi⟩)] H fun out H1=>∃ rs n,out=.ok (.agg ⟨[jp (ap ⟨n,0,bi⟩) x.h x.h,i7 i8 x.jq,i7 i8 x.jf]⟩)/\rs.length=x.h/\CZ H.next H1 (jp (ap ⟨n,0,bi⟩) x.h x.h) x.w rs x.grid/\Mod [] H H1:=by
 obtain⟨b,I⟩:=ac (H.next);have hbb:H.base<=b:=I▸ok;have hT:p.t<b:=I▸g.lt p.t nl;have hR:p.rb<b:=I▸g.lt p.rb nl;have h1:=g.cell;simp only[aW]at h1;have s1:=s.h1;have s2:=s.h2;have s3:=s.w1;have s4:=s.w2;have hgl:x.grid.length=x.h:=rfl;refine aH mixed Tryz.func15 rfl Tryz.ntmps15 (zA8 rfl) ?_;simp (maxDischargeDepth:=6) only[I,zW,seval];refine (Fw (ext H [_]) p x (g.of (by rw[aA]; omega) fun n f=>bS (g.lt n f)) s).to ?_;simp (maxDischargeDepth:=6) only[I,hbb,hT,h1,zW,seval];refine c7 fun E hE=>?_;have Q:E 0=i9 (ap ⟨p.t,0,bi⟩):=by rw[hE]; simp only[aE,seval]
 have T:E 2=i9 (ap ⟨b+0,0,bi⟩):=by rw[hE]; simp only[aE,seval]
 have J:E 3=i9 (ap ⟨b+1,0,bi⟩):=by rw[hE]; simp only[aE,seval]
 have F:E 14=jp (ap ⟨p.rb,0,bi⟩) x.h x.h:=by rw[hE]; simp only[aE,seval]
 have A:E 15=i7 i8 (x.h:Int):=by rw[hE]; simp only[aE,seval]
 have u:E 16=i7 i8 ((0:Nat):Int):=by rw[hE]; (simp only[aE]<;>rfl)
 clear hE;refine bn (fun R L=>∃ rs v,rs.length=x.h/\Mod [] H L/\b+1<L.next/\bk L (b+0)=ap ⟨41,gc,[jp bi 0 0,i7 i8 0,i7 i8 0]⟩/\bk L (b+1)=ap ⟨41,gc,[v,i7 i8 (-1),i7 i8 0]⟩/\CZ (b+2) L v x.w rs x.grid/\R 0=i9 (ap ⟨p.t,0,bi⟩)/\R 2=i9 (ap ⟨b+0,0,bi⟩)/\R 3=i9 (ap ⟨b+1,0,bi⟩)) ?_ ?_
 .refine b8 (fun (q:List (Nat × Bool) × gt) R L=>q.1.length<=x.h/\Mod [] H L/\b+1<L.next/\bk L (b+0)=ap ⟨41,gc,[jp bi 0 0,i7 i8 0,i7 i8 0]⟩/\bk L (b+1)=ap ⟨41,gc,[q.2,i7 i8 (-1),i7 i8 0]⟩/\CZ (b+2) L q.2 x.w q.1 x.grid/\R 0=i9 (ap ⟨p.t,0,bi⟩)/\R 2=i9 (ap ⟨b+0,0,bi⟩)/\R 3=i9 (ap ⟨b+1,0,bi⟩)/\R 14=jp (ap ⟨p.rb,0,bi⟩) x.h x.h/\R 15=i7 i8 (x.h:Int)/\R 16=i7 i8 (q.1.length:Int)) (fun q=>x.h-q.1.length) ([],jp bi 0 0)
   ⟨zB7 _,Mod.ext ok,by rw[aA,I]; simp,by rw[bJ I lw]; rfl,by rw[bJ I lw]; rfl,⟨.inl ⟨rfl,rfl⟩,by simp,by simp,by simp,by simp[ae]⟩,Q,T,J,F,A,u⟩ ?_
  clear Q T J F A u E;rintro⟨rs,v⟩ E X ⟨hl,S,U,N,y,o,Q,T,J,F,A,u⟩;simp only at hl y o u;rw[show X=ext X [] from rfl];have V:=S.ok ok;by_cases hlh:rs.length=x.h
  .have hd:ge ((rs.length:Int)<(x.h:Int))=false:=decide_eq_false li;simp (maxDischargeDepth:=6) only[A,u,hd,zW,seval];refine ah ⟨rs,v,hlh,S,U,N,y,o,?_,?_,?_⟩<;>simp only[Q,T,J,aE,seval]
  .have hd:ge ((rs.length:Int)<(x.h:Int))=true:=decide_eq_true li;obtain⟨c,hx⟩:=ac (X.next);have hxb:X.base<=c:=hx▸V;have hbx:b+1<c:=hx▸U;have hRx:p.rb<c:=by omega
   have hTx:p.t<c:=by omega
   have gX:b7 X p x:=g.of S.next fun n f=>S.get n (g.lt n f) lw;obtain⟨l,hlr,_,hlw,_⟩:=s.rowAt (k:=rs.length) li;obtain⟨q,hq,hqm,hqb⟩:=gX.rowOf hlr;have hqx:q.1<c:=hx▸gX.lt q.1 hqm;have hqlt:q.1<b:=I▸g.lt q.1 hqm;have hrows:=gX.rows;have hqr:(p.rs.map (aM x.w))[rs.length]?=ap (aM x.w q):=by rw[zE1,hq]; rfl
   have hri:=eP (len:=x.h) (cap:=x.h) (n:=p.rb) (s:=bi) (i:=(rs.length:Int)) (k:=rs.length) rfl li;have hws:=bA (show rs.length<1000000 by omega);have hvx:∀ n∈ae v,n<c:=fun n f=>hx▸(o.blk n f).2.1;simp (maxDischargeDepth:=6) only[F,A,u,hd,hx,hRx,hrows,hri,hqr,zW,seval];refine aK [(4,3),(5,1),(5,3),(5,4),(7,1),(7,3),(7,4),(7,5)] [] ls ls rfl fun ops anc hA hG=>?_;simp only[aj]at hA;simp (maxDischargeDepth:=6) only[J,hx,hbx,y,aM,bh,zW,seval];refine ES (v:=jp (ap ⟨c+0,0,bi⟩) x.w x.w) (M:=[⟨77,bv,aQ l⟩]) [q.1] (by simp (maxDischargeDepth:=6) only[aE,seval]) ls mt (fun n f=>by simp (maxDischargeDepth:=6) only[zA6]at f; subst f; exact fI hqb) (fun K f hg=>?_) (by simp (maxDischargeDepth:=6) only[bh]) ?_
   .simp only[aE];have:=Jf K x.w s3 s4 q l hlw ((aO (hg q.1 lw)).trans (by rw[ext_nil]; exact hqb));rw[f,ext_nil,hx]at this;exact this
   simp (maxDischargeDepth:=6) only[hx,hA,zA3,zB0,bh,zW,seval];rw[mL (by simp only[aE,seval])];obtain⟨Z,hZ⟩:=ac (ext X [⟨77,bv,aQ l⟩,⟨56,gc,[jp (ap ⟨c+0,0,bi⟩) x.w x.w]⟩]);have mZ:Mod [] X Z:=hZ▸Mod.ext V;have okZ:=mZ.ok V;have hZn:Z.next=c+2:=by rw[<-hZ,aA,hx]; rfl
   have hZ1:bk Z (c+1)=ap ⟨56,gc,[aM x.w (c+0,bv)]⟩:=by rw[<-hZ,bJ hx lw]; rfl
   have hZ0:bk Z (c+0)=ap ⟨77,bv,aQ l⟩:=by rw[<-hZ,bJ hx lw]; rfl
   have hZo:∀ n,n<c->Z.get n=X.get n:=fun n f=>mZ.get n li lw;rw[hZ];have hrn:=aI Z (ae v++[c+1]);have hRr:∀ n∈ae v++[c+1],(Z.restrict (ae v++[c+1])).get n=Z.get n:=fun n f=>by rw[bf,if_pos f]
   have hrsZ:gF Z v x.w rs:=o.at_.of fun n f=>hZo n (hvx n f)
   obtain⟨G,happ,hrsG,mG,hGn⟩:=rH (x:=c+2) (k:=c+1) (q:=(c+0,bv)) (hrsZ.of fun n f=>hRr n (by simp[f])) (by rw[hrn.1,hZn]) ((aO (hRr (c+1) lw)).trans hZ1) li (fun r hr=>by
    rw[hrn.1,hZn];rcases zB4.1 hr with h|h
    .have:=(o.rng r h).2; omega
    .simp only[zA6]at h; subst h; simp only; omega)
   have mG:=mG (by rw[hrn.1,hrn.2.1]; exact zA5 _)
   have hneZ:∀ n∈ae v++[c+1],Z.get n≠none:=fun n f=>by
    rcases zB4.1 f with h|h
    .exact hrsZ.ne n h
    .simp only[zA6]at h; subst h; exact fI hZ1
   refine my (W:=ae v) (ae v++[c+1]) okZ hneZ (fun n f=>by
     rcases zB4.1 f with h|h
     .have:=hvx n h; omega
     .simp only[zA6]at h; omega) (fun n f=>by simp[f])
    (jl (v:=jp (ap ⟨c+2,0,bi⟩) (rs.length+1) (rs.length+1)) (by simp only[aE,seval]) (by simp only[aE,seval]; exact happ)) mG (by simp only[aj,bu,hA,true_or,and_true]) ?_
   intro H1 D mH1 hF1 hN1 z hD1;have z:H1.next=c+3:=by rw[z,hGn]
   have hvn:∀ n,n<b+2->n∉ae v:=fun n f hh=>by have:=(o.blk n hh).1; omega
   have hT1:bk H1 (b+1)=ap ⟨41,gc,[v,i7 i8 (-1),i7 i8 0]⟩:=by rw[mH1.bk li (hvn _ li),aO (hZo _ hbx)]; exact y
   have hTn:b+1<c+3:=by omega
   rw[show H1=ext H1 [] from rfl];simp (maxDischargeDepth:=6) only[J,z,hTn,hT1,hA,bh,zW,seval];refine⟨⟨fun _=>.inr (.inl li),.inr (.inl li),.inr (.inl li)⟩,?_⟩;simp (maxDischargeDepth:=6) only[u,hws,zW,seval];have mU:Mod [b+1] H1 (uw H1 (b+1) 0 [jp (ap ⟨c+2,0,bi⟩) (rs.length+1) (rs.length+1)]):=Mod.uw lw
   have hnewB:bk H1 (c+2)=ap ⟨56,bv,(rs++[(c+0,bv)]).map (aM x.w)⟩:=by
    rw[aO (hN1 (c+2) li li)]
    rcases hrsG with⟨h,_⟩|⟨_,n,e,hb'⟩
    .simp at h
    .simp only[Value.slice.injEq,i5,Addr.mk.injEq,and_true]at e;rw[e.1]; exact hb'
   have O:∀ n,n<c+2->n≠b+1->n∉ae v->(uw H1 (b+1) 0 [jp (ap ⟨c+2,0,bi⟩) (rs.length+1) (rs.length+1)]).get n=Z.get n:=fun n j B h3'=>by rw[fD B,mH1.get n li h3']
   refine aC ⟨(rs++[(c+0,bv)],jp (ap ⟨c+2,0,bi⟩) (rs.length+1) (rs.length+1)),by simp only[zB2,zA3,zB0]; omega,by simp only[zB2,zA3,zB0]; omega,?_,?_,?_,?_,?_,?_,?_,?_,?_,?_,?_⟩
   .have m1:Mod (ae v) X H1:=(mZ.mono lw).trans mH1;exact (S.step m1 ok (fun n f=>.inr (by have:=(o.blk n f).1; omega))).step mU ok (fun n f=>.inr (by simp only[zA6]at f; omega))
   .rw[ext_nil,bE,z]; omega
   .rw[ext_nil,aO (O (b+0) li li (hvn _ li)),aO (hZo (b+0) li)]; exact N
   .rw[ext_nil,bR,hT1]; rfl
   .refine⟨.inr ⟨by simp,c+2,by simp,?_⟩,?_,?_,?_,?_⟩
    .rw[ext_nil,eJ li];exact hnewB
    .intro i q' l' j B;by_cases hi:i<rs.length
     .rw[List.getElem?_append_left hi]at j;have hr:=o.rng q' (zC0 j);have hm:q'.1∉ae v:=fun hh=>(o.blk _ hh).2.2 (zB6.2 ⟨q',zC0 j,rfl⟩);rw[ext_nil,aO (O q'.1 li li hm),aO (hZo q'.1 li)];exact o.row i q' l' j B
     .rw[zG5 li]at j
      have hi2:i=rs.length:=by
       rcases zC2 (i-rs.length) 1 with h|h
       .omega
       .rw[zC5 (by simpa using h)]at j; cases j
      subst hi2;rw[zG0]at j;simp only[zF3,i5]at j;subst j;rw[hlr]at B;cases B;rw[ext_nil,aO (O (c+0) li li (fun hh=>by have:=hvx _ hh; omega))];exact hZ0
    .intro r hr;rw[ext_nil,bE,z];rcases zB4.1 hr with h|h
     .have:=o.rng r h; omega
     .simp only[zA6]at h;subst h;simp only; omega
    .rw[List.map_append];refine zD5.2 ⟨o.nd,by simp,fun a ha b' hb' e=>?_⟩;obtain⟨r,hr,rfl⟩:=zB6.1 ha;simp only[zB9,zE6,zA6]at hb';have:=(o.rng r hr).2;omega
    .intro n f;simp only[ae,zA6]at f;subst f;refine⟨by omega,by rw[ext_nil,bE,z]; omega,fun hm=>?_⟩;obtain⟨r,hr,e⟩:=zB6.1 hm;rcases zB4.1 hr with h|h
     .have:=(o.rng r h).2; omega
     .simp only[zA6]at h;subst h;simp only at e;omega
   .simp only[Q,aE,seval]
   .simp only[T,aE,seval]
   .simp only[J,aE,seval]
   .simp only[F,aE,seval]
   .simp only[A,aE,seval]
   .simp only[zB2,zA3,zB0,aE,seval]
 .clear Q T J F A u E;rintro E X ⟨rs,v,hl,S,U,N,y,o,Q,T,J⟩;rw[show X=ext X [] from rfl];have V:=S.ok ok;obtain⟨c,hx⟩:=ac (X.next);have hb1x:b+1<c:=hx▸U;have hb0x:b+0<c:=by omega
  have hTx:p.t<c:=by omega
  have gX:b7 X p x:=g.of S.next fun n f=>S.get n (g.lt n f) lw;have h1X:=gX.cell;simp only[aW]at h1X
  rcases o.at_ with⟨h,_⟩|⟨_,n,rfl,hbn⟩
  .rw[h]at hl; simp at hl; omega
  rw[hl]at o y;have z:=o.blk n ol;have hnn:n<c:=hx▸z.2.1;have C:∀(Y:aa),Mod [b+0,b+1] X Y->CZ H.next Y (jp (ap ⟨n,0,bi⟩) x.h x.h) x.w rs x.grid/\Mod [] H Y:=fun Y mY=>by refine⟨?_,S.step mY ok (fun n f=>.inr (by simp only[zA9,zF2,or_false]at f; omega))⟩;have P:CZ (b+2) Y (jp (ap ⟨n,0,bi⟩) x.h x.h) x.w rs x.grid:=o.of li mY.next (fun n j B=>mY.get n B (by simp only[zA9,zF2,or_false]; omega));exact⟨P.at_,P.row,fun q hq=>⟨by have:=(P.rng q hq).1; omega,(P.rng q hq).2⟩,P.nd,fun m hm=>⟨by have:=(P.blk m hm).1; omega,(P.blk m hm).2⟩⟩
  obtain⟨ds,hds⟩:∃ d,x.shown=d:=⟨_,rfl⟩
  cases ds with
  |true =>
   simp (maxDischargeDepth:=6) only[Q,hx,hTx,h1X,hds,zW,seval];refine aK [(8,4),(8,6),(10,4),(10,6),(10,8)] [] ls ls rfl fun ops anc hA hG=>?_;simp only[aj]at hA;simp (maxDischargeDepth:=6) only[Q,hx,hTx,h1X,bh,zW,seval];refine aN (v:=i7 i8 x.inside) p.au (by simp (maxDischargeDepth:=6) only[aE,seval]) ls mt gX.ne (fun K f hg=>?_) (by simp (maxDischargeDepth:=6) only[bh]) ?_
   .simp only[aE];exact oH K p x (gX.of (by rw[f]; exact zA5 _) hg) s
   simp (maxDischargeDepth:=6) only[T,J,hx,hb1x,hb0x,hnn,N,y,hA,Tryz.results15,bh,zW,seval];obtain⟨o1,P⟩:=C _ (((Mod.uw lw).trans (Mod.uw lw)).trans (Mod.uw lw):Mod [b+0,b+1] X (ext (uw (uw (uw X (b+1) 1 [i7 i8 x.row]) (b+1) 2 [i7 i8 x.inside]) (b+0) 0 [jp (ap ⟨n,0,bi⟩) x.h x.h,i7 i8 x.row,i7 i8 x.inside]) []));rw[I]at o1;exact⟨rs,n,by simp only[Tm.jq,Tm.jf,hds,cond_true],hl,o1,P⟩
  |false =>simp (maxDischargeDepth:=6) only[Q,T,J,hx,hTx,hb0x,hb1x,hnn,h1X,hds,N,y,Tryz.results15,zW,seval];obtain⟨o1,P⟩:=C _ (Mod.uw lw:Mod [b+0,b+1] X (ext (uw X (b+0) 0 [jp (ap ⟨n,0,bi⟩) x.h x.h,i7 i8 (-1),i7 i8 0]) []));rw[I]at o1;exact⟨rs,n,by simp only[Tm.jq,Tm.jf,hds,cond_false],hl,o1,P⟩
def bD.sc{H:aa}{v:gt}{l:List UInt8}(h:bD H v l){N:Nat}(a:∀ n∈ae v,n<N):aV N v=bv/\one v=true:=by
 rcases h with⟨rfl,rfl⟩|⟨_,n,b,rfl,_⟩|⟨rfl,n,off,k,L,rfl,_⟩|⟨rfl,n,rfl,_⟩
 .exact⟨rfl,rfl⟩
 all_goals exact⟨bx (a n ol),rfl⟩
def Tm.Sz.Fk{x:Tm}(s:x.Sz)(c:UInt8):(x.Fk c).Sz:=by
 by_cases h:c=91\/c=93\/c=27\/(32<=c/\c<48)
 .have e:x.Fk c=x:=by
   unfold Tm.Fk
   have f:c≠55/\c≠56/\c≠99/\c≠77:=by
    rcases h with rfl|rfl|rfl|h
    .decide
    .decide
    .decide
    .have g:c.toNat<48:=h.2;refine⟨?_,?_,?_,?_⟩<;>(rintro rfl; simp at g)
   obtain⟨a,b,d,e⟩:=f;rw[if_neg a,if_neg b,if_neg d,if_neg (fun h=>e h.1),if_neg e]
  rw[e]; exact s
 .simp only[not_or]at h;obtain⟨f,g,i,j⟩:=h
  have e:x.Fk c=(x.second c).1:=by
   unfold Tm.Fk Tm.second;rw[if_neg f,if_neg g,if_neg i,if_neg j]
   repeat' split
   all_goals rfl
  rw[e]; exact s.second c
def Tm.Sz.seq{x:Tm}(s:x.Sz)(l:List UInt8)(f:UInt8):(x.seq l f).Sz:=by
 unfold Tm.seq;split
 .exact s.zK _
 .split
  .exact s.aT f _ (tT _)
  .exact s
def Tm.Sz.eO{x:Tm}(s:x.Sz)(u:n5)(l:List UInt8):(x.eO u l).2.Sz:=by
 unfold Tm.eO;split
 .exact s
 .split
  .exact s
  .cases (atR (l.take (eM (l.headD 0)))).2
   .exact s
   .exact s.character _
def Tm.Sz.iE{x:Tm}(s:x.Sz)(l:List UInt8):(x.iE l).2.Sz:=by
 unfold Tm.iE;split
 .exact s
 .split
  .cases (du 2 gc (l.drop 2)).2
   .exact s
   .simp only[cond_true];split
    .exact s.seq _ _
    .exact s
  .split
   .exact s
   .split
    .exact s
    .split
     .exact s
     .exact s.Fk _
def w8(a:UInt8):∀(n i:Nat)(l:List UInt8)(k:Nat),fE a n i l=ap k->k<=1
 |0,_,_,_,h=>by cases h
 |n+1,_,[],k,h=>by cases h; exact zB7 _
 |n+1,i,c::r,k,h=>by
  unfold fE at h;split at h
  .cases h; exact zA5 _
  .exact w8 a n _ r k h
def Kb(u:n5)(x:Tm){l:List UInt8}(c:l≠[]):(x.eO u l).1<=l.length:=by
 have b:0<l.length:=List.length_pos_iff.2 c;unfold Tm.eO;split
 .rename_i n a;have:=w8 _ _ _ _ _ a;simp only;omega
 .rename_i a;have:=tQ _ _ _ _ a;rw[zC1]at this;split
  .exact b
  .cases (atR (l.take (eM (l.headD 0)))).2
   .exact b
   .simp only[cond_true]; omega
def yH:∀(l:List UInt8)(i:Nat)(m:Bool),(du i m l).1<=i+l.length
 |[],_,_=>zB7 _
 |c::r,i,m=>by
  rw[du];simp only[zA3];have a:=yH r (i+1) bv;have b:=yH r (i+1) m
  repeat' split
  all_goals first
   |omega
   |(simp only; omega)
def Ap:∀(l:List UInt8)(i:Nat),dP i l<=i+l.length
 |[],_=>zB7 _
 |c::r,i=>by
  rw[dP];have h:=Ap r (i+1);simp only[zA3];split
  .omega
  .split
   .rename_i a
    have:0<r.length:=by
     cases r with
     |nil=>cases a.2
     |cons _ _=>simp
    omega
   .omega
def Lf(x:Tm)(l:List UInt8):(x.iE l).1<=l.length:=by
 unfold Tm.iE;have a:=yH (l.drop 2) 2 gc;have b:=Ap (l.drop 2) 2;rw[zC1]at a b;split
 .exact zB7 _
 .repeat' split
  all_goals (simp only; omega)
def Tm.jU(u:n5):Nat->Tm->List UInt8->Tm × List UInt8
 |0,x,l=>(x,l)
 |n+1,x,l =>
  if l=[] then (x,[])
  else if ((if l.headD 0=27 then x.iE l else x.eO u l)).1=0 then ((if l.headD 0=27 then x.iE l else x.eO u l).2,l)
  else Tm.jU u n (if l.headD 0=27 then x.iE l else x.eO u l).2 (l.drop (if l.headD 0=27 then x.iE l else x.eO u l).1)
def cL.jZ{H:aa}{p:Rq}{x:Tm}(g:cL H p x)(w:gt):cL (Go.Ax.ext (uw H p.t 18 [w]) []) ⟨p.t,p.rb,p.rs,w⟩ x/\Mod p.au H (Go.Ax.ext (uw H p.t 18 [w]) []):=by
 have m:Mod [p.t] H (Go.Ax.ext (uw H p.t 18 [w]) []):=Mod.uw lw;have c:p.t∉p.rb::p.rs.map (·.1):=(zB8.1 g.nd).1;have a:∀ n∈p.rb::p.rs.map (·.1),(Go.Ax.ext (uw H p.t 18 [w]) []).get n=H.get n:=fun n b=>m.get n (g.lt n (zC4 _ b)) (fun e=>c (by simp only[zA6]at e; exact e▸b));refine⟨⟨?_,?_,g.len,?_,g.nd,fun n b=>m.lt (g.lt n b)⟩,m.mono (by intro n b; simp only[zA6]at b; subst b; simp[Rq.au])⟩
 .rw[ext_nil,bR,g.cell]; rfl
 .rw[aO (a _ lw)]; exact g.rows
 .intro i q l f h;rw[aO (a _ (zC4 _ (zB6.2 ⟨q,zC0 f,rfl⟩)))];exact g.row i q l f h
def Lt(H:aa)(p:Rq)(x:Tm)(V:Nat)(l:List UInt8)(g:cL H p x)(s:x.Sz)(ok:H.base<=H.next)(hrv:p.rv=jp bi 0 0)(hvb:bk H V=ap ⟨5,bv,aq l⟩)(hvn:V<H.next)(F:l.length<=1000) :
  aL Tryz.prog 13 [i9 (ap ⟨p.t,0,bi⟩),jp (ap ⟨V,0,bi⟩) l.length l.length] H fun out H1=>out=.ok (i7 i8 0)/\∃ p1,cL H1 p1 (x.jU cI l.length l).1/\Mod p.au H H1/\p1.t=p.t:=by
 obtain⟨b,hb⟩:=ac H.next;have hT:p.t<b:=hb▸g.lt p.t pi;have h1:=g.cell;simp only[bF,hrv]at h1;have a1:Tryz.prog.underlying 25=ap (.slice 5):=by kernel_rfl
 have a2:bg Tryz.prog 5=ap 1:=by kernel_rfl
 have a3:bytesOf Tryz.prog 5=ap 1:=by kernel_rfl
 have a4:zeroOf Tryz.prog 5=ap (.int .u8 0):=by kernel_rfl
 have a5:fM Tryz.prog 25=ap false:=by kernel_rfl
 have hk:bk (ext H [⟨5,gc,[]⟩]) (b+0)=ap ⟨5,gc,[]⟩:=by rw[bJ hb lw]; rfl
 have hz:∀ x,dj (ext H [⟨5,gc,[]⟩]) 1 0 x=ap []->(∃ a,x=.slice a 0 0)->aF Tryz.prog (ext H [⟨5,gc,[]⟩]) .append ⟨[25,25]⟩ [jp (ap ⟨b+0,0,ap 0⟩) 0 0,x]=ap (jp (ap ⟨b+0,0,ap 0⟩) 0 0,ext H [⟨5,gc,[]⟩]):=by rintro x hf ⟨a,rfl⟩;have f:=Ly (P:=Tryz.prog) (H:=ext H [⟨5,gc,[]⟩]) (st:=25) (xt:=25) (e:=5) (sz:=1) (by1:=1) (m:=b+0) (off:=0) (k:=0) (cap:=0) (n:=0) (sp:=ap 0) (z:=.int .u8 0) (x:=.slice a 0 0) (new:=[]) a1 a2 a3 a4 rfl a5 rfl hf rfl (zA5 _) rfl;have J:=AP (H:=H) (L:=[⟨5,gc,[]⟩]) (b:=b) (i:=0) (off:=0) (vs:=[]) (e:=5) (o:=false) (l:=[]) hb li rfl lw rfl rfl;rw[show 0+0*1=0 from rfl,J,zB1]at f;exact f
 have hn0:=hz (jp bi 0 0) rfl ⟨_,rfl⟩
 -- the two appends
 obtain⟨w,B,f,J⟩:∃ w B,aF Tryz.prog (ext H [⟨5,gc,[]⟩]) .append ⟨[25,25]⟩ [jp (ap ⟨b+0,0,ap 0⟩) 0 0,jp (ap ⟨V,0,bi⟩) l.length l.length]=ap (w,ext H B)/\∀ K:aa,K.next=b->bD (ext K B) w l/\∀ n∈ae w,b<=n/\n<(ext K B).next:=by
  have hbX:bk (ext H [⟨5,gc,[]⟩]) V=ap ⟨5,bv,aq l⟩:=(iI li).trans hvb
  by_cases O:l=[]
  .subst O
   have:=hz (jp (ap ⟨V,0,bi⟩) 0 0) (by
    have:=fA (sz:=1) (cnt:=0) (n:=V) (off:=0) (len:=0) (cap:=0) (s:=bi) hbX lw
    simpa using this) ⟨_,rfl⟩
   exact⟨_,_,this,fun K hK=>⟨.inr (.inr (.inr ⟨rfl,b+0,rfl,by rw[bJ hK lw]; rfl⟩)),fun q hq=>by simp only[ae,zA6]at hq; rw[hq,aA,hK]; simp⟩⟩
  .have hpos:0<l.length:=List.length_pos_iff.2 O;have hsm:small (0+l.length) 1=true:=by simp only[small,zA7,zE2]; omega
   have f:=kn (P:=Tryz.prog) (H:=ext H [⟨5,gc,[]⟩]) (st:=25) (xt:=25) (m:=b+0) (k:=0) (n:=V) (off:=0) (cnt:=l.length) (cap:=l.length) (s:=bi) a1 a2 a3 a4 rfl a5 hk lw rfl hbX (by rw[cR]; omega) (xd _) hpos hsm;have ht:([]:List gt).take (0*1)++((aq l).drop 0).take (l.length*1)=aq l:=by have h2:(aq l).take (l.length*1)=aq l:=zC3 (by rw[cR]; omega);rw[zD2,h2]; simp
   have hnw:=et (H:=H) (L:=[⟨5,gc,[]⟩]) (e:=5) (l:=aq l) (o:=true) (p7 _ _);simp only[ht]at f;rw[hnw,zB1,aA,hb,zC6]at f;refine⟨_,_,f,fun K hK=>⟨.inr (.inl ⟨O,b+1,[],rfl,?_⟩),fun q hq=>?_⟩⟩
   .rw[bJ hK lw]; rfl
   .simp only[ae,zA6,zA3,zB0]at hq;rw[hq,aA,hK]; simp
 refine aH mixed Tryz.func13 rfl Tryz.ntmps13 (zA8 rfl) ?_;simp only[hb,hT,h1,hn0,f,zW,Nat.reduceLeDiff,Nat.reduceLT,Nat.reduceAdd,Nat.reduceEqDiff];obtain⟨hw1,I⟩:=J (uw H p.t 18 [jp bi 0 0]) ((bE ..).trans hb);have st0:eZ H p (ext (uw H p.t 18 [jp bi 0 0]) B) p x:=by have s1:=g.one (off:=18) (vs:=[jp bi 0 0]) (y:=x) (by simp only[bF,hrv]; rfl) rfl;rw[ext_nil]at s1;exact s1.trans ok (eZ.quiet s1.at_ (Mod.ext (s1.ok ok)))
 obtain⟨R,M⟩:=ac (x.jU cI l.length l);rw[M];generalize ext (uw H p.t 18 [jp bi 0 0]) B=X0 at hw1 I st0 ⊢;refine c7 fun E hE=>?_;have N:E 0=i9 (ap ⟨p.t,0,bi⟩):=by rw[hE]; rfl
 have G:E 1=w:=by rw[hE]; rfl
 clear hE
 refine b8 (fun (q:Nat × Tm × Rq × gt × List UInt8) E' X=>eZ H p X q.2.2.1 q.2.1/\q.2.1.Sz/\bD X q.2.2.2.1 q.2.2.2.2/\(∀ n∈ae q.2.2.2.1,n<X.next/\n∉q.2.2.1.au)/\q.2.2.2.2.length<=q.1/\q.2.2.2.2.length<=1000/\q.2.1.jU cI q.1 q.2.2.2.2=R/\E' 0=i9 (ap ⟨p.t,0,bi⟩)/\E' 1=q.2.2.2.1) (fun q=>q.2.2.2.2.length) (l.length,x,p,w,l)
  ⟨st0,s,hw1,fun n C=>⟨(I n C).2,fun h=>by have:=(I n C).1; have:=g.lt n h; omega⟩,zA5 _,F,M,N,G⟩ ?_
 clear N G E hw1 I st0 M f J;rintro⟨n,y,p1,w,l⟩ E X ⟨st,sz,J,A,hln,F,M,N,G⟩;simp only at st sz J A hln F M G;have okX:=st.ok ok;obtain⟨av,D⟩:=J.sl;rw[show X=ext X [] from rfl]
 by_cases O:l=[]
 .subst O;have d:ge ((0:Int)<((0:Nat):Int))=false:=by decide
  have hRy:R.1=y:=by
   rw[<-M]
   cases n with
   |zero=>rfl
   |succ n=>rw[Tm.jU,if_pos rfl]
  rw[zB0]at D;simp only[G,D,d,Tryz.results13,zW,Nat.reduceLT];exact⟨trivial,p1,hRy▸st.at_,st.mod,st.same⟩
 obtain⟨a,r,rfl⟩:∃ a r,l=a::r:=by cases l with|nil=>exact absurd rfl O|cons a r=>exact⟨a,r,rfl⟩
 obtain⟨m,rfl⟩:∃ m,n=m+1:=⟨n-1,by simp only[zA3]at hln; omega⟩
 obtain⟨L,W⟩:=ac ((a::r).length);rw[W]at D hln F;have hL0:0<L:=by rw[<-W]; simp
 have d:ge ((0:Int)<(L:Int))=true:=decide_eq_true li;obtain⟨n1,o1,i1,m1,ld1⟩:=J.get (k:=0) (c:=a) rfl;rw[D,show ((0:Nat):Int)=0 from rfl]at i1;obtain⟨xb,hxb⟩:=ac X.next;have t1:n1<xb:=hxb▸(A n1 m1).1;obtain⟨S,hS⟩:=ac ((if a=27 then y.iE (a::r) else y.eO cI (a::r)));have hSz:S.2.Sz:=by rw[<-hS]; split; exact sz.iE _; exact sz.eO _ _
 have hSl:S.1<=L:=by
  rw[<-hS,<-W];split
  .exact Lf _ _
  .exact Kb _ _ O
 rw[Tm.jU,if_neg O,show (a::r).headD 0=a from rfl,hS]at M;have hlt:∀ n∈ae w,n<X.next:=fun n C=>(A n C).1;simp only[G,D,d,hxb,i1,t1,ld1,zW,Nat.reduceLT,Nat.reduceEqDiff];refine dG (fun E' Z=>(∃ Q,eZ X p1 Z Q S.2)/\E' 0=i9 (ap ⟨p.t,0,bi⟩)/\E' 1=w/\E' 5=i7 i8 (S.1:Int)) ?_ ?_
 .by_cases T:a=27
  .have t:ge ((a.toNat:Int)=27)=true:=by subst T; rfl
   rw[if_pos T]at hS;have U:=DZ X p1 y w (a::r) st.at_ sz okX (st.rest.trans hrv) J hlt (by rw[W]; omega);rw[hS]at U;unfold zt at U;rw[st.same,D]at U;simp only[N,G,D,t,zW,Nat.reduceLT,Nat.reduceEqDiff];refine aL.mono (show aL Tryz.prog 29 _ (ext X []) _ from U) ?_;rintro _ Z ⟨rfl,Q,j⟩;rw[show Z=ext Z [] from rfl];simp only[zW,Nat.reduceLT];refine ah ⟨⟨Q,j⟩,?_,?_,?_⟩<;>simp only[N,G,D,aE,Nat.reduceEqDiff]
  .have t:ge ((a.toNat:Int)=27)=false:=decide_eq_false fun e=>T (UInt8.toNat_inj.1 pp);rw[if_neg T]at hS;have U:=Jn X p1 y w (a::r) st.at_ sz okX J hlt O (by rw[W]; omega);rw[hS]at U;unfold zt at U;rw[st.same,D]at U;simp only[N,G,D,t,zW,Nat.reduceLT,Nat.reduceEqDiff];refine aL.mono (show aL Tryz.prog 30 _ (ext X []) _ from U) ?_;rintro _ Z ⟨rfl,Q,j⟩;rw[show Z=ext Z [] from rfl];simp only[zW,Nat.reduceLT];refine ah ⟨⟨Q,j⟩,?_,?_,?_⟩<;>simp only[N,G,D,aE,Nat.reduceEqDiff]
 clear N G E;rintro E Z ⟨⟨Q,j⟩,N,G,g5⟩;have okZ:=j.ok okX;have u:=st.trans ok j;have hwZ:bD Z w (a::r):=J.of fun n C=>j.mod.get n (A n C).1 (A n C).2
 have Y:∀ n∈ae w,n<Z.next/\n∉Q.au:=fun n C=>⟨zD1 (A n C).1 j.mod.next,fun h=>(j.new n h).elim (A n C).2 fun h=>by have:=(A n C).1; omega⟩
 obtain⟨zb,hzb⟩:=ac Z.next;have hTz:p.t<zb:=by rw[<-hzb,<-u.same]; exact u.at_.lt _ pi
 have cZ:=u.at_.cell;rw[u.same]at cZ;simp only[bF]at cZ;rw[show Z=ext Z [] from rfl];by_cases hz:S.1=0
 .have d0:ge ((S.1:Int)=0)=true:=decide_eq_true li;rw[if_pos hz]at M;obtain⟨gk,mk⟩:=u.at_.jZ w;rw[u.same]at gk mk;have hsc:=(hwZ.sc (fun n C=>hzb▸(Y n C).1)).1;rw[D]at hsc gk mk;have hst:∀ N0 c,aV N0 (.slice av L L)=bv->sQ Tryz.prog 25 N0 18 (.slice av L L) (ap ⟨71,gc,c::(bF Q S.2).tail⟩)=ap ⟨71,gc,cQ (c::(bF Q S.2).tail) 18 [.slice av L L]⟩:=fun N0 c h=>nA (v:=.slice av L L) ls (by simp[Value.cells,bF]) rfl (by rw[show (Value.slice av L L).cells.toList=[.slice av L L] from rfl]; simp only[aX,h,zD8]);simp only[bF,List.tail_cons]at hst;simp only[N,G,g5,D,d0,hzb,hTz,cZ,hst (zb+0) _ hsc,Tryz.results13,zW,Nat.reduceLT,Nat.reduceAdd,Nat.reduceEqDiff];rw[<-M];exact⟨trivial,_,gk,u.mod.step mk ok u.new,rfl⟩
 .have d0:ge ((S.1:Int)=0)=false:=decide_eq_false li;rw[if_neg hz]at M;obtain⟨a2,hsl,I,hid2⟩:=hwZ.drop O (k:=S.1) (by rw[W]; exact hSl);rw[D]at hsl;simp only[G,g5,D,d0,hsl,zW,Nat.reduceLT,Nat.reduceEqDiff];have hL':r.length+1=L:=W;refine aC ⟨(m,S.2,Q,.slice a2 ((a::r).length-S.1) ((a::r).length-S.1),(a::r).drop S.1),by simp only[zC1,zA3]; omega,u,hSz,I,fun n C=>Y n (hid2▸C),by simp only[zC1,zA3]; omega,by simp only[zC1,zA3]; omega,M,?_,?_⟩<;>simp only[N,W,hL',aE,Nat.reduceEqDiff]
def Tm.wt(x:Tm)(m:Nat)(r p:List UInt8)(d:Bool)(e:UInt8):Tm:={x with mode:=m,rest:=r,params:=p,middle:=d,last:=e}
section
variable{m:Nat}{r p:List UInt8}{d:Bool}{e:UInt8}
def Ft(x:Tm)(c:Int):(x.wt m r p d e).control c=(x.control c).wt m r p d e:=by unfold Tm.control;simp only[apply_ite (fun z:Tm=>z.wt m r p d e)];rfl
def Np(u:n5)(x:Tm)(c:Int):(x.wt m r p d e).write u c=(x.write u c).wt m r p d e:=by
 unfold Tm.write;show (if u.wd c=0\/x.col+u.wd c>x.width then x.wt m r p d e else _)=(if u.wd c=0\/x.col+u.wd c>x.width then x else _).wt m r p d e;by_cases h:u.wd c=0\/x.col+u.wd c>x.width
 .rw[if_pos h,if_pos h]
 .rw[if_neg h,if_neg h];by_cases a:u.wd c=2
  .simp only[if_pos a]; rfl
  .simp only[if_neg a]; rfl
def sx(u:n5)(x:Tm)(c:Int):(x.wt m r p d e).character u c=(x.character u c).wt m r p d e:=by
 unfold Tm.character;split
 .exact Ft x c
 .exact Np u x c
def uy(x:Tm)(l:List Int):(x.wt m r p d e).aU l=(x.aU l).wt m r p d e:=by unfold Tm.aU;simp only[apply_ite (fun z:Tm=>z.wt m r p d e)];rfl
def sw(l:List Int):∀(k i:Nat)(x:Tm),Tm.bL l i k (x.wt m r p d e)=(Tm.bL l i k x).wt m r p d e
 |0,_,_=>rfl
 |k+1,i,x=>by rw[Tm.bL,Tm.bL,<-sw l k (i+1)];congr 1;simp only[apply_ite (fun z:Tm=>z.wt m r p d e)];rfl
def Dh(x:Tm)(l:List Int):(x.wt m r p d e).cf l=(x.cf l).wt m r p d e:=by unfold Tm.cf;rw[uy,sw];rfl
def KY(x:Tm)(n:Int)(up:Bool):(x.wt m r p d e).lines n up=(x.lines n up).wt m r p d e:=by unfold Tm.lines;simp only[apply_ite (fun z:Tm=>z.wt m r p d e)];rfl
def J4(x:Tm)(l:List Int):(x.wt m r p d e).region l=(x.region l).wt m r p d e:=by unfold Tm.region;simp only[apply_ite (fun z:Tm=>z.wt m r p d e)];rfl
def Gj(x:Tm)(f:UInt8)(l:List Int):(x.wt m r p d e).aT f l=(x.aT f l).wt m r p d e:=by unfold Tm.aT;simp only[apply_ite (fun z:Tm=>z.wt m r p d e),Dh,uy,KY,J4];rfl
def FU(x:Tm)(f:UInt8):(x.wt m r p d e).dJ f=(x.seq p f).wt m r p d e:=by
 unfold Tm.dJ Tm.seq;show (if p=[63,50,53]/\(f=104\/f=108) then _ else (match numbers p [] 0 with|some a=>_|none=>_))=_;by_cases h:p=[63,50,53]/\(f=104\/f=108)
 .rw[if_pos h,if_pos h]; rfl
 .rw[if_neg h,if_neg h]
  cases numbers p [] 0 with
  |none=>rfl
  |some l=>exact Gj x f l
end
def qL(u:n5)(x:Tm)(l:List UInt8):Nat × Tm:=if l.headD 0=27 then x.iE l else x.eO u l
def kL(u:n5)(n:Nat)(x:Tm){l:List UInt8}(h:l≠[]):Tm.jU u (n+1) x l=if (qL u x l).1=0 then ((qL u x l).2,l) else Tm.jU u n (qL u x l).2 (l.drop (qL u x l).1):=by rw[Tm.jU,if_neg h]; rfl
def js(u:n5)(n:Nat)(x:Tm):Tm.jU u n x []=(x,[]):=by
 cases n with
 |zero=>rfl
 |succ n=>rw[Tm.jU,if_pos rfl]
def yz(u:n5):∀(n k:Nat)(x:Tm)(l:List UInt8),l.length<=n->l.length<=k->Tm.jU u n x l=Tm.jU u k x l
 |0,k,x,l,a,_=>by have:l=[]:=zE7 li;subst this;rw[js,js]
 |n+1,0,x,l,_,b=>by have:l=[]:=zE7 li;subst this;rw[js,js]
 |n+1,k+1,x,l,a,b=>by
  by_cases h:l=[]
  .subst h; rw[js,js]
  .rw[kL u n x h,kL u k x h];split
   .rfl
   .exact yz u n k _ _ (by rw[zC1]; omega) (by rw[zC1]; omega)
def FF(u:n5)(x:Tm)(l:List UInt8):Tm:=(Tm.jU u l.length x l).1
def rB{u:n5}{x y:Tm}{l:List UInt8}(a:l≠[])(h:qL u x l=(0,y)):FF u x l=y:=by
 obtain⟨n,b⟩:∃ n,l.length=n+1:=⟨l.length-1,by have:=List.length_pos_iff.2 a; omega⟩
 rw[FF,b,kL u n x a,h,if_pos rfl]
def lO{u:n5}{x y:Tm}{l:List UInt8}{k:Nat}(a:l≠[])(h:qL u x l=(k,y))(b:k≠0):FF u x l=FF u y (l.drop k):=by
 obtain⟨n,c⟩:∃ n,l.length=n+1:=⟨l.length-1,by have:=List.length_pos_iff.2 a; omega⟩
 rw[FF,c,kL u n x a,h,if_neg b,FF,yz u n _ y _ (by rw[zC1]; omega) (zA5 _)]
def G5(lo hi:Int):List UInt8->Prop
 |[]=>True
 |b::r=>lo<=(b.toNat:Int)/\(b.toNat:Int)<=hi/\∀ c∈r,128<=c.toNat/\c.toNat<192
def pY{a:UInt8}{n lo hi:Int}(h:jY a.toNat=ap (n,lo,hi)) :
  128<=a.toNat/\128<=lo/\hi<=191/\((n=2/\eM a=2/\194<=a.toNat/\a.toNat<224)\/(n=3/\eM a=3/\224<=a.toNat/\a.toNat<240/\(a.toNat=224->lo=160)/\(a.toNat=237->hi=159))\/(n=4/\eM a=4/\240<=a.toNat/\a.toNat<245/\(a.toNat=240->lo=144)/\(a.toNat=244->hi=143))) /\
  ∀ b:UInt8,(b.toNat<128\/192<=b.toNat\/wL a b=gc) ↔ ((b.toNat:Int)<lo\/hi<(b.toNat:Int)):=by
 have c:(a=224) ↔ a.toNat=224:=by rw[<-UInt8.toNat_inj]; rfl
 have f:(a=237) ↔ a.toNat=237:=by rw[<-UInt8.toNat_inj]; rfl
 have g:(a=240) ↔ a.toNat=240:=by rw[<-UInt8.toNat_inj]; rfl
 have i:(a=244) ↔ a.toNat=244:=by rw[<-UInt8.toNat_inj]; rfl
 unfold wL eM;simp only[c,f,g,i];unfold jY at h;generalize a.toNat=k at h ⊢
 repeat' split at h
 all_goals first
  |cases h
   done
  |skip
 all_goals
  simp only[i5,i6]at h;obtain⟨rfl,rfl,rfl⟩:=h;refine⟨by omega,by omega,by omega,?_,fun b=>?_⟩
 all_goals first
  |(repeat' split)<;>omega
  |(repeat' split)<;>(try simp only[decide_eq_false_iff_not,reduceCtorEq,or_false])<;>omega
def Hm(a:Nat):Bool:=match jY a with
 |none=>ge (a<128)||(ge (Qn (UInt8.ofNat a)=65533)&&ge (eM (UInt8.ofNat a)=0))
 |some _=>bv
def LF:(List.range 256).all Hm=true:=by kernel_rfl
def yB{a:UInt8}(h:jY a.toNat=bi)(f:128<=a.toNat):eM a=0/\(∀ r,gz (a::r)=bv)/\∀ r,lK (a::r)=(65533,1):=by have c:=zD3.1 LF a.toNat (zF5.2 a.toNat_lt);have b:=zD3.1 BZ a.toNat (zF5.2 a.toNat_lt);rw[Hm,h,UInt8.ofNat_toNat]at c;rw[B2,h]at b;simp only[zA7,zG3,decide_eq_true_eq]at b c;obtain⟨o,s⟩:=c.resolve_left li;refine⟨s,fun r=>pI (by have:eS a<=1:=b.2; omega),fun r=>?_⟩;rw[lK,decide_eq_false li,gj,decide_eq_true b.1,o];rfl
def JA{a:UInt8}(h:128<=a.toNat)(b:a.toNat<194):jY a.toNat=none:=by unfold jY; rw[if_pos b]
def D2{a:UInt8}{s:List UInt8}(h:a≠27):(a::s).headD 0≠27:=h
def n27{a:UInt8}(h:128<=a.toNat):a≠27:=by rintro rfl; exact absurd h mt
def Ma{x:Tm}{a:UInt8}{s:List UInt8}(h:jY a.toNat=bi)(b:128<=a.toNat):FF cI x (a::s)=FF cI x s:=by refine lO lw (k:=1) ?_ mt;rw[qL,if_neg (D2 (n27 b)),Tm.eO];rw[show (a::s).headD 0=a from rfl,(yB h b).1];rfl
def EJ:∀(r:List UInt8)(a:UInt8)(k i:Nat)(s:List UInt8),2<=i->(∀ c∈r,128<=c.toNat/\c.toNat<192)->r.length<=k->fE a k i (r++s)=fE a (k-r.length) (i+r.length) s
 |[],_,_,_,_,_,_,_=>rfl
 |c::r,a,0,i,s,_,_,b=>by simp at b
 |c::r,a,k+1,i,s,hi,f,b=>by have h:=f c lw;rw[zG1,fE,if_neg li,EJ r a k (i+1) s li (fun q g=>f q (by simp[g])) (by simpa using b),zA3];rw[show k+1-(r.length+1)=k-r.length by omega,show i+1+r.length=i+(r.length+1) by omega]
def tV{a:UInt8}{n lo hi:Int}(f:jY a.toNat=ap (n,lo,hi)){r:List UInt8}(g:G5 lo hi r)(k:Nat)(s:List UInt8)(c:r.length<=k):fE a k 1 (r++s)=fE a (k-r.length) (1+r.length) s:=by
 cases r with
 |nil=>rfl
 |cons b r =>
  obtain⟨k,rfl⟩:∃ j,k=j+1:=⟨k-1,by simp only[zA3]at c; omega⟩
  obtain⟨q,t,i⟩:=g;obtain⟨u,v,w,_,l⟩:=pY f;have o:¬(b.toNat<128\/192<=b.toNat\/(1=1/\wL a b=gc)):=fun h=>by have:=(l b).1 (by simpa using h);omega
  rw[zG1,fE,if_neg o,EJ r a k 2 s (zA5 _) i (by simpa using c),zA3];rw[show k+1-(r.length+1)=k-r.length by omega,show 1+(r.length+1)=2+r.length by omega]
def Pk{a:UInt8}{r:List UInt8}{n lo hi:Int}(z:jY a.toNat=ap (n,lo,hi))(k:G5 lo hi r)(f:((r.length+1:Nat):Int)=n):(mj (a::r)).2=n:=by
 obtain⟨F,G,H,A,_⟩:=pY z;have l:bt (a::r) 0=(a.toNat:Int):=rfl;have o:ge (bt (a::r) 0<128)=false:=decide_eq_false li
 rcases A with⟨rfl,_,w1,u⟩|⟨rfl,_,w1,u,B,C⟩|⟨rfl,_,w1,u,B,C⟩
 .rcases r with _|⟨b,_|⟨c,r⟩⟩
  .simp at f
  .obtain⟨v,w,_⟩:=k;have g:bt (a::[b]) 1=(b.toNat:Int):=rfl;have h:tl (a::[b]) 1=true:=by unfold tl; rw[g]; simp; omega
   unfold mj;rw[o,h,l,decide_eq_true (show (194:Int)<=a.toNat by omega),decide_eq_true (show (a.toNat:Int)<224 by omega)];rfl
  .simp only[zA3]at f; omega
 .rcases r with _|⟨b,_|⟨c,_|⟨q,r⟩⟩⟩
  .simp at f
  .simp at f
  .obtain⟨v,w,j⟩:=k;have D:=j c lw;have g:bt (a::[b,c]) 1=(b.toNat:Int):=rfl;have i:bt (a::[b,c]) 2=(c.toNat:Int):=rfl;have h:tl (a::[b,c]) 1=true:=by unfold tl; rw[g]; simp; omega
   have s:tl (a::[b,c]) 2=true:=by unfold tl; rw[i]; simp; omega
   unfold mj;rw[o,h,s,l,g,i,decide_eq_false (show ¬(a.toNat:Int)<224 by omega),decide_eq_true (show (224:Int)<=a.toNat by omega),decide_eq_true (show (a.toNat:Int)<240 by omega)];have t:(ge (2048<=(((a.toNat:Int)-224)*64+(b.toNat:Int)-128)*64+(c.toNat:Int)-128)&&Go.Proofs.YtpohjcacnkhnkaaGreatDoor.rj ((((a.toNat:Int)-224)*64+(b.toNat:Int)-128)*64+(c.toNat:Int)-128))=true:=by unfold Go.Proofs.YtpohjcacnkhnkaaGreatDoor.rj;simp only[zA7,decide_eq_true_eq,Bool.not_eq_true',Bool.and_eq_false_iff,decide_eq_false_iff_not];omega
   rw[t];simp
  .simp only[zA3]at f; omega
 .rcases r with _|⟨b,_|⟨c,_|⟨q,_|⟨y,r⟩⟩⟩⟩
  .simp at f
  .simp at f
  .simp at f
  .obtain⟨v,w,j⟩:=k;have D:=j c lw;have I:=j q lw;have g:bt (a::[b,c,q]) 1=(b.toNat:Int):=rfl;have i:bt (a::[b,c,q]) 2=(c.toNat:Int):=rfl;have x:bt (a::[b,c,q]) 3=(q.toNat:Int):=rfl;have h:tl (a::[b,c,q]) 1=true:=by unfold tl; rw[g]; simp; omega
   have s:tl (a::[b,c,q]) 2=true:=by unfold tl; rw[i]; simp; omega
   have E:tl (a::[b,c,q]) 3=true:=by unfold tl; rw[x]; simp; omega
   unfold mj;rw[o,h,s,E,l,g,i,x,decide_eq_false (show ¬(a.toNat:Int)<224 by omega),decide_eq_false (show ¬(a.toNat:Int)<240 by omega),decide_eq_true (show (240:Int)<=a.toNat by omega),decide_eq_true (show (a.toNat:Int)<245 by omega)];have t:(ge (65536<=((((a.toNat:Int)-240)*64+(b.toNat:Int)-128)*64+(c.toNat:Int)-128)*64+(q.toNat:Int)-128)&&Go.Proofs.YtpohjcacnkhnkaaGreatDoor.rj (((((a.toNat:Int)-240)*64+(b.toNat:Int)-128)*64+(c.toNat:Int)-128)*64+(q.toNat:Int)-128))=true:=by unfold Go.Proofs.YtpohjcacnkhnkaaGreatDoor.rj;simp only[zA7,decide_eq_true_eq,Bool.not_eq_true',Bool.and_eq_false_iff,decide_eq_false_iff_not];omega
   rw[t];simp
  .simp only[zA3]at f; omega
def LD{l:List UInt8}(a:l≠[])(h:(mj l).2=((l.length:Nat):Int)):nZ l=ap [(mj l).1]:=by have b:=List.length_pos_iff.2 a;rw[mu l b,if_neg li,h,Int.toNat_natCast,List.drop_length,o6];rfl
def Bd{x:Tm}{e:List UInt8}(s:List UInt8)(b:e≠[])(h:(mj e).2=((e.length:Nat):Int))(i:eM (e.headD 0)=e.length)(c:e.headD 0≠27)(j:fE (e.headD 0) (e.length-1) 1 (e.drop 1++s)=bi) :
  P1 e (mj e).1/\FF cI x (e++s)=FF cI (x.character cI (mj e).1) s:=by
 have n:=List.length_pos_iff.2 b;have f:=Qs e b li;rw[h,Int.toNat_natCast,List.take_length]at f;refine⟨f,?_⟩;have dK:e++s≠[]:=by simp[b]
 have g:(e++s).headD 0=e.headD 0:=by cases e with|nil=>exact absurd rfl b|cons a r=>rfl
 have k:(e++s).drop 1=e.drop 1++s:=by cases e with|nil=>exact absurd rfl b|cons a r=>rfl
 have l:qL cI x (e++s)=(e.length,x.character cI (mj e).1):=by rw[qL,g,if_neg c,Tm.eO,g,i,k,j];simp only;rw[if_neg li,List.take_left,atR,LD b h];rfl
 rw[lO dK l li,List.drop_left]
def AD{t:Tm}{e:List UInt8}{c:Int}(a:t.rest=e)(b:P1 e c)(f:e.headD 0≠27)(k:Nat):Tm.drain cI (k+1) t=({t.character cI c with rest:=[]},0):=by
 have h:cI.dec t.rest=(c,e.length):=by rw[a]; exact b.dec
 have i:c≠65533\/e.length>1:=b.big;rw[Tm.drain,if_pos ⟨by rw[a]; exact b.ne,by rw[a]; exact b.full⟩,if_neg (by rw[a]; exact f),h];simp only;have g:((t.character cI c).rest.drop e.length)=[]:=by rw[(iG cI t c).1,a,List.drop_length]
 rw[if_pos i,g,zV rfl]
def tH{t:Tm}{a:UInt8}{r:List UInt8}(b:t.rest=a::r)(g:gz (a::r)=bv)(h:lK (a::r)=(65533,1))(c:a≠27)(k:Nat):Tm.drain cI (k+1) t=Tm.drain cI k {t with rest:=r}:=by
 have f:cI.dec t.rest=(65533,1):=by rw[b]; exact h
 rw[Tm.drain,if_pos ⟨by rw[b]; simp,by rw[b]; exact g⟩,if_neg (by rw[b]; exact c),f];simp only;rw[if_neg mt,b];rfl
def KQ:∀(g:List UInt8)(c:UInt8)(k:Nat)(x:Tm)(M:Nat)(P:List UInt8)(D:Bool)(E:UInt8),(∀ b∈g,128<=b.toNat/\b.toNat<192) ->
  Tm.drain cI (k+g.length) (x.wt M (g++[c]) P D E)=Tm.drain cI k (x.wt M [c] P D E)/\∀ s,FF cI x (g++c::s)=FF cI x (c::s)
 |[],_,_,_,_,_,_,_,_=>⟨rfl,fun _=>rfl⟩
 |b::g,c,k,x,M,P,D,E,h=>by
  obtain⟨f,u⟩:=h b lw;have i:=JA f li;obtain⟨_,j,l⟩:=yB i f;obtain⟨n,o⟩:=KQ g c k x M P D E (fun q t=>h q (by simp[t]));refine⟨?_,fun s=>?_⟩
  .rw[zA3,<-Nat.add_assoc,tH (a:=b) (r:=g++[c]) rfl (j _) (l _) (n27 f)];exact n
  .rw[zG1,Ma i f,o]
def QI(p:List UInt8):Prop:=p=[]\/∃ a r n lo hi,p=a::r/\jY a.toNat=ap (n,lo,hi)/\((r.length+1:Nat):Int)<n/\G5 lo hi r
def DL{p:List UInt8}(h:QI p):gz p=false:=by
 rcases h with rfl|⟨a,r,n,lo,hi,rfl,f,i,g⟩
 .rfl
 .obtain⟨o,q,s,t,_⟩:=pY f;rw[lq f i]
  rcases r with _|⟨b,_|⟨c,r⟩⟩
  .rfl
  .obtain⟨j,k,_⟩:=g;rw[lA,decide_eq_false li,decide_eq_false li];rfl
  .obtain⟨j,k,l⟩:=g;have:=l c lw;rw[lA,decide_eq_false (show ¬(b.toNat:Int)<lo by omega),decide_eq_false (show ¬hi<(b.toNat:Int) by omega),decide_eq_false li,decide_eq_false li];rfl
def M3{p:List UInt8}(h:QI p)(x:Tm):FF cI x p=x:=by
 rcases h with rfl|⟨a,r,n,lo,hi,rfl,b,i,c⟩
 .rfl
 .obtain⟨f,k,l,o,_⟩:=pY b;have q:(eM a:Int)=n:=by omega
  refine rB lw ?_;rw[qL,if_neg (D2 (n27 f)),Tm.eO];rw[show (a::r).headD 0=a from rfl,show (a::r).drop 1=r++[] by simp,tV b c _ _ li]
  obtain⟨j,g⟩:∃ j,eM a-1-r.length=j+1:=⟨eM a-1-r.length-1,by omega⟩
  rw[g];rfl
def PD(p a:List UInt8)(m:Nat):Prop:=(m=0/\p=a/\QI a)\/(m=1/\p=[]/\a=[27])
def xR(c:UInt8)(k:Nat)(x:Tm)(M:Nat)(P:List UInt8)(D:Bool)(E:UInt8) :
  ∃ g q h m,Tm.drain cI (k+2) (x.wt M [c] P D E)=(g.wt M q P D E,m)/\PD q h m/\∀ s,FF cI x (c::s)=FF cI g (h++s):=by
 by_cases b:c=27
 .subst b;refine⟨x,[],[27],1,?_,.inr ⟨rfl,rfl,rfl⟩,fun s=>rfl⟩;rw[Tm.drain,if_pos ⟨by simp[Tm.wt],(Bn (a:=27) mt).full⟩,if_pos (show (x.wt M [27] P D E).rest.headD 0=27 from rfl)];rfl
 by_cases j:c.toNat<128
 .have l:(mj [c]).2=(([c].length:Nat):Int):=by
   unfold mj;rw[show bt [c] 0=(c.toNat:Int) from rfl,decide_eq_true li];rfl
  have o:eM c=1:=by unfold eM; rw[if_pos j]
  have i:=fun s=>Bd (x:=x) (e:=[c]) s lw l o b rfl;refine⟨x.character cI (mj [c]).1,[],[],0,?_,.inl ⟨rfl,rfl,.inl rfl⟩,fun s=>(i s).2⟩;rw[AD (t:=x.wt M [c] P D E) rfl (i []).1 b,sx];rfl
 cases f:jY c.toNat with
 |none =>obtain⟨_,u,v⟩:=yB f li;refine⟨x,[],[],0,?_,.inl ⟨rfl,rfl,.inl rfl⟩,fun s=>Ma f li⟩;rw[tH (a:=c) (r:=[]) rfl (u _) (v _) b,zV rfl];rfl
 |some q =>obtain⟨n,lo,hi⟩:=q;obtain⟨w,y,z,A,_⟩:=pY f;have hi:QI [c]:=.inr ⟨c,[],n,lo,hi,rfl,f,by simp only[zB0]; omega,trivial⟩;refine⟨x,[c],[c],0,?_,.inl ⟨rfl,rfl,hi⟩,fun s=>rfl⟩;exact DE (DL hi) _
def Gf{p:List UInt8}(h:QI p)(c:UInt8)(x:Tm)(M:Nat)(P:List UInt8)(D:Bool)(E:UInt8) :
  ∃ B q C m,(x.wt M p P D E).plain cI c=(B.wt M q P D E,m)/\PD q C m/\∀ s,FF cI x (p++c::s)=FF cI B (C++s):=by
 rcases h with rfl|⟨a,r,n,lo,hi,rfl,k,H,I⟩
 .exact xR c 0 x M P D E
 obtain⟨F,v2,v3,v4,U⟩:=pY k;have hz:(eM a:Int)=n:=by omega
 by_cases f:G5 lo hi (r++[c])
 .by_cases l:((r.length+2:Nat):Int)<n
  .have hi:QI (a::r++[c]):=.inr ⟨a,r++[c],n,lo,hi,rfl,k,by rw[zB2]; exact l,f⟩;refine⟨x,a::r++[c],a::r++[c],0,?_,.inl ⟨rfl,rfl,hi⟩,fun s=>by rw[zC9]; rfl⟩;exact DE (DL hi) _
  .have v:(((r++[c]).length+1:Nat):Int)=n:=by rw[zB2]; simp only[zA3,zB0]; omega
   have V:=Pk k f v
   have R:=fun s=>Bd (x:=x) (e:=a::(r++[c])) s lw (by rw[V,<-v]; rfl) (by rw[zA3]; show eM a=_; omega) (n27 F) (by
    rw[zA3,show (a::(r++[c])).drop 1=r++[c] from rfl,show (a::(r++[c])).headD 0=a from rfl,Nat.add_sub_cancel,tV k f _ _ (zA5 _),zG0]
    rfl)
   refine⟨x.character cI (mj (a::(r++[c]))).1,[],[],0,?_,.inl ⟨rfl,rfl,.inl rfl⟩,fun s=>?_⟩
   .have:=AD (t:=x.wt M (a::(r++[c])) P D E) rfl (R []).1 (n27 F) ((a::r).length+1);rw[sx]at this;exact this
   .have:=(R s).2;rw[zG1,zC9]at this;exact this
 .have J:r.length<=2:=by omega
  have w:(c.toNat<128\/192<=c.toNat\/(1+r.length=1/\wL a c=gc))/\(r=[]->(c.toNat:Int)<lo\/hi<(c.toNat:Int))/\(r≠[]->c.toNat<128\/192<=c.toNat):=by
   cases r with
   |nil =>
    have G:(c.toNat:Int)<lo\/hi<(c.toNat:Int):=by have:¬(lo<=(c.toNat:Int)/\(c.toNat:Int)<=hi):=fun h=>f ⟨h.1,h.2,fun q hq=>by cases hq⟩;omega
    refine⟨?_,fun _=>G,fun h=>absurd rfl h⟩;have:=(U c).2 G;simpa using this
   |cons b r =>
    obtain⟨S,T,K⟩:=I
    have G:c.toNat<128\/192<=c.toNat:=by
     have:¬(128<=c.toNat/\c.toNat<192):=fun h=>f ⟨S,T,fun q hq=>by
      rcases zB4.1 hq with hq|hq
      .exact K q hq
      .rw[zA6.1 hq]; exact h⟩
     omega
    exact⟨by omega,(fun h=>by cases h),fun _=>G⟩
  obtain⟨L,y,o⟩:=w
  have g:∀ b∈r,128<=b.toNat/\b.toNat<192:=by
   cases r with
   |nil=>intro b W; cases W
   |cons b r =>
    obtain⟨S,T,K⟩:=I;intro q hq;rcases zA9.1 hq with rfl|hq
    .omega
    .exact K q hq
  obtain⟨f0,z,X,Y⟩:=ot k
  have u:gz (a::(r++[c]))=true:=by
   by_cases l:((r.length+2:Nat):Int)<n
   .rw[lq k (by rw[zB2]; exact l)]
    rcases r with _|⟨b,_|⟨N,r⟩⟩
    .rw[zD0,lA];rcases y rfl with h|h
     .rw[decide_eq_true h]; rfl
     .rw[decide_eq_true h,zF8]; rfl
    .have:=o lw;show lA lo hi [b,c]=bv;rw[lA]
     cases (ge ((b.toNat:Int)<lo)||ge (hi<(b.toNat:Int))) with
     |true=>rfl
     |false =>rw[cond_false];simp only[zG3,decide_eq_true_eq];omega
    .simp only[zA3]at l; omega
   .exact pI (by rw[z,zB2]; simp only[zA3,zB0]; omega)
  have A:lK (a::(r++[c]))=(65533,1):=by
   rw[lK,decide_eq_false (show ¬(a.toNat:Int)<128 by omega),cond_false,gj,decide_eq_false (show ¬240<=ck a.toNat by omega),cond_false,z];by_cases l:((r.length+2:Nat):Int)<n
   .rw[decide_eq_true (by rw[zB2]; exact l)]; rfl
   .rw[decide_eq_false (by rw[zB2]; exact l),cond_false]
    rcases r with _|⟨b,_|⟨N,_|⟨b3,r⟩⟩⟩
    .have i:L8 a c=true:=by
      unfold L8;rw[X,Y];simp only[zG3,decide_eq_true_eq];exact y rfl
     show iW a [c]=_;rw[iW,i]; rfl
    .have O:=o lw;have i:FR c=true:=by unfold FR; simp only[zG3,decide_eq_true_eq]; omega
     show iW a [b,c]=_;rw[iW]
     cases L8 a b with
     |true=>rfl
     |false =>rw[cond_false,z,decide_eq_false (by simp only[zA3,zB0]at H; omega),cond_false,lP,i];rfl
    .have O:=o lw;have i:FR c=true:=by unfold FR; simp only[zG3,decide_eq_true_eq]; omega
     show iW a [b,N,c]=_;rw[iW]
     cases L8 a b with
     |true=>rfl
     |false =>
      rw[cond_false,z,decide_eq_false (by simp only[zA3,zB0]at H; omega),cond_false,lP]
      cases FR N with
      |true=>rfl
      |false =>rw[cond_false,z,decide_eq_false (by simp only[zA3,zB0]at H; omega),cond_false,pd,i];rfl
    .simp only[zA3]at J; omega
  have Q:∀ s,FF cI x (a::r++c::s)=FF cI x (c::s):=fun s=>by
   have dK:a::r++c::s≠[]:=by simp
   have Z:qL cI x (a::r++c::s)=(1,x):=by
    rw[qL,if_neg (show (a::r++c::s).headD 0≠27 from n27 F),Tm.eO];rw[show (a::r++c::s).headD 0=a from rfl,show (a::r++c::s).drop 1=r++c::s from rfl,tV k I _ _ li]
    obtain⟨j,hj⟩:∃ j,eM a-1-r.length=j+1:=⟨eM a-1-r.length-1,by omega⟩
    rw[hj,fE,if_pos L]
   rw[lO dK Z mt];exact (KQ r c 0 x 0 [] gc 0 g).2 s
  obtain⟨B,q,C,m,k1,k2,k3⟩:=xR c 0 x M P D E;refine⟨B,q,C,m,?_,k2,fun s=>(Q s).trans (k3 s)⟩;show Tm.drain cI ((a::r).length+2) (x.wt M (a::(r++[c])) P D E)=_;rw[zA3,show r.length+1+2=(2+r.length)+1 by omega,tH (a:=a) (r:=r++[c]) rfl u A (n27 F)];exact ((KQ r c 2 x M P D E g).1).trans k1
end Go.Proofs.YtpohjcacnkhnkaaGreatDoor.Tq
