/- Parts of the proof, one behind the other. -/
import Derived.Test.YtpohjcacnkhnkaaGreatDoorM6
import Derived.Test.YtpohjcacnkhnkaaGreatDoorM3
import Derived.Test.YtpohjcacnkhnkaaGreatDoorM4
import Derived.Test.YtpohjcacnkhnkaaGreatDoorRows
import Derived.Shelf.Unicode.ValidAny
import Derived.Lib.ValidLaws
import Derived.Lib.TrimUEq
set_option linter.all false
set_option maxRecDepth 10000
set_option maxHeartbeats 16000000
open Option renaming some->a9,none->bi
open Bool renaming true->bv,false->ci
open Decidable renaming decide->f7
open Go renaming Value->go,TypeId->io,Program->ip,World->i6,Operand->i7
open Option.some renaming injEq->i8
open Prod.mk renaming injEq->i9
open Go.Value renaming int->jp,pointer->li,slice->lm,bool->ls
open Go.IntKind renaming i64->kw
open And renaming intro -> zA0
open Option renaming bind_eq_bind -> zA1, bind_eq_some_iff -> zA2, bind_some -> zA3, map_some -> zB2, map_eq_some_iff -> zB5, getD_some -> zH9
open Nat renaming le_refl -> zA4, le_of_ble_eq_true -> zA7, zero_le -> zB7, lt_or_ge -> zC0, zero_add -> zC2, le_trans -> zC4, add_zero -> zD5, lt_of_lt_of_le -> zE0, ble_eq -> zE8, mul_one -> zF0, lt_succ_self -> zF3, le_of_eq -> zF6, min -> zF9, add_sub_cancel_left -> zG2, sub_self -> zG8, min_eq_left -> zH0, zero_mul -> zH1
open List renaming mem_singleton -> zA5, mem_cons -> zA8, length_cons -> zA9, getElem?_eq_getElem -> zB0, mem_append -> zB1, length_append -> zB3, length_nil -> zB4, nil_append -> zB6, map_cons -> zB8, mem_cons_of_mem -> zB9, mem_map -> zC1, all_eq_true -> zC3, mem_of_getElem? -> zC5, length_drop -> zC6, append_nil -> zC7, append_assoc -> zC8, getD_eq_getElem?_getD -> zC9, drop_zero -> zD0, getElem?_eq_none -> zD3, take_of_length_le -> zD4, nodup_cons -> zD6, not_mem_nil -> zD7, length_take -> zD9, length_map -> zE1, mem_of_mem_take -> zE2, cons_append -> zE3, mem_of_mem_drop -> zE4, eq_nil_of_length_eq_zero -> zE5, nodup_append -> zE6, map_nil -> zE7, drop_eq_nil_of_le -> zE9, length_replicate -> zF1, mem_cons_self -> zF2, getElem?_eq_some_iff -> zF5, mem_range -> zF7, mem_append_left -> zF8, getElem?_map -> zG0, getElem?_cons_zero -> zG1, mem_flatMap -> zG3, take_add_one -> zG4, getElem?_append_right -> zG5, mem_append_right -> zG6, take_append_drop -> zG9, take_length -> zH2, drop_drop -> zH3, drop_eq_getElem_cons -> zH4, eq_of_mem_replicate -> zH6, getElem?_cons_succ -> zH8, length_singleton -> zI0
open Bool renaming and_eq_true -> zA6, not_true -> zD1, false_eq_true -> zD2, and_self -> zD8, not_false -> zF4, or_eq_true -> zH5, or_false -> zH7
open Int renaming toNat_natCast -> zG7
namespace Go.Proofs.YtpohjcacnkhnkaaGreatDoor.Tq
open Go.Ax
abbrev Ku(n:Int):Int:=IntKind.i32.wrap n
def fK(a:UInt8):Int:=IntKind.i64.wrap (eQ .u8 (cF a.toNat) 7)
def TX(a:UInt8):Int:=jC .i32 (yg .i32 (Ku (cF a.toNat)) 31) 31
def Vo(a:UInt8):Int:=vw .i32 (S2 .i32 (Ku (a.toNat:Int)) (TX a)) (eQ .i32 65533 (TX a))
def Uy(a b:UInt8):Int:=vw .i32 (yg .i32 (Ku (eQ .u8 (a.toNat:Int) 31)) 6) (Ku (eQ .u8 (b.toNat:Int) 63))
def US(a b c:UInt8):Int:=vw .i32 (vw .i32 (yg .i32 (Ku (eQ .u8 (a.toNat:Int) 15)) 12) (yg .i32 (Ku (eQ .u8 (b.toNat:Int) 63)) 6)) (Ku (eQ .u8 (c.toNat:Int) 63))
def UJ(a b c d:UInt8):Int:=vw .i32 (vw .i32 (vw .i32 (yg .i32 (Ku (eQ .u8 (a.toNat:Int) 7)) 18) (yg .i32 (Ku (eQ .u8 (b.toNat:Int) 63)) 12)) (yg .i32 (Ku (eQ .u8 (c.toNat:Int) 63)) 6)) (Ku (eQ .u8 (d.toNat:Int) 63))
def Uc(a b:UInt8):Bool:=f7 ((b.toNat:Int)<iY ((jC .u8 (cF a.toNat) 4).toNat*2))||f7 (iY ((jC .u8 (cF a.toNat) 4).toNat*2+1)<(b.toNat:Int))
def RM(c:UInt8):Bool:=f7 ((c.toNat:Int)<128)||f7 (191<(c.toNat:Int))
def sg(a b c:UInt8):List UInt8->Int × Nat
 |[]=>(65533,1)
 |d::_=>cond (RM d) (65533,1) (UJ a b c d,4)
def pV(a b:UInt8):List UInt8->Int × Nat
 |[]=>(65533,1)
 |c::r=>cond (RM c) (65533,1) (cond (f7 (fK a<=3)) (US a b c,3) (sg a b c r))
def pE(a:UInt8):List UInt8->Int × Nat
 |[]=>(65533,1)
 |b::r=>cond (Uc a b) (65533,1) (cond (f7 (fK a<=2)) (Uy a b,2) (pV a b r))
def jE:List UInt8->Int × Nat
 |[]=>(65533,0)
 |a::r=>cond (f7 (240<=cF a.toNat)) (Vo a,1) (cond (f7 (((r.length+1:Nat):Int)<fK a)) (65533,1) (pE a r))
def qI:List UInt8->Int × Nat
 |[]=>(65533,0)
 |a::r=>cond (f7 ((a.toNat:Int)<128)) ((a.toNat:Int),1) (jE (a::r))
def OY{a:UInt8}(h:¬240<=cF a.toNat):2<=fK a/\fK a<=4:=by
 have b:=EG a.toNat_lt
 rcases b.sz with c|⟨e,f⟩
 .exact absurd c h
 .have:=aR (n:=eQ .u8 (cF a.toNat) 7) lw lw;unfold fK;rw[show IntKind.i64.wrap (eQ .u8 (cF a.toNat) 7)=_ from this];exact⟨e,f⟩
def R6(a b c:UInt8)(r:List UInt8):1<=(sg a b c r).2/\(sg a b c r).2<=r.length+3:=by
 cases r with
 |nil=>simp[sg]
 |cons d r=>simp only[sg,zA9]; cases RM d<;>simp<;>omega
def SY(a b:UInt8)(r:List UInt8):1<=(pV a b r).2/\(pV a b r).2<=r.length+2:=by
 cases r with
 |nil=>simp[pV]
 |cons c r =>have:=R6 a b c r;simp only[pV,zA9];cases RM c<;>cases f7 (fK a<=3)<;>simp<;>omega
def SJ(a:UInt8)(r:List UInt8):1<=(pE a r).2/\(pE a r).2<=r.length+1:=by
 cases r with
 |nil=>simp[pE]
 |cons b r =>have:=SY a b r;simp only[pE,zA9];cases Uc a b<;>cases f7 (fK a<=2)<;>simp<;>omega
def OO(l:List UInt8)(h:l≠[]):1<=(qI l).2/\(qI l).2<=l.length:=by
 cases l with
 |nil=>exact absurd rfl h
 |cons a r =>have:=SJ a r;simp only[qI,jE,zA9];cases f7 ((a.toNat:Int)<128)<;>cases f7 (240<=cF a.toNat)<;>cases f7 (((r.length+1:Nat):Int)<fK a)<;>simp<;>omega
def T0(n:Int):Prop:=-2147483648<=n/\n<=2147483647
def wrap32(n:Int):T0 (IntKind.i32.wrap n):=by simp only[T0,IntKind.wrap,IntKind.signed,IntKind.bits];simp;omega
def Ky(a b:Int):T0 (vw .i32 a b):=wrap32 _
def Tf(l:List UInt8):T0 (qI l).1:=by
 have e:T0 65533:=⟨by decide,by decide⟩
 have f:∀ a b c r,T0 (sg a b c r).1:=fun a b c r=>by
  cases r with
  |nil=>exact e
  |cons d r=>simp only[sg]; cases RM d; exact Ky _ _; exact e
 have h:∀ a b r,T0 (pV a b r).1:=fun a b r=>by
  cases r with
  |nil=>exact e
  |cons c r=>simp only[pV]; cases RM c; cases f7 (fK a<=3); exact f a b c r; exact Ky _ _; exact e
 have j:∀ a r,T0 (pE a r).1:=fun a r=>by
  cases r with
  |nil=>exact e
  |cons b r=>simp only[pE]; cases Uc a b; cases f7 (fK a<=2); exact h a b r; exact Ky _ _; exact e
 cases l with
 |nil=>exact e
 |cons a r =>
  simp only[qI,jE];cases f7 ((a.toNat:Int)<128)
  .cases f7 (240<=cF a.toNat)
   .cases f7 (((r.length+1:Nat):Int)<fK a)
    .exact j a r
    .exact e
   .exact Ky _ _
  .have:=a.toNat_lt;exact⟨by simp only[cond_true]; omega,by simp only[cond_true]; omega⟩
def Us(H:aa)(v:go)(l:List UInt8)(h:cW H v l)(hlt:∀ n∈ae v,n<H.next)(ht:ti H)(hl:l≠[])(s:l.length<1000000):Pure 112 [v] H (.tuple ⟨[.int .i32 (jE l).1,jp kw ((jE l).2:Int)]⟩):=by
 obtain⟨b,O⟩:=ac H.next;obtain⟨av,e⟩:=h.sl;obtain⟨a,r,rfl⟩:∃ a r,l=a::r:=by cases l with|nil=>exact absurd rfl hl|cons a r=>exact⟨a,r,rfl⟩
 obtain⟨L,hL⟩:=ac ((a::r).length);have z:L=r.length+1:=by rw[<-hL]; rfl
 rw[hL]at e;obtain⟨n0,o0,i0,m0,C⟩:=h.get (k:=0) (c:=a) rfl;rw[e,show ((0:Nat):Int)=0 from rfl]at i0;have t0:n0<b:=O▸hlt n0 m0;have fo:=EG a.toNat_lt;have D:=ht.f a.toNat a.toNat_lt;have l0:0<b:=O▸ht.l0;have l1:1<b:=O▸ht.l1;have F:=Vq (a:=a);have I:=Vr fo.i0 fo.i1;have A:=ht.a (jC .u8 (cF a.toNat) 4).toNat (by have:=fo.i0; have:=fo.i1; omega);have J:∀(X:aa)(k:IntKind)(m:Int),bB Tryz.prog X 5 3 (.int k m)=a9 (jp kw (IntKind.i64.wrap m),X):=fun X k m=>gF (u:=.int .u8) m9 m9;have V:∀(X:aa)(k:IntKind)(m:Int),bB Tryz.prog X 5 21 (.int k m)=a9 (.int .i32 (IntKind.i32.wrap m),X):=fun X k m=>gF (u:=.int .u8) m9 m9;have dz:f7 ((L:Int)<1)=false:=decide_eq_false lw
 obtain⟨d240,j⟩:∃ d,f7 (240<=cF a.toNat)=d:=⟨_,rfl⟩
 obtain⟨dn,hdn⟩:∃ d,f7 ((L:Int)<fK a)=d:=⟨_,rfl⟩
 have w:=hdn;unfold fK at w;have key:jE (a::r)=cond d240 (Vo a,1) (cond dn (65533,1) (pE a r)):=by simp only[jE,j,<-z,hdn]
 rw[key];refine bA mixed Tryz.func112 rfl Tryz.ntmps112 (zA7 rfl) fun wf hsc=>?_;have o:H.base<=b:=O▸wf.base;rw[e]
 cases d240 with
 |true =>simp only[O,dz,i0,t0,C,F,l0,D,j,ml,fQ,HG,p7,Qc,JP,Lt,yv,mh,fU,bp,V,seval,cond_true,Tryz.results112,zW];exact Fin.cf rfl rfl
 |false =>
  have hsz:=OY (a:=a) (fun h=>by have:=j.symm.trans (decide_eq_true h); simp at this)
  cases dn with
  |true =>simp only[O,o,dz,i0,t0,C,F,l0,l1,D,j,w,ml,fQ,mh,fU,bp,J,I,A,seval,cond_true,cond_false,Tryz.results112,zW];exact Fin.cf rfl rfl
  |false =>
   have hLn:fK a<=(L:Int):=by have:=of_decide_eq_false hdn; omega
   match r,h,hl,s,hL,z with
   |[],h,hl,s,hL,z=>simp at z; omega
   |b1::r1,h,hl,s,hL,z =>
    obtain⟨n1,o1,i1,m1,R⟩:=h.get (k:=1) (c:=b1) rfl;rw[e,show ((1:Nat):Int)=1 from rfl]at i1;have t1:n1<b:=O▸hlt n1 m1
    obtain⟨dA,K⟩:∃ d,f7 ((b1.toNat:Int)<iY ((jC .u8 (cF a.toNat) 4).toNat*2))=d:=⟨_,rfl⟩
    obtain⟨dB,S⟩:∃ d,f7 (iY ((jC .u8 (cF a.toNat) 4).toNat*2+1)<(b1.toNat:Int))=d:=⟨_,rfl⟩
    obtain⟨s2,hs2⟩:∃ d,f7 (fK a<=2)=d:=⟨_,rfl⟩
    have B:=hs2;unfold fK at B;simp only[pE,Uc,K,S,hs2]
    cases dA with
    |true =>simp only[O,o,dz,i0,t0,C,F,l0,l1,D,j,w,ml,fQ,mh,fU,bp,J,I,A,seval,cond_true,cond_false,i1,t1,R,K,Bool.true_or,Tryz.results112,zW];exact Fin.cf rfl rfl
    |false =>
    cases dB with
    |true =>simp only[O,o,dz,i0,t0,C,F,l0,l1,D,j,w,ml,fQ,mh,fU,bp,J,I,A,seval,cond_true,cond_false,i1,t1,R,K,S,Bool.or_true,Tryz.results112,zW];exact Fin.cf rfl rfl
    |false =>
    cases s2 with
    |true =>simp only[O,o,dz,i0,t0,C,F,l0,l1,D,j,w,ml,fQ,HG,p7,Lt,yv,mh,fU,bp,J,V,I,A,seval,cond_true,cond_false,i1,t1,R,K,S,B,zH7,Tryz.results112,zW];exact Fin.cf rfl rfl
    |false =>
    have hs3:3<=fK a:=by have:=of_decide_eq_false hs2; omega
    match r1,h,hl,s,hL,z with
    |[],h,hl,s,hL,z=>simp at z; omega
    |b2::r2,h,hl,s,hL,z =>
     obtain⟨n2,o2,i2,m2,ld2⟩:=h.get (k:=2) (c:=b2) rfl;rw[e,show ((2:Nat):Int)=2 from rfl]at i2;have t2:n2<b:=O▸hlt n2 m2
     obtain⟨dC,hdC⟩:∃ d,f7 ((b2.toNat:Int)<128)=d:=⟨_,rfl⟩
     obtain⟨dD,hdD⟩:∃ d,f7 (191<(b2.toNat:Int))=d:=⟨_,rfl⟩
     obtain⟨s3,hs3'⟩:∃ d,f7 (fK a<=3)=d:=⟨_,rfl⟩
     have U:=hs3';unfold fK at U;simp only[pV,RM,hdC,hdD,hs3',zH7,cond_false]
     cases dC with
     |true =>simp only[O,o,dz,i0,t0,C,F,l0,l1,D,j,w,ml,fQ,mh,fU,bp,J,I,A,seval,cond_true,i1,t1,R,K,S,B,i2,t2,ld2,hdC,Bool.true_or,Tryz.results112,zW];exact Fin.cf rfl rfl
     |false =>
     cases dD with
     |true =>simp only[O,o,dz,i0,t0,C,F,l0,l1,D,j,w,ml,fQ,mh,fU,bp,J,I,A,seval,cond_true,i1,t1,R,K,S,B,i2,t2,ld2,hdC,hdD,Bool.or_true,Tryz.results112,zW];exact Fin.cf rfl rfl
     |false =>
     cases s3 with
     |true =>simp only[O,o,dz,i0,t0,C,F,l0,l1,D,j,w,ml,fQ,HG,p7,Lt,yv,mh,fU,bp,J,V,I,A,seval,cond_true,cond_false,i1,t1,R,K,S,B,i2,t2,ld2,hdC,hdD,U,zH7,Tryz.results112,zW];exact Fin.cf rfl rfl
     |false =>
     have hs4:4<=fK a:=by have:=of_decide_eq_false hs3'; omega
     match r2,h,hl,s,hL,z with
     |[],h,hl,s,hL,z=>simp at z; omega
     |b3::r3,h,hl,s,hL,z =>
      obtain⟨n3,o3,i3,m3,ld3⟩:=h.get (k:=3) (c:=b3) rfl;rw[e,show ((3:Nat):Int)=3 from rfl]at i3;have t3:n3<b:=O▸hlt n3 m3
      obtain⟨dE,hdE⟩:∃ d,f7 ((b3.toNat:Int)<128)=d:=⟨_,rfl⟩
      obtain⟨dF,hdF⟩:∃ d,f7 (191<(b3.toNat:Int))=d:=⟨_,rfl⟩
      simp only[sg,RM,hdE,hdF,zH7,cond_false]
      cases dE<;>cases dF <;>
       (simp only[O,o,dz,i0,t0,C,F,l0,l1,D,j,w,ml,fQ,HG,p7,Lt,yv,mh,fU,bp,J,V,I,A,seval,cond_true,cond_false,i1,t1,R,K,S,B,i2,t2,ld2,hdC,hdD,U,i3,t3,ld3,hdE,hdF,Bool.or_true,zH7,Tryz.results112,zW]
        exact Fin.cf rfl rfl)
def VP(H:aa)(v:go)(l:List UInt8)(h:cW H v l)(B:∀ n∈ae v,n<H.next)(ht:ti H)(hl:l≠[])(C:l.length<1000000):Pure 80 [v] H (.tuple ⟨[.int .i32 (qI l).1,jp kw ((qI l).2:Int)]⟩):=by
 obtain⟨b,R⟩:=ac H.next;obtain⟨o,e⟩:=h.sl;obtain⟨a,r,rfl⟩:∃ a r,l=a::r:=by cases l with|nil=>exact absurd rfl hl|cons a r=>exact⟨a,r,rfl⟩
 obtain⟨L,hL⟩:=ac ((a::r).length);have hLr:L=r.length+1:=by rw[<-hL]; rfl
 rw[hL]at e;obtain⟨n0,o0,S,m0,D⟩:=h.get (k:=0) (c:=a) rfl;rw[e,show ((0:Nat):Int)=0 from rfl]at S;have t0:n0<b:=R▸B n0 m0;have F:∀(X:aa)(k:IntKind)(m:Int),bB Tryz.prog X 5 21 (.int k m)=a9 (.int .i32 (IntKind.i32.wrap m),X):=fun X k m=>gF (u:=.int .u8) m9 m9;have I:IntKind.i32.wrap (a.toNat:Int)=(a.toNat:Int):=by have:=a.toNat_lt;simp only[IntKind.wrap,IntKind.signed,IntKind.bits];simp;omega
 have d0:f7 ((0:Int)<(L:Int))=true:=decide_eq_true lw
 obtain⟨U,f⟩:∃ d,f7 ((a.toNat:Int)<128)=d:=⟨_,rfl⟩
 have V:qI (a::r)=cond U ((a.toNat:Int),1) (jE (a::r)):=by simp only[qI,f]
 rw[V];refine bA mixed Tryz.func80 rfl Tryz.ntmps80 (zA7 rfl) fun wf hsc=>?_;have J:=Us H v (a::r) h B ht hl C;rw[e]at J ⊢;simp only[zW,seval];refine da fun E K=>?_;have j:E 0=.slice o L L:=by rw[K]; rfl
 have s:E 6=.slice o L L:=by rw[K]; rfl
 have w:E 7=jp kw (L:Int):=by rw[K]; rfl
 have z:E 8=jp kw 0:=by rw[K]; rfl
 clear K
 obtain⟨P0,O⟩:∃ P0:Prop,P0=(U=ci):=⟨_,rfl⟩
 refine aS (fun A H'=>H'=H/\P0/\A 0=.slice o L L) ?_ ?_
 .refine cp (fun (q:Unit) A H'=>H'=H/\A 0=.slice o L L/\A 6=.slice o L L/\A 7=jp kw (L:Int)/\A 8=jp kw 0) (fun _=>0) () ⟨rfl,j,s,w,z⟩ ?_;clear j s w z E;rintro _ E X ⟨hX,j,s,w,z⟩;rw[hX,show H=ext H [] from rfl]
  cases U with
  |true =>simp only[s,w,z,R,d0,S,t0,D,f,bp,F,I,cO,cond_true,Tryz.results80,zW,seval];exact Fin.cf rfl rfl
  |false =>simp only[s,w,z,R,d0,S,t0,D,f,zW,seval];rw[DU ol,vF,sS,pY];refine ag ⟨rfl,O.mpr rfl,?_⟩;simp only[j,aF,seval]
 clear j s w z E;rintro E X ⟨hX,hdd,j⟩;rw[hX,O.mp hdd,cond_false,show H=ext H [] from rfl];simp only[j,zW,seval];refine (show bD Tryz.prog 112 [.slice o L L] (ext H []) _ (ext H []) from J).to ?_;simp only[Tryz.results80,zW,seval];exact Fin.cf rfl rfl
end Go.Proofs.YtpohjcacnkhnkaaGreatDoor.Tq
namespace Go.Proofs.YtpohjcacnkhnkaaGreatDoor
open Go.Ax
def oA(c:Int):Bool:=f7 (0<=c)&&f7 (c<=1114111)&&!(f7 (55296<=c)&&f7 (c<=57343))
def Ub(H:aa)(c:Int):Pure 122 [jp kw c] H (ls (oA c)):=by
 obtain⟨h,a⟩:∃ d,f7 (0<=c)=d:=⟨_,rfl⟩
 obtain⟨j,b⟩:∃ d,f7 (c<=1114111)=d:=⟨_,rfl⟩
 obtain⟨k,e⟩:∃ d,f7 (55296<=c)=d:=⟨_,rfl⟩
 obtain⟨m,f⟩:∃ d,f7 (c<=57343)=d:=⟨_,rfl⟩
 simp only[oA,a,b,e,f];refine bA mixed Tryz.func122 rfl Tryz.ntmps122 (zA7 rfl) fun wf n=>?_;cases h<;>cases j<;>cases k<;>cases m<;>(simp only[a,b,e,f,Tryz.results122,zW,seval]; exact Fin.cf rfl rfl)
def yj(f:Nat->Bool):Nat->Nat->Nat->Nat
 |0,i,_=>i
 |k+1,i,j=>if i<j then (cond (f ((i+j) / 2)) (yj f k i ((i+j) / 2)) (yj f k ((i+j) / 2+1) j)) else i
def Mo(f:Nat->Bool)(k i j:Nat)(h:¬i<j):yj f k i j=i:=by
 cases k with
 |zero=>rfl
 |succ k=>rw[yj,if_neg h]
def RH(l:List (Int × Int)):List Value:=l.flatMap fun q=>[jp kw q.1,jp kw q.2]
def Lc(l:List (Int × Int))(k:Nat)(q:Int × Int)(h:l[k]?=a9 q):(RH l)[k*2]?=a9 (jp kw q.1)/\(RH l)[k*2+1]?=a9 (jp kw q.2):=by
 induction l generalizing k with
 |nil=>simp at h
 |cons a l b =>
  cases k with
  |zero =>simp only[zG1,i8]at h;subst h;exact⟨rfl,rfl⟩
  |succ k =>have:=b k (by simpa using h);rw[show (k+1)*2=k*2+2 by omega];exact this
def TU{len cap n:Nat}{s:Option Nat}{k:Nat}(a:k<len):aW Tryz.prog 167 (lm (a9 ⟨n,0,s⟩) len cap) (jp kw (k:Int))=a9 (li (a9 ⟨n,k*2,bi⟩)):=by rw[gk (e:=163) (sz:=2) m9 m9 lw lw];simp
structure Wo (H:aa) (bs bc m:Nat) (c:Int) (sp:List (Int × Int)):Prop where
 s:bk H bs=a9 ⟨167,ci,[lm (a9 ⟨m,0,a9 0⟩) sp.length sp.length]⟩
 c:bk H bc=a9 ⟨3,ci,[jp kw c]⟩
 m:∃ e,bk H m=a9 ⟨e,ci,RH sp⟩
def BC(c:Int)(sp:List (Int × Int))(i:Nat):Bool:=f7 (c<=(sp.getD i (0,0)).2)
def T8(H:aa)(f j m:Nat)(c:Int)(sp:List (Int × Int))(h:Wo H f j m c sp)(i:Nat)(hi:i<sp.length):Pure 154 [jp kw (i:Int),li (a9 ⟨f,0,bi⟩),li (a9 ⟨j,0,bi⟩)] H (ls (BC c sp i)):=by
 obtain⟨b,a⟩:=ac H.next;obtain⟨o,r,e,w⟩:=h
 obtain⟨q,z⟩:∃ q,sp[i]?=a9 q:=⟨_,zB0 hi⟩
 have A:=(Lc sp i q z).2;have B:sp.getD i (0,0)=q:=by rw[List.getD,z]; rfl
 have k:=TU (len:=sp.length) (cap:=sp.length) (n:=m) (s:=a9 0) hi;refine bA mixed Tryz.func154 rfl Tryz.ntmps154 (zA7 rfl) fun wf C=>?_;have D:f<b:=a▸wf.lt o;have l2:j<b:=a▸wf.lt r;have F:m<b:=a▸wf.lt w;simp only[zW,seval];refine aQ [] [] m9 rfl rfl fun ops anc I J=>?_;simp only[a,o,r,w,D,l2,F,k,A,BC,B,Tryz.results154,bS,zW,seval];exact Fin.cf rfl rfl
def MR{i j:Nat}(h:i+j<1000000):IntKind.i64.wrap (jC .u64 (IntKind.u64.wrap (IntKind.i64.wrap ((i:Int)+(j:Int)))) 1)=(((i+j) / 2:Nat):Int):=by
 have a:=aR (n:=(i:Int)+(j:Int)) lw lw;rw[show IntKind.i64.wrap ((i:Int)+(j:Int))=_ from a];have b:IntKind.u64.wrap ((i:Int)+(j:Int))=(i:Int)+(j:Int):=by simp only[IntKind.wrap,IntKind.signed,IntKind.bits];simp;omega
 rw[b];have c:jC .u64 ((i:Int)+(j:Int)) 1=(((i+j) / 2:Nat):Int):=by simp only[jC,IntKind.bits];rw[Int.fdiv_eq_ediv_of_nonneg _ ol];simp
 rw[c];exact aR lw lw
def Pb(H:aa)(w z m:Nat)(c:Int)(sp:List (Int × Int))(h:Wo H w z m c sp)(U:sp.length<=1000):Pure 153 [jp kw (sp.length:Int),.func (.func 154) ⟨[]⟩ ⟨[li (a9 ⟨w,0,bi⟩),li (a9 ⟨z,0,bi⟩)]⟩] H (jp kw (yj (BC c sp) sp.length 0 sp.length:Int)):=by
 obtain⟨b,hb⟩:=ac H.next;have I:∀(X:aa)(k:IntKind)(m:Int),bB Tryz.prog X 3 138 (.int k m)=a9 (.int .u64 (IntKind.u64.wrap m),X):=fun X k m=>gF (u:=.int kw) m9 m9;have A:∀(X:aa)(k:IntKind)(m:Int),bB Tryz.prog X 138 3 (.int k m)=a9 (jp kw (IntKind.i64.wrap m),X):=fun X k m=>gF (u:=.int .u64) m9 m9;refine bA mixed Tryz.func153 rfl Tryz.ntmps153 (zA7 rfl) fun wf hsc=>?_;simp only[zW,seval];refine da fun E D=>?_;have r:E 1=.func (.func 154) ⟨[]⟩ ⟨[li (a9 ⟨w,0,bi⟩),li (a9 ⟨z,0,bi⟩)]⟩:=by rw[D]; rfl
 have a:E 5=jp kw ((0:Nat):Int):=by rw[D]; rfl
 have o:E 6=jp kw (sp.length:Int):=by rw[D]; rfl
 clear D;refine aS (fun B J=>J=H/\B 5=jp kw (yj (BC c sp) sp.length 0 sp.length:Int)) ?_ ?_
 .refine cp (fun (q:Nat × Nat × Nat) B J=>J=H/\q.2.1-q.1<=q.2.2/\q.2.1<=sp.length/\yj (BC c sp) q.2.2 q.1 q.2.1=yj (BC c sp) sp.length 0 sp.length/\B 1=.func (.func 154) ⟨[]⟩ ⟨[li (a9 ⟨w,0,bi⟩),li (a9 ⟨z,0,bi⟩)]⟩/\B 5=jp kw (q.1:Int)/\B 6=jp kw (q.2.1:Int)) (fun q=>q.2.1-q.1) (0,sp.length,sp.length)
   ⟨rfl,by simp,zA4 _,rfl,r,a,o⟩ ?_
  clear r a o E;rintro⟨i,j,k⟩ E X ⟨K,hk,hj,n,r,a,o⟩;simp only at hk hj n a o;rw[K,show H=ext H [] from rfl];by_cases C:i<j
  .have O:f7 ((i:Int)<(j:Int))=true:=decide_eq_true lw
   obtain⟨F,rfl⟩:∃ F,k=F+1:=⟨k-1,by omega⟩
   rw[yj,if_pos C]at n;have e:=MR (i:=i) (j:=j) lw;obtain⟨s,R⟩:=ac ((i+j) / 2);rw[R]at e n;have hm1:i<=s/\s<j:=by omega
   have S:=ba (show s<1000000 by omega);have hp:=T8 H w z m c sp h s lw;simp only[r,a,o,O,bp,I,A,mh,fU,e,seval,zW];refine qY (f:=154) (ca:=[li (a9 ⟨w,0,bi⟩),li (a9 ⟨z,0,bi⟩)]) rfl rfl rfl m9 ?_;simp only[aF];refine (show bD Tryz.prog 154 _ (ext H []) _ (ext H []) from hp).to ?_
   cases V:BC c sp s with
   |true =>rw[V,cond_true]at n;simp only[zW,seval];refine aG ⟨(i,s,F),by simp only; omega,rfl,by simp only; omega,by simp only; omega,n,?_,?_,?_⟩<;>simp only[r,a,aF,seval]
   |false =>rw[V,cond_false]at n;simp only[S,zW,seval];refine aG ⟨(s+1,j,F),by simp only; omega,rfl,by simp only; omega,by simp only; omega,n,?_,?_,?_⟩<;>simp only[r,o,aF,seval]
  .have O:f7 ((i:Int)<(j:Int))=false:=decide_eq_false lw;rw[Mo _ _ _ _ C]at n;simp only[a,o,O,zW,seval];refine ag ⟨rfl,?_⟩;simp only[a,n,aF,seval]
 clear r a o E;rintro E X ⟨K,a⟩;rw[K,show H=ext H [] from rfl];simp only[a,Tryz.results153,zW,seval];exact Fin.pure rfl
def Vb(c:Int)(sp:List (Int × Int)):Bool :=
 f7 (yj (BC c sp) sp.length 0 sp.length<sp.length)&&f7 ((sp.getD (yj (BC c sp) sp.length 0 sp.length) (0,0)).1<=c)
def VY(H:aa)(m:Nat)(c:Int)(sp:List (Int × Int))(h:∃ e,bk H m=a9 ⟨e,ci,RH sp⟩)(r:sp.length<=1000):Pure 123 [jp kw c,lm (a9 ⟨m,0,a9 0⟩) sp.length sp.length] H (ls (Vb c sp)):=by
 obtain⟨b,o⟩:=ac H.next;obtain⟨e,z⟩:=h;obtain⟨k,D⟩:=ac sp.length;obtain⟨i,hi⟩:=ac (yj (BC c sp) sp.length 0 sp.length)
 obtain⟨F,f⟩:∃ d,f7 (i<k)=d:=⟨_,rfl⟩
 have a:f7 ((i:Int)<(k:Int))=F:=by
  rw[<-f];by_cases h:i<k
  .rw[decide_eq_true h,decide_eq_true lw]
  .rw[decide_eq_false h,decide_eq_false lw]
 refine bA mixed Tryz.func123 rfl Tryz.ntmps123 (zA7 rfl) fun wf K=>?_;have I:m<b:=o▸wf.lt z
 have w:Wo (ext H [⟨3,ci,[jp kw c]⟩,⟨167,ci,[lm (a9 ⟨m,0,a9 0⟩) sp.length sp.length]⟩]) (b+1) (b+0) m c sp :=
  ⟨by rw[aZ o nl]; rfl,by rw[aZ o nl]; rfl,e,by rw[kf lw]; exact z⟩
 have j:=Pb _ (b+1) (b+0) m c sp w r;unfold Vb;rw[hi]at j ⊢;rw[D]at j ⊢;rw[f];simp (maxDischargeDepth:=6) only[o,I,zW,seval];refine j.to ?_;simp (maxDischargeDepth:=6) only[zW,seval];refine aQ [] [(4,14)] m9 rfl m9 fun ops anc S A=>?_;simp only[aw]at A
 cases F with
 |false =>simp (maxDischargeDepth:=6) only[o,A,a,Bool.false_and,Tryz.results123,bS,zW,seval];exact Fin.cf rfl rfl
 |true =>
  have B:i<sp.length:=by rw[D]; exact of_decide_eq_true f
  obtain⟨q,J⟩:∃ q,sp[i]?=a9 q:=⟨_,zB0 B⟩
  have O:=(Lc sp i q J).1;have R:sp.getD i (0,0)=q:=by rw[List.getD,J]; rfl
  have C:=TU (len:=k) (cap:=k) (n:=m) (s:=a9 0) (k:=i) lw;rw[R];simp (maxDischargeDepth:=6) only[o,I,z,A,a,C,O,Bool.true_and,Tryz.results123,bS,zW,seval];exact Fin.cf rfl rfl
def sN:List (Int × Int):=[(768,879),(1155,1161),(1425,1469),(8203,8207),(8400,8447),(65024,65039),(65056,65071)]
def Bh:List (Int × Int):=[(0,8),(10,31),(127,127),(4352,4447),(11904,12350),(12353,42191),(44032,55203),(63744,64255),(65072,65135),(65280,65376),(65504,65510),(127744,128591),(129280,129535),(131072,262141)]
def c7(c:Int):Nat:=if (!oA c||Vb c sN)=bv then 0 else if Vb c Bh=bv then 2 else 1
def ja(H:aa)(c:Int):Pure 88 [jp kw c] H (jp kw (c7 c:Int)):=by
 obtain⟨b,w⟩:=ac H.next;refine bA mixed Tryz.func88 rfl Tryz.ntmps88 (zA7 rfl) fun wf I=>?_;have f:H.base<=b:=w▸wf.base;have z:Tryz.prog.underlying 164=a9 (.array 7 163):=by kernel_rfl
 have j:Tryz.prog.underlying 165=a9 (.array 14 163):=by kernel_rfl
 have k:br Tryz.prog 163=a9 2:=by kernel_rfl
 have m:∀(X:aa)(n:Nat),bX Tryz.prog X 164 (li (a9 ⟨n,0,bi⟩)) bi bi bi=a9 (lm (a9 ⟨n,0,a9 0⟩) 7 7,X):=fun X n=>by simp only[bX,z,bound,k,zA1,zA3];rfl
 have h:∀(X:aa)(n:Nat),bX Tryz.prog X 165 (li (a9 ⟨n,0,bi⟩)) bi bi bi=a9 (lm (a9 ⟨n,0,a9 0⟩) 14 14,X):=fun X n=>by simp only[bX,j,bound,k,zA1,zA3];rfl
 obtain⟨A,gQ⟩:∃ d,oA c=d:=⟨_,rfl⟩
 obtain⟨d1,o⟩:∃ d,Vb c sN=d:=⟨_,rfl⟩
 obtain⟨B,r⟩:∃ d,Vb c Bh=d:=⟨_,rfl⟩
 have s:=Ub (ext H [⟨164,ci,RH sN⟩,⟨165,ci,RH Bh⟩]) c;have a:=VY (ext H [⟨164,ci,RH sN⟩,⟨165,ci,RH Bh⟩]) (b+0) c sN ⟨164,by rw[aZ w nl]; rfl⟩ ol;have e:=VY (ext H [⟨164,ci,RH sN⟩,⟨165,ci,RH Bh⟩]) (b+1) c Bh ⟨165,by rw[aZ w nl]; rfl⟩ ol;rw[gQ]at s;rw[o]at a;rw[r]at e;have C:sN.length=7:=rfl;have D:Bh.length=14:=rfl;rw[C]at a;rw[D]at e;have F:c7 c=cond (!A||d1) 0 (cond B 2 1):=by unfold c7;rw[gQ,o,r];cases A<;>cases d1<;>cases B<;>rfl
 rw[F];simp only[w,f,zW,seval];refine s.to ?_
 cases A with
 |false =>simp only[zF4,Bool.true_or,cond_true,Tryz.results88,zW,seval];exact Fin.cf rfl rfl
 |true =>
  simp only[m,zW,seval];refine a.to ?_
  cases d1 with
  |true =>simp only[Bool.or_true,cond_true,Tryz.results88,zW,seval];exact Fin.cf rfl rfl
  |false =>simp only[h,zW,seval];refine e.to ?_;cases B<;>(simp only[zH7,cond_true,cond_false,Tryz.results88,zW,seval]; exact Fin.cf rfl rfl)
def Sa{len cap n:Nat}{s:Option Nat}{k:Nat}(a:k<len):aW Tryz.prog 22 (lm (a9 ⟨n,0,s⟩) len cap) (jp kw (k:Int))=a9 (li (a9 ⟨n,k,bi⟩)):=by rw[gk (e:=3) (sz:=1) m9 m9 lw lw];simp
def bt(l:List UInt8)(i:Nat):Int:=((l.getD i 0).toNat:Int)
def L4(l:List UInt8)(i:Nat):0<=bt l i/\bt l i<256:=by have:=(l.getD i 0).toNat_lt;unfold bt;omega
def tl(l:List UInt8)(i:Nat):Bool:=f7 (i<l.length)&&f7 (128<=bt l i)&&f7 (bt l i<192)
def xz{l:List UInt8}{i:Nat}(h:tl l i=bv):i<l.length/\128<=bt l i/\bt l i<192:=by simp only[tl,zA6,decide_eq_true_eq]at h;exact⟨h.1.1,h.1.2,h.2⟩
def u9:Tryz.prog.underlying 9=a9 .string:=by kernel_rfl
def Fg(s:ByteArray):s.size=s.data.toList.length:=Array.length_toList.symm
def rV(l:List UInt8):Int × Int :=
 cond (f7 (bt l 0<128)) (bt l 0,1) <|
 cond (f7 (194<=bt l 0)&&f7 (bt l 0<224)&&tl l 1) ((bt l 0-192)*64+bt l 1-128,2) <|
 cond (f7 (224<=bt l 0)&&f7 (bt l 0<240)&&tl l 1&&tl l 2)
  (cond (f7 (2048<=((bt l 0-224)*64+bt l 1-128)*64+bt l 2-128)&&oA (((bt l 0-224)*64+bt l 1-128)*64+bt l 2-128)) (((bt l 0-224)*64+bt l 1-128)*64+bt l 2-128,3) (0,0)) <|
 cond (f7 (240<=bt l 0)&&f7 (bt l 0<245)&&tl l 1&&tl l 2&&tl l 3)
  (cond (f7 (65536<=(((bt l 0-240)*64+bt l 1-128)*64+bt l 2-128)*64+bt l 3-128)&&oA ((((bt l 0-240)*64+bt l 1-128)*64+bt l 2-128)*64+bt l 3-128)) ((((bt l 0-240)*64+bt l 1-128)*64+bt l 2-128)*64+bt l 3-128,4) (0,0))
 (0,0)
end Go.Proofs.YtpohjcacnkhnkaaGreatDoor
namespace Go.Proofs.YtpohjcacnkhnkaaGreatDoor.Tq
open Go.Ax
def mz{n:Nat}(h:n<2147483648):Ku (n:Int)=n:=by simp only[Ku,IntKind.wrap,IntKind.signed,IntKind.bits];simp;omega
def rp{k m y:Nat}(a:y<2 ^ k)(h:m*2 ^ k+y<2147483648):vw .i32 ((m*2 ^ k:Nat):Int) ((y:Nat):Int)=((m*2 ^ k+y:Nat):Int):=by
 have e:m*2 ^ k ||| y=m*2 ^ k+y:=by have:=Nat.shiftLeft_add_eq_or_of_lt a m;rw[Nat.shiftLeft_eq]at this;exact this.symm
 have f:m*2 ^ k<2147483648:=by omega
 have b:y<2147483648:=by omega
 have c:(BitVec.ofInt 32 ((m*2 ^ k:Nat):Int) ||| BitVec.ofInt 32 ((y:Nat):Int)).toNat=m*2 ^ k+y:=by rw[BitVec.toNat_or,BitVec.ofInt_natCast,BitVec.ofInt_natCast,BitVec.toNat_ofNat,BitVec.toNat_ofNat,Nat.mod_eq_of_lt lw,Nat.mod_eq_of_lt lw,e]
 unfold vw;rw[show IntKind.i32.bits=32 from rfl,c];exact mz h
def vE{n k:Nat}(a:k<=32)(h:n*2 ^ k<2147483648):yg .i32 (n:Int) k=((n*2 ^ k:Nat):Int):=by unfold yg;rw[show min k IntKind.i32.bits=k from zH0 a];have:=mz h;unfold Ku at this;rw[<-this];congr 1
def Qe(a:Nat):Bool:=f7 (eQ .u8 (a:Int) 31=(a % 32:Nat))&&f7 (eQ .u8 (a:Int) 15=(a % 16:Nat))&&f7 (eQ .u8 (a:Int) 7=(a % 8:Nat))&&f7 (eQ .u8 (a:Int) 63=(a % 64:Nat))
def SH:(List.range 256).all Qe=true:=by kernel_rfl
def o7(a:UInt8):eQ .u8 (a.toNat:Int) 31=(a.toNat % 32:Nat)/\eQ .u8 (a.toNat:Int) 15=(a.toNat % 16:Nat)/\eQ .u8 (a.toNat:Int) 7=(a.toNat % 8:Nat)/\eQ .u8 (a.toNat:Int) 63=(a.toNat % 64:Nat):=by have:=zC3.1 SH a.toNat (zF7.2 a.toNat_lt);simp only[Qe,zA6,decide_eq_true_eq]at this;exact⟨this.1.1.1,this.1.1.2,this.1.2,this.2⟩
def vU(a:Nat):Option (Int × Int × Int) :=
 if a<194 then bi else if a<224 then a9 (2,128,191) else if a=224 then a9 (3,160,191) else if a=237 then a9 (3,128,159) else if a<240 then a9 (3,128,191)
 else if a=240 then a9 (4,144,191) else if a<244 then a9 (4,128,191) else if a=244 then a9 (4,128,143) else bi
def IL(a:Nat):Bool:=match vU a with
 |none=>f7 (240<=cF a)&&f7 (IntKind.i64.wrap (eQ .u8 (cF a) 7)<=1)
 |some (n,lo,hi)=>f7 (cF a<240)&&f7 (IntKind.i64.wrap (eQ .u8 (cF a) 7)=n)&&f7 (iY ((jC .u8 (cF a) 4).toNat*2)=lo)&&f7 (iY ((jC .u8 (cF a) 4).toNat*2+1)=hi)
def L6:(List.range 256).all IL=true:=by kernel_rfl
def tj{a:UInt8}{n lo hi:Int}(h:vU a.toNat=a9 (n,lo,hi)):cF a.toNat<240/\fK a=n/\iY ((jC .u8 (cF a.toNat) 4).toNat*2)=lo/\iY ((jC .u8 (cF a.toNat) 4).toNat*2+1)=hi:=by have:=zC3.1 L6 a.toNat (zF7.2 a.toNat_lt);rw[IL,h]at this;simp only[zA6,decide_eq_true_eq]at this;exact⟨this.1.1.1,this.1.1.2,this.1.2,this.2⟩
def RU{a b:UInt8}(f:194<=a.toNat)(h:a.toNat<224)(j:128<=b.toNat)(k:b.toNat<192):Uy a b=((a.toNat:Int)-192)*64+b.toNat-128:=by obtain⟨c,_,_,_⟩:=o7 a;obtain⟨_,_,_,e⟩:=o7 b;unfold Uy;rw[c,e,mz lw,mz lw,vE ol lw,rp lw lw];omega
def S8{a b c:UInt8}(j:224<=a.toNat)(m:a.toNat<240)(n:128<=b.toNat)(o:b.toNat<192)(r:128<=c.toNat)(s:c.toNat<192):US a b c=(((a.toNat:Int)-224)*64+b.toNat-128)*64+c.toNat-128:=by obtain⟨_,e,_,_⟩:=o7 a;obtain⟨_,_,_,f⟩:=o7 b;obtain⟨_,_,_,h⟩:=o7 c;unfold US;rw[e,f,h,mz lw,mz lw,mz lw,vE ol lw,vE ol lw,rp (k:=12) lw lw];rw[show (a.toNat % 16*2 ^ 12+b.toNat % 64*2 ^ 6:Nat)=(a.toNat % 16*64+b.toNat % 64)*2 ^ 6 by omega,rp lw lw];omega
def S1{a b c d:UInt8}(m:240<=a.toNat)(n:a.toNat<245)(o:128<=b.toNat)(r:b.toNat<192)(s:128<=c.toNat)(w:c.toNat<192)(z:128<=d.toNat)(A:d.toNat<192):UJ a b c d=((((a.toNat:Int)-240)*64+b.toNat-128)*64+c.toNat-128)*64+d.toNat-128:=by obtain⟨_,_,e,_⟩:=o7 a;obtain⟨_,_,_,f⟩:=o7 b;obtain⟨_,_,_,h⟩:=o7 c;obtain⟨_,_,_,j⟩:=o7 d;unfold UJ;rw[e,f,h,j,mz lw,mz lw,mz lw,mz lw,vE ol lw,vE ol lw,vE ol lw,rp (k:=18) lw lw];rw[show (a.toNat % 8*2 ^ 18+b.toNat % 64*2 ^ 12:Nat)=(a.toNat % 8*64+b.toNat % 64)*2 ^ 12 by omega,rp lw lw];rw[show ((a.toNat % 8*64+b.toNat % 64)*2 ^ 12+c.toNat % 64*2 ^ 6:Nat)=((a.toNat % 8*64+b.toNat % 64)*64+c.toNat % 64)*2 ^ 6 by omega,rp lw lw];omega
abbrev oA:=Go.Proofs.YtpohjcacnkhnkaaGreatDoor.oA
abbrev c7:=Go.Proofs.YtpohjcacnkhnkaaGreatDoor.c7
def Kv:Wd c7 where
 call:=fun c H _ _=>Go.Proofs.YtpohjcacnkhnkaaGreatDoor.ja H c
 le:=fun c=>by unfold c7 Go.Proofs.YtpohjcacnkhnkaaGreatDoor.c7; split<;>(try split)<;>omega
def Qd{c:Int}(h:c7 c≠0):oA c=true:=by
 unfold c7 Go.Proofs.YtpohjcacnkhnkaaGreatDoor.c7 at h
 cases hi:oA c with
 |true=>rfl
 |false=>rw[show Go.Proofs.YtpohjcacnkhnkaaGreatDoor.oA c=ci from hi]at h; simp at h
def ek:AW:=⟨c7,jR,qI⟩
def ti.step{H H1:aa}{p b:Rp}{y:Tm}(t:ti H)(s:Step H p H1 b y)(c:0∉p.aM)(e:1∉p.aM):ti H1/\0∉b.aM/\1∉b.aM:=by
 have j:=s.mod.bk t.l0 c;have k:=s.mod.bk t.l1 e;refine⟨⟨fun a m=>by rw[j]; exact t.f a m,fun i hi=>by rw[k]; exact t.a i hi,s.mod.lt t.l0,s.mod.lt t.l1⟩,fun h=>?_,fun h=>?_⟩
 .rcases s.new _ h with h|h
  .exact c h
  .have:=t.l0; omega
 .rcases s.new _ h with h|h
  .exact e h
  .have:=t.l1; omega
def cW.drop{H:aa}{v:go}{l:List UInt8}(h:cW H v l)(o:l≠[]){k:Nat}(z:k<=l.length):∃ a,bX Tryz.prog (ext H []) 25 v (a9 (jp kw (k:Int))) bi bi=a9 (.slice a (l.length-k) (l.length-k),ext H [])/\cW H (.slice a (l.length-k) (l.length-k)) (l.drop k)/\ae (.slice a (l.length-k) (l.length-k))=ae v:=by
 have w:Tryz.prog.underlying 25=a9 (.slice 5):=by kernel_rfl
 have f:br Tryz.prog 5=a9 1:=by kernel_rfl
 have m:0<l.length:=List.length_pos_iff.2 o
 rcases h with⟨rfl,rfl⟩|⟨_,n,b,rfl,c⟩|⟨rfl,n,off,j,L,rfl,c,A⟩|⟨rfl,n,rfl,c⟩
 .exact absurd rfl o
 .rw[ext_nil];by_cases r:k<l.length
  .refine⟨a9 ⟨n,b.length+k*1,bi⟩,sH w f dW rfl (zA4 _) z r c rfl,.inr (.inl ⟨?_,n,b++l.take k,?_,?_⟩),by simp[ae]⟩
   .intro e;have:=congrArg List.length e;simp at this;omega
   .have e:(b++l.take k).length=b.length+k*1:=by simp; omega
    rw[e,zC6]
   .rw[c,zC8,zG9]
  .have s:k=l.length:=by omega
   have B:=DP (P:=Tryz.prog) (H:=H) (t:=25) (e:=5) (sz:=1) (n:=n) (off:=b.length) (len:=l.length) (cap:=l.length) (lo:=a9 (jp kw (k:Int))) (hi:=bi) w f dW rfl rfl s m c rfl;have C:l.length-k=0:=by omega
   rw[C];refine⟨a9 ⟨n,b.length+k*1,a9 (b.length+1)⟩,B,.inr (.inr (.inl ⟨zE9 lw,n,_,_,_,rfl,c,?_⟩)),by simp[ae]⟩;rw[fu,zB3]; omega
 .exact absurd rfl o
 .exact absurd rfl o
def DB(x:Tm)(c:Int):(x.control c).rest=x.rest/\(x.control c).params=x.params:=by
 unfold Tm.control
 repeat' split
 all_goals exact⟨rfl,rfl⟩
def IS(u:AW)(x:Tm)(c:Int):(x.write u c).rest=x.rest/\(x.write u c).params=x.params:=by
 unfold Tm.write;simp only;split
 .exact⟨rfl,rfl⟩
 .split<;>exact⟨rfl,rfl⟩
def il(u:AW)(x:Tm)(c:Int):(x.character u c).rest=x.rest/\(x.character u c).params=x.params:=by
 unfold Tm.character;split
 .exact DB x c
 .exact IS u x c
def Tm.aN(x:Tm)(l:List UInt8):Tm:={x with rest:=l}
def Tm.Sz.aN{x:Tm}(s:x.Sz)(l:List UInt8):(x.aN l).Sz :=
 ⟨s.h1,s.h2,s.w1,s.w2,s.ws,s.r1,s.r2,s.c1,s.c2,s.sr1,s.sr2,s.sc1,s.sc2,s.t1,s.t2,s.t3,s.md,s.hd⟩
def cx.DE{H H1:aa}{p:Rp}{x:Tm}(g:cx H p x)(v:go)(l:List UInt8)(m:Mod (ae p.rv) H H1)(z:cW H1 v l)(hi:∀ n∈ae v,n∈ae p.rv\/(H.next<=n/\n<H1.next))(o:(ae v).Nodup):Step H p (ext (uw H1 p.t 19 [v]) []) {p with rv:=v,pv:=p.pv} (x.aN l):=by
 have j:=(zD6.1 (zD6.1 g.nd).2).2;rw[zC8]at j;have f:=zE6.1 (zE6.1 j).2.1;have A:=g.lt p.t pi;have k:p.t∉ae p.rv:=fun h=>(zD6.1 g.nd).1 py;have r:bk H1 p.t=a9 ⟨66,ci,bh p x⟩:=(m.bk A k).trans g.cell
 have s:∀ n∈ae v,n≠p.t:=fun n c e=>by
  rcases hi n c with h|⟨h,_⟩
  .exact k (e▸h)
  .omega
 have B:Mod [p.t] H1 (ext (uw H1 p.t 19 [v]) []):=Mod.uw nl;refine g.EP v p.pv ((m.mono (by intro n c; simp[c])).trans (B.mono (by intro n c; simp at c; simp[c]))) ?_ rfl ?_ ?_ ?_ ?_
 .rw[ext_nil,bR,r]; rfl
 .exact z.of fun n c=>by rw[ext_nil]; exact iV (s n c)
 .refine g.par.of fun n c=>?_;rw[ext_nil,iV (fun e=>(zD6.1 g.nd).1 (by rw[<-e]; simp[c]))];exact m.get n (g.lt n (by simp[Rp.aM,c])) (fun h=>f.2.2 n h n c rfl)
 .intro n c;rcases zB1.1 c with h|h
  .rcases hi n h with h|h
   .exact .inl py
   .exact .inr ⟨h.1,by rw[ext_nil,cw]; exact h.2⟩
  .exact .inl py
 .refine zE6.2 ⟨o,f.2.1,fun a C b w e=>?_⟩
  rcases hi a C with h|⟨h,_⟩
  .exact f.2.2 a h b w e
  .have:=g.lt b (by simp[Rp.aM,w]); omega
def SU(H:aa)(p:Rp)(x:Tm)(c:UInt8)(g:cx H p x)(s:x.Sz)(ok:H.base<=H.next)(tb:ti H)(p0:0∉p.aM)(p1:1∉p.aM)(hrl:x.rest.length<=900) :
  iK 41 [kA c] H p (jp kw ((x.plain ek c).2:Int)) (x.plain ek c).1:=by
 obtain⟨b,hb⟩:=ac H.next;have hT:p.t<b:=hb▸g.lt p.t pi;have h1:=g.cell;simp only[bh]at h1;obtain⟨arv,F⟩:=g.rest.sl;have h2:=h1;rw[F]at h2;obtain⟨G,happ,hwG,mG,I⟩:=Cv (c:=c) g.rest (fun n hn=>g.lt n (by simp[Rp.aM,hn])) hb lw ok;obtain⟨nw,hnw⟩:=ac (b+1);rw[hnw]at happ hwG I;have okG:=mG.ok ok;have st0:=g.DE _ _ mG hwG (fun n hn=>by simp only[ae,zA5]at hn; subst hn; exact .inr ⟨by omega,I⟩) pm;obtain⟨gn,hgn⟩:=ac G.next;have hTG:p.t<gn:=by rw[<-hgn]; exact mG.lt (g.lt p.t pi)
 have hnwg:nw<gn:=hgn▸I;have hbG:=st0.at_.cell;have htv:p.t∉ae p.rv:=fun h=>(zD6.1 g.nd).1 py;have hcG:bk G p.t=a9 ⟨66,ci,bh p x⟩:=(mG.bk (g.lt p.t pi) htv).trans g.cell;simp only[bh]at hcG;rw[F]at happ;refine aI mixed Tryz.func41 rfl Tryz.ntmps41 (zA7 rfl) ?_;simp (maxDischargeDepth:=6) only[hb,hT,h2,happ,hgn,hTG,hnwg,hcG,zW,Nat.reduceLeDiff,Nat.reduceLT,Nat.reduceAdd,Nat.reduceEqDiff];generalize hV:uw G p.t 19 _=V at st0 ⊢;rw[ext_nil]at st0;refine da fun E hE=>?_;have A:E 0=li (a9 ⟨p.t,0,bi⟩):=by rw[hE]; rfl
 clear hE;have hcv:∀(X:aa)(m:Int),bB Tryz.prog X 21 3 (.int .i32 m)=a9 (jp kw (IntKind.i64.wrap m),X):=fun X m=>gF (u:=.int .i32) m9 m9;refine aS (fun E' H'=>∃ y p2,Step H p H' p2 y/\x.plain ek c=(y,0)/\E' 0=li (a9 ⟨p.t,0,bi⟩)) ?_ ?_
 .refine cp (fun (q:Nat × Tm × Rp) E' H'=>Step H p H' q.2.2 q.2.1/\q.2.1.Sz/\q.2.1.rest.length<q.1/\q.2.1.rest.length<=901/\Tm.drain ek q.1 q.2.1=x.plain ek c/\E' 0=li (a9 ⟨p.t,0,bi⟩)) (fun q=>q.2.1.rest.length) (x.rest.length+2,x.aN (x.rest++[c]),{p with rv:=lm (a9 ⟨nw,0,bi⟩) (x.rest.length+1) (x.rest.length+1),pv:=p.pv})
   ⟨st0,s.aN _,by simp[Tm.aN],by simp[Tm.aN]; omega,rfl,A⟩ ?_
  clear A E hV st0 hbG V;rintro⟨k,y,p2⟩ E X ⟨st,sy,hk,hlen,hdr,A⟩;simp only at st sy hk hlen hdr;rw[show X=ext X [] from rfl];have okX:=st.ok ok;obtain⟨xb,z⟩:=ac X.next;have hT:p.t<xb:=z▸st.same▸st.at_.lt p2.t pi;have h1:=st.at_.cell;rw[st.same]at h1;simp only[bh]at h1;obtain⟨ar,F⟩:=st.at_.rest.sl;obtain⟨R,hR⟩:=ac y.rest.length;rw[hR]at F;rw[F]at h1;obtain⟨tX,q0,q1⟩:=tb.step st p0 p1
  obtain⟨k',rfl⟩:∃ k',k=k'+1:=⟨k-1,by omega⟩
  by_cases f:y.rest=[]
  .have hR0:R=0:=by rw[<-hR,f]; rfl
   have hd:f7 ((0:Int)<(R:Int))=false:=decide_eq_false lw;simp (maxDischargeDepth:=6) only[A,z,hT,h1,hd,zW,Nat.reduceLT,Nat.reduceAdd,Nat.reduceEqDiff];refine ag ⟨y,p2,st,?_,?_⟩
   .rw[<-hdr,Tm.drain,if_neg (fun h=>h.1 f)]
   .exact A
  have hRp:0<R:=by rw[<-hR]; exact List.length_pos_iff.2 f
  have hd:f7 ((0:Int)<(R:Int))=true:=decide_eq_true lw;have hfu:=Ud X p2.rv y.rest st.at_.rest (fun n hn=>st.at_.lt n (by simp[Rp.aM,hn])) tX f lw;rw[F]at hfu
  cases hf:jR y.rest with
  |false =>
   rw[hf]at hfu;simp (maxDischargeDepth:=6) only[A,z,hT,h1,hd,zW,Nat.reduceLT,Nat.reduceAdd,Nat.reduceEqDiff];refine (show bD Tryz.prog 79 _ (ext X []) _ (ext X []) from hfu).to ?_;simp (maxDischargeDepth:=6) only[zW,Nat.reduceLT,Nat.reduceEqDiff];refine ag ⟨y,p2,st,?_,?_⟩
   .rw[<-hdr,Tm.drain,if_neg (fun h=>by have:=h.2; rw[show ek.full y.rest=jR y.rest from rfl,hf]at this; cases this)]
   .exact A
  |true =>
  rw[hf]at hfu
  have hcond:y.rest≠[]/\ek.full y.rest=true:=⟨f,hf⟩
  obtain⟨a,r,har⟩:∃ a r,y.rest=a::r:=by cases hy:y.rest with|nil=>exact absurd hy f|cons a r=>exact⟨a,r,rfl⟩
  have hga:=st.at_.rest.get (k:=0) (c:=a) (by rw[har]; rfl);obtain⟨n0,o0,i0,m0,ld0⟩:=hga;rw[F,show ((0:Nat):Int)=0 from rfl]at i0;have t0:n0<xb:=z▸st.at_.lt n0 (by simp[Rp.aM,m0]);have q27:=lB (c:=a) (n:=27) lw;simp only[Int.cast_ofNat_Int]at q27;by_cases h27:a=27
  .have t27:f7 ((a.toNat:Int)=27)=true:=by rw[q27]; exact decide_eq_true h27
   have hpl:x.plain ek c=(y.aN [],1):=by
    have hh:y.rest.headD 0=27:=by rw[har]; exact h27
    rw[<-hdr,Tm.drain,if_pos hcond,if_pos hh];rfl
   rw[hpl];have stN:=st.at_.DE (lm bi 0 0) [] Mod.refl (.inl ⟨rfl,rfl⟩) pm pm;rw[st.same]at stN;simp (maxDischargeDepth:=6) only[A,z,hT,h1,hd,zW,Nat.reduceLT,Nat.reduceAdd,Nat.reduceEqDiff];refine (show bD Tryz.prog 79 _ (ext X []) _ (ext X []) from hfu).to ?_;simp (maxDischargeDepth:=6) only[A,z,hT,h1,i0,t0,ld0,t27,cO,Tryz.results41,zW,Nat.reduceLeDiff,Nat.reduceLT,Nat.reduceAdd,Nat.reduceEqDiff];exact⟨rfl,_,st.trans ok stN⟩
  have f27:f7 ((a.toNat:Int)=27)=false:=by rw[q27]; exact decide_eq_false h27
  have hde:=VP X p2.rv y.rest st.at_.rest (fun n hn=>st.at_.lt n (by simp[Rp.aM,hn])) tX f lw;rw[F]at hde;obtain⟨hn1,I⟩:=OO y.rest f;have h32:=Tf y.rest
  obtain⟨cr,n,hcr⟩:∃ cr n,qI y.rest=(cr,n):=⟨_,_,rfl⟩
  rw[hcr]at hde hn1 I h32;simp only at hde hn1 I h32;obtain⟨w,hy2⟩:=ac ((if cr≠65533\/n>1 then y.character ek cr else y))
  have hdr2:Tm.drain ek k' (w.aN (w.rest.drop n))=x.plain ek c:=by
   rw[<-hdr,Tm.drain,if_pos hcond];have:¬(y.rest.headD 0=27):=by rw[har]; exact h27
   rw[if_neg this];simp only[show ek.dec y.rest=(cr,n) from hcr];rw[hy2];rfl
  have j:w.rest=y.rest:=by
   rw[<-hy2];split
   .exact (il ek y cr).1
   .rfl
  have sy2:w.Sz:=by
   rw[<-hy2];split
   .exact sy.character cr
   .exact sy
  have hwc:IntKind.i64.wrap cr=cr:=aR (by have:=h32.1; omega) (by have:=h32.2; omega)
  -- what comes behind the character
  have tail:∀(Z:aa)(B:Rp)(E':Env),Step X p2 Z B w->∃ C S,bX Tryz.prog (ext Z []) 25 B.rv (a9 (jp kw (n:Int))) bi bi=a9 (.slice C (R-n) (R-n),ext Z [])/\Step H p (ext (uw Z p.t 19 [.slice C (R-n) (R-n)]) []) S (w.aN (w.rest.drop n)):=by
   intro Z B E' o;have hne2:w.rest≠[]:=by rw[j]; exact f
   obtain⟨C,hs,hb',hid⟩:=o.at_.rest.drop hne2 (k:=n) (by rw[j]; exact I);rw[j,hR]at hs hb' hid;refine⟨C,⟨p.t,B.rb,B.rs,.slice C (R-n) (R-n),B.pv⟩,hs,?_⟩;have hnd3:=(zD6.1 (zD6.1 o.at_.nd).2).2;rw[zC8]at hnd3;have stN:=o.at_.DE (.slice C (R-n) (R-n)) (w.rest.drop n) Mod.refl (by rw[j]; exact hb') (fun q hq=>.inl (hid▸hq)) (by rw[hid]; exact (zE6.1 (zE6.1 hnd3).2.1).1);have stF:=(st.trans ok o).trans ok stN;rw[show B.t=p.t from o.same.trans st.same]at stF;exact stF
  have hnat:∀ m:Nat,f7 ((1:Int)<(n:Int))=f7 (n>1):=fun _=>by
   by_cases h:n>1
   .rw[decide_eq_true h,decide_eq_true lw]
   .rw[decide_eq_false h,decide_eq_false lw]
  obtain⟨e1,he1⟩:∃ e,f7 (cr=65533)=e:=⟨_,rfl⟩
  have he1':f7 (¬cr=65533)=!e1:=by rw[<-he1]; simp
  obtain⟨e2,he2⟩:∃ e,f7 ((1:Int)<(n:Int))=e:=⟨_,rfl⟩
  simp (maxDischargeDepth:=6) only[A,z,hT,h1,hd,zW,Nat.reduceLT,Nat.reduceAdd,Nat.reduceEqDiff];refine (show bD Tryz.prog 79 _ (ext X []) _ (ext X []) from hfu).to ?_;simp (maxDischargeDepth:=6) only[A,z,hT,h1,i0,t0,ld0,f27,zW,Nat.reduceLT,Nat.reduceAdd,Nat.reduceEqDiff];refine (show bD Tryz.prog 80 _ (ext X []) _ (ext X []) from hde).to ?_
  have next:∀(Z:aa)(B:Rp),Step X p2 Z B w->∃ C S,bk Z p.t=a9 ⟨66,ci,bh B w⟩/\p.t<Z.next/\bX Tryz.prog (ext Z []) 25 B.rv (a9 (jp kw (n:Int))) bi bi=a9 (.slice C (R-n) (R-n),ext Z [])/\(∀ q∈ae (.slice C (R-n) (R-n)),q<Z.next)/\Step H p (ext (uw Z p.t 19 [.slice C (R-n) (R-n)]) []) S (w.aN (w.rest.drop n)):=by
   intro Z B o;obtain⟨C,S,t1,t2⟩:=tail Z B (fun _=>undef) o;have U:=o.at_.cell;have J:=o.at_.lt B.t pi;rw[show B.t=p.t from o.same.trans st.same]at U J;have hsub:ae (.slice C (R-n) (R-n))=ae B.rv:=by obtain⟨a2,hs2,_,hid2⟩:=o.at_.rest.drop (by rw[j]; exact f) (k:=n) (by rw[j]; exact I);rw[j,hR,t1]at hs2;have:=Option.some.inj hs2;rw[j,hR]at hid2;rw[(Prod.mk.inj this).1];exact hid2
   exact⟨C,S,U,J,t1,fun q hq=>o.at_.lt q (by rw[hsub]at hq; simp[Rp.aM,hq]),t2⟩
  have fin:∀(Z:aa)(B:Rp),Step X p2 Z B w->∃ C S,Step H p (ext (uw Z p.t 19 [.slice C (R-n) (R-n)]) []) S (w.aN (w.rest.drop n)):=fun Z B h=>by
   obtain⟨C,S,_,_,_,_,h⟩:=next Z B h
   exact⟨C,S,h⟩
  have hlen2:(w.rest.drop n).length=R-n:=by rw[zC6,j,hR]
  cases hb2:(!e1||e2) with
  |true =>
   have hyc:w=y.character ek cr:=by
    rw[<-hy2,if_pos]
    cases e1 with
    |false=>exact .inl (of_decide_eq_false he1)
    |true =>simp only[zD1,Bool.false_or]at hb2;exact .inr (by have:=of_decide_eq_true (he2.trans hb2); omega)
   have hch:=G4 ek Kv X p2 y cr st.at_ sy okX h32.1 h32.2;unfold iK at hch;rw[st.same,<-hyc]at hch
   cases e1<;>cases e2<;>first
    |(exfalso; revert hb2; decide)
    | (simp (maxDischargeDepth := 6) only [A, he1', he2, bp, hcv, hwc, zD1, zF4, zW, Nat.reduceLT, Nat.reduceEqDiff]
       refine (show bF Tryz.prog 81 _ (ext X []) _ from hch).mono ?_;rintro _ Z ⟨rfl,B,o⟩;obtain⟨C,S,U,J,D,K,O⟩:=next Z B o
       obtain⟨zn,hzn⟩:=ac Z.next;rw[hzn]at J K;simp only[bh]at U;rw[show Z=ext Z [] from rfl]
       cases C with
       |none =>simp (maxDischargeDepth:=6) only[A,hzn,J,U,D,zW,Nat.reduceLeDiff,Nat.reduceLT,Nat.reduceAdd,Nat.reduceEqDiff];refine aG ⟨(k',w.aN (w.rest.drop n),S),by simp only[Tm.aN]; omega,O,sy2.aN _,by simp only[Tm.aN]; omega,by simp only[Tm.aN]; omega,hdr2,?_⟩;simp only[A,aF,Nat.reduceEqDiff]
       |some a3 =>
        obtain⟨ab,ao,asp⟩:=a3;have habl:ab<zn:=K ab pm;simp (maxDischargeDepth:=6) only[A,hzn,J,U,D,habl,zW,Nat.reduceLeDiff,Nat.reduceLT,Nat.reduceAdd,Nat.reduceEqDiff];refine aG ⟨(k',w.aN (w.rest.drop n),S),by simp only[Tm.aN]; omega,O,sy2.aN _,by simp only[Tm.aN]; omega,by simp only[Tm.aN]; omega,hdr2,?_⟩
        simp only[A,aF,Nat.reduceEqDiff])
  |false =>
   have hyc:w=y:=by
    rw[<-hy2,if_neg]
    cases e1 with
    |false=>simp at hb2
    |true =>
     simp only[zD1,Bool.false_or]at hb2;rintro (h|h)
     .exact h (of_decide_eq_true he1)
     .have:=of_decide_eq_false (he2.trans hb2); omega
   obtain⟨C,S,U,J,D,K,O⟩:=next X p2 (by rw[hyc]; exact Step.refl st.at_)
   rw[z]at J K;rw[F]at D
   cases e1<;>cases e2<;>first
    |(exfalso; revert hb2; decide)
    | (cases C with
       |none =>simp (maxDischargeDepth:=6) only[A,z,hT,h1,he1',he2,D,zD1,zW,Nat.reduceLeDiff,Nat.reduceLT,Nat.reduceAdd,Nat.reduceEqDiff];refine aG ⟨(k',w.aN (w.rest.drop n),S),by simp only[Tm.aN]; omega,O,sy2.aN _,by simp only[Tm.aN]; omega,by simp only[Tm.aN]; omega,hdr2,?_⟩;simp only[A,aF,Nat.reduceEqDiff]
       |some a3 =>
        obtain⟨ab,ao,asp⟩:=a3;have habl:ab<xb:=K ab pm;simp (maxDischargeDepth:=6) only[A,z,hT,h1,he1',he2,D,habl,zD1,zW,Nat.reduceLeDiff,Nat.reduceLT,Nat.reduceAdd,Nat.reduceEqDiff];refine aG ⟨(k',w.aN (w.rest.drop n),S),by simp only[Tm.aN]; omega,O,sy2.aN _,by simp only[Tm.aN]; omega,by simp only[Tm.aN]; omega,hdr2,?_⟩
        simp only[A,aF,Nat.reduceEqDiff])
 .clear A E;rintro E X ⟨y,p2,st,hpl,A⟩;rw[show X=ext X [] from rfl,hpl];simp (maxDischargeDepth:=6) only[Tryz.results41,zW,Nat.reduceLT];exact⟨rfl,p2,st⟩
end Go.Proofs.YtpohjcacnkhnkaaGreatDoor.Tq
namespace Go.Proofs.YtpohjcacnkhnkaaGreatDoor
open Go.Ax
def ri(l:List UInt8)(h:0<l.length):0<=(rV l).2/\(rV l).2.toNat<=l.length/\-1<(rV l).1+1/\(rV l).1<2000000000:=by
 have j:=L4 l 0;have k:=L4 l 1;have r2:=L4 l 2;have m:=L4 l 3;unfold rV
 cases n:f7 (bt l 0<128) with
 |true=>simp only[cond_true]; omega
 |false =>
  rw[cond_false]
  cases c:(f7 (194<=bt l 0)&&f7 (bt l 0<224)&&tl l 1) with
  |true =>simp only[zA6,decide_eq_true_eq]at c;have:=xz c.2;simp only[cond_true];omega
  |false =>
   rw[cond_false]
   cases b:(f7 (224<=bt l 0)&&f7 (bt l 0<240)&&tl l 1&&tl l 2) with
   |true =>
    simp only[zA6,decide_eq_true_eq]at b;have e:=xz b.1.2;have f:=xz b.2;rw[cond_true]
    cases (f7 (2048<=((bt l 0-224)*64+bt l 1-128)*64+bt l 2-128)&&oA (((bt l 0-224)*64+bt l 1-128)*64+bt l 2-128)) with
    |true=>simp only[cond_true]; omega
    |false=>simp only[cond_false]; omega
   |false =>
    rw[cond_false]
    cases a:(f7 (240<=bt l 0)&&f7 (bt l 0<245)&&tl l 1&&tl l 2&&tl l 3) with
    |true =>
     simp only[zA6,decide_eq_true_eq]at a;have e:=xz a.1.1.2;have f:=xz a.1.2;have o:=xz a.2;rw[cond_true]
     cases (f7 (65536<=(((bt l 0-240)*64+bt l 1-128)*64+bt l 2-128)*64+bt l 3-128)&&oA ((((bt l 0-240)*64+bt l 1-128)*64+bt l 2-128)*64+bt l 3-128)) with
     |true=>simp only[cond_true]; omega
     |false=>simp only[cond_false]; omega
    |false=>simp only[cond_false]; omega
def MG:Nat->List UInt8->Option (List Int)
 |0,l=>if l=[] then a9 [] else bi
 |n+1,l=>if l=[] then a9 [] else if (rV l).2=0 then bi else (MG n (l.drop (rV l).2.toNat)).map ((rV l).1::·)
def CI:∀(n m:Nat)(l:List UInt8),l.length<=n->l.length<=m->MG n l=MG m l
 |0,m,l,b,_=>by have:l=[]:=zE5 lw;subst this;cases m<;>rfl
 |n+1,0,l,_,c=>by have:l=[]:=zE5 lw;subst this;rfl
 |n+1,m+1,l,b,c=>by
  simp only[MG]
  by_cases h:l=[]
  .rw[if_pos h,if_pos h]
  .rw[if_neg h,if_neg h];by_cases a:(rV l).2=0
   .rw[if_pos a,if_pos a]
   .rw[if_neg a,if_neg a];have e:0<l.length:=List.length_pos_iff.2 h;have:=ri l e;rw[CI n m _ (by rw[zC6]; omega) (by rw[zC6]; omega)]
def ei(l:List UInt8):Option (List Int):=MG l.length l
theorem AI:ei []=a9 []:=rfl
def n6(l:List UInt8)(h:0<l.length):ei l=if (rV l).2=0 then bi else (ei (l.drop (rV l).2.toNat)).map ((rV l).1::·):=by
 unfold ei
 obtain⟨n,b⟩:∃ n,l.length=n+1:=⟨l.length-1,by omega⟩
 rw[b,MG,if_neg (fun e=>by rw[e]at h; simp at h)];by_cases a:(rV l).2=0
 .rw[if_pos a,if_pos a]
 .rw[if_neg a,if_neg a];have:=ri l h;rw[CI n _ _ (by rw[zC6]; omega) (zA4 _)]
def iv(l:List Int):List Value:=l.map (Value.int kw)
def VK(l:List Int)(n:Nat):aT n (iv l)=true:=by induction l with|nil=>rfl|cons a l b=>simp only[iv,zB8,aT]at b ⊢; rw[b]; rfl
def Td{X:aa}{v:go}{l:List Int}{c:Int}{x:Nat}(h:cz X 3 1 v (iv l) l.length)(hx:X.next=x)(a:X.base<=X.next)(j:l.length<=4000000) :
  ∃ G,aE Tryz.prog (ext X [⟨3,ci,[jp kw c]⟩]) .append ⟨[22,22]⟩ [v,lm (a9 ⟨x+0,0,a9 0⟩) 1 1]=a9 (lm (a9 ⟨x+1,0,bi⟩) (l.length+1) (l.length+1),ext G [])/\cz G 3 1 (lm (a9 ⟨x+1,0,bi⟩) (l.length+1) (l.length+1)) (iv (l++[c])) (l++[c]).length/\Mod (ae v) X G/\G.next=x+2:=by
 have m:cz (ext X [⟨3,ci,[jp kw c]⟩]) 3 1 v (iv l) l.length:=h.of (by rw[ai]; omega) (fun n o=>bL (h.ne n o).2);have r:bk (ext X [⟨3,ci,[jp kw c]⟩]) (x+0)=a9 ⟨3,ci,[jp kw c]⟩:=by rw[aZ hx nl]; rfl
 have f:small (l.length+1) 8=true:=by simp only[small,zA6,zE8]; omega
 obtain⟨G,w,k,A,B,_⟩:=oO (P:=Tryz.prog) (H:=ext X [⟨3,ci,[jp kw c]⟩]) (st:=22) (xt:=22) (e:=3) (sz:=1) (by1:=8) (z:=jp kw 0) (n:=x+0) (off:=0) (cnt2:=1) (cap:=1) (s:=a9 0) (x:=x+1) (ws:=[jp kw c]) (b:=⟨3,ci,[jp kw c]⟩)
  m9 m9 m9 m9 rfl m9 m (iq r) nl rfl rfl ol f (by rw[ai,hx]; rfl) (cb (VK _ _) rfl)
 have C:iv l++[jp kw c]=iv (l++[c]):=by simp[iv]
 rw[C]at k;refine⟨G,w,by rw[zB3]; exact k,(Mod.ext a).trans (A ((Mod.ext (W:=[]) a).ok a)),B⟩
end Go.Proofs.YtpohjcacnkhnkaaGreatDoor
namespace Go.Proofs.YtpohjcacnkhnkaaGreatDoor.Tq
open Go.Ax
structure TP (e:List UInt8) (c:Int):Prop where
 ne:e≠[]
 part:∀ k,0<k->k<e.length->jR (e.take k)=ci
 full:jR e=bv
 dec:qI e=(c,e.length)
 big:c≠65533\/1<e.length
 esc:e.headD 0=27->c=27
def tu{a:UInt8}{r:List UInt8}(h:fK a<=((r.length+1:Nat):Int)):jR (a::r)=true:=by have:IntKind.i64.wrap (eQ .u8 (cF a.toNat) 7)<=((r.length+1:Nat):Int):=h;rw[jR,decide_eq_true this];rfl
def re{a:UInt8}{r:List UInt8}{n lo hi:Int}(b:vU a.toNat=a9 (n,lo,hi))(h:((r.length+1:Nat):Int)<n):jR (a::r)=tQ lo hi r:=by
 obtain⟨_,c,e,f⟩:=tj b;have:¬IntKind.i64.wrap (eQ .u8 (cF a.toNat) 7)<=((r.length+1:Nat):Int):=by have:IntKind.i64.wrap (eQ .u8 (cF a.toNat) 7)=n:=c;omega
 rw[jR,decide_eq_false this,e,f];rfl
def B0{a:UInt8}(h:a.toNat<128):TP [a] (a.toNat:Int):=by
 have c:vU a.toNat=none:=by unfold vU; rw[if_pos lw]
 have b:=zC3.1 L6 a.toNat (zF7.2 a.toNat_lt);rw[IL,c]at b;simp only[zA6,decide_eq_true_eq]at b;refine⟨by simp,fun k f e=>?_,tu b.2,?_,.inl lw,fun h=>?_⟩
 .simp only[zI0]at e; omega
 .rw[qI,decide_eq_true lw];rfl
 .simp only[List.headD_cons]at h;rw[h]; rfl
def SD{a b:UInt8}(c:194<=a.toNat)(f:a.toNat<224)(m:128<=b.toNat)(n:b.toNat<192):TP [a,b] (((a.toNat:Int)-192)*64+b.toNat-128):=by
 have j:vU a.toNat=a9 (2,128,191):=by unfold vU; rw[if_neg lw,if_pos f]
 obtain⟨w,e,c2,o⟩:=tj j;refine⟨by simp,fun k z r=>?_,tu (by rw[e]; simp),?_,.inr nl,fun h=>?_⟩
 .simp only[zA9,zB4]at r;obtain rfl:k=1:=by omega
  show jR [a]=ci;rw[re j nl]; rfl
 .have s:f7 (((([b]:List UInt8).length+1:Nat):Int)<fK a)=false:=by rw[e]; rfl
  simp only[qI,jE,pE,pV,Uc];rw[s,decide_eq_false (show ¬(a.toNat:Int)<128 by omega),decide_eq_false (show ¬240<=cF a.toNat by omega),e,c2,o,decide_eq_false (show ¬(b.toNat:Int)<128 by omega),decide_eq_false (show ¬(191:Int)<(b.toNat:Int) by omega),RU c f m n];rfl
 .simp only[List.headD_cons]at h;rw[h]at c; exact absurd c ol
def Ny{a b c:UInt8}{lo hi:Int}(e:224<=a.toNat)(m:a.toNat<240)(n:128<=b.toNat)(o:b.toNat<192)(r:128<=c.toNat)(s:c.toNat<192)(f:vU a.toNat=a9 (3,lo,hi))(B:lo<=b.toNat)(l2:(b.toNat:Int)<=hi):TP [a,b,c] ((((a.toNat:Int)-224)*64+b.toNat-128)*64+c.toNat-128):=by
 obtain⟨C,j,c2,w⟩:=tj f;refine⟨by simp,fun k D z=>?_,tu (by rw[j]; simp),?_,.inr nl,fun h=>?_⟩
 .simp only[zA9,zB4]at z;rcases (by omega:k=1\/k=2) with rfl|rfl
  .show jR [a]=ci;rw[re f nl]; rfl
  .show jR [a,b]=ci;rw[re f nl];rw[tQ,decide_eq_false lw,decide_eq_false lw];rfl
 .have A:f7 (((([b,c]:List UInt8).length+1:Nat):Int)<fK a)=false:=by rw[j]; rfl
  simp only[qI,jE,pE,pV,sg,Uc,RM];rw[A,decide_eq_false (show ¬(a.toNat:Int)<128 by omega),decide_eq_false (show ¬240<=cF a.toNat by omega),j,c2,w,decide_eq_false (show ¬(b.toNat:Int)<lo by omega),decide_eq_false (show ¬hi<(b.toNat:Int) by omega),decide_eq_false (show ¬(c.toNat:Int)<128 by omega),decide_eq_false (show ¬(191:Int)<(c.toNat:Int) by omega),S8 e m n o r s];rfl
 .simp only[List.headD_cons]at h;rw[h]at e; exact absurd e ol
def Ri{a b c d:UInt8}{lo hi:Int}(f:240<=a.toNat)(m:a.toNat<245)(n:128<=b.toNat)(o:b.toNat<192)(r:128<=c.toNat)(s:c.toNat<192)(w:128<=d.toNat)(z:d.toNat<192)(e:vU a.toNat=a9 (4,lo,hi))(D:lo<=b.toNat)(l2:(b.toNat:Int)<=hi):TP [a,b,c,d] (((((a.toNat:Int)-240)*64+b.toNat-128)*64+c.toNat-128)*64+d.toNat-128):=by
 obtain⟨F,j,c2,A⟩:=tj e;refine⟨by simp,fun k I B=>?_,tu (by rw[j]; simp),?_,.inr nl,fun h=>?_⟩
 .simp only[zA9,zB4]at B;rcases (by omega:k=1\/k=2\/k=3) with rfl|rfl|rfl
  .show jR [a]=ci;rw[re e nl]; rfl
  .show jR [a,b]=ci;rw[re e nl];rw[tQ,decide_eq_false lw,decide_eq_false lw];rfl
  .show jR [a,b,c]=ci;rw[re e nl];rw[tQ,decide_eq_false (show ¬(b.toNat:Int)<lo by omega),decide_eq_false (show ¬hi<(b.toNat:Int) by omega),decide_eq_false (show ¬(c.toNat:Int)<128 by omega),decide_eq_false (show ¬(191:Int)<(c.toNat:Int) by omega)];rfl
 .have C:f7 (((([b,c,d]:List UInt8).length+1:Nat):Int)<fK a)=false:=by rw[j]; rfl
  simp only[qI,jE,pE,pV,sg,Uc,RM];rw[C,decide_eq_false (show ¬(a.toNat:Int)<128 by omega),decide_eq_false (show ¬240<=cF a.toNat by omega),j,c2,A,decide_eq_false (show ¬(b.toNat:Int)<lo by omega),decide_eq_false (show ¬hi<(b.toNat:Int) by omega),decide_eq_false (show ¬(c.toNat:Int)<128 by omega),decide_eq_false (show ¬(191:Int)<(c.toNat:Int) by omega),decide_eq_false (show ¬(d.toNat:Int)<128 by omega),decide_eq_false (show ¬(191:Int)<(d.toNat:Int) by omega),S1 f m n o r s w z];rfl
 .simp only[List.headD_cons]at h;rw[h]at f; exact absurd f ol
def U6(l:List UInt8)(D:l≠[])(h:(rV l).2≠0):TP (l.take (rV l).2.toNat) (rV l).1:=by
 have e:∀ i,tl l i=bv->i<l.length/\128<=bt l i/\bt l i<192:=fun i=>xz;unfold rV at h ⊢;by_cases I:bt l 0<128
 .rw[decide_eq_true I]at h ⊢;simp only[cond_true]at h ⊢
  rcases l with _|⟨a,r⟩
  .exact absurd rfl D
  .exact B0 (a:=a) (by have:(a.toNat:Int)<128:=I; omega)
 rw[decide_eq_false I]at h ⊢;simp only[cond_false]at h ⊢;by_cases c2:(f7 (194<=bt l 0)&&f7 (bt l 0<224)&&tl l 1)=bv
 .rw[c2]at h ⊢;simp only[cond_true]at h ⊢;simp only[zA6,decide_eq_true_eq]at c2;obtain⟨⟨n,o⟩,k3⟩:=c2;obtain⟨s,w,z⟩:=e 1 k3
  rcases l with _|⟨a,_|⟨b,r⟩⟩
  .exact absurd rfl D
  .simp at s
  .have k:bt (a::b::r) 0=(a.toNat:Int):=rfl;have m:bt (a::b::r) 1=(b.toNat:Int):=rfl;rw[k]at n o ⊢;rw[m]at w z ⊢;exact SD (a:=a) (b:=b) lw lw lw lw
 rw[Bool.eq_false_iff.2 c2]at h ⊢;simp only[cond_false]at h ⊢;by_cases F:(f7 (224<=bt l 0)&&f7 (bt l 0<240)&&tl l 1&&tl l 2)=bv
 .rw[F]at h ⊢;simp only[cond_true]at h ⊢;simp only[zA6,decide_eq_true_eq]at F;obtain⟨⟨⟨n,o⟩,k3⟩,k3'⟩:=F;obtain⟨s,w,z⟩:=e 1 k3;obtain⟨J,K,O⟩:=e 2 k3'
  rcases l with _|⟨a,_|⟨b,_|⟨c,r⟩⟩⟩
  .exact absurd rfl D
  .simp at s
  .simp at J
  .have k:bt (a::b::c::r) 0=(a.toNat:Int):=rfl;have m:bt (a::b::c::r) 1=(b.toNat:Int):=rfl;have A:bt (a::b::c::r) 2=(c.toNat:Int):=rfl;rw[k,m,A]at h ⊢;rw[k]at n o;rw[m]at w z;rw[A]at K O;by_cases f:(f7 (2048<=(((a.toNat:Int)-224)*64+(b.toNat:Int)-128)*64+(c.toNat:Int)-128)&&Go.Proofs.YtpohjcacnkhnkaaGreatDoor.oA ((((a.toNat:Int)-224)*64+(b.toNat:Int)-128)*64+(c.toNat:Int)-128))=bv
   .rw[f];simp only[zA6,decide_eq_true_eq]at f;obtain⟨f,j⟩:=f;unfold Go.Proofs.YtpohjcacnkhnkaaGreatDoor.oA at j;simp only[zA6,decide_eq_true_eq,Bool.not_eq_true',Bool.and_eq_false_iff,decide_eq_false_iff_not]at j
    obtain⟨lo,hi,R,S,U⟩:∃ lo hi,vU a.toNat=a9 (3,lo,hi)/\lo<=(b.toNat:Int)/\(b.toNat:Int)<=hi:=by
     unfold vU;rw[if_neg lw,if_neg lw];by_cases B:a.toNat=224
     .rw[if_pos B]; exact⟨_,_,rfl,by omega,by omega⟩
     .rw[if_neg B];by_cases C:a.toNat=237
      .rw[if_pos C]; exact⟨_,_,rfl,by omega,by omega⟩
      .rw[if_neg C,if_pos lw]; exact⟨_,_,rfl,by omega,by omega⟩
    exact Ny (a:=a) (b:=b) (c:=c) lw lw lw lw lw lw R S U
   .rw[Bool.eq_false_iff.2 f]at h;exact absurd rfl h
 rw[Bool.eq_false_iff.2 F]at h ⊢;simp only[cond_false]at h ⊢;by_cases f:(f7 (240<=bt l 0)&&f7 (bt l 0<245)&&tl l 1&&tl l 2&&tl l 3)=bv
 .rw[f]at h ⊢;simp only[cond_true]at h ⊢;simp only[zA6,decide_eq_true_eq]at f;obtain⟨⟨⟨⟨n,o⟩,k3⟩,k3'⟩,k3''⟩:=f;obtain⟨s,w,z⟩:=e 1 k3;obtain⟨J,K,O⟩:=e 2 k3';obtain⟨V,k11,k12⟩:=e 3 k3''
  rcases l with _|⟨a,_|⟨b,_|⟨c,_|⟨d,r⟩⟩⟩⟩
  .exact absurd rfl D
  .simp at s
  .simp at J
  .simp at V
  .have k:bt (a::b::c::d::r) 0=(a.toNat:Int):=rfl;have m:bt (a::b::c::d::r) 1=(b.toNat:Int):=rfl;have A:bt (a::b::c::d::r) 2=(c.toNat:Int):=rfl;have e3:bt (a::b::c::d::r) 3=(d.toNat:Int):=rfl;rw[k,m,A,e3]at h ⊢;rw[k]at n o;rw[m]at w z;rw[A]at K O;rw[e3]at k11 k12;by_cases j:(f7 (65536<=((((a.toNat:Int)-240)*64+(b.toNat:Int)-128)*64+(c.toNat:Int)-128)*64+(d.toNat:Int)-128)&&Go.Proofs.YtpohjcacnkhnkaaGreatDoor.oA (((((a.toNat:Int)-240)*64+(b.toNat:Int)-128)*64+(c.toNat:Int)-128)*64+(d.toNat:Int)-128))=bv
   .rw[j];simp only[zA6,decide_eq_true_eq]at j;obtain⟨j,c6⟩:=j;unfold Go.Proofs.YtpohjcacnkhnkaaGreatDoor.oA at c6;simp only[zA6,decide_eq_true_eq,Bool.not_eq_true',Bool.and_eq_false_iff,decide_eq_false_iff_not]at c6
    obtain⟨lo,hi,R,S,U⟩:∃ lo hi,vU a.toNat=a9 (4,lo,hi)/\lo<=(b.toNat:Int)/\(b.toNat:Int)<=hi:=by
     unfold vU;rw[if_neg lw,if_neg lw,if_neg lw,if_neg lw,if_neg lw];by_cases B:a.toNat=240
     .rw[if_pos B]; exact⟨_,_,rfl,by omega,by omega⟩
     .rw[if_neg B];by_cases C:a.toNat<244
      .rw[if_pos C]; exact⟨_,_,rfl,by omega,by omega⟩
      .rw[if_neg C,if_pos lw]; exact⟨_,_,rfl,by omega,by omega⟩
    exact Ri (a:=a) (b:=b) (c:=c) (d:=d) lw lw lw lw lw lw lw lw R S U
   .rw[Bool.eq_false_iff.2 j]at h;exact absurd rfl h
 .rw[Bool.eq_false_iff.2 f]at h;exact absurd rfl h
def OI{u:AW}{t:Tm}(h:u.full t.rest=ci)(k:Nat):Tm.drain u k t=(t,0):=by
 cases k with
 |zero=>rfl
 |succ k=>rw[Tm.drain,if_neg (fun c=>by rw[h]at c; exact absurd c.2 ol)]
def MY{u:AW}{t:Tm}(h:t.rest=[])(k:Nat):Tm.drain u k t=(t,0):=by
 cases k with
 |zero=>rfl
 |succ k=>rw[Tm.drain,if_neg (fun c=>c.1 h)]
def Mi{t:Tm}{e:List UInt8}{c:Int}(a:t.rest=e)(b:TP e c)(m:c≠27)(k:Nat):Tm.drain ek (k+1) t=({t.character ek c with rest:=[]},0):=by
 have f:¬t.rest.headD 0=27:=fun h=>m (b.esc (a▸h));have n:ek.dec t.rest=(c,e.length):=by rw[a]; exact b.dec
 have o:c≠65533\/e.length>1:=b.big;rw[Tm.drain,if_pos ⟨by rw[a]; exact b.ne,by rw[a]; exact b.full⟩,if_neg f,n];simp only;have j:((t.character ek c).rest.drop e.length)=[]:=by rw[(il ek t c).1,a,List.drop_length]
 rw[if_pos o,j,MY rfl]
def B4{u:AW}{t:Tm}(h:t.mode=0)(b:UInt8):t.step u b={(t.plain u b).1 with mode:=(t.plain u b).2}:=by unfold Tm.step;rw[h];rcases hx:t.plain u b with⟨y,m⟩;simp only[]
def QY{t:Tm}(i:Idle t){e:List UInt8}{c:Int}(f:TP e c)(o:c≠27):t.feed ek e={({t with rest:=e}:Tm).character ek c with mode:=0,rest:=[]}:=by
 have b:∀ k,k<e.length->t.feed ek (e.take k)={t with rest:=e.take k}:=fun k=>by
  induction k with
  |zero =>intro _;have:=i.rest;cases t;simp only at this;subst this;rfl
  |succ k s =>intro w;rw[zG4,zB0 lw];simp only[Option.toList_some];rw[Tm.ez,s lw];simp only[Tm.feed,List.foldl_cons,List.foldl_nil];rw[B4 (show ({t with rest:=e.take k}:Tm).mode=0 from i.mode)];have h:=f.part (k+1) lw w;rw[zG4,zB0 lw]at h;simp only[Option.toList_some]at h;unfold Tm.plain;rw[OI (show ek.full ({t with rest:=e.take k++[e[k]]}:Tm).rest=ci from h)];simp only;rw[<-i.mode]
 obtain⟨n,A⟩:∃ n,e.length=n+1:=by
  cases e with
  |nil=>exact absurd rfl f.ne
  |cons a r=>exact⟨r.length,rfl⟩
 have j:e.take n++[e[n]]=e:=by have:=zG4 (l:=e) (i:=n);rw[zB0 lw]at this;simp only[Option.toList_some]at this;rw[<-this,zD4 lw]
 have z:=b n lw
 have:t.feed ek e=(t.feed ek (e.take n)).step ek e[n]:=by
  conv=>lhs; rw[<-j,Tm.ez]
  rfl
 rw[this,z,B4 (show ({t with rest:=e.take n}:Tm).mode=0 from i.mode)];have m:=Mi (t:=({t with rest:=e.take n++[e[n]]}:Tm)) (e:=e) j f o ((e.take n).length+1);unfold Tm.plain;simp only at m ⊢;rw[m,j]
end Go.Proofs.YtpohjcacnkhnkaaGreatDoor.Tq
namespace Go.Proofs.YtpohjcacnkhnkaaGreatDoor
open Go.Ax
def ej(H:aa)(v:go)(g:List (List Ce)):Prop :=
 (g=[]/\∃ a c,v=.slice a 0 c)\/(g≠[]/\∃ n off s c e o L,v=lm (a9 ⟨n,off,s⟩) g.length c/\rk H n=a9 ⟨e,o,L⟩/\n<H.next/\off+g.length<=L.length/\∀ k row,g[k]?=a9 row->∃ rv,L[off+k]?=a9 rv/\dZ H rv row)
def ej.sl{H:aa}{v:go}{g:List (List Ce)}(h:ej H v g):∃ a c,v=.slice a g.length c:=by
 rcases h with⟨rfl,a,c,rfl⟩|⟨_,n,off,s,c,e,o,L,rfl,_⟩
 .exact⟨a,c,rfl⟩
 .exact⟨_,_,rfl⟩
def dZ.ext{H:aa}{v:go}{l:List Ce}{B:List Bl}(h:dZ H v l):dZ (Go.Ax.ext H B) v l:=by
 rcases h with⟨rfl,a,c,rfl⟩|⟨j,n,off,s,c,e,o,L,rfl,k,b,f,m⟩
 .exact .inl ⟨rfl,a,c,rfl⟩
 .exact .inr ⟨j,n,off,s,c,e,o,L,rfl,(Rr b).trans k,by rw[ai]; omega,f,m⟩
def ej.ext{H:aa}{v:go}{g:List (List Ce)}{B:List Bl}(h:ej H v g):ej (Go.Ax.ext H B) v g:=by
 rcases h with⟨rfl,a,c,rfl⟩|⟨j,n,off,s,c,e,o,L,rfl,m,b,f,r⟩
 .exact .inl ⟨rfl,a,c,rfl⟩
 .exact .inr ⟨j,n,off,s,c,e,o,L,rfl,(Rr b).trans m,by rw[ai]; omega,f,fun k row w=>by
   obtain⟨rv,z,A⟩:=r k row w
   exact⟨rv,z,A.ext⟩⟩
def dZ.ne{H:aa}{v:go}{l:List Ce}(h:dZ H v l)(f:l≠[]):∀ n∈ae v,H.get n≠bi/\n<H.next:=by
 rcases h with⟨rfl,_⟩|⟨_,n,off,s,c,e,o,L,rfl,j,a,_⟩
 .exact absurd rfl f
 .intro m b;simp only[ae,zA5]at b;subst b;exact⟨KW j,a⟩
def fD{len cap n off:Nat}{s:Option Nat}{i:Int}{k:Nat}(hi:i=k)(a:k<len):aW Tryz.prog 39 (lm (a9 ⟨n,off,s⟩) len cap) (jp kw i)=a9 (li (a9 ⟨n,off+k,bi⟩)):=by subst hi;rw[gk (e:=56) (sz:=1) m9 m9 lw lw];simp
def Wp:fj Tryz.prog 56=a9 false:=by kernel_rfl
def dG{k off:Nat}{e:io}{o:Bool}{L:List go}{rv:go}(h:L[off+k]?=a9 rv):rL Tryz.prog 56 (off+k) (a9 ⟨e,o,L⟩)=a9 rv:=by simp only[rL,Wp,h]
def uN(l:List Ce)(v:go):List Nat:=if l=[] then [] else ae v
def dZ.f{H:aa}{v:go}{l:List Ce}(h:dZ H v l):∀ n∈uN l v,H.get n≠none:=by
 unfold uN;split
 .intro n a; cases a
 .rename_i b; exact fun n a=>(h.ne b n a).1
def dZ.Si{H G:aa}{v:go}{l:List Ce}(h:dZ H v l)(j:H.next<=G.next)(b:∀ n∈uN l v,G.get n=H.get n):dZ G v l:=by
 by_cases f:l=[]
 .obtain⟨a,c,e⟩:=h.sl;subst f;exact .inl ⟨rfl,a,c,e⟩
 .rw[uN,if_neg f]at b;exact h.of j b
def rY(H:aa)(v1 v2:go)(a j:List (List Ce))(w z r2 c2:Int)(h1:ej H v1 a)(h2:ej H v2 j)(hl:a.length<1000000)(hw:∀ l∈a,l.length<1000000) :
  Pure 14 [.agg #[v1,jp kw w,jp kw z],.agg #[v2,jp kw r2,jp kw c2]] H (ls (f7 (a=j/\w=r2/\z=c2))):=by
 obtain⟨b,C⟩:=ac H.next;refine bA mixed Tryz.func14 rfl Tryz.ntmps14 (zA7 rfl) fun wf hsc=>?_;obtain⟨a1,k1,e1⟩:=h1.sl;obtain⟨a2,k2,e2⟩:=h2.sl;have D:aV b v1=bv/\aV b v2=true:=by simp only[aT,aV,fL,zA6,C]at hsc;exact⟨hsc.1.1,hsc.2.1.1⟩
 rw[e1,e2]at D
 have hfin:∀ s:Bool,(s=bv->a=j/\w=r2/\z=c2)->(s=ci->¬(a=j/\w=r2/\z=c2))->s=f7 (a=j/\w=r2/\z=c2):=fun s h1 h2=>by
  cases s
  .rw[decide_eq_false (h2 rfl)]
  .rw[decide_eq_true (h1 rfl)]
 obtain⟨d1,hd1⟩:∃ d,f7 ((a.length:Int)=(j.length:Int))=d:=⟨_,rfl⟩
 obtain⟨d2,hd2⟩:∃ d,f7 (w=r2)=d:=⟨_,rfl⟩
 obtain⟨d3,hd3⟩:∃ d,f7 (z=c2)=d:=⟨_,rfl⟩
 have O:a.length=j.length ↔ d1=true:=by rw[<-hd1,decide_eq_true_iff]; omega
 have R:w=r2 ↔ d2=true:=by rw[<-hd2,decide_eq_true_iff]
 have S:z=c2 ↔ d3=true:=by rw[<-hd3,decide_eq_true_iff]
 rw[e1,e2];simp only[C,D.1,D.2,hd1,zW,seval];cases d1<;>simp only[C,hd2,zW,seval]<;>cases d2<;>(try simp (maxDischargeDepth:=6) only[C,hd3,zW,seval])<;>cases d3<;>(try simp (maxDischargeDepth:=6) only[zW,seval]) <;>
 (refine da fun E hE=>?_
  obtain⟨s0,F,hs⟩:∃ s0:Bool,E 5=ls s0/\(s0=bv ↔ (a.length=j.length/\w=r2/\z=c2)):=by refine⟨_,by rw[hE]; (simp only[aF,seval]<;>rfl),?_⟩;rw[O,R,S];decide
  have q2:E 2=li (a9 ⟨b+0,0,bi⟩):=by rw[hE]; rfl
  have q3:E 3=li (a9 ⟨b+1,0,bi⟩):=by rw[hE]; rfl
  have U:E 6=jp kw 0:=by rw[hE]; rfl
  clear hE hd1 hd2 hd3 O R S;have hB0:∀ A B,bk (ext H [A,B]) (b+0)=a9 A:=fun A B=>by rw[aZ C nl]; rfl
  have hB1:∀ A B,bk (ext H [A,B]) (b+1)=a9 B:=fun A B=>by rw[aZ C nl]; rfl
  refine aS (fun E' H'=>H'=ext H [⟨41,ci,[v1,jp kw w,jp kw z]⟩,⟨41,ci,[v2,jp kw r2,jp kw c2]⟩]/\E' 5=ls (f7 (a=j/\w=r2/\z=c2))) ?_ ?_
  .refine cp (fun (k:Nat × Bool) E' H'=>H'=ext H [⟨41,ci,[v1,jp kw w,jp kw z]⟩,⟨41,ci,[v2,jp kw r2,jp kw c2]⟩]/\E' 2=li (a9 ⟨b+0,0,bi⟩)/\E' 3=li (a9 ⟨b+1,0,bi⟩)/\E' 5=ls k.2/\E' 6=jp kw (k.1:Int)/\k.1<=a.length/\(k.2=bv->a.length=j.length/\a.take k.1=j.take k.1/\w=r2/\z=c2)/\(k.2=ci->¬(a=j/\w=r2/\z=c2))) (fun k=>a.length-k.1) (0,s0)
    ⟨by rw[e1,e2],q2,q3,F,U,zB7 _,fun h=>⟨(hs.1 h).1,rfl,(hs.1 h).2⟩,fun h e=>by simp only at h; rw[h]at hs; exact absurd (hs.2 ⟨by rw[e.1],e.2⟩) ol⟩ ?_
   clear q2 q3 F U hs;rintro⟨k,s⟩ E H' ⟨hH,q2,q3,F,U,hk,hs1,hs2⟩;simp only at F U hk hs1 hs2;rw[hH]
   cases s with
   |false =>simp only[F,zW,seval];refine ag ⟨rfl,?_⟩;simp only[F,aF,seval];rw[decide_eq_false (hs2 rfl)]
   |true =>
    obtain⟨c,V,hr,hc⟩:=hs1 rfl;by_cases hkl:k=a.length
    .have hcd:f7 ((k:Int)<(a.length:Int))=false:=by simp[hkl]
     rw[e1];simp only[q2,F,U,C,hcd,zW,seval];refine ag ⟨rfl,?_⟩;simp only[F,aF,seval];have:a=j:=by have e3:=V;rw[hkl,zH2,c,zH2]at e3;exact e3
     rw[decide_eq_true ⟨this,hr,hc⟩]
    .have I:k<a.length:=by omega
     have hcd:f7 ((k:Int)<(a.length:Int))=true:=decide_eq_true lw
     rcases h1 with⟨h,_⟩|⟨_,n1,o1,s1,x1,t1,p1,L1,rfl,b1,n1l,le1,tk1⟩
     .rw[h]at I; simp at I
     rcases h2 with⟨h,_⟩|⟨_,n2,o2,s2,x2,t2,p2,L2,rfl,b2,n2l,le2,tk2⟩
     .rw[h]at c; simp at c; simp[c]at I
     obtain⟨w1,J⟩:∃ r,a[k]?=a9 r:=⟨_,zB0 I⟩
     obtain⟨w2,K⟩:∃ r,j[k]?=a9 r:=⟨_,zB0 lw⟩
     obtain⟨u1,hu1,ra1⟩:=tk1 k w1 J;obtain⟨u2,hu2,ra2⟩:=tk2 k w2 K;have i1:=fD (n:=n1) (off:=o1) (s:=s1) (cap:=x1) (i:=(k:Int)) rfl I;have i2:=fD (n:=n2) (off:=o2) (s:=s2) (cap:=x2) (i:=(k:Int)) (len:=j.length) rfl lw;have y1:=dG (e:=t1) (o:=p1) hu1;have y2:=dG (e:=t2) (o:=p2) hu2;rw[C]at n1l n2l;have hww:w1.length<1000000:=hw w1 (zC5 J);simp only[q2,F,U,C,hcd,zW,seval];refine aQ [] [] m9 rfl rfl fun ops anc hA hG=>?_;simp only[q2,q3,U,C,i1,i2,b1,b2,n1l,n2l,y1,y2,cm,bS,zW,seval];refine bI (v:=ls (f7 (w1=w2))) (uN w1 u1++uN w2 u2) (by simp only[aF,seval]) m9 ol (fun m hm=>?_) (fun G hn hg=>?_) (by simp (maxDischargeDepth:=6) only[bS]) ?_
     .rcases zB1.1 hm with hm|hm
      .exact ra1.ext.f m hm
      .exact ra2.ext.f m hm
     .simp only[aF,seval];exact Gv G u1 u2 w1 w2 (ra1.ext.Si (zF6 hn.symm) fun m hm=>hg m (zF8 _ hm)) (ra2.ext.Si (zF6 hn.symm) fun m hm=>hg m (zG6 _ hm)) hww
     simp only[U,C,ba (show k<1000000 by omega),bS,zW,seval];refine aG ⟨(k+1,f7 (w1=w2)),by simp only; omega,rfl,?_,?_,?_,?_,by simp only; omega,fun h=>⟨c,?_,hr,hc⟩,fun h e=>?_⟩<;>try simp only[q2,q3,aF,seval]
     .have h:=of_decide_eq_true h;rw[zG4,zG4,J,K,V,h]
     .have h:=of_decide_eq_false h;rw[e.1]at J;rw[J]at K;exact h (Option.some.inj K)
  .rintro E H' ⟨hH,F⟩;rw[hH];simp only[F,Tryz.results14,zW,seval]
   exact Fin.pure rfl)
def Ur(t:Bool):Option Nat:=if t then bi else a9 0
def fH(N:Nat)(H:aa)(rv:go)(l:List Ce):Prop :=
 ∃ n t c o,rv=lm (a9 ⟨n,0,Ur t⟩) l.length (l.length+c)/\bk H n=a9 ⟨77,o,a8 l⟩/\N<=n/\n<H.next
structure jO (N:Nat) (H:aa) (v:go) (rvs:List go) (g:List (List Ce)):Prop where
 len:rvs.length=g.length
 at_:(g=[]/\v=lm bi 0 0)\/∃ m s c o,v=lm (a9 ⟨m,0,s⟩) g.length c/\bk H m=a9 ⟨56,o,rvs⟩/\N<=m/\m<H.next/\m∉rvs.flatMap ae
 row:∀(i:Nat)(rv:go)(l:List Ce),rvs[i]?=a9 rv->g[i]?=a9 l->fH N H rv l
 nd:(rvs.flatMap ae).Nodup
section
variable{N M:Nat}{H G:aa}{v rv:go}{rvs:List go}{g:List (List Ce)}{l:List Ce}
def fH.of(h:fH N H rv l)(f:H.next<=G.next)(a:∀ n∈ae rv,G.get n=H.get n):fH N G rv l:=by obtain⟨n,s,c,o,rfl,b,e,j⟩:=h;exact⟨n,s,c,o,rfl,(bg (a n pm)).trans b,e,by omega⟩
def fH.zt(h:fH N H rv l):∀ n∈ae rv,N<=n/\n<H.next/\H.get n≠none:=by obtain⟨n,s,c,o,rfl,b,e,f⟩:=h;intro m a;simp only[ae,zA5]at a;subst a;exact⟨e,f,fa b⟩
def fH.at_(h:fH N H rv l):dZ H rv l:=by
 obtain⟨n,s,c,o,rfl,b,f,e⟩:=h
 by_cases a:l=[]
 .subst a; exact .inl ⟨rfl,_,_,rfl⟩
 .exact .inr ⟨a,n,0,_,_,77,o,a8 l,rfl,iq b,e,by rw[bx]; omega,by rw[zD0,zD4 (by rw[bx]; exact zA4 _)]⟩
def jO.lj(o:jO N H v rvs g){i:Nat}{l:List Ce}(h:g[i]?=a9 l):∃ rv,rvs[i]?=a9 rv/\fH N H rv l:=by
 have a:=(zF5.1 h).1;have:i<rvs.length:=by rw[o.len]; exact a
 exact⟨rvs[i],zB0 this,o.row i _ _ (zB0 this) h⟩
def jO.WB(o:jO N H v rvs g){i:Nat}{rv:go}(h:rvs[i]?=a9 rv):∃ l,g[i]?=a9 l/\fH N H rv l:=by
 have a:=(zF5.1 h).1;have:i<g.length:=by rw[<-o.len]; exact a
 exact⟨g[i],zB0 this,o.row i _ _ h (zB0 this)⟩
def jO.ids(o:jO N H v rvs g):∀ n∈rvs.flatMap ae,N<=n/\n<H.next/\H.get n≠none:=by intro n a;obtain⟨rv,b,a⟩:=zG3.1 a;obtain⟨i,hi⟩:=List.getElem?_of_mem b;obtain⟨l,_,h⟩:=o.WB hi;exact h.zt n a
def jO.Wi(o:jO N H v rvs g):∀ n∈ae v,N<=n/\n<H.next/\H.get n≠bi/\n∉rvs.flatMap ae:=by
 rcases o.at_ with⟨_,rfl⟩|⟨m,s,c,o',rfl,b,e,f,h⟩
 .intro n a; simp[ae]at a
 .intro n a;simp only[ae,zA5]at a;subst a;exact⟨e,f,fa b,h⟩
def jO.of(o:jO N H v rvs g)(f:H.next<=G.next)(k:∀ n,N<=n->n<H.next->n∈ae v++rvs.flatMap ae->G.get n=H.get n):jO N G v rvs g where
 len:=o.len
 at_:=by
  rcases o.at_ with h|⟨m,s,c,o',rfl,r,e,j,w⟩
  .exact .inl h
  .exact .inr ⟨m,s,c,o',rfl,(bg (k m e j pm)).trans r,e,by omega,w⟩
 row:=fun i rv l e j=>(o.row i rv l e j).of f fun n f=>by obtain⟨a,b,_⟩:=(o.row i rv l e j).zt n f;exact k n a b (zG6 _ (zG3.2 ⟨rv,zC5 e,f⟩))
 nd:=o.nd
def jO.aj(o:jO N H v rvs g):ej H v g:=by
 rcases o.at_ with⟨rfl,rfl⟩|⟨m,s,c,o',rfl,b,n,e,r⟩
 .exact .inl ⟨rfl,_,_,rfl⟩
 .by_cases a:g=[]
  .subst a; exact .inl ⟨rfl,_,_,rfl⟩
  .exact .inr ⟨a,m,0,s,c,56,o',rvs,rfl,iq b,e,by rw[o.len]; omega,fun k l f=>by
    obtain⟨rv,h,j⟩:=o.lj f
    exact⟨rv,by rw[zC2]; exact h,j.at_⟩⟩
end
def E5:∀(l:List go)(off:Nat),dj l off []=l
 |[],0=>rfl
 |[],_+1=>rfl
 |_::_,0=>rfl
 |x::r,k+1=>by rw[dj,E5 r k]
def GM:∀(A L:List go)(n:Nat)(v:List go),dj (A++L) (A.length+n) v=A++dj L n v
 |[],L,n,v=>by rw[zB6,zB4,zC2,zB6]
 |a::A,L,n,v=>by rw[zE3,zA9,show A.length+1+n=(A.length+n)+1 by omega,dj,GM A L n v,zE3]
structure Lk where
 fore:Int
 back:Int
 bold:Bool
 under:Bool
 inv:Bool
deriving DecidableEq
def Lk.val(k:Lk):Value:=.agg #[jp kw k.fore,jp kw k.back,ls k.bold,ls k.under,ls k.inv]
def Lk.ce(k:Lk)(r:Int):Ce:=⟨r,k.fore,k.back,k.bold,k.under,k.inv⟩
def Ce.look(c:Ce):Lk:=⟨c.fore,c.back,c.bold,c.under,c.inv⟩
def lK(k:Lk):Bool:=f7 (0<=k.fore)&&f7 (k.fore<=256)&&f7 (0<=k.back)&&f7 (k.back<=256)
def aP(c:Int):Nat:=if (f7 (c<32)||f7 (c=127)||!oA c)=bv then 0 else c7 c
def oH(c:Int):c7 c=0\/c7 c=1\/c7 c=2:=by
 unfold c7;split
 .exact .inl rfl
 .split
  .exact .inr (.inr rfl)
  .exact .inr (.inl rfl)
def DJ(c:Int):aP c=0\/aP c=1\/aP c=2:=by
 unfold aP;split
 .exact .inl rfl
 .exact oH c
def Ng(H:aa)(c:Int):Pure 101 [jp kw c] H (jp kw (aP c:Int)):=by
 obtain⟨n,e⟩:∃ d,f7 (c<32)=d:=⟨_,rfl⟩
 obtain⟨o,f⟩:∃ d,f7 (c=127)=d:=⟨_,rfl⟩
 obtain⟨r,j⟩:∃ d,oA c=d:=⟨_,rfl⟩
 have b:=Ub (ext H []) c;rw[j]at b;have h:=ja (ext H []) c;obtain⟨m,k⟩:=ac (aP c);have a:=k;unfold aP at a;rw[e,f,j]at a;rw[k];refine bA mixed Tryz.func101 rfl Tryz.ntmps101 (zA7 rfl) fun wf s=>?_
 cases n with
 |true =>
  obtain rfl:0=m:=by simpa using a
  simp only[e,Tryz.results101,zW,seval]; exact Fin.cf rfl rfl
 |false =>
  cases o with
  |true =>
   obtain rfl:0=m:=by simpa using a
   simp only[e,f,Tryz.results101,zW,seval]; exact Fin.cf rfl rfl
  |false =>
   simp only[e,f,zW,seval];refine b.to ?_
   cases r with
   |false =>
    obtain rfl:0=m:=by simpa using a
    simp only[zF4,Tryz.results101,zW,seval]; exact Fin.cf rfl rfl
   |true =>
    obtain rfl:c7 c=m:=by simpa using a
    simp only[zD1,zW,seval];refine h.to ?_;simp only[Tryz.results101,zW,seval];exact Fin.cf rfl rfl
def Es(H:aa)(k:Lk):Pure 102 [k.val] H (ls (lK k)):=by
 obtain⟨b,h⟩:=ac H.next
 obtain⟨j,a⟩:∃ d,f7 (0<=k.fore)=d:=⟨_,rfl⟩
 obtain⟨m,c⟩:∃ d,f7 (k.fore<=256)=d:=⟨_,rfl⟩
 obtain⟨n,e⟩:∃ d,f7 (0<=k.back)=d:=⟨_,rfl⟩
 obtain⟨o,f⟩:∃ d,f7 (k.back<=256)=d:=⟨_,rfl⟩
 simp only[lK,a,c,e,f];refine bA mixed Tryz.func102 rfl Tryz.ntmps102 (zA7 rfl) fun wf r=>?_;cases j<;>cases m<;>cases n<;>cases o<;>(simp only[h,Lk.val,a,c,e,f,Tryz.results102,zW,seval]; exact Fin.cf rfl rfl)
def run_load{l:List Ce}{k:Nat}{c:Ce}{e:io}{o:Bool}{L:List go}{off:Nat}(a:l[k]?=a9 c)(b:off+l.length*6<=L.length)(h:(L.drop off).take (l.length*6)=a8 l):rL Tryz.prog 3 (off+k*6) (a9 ⟨e,o,L⟩)=a9 (jp kw c.rune):=by
 have f:fj Tryz.prog 3=a9 false:=by kernel_rfl
 have j:=zx l k c L off a h;have m:((L.drop (off+k*6)).take 6)[0]?=a9 (jp kw c.rune):=by rw[j]; rfl
 rw[lf f];simpa using m
def CX{l:List Ce}{k:Nat}{c:Ce}{e:io}{o:Bool}{L:List go}{off:Nat}(a:l[k]?=a9 c)(b:off+l.length*6<=L.length)(h:(L.drop off).take (l.length*6)=a8 l):rL Tryz.prog 44 (off+(k*6+1)) (a9 ⟨e,o,L⟩)=a9 c.look.val:=by
 rw[show off+(k*6+1)=off+k*6+1 from (Nat.add_assoc _ _ _).symm];have f:k<l.length:=(zF5.1 a).1;have j:fj Tryz.prog 44=a9 true:=by kernel_rfl
 have m:br Tryz.prog 44=a9 5:=by kernel_rfl
 have n:=zx l k c L off a h;have r:(L.drop (off+k*6+1)).take 5=((L.drop (off+k*6)).take 6).drop 1:=by rw[List.drop_take,zH3]
 rw[vY j,m,zA3,if_pos lw,r,n];rfl
def HI{α:Type}(f:α->List go)(sz:Nat)(b:∀ a,(f a).length=sz):∀(l:List α)(k:Nat)(c:α),l[k]?=a9 c->((l.flatMap f).drop (k*sz)).take sz=f c
 |[],_,_,h=>by simp at h
 |a::l,0,c,h=>by simp only[zG1,i8]at h;subst h;rw[zH1,zD0,List.flatMap_cons,List.take_append,b,zG8,List.take_zero,zC7,zD4 (by rw[b]; exact zA4 _)]
 |a::l,k+1,c,h=>by rw[List.flatMap_cons,show (k+1)*sz=(f a).length+k*sz by rw[b,Nat.succ_mul]; omega,List.drop_append,zE9 lw,zB6,zG2];exact HI f sz b l k c (by simpa using h)
def S0{α:Type}(f:α->List go)(sz:Nat)(m:∀ a,(f a).length=sz){l:List α}{k:Nat}{c:α}{L:List go}{off:Nat}(e:l[k]?=a9 c)(h:(L.drop off).take (l.length*sz)=l.flatMap f):(L.drop (off+k*sz)).take sz=f c:=by
 have b:k<l.length:=(zF5.1 e).1;have j:=HI f sz m l k c e;have n:sz<=l.length*sz-k*sz:=by have:(k+1)*sz<=l.length*sz:=Nat.mul_le_mul_right sz b;rw[Nat.succ_mul]at this;omega
 rw[<-h,List.drop_take,zH3,List.take_take,zH0 n]at j;exact j
structure Op where
 kind:Int
 row:Int
 col:Int
 n:Int
 look:Lk
 text:ByteArray
def Op.cells(x:Op):List Value:=[jp kw x.kind,jp kw x.row,jp kw x.col,jp kw x.n,jp kw x.look.fore,jp kw x.look.back,ls x.look.bold,ls x.look.under,ls x.look.inv,.string x.text]
def Op.val(x:Op):Value:=.agg ⟨x.cells⟩
theorem U0(x:Op):x.cells.length=10:=rfl
def opsOf(l:List Op):List Value:=l.flatMap Op.cells
def iP(H:aa)(v:go)(l:List Op):Prop :=
 (l=[]/\∃ a c,v=.slice a 0 c)\/(l≠[]/\∃ n off s c e o L,v=lm (a9 ⟨n,off,s⟩) l.length c/\rk H n=a9 ⟨e,o,L⟩/\n<H.next/\off+l.length*10<=L.length/\(L.drop off).take (l.length*10)=opsOf l)
def iP.sl{H:aa}{v:go}{l:List Op}(h:iP H v l):∃ a c,v=.slice a l.length c:=by
 rcases h with⟨rfl,a,c,rfl⟩|⟨_,n,off,s,c,e,o,L,rfl,_⟩
 .exact⟨a,c,rfl⟩
 .exact⟨_,_,rfl⟩
def iP.of{H G:aa}{v:go}{l:List Op}(h:iP H v l)(w:H.next<=G.next)(f:∀ n∈ae v,G.get n=H.get n):iP G v l:=by
 rcases h with⟨rfl,a,c,rfl⟩|⟨j,n,off,s,c,e,o,L,rfl,k,m,b,r⟩
 .exact .inl ⟨rfl,a,c,rfl⟩
 .exact .inr ⟨j,n,off,s,c,e,o,L,rfl,(kh (f n pm)).trans k,by omega,b,r⟩
def TE{len cap n off:Nat}{s:Option Nat}{i:Int}{k:Nat}(hi:i=k)(a:k<len):aW Tryz.prog 23 (lm (a9 ⟨n,off,s⟩) len cap) (jp kw i)=a9 (li (a9 ⟨n,off+k*10,bi⟩)):=by subst hi;rw[gk (e:=58) (sz:=10) m9 m9 lw lw];simp
def J9{l:List Op}{k:Nat}{x:Op}{e:io}{o:Bool}{L:List go}{off:Nat}(a:l[k]?=a9 x)(b:off+l.length*10<=L.length)(h:(L.drop off).take (l.length*10)=opsOf l):rL Tryz.prog 58 (off+k*10) (a9 ⟨e,o,L⟩)=a9 x.val:=by
 have c:k<l.length:=(zF5.1 a).1;have f:fj Tryz.prog 58=a9 true:=by kernel_rfl
 have j:br Tryz.prog 58=a9 10:=by kernel_rfl
 have m:=S0 Op.cells 10 U0 a h;rw[vY f,j,zA3,if_pos lw,m];rfl
structure St where
 aj:List (List Ce)
 sr:Int
 sc:Int
 b7:Lk
 row:Int
 col:Int
 shown:Bool
def St.cells(x:St)(v:go):List Value:=[v,jp kw x.sr,jp kw x.sc,jp kw x.b7.fore,jp kw x.b7.back,ls x.b7.bold,ls x.b7.under,ls x.b7.inv,jp kw x.row,jp kw x.col,ls x.shown]
structure iT (T:io) (N:Nat) (H:aa) (p:Nat) (v:go) (rvs:List go) (x:St):Prop where
 cell:bk H p=a9 ⟨T,ci,x.cells v⟩
 own:jO N H v rvs x.aj
 apart:p∉ae v++rvs.flatMap ae
 lt:p<H.next
 lo:N<=p
structure St.Ok (x:St) (W:Nat):Prop where
 h1:1<=x.aj.length
 h2:x.aj.length<=200
 w1:1<=W
 w2:W<=1000
 wid:∀ l∈x.aj,l.length=W
 row0:0<=x.row
 row1:x.row<x.aj.length
 col0:0<=x.col
 col1:x.col<=W
def Ce.sp:Ce:=⟨32,0,0,ci,ci,ci⟩
def xM(l:List Ce)(k:Nat):List Ce:=if 0<k/\(l.getD k Ce.sp).rune=-1 then l.set (k-1) Ce.sp else l
def CN(l:List Ce)(k:Nat):List Ce:=if (l.getD (k+1) Ce.sp).rune=-1 then l.set (k+1) Ce.sp else l
def yc(l:List Ce)(k:Nat)(c:Ce):List Ce:=(CN (xM l k) k).set k c
def vf(l:List Ce)(k:Nat):(xM l k).length=l.length:=by unfold xM; split<;>simp
def Cn(l:List Ce)(k:Nat):(CN l k).length=l.length:=by unfold CN; split<;>simp
def tz(l:List Ce)(k:Nat)(c:Ce):(yc l k c).length=l.length:=by rw[yc,List.length_set,Cn,vf]
def St.setRow(x:St)(k:Nat)(l:List Ce):St:={x with aj:=x.aj.set k l}
def St.fits(W:Nat):List Int->Int->Bool
 |[],_=>bv
 |c::l,n=>if (f7 (aP c=0)||f7 ((W:Int)<n+aP c))=bv then ci else St.fits W l (n+aP c)
def tL(b7:Lk)(l:List Ce)(k:Nat)(c:Int):List Ce :=
 if aP c=2 then (((yc (yc l k Ce.sp) (k+1) Ce.sp).set (k+1) (b7.ce (-1))).set k (b7.ce c)) else (yc l k Ce.sp).set k (b7.ce c)
def gz(b7:Lk):List Int->List Ce->Nat->List Ce × Nat
 |[],l,k=>(l,k)
 |c::cs,l,k=>gz b7 cs (tL b7 l k c) (k+aP c)
def iy(l:List Ce):Nat->Nat->List Ce
 |_,0=>l
 |k,n+1=>iy (yc l k Ce.sp) (k+1) n
def nW(W:Nat)(g:List (List Ce))(top bot n:Nat)(up:Bool):List (List Ce) :=
 let part:=(g.take (bot+1)).drop top
 let fresh:=List.replicate n (List.replicate W Ce.sp)
 g.take top++(if up then part.drop n++fresh else fresh++part.take (part.length-n))++g.drop (bot+1)
def St.iD(W:Nat)(r:List UInt8->Option (List Int))(x:St)(o:Op):Option St :=
 if o.kind=1 then (if (f7 (0<=o.row)&&f7 (o.row<x.aj.length)&&f7 (0<=o.col)&&f7 (o.col<W))=bv then a9 {x with row:=o.row,col:=o.col} else bi)
 else if o.kind=2 then (if lK o.look=bv then a9 {x with b7:=o.look} else bi)
 else if o.kind=3 then (match r o.text.data.toList with
  |none=>bi
  |some l=>if St.fits W l x.col=bv then
    a9 {x with aj:=x.aj.set x.row.toNat (gz x.b7 l (x.aj.getD x.row.toNat []) x.col.toNat).1,col:=((gz x.b7 l (x.aj.getD x.row.toNat []) x.col.toNat).2:Nat)}
   else bi)
 else if o.kind=4 then (if x.col<W then a9 {x with aj:=x.aj.set x.row.toNat (iy (x.aj.getD x.row.toNat []) x.col.toNat (W-x.col.toNat))} else bi)
 else if o.kind=5\/o.kind=6 then (if (f7 (0<=o.row)&&f7 (o.row<=o.col)&&f7 (o.col<x.aj.length)&&f7 (1<=o.n)&&f7 (o.n<=o.col-o.row+1))=bv then
   a9 {x with aj:=nW W x.aj o.row.toNat o.col.toNat o.n.toNat (f7 (o.kind=5))} else bi)
 else if o.kind=7 then a9 {x with shown:=true}
 else if o.kind=8 then a9 {x with shown:=false}
 else bi
def St.all(W:Nat)(r:List UInt8->Option (List Int)):List Op->Nat->St->St ⊕ Nat
 |[],_,x=>.inl x
 |o::l,i,x=>match x.iD W r o with
  |none=>.inr i
  |some y=>St.all W r l (i+1) y
end Go.Proofs.YtpohjcacnkhnkaaGreatDoor
namespace Go.Proofs.YtpohjcacnkhnkaaGreatDoor.Tq
abbrev Nu:=Go.Proofs.YtpohjcacnkhnkaaGreatDoor.Ce
abbrev Tj:=Go.Proofs.YtpohjcacnkhnkaaGreatDoor.Lk
abbrev pK:Nu:=Go.Proofs.YtpohjcacnkhnkaaGreatDoor.Ce.sp
def Ua(k:Lk):Tj:=⟨k.fore,k.back,k.bold,k.under,k.inv⟩
def AL(c:Ce):Nu:=⟨c.rune,c.look.fore,c.look.back,c.look.bold,c.look.under,c.look.inv⟩
def wJ(l:List Nu)(i:Nat)(c:Nu)(k:Nat):(l.set i c).getD k pK=if i=k/\k<l.length then c else l.getD k pK:=by
 simp only[zC9,List.getElem?_set];by_cases h:i=k
 .subst h;by_cases a:i<l.length
  .simp[a]
  .simp[a]
 .simp[h]
def mM(l:List Nu)(k j:Nat)(o:k<l.length):(yc l k pK).getD j pK=if j=k then pK else if j+1=k/\(l.getD k pK).rune=-1 then pK else if j=k+1/\(l.getD j pK).rune=-1 then pK else l.getD j pK:=by
 unfold yc;rw[wJ,Cn,vf];by_cases e:j=k
 .subst e;rw[if_pos ⟨rfl,o⟩,if_pos rfl]
 .rw[if_neg (fun h=>e h.1.symm),if_neg e]
  have f:∀ i,(xM l k).getD i pK=if i+1=k/\(l.getD k pK).rune=-1 then pK else l.getD i pK:=fun i=>by
   unfold xM;split
   .rename_i h;rw[wJ];by_cases a:i+1=k
    .rw[if_pos ⟨by omega,by omega⟩,if_pos ⟨a,h.2⟩]
    .rw[if_neg (fun c=>a lw),if_neg (fun c=>a c.1)]
   .rename_i h;rw[if_neg (fun c=>h ⟨by omega,c.2⟩)]
  unfold CN;have m:(xM l k).getD (k+1) pK=l.getD (k+1) pK:=by rw[f,if_neg lw]
  rw[show Go.Proofs.YtpohjcacnkhnkaaGreatDoor.Ce.sp=pK from rfl,m];by_cases b:(l.getD (k+1) pK).rune=-1
  .rw[if_pos b,wJ,vf];by_cases a:j=k+1
   .subst a
    have n:k+1<l.length:=by
     rcases zC0 (k+1) l.length with h|h
     .exact h
     .rw[zC9,zD3 h]at b;exact absurd b ol
    rw[if_pos ⟨rfl,n⟩,if_neg lw,if_pos ⟨rfl,b⟩]
   .rw[if_neg (fun c=>a c.1.symm),f];rw[if_neg (fun c:j=k+1/\_=>a c.1)]
  .rw[if_neg b,f];by_cases a:j=k+1
   .subst a;rw[if_neg (fun c:k+1=k+1/\_=>b c.2)]
   .rw[if_neg (fun c:j=k+1/\_=>a c.1)]
def Gk:∀(n:Nat)(l:List Nu)(k j:Nat),k+n<=l.length->(iy l k n).getD j pK=if n=0 then l.getD j pK else if k<=j/\j<k+n then pK else if j+1=k/\(l.getD k pK).rune=-1 then pK else if j=k+n/\(l.getD j pK).rune=-1 then pK else l.getD j pK
 |0,l,k,j,_=>by rw[iy,if_pos rfl]
 |n+1,l,k,j,h=>by
  have e:¬((yc l k pK).getD (k+1) pK).rune=-1:=by
   rw[mM l k (k+1) lw,if_neg lw,if_neg lw];split
   .decide
   .rename_i m;exact fun o=>m ⟨rfl,o⟩
  rw[iy,show Go.Proofs.YtpohjcacnkhnkaaGreatDoor.Ce.sp=pK from rfl,Gk n _ (k+1) j (by rw[tz]; omega),if_neg (show ¬n+1=0 by omega)];by_cases f:n=0
  .subst f;rw[if_pos rfl,mM l k j lw];by_cases hj:j=k
   .rw[if_pos hj,if_pos lw]
   .rw[if_neg hj,if_neg (show ¬(k<=j/\j<k+(0+1)) by omega),zC2]
  .rw[if_neg f,if_neg (show ¬(j+1=k+1/\((yc l k pK).getD (k+1) pK).rune=-1) from fun c=>e c.2),mM l k j lw];clear e;rcases Nat.lt_trichotomy j k with hj|rfl|hj
   .rw[if_neg (show ¬(k+1<=j/\j<k+1+n) by omega),if_neg (show ¬j=k by omega),if_neg (show ¬(k<=j/\j<k+(n+1)) by omega)];have r:∀ p:Prop,¬(j=k+1/\p):=fun p c=>by have:=c.1; omega
    have a:∀ p:Prop,¬(j=k+1+n/\p):=fun p c=>by have:=c.1; omega
    have b:∀ p:Prop,¬(j=k+(n+1)/\p):=fun p c=>by have:=c.1; omega
    simp only[r,a,b,if_false]
   .rw[if_neg (show ¬(j+1<=j/\j<j+1+n) by omega),if_pos (show j<=j/\j<j+(n+1) by omega)];have a:∀ p:Prop,¬(j=j+1+n/\p):=fun p c=>by have:=c.1; omega
    simp only[a,if_false,if_true]
   .have b:∀ p:Prop,¬(j+1=k/\p):=fun p c=>by have:=c.1; omega
    by_cases w:j<k+(n+1)
    .rw[if_pos (show k<=j/\j<k+(n+1) by omega),if_pos (show k+1<=j/\j<k+1+n by omega)]
    .have s:∀ p:Prop,¬(j=k+1/\p):=fun p c=>by have:=c.1; omega
     rw[if_neg (show ¬(k<=j/\j<k+(n+1)) by omega),if_neg (show ¬(k+1<=j/\j<k+1+n) by omega),if_neg (show ¬j=k by omega)];simp only[b,s,if_false];rw[show k+(n+1)=k+1+n by omega]
def getD_map(l:List Ce)(j:Nat):(l.map AL).getD j pK=AL (l.getD j sp):=by simp only[zC9,zG0];cases l[j]?<;>rfl
def BQ(l:List Ce)(i:Nat)(c:Ce)(k:Nat):(l.set i c).getD k sp=if i=k/\k<l.length then c else l.getD k sp:=by
 simp only[zC9,List.getElem?_set];by_cases h:i=k
 .subst h;by_cases a:i<l.length
  .simp[a]
  .simp[a]
 .simp[h]
def Aw(l:List Ce)(a b:Nat)(c:a<=b)(f:b<=l.length):(ic l a b).length=l.length:=by
 unfold ic;have e:∀ m:List Ce,m.length=l.length->(m.take a++List.replicate (b-a) sp++m.drop (max a b)).length=l.length:=fun m h=>by simp only[zB3,zD9,zF1,zC6];omega
 apply e;split<;>(try split)<;>simp
def PZ{l m:List Nu}(h:l.length=m.length)(a:∀ j,l.getD j pK=m.getD j pK):l=m:=by
 apply List.ext_getElem? ;intro j;have:=a j;simp only[zC9]at this;rcases zC0 j l.length with hj|hj
 .rw[zB0 hj,zB0 lw]at this ⊢;simpa using this
 .rw[zD3 hj,zD3 lw]
def Kb(m:List Ce)(a b j:Nat)(e:a<=b)(f:b<=m.length):(m.take a++List.replicate (b-a) sp++m.drop (max a b)).getD j sp=if a<=j/\j<b then sp else m.getD j sp:=by
 simp only[zC9];have c:(m.take a).length=a:=by rw[zD9]; omega
 rcases zC0 j a with h|h
 .rw[zC8,List.getElem?_append_left lw,List.getElem?_take,if_pos h,if_neg lw]
 .rcases zC0 j b with h'|h'
  .rw[List.getElem?_append_left (by rw[zB3,c,zF1]; omega),zG5 lw,c,List.getElem?_replicate,if_pos lw,if_pos ⟨h,h'⟩];rfl
  .rw[zG5 (by rw[zB3,c,zF1]; omega),zB3,c,zF1,List.getElem?_drop,if_neg lw];congr 2;omega
def qe(l:List Ce)(a b:Nat)(F:a<=b)(I:b<=l.length):(ic l a b).map AL=iy (l.map AL) a (b-a):=by
 refine PZ ?_ fun j=>?_
 .rw[zE1,Aw l a b F I]
  have:∀(n:Nat)(m:List Nu)(k:Nat),(iy m k n).length=m.length:=fun n=>by
   induction n with
   |zero=>intro m k; rfl
   |succ n O=>intro m k; rw[iy,O,tz]
  rw[this,zE1]
 .rw[getD_map,Gk (b-a) _ a j (by rw[zE1]; omega),getD_map,getD_map];unfold ic;simp only;by_cases o:a<b
  .have B:∀ i,(if a<b/\(l.getD a sp).rune=-1 then l.set (a-1) sp else l).getD i sp=if (l.getD a sp).rune=-1/\a-1=i/\i<l.length then sp else l.getD i sp:=fun i=>by
    by_cases e:(l.getD a sp).rune=-1
    .rw[if_pos ⟨o,e⟩,BQ];by_cases f:a-1=i/\i<l.length
     .rw[if_pos f,if_pos ⟨e,f⟩]
     .rw[if_neg f,if_neg (fun h=>f h.2)]
    .rw[if_neg (fun h=>e h.2),if_neg (fun h=>e h.1)]
   have r:(if a<b/\(l.getD a sp).rune=-1 then l.set (a-1) sp else l).length=l.length:=by split<;>simp
   generalize (if a<b/\(l.getD a sp).rune=-1 then l.set (a-1) sp else l)=l1 at B r
   have J:∀ i,(if a<b/\b<l1.length/\(l1.getD b sp).rune=-1 then l1.set b sp else l1).getD i sp=if b<l.length/\(l1.getD b sp).rune=-1/\b=i then sp else l1.getD i sp:=fun i=>by
    by_cases e:b<l.length/\(l1.getD b sp).rune=-1
    .rw[if_pos ⟨o,by omega,e.2⟩,BQ];by_cases f:b=i
     .rw[if_pos ⟨f,by omega⟩,if_pos ⟨e.1,e.2,f⟩]
     .rw[if_neg (fun h=>f h.1),if_neg (fun h=>f h.2.2)]
    .rw[if_neg (fun h=>e ⟨by omega,h.2.2⟩),if_neg (fun h=>e ⟨h.1,h.2.1⟩)]
   have w:(if a<b/\b<l1.length/\(l1.getD b sp).rune=-1 then l1.set b sp else l1).length=l.length:=by split<;>simp[r]
   generalize (if a<b/\b<l1.length/\(l1.getD b sp).rune=-1 then l1.set b sp else l1)=l2 at J w;rw[Kb l2 a b j F lw,if_neg (show ¬b-a=0 by omega)];rw[show a+(b-a)=b by omega];by_cases A:a<=j/\j<b
   .rw[if_pos A,if_pos A]; rfl
   .rw[if_neg A,if_neg A,J];have z:l1.getD b sp=l.getD b sp:=by rw[B,if_neg lw]
    rw[z];have R:∀ c:Ce,(AL c).rune=c.rune:=fun _=>rfl;simp only[R];by_cases s:j=b
    .subst s;rw[if_neg (show ¬(j+1=a/\_) from fun c=>by omega)];by_cases e:(l.getD j sp).rune=-1
     .have C:j<l.length:=by
       rcases zC0 j l.length with h|h
       .exact h
       .rw[zC9,zD3 h]at e;exact absurd e ol
      rw[if_pos ⟨C,e,rfl⟩,if_pos ⟨rfl,e⟩]; rfl
     .rw[if_neg (fun h=>e h.2.1),if_neg (fun h=>e h.2),z]
    .rw[if_neg (fun h=>s h.2.2.symm),if_neg (fun h:j=b/\_=>s h.1),B];by_cases f:j+1=a/\(l.getD a sp).rune=-1
     .rw[if_pos ⟨f.2,by omega,by omega⟩,if_pos f]; rfl
     .rw[if_neg f];by_cases K:(l.getD a sp).rune=-1/\a-1=j/\j<l.length
      .have S:a=0:=by
        rcases Nat.eq_zero_or_pos a with h|h
        .exact h
        .exact absurd ⟨by omega,K.1⟩ f
       omega
      .rw[if_neg K]
  .have D:b-a=0:=by omega
   obtain rfl:a=b:=by omega
   rw[if_pos D,if_neg (fun h=>o h.1)];rw[if_neg (fun h=>o h.1)];rw[Kb l a a j (zA4 _) I,if_neg lw]
abbrev CB:=Go.Proofs.YtpohjcacnkhnkaaGreatDoor.Op
abbrev iW(g:List (List Ce)):List (List Nu):=g.map fun l=>l.map AL
structure pI (W:Nat) (x:St) (t:Tm):Prop where
 ok:x.Ok W
 aj:x.aj=iW t.aj
 b7:x.b7=Ua t.b7
 row:x.row=t.row
 col:x.col=t.col
 shown:x.shown=t.shown
 top:t.top=0
 bot:t.bottom=(t.aj.length:Int)-1
 idle:Idle t
section
variable{W:Nat}{x y:St}{t:Tm}{u:AW}
def pI.len(s:pI W x t):x.aj.length=t.aj.length:=by rw[s.aj,zE1]
def pI.cd(s:pI W x t):t.cd=(x.aj.length:Int):=by rw[s.len]; rfl
def pI.wid(s:pI W x t):∀ l∈t.aj,l.length=W:=fun l a=>by have:=s.ok.wid (l.map AL) (by rw[s.aj]; exact zC1.2 ⟨l,a,rfl⟩);rwa [zE1]at this
def pI.width(s:pI W x t):t.width=(W:Int):=by
 have a:=s.ok.h1;rw[s.len]at a;unfold Tm.width
 cases h:t.aj with
 |nil=>rw[h]at a; simp at a
 |cons l g =>have:=s.wid l (by rw[h]; simp);simp[this]
def gA(l:List Nat)(f:UInt8):List UInt8:=27::91::(dU l++[f])
def tZ(l:List Nat):List Int:=if l=[] then [0] else l.map Int.ofNat
def jB(b:u.full [27]=bv)(i:Idle t)(l:List Nat){f:UInt8}(a:∀ n∈l,n<=9999)(c:l.length<=12)(e:64<=f/\f<=126)(cn:¬(f=104\/f=108)) :
  t.feed u (gA l f)=(({t with mode:=3,params:=dU l,middle:=false}:Tm).cQ f (tZ l)).m0:=by
 obtain⟨j,m⟩:=Gy l a
 have k:numbers (dU l) [] 0=a9 (tZ l):=by
  unfold tZ;split
  .rename_i h; subst h; rfl
  .rename_i h;have:=Ho l [] h a;simpa using this
 unfold gA;rw[Ha b i j lw e];unfold Tm.dP;rw[if_neg (fun h=>cn h.2)];simp only[k]
def L0(t:Tm)(a b:Nat):t.cQ 72 [Int.ofNat (a+1),Int.ofNat (b+1)]=t.bQ a b:=by
 have c:count [Int.ofNat (a+1),Int.ofNat (b+1)]-1=(a:Int):=by simp only[count,List.headD_cons,Int.ofNat_eq_natCast]; omega
 have e:max 1 (snd [Int.ofNat (a+1),Int.ofNat (b+1)])-1=(b:Int):=by simp only[snd,List.getD_cons_succ,List.getD_cons_zero,Int.ofNat_eq_natCast]; omega
 show t.bQ (count [Int.ofNat (a+1),Int.ofNat (b+1)]-1) (max 1 (snd [Int.ofNat (a+1),Int.ofNat (b+1)])-1)=_;rw[c,e]
def OW(b:u.full [27]=bv)(s:pI W x t){o:CB}(c:0<=o.row/\o.row<x.aj.length/\0<=o.col/\o.col<W) :
  pI W {x with row:=o.row,col:=o.col} (t.feed u (gA [o.row.toNat+1,o.col.toNat+1] 72)):=by
 have w:=s.ok.h2;have z:=s.ok.w2;obtain⟨e,f,h,A⟩:=c;rw[jB b s.idle _ (fun n j=>by simp only[zA8,zD7,or_false]at j; omega) nl ol ol];rw[show tZ [o.row.toNat+1,o.col.toNat+1]=[Int.ofNat (o.row.toNat+1),Int.ofNat (o.col.toNat+1)] from rfl,L0]
 have k:∀(q:Tm),q.aj=t.aj->q.bQ (o.row.toNat:Nat) (o.col.toNat:Nat)={q with row:=o.row,col:=o.col}:=fun q a=>by
  unfold Tm.bQ;have m:q.cd=(x.aj.length:Int):=by rw[<-s.cd]; unfold Tm.cd; rw[a]
  have r:q.width=(W:Int):=by rw[<-s.width]; unfold Tm.width; rw[a]
  rw[m,r,show max 0 (min ((o.row.toNat:Nat):Int) ((x.aj.length:Int)-1))=o.row by omega,show max 0 (min ((o.col.toNat:Nat):Int) ((W:Int)-1))=o.col by omega]
 rw[k ({t with mode:=3,params:=dU [o.row.toNat+1,o.col.toNat+1],middle:=false}:Tm) rfl];exact⟨⟨s.ok.h1,s.ok.h2,s.ok.w1,s.ok.w2,s.ok.wid,e,f,h,by show o.col<=W; omega⟩,s.aj,s.b7,rfl,rfl,s.shown,s.top,s.bot,⟨rfl,s.idle.rest⟩⟩
def FW(j:u.full [27]=bv)(s:pI W x t)(b:Bool):pI W {x with shown:=b} (t.feed u [27,91,63,50,53,cond b 104 108]):=by
 have h:=Ha (u:=u) j s.idle (ps:=[63,50,53]) (f:=cond b 104 108) (fun c a=>by
  simp only[zA8,zD7,or_false]at a
  rcases a with rfl|rfl|rfl<;>exact⟨by decide,by decide⟩) ol (by cases b<;>decide)
 have e:([27,91,63,50,53,cond b 104 108]:List UInt8)=27::91::([63,50,53]++[cond b 104 108]):=rfl;rw[e,h];unfold Tm.dP;rw[if_pos ⟨rfl,by cases b<;>decide⟩];exact⟨⟨s.ok.h1,s.ok.h2,s.ok.w1,s.ok.w2,s.ok.wid,s.ok.row0,s.ok.row1,s.ok.col0,s.ok.col1⟩,s.aj,s.b7,s.row,s.col,by cases b<;>rfl,s.top,s.bot,⟨rfl,s.idle.rest⟩⟩
def lF(k:Tj):List Nat:=0::((if k.bold then [1] else [])++(if k.under then [4] else [])++(if k.inv then [7] else [])++(if 0<k.fore then [38,5,(k.fore-1).toNat] else [])++(if 0<k.back then [48,5,(k.back-1).toNat] else []))
def M7(k:Lk)(b:Int)(e:0<=b)(f:b<=256):Lk.attributes ((if 0<b then [48,5,(b-1).toNat] else []).map Int.ofNat) k=if 0<b then {k with back:=b} else k:=by
 split
 .rename_i h;have a:¬(Int.ofNat (b-1).toNat>255):=by simp only[Int.ofNat_eq_natCast]; omega
  have c:Int.ofNat (b-1).toNat+1=b:=by simp only[Int.ofNat_eq_natCast]; omega
  show Lk.attributes [48,5,Int.ofNat (b-1).toNat] k=_;rw[Lk.attributes,if_pos (.inr rfl)];rw[if_neg (fun h=>h.elim (fun h=>h rfl) a),c];rfl
 .rfl
def Ml(k:Lk)(b:Int)(e:0<=b)(f:b<=256)(r:List Int):Lk.attributes ((if 0<b then [38,5,(b-1).toNat] else []).map Int.ofNat++r) k=Lk.attributes r (if 0<b then {k with fore:=b} else k):=by
 split
 .rename_i h;have a:¬(Int.ofNat (b-1).toNat>255):=by simp only[Int.ofNat_eq_natCast]; omega
  have c:Int.ofNat (b-1).toNat+1=b:=by simp only[Int.ofNat_eq_natCast]; omega
  show Lk.attributes (38::5::Int.ofNat (b-1).toNat::r) k=_;rw[Lk.attributes,if_pos (.inl rfl)];rw[if_neg (fun h=>h.elim (fun h=>h rfl) a),c];rfl
 .rfl
def uf(k:Lk)(n:Int)(r:List Int)(h:n=0\/n=1\/n=4\/n=7):Lk.attributes (n::r) k=Lk.attributes r (k.attribute n):=by rcases h with rfl|rfl|rfl|rfl<;>(rcases r with _|⟨a,_|⟨b,r⟩⟩<;>rfl)
def Wx(k:Tj):Lk:=⟨k.fore,k.back,k.bold,k.under,k.inv⟩
def Nd(k:Lk)(o:Tj)(h:lK o=bv):Lk.attributes (tZ (lF o)) k=Wx o:=by
 unfold lK at h;simp only[zA6,decide_eq_true_eq]at h;obtain⟨⟨⟨j,m⟩,b0⟩,b1⟩:=h;have e:tZ (lF o)=0::((if o.bold then [1] else [])++((if o.under then [4] else [])++((if o.inv then [7] else [])++((if 0<o.fore then [38,5,(o.fore-1).toNat] else []).map Int.ofNat++(if 0<o.back then [48,5,(o.back-1).toNat] else []).map Int.ofNat)))):=by unfold tZ lF;rw[if_neg nl];simp only[zB8,List.map_append,zC8];congr 1;cases o.bold<;>cases o.under<;>cases o.inv<;>rfl
 rw[e,uf _ _ _ (.inl rfl)];have n:Lk.attribute k 0=.no:=rfl;rw[n]
 have a:∀(q:Lk)(c:Bool)(r:List Int),Lk.attributes ((if c then [1] else [])++r) q=Lk.attributes r {q with bold:=c||q.bold}:=fun q c r=>by
  cases c
  .rfl
  .show Lk.attributes (1::r) q=_;rw[uf _ _ _ (.inr (.inl rfl))]; rfl
 have b:∀(q:Lk)(c:Bool)(r:List Int),Lk.attributes ((if c then [4] else [])++r) q=Lk.attributes r {q with under:=c||q.under}:=fun q c r=>by
  cases c
  .rfl
  .show Lk.attributes (4::r) q=_;rw[uf _ _ _ (.inr (.inr (.inl rfl)))]; rfl
 have f:∀(q:Lk)(c:Bool)(r:List Int),Lk.attributes ((if c then [7] else [])++r) q=Lk.attributes r {q with inv:=c||q.inv}:=fun q c r=>by
  cases c
  .rfl
  .show Lk.attributes (7::r) q=_;rw[uf _ _ _ (.inr (.inr (.inr rfl)))]; rfl
 rw[a,b,f,Ml _ _ j m,M7 _ _ b0 b1];unfold Wx Lk.no;simp only[zH7];split
 .split
  .rfl
  .rw[show o.fore=0 by omega]
 .rw[show o.back=0 by omega];split
  .rfl
  .rw[show o.fore=0 by omega]
def QO(w:u.full [27]=bv)(s:pI W x t){o:Tj}(k:lK o=bv):pI W {x with b7:=o} (t.feed u (gA (lF o) 109)):=by
 have m:=k;unfold lK at m;simp only[zA6,decide_eq_true_eq]at m
 rw[jB w s.idle _ (fun n f=>by
  unfold lF at f;simp only[zA8,zB1]at f;rcases f with rfl|(((h|h)|h)|h)|h
  .omega
  all_goals (split at h<;>simp only[zA8,zD7,or_false]at h<;>omega)) (by
   unfold lF;simp only[zA9,zB3];have j:∀(b:Bool)(n:Nat),(if b then [n] else ([]:List Nat)).length<=1:=fun b n=>by cases b<;>simp
   have r:∀ (p:Prop) [Decidable p] (a b c:Nat),(if p then [a,b,c] else ([]:List Nat)).length<=3:=fun p _ a b c=>by split<;>simp
   have:=j o.bold 1; have:=j o.under 4; have:=j o.inv 7; have:=r (0<o.fore) 38 5 (o.fore-1).toNat; have:=r (0<o.back) 48 5 (o.back-1).toNat
   omega) ol ol]
 have e:∀ q:Tm,q.cQ 109 (tZ (lF o))={q with b7:=Wx o}:=fun q=>by rw[<-Nd q.b7 o k];rfl
 rw[e];exact⟨⟨s.ok.h1,s.ok.h2,s.ok.w1,s.ok.w2,s.ok.wid,s.ok.row0,s.ok.row1,s.ok.col0,s.ok.col1⟩,s.aj,rfl,s.row,s.col,s.shown,s.top,s.bot,⟨rfl,s.idle.rest⟩⟩
def Lr(g:List (List Ce))(i:Nat)(l:List Ce):iW (g.set i l)=(iW g).set i (l.map AL):=by unfold iW;rw[List.map_set]
def LO(g:List (List Ce))(i:Nat):(iW g).getD i []=(g.getD i []).map AL:=by simp only[iW,zC9,zG0];cases g[i]?<;>rfl
def pI.PN(s:pI W x t):(t.aj.getD t.row.toNat []).length=W:=by
 have b:=s.ok.row0;have a:=s.ok.row1;rw[s.row]at b a;rw[s.len]at a;have c:t.row.toNat<t.aj.length:=by omega
 rw[zC9,zB0 c,zH9];exact s.wid _ (List.getElem_mem _)
def Ms(o:u.full [27]=bv)(s:pI W x t)(r:x.col<W):pI W {x with aj:=x.aj.set x.row.toNat (iy (x.aj.getD x.row.toNat []) x.col.toNat (W-x.col.toNat))} (t.feed u (gA [] 75)):=by
 have w:=s.ok.col0;have z:=s.width;have b:=s.PN;rw[s.col]at r w;rw[jB o s.idle [] (fun n A=>by cases A) nl ol ol];have e:∀ q:Tm,q.cQ 75 (tZ [])=q.blank q.row q.inside q.width:=fun q=>rfl;rw[e];have c:Tm.inside {t with mode:=3,params:=dU [],middle:=false}=t.col:=by show min t.col (t.width-1)=t.col;omega
 have f:Tm.width {t with mode:=3,params:=dU [],middle:=false}=(W:Int):=z;rw[c,f];have j:x.aj.set x.row.toNat (iy (x.aj.getD x.row.toNat []) x.col.toNat (W-x.col.toNat))=iW (t.aj.set t.row.toNat (ic (t.aj.getD t.row.toNat []) t.col.toNat W)):=by rw[Lr,s.aj,LO,s.row,s.col,qe _ _ _ lw lw]
 have a:∀ l∈x.aj.set x.row.toNat (iy (x.aj.getD x.row.toNat []) x.col.toNat (W-x.col.toNat)),l.length=W:=fun l k=>by
  rw[j]at k;obtain⟨m,B,rfl⟩:=zC1.1 k;rw[zE1];rcases List.mem_or_eq_of_mem_set B with h|h
  .exact s.wid m h
  .rw[h,Aw _ _ _ lw lw,b]
 refine⟨⟨?_,?_,s.ok.w1,s.ok.w2,a,s.ok.row0,?_,s.ok.col0,s.ok.col1⟩,?_,s.b7,s.row,s.col,s.shown,s.top,?_,⟨rfl,s.idle.rest⟩⟩
 .simp only[List.length_set]; exact s.ok.h1
 .simp only[List.length_set]; exact s.ok.h2
 .simp only[List.length_set]; exact s.ok.row1
 .rw[j]; rfl
 .show t.bottom=((t.aj.set t.row.toNat _).length:Int)-1;rw[List.length_set];exact s.bot
end
section
variable{W:Nat}{x y:St}{t q:Tm}{u:AW}
def NY(a:u.full [27]=bv)(i:Idle q):q.feed u [27,55]={q with mode:=0,srow:=q.row,scol:=q.col,spen:=q.b7}:=by rw[HW a i]; rfl
def Ns(a:u.full [27]=bv)(i:Idle q):q.feed u [27,56]={q with mode:=0,row:=q.srow,col:=q.scol,b7:=q.spen}:=by rw[HW a i]; rfl
def JQ(q:Tm){a b:Nat}(c:a<=b)(m:(b:Int)<q.cd):q.region [Int.ofNat (a+1),Int.ofNat (b+1)]={q with top:=a,bottom:=b,row:=0,col:=max 0 (min 0 (q.width-1))}:=by
 have e:count [Int.ofNat (a+1),Int.ofNat (b+1)]-1=(a:Int):=by simp only[count,List.headD_cons,Int.ofNat_eq_natCast]; omega
 have f:snd [Int.ofNat (a+1),Int.ofNat (b+1)]-1=(b:Int):=by simp only[snd,List.getD_cons_succ,List.getD_cons_zero,Int.ofNat_eq_natCast]; omega
 have h:(if (b:Int)<0\/(b:Int) ≥ q.cd then q.cd-1 else (b:Int))=b:=if_neg lw;unfold Tm.region;simp only[e,f];rw[h,if_pos lw];unfold Tm.bQ;have j:Tm.cd {q with top:=(a:Int),bottom:=(b:Int)}=q.cd:=rfl;have k:Tm.width {q with top:=(a:Int),bottom:=(b:Int)}=q.width:=rfl;rw[j,k,show max 0 (min 0 (q.cd-1))=0 by omega]
def IX(q:Tm)(h:1<=q.cd):q.region [0]={q with top:=0,bottom:=q.cd-1,row:=0,col:=max 0 (min 0 (q.width-1))}:=by have a:count [0]-1=0:=rfl;have b:snd [0]-1=-1:=rfl;have c:(if (-1:Int)<0\/(-1:Int) ≥ q.cd then q.cd-1 else (-1:Int))=q.cd-1:=if_pos (.inl ol);unfold Tm.region;simp only[a,b];rw[c,if_pos lw];unfold Tm.bQ;have e:Tm.cd {q with top:=(0:Int),bottom:=q.cd-1}=q.cd:=rfl;have f:Tm.width {q with top:=(0:Int),bottom:=q.cd-1}=q.width:=rfl;rw[e,f,show max 0 (min 0 (q.cd-1))=0 by omega]
def He(f:u.full [27]=bv)(i:Idle q){a b:Nat}(c:a<=b)(h:(b:Int)<q.cd)(k:b<9999):∃ ps,q.feed u (gA [a+1,b+1] 114)={q with mode:=0,params:=ps,middle:=false,top:=a,bottom:=b,row:=0,col:=max 0 (min 0 (q.width-1))}:=by rw[jB f i _ (fun n j=>by simp only[zA8,zD7,or_false]at j; omega) nl ol ol];have e:∀ z:Tm,z.cQ 114 (tZ [a+1,b+1])=z.region [Int.ofNat (a+1),Int.ofNat (b+1)]:=fun z=>rfl;rw[e,JQ ({q with mode:=3,params:=dU [a+1,b+1],middle:=false}:Tm) c h];exact⟨_,rfl⟩
def Ds(a:u.full [27]=bv)(i:Idle q)(b:1<=q.cd):∃ ps,q.feed u (gA [] 114)={q with mode:=0,params:=ps,middle:=false,top:=0,bottom:=q.cd-1,row:=0,col:=max 0 (min 0 (q.width-1))}:=by rw[jB a i [] (fun n c=>by cases c) nl ol ol];have e:∀ z:Tm,z.cQ 114 (tZ [])=z.region [0]:=fun z=>rfl;rw[e,IX ({q with mode:=3,params:=dU [],middle:=false}:Tm) b];exact⟨_,rfl⟩
def Tz(b:u.full [27]=bv)(i:Idle q){a:Nat}(h:(a:Int)<q.cd)(j:a<9999):∃ ps,q.feed u (gA [a+1,0+1] 72)={q with mode:=0,params:=ps,middle:=false,row:=a,col:=max 0 (min 0 (q.width-1))}:=by rw[jB b i _ (fun n c=>by simp only[zA8,zD7,or_false]at c; omega) nl ol ol];rw[show tZ [a+1,0+1]=[Int.ofNat (a+1),Int.ofNat (0+1)] from rfl,L0];refine⟨dU [a+1,0+1],?_⟩;unfold Tm.bQ Tm.m0;have e:Tm.cd {q with mode:=3,params:=dU [a+1,0+1],middle:=false}=q.cd:=rfl;have f:Tm.width {q with mode:=3,params:=dU [a+1,0+1],middle:=false}=q.width:=rfl;rw[e,f,show max 0 (min (a:Int) (q.cd-1))=a by omega];rfl
def H7(a:u.full [27]=bv)(i:Idle q){n:Nat}(up:Bool)(h:1<=n)(j:n<=9999)(b:q.top<=q.row/\q.row<=q.bottom):∃ ps,q.feed u (gA [n] (cond up 77 76))={q with mode:=0,params:=ps,middle:=false,aj:=jw q.width.toNat q.aj q.row.toNat q.bottom.toNat n up}:=by
 rw[jB a i _ (fun k c=>by simp only[zA8,zD7,or_false]at c; omega) nl (by cases up<;>decide) (by cases up<;>decide)];have f:count [Int.ofNat n]=(n:Int):=by simp only[count,List.headD_cons,Int.ofNat_eq_natCast]; omega
 have e:∀ z:Tm,z.cQ (cond up 77 76) (tZ [n])=z.lines (count [Int.ofNat n]) up:=fun z=>by cases up<;>rfl
 rw[e,f];unfold Tm.lines;rw[if_pos (show _ from b)];refine⟨dU [n],?_⟩;unfold Tm.fA Tm.m0;rfl
def Ss(w:Nat)(g:List (List Ce)){a b n:Nat}(up:Bool)(j:a<=b)(z:b<g.length)(m:n<=b+1-a):iW (jw w g a b n up)=nW w (iW g) a b n up:=by
 unfold jw nW;simp only;have o:min n (b+1-a)=n:=zH0 m;have r:((iW g).take (b+1)).drop a=iW ((g.drop a).take (b+1-a)):=by unfold iW;rw[List.drop_take,<-List.map_drop,<-List.map_take]
 have s:(iW ((g.drop a).take (b+1-a))).length=b+1-a:=by unfold iW;rw[zE1,zD9,zC6]; omega
 have e:iW (List.replicate n (List.replicate w sp))=List.replicate n (List.replicate w Go.Proofs.YtpohjcacnkhnkaaGreatDoor.Ce.sp):=by unfold iW;rw[List.map_replicate,List.map_replicate]; rfl
 have c:∀ a b:List (List Ce),iW (a++b)=iW a++iW b:=fun a b=>List.map_append;have f:∀(k:Nat)(a:List (List Ce)),iW (a.take k)=(iW a).take k:=fun k a=>List.map_take;have h:∀(k:Nat)(a:List (List Ce)),iW (a.drop k)=(iW a).drop k:=fun k a=>List.map_drop;rw[o,r,c,c,s,show a+(b+1-a)=b+1 by omega,h,f a];congr 2;cases up
 .simp only[zD2,if_false];rw[c,e,f (b+1-a-n)]
 .simp only[if_true];rw[c,e,h n]
def Mk(w:Nat)(g:List (List Ce)){a b n:Nat}(up:Bool)(c:a<=b)(e:b<g.length):(jw w g a b n up).length=g.length:=by unfold jw;simp only;cases up<;>simp only[zD2,if_false,if_true,zB3,zD9,zC6,zF1]<;>omega
def Qj(w:Nat)(g:List (List Ce)){a b n:Nat}(up:Bool){l:List Ce}(h:l∈jw w g a b n up):l∈g\/l=List.replicate w sp:=by
 unfold jw at h;simp only[zB1]at h;rcases h with (h|h)|h
 .exact .inl (zE2 h)
 .cases up
  .simp only[zD2,if_false,zB1]at h;rcases h with h|h
   .exact .inr (zH6 h)
   .exact .inl (zE4 (zE2 (zE2 h)))
  .simp only[if_true,zB1]at h;rcases h with h|h
   .exact .inl (zE4 (zE2 (zE4 h)))
   .exact .inr (zH6 h)
 .exact .inl (zE4 h)
def w9(a b n:Nat)(up:Bool):List UInt8:=[27,55]++(gA [a+1,b+1] 114++(gA [a+1,0+1] 72++(gA [n] (cond up 77 76)++(gA [] 114++[27,56]))))
def Qi(C:u.full [27]=bv)(s:pI W x t){a b n:Nat}(up:Bool)(A:a<=b)(hb:b<x.aj.length)(h1:1<=n)(hn:n<=b+1-a) :
  pI W {x with aj:=nW W x.aj a b n up} (t.feed u (w9 a b n up)):=by
 have h2:=s.ok.h2;have o:=s.len;have hh:=s.cd;have hw:=s.width
 obtain⟨I,e⟩:∃ z,({t with mode:=0,srow:=t.row,scol:=t.col,spen:=t.b7}:Tm)=z:=⟨_,rfl⟩
 have O:=NY C s.idle;rw[e]at O;have R:Idle I:=by rw[<-e]; exact⟨rfl,s.idle.rest⟩
 obtain⟨p2,S⟩:=He (a:=a) (b:=b) C R A (by rw[<-e]; show (b:Int)<t.cd; omega) lw
 obtain⟨J,c⟩:∃ z,({I with mode:=0,params:=p2,middle:=false,top:=a,bottom:=b,row:=0,col:=max 0 (min 0 (I.width-1))}:Tm)=z:=⟨_,rfl⟩
 rw[c]at S;have U:Idle J:=by rw[<-c]; exact⟨rfl,R.rest⟩
 obtain⟨p3,V⟩:=Tz (a:=a) C U (by rw[<-c,<-e]; show (a:Int)<t.cd; omega) lw
 obtain⟨w,f⟩:∃ z,({J with mode:=0,params:=p3,middle:=false,row:=a,col:=max 0 (min 0 (J.width-1))}:Tm)=z:=⟨_,rfl⟩
 rw[f]at V;have i3:Idle w:=by rw[<-f]; exact⟨rfl,U.rest⟩
 obtain⟨p4,K⟩:=H7 C i3 up h1 lw (by rw[<-f,<-c]; exact⟨Int.le_refl _,by show (a:Int)<=b; omega⟩);have g3:w.aj=t.aj:=by rw[<-f,<-c,<-e]
 have e3:jw w.width.toNat w.aj w.row.toNat w.bottom.toNat n up=jw W t.aj a b n up:=by
  have w3:w.width=t.width:=by unfold Tm.width; rw[g3]
  rw[w3,hw,g3,<-f,<-c];rfl
 rw[e3]at K
 obtain⟨D,k⟩:∃ z,({w with mode:=0,params:=p4,middle:=false,aj:=jw W t.aj a b n up}:Tm)=z:=⟨_,rfl⟩
 rw[k]at K;have i4:Idle D:=by rw[<-k]; exact⟨rfl,i3.rest⟩
 have r:(jw W t.aj a b n up).length=t.aj.length:=Mk W t.aj up A lw;have h4:D.cd=t.cd:=by rw[<-k]; show ((jw W t.aj a b n up).length:Int)=_; rw[r]; rfl
 obtain⟨p5,f5⟩:=Ds C i4 (by rw[h4,hh]; have:=s.ok.h1; omega)
 obtain⟨m,j⟩:∃ z,({D with mode:=0,params:=p5,middle:=false,top:=0,bottom:=D.cd-1,row:=0,col:=max 0 (min 0 (D.width-1))}:Tm)=z:=⟨_,rfl⟩
 rw[j]at f5;have i5:Idle m:=by rw[<-j]; exact⟨rfl,i4.rest⟩
 have f6:=Ns C i5;have B:t.feed u (w9 a b n up)={m with mode:=0,row:=m.srow,col:=m.scol,b7:=m.spen}:=by unfold w9;rw[Tm.ez,O,Tm.ez,S,Tm.ez,V,Tm.ez,K,Tm.ez,f5,f6]
 rw[B];have F:nW W x.aj a b n up=iW (jw W t.aj a b n up):=by rw[Ss W t.aj up A lw hn,s.aj]
 have g5:m.aj=jw W t.aj a b n up:=by rw[<-j,<-k]
 refine⟨⟨?_,?_,s.ok.w1,s.ok.w2,fun l hl=>?_,s.ok.row0,?_,s.ok.col0,s.ok.col1⟩,?_,?_,?_,?_,?_,?_,?_,⟨rfl,i5.rest⟩⟩
 .simp only[F,iW,zE1,r]; rw[<-o]; exact s.ok.h1
 .simp only[F,iW,zE1,r]; rw[<-o]; exact s.ok.h2
 .simp only[F]at hl;obtain⟨z,hz,rfl⟩:=zC1.1 hl;rw[zE1];rcases Qj W t.aj up hz with h|h
  .exact s.wid z h
  .rw[h,zF1]
 .simp only[F,iW,zE1,r]; rw[<-o]; exact s.ok.row1
 .simp only[F,g5]
 .show x.b7=Ua m.spen;rw[<-j,<-k,<-f,<-c,<-e]; exact s.b7
 .show x.row=m.srow;rw[<-j,<-k,<-f,<-c,<-e]; exact s.row
 .show x.col=m.scol;rw[<-j,<-k,<-f,<-c,<-e]; exact s.col
 .show x.shown=m.shown;rw[<-j,<-k,<-f,<-c,<-e]; exact s.shown
 .show m.top=0;rw[<-j]
 .show m.bottom=(m.aj.length:Int)-1;rw[g5,r,<-j];show D.cd-1=_;rw[h4]; rfl
end
end Go.Proofs.YtpohjcacnkhnkaaGreatDoor.Tq
namespace Go.Proofs.YtpohjcacnkhnkaaGreatDoor
open Go.Ax
section
variable{T:io}{N:Nat}{H G:aa}{p:Nat}{v:go}{rvs:List go}{x y:St}
def iT.ids(a:iT T N H p v rvs x):∀ n∈p::(ae v++rvs.flatMap ae),N<=n/\n<H.next/\H.get n≠none:=by
 intro n hn;rcases zA8.1 hn with rfl|hn
 .exact⟨a.lo,a.lt,fa a.cell⟩
 .rcases zB1.1 hn with hn|hn
  .have:=a.own.Wi n hn; exact⟨this.1,this.2.1,this.2.2.1⟩
  .exact a.own.ids n hn
def iT.of(a:iT T N H p v rvs x)(b:H.next<=G.next)(c:∀ n∈p::(ae v++rvs.flatMap ae),G.get n=H.get n):iT T N G p v rvs x where
 cell:=(bg (c p nl)).trans a.cell
 own:=a.own.of b fun n _ _ h=>c n (zB9 _ h)
 apart:=a.apart
 lt:=zE0 a.lt b
 lo:=a.lo
def iT.df(a:iT T N H p v rvs x)(m:Mod [] H G):iT T N G p v rvs x:=a.of m.next fun n b=>m.get n (a.ids n b).2.1 nl
def iT.put(a:iT T N H p v rvs x)(m:Mod [p] H G)(h:bk G p=a9 ⟨T,ci,y.cells v⟩)(b:y.aj=x.aj):iT T N G p v rvs y where
 cell:=h
 own:=b▸a.own.of m.next fun n _ c e=>m.get n c (by simp only[zA5]; rintro rfl; exact a.apart e)
 apart:=a.apart
 lt:=m.lt a.lt
 lo:=a.lo
def iT.row(a:iT T N H p v rvs x){i:Nat}{l:List Ce}(e:x.aj[i]?=a9 l):∃ n s c f,rvs[i]?=a9 (lm (a9 ⟨n,0,s⟩) l.length c)/\bk H n=a9 ⟨77,f,a8 l⟩/\N<=n/\n<H.next/\n≠p:=by obtain⟨rv,b,n,s,c,f,rfl,h,j,k⟩:=a.own.lj e;refine⟨n,_,_,f,b,h,j,k,?_⟩;rintro rfl;exact a.apart (zG6 _ (zG3.2 ⟨_,zC5 b,by simp[ae]⟩))
end
end Go.Proofs.YtpohjcacnkhnkaaGreatDoor
namespace Go.Ax
section
variable{P:ip}{ro:Option Nat}{H:aa}{N:Nat}{E:Env}{ds:List Deferred}{Q:Exit -> ah -> aa -> Prop}
def gq{ops:Array Oper}{rest:List Oper}{a:ah}{dst:Option Nat}{b:List PanicEntry}:FZ P ro ops rest a dst Q (.error b) H=Q (.panic b) a H:=by simp only[FZ]
def qH{J:Env->aa->Prop}{a:ah}{b:List PanicEntry}:A8 N ds J Q (.panic b) a H=Q (.panic b) a H:=Eq.trans rfl rfl
def eN{fn:Func}{R:Out->aa->Prop}{a:List PanicEntry}:Nc P fn R (.panic a) (bu N E ds) H=ft P fn (bu N E ds) ds (.panicking a) H R:=Eq.trans rfl rfl
def kx{fn:Func}{a:ah}{R:Out->aa->Prop}{b:List PanicEntry}:ft P fn a [] (.panicking b) H R=R (.error b) H:=by simp only[ft]
def Sj(Q:Exit->ah->aa->Prop)(a:ah)(H:aa):go->Prop
 |.iface t y=>Q (.panic [{v:=.iface t y,recovered:=false}]) a H
 |_=>False
def I5{a:ah}{t:io}{y:go}:Sj Q a H (.iface t y)=Q (.panic [{v:=.iface t y,recovered:=false}]) a H:=by simp only[Sj]
def RP{ops:Array Oper}{rest:List Oper}{dst:Option Nat}{ty:io}{pos:String}{after:Array Edge}{x:i7}(hx:bj P N x=bv):wpOps P ro ops (⟨dst,.panic x,ty,pos,after,bi⟩::rest) (bu N E ds) H Q=Sj Q (bu N E ds) H (cy E x):=by rw[yf rfl rfl];simp only[Bv,cE,EW,aH hx,zA1,zA3];cases cy E x<;>simp only[Ek,mO,FZ,Sj]
def bD.panics{f:FuncId}{args:List go}{a:List PanicEntry}{R:Out->aa->Prop}(h:bD P f args H (.error a) H)(b:R (.error a) H):bF P f args H R:=⟨_,_,h,b⟩
end
end Go.Ax
namespace Go.Proofs.YtpohjcacnkhnkaaGreatDoor
open Go.Ax
def iL(N:Nat)(H X:aa):Prop:=∃ Ws:List Nat,(∀ n∈Ws,N<=n/\(n<H.next->∀ o l,bk H n≠a9 ⟨121,o,l⟩))/\Mod Ws H X
def iL.of{N:Nat}{H X:aa}{Ws:List Nat}(m:Mod Ws H X)(h:∀ n∈Ws,N<=n/\(n<H.next->∀ o l,bk H n≠a9 ⟨121,o,l⟩)):iL N H X:=⟨Ws,h,m⟩
def iL.refl{N:Nat}{H:aa}:iL N H H:=⟨[],by simp,Mod.refl⟩
def iL.ok{N:Nat}{H X:aa}(m:iL N H X)(h:H.base<=H.next):X.base<=X.next:=let ⟨_,_,m⟩:=m; m.ok h
def iL.next{N:Nat}{H X:aa}(m:iL N H X):H.next<=X.next:=let ⟨_,_,m⟩:=m; m.next
def iL.trans{N:Nat}{H X Y:aa}(m:iL N H X)(k:iL N X Y):iL N H Y:=by
 obtain⟨W,b,m⟩:=m;obtain⟨V,c,k⟩:=k;refine⟨W++V,fun n hn=>?_,(m.mono fun n h=>zF8 _ h).trans (k.mono fun n h=>zG6 _ h)⟩;rcases zB1.1 hn with hn|hn
 .exact b n hn
 .refine⟨(c n hn).1,fun a o l e=>?_⟩;have f:n∉W:=fun h=>(b n h).2 a o l e;exact (c n hn).2 (m.lt a) o l ((m.bk a f).trans e)
def iL.mod{N:Nat}{G H X:aa}(m:iL N H X)(g:Mod [] G H)(a:G.base<=G.next)(b:G.next<=N):Mod [] G X:=by obtain⟨W,c,m⟩:=m;exact g.step m a fun n e=>.inr (zC4 b (c n e).1)
def iL.kinds{N n:Nat}{H X:aa}{o:Bool}{l:List go}(m:iL N H X)(a:n<H.next)(b:bk H n=a9 ⟨121,o,l⟩):bk X n=a9 ⟨121,o,l⟩:=by obtain⟨W,c,m⟩:=m;exact (m.bk a fun h=>(c n h).2 a o l b).trans b
def iT.pN{T:io}{N p:Nat}{H:aa}{v:go}{rvs:List go}{x:St}(a:iT T N H p v rvs x)(b:T≠121:=by decide):∀ n∈[p],N<=n/\(n<H.next->∀ o l,bk H n≠a9 ⟨121,o,l⟩):=fun n c=>by obtain rfl:=zA5.1 c;refine⟨a.lo,fun _ o l h=>?_⟩;rw[a.cell]at h;exact b (by have:=Option.some.inj h; exact congrArg Bl.e this)
def gj:PanicEntry:={v:=.iface 118 (.agg ⟨[]⟩),recovered:=false}
def RE(v:go):Prop:=∃ n h,v=lm (a9 ⟨n,0,bi⟩) h h
def F7(T:io)(N p:Nat)(r:Option St)(H:aa)(out:Out)(X:aa):Prop :=
 iL N H X/\match r with
  |some y=>out=.ok (.tuple ⟨[]⟩)/\∃ v rvs,RE v/\iT T N X p v rvs y
  |none=>out=.error [gj]
def LR(H:aa):bD Tryz.prog 78 [ls bv] H (.ok (.tuple ⟨[]⟩)) H:=by refine bA mixed Tryz.func78 rfl Tryz.ntmps78 (zA7 rfl) fun wf a=>?_;simp only[zD1,Tryz.results78,zW,seval];exact Fin.pure rfl
def oE(H:aa):bD Tryz.prog 78 [ls ci] H (.error [gj]) H:=by
 have a:bF Tryz.prog 78 [ls ci] H fun out X=>out=.error [gj]/\X=H:=by refine aI mixed Tryz.func78 rfl Tryz.ntmps78 (zA7 rfl) ?_;simp only[zF4,RP,I5,eN,kx,zW,seval];exact⟨rfl,rfl⟩
 obtain⟨_,_,h,rfl,rfl⟩:=a;exact h
section
variable{N:Nat}{H:aa}{p W:Nat}{v:go}{rvs:List go}{x:St}
def iT.first{T:io}(a:iT T N H p v rvs x)(ok:x.Ok W):∃ m j k o w z A,v=lm (a9 ⟨m,0,j⟩) x.aj.length k/\bk H m=a9 ⟨56,o,rvs⟩/\m<H.next/\N<=m/\m≠p/\rvs[0]?=a9 (lm (a9 ⟨w,0,z⟩) W A):=by
 obtain⟨B,b⟩:∃ l,x.aj[0]?=a9 l:=⟨_,zB0 (by have:=ok.h1; omega)⟩
 obtain⟨n,s,c,f,e,_⟩:=a.row b;rw[ok.wid B (zC5 b)]at e
 rcases a.own.at_ with⟨h,_⟩|⟨m,j,k,o,r,C,D,F,_⟩
 .rw[h]at b; simp at b
 .refine⟨m,j,k,o,n,s,c,r,C,F,D,?_,e⟩;rintro rfl;exact a.apart (zF8 _ (by rw[r]; simp[ae]))
def FE(a:iT 83 N H p v rvs x)(ok:x.Ok W):∃ m,m<H.next/\m≠p/\(∃ e o l,bk H m=a9 ⟨e,o,l⟩)/\∀ G:aa,G.next=H.next->(∀ n∈[p,m],G.get n=H.get n)->bD Tryz.prog 40 [li (a9 ⟨p,0,bi⟩)] G (.ok (jp kw W)) G:=by
 obtain⟨m,D,F,I,J,K,O,rfl,z,c,_,cn,f⟩:=a.first ok;refine⟨m,c,cn,⟨_,_,_,z⟩,fun G A B=>?_⟩;have b:=a.cell;simp only[St.cells]at b;have h:bk G p=_:=(bg (B p nl)).trans b;have j:bk G m=_:=(bg (B m nl)).trans z;have k:p<G.next:=by rw[A]; exact a.lt
 have r:m<G.next:=by rw[A]; exact c
 have w:=fD (n:=m) (off:=0) (s:=D) (cap:=F) (i:=((0:Nat):Int)) (len:=x.aj.length) rfl (by have:=ok.h1; omega);rw[show ((0:Nat):Int)=0 from rfl]at w;have C:rL Tryz.prog 56 (0+0) (a9 ⟨56,I,rvs⟩)=a9 (lm (a9 ⟨J,0,K⟩) W O):=dG (by rw[zC2]; exact f);rw[zD5]at w C;refine bA mixed Tryz.func40 rfl Tryz.ntmps40 (zA7 rfl) fun wf R=>?_;simp only[h,j,k,r,w,C,Tryz.results40,zW,seval];exact Fin.pure rfl
def Ae{H:aa}{L:List Bl}{n:Nat}(h:n<H.next):bk (ext H L) n=bk H n:=by rw[kf h]
def iT.RS{T:io}{y:St}(a:iT T N H p v rvs x)(b:H.base<=H.next){off:Nat}{vs:List go}{L:List Bl}(e:dj (x.cells v) off vs=y.cells v)(f:y.aj=x.aj) :
  iT T N (ext (uw H p off vs) L) p v rvs y/\Mod [p] H (ext (uw H p off vs) L):=by
 have c:Mod [p] H (uw H p off vs):=Mod.uw nl;have m:=c.trans (Mod.ext (W:=[p]) (L:=L) (c.ok b));refine⟨a.put m ?_ f,m⟩;rw[Ae (by rw[cw]; exact a.lt),bR,a.cell,<-e];rfl
end
def Part(H:aa)(u:go)(L:List go):Prop :=
 ∃ a c,u=.slice a L.length c/\aV H.next u=bv/\(L=[]\/(L.length<=c/\∃ n off s b,a=a9 ⟨n,off,s⟩/\(s=bi\/s=a9 0)/\bk H n=a9 b/\n<H.next/\off+L.length<=b.l.length/\(b.l.drop off).take L.length=L))
section
variable{H G:aa}{u:go}{L:List go}
def Part.of(h:Part H u L)(e:H.next<=G.next)(f:∀ n∈ae u,G.get n=H.get n):Part G u L:=by obtain⟨a,c,rfl,j,h⟩:=h;refine⟨a,c,rfl,cU e _ j,h.imp id ?_⟩;rintro⟨k,n,off,s,b,rfl,m,o,z,r,w⟩;exact⟨k,n,off,s,b,rfl,m,(bg (f n pm)).trans o,by omega,r,w⟩
def Part.ext(h:Part H u L){B:List Bl}:Part (Go.Ax.ext H B) u L:=by obtain⟨a,c,rfl,e,h⟩:=h;refine⟨a,c,rfl,cU (by rw[ai]; omega) _ e,h.imp id ?_⟩;rintro⟨f,n,off,s,b,rfl,j,k,m,o,r⟩;exact⟨f,n,off,s,b,rfl,j,(Ae m).trans k,by rw[ai]; omega,o,r⟩
def Part.len(h:Part H u L):∃ a c,u=.slice a L.length c:=let ⟨a,c,e,_⟩:=h; ⟨a,c,e⟩
def Part.jD(h:Part H u L):Go.Ax.jD u=a9 L.length:=by obtain⟨a,c,rfl,_⟩:=h;rfl
def Part.first(h:Part H u L):cK H 1 L.length u=a9 L:=by
 obtain⟨a,c,rfl,hs,rfl|⟨j,n,off,s,b,rfl,k,e,m,o,f⟩⟩:=h
 .cases a<;>simp[cK]
 .rw[fF e lw,zF0,f]
def Part.sc(h:Part H u L):aV H.next u=true:=let ⟨_,_,_,a,_⟩:=h; a
def Part.slice(h:Part H u L)(cn:L≠[]){x y:Option go}{lo hi:Nat}(hx:bound 0 x=a9 lo)(A:bound L.length y=a9 hi)(B:lo<=hi)(S:hi<=L.length) :
  ∃ I,(∀ G:aa,(∀ n∈ae u,G.get n=H.get n)->bX Tryz.prog G 39 u x y bi=a9 (I,G))/\Part H I ((L.take hi).drop lo)/\∀ n∈ae I,n∈ae u:=by
 obtain⟨a,c,rfl,hs,rfl|⟨V,n,off,s,b,rfl,J,C,f,h4,U⟩⟩:=h
 .exact absurd rfl cn
 have D:Tryz.prog.underlying 39=a9 (.slice 56):=by kernel_rfl
 have r:br Tryz.prog 56=a9 1:=by kernel_rfl
 have w:((L.take hi).drop lo).length=hi-lo:=by simp; omega
 have K:∃ q:Bool,∀ G:aa,G.get n=H.get n->cX G ⟨n,off,s⟩=a9 q:=by
  rcases J with rfl|rfl
  .exact⟨!b.o,fun G m=>by simp only[cX,jx ((bg m).trans C),zB2]⟩
  .exact⟨bv,fun G m=>rfl⟩
 have F:∀ k,off+k+(hi-lo)<=b.l.length->k=lo->(b.l.drop (off+k)).take (hi-lo)=(L.take hi).drop lo:=fun k hk e=>by subst e;rw[<-U,List.take_take,zH0 S,List.drop_take,zH3]
 obtain⟨q,j⟩:=K
 cases q with
 |true =>
  refine⟨lm (a9 ⟨n,if c=lo then off else off+lo*1,a9 0⟩) (hi-lo) (c-lo),fun G m=>?_,?_,fun q j=>by simpa[ae]using j⟩
  .simp only[bX,D,r,zA1,zA3,et,hx,A,j G (m n pm)];rw[if_pos ⟨by omega,B⟩]
  .refine⟨_,_,by rw[w],bd f,?_⟩;by_cases R:hi=lo
   .exact .inl (zE5 lw)
   .refine .inr ⟨by omega,n,_,a9 0,b,rfl,.inr rfl,C,f,?_,?_⟩
    .rw[if_neg lw]; omega
    .rw[if_neg lw,zF0,w];exact F lo lw rfl
 |false =>
  by_cases O:lo=0
  .subst O;refine⟨lm (a9 ⟨n,off,bi⟩) hi c,fun G m=>?_,?_,fun q j=>by simpa[ae]using j⟩
   .simp only[bX,D,r,zA1,zA3,et,hx,A,j G (m n pm)];rw[if_pos ⟨by omega,B⟩];simp only[if_true]
   .rw[Nat.sub_zero]at w F;refine⟨_,_,by rw[w],bd f,?_⟩;by_cases R:hi=0
    .exact .inl (zE5 lw)
    .exact .inr ⟨by omega,n,_,bi,b,rfl,.inl rfl,C,f,by omega,by rw[w]; exact F 0 lw rfl⟩
  .by_cases z:lo<c
   .refine⟨lm (a9 ⟨n,off+lo*1,bi⟩) (hi-lo) (c-lo),fun G m=>?_,?_,fun q j=>by simpa[ae]using j⟩
    .simp only[bX,D,r,zA1,zA3,et,hx,A,j G (m n pm)];rw[if_pos ⟨by omega,B⟩,if_neg O,if_pos z]
    .refine⟨_,_,by rw[w],bd f,?_⟩;by_cases R:hi=lo
     .exact .inl (zE5 lw)
     .exact .inr ⟨by omega,n,_,bi,b,rfl,.inl rfl,C,f,by omega,by rw[zF0,w]; exact F lo lw rfl⟩
   .refine⟨lm (a9 ⟨n,off+lo*1,a9 (off+1)⟩) 0 0,fun G m=>?_,?_,fun q j=>by simpa[ae]using j⟩
    .simp only[bX,D,r,zA1,zA3,et,hx,A,j G (m n pm)];rw[if_pos ⟨by omega,B⟩,if_neg O,if_neg z,if_neg lw]
    .refine⟨_,_,by rw[w,show hi-lo=0 by omega],bd f,.inl (zE5 lw)⟩
end
abbrev nq:Value:=lm bi 0 0
def zr:zeroOf Tryz.prog 56=a9 nq:=by kernel_rfl
theorem PF:nq.cells.toList=[nq]:=rfl
def Cr:Tryz.prog.underlying 39=a9 (.slice 56):=by kernel_rfl
def tY:br Tryz.prog 56=a9 1:=by kernel_rfl
def EJ:bytesOf Tryz.prog 56=a9 24:=by kernel_rfl
def I1{n:Nat}(h:n<=10000):small n 24=true:=by simp[small]; omega
def Im(H:aa)(n:Nat)(z:0<n)(A:n<=10000):bD Tryz.prog 156 [lm bi 0 0,jp kw (n:Int)] H (.ok (lm (a9 ⟨H.next,0,bi⟩) 0 n)) (ext H [⟨56,bv,bf [nq] n⟩]):=by
 obtain⟨b,j⟩:=ac H.next;have B:f7 ((n:Int)<0)=false:=decide_eq_false lw;have C:f7 ((0:Int)<(n:Int))=true:=decide_eq_true lw;have D:=R5 (P:=Tryz.prog) (H:=ext H []) (t:=39) (l:=0) (c:=0) Cr;have k:=OK (P:=Tryz.prog) (H:=ext H []) (st:=39) (xt:=3) (n:=n) Cr tY EJ zr rfl m9 z (yY rfl n) (I1 A);have a:=ey (H:=H) (L:=[]) (e:=56) (l:=bf [nq] n) (o:=true) (C0 rfl n);rw[PF,a,zB2]at k;have m:=UT (P:=Tryz.prog) (H:=ext H []) (t:=39) (l:=0) (c:=0) Cr tY;have r:bk (ext H [⟨56,bv,bf [nq] n⟩]) (b+0)=a9 ⟨56,bv,bf [nq] n⟩:=by rw[aZ j nl]; rfl
 have f:=R9 (P:=Tryz.prog) (H:=ext H [⟨56,bv,bf [nq] n⟩]) (t:=39) (n:=b+0) (off:=0) (l:=n) (c:=n) Cr tY r rfl;have F:IntKind.i64.wrap ((n:Int)-0)=(n:Int):=(aR lw lw).trans lw;have s:IntKind.i64.wrap ((0:Int)-0)=0:=by decide
 rw[j];refine bA mixed Tryz.func156 rfl Tryz.ntmps156 (zA7 rfl) fun wf I=>?_;simp only[ai,j,zB4,zD5]at k f ⊢;have w:((0:Nat):Int)=0:=rfl;simp only[B,C,D,F,s,w,m,k,f,Tryz.results156,zW,Nat.reduceLT,Nat.reduceAdd,Nat.reduceEqDiff];exact fun h=>h
def Dy(n k:Nat):(bf [nq] n).drop k=bf [nq] (n-k):=by have:=xG (z:=[nq]) n k;simpa using this
def qP:∀(vs l:List go),vs.length<=l.length->dj l 0 vs=vs++l.drop vs.length
 |[],l,_=>by rw[E5]; rfl
 |v::vs,[],h=>by simp at h
 |v::vs,a::l,h=>by rw[dj,qP vs l (by simpa using h)];rfl
def FU{H:aa}{A:List go}{u:go}{L:List go}{x n:Nat}(f:Part (ext H [⟨56,bv,A++bf [nq] (n-A.length)⟩]) u L)(hx:H.next=x)(c:A.length+L.length<=n)(o:n<=10000)(e:H.base<=H.next)(j:L.all one=bv)(k:aT (x+1) L=bv) :
  aE Tryz.prog (ext H [⟨56,bv,A++bf [nq] (n-A.length)⟩]) .append ⟨[39,39]⟩ [lm (a9 ⟨x,0,bi⟩) A.length n,u]=a9 (lm (a9 ⟨x,0,bi⟩) (A++L).length n,ext H [⟨56,bv,(A++L)++bf [nq] (n-(A++L).length)⟩]):=by
 have m:=rG (z:=[nq]) (n-A.length);rw[zI0,zF0]at m;rw[Jk (P:=Tryz.prog) (st:=39) (xt:=39) Cr tY EJ zr rfl m9 f.jD f.first lw c (I1 lw)];have h:=BG (H:=H) (L:=[⟨56,bv,A++bf [nq] (n-A.length)⟩]) (b:=x) (i:=0) (off:=0+A.length*1) (vs:=L) hx e rfl (by simp only[zB3]; omega) j (by simpa using k);have a:dj (A++bf [nq] (n-A.length)) (0+A.length*1) L=(A++L)++bf [nq] (n-(A++L).length):=by have:=GM A (bf [nq] (n-A.length)) 0 L;rw[show 0+A.length*1=A.length+0 by omega,this,qP _ _ lw,Dy,zB3,zC8,Nat.sub_sub]
 rw[a]at h;rw[show x=x+0 from rfl,h];simp only[zB2,zB3,List.set_cons_zero]
def HM{len cap n off:Nat}{s:Option Nat}{k:Nat}(a:k<len):aW Tryz.prog 186 (lm (a9 ⟨n,off,s⟩) len cap) (jp kw (k:Int))=a9 (li (a9 ⟨n,off+k,bi⟩)):=by rw[gk (e:=39) (sz:=1) m9 m9 lw lw];simp
def GL(H:aa)(b:Nat)(sp:Option Nat)(K:Nat)(e:io)(o:Bool)(a:List (go × List go))(n:Nat)(hb:bk H b=a9 ⟨e,o,a.map Prod.fst⟩)(F:b<H.next)
  (hP:∀ q∈a,Part H q.1 q.2/\q.2.all one=bv/\aT H.next q.2=bv) (hn:(a.flatMap Prod.snd).length=n) (h0:0<n) (V:n<=10000) (hpl:a.length<=10000) :
  bD Tryz.prog 135 [lm (a9 ⟨b,0,sp⟩) a.length K] H (.ok (lm (a9 ⟨H.next,0,bi⟩) n n)) (ext H [⟨56,bv,a.flatMap Prod.snd⟩]):=by
 obtain⟨x,hx⟩:=ac H.next;rw[hx]at F ⊢;refine bA mixed Tryz.func135 rfl Tryz.ntmps135 (zA7 rfl) fun wf hsc=>?_;have hok:H.base<=H.next:=wf.base;simp only[zW,seval];refine da fun E S=>?_;have D:E 0=lm (a9 ⟨b,0,sp⟩) a.length K:=by rw[S]; rfl
 have z:E 3=jp kw ((0:Nat):Int):=by rw[S]; rfl
 have U:E 9=lm (a9 ⟨b,0,sp⟩) a.length K:=by rw[S]; rfl
 have c:E 10=jp kw (a.length:Int):=by rw[S]; rfl
 have j:E 11=jp kw ((0:Nat):Int):=by rw[S]; rfl
 clear S;have ldp:∀(k:Nat)(q:go × List go),a[k]?=a9 q->rL Tryz.prog 39 (0+k) (a9 ⟨e,o,a.map Prod.fst⟩)=a9 q.1:=fun k q h=>by rw[lf m9,zC2];simp[h]
 have tk:∀(k:Nat)(q:go × List go),a[k]?=a9 q->(a.take (k+1)).flatMap Prod.snd=(a.take k).flatMap Prod.snd++q.2:=fun k q h=>by rw[zG4,h];simp
 have le:∀ k,((a.take k).flatMap Prod.snd).length<=n:=fun k=>by
  rw[<-hn];conv=>rhs; rw[<-zG9 k a,List.flatMap_append,zB3]
  omega
 refine aS (fun f Y=>Y=ext H []/\f 0=lm (a9 ⟨b,0,sp⟩) a.length K/\f 3=jp kw (n:Int)) ?_ ?_
 .refine cp (fun (k:Nat) f Y=>Y=ext H []/\f 0=lm (a9 ⟨b,0,sp⟩) a.length K/\f 3=jp kw (((a.take k).flatMap Prod.snd).length:Int)/\f 9=lm (a9 ⟨b,0,sp⟩) a.length K/\f 10=jp kw (a.length:Int)/\f 11=jp kw (k:Int)/\k<=a.length) (fun k=>a.length-k) 0
   ⟨rfl,D,by simpa using z,U,c,j,zB7 _⟩ ?_
  clear D z U c j;rintro k E Y ⟨I,D,z,U,c,j,hk⟩;rw[I];by_cases m:k=a.length
  .have J:f7 ((k:Int)<(a.length:Int))=false:=by simp[m]
   simp only[c,j,J,zW,seval];rw[m,zH2,hn]at z;exact ag ⟨rfl,by simp only[D,aF,seval],by simp only[z,aF,seval]⟩
  .have r:k<a.length:=by omega
   have J:f7 ((k:Int)<(a.length:Int))=true:=decide_eq_true lw
   obtain⟨q,O⟩:∃ q,a[k]?=a9 q:=⟨_,zB0 r⟩
   obtain⟨aq,cq,eq⟩:=(hP q (zC5 O)).1.len;have ia:=HM (len:=a.length) (cap:=K) (n:=b) (off:=0) (s:=sp) r;have lq:=ldp k q O;have t1:=tk k q O;have C:=le (k+1);rw[t1,zB3]at C;have hw:IntKind.i64.wrap ((((a.take k).flatMap Prod.snd).length:Int)+(q.2.length:Int))=(((a.take (k+1)).flatMap Prod.snd).length:Int):=by rw[t1,zB3];exact (aR lw lw).trans lw
   have d0:f7 ((((a.take (k+1)).flatMap Prod.snd).length:Int)<0)=false:=decide_eq_false lw;rw[eq]at lq;simp only[z,U,c,j,J,hx,F,hb,ia,lq,hw,d0,ba (show k<1000000 by omega),zW,seval];refine aG ⟨k+1,by omega,rfl,?_,?_,?_,?_,?_,by omega⟩
   .exact D
   .rfl
   .exact U
   .exact c
   .rfl
 .clear D z U c j;rintro E Y ⟨I,D,z⟩;rw[I];simp only[z,zW,seval];refine (Im (ext H []) n h0 V).to ?_;simp only[D,hx,zW,seval];refine da fun E2 w=>?_;have k6:E2 6=lm (a9 ⟨x,0,bi⟩) ((a.take 0).flatMap Prod.snd).length n:=by rw[w]; rfl
  have k25:E2 25=lm (a9 ⟨b,0,sp⟩) a.length K:=by rw[w]; rfl
  have k26:E2 26=jp kw (a.length:Int):=by rw[w]; rfl
  have k27:E2 27=jp kw ((0:Nat):Int):=by rw[w]; rfl
  clear w;refine aS (fun f Y=>Y=ext H [⟨56,bv,a.flatMap Prod.snd⟩]/\f 6=lm (a9 ⟨x,0,bi⟩) n n) ?_ ?_
  .refine cp (fun (k:Nat) f Y=>Y=ext H [⟨56,bv,(a.take k).flatMap Prod.snd++bf [nq] (n-((a.take k).flatMap Prod.snd).length)⟩]/\f 6=lm (a9 ⟨x,0,bi⟩) ((a.take k).flatMap Prod.snd).length n/\f 25=lm (a9 ⟨b,0,sp⟩) a.length K/\f 26=jp kw (a.length:Int)/\f 27=jp kw (k:Int)/\k<=a.length) (fun k=>a.length-k) 0
    ⟨by rw[List.take_zero,List.flatMap_nil,zB6,zB4,Nat.sub_zero],k6,k25,k26,k27,zB7 _⟩ ?_
   clear k6 k25 k26 k27;rintro k E Y ⟨I,g6,g25,R,g27,hk⟩;rw[I];by_cases m:k=a.length
   .have J:f7 ((k:Int)<(a.length:Int))=false:=by simp[m]
    simp only[R,g27,J,zW,seval];rw[m,zH2,hn]at g6;rw[m,zH2,hn,zG8,bf,zC7];exact ag ⟨rfl,by simp only[g6,aF,seval]⟩
   .have r:k<a.length:=by omega
    have J:f7 ((k:Int)<(a.length:Int))=true:=decide_eq_true lw
    obtain⟨q,O⟩:∃ q,a[k]?=a9 q:=⟨_,zB0 r⟩
    obtain⟨hPq,h1q,hsq⟩:=hP q (zC5 O);have ia:=HM (len:=a.length) (cap:=K) (n:=b) (off:=0) (s:=sp) r;have lq:=ldp k q O;have t1:=tk k q O;have C:=le (k+1);rw[t1,zB3]at C;have ap:=FU (A:=(a.take k).flatMap Prod.snd) (n:=n) (hPq.ext (B:=[⟨56,bv,(a.take k).flatMap Prod.snd++bf [nq] (n-((a.take k).flatMap Prod.snd).length)⟩])) hx C V hok h1q (dV lw _ hsq);rw[<-t1]at ap;simp only[g6,g25,R,g27,J,hx,F,hb,ia,lq,ap,ba (show k<1000000 by omega),zW,seval];refine aG ⟨k+1,by omega,rfl,?_,?_,?_,?_,by omega⟩
    .rfl
    .exact g25
    .exact R
    .rfl
  .rintro E Y ⟨I,g6⟩;rw[I];simp only[g6,Tryz.results135,zW,seval];exact fun h=>h
end Go.Proofs.YtpohjcacnkhnkaaGreatDoor
namespace Go.Ax
variable{P:ip}{H:aa}
def zA{st xt e:io}{sz by1 m k n off cnt cap:Nat}{s:Option Nat}{z:go}{b bm:Bl}(C:P.underlying st=a9 (.slice e))(f:br P e=a9 sz)(h:bytesOf P e=a9 by1)(D:zeroOf P e=a9 z)(j:z.cells.toList.length=sz)(hi:fE P xt=a9 ci)
  (F:bk H m=a9 bm) (K:k*sz<=bm.l.length) (o:bm.l.all one=bv)
  (I:rk H n=a9 b) (r:off+cnt*sz<=b.l.length) (c:((b.l.drop off).take (cnt*sz)).all one=bv) (O:0<cnt) (w:small (k+cnt) by1=bv) :
  aE P H .append ⟨[st,xt]⟩ [lm (a9 ⟨m,0,a9 0⟩) k k,lm (a9 ⟨n,off,s⟩) cnt cap]=(cJ H e (bm.l.take (k*sz)++(b.l.drop off).take (cnt*sz)) bv).map fun g=>(lm (a9 ⟨H.next,0,bi⟩) (k+cnt) (k+cnt),g):=by
 have J:((b.l.drop off).take (cnt*sz)).length=cnt*sz:=by simp; omega
 have A:(bm.l.take (k*sz)).length=k*sz:=by simp; omega
 have B:=fF (sz:=sz) (cnt:=k) (off:=0) (len:=k) (cap:=k) (s:=a9 0) F lw;simp only[zD0]at B;have a:=nc o 0 (k*sz);simp only[zD0]at a;simp only[aE,e7,C,f,h,D,hi,zA1,zA3,jD,kO I r,J,j,w,and_self,if_true,dv];rw[if_neg lw];simp only[B,zA3,A,a,c,decide_true,zD8,if_true,fR,cX];cases cJ H e (bm.l.take (k*sz)++(b.l.drop off).take (cnt*sz)) bv<;>rfl
end Go.Ax
namespace Go.Proofs.YtpohjcacnkhnkaaGreatDoor
open Go.Ax
def Ou{G:aa}{m:Nat}{rv:go}{l:List Ce}(z:bk G m=a9 ⟨77,ci,[]⟩)(r:m<G.next)(A:G.base<=G.next)(U:dZ G rv l)(D:l.length<=10000) :
  ∃ h B,aE Tryz.prog G .append ⟨[56,56]⟩ [lm (a9 ⟨m,0,a9 0⟩) 0 0,rv]=a9 (h,B)/\fH m B h l/\Mod [m] G B/\∀ n∈ae h,n=m\/G.next<=n:=by
 have F:Tryz.prog.underlying 56=a9 (.slice 77):=by kernel_rfl
 have I:br Tryz.prog 77=a9 6:=by kernel_rfl
 have J:bytesOf Tryz.prog 77=a9 32:=by kernel_rfl
 have K:zeroOf Tryz.prog 77=a9 (.agg #[jp kw 0,jp kw 0,jp kw 0,ls ci,ls ci,ls ci]):=by kernel_rfl
 have O:fE Tryz.prog 56=a9 false:=by kernel_rfl
 rcases U with⟨rfl,a,c,rfl⟩|⟨V,n,off,s,c,e,o,L,rfl,hb,hnl,C,R⟩
 .have S:=ke (H:=G) (L:=[]) (off:=0) (vs:=[]) r z nl rfl rfl;rw[ext_nil,ext_nil]at S
  have hf:cK G 6 0 (.slice a 0 c)=a9 []:=by
   cases a with
   |none=>rfl
   |some a=>simp only[cK,if_true]
  refine⟨lm (a9 ⟨m,0,a9 0⟩) 0 0,uw G m 0 [],?_,⟨m,ci,0,ci,rfl,?_,zA4 _,by rw[cw]; exact r⟩,Mod.uw nl,fun n j=>by simp only[ae,zA5]at j; exact .inl j⟩
  .simp only[aE,e7,F,I,J,K,O,jD,hf,zA1,zA3];rw[if_pos ⟨by simp,by decide,rfl⟩];simp only[dv];rw[if_pos lw];simp only[zH1,zD5,S,zA1,zA3]
  .rw[bR,z];rfl
 .have w:0<l.length:=List.length_pos_iff.2 V
  have f:=zA (P:=Tryz.prog) (H:=G) (st:=56) (xt:=56) (e:=77) (sz:=6) (by1:=32) (m:=m) (k:=0) (n:=n) (off:=off) (cnt:=l.length) (cap:=c) (s:=s) (b:=⟨e,o,L⟩) (bm:=⟨77,ci,[]⟩)
   F I J K rfl O z nl rfl hb C (by rw[R]; exact tS l) w sm
  have j:=ey (H:=G) (L:=[]) (e:=77) (l:=a8 l) (o:=true) (kj _ _);simp only[R,zH1,List.take_zero,zB6]at f;rw[show G=ext G [] from rfl,j,zB2]at f;simp only[zC2]at f;refine⟨_,_,f,⟨G.next+0,bv,0,bv,rfl,by rw[zB6,aZ rfl nl]; rfl,by omega,by rw[ai]; simp⟩,Mod.ext A,fun n j=>by simp only[ae,zA5]at j; exact .inr (by rw[j]; exact zA4 _)⟩
structure Grow (N:Nat) (X:aa) (u:go) (rvs:List go) (g:List (List Ce)):Prop where
 at_:cz X 56 1 u rvs g.length
 row:∀(i:Nat)(rv:go)(l:List Ce),rvs[i]?=a9 rv->g[i]?=a9 l->fH N X rv l
 nd:(rvs.flatMap ae).Nodup
 apart:∀ n∈ae u,N<=n/\n∉rvs.flatMap ae
 sc:aT X.next rvs=bv
section
variable{N:Nat}{X Y Z:aa}{u rv:go}{rvs:List go}{g:List (List Ce)}{l:List Ce}
def Grow.nil:Grow N X (lm bi 0 0) [] []:=⟨cz.nil,fun i rv l h=>by simp at h,by simp,fun n a=>by simp[ae]at a,rfl⟩
def Grow.len(o:Grow N X u rvs g):rvs.length=g.length:=by have:=o.at_.1; omega
def Grow.ids(o:Grow N X u rvs g):∀ n∈rvs.flatMap ae,N<=n/\n<X.next/\X.get n≠none:=by intro n b;obtain⟨rv,c,b⟩:=zG3.1 b;obtain⟨i,hi⟩:=List.getElem?_of_mem c;have a:=(zF5.1 hi).1;exact (o.row i rv (g[i]'(by rw[<-o.len]; exact a)) hi (zB0 (by rw[<-o.len]; exact a))).zt n b
def Grow.of(o:Grow N X u rvs g)(a:X.next<=Y.next)(c:∀ n,n<X.next->n∈ae u++rvs.flatMap ae->Y.get n=X.get n):Grow N Y u rvs g where
 at_:=o.at_.of a fun n h=>c n (o.at_.ne n h).2 (zF8 _ h)
 row:=fun i rv l b e=>(o.row i rv l b e).of a fun n h=>c n ((o.row i rv l b e).zt n h).2.1 (zG6 _ (zG3.2 ⟨rv,zC5 b,h⟩))
 nd:=o.nd
 apart:=o.apart
 sc:=dV a _ o.sc
def Grow.push(o:Grow N X u rvs g)(m:Mod [] X Y)(O:N<=Y.next)(C:fH N Y rv l)(w:∀ n∈ae rv,X.next<=n)(z:one rv=bv)(m2:Mod (ae u) Y Z)(hx:bk Z Y.next=a9 ⟨56,bv,rvs++[rv]⟩)(A:Y.next<Z.next) :
  Grow N Z (lm (a9 ⟨Y.next,0,bi⟩) (g.length+1) (g.length+1)) (rvs++[rv]) (g++[l]):=by
 have f:(ae rv).Nodup/\aV Z.next rv=true:=by obtain⟨n,s,c,o',rfl,_,_,h⟩:=C;exact⟨by simp[ae],bd (Nat.lt_trans h A)⟩
 have F:∀ n∈ae u,n<X.next:=fun n h=>(o.at_.ne n h).2;have B:=m.next;refine⟨⟨by simp only[zB3,zI0]; have:=o.len; omega,by rw[List.all_append,o.at_.2.1]; simp[z],.inr ⟨by simp,Y.next,by simp,hx,A⟩⟩,fun i q c e r=>?_,?_,fun n j=>?_,cb (dV (zC4 B m2.next) _ o.sc) (by simp[aT,f.2])⟩
 .rcases zC0 i rvs.length with h|h
  .rw[List.getElem?_append_left h]at e;rw[List.getElem?_append_left (by rw[<-o.len]; exact h)]at r;have D:=o.row i q c e r;refine D.of (zC4 B m2.next) fun n j=>?_;have I:=(D.zt n j).2.1;rw[m2.get n lw fun J=>(o.apart n J).2 (zG3.2 ⟨q,zC5 e,j⟩),m.get n I nl]
  .rw[zG5 h]at e;rw[zG5 (by rw[<-o.len]; exact h),<-o.len]at r
   obtain⟨D,I⟩:rv=q/\l=c:=by
    cases K:i-rvs.length with
    |zero=>rw[K]at e r; exact⟨by simpa using e,by simpa using r⟩
    |succ k=>rw[K]at e; simp at e
   subst D I;exact C.of m2.next fun n j=>m2.get n (C.zt n j).2.1 fun J=>by have:=F n J; have:=w n j; omega
 .rw[List.flatMap_append,zE6];refine⟨o.nd,by simpa using f.1,fun a R b S=>?_⟩;have e:=(o.ids a R).2.1;have r:=w b (by simpa using S);omega
 .simp only[ae,zA5]at j;subst j;refine⟨O,fun h=>?_⟩;rw[List.flatMap_append]at h;rcases zB1.1 h with h|h
  .have:=(o.ids _ h).2.1; omega
  .have:=(C.zt Y.next (by simpa using h)).2.1; omega
def Grow.own(o:Grow N X u rvs g):jO N X u rvs g:=by
 refine⟨o.len,?_,o.row,o.nd⟩;have a:=o.apart;obtain⟨j,_,⟨c,rfl⟩|⟨c,n,rfl,e,b⟩⟩:=o.at_
 .exact .inl ⟨List.length_eq_zero_iff.1 c,rfl⟩
 .obtain⟨f,h⟩:=a n pm;exact .inr ⟨n,bi,_,bv,rfl,e,f,b,h⟩
end
section
variable{α β:Type}
def part(g:List α)(top bot:Nat):List α:=(g.take (bot+1)).drop top
def yk(up:Bool)(q f:List α)(n:Nat):List α:=if up then q.drop n++f else f++q.take (q.length-n)
def glue(up:Bool)(g f:List α)(top bot n:Nat):List α:=g.take top++yk up (part g top bot) f n++g.drop (bot+1)
theorem Cy(W:Nat)(g:List (List Ce))(top bot n:Nat)(up:Bool):nW W g top bot n up=glue up g (List.replicate n (List.replicate W Ce.sp)) top bot n:=rfl
def IJ(g:List α){top bot:Nat}(h:top<=bot+1):g=g.take top++part g top bot++g.drop (bot+1):=by
 have a:g.take top=(g.take (bot+1)).take top:=by rw[List.take_take,zH0 h]
 rw[part,a,zG9,zG9]
def Ao{g:List α}{top bot:Nat}(h:bot<g.length):(part g top bot).length=bot+1-top:=by simp only[part,zC6,zD9]; omega
def L5{up:Bool}{q f:List α}{n:Nat}(a:n<=q.length)(b:f.length=n):(yk up q f n).length=q.length:=by
 unfold yk;cases up
 .simp; omega
 .simp; omega
def nS{up:Bool}{g f:List α}{top bot n:Nat}(e:top<=bot)(a:bot<g.length)(b:n<=bot+1-top)(c:f.length=n):(glue up g f top bot n).length=g.length:=by simp only[glue,zB3,zD9,zC6,L5 (show n<=(part g top bot).length by rw[Ao a]; exact b) c,Ao a];omega
def zZ{up:Bool}{g f:List α}{top bot n:Nat}(h:α->β):(glue up g f top bot n).map h=glue up (g.map h) (f.map h) top bot n:=by unfold glue yk part;cases up<;>simp[List.map_take,List.map_drop]
def Eo{up:Bool}{q f:List α}{n:Nat}{z:α}(h:z∈yk up q f n):z∈q\/z∈f:=by
 unfold yk at h;cases up
 .rcases zB1.1 (by simpa using h) with h|h
  .exact .inr h
  .exact .inl (zE2 h)
 .rcases zB1.1 (by simpa using h) with h|h
  .exact .inl (zE4 h)
  .exact .inr h
def uy{up:Bool}{g f:List α}{top bot n:Nat}{z:α}(h:z∈glue up g f top bot n):z∈g\/z∈f:=by
 unfold glue at h;rcases zB1.1 h with h|h
 .rcases zB1.1 h with h|h
  .exact .inl (zE2 h)
  .rcases Eo h with h|h
   .exact .inl (zE2 (zE4 h))
   .exact .inr h
 .exact .inl (zE4 h)
def Jw{up:Bool}{g f:List α}{top bot n:Nat}(i:α->List β)(h:(g.flatMap i++f.flatMap i).Nodup)(e:top<=bot+1):((glue up g f top bot n).flatMap i).Nodup:=by
 have j:(glue up g f top bot n).flatMap i=(g.take top).flatMap i++(yk up (part g top bot) f n).flatMap i++(g.drop (bot+1)).flatMap i:=by simp only[glue,List.flatMap_append]
 rw[j]
 have k:g.flatMap i=(g.take top).flatMap i++(part g top bot).flatMap i++(g.drop (bot+1)).flatMap i:=by
  conv=>lhs; rw[IJ g e]
  simp only[List.flatMap_append]
 rw[k]at h
 generalize (g.take top).flatMap i=A at *
 generalize (g.drop (bot+1)).flatMap i=B at *
 generalize part g top bot=q at *
 have a:∀ D:List β,D.Sublist (q.flatMap i)->(A++D++B++f.flatMap i).Nodup:=fun D b =>
  h.sublist ((((List.Sublist.refl A).append b).append (List.Sublist.refl B)).append (List.Sublist.refl _))
 unfold yk
 cases up with
 |true =>
  simp only[if_true,List.flatMap_append]
  have b:((q.drop n).flatMap i).Sublist (q.flatMap i):=by
   conv=>rhs; rw[<-zG9 n q,List.flatMap_append]
   exact List.sublist_append_right _ _
  have c:=a _ b;refine (List.Perm.nodup_iff ?_).2 c;simp only[zC8];exact List.Perm.append_left _ (List.Perm.append_left _ List.perm_append_comm)
 |false =>
  simp only[zD2,if_false,List.flatMap_append]
  have b:((q.take (q.length-n)).flatMap i).Sublist (q.flatMap i):=by
   conv=>rhs; rw[<-zG9 (q.length-n) q,List.flatMap_append]
   exact List.sublist_append_left _ _
  have c:=a _ b;refine (List.Perm.nodup_iff ?_).2 c;simp only[zC8];refine List.Perm.append_left _ ?_;rw[<-zC8 ((q.take (q.length-n)).flatMap i)];exact List.perm_append_comm
end
def jO.glue{N:Nat}{H X Y:aa}{v u:go}{rvs f:List go}{g j:List (List Ce)}(o:jO N H v rvs g)(gr:Grow H.next X u f j)(m:Mod [] H X)(m2:Mod (ae u) X Y){up:Bool}{top bot n y:Nat}
  (hN:N<=H.next) (F:top<=bot) (S:bot<g.length) (I:n<=bot+1-top) (U:j.length=n) (V:bk Y y=a9 ⟨56,bv,Go.Proofs.YtpohjcacnkhnkaaGreatDoor.glue up rvs f top bot n⟩) (hyl:X.next<=y) (J:y<Y.next) :
  jO N Y (lm (a9 ⟨y,0,bi⟩) g.length g.length) (Go.Proofs.YtpohjcacnkhnkaaGreatDoor.glue up rvs f top bot n) (Go.Proofs.YtpohjcacnkhnkaaGreatDoor.glue up g j top bot n):=by
 have K:rvs.length=g.length:=o.len;have hlf:f.length=j.length:=gr.len
 have w:∀ z∈Go.Proofs.YtpohjcacnkhnkaaGreatDoor.glue up (rvs.zip g) (f.zip j) top bot n,fH N Y z.1 z.2/\z.1∈Go.Proofs.YtpohjcacnkhnkaaGreatDoor.glue up rvs f top bot n:=fun z B=>by
  have hm:z.1∈Go.Proofs.YtpohjcacnkhnkaaGreatDoor.glue up rvs f top bot n:=by
   have:(Go.Proofs.YtpohjcacnkhnkaaGreatDoor.glue up (rvs.zip g) (f.zip j) top bot n).map Prod.fst=Go.Proofs.YtpohjcacnkhnkaaGreatDoor.glue up rvs f top bot n:=by rw[zZ,List.map_fst_zip lw,List.map_fst_zip lw]
   rw[<-this];exact List.mem_map_of_mem B
  refine⟨?_,hm⟩;rcases uy B with h|h
  .obtain⟨i,hi⟩:=List.getElem?_of_mem h;rw[List.getElem?_zip_eq_some]at hi;have r:=o.row i _ _ hi.1 hi.2;refine r.of (zC4 m.next m2.next) fun q k=>?_;have C:=r.zt q k;rw[m2.get q (by have:=m.next; omega) (fun h6=>by have:=(gr.apart q h6).1; omega),m.get q C.2.1 nl]
  .obtain⟨i,hi⟩:=List.getElem?_of_mem h;rw[List.getElem?_zip_eq_some]at hi;have r:=gr.row i _ _ hi.1 hi.2;obtain⟨q,s,c,oo,e,O,hq1,R⟩:=r.of m2.next fun q k=>m2.get q (r.zt q k).2.1 fun h6=>(gr.apart q h6).2 (zG3.2 ⟨_,zC5 hi.1,k⟩);exact⟨q,s,c,oo,e,O,by omega,R⟩
 have A:∀ q∈(Go.Proofs.YtpohjcacnkhnkaaGreatDoor.glue up rvs f top bot n).flatMap ae,q<X.next:=fun q k=>by
  obtain⟨rv,r,C⟩:=zG3.1 k;rcases uy r with h6|h6
  .have:=(o.ids q (zG3.2 ⟨rv,h6,C⟩)).2.1; have:=m.next; omega
  .exact (gr.ids q (zG3.2 ⟨rv,h6,C⟩)).2.1
 refine⟨?_,?_,?_,?_⟩
 .rw[nS F lw I lw,nS F S I U,K]
 .refine .inr ⟨y,bi,g.length,bv,?_,V,by have:=m.next; omega,J,fun h=>by have:=A y h; omega⟩;rw[nS F S I U]
 .intro i rv l hi D
  have B:(Go.Proofs.YtpohjcacnkhnkaaGreatDoor.glue up (rvs.zip g) (f.zip j) top bot n)[i]?=a9 (rv,l):=by
   have e1:(Go.Proofs.YtpohjcacnkhnkaaGreatDoor.glue up (rvs.zip g) (f.zip j) top bot n).map Prod.fst=Go.Proofs.YtpohjcacnkhnkaaGreatDoor.glue up rvs f top bot n:=by rw[zZ,List.map_fst_zip lw,List.map_fst_zip lw]
   have e2:(Go.Proofs.YtpohjcacnkhnkaaGreatDoor.glue up (rvs.zip g) (f.zip j) top bot n).map Prod.snd=Go.Proofs.YtpohjcacnkhnkaaGreatDoor.glue up g j top bot n:=by rw[zZ,List.map_snd_zip lw,List.map_snd_zip lw]
   rw[<-e1,zG0]at hi;rw[<-e2,zG0]at D
   cases k:(Go.Proofs.YtpohjcacnkhnkaaGreatDoor.glue up (rvs.zip g) (f.zip j) top bot n)[i]? with
   |none=>rw[k]at hi; cases hi
   |some z =>rw[k]at hi D;simp only[zB2,i8]at hi D;rw[<-hi,<-D]
  exact (w _ (zC5 B)).1
 .refine Jw ae ?_ lw;rw[zE6];refine⟨o.nd,gr.nd,fun a ha b O e=>?_⟩;have:=(o.ids a ha).2.1;have:=(gr.ids b O).1;omega
def St.text(W:Nat)(r:Option (List Int))(x:St):Option St:=match r with
 |none=>bi
 |some l=>if St.fits W l x.col=bv then
   a9 {x with aj:=x.aj.set x.row.toNat (gz x.b7 l (x.aj.getD x.row.toNat []) x.col.toNat).1,col:=((gz x.b7 l (x.aj.getD x.row.toNat []) x.col.toNat).2:Nat)}
  else bi
def rm{W:Nat}{c:Int}{l:List Int}{n:Int}(h:St.fits W (c::l) n=bv):aP c≠0/\n+aP c<=W/\St.fits W l (n+aP c)=true:=by
 rw[St.fits]at h;split at h
 .cases h
 .rename_i a;simp only[zH5,decide_eq_true_eq,not_or,Int.not_lt]at a;exact⟨a.1,a.2,h⟩
def Po(b7:Lk)(l:List Ce)(k:Nat)(c:Int):(tL b7 l k c).length=l.length:=by unfold tL;split<;>simp[tz]
set_option maxRecDepth 100000
abbrev yi:DataW Unit:=Rows.laid_unicode_utf8_first
abbrev uc:DataW Unit:=Rows.laid_unicode_utf8_acceptRanges
def Od(H:aa):Prop:=∃ a b,bk H 0=a9 ⟨a,ci,dc yi⟩/\bk H 1=a9 ⟨b,ci,dc uc⟩
def Od.of{H G:aa}(t:Od H)(c:G.get 0=H.get 0)(e:G.get 1=H.get 1):Od G:=by obtain⟨f,h,a,b⟩:=t;exact⟨f,h,(bg c).trans a,(bg e).trans b⟩
def Wv:Go.Shelf.Ren:=⟨fun n=>if n=196 then 124 else if n=259 then 155 else 0,fun n=>if n=46 then 138 else if n=53 then 173 else if n=119 then 148 else if n=138 then 150 else if n=139 then 151 else n,fun n=>n-3⟩
def VT:Go.Proofs.Lays.n196 Tryz.prog Wv:=by
 constructor
 all_goals first
  |exact mixed
  |kernel_rfl
  |(intro w; kernel_rfl)
def PT:dc yi=(List.range 256).map fun c=>Value.int .u8 ((Go.Lib.firstT c:Nat):Int):=by kernel_rfl
def Qr:dc uc=(List.range 16).flatMap fun i=>[Value.int .u8 ((Go.Lib.accLo i:Nat):Int),Value.int .u8 ((Go.Lib.accHi i:Nat):Int)]:=by kernel_rfl
def CS{f g:Nat->go}:∀(n k i:Nat),i<n->(((List.range' k n).flatMap fun j=>[f j,g j])[2*i]?=a9 (f (k+i))/\((List.range' k n).flatMap fun j=>[f j,g j])[2*i+1]?=a9 (g (k+i)))
 |0,_,_,h=>absurd h lw
 |n+1,k,0,_=>by rw[List.range'_succ]; exact⟨rfl,rfl⟩
 |n+1,k,i+1,h=>by rw[List.range'_succ];have:=CS (f:=f) (g:=g) n (k+1) i lw;rw[show k+1+i=k+(i+1) by omega]at this;exact this
def IW{ρ:Go.Ax.Ren}{H:aa}{w:i6}(r:Rel Tryz.prog ρ H w)(t:Od H):Go.Lib.Utf8Tabs 0 1 w:=by
 obtain⟨n,o,a,b⟩:=t;obtain⟨s,e,h⟩:=qX r (show 0<Tryz.prog.globals.size by decide +kernel) a m9;obtain⟨c2,j,k⟩:=qX r (show 1<Tryz.prog.globals.size by decide +kernel) b m9;refine⟨fun c m=>?_,fun i hi=>?_⟩
 .simp only[World.cell?,e];rw[<-Array.getElem?_toList,h,PT,zG0,List.getElem?_range m];rfl
 .have:=CS (f:=fun i=>Value.int .u8 ((Go.Lib.accLo i:Nat):Int)) (g:=fun i=>Value.int .u8 ((Go.Lib.accHi i:Nat):Int)) 16 0 i hi;rw[zC2]at this;simp only[World.cell?,j];rw[<-Array.getElem?_toList,<-Array.getElem?_toList,k,Qr,List.range_eq_range'];exact⟨by simpa using this.1,by simpa using this.2⟩
def BB(H:aa)(t:Od H)(s:ByteArray)(a:s.size<=9223372036854775807):Pure 124 [.string s] H (ls (Go.Lib.validD s.data.toList)):=by intro ρ w r b F n R c f;have h:=Go.Proofs.Any.utf8_ValidString VT s w a (IW r t);have j:[Value.string s].map ρ.val=[Value.string s]:=vM ρ _ (fun x hx=>by simp only[zA5]at hx; subst hx; rfl);rw[j];refine (c.calls h).mono ?_;rintro e w' ⟨rfl,k⟩;have:=f ρ w' (St.below r k) rfl;rwa [dM ρ _ rfl]at this
def S3(H:aa)(t:Od H)(s:ByteArray)(a:s.size<=9223372036854775807):Pure 89 [.string s] H (ls (Go.Lib.validD s.data.toList)):=by refine bA mixed Tryz.func89 rfl Tryz.ntmps89 (zA7 rfl) fun wf b=>?_;simp only[zW,seval];refine (BB (ext H []) t s a).to ?_;simp only[Tryz.results89,zW,seval];exact Fin.cf rfl rfl
def Ij(l:List UInt8)(i:Nat):tl l i=bv ↔ (i<l.length/\(l.getD i 0).toNat / 64=2):=by
 constructor
 .intro a;have h:=xz a;unfold bt at h;omega
 .intro a;simp only[tl,zA6,decide_eq_true_eq];unfold bt;omega
def P9(l:List UInt8)(h:0<l.length):((rV l).2=0/\(Go.Lib.decodeL l).1=65533/\(Go.Lib.decodeL l).2=1) \/
  ((rV l).2≠0/\(rV l).1=((Go.Lib.decodeL l).1:Int)/\(rV l).2=((Go.Lib.decodeL l).2:Int)/\¬((Go.Lib.decodeL l).1=65533/\(Go.Lib.decodeL l).2=1)):=by
 rw[Go.Lib.decodeL_N];have A:=(l.getD 0 0).toNat_lt;have B:=(l.getD 1 0).toNat_lt;have r2:=(l.getD 2 0).toNat_lt;have C:=(l.getD 3 0).toNat_lt;have j:=Ij l 1;have m:=Ij l 2;have s:=Ij l 3;unfold rV oA Go.Lib.decodeN;simp only[Bool.cond_eq_ite,zA6,Bool.not_eq_true',decide_eq_true_eq,Bool.and_eq_false_iff,decide_eq_false_iff_not];rw[show bt l 0=((l.getD 0 0).toNat:Int) from rfl,show bt l 1=((l.getD 1 0).toNat:Int) from rfl,show bt l 2=((l.getD 2 0).toNat:Int) from rfl,show bt l 3=((l.getD 3 0).toNat:Int) from rfl]
 generalize (l.getD 0 0).toNat=a at *
 generalize (l.getD 1 0).toNat=b1 at *
 generalize (l.getD 2 0).toNat=b2 at *
 generalize (l.getD 3 0).toNat=b3 at *
 generalize tl l 1=c1 at *
 generalize tl l 2=c2 at *
 generalize tl l 3=c3 at *
 generalize l.length=n at *
 by_cases f:a<128
 .rw[if_pos lw,if_pos f];dsimp only;omega
 rw[if_neg lw];by_cases D:194<=a/\a<224
 .by_cases c:c1=bv
  .have k:=j.1 c;rw[if_pos ⟨⟨by omega,by omega⟩,c⟩,if_neg f,if_pos ⟨by omega,k⟩,if_pos lw];dsimp only;omega
  .rw[if_neg (fun b=>c b.2),if_neg (by intro b; omega),if_neg (by intro b; omega),if_neg f,if_neg (fun b=>c (j.2 b.2)),if_neg lw,if_neg lw];dsimp only;omega
 rw[if_neg (by intro b; omega)];by_cases F:224<=a/\a<240
 .by_cases c:c1=bv/\c2=bv
  .have k:=j.1 c.1;have o:=m.1 c.2;rw[if_pos ⟨⟨⟨by omega,by omega⟩,c.1⟩,c.2⟩,if_neg f,if_neg (show ¬(a / 32=6/\(1<n/\b1 / 64=2)) by omega),if_pos (show (a / 16=14/\(1<n/\b1 / 64=2)/\(2<n/\b2 / 64=2)) from⟨by omega,k,o⟩)];have e:((a:Int)-224)*64+b1-128=(((a-224)*64+(b1-128):Nat):Int):=by omega
   have r:((((a-224)*64+(b1-128):Nat):Int))*64+b2-128=((a % 16*4096+b1 % 64*64+b2 % 64:Nat):Int):=by omega
   rw[e,r];generalize a % 16*4096+b1 % 64*64+b2 % 64=z;by_cases e:z ≥ 2048/\(z<55296\/57344<=z/\z<=1114111)
   .rw[if_pos lw,if_pos e];dsimp only;omega
   .rw[if_neg lw,if_neg e];dsimp only;omega
  .rw[if_neg (fun b=>c ⟨b.1.2,b.2⟩),if_neg (by intro b; omega),if_neg f,if_neg (show ¬(a / 32=6/\(1<n/\b1 / 64=2)) by omega),if_neg (show ¬(a / 16=14/\(1<n/\b1 / 64=2)/\(2<n/\b2 / 64=2)) from fun b=>c ⟨j.2 b.2.1,m.2 b.2.2⟩),if_neg (show ¬(a / 8=30/\(1<n/\b1 / 64=2)/\(2<n/\b2 / 64=2)/\(3<n/\b3 / 64=2)) by omega)];dsimp only;omega
 rw[if_neg (by intro b; omega)];by_cases I:240<=a/\a<245
 .by_cases c:c1=bv/\c2=bv/\c3=bv
  .have k:=j.1 c.1;have o:=m.1 c.2.1;have w:=s.1 c.2.2;rw[if_pos ⟨⟨⟨⟨by omega,by omega⟩,c.1⟩,c.2.1⟩,c.2.2⟩,if_neg f,if_neg (show ¬(a / 32=6/\(1<n/\b1 / 64=2)) by omega),if_neg (show ¬(a / 16=14/\(1<n/\b1 / 64=2)/\(2<n/\b2 / 64=2)) by omega),if_pos (show (a / 8=30/\(1<n/\b1 / 64=2)/\(2<n/\b2 / 64=2)/\(3<n/\b3 / 64=2)) from⟨by omega,k,o,w⟩)];have e:((a:Int)-240)*64+b1-128=(((a-240)*64+(b1-128):Nat):Int):=by omega
   have r:((((a-240)*64+(b1-128):Nat):Int))*64+b2-128=(((a-240)*4096+(b1-128)*64+(b2-128):Nat):Int):=by omega
   have hx:((((a-240)*4096+(b1-128)*64+(b2-128):Nat):Int))*64+b3-128=((a % 8*262144+b1 % 64*4096+b2 % 64*64+b3 % 64:Nat):Int):=by omega
   rw[e,r,hx];generalize a % 8*262144+b1 % 64*4096+b2 % 64*64+b3 % 64=z;by_cases e:z ≥ 65536/\(z<55296\/57344<=z/\z<=1114111)
   .rw[if_pos lw,if_pos e];dsimp only;omega
   .rw[if_neg lw,if_neg e];dsimp only;omega
  .rw[if_neg (fun b=>c ⟨b.1.1.2,b.1.2,b.2⟩),if_neg f,if_neg (show ¬(a / 32=6/\(1<n/\b1 / 64=2)) by omega),if_neg (show ¬(a / 16=14/\(1<n/\b1 / 64=2)/\(2<n/\b2 / 64=2)) by omega),if_neg (show ¬(a / 8=30/\(1<n/\b1 / 64=2)/\(2<n/\b2 / 64=2)/\(3<n/\b3 / 64=2)) from fun b=>c ⟨j.2 b.2.1,m.2 b.2.2.1,s.2 b.2.2.2⟩)];dsimp only;omega
 rw[if_neg (by intro b; omega),if_neg f]
 repeat' split
 all_goals (dsimp only; omega)
def C8:∀(n:Nat)(l:List UInt8),l.length<=n->Go.Lib.validD l=(ei l).isSome
 |0,l,h=>by have:l=[]:=zE5 lw;subst this;rfl
 |n+1,l,h=>by
  by_cases a:0<l.length
  .have cn:l≠[]:=fun e=>by rw[e]at a; simp at a
   rw[Go.Lib.validD_step l cn,n6 l a];have k:=ri l a
   rcases P9 l a with⟨b,c,f⟩|⟨b,c,f,j⟩
   .rw[if_pos ⟨c,f⟩,if_pos b];rfl
   .rw[if_neg j,if_neg b,Option.isSome_map];have e:(Go.Lib.decodeL l).2=(rV l).2.toNat:=by omega
    rw[e];exact C8 n _ (by rw[zC6]; omega)
  .have:l=[]:=zE5 lw;subst this;rfl
def St.Ok.setRow{x:St}{W i:Nat}{l:List Ce}(ok:x.Ok W)(a:l.length=W):(x.setRow i l).Ok W:=by
 refine⟨?_,?_,ok.w1,ok.w2,?_,ok.row0,?_,ok.col0,ok.col1⟩
 .simp only[St.setRow,List.length_set]; exact ok.h1
 .simp only[St.setRow,List.length_set]; exact ok.h2
 .intro q b;rcases List.mem_or_eq_of_mem_set b with h|h
  .exact ok.wid q h
  .rw[h]; exact a
 .simp only[St.setRow,List.length_set]; exact ok.row1
def St.clear(W:Nat)(x:St):Option St:=if x.col<W then a9 {x with aj:=x.aj.set x.row.toNat (iy (x.aj.getD x.row.toNat []) x.col.toNat (W-x.col.toNat))} else bi
end Go.Proofs.YtpohjcacnkhnkaaGreatDoor
namespace Go.Ax
section
variable{P:ip}{H:aa}{N:Nat}{E:Env}{ds:List Deferred}{ops:Array Oper}{anc:List Nat}{d:Nat}{ty:io}{pos:String}{after:Array Edge}{rest:List Oper}{i:Nat}{fps:List Fp}{Q:ah -> aa -> Prop}
def NW{f:FuncId}{x:i7}{args:List i7}{ts:Array io}{v:go}{M:List Bl}{ca:List go}(F:List Nat)(hx:bj P N x=bv)(a:cy E x=.func (.func f) ⟨[]⟩ ⟨ca⟩)(b:args.all (bj P N)=bv)(c:aD P f=bv)(e:d<N)(j:∀ n∈F,H.get n≠bi)
  (k:∀ G:aa,G.next=H.next->(∀ n∈F,G.get n=H.get n)->bD P f (args.map (cy E)++ca) G (.ok v) (ext G M)) (m:∀ r∈fps,cL (anc.getD i 0) F [] (ae v++M.flatMap fun x=>ir x.l) r)
  (h:fO P ops anc rest (i+1) (⟨i,F,[],H.next,H.next+M.length⟩::fps) (bu N (cH E d v) ds) (ext H M) Q):oz P ops anc ⟨a9 d,.call ⟨.value x,⟨args⟩,ts⟩,ty,pos,after,bi⟩ rest i fps (bu N E ds) H Q :=
 ve (v:=v) (M:=M) F rfl e j (fun G o s=>by
  refine gD (x:=.enter f (args.map (cy E)++ca)) (g:=G) ?_ (k G o s)
  simp only[cE,kH,cD b,aH hx,a,zA1,zA3,pA,fe,jh,c,if_true,zB6,zB2]) m h
def kt{t:io}{x:i7}{lo hi a:Option i7}{v:go}(F:List Nat)(hx:bj P N x=bv)(b:jr P N lo=bv)(c:jr P N hi=bv)(e:jr P N a=bv)(f:d<N)(j:∀ n∈F,H.get n≠bi)
  (k:∀ G:aa,(∀ n∈F,G.get n=H.get n)->bX P G t (cy E x) (sG E lo) (sG E hi) (sG E a)=a9 (v,G)) (m:∀ r∈fps,cL (anc.getD i 0) F [] (ae v++([]:List Bl).flatMap fun x=>ir x.l) r)
  (h:fO P ops anc rest (i+1) (⟨i,F,[],H.next,H.next⟩::fps) (bu N (cH E d v) ds) (ext H []) Q):oz P ops anc ⟨a9 d,.slice t x lo hi a,ty,pos,after,bi⟩ rest i fps (bu N E ds) H Q :=
 ve (v:=v) (M:=[]) F rfl f j (fun G _ o=>gD (x:=.value v) (g:=G) (vH hx b c e (k G o)) ⟨rfl,rfl⟩) m h
end
end Go.Ax
namespace Go.Proofs.YtpohjcacnkhnkaaGreatDoor
open Go.Ax
def MQ(H:aa)(w:Nat)(e:1<=w)(f:w<=1000):bD Tryz.prog 36 [jp kw (w:Int)] H (.ok (lm (a9 ⟨H.next,0,a9 0⟩) w w)) (ext H [⟨77,ci,a8 (List.replicate w Ce.sp)⟩]):=by obtain⟨b,a⟩:=ac H.next;refine j8 (fun wf h=>?_) (fun _ _=>kj _ _);have c:H.base<=H.next:=wf.base;refine aI mixed Tryz.func36 rfl Tryz.ntmps36 (zA7 rfl) ?_;simp only[a,zW,seval];refine (AR w e f Ce.sp (b+0) (a9 0) (ext H [⟨77,ci,Ce.sp.cells⟩]) (by rw[aZ a nl]; rfl)).to ?_;simp only[a,Tryz.results36,zW,seval];exact⟨b+1,rfl,by omega,by rw[aZ a nl]; rfl,Mod.ext c⟩
def jM{N:Nat}{L M:List go}(h:aT N L=bv)(a:∀ v∈M,v∈L):aT N M=true:=ck.2 fun v b=>ck.1 h v (a v b)
def one_sub{L M:List go}(h:L.all one=bv)(a:∀ v∈M,v∈L):M.all one=true:=zC3.2 fun v b=>zC3.1 h v (a v b)
def TF(H:aa)(a b:go)(c e:List go)(n x:Nat)(hx:H.next=x)(k:Part H a c)(m:Part H b e)(o:c.all one=bv)(r:e.all one=bv)(s:aT H.next c=bv)(s2:aT H.next e=bv)(w:(c++e).length=n)(z:0<n)(f:n<=10000) :
  bD Tryz.prog 135 [lm (a9 ⟨x+0,0,a9 0⟩) 2 2] (ext H [⟨39,ci,[a,b]⟩]) (.ok (lm (a9 ⟨x+1,0,bi⟩) n n)) (ext H [⟨39,ci,[a,b]⟩,⟨56,bv,c++e⟩]):=by
 have h:(ext H [⟨39,ci,[a,b]⟩]).next=x+1:=by rw[ai,hx]; rfl
 have:=GL (ext H [⟨39,ci,[a,b]⟩]) (x+0) (a9 0) 2 39 ci [(a,c),(b,e)] n (by rw[aZ hx nl]; rfl) lw (fun q j=>?_) (by simpa using w) z f nl
 .rw[h]at this;simpa[j0]using this
 .have le:H.next<=(ext H [⟨39,ci,[a,b]⟩]).next:=by omega
  simp only[zA8,zD7,or_false]at j;rcases j with rfl|rfl
  .exact⟨k.ext,o,dV le _ s⟩
  .exact⟨m.ext,r,dV le _ s2⟩
def Nx(H:aa)(C s:go)(a c:List go)(b:Nat)(o:Op)(J:Part H C a)(z:Part H s c)(K:a.all one=bv)(O:c.all one=bv)(D:aT H.next a=bv)(s2:aT H.next c=bv)(R:bk H b=a9 ⟨58,ci,o.cells⟩)(h:b<H.next)
  (k:Nat) (S:o.n=(k:Int)) (U:0<k) (f:k<=a.length) (V:c.length=k) (hl:a.length<=1000) :
  bD Tryz.prog 134 [C,s,li (a9 ⟨b,0,bi⟩)] H (.ok (lm (a9 ⟨H.next,0,bi⟩) a.length a.length)) (ext H [⟨56,bv,yk bv a c k⟩]):=by
 obtain⟨x,hx⟩:=ac H.next;obtain⟨F,A,w,_⟩:=J.slice (by intro e; rw[e]at f; simp at f; omega) (x:=a9 (jp kw (k:Int))) (y:=bi) (lo:=k) (hi:=a.length) rc rfl f (zA4 _);rw[zH2]at w;have I:yk bv a c k=[(F,a.drop k),(s,c)].flatMap Prod.snd:=by simp[yk]
 refine j8 (fun wf hsc=>?_) (fun _ _=>?_)
 .rw[hx];rw[hx]at h;have B:H.base<=H.next:=wf.base;have j:=w.sc;have m:=z.sc;have tw:=TF H F s (a.drop k) c a.length x hx w z (one_sub K fun v r=>zE4 r) O (jM D fun v r=>zE4 r) s2 (by simp only[zB3,zC6]; omega) lw lw;rw[hx]at j m;obtain⟨a3,c3,e3⟩:=w.len;obtain⟨a2,c2,e2⟩:=z.len;subst e3 e2;refine aI mixed Tryz.func134 rfl Tryz.ntmps134 (zA7 rfl) ?_;simp only[hx,h,R,Op.cells,S,A (ext H []) (fun _ _=>rfl),j,m,zW,seval];refine tw.to ?_;simp only[Tryz.results134,zW,seval];exact⟨x+1,rfl,by omega,by rw[aZ hx nl]; rfl,Mod.ext B⟩
 .exact cb (jM D fun v r=>zE4 r) s2
def MP(H:aa)(D s:go)(a c:List go)(b:Nat)(o:Op)(F:Part H D a)(z:Part H s c)(O:a.all one=bv)(R:c.all one=bv)(I:aT H.next a=bv)(s2:aT H.next c=bv)(S:bk H b=a9 ⟨58,ci,o.cells⟩)(f:b<H.next)
  (k:Nat) (U:o.n=(k:Int)) (V:0<k) (h:k<=a.length) (h2l:c.length=k) (hl:a.length<=1000) :
  bD Tryz.prog 136 [D,s,li (a9 ⟨b,0,bi⟩)] H (.ok (lm (a9 ⟨H.next,0,bi⟩) a.length a.length)) (ext H [⟨56,bv,yk ci a c k⟩]):=by
 obtain⟨x,hx⟩:=ac H.next;obtain⟨J,A,w,_⟩:=F.slice (by intro e; rw[e]at h; simp at h; omega) (x:=bi) (y:=a9 (jp kw ((a.length-k:Nat):Int))) (lo:=0) (hi:=a.length-k) rfl (by simp only[bound]; rw[if_pos lw]; simp) (zB7 _) lw;rw[zD0]at w;have B:IntKind.i64.wrap ((a.length:Int)-(k:Int))=((a.length-k:Nat):Int):=(aR lw lw).trans lw;have K:yk ci a c k=[(s,c),(J,a.take (a.length-k))].flatMap Prod.snd:=by simp[yk]
 refine j8 (fun wf hsc=>?_) (fun _ _=>?_)
 .rw[hx];rw[hx]at f;have C:H.base<=H.next:=wf.base;have j:=w.sc;have m:=z.sc;have tw:=TF H s J c (a.take (a.length-k)) a.length x hx z w R (one_sub O fun v r=>zE2 r) s2 (jM I fun v r=>zE2 r) (by simp only[zB3,zD9]; omega) lw lw;rw[hx]at j m;obtain⟨a1,c1,e1⟩:=F.len;obtain⟨a3,c3,e3⟩:=w.len;obtain⟨a2,c2,e2⟩:=z.len;subst e1 e3 e2;refine aI mixed Tryz.func136 rfl Tryz.ntmps136 (zA7 rfl) ?_;simp only[hx,f,S,Op.cells,U,B,A (ext H []) (fun _ _=>rfl),j,m,zW,seval];refine tw.to ?_;simp only[Tryz.results136,zW,seval];exact⟨x+1,rfl,by omega,by rw[aZ hx nl]; rfl,Mod.ext C⟩
 .exact cb s2 (jM I fun v r=>zE2 r)
def St.fA(W:Nat)(x:St)(o:Op)(up:Bool):Option St :=
 if (f7 (0<=o.row)&&f7 (o.row<=o.col)&&f7 (o.col<x.aj.length)&&f7 (1<=o.n)&&f7 (o.n<=o.col-o.row+1))=bv then
   a9 {x with aj:=nW W x.aj o.row.toNat o.col.toNat o.n.toNat up} else bi
def B8(N:Nat)(H:aa)(p W:Nat)(v:go)(rvs:List go)(x:St)(o:Op)(up:Bool)(f S:Nat)(hb:aD Tryz.prog f=bv)(a:iT 83 N H p v rvs x)(sl:RE v)(hok:H.base<=H.next)(ok:x.Ok W)
  (ho:bk H S=a9 ⟨58,ci,o.cells⟩) (hob:S<H.next)
  (hf:∀(G:aa)(u1 u2:go)(L1 L2:List go),Part G u1 L1->Part G u2 L2->L1.all one=bv->L2.all one=bv->aT G.next L1=bv->aT G.next L2=bv->bk G S=a9 ⟨58,ci,o.cells⟩->S<G.next ->
   ∀ k:Nat,o.n=(k:Int)->0<k->k<=L1.length->L2.length=k->L1.length<=1000->bD Tryz.prog f [u1,u2,li (a9 ⟨S,0,bi⟩)] G (.ok (lm (a9 ⟨G.next,0,bi⟩) L1.length L1.length)) (ext G [⟨56,bv,yk up L1 L2 k⟩])) :
  bF Tryz.prog 133 [li (a9 ⟨p,0,bi⟩),o.val,.func (.func f) ⟨[]⟩ ⟨[li (a9 ⟨S,0,bi⟩)]⟩] H (F7 83 N p (x.fA W o up) H):=by
 obtain⟨b,B⟩:=ac H.next;have hpl:=a.lt;rw[B]at hpl hob;have A:=a.cell;simp only[St.cells]at A;have m0:Mod [] H (ext H [⟨58,ci,o.cells⟩]):=Mod.ext hok;have aX:=a.df m0
 obtain⟨d1,h1⟩:∃ d,f7 (0<=o.row)=d:=⟨_,rfl⟩
 obtain⟨d2,h2⟩:∃ d,f7 (o.row<=o.col)=d:=⟨_,rfl⟩
 obtain⟨d3,h3⟩:∃ d,f7 (o.col<x.aj.length)=d:=⟨_,rfl⟩
 obtain⟨d4,h4⟩:∃ d,f7 (1<=o.n)=d:=⟨_,rfl⟩
 obtain⟨d5,h5⟩:∃ d,f7 (o.n<=o.col-o.row+1)=d:=⟨_,rfl⟩
 obtain⟨C,hb',ev⟩:=id sl
 have ehb:hb'=x.aj.length:=by
  rcases aX.own.at_ with⟨h,_⟩|⟨_,_,_,_,h,_⟩
  .have:=ok.h1; rw[h]at this; simp at this
  .rw[ev]at h; cases h; rfl
 subst ehb;unfold St.fA;rw[h1,h2,h3,h4,h5];refine aI mixed Tryz.func133 rfl Tryz.ntmps133 (zA7 rfl) ?_;simp only[Op.val,Op.cells,B,zW,seval];by_cases V:(d1&&d2&&d3&&d4&&d5)=bv
 .rw[if_pos V];simp only[zA6]at V;obtain⟨⟨⟨⟨rfl,rfl⟩,rfl⟩,rfl⟩,rfl⟩:=V;have i1:=of_decide_eq_true h1;have i2:=of_decide_eq_true h2;have i3:=of_decide_eq_true h3;have i4:=of_decide_eq_true h4;have i5:=of_decide_eq_true h5;have hh:=ok.h2;have hw1:IntKind.i64.wrap (o.col-o.row)=o.col-o.row:=aR lw lw;have hw2:IntKind.i64.wrap (o.col-o.row+1)=o.col-o.row+1:=aR lw lw;rw[ev]at A;refine aQ [] [(3,10),(10,17),(21,28),(26,33)] m9 rfl m9 fun ops anc hA w=>?_;simp only[aw]at w;simp only[B,hpl,A,h1,h2,h3,h4,h5,hw1,hw2,w,bS,zW,seval];refine bI (v:=.tuple ⟨[]⟩) [] rfl rfl (zA7 rfl) nl (fun G hn hg=>LR G) qr ?_;simp only[B,bS,zW,seval];refine da fun E hE=>?_;have g0:E 0=li (a9 ⟨p,0,bi⟩):=by rw[hE]; rfl
  have g2:E 2=.func (.func f) ⟨[]⟩ ⟨[li (a9 ⟨S,0,bi⟩)]⟩:=by rw[hE]; rfl
  have g4:E 4=li (a9 ⟨b+0,0,bi⟩):=by rw[hE]; rfl
  have g6:E 6=lm bi 0 0:=by rw[hE]; rfl
  have K:E 46=jp kw o.n:=by rw[hE]; rfl
  have O:E 47=jp kw ((0:Nat):Int):=by rw[hE]; rfl
  clear hE;obtain⟨X,hX⟩:=ac (ext H [⟨58,ci,o.cells⟩]);have hXo:bk X (b+0)=a9 ⟨58,ci,o.cells⟩:=by rw[<-hX,aZ B nl]; rfl
  have hXn:X.next=b+1:=by rw[<-hX,ai,B]; rfl
  have hXb:bk X S=a9 ⟨58,ci,o.cells⟩:=(m0.bk lw nl).trans ho |> fun h=>by rw[<-hX]; exact h
  rw[show ext H [⟨58,ci,o.cells⟩]=X from hX]at aX m0;simp only[Op.cells]at hX;rw[hX];have okX:=m0.ok hok
  obtain⟨n,hn'⟩:∃ n:Nat,o.n=n:=⟨o.n.toNat,by omega⟩
  rw[hn']at K;refine aS (fun E' Y=>Mod [] X Y/\E' 0=li (a9 ⟨p,0,bi⟩)/\E' 2=.func (.func f) ⟨[]⟩ ⟨[li (a9 ⟨S,0,bi⟩)]⟩/\E' 4=li (a9 ⟨b+0,0,bi⟩)/\∃ u r,E' 6=u/\Grow (b+1) Y u r (List.replicate n (List.replicate W Ce.sp))) ?_ ?_
  .rw[show X=ext X [] from rfl]
   refine cp (fun (q:Nat × go × List go) E' Y=>Mod [] X Y/\E' 0=li (a9 ⟨p,0,bi⟩)/\E' 2=.func (.func f) ⟨[]⟩ ⟨[li (a9 ⟨S,0,bi⟩)]⟩/\E' 4=li (a9 ⟨b+0,0,bi⟩)/\E' 6=q.2.1/\E' 46=jp kw (n:Int)/\E' 47=jp kw (q.1:Int)/\q.1<=n/\Grow (b+1) Y q.2.1 q.2.2 (List.replicate q.1 (List.replicate W Ce.sp))) (fun q=>n-q.1) (0,lm bi 0 0,[])
    ⟨Mod.refl,g0,g2,g4,g6,K,O,zB7 _,Grow.nil⟩ ?_
   clear g0 g2 g4 g6 K O;rintro⟨k,u,r⟩ E Y ⟨mY,g0,g2,g4,g6,K,O,hk,gr⟩;simp only at g6 O hk gr;rw[show Y=ext Y [] from rfl];by_cases hkn:k=n
   .have hc:f7 ((k:Int)<(n:Int))=false:=by simp[hkn]
    simp only[K,O,hc,zW,seval];rw[hkn]at gr;exact ag ⟨mY,by simp only[g0,aF,seval],by simp only[g2,aF,seval],by simp only[g4,aF,seval],u,r,by simp only[g6,aF,seval],gr⟩
   .have hc:f7 ((k:Int)<(n:Int))=true:=decide_eq_true lw;have okY:=mY.ok okX;have aY:=aX.df mY;obtain⟨_,_,_,_,hwd⟩:=FE aY ok;have hwY:bD Tryz.prog 40 [li (a9 ⟨p,0,bi⟩)] (ext Y []) (.ok (jp kw W)) (ext Y []):=hwd Y rfl (fun _ _=>rfl);obtain⟨y,U⟩:=ac Y.next;have hby:b+1<=y:=by have:=mY.next; omega
    obtain⟨rv,D⟩:∃ rv,rv=Value.slice (a9 ⟨y+0,0,a9 0⟩) W W:=⟨_,rfl⟩
    obtain⟨Y2,hY2⟩:=ac (ext Y [⟨77,ci,a8 (List.replicate W Ce.sp)⟩,⟨56,ci,[rv]⟩]);have mY2:Mod [] Y Y2:=hY2▸Mod.ext okY;have nY2:Y2.next=y+2:=by rw[<-hY2,ai,U]; rfl
    have b1:bk Y2 (y+0)=a9 ⟨77,ci,a8 (List.replicate W Ce.sp)⟩:=by rw[<-hY2,aZ U nl]; rfl
    have b2:bk Y2 (y+1)=a9 ⟨56,ci,[rv]⟩:=by rw[<-hY2,aZ U nl]; rfl
    have hone:one rv=true:=by rw[D]; rfl
    have R:(List.replicate k (List.replicate W Ce.sp)).length=k:=zF1;have vs:=gr.at_.of (G:=Y2) mY2.next (fun q j=>mY2.get q (gr.at_.ne q j).2 nl);rw[R]at vs;have hscr:aT Y2.next (r++[rv])=true:=cb (dV mY2.next _ gr.sc) (by rw[D]; simp only[aT,aV,Bool.and_true]; exact bd lw)
    obtain⟨Z,hap,hvs,hmd,hzn,_⟩:=oO (P:=Tryz.prog) (H:=Y2) (st:=39) (xt:=39) (e:=56) (sz:=1) (by1:=24) (z:=lm bi 0 0) (n:=y+1) (off:=0) (cnt2:=1) (cap:=1) (s:=a9 0) (x:=Y2.next) (ws:=[rv]) (b:=⟨56,ci,[rv]⟩)
     Cr tY EJ zr rfl m9 vs (iq b2) nl rfl (by simp[hone]) ol (I1 lw) rfl hscr
    have mZ:=hmd (mY2.ok okY);rw[nY2]at hap hvs hzn
    have hbz:bk Z (y+2)=a9 ⟨56,bv,r++[rv]⟩:=by
     obtain⟨_,_,⟨h0,_⟩|⟨_,n,e,B,_⟩⟩:=hvs
     .omega
     .cases e; exact B
    have gr2:=gr.push (rv:=rv) (l:=List.replicate W Ce.sp) (Y:=Y2) (Z:=Z) mY2 lw ⟨y+0,ci,0,ci,by rw[D,zF1]; rfl,b1,by omega,by omega⟩ (fun q j=>by rw[D]at j; simp only[ae,zA5]at j; omega) hone mZ (by rw[nY2]; exact hbz) lw;rw[nY2,R,show List.replicate k (List.replicate W Ce.sp)++[List.replicate W Ce.sp]=List.replicate (k+1) (List.replicate W Ce.sp) from (List.replicate_succ' ..).symm]at gr2;simp only[g0,g6,K,O,hc,zW,seval];refine hwY.to ?_;simp only[zW,seval];refine (MQ (ext Y []) W ok.w1 ok.w2).to ?_;simp only[U,zW,seval];rw[D]at hY2;rw[hY2];simp only[hap,O,ba (show k<1000000 by omega),zW,seval];refine aG ⟨(k+1,lm (a9 ⟨y+2,0,bi⟩) (k+1) (k+1),r++[rv]),by simp only; omega,(mY.trans mY2).step mZ okX (fun q j=>.inr (by have:=(gr.apart q j).1; omega)),?_,?_,?_,?_,?_,?_,by simp only; omega,gr2⟩
    .exact g0
    .exact g2
    .exact g4
    .rfl
    .exact K
    .rfl
  .clear g0 g2 g4 g6 K O;rintro E Y ⟨mY,g0,g2,g4,u,r,g6,gr⟩;have okY:=mY.ok okX;have aY:=aX.df mY;obtain⟨y,U⟩:=ac Y.next;have hyb:Y.base<=y:=U▸okY;have hby:b+1<=y:=by have:=mY.next; omega
   have hpY:p<y:=by omega
   have hboY:b+0<y:=by omega
   have hb0Y:S<y:=by omega
   have kp:=aY.cell;simp only[St.cells]at kp;rw[ev]at kp;have kb:bk Y (b+0)=a9 ⟨58,ci,o.cells⟩:=(mY.bk lw nl).trans hXo;have kb0:bk Y S=a9 ⟨58,ci,o.cells⟩:=(mY.bk lw nl).trans hXb
   obtain⟨om,hbm,hmy⟩:∃ om,bk Y C=a9 ⟨56,om,rvs⟩/\C<y:=by
    rcases aY.own.at_ with⟨h,_⟩|⟨m,s,c,om,e,h1,_,h2,_⟩
    .rw[h]at i3; simp at i3; omega
    .rw[ev]at e; cases e; exact⟨om,h1,by omega⟩
   have hmp:C≠p:=fun e=>a.apart (zF8 _ (by rw[ev,e]; simp[ae]));have R:rvs.length=x.aj.length:=a.own.len
   obtain⟨top,htop⟩:∃ k:Nat,o.row=k:=⟨o.row.toNat,by omega⟩
   obtain⟨bot,hbot⟩:∃ k:Nat,o.col=k:=⟨o.col.toNat,by omega⟩
   have F:rvs.all one=true:=zC3.2 fun rv D=>by obtain⟨i,hi⟩:=List.getElem?_of_mem D;obtain⟨l,_,n,s,c,o',rfl,_⟩:=aY.own.WB hi;rfl
   have hvsc:aT Y.next rvs=true:=ck.2 fun rv D=>by obtain⟨i,hi⟩:=List.getElem?_of_mem D;obtain⟨l,_,n,s,c,o',rfl,_,_,h⟩:=aY.own.WB hi;exact bd h
   have cn:rvs≠[]:=fun e=>by rw[e]at R; simp at R; omega
   have PV:Part Y v rvs:=⟨a9 ⟨C,0,bi⟩,x.aj.length,by rw[ev,R],by rw[ev]; exact bd (show C<Y.next by omega),.inr ⟨zF6 R,C,0,bi,_,rfl,.inl rfl,hbm,by omega,by simp,by simp⟩⟩
   obtain⟨uA,slA,PA,iA⟩:=PV.slice cn (x:=bi) (y:=a9 (jp kw (top:Int))) (lo:=0) (hi:=top) rfl rc (zB7 _) lw;obtain⟨uB,slB,PB,iB⟩:=PV.slice cn (x:=a9 (jp kw (top:Int))) (y:=a9 (jp kw ((bot+1:Nat):Int))) (lo:=top) (hi:=bot+1) rc (by simp only[bound]; rw[if_pos lw]; simp) lw lw;obtain⟨uC,slC,PC,iC⟩:=PV.slice cn (x:=a9 (jp kw ((bot+1:Nat):Int))) (y:=bi) (lo:=bot+1) (hi:=rvs.length) (by simp only[bound]; rw[if_pos lw]; simp) rfl lw (zA4 _);rw[zD0]at PA;rw[zH2]at PC;rw[show (rvs.take (bot+1)).drop top=part rvs top bot from rfl]at PB;have hwb:IntKind.i64.wrap ((bot:Int)+1)=((bot+1:Nat):Int):=ba lw;rw[ev]at slA slB slC iA iB iC;have iv:ae (lm (a9 ⟨C,0,bi⟩) x.aj.length x.aj.length)=[C]:=rfl;rw[iv]at iA iB iC;have hgl:(List.replicate n (List.replicate W Ce.sp)).length=n:=zF1;obtain⟨hu1,hu2,⟨hu0,_⟩|⟨hu0,nu,eu,kbu,hnu⟩⟩:=gr.at_
   .omega
   rw[hgl]at eu hu1;subst eu
   have PU:Part Y (lm (a9 ⟨nu,0,bi⟩) n n) r:=⟨_,_,by rw[show r.length=n by omega],bd hnu,.inr ⟨by omega,nu,0,bi,_,rfl,.inl rfl,kbu,hnu,by simp,by simp⟩⟩
   have hplen:=Ao (g:=rvs) (top:=top) (bot:=bot) lw;rw[show Y=ext Y [] from rfl];refine aQ [(32,8),(32,22),(32,31),(33,32),(33,22),(37,5),(37,8),(37,14),(37,20),(37,22),(37,27),(37,31),(37,32),(37,33)] [] m9 m9 rfl fun ops anc hA w=>?_;simp only[aw]at hA;simp only[htop,hbot,Op.cells]at kb;simp only[g0,g4,U,hpY,hboY,kp,kb,gi,bS,zW,seval];have hF1:∀ q∈[C],(ext Y []).get q≠none:=fun q j=>by rw[zA5.1 j]; exact fa hbm
   refine kt (v:=uA) [C] rfl rfl rfl rfl (zA7 rfl) hF1 (fun G w=>by simp only[dY,ec,aF,seval]; exact slA G (fun q j=>w q j)) qr ?_;simp only[g0,g2,g4,U,hpY,hboY,kp,kb,hwb,gi,bS,zW,seval];refine kt (v:=uB) [C] rfl rfl rfl rfl (zA7 rfl) hF1 (fun G w=>by simp only[dY,ec,aF,seval]; exact slB G (fun q j=>w q j)) qr ?_;simp only[g6,U,bS,zW,seval];have hfr1:r.all one=true:=hu2
   have hF2:∀ q∈[C,nu,S],(ext Y []).get q≠none:=fun q j=>by
    simp only[zA8,zD7,or_false]at j;rcases j with rfl|rfl|rfl
    .exact fa hbm
    .exact fa kbu
    .exact fa kb0
   obtain⟨lb,hlb⟩:=ac ((part rvs top bot).length);refine NW (f:=f) (v:=lm (a9 ⟨y,0,bi⟩) lb lb) (M:=[⟨56,bv,yk up (part rvs top bot) r n⟩]) (ca:=[li (a9 ⟨S,0,bi⟩)]) [C,nu,S] rfl rfl rfl hb (zA7 rfl) hF2 (fun G hn w=>?_) qr ?_
   .replace hn:G.next=Y.next:=hn;have:=hf G uB (lm (a9 ⟨nu,0,bi⟩) n n) (part rvs top bot) r (PB.of lw fun q j=>w q (by have:=iB q j; simp only[zA5]at this; simp[this])) (PU.of lw fun q j=>w q (by simp only[ae,zA5]at j; simp[j])) (one_sub F fun z J=>zE2 (zE4 J)) hfr1 (by rw[hn]; exact jM hvsc fun z J=>zE2 (zE4 J)) (by rw[hn]; exact gr.sc) ((bg (w S nl)).trans kb0) lw n hn' lw lw lw lw;rw[hlb,hn,U]at this;simp only[aF,seval];exact this
   simp only[g0,g4,U,hpY,hboY,kp,kb,hwb,gi,bS,zW,seval];refine⟨.inr (fun q j=>by simp only[ae,zA5]at j; omega),?_⟩;have hmb1:(ext Y [⟨56,bv,yk up (part rvs top bot) r n⟩]).get C=Y.get C:=bL lw;have hF3:∀ q∈[C],(ext Y [⟨56,bv,yk up (part rvs top bot) r n⟩]).get q≠none:=fun q j=>by rw[zA5.1 j,hmb1]; exact fa hbm
   refine kt (v:=uC) [C] rfl rfl rfl rfl (zA7 rfl) hF3 (fun G w=>by simp only[dY,ec,aF,seval]; exact slC G (fun q j=>by rw[w q j,zA5.1 j,hmb1])) ?_ ?_
   .simp only[Aq,tA,nj,AU,and_true,implies_true,zA5,List.flatMap_nil,zC7];refine⟨.inr nl,.inr nl,.inr ⟨by simp,trivial,fun _=>⟨fun q j=>.inl lw,fun q j=>.inl (by have:=iC q j; simp only[zA5]at this; omega)⟩⟩,?_⟩;simp[cL]
   obtain⟨aA,cA,eA⟩:=PA.len;obtain⟨aC,cC,eC⟩:=PC.len;have js:=PA.sc;have scC:=PC.sc;rw[U]at js scC;have iA':=iA;have iC':=iC;rw[eA]at js iA';rw[eC]at scC iC';have hy01:y<y+1:=zF3 y;simp only[U,eA,eC,js,scC,hy01,hA,bS,zW,seval];rw[<-eA,<-eC];have hmidl:(yk up (part rvs top bot) r n).length=lb:=by rw[L5 lw lw,hlb]
   have hgln:(glue up rvs r top bot n).length=x.aj.length:=by rw[nS lw lw lw lw,R]
   obtain⟨I,hY3⟩:=ac (ext Y [⟨56,bv,yk up (part rvs top bot) r n⟩,⟨39,ci,[uA,lm (a9 ⟨y,0,bi⟩) lb lb,uC]⟩]);have mY3:Mod [] Y I:=hY3▸Mod.ext okY;have nY3:I.next=y+2:=by rw[<-hY3,ai,U]; rfl
   have q0:bk I (y+0)=a9 ⟨56,bv,yk up (part rvs top bot) r n⟩:=by rw[<-hY3,aZ U nl]; rfl
   have q1:bk I (y+1)=a9 ⟨39,ci,[uA,lm (a9 ⟨y,0,bi⟩) lb lb,uC]⟩:=by rw[<-hY3,aZ U nl]; rfl
   have qm:I.get C=Y.get C:=mY3.get C lw nl;rw[hY3]
   have hF4:∀ q∈[y+1,C,y+0],I.get q≠none:=fun q j=>by
    simp only[zA8,zD7,or_false]at j;rcases j with rfl|rfl|rfl
    .exact fa q1
    .rw[qm]; exact fa hbm
    .exact fa q0
   have hmone:(yk up (part rvs top bot) r n).all one=true:=zC3.2 fun z J=>by
    rcases Eo J with h|h
    .exact zC3.1 F z (zE2 (zE4 h))
    .exact zC3.1 hfr1 z h
   have hmsc:aT Y.next (yk up (part rvs top bot) r n)=true:=ck.2 fun z J=>by
    rcases Eo J with h|h
    .exact ck.1 hvsc z (zE2 (zE4 h))
    .exact ck.1 gr.sc z h
   refine ue (H:=I) (v:=lm (a9 ⟨y+2,0,bi⟩) x.aj.length x.aj.length) (M:=[⟨56,bv,glue up rvs r top bot n⟩]) [y+1,C,y+0] rfl m9 (zA7 rfl) hF4 (fun G hn w=>?_) ?_ ?_
   .have hGn:G.next=y+2:=by rw[hn,nY3]
    have hP:∀ z∈[(uA,rvs.take top),(Value.slice (a9 ⟨y,0,bi⟩) lb lb,yk up (part rvs top bot) r n),(uC,rvs.drop (bot+1))],Part G z.1 z.2/\z.2.all one=bv/\aT G.next z.2=true:=fun z J=>by
     have hle:Y.next<=G.next:=by omega
     simp only[zA8,zD7,or_false]at J;rcases J with rfl|rfl|rfl
     .exact⟨PA.of hle fun q j=>by have:=iA q j; simp only[zA5]at this; rw[w q (by simp[this]),this,qm],one_sub F fun z J=>zE2 J,dV hle _ (jM hvsc fun z J=>zE2 J)⟩
     .refine⟨⟨a9 ⟨y,0,bi⟩,lb,by rw[hmidl],bd (show y<G.next by omega),.inr ⟨zF6 hmidl,y,0,bi,_,rfl,.inl rfl,(bg (w (y+0) nl)).trans q0,by omega,by simp,by simp⟩⟩,hmone,dV hle _ hmsc⟩
     .exact⟨PC.of hle fun q j=>by have:=iC q j; simp only[zA5]at this; rw[w q (by simp[this]),this,qm],one_sub F fun z J=>zE4 J,dV hle _ (jM hvsc fun z J=>zE4 J)⟩
    have:=GL G (y+1) (a9 0) 3 39 ci [(uA,rvs.take top),(Value.slice (a9 ⟨y,0,bi⟩) lb lb,yk up (part rvs top bot) r n),(uC,rvs.drop (bot+1))] x.aj.length ((bg (w (y+1) nl)).trans q1) lw hP (by simp only[List.flatMap_cons,List.flatMap_nil,zC7]; rw[<-zC8]; exact hgln) lw lw nl;rw[hGn]at this;simp only[List.flatMap_cons,List.flatMap_nil,zC7]at this;rw[<-zC8]at this;simp only[aF];exact this
   .simp only[Aq,tA,nj,hA,true_or,true_and];simp
   have mpY3:bk I p=_:=(mY3.bk lw nl).trans kp;have hp3:p<y+2:=by omega
   have hlt2:y+2<y+3:=zF3 _;simp only[nY3,mpY3,hp3,hlt2,hA,bS,zW,seval];refine⟨⟨.inr (.inl lw),.inr (.inl lw)⟩,⟨.inr (.inl lw),.inr (.inl lw)⟩,⟨.inr (.inl lw),.inr (.inl lw)⟩,by omega,⟨.inr lw,.inr lw,.inr lw,.inr lw⟩,?_⟩;simp only[Tryz.results133,gV];have okY3:=mY3.ok okY;have mZ1:Mod [] Y (ext I [⟨56,bv,glue up rvs r top bot n⟩]):=mY3.trans (Mod.ext okY3);have kz1:bk (ext I [⟨56,bv,glue up rvs r top bot n⟩]) (y+2)=a9 ⟨56,bv,glue up rvs r top bot n⟩:=by rw[show y+2=y+2+0 from rfl,aZ nY3 nl]; rfl
   have nz1:(ext I [⟨56,bv,glue up rvs r top bot n⟩]).next=y+3:=by rw[ai,nY3]; rfl
   have og:=aX.own.glue (gr:=hXn.symm▸gr) (m:=mY) (m2:=mZ1.mono nl) (N:=N) (up:=up) (top:=top) (bot:=bot) (n:=n) (y:=y+2) (by have:=a.lo; omega) lw lw lw hgl kz1 lw lw;have mW:Mod [p] I (ext (uw I p 0 [Value.slice (a9 ⟨y+2,0,bi⟩) x.aj.length x.aj.length]) [⟨56,bv,glue up rvs r top bot n⟩]):=by have m1:Mod [p] I (uw I p 0 [Value.slice (a9 ⟨y+2,0,bi⟩) x.aj.length x.aj.length]):=Mod.uw nl;exact m1.trans (Mod.ext (m1.ok okY3))
   have kz:bk (ext (uw I p 0 [Value.slice (a9 ⟨y+2,0,bi⟩) x.aj.length x.aj.length]) [⟨56,bv,glue up rvs r top bot n⟩]) (y+2)=a9 ⟨56,bv,glue up rvs r top bot n⟩:=by rw[show y+2=y+2+0 from rfl,aZ (by rw[cw,nY3]) nl]; rfl
   have kzp:bk (ext (uw I p 0 [Value.slice (a9 ⟨y+2,0,bi⟩) x.aj.length x.aj.length]) [⟨56,bv,glue up rvs r top bot n⟩]) p=a9 ⟨83,ci,St.cells {x with aj:=glue up x.aj (List.replicate n (List.replicate W Ce.sp)) top bot n} (lm (a9 ⟨y+2,0,bi⟩) x.aj.length x.aj.length)⟩:=by rw[kf (by rw[cw]; omega),bR,mpY3]; rfl
   have nz:(ext (uw I p 0 [Value.slice (a9 ⟨y+2,0,bi⟩) x.aj.length x.aj.length]) [⟨56,bv,glue up rvs r top bot n⟩]).next=y+3:=by rw[ai,cw,nY3]; rfl
   generalize ext (uw I p 0 [Value.slice (a9 ⟨y+2,0,bi⟩) x.aj.length x.aj.length]) [⟨56,bv,glue up rvs r top bot n⟩]=Z at mW kz kzp nz ⊢
   have hids:∀ q∈(glue up rvs r top bot n).flatMap ae,q≠p/\q<y:=fun q j=>by
    obtain⟨rv,h4,h5⟩:=zG3.1 j;rcases uy h4 with h6|h6
    .have h7:=zG3.2 ⟨rv,h6,h5⟩;have:=(aY.own.ids q h7).2.1;exact⟨fun e=>a.apart (zG6 _ (e▸h7)),by omega⟩
    .have h7:=gr.ids q (zG3.2 ⟨rv,h6,h5⟩);exact⟨by omega,by omega⟩
   rw[htop,hbot,hn',zG7,zG7,zG7,Cy];refine⟨(iL.of (Ws:=[]) ((m0.trans mY).trans mY3) nl).trans (iL.of mW (aY.df mY3).pN),rfl,lm (a9 ⟨y+2,0,bi⟩) x.aj.length x.aj.length,glue up rvs r top bot n,⟨_,_,rfl⟩,kzp,?_,?_,by omega,a.lo⟩
   .have hgg:(glue up x.aj (List.replicate n (List.replicate W Ce.sp)) top bot n).length=x.aj.length:=nS lw lw lw hgl;refine⟨og.len,.inr ⟨y+2,bi,x.aj.length,bv,by rw[hgg],kz,by have:=a.lo; omega,by omega,fun h=>by have:=(hids _ h).2; omega⟩,fun i rv l h4 h5=>?_,og.nd⟩;have h6:=og.row i rv l h4 h5;refine h6.of lw fun q j=>?_;have h7:=hids q (zG3.2 ⟨rv,zC5 h4,j⟩);rw[mW.get q lw (by simpa using h7.1),bL lw]
   .intro h;rcases zB1.1 h with h|h
    .simp only[ae,zA5]at h; omega
    .exact (hids p h).1 rfl
 .rw[if_neg V];rw[ev]at A
  have fin:F7 83 N p bi H (.error [gj]) (ext H [⟨58,ci,o.cells⟩]):=⟨iL.of (Ws:=[]) m0 nl,rfl⟩
  have hs:d1=ci\/(d1=bv/\d2=ci)\/(d1=bv/\d2=bv/\d3=ci)\/(d1=bv/\d2=bv/\d3=bv/\d4=ci)\/(d1=bv/\d2=bv/\d3=bv/\d4=bv/\d5=ci):=by cases d1<;>cases d2<;>cases d3<;>cases d4<;>cases d5<;>simp_all
  have hh:=ok.h2
  rcases hs with rfl|⟨rfl,rfl⟩|⟨rfl,rfl,rfl⟩|⟨rfl,rfl,rfl,rfl⟩|⟨rfl,rfl,rfl,rfl,rfl⟩
  .refine pf [] [(3,10),(10,17),(21,28),(26,33)] m9 m9 rfl m9 (fun ops anc hA w=>?_) nl ⟨rfl,rfl⟩;simp only[aw]at w;simp only[eF,gh,B,h1,w,bS,zW,seval];simp only[hJ,jV,jg,true_and,zW,seval];refine bD.panics (oE _) ?_;simp only[gq,iz,eN,kx];exact fin
  .refine pf [] [(3,10),(10,17),(21,28),(26,33)] m9 m9 rfl m9 (fun ops anc hA w=>?_) nl ⟨rfl,rfl⟩;simp only[aw]at w;simp only[eF,gh,B,h1,h2,w,bS,zW,seval];simp only[hJ,jV,jg,true_and,zW,seval];refine bD.panics (oE _) ?_;simp only[gq,iz,eN,kx];exact fin
  .refine pf [] [(3,10),(10,17),(21,28),(26,33)] m9 m9 rfl m9 (fun ops anc hA w=>?_) nl ⟨rfl,rfl⟩;simp only[aw]at w;simp only[eF,gh,B,hpl,A,h1,h2,h3,w,bS,zW,seval];simp only[hJ,jV,jg,true_and,zW,seval];refine bD.panics (oE _) ?_;simp only[gq,iz,eN,kx];exact fin
  .refine pf [] [(3,10),(10,17),(21,28),(26,33)] m9 m9 rfl m9 (fun ops anc hA w=>?_) nl ⟨rfl,rfl⟩;simp only[aw]at w;simp only[eF,gh,B,hpl,A,h1,h2,h3,h4,w,bS,zW,seval];simp only[hJ,jV,jg,true_and,zW,seval];refine bD.panics (oE _) ?_;simp only[gq,iz,eN,kx];exact fin
  .have i1:=of_decide_eq_true h1;have i2:=of_decide_eq_true h2;have i3:=of_decide_eq_true h3;have hw1:IntKind.i64.wrap (o.col-o.row)=o.col-o.row:=aR lw lw;have hw2:IntKind.i64.wrap (o.col-o.row+1)=o.col-o.row+1:=aR lw lw;refine pf [] [(3,10),(10,17),(21,28),(26,33)] m9 m9 rfl m9 (fun ops anc hA w=>?_) nl ⟨rfl,rfl⟩;simp only[aw]at w;simp only[eF,gh,B,hpl,A,h1,h2,h3,h4,h5,hw1,hw2,w,bS,zW,seval];simp only[hJ,jV,jg,true_and,zW,seval];refine bD.panics (oE _) ?_;simp only[gq,iz,eN,kx];exact fin
def zQ(N:Nat)(H:aa)(p W:Nat)(v:go)(rvs:List go)(x:St)(o:Op)(a:iT 83 N H p v rvs x)(sl:RE v)(c:H.base<=H.next)(ok:x.Ok W) :
  bF Tryz.prog 108 [li (a9 ⟨p,0,bi⟩),o.val] H (F7 83 N p (x.fA W o bv) H):=by
 obtain⟨b,h⟩:=ac H.next;have m0:Mod [] H (ext H [⟨58,ci,o.cells⟩]):=Mod.ext c;have C:=a.df m0;have j:bk (ext H [⟨58,ci,o.cells⟩]) (b+0)=a9 ⟨58,ci,o.cells⟩:=by rw[aZ h nl]; rfl
 have m:=B8 N (ext H [⟨58,ci,o.cells⟩]) p W v rvs x o bv 134 (b+0) m9 C sl (m0.ok c) ok j (by rw[ai,h]; simp) (fun G D F I J K O R S U s2 n s k V w z A hl=>Nx G D F I J (b+0) o K O R S U s2 n s k V w z A hl);refine aI mixed Tryz.func108 rfl Tryz.ntmps108 (zA7 rfl) ?_;simp only[Op.val,Op.cells,h,zW,seval];refine m.mono ?_;rintro out X ⟨mX,B⟩;have e:=(iL.of (Ws:=[]) (N:=N) m0 nl).trans mX;generalize x.fA W o bv=r at B ⊢
 cases r with
 |none =>obtain rfl:=B;simp only[gq,eN,kx];exact⟨e,rfl⟩
 |some y =>obtain⟨rfl,v',f,s',a'⟩:=B;rw[show X=ext X [] from rfl];simp only[Tryz.results108,gV,seval];exact⟨e,rfl,v',f,s',a'⟩
def AY(N:Nat)(H:aa)(p W:Nat)(v:go)(rvs:List go)(x:St)(o:Op)(a:iT 83 N H p v rvs x)(sl:RE v)(c:H.base<=H.next)(ok:x.Ok W) :
  bF Tryz.prog 109 [li (a9 ⟨p,0,bi⟩),o.val] H (F7 83 N p (x.fA W o ci) H):=by
 obtain⟨b,h⟩:=ac H.next;have m0:Mod [] H (ext H [⟨58,ci,o.cells⟩]):=Mod.ext c;have C:=a.df m0;have j:bk (ext H [⟨58,ci,o.cells⟩]) (b+0)=a9 ⟨58,ci,o.cells⟩:=by rw[aZ h nl]; rfl
 have m:=B8 N (ext H [⟨58,ci,o.cells⟩]) p W v rvs x o ci 136 (b+0) m9 C sl (m0.ok c) ok j (by rw[ai,h]; simp) (fun G D F I J K O R S U s2 n s k V w z A hl=>MP G D F I J (b+0) o K O R S U s2 n s k V w z A hl);refine aI mixed Tryz.func109 rfl Tryz.ntmps109 (zA7 rfl) ?_;simp only[Op.val,Op.cells,h,zW,seval];refine m.mono ?_;rintro out X ⟨mX,B⟩;have e:=(iL.of (Ws:=[]) (N:=N) m0 nl).trans mX;generalize x.fA W o ci=r at B ⊢
 cases r with
 |none =>obtain rfl:=B;simp only[gq,eN,kx];exact⟨e,rfl⟩
 |some y =>obtain⟨rfl,v',f,s',a'⟩:=B;rw[show X=ext X [] from rfl];simp only[Tryz.results109,gV,seval];exact⟨e,rfl,v',f,s',a'⟩
section
variable{Z:aa}{N:Nat}{E:Env}{ds:List Deferred}{ops:Array Oper}{anc:List Nat}{ty:io}{pos:String}{after:Array Edge}{rest:List Oper}{i d:Nat}{fps:List Fp}{Q:ah -> aa -> Prop}{v u:go}{vs L:List go}{cnt:Nat}
end
def St.move(W:Nat)(x:St)(o:Op):Option St:=if (f7 (0<=o.row)&&f7 (o.row<x.aj.length)&&f7 (0<=o.col)&&f7 (o.col<W))=bv then a9 {x with row:=o.row,col:=o.col} else bi
def St.look(x:St)(o:Op):Option St:=if lK o.look=bv then a9 {x with b7:=o.look} else bi
def Ey(W:Nat)(r:List UInt8->Option (List Int))(x:St)(o:Op):x.iD W r o =
  if o.kind=1 then x.move W o else if o.kind=2 then x.look o else if o.kind=3 then x.text W (r o.text.data.toList) else if o.kind=4 then x.clear W else if o.kind=5 then x.fA W o bv else if o.kind=6 then x.fA W o ci
  else if o.kind=7 then a9 {x with shown:=true} else if o.kind=8 then a9 {x with shown:=false} else none:=by
 unfold St.iD St.move St.look St.text St.clear St.fA;by_cases a:o.kind=5
 .simp[a]
 .by_cases b:o.kind=6
  .simp[b]
  .simp only[a,b,or_self,if_false];all_goals by_cases c:o.kind=3
   all_goals try simp[c]
   all_goals (cases r o.text.data.toList<;>rfl)
def Aa(b7:Lk):∀(cs:List Int)(l:List Ce)(k:Nat),(gz b7 cs l k).1.length=l.length
 |[],_,_=>rfl
 |c::cs,l,k=>by rw[gz,Aa b7 cs,Po]
def zL(b7:Lk)(W:Nat):∀(cs:List Int)(l:List Ce)(k:Nat),St.fits W cs (k:Int)=bv->k<=W->(gz b7 cs l k).2<=W
 |[],_,_,_,h=>h
 |c::cs,l,k,a,_=>by obtain⟨_,e,b⟩:=rm a;rw[gz];refine zL b7 W cs _ _ ?_ lw;rw[show ((k+aP c:Nat):Int)=(k:Int)+(aP c:Int) by omega];exact b
def Af:∀(n:Nat)(l:List Ce)(k:Nat),(iy l k n).length=l.length
 |0,_,_=>rfl
 |n+1,l,k=>by rw[iy,Af n,tz]
def St.Ok.row{x:St}{W:Nat}(ok:x.Ok W):(x.aj.getD x.row.toNat []).length=W:=by
 have b:=ok.row0;have c:=ok.row1;have a:x.row.toNat<x.aj.length:=by omega
 rw[zC9,zB0 a,zH9];exact ok.wid _ (List.getElem_mem _)
def yz{W:Nat}{x y:St}{o:Op}{r:List UInt8->Option (List Int)}(ok:x.Ok W)(h:x.iD W r o=a9 y):y.Ok W:=by
 have a:∀ l:List Ce,l.length=W->∀ c:Int,0<=c->c<=W->St.Ok {x with aj:=x.aj.set x.row.toNat l,col:=c} W:=fun l b c f j=>by have:=ok.setRow (i:=x.row.toNat) b;exact⟨this.h1,this.h2,this.w1,this.w2,this.wid,this.row0,this.row1,f,j⟩
 rw[Ey]at h;split at h
 .unfold St.move at h;split at h
  .rename_i e;simp only[zA6,decide_eq_true_eq]at e;obtain rfl:=Option.some.inj h;exact⟨ok.h1,ok.h2,ok.w1,ok.w2,ok.wid,e.1.1.1,e.1.1.2,e.1.2,by show o.col<=W; omega⟩
  .cases h
 split at h
 .unfold St.look at h;split at h
  .obtain rfl:=Option.some.inj h;exact⟨ok.h1,ok.h2,ok.w1,ok.w2,ok.wid,ok.row0,ok.row1,ok.col0,ok.col1⟩
  .cases h
 split at h
 .unfold St.text at h;split at h
  .cases h
  .rename_i l _;split at h
   .rename_i k;obtain rfl:=Option.some.inj h;have f:=ok.col0;have j:=ok.col1;refine a _ (by rw[Aa]; exact ok.row) _ lw ?_;have:=zL x.b7 W l (x.aj.getD x.row.toNat []) x.col.toNat (by rw[show ((x.col.toNat:Nat):Int)=x.col by omega]; exact k) lw;omega
   .cases h
 split at h
 .unfold St.clear at h;split at h
  .obtain rfl:=Option.some.inj h;exact a _ (by rw[Af]; exact ok.row) x.col ok.col0 ok.col1
  .cases h
 have fA:∀ up,x.fA W o up=a9 y->y.Ok W:=fun up h=>by
  unfold St.fA at h;split at h
  .rename_i e;simp only[zA6,decide_eq_true_eq]at e;obtain rfl:=Option.some.inj h;rw[Cy];have b:(glue up x.aj (List.replicate o.n.toNat (List.replicate W Ce.sp)) o.row.toNat o.col.toNat o.n.toNat).length=x.aj.length:=nS lw lw lw zF1;refine⟨?_,?_,ok.w1,ok.w2,fun l b=>?_,ok.row0,?_,ok.col0,ok.col1⟩
   .simp only[b]; exact ok.h1
   .simp only[b]; exact ok.h2
   .rcases uy b with h|h
    .exact ok.wid l h
    .rw[zH6 h,zF1]
   .simp only[b]; exact ok.row1
  .cases h
 split at h
 .exact fA bv h
 split at h
 .exact fA ci h
 split at h
 .obtain rfl:=Option.some.inj h;exact⟨ok.h1,ok.h2,ok.w1,ok.w2,ok.wid,ok.row0,ok.row1,ok.col0,ok.col1⟩
 split at h
 .obtain rfl:=Option.some.inj h;exact⟨ok.h1,ok.h2,ok.w1,ok.w2,ok.wid,ok.row0,ok.row1,ok.col0,ok.col1⟩
 .cases h
def OA{W:Nat}{r:List UInt8->Option (List Int)}:∀(l:List Op)(k i:Nat)(x y:St)(o:Op),l[k]?=a9 o->x.iD W r o=a9 y->St.all W r (l.drop k) i x=St.all W r (l.drop (k+1)) (i+1) y:=fun l k i x y o a c=>by have b:=(zF5.1 a).1;rw[zH4 b,St.all];rw[zB0 b]at a;rw[Option.some.inj a,c]
def Gf{W:Nat}{r:List UInt8->Option (List Int)}:∀(l:List Op)(k i:Nat)(x:St)(o:Op),l[k]?=a9 o->x.iD W r o=bi->St.all W r (l.drop k) i x=.inr i:=fun l k i x o a c=>by have b:=(zF5.1 a).1;rw[zH4 b,St.all];rw[zB0 b]at a;rw[Option.some.inj a,c]
def bH:List Ce->Bool
 |[]=>bv
 |c::l=>if (f7 (aP c.rune=0)||!lK c.look)=bv then ci else
   if aP c.rune=2 then (match l with|[]=>ci|d::l'=>f7 (d=c.look.ce (-1))&&bH l') else bH l
def eH(c:Ce)(l:List Ce) : bH (c :: l) = if (f7 (aP c.rune = 0) || !lK c.look) = bv then ci else
   if aP c.rune=2 then (match l with|[]=>ci|d::l'=>f7 (d=c.look.ce (-1))&&bH l') else bH l:=by
 cases l<;>first|rfl|rw[bH]
def MD(H:aa)(v:go)(l:List Ce)(h:dZ H v l)(hl:l.length<1000000):Pure 75 [v] H (ls (bH l)):=by
 obtain⟨b,O⟩:=ac H.next;obtain⟨B,hB⟩:=ac (bH l);rw[hB];refine bA mixed Tryz.func75 rfl Tryz.ntmps75 (zA7 rfl) fun wf hsc=>?_;obtain⟨a1,c1,e1⟩:=h.sl;rw[e1];simp only[zW,Nat.reduceLT];rw[<-e1];refine da fun E hE=>?_;have f:E 0=v:=by rw[hE]; rfl
 have w:E 3=jp kw ((0:Nat):Int):=by rw[hE]; rfl
 clear hE;refine aS (fun E' R=>R=ext H []/\B=bv) ?_ ?_
 .refine cp (fun (k:Nat) E' R=>R=ext H []/\E' 0=v/\E' 3=jp kw (k:Int)/\k<=l.length/\bH (l.drop k)=B) (fun k=>l.length-k) 0
   ⟨rfl,f,w,zB7 _,hB⟩ ?_
  clear f w;rintro k E R ⟨hH,f,w,hk,hi⟩;rw[hH];by_cases hkl:k=l.length
  .have hc:f7 ((k:Int)<(l.length:Int))=false:=by simp[hkl]
   rw[e1]at f;simp only[f,w,hc,zW,Nat.reduceLT,Nat.reduceEqDiff];rw[zE9 lw,bH]at hi;exact ag ⟨rfl,hi.symm⟩
  .have c:k<l.length:=by omega
   have hc:f7 ((k:Int)<(l.length:Int))=true:=decide_eq_true lw
   rcases h with⟨h,_⟩|⟨_,n1,o1,s1,x1,t1,p1,L1,rfl,b1,j,C,D⟩
   .rw[h]at c; simp at c
   obtain⟨z,A⟩:∃ r,l[k]?=a9 r:=⟨_,zB0 c⟩
   have i1:=eU (n:=n1) (off:=o1) (s:=s1) (cap:=x1) (i:=(k:Int)) rfl c;have q1:=run_load (e:=t1) (o:=p1) A C D;have q2:=CX (e:=t1) (o:=p1) A C D;rw[O]at j;have hdr:l.drop k=z::l.drop (k+1):=by rw[zH4 c];rw[zB0 c]at A;rw[Option.some.inj A]
   rw[hdr,eH]at hi;obtain⟨m,hm⟩:=ac (aP z.rune)
   obtain⟨cl,hcl⟩:∃ x,lK z.look=x:=⟨_,rfl⟩
   have S:=DJ z.rune;have U:=Ng (ext H []) z.rune;have F:=Es (ext H []) z.look;rw[hm]at U hi S;rw[hcl]at F hi;have c00:f7 (((0:Nat):Int)=0)=true:=by decide
   have c10:f7 (((1:Nat):Int)=0)=false:=by decide
   have c12:f7 (((1:Nat):Int)=2)=false:=by decide
   have c20:f7 (((2:Nat):Int)=0)=false:=by decide
   have c22:f7 (((2:Nat):Int)=2)=true:=by decide
   simp only[f,w,O,hc,i1,b1,j,q1,cm,zW,Nat.reduceLT,Nat.reduceEqDiff];refine U.to ?_;rcases S with rfl|rfl|rfl
   .obtain rfl:ci=B:=by simpa using hi
    simp only[c00,cO,Tryz.results75,zW,Nat.reduceLT,Nat.reduceEqDiff];exact Fin.cf rfl rfl
   .simp only[f,w,O,i1,b1,j,q2,cm,c10,zW,Nat.reduceLT,Nat.reduceEqDiff];refine F.to ?_
    cases cl with
    |false =>
     obtain rfl:ci=B:=by simpa using hi
     simp only[zF4,cO,Tryz.results75,zW,Nat.reduceLT,Nat.reduceEqDiff];exact Fin.cf rfl rfl
    |true =>
     simp only[w,c12,zD1,ba (show k<1000000 by omega),zW,Nat.reduceLT,Nat.reduceEqDiff];refine aG ⟨k+1,by omega,rfl,?_,?_,by omega,by simpa using hi⟩
     .exact f
     .rfl
   .simp only[f,w,O,i1,b1,j,q2,cm,c20,zW,Nat.reduceLT,Nat.reduceEqDiff];refine F.to ?_
    cases cl with
    |false =>
     obtain rfl:ci=B:=by simpa using hi
     simp only[zF4,cO,Tryz.results75,zW,Nat.reduceLT,Nat.reduceEqDiff];exact Fin.cf rfl rfl
    |true =>
     simp only[w,c22,zD1,ba (show k<1000000 by omega),zW,Nat.reduceLT,Nat.reduceEqDiff];have hws:IntKind.i64.wrap (((k+1:Nat):Int)-1)=(k:Int):=(aR (n:=((k+1:Nat):Int)-1) lw lw).trans lw;by_cases a:k+1<l.length
     .have I:f7 (((k+1:Nat):Int)=(l.length:Int))=false:=decide_eq_false lw
      obtain⟨r2,J⟩:∃ r,l[k+1]?=a9 r:=⟨_,zB0 a⟩
      have V:l.drop (k+1)=r2::l.drop (k+1+1):=by rw[zH4 a];rw[zB0 a]at J;rw[Option.some.inj J]
      rw[V]at hi;have K:(f7 (r2=z.look.ce (-1))&&bH (l.drop (k+1+1)))=B:=by simpa using hi
      have i2:=eU (n:=n1) (off:=o1) (s:=s1) (cap:=x1) (i:=((k+1:Nat):Int)) rfl a;have q3:=gm (e:=t1) (o:=p1) J C D;refine aQ [] [(4,36)] m9 m9 m9 fun ops anc hA hG=>?_;simp only[aw]at hG;simp only[f,O,I,i1,i2,b1,j,q2,q3,cm,hws,hG,Lk.val,Ce.val,bS,zW,Nat.reduceLT,Nat.reduceAdd,Nat.reduceEqDiff]
      obtain⟨dq,hdq⟩:∃ x,f7 (r2=z.look.ce (-1))=x:=⟨_,rfl⟩
      rw[hdq]at K;refine vI (ts:=[3,3,3,4,4,4]) (xs:=r2.cells) (ys:=(z.look.ce (-1)).cells) (r:=!dq) NO Nv NP (by rw[wF,hdq]; rfl) rfl rfl ol (by simp only[aF,Nat.reduceEqDiff]; rfl) rx (jc _) (jc _) ?_
      cases dq with
      |true =>
       simp only[zD1,ba (show k+1<1000000 by omega),bS,zW,Nat.reduceLT,Nat.reduceAdd,Nat.reduceEqDiff];refine aG ⟨k+1+1,by omega,rfl,?_,?_,by omega,by simpa using K⟩
       .exact f
       .rfl
      |false =>
       obtain rfl:ci=B:=by simpa using K
       simp only[zF4,cO,Tryz.results75,bS,zW,Nat.reduceLT,Nat.reduceAdd,Nat.reduceEqDiff];exact Fin.cf rfl rfl
     .have I:f7 (((k+1:Nat):Int)=(l.length:Int))=true:=decide_eq_true lw;rw[zE9 lw]at hi;obtain rfl:ci=B:=by simpa using hi
      refine aQ [] [(4,36)] m9 m9 m9 fun ops anc hA hG=>?_;simp only[aw]at hG;simp only[f,I,hG,cO,Tryz.results75,bS,zW,Nat.reduceLT,Nat.reduceAdd,Nat.reduceEqDiff];exact Fin.cf rfl rfl
 .rintro E R ⟨hH,rfl⟩;rw[hH];simp only[Tryz.results75,zW,Nat.reduceLT];exact Fin.pure rfl
def pH(W:Nat)(l:List Ce):Bool:=f7 (l.length=W)&&bH l
def Iu(H:aa)(v:go)(l:List Ce)(W n:Nat)(r:dZ H v l)(z:l.length<1000000)(o:bk H n=a9 ⟨3,ci,[jp kw (W:Int)]⟩):Pure 74 [v,li (a9 ⟨n,0,bi⟩)] H (ls (!pH W l)):=by
 obtain⟨b,f⟩:=ac H.next;obtain⟨a,c,e⟩:=r.sl;obtain⟨B,s⟩:=ac (bH l);obtain⟨d,w⟩:=ac (f7 (l.length=W))
 have j:f7 (¬(l.length:Int)=(W:Int))=!d:=by
  rw[<-w,decide_not];by_cases h:l.length=W
  .rw[decide_eq_true h,decide_eq_true lw]
  .rw[decide_eq_false h,decide_eq_false lw]
 have k:=MD (ext H []) v l r z;rw[pH,s,w];rw[e,s]at k;rw[e];refine bA mixed Tryz.func74 rfl Tryz.ntmps74 (zA7 rfl) fun wf A=>?_;have m:n<b:=f▸wf.lt o
 cases d with
 |false =>simp only[f,o,m,j,zF4,Bool.false_and,Tryz.results74,zW,seval];exact Fin.cf rfl rfl
 |true =>simp only[f,o,m,j,zD1,Bool.true_and,zW,seval];refine k.to ?_;simp only[Tryz.results74,zW,seval];exact Fin.cf rfl rfl
def pG(W:Nat):List (List Ce)->Option Nat
 |[]=>bi
 |l::g=>if pH W l=bv then (pG W g).map (·+1) else a9 0
def zP(W:Nat):∀(g:List (List Ce))(k:Nat),(∀ i l,i<k->g[i]?=a9 l->pH W l=bv)->pG W g=(pG W (g.drop k)).map (·+k)
 |g,0,_=>by simp
 |[],k+1,_=>rfl
 |l::g,k+1,h=>by
  rw[pG,if_pos (h 0 l (Nat.succ_pos _) rfl),List.drop_succ_cons,zP W g k fun i l' hi a=>h (i+1) l' lw a]
  cases pG W (g.drop k) with
  |none=>rfl
  |some m=>simp only[zB2]; congr 1
def lA(W:Nat)(g:List (List Ce)):Bool:=g.all (pH W)
def FX(W:Nat):∀(g:List (List Ce)),(pG W g).isNone=lA W g
 |[]=>rfl
 |l::g=>by
  rw[pG,lA,List.all_cons]
  cases h:pH W l with
  |false=>simp
  |true=>rw[if_pos rfl,Option.isNone_map,FX W g,lA,Bool.true_and]
def WS:Option Nat->Int
 |none=>-1
 |some n=>n
def MV(H:aa)(v:go)(g:List (List Ce))(W w:Nat)(hg:ej H v g)(hw:∀ l∈g,l.length<1000000)(hgl:g.length<1000000)(R:bk H w=a9 ⟨3,ci,[jp kw (W:Int)]⟩) :
  Pure 100 [v,.func (.func 74) ⟨[]⟩ ⟨[li (a9 ⟨w,0,bi⟩)]⟩] H (jp kw (WS (pG W g))):=by
 obtain⟨b,hb⟩:=ac H.next;refine bA mixed Tryz.func100 rfl Tryz.ntmps100 (zA7 rfl) fun wf hsc=>?_;obtain⟨a1,c1,e1⟩:=hg.sl;rw[e1];simp only[zW,seval];rw[<-e1];refine da fun E B=>?_;have C:E 0=v:=by rw[B]; rfl
 have D:E 1=.func (.func 74) ⟨[]⟩ ⟨[li (a9 ⟨w,0,bi⟩)]⟩:=by rw[B]; rfl
 have z:E 7=jp kw (g.length:Int):=by rw[B]; rfl
 have A:E 8=jp kw ((0:Nat):Int):=by rw[B]; rfl
 clear B;refine aS (fun F I=>I=ext H []/\pG W g=bi) ?_ ?_
 .refine cp (fun (k:Nat) F I=>I=ext H []/\F 0=v/\F 1=.func (.func 74) ⟨[]⟩ ⟨[li (a9 ⟨w,0,bi⟩)]⟩/\F 7=jp kw (g.length:Int)/\F 8=jp kw (k:Int)/\k<=g.length/\∀ i l,i<k->g[i]?=a9 l->pH W l=bv) (fun k=>g.length-k) 0
   ⟨rfl,C,D,z,A,zB7 _,fun i l hi=>by omega⟩ ?_
  clear C D z A;rintro k E I ⟨S,C,D,z,A,hk,m⟩;rw[S];have a:=zP W g k m;by_cases U:k=g.length
  .have V:f7 ((k:Int)<(g.length:Int))=false:=by simp[U]
   simp only[z,A,V,zW,seval];rw[zE9 lw]at a;exact ag ⟨rfl,a⟩
  .have c:k<g.length:=by omega
   have V:f7 ((k:Int)<(g.length:Int))=true:=decide_eq_true lw
   rcases hg with⟨h,_⟩|⟨_,n1,o1,s1,x1,t1,p1,L1,rfl,b1,J,le1,tk1⟩
   .rw[h]at c; simp at c
   obtain⟨w1,j⟩:∃ r,g[k]?=a9 r:=⟨_,zB0 c⟩
   obtain⟨u1,hu1,ra1⟩:=tk1 k w1 j;have i1:=fD (n:=n1) (off:=o1) (s:=s1) (cap:=x1) (i:=(k:Int)) rfl c;have q1:=dG (e:=t1) (o:=p1) hu1;rw[hb]at J;have K:=Iu (ext H []) u1 w1 W w ra1 (hw w1 (zC5 j)) R;obtain⟨d,hd⟩:=ac (pH W w1);rw[hd]at K;have hdr:g.drop k=w1::g.drop (k+1):=by rw[zH4 c];rw[zB0 c]at j;rw[Option.some.inj j]
   rw[hdr,pG,hd]at a;simp only[C,D,z,A,hb,V,i1,b1,J,q1,cm,zW,seval];refine qY (f:=74) (ca:=[li (a9 ⟨w,0,bi⟩)]) rfl rfl rfl m9 ?_;simp only[aF];refine (show bD Tryz.prog 74 _ (ext H []) _ (ext H []) from K).to ?_
   cases d with
   |true =>
    simp only[A,zD1,ba (show k<1000000 by omega),zW,seval];refine aG ⟨k+1,by omega,rfl,?_,?_,?_,?_,by omega,fun i l hi hl=>?_⟩
    .exact C
    .exact D
    .exact z
    .rfl
    .rcases zC0 i k with h|h
     .exact m i l h hl
     .obtain rfl:i=k:=by omega
      rw[j]at hl;cases hl;exact hd
   |false =>
    have O:pG W g=a9 k:=by simpa using a
    simp only[zF4,cO,Tryz.results100,zW,seval];exact Fin.cf (by rw[O]; rfl) rfl
 .rintro E I ⟨S,a⟩;rw[S];simp only[Tryz.results100,zW,seval];exact Fin.cf (by rw[a]; rfl) rfl
def ET(H:aa)(v:go)(g:List (List Ce))(W b:Nat)(f:ej H v g)(h:∀ l∈g,l.length<1000000)(c:g.length<1000000)(e:bk H b=a9 ⟨3,ci,[jp kw (W:Int)]⟩) :
  Pure 73 [v,.func (.func 74) ⟨[]⟩ ⟨[li (a9 ⟨b,0,bi⟩)]⟩] H (ls (!lA W g)):=by
 have hi:=MV (ext H []) v g W b f h c e;have a:=FX W g;obtain⟨r,j⟩:=ac (pG W g);rw[j]at hi a;rw[<-a];refine bA mixed Tryz.func73 rfl Tryz.ntmps73 (zA7 rfl) fun wf k=>?_;simp only[zW,seval];refine hi.to ?_
 have m:f7 ((0:Int)<=WS r)=!r.isNone:=by
  cases r with
  |none=>rfl
  |some n=>exact decide_eq_true (Int.natCast_nonneg n)
 simp only[m,Tryz.results73,zW,seval];exact Fin.pure rfl
end Go.Proofs.YtpohjcacnkhnkaaGreatDoor
namespace Go.Proofs.YtpohjcacnkhnkaaGreatDoor.Tq
open Go.Ax
theorem yR(c:Int):Go.Proofs.YtpohjcacnkhnkaaGreatDoor.c7 c=c7 c:=rfl
def Hc{c:Int}(h:aP c≠0):¬c<32/\¬c=127/\c7 c=aP c:=by
 unfold aP at h ⊢;split at h
 .exact absurd rfl h
 .rename_i a;simp only[zH5,decide_eq_true_eq,Bool.not_eq_true',not_or]at a;exact⟨a.1.1,a.1.2,by rw[if_neg (by simp only[zH5,decide_eq_true_eq,Bool.not_eq_true',not_or]; exact a),yR]⟩
def Qb(c:Int):aP c=0\/aP c=1\/aP c=2:=by
 unfold aP;split
 .exact .inl rfl
 .exact Go.Proofs.YtpohjcacnkhnkaaGreatDoor.oH c
def Uz(l:List Ce)(k:Nat)(b7:Lk)(c:Int)(n:Nat):List Ce :=
 if n=2 then ((ic l k (k+n)).set k ⟨c,b7⟩).set (k+1) ⟨-1,b7⟩ else (ic l k (k+n)).set k ⟨c,b7⟩
def SV(l:List Ce)(k:Nat)(b7:Lk)(c:Int)(b:aP c≠0)(h:k+aP c<=l.length):(Uz l k b7 c (aP c)).map AL=tL (Ua b7) (l.map AL) k c:=by
 have a:AL ⟨c,b7⟩=(Ua b7).ce c:=rfl;have e:AL ⟨-1,b7⟩=(Ua b7).ce (-1):=rfl;unfold Uz tL;rcases Qb c with f|h1|h2
 .exact absurd f b
 .rw[h1]at h ⊢;rw[if_neg ol,if_neg ol,List.map_set,a,qe l k (k+1) lw h,zG2];rfl
 .rw[h2]at h ⊢;rw[if_pos rfl,if_pos rfl,List.map_set,List.map_set,a,e,qe l k (k+2) lw h,zG2,List.set_comm _ _ lw];rfl
def SI(l:List Ce)(k:Nat)(b7:Lk)(c:Int)(n:Nat)(h:k+n<=l.length):(Uz l k b7 c n).length=l.length:=by unfold Uz;split<;>simp only[List.length_set,Aw l k (k+n) lw h]
def M4{u:AW}(q:Tm)(c:Int)(k:Nat)(e:q.row.toNat<q.aj.length)(h:q.col=k)(j:u.wd c≠0)(m:q.col+(u.wd c:Int)<=q.width) :
  q.write u c={q with aj:=q.aj.set q.row.toNat (Uz (q.aj.getD q.row.toNat []) k q.b7 c (u.wd c)),col:=q.col+(u.wd c:Int)}:=by
 unfold Tm.write;simp only;rw[if_neg lw];unfold Tm.blank Uz;have a:q.col.toNat=k:=by omega
 have b:(q.col+(u.wd c:Int)).toNat=k+u.wd c:=by omega
 by_cases f:u.wd c=2
 .simp only[if_pos f];unfold Tm.GP;simp only[zC9,List.set_set,a,b];rw[List.getElem?_set_self (by simpa using e),List.getElem?_set_self (by simpa using e)];simp only[zH9,f]
 .simp only[if_neg f];unfold Tm.GP;simp only[zC9,List.set_set,a,b];rw[List.getElem?_set_self (by simpa using e)];simp only[zH9]
section
variable{W:Nat}{x:St}{t:Tm}
def QQ(s:pI W x t){e:List UInt8}{c:Int}(z:TP e c)(r:aP c≠0)(J:x.col+aP c<=W) :
  pI W {x with aj:=x.aj.set x.row.toNat (tL x.b7 (x.aj.getD x.row.toNat []) x.col.toNat c),col:=x.col+aP c} (t.feed ek e):=by
 obtain⟨A,c2,B⟩:=Hc r;have C:=s.ok.row0;have D:=s.ok.row1;have K:=s.ok.col0;have b:=s.len;have f:=s.PN;have O:=s.width;have F:=s.col;rw[s.row]at C D;have j:t.row.toNat<t.aj.length:=by omega
 have k:=M4 (u:=ek) ({t with rest:=e}:Tm) c t.col.toNat j (by show t.col=_; omega) (show c7 c≠0 by omega) (by show t.col+(c7 c:Int)<=t.width; omega);have n:({t with rest:=e}:Tm).character ek c=({t with rest:=e}:Tm).write ek c:=by unfold Tm.character;rw[if_neg (fun h=>h.elim A c2)]
 rw[QY s.idle z lw,n,k];have o:ek.wd c=aP c:=B;rw[o];have w:x.aj.set x.row.toNat (tL x.b7 (x.aj.getD x.row.toNat []) x.col.toNat c)=iW (t.aj.set t.row.toNat (Uz (t.aj.getD t.row.toNat []) t.col.toNat t.b7 c (aP c))):=by rw[Lr,s.aj,LO,s.row,s.col,s.b7,SV _ _ _ _ r lw]
 have a:∀ l∈x.aj.set x.row.toNat (tL x.b7 (x.aj.getD x.row.toNat []) x.col.toNat c),l.length=W:=fun l b=>by
  rw[w]at b;obtain⟨m,I,rfl⟩:=zC1.1 b;rw[zE1];rcases List.mem_or_eq_of_mem_set I with h|h
  .exact s.wid m h
  .rw[h,SI _ _ _ _ _ lw,f]
 refine⟨⟨?_,?_,s.ok.w1,s.ok.w2,a,s.ok.row0,?_,?_,?_⟩,?_,s.b7,s.row,?_,s.shown,s.top,?_,⟨rfl,rfl⟩⟩
 .simp only[List.length_set]; exact s.ok.h1
 .simp only[List.length_set]; exact s.ok.h2
 .simp only[List.length_set]; exact s.ok.row1
 .show 0<=x.col+(aP c:Int); omega
 .show x.col+(aP c:Int)<=W; omega
 .rw[w]
 .show x.col+(aP c:Int)=t.col+(aP c:Int); omega
 .show t.bottom=((t.aj.set t.row.toNat _).length:Int)-1;rw[List.length_set];exact s.bot
def tR{α:Type}(g:List (List α))(i:Nat):g.set i (g.getD i [])=g:=by
 rcases zC0 i g.length with h|h
 .rw[zC9,zB0 h,zH9,List.set_getElem_self]
 .exact List.set_eq_of_length_le h
def Gt(s:pI W x t):({x with aj:=x.aj.set x.row.toNat (gz x.b7 [] (x.aj.getD x.row.toNat []) x.col.toNat).1,col:=((gz x.b7 [] (x.aj.getD x.row.toNat []) x.col.toNat).2:Nat)}:St)=x:=by have h:=s.ok.col0;simp only[gz];rw[tR,show ((x.col.toNat:Nat):Int)=x.col by omega]
def QR:∀(n:Nat)(a:List UInt8)(l:List Int){x:St}{t:Tm},a.length<=n->ei a=a9 l->pI W x t->St.fits W l x.col=bv ->
  pI W {x with aj:=x.aj.set x.row.toNat (gz x.b7 l (x.aj.getD x.row.toNat []) x.col.toNat).1,col:=((gz x.b7 l (x.aj.getD x.row.toNat []) x.col.toNat).2:Nat)} (t.feed ek a):=by
 intro n
 induction n with
 |zero =>intro a l x t I b s D;obtain rfl:a=[]:=zE5 lw;rw[AI]at b;cases b;rw[Gt s];exact s
 |succ n J =>
  intro a l x t I b s D
  by_cases w:a=[]
  .subst w;rw[AI]at b;cases b;rw[Gt s];exact s
  .have e:0<a.length:=List.length_pos_iff.2 w;rw[n6 a e]at b;split at b
   .cases b
   .rename_i K;have z:=U6 a w K;obtain⟨c,O⟩:=ac ((rV a).1);obtain⟨m,F⟩:=ac ((rV a).2.toNat)
    have j:=(ri a e)
    rw[O,F]at b z;rw[F]at j;obtain⟨l',A,rfl⟩:=zB5.1 b;obtain⟨R,S,U⟩:=rm D;have B:=QQ s z R S
    have V:0<m:=by
     have:=z.ne;rcases Nat.eq_zero_or_pos m with h|h
     .rw[h,List.take_zero]at this; exact absurd rfl this
     .exact h
    have k:=J (a.drop m) l' (by rw[zC6]; omega) A B U;have h3:=s.ok.col0;have o:x.row.toNat<x.aj.length:=by have:=s.ok.row0; have:=s.ok.row1; omega
    have f:t.feed ek a=(t.feed ek (a.take m)).feed ek (a.drop m):=by rw[<-Tm.ez,zG9]
    rw[f];have r:(x.col+(aP c:Int)).toNat=x.col.toNat+aP c:=by omega
    have C:(x.aj.set x.row.toNat (tL x.b7 (x.aj.getD x.row.toNat []) x.col.toNat c)).getD x.row.toNat []=tL x.b7 (x.aj.getD x.row.toNat []) x.col.toNat c:=by rw[zC9,List.getElem?_set_self o,zH9]
    simp only[r,C,List.set_set]at k;exact k
end
def MO(c:Int):Bool:=!(f7 (c<32)||f7 (c=127)||f7 (c7 c=0))
def mA(o:CB):Option (List UInt8) :=
 if o.kind=1 then (if 0<=min o.row o.col/\max o.row o.col<=9998 then a9 (gA [o.row.toNat+1,o.col.toNat+1] 72) else bi)
 else if o.kind=2 then (if lK o.look=bv then a9 (gA (lF o.look) 109) else bi)
 else if o.kind=3 then (match ei o.text.data.toList with
  |none=>bi
  |some l=>if l.all MO=bv then a9 o.text.data.toList else bi)
 else if o.kind=4 then a9 (gA [] 75)
 else if o.kind=5\/o.kind=6 then (if 0<=o.row/\o.row<=o.col/\o.col<=9998/\1<=o.n/\o.n<=o.col-o.row+1 then a9 (w9 o.row.toNat o.col.toNat o.n.toNat (f7 (o.kind=5))) else bi)
 else if o.kind=7 then a9 [27,91,63,50,53,104]
 else if o.kind=8 then a9 [27,91,63,50,53,108]
 else bi
def eS:List CB->Option (List UInt8)
 |[]=>a9 []
 |o::l=>match mA o,eS l with
  |some b,a9 r=>a9 (b++r)
  |_,_=>bi
def mr:ek.full [27]=true:=(B0 (a:=27) ol).full
def Hi{W:Nat}:∀(l:List Int)(n:Int),St.fits W l n=bv->l.all MO=bv
 |[],_,_=>rfl
 |c::l,n,h=>by obtain⟨a,f,b⟩:=rm h;obtain⟨e,c2,j⟩:=Hc a;rw[List.all_cons,Hi l _ b,Bool.and_true];unfold MO;rw[decide_eq_false e,decide_eq_false c2,decide_eq_false lw];rfl
section
variable{W:Nat}{x y:St}{t:Tm}
def OC{o:CB}(s:pI W x t)(h:x.iD W ei o=a9 y):∃ b,mA o=a9 b/\pI W y (t.feed ek b):=by
 have C:=s.ok.h2;have D:=s.ok.w2;unfold St.iD at h;unfold mA;by_cases e:o.kind=1
 .rw[if_pos e]at h ⊢;split at h
  .rename_i a;simp only[zA6,decide_eq_true_eq]at a;cases h;rw[if_pos lw];exact⟨_,rfl,OW mr s ⟨a.1.1.1,a.1.1.2,a.1.2,a.2⟩⟩
  .cases h
 rw[if_neg e]at h ⊢;by_cases f:o.kind=2
 .rw[if_pos f]at h ⊢;split at h
  .rename_i a;cases h;rw[if_pos a];exact⟨_,rfl,QO mr s a⟩
  .cases h
 rw[if_neg f]at h ⊢;by_cases j:o.kind=3
 .rw[if_pos j]at h ⊢
  cases c:ei o.text.data.toList with
  |none=>rw[c]at h; cases h
  |some l =>
   rw[c]at h;simp only at h ⊢;split at h
   .rename_i k;cases h;rw[if_pos (Hi l _ k)];exact⟨_,rfl,QR _ _ l (zA4 _) c s k⟩
   .cases h
 rw[if_neg j]at h ⊢;by_cases m:o.kind=4
 .rw[if_pos m]at h ⊢;split at h
  .rename_i a;cases h;exact⟨_,rfl,Ms mr s a⟩
  .cases h
 rw[if_neg m]at h ⊢;by_cases n:o.kind=5\/o.kind=6
 .rw[if_pos n]at h ⊢;split at h
  .rename_i a;simp only[zA6,decide_eq_true_eq]at a;obtain⟨⟨⟨⟨z,c2⟩,c3⟩,A⟩,B⟩:=a;cases h;rw[if_pos ⟨z,c2,by omega,A,B⟩];exact⟨_,rfl,Qi mr s (f7 (o.kind=5)) lw lw lw lw⟩
  .cases h
 rw[if_neg n]at h ⊢;by_cases r:o.kind=7
 .rw[if_pos r]at h ⊢;cases h;exact⟨_,rfl,FW mr s bv⟩
 rw[if_neg r]at h ⊢;by_cases w:o.kind=8
 .rw[if_pos w]at h ⊢;cases h;exact⟨_,rfl,FW mr s ci⟩
 rw[if_neg w]at h;cases h
def Kc:∀(l:List CB)(i:Nat){x:St}{t:Tm},pI W x t->St.all W ei l i x=.inl y->∃ b,eS l=a9 b/\pI W y (t.feed ek b)
 |[],i,x,t,s,h=>by rw[St.all]at h;cases h;exact⟨[],rfl,s⟩
 |o::l,i,x,t,s,h=>by
  rw[St.all]at h
  cases a:x.iD W ei o with
  |none=>rw[a]at h; cases h
  |some z =>
   rw[a]at h;obtain⟨b,c,e⟩:=OC s a;obtain⟨r,f,s2⟩:=Kc l (i+1) e h;refine⟨b++r,?_,?_⟩
   .rw[eS,c,f]
   .rw[Tm.ez]; exact s2
end
def RR{h w:Nat}(a:1<=h)(b:h<=200)(w1:1<=w)(c:w<=1000):pI w (⟨List.replicate h (List.replicate w pK),-1,0,⟨0,0,ci,ci,ci⟩,0,0,ci⟩:St) (Tm.new h w):=by
 refine⟨⟨?_,?_,w1,c,fun l e=>?_,Int.le_refl 0,?_,Int.le_refl 0,?_⟩,?_,rfl,rfl,rfl,rfl,rfl,?_,⟨rfl,rfl⟩⟩
 .simp only[zF1]; exact a
 .simp only[zF1]; exact b
 .rw[zH6 e,zF1]
 .simp only[zF1]; omega
 .show (0:Int)<=w; omega
 .show _=iW (List.replicate h (List.replicate w sp));unfold iW;rw[List.map_replicate,List.map_replicate]; rfl
 .show ((h:Nat):Int)-1=((List.replicate h (List.replicate w sp)).length:Int)-1;rw[zF1]
set_option maxRecDepth 100000
def RG.trans{H X Y:aa}{v u:go}{m:List UInt8}{out:Out}(b:Mod (ae v) H X)(c:∀ n∈ae u,n∈ae v\/H.next<=n)(a:H.base<=H.next)(h:RG X u m out Y):RG H v m out Y:=by
 obtain⟨e,w,rfl,f,j⟩:=h;refine⟨b.step e a c,w,rfl,f,fun n k=>?_⟩;rcases j n k with h|h
 .exact c n h
 .have:=b.next; exact .inr lw
def AF{H:aa}{v:go}{l cs:List UInt8}{b k:Nat}{L:List go}(j:cz H 5 1 v (ak l) l.length)(h:ak cs=L)(n:cs.length=k)(o:0<k)(U:l.length<=350000000)(r:k<=1000)(m:H.next=b)(c:H.base<=H.next) :
  ∃ G,aE Tryz.prog (ext H [⟨5,ci,L⟩]) .append ⟨[25,25]⟩ [v,lm (a9 ⟨b+0,0,a9 0⟩) k k]=a9 (lm (a9 ⟨b+1,0,bi⟩) (l.length+k) (l.length+k),ext G [])/\cz G 5 1 (lm (a9 ⟨b+1,0,bi⟩) (l.length+k) (l.length+k)) (ak (l++cs)) (l++cs).length/\Mod (ae v) H G/\G.next=b+2:=by
 subst h;have w:Tryz.prog.underlying 25=a9 (.slice 5):=by kernel_rfl
 have A:br Tryz.prog 5=a9 1:=by kernel_rfl
 have B:bytesOf Tryz.prog 5=a9 1:=by kernel_rfl
 have C:zeroOf Tryz.prog 5=a9 (.int .u8 0):=by kernel_rfl
 have D:fE Tryz.prog 25=a9 false:=by kernel_rfl
 obtain⟨H1,a⟩:=ac (ext H [⟨5,ci,ak cs⟩]);have f:Mod [] H H1:=a▸Mod.ext c;have F:H1.next=b+1:=by rw[<-a,ai,m]; rfl
 have I:bk H1 (b+0)=a9 ⟨5,ci,ak cs⟩:=by rw[<-a,aZ m nl]; rfl
 have J:cz H1 5 1 v (ak l) l.length:=j.of f.next fun q K=>f.get q (j.ne q K).2 nl
 obtain⟨G,O,R,S,V,g5⟩:=oO (P:=Tryz.prog) (st:=25) (xt:=25) (e:=5) (sz:=1) (by1:=1) (z:=.int .u8 0) (off:=0) (cap:=k) (s:=a9 0) (cnt2:=k) (ws:=ak cs) w A B C rfl D J (iq I) (by simp only[jo]; omega) (by
  simp only[zD0,zF0]
  exact zD4 (by rw[jo]; omega)) (xf _) o sm F (by rw[<-j6]; exact pk _ _)
 rw[a];refine⟨G,O,?_,(f.mono nl).trans (S (f.ok c)),by omega⟩;rw[j6,zB3,n];exact R
def join_cons(a:Nat):∀ {l:List Nat},l≠[]->dU (a::l)=iJ a++59::dU l
 |[],h=>absurd rfl h
 |b::l,_=>by rw[dU];simp
def CU:∀(l:List Nat)(n:Nat),dU (l++[n])=dU l++((if 0<l.length then [59] else [])++iJ n)
 |[],n=>by simp[dU]
 |[a],n=>by simp[dU]
 |a::b::l,n=>by have:=CU (b::l) n;rw[zE3,join_cons a nl,this,join_cons a nl];simp
def BR{ns:List Nat}{i n:Nat}(h:ns[i]?=a9 n):dU (ns.take (i+1))=dU (ns.take i)++((if 0<i then [59] else [])++iJ n):=by have a:=(zF5.1 h).1;rw[zG4,h,Option.toList_some,CU,zD9,zH0 lw]
def SP(u:Nat):(iJ u).length<=4:=by unfold iJ; split<;>(try split)<;>(try split)<;>simp
def join_le(ns:List Nat):(dU ns).length<=5*ns.length:=by
 induction ns with
 |nil=>simp[dU]
 |cons a l c =>
  have:=SP a
  cases l with
  |nil=>simp only[dU,zA9,zB4]; omega
  |cons b l =>rw[join_cons a nl,zB3,zA9];simp only[zA9]at c ⊢; omega
def nV(ns:List Nat):List Value:=ns.map fun n:Nat=>Value.int kw (n:Int)
def Fe(l:List UInt8)(ns:List Nat)(i:Nat):List UInt8:=l++27::91::dU (ns.take i)
def QW(H:aa)(t:Pow H)(v R:go)(l:List UInt8)(ns:List Nat)(f:UInt8)(hv:cz H 5 1 v (ak l) l.length)(hl:l.length<=310000000)(hp:qq H 1 R (nV ns) ns.length)(hn:∀ n∈ns,n<=9999)(hns:ns.length<=20)(h2:2∉ae v)(gQ:∀ n∈ae v,n∉ae R)(z:H.base<=H.next) :
  bF Tryz.prog 50 [v,.int .u8 (f.toNat:Int),R] H (RG H v (l++gA ns f)):=by
 have a1:Tryz.prog.underlying 22=a9 (.slice 3):=by kernel_rfl
 have a2:br Tryz.prog 3=a9 1:=by kernel_rfl
 obtain⟨b,hb⟩:=ac H.next;obtain⟨pa,pc,ep⟩:=hp.sl;obtain⟨G,g1,g2,g3,g4⟩:=AF (cs:=[27,91]) (L:=[.int .u8 27,.int .u8 91]) (k:=2) hv rfl rfl ol lw ol hb z;refine aI mixed Tryz.func50 rfl Tryz.ntmps50 (zA7 rfl) ?_;rw[ep];simp only[hb,g1,zW,seval];rw[<-ep];refine da fun E S=>?_;have I:E 0=lm (a9 ⟨b+1,0,bi⟩) (l.length+2) (l.length+2):=by rw[S]; rfl
 have j:E 12=R:=by rw[S]; rfl
 have A:E 1=.int .u8 (f.toNat:Int):=by rw[S]; rfl
 have r:E 13=jp kw (ns.length:Int):=by rw[S]; rfl
 have a:E 14=jp kw ((0:Nat):Int):=by rw[S]; rfl
 clear S;refine cp (fun (q:Nat × go) V X=>q.1<=ns.length/\Mod (ae v) H X/\cz X 5 1 q.2 (ak (Fe l ns q.1)) (Fe l ns q.1).length/\(∀ n∈ae q.2,n∈ae v\/H.next<=n)/\V 0=q.2/\V 1=.int .u8 (f.toNat:Int)/\V 12=R/\V 13=jp kw (ns.length:Int)/\V 14=jp kw (q.1:Int)) (fun q=>ns.length-q.1) (0,lm (a9 ⟨b+1,0,bi⟩) (l.length+2) (l.length+2)) ⟨zB7 _,g3,by simp only[Fe,List.take_zero,dU]; exact g2,fun n hn=>.inr (by simp only[ae,zA5]at hn; omega),I,A,j,r,a⟩ ?_;clear I A j r a g1 g2 g3 g4 E;rintro⟨i,u⟩ E X ⟨hi,C,vX,U,I,A,j,r,a⟩;simp only at hi vX U I a;have D:=C.ok z;obtain⟨y,J⟩:=ac X.next;have yb:X.base<=y:=J▸D;have hby:b<=y:=by have:=C.next; omega
 have u2:2∉ae u:=fun h=>(U 2 h).elim h2 fun h=>by have:=t.1; omega
 have tX:=t.mod C h2;obtain⟨ua,eu⟩:=vX.len;have hjl:(Fe l ns i).length<=l.length+2+100:=by have:=join_le (ns.take i);rw[zD9]at this;simp only[Fe,zB3,zA9];omega
 rw[show X=ext X [] from rfl];by_cases K:i<ns.length
 .have hd:f7 ((i:Int)<(ns.length:Int))=true:=decide_eq_true lw
  obtain⟨n,F⟩:∃ n,ns[i]?=a9 n:=⟨_,zB0 K⟩
  have hn9:=hn n (zC5 F);have rX:qq X 1 R (nV ns) ns.length:=hp.of C.next fun q B=>C.get q (hp.ne q B).2 fun h=>gQ q h (by unfold U9 at B; split at B; exact absurd B nl; exact B);obtain⟨m,off,s,c,e,o,M,e1,n1,r1,hM⟩:=rX.one K;have hM2:M[off+i]?=a9 (jp kw (n:Int)):=by rw[hM,nV,zG0,F]; rfl
  have i1:=Wb (P:=Tryz.prog) (k:=kw) (i:=i) (n:=m) (off:=off) (len:=ns.length) (cap:=c) (s:=s) a1 a2 K;rw[zF0]at i1;have l1:rL Tryz.prog 3 (off+i) (a9 ⟨e,o,M⟩)=a9 (jp kw (n:Int)):=by rw[lf m9,hM2]
  rw[J]at n1;rw[e1]at j;have hw1:IntKind.i64.wrap ((i:Int)+1)=((i+1:Nat):Int):=by rw[IntKind.wrap_i64]; omega
  by_cases h0:i=0
  .have O:f7 ((0:Int)<(i:Int))=false:=decide_eq_false lw;simp only[I,j,r,a,J,hd,O,i1,n1,r1,l1,cm,zW,seval];refine (Lp (ext X []) tX u _ n vX lw hn9 D).mono ?_;rintro out Y ⟨m1,w,rfl,w1,w2⟩;rw[show Y=ext Y [] from rfl];simp only[a,hw1,zW,seval];refine aG ⟨(i+1,w),by simp only; omega,by simp only; omega,C.step m1 z U,?_,fun q B=>?_,by simp only[aF,seval],by simp only[A,aF,seval],by simp only[j,e1,aF,seval],by simp only[r,aF,seval],by simp only[aF]⟩
   .have:Fe l ns (i+1)=Fe l ns i++iJ n:=by
     rw[Fe,Fe,BR F,if_neg lw];simp
    rw[this];exact w1
   .rcases w2 q B with h|h
    .exact U q h
    .exact .inr (by have:=C.next; exact zC4 this h)
  .have O:f7 ((0:Int)<(i:Int))=true:=decide_eq_true lw;obtain⟨G,k1,k2,k3,k4⟩:=AF (cs:=[59]) (L:=[.int .u8 59]) (k:=1) vX rfl rfl ol lw ol J D;simp only[I,j,r,a,J,hd,O,i1,n1,r1,l1,k1,cm,zW,seval];have mG:=C.step k3 z U;refine (Lp (ext G []) (tX.mod k3 u2) _ (Fe l ns i++[59]) n k2 (by rw[zB3,zI0]; omega) hn9 (mG.ok z)).mono ?_;rintro out Y ⟨m1,w,rfl,w1,w2⟩;rw[show Y=ext Y [] from rfl];simp only[a,hw1,zW,seval];have l2:∀ q∈ae (Value.slice (a9 ⟨y+1,0,bi⟩) ((Fe l ns i).length+1) ((Fe l ns i).length+1)),q∈ae v\/H.next<=q:=fun q B=>.inr (by simp only[ae,zA5]at B; omega);refine aG ⟨(i+1,w),by simp only; omega,by simp only; omega,mG.step m1 z l2,?_,fun q B=>?_,by simp only[aF,seval],by simp only[A,aF,seval],by simp only[j,e1,aF,seval],by simp only[r,aF,seval],by simp only[aF]⟩
   .have:Fe l ns (i+1)=(Fe l ns i++[59])++iJ n:=by
     rw[Fe,Fe,BR F,if_pos lw];simp
    rw[this];exact w1
   .rcases w2 q B with h|h
    .exact l2 q h
    .exact .inr (by have:=mG.next; exact zC4 this h)
 .have hd:f7 ((i:Int)<(ns.length:Int))=false:=decide_eq_false lw;obtain⟨G,k1,k2,k3,k4⟩:=AF (cs:=[f]) (L:=[.int .u8 (f.toNat:Int)]) (k:=1) vX rfl rfl ol lw ol J D;simp only[I,A,r,a,J,hd,k1,Tryz.results50,zW,seval];have:Fe l ns i++[f]=l++gA ns f:=by rw[Fe,gA,zD4 lw];simp
  rw[this]at k2;refine⟨C.step k3 z U,_,rfl,?_,fun q B=>.inr (by simp only[ae,zA5]at B; omega)⟩;exact k2
end Go.Proofs.YtpohjcacnkhnkaaGreatDoor.Tq
