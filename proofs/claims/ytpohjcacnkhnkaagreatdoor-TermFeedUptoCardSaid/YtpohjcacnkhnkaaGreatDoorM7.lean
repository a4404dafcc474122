/- Parts of the proof, one behind the other. -/
import Derived.Test.YtpohjcacnkhnkaaGreatDoorM6
import Derived.Test.YtpohjcacnkhnkaaGreatDoorM3
import Derived.Test.YtpohjcacnkhnkaaGreatDoorM4
import Derived.Test.YtpohjcacnkhnkaaGreatDoorRows
import Derived.Shelf.Unicode.ValidAny
import Derived.Lib.ValidLaws
import Derived.Lib.TrimUEq
set_option linter.all false
set_option maxRecDepth 10000
set_option maxHeartbeats 16000000
open Option renaming some->ap,none->bi
open Bool renaming true->bv,false->gc
open Decidable renaming decide->ge
open Go renaming Value->gt,TypeId->ii,Program->io,World->ip,Operand->i4
open Option.some renaming injEq->i5
open Prod.mk renaming injEq->i6
open Go.Value renaming int->i7,pointer->i9,slice->jp,bool->kw
open Go.IntKind renaming i64->i8
open And renaming intro -> zA0
open Option renaming bind_eq_bind -> zA1, bind_eq_some_iff -> zA2, bind_some -> zA4, map_some -> zB1, map_eq_some_iff -> zB5
open List renaming length_cons -> zA3, mem_singleton -> zA6, mem_cons -> zA9, length_nil -> zB0, length_append -> zB2, getElem?_eq_getElem -> zB3, mem_append -> zB4, mem_map -> zB6, nodup_cons -> zB8, map_cons -> zB9, mem_of_getElem? -> zC0, length_drop -> zC1, take_of_length_le -> zC3, mem_cons_of_mem -> zC4, getElem?_eq_none -> zC5, append_assoc -> zC9, nil_append -> zD0, drop_zero -> zD2, all_eq_true -> zD3, append_nil -> zD4, nodup_append -> zD5, mem_cons_self -> zD7, getElem?_eq_some_iff -> zE0, getElem?_map -> zE1, getD_eq_getElem?_getD -> zE3, map_nil -> zE6, eq_nil_of_length_eq_zero -> zE7, drop_eq_nil_of_le -> zE8, length_map -> zE9, length_take -> zF1, not_mem_nil -> zF2, getElem?_cons_zero -> zF3, getElem?_set -> zF4, mem_range -> zF5, cons_append -> zG1, length_replicate -> zG2, ext_getElem? -> zG4, getElem?_append_right -> zG5, getElem?_cons_succ -> zG6
open Nat renaming le_refl -> zA5, le_of_ble_eq_true -> zA8, zero_le -> zB7, lt_or_ge -> zC2, zero_add -> zC6, le_trans -> zC7, lt_of_lt_of_le -> zD1, add_zero -> zD6, lt_succ_self -> zD9, ble_eq -> zE2, mul_one -> zE5, min -> zF0, add_sub_cancel_left -> zF9, sub_self -> zG0
open Bool renaming and_eq_true -> zA7, false_eq_true -> zC8, and_self -> zD8, not_true -> zE4, or_false -> zF6, false_and -> zF7, or_true -> zF8, or_eq_true -> zG3
namespace Go.Proofs.YtpohjcacnkhnkaaGreatDoor.Tq
open Go.Ax
abbrev CY(n:Int):Int:=IntKind.i32.wrap n
def eS(a:UInt8):Int:=IntKind.i64.wrap (fb .u8 (ck a.toNat) 7)
def PL(a:UInt8):Int:=jS .i32 (vJ .i32 (CY (ck a.toNat)) 31) 31
def Qn(a:UInt8):Int:=Ks .i32 (N5 .i32 (CY (a.toNat:Int)) (PL a)) (fb .i32 65533 (PL a))
def QK(a b:UInt8):Int:=Ks .i32 (vJ .i32 (CY (fb .u8 (a.toNat:Int) 31)) 6) (CY (fb .u8 (b.toNat:Int) 63))
def P2(a b c:UInt8):Int:=Ks .i32 (Ks .i32 (vJ .i32 (CY (fb .u8 (a.toNat:Int) 15)) 12) (vJ .i32 (CY (fb .u8 (b.toNat:Int) 63)) 6)) (CY (fb .u8 (c.toNat:Int) 63))
def Qp(a b c d:UInt8):Int:=Ks .i32 (Ks .i32 (Ks .i32 (vJ .i32 (CY (fb .u8 (a.toNat:Int) 7)) 18) (vJ .i32 (CY (fb .u8 (b.toNat:Int) 63)) 12)) (vJ .i32 (CY (fb .u8 (c.toNat:Int) 63)) 6)) (CY (fb .u8 (d.toNat:Int) 63))
def L8(a b:UInt8):Bool:=ge ((b.toNat:Int)<gQ ((jS .u8 (ck a.toNat) 4).toNat*2))||ge (gQ ((jS .u8 (ck a.toNat) 4).toNat*2+1)<(b.toNat:Int))
def FR(c:UInt8):Bool:=ge ((c.toNat:Int)<128)||ge (191<(c.toNat:Int))
def pd(a b c:UInt8):List UInt8->Int × Nat
 |[]=>(65533,1)
 |d::_=>cond (FR d) (65533,1) (Qp a b c d,4)
def lP(a b:UInt8):List UInt8->Int × Nat
 |[]=>(65533,1)
 |c::r=>cond (FR c) (65533,1) (cond (ge (eS a<=3)) (P2 a b c,3) (pd a b c r))
def iW(a:UInt8):List UInt8->Int × Nat
 |[]=>(65533,1)
 |b::r=>cond (L8 a b) (65533,1) (cond (ge (eS a<=2)) (QK a b,2) (lP a b r))
def gj:List UInt8->Int × Nat
 |[]=>(65533,0)
 |a::r=>cond (ge (240<=ck a.toNat)) (Qn a,1) (cond (ge (((r.length+1:Nat):Int)<eS a)) (65533,1) (iW a r))
def lK:List UInt8->Int × Nat
 |[]=>(65533,0)
 |a::r=>cond (ge ((a.toNat:Int)<128)) ((a.toNat:Int),1) (gj (a::r))
def QB{a:UInt8}(h:¬240<=ck a.toNat):2<=eS a/\eS a<=4:=by
 have b:=B3 a.toNat_lt
 rcases b.sz with c|⟨e,f⟩
 .exact absurd c h
 .have:=ak (n:=fb .u8 (ck a.toNat) 7) li li;unfold eS;rw[show IntKind.i64.wrap (fb .u8 (ck a.toNat) 7)=_ from this];exact⟨e,f⟩
def NY(a b c:UInt8)(r:List UInt8):1<=(pd a b c r).2/\(pd a b c r).2<=r.length+3:=by
 cases r with
 |nil=>simp[pd]
 |cons d r=>simp only[pd,zA3]; cases FR d<;>simp<;>omega
def Om(a b:UInt8)(r:List UInt8):1<=(lP a b r).2/\(lP a b r).2<=r.length+2:=by
 cases r with
 |nil=>simp[lP]
 |cons c r =>have:=NY a b c r;simp only[lP,zA3];cases FR c<;>cases ge (eS a<=3)<;>simp<;>omega
def NR(a:UInt8)(r:List UInt8):1<=(iW a r).2/\(iW a r).2<=r.length+1:=by
 cases r with
 |nil=>simp[iW]
 |cons b r =>have:=Om a b r;simp only[iW,zA3];cases L8 a b<;>cases ge (eS a<=2)<;>simp<;>omega
def QD(l:List UInt8)(h:l≠[]):1<=(lK l).2/\(lK l).2<=l.length:=by
 cases l with
 |nil=>exact absurd rfl h
 |cons a r =>have:=NR a r;simp only[lK,gj,zA3];cases ge ((a.toNat:Int)<128)<;>cases ge (240<=ck a.toNat)<;>cases ge (((r.length+1:Nat):Int)<eS a)<;>simp<;>omega
def Ps(n:Int):Prop:=-2147483648<=n/\n<=2147483647
def wrap32(n:Int):Ps (IntKind.i32.wrap n):=by simp only[Ps,IntKind.wrap,IntKind.signed,IntKind.bits];simp;omega
def Hi(a b:Int):Ps (Ks .i32 a b):=wrap32 _
def NQ(l:List UInt8):Ps (lK l).1:=by
 have e:Ps 65533:=⟨by decide,by decide⟩
 have f:∀ a b c r,Ps (pd a b c r).1:=fun a b c r=>by
  cases r with
  |nil=>exact e
  |cons d r=>simp only[pd]; cases FR d; exact Hi _ _; exact e
 have h:∀ a b r,Ps (lP a b r).1:=fun a b r=>by
  cases r with
  |nil=>exact e
  |cons c r=>simp only[lP]; cases FR c; cases ge (eS a<=3); exact f a b c r; exact Hi _ _; exact e
 have j:∀ a r,Ps (iW a r).1:=fun a r=>by
  cases r with
  |nil=>exact e
  |cons b r=>simp only[iW]; cases L8 a b; cases ge (eS a<=2); exact h a b r; exact Hi _ _; exact e
 cases l with
 |nil=>exact e
 |cons a r =>
  simp only[lK,gj];cases ge ((a.toNat:Int)<128)
  .cases ge (240<=ck a.toNat)
   .cases ge (((r.length+1:Nat):Int)<eS a)
    .exact j a r
    .exact e
   .exact Hi _ _
  .have:=a.toNat_lt;exact⟨by simp only[cond_true]; omega,by simp only[cond_true]; omega⟩
def P7(H:aa)(v:gt)(l:List UInt8)(h:bD H v l)(hlt:∀ n∈ae v,n<H.next)(ht:ss H)(hl:l≠[])(s:l.length<1000000):Pure 112 [v] H (.tuple ⟨[.int .i32 (gj l).1,i7 i8 ((gj l).2:Int)]⟩):=by
 obtain⟨b,R⟩:=ac H.next;obtain⟨av,e⟩:=h.sl;obtain⟨a,r,rfl⟩:∃ a r,l=a::r:=by cases l with|nil=>exact absurd rfl hl|cons a r=>exact⟨a,r,rfl⟩
 obtain⟨L,hL⟩:=ac ((a::r).length);have A:L=r.length+1:=by rw[<-hL]; rfl
 rw[hL]at e;obtain⟨n0,o0,i0,m0,D⟩:=h.get (k:=0) (c:=a) rfl;rw[e,show ((0:Nat):Int)=0 from rfl]at i0;have t0:n0<b:=R▸hlt n0 m0;have fo:=B3 a.toNat_lt;have F:=ht.f a.toNat a.toNat_lt;have l0:0<b:=R▸ht.l0;have l1:1<b:=R▸ht.l1;have I:=Rt (a:=a);have J:=RL fo.i0 fo.i1;have B:=ht.a (jS .u8 (ck a.toNat) 4).toNat (by have:=fo.i0; have:=fo.i1; omega);have K:∀(X:aa)(k:IntKind)(m:Int),bM Tryz.prog X 5 3 (.int k m)=ap (i7 i8 (IntKind.i64.wrap m),X):=fun X k m=>im (u:=.int .u8) ls ls;have hcv2:∀(X:aa)(k:IntKind)(m:Int),bM Tryz.prog X 5 21 (.int k m)=ap (.int .i32 (IntKind.i32.wrap m),X):=fun X k m=>im (u:=.int .u8) ls ls;have dz:ge ((L:Int)<1)=false:=decide_eq_false li
 obtain⟨d240,j⟩:∃ d,ge (240<=ck a.toNat)=d:=⟨_,rfl⟩
 obtain⟨dn,hdn⟩:∃ d,ge ((L:Int)<eS a)=d:=⟨_,rfl⟩
 have w:=hdn;unfold eS at w;have key:gj (a::r)=cond d240 (Qn a,1) (cond dn (65533,1) (iW a r)):=by simp only[gj,j,<-A,hdn]
 rw[key];refine ba mixed Tryz.func112 rfl Tryz.ntmps112 (zA8 rfl) fun wf hsc=>?_;have o:H.base<=b:=R▸wf.base;rw[e]
 cases d240 with
 |true =>simp only[R,dz,i0,t0,D,I,l0,F,j,oY,iH,Og,BX,Ny,F3,IJ,vZ,oT,iP,aY,hcv2,seval,cond_true,Tryz.results112,zW];exact Fin.cq rfl rfl
 |false =>
  have hsz:=QB (a:=a) (fun h=>by have:=j.symm.trans (decide_eq_true h); simp at this)
  cases dn with
  |true =>simp only[R,o,dz,i0,t0,D,I,l0,l1,F,j,w,oY,iH,oT,iP,aY,K,J,B,seval,cond_true,cond_false,Tryz.results112,zW];exact Fin.cq rfl rfl
  |false =>
   have hLn:eS a<=(L:Int):=by have:=of_decide_eq_false hdn; omega
   match r,h,hl,s,hL,A with
   |[],h,hl,s,hL,A=>simp at A; omega
   |b1::r1,h,hl,s,hL,A =>
    obtain⟨n1,o1,i1,m1,S⟩:=h.get (k:=1) (c:=b1) rfl;rw[e,show ((1:Nat):Int)=1 from rfl]at i1;have t1:n1<b:=R▸hlt n1 m1
    obtain⟨dA,O⟩:∃ d,ge ((b1.toNat:Int)<gQ ((jS .u8 (ck a.toNat) 4).toNat*2))=d:=⟨_,rfl⟩
    obtain⟨dB,U⟩:∃ d,ge (gQ ((jS .u8 (ck a.toNat) 4).toNat*2+1)<(b1.toNat:Int))=d:=⟨_,rfl⟩
    obtain⟨s2,hs2⟩:∃ d,ge (eS a<=2)=d:=⟨_,rfl⟩
    have C:=hs2;unfold eS at C;simp only[iW,L8,O,U,hs2]
    cases dA with
    |true =>simp only[R,o,dz,i0,t0,D,I,l0,l1,F,j,w,oY,iH,oT,iP,aY,K,J,B,seval,cond_true,cond_false,i1,t1,S,O,Bool.true_or,Tryz.results112,zW];exact Fin.cq rfl rfl
    |false =>
    cases dB with
    |true =>simp only[R,o,dz,i0,t0,D,I,l0,l1,F,j,w,oY,iH,oT,iP,aY,K,J,B,seval,cond_true,cond_false,i1,t1,S,O,U,zF8,Tryz.results112,zW];exact Fin.cq rfl rfl
    |false =>
    cases s2 with
    |true =>simp only[R,o,dz,i0,t0,D,I,l0,l1,F,j,w,oY,iH,Og,BX,IJ,vZ,oT,iP,aY,K,hcv2,J,B,seval,cond_true,cond_false,i1,t1,S,O,U,C,zF6,Tryz.results112,zW];exact Fin.cq rfl rfl
    |false =>
    have hs3:3<=eS a:=by have:=of_decide_eq_false hs2; omega
    match r1,h,hl,s,hL,A with
    |[],h,hl,s,hL,A=>simp at A; omega
    |b2::r2,h,hl,s,hL,A =>
     obtain⟨n2,o2,i2,m2,ld2⟩:=h.get (k:=2) (c:=b2) rfl;rw[e,show ((2:Nat):Int)=2 from rfl]at i2;have t2:n2<b:=R▸hlt n2 m2
     obtain⟨dC,hdC⟩:∃ d,ge ((b2.toNat:Int)<128)=d:=⟨_,rfl⟩
     obtain⟨dD,hdD⟩:∃ d,ge (191<(b2.toNat:Int))=d:=⟨_,rfl⟩
     obtain⟨s3,hs3'⟩:∃ d,ge (eS a<=3)=d:=⟨_,rfl⟩
     have V:=hs3';unfold eS at V;simp only[lP,FR,hdC,hdD,hs3',zF6,cond_false]
     cases dC with
     |true =>simp only[R,o,dz,i0,t0,D,I,l0,l1,F,j,w,oY,iH,oT,iP,aY,K,J,B,seval,cond_true,i1,t1,S,O,U,C,i2,t2,ld2,hdC,Bool.true_or,Tryz.results112,zW];exact Fin.cq rfl rfl
     |false =>
     cases dD with
     |true =>simp only[R,o,dz,i0,t0,D,I,l0,l1,F,j,w,oY,iH,oT,iP,aY,K,J,B,seval,cond_true,i1,t1,S,O,U,C,i2,t2,ld2,hdC,hdD,zF8,Tryz.results112,zW];exact Fin.cq rfl rfl
     |false =>
     cases s3 with
     |true =>simp only[R,o,dz,i0,t0,D,I,l0,l1,F,j,w,oY,iH,Og,BX,IJ,vZ,oT,iP,aY,K,hcv2,J,B,seval,cond_true,cond_false,i1,t1,S,O,U,C,i2,t2,ld2,hdC,hdD,V,zF6,Tryz.results112,zW];exact Fin.cq rfl rfl
     |false =>
     have hs4:4<=eS a:=by have:=of_decide_eq_false hs3'; omega
     match r2,h,hl,s,hL,A with
     |[],h,hl,s,hL,A=>simp at A; omega
     |b3::r3,h,hl,s,hL,A =>
      obtain⟨n3,o3,i3,m3,ld3⟩:=h.get (k:=3) (c:=b3) rfl;rw[e,show ((3:Nat):Int)=3 from rfl]at i3;have t3:n3<b:=R▸hlt n3 m3
      obtain⟨dE,hdE⟩:∃ d,ge ((b3.toNat:Int)<128)=d:=⟨_,rfl⟩
      obtain⟨dF,hdF⟩:∃ d,ge (191<(b3.toNat:Int))=d:=⟨_,rfl⟩
      simp only[pd,FR,hdE,hdF,zF6,cond_false]
      cases dE<;>cases dF <;>
       (simp only[R,o,dz,i0,t0,D,I,l0,l1,F,j,w,oY,iH,Og,BX,IJ,vZ,oT,iP,aY,K,hcv2,J,B,seval,cond_true,cond_false,i1,t1,S,O,U,C,i2,t2,ld2,hdC,hdD,V,i3,t3,ld3,hdE,hdF,zF8,zF6,Tryz.results112,zW]
        exact Fin.cq rfl rfl)
def RD(H:aa)(v:gt)(l:List UInt8)(h:bD H v l)(C:∀ n∈ae v,n<H.next)(ht:ss H)(hl:l≠[])(D:l.length<1000000):Pure 80 [v] H (.tuple ⟨[.int .i32 (lK l).1,i7 i8 ((lK l).2:Int)]⟩):=by
 obtain⟨b,S⟩:=ac H.next;obtain⟨o,e⟩:=h.sl;obtain⟨a,r,rfl⟩:∃ a r,l=a::r:=by cases l with|nil=>exact absurd rfl hl|cons a r=>exact⟨a,r,rfl⟩
 obtain⟨L,hL⟩:=ac ((a::r).length);have hLr:L=r.length+1:=by rw[<-hL]; rfl
 rw[hL]at e;obtain⟨n0,o0,U,m0,F⟩:=h.get (k:=0) (c:=a) rfl;rw[e,show ((0:Nat):Int)=0 from rfl]at U;have t0:n0<b:=S▸C n0 m0;have I:∀(X:aa)(k:IntKind)(m:Int),bM Tryz.prog X 5 21 (.int k m)=ap (.int .i32 (IntKind.i32.wrap m),X):=fun X k m=>im (u:=.int .u8) ls ls;have J:IntKind.i32.wrap (a.toNat:Int)=(a.toNat:Int):=by have:=a.toNat_lt;simp only[IntKind.wrap,IntKind.signed,IntKind.bits];simp;omega
 have d0:ge ((0:Int)<(L:Int))=true:=decide_eq_true li
 obtain⟨V,f⟩:∃ d,ge ((a.toNat:Int)<128)=d:=⟨_,rfl⟩
 have key:lK (a::r)=cond V ((a.toNat:Int),1) (gj (a::r)):=by simp only[lK,f]
 rw[key];refine ba mixed Tryz.func80 rfl Tryz.ntmps80 (zA8 rfl) fun wf hsc=>?_;have K:=P7 H v (a::r) h C ht hl D;rw[e]at K ⊢;simp only[zW,seval];refine c7 fun E O=>?_;have j:E 0=.slice o L L:=by rw[O]; rfl
 have s:E 6=.slice o L L:=by rw[O]; rfl
 have w:E 7=i7 i8 (L:Int):=by rw[O]; rfl
 have A:E 8=i7 i8 0:=by rw[O]; rfl
 clear O
 obtain⟨P0,R⟩:∃ P0:Prop,P0=(V=gc):=⟨_,rfl⟩
 refine bn (fun B H'=>H'=H/\P0/\B 0=.slice o L L) ?_ ?_
 .refine b8 (fun (q:Unit) B H'=>H'=H/\B 0=.slice o L L/\B 6=.slice o L L/\B 7=i7 i8 (L:Int)/\B 8=i7 i8 0) (fun _=>0) () ⟨rfl,j,s,w,A⟩ ?_;clear j s w A E;rintro _ E X ⟨hX,j,s,w,A⟩;rw[hX,show H=ext H [] from rfl]
  cases V with
  |true =>simp only[s,w,A,S,d0,U,t0,F,f,aY,I,J,da,cond_true,Tryz.results80,zW,seval];exact Fin.cq rfl rfl
  |false =>simp only[s,w,A,S,d0,U,t0,F,f,zW,seval];rw[rK mt,tg,qB,od];refine ah ⟨rfl,R.mpr rfl,?_⟩;simp only[j,aE,seval]
 clear j s w A E;rintro E X ⟨hX,hdd,j⟩;rw[hX,R.mp hdd,cond_false,show H=ext H [] from rfl];simp only[j,zW,seval];refine (show br Tryz.prog 112 [.slice o L L] (ext H []) _ (ext H []) from K).to ?_;simp only[Tryz.results80,zW,seval];exact Fin.cq rfl rfl
end Go.Proofs.YtpohjcacnkhnkaaGreatDoor.Tq
namespace Go.Proofs.YtpohjcacnkhnkaaGreatDoor
open Go.Ax
def rj(c:Int):Bool:=ge (0<=c)&&ge (c<=1114111)&&!(ge (55296<=c)&&ge (c<=57343))
def Sc(H:aa)(c:Int):Pure 122 [i7 i8 c] H (kw (rj c)):=by
 obtain⟨h,a⟩:∃ d,ge (0<=c)=d:=⟨_,rfl⟩
 obtain⟨j,b⟩:∃ d,ge (c<=1114111)=d:=⟨_,rfl⟩
 obtain⟨k,e⟩:∃ d,ge (55296<=c)=d:=⟨_,rfl⟩
 obtain⟨m,f⟩:∃ d,ge (c<=57343)=d:=⟨_,rfl⟩
 simp only[rj,a,b,e,f];refine ba mixed Tryz.func122 rfl Tryz.ntmps122 (zA8 rfl) fun wf n=>?_;cases h<;>cases j<;>cases k<;>cases m<;>(simp only[a,b,e,f,Tryz.results122,zW,seval]; exact Fin.cq rfl rfl)
def oD(f:Nat->Bool):Nat->Nat->Nat->Nat
 |0,i,_=>i
 |k+1,i,j=>if i<j then (cond (f ((i+j) / 2)) (oD f k i ((i+j) / 2)) (oD f k ((i+j) / 2+1) j)) else i
def JY(f:Nat->Bool)(k i j:Nat)(h:¬i<j):oD f k i j=i:=by
 cases k with
 |zero=>rfl
 |succ k=>rw[oD,if_neg h]
def Er(l:List (Int × Int)):List Value:=l.flatMap fun q=>[i7 i8 q.1,i7 i8 q.2]
def B1(l:List (Int × Int))(k:Nat)(q:Int × Int)(h:l[k]?=ap q):(Er l)[k*2]?=ap (i7 i8 q.1)/\(Er l)[k*2+1]?=ap (i7 i8 q.2):=by
 induction l generalizing k with
 |nil=>simp at h
 |cons a l b =>
  cases k with
  |zero =>simp only[zF3,i5]at h;subst h;exact⟨rfl,rfl⟩
  |succ k =>have:=b k (by simpa using h);rw[show (k+1)*2=k*2+2 by omega];exact this
def PG{len cap n:Nat}{s:Option Nat}{k:Nat}(a:k<len):aS Tryz.prog 167 (jp (ap ⟨n,0,s⟩) len cap) (i7 i8 (k:Int))=ap (i9 (ap ⟨n,k*2,bi⟩)):=by rw[gP (e:=163) (sz:=2) ls ls li li];simp
structure Si (H:aa) (bs bc m:Nat) (c:Int) (sp:List (Int × Int)):Prop where
 s:bk H bs=ap ⟨167,gc,[jp (ap ⟨m,0,ap 0⟩) sp.length sp.length]⟩
 c:bk H bc=ap ⟨3,gc,[i7 i8 c]⟩
 m:∃ e,bk H m=ap ⟨e,gc,Er sp⟩
def pb(c:Int)(sp:List (Int × Int))(i:Nat):Bool:=ge (c<=(sp.getD i (0,0)).2)
def Qg(H:aa)(f j m:Nat)(c:Int)(sp:List (Int × Int))(h:Si H f j m c sp)(i:Nat)(hi:i<sp.length):Pure 154 [i7 i8 (i:Int),i9 (ap ⟨f,0,bi⟩),i9 (ap ⟨j,0,bi⟩)] H (kw (pb c sp i)):=by
 obtain⟨b,a⟩:=ac H.next;obtain⟨o,r,e,w⟩:=h
 obtain⟨q,A⟩:∃ q,sp[i]?=ap q:=⟨_,zB3 hi⟩
 have B:=(B1 sp i q A).2;have C:sp.getD i (0,0)=q:=by rw[List.getD,A]; rfl
 have k:=PG (len:=sp.length) (cap:=sp.length) (n:=m) (s:=ap 0) hi;refine ba mixed Tryz.func154 rfl Tryz.ntmps154 (zA8 rfl) fun wf D=>?_;have F:f<b:=a▸wf.lt o;have I:j<b:=a▸wf.lt r;have J:m<b:=a▸wf.lt w;simp only[zW,seval];refine aK [] [] ls rfl rfl fun ops anc K O=>?_;simp only[a,o,r,w,F,I,J,k,B,pb,C,Tryz.results154,bh,zW,seval];exact Fin.cq rfl rfl
def Jp{i j:Nat}(h:i+j<1000000):IntKind.i64.wrap (jS .u64 (IntKind.u64.wrap (IntKind.i64.wrap ((i:Int)+(j:Int)))) 1)=(((i+j) / 2:Nat):Int):=by
 have a:=ak (n:=(i:Int)+(j:Int)) li li;rw[show IntKind.i64.wrap ((i:Int)+(j:Int))=_ from a];have b:IntKind.u64.wrap ((i:Int)+(j:Int))=(i:Int)+(j:Int):=by simp only[IntKind.wrap,IntKind.signed,IntKind.bits];simp;omega
 rw[b];have c:jS .u64 ((i:Int)+(j:Int)) 1=(((i+j) / 2:Nat):Int):=by simp only[jS,IntKind.bits];rw[Int.fdiv_eq_ediv_of_nonneg _ mt];simp
 rw[c];exact ak li li
def Ln(H:aa)(w A m:Nat)(c:Int)(sp:List (Int × Int))(h:Si H w A m c sp)(V:sp.length<=1000):Pure 153 [i7 i8 (sp.length:Int),.func (.func 154) ⟨[]⟩ ⟨[i9 (ap ⟨w,0,bi⟩),i9 (ap ⟨A,0,bi⟩)]⟩] H (i7 i8 (oD (pb c sp) sp.length 0 sp.length:Int)):=by
 obtain⟨b,hb⟩:=ac H.next;have J:∀(X:aa)(k:IntKind)(m:Int),bM Tryz.prog X 3 138 (.int k m)=ap (.int .u64 (IntKind.u64.wrap m),X):=fun X k m=>im (u:=.int i8) ls ls;have B:∀(X:aa)(k:IntKind)(m:Int),bM Tryz.prog X 138 3 (.int k m)=ap (i7 i8 (IntKind.i64.wrap m),X):=fun X k m=>im (u:=.int .u64) ls ls;refine ba mixed Tryz.func153 rfl Tryz.ntmps153 (zA8 rfl) fun wf hsc=>?_;simp only[zW,seval];refine c7 fun E F=>?_;have r:E 1=.func (.func 154) ⟨[]⟩ ⟨[i9 (ap ⟨w,0,bi⟩),i9 (ap ⟨A,0,bi⟩)]⟩:=by rw[F]; rfl
 have a:E 5=i7 i8 ((0:Nat):Int):=by rw[F]; rfl
 have o:E 6=i7 i8 (sp.length:Int):=by rw[F]; rfl
 clear F;refine bn (fun C K=>K=H/\C 5=i7 i8 (oD (pb c sp) sp.length 0 sp.length:Int)) ?_ ?_
 .refine b8 (fun (q:Nat × Nat × Nat) C K=>K=H/\q.2.1-q.1<=q.2.2/\q.2.1<=sp.length/\oD (pb c sp) q.2.2 q.1 q.2.1=oD (pb c sp) sp.length 0 sp.length/\C 1=.func (.func 154) ⟨[]⟩ ⟨[i9 (ap ⟨w,0,bi⟩),i9 (ap ⟨A,0,bi⟩)]⟩/\C 5=i7 i8 (q.1:Int)/\C 6=i7 i8 (q.2.1:Int)) (fun q=>q.2.1-q.1) (0,sp.length,sp.length)
   ⟨rfl,by simp,zA5 _,rfl,r,a,o⟩ ?_
  clear r a o E;rintro⟨i,j,k⟩ E X ⟨O,hk,hj,n,r,a,o⟩;simp only at hk hj n a o;rw[O,show H=ext H [] from rfl];by_cases D:i<j
  .have R:ge ((i:Int)<(j:Int))=true:=decide_eq_true li
   obtain⟨I,rfl⟩:∃ I,k=I+1:=⟨k-1,by omega⟩
   rw[oD,if_pos D]at n;have e:=Jp (i:=i) (j:=j) li;obtain⟨s,S⟩:=ac ((i+j) / 2);rw[S]at e n;have hm1:i<=s/\s<j:=by omega
   have U:=bA (show s<1000000 by omega);have hp:=Qg H w A m c sp h s li;simp only[r,a,o,R,aY,J,B,oT,iP,e,seval,zW];refine Hz (f:=154) (ca:=[i9 (ap ⟨w,0,bi⟩),i9 (ap ⟨A,0,bi⟩)]) rfl rfl rfl ls ?_;simp only[aE];refine (show br Tryz.prog 154 _ (ext H []) _ (ext H []) from hp).to ?_
   cases hf:pb c sp s with
   |true =>rw[hf,cond_true]at n;simp only[zW,seval];refine aC ⟨(i,s,I),by simp only; omega,rfl,by simp only; omega,by simp only; omega,n,?_,?_,?_⟩<;>simp only[r,a,aE,seval]
   |false =>rw[hf,cond_false]at n;simp only[U,zW,seval];refine aC ⟨(s+1,j,I),by simp only; omega,rfl,by simp only; omega,by simp only; omega,n,?_,?_,?_⟩<;>simp only[r,o,aE,seval]
  .have R:ge ((i:Int)<(j:Int))=false:=decide_eq_false li;rw[JY _ _ _ _ D]at n;simp only[a,o,R,zW,seval];refine ah ⟨rfl,?_⟩;simp only[a,n,aE,seval]
 clear r a o E;rintro E X ⟨O,a⟩;rw[O,show H=ext H [] from rfl];simp only[a,Tryz.results153,zW,seval];exact Fin.pure rfl
def PH(c:Int)(sp:List (Int × Int)):Bool :=
 ge (oD (pb c sp) sp.length 0 sp.length<sp.length)&&ge ((sp.getD (oD (pb c sp) sp.length 0 sp.length) (0,0)).1<=c)
def Rv(H:aa)(m:Nat)(c:Int)(sp:List (Int × Int))(h:∃ e,bk H m=ap ⟨e,gc,Er sp⟩)(r:sp.length<=1000):Pure 123 [i7 i8 c,jp (ap ⟨m,0,ap 0⟩) sp.length sp.length] H (kw (PH c sp)):=by
 obtain⟨b,o⟩:=ac H.next;obtain⟨e,A⟩:=h;obtain⟨k,F⟩:=ac sp.length;obtain⟨i,hi⟩:=ac (oD (pb c sp) sp.length 0 sp.length)
 obtain⟨I,f⟩:∃ d,ge (i<k)=d:=⟨_,rfl⟩
 have a:ge ((i:Int)<(k:Int))=I:=by
  rw[<-f];by_cases h:i<k
  .rw[decide_eq_true h,decide_eq_true li]
  .rw[decide_eq_false h,decide_eq_false li]
 refine ba mixed Tryz.func123 rfl Tryz.ntmps123 (zA8 rfl) fun wf O=>?_;have J:m<b:=o▸wf.lt A
 have w:Si (ext H [⟨3,gc,[i7 i8 c]⟩,⟨167,gc,[jp (ap ⟨m,0,ap 0⟩) sp.length sp.length]⟩]) (b+1) (b+0) m c sp :=
  ⟨by rw[bJ o lw]; rfl,by rw[bJ o lw]; rfl,e,by rw[iI li]; exact A⟩
 have j:=Ln _ (b+1) (b+0) m c sp w r;unfold PH;rw[hi]at j ⊢;rw[F]at j ⊢;rw[f];simp (maxDischargeDepth:=6) only[o,J,zW,seval];refine j.to ?_;simp (maxDischargeDepth:=6) only[zW,seval];refine aK [] [(4,14)] ls rfl ls fun ops anc U B=>?_;simp only[aj]at B
 cases I with
 |false =>simp (maxDischargeDepth:=6) only[o,B,a,zF7,Tryz.results123,bh,zW,seval];exact Fin.cq rfl rfl
 |true =>
  have C:i<sp.length:=by rw[F]; exact of_decide_eq_true f
  obtain⟨q,K⟩:∃ q,sp[i]?=ap q:=⟨_,zB3 C⟩
  have R:=(B1 sp i q K).1;have S:sp.getD i (0,0)=q:=by rw[List.getD,K]; rfl
  have D:=PG (len:=k) (cap:=k) (n:=m) (s:=ap 0) (k:=i) li;rw[S];simp (maxDischargeDepth:=6) only[o,J,A,B,a,D,R,Bool.true_and,Tryz.results123,bh,zW,seval];exact Fin.cq rfl rfl
def iN:List (Int × Int):=[(768,879),(1155,1161),(1425,1469),(8203,8207),(8400,8447),(65024,65039),(65056,65071)]
def kP:List (Int × Int):=[(0,8),(10,31),(127,127),(4352,4447),(11904,12350),(12353,42191),(44032,55203),(63744,64255),(65072,65135),(65280,65376),(65504,65510),(127744,128591),(129280,129535),(131072,262141)]
def cB(c:Int):Nat:=if (!rj c||PH c iN)=bv then 0 else if PH c kP=bv then 2 else 1
def iK(H:aa)(c:Int):Pure 88 [i7 i8 c] H (i7 i8 (cB c:Int)):=by
 obtain⟨b,w⟩:=ac H.next;refine ba mixed Tryz.func88 rfl Tryz.ntmps88 (zA8 rfl) fun wf J=>?_;have f:H.base<=b:=w▸wf.base;have A:Tryz.prog.underlying 164=ap (.array 7 163):=by kernel_rfl
 have j:Tryz.prog.underlying 165=ap (.array 14 163):=by kernel_rfl
 have k:bg Tryz.prog 163=ap 2:=by kernel_rfl
 have m:∀(X:aa)(n:Nat),cw Tryz.prog X 164 (i9 (ap ⟨n,0,bi⟩)) bi bi bi=ap (jp (ap ⟨n,0,ap 0⟩) 7 7,X):=fun X n=>by simp only[cw,A,bound,k,zA1,zA4];rfl
 have h:∀(X:aa)(n:Nat),cw Tryz.prog X 165 (i9 (ap ⟨n,0,bi⟩)) bi bi bi=ap (jp (ap ⟨n,0,ap 0⟩) 14 14,X):=fun X n=>by simp only[cw,j,bound,k,zA1,zA4];rfl
 obtain⟨B,p9⟩:∃ d,rj c=d:=⟨_,rfl⟩
 obtain⟨d1,o⟩:∃ d,PH c iN=d:=⟨_,rfl⟩
 obtain⟨C,r⟩:∃ d,PH c kP=d:=⟨_,rfl⟩
 have s:=Sc (ext H [⟨164,gc,Er iN⟩,⟨165,gc,Er kP⟩]) c;have a:=Rv (ext H [⟨164,gc,Er iN⟩,⟨165,gc,Er kP⟩]) (b+0) c iN ⟨164,by rw[bJ w lw]; rfl⟩ mt;have e:=Rv (ext H [⟨164,gc,Er iN⟩,⟨165,gc,Er kP⟩]) (b+1) c kP ⟨165,by rw[bJ w lw]; rfl⟩ mt;rw[p9]at s;rw[o]at a;rw[r]at e;have D:iN.length=7:=rfl;have F:kP.length=14:=rfl;rw[D]at a;rw[F]at e;have I:cB c=cond (!B||d1) 0 (cond C 2 1):=by unfold cB;rw[p9,o,r];cases B<;>cases d1<;>cases C<;>rfl
 rw[I];simp only[w,f,zW,seval];refine s.to ?_
 cases B with
 |false =>simp only[Bool.not_false,Bool.true_or,cond_true,Tryz.results88,zW,seval];exact Fin.cq rfl rfl
 |true =>
  simp only[m,zW,seval];refine a.to ?_
  cases d1 with
  |true =>simp only[zF8,cond_true,Tryz.results88,zW,seval];exact Fin.cq rfl rfl
  |false =>simp only[h,zW,seval];refine e.to ?_;cases C<;>(simp only[zF6,cond_true,cond_false,Tryz.results88,zW,seval]; exact Fin.cq rfl rfl)
def Cp(H:aa)(c:Int):Pure 126 [i7 i8 c] H (kw (rj c)):=by
 obtain⟨m,a⟩:∃ d,ge (0<=c)=d:=⟨_,rfl⟩
 obtain⟨n,b⟩:∃ d,ge (c<=1114111)=d:=⟨_,rfl⟩
 obtain⟨e,f⟩:∃ d,ge (c<55296)=d:=⟨_,rfl⟩
 obtain⟨j,k⟩:∃ d,ge (57343<c)=d:=⟨_,rfl⟩
 have o:ge (55296<=c)=!e:=by rw[<-f]; by_cases h:c<55296<;>simp[h]<;>omega
 have r:ge (c<=57343)=!j:=by rw[<-k]; by_cases h:57343<c<;>simp[h]<;>omega
 simp only[rj,a,b,o,r];refine ba mixed Tryz.func126 rfl Tryz.ntmps126 (zA8 rfl) fun wf s=>?_;cases m<;>cases n<;>cases e<;>cases j<;>(simp only[a,b,f,k,Tryz.results126,zW,seval]; exact Fin.cq rfl rfl)
def sF(c:Int)(sp:List (Int × Int)):Bool:=sp.any fun q=>ge (q.1<=c)&&ge (c<=q.2)
def Il{len cap n:Nat}{s:Option Nat}{k:Nat}(a:k<len):aS Tryz.prog 22 (jp (ap ⟨n,0,s⟩) len cap) (i7 i8 (k:Int))=ap (i9 (ap ⟨n,k,bi⟩)):=by rw[gP (e:=3) (sz:=1) ls ls li li];simp
def Jc(H:aa)(m:Nat)(c:Int)(sp:List (Int × Int))(h:∃ e o,bk H m=ap ⟨e,o,Er sp⟩)(hlen:sp.length<=1000):Pure 127 [i7 i8 c,jp (ap ⟨m,0,ap 0⟩) (sp.length*2) (sp.length*2)] H (kw (sF c sp)):=by
 obtain⟨b,I⟩:=ac H.next;obtain⟨e,o,J⟩:=h;refine ba mixed Tryz.func127 rfl Tryz.ntmps127 (zA8 rfl) fun wf hsc=>?_;have R:m<b:=I▸wf.lt J;simp only[zW,seval];refine c7 fun E K=>?_;have f:E 0=i7 i8 c:=by rw[K]; rfl
 have a:E 1=jp (ap ⟨m,0,ap 0⟩) (sp.length*2) (sp.length*2):=by rw[K]; rfl
 have w:E 5=i7 i8 ((0*2:Nat):Int):=by rw[K]; rfl
 clear K;refine bn (fun O S=>S=H/\sF c sp=gc) ?_ ?_
 .refine b8 (fun (k:Nat) O S=>S=H/\k<=sp.length/\sF c sp=sF c (sp.drop k)/\O 0=i7 i8 c/\O 1=jp (ap ⟨m,0,ap 0⟩) (sp.length*2) (sp.length*2)/\O 5=i7 i8 ((k*2:Nat):Int)) (fun k=>sp.length-k) 0
   ⟨rfl,zB7 _,rfl,f,a,w⟩ ?_
  clear f a w E;rintro k E X ⟨U,hk,A,f,a,w⟩;rw[U,show H=ext H [] from rfl];have j:IntKind.i64.wrap (((k*2:Nat):Int)+1)=((k*2+1:Nat):Int):=bA li;by_cases B:k<sp.length
  .have D:ge (((k*2+1:Nat):Int)<((sp.length*2:Nat):Int))=true:=decide_eq_true li;have F:IntKind.i64.wrap (((k*2:Nat):Int)+2)=(((k+1)*2:Nat):Int):=(ak li li).trans li
   obtain⟨q,V⟩:∃ q,sp[k]?=ap q:=⟨_,zB3 B⟩
   obtain⟨q1,q2⟩:=B1 sp k q V;have hdr:sp.drop k=q::sp.drop (k+1):=by rw[List.drop_eq_getElem_cons B];rw[zB3 B]at V;rw[Option.some.inj V]
   have i0:=Il (len:=sp.length*2) (cap:=sp.length*2) (n:=m) (s:=ap 0) (k:=k*2) li;have i1:=Il (len:=sp.length*2) (cap:=sp.length*2) (n:=m) (s:=ap 0) (k:=k*2+1) li
   obtain⟨d1,r⟩:∃ d,ge (q.1<=c)=d:=⟨_,rfl⟩
   obtain⟨d2,C⟩:∃ d,ge (c<=q.2)=d:=⟨_,rfl⟩
   have A:sF c sp=(d1&&d2||sF c (sp.drop (k+1))):=by rw[A,hdr]; simp only[sF,List.any_cons,r,C]
   cases d1 with
   |false =>simp only[f,a,w,j,F,D,i0,q1,I,R,J,r,zW,seval];refine aC ⟨k+1,by omega,rfl,by omega,by simpa using A,?_,?_,?_⟩<;>simp only[f,a,aE,seval]
   |true =>
    cases d2 with
    |false =>simp only[f,a,w,j,F,D,i0,i1,q1,q2,I,R,J,r,C,zW,seval];refine aC ⟨k+1,by omega,rfl,by omega,by simpa using A,?_,?_,?_⟩<;>simp only[f,a,aE,seval]
    |true =>simp only[f,a,w,j,D,i0,i1,q1,q2,I,R,J,r,C,da,Tryz.results127,zW,seval];exact Fin.cq (by rw[A]; rfl) rfl
  .have D:ge (((k*2+1:Nat):Int)<((sp.length*2:Nat):Int))=false:=decide_eq_false li;rw[zE8 li]at A;simp only[a,w,j,D,zW,seval];exact ah ⟨rfl,A⟩
 clear f a w E;rintro E X ⟨U,hl⟩;rw[U,show H=ext H [] from rfl,hl];simp only[Tryz.results127,zW,seval];exact Fin.pure rfl
def oA(c:Int):Nat:=if (!rj c||sF c iN)=bv then 0 else if sF c kP=bv then 2 else 1
def EB(H:aa)(c:Int):Pure 91 [i7 i8 c] H (i7 i8 (oA c:Int)):=by
 obtain⟨b,k⟩:=ac H.next;refine ba mixed Tryz.func91 rfl Tryz.ntmps91 (zA8 rfl) fun wf w=>?_
 obtain⟨m,p9⟩:∃ d,rj c=d:=⟨_,rfl⟩
 obtain⟨d1,f⟩:∃ d,sF c iN=d:=⟨_,rfl⟩
 obtain⟨n,h⟩:∃ d,sF c kP=d:=⟨_,rfl⟩
 have j:=Cp (ext H [⟨3,gc,Er iN⟩,⟨3,gc,Er kP⟩]) c;have a:=Jc (ext H [⟨3,gc,Er iN⟩,⟨3,gc,Er kP⟩]) (b+0) c iN ⟨3,gc,by rw[bJ k lw]; rfl⟩ mt;have e:=Jc (ext H [⟨3,gc,Er iN⟩,⟨3,gc,Er kP⟩]) (b+1) c kP ⟨3,gc,by rw[bJ k lw]; rfl⟩ mt;rw[p9]at j;rw[f]at a;rw[h]at e;have o:iN.length*2=14:=rfl;have r:kP.length*2=28:=rfl;rw[o]at a;rw[r]at e;have s:oA c=cond (!m||d1) 0 (cond n 2 1):=by unfold oA;rw[p9,f,h];cases m<;>cases d1<;>cases n<;>rfl
 rw[s];simp only[k,zW,seval];refine j.to ?_
 cases m with
 |false =>simp only[Bool.not_false,Bool.true_or,cond_true,Tryz.results91,zW,seval];exact Fin.cq rfl rfl
 |true =>
  simp only[zW,seval];refine a.to ?_
  cases d1 with
  |true =>simp only[zF8,cond_true,Tryz.results91,zW,seval];exact Fin.cq rfl rfl
  |false =>simp only[zW,seval];refine e.to ?_;cases n<;>(simp only[zF6,cond_true,cond_false,Tryz.results91,zW,seval]; exact Fin.cq rfl rfl)
def sorted:List (Int × Int)->Bool
 |[]=>bv
 |[q]=>ge (q.1<=q.2)
 |q::r::l=>ge (q.1<=q.2)&&ge (q.2<r.1)&&sorted (r::l)
def uC{q:Int × Int}{l:List (Int × Int)}(h:sorted (q::l)=bv):sorted l=true:=by
 cases l with
 |nil=>rfl
 |cons r l=>simp only[sorted,zA7]at h; exact h.2
def ue{q:Int × Int}{l:List (Int × Int)}(h:sorted (q::l)=bv):q.1<=q.2/\∀ r∈l,q.2<r.1:=by
 induction l generalizing q with
 |nil=>simp only[sorted,decide_eq_true_eq]at h; exact⟨h,fun r a=>by cases a⟩
 |cons r l b =>
  simp only[sorted,zA7,decide_eq_true_eq]at h;obtain⟨e,c⟩:=b h.2;refine⟨h.1.1,fun s hs=>?_⟩;rcases zA9.1 hs with rfl|hs
  .exact h.1.2
  .have:=c s hs; omega
def tf(f:Nat->Bool)(n:Nat)(a:∀ i j,i<=j->j<n->f i=bv->f j=bv):∀(k i j:Nat),j-i<=k->i<=j->j<=n->(∀ x,x<i->f x=gc)->(∀ x,j<=x->x<n->f x=bv) ->
  oD f k i j<=n/\(∀ x,x<oD f k i j->f x=gc)/\∀ x,oD f k i j<=x->x<n->f x=bv
 |0,i,j,s,m,b,c,e=>by
  have:i=j:=by omega
  subst this;exact⟨b,c,e⟩
 |k+1,i,j,s,m,b,c,e=>by
  rw[oD];by_cases h:i<j
  .rw[if_pos h]
   cases o:f ((i+j) / 2) with
   |true =>rw[cond_true];exact tf f n a k i _ li li li c fun x hx w=>a _ x hx w o
   |false =>
    rw[cond_false];refine tf f n a k _ j li li b (fun x hx=>?_) e
    cases r:f x with
    |false=>rfl
    |true=>rw[a x _ li li r]at o; cases o
  .rw[if_neg h];have:i=j:=by omega
   subst this;exact⟨b,c,e⟩
def rh:∀ {l:List (Int × Int)},sorted l=bv->∀(i j:Nat)(q r:Int × Int),i<j->l[i]?=ap q->l[j]?=ap r->q.2<r.1
 |[],_,i,j,q,r,_,h,_=>by simp at h
 |x::l,b,0,j+1,q,r,_,a,c=>by simp only[zF3,i5]at a;subst a;exact (ue b).2 r (zC0 (by simpa using c))
 |x::l,b,i+1,j+1,q,r,e,a,c=>rh (uC b) i j q r li (by simpa using a) (by simpa using c)
def AT:∀ {l:List (Int × Int)},sorted l=bv->∀ q∈l,q.1<=q.2
 |[],_,q,h=>by cases h
 |x::l,a,q,h=>by
  rcases zA9.1 h with rfl|h
  .exact (ue a).1
  .exact AT (uC a) q h
def Ja{sp:List (Int × Int)}(C:sorted sp=bv)(c:Int):PH c sp=sF c sp:=by
 have e:∀ i,i<sp.length->∃ q,sp[i]?=ap q/\sp.getD i (0,0)=q:=fun i hi=>⟨_,zB3 hi,by simp[List.getD,hi]⟩
 obtain⟨J,I,D⟩:=tf (pb c sp) sp.length (fun i j F n hi=>by
  obtain⟨q,o,s⟩:=e i li;obtain⟨r,m,B⟩:=e j n;simp only[pb,s,B,decide_eq_true_eq]at hi ⊢;rcases zC2 i j with h|h
  .have a:=rh C i j q r h o m;have b:=AT C r (zC0 m);omega
  .have:i=j:=by omega
   subst this;rw[o]at m
   rw[<-Option.some.inj m]; exact hi) sp.length 0 sp.length li li (zA5 _) (fun x hx=>by omega) (fun x hx R=>by omega)
 unfold PH;obtain⟨i,hi⟩:=ac (oD (pb c sp) sp.length 0 sp.length);rw[hi]at J I D ⊢;rw[Bool.eq_iff_iff];simp only[zA7,decide_eq_true_eq,sF,List.any_eq_true];constructor
 .rintro⟨f,w⟩;obtain⟨q,o,s⟩:=e i f;have:=D i (zA5 _) f;simp only[pb,s,decide_eq_true_eq]at this;rw[s]at w;exact⟨q,zC0 o,w,this⟩
 .rintro⟨q,o,K,O⟩;obtain⟨j,n,rfl⟩:=List.getElem_of_mem o;obtain⟨S,k,s⟩:=e j n;rw[zB3 n]at k;have k:=Option.some.inj k;have A:pb c sp j=true:=by simp only[pb,s,<-k,decide_eq_true_eq]; exact O
  have F:i<=j:=by
   rcases zC2 j i with h|h
   .rw[I j h]at A; cases A
   .exact h
  have f:i<sp.length:=by omega
  obtain⟨r,m,B⟩:=e i f;refine⟨f,?_⟩;rw[B];rcases zC2 i j with h|h
  .have a:=rh C i j r sp[j] h m (zB3 n);have b:=D i (zA5 _) f;simp only[pb,B,decide_eq_true_eq]at b;omega
  .have:i=j:=by omega
   subst this;rw[zB3 n]at m;rw[<-Option.some.inj m]; exact K
def DT(c:Int):oA c=cB c:=by unfold oA cB;rw[Ja mt c,Ja mt c]
def xo(H:aa)(c:Int):Pure 91 [i7 i8 c] H (i7 i8 (cB c:Int)):=DT c▸EB H c
def bt(l:List UInt8)(i:Nat):Int:=((l.getD i 0).toNat:Int)
def uW(l:List UInt8)(i:Nat):0<=bt l i/\bt l i<256:=by have:=(l.getD i 0).toNat_lt;unfold bt;omega
def tl(l:List UInt8)(i:Nat):Bool:=ge (i<l.length)&&ge (128<=bt l i)&&ge (bt l i<192)
def oK{l:List UInt8}{i:Nat}(h:tl l i=bv):i<l.length/\128<=bt l i/\bt l i<192:=by simp only[tl,zA7,decide_eq_true_eq]at h;exact⟨h.1.1,h.1.2,h.2⟩
def u9:Tryz.prog.underlying 9=ap .string:=by kernel_rfl
def EZ{s:ByteArray}{i:Nat}{j:Int}(a:j=i)(h:i<s.data.toList.length):gJ Tryz.prog 9 (.string s) (i7 i8 j)=ap (.int .u8 (bt s.data.toList i)):=by
 have:s.data.toList[i]?=ap (s.data.toList.getD i 0):=by rw[zE3,zB3 h]; rfl
 rw[PV u9 a this];rfl
def jA(s:ByteArray):s.size=s.data.toList.length:=Array.length_toList.symm
def FK(H:aa)(s:ByteArray)(i:Nat)(j:Int)(f:j=i):Pure 125 [.string s,i7 i8 j] H (kw (tl s.data.toList i)):=by
 refine ba mixed Tryz.func125 rfl Tryz.ntmps125 (zA8 rfl) fun wf r=>?_;obtain⟨l,b⟩:=ac s.data.toList;have c:(s.size:Int)=(l.length:Int):=by rw[jA,b]
 obtain⟨k,e⟩:∃ d,ge (i<l.length)=d:=⟨_,rfl⟩
 have a:ge (j<(s.size:Int))=k:=by
  rw[<-e,c,f];by_cases h:i<l.length
  .rw[decide_eq_true h,decide_eq_true li]
  .rw[decide_eq_false h,decide_eq_false li]
 obtain⟨w,m⟩:∃ d,ge (128<=bt l i)=d:=⟨_,rfl⟩
 obtain⟨A,n⟩:∃ d,ge (bt l i<192)=d:=⟨_,rfl⟩
 simp only[tl,b,e,m,n]
 cases k with
 |false =>simp only[pL u9,a,zF7,Tryz.results125,zW,seval];exact Fin.cq rfl rfl
 |true =>have o:=EZ (s:=s) (i:=i) f (by rw[b]; exact of_decide_eq_true e);rw[b]at o;cases w<;>(simp only[pL u9,a,m,n,o,Bool.true_and,zF7,Tryz.results125,zW,seval]; exact Fin.cq rfl rfl)
def mj(l:List UInt8):Int × Int :=
 cond (ge (bt l 0<128)) (bt l 0,1) <|
 cond (ge (194<=bt l 0)&&ge (bt l 0<224)&&tl l 1) ((bt l 0-192)*64+bt l 1-128,2) <|
 cond (ge (224<=bt l 0)&&ge (bt l 0<240)&&tl l 1&&tl l 2)
  (cond (ge (2048<=((bt l 0-224)*64+bt l 1-128)*64+bt l 2-128)&&rj (((bt l 0-224)*64+bt l 1-128)*64+bt l 2-128)) (((bt l 0-224)*64+bt l 1-128)*64+bt l 2-128,3) (0,0)) <|
 cond (ge (240<=bt l 0)&&ge (bt l 0<245)&&tl l 1&&tl l 2&&tl l 3)
  (cond (ge (65536<=(((bt l 0-240)*64+bt l 1-128)*64+bt l 2-128)*64+bt l 3-128)&&rj ((((bt l 0-240)*64+bt l 1-128)*64+bt l 2-128)*64+bt l 3-128)) ((((bt l 0-240)*64+bt l 1-128)*64+bt l 2-128)*64+bt l 3-128,4) (0,0))
 (0,0)
def OX(H:aa)(s:ByteArray)(l:List UInt8)(n:s.data.toList=l)(h0:0<l.length):Pure 90 [.string s] H (.tuple #[i7 i8 (mj l).1,i7 i8 (mj l).2]):=by
 refine ba mixed Tryz.func90 rfl Tryz.ntmps90 (zA8 rfl) fun wf hsc=>?_;have e:∀(X:aa)(m:Int),bM Tryz.prog X 5 3 (.int .u8 m)=ap (i7 i8 (IntKind.i64.wrap m),X):=fun X m=>im (u:=.int .u8) ls ls;have R:Tryz.prog.underlying 5=ap (.int .u8):=by kernel_rfl
 have S:Tryz.prog.underlying 3=ap (.int i8):=by kernel_rfl
 have w:=EZ (s:=s) (i:=0) (j:=0) rfl (by rw[n]; exact h0);have U:=FK (ext H []) s 1 1 rfl;have k2:=FK (ext H []) s 2 2 rfl;have k3:=FK (ext H []) s 3 3 rfl;rw[n]at w U k2 k3;have k:tl l 1=bv->gJ Tryz.prog 9 (.string s) (i7 i8 1)=ap (.int .u8 (bt l 1)):=fun h=>by have:=EZ (s:=s) (i:=1) (j:=1) rfl (by rw[n]; exact (oK h).1);rwa [n]at this
 have A:tl l 2=bv->gJ Tryz.prog 9 (.string s) (i7 i8 2)=ap (.int .u8 (bt l 2)):=fun h=>by have:=EZ (s:=s) (i:=2) (j:=2) rfl (by rw[n]; exact (oK h).1);rwa [n]at this
 have x3:tl l 3=bv->gJ Tryz.prog 9 (.string s) (i7 i8 3)=ap (.int .u8 (bt l 3)):=fun h=>by have:=EZ (s:=s) (i:=3) (j:=3) rfl (by rw[n]; exact (oK h).1);rwa [n]at this
 have r0:=uW l 0;have r1:=uW l 1;have r2:=uW l 2;have r3:=uW l 3;unfold mj
 obtain⟨t1,V⟩:∃ t,tl l 1=t:=⟨_,rfl⟩
 obtain⟨t2,ht2⟩:∃ t,tl l 2=t:=⟨_,rfl⟩
 obtain⟨t3,ht3⟩:∃ t,tl l 3=t:=⟨_,rfl⟩
 rw[V]at U k ⊢;rw[ht2]at k2 A ⊢;rw[ht3]at k3 x3 ⊢;clear V ht2 ht3 n h0
 generalize bt l 0=a at *
 generalize bt l 1=b at *
 generalize bt l 2=c at *
 generalize bt l 3=d at *
 have J:IntKind.i64.wrap a=a:=ak li li;have wb:IntKind.i64.wrap b=b:=ak li li;have wc:IntKind.i64.wrap c=c:=ak li li;have wd:IntKind.i64.wrap d=d:=ak li li;by_cases h1:a<128
 .have r:ge (a<128)=true:=decide_eq_true h1;simp only[w,aY,e,J,r,cond_true,Tryz.results90,zW,seval];exact Fin.cq rfl rfl
 have r:ge (a<128)=false:=decide_eq_false h1;rw[r,cond_false];by_cases h2:a<194
 .have K:ge (194<=a)=false:=decide_eq_false li;have B:ge (224<=a)=false:=decide_eq_false li;have o:ge (240<=a)=false:=decide_eq_false li;simp only[w,aY,e,J,r,K,B,o,zF7,cond_false,Tryz.results90,zW,seval];exact Fin.cq rfl rfl
 have K:ge (194<=a)=true:=decide_eq_true li;by_cases h3:a<224
 .have O:ge (a<224)=true:=decide_eq_true h3;have B:ge (224<=a)=false:=decide_eq_false li;have o:ge (240<=a)=false:=decide_eq_false li;simp only[w,aY,e,J,r,K,O,zW,seval];refine U.to ?_
  cases t1 with
  |true =>have C:IntKind.i64.wrap (a-192)=a-192:=ak li li;have D:IntKind.i64.wrap ((a-192)*64)=(a-192)*64:=ak li li;have F:IntKind.i64.wrap ((a-192)*64+b)=(a-192)*64+b:=ak li li;have I:IntKind.i64.wrap ((a-192)*64+b-128)=(a-192)*64+b-128:=ak li li;have k:=k rfl;simp only[k,aY,e,wb,C,D,F,I,cond_true,Tryz.results90,zW,seval];exact Fin.cq rfl rfl
  |false =>simp only[B,o,Bool.and_false,zF7,cond_false,Tryz.results90,zW,seval];exact Fin.cq rfl rfl
 have O:ge (a<224)=false:=decide_eq_false h3;have B:ge (224<=a)=true:=decide_eq_true li;rw[O,Bool.and_false,zF7,cond_false];by_cases h4:a<240
 .have f3:ge (a<240)=true:=decide_eq_true h4;have o:ge (240<=a)=false:=decide_eq_false li;simp only[w,aY,e,J,r,K,B,O,f3,zW,seval];refine U.to ?_
  cases t1 with
  |false =>simp only[o,Bool.and_false,zF7,cond_false,Tryz.results90,zW,seval];exact Fin.cq rfl rfl
  |true =>
   simp only[zW,seval];refine k2.to ?_
   cases t2 with
   |false =>simp only[o,Bool.and_false,zF7,cond_false,Tryz.results90,zW,seval];exact Fin.cq rfl rfl
   |true =>
    have k:=k rfl;have A:=A rfl;have C:IntKind.i64.wrap (a-224)=a-224:=ak li li;have D:IntKind.i64.wrap ((a-224)*64)=(a-224)*64:=ak li li;have F:IntKind.i64.wrap ((a-224)*64+b)=(a-224)*64+b:=ak li li;have I:IntKind.i64.wrap ((a-224)*64+b-128)=(a-224)*64+b-128:=ak li li;have g5:IntKind.i64.wrap (((a-224)*64+b-128)*64)=((a-224)*64+b-128)*64:=ak li li;have g6:IntKind.i64.wrap (((a-224)*64+b-128)*64+c)=((a-224)*64+b-128)*64+c:=ak li li;have g7:IntKind.i64.wrap (((a-224)*64+b-128)*64+c-128)=((a-224)*64+b-128)*64+c-128:=ak li li;simp only[cond_true,zW,seval];refine aK [] [] ls ls rfl fun ops anc hA hG=>?_;simp only[C,D,k,bh,aE,seval];refine mJ rfl mt R S qr ?_;simp only[wb,F,I,g5,A,bh,zW,seval];refine mJ rfl mt R S qr ?_;simp only[wc,g6,g7,bh,zW,seval];clear C D F I g5 g6 g7;generalize ((a-224)*64+b-128)*64+c-128=z;have f:=Cp (ext H []) z;obtain⟨i,hi⟩:=ac (rj z);rw[hi]at f ⊢;obtain⟨q,hq⟩:=ac (ge (2048<=z));rw[hq]
    cases q with
    |false =>simp only[zF7,cond_false,Tryz.results90,zW,seval];exact Fin.cq rfl rfl
    |true =>simp only[zW,seval];refine f.to ?_;cases i<;>(simp only[cond_true,cond_false,Tryz.results90,zW,seval]; exact Fin.cq rfl rfl)
 have f3:ge (a<240)=false:=decide_eq_false h4;have o:ge (240<=a)=true:=decide_eq_true li;rw[f3,Bool.and_false,zF7,zF7,cond_false];by_cases h5:a<245
 .have f4:ge (a<245)=true:=decide_eq_true h5;simp only[w,aY,e,J,r,K,B,o,O,f3,f4,zW,seval];refine U.to ?_
  cases t1 with
  |false =>simp only[zF7,cond_false,Tryz.results90,zW,seval];exact Fin.cq rfl rfl
  |true =>
   simp only[zW,seval];refine k2.to ?_
   cases t2 with
   |false =>simp only[zF7,cond_false,Tryz.results90,zW,seval];exact Fin.cq rfl rfl
   |true =>
    simp only[zW,seval];refine k3.to ?_
    cases t3 with
    |false =>simp only[cond_false,Tryz.results90,zW,seval];exact Fin.cq rfl rfl
    |true =>
     have k:=k rfl;have A:=A rfl;have x3:=x3 rfl;have C:IntKind.i64.wrap (a-240)=a-240:=ak li li;have D:IntKind.i64.wrap ((a-240)*64)=(a-240)*64:=ak li li;have F:IntKind.i64.wrap ((a-240)*64+b)=(a-240)*64+b:=ak li li;have I:IntKind.i64.wrap ((a-240)*64+b-128)=(a-240)*64+b-128:=ak li li;have g5:IntKind.i64.wrap (((a-240)*64+b-128)*64)=((a-240)*64+b-128)*64:=ak li li;have g6:IntKind.i64.wrap (((a-240)*64+b-128)*64+c)=((a-240)*64+b-128)*64+c:=ak li li;have g7:IntKind.i64.wrap (((a-240)*64+b-128)*64+c-128)=((a-240)*64+b-128)*64+c-128:=ak li li;have g8:IntKind.i64.wrap ((((a-240)*64+b-128)*64+c-128)*64)=(((a-240)*64+b-128)*64+c-128)*64:=ak li li;have g9:IntKind.i64.wrap ((((a-240)*64+b-128)*64+c-128)*64+d)=(((a-240)*64+b-128)*64+c-128)*64+d:=ak li li;have g10:IntKind.i64.wrap ((((a-240)*64+b-128)*64+c-128)*64+d-128)=(((a-240)*64+b-128)*64+c-128)*64+d-128:=ak li li;simp only[cond_true,zW,seval];refine aK [] [] ls ls rfl fun ops anc hA hG=>?_;simp only[C,D,k,bh,aE,seval];refine mJ rfl mt R S qr ?_;simp only[wb,F,I,g5,A,bh,zW,seval];refine mJ rfl mt R S qr ?_;simp only[wc,g6,g7,g8,x3,bh,zW,seval];refine mJ rfl mt R S qr ?_;simp only[wd,g9,g10,bh,zW,seval];clear C D F I g5 g6 g7 g8 g9 g10;generalize (((a-240)*64+b-128)*64+c-128)*64+d-128=z;have f:=Cp (ext H []) z;obtain⟨i,hi⟩:=ac (rj z);rw[hi]at f ⊢;obtain⟨q,hq⟩:=ac (ge (65536<=z));rw[hq]
     cases q with
     |false =>simp only[zF7,cond_false,Tryz.results90,zW,seval];exact Fin.cq rfl rfl
     |true =>simp only[zW,seval];refine f.to ?_;cases i<;>(simp only[cond_true,cond_false,Tryz.results90,zW,seval]; exact Fin.cq rfl rfl)
 .have f4:ge (a<245)=false:=decide_eq_false h5;simp only[w,aY,e,J,r,K,B,o,O,f3,f4,Bool.and_false,zF7,cond_false,Tryz.results90,zW,seval];exact Fin.cq rfl rfl
end Go.Proofs.YtpohjcacnkhnkaaGreatDoor
namespace Go.Proofs.YtpohjcacnkhnkaaGreatDoor.Tq
open Go.Ax
def kE{n:Nat}(h:n<2147483648):CY (n:Int)=n:=by simp only[CY,IntKind.wrap,IntKind.signed,IntKind.bits];simp;omega
def p6{k m y:Nat}(a:y<2 ^ k)(h:m*2 ^ k+y<2147483648):Ks .i32 ((m*2 ^ k:Nat):Int) ((y:Nat):Int)=((m*2 ^ k+y:Nat):Int):=by
 have e:m*2 ^ k ||| y=m*2 ^ k+y:=by have:=Nat.shiftLeft_add_eq_or_of_lt a m;rw[Nat.shiftLeft_eq]at this;exact this.symm
 have f:m*2 ^ k<2147483648:=by omega
 have b:y<2147483648:=by omega
 have c:(BitVec.ofInt 32 ((m*2 ^ k:Nat):Int) ||| BitVec.ofInt 32 ((y:Nat):Int)).toNat=m*2 ^ k+y:=by rw[BitVec.toNat_or,BitVec.ofInt_natCast,BitVec.ofInt_natCast,BitVec.toNat_ofNat,BitVec.toNat_ofNat,Nat.mod_eq_of_lt li,Nat.mod_eq_of_lt li,e]
 unfold Ks;rw[show IntKind.i32.bits=32 from rfl,c];exact kE h
def tu{n k:Nat}(a:k<=32)(h:n*2 ^ k<2147483648):vJ .i32 (n:Int) k=((n*2 ^ k:Nat):Int):=by unfold vJ;rw[show min k IntKind.i32.bits=k from Nat.min_eq_left a];have:=kE h;unfold CY at this;rw[<-this];congr 1
def Nd(a:Nat):Bool:=ge (fb .u8 (a:Int) 31=(a % 32:Nat))&&ge (fb .u8 (a:Int) 15=(a % 16:Nat))&&ge (fb .u8 (a:Int) 7=(a % 8:Nat))&&ge (fb .u8 (a:Int) 63=(a % 64:Nat))
def OD:(List.range 256).all Nd=true:=by kernel_rfl
def nv(a:UInt8):fb .u8 (a.toNat:Int) 31=(a.toNat % 32:Nat)/\fb .u8 (a.toNat:Int) 15=(a.toNat % 16:Nat)/\fb .u8 (a.toNat:Int) 7=(a.toNat % 8:Nat)/\fb .u8 (a.toNat:Int) 63=(a.toNat % 64:Nat):=by have:=zD3.1 OD a.toNat (zF5.2 a.toNat_lt);simp only[Nd,zA7,decide_eq_true_eq]at this;exact⟨this.1.1.1,this.1.1.2,this.1.2,this.2⟩
def jY(a:Nat):Option (Int × Int × Int) :=
 if a<194 then bi else if a<224 then ap (2,128,191) else if a=224 then ap (3,160,191) else if a=237 then ap (3,128,159) else if a<240 then ap (3,128,191)
 else if a=240 then ap (4,144,191) else if a<244 then ap (4,128,191) else if a=244 then ap (4,128,143) else bi
def B2(a:Nat):Bool:=match jY a with
 |none=>ge (240<=ck a)&&ge (IntKind.i64.wrap (fb .u8 (ck a) 7)<=1)
 |some (n,lo,hi)=>ge (ck a<240)&&ge (IntKind.i64.wrap (fb .u8 (ck a) 7)=n)&&ge (gQ ((jS .u8 (ck a) 4).toNat*2)=lo)&&ge (gQ ((jS .u8 (ck a) 4).toNat*2+1)=hi)
def BZ:(List.range 256).all B2=true:=by kernel_rfl
def ot{a:UInt8}{n lo hi:Int}(h:jY a.toNat=ap (n,lo,hi)):ck a.toNat<240/\eS a=n/\gQ ((jS .u8 (ck a.toNat) 4).toNat*2)=lo/\gQ ((jS .u8 (ck a.toNat) 4).toNat*2+1)=hi:=by have:=zD3.1 BZ a.toNat (zF5.2 a.toNat_lt);rw[B2,h]at this;simp only[zA7,decide_eq_true_eq]at this;exact⟨this.1.1.1,this.1.1.2,this.1.2,this.2⟩
def Pj{a b:UInt8}(f:194<=a.toNat)(h:a.toNat<224)(j:128<=b.toNat)(k:b.toNat<192):QK a b=((a.toNat:Int)-192)*64+b.toNat-128:=by obtain⟨c,_,_,_⟩:=nv a;obtain⟨_,_,_,e⟩:=nv b;unfold QK;rw[c,e,kE li,kE li,tu mt li,p6 li li];omega
def O2{a b c:UInt8}(j:224<=a.toNat)(m:a.toNat<240)(n:128<=b.toNat)(o:b.toNat<192)(r:128<=c.toNat)(s:c.toNat<192):P2 a b c=(((a.toNat:Int)-224)*64+b.toNat-128)*64+c.toNat-128:=by obtain⟨_,e,_,_⟩:=nv a;obtain⟨_,_,_,f⟩:=nv b;obtain⟨_,_,_,h⟩:=nv c;unfold P2;rw[e,f,h,kE li,kE li,kE li,tu mt li,tu mt li,p6 (k:=12) li li];rw[show (a.toNat % 16*2 ^ 12+b.toNat % 64*2 ^ 6:Nat)=(a.toNat % 16*64+b.toNat % 64)*2 ^ 6 by omega,p6 li li];omega
def O6{a b c d:UInt8}(m:240<=a.toNat)(n:a.toNat<245)(o:128<=b.toNat)(r:b.toNat<192)(s:128<=c.toNat)(w:c.toNat<192)(A:128<=d.toNat)(B:d.toNat<192):Qp a b c d=((((a.toNat:Int)-240)*64+b.toNat-128)*64+c.toNat-128)*64+d.toNat-128:=by obtain⟨_,_,e,_⟩:=nv a;obtain⟨_,_,_,f⟩:=nv b;obtain⟨_,_,_,h⟩:=nv c;obtain⟨_,_,_,j⟩:=nv d;unfold Qp;rw[e,f,h,j,kE li,kE li,kE li,kE li,tu mt li,tu mt li,tu mt li,p6 (k:=18) li li];rw[show (a.toNat % 8*2 ^ 18+b.toNat % 64*2 ^ 12:Nat)=(a.toNat % 8*64+b.toNat % 64)*2 ^ 12 by omega,p6 li li];rw[show ((a.toNat % 8*64+b.toNat % 64)*2 ^ 12+c.toNat % 64*2 ^ 6:Nat)=((a.toNat % 8*64+b.toNat % 64)*64+c.toNat % 64)*2 ^ 6 by omega,p6 li li];omega
abbrev rj:=Go.Proofs.YtpohjcacnkhnkaaGreatDoor.rj
abbrev cB:=Go.Proofs.YtpohjcacnkhnkaaGreatDoor.cB
def By:Wd cB where
 call:=fun c H _ _=>Go.Proofs.YtpohjcacnkhnkaaGreatDoor.iK H c
 le:=fun c=>by unfold cB Go.Proofs.YtpohjcacnkhnkaaGreatDoor.cB; split<;>(try split)<;>omega
def LY{c:Int}(h:cB c≠0):rj c=true:=by
 unfold cB Go.Proofs.YtpohjcacnkhnkaaGreatDoor.cB at h
 cases hi:rj c with
 |true=>rfl
 |false=>rw[show Go.Proofs.YtpohjcacnkhnkaaGreatDoor.rj c=gc from hi]at h; simp at h
def cI:n5:=⟨cB,gz,lK⟩
def ss.step{H H1:aa}{p p1:Rp}{y:Tm}(t:ss H)(s:Step H p H1 p1 y)(b:0∉p.au)(c:1∉p.au):ss H1/\0∉p1.au/\1∉p1.au:=by
 have e:=s.mod.bk t.l0 b;have j:=s.mod.bk t.l1 c;refine⟨⟨fun a k=>by rw[e]; exact t.f a k,fun i hi=>by rw[j]; exact t.a i hi,s.mod.lt t.l0,s.mod.lt t.l1⟩,fun h=>?_,fun h=>?_⟩
 .rcases s.new _ h with h|h
  .exact b h
  .have:=t.l0; omega
 .rcases s.new _ h with h|h
  .exact c h
  .have:=t.l1; omega
def bD.drop{H:aa}{v:gt}{l:List UInt8}(h:bD H v l)(o:l≠[]){k:Nat}(A:k<=l.length):∃ a,cw Tryz.prog (ext H []) 25 v (ap (i7 i8 (k:Int))) bi bi=ap (.slice a (l.length-k) (l.length-k),ext H [])/\bD H (.slice a (l.length-k) (l.length-k)) (l.drop k)/\ae (.slice a (l.length-k) (l.length-k))=ae v:=by
 have w:Tryz.prog.underlying 25=ap (.slice 5):=by kernel_rfl
 have f:bg Tryz.prog 5=ap 1:=by kernel_rfl
 have m:0<l.length:=List.length_pos_iff.2 o
 rcases h with⟨rfl,rfl⟩|⟨_,n,b,rfl,c⟩|⟨rfl,n,off,j,L,rfl,c,B⟩|⟨rfl,n,rfl,c⟩
 .exact absurd rfl o
 .rw[ext_nil];by_cases r:k<l.length
  .refine⟨ap ⟨n,b.length+k*1,bi⟩,oS w f cz rfl (zA5 _) A r c rfl,.inr (.inl ⟨?_,n,b++l.take k,?_,?_⟩),by simp[ae]⟩
   .intro e;have:=congrArg List.length e;simp at this;omega
   .have e:(b++l.take k).length=b.length+k*1:=by simp; omega
    rw[e,zC1]
   .rw[c,zC9,List.take_append_drop]
  .have s:k=l.length:=by omega
   have C:=Cu (P:=Tryz.prog) (H:=H) (t:=25) (e:=5) (sz:=1) (n:=n) (off:=b.length) (len:=l.length) (cap:=l.length) (lo:=ap (i7 i8 (k:Int))) (hi:=bi) w f cz rfl rfl s m c rfl;have D:l.length-k=0:=by omega
   rw[D];refine⟨ap ⟨n,b.length+k*1,ap (b.length+1)⟩,C,.inr (.inr (.inl ⟨zE8 li,n,_,_,_,rfl,c,?_⟩)),by simp[ae]⟩;rw[cR,zB2]; omega
 .exact absurd rfl o
 .exact absurd rfl o
def Cs(x:Tm)(c:Int):(x.control c).rest=x.rest/\(x.control c).params=x.params:=by
 unfold Tm.control
 repeat' split
 all_goals exact⟨rfl,rfl⟩
def Gl(u:n5)(x:Tm)(c:Int):(x.write u c).rest=x.rest/\(x.write u c).params=x.params:=by
 unfold Tm.write;simp only;split
 .exact⟨rfl,rfl⟩
 .split<;>exact⟨rfl,rfl⟩
def iG(u:n5)(x:Tm)(c:Int):(x.character u c).rest=x.rest/\(x.character u c).params=x.params:=by
 unfold Tm.character;split
 .exact Cs x c
 .exact Gl u x c
def Tm.aR(x:Tm)(l:List UInt8):Tm:={x with rest:=l}
def Tm.Sz.aR{x:Tm}(s:x.Sz)(l:List UInt8):(x.aR l).Sz :=
 ⟨s.h1,s.h2,s.w1,s.w2,s.ws,s.r1,s.r2,s.c1,s.c2,s.sr1,s.sr2,s.sc1,s.sc2,s.t1,s.t2,s.t3,s.md,s.hd⟩
def b7.BJ{H H1:aa}{p:Rp}{x:Tm}(g:b7 H p x)(v:gt)(l:List UInt8)(m:Mod (ae p.rv) H H1)(A:bD H1 v l)(hi:∀ n∈ae v,n∈ae p.rv\/(H.next<=n/\n<H1.next))(o:(ae v).Nodup):Step H p (ext (uw H1 p.t 19 [v]) []) {p with rv:=v,pv:=p.pv} (x.aR l):=by
 have j:=(zB8.1 (zB8.1 g.nd).2).2;rw[zC9]at j;have f:=zD5.1 (zD5.1 j).2.1;have B:=g.lt p.t nl;have k:p.t∉ae p.rv:=fun h=>(zB8.1 g.nd).1 pu;have r:bk H1 p.t=ap ⟨66,gc,aW p x⟩:=(m.bk B k).trans g.cell
 have s:∀ n∈ae v,n≠p.t:=fun n c e=>by
  rcases hi n c with h|⟨h,_⟩
  .exact k (e▸h)
  .omega
 have C:Mod [p.t] H1 (ext (uw H1 p.t 19 [v]) []):=Mod.uw lw;refine g.CA v p.pv ((m.mono (by intro n c; simp[c])).trans (C.mono (by intro n c; simp at c; simp[c]))) ?_ rfl ?_ ?_ ?_ ?_
 .rw[ext_nil,bR,r]; rfl
 .exact A.of fun n c=>by rw[ext_nil]; exact fD (s n c)
 .refine g.par.of fun n c=>?_;rw[ext_nil,fD (fun e=>(zB8.1 g.nd).1 (by rw[<-e]; simp[c]))];exact m.get n (g.lt n (by simp[Rp.au,c])) (fun h=>f.2.2 n h n c rfl)
 .intro n c;rcases zB4.1 c with h|h
  .rcases hi n h with h|h
   .exact .inl pu
   .exact .inr ⟨h.1,by rw[ext_nil,bE]; exact h.2⟩
  .exact .inl pu
 .refine zD5.2 ⟨o,f.2.1,fun a D b w e=>?_⟩
  rcases hi a D with h|⟨h,_⟩
  .exact f.2.2 a h b w e
  .have:=g.lt b (by simp[Rp.au,w]); omega
def Ph(H:aa)(p:Rp)(x:Tm)(c:UInt8)(g:b7 H p x)(s:x.Sz)(ok:H.base<=H.next)(tb:ss H)(p0:0∉p.au)(p1:1∉p.au)(hrl:x.rest.length<=900) :
  gp 41 [gD c] H p (i7 i8 ((x.plain cI c).2:Int)) (x.plain cI c).1:=by
 obtain⟨b,hb⟩:=ac H.next;have hT:p.t<b:=hb▸g.lt p.t nl;have h1:=g.cell;simp only[aW]at h1;obtain⟨arv,I⟩:=g.rest.sl;have h2:=h1;rw[I]at h2;obtain⟨G,happ,hwG,mG,J⟩:=Bj (c:=c) g.rest (fun n hn=>g.lt n (by simp[Rp.au,hn])) hb li ok;obtain⟨nw,hnw⟩:=ac (b+1);rw[hnw]at happ hwG J;have okG:=mG.ok ok;have st0:=g.BJ _ _ mG hwG (fun n hn=>by simp only[ae,zA6]at hn; subst hn; exact .inr ⟨by omega,J⟩) ol;obtain⟨gn,hgn⟩:=ac G.next;have hTG:p.t<gn:=by rw[<-hgn]; exact mG.lt (g.lt p.t nl)
 have hnwg:nw<gn:=hgn▸J;have hbG:=st0.at_.cell;have htv:p.t∉ae p.rv:=fun h=>(zB8.1 g.nd).1 pu;have hcG:bk G p.t=ap ⟨66,gc,aW p x⟩:=(mG.bk (g.lt p.t nl) htv).trans g.cell;simp only[aW]at hcG;rw[I]at happ;refine aH mixed Tryz.func41 rfl Tryz.ntmps41 (zA8 rfl) ?_;simp (maxDischargeDepth:=6) only[hb,hT,h2,happ,hgn,hTG,hnwg,hcG,zW,Nat.reduceLeDiff,Nat.reduceLT,Nat.reduceAdd,Nat.reduceEqDiff];generalize hV:uw G p.t 19 _=V at st0 ⊢;rw[ext_nil]at st0;refine c7 fun E hE=>?_;have B:E 0=i9 (ap ⟨p.t,0,bi⟩):=by rw[hE]; rfl
 clear hE;have hcv:∀(X:aa)(m:Int),bM Tryz.prog X 21 3 (.int .i32 m)=ap (i7 i8 (IntKind.i64.wrap m),X):=fun X m=>im (u:=.int .i32) ls ls;refine bn (fun E' H'=>∃ y p2,Step H p H' p2 y/\x.plain cI c=(y,0)/\E' 0=i9 (ap ⟨p.t,0,bi⟩)) ?_ ?_
 .refine b8 (fun (q:Nat × Tm × Rp) E' H'=>Step H p H' q.2.2 q.2.1/\q.2.1.Sz/\q.2.1.rest.length<q.1/\q.2.1.rest.length<=901/\Tm.drain cI q.1 q.2.1=x.plain cI c/\E' 0=i9 (ap ⟨p.t,0,bi⟩)) (fun q=>q.2.1.rest.length) (x.rest.length+2,x.aR (x.rest++[c]),{p with rv:=jp (ap ⟨nw,0,bi⟩) (x.rest.length+1) (x.rest.length+1),pv:=p.pv})
   ⟨st0,s.aR _,by simp[Tm.aR],by simp[Tm.aR]; omega,rfl,B⟩ ?_
  clear B E hV st0 hbG V;rintro⟨k,y,p2⟩ E X ⟨st,sy,hk,hlen,hdr,B⟩;simp only at st sy hk hlen hdr;rw[show X=ext X [] from rfl];have okX:=st.ok ok;obtain⟨xb,A⟩:=ac X.next;have hT:p.t<xb:=A▸st.same▸st.at_.lt p2.t nl;have h1:=st.at_.cell;rw[st.same]at h1;simp only[aW]at h1;obtain⟨ar,I⟩:=st.at_.rest.sl;obtain⟨R,hR⟩:=ac y.rest.length;rw[hR]at I;rw[I]at h1;obtain⟨tX,q0,q1⟩:=tb.step st p0 p1
  obtain⟨k',rfl⟩:∃ k',k=k'+1:=⟨k-1,by omega⟩
  by_cases f:y.rest=[]
  .have hR0:R=0:=by rw[<-hR,f]; rfl
   have hd:ge ((0:Int)<(R:Int))=false:=decide_eq_false li;simp (maxDischargeDepth:=6) only[B,A,hT,h1,hd,zW,Nat.reduceLT,Nat.reduceAdd,Nat.reduceEqDiff];refine ah ⟨y,p2,st,?_,?_⟩
   .rw[<-hdr,Tm.drain,if_neg (fun h=>h.1 f)]
   .exact B
  have hRp:0<R:=by rw[<-hR]; exact List.length_pos_iff.2 f
  have hd:ge ((0:Int)<(R:Int))=true:=decide_eq_true li;have hfu:=Qf X p2.rv y.rest st.at_.rest (fun n hn=>st.at_.lt n (by simp[Rp.au,hn])) tX f li;rw[I]at hfu
  cases hf:gz y.rest with
  |false =>
   rw[hf]at hfu;simp (maxDischargeDepth:=6) only[B,A,hT,h1,hd,zW,Nat.reduceLT,Nat.reduceAdd,Nat.reduceEqDiff];refine (show br Tryz.prog 79 _ (ext X []) _ (ext X []) from hfu).to ?_;simp (maxDischargeDepth:=6) only[zW,Nat.reduceLT,Nat.reduceEqDiff];refine ah ⟨y,p2,st,?_,?_⟩
   .rw[<-hdr,Tm.drain,if_neg (fun h=>by have:=h.2; rw[show cI.full y.rest=gz y.rest from rfl,hf]at this; cases this)]
   .exact B
  |true =>
  rw[hf]at hfu
  have hcond:y.rest≠[]/\cI.full y.rest=true:=⟨f,hf⟩
  obtain⟨a,r,har⟩:∃ a r,y.rest=a::r:=by cases hy:y.rest with|nil=>exact absurd hy f|cons a r=>exact⟨a,r,rfl⟩
  have hga:=st.at_.rest.get (k:=0) (c:=a) (by rw[har]; rfl);obtain⟨n0,o0,i0,m0,ld0⟩:=hga;rw[I,show ((0:Nat):Int)=0 from rfl]at i0;have t0:n0<xb:=A▸st.at_.lt n0 (by simp[Rp.au,m0]);have q27:=jR (c:=a) (n:=27) li;simp only[Int.cast_ofNat_Int]at q27;by_cases h27:a=27
  .have t27:ge ((a.toNat:Int)=27)=true:=by rw[q27]; exact decide_eq_true h27
   have hpl:x.plain cI c=(y.aR [],1):=by
    have hh:y.rest.headD 0=27:=by rw[har]; exact h27
    rw[<-hdr,Tm.drain,if_pos hcond,if_pos hh];rfl
   rw[hpl];have stN:=st.at_.BJ (jp bi 0 0) [] Mod.refl (.inl ⟨rfl,rfl⟩) ol ol;rw[st.same]at stN;simp (maxDischargeDepth:=6) only[B,A,hT,h1,hd,zW,Nat.reduceLT,Nat.reduceAdd,Nat.reduceEqDiff];refine (show br Tryz.prog 79 _ (ext X []) _ (ext X []) from hfu).to ?_;simp (maxDischargeDepth:=6) only[B,A,hT,h1,i0,t0,ld0,t27,da,Tryz.results41,zW,Nat.reduceLeDiff,Nat.reduceLT,Nat.reduceAdd,Nat.reduceEqDiff];exact⟨rfl,_,st.trans ok stN⟩
  have f27:ge ((a.toNat:Int)=27)=false:=by rw[q27]; exact decide_eq_false h27
  have hde:=RD X p2.rv y.rest st.at_.rest (fun n hn=>st.at_.lt n (by simp[Rp.au,hn])) tX f li;rw[I]at hde;obtain⟨hn1,J⟩:=QD y.rest f;have h32:=NQ y.rest
  obtain⟨cr,n,hcr⟩:∃ cr n,lK y.rest=(cr,n):=⟨_,_,rfl⟩
  rw[hcr]at hde hn1 J h32;simp only at hde hn1 J h32;obtain⟨w,hy2⟩:=ac ((if cr≠65533\/n>1 then y.character cI cr else y))
  have hdr2:Tm.drain cI k' (w.aR (w.rest.drop n))=x.plain cI c:=by
   rw[<-hdr,Tm.drain,if_pos hcond];have:¬(y.rest.headD 0=27):=by rw[har]; exact h27
   rw[if_neg this];simp only[show cI.dec y.rest=(cr,n) from hcr];rw[hy2];rfl
  have j:w.rest=y.rest:=by
   rw[<-hy2];split
   .exact (iG cI y cr).1
   .rfl
  have sy2:w.Sz:=by
   rw[<-hy2];split
   .exact sy.character cr
   .exact sy
  have hwc:IntKind.i64.wrap cr=cr:=ak (by have:=h32.1; omega) (by have:=h32.2; omega)
  -- what comes behind the character
  have tail:∀(Z:aa)(C:Rp)(E':Env),Step X p2 Z C w->∃ D U,cw Tryz.prog (ext Z []) 25 C.rv (ap (i7 i8 (n:Int))) bi bi=ap (.slice D (R-n) (R-n),ext Z [])/\Step H p (ext (uw Z p.t 19 [.slice D (R-n) (R-n)]) []) U (w.aR (w.rest.drop n)):=by
   intro Z C E' o;have hne2:w.rest≠[]:=by rw[j]; exact f
   obtain⟨D,hs,hb',hid⟩:=o.at_.rest.drop hne2 (k:=n) (by rw[j]; exact J);rw[j,hR]at hs hb' hid;refine⟨D,⟨p.t,C.rb,C.rs,.slice D (R-n) (R-n),C.pv⟩,hs,?_⟩;have hnd3:=(zB8.1 (zB8.1 o.at_.nd).2).2;rw[zC9]at hnd3;have stN:=o.at_.BJ (.slice D (R-n) (R-n)) (w.rest.drop n) Mod.refl (by rw[j]; exact hb') (fun q hq=>.inl (hid▸hq)) (by rw[hid]; exact (zD5.1 (zD5.1 hnd3).2.1).1);have stF:=(st.trans ok o).trans ok stN;rw[show C.t=p.t from o.same.trans st.same]at stF;exact stF
  have hnat:∀ m:Nat,ge ((1:Int)<(n:Int))=ge (n>1):=fun _=>by
   by_cases h:n>1
   .rw[decide_eq_true h,decide_eq_true li]
   .rw[decide_eq_false h,decide_eq_false li]
  obtain⟨e1,he1⟩:∃ e,ge (cr=65533)=e:=⟨_,rfl⟩
  have he1':ge (¬cr=65533)=!e1:=by rw[<-he1]; simp
  obtain⟨e2,he2⟩:∃ e,ge ((1:Int)<(n:Int))=e:=⟨_,rfl⟩
  simp (maxDischargeDepth:=6) only[B,A,hT,h1,hd,zW,Nat.reduceLT,Nat.reduceAdd,Nat.reduceEqDiff];refine (show br Tryz.prog 79 _ (ext X []) _ (ext X []) from hfu).to ?_;simp (maxDischargeDepth:=6) only[B,A,hT,h1,i0,t0,ld0,f27,zW,Nat.reduceLT,Nat.reduceAdd,Nat.reduceEqDiff];refine (show br Tryz.prog 80 _ (ext X []) _ (ext X []) from hde).to ?_
  have next:∀(Z:aa)(C:Rp),Step X p2 Z C w->∃ D U,bk Z p.t=ap ⟨66,gc,aW C w⟩/\p.t<Z.next/\cw Tryz.prog (ext Z []) 25 C.rv (ap (i7 i8 (n:Int))) bi bi=ap (.slice D (R-n) (R-n),ext Z [])/\(∀ q∈ae (.slice D (R-n) (R-n)),q<Z.next)/\Step H p (ext (uw Z p.t 19 [.slice D (R-n) (R-n)]) []) U (w.aR (w.rest.drop n)):=by
   intro Z C o;obtain⟨D,U,t1,t2⟩:=tail Z C (fun _=>undef) o;have hcz:=o.at_.cell;have K:=o.at_.lt C.t nl;rw[show C.t=p.t from o.same.trans st.same]at hcz K;have hsub:ae (.slice D (R-n) (R-n))=ae C.rv:=by obtain⟨a2,hs2,_,hid2⟩:=o.at_.rest.drop (by rw[j]; exact f) (k:=n) (by rw[j]; exact J);rw[j,hR,t1]at hs2;have:=Option.some.inj hs2;rw[j,hR]at hid2;rw[(Prod.mk.inj this).1];exact hid2
   exact⟨D,U,hcz,K,t1,fun q hq=>o.at_.lt q (by rw[hsub]at hq; simp[Rp.au,hq]),t2⟩
  have fin:∀(Z:aa)(C:Rp),Step X p2 Z C w->∃ D U,Step H p (ext (uw Z p.t 19 [.slice D (R-n) (R-n)]) []) U (w.aR (w.rest.drop n)):=fun Z C h=>by
   obtain⟨D,U,_,_,_,_,h⟩:=next Z C h
   exact⟨D,U,h⟩
  have hlen2:(w.rest.drop n).length=R-n:=by rw[zC1,j,hR]
  cases hb2:(!e1||e2) with
  |true =>
   have hyc:w=y.character cI cr:=by
    rw[<-hy2,if_pos]
    cases e1 with
    |false=>exact .inl (of_decide_eq_false he1)
    |true =>simp only[zE4,Bool.false_or]at hb2;exact .inr (by have:=of_decide_eq_true (he2.trans hb2); omega)
   have hch:=Dr cI By X p2 y cr st.at_ sy okX h32.1 h32.2;unfold gp at hch;rw[st.same,<-hyc]at hch
   cases e1<;>cases e2<;>first
    |(exfalso; revert hb2; decide)
    | (simp (maxDischargeDepth := 6) only [B, he1', he2, aY, hcv, hwc, zE4, Bool.not_false, zW, Nat.reduceLT, Nat.reduceEqDiff]
       refine (show aL Tryz.prog 81 _ (ext X []) _ from hch).mono ?_;rintro _ Z ⟨rfl,C,o⟩;obtain⟨D,U,hcz,K,F,O,S⟩:=next Z C o
       obtain⟨zn,hzn⟩:=ac Z.next;rw[hzn]at K O;simp only[aW]at hcz;rw[show Z=ext Z [] from rfl]
       cases D with
       |none =>simp (maxDischargeDepth:=6) only[B,hzn,K,hcz,F,zW,Nat.reduceLeDiff,Nat.reduceLT,Nat.reduceAdd,Nat.reduceEqDiff];refine aC ⟨(k',w.aR (w.rest.drop n),U),by simp only[Tm.aR]; omega,S,sy2.aR _,by simp only[Tm.aR]; omega,by simp only[Tm.aR]; omega,hdr2,?_⟩;simp only[B,aE,Nat.reduceEqDiff]
       |some a3 =>
        obtain⟨ab,ao,asp⟩:=a3;have habl:ab<zn:=O ab ol;simp (maxDischargeDepth:=6) only[B,hzn,K,hcz,F,habl,zW,Nat.reduceLeDiff,Nat.reduceLT,Nat.reduceAdd,Nat.reduceEqDiff];refine aC ⟨(k',w.aR (w.rest.drop n),U),by simp only[Tm.aR]; omega,S,sy2.aR _,by simp only[Tm.aR]; omega,by simp only[Tm.aR]; omega,hdr2,?_⟩
        simp only[B,aE,Nat.reduceEqDiff])
  |false =>
   have hyc:w=y:=by
    rw[<-hy2,if_neg]
    cases e1 with
    |false=>simp at hb2
    |true =>
     simp only[zE4,Bool.false_or]at hb2;rintro (h|h)
     .exact h (of_decide_eq_true he1)
     .have:=of_decide_eq_false (he2.trans hb2); omega
   obtain⟨D,U,hcz,K,F,O,S⟩:=next X p2 (by rw[hyc]; exact Step.refl st.at_)
   rw[A]at K O;rw[I]at F
   cases e1<;>cases e2<;>first
    |(exfalso; revert hb2; decide)
    | (cases D with
       |none =>simp (maxDischargeDepth:=6) only[B,A,hT,h1,he1',he2,F,zE4,zW,Nat.reduceLeDiff,Nat.reduceLT,Nat.reduceAdd,Nat.reduceEqDiff];refine aC ⟨(k',w.aR (w.rest.drop n),U),by simp only[Tm.aR]; omega,S,sy2.aR _,by simp only[Tm.aR]; omega,by simp only[Tm.aR]; omega,hdr2,?_⟩;simp only[B,aE,Nat.reduceEqDiff]
       |some a3 =>
        obtain⟨ab,ao,asp⟩:=a3;have habl:ab<xb:=O ab ol;simp (maxDischargeDepth:=6) only[B,A,hT,h1,he1',he2,F,habl,zE4,zW,Nat.reduceLeDiff,Nat.reduceLT,Nat.reduceAdd,Nat.reduceEqDiff];refine aC ⟨(k',w.aR (w.rest.drop n),U),by simp only[Tm.aR]; omega,S,sy2.aR _,by simp only[Tm.aR]; omega,by simp only[Tm.aR]; omega,hdr2,?_⟩
        simp only[B,aE,Nat.reduceEqDiff])
 .clear B E;rintro E X ⟨y,p2,st,hpl,B⟩;rw[show X=ext X [] from rfl,hpl];simp (maxDischargeDepth:=6) only[Tryz.results41,zW,Nat.reduceLT];exact⟨rfl,p2,st⟩
end Go.Proofs.YtpohjcacnkhnkaaGreatDoor.Tq
namespace Go.Proofs.YtpohjcacnkhnkaaGreatDoor
open Go.Ax
def pS(l:List UInt8)(h:0<l.length):0<=(mj l).2/\(mj l).2.toNat<=l.length/\-1<(mj l).1+1/\(mj l).1<2000000000:=by
 have j:=uW l 0;have k:=uW l 1;have m:=uW l 2;have n:=uW l 3;unfold mj
 cases o:ge (bt l 0<128) with
 |true=>simp only[cond_true]; omega
 |false =>
  rw[cond_false]
  cases c:(ge (194<=bt l 0)&&ge (bt l 0<224)&&tl l 1) with
  |true =>simp only[zA7,decide_eq_true_eq]at c;have:=oK c.2;simp only[cond_true];omega
  |false =>
   rw[cond_false]
   cases b:(ge (224<=bt l 0)&&ge (bt l 0<240)&&tl l 1&&tl l 2) with
   |true =>
    simp only[zA7,decide_eq_true_eq]at b;have e:=oK b.1.2;have f:=oK b.2;rw[cond_true]
    cases (ge (2048<=((bt l 0-224)*64+bt l 1-128)*64+bt l 2-128)&&rj (((bt l 0-224)*64+bt l 1-128)*64+bt l 2-128)) with
    |true=>simp only[cond_true]; omega
    |false=>simp only[cond_false]; omega
   |false =>
    rw[cond_false]
    cases a:(ge (240<=bt l 0)&&ge (bt l 0<245)&&tl l 1&&tl l 2&&tl l 3) with
    |true =>
     simp only[zA7,decide_eq_true_eq]at a;have e:=oK a.1.1.2;have f:=oK a.1.2;have r:=oK a.2;rw[cond_true]
     cases (ge (65536<=(((bt l 0-240)*64+bt l 1-128)*64+bt l 2-128)*64+bt l 3-128)&&rj ((((bt l 0-240)*64+bt l 1-128)*64+bt l 2-128)*64+bt l 3-128)) with
     |true=>simp only[cond_true]; omega
     |false=>simp only[cond_false]; omega
    |false=>simp only[cond_false]; omega
def Kp:Nat->List UInt8->Option (List Int)
 |0,l=>if l=[] then ap [] else bi
 |n+1,l=>if l=[] then ap [] else if (mj l).2=0 then bi else (Kp n (l.drop (mj l).2.toNat)).map ((mj l).1::·)
def zR:∀(n m:Nat)(l:List UInt8),l.length<=n->l.length<=m->Kp n l=Kp m l
 |0,m,l,b,_=>by have:l=[]:=zE7 li;subst this;cases m<;>rfl
 |n+1,0,l,_,c=>by have:l=[]:=zE7 li;subst this;rfl
 |n+1,m+1,l,b,c=>by
  simp only[Kp]
  by_cases h:l=[]
  .rw[if_pos h,if_pos h]
  .rw[if_neg h,if_neg h];by_cases a:(mj l).2=0
   .rw[if_pos a,if_pos a]
   .rw[if_neg a,if_neg a];have e:0<l.length:=List.length_pos_iff.2 h;have:=pS l e;rw[zR n m _ (by rw[zC1]; omega) (by rw[zC1]; omega)]
def nZ(l:List UInt8):Option (List Int):=Kp l.length l
theorem o6:nZ []=ap []:=rfl
def mu(l:List UInt8)(h:0<l.length):nZ l=if (mj l).2=0 then bi else (nZ (l.drop (mj l).2.toNat)).map ((mj l).1::·):=by
 unfold nZ
 obtain⟨n,b⟩:∃ n,l.length=n+1:=⟨l.length-1,by omega⟩
 rw[b,Kp,if_neg (fun e=>by rw[e]at h; simp at h)];by_cases a:(mj l).2=0
 .rw[if_pos a,if_pos a]
 .rw[if_neg a,if_neg a];have:=pS l h;rw[zR n _ _ (by rw[zC1]; omega) (zA5 _)]
def DV:∀(n:Nat)(l:List UInt8)(r:List Int),l.length<=n->nZ l=ap r->r.length<=l.length
 |0,l,r,b,h=>by have:l=[]:=zE7 li;subst this;rw[o6]at h;cases h;simp
 |n+1,l,r,b,h=>by
  by_cases a:0<l.length
  .rw[mu l a]at h;split at h
   .cases h
   .rename_i e;obtain⟨q,c,rfl⟩:=zB5.1 h;have f:=pS l a;have:=DV n _ q (by rw[zC1]; omega) c;rw[zC1]at this;simp only[zA3];omega
  .have:l=[]:=zE7 li;subst this;rw[o6]at h;cases h;simp
def iv(l:List Int):List Value:=l.map (Value.int i8)
def Rb(l:List Int)(n:Nat):aX n (iv l)=true:=by induction l with|nil=>rfl|cons a l b=>simp only[iv,zB9,aX]at b ⊢; rw[b]; rfl
def Pt(H H1:aa)(r:Option (List Int))(out:Out):Prop :=
 match r with
 |none=>out=.ok (.tuple #[jp bi 0 0,i7 i8 5])
 |some l=>∃ v,out=.ok (.tuple #[v,i7 i8 0])/\cK H1 3 1 v (iv l) l.length/\∀ n∈ae v,H.next<=n
def P5{H:aa}{s:ByteArray}{n:Nat}{j:Int}(a:j=n)(h:n<=s.size):cw Tryz.prog H 9 (.string s) (ap (i7 i8 j)) bi bi=ap (.string (s.extract n s.size),H):=by subst a;simp only[cw,u9,bound,zA1,zA4];rw[if_pos (Int.natCast_nonneg n)];simp only[Int.toNat_natCast,zA4];rw[if_pos ⟨zA5 _,h⟩]
def ya(s:ByteArray)(n:Nat):(s.extract n s.size).data.toList=s.data.toList.drop n:=by rw[ByteArray.data_extract,Array.toList_extract,List.extract_eq_take_drop];exact zC3 (by rw[zC1,<-jA]; exact zA5 _)
def O4{X:aa}{v:gt}{l:List Int}{c:Int}{x:Nat}(h:cK X 3 1 v (iv l) l.length)(hx:X.next=x)(a:X.base<=X.next)(j:l.length<=4000000) :
  ∃ G,aF Tryz.prog (ext X [⟨3,gc,[i7 i8 c]⟩]) .append ⟨[22,22]⟩ [v,jp (ap ⟨x+0,0,ap 0⟩) 1 1]=ap (jp (ap ⟨x+1,0,bi⟩) (l.length+1) (l.length+1),ext G [])/\cK G 3 1 (jp (ap ⟨x+1,0,bi⟩) (l.length+1) (l.length+1)) (iv (l++[c])) (l++[c]).length/\Mod (ae v) X G/\G.next=x+2:=by
 have m:cK (ext X [⟨3,gc,[i7 i8 c]⟩]) 3 1 v (iv l) l.length:=h.of (by rw[aA]; omega) (fun n o=>bS (h.ne n o).2);have r:bk (ext X [⟨3,gc,[i7 i8 c]⟩]) (x+0)=ap ⟨3,gc,[i7 i8 c]⟩:=by rw[bJ hx lw]; rfl
 have f:small (l.length+1) 8=true:=by simp only[small,zA7,zE2]; omega
 obtain⟨G,w,k,A,B,_⟩:=Cc (P:=Tryz.prog) (H:=ext X [⟨3,gc,[i7 i8 c]⟩]) (st:=22) (xt:=22) (e:=3) (sz:=1) (by1:=8) (z:=i7 i8 0) (n:=x+0) (off:=0) (cnt2:=1) (cap:=1) (s:=ap 0) (x:=x+1) (ws:=[i7 i8 c]) (b:=⟨3,gc,[i7 i8 c]⟩)
  ls ls ls ls rfl ls m (ma r) lw rfl rfl mt f (by rw[aA,hx]; rfl) (eI (Rb _ _) rfl)
 have C:iv l++[i7 i8 c]=iv (l++[c]):=by simp[iv]
 rw[C]at k;refine⟨G,w,by rw[zB2]; exact k,(Mod.ext a).trans (A ((Mod.ext (W:=[]) a).ok a)),B⟩
def zF(H:aa)(s:ByteArray)(w:s.data.toList.length<=2000000)(A:H.base<=H.next):aL Tryz.prog 58 [.string s] H (fun out H1=>Mod [] H H1/\Pt H H1 (nZ s.data.toList) out):=by
 obtain⟨r,D⟩:=ac (nZ s.data.toList);refine aH mixed Tryz.func58 rfl Tryz.ntmps58 (zA8 rfl) ?_;simp only[zW,seval];refine c7 fun E F=>?_;have f:E 0=.string s:=by rw[F]; rfl
 have e:E 4=jp bi 0 0:=by rw[F]; rfl
 clear F;refine bn (fun C X=>Mod [] H X/\∃ v l,r=ap l/\C 4=v/\cK X 3 1 v (iv l) l.length/\∀ n∈ae v,H.next<=n) ?_ ?_
 .refine b8 (fun (q:ByteArray × List Int × gt) C X=>Mod [] H X/\r=(nZ q.1.data.toList).map (q.2.1++·)/\q.2.1.length+q.1.data.toList.length<=2000000/\C 0=.string q.1/\C 4=q.2.2/\cK X 3 1 q.2.2 (iv q.2.1) q.2.1.length/\∀ n∈ae q.2.2,H.next<=n) (fun q=>q.1.data.toList.length) (s,[],jp bi 0 0)
   ⟨Mod.refl,by rw[<-D]; simp,by simpa using w,f,e,cK.nil,fun n o=>by simp[ae]at o⟩ ?_
  clear f e E;rintro⟨t,l,v⟩ E X ⟨m,a,I,f,e,B,b⟩;simp only at a I f e B b;obtain⟨x,hx⟩:=ac X.next;have J:X.base<=X.next:=m.ok A;rw[show X=ext X [] from rfl];have hts:(t.size:Int)=(t.data.toList.length:Int):=by rw[jA]
  by_cases K:0<t.data.toList.length
  .have O:ge (0<(t.size:Int))=true:=decide_eq_true li;have h:=pS t.data.toList K;have R:=OX (ext X []) t t.data.toList rfl K;rw[mu _ K]at a
   obtain⟨c,n,S⟩:∃ c n,mj t.data.toList=(c,n):=⟨_,_,rfl⟩
   rw[S]at h R a;simp only at h R a;simp only[f,pL u9,O,zW,seval];refine R.to ?_;by_cases o:n=0
   .have k:ge (n=0)=true:=decide_eq_true o;rw[if_pos o]at a;simp only[k,da,Tryz.results58,zW,seval];refine⟨m,?_⟩;rw[D,a];rfl
   .have k:ge (n=0)=false:=decide_eq_false o;rw[if_neg o]at a;obtain⟨G,k1,k2,k3,k4⟩:=O4 (c:=c) B hx J li;have U:=P5 (H:=ext G []) (s:=t) (n:=n.toNat) (j:=n) li (by rw[jA]; exact h.2.1);simp only[f,e,hx,k,k1,U,zW,seval];refine aC ⟨(t.extract n.toNat t.size,l++[c],jp (ap ⟨x+1,0,bi⟩) (l.length+1) (l.length+1)),?_,?_,?_,?_,?_,?_,?_,?_⟩
    .simp only[ya,zC1]; omega
    .exact m.step k3 A (fun q V=>.inr (b q V))
    .simp only[ya];rw[a,Option.map_map];congr 1;funext y;simp
    .simp only[ya,zC1,zB2,zA3,zB0]; omega
    .rfl
    .rfl
    .exact k2
    .intro q V;simp only[ae,zA6]at V;have:=m.next;omega
  .have O:ge (0<(t.size:Int))=false:=decide_eq_false li;have ht:t.data.toList=[]:=zE7 li;rw[ht,o6]at a;simp only[f,pL u9,O,zW,seval];exact ah ⟨m,v,l,by rw[a]; simp,e,B,b⟩
 clear f e E;rintro E X ⟨m,v,l,hrl,e,B,b⟩;rw[show X=ext X [] from rfl];simp only[e,Tryz.results58,zW,seval];refine⟨m,?_⟩;rw[D,hrl];exact⟨v,rfl,B,b⟩
end Go.Proofs.YtpohjcacnkhnkaaGreatDoor
namespace Go.Proofs.YtpohjcacnkhnkaaGreatDoor.Tq
open Go.Ax
structure P1 (e:List UInt8) (c:Int):Prop where
 ne:e≠[]
 part:∀ k,0<k->k<e.length->gz (e.take k)=gc
 full:gz e=bv
 dec:lK e=(c,e.length)
 big:c≠65533\/1<e.length
 Fk:e.headD 0=27->c=27
def pI{a:UInt8}{r:List UInt8}(h:eS a<=((r.length+1:Nat):Int)):gz (a::r)=true:=by have:IntKind.i64.wrap (fb .u8 (ck a.toNat) 7)<=((r.length+1:Nat):Int):=h;rw[gz,decide_eq_true this];rfl
def lq{a:UInt8}{r:List UInt8}{n lo hi:Int}(b:jY a.toNat=ap (n,lo,hi))(h:((r.length+1:Nat):Int)<n):gz (a::r)=lA lo hi r:=by
 obtain⟨_,c,e,f⟩:=ot b;have:¬IntKind.i64.wrap (fb .u8 (ck a.toNat) 7)<=((r.length+1:Nat):Int):=by have:IntKind.i64.wrap (fb .u8 (ck a.toNat) 7)=n:=c;omega
 rw[gz,decide_eq_false this,e,f];rfl
def Bn{a:UInt8}(h:a.toNat<128):P1 [a] (a.toNat:Int):=by
 have c:jY a.toNat=none:=by unfold jY; rw[if_pos li]
 have b:=zD3.1 BZ a.toNat (zF5.2 a.toNat_lt);rw[B2,c]at b;simp only[zA7,decide_eq_true_eq]at b;refine⟨by simp,fun k f e=>?_,pI b.2,?_,.inl li,fun h=>?_⟩
 .simp only[List.length_singleton]at e; omega
 .rw[lK,decide_eq_true li];rfl
 .simp only[List.headD_cons]at h;rw[h]; rfl
def NX{a b:UInt8}(c:194<=a.toNat)(f:a.toNat<224)(m:128<=b.toNat)(n:b.toNat<192):P1 [a,b] (((a.toNat:Int)-192)*64+b.toNat-128):=by
 have j:jY a.toNat=ap (2,128,191):=by unfold jY; rw[if_neg li,if_pos f]
 obtain⟨A,e,o,r⟩:=ot j;refine⟨by simp,fun k B s=>?_,pI (by rw[e]; simp),?_,.inr lw,fun h=>?_⟩
 .simp only[zA3,zB0]at s;obtain rfl:k=1:=by omega
  show gz [a]=gc;rw[lq j lw]; rfl
 .have w:ge (((([b]:List UInt8).length+1:Nat):Int)<eS a)=false:=by rw[e]; rfl
  simp only[lK,gj,iW,lP,L8];rw[w,decide_eq_false (show ¬(a.toNat:Int)<128 by omega),decide_eq_false (show ¬240<=ck a.toNat by omega),e,o,r,decide_eq_false (show ¬(b.toNat:Int)<128 by omega),decide_eq_false (show ¬(191:Int)<(b.toNat:Int) by omega),Pj c f m n];rfl
 .simp only[List.headD_cons]at h;rw[h]at c; exact absurd c mt
def JL{a b c:UInt8}{lo hi:Int}(e:224<=a.toNat)(m:a.toNat<240)(n:128<=b.toNat)(o:b.toNat<192)(r:128<=c.toNat)(s:c.toNat<192)(f:jY a.toNat=ap (3,lo,hi))(D:lo<=b.toNat)(F:(b.toNat:Int)<=hi):P1 [a,b,c] ((((a.toNat:Int)-224)*64+b.toNat-128)*64+c.toNat-128):=by
 obtain⟨I,j,w,A⟩:=ot f;refine⟨by simp,fun k J B=>?_,pI (by rw[j]; simp),?_,.inr lw,fun h=>?_⟩
 .simp only[zA3,zB0]at B;rcases (by omega:k=1\/k=2) with rfl|rfl
  .show gz [a]=gc;rw[lq f lw]; rfl
  .show gz [a,b]=gc;rw[lq f lw];rw[lA,decide_eq_false li,decide_eq_false li];rfl
 .have C:ge (((([b,c]:List UInt8).length+1:Nat):Int)<eS a)=false:=by rw[j]; rfl
  simp only[lK,gj,iW,lP,pd,L8,FR];rw[C,decide_eq_false (show ¬(a.toNat:Int)<128 by omega),decide_eq_false (show ¬240<=ck a.toNat by omega),j,w,A,decide_eq_false (show ¬(b.toNat:Int)<lo by omega),decide_eq_false (show ¬hi<(b.toNat:Int) by omega),decide_eq_false (show ¬(c.toNat:Int)<128 by omega),decide_eq_false (show ¬(191:Int)<(c.toNat:Int) by omega),O2 e m n o r s];rfl
 .simp only[List.headD_cons]at h;rw[h]at e; exact absurd e mt
def LZ{a b c d:UInt8}{lo hi:Int}(f:240<=a.toNat)(m:a.toNat<245)(n:128<=b.toNat)(o:b.toNat<192)(r:128<=c.toNat)(s:c.toNat<192)(w:128<=d.toNat)(A:d.toNat<192)(e:jY a.toNat=ap (4,lo,hi))(I:lo<=b.toNat)(J:(b.toNat:Int)<=hi):P1 [a,b,c,d] (((((a.toNat:Int)-240)*64+b.toNat-128)*64+c.toNat-128)*64+d.toNat-128):=by
 obtain⟨K,j,B,C⟩:=ot e;refine⟨by simp,fun k O D=>?_,pI (by rw[j]; simp),?_,.inr lw,fun h=>?_⟩
 .simp only[zA3,zB0]at D;rcases (by omega:k=1\/k=2\/k=3) with rfl|rfl|rfl
  .show gz [a]=gc;rw[lq e lw]; rfl
  .show gz [a,b]=gc;rw[lq e lw];rw[lA,decide_eq_false li,decide_eq_false li];rfl
  .show gz [a,b,c]=gc;rw[lq e lw];rw[lA,decide_eq_false (show ¬(b.toNat:Int)<lo by omega),decide_eq_false (show ¬hi<(b.toNat:Int) by omega),decide_eq_false (show ¬(c.toNat:Int)<128 by omega),decide_eq_false (show ¬(191:Int)<(c.toNat:Int) by omega)];rfl
 .have F:ge (((([b,c,d]:List UInt8).length+1:Nat):Int)<eS a)=false:=by rw[j]; rfl
  simp only[lK,gj,iW,lP,pd,L8,FR];rw[F,decide_eq_false (show ¬(a.toNat:Int)<128 by omega),decide_eq_false (show ¬240<=ck a.toNat by omega),j,B,C,decide_eq_false (show ¬(b.toNat:Int)<lo by omega),decide_eq_false (show ¬hi<(b.toNat:Int) by omega),decide_eq_false (show ¬(c.toNat:Int)<128 by omega),decide_eq_false (show ¬(191:Int)<(c.toNat:Int) by omega),decide_eq_false (show ¬(d.toNat:Int)<128 by omega),decide_eq_false (show ¬(191:Int)<(d.toNat:Int) by omega),O6 f m n o r s w A];rfl
 .simp only[List.headD_cons]at h;rw[h]at f; exact absurd f mt
def Qs(l:List UInt8)(F:l≠[])(h:(mj l).2≠0):P1 (l.take (mj l).2.toNat) (mj l).1:=by
 have e:∀ i,tl l i=bv->i<l.length/\128<=bt l i/\bt l i<192:=fun i=>oK;unfold mj at h ⊢;by_cases K:bt l 0<128
 .rw[decide_eq_true K]at h ⊢;simp only[cond_true]at h ⊢
  rcases l with _|⟨a,r⟩
  .exact absurd rfl F
  .exact Bn (a:=a) (by have:(a.toNat:Int)<128:=K; omega)
 rw[decide_eq_false K]at h ⊢;simp only[cond_false]at h ⊢;by_cases I:(ge (194<=bt l 0)&&ge (bt l 0<224)&&tl l 1)=bv
 .rw[I]at h ⊢;simp only[cond_true]at h ⊢;simp only[zA7,decide_eq_true_eq]at I;obtain⟨⟨n,o⟩,k3⟩:=I;obtain⟨s,w,A⟩:=e 1 k3
  rcases l with _|⟨a,_|⟨b,r⟩⟩
  .exact absurd rfl F
  .simp at s
  .have k:bt (a::b::r) 0=(a.toNat:Int):=rfl;have m:bt (a::b::r) 1=(b.toNat:Int):=rfl;rw[k]at n o ⊢;rw[m]at w A ⊢;exact NX (a:=a) (b:=b) li li li li
 rw[Bool.eq_false_iff.2 I]at h ⊢;simp only[cond_false]at h ⊢;by_cases J:(ge (224<=bt l 0)&&ge (bt l 0<240)&&tl l 1&&tl l 2)=bv
 .rw[J]at h ⊢;simp only[cond_true]at h ⊢;simp only[zA7,decide_eq_true_eq]at J;obtain⟨⟨⟨n,o⟩,k3⟩,k3'⟩:=J;obtain⟨s,w,A⟩:=e 1 k3;obtain⟨O,R,S⟩:=e 2 k3'
  rcases l with _|⟨a,_|⟨b,_|⟨c,r⟩⟩⟩
  .exact absurd rfl F
  .simp at s
  .simp at O
  .have k:bt (a::b::c::r) 0=(a.toNat:Int):=rfl;have m:bt (a::b::c::r) 1=(b.toNat:Int):=rfl;have B:bt (a::b::c::r) 2=(c.toNat:Int):=rfl;rw[k,m,B]at h ⊢;rw[k]at n o;rw[m]at w A;rw[B]at R S;by_cases f:(ge (2048<=(((a.toNat:Int)-224)*64+(b.toNat:Int)-128)*64+(c.toNat:Int)-128)&&Go.Proofs.YtpohjcacnkhnkaaGreatDoor.rj ((((a.toNat:Int)-224)*64+(b.toNat:Int)-128)*64+(c.toNat:Int)-128))=bv
   .rw[f];simp only[zA7,decide_eq_true_eq]at f;obtain⟨f,j⟩:=f;unfold Go.Proofs.YtpohjcacnkhnkaaGreatDoor.rj at j;simp only[zA7,decide_eq_true_eq,Bool.not_eq_true',Bool.and_eq_false_iff,decide_eq_false_iff_not]at j
    obtain⟨lo,hi,U,V,q2⟩:∃ lo hi,jY a.toNat=ap (3,lo,hi)/\lo<=(b.toNat:Int)/\(b.toNat:Int)<=hi:=by
     unfold jY;rw[if_neg li,if_neg li];by_cases C:a.toNat=224
     .rw[if_pos C]; exact⟨_,_,rfl,by omega,by omega⟩
     .rw[if_neg C];by_cases D:a.toNat=237
      .rw[if_pos D]; exact⟨_,_,rfl,by omega,by omega⟩
      .rw[if_neg D,if_pos li]; exact⟨_,_,rfl,by omega,by omega⟩
    exact JL (a:=a) (b:=b) (c:=c) li li li li li li U V q2
   .rw[Bool.eq_false_iff.2 f]at h;exact absurd rfl h
 rw[Bool.eq_false_iff.2 J]at h ⊢;simp only[cond_false]at h ⊢;by_cases f:(ge (240<=bt l 0)&&ge (bt l 0<245)&&tl l 1&&tl l 2&&tl l 3)=bv
 .rw[f]at h ⊢;simp only[cond_true]at h ⊢;simp only[zA7,decide_eq_true_eq]at f;obtain⟨⟨⟨⟨n,o⟩,k3⟩,k3'⟩,k3''⟩:=f;obtain⟨s,w,A⟩:=e 1 k3;obtain⟨O,R,S⟩:=e 2 k3';obtain⟨k10,k11,k12⟩:=e 3 k3''
  rcases l with _|⟨a,_|⟨b,_|⟨c,_|⟨d,r⟩⟩⟩⟩
  .exact absurd rfl F
  .simp at s
  .simp at O
  .simp at k10
  .have k:bt (a::b::c::d::r) 0=(a.toNat:Int):=rfl;have m:bt (a::b::c::d::r) 1=(b.toNat:Int):=rfl;have B:bt (a::b::c::d::r) 2=(c.toNat:Int):=rfl;have e3:bt (a::b::c::d::r) 3=(d.toNat:Int):=rfl;rw[k,m,B,e3]at h ⊢;rw[k]at n o;rw[m]at w A;rw[B]at R S;rw[e3]at k11 k12;by_cases j:(ge (65536<=((((a.toNat:Int)-240)*64+(b.toNat:Int)-128)*64+(c.toNat:Int)-128)*64+(d.toNat:Int)-128)&&Go.Proofs.YtpohjcacnkhnkaaGreatDoor.rj (((((a.toNat:Int)-240)*64+(b.toNat:Int)-128)*64+(c.toNat:Int)-128)*64+(d.toNat:Int)-128))=bv
   .rw[j];simp only[zA7,decide_eq_true_eq]at j;obtain⟨j,c6⟩:=j;unfold Go.Proofs.YtpohjcacnkhnkaaGreatDoor.rj at c6;simp only[zA7,decide_eq_true_eq,Bool.not_eq_true',Bool.and_eq_false_iff,decide_eq_false_iff_not]at c6
    obtain⟨lo,hi,U,V,q2⟩:∃ lo hi,jY a.toNat=ap (4,lo,hi)/\lo<=(b.toNat:Int)/\(b.toNat:Int)<=hi:=by
     unfold jY;rw[if_neg li,if_neg li,if_neg li,if_neg li,if_neg li];by_cases C:a.toNat=240
     .rw[if_pos C]; exact⟨_,_,rfl,by omega,by omega⟩
     .rw[if_neg C];by_cases D:a.toNat<244
      .rw[if_pos D]; exact⟨_,_,rfl,by omega,by omega⟩
      .rw[if_neg D,if_pos li]; exact⟨_,_,rfl,by omega,by omega⟩
    exact LZ (a:=a) (b:=b) (c:=c) (d:=d) li li li li li li li li U V q2
   .rw[Bool.eq_false_iff.2 j]at h;exact absurd rfl h
 .rw[Bool.eq_false_iff.2 f]at h;exact absurd rfl h
def DE{u:n5}{t:Tm}(h:u.full t.rest=gc)(k:Nat):Tm.drain u k t=(t,0):=by
 cases k with
 |zero=>rfl
 |succ k=>rw[Tm.drain,if_neg (fun c=>by rw[h]at c; exact absurd c.2 mt)]
def zV{u:n5}{t:Tm}(h:t.rest=[])(k:Nat):Tm.drain u k t=(t,0):=by
 cases k with
 |zero=>rfl
 |succ k=>rw[Tm.drain,if_neg (fun c=>c.1 h)]
def Ju{u:n5}{t:Tm}(h:t.mode=0)(b:UInt8):t.step u b={(t.plain u b).1 with mode:=(t.plain u b).2}:=by unfold Tm.step;rw[h];rcases hx:t.plain u b with⟨y,m⟩;simp only[]
end Go.Proofs.YtpohjcacnkhnkaaGreatDoor.Tq
namespace Go.Proofs.YtpohjcacnkhnkaaGreatDoor
open Go.Ax
def zh(H:aa)(v:gt)(g:List (List Ce)):Prop :=
 (g=[]/\∃ a c,v=.slice a 0 c)\/(g≠[]/\∃ n off s c e o L,v=jp (ap ⟨n,off,s⟩) g.length c/\rk H n=ap ⟨e,o,L⟩/\n<H.next/\off+g.length<=L.length/\∀ k b,g[k]?=ap b->∃ rv,L[off+k]?=ap rv/\iJ H rv b)
def zh.sl{H:aa}{v:gt}{g:List (List Ce)}(h:zh H v g):∃ a c,v=.slice a g.length c:=by
 rcases h with⟨rfl,a,c,rfl⟩|⟨_,n,off,s,c,e,o,L,rfl,_⟩
 .exact⟨a,c,rfl⟩
 .exact⟨_,_,rfl⟩
def iJ.ext{H:aa}{v:gt}{l:List Ce}{B:List Bl}(h:iJ H v l):iJ (Go.Ax.ext H B) v l:=by
 rcases h with⟨rfl,a,c,rfl⟩|⟨j,n,off,s,c,e,o,L,rfl,k,b,f,m⟩
 .exact .inl ⟨rfl,a,c,rfl⟩
 .exact .inr ⟨j,n,off,s,c,e,o,L,rfl,(Qh b).trans k,by rw[aA]; omega,f,m⟩
def iJ.ne{H:aa}{v:gt}{l:List Ce}(h:iJ H v l)(f:l≠[]):∀ n∈ae v,H.get n≠bi/\n<H.next:=by
 rcases h with⟨rfl,_⟩|⟨_,n,off,s,c,e,o,L,rfl,j,a,_⟩
 .exact absurd rfl f
 .intro m b;simp only[ae,zA6]at b;subst b;exact⟨NL j,a⟩
def Ho{len cap n off:Nat}{s:Option Nat}{i:Int}{k:Nat}(hi:i=k)(a:k<len):aS Tryz.prog 39 (jp (ap ⟨n,off,s⟩) len cap) (i7 i8 i)=ap (i9 (ap ⟨n,off+k,bi⟩)):=by subst hi;rw[gP (e:=56) (sz:=1) ls ls li li];simp
def R5:ey Tryz.prog 56=ap false:=by kernel_rfl
def Ah{k off:Nat}{e:ii}{o:Bool}{L:List gt}{rv:gt}(h:L[off+k]?=ap rv):rl Tryz.prog 56 (off+k) (ap ⟨e,o,L⟩)=ap rv:=by simp only[rl,R5,h]
def Jq(l:List Ce)(v:gt):List Nat:=if l=[] then [] else ae v
def iJ.f{H:aa}{v:gt}{l:List Ce}(h:iJ H v l):∀ n∈Jq l v,H.get n≠none:=by
 unfold Jq;split
 .intro n a; cases a
 .rename_i b; exact fun n a=>(h.ne b n a).1
def iJ.SI{H G:aa}{v:gt}{l:List Ce}(h:iJ H v l)(j:H.next<=G.next)(b:∀ n∈Jq l v,G.get n=H.get n):iJ G v l:=by
 by_cases f:l=[]
 .obtain⟨a,c,e⟩:=h.sl;subst f;exact .inl ⟨rfl,a,c,e⟩
 .rw[Jq,if_neg f]at b;exact h.of j b
def zm(H:aa)(v1 v2:gt)(a j:List (List Ce))(w C D F:Int)(h1:zh H v1 a)(h2:zh H v2 j)(hl:a.length<1000000)(hw:∀ l∈a,l.length<1000000) :
  Pure 14 [.agg #[v1,i7 i8 w,i7 i8 C],.agg #[v2,i7 i8 D,i7 i8 F]] H (kw (ge (a=j/\w=D/\C=F))):=by
 obtain⟨b,I⟩:=ac H.next;refine ba mixed Tryz.func14 rfl Tryz.ntmps14 (zA8 rfl) fun wf hsc=>?_;obtain⟨a1,k1,e1⟩:=h1.sl;obtain⟨a2,k2,e2⟩:=h2.sl;have J:aV b v1=bv/\aV b v2=true:=by simp only[aX,aV,eU,zA7,I]at hsc;exact⟨hsc.1.1,hsc.2.1.1⟩
 rw[e1,e2]at J
 have hfin:∀ s:Bool,(s=bv->a=j/\w=D/\C=F)->(s=gc->¬(a=j/\w=D/\C=F))->s=ge (a=j/\w=D/\C=F):=fun s h1 h2=>by
  cases s
  .rw[decide_eq_false (h2 rfl)]
  .rw[decide_eq_true (h1 rfl)]
 obtain⟨d1,hd1⟩:∃ d,ge ((a.length:Int)=(j.length:Int))=d:=⟨_,rfl⟩
 obtain⟨d2,hd2⟩:∃ d,ge (w=D)=d:=⟨_,rfl⟩
 obtain⟨d3,hd3⟩:∃ d,ge (C=F)=d:=⟨_,rfl⟩
 have U:a.length=j.length ↔ d1=true:=by rw[<-hd1,decide_eq_true_iff]; omega
 have V:w=D ↔ d2=true:=by rw[<-hd2,decide_eq_true_iff]
 have hd3':C=F ↔ d3=true:=by rw[<-hd3,decide_eq_true_iff]
 rw[e1,e2];simp only[I,J.1,J.2,hd1,zW,seval];cases d1<;>simp only[I,hd2,zW,seval]<;>cases d2<;>(try simp (maxDischargeDepth:=6) only[I,hd3,zW,seval])<;>cases d3<;>(try simp (maxDischargeDepth:=6) only[zW,seval]) <;>
 (refine c7 fun E hE=>?_
  obtain⟨s0,K,hs⟩:∃ s0:Bool,E 5=kw s0/\(s0=bv ↔ (a.length=j.length/\w=D/\C=F)):=by refine⟨_,by rw[hE]; (simp only[aE,seval]<;>rfl),?_⟩;rw[U,V,hd3'];decide
  have q2:E 2=i9 (ap ⟨b+0,0,bi⟩):=by rw[hE]; rfl
  have q3:E 3=i9 (ap ⟨b+1,0,bi⟩):=by rw[hE]; rfl
  have q6:E 6=i7 i8 0:=by rw[hE]; rfl
  clear hE hd1 hd2 hd3 U V hd3';have hB0:∀ A B,bk (ext H [A,B]) (b+0)=ap A:=fun A B=>by rw[bJ I lw]; rfl
  have hB1:∀ A B,bk (ext H [A,B]) (b+1)=ap B:=fun A B=>by rw[bJ I lw]; rfl
  refine bn (fun E' H'=>H'=ext H [⟨41,gc,[v1,i7 i8 w,i7 i8 C]⟩,⟨41,gc,[v2,i7 i8 D,i7 i8 F]⟩]/\E' 5=kw (ge (a=j/\w=D/\C=F))) ?_ ?_
  .refine b8 (fun (k:Nat × Bool) E' H'=>H'=ext H [⟨41,gc,[v1,i7 i8 w,i7 i8 C]⟩,⟨41,gc,[v2,i7 i8 D,i7 i8 F]⟩]/\E' 2=i9 (ap ⟨b+0,0,bi⟩)/\E' 3=i9 (ap ⟨b+1,0,bi⟩)/\E' 5=kw k.2/\E' 6=i7 i8 (k.1:Int)/\k.1<=a.length/\(k.2=bv->a.length=j.length/\a.take k.1=j.take k.1/\w=D/\C=F)/\(k.2=gc->¬(a=j/\w=D/\C=F))) (fun k=>a.length-k.1) (0,s0)
    ⟨by rw[e1,e2],q2,q3,K,q6,zB7 _,fun h=>⟨(hs.1 h).1,rfl,(hs.1 h).2⟩,fun h e=>by simp only at h; rw[h]at hs; exact absurd (hs.2 ⟨by rw[e.1],e.2⟩) mt⟩ ?_
   clear q2 q3 K q6 hs;rintro⟨k,s⟩ E H' ⟨hH,q2,q3,K,q6,hk,hs1,hs2⟩;simp only at K q6 hk hs1 hs2;rw[hH]
   cases s with
   |false =>simp only[K,zW,seval];refine ah ⟨rfl,?_⟩;simp only[K,aE,seval];rw[decide_eq_false (hs2 rfl)]
   |true =>
    obtain⟨c,hpre,hr,hc⟩:=hs1 rfl;by_cases hkl:k=a.length
    .have hcd:ge ((k:Int)<(a.length:Int))=false:=by simp[hkl]
     rw[e1];simp only[q2,K,q6,I,hcd,zW,seval];refine ah ⟨rfl,?_⟩;simp only[K,aE,seval];have:a=j:=by have e3:=hpre;rw[hkl,List.take_length,c,List.take_length]at e3;exact e3
     rw[decide_eq_true ⟨this,hr,hc⟩]
    .have O:k<a.length:=by omega
     have hcd:ge ((k:Int)<(a.length:Int))=true:=decide_eq_true li
     rcases h1 with⟨h,_⟩|⟨_,n1,o1,s1,x1,t1,p1,L1,rfl,b1,n1l,le1,tk1⟩
     .rw[h]at O; simp at O
     rcases h2 with⟨h,_⟩|⟨_,n2,o2,s2,x2,t2,p2,L2,rfl,b2,n2l,le2,tk2⟩
     .rw[h]at c; simp at c; simp[c]at O
     obtain⟨w1,R⟩:∃ r,a[k]?=ap r:=⟨_,zB3 O⟩
     obtain⟨w2,S⟩:∃ r,j[k]?=ap r:=⟨_,zB3 li⟩
     obtain⟨u1,hu1,ra1⟩:=tk1 k w1 R;obtain⟨u2,hu2,ra2⟩:=tk2 k w2 S;have i1:=Ho (n:=n1) (off:=o1) (s:=s1) (cap:=x1) (i:=(k:Int)) rfl O;have i2:=Ho (n:=n2) (off:=o2) (s:=s2) (cap:=x2) (i:=(k:Int)) (len:=j.length) rfl li;have y1:=Ah (e:=t1) (o:=p1) hu1;have y2:=Ah (e:=t2) (o:=p2) hu2;rw[I]at n1l n2l;have hww:w1.length<1000000:=hw w1 (zC0 R);simp only[q2,K,q6,I,hcd,zW,seval];refine aK [] [] ls rfl rfl fun ops anc hA hG=>?_;simp only[q2,q3,q6,I,i1,i2,b1,b2,n1l,n2l,y1,y2,gE,bh,zW,seval];refine aN (v:=kw (ge (w1=w2))) (Jq w1 u1++Jq w2 u2) (by simp only[aE,seval]) ls mt (fun m hm=>?_) (fun G hn hg=>?_) (by simp (maxDischargeDepth:=6) only[bh]) ?_
     .rcases zB4.1 hm with hm|hm
      .exact ra1.ext.f m hm
      .exact ra2.ext.f m hm
     .simp only[aE,seval];exact Ex G u1 u2 w1 w2 (ra1.ext.SI (Nat.le_of_eq hn.symm) fun m hm=>hg m (List.mem_append_left _ hm)) (ra2.ext.SI (Nat.le_of_eq hn.symm) fun m hm=>hg m (List.mem_append_right _ hm)) hww
     simp only[q6,I,bA (show k<1000000 by omega),bh,zW,seval];refine aC ⟨(k+1,ge (w1=w2)),by simp only; omega,rfl,?_,?_,?_,?_,by simp only; omega,fun h=>⟨c,?_,hr,hc⟩,fun h e=>?_⟩<;>try simp only[q2,q3,aE,seval]
     .have h:=of_decide_eq_true h;rw[List.take_add_one,List.take_add_one,R,S,hpre,h]
     .have h:=of_decide_eq_false h;rw[e.1]at R;rw[R]at S;exact h (Option.some.inj S)
  .rintro E H' ⟨hH,K⟩;rw[hH];simp only[K,Tryz.results14,zW,seval]
   exact Fin.pure rfl)
section
variable{N M:Nat}{H G:aa}{v rv:gt}{rvs:List gt}{g:List (List Ce)}{l:List Ce}
end
structure Lk where
 fore:Int
 back:Int
 bold:Bool
 under:Bool
 inv:Bool
deriving DecidableEq
def Lk.ce(k:Lk)(r:Int):Ce:=⟨r,k.fore,k.back,k.bold,k.under,k.inv⟩
def Ce.look(c:Ce):Lk:=⟨c.fore,c.back,c.bold,c.under,c.inv⟩
def te(k:Lk):Bool:=ge (0<=k.fore)&&ge (k.fore<=256)&&ge (0<=k.back)&&ge (k.back<=256)
def cM(c:Int):Nat:=if (ge (c<32)||ge (c=127)||!rj c)=bv then 0 else cB c
def run_load{l:List Ce}{k:Nat}{c:Ce}{e:ii}{o:Bool}{L:List gt}{off:Nat}(a:l[k]?=ap c)(b:off+l.length*6<=L.length)(h:(L.drop off).take (l.length*6)=aQ l):rl Tryz.prog 3 (off+k*6) (ap ⟨e,o,L⟩)=ap (i7 i8 c.rune):=by
 have f:ey Tryz.prog 3=ap false:=by kernel_rfl
 have j:=DY l k c L off a h;have m:((L.drop (off+k*6)).take 6)[0]?=ap (i7 i8 c.rune):=by rw[j]; rfl
 rw[lL f];simpa using m
def xr{α:Type}(f:α->List gt)(sz:Nat)(b:∀ a,(f a).length=sz):∀(l:List α)(k:Nat)(c:α),l[k]?=ap c->((l.flatMap f).drop (k*sz)).take sz=f c
 |[],_,_,h=>by simp at h
 |a::l,0,c,h=>by simp only[zF3,i5]at h;subst h;rw[Nat.zero_mul,zD2,List.flatMap_cons,List.take_append,b,zG0,List.take_zero,zD4,zC3 (by rw[b]; exact zA5 _)]
 |a::l,k+1,c,h=>by rw[List.flatMap_cons,show (k+1)*sz=(f a).length+k*sz by rw[b,Nat.succ_mul]; omega,List.drop_append,zE8 li,zD0,zF9];exact xr f sz b l k c (by simpa using h)
def N3{α:Type}(f:α->List gt)(sz:Nat)(m:∀ a,(f a).length=sz){l:List α}{k:Nat}{c:α}{L:List gt}{off:Nat}(e:l[k]?=ap c)(h:(L.drop off).take (l.length*sz)=l.flatMap f):(L.drop (off+k*sz)).take sz=f c:=by
 have b:k<l.length:=(zE0.1 e).1;have j:=xr f sz m l k c e;have n:sz<=l.length*sz-k*sz:=by have:(k+1)*sz<=l.length*sz:=Nat.mul_le_mul_right sz b;rw[Nat.succ_mul]at this;omega
 rw[<-h,List.drop_take,List.drop_drop,List.take_take,Nat.min_eq_left n]at j;exact j
structure Op where
 kind:Int
 row:Int
 col:Int
 n:Int
 look:Lk
 text:ByteArray
def Op.cells(x:Op):List Value:=[i7 i8 x.kind,i7 i8 x.row,i7 i8 x.col,i7 i8 x.n,i7 i8 x.look.fore,i7 i8 x.look.back,kw x.look.bold,kw x.look.under,kw x.look.inv,.string x.text]
def Op.val(x:Op):Value:=.agg ⟨x.cells⟩
theorem K8(x:Op):x.cells.length=10:=rfl
def opsOf(l:List Op):List Value:=l.flatMap Op.cells
def lz(H:aa)(v:gt)(l:List Op):Prop :=
 (l=[]/\∃ a c,v=.slice a 0 c)\/(l≠[]/\∃ n off s c e o L,v=jp (ap ⟨n,off,s⟩) l.length c/\rk H n=ap ⟨e,o,L⟩/\n<H.next/\off+l.length*10<=L.length/\(L.drop off).take (l.length*10)=opsOf l)
def lz.sl{H:aa}{v:gt}{l:List Op}(h:lz H v l):∃ a c,v=.slice a l.length c:=by
 rcases h with⟨rfl,a,c,rfl⟩|⟨_,n,off,s,c,e,o,L,rfl,_⟩
 .exact⟨a,c,rfl⟩
 .exact⟨_,_,rfl⟩
def lz.of{H G:aa}{v:gt}{l:List Op}(h:lz H v l)(w:H.next<=G.next)(f:∀ n∈ae v,G.get n=H.get n):lz G v l:=by
 rcases h with⟨rfl,a,c,rfl⟩|⟨j,n,off,s,c,e,o,L,rfl,k,m,b,r⟩
 .exact .inl ⟨rfl,a,c,rfl⟩
 .exact .inr ⟨j,n,off,s,c,e,o,L,rfl,(oF (f n ol)).trans k,by omega,b,r⟩
def Pw{len cap n off:Nat}{s:Option Nat}{i:Int}{k:Nat}(hi:i=k)(a:k<len):aS Tryz.prog 23 (jp (ap ⟨n,off,s⟩) len cap) (i7 i8 i)=ap (i9 (ap ⟨n,off+k*10,bi⟩)):=by subst hi;rw[gP (e:=58) (sz:=10) ls ls li li];simp
def I1{l:List Op}{k:Nat}{x:Op}{e:ii}{o:Bool}{L:List gt}{off:Nat}(a:l[k]?=ap x)(b:off+l.length*10<=L.length)(h:(L.drop off).take (l.length*10)=opsOf l):rl Tryz.prog 58 (off+k*10) (ap ⟨e,o,L⟩)=ap x.val:=by
 have c:k<l.length:=(zE0.1 a).1;have f:ey Tryz.prog 58=ap true:=by kernel_rfl
 have j:bg Tryz.prog 58=ap 10:=by kernel_rfl
 have m:=N3 Op.cells 10 K8 a h;rw[zk f,j,zA4,if_pos li,m];rfl
structure St where
 grid:List (List Ce)
 sr:Int
 sc:Int
 pen:Lk
 row:Int
 col:Int
 shown:Bool
def Ce.sp:Ce:=⟨32,0,0,gc,gc,gc⟩
end Go.Proofs.YtpohjcacnkhnkaaGreatDoor
namespace Go.Proofs.YtpohjcacnkhnkaaGreatDoor.Tq
abbrev Sb:=Go.Proofs.YtpohjcacnkhnkaaGreatDoor.Ce
abbrev Oe:=Go.Proofs.YtpohjcacnkhnkaaGreatDoor.Lk
def Sx(k:Lk):Oe:=⟨k.fore,k.back,k.bold,k.under,k.inv⟩
def LV(c:Ce):Sb:=⟨c.rune,c.look.fore,c.look.back,c.look.bold,c.look.under,c.look.inv⟩
abbrev zB:=Go.Proofs.YtpohjcacnkhnkaaGreatDoor.Op
abbrev BD(g:List (List Ce)):List (List Sb):=g.map fun l=>l.map LV
section
variable{W:Nat}{x y:St}{t:Tm}{u:n5}
def ig(l:List Nat)(f:UInt8):List UInt8:=27::91::(fZ l++[f])
def ow(k:Oe):List Nat:=0::((if k.bold then [1] else [])++(if k.under then [4] else [])++(if k.inv then [7] else [])++(if 0<k.fore then [38,5,(k.fore-1).toNat] else [])++(if 0<k.back then [48,5,(k.back-1).toNat] else []))
end
section
variable{W:Nat}{x y:St}{t q:Tm}{u:n5}
def yt(a b n:Nat)(up:Bool):List UInt8:=[27,55]++(ig [a+1,b+1] 114++(ig [a+1,0+1] 72++(ig [n] (cond up 77 76)++(ig [] 114++[27,56]))))
end
end Go.Proofs.YtpohjcacnkhnkaaGreatDoor.Tq
namespace Go.Proofs.YtpohjcacnkhnkaaGreatDoor
open Go.Ax
section
variable{T:ii}{N:Nat}{H G:aa}{p:Nat}{v:gt}{rvs:List gt}{x y:St}
end
end Go.Proofs.YtpohjcacnkhnkaaGreatDoor
namespace Go.Ax
section
variable{P:io}{ro:Option Nat}{H:aa}{N:Nat}{E:Env}{ds:List Deferred}{Q:Exit -> ai -> aa -> Prop}
end
end Go.Ax
namespace Go.Proofs.YtpohjcacnkhnkaaGreatDoor
open Go.Ax
section
variable{N:Nat}{H:aa}{p W:Nat}{v:gt}{rvs:List gt}{x:St}
end
section
variable{H G:aa}{u:gt}{L:List gt}
end
end Go.Proofs.YtpohjcacnkhnkaaGreatDoor
namespace Go.Ax
variable{P:io}{H:aa}
end Go.Ax
namespace Go.Proofs.YtpohjcacnkhnkaaGreatDoor
open Go.Ax
section
variable{N:Nat}{X Y Z:aa}{u rv:gt}{rvs:List gt}{g:List (List Ce)}{l:List Ce}
end
section
variable{α β:Type}
def part(g:List α)(a b:Nat):List α:=(g.take (b+1)).drop a
end
def Ik{X:aa}{b:gt}{l:List Int}{i:Nat}{c:Int}(h:cK X 3 1 b (iv l) l.length)(f:l[i]?=ap c):∃ n,b=jp (ap ⟨n,0,bi⟩) l.length l.length/\n<X.next/\bk X n=ap ⟨3,bv,iv l⟩/\(iv l)[i]?=ap (i7 i8 c):=by
 have hi:i<l.length:=(zE0.1 f).1;obtain⟨_,_,⟨k,_⟩|⟨_,n,e,j,a⟩⟩:=h
 .omega
 .exact⟨n,e,a,j,by simp[iv,f]⟩
set_option maxRecDepth 100000
abbrev vI:DataW Unit:=Rows.laid_unicode_utf8_first
abbrev r5:DataW Unit:=Rows.laid_unicode_utf8_acceptRanges
def KE(H:aa):Prop:=∃ a b,bk H 0=ap ⟨a,gc,dc vI⟩/\bk H 1=ap ⟨b,gc,dc r5⟩
def KE.of{H G:aa}(t:KE H)(c:G.get 0=H.get 0)(e:G.get 1=H.get 1):KE G:=by obtain⟨f,h,a,b⟩:=t;exact⟨f,h,(aO c).trans a,(aO e).trans b⟩
def Sj:Go.Shelf.Ren:=⟨fun n=>if n=196 then 124 else if n=259 then 155 else 0,fun n=>if n=46 then 138 else if n=53 then 173 else if n=119 then 148 else if n=138 then 150 else if n=139 then 151 else n,fun n=>n-3⟩
def Ru:Go.Proofs.Lays.n196 Tryz.prog Sj:=by
 constructor
 all_goals first
  |exact mixed
  |kernel_rfl
  |(intro w; kernel_rfl)
def Mq:dc vI=(List.range 256).map fun c=>Value.int .u8 ((Go.Lib.firstT c:Nat):Int):=by kernel_rfl
def Mh:dc r5=(List.range 16).flatMap fun i=>[Value.int .u8 ((Go.Lib.accLo i:Nat):Int),Value.int .u8 ((Go.Lib.accHi i:Nat):Int)]:=by kernel_rfl
def Al{f g:Nat->gt}:∀(n k i:Nat),i<n->(((List.range' k n).flatMap fun j=>[f j,g j])[2*i]?=ap (f (k+i))/\((List.range' k n).flatMap fun j=>[f j,g j])[2*i+1]?=ap (g (k+i)))
 |0,_,_,h=>absurd h li
 |n+1,k,0,_=>by rw[List.range'_succ]; exact⟨rfl,rfl⟩
 |n+1,k,i+1,h=>by rw[List.range'_succ];have:=Al (f:=f) (g:=g) n (k+1) i li;rw[show k+1+i=k+(i+1) by omega]at this;exact this
def GL{ρ:Go.Ax.Ren}{H:aa}{w:ip}(r:Rel Tryz.prog ρ H w)(t:KE H):Go.Lib.Utf8Tabs 0 1 w:=by
 obtain⟨n,o,a,b⟩:=t;obtain⟨s,e,h⟩:=pH r (show 0<Tryz.prog.globals.size by decide +kernel) a ls;obtain⟨A,j,k⟩:=pH r (show 1<Tryz.prog.globals.size by decide +kernel) b ls;refine⟨fun c m=>?_,fun i hi=>?_⟩
 .simp only[World.cell?,e];rw[<-Array.getElem?_toList,h,Mq,zE1,List.getElem?_range m];rfl
 .have:=Al (f:=fun i=>Value.int .u8 ((Go.Lib.accLo i:Nat):Int)) (g:=fun i=>Value.int .u8 ((Go.Lib.accHi i:Nat):Int)) 16 0 i hi;rw[zC6]at this;simp only[World.cell?,j];rw[<-Array.getElem?_toList,<-Array.getElem?_toList,k,Mh,List.range_eq_range'];exact⟨by simpa using this.1,by simpa using this.2⟩
def zy(H:aa)(t:KE H)(s:ByteArray)(a:s.size<=9223372036854775807):Pure 124 [.string s] H (kw (Go.Lib.validD s.data.toList)):=by intro ρ w r b F n R c f;have h:=Go.Proofs.Any.utf8_ValidString Ru s w a (GL r t);have j:[Value.string s].map ρ.val=[Value.string s]:=tD ρ _ (fun x hx=>by simp only[zA6]at hx; subst hx; rfl);rw[j];refine (c.calls h).mono ?_;rintro e w' ⟨rfl,k⟩;have:=f ρ w' (St.below r k) rfl;rwa [di ρ _ rfl]at this
def Pp(H:aa)(t:KE H)(s:ByteArray)(a:s.size<=9223372036854775807):Pure 89 [.string s] H (kw (Go.Lib.validD s.data.toList)):=by refine ba mixed Tryz.func89 rfl Tryz.ntmps89 (zA8 rfl) fun wf b=>?_;simp only[zW,seval];refine (zy (ext H []) t s a).to ?_;simp only[Tryz.results89,zW,seval];exact Fin.cq rfl rfl
def Gb(l:List UInt8)(i:Nat):tl l i=bv ↔ (i<l.length/\(l.getD i 0).toNat / 64=2):=by
 constructor
 .intro a;have h:=oK a;unfold bt at h;omega
 .intro a;simp only[tl,zA7,decide_eq_true_eq];unfold bt;omega
def Mo(l:List UInt8)(h:0<l.length):((mj l).2=0/\(Go.Lib.decodeL l).1=65533/\(Go.Lib.decodeL l).2=1) \/
  ((mj l).2≠0/\(mj l).1=((Go.Lib.decodeL l).1:Int)/\(mj l).2=((Go.Lib.decodeL l).2:Int)/\¬((Go.Lib.decodeL l).1=65533/\(Go.Lib.decodeL l).2=1)):=by
 rw[Go.Lib.decodeL_N];have A:=(l.getD 0 0).toNat_lt;have B:=(l.getD 1 0).toNat_lt;have C:=(l.getD 2 0).toNat_lt;have D:=(l.getD 3 0).toNat_lt;have j:=Gb l 1;have m:=Gb l 2;have s:=Gb l 3;unfold mj rj Go.Lib.decodeN;simp only[Bool.cond_eq_ite,zA7,Bool.not_eq_true',decide_eq_true_eq,Bool.and_eq_false_iff,decide_eq_false_iff_not];rw[show bt l 0=((l.getD 0 0).toNat:Int) from rfl,show bt l 1=((l.getD 1 0).toNat:Int) from rfl,show bt l 2=((l.getD 2 0).toNat:Int) from rfl,show bt l 3=((l.getD 3 0).toNat:Int) from rfl]
 generalize (l.getD 0 0).toNat=a at *
 generalize (l.getD 1 0).toNat=b1 at *
 generalize (l.getD 2 0).toNat=b2 at *
 generalize (l.getD 3 0).toNat=b3 at *
 generalize tl l 1=c1 at *
 generalize tl l 2=c2 at *
 generalize tl l 3=c3 at *
 generalize l.length=n at *
 by_cases f:a<128
 .rw[if_pos li,if_pos f];dsimp only;omega
 rw[if_neg li];by_cases F:194<=a/\a<224
 .by_cases c:c1=bv
  .have k:=j.1 c;rw[if_pos ⟨⟨by omega,by omega⟩,c⟩,if_neg f,if_pos ⟨by omega,k⟩,if_pos li];dsimp only;omega
  .rw[if_neg (fun b=>c b.2),if_neg (by intro b; omega),if_neg (by intro b; omega),if_neg f,if_neg (fun b=>c (j.2 b.2)),if_neg li,if_neg li];dsimp only;omega
 rw[if_neg (by intro b; omega)];by_cases I:224<=a/\a<240
 .by_cases c:c1=bv/\c2=bv
  .have k:=j.1 c.1;have o:=m.1 c.2;rw[if_pos ⟨⟨⟨by omega,by omega⟩,c.1⟩,c.2⟩,if_neg f,if_neg (show ¬(a / 32=6/\(1<n/\b1 / 64=2)) by omega),if_pos (show (a / 16=14/\(1<n/\b1 / 64=2)/\(2<n/\b2 / 64=2)) from⟨by omega,k,o⟩)];have e:((a:Int)-224)*64+b1-128=(((a-224)*64+(b1-128):Nat):Int):=by omega
   have r:((((a-224)*64+(b1-128):Nat):Int))*64+b2-128=((a % 16*4096+b1 % 64*64+b2 % 64:Nat):Int):=by omega
   rw[e,r];generalize a % 16*4096+b1 % 64*64+b2 % 64=z;by_cases e:z ≥ 2048/\(z<55296\/57344<=z/\z<=1114111)
   .rw[if_pos li,if_pos e];dsimp only;omega
   .rw[if_neg li,if_neg e];dsimp only;omega
  .rw[if_neg (fun b=>c ⟨b.1.2,b.2⟩),if_neg (by intro b; omega),if_neg f,if_neg (show ¬(a / 32=6/\(1<n/\b1 / 64=2)) by omega),if_neg (show ¬(a / 16=14/\(1<n/\b1 / 64=2)/\(2<n/\b2 / 64=2)) from fun b=>c ⟨j.2 b.2.1,m.2 b.2.2⟩),if_neg (show ¬(a / 8=30/\(1<n/\b1 / 64=2)/\(2<n/\b2 / 64=2)/\(3<n/\b3 / 64=2)) by omega)];dsimp only;omega
 rw[if_neg (by intro b; omega)];by_cases J:240<=a/\a<245
 .by_cases c:c1=bv/\c2=bv/\c3=bv
  .have k:=j.1 c.1;have o:=m.1 c.2.1;have w:=s.1 c.2.2;rw[if_pos ⟨⟨⟨⟨by omega,by omega⟩,c.1⟩,c.2.1⟩,c.2.2⟩,if_neg f,if_neg (show ¬(a / 32=6/\(1<n/\b1 / 64=2)) by omega),if_neg (show ¬(a / 16=14/\(1<n/\b1 / 64=2)/\(2<n/\b2 / 64=2)) by omega),if_pos (show (a / 8=30/\(1<n/\b1 / 64=2)/\(2<n/\b2 / 64=2)/\(3<n/\b3 / 64=2)) from⟨by omega,k,o,w⟩)];have e:((a:Int)-240)*64+b1-128=(((a-240)*64+(b1-128):Nat):Int):=by omega
   have r:((((a-240)*64+(b1-128):Nat):Int))*64+b2-128=(((a-240)*4096+(b1-128)*64+(b2-128):Nat):Int):=by omega
   have hx:((((a-240)*4096+(b1-128)*64+(b2-128):Nat):Int))*64+b3-128=((a % 8*262144+b1 % 64*4096+b2 % 64*64+b3 % 64:Nat):Int):=by omega
   rw[e,r,hx];generalize a % 8*262144+b1 % 64*4096+b2 % 64*64+b3 % 64=z;by_cases e:z ≥ 65536/\(z<55296\/57344<=z/\z<=1114111)
   .rw[if_pos li,if_pos e];dsimp only;omega
   .rw[if_neg li,if_neg e];dsimp only;omega
  .rw[if_neg (fun b=>c ⟨b.1.1.2,b.1.2,b.2⟩),if_neg f,if_neg (show ¬(a / 32=6/\(1<n/\b1 / 64=2)) by omega),if_neg (show ¬(a / 16=14/\(1<n/\b1 / 64=2)/\(2<n/\b2 / 64=2)) by omega),if_neg (show ¬(a / 8=30/\(1<n/\b1 / 64=2)/\(2<n/\b2 / 64=2)/\(3<n/\b3 / 64=2)) from fun b=>c ⟨j.2 b.2.1,m.2 b.2.2.1,s.2 b.2.2.2⟩)];dsimp only;omega
 rw[if_neg (by intro b; omega),if_neg f]
 repeat' split
 all_goals (dsimp only; omega)
def AJ:∀(n:Nat)(l:List UInt8),l.length<=n->Go.Lib.validD l=(nZ l).isSome
 |0,l,h=>by have:l=[]:=zE7 li;subst this;rfl
 |n+1,l,h=>by
  by_cases a:0<l.length
  .have dK:l≠[]:=fun e=>by rw[e]at a; simp at a
   rw[Go.Lib.validD_step l dK,mu l a];have k:=pS l a
   rcases Mo l a with⟨b,c,f⟩|⟨b,c,f,j⟩
   .rw[if_pos ⟨c,f⟩,if_pos b];rfl
   .rw[if_neg j,if_neg b,Option.isSome_map];have e:(Go.Lib.decodeL l).2=(mj l).2.toNat:=by omega
    rw[e];exact AJ n _ (by rw[zC1]; omega)
  .have:l=[]:=zE7 li;subst this;rfl
end Go.Proofs.YtpohjcacnkhnkaaGreatDoor
namespace Go.Ax
section
variable{P:io}{H:aa}{N:Nat}{E:Env}{ds:List Deferred}{ops:Array Oper}{anc:List Nat}{d:Nat}{ty:ii}{pos:String}{after:Array Edge}{rest:List Oper}{i:Nat}{fps:List Fp}{Q:ai -> aa -> Prop}
end
end Go.Ax
namespace Go.Proofs.YtpohjcacnkhnkaaGreatDoor
open Go.Ax
section
variable{Z:aa}{N:Nat}{E:Env}{ds:List Deferred}{ops:Array Oper}{anc:List Nat}{ty:ii}{pos:String}{after:Array Edge}{rest:List Oper}{i d:Nat}{fps:List Fp}{Q:ai -> aa -> Prop}{v u:gt}{vs L:List gt}{cnt:Nat}
end
def lJ:List Ce->Bool
 |[]=>bv
 |c::l=>if (ge (cM c.rune=0)||!te c.look)=bv then gc else
   if cM c.rune=2 then (match l with|[]=>gc|d::l'=>ge (d=c.look.ce (-1))&&lJ l') else lJ l
def uj(c:Ce)(l:List Ce) : lJ (c :: l) = if (ge (cM c.rune = 0) || !te c.look) = bv then gc else
   if cM c.rune=2 then (match l with|[]=>gc|d::l'=>ge (d=c.look.ce (-1))&&lJ l') else lJ l:=by
 cases l<;>first|rfl|rw[lJ]
def Pv(W:Nat)(l:List Ce):Bool:=ge (l.length=W)&&lJ l
def F1(W:Nat)(g:List (List Ce)):Bool:=g.all (Pv W)
end Go.Proofs.YtpohjcacnkhnkaaGreatDoor
namespace Go.Proofs.YtpohjcacnkhnkaaGreatDoor.Tq
open Go.Ax
theorem Ed(c:Int):Go.Proofs.YtpohjcacnkhnkaaGreatDoor.cB c=cB c:=rfl
section
variable{W:Nat}{x:St}{t:Tm}
end
def B6(c:Int):Bool:=!(ge (c<32)||ge (c=127)||ge (cB c=0))
def l8(o:zB):Option (List UInt8) :=
 if o.kind=1 then (if 0<=min o.row o.col/\max o.row o.col<=9998 then ap (ig [o.row.toNat+1,o.col.toNat+1] 72) else bi)
 else if o.kind=2 then (if te o.look=bv then ap (ig (ow o.look) 109) else bi)
 else if o.kind=3 then (match nZ o.text.data.toList with
  |none=>bi
  |some l=>if l.all B6=bv then ap o.text.data.toList else bi)
 else if o.kind=4 then ap (ig [] 75)
 else if o.kind=5\/o.kind=6 then (if 0<=o.row/\o.row<=o.col/\o.col<=9998/\1<=o.n/\o.n<=o.col-o.row+1 then ap (yt o.row.toNat o.col.toNat o.n.toNat (ge (o.kind=5))) else bi)
 else if o.kind=7 then ap [27,91,63,50,53,104]
 else if o.kind=8 then ap [27,91,63,50,53,108]
 else bi
def dM:List zB->Option (List UInt8)
 |[]=>ap []
 |o::l=>match l8 o,dM l with
  |some b,ap r=>ap (b++r)
  |_,_=>bi
section
variable{W:Nat}{x y:St}{t:Tm}
end
set_option maxRecDepth 100000
def NP.trans{H X Y:aa}{v u:gt}{m:List UInt8}{out:Out}(b:Mod (ae v) H X)(c:∀ n∈ae u,n∈ae v\/H.next<=n)(a:H.base<=H.next)(h:NP X u m out Y):NP H v m out Y:=by
 obtain⟨e,w,rfl,f,j⟩:=h;refine⟨b.step e a c,w,rfl,f,fun n k=>?_⟩;rcases j n k with h|h
 .exact c n h
 .have:=b.next; exact .inr li
def wQ{H:aa}{v:gt}{l cs:List UInt8}{b k:Nat}{L:List gt}(j:cK H 5 1 v (aq l) l.length)(h:aq cs=L)(n:cs.length=k)(o:0<k)(U:l.length<=350000000)(r:k<=1000)(m:H.next=b)(c:H.base<=H.next) :
  ∃ G,aF Tryz.prog (ext H [⟨5,gc,L⟩]) .append ⟨[25,25]⟩ [v,jp (ap ⟨b+0,0,ap 0⟩) k k]=ap (jp (ap ⟨b+1,0,bi⟩) (l.length+k) (l.length+k),ext G [])/\cK G 5 1 (jp (ap ⟨b+1,0,bi⟩) (l.length+k) (l.length+k)) (aq (l++cs)) (l++cs).length/\Mod (ae v) H G/\G.next=b+2:=by
 subst h;have w:Tryz.prog.underlying 25=ap (.slice 5):=by kernel_rfl
 have A:bg Tryz.prog 5=ap 1:=by kernel_rfl
 have B:bytesOf Tryz.prog 5=ap 1:=by kernel_rfl
 have C:zeroOf Tryz.prog 5=ap (.int .u8 0):=by kernel_rfl
 have D:fM Tryz.prog 25=ap false:=by kernel_rfl
 obtain⟨H1,a⟩:=ac (ext H [⟨5,gc,aq cs⟩]);have f:Mod [] H H1:=a▸Mod.ext c;have F:H1.next=b+1:=by rw[<-a,aA,m]; rfl
 have I:bk H1 (b+0)=ap ⟨5,gc,aq cs⟩:=by rw[<-a,bJ m lw]; rfl
 have J:cK H1 5 1 v (aq l) l.length:=j.of f.next fun q K=>f.get q (j.ne q K).2 lw
 obtain⟨G,O,R,S,V,g5⟩:=Cc (P:=Tryz.prog) (st:=25) (xt:=25) (e:=5) (sz:=1) (by1:=1) (z:=.int .u8 0) (off:=0) (cap:=k) (s:=ap 0) (cnt2:=k) (ws:=aq cs) w A B C rfl D J (ma I) (by simp only[ib]; omega) (by
  simp only[zD2,zE5]
  exact zC3 (by rw[ib]; omega)) (vA _) o sm F (by rw[<-ju]; exact mR _ _)
 rw[a];refine⟨G,O,?_,(f.mono lw).trans (S (f.ok c)),by omega⟩;rw[ju,zB2,n];exact R
def join_cons(a:Nat):∀ {l:List Nat},l≠[]->fZ (a::l)=fu a++59::fZ l
 |[],h=>absurd rfl h
 |b::l,_=>by rw[fZ];simp
def zY:∀(l:List Nat)(n:Nat),fZ (l++[n])=fZ l++((if 0<l.length then [59] else [])++fu n)
 |[],n=>by simp[fZ]
 |[a],n=>by simp[fZ]
 |a::b::l,n=>by have:=zY (b::l) n;rw[zG1,join_cons a lw,this,join_cons a lw];simp
def Bg{ns:List Nat}{i n:Nat}(h:ns[i]?=ap n):fZ (ns.take (i+1))=fZ (ns.take i)++((if 0<i then [59] else [])++fu n):=by have a:=(zE0.1 h).1;rw[List.take_add_one,h,Option.toList_some,zY,zF1,Nat.min_eq_left li]
def O9(u:Nat):(fu u).length<=4:=by unfold fu; split<;>(try split)<;>(try split)<;>simp
def join_le(ns:List Nat):(fZ ns).length<=5*ns.length:=by
 induction ns with
 |nil=>simp[fZ]
 |cons a l c =>
  have:=O9 a
  cases l with
  |nil=>simp only[fZ,zA3,zB0]; omega
  |cons b l =>rw[join_cons a lw,zB2,zA3];simp only[zA3]at c ⊢; omega
def nV(ns:List Nat):List Value:=ns.map fun n:Nat=>Value.int i8 (n:Int)
def CX(l:List UInt8)(ns:List Nat)(i:Nat):List UInt8:=l++27::91::fZ (ns.take i)
def NA(H:aa)(t:Pow H)(v S:gt)(l:List UInt8)(ns:List Nat)(f:UInt8)(hv:cK H 5 1 v (aq l) l.length)(hl:l.length<=310000000)(hp:pq H 1 S (nV ns) ns.length)(hn:∀ n∈ns,n<=9999)(hns:ns.length<=20)(h2:2∉ae v)(p9:∀ n∈ae v,n∉ae S)(A:H.base<=H.next) :
  aL Tryz.prog 50 [v,.int .u8 (f.toNat:Int),S] H (NP H v (l++ig ns f)):=by
 have a1:Tryz.prog.underlying 22=ap (.slice 3):=by kernel_rfl
 have a2:bg Tryz.prog 3=ap 1:=by kernel_rfl
 obtain⟨b,hb⟩:=ac H.next;obtain⟨pa,pc,ep⟩:=hp.sl;obtain⟨G,g1,g2,g3,g4⟩:=wQ (cs:=[27,91]) (L:=[.int .u8 27,.int .u8 91]) (k:=2) hv rfl rfl mt li mt hb A;refine aH mixed Tryz.func50 rfl Tryz.ntmps50 (zA8 rfl) ?_;rw[ep];simp only[hb,g1,zW,seval];rw[<-ep];refine c7 fun E U=>?_;have J:E 0=jp (ap ⟨b+1,0,bi⟩) (l.length+2) (l.length+2):=by rw[U]; rfl
 have j:E 12=S:=by rw[U]; rfl
 have B:E 1=.int .u8 (f.toNat:Int):=by rw[U]; rfl
 have r:E 13=i7 i8 (ns.length:Int):=by rw[U]; rfl
 have a:E 14=i7 i8 ((0:Nat):Int):=by rw[U]; rfl
 clear U;refine b8 (fun (q:Nat × gt) E' X=>q.1<=ns.length/\Mod (ae v) H X/\cK X 5 1 q.2 (aq (CX l ns q.1)) (CX l ns q.1).length/\(∀ n∈ae q.2,n∈ae v\/H.next<=n)/\E' 0=q.2/\E' 1=.int .u8 (f.toNat:Int)/\E' 12=S/\E' 13=i7 i8 (ns.length:Int)/\E' 14=i7 i8 (q.1:Int)) (fun q=>ns.length-q.1) (0,jp (ap ⟨b+1,0,bi⟩) (l.length+2) (l.length+2)) ⟨zB7 _,g3,by simp only[CX,List.take_zero,fZ]; exact g2,fun n hn=>.inr (by simp only[ae,zA6]at hn; omega),J,B,j,r,a⟩ ?_;clear J B j r a g1 g2 g3 g4 E;rintro⟨i,u⟩ E X ⟨hi,D,vX,V,J,B,j,r,a⟩;simp only at hi vX V J a;have F:=D.ok A;obtain⟨y,K⟩:=ac X.next;have yb:X.base<=y:=K▸F;have hby:b<=y:=by have:=D.next; omega
 have u2:2∉ae u:=fun h=>(V 2 h).elim h2 fun h=>by have:=t.1; omega
 have tX:=t.mod D h2;obtain⟨ua,eu⟩:=vX.len;have hjl:(CX l ns i).length<=l.length+2+100:=by have:=join_le (ns.take i);rw[zF1]at this;simp only[CX,zB2,zA3];omega
 rw[show X=ext X [] from rfl];by_cases O:i<ns.length
 .have hd:ge ((i:Int)<(ns.length:Int))=true:=decide_eq_true li
  obtain⟨n,I⟩:∃ n,ns[i]?=ap n:=⟨_,zB3 O⟩
  have hn9:=hn n (zC0 I);have rX:pq X 1 S (nV ns) ns.length:=hp.of D.next fun q C=>D.get q (hp.ne q C).2 fun h=>p9 q h (by unfold Q1 at C; split at C; exact absurd C lw; exact C);obtain⟨m,off,s,c,e,o,M,e1,n1,r1,hM⟩:=rX.one O;have hM2:M[off+i]?=ap (i7 i8 (n:Int)):=by rw[hM,nV,zE1,I]; rfl
  have i1:=Q4 (P:=Tryz.prog) (k:=i8) (i:=i) (n:=m) (off:=off) (len:=ns.length) (cap:=c) (s:=s) a1 a2 O;rw[zE5]at i1;have l1:rl Tryz.prog 3 (off+i) (ap ⟨e,o,M⟩)=ap (i7 i8 (n:Int)):=by rw[lL ls,hM2]
  rw[K]at n1;rw[e1]at j;have hw1:IntKind.i64.wrap ((i:Int)+1)=((i+1:Nat):Int):=by rw[IntKind.wrap_i64]; omega
  by_cases h0:i=0
  .have R:ge ((0:Int)<(i:Int))=false:=decide_eq_false li;simp only[J,j,r,a,K,hd,R,i1,n1,r1,l1,gE,zW,seval];refine (Iv (ext X []) tX u _ n vX li hn9 F).mono ?_;rintro out Y ⟨m1,w,rfl,w1,w2⟩;rw[show Y=ext Y [] from rfl];simp only[a,hw1,zW,seval];refine aC ⟨(i+1,w),by simp only; omega,by simp only; omega,D.step m1 A V,?_,fun q C=>?_,by simp only[aE,seval],by simp only[B,aE,seval],by simp only[j,e1,aE,seval],by simp only[r,aE,seval],by simp only[aE]⟩
   .have:CX l ns (i+1)=CX l ns i++fu n:=by
     rw[CX,CX,Bg I,if_neg li];simp
    rw[this];exact w1
   .rcases w2 q C with h|h
    .exact V q h
    .exact .inr (by have:=D.next; exact zC7 this h)
  .have R:ge ((0:Int)<(i:Int))=true:=decide_eq_true li;obtain⟨G,k1,k2,k3,k4⟩:=wQ (cs:=[59]) (L:=[.int .u8 59]) (k:=1) vX rfl rfl mt li mt K F;simp only[J,j,r,a,K,hd,R,i1,n1,r1,l1,k1,gE,zW,seval];have mG:=D.step k3 A V;refine (Iv (ext G []) (tX.mod k3 u2) _ (CX l ns i++[59]) n k2 (by rw[zB2,List.length_singleton]; omega) hn9 (mG.ok A)).mono ?_;rintro out Y ⟨m1,w,rfl,w1,w2⟩;rw[show Y=ext Y [] from rfl];simp only[a,hw1,zW,seval];have l2:∀ q∈ae (Value.slice (ap ⟨y+1,0,bi⟩) ((CX l ns i).length+1) ((CX l ns i).length+1)),q∈ae v\/H.next<=q:=fun q C=>.inr (by simp only[ae,zA6]at C; omega);refine aC ⟨(i+1,w),by simp only; omega,by simp only; omega,mG.step m1 A l2,?_,fun q C=>?_,by simp only[aE,seval],by simp only[B,aE,seval],by simp only[j,e1,aE,seval],by simp only[r,aE,seval],by simp only[aE]⟩
   .have:CX l ns (i+1)=(CX l ns i++[59])++fu n:=by
     rw[CX,CX,Bg I,if_pos li];simp
    rw[this];exact w1
   .rcases w2 q C with h|h
    .exact l2 q h
    .exact .inr (by have:=mG.next; exact zC7 this h)
 .have hd:ge ((i:Int)<(ns.length:Int))=false:=decide_eq_false li;obtain⟨G,k1,k2,k3,k4⟩:=wQ (cs:=[f]) (L:=[.int .u8 (f.toNat:Int)]) (k:=1) vX rfl rfl mt li mt K F;simp only[J,B,r,a,K,hd,k1,Tryz.results50,zW,seval];have:CX l ns i++[f]=l++ig ns f:=by rw[CX,ig,zC3 li];simp
  rw[this]at k2;refine⟨D.step k3 A V,_,rfl,?_,fun q C=>.inr (by simp only[ae,zA6]at C; omega)⟩;exact k2
end Go.Proofs.YtpohjcacnkhnkaaGreatDoor.Tq
namespace Go.Ax
def Q7{P:io}{ro:Option Nat}{x y:Code}{Q:Exit->ai->aa->Prop}{N:Nat}{E:Env}{ds:List Deferred}{H:aa}{v:gt}(h:∀ a,a=E->qf P ro x y Q (bj N a ds) H v):qf P ro x y Q (bj N E ds) H v:=h E rfl
end Go.Ax
namespace Go.Proofs.YtpohjcacnkhnkaaGreatDoor.Tq
open Go.Ax
set_option maxRecDepth 100000
def BF(ns:List Nat):(nV ns).all one=true:=by simp[nV,one]
def PQ(n:Nat)(ns:List Nat):aX n (nV ns)=true:=by rw[cx];intro b a;obtain⟨w',_,rfl⟩:=zB6.1 a;rfl
def jQ(ns:List Nat):(nV ns).length=ns.length:=by simp[nV]
def Kr(H:aa)(w:gt)(l:List Nat):Prop:=l≠[]/\∃ n o,w=jp (ap ⟨n,0,if o then bi else ap 0⟩) l.length l.length/\bk H n=ap ⟨3,o,nV l⟩/\n<H.next
def Kr.rd{H:aa}{w:gt}{l:List Nat}(h:Kr H w l):pq H 1 w (nV l) l.length:=by obtain⟨b,n,o,rfl,c,a⟩:=h;exact⟨by rw[jQ,zE5],.inr ⟨by have:=List.length_pos_iff.2 b; omega,n,0,_,_,3,o,_,rfl,ma c,a,by rw[jQ]; omega,by rw[zD2,zC3 (by rw[jQ]; omega)]⟩⟩
def yA{X:aa}{w:gt}{l cs:List Nat}{b k:Nat}{L:List gt}(h:Kr X w l)(c:nV cs=L)(S:cs.length=k)(K:0<k)(f:X.next=b)(O:l.length<=100)(U:k<=100)(j:X.base<=X.next) :
  ∃ w' G,aF Tryz.prog (ext X [⟨3,gc,L⟩]) .append ⟨[22,22]⟩ [w,jp (ap ⟨b+0,0,ap 0⟩) k k]=ap (w',ext G [])/\Kr G w' (l++cs)/\Mod (ae w) X G/\∀ n∈ae w',X.next<=n:=by
 subst c;subst S;obtain⟨dK,n,o,rfl,F,r⟩:=h;have A:bk (ext X [⟨3,gc,nV cs⟩]) (b+0)=ap ⟨3,gc,nV cs⟩:=by rw[bJ f lw]; rfl
 have B:bk (ext X [⟨3,gc,nV cs⟩]) n=ap ⟨3,o,nV l⟩:=(iI r).trans F;have C:small (l.length+cs.length) 8=true:=by simp only[small,zA7,zE2]; omega
 have c:nV l++nV cs=nV (l++cs):=by simp[nV]
 have D:((nV cs).drop 0).take (cs.length*1)=nV cs:=by rw[zD2]; exact zC3 (by rw[jQ]; omega)
 cases o with
 |false =>
  have a:=kn (P:=Tryz.prog) (H:=ext X [⟨3,gc,nV cs⟩]) (st:=22) (xt:=22) (e:=3) (sz:=1) (by1:=8) (z:=i7 i8 0) (m:=n) (k:=l.length) (n:=b+0) (off:=0) (cnt:=cs.length) (cap:=cs.length) (s:=ap 0)
   ls ls ls ls rfl ls B (by rw[jQ]; omega) (BF l) A (by simp only[jQ]; omega) (BF cs) K C
  have V:(nV l).take (l.length*1)=nV l:=zC3 (by rw[jQ]; omega);simp only[V,D,c]at a;have I:=et (H:=X) (L:=[⟨3,gc,nV cs⟩]) (e:=3) (l:=nV (l++cs)) (o:=true) (PQ _ _);rw[I,zB1]at a;refine⟨_,ext X [⟨3,gc,nV cs⟩,⟨3,bv,nV (l++cs)⟩],a,⟨by simp[dK],b+1,bv,?_,?_,?_⟩,Mod.ext j,fun q J=>?_⟩
  .rw[aA,f]; simp
  .rw[bJ f lw]; rfl
  .rw[aA,f]; simp
  .simp only[ae,zA6,aA]at J; omega
 |true =>
  have a:=ET (P:=Tryz.prog) (H:=ext X [⟨3,gc,nV cs⟩]) (st:=22) (xt:=22) (e:=3) (sz:=1) (by1:=8) (z:=i7 i8 0) (m:=n) (k:=l.length) (old:=nV l) (n:=b+0) (off:=0) (cnt:=cs.length) (cap:=cs.length) (s:=ap 0)
   ls ls ls ls rfl ls B (by rw[jQ]; omega) (BF l) A (by simp only[jQ]; omega) (BF cs) K C
  simp only[D,c]at a;rw[GQ r]at a;have I:=et (H:=dp X n) (L:=[⟨3,gc,nV cs⟩]) (e:=3) (l:=nV (l++cs)) (o:=true) (PQ _ _);rw[I,zB1]at a;have R:Mod (ae (jp (ap ⟨n,0,bi⟩) l.length l.length)) X (dp X n):=Mod.cy ol;refine⟨_,ext (dp X n) [⟨3,gc,nV cs⟩,⟨3,bv,nV (l++cs)⟩],a,⟨by simp[dK],b+1,bv,?_,?_,?_⟩,R.trans (Mod.ext (R.ok j)),fun q J=>?_⟩
  .rw[aA,f]; simp
  .rw[bJ (show (dp X n).next=b from f) lw]; rfl
  .rw[aA,iR,f]; simp
  .simp only[ae,zA6,aA]at J; omega
def Fj(H:aa)(v:gt)(l:List UInt8)(r:Option (List UInt8))(out:Out)(X:aa):Prop :=
 Mod (ae v) H X/\match r with
  |some cs=>∃ u,out=.ok (.tuple #[u,kw bv])/\cK X 5 1 u (aq (l++cs)) (l++cs).length/\∀ n∈ae u,n∈ae v\/H.next<=n
  |none=>∃ x,out=.ok (.tuple #[x,kw gc])/\aV X.next x=bv
def Eg(k:Oe):List Value:=[i7 i8 k.fore,i7 i8 k.back,kw k.bold,kw k.under,kw k.inv]
def Q5(H:aa)(b:Nat)(v:gt)(k:Oe)(ws:List Nat)(E:Env)(X:aa):Prop :=
 Mod [] H X/\bk X b=ap ⟨44,gc,Eg k⟩/\b<X.next/\E 0=v/\E 3=i9 (ap ⟨b,0,bi⟩)/\∃ w,E 6=w/\Kr X w ws/\∀ n∈ae w,H.next<=n/\n≠b
def QV(H:aa)(t:Pow H)(v:gt)(l:List UInt8)(k:Oe)(hv:cK H 5 1 v (aq l) l.length)(hl:l.length<=310000000)(h2:2∉ae v)(m:H.base<=H.next) :
  aL Tryz.prog 51 [v,.agg ⟨Eg k⟩] H (Fj H v l (if te k=bv then ap (ig (ow k) 109) else bi)):=by
 obtain⟨b,U⟩:=ac H.next;have mE:∀ L,Mod (ae v) H (ext H L):=fun L=>Mod.ext m;refine aH mixed Tryz.func51 rfl Tryz.ntmps51 (zA8 rfl) ?_;unfold Eg;by_cases hc:te k=bv
 .rw[if_pos hc];unfold te at hc;simp only[zA7,decide_eq_true_eq]at hc;have c1:ge (k.fore<0)=false:=decide_eq_false li;have c2:ge (256<k.fore)=false:=decide_eq_false li;have c3:ge (k.back<0)=false:=decide_eq_false li;have c4:ge (256<k.back)=false:=decide_eq_false li;simp only[U,c1,c2,c3,c4,zW,seval];refine Q7 fun E hE=>?_;have D:E 0=v:=by rw[hE]; rfl
  have r:E 3=i9 (ap ⟨b+0,0,bi⟩):=by rw[hE]; rfl
  have C:E 6=jp (ap ⟨b+1,0,ap 0⟩) 1 1:=by rw[hE]; rfl
  clear hE;obtain⟨X,hX⟩:=ac (ext H [⟨44,gc,[i7 i8 k.fore,i7 i8 k.back,kw k.bold,kw k.under,kw k.inv]⟩,⟨3,gc,[i7 i8 0]⟩]);have j:Mod [] H X:=hX▸Mod.ext m;have s:bk X (b+0)=ap ⟨44,gc,Eg k⟩:=by rw[<-hX,bJ U lw]; rfl
  obtain⟨y,e⟩:=ac X.next;have yb2:y=b+2:=by rw[<-e,<-hX,aA,U]; rfl
  have c:b+0<y:=by omega
  have B:Kr X (jp (ap ⟨b+1,0,ap 0⟩) 1 1) [0]:=⟨by simp,b+1,gc,rfl,by rw[<-hX,bJ U lw]; rfl,by omega⟩
  have a:∀ n∈ae (Value.slice (ap ⟨b+1,0,ap 0⟩) 1 1),H.next<=n/\n≠b+0:=fun n V=>by simp only[ae,zA6]at V;omega
  obtain⟨w,hw'⟩:=ac (Value.slice (ap ⟨b+1,0,ap 0⟩) 1 1);rw[hw']at C B a;have f:=j.ok m;have J:([0]:List Nat).length<=1:=by decide
  rw[hX,show X=ext X [] from rfl];clear hX hw';refine dG (Q5 H (b+0) v k ([0]++(if (k.bold)=bv then [1] else []))) ?_ ?_
  .obtain⟨z,I⟩:=ac ((k.bold));rw[I]
   cases z with
   |false =>rw[show (if gc=bv then [1] else [])=([]:List Nat) from rfl,zD4];simp only[fX];exact ah ⟨j,s,by rw[ext_nil,e]; exact c,by simp only[D],by simp only[r],w,by simp only[C],B,a⟩
   |true =>
    rw[show (if bv=bv then [1] else [])=([1]:List Nat) from rfl];have K:nV [1]=[i7 i8 1]:=by rfl
    obtain⟨w',G,O,R,A,F⟩:=yA (cs:=[1]) (L:=[i7 i8 1]) (k:=1) B K rfl mt e li mt f
    skip
    have S:Mod [] H G:=j.step A m fun q o=>.inr (a q o).1;simp only[C,e,O,zW,seval];exact ah ⟨S,by rw[ext_nil]; exact (A.bk li fun h=>(a _ h).2 rfl).trans s,by have:=A.next; rw[aA]; omega,by simp only[D,aE,seval],by simp only[r,aE,seval],w',by simp only[aE],R,fun q o=>⟨by have:=F q o; have:=j.next; omega,by have:=F q o; omega⟩⟩
  rintro E X ⟨j,s,c,D,r,w,C,B,a⟩;obtain⟨y,e⟩:=ac X.next;have f:=j.ok m;have yb:X.base<=y:=e▸f;rw[e]at c
  have J:([0]++(if (k.bold)=bv then [1] else [])).length<=2:=by
   simp only[zB2,apply_ite List.length,zA3,zB0]
   (repeat' split)<;>omega
  rw[show X=ext X [] from rfl];simp only[r,e,s,c,gE,Eg,zW,seval];refine dG (Q5 H (b+0) v k ([0]++(if (k.bold)=bv then [1] else [])++(if (k.under)=bv then [4] else []))) ?_ ?_
  .obtain⟨z,I⟩:=ac ((k.under));rw[I]
   cases z with
   |false =>rw[show (if gc=bv then [4] else [])=([]:List Nat) from rfl,zD4];simp only[fX];exact ah ⟨j,s,by rw[ext_nil,e]; exact c,by simp only[D,aE,seval],by simp only[r,aE,seval],w,by simp only[C,aE,seval],B,a⟩
   |true =>
    rw[show (if bv=bv then [4] else [])=([4]:List Nat) from rfl];have K:nV [4]=[i7 i8 4]:=by rfl
    obtain⟨w',G,O,R,A,F⟩:=yA (cs:=[4]) (L:=[i7 i8 4]) (k:=1) B K rfl mt e li mt f
    skip
    have S:Mod [] H G:=j.step A m fun q o=>.inr (a q o).1;simp only[C,e,O,zW,seval];exact ah ⟨S,by rw[ext_nil]; exact (A.bk li fun h=>(a _ h).2 rfl).trans s,by have:=A.next; rw[aA]; omega,by simp only[D,aE,seval],by simp only[r,aE,seval],w',by simp only[aE],R,fun q o=>⟨by have:=F q o; have:=j.next; omega,by have:=F q o; omega⟩⟩
  rintro E X ⟨j,s,c,D,r,w,C,B,a⟩;obtain⟨y,e⟩:=ac X.next;have f:=j.ok m;have yb:X.base<=y:=e▸f;rw[e]at c
  have J:([0]++(if (k.bold)=bv then [1] else [])++(if (k.under)=bv then [4] else [])).length<=3:=by
   simp only[zB2,apply_ite List.length,zA3,zB0]
   (repeat' split)<;>omega
  rw[show X=ext X [] from rfl];simp only[r,e,s,c,gE,Eg,zW,seval];refine dG (Q5 H (b+0) v k ([0]++(if (k.bold)=bv then [1] else [])++(if (k.under)=bv then [4] else [])++(if (k.inv)=bv then [7] else []))) ?_ ?_
  .obtain⟨z,I⟩:=ac ((k.inv));rw[I]
   cases z with
   |false =>rw[show (if gc=bv then [7] else [])=([]:List Nat) from rfl,zD4];simp only[fX];exact ah ⟨j,s,by rw[ext_nil,e]; exact c,by simp only[D,aE,seval],by simp only[r,aE,seval],w,by simp only[C,aE,seval],B,a⟩
   |true =>
    rw[show (if bv=bv then [7] else [])=([7]:List Nat) from rfl];have K:nV [7]=[i7 i8 7]:=by rfl
    obtain⟨w',G,O,R,A,F⟩:=yA (cs:=[7]) (L:=[i7 i8 7]) (k:=1) B K rfl mt e li mt f
    skip
    have S:Mod [] H G:=j.step A m fun q o=>.inr (a q o).1;simp only[C,e,O,zW,seval];exact ah ⟨S,by rw[ext_nil]; exact (A.bk li fun h=>(a _ h).2 rfl).trans s,by have:=A.next; rw[aA]; omega,by simp only[D,aE,seval],by simp only[r,aE,seval],w',by simp only[aE],R,fun q o=>⟨by have:=F q o; have:=j.next; omega,by have:=F q o; omega⟩⟩
  rintro E X ⟨j,s,c,D,r,w,C,B,a⟩;obtain⟨y,e⟩:=ac X.next;have f:=j.ok m;have yb:X.base<=y:=e▸f;rw[e]at c
  have J:([0]++(if (k.bold)=bv then [1] else [])++(if (k.under)=bv then [4] else [])++(if (k.inv)=bv then [7] else [])).length<=4:=by
   simp only[zB2,apply_ite List.length,zA3,zB0]
   (repeat' split)<;>omega
  rw[show X=ext X [] from rfl];simp only[r,e,s,c,gE,Eg,zW,seval];refine dG (Q5 H (b+0) v k ([0]++(if (k.bold)=bv then [1] else [])++(if (k.under)=bv then [4] else [])++(if (k.inv)=bv then [7] else [])++(if (ge (0<k.fore))=bv then [38,5,(k.fore-1).toNat] else []))) ?_ ?_
  .obtain⟨z,I⟩:=ac ((ge (0<k.fore)));rw[I]
   cases z with
   |false =>rw[show (if gc=bv then [38,5,(k.fore-1).toNat] else [])=([]:List Nat) from rfl,zD4];simp only[fX];exact ah ⟨j,s,by rw[ext_nil,e]; exact c,by simp only[D,aE,seval],by simp only[r,aE,seval],w,by simp only[C,aE,seval],B,a⟩
   |true =>
    rw[show (if bv=bv then [38,5,(k.fore-1).toNat] else [])=([38,5,(k.fore-1).toNat]:List Nat) from rfl]
    have K:nV [38,5,(k.fore-1).toNat]=[i7 i8 38,i7 i8 5,i7 i8 (k.fore-1)]:=by
     have h1:=of_decide_eq_true I;have h2:(((k.fore-1).toNat:Nat):Int)=k.fore-1:=by omega
     simp only[nV,zB9,zE6,h2];rfl
    obtain⟨w',G,O,R,A,F⟩:=yA (cs:=[38,5,(k.fore-1).toNat]) (L:=[i7 i8 38,i7 i8 5,i7 i8 (k.fore-1)]) (k:=3) B K rfl mt e li mt f;have w1:IntKind.i64.wrap (k.fore-1)=k.fore-1:=by rw[IntKind.wrap_i64]; omega
    have S:Mod [] H G:=j.step A m fun q o=>.inr (a q o).1;simp only[r,C,e,s,c,gE,Eg,O,w1,zW,seval];exact ah ⟨S,by rw[ext_nil]; exact (A.bk li fun h=>(a _ h).2 rfl).trans s,by have:=A.next; rw[aA]; omega,by simp only[D,aE,seval],by simp only[r,aE,seval],w',by simp only[aE],R,fun q o=>⟨by have:=F q o; have:=j.next; omega,by have:=F q o; omega⟩⟩
  rintro E X ⟨j,s,c,D,r,w,C,B,a⟩;obtain⟨y,e⟩:=ac X.next;have f:=j.ok m;have yb:X.base<=y:=e▸f;rw[e]at c
  have J:([0]++(if (k.bold)=bv then [1] else [])++(if (k.under)=bv then [4] else [])++(if (k.inv)=bv then [7] else [])++(if (ge (0<k.fore))=bv then [38,5,(k.fore-1).toNat] else [])).length<=7:=by
   simp only[zB2,apply_ite List.length,zA3,zB0]
   (repeat' split)<;>omega
  rw[show X=ext X [] from rfl];simp only[r,e,s,c,gE,Eg,zW,seval];refine dG (Q5 H (b+0) v k ([0]++(if (k.bold)=bv then [1] else [])++(if (k.under)=bv then [4] else [])++(if (k.inv)=bv then [7] else [])++(if (ge (0<k.fore))=bv then [38,5,(k.fore-1).toNat] else [])++(if (ge (0<k.back))=bv then [48,5,(k.back-1).toNat] else []))) ?_ ?_
  .obtain⟨z,I⟩:=ac ((ge (0<k.back)));rw[I]
   cases z with
   |false =>rw[show (if gc=bv then [48,5,(k.back-1).toNat] else [])=([]:List Nat) from rfl,zD4];simp only[fX];exact ah ⟨j,s,by rw[ext_nil,e]; exact c,by simp only[D,aE,seval],by simp only[r,aE,seval],w,by simp only[C,aE,seval],B,a⟩
   |true =>
    rw[show (if bv=bv then [48,5,(k.back-1).toNat] else [])=([48,5,(k.back-1).toNat]:List Nat) from rfl]
    have K:nV [48,5,(k.back-1).toNat]=[i7 i8 48,i7 i8 5,i7 i8 (k.back-1)]:=by
     have h1:=of_decide_eq_true I;have h2:(((k.back-1).toNat:Nat):Int)=k.back-1:=by omega
     simp only[nV,zB9,zE6,h2];rfl
    obtain⟨w',G,O,R,A,F⟩:=yA (cs:=[48,5,(k.back-1).toNat]) (L:=[i7 i8 48,i7 i8 5,i7 i8 (k.back-1)]) (k:=3) B K rfl mt e li mt f;have w1:IntKind.i64.wrap (k.back-1)=k.back-1:=by rw[IntKind.wrap_i64]; omega
    have S:Mod [] H G:=j.step A m fun q o=>.inr (a q o).1;simp only[r,C,e,s,c,gE,Eg,O,w1,zW,seval];exact ah ⟨S,by rw[ext_nil]; exact (A.bk li fun h=>(a _ h).2 rfl).trans s,by have:=A.next; rw[aA]; omega,by simp only[D,aE,seval],by simp only[r,aE,seval],w',by simp only[aE],R,fun q o=>⟨by have:=F q o; have:=j.next; omega,by have:=F q o; omega⟩⟩
  rintro E X ⟨j,s,c,D,r,w,C,B,a⟩;have f:=j.ok m;obtain⟨y,e⟩:=ac X.next;have yb:X.base<=y:=e▸f;have key:[0]++(if (k.bold)=bv then [1] else [])++(if (k.under)=bv then [4] else [])++(if (k.inv)=bv then [7] else [])++(if (ge (0<k.fore))=bv then [38,5,(k.fore-1).toNat] else [])++(if (ge (0<k.back))=bv then [48,5,(k.back-1).toNat] else [])=ow k:=by simp only[ow,decide_eq_true_eq,zC9,zG1,zD0]
  rw[key]at B;have vX:cK X 5 1 v (aq l) l.length:=hv.of j.next fun q o=>j.get q (hv.ne q o).2 lw
  have hnl:(ow k).length<=20:=by
   rw[<-key];simp only[zB2,apply_ite List.length,zA3,zB0]
   (repeat' split)<;>omega
  have hn9:∀ n∈ow k,n<=9999:=fun n V=>by rw[<-key]at V;simp only[zB4,List.mem_ite_nil_right,zA9,zF2,or_false]at V;omega
  rw[show X=ext X [] from rfl];simp only[D,C,zW,seval];refine (NA (ext X []) (t.mod j lw) v w l (ow k) 109 vX hl B.rd hn9 hnl h2 (fun n V h=>by have:=(a n h).1; have:=(hv.ne n V).2; omega) f).mono ?_;rintro out Y ⟨m1,u,rfl,u1,u2⟩;rw[show Y=ext Y [] from rfl];simp only[Tryz.results51,zW,seval];refine⟨(j.mono lw).trans m1,u,rfl,u1,fun n V=>?_⟩;rcases u2 n V with h|h
  .exact .inl h
  .exact .inr (zC7 j.next h)
 .rw[if_neg hc];by_cases c1:k.fore<0
  .have d1:ge (k.fore<0)=true:=decide_eq_true c1;simp only[U,d1,Tryz.results51,zW,seval];exact⟨mE _,_,rfl,rfl⟩
  have d1:ge (k.fore<0)=false:=decide_eq_false c1;by_cases c2:256<k.fore
  .have d2:ge (256<k.fore)=true:=decide_eq_true c2;simp only[U,d1,d2,Tryz.results51,zW,seval];exact⟨mE _,_,rfl,rfl⟩
  have d2:ge (256<k.fore)=false:=decide_eq_false c2;by_cases c3:k.back<0
  .have d3:ge (k.back<0)=true:=decide_eq_true c3;simp only[U,d1,d2,d3,Tryz.results51,zW,seval];exact⟨mE _,_,rfl,rfl⟩
  have d3:ge (k.back<0)=false:=decide_eq_false c3;by_cases c4:256<k.back
  .have d4:ge (256<k.back)=true:=decide_eq_true c4;simp only[U,d1,d2,d3,d4,Tryz.results51,zW,seval];exact⟨mE _,_,rfl,rfl⟩
  refine absurd ?_ hc;unfold te;simp only[zA7,decide_eq_true_eq];omega
end Go.Proofs.YtpohjcacnkhnkaaGreatDoor.Tq
namespace Go.Ax
section
variable{P:io}{ro:Option Nat}{H:aa}{N d:Nat}{E:Env}{ds:List Deferred}{ops:Array Oper}{rest:List Oper}{ty:ii}{pos:String}{after:Array Edge}{Q:Exit -> ai -> aa -> Prop}
def Ab{t:ii}{x y:i4}{a b:List UInt8}(c:a.length+b.length<=100000000000):cN P (do eqGuard .add t x y (.string ⟨a.toArray⟩) (.string ⟨b.toArray⟩); binOp .add t (.string ⟨a.toArray⟩) (.string ⟨b.toArray⟩))=ap (.string ⟨(a++b).toArray⟩):=by
 have e:(⟨a.toArray⟩:ByteArray)++⟨b.toArray⟩=⟨(a++b).toArray⟩:=by apply ByteArray.ext;simp
 have f:¬((((⟨a.toArray⟩:ByteArray).size+(⟨b.toArray⟩:ByteArray).size:Nat):Int)>IntKind.i64.max):=by
  have h:(⟨a.toArray⟩:ByteArray).size=a.length:=by simp[ByteArray.size]
  have j:(⟨b.toArray⟩:ByteArray).size=b.length:=by simp[ByteArray.size]
  have k:IntKind.i64.max=9223372036854775807:=by rfl
  rw[h,j,k]; omega
 simp only[eqGuard,binOp,Op.stringOp,e,if_neg f];rfl
def qe{t u:ii}{x y:i4}{a b:List UInt8}(hx:bd P N x=bv)(e:bd P N y=bv)(f:bX E x=.string ⟨a.toArray⟩)(h:bX E y=.string ⟨b.toArray⟩)(j:d<N)(k:df P H .add t (.string ⟨a.toArray⟩) (.string ⟨b.toArray⟩)=bi)(c:a.length+b.length<=100000000000) :
  wpOps P ro ops (⟨ap d,.binOp .add t x y u,ty,pos,after,bi⟩::rest) (bj N E ds) H Q=wpOps P ro ops rest (bj N (cy E d (.string ⟨(a++b).toArray⟩)) ds) H Q :=
 ln hx e f h j k rfl rfl (Ab c) rfl
def jr{t u:ii}{x y:i4}{a b:List UInt8}{anc:List Nat}{i:Nat}{fps:List Fp}{Q:ai->aa->Prop}(hx:bd P N x=bv)(f:bd P N y=bv)(h:bX E x=.string ⟨a.toArray⟩)(j:bX E y=.string ⟨b.toArray⟩)(k:d<N)(m:∀ G,df P G .add t (.string ⟨a.toArray⟩) (.string ⟨b.toArray⟩)=bi)(c:a.length+b.length<=100000000000)
  (n:eV P ops anc rest (i+1) (⟨i,[],[],H.next,H.next⟩::fps) (bj N (cy E d (.string ⟨(a++b).toArray⟩)) ds) H Q):eV P ops anc (⟨ap d,.binOp .add t x y u,ty,pos,after,bi⟩::rest) i fps (bj N E ds) H Q:=by
 have e:=Ab (P:=P) (t:=t) (x:=x) (y:=y) c;refine IV ?_ (fun G=>?_) rfl k n
 .funext K;simp only[iM,gC,Nc,aD hx,aD f,h,j,cP]
 .simp only[cj,BM,aD hx,aD f,h,j,zA1,zA4,zo,m,af,zD8,if_true,iZ,e,zB1]
end
end Go.Ax
namespace Go.Proofs.YtpohjcacnkhnkaaGreatDoor.Tq
open Go.Ax
def kN(l:List UInt8):Value:=.string ⟨l.toArray⟩
def tr(H:aa)(n:Int):Pure 54 [i7 i8 n] H (kw (ge (0<=n/\n<=9998))):=by
 refine ba mixed Tryz.func54 rfl Tryz.ntmps54 (zA8 rfl) fun wf h=>?_
 obtain⟨a,b⟩:∃ d,ge (0<=n)=d:=⟨_,rfl⟩
 obtain⟨c,f⟩:∃ d,ge (n<=9998)=d:=⟨_,rfl⟩
 have e:ge (0<=n/\n<=9998)=(a&&c):=by rw[<-b,<-f]; simp
 rw[e];cases a<;>cases c<;>(simp only[b,f,Tryz.results54,zW,seval]; exact Fin.pure rfl)
def kj(H:aa)(l:List UInt8)(f:l.length<=10000000000):Pure 55 [kN l] H (kN (27::91::l)):=by
 refine ba mixed Tryz.func55 rfl Tryz.ntmps55 (zA8 rfl) fun wf c=>?_;have e:∀ a b:ByteArray,df Tryz.prog (ext H []) .add 9 (.string a) (.string b)=none:=fun a b=>by kernel_rfl
 simp only[kN,zW,seval];refine (qe (a:=[27,91]) (b:=l) rfl rfl pm pm mt (e _ _) rx).mpr ?_;simp only[Tryz.results55,zW,seval];exact Fin.pure rfl
def zN{n:Nat}(h:n<10):Go.Lib.decDigits n=[UInt8.ofNat (48+n)]:=by rw[Go.Lib.decDigits,dif_pos h]
def OG{n:Nat}(h:¬n<10):Go.Lib.decDigits n=Go.Lib.decDigits (n / 10)++Go.Lib.decDigits (n % 10):=by rw[zN (n:=n % 10) li];conv=>lhs; rw[Go.Lib.decDigits,dif_neg h]
def j6(n:Nat)(h:n<=9999):(Go.Lib.decDigits n).length<=4:=by
 rw[jv n h];unfold fu
 repeat' split
 all_goals simp
def fS:∀(m n:Nat),n<m->n<=9999->∀ H:aa,Pure 56 [i7 i8 (n:Int)] H (kN (Go.Lib.decDigits n)):=by
 intro m
 induction m with
 |zero=>intro n h; omega
 |succ m e =>
  intro n f C H;have j:∀ a b:ByteArray,df Tryz.prog (ext H []) .add 9 (.string a) (.string b)=none:=fun a b=>by kernel_rfl
  refine ba mixed Tryz.func56 rfl Tryz.ntmps56 (zA8 rfl) fun wf k=>?_;by_cases c:n<10
  .have d:ge ((n:Int)<10)=true:=decide_eq_true li;have o:IntKind.i64.wrap ((n:Int)+1)=((n+1:Nat):Int):=bA li
   have r:cw Tryz.prog (ext H []) 9 (.string ⟨#[48,49,50,51,52,53,54,55,56,57]⟩) (ap (i7 i8 (n:Int))) (ap (i7 i8 ((n+1:Nat):Int))) bi=ap (.string ⟨[UInt8.ofNat (48+n)].toArray⟩,ext H []):=by
    have:n=0\/n=1\/n=2\/n=3\/n=4\/n=5\/n=6\/n=7\/n=8\/n=9:=by omega
    rcases this with rfl|rfl|rfl|rfl|rfl|rfl|rfl|rfl|rfl|rfl<;>rfl
   rw[zN c];simp only[d,o,r,kN,Tryz.results56,zW,seval];exact Fin.pure rfl
  .have d:ge ((n:Int)<10)=false:=decide_eq_false li;have s:(n:Int).tdiv 10=((n / 10:Nat):Int):=by rw[show (10:Int)=((10:Nat):Int) from rfl,Int.ofNat_tdiv]
   have w:(n:Int).tmod 10=((n % 10:Nat):Int):=by rw[show (10:Int)=((10:Nat):Int) from rfl,Int.ofNat_tmod]
   have w1:IntKind.i64.wrap ((n / 10:Nat):Int)=((n / 10:Nat):Int):=ak li li;have D:IntKind.i64.wrap ((n % 10:Nat):Int)=((n % 10:Nat):Int):=ak li li;rw[OG c];have A:=j6 (n / 10) li;have B:=j6 (n % 10) li;simp only[d,s,w1,ne_eq,seval,not_false_eq_true,zW];refine (show br Tryz.prog 56 _ (ext H []) _ (ext H []) from e (n / 10) li li (ext H [])).to ?_;simp only[w,ne_eq,seval,not_false_eq_true,zW];refine (show br Tryz.prog 56 _ (ext H []) _ (ext H []) from e (n % 10) li li (ext H [])).to ?_;simp only[kN,zW,seval];refine (qe (a:=Go.Lib.decDigits (n / 10)) (b:=Go.Lib.decDigits (n % 10)) rfl rfl (by simp only[aE,seval]<;>rfl) pm mt (j _ _) li).mpr ?_;simp only[Tryz.results56,zW,seval];exact Fin.pure rfl
def j4(d:Bool)(s t:List UInt8):List UInt8:=cond d (s++t) s
def Rj(k:Oe):List UInt8 :=
 j4 (!ge (k.back=0)) (j4 (!ge (k.fore=0)) (j4 k.inv (j4 k.under (j4 k.bold [48] [59,49]) [59,52]) [59,55]) ([59,51,56,59,53,59]++Go.Lib.decDigits (k.fore-1).toNat)) ([59,52,56,59,53,59]++Go.Lib.decDigits (k.back-1).toNat)
def oB(d:Bool)(s t:List UInt8):(j4 d s t).length<=s.length+t.length:=by
 cases d
 .exact Nat.le_add_right _ _
 .show (s++t).length<=_;rw[zB2]; exact zA5 _
def Mx(H:aa)(k:Oe)(f0:0<=k.fore)(f9:k.fore<=256)(b0:0<=k.back)(b9:k.back<=256):Pure 57 [.agg ⟨Eg k⟩] H (kN (27::91::(Rj k++[109]))):=by
 obtain⟨b,hb⟩:=ac H.next;have K:∀(X:aa)(a b:ByteArray),df Tryz.prog X .add 9 (.string a) (.string b)=none:=fun X a b=>by kernel_rfl
 obtain⟨B,hB⟩:∃ B:List Bl,B=[⟨44,gc,Eg k⟩]:=⟨_,rfl⟩
 have hbB:bk (ext H B) (b+0)=ap ⟨44,gc,Eg k⟩:=by rw[hB,bJ hb lw]; rfl
 refine ba mixed Tryz.func57 rfl Tryz.ntmps57 (zA8 rfl) fun wf hsc=>?_;simp only[Eg,hb,zW,seval];refine dG (fun h X=>X=ext H B/\h 1=i9 (ap ⟨b+0,0,bi⟩)/\h 3=kN (j4 k.bold [48] [59,49])) ?_ ?_
 .cases hk:k.bold with
  |true =>simp only[zW,seval];refine (qe (a:=[48]) (b:=[59,49]) rfl rfl pm pm mt (K _ _ _) mt).mpr ?_;simp only[zW,seval];exact ah ⟨by rw[hB,Eg,hk],by simp only[aE,seval],by simp only[aE]<;>rfl⟩
  |false =>simp only[fX];exact ah ⟨by rw[hB,Eg,hk],by simp only[aE,seval],by simp only[aE,seval]<;>rfl⟩
 rintro E X ⟨j,c,e⟩;rw[j];clear j X;obtain⟨Y,hY⟩:=ac (ext H B);have m:Y.next=b+1:=by rw[<-hY,aA,hb,hB]; rfl
 have f:=hbB;rw[hY]at f;simp only[Eg]at f;have n:b+0<b+1:=by omega
 obtain⟨s1,O⟩:∃ s,j4 k.bold [48] [59,49]=s:=⟨_,rfl⟩
 have R:=oB k.bold [48] [59,49];rw[O]at e R;simp only[zA3,zB0]at R;rw[hY,show Y=ext Y [] from rfl];simp only[c,m,n,f,zW,seval];refine dG (fun h X=>X=Y/\h 1=i9 (ap ⟨b+0,0,bi⟩)/\h 3=kN (j4 k.under s1 [59,52])) ?_ ?_
 .cases k.under with
  |true =>simp only[e,zW,seval];refine (qe (a:=s1) (b:=[59,52]) rfl rfl (by simp only[kN,aE]<;>rfl) pm mt (K _ _ _) rx).mpr ?_;simp only[zW,seval];exact ah ⟨rfl,by simp only[c,aE,seval],by simp only[aE]<;>rfl⟩
  |false =>simp only[fX];exact ah ⟨rfl,by simp only[c,aE,seval],by simp only[e,aE,seval]<;>rfl⟩
 clear c e E;rintro E X ⟨j,c,e⟩;rw[j];clear j X
 obtain⟨s2,S⟩:∃ s,j4 k.under s1 [59,52]=s:=⟨_,rfl⟩
 have U:=oB k.under s1 [59,52];rw[S]at e U;simp only[zA3,zB0]at U;rw[show Y=ext Y [] from rfl];simp only[c,m,n,f,zW,seval];refine dG (fun h X=>X=Y/\h 1=i9 (ap ⟨b+0,0,bi⟩)/\h 3=kN (j4 k.inv s2 [59,55])) ?_ ?_
 .cases k.inv with
  |true =>simp only[e,zW,seval];refine (qe (a:=s2) (b:=[59,55]) rfl rfl (by simp only[kN,aE]<;>rfl) pm mt (K _ _ _) rx).mpr ?_;simp only[zW,seval];exact ah ⟨rfl,by simp only[c,aE,seval],by simp only[aE]<;>rfl⟩
  |false =>simp only[fX];exact ah ⟨rfl,by simp only[c,aE,seval],by simp only[e,aE,seval]<;>rfl⟩
 clear c e E;rintro E X ⟨j,c,e⟩;rw[j];clear j X
 obtain⟨V,hs3⟩:∃ s,j4 k.inv s2 [59,55]=s:=⟨_,rfl⟩
 have ls3:=oB k.inv s2 [59,55];rw[hs3]at e ls3;simp only[zA3,zB0]at ls3;rw[show Y=ext Y [] from rfl];simp only[c,m,n,f,zW,seval]
 obtain⟨o,r⟩:∃ d,ge (k.fore=0)=d:=⟨_,rfl⟩
 have hns4:ge (¬k.fore=0)=!o:=by rw[<-r,decide_not]
 obtain⟨I,w⟩:∃ D,Go.Lib.decDigits (k.fore-1).toNat=D:=⟨_,rfl⟩
 have lDs4:=j6 (k.fore-1).toNat li;rw[w]at lDs4;refine dG (fun h X=>X=Y/\h 1=i9 (ap ⟨b+0,0,bi⟩)/\h 3=kN (j4 (!o) V ([59,51,56,59,53,59]++I))) ?_ ?_
 .rw[hns4]
  cases o with
  |false =>
   have hw:IntKind.i64.wrap (k.fore-1)=(((k.fore-1).toNat:Nat):Int):=by have:=of_decide_eq_false r;rw[show (((k.fore-1).toNat:Nat):Int)=k.fore-1 by omega];exact ak li li
   have hc:=fS ((k.fore-1).toNat+1) (k.fore-1).toNat li li Y;rw[w]at hc;simp only[Bool.not_false,e,zW,seval];refine (qe (a:=V) (b:=[59,51,56,59,53,59]) rfl rfl (by simp only[kN,aE]<;>rfl) pm mt (K _ _ _) rx).mpr ?_;simp only[c,m,n,f,hw,zW,seval];refine (show br Tryz.prog 56 _ (ext Y []) _ (ext Y []) from hc).to ?_;simp only[kN,zW,seval];refine (qe (a:=V++[59,51,56,59,53,59]) (b:=I) rfl rfl (by simp only[aE,seval]<;>rfl) pm mt (K _ _ _) py).mpr ?_;simp only[zW,seval];exact ah ⟨rfl,by simp only[c,aE,seval],by simp only[j4,cond_true,zC9,aE]<;>rfl⟩
  |true =>simp only[zE4,fX];exact ah ⟨rfl,by simp only[c,aE,seval],by simp only[e,j4,cond_false,aE,seval]⟩
 clear c e E;rintro E X ⟨j,c,e⟩;rw[j];clear j X
 obtain⟨s4,hs4⟩:∃ s,j4 (!o) V ([59,51,56,59,53,59]++I)=s:=⟨_,rfl⟩
 have ls4:=oB (!o) V ([59,51,56,59,53,59]++I);rw[hs4]at e ls4;simp only[zB2,zA3,zB0]at ls4;rw[show Y=ext Y [] from rfl];simp only[c,m,n,f,zW,seval]
 obtain⟨A,C⟩:∃ d,ge (k.back=0)=d:=⟨_,rfl⟩
 have hns5:ge (¬k.back=0)=!A:=by rw[<-C,decide_not]
 obtain⟨J,F⟩:∃ D,Go.Lib.decDigits (k.back-1).toNat=D:=⟨_,rfl⟩
 have lDs5:=j6 (k.back-1).toNat li;rw[F]at lDs5;refine dG (fun h X=>X=Y/\h 1=i9 (ap ⟨b+0,0,bi⟩)/\h 3=kN (j4 (!A) s4 ([59,52,56,59,53,59]++J))) ?_ ?_
 .rw[hns5]
  cases A with
  |false =>
   have hw:IntKind.i64.wrap (k.back-1)=(((k.back-1).toNat:Nat):Int):=by have:=of_decide_eq_false C;rw[show (((k.back-1).toNat:Nat):Int)=k.back-1 by omega];exact ak li li
   have hc:=fS ((k.back-1).toNat+1) (k.back-1).toNat li li Y;rw[F]at hc;simp only[Bool.not_false,e,zW,seval];refine (qe (a:=s4) (b:=[59,52,56,59,53,59]) rfl rfl (by simp only[kN,aE]<;>rfl) pm mt (K _ _ _) rx).mpr ?_;simp only[c,m,n,f,hw,zW,seval];refine (show br Tryz.prog 56 _ (ext Y []) _ (ext Y []) from hc).to ?_;simp only[kN,zW,seval];refine (qe (a:=s4++[59,52,56,59,53,59]) (b:=J) rfl rfl (by simp only[aE,seval]<;>rfl) pm mt (K _ _ _) py).mpr ?_;simp only[zW,seval];exact ah ⟨rfl,by simp only[c,aE,seval],by simp only[j4,cond_true,zC9,aE]<;>rfl⟩
  |true =>simp only[zE4,fX];exact ah ⟨rfl,by simp only[c,aE,seval],by simp only[e,j4,cond_false,aE,seval]⟩
 clear c e E;rintro E X ⟨j,c,e⟩;rw[j];clear j X
 obtain⟨s5,hs5⟩:∃ s,j4 (!A) s4 ([59,52,56,59,53,59]++J)=s:=⟨_,rfl⟩
 have ls5:=oB (!A) s4 ([59,52,56,59,53,59]++J);rw[hs5]at e ls5;simp only[zB2,zA3,zB0]at ls5;rw[show Y=ext Y [] from rfl];simp only[e,zW,seval];have hfin:Rj k=s5:=by unfold Rj;rw[O,S,hs3,r,w,hs4,C,F,hs5]
 refine (qe (a:=s5) (b:=[109]) rfl rfl (by simp only[kN,aE]<;>rfl) pm mt (K _ _ _) rx).mpr ?_;simp only[zW,seval];refine (show br Tryz.prog 55 _ (ext Y []) _ (ext Y []) from kj Y (s5++[109]) py).to ?_;rw[hfin];simp only[Tryz.results57,zW,seval];rw[<-hY];exact Fin.pure rfl
def vw(H:aa)(o:zB)(a b n:Nat)(f:UInt8)(w:o.row=a)(m:o.col=b)(r:o.n=n)(B:a<=9998)(C:b<=9998)(D:n<=9999) :
  Pure 60 [o.val,.string ⟨[f].toArray⟩] H (.string ⟨(((((([27,55]++(27::91::(Go.Lib.decDigits (a+1)++[59]++Go.Lib.decDigits (b+1)++[114])))++(27::91::(Go.Lib.decDigits (a+1)++[59,49,72])))++(27::91::(Go.Lib.decDigits n++[f])))++(27::91::[114]))++[27,56])).toArray⟩):=by
 obtain⟨F,c⟩:=ac H.next;have e:∀(X:aa),∀(a b:ByteArray),df Tryz.prog X .add 9 (.string a) (.string b)=none:=fun X a b=>by kernel_rfl
 replace e:=fun a b=>fun X=>e X a b;have I:=j6 (a+1) li;have J:=j6 (b+1) li;have O:=j6 n li;have k:IntKind.i64.wrap ((a:Int)+1)=((a+1:Nat):Int):=bA li;have s:IntKind.i64.wrap ((b:Int)+1)=((b+1:Nat):Int):=bA li;refine ba mixed Tryz.func60 rfl Tryz.ntmps60 (zA8 rfl) fun wf A=>?_;simp only[Op.val,Op.cells,w,m,r,c,zW,seval];refine aK [] [] ls rfl rfl fun ops anc R S=>?_;simp only[c,k,bh,zW,seval];refine aN (v:=.string ⟨(Go.Lib.decDigits (a+1)).toArray⟩) [] (by simp only[aE,seval]) ls mt lw (fun K h j=>?_) (by simp (maxDischargeDepth:=6) only[bh]) ?_
 .simp only[aE];exact fS (a+1+1) (a+1) li li K
 simp only[c,zW,seval];refine jr (a:=Go.Lib.decDigits (a+1)) (b:=[59]) rfl rfl pm pm mt (e _ _) rx ?_;simp only[c,s,bh,zW,seval];refine aN (v:=.string ⟨(Go.Lib.decDigits (b+1)).toArray⟩) [] (by simp only[aE,seval]) ls mt lw (fun K h j=>?_) (by simp (maxDischargeDepth:=6) only[bh]) ?_
 .simp only[aE];exact fS (b+1+1) (b+1) li li K
 simp only[c,zW,seval];refine jr (a:=Go.Lib.decDigits (a+1)++[59]) (b:=Go.Lib.decDigits (b+1)) rfl rfl (by simp only[aE,seval]<;>rfl) pm mt (e _ _) py ?_;simp only[c,zW,seval];refine jr (a:=Go.Lib.decDigits (a+1)++[59]++Go.Lib.decDigits (b+1)) (b:=[114]) rfl rfl pm pm mt (e _ _) py ?_;simp only[c,bh,fX,seval];refine aN (v:=.string ⟨(27::91::(Go.Lib.decDigits (a+1)++[59]++Go.Lib.decDigits (b+1)++[114])).toArray⟩) [] (by simp only[aE,seval]) ls mt lw (fun K h j=>?_) (by simp (maxDischargeDepth:=6) only[bh]) ?_
 .simp only[aE];exact kj K (Go.Lib.decDigits (a+1)++[59]++Go.Lib.decDigits (b+1)++[114]) py
 simp only[c,zW,seval];refine jr (a:=[27,55]) (b:=27::91::(Go.Lib.decDigits (a+1)++[59]++Go.Lib.decDigits (b+1)++[114])) rfl rfl pm pm mt (e _ _) py ?_;simp only[c,k,bh,zW,seval];refine aN (v:=.string ⟨(Go.Lib.decDigits (a+1)).toArray⟩) [] (by simp only[aE,seval]) ls mt lw (fun K h j=>?_) (by simp (maxDischargeDepth:=6) only[bh]) ?_
 .simp only[aE];exact fS (a+1+1) (a+1) li li K
 simp only[c,zW,seval];refine jr (a:=Go.Lib.decDigits (a+1)) (b:=[59,49,72]) rfl rfl pm pm mt (e _ _) rx ?_;simp only[c,bh,fX,seval];refine aN (v:=.string ⟨(27::91::(Go.Lib.decDigits (a+1)++[59,49,72])).toArray⟩) [] (by simp only[aE,seval]) ls mt lw (fun K h j=>?_) (by simp (maxDischargeDepth:=6) only[bh]) ?_
 .simp only[aE];exact kj K (Go.Lib.decDigits (a+1)++[59,49,72]) py
 simp only[c,zW,seval];refine jr (a:=[27,55]++(27::91::(Go.Lib.decDigits (a+1)++[59]++Go.Lib.decDigits (b+1)++[114]))) (b:=(27::91::(Go.Lib.decDigits (a+1)++[59,49,72]))) rfl rfl (by simp only[aE,seval]<;>rfl) pm mt (e _ _) py ?_;simp only[c,bh,zW,seval];refine aN (v:=.string ⟨(Go.Lib.decDigits n).toArray⟩) [] (by simp only[aE,seval]) ls mt lw (fun K h j=>?_) (by simp (maxDischargeDepth:=6) only[bh]) ?_
 .simp only[aE];exact fS (n+1) (n) li li K
 simp only[c,bh,zW,seval];refine jr (a:=Go.Lib.decDigits n) (b:=[f]) rfl rfl (by simp only[aE,seval]<;>rfl) pm mt (e _ _) rx ?_;simp only[c,bh,fX,seval];refine aN (v:=.string ⟨(27::91::(Go.Lib.decDigits n++[f])).toArray⟩) [] (by simp only[aE,seval]) ls mt lw (fun K h j=>?_) (by simp (maxDischargeDepth:=6) only[bh]) ?_
 .simp only[aE];exact kj K (Go.Lib.decDigits n++[f]) py
 simp only[c,zW,seval];refine jr (a:=([27,55]++(27::91::(Go.Lib.decDigits (a+1)++[59]++Go.Lib.decDigits (b+1)++[114])))++(27::91::(Go.Lib.decDigits (a+1)++[59,49,72]))) (b:=(27::91::(Go.Lib.decDigits n++[f]))) rfl rfl (by simp only[aE,seval]<;>rfl) pm mt (e _ _) py ?_;simp only[c,bh,fX,seval];refine aN (v:=.string ⟨(27::91::[114]).toArray⟩) [] (by simp only[aE]) ls mt lw (fun K h j=>?_) (by simp (maxDischargeDepth:=6) only[bh]) ?_
 .simp only[aE];exact kj K [114] mt
 simp only[c,zW,seval];refine jr (a:=(([27,55]++(27::91::(Go.Lib.decDigits (a+1)++[59]++Go.Lib.decDigits (b+1)++[114])))++(27::91::(Go.Lib.decDigits (a+1)++[59,49,72])))++(27::91::(Go.Lib.decDigits n++[f]))) (b:=27::91::[114]) rfl rfl (by simp only[aE,seval]<;>rfl) pm mt (e _ _) py ?_;simp only[c,zW,seval];refine jr (a:=((([27,55]++(27::91::(Go.Lib.decDigits (a+1)++[59]++Go.Lib.decDigits (b+1)++[114])))++(27::91::(Go.Lib.decDigits (a+1)++[59,49,72])))++(27::91::(Go.Lib.decDigits n++[f])))++(27::91::[114])) (b:=[27,56]) rfl rfl pm pm mt (e _ _) py ?_;simp only[c,bh,zW,seval];simp only[Tryz.results60,zW,seval];exact Fin.pure rfl
def PU(k:Oe)(C:0<=k.fore)(D:k.fore<=256)(F:0<=k.back)(I:k.back<=256):Rj k=fZ (ow k):=by
 obtain⟨f,b,m,n,iv⟩:=k;simp only at C D F I;have o:fu 0=[48]:=by decide
 have r:fu 1=[49]:=by decide
 have s:fu 4=[52]:=by decide
 have B:fu 5=[53]:=by decide
 have w:fu 7=[55]:=by decide
 have c:fu 38=[51,56]:=by decide
 have e:fu 48=[52,56]:=by decide
 unfold Rj ow;simp only;rw[jv (f-1).toNat li,jv (b-1).toNat li];generalize (f-1).toNat=nf;generalize (b-1).toNat=nb;by_cases A:f=0
 .have h:¬0<f:=by omega
  by_cases j:b=0
  .have a:¬0<b:=by omega
   rw[if_neg h,if_neg a,decide_eq_true A,decide_eq_true j];cases m<;>cases n<;>cases iv<;>simp[j4,fZ,o,r,s,w]
  .have a:0<b:=by omega
   rw[if_neg h,if_pos a,decide_eq_true A,decide_eq_false j];cases m<;>cases n<;>cases iv<;>simp[j4,fZ,o,r,s,B,w,e]
 .have h:0<f:=by omega
  by_cases j:b=0
  .have a:¬0<b:=by omega
   rw[if_pos h,if_neg a,decide_eq_false A,decide_eq_true j];cases m<;>cases n<;>cases iv<;>simp[j4,fZ,o,r,s,B,w,c]
  .have a:0<b:=by omega
   rw[if_pos h,if_pos a,decide_eq_false A,decide_eq_false j];cases m<;>cases n<;>cases iv<;>simp[j4,fZ,o,r,s,B,w,c,e]
def HY(a b:Nat)(c:a<=9999)(e:b<=9999)(f:UInt8):(27::91::(Go.Lib.decDigits a++[59]++Go.Lib.decDigits b++[f]))=ig [a,b] f:=by rw[jv a c,jv b e];simp[ig,fZ]
def OJ(a:Nat)(b:a<=9999)(f:UInt8):(27::91::(Go.Lib.decDigits a++[f]))=ig [a] f:=by rw[jv a b];rfl
def C6(a b n:Nat)(up:Bool)(f:a<=9998)(h:b<=9998)(c:n<=9999) :
  (((([27,55]++(27::91::(Go.Lib.decDigits (a+1)++[59]++Go.Lib.decDigits (b+1)++[114])))++(27::91::(Go.Lib.decDigits (a+1)++[59,49,72])))++(27::91::(Go.Lib.decDigits n++[cond up 77 76])))++(27::91::[114]))++[27,56]=yt a b n up:=by
 have e:fu (0+1)=[49]:=by decide
 rw[HY (a+1) (b+1) li li,OJ n c,jv (a+1) li];simp[yt,ig,fZ,e]
def zC(H:aa)(c:Int):Pure 59 [i7 i8 c] H (kw (B6 c)):=by
 obtain⟨b,f⟩:∃ d,ge (32<=c)=d:=⟨_,rfl⟩
 obtain⟨h,j⟩:∃ d,ge (c=127)=d:=⟨_,rfl⟩
 have a:ge (¬c=127)=!h:=by rw[<-j,decide_not]
 have n:ge (c<32)=!b:=by rw[<-f,<-decide_not]; simp only[decide_eq_decide]; omega
 obtain⟨w,k⟩:=ac (cB c);have e:B6 c=(b&&(!h&&!ge (w=0))):=by unfold B6;rw[n,j,k];cases b<;>cases h<;>simp
 have o:ge ((0:Int)<(w:Int))=!ge (w=0):=by rw[<-decide_not]; simp only[decide_eq_decide]; omega
 have m:Pure 91 [i7 i8 c] H (i7 i8 (cB c:Int)):=xo H c;rw[k]at m;rw[e];refine ba mixed Tryz.func59 rfl Tryz.ntmps59 (zA8 rfl) fun wf r=>?_
 cases b with
 |false=>simp only[f,Tryz.results59,zW,seval]; exact Fin.pure rfl
 |true =>
 cases h with
 |true=>simp only[f,a,zE4,Tryz.results59,zW,seval]; exact Fin.pure rfl
 |false =>simp only[f,a,Bool.not_false,zW,seval];refine (show br Tryz.prog 91 _ (ext H []) _ (ext H []) from m).to ?_;simp only[o,Tryz.results59,zW,seval];exact Fin.pure rfl
set_option maxRecDepth 100000
def Sl(H:aa)(r:Option (List UInt8))(out:Out)(X:aa):Prop :=
 Mod [] H X/\match r with
  |some cs=>∃ s:ByteArray,s.data.toList=cs/\out=.ok (.tuple #[.string s,kw bv])
  |none=>∃ s:ByteArray,out=.ok (.tuple #[.string s,kw gc])
def FP(H:aa)(o:zB)(hs:o.kind=3->o.text.data.toList.length<=2000000)(hok:H.base<=H.next):aL Tryz.prog 25 [o.val] H (Sl H (l8 o)):=by
 obtain⟨b,w⟩:=ac H.next;obtain⟨f,m,j,n,look,A⟩:=o;refine aH mixed Tryz.func25 rfl Tryz.ntmps25 (zA8 rfl) ?_;have D:∀ L,Mod [] H (ext H L):=fun L=>Mod.ext hok;unfold l8 Op.val Op.cells;simp only;by_cases k1:f=1
 .have J:ge (f=1)=true:=decide_eq_true k1;rw[if_pos k1];have h0:∀(a b:ByteArray)(X:aa),df Tryz.prog X .add 9 (.string a) (.string b)=none:=fun a b X=>by kernel_rfl
  obtain⟨e1,B⟩:∃ e,ge (0<=m/\m<=9998)=e:=⟨_,rfl⟩
  obtain⟨e2,C⟩:∃ e,ge (0<=j/\j<=9998)=e:=⟨_,rfl⟩
  have p1:∀ G:aa,Pure 54 [i7 i8 m] G (kw e1):=fun G=>B▸tr G m;have p2:∀ G:aa,Pure 54 [i7 i8 j] G (kw e2):=fun G=>C▸tr G j;simp only[w,J,zW,seval];refine (show br Tryz.prog 54 _ _ _ _ from p1 _).to ?_
  cases e1 with
  |false =>have:=of_decide_eq_false B;rw[if_neg li];simp only[Tryz.results25,zW,seval];exact⟨D _,_,rfl⟩
  |true =>
  have r1:=of_decide_eq_true B;simp only[w,zW,seval];refine (show br Tryz.prog 54 _ _ _ _ from p2 _).to ?_
  cases e2 with
  |false =>have:=of_decide_eq_false C;rw[if_neg li];simp only[Tryz.results25,zW,seval];exact⟨D _,_,rfl⟩
  |true =>
  have r2:=of_decide_eq_true C;rw[if_pos li];have w1:IntKind.i64.wrap (m+1)=((m.toNat+1:Nat):Int):=by rw[show ((m.toNat+1:Nat):Int)=m+1 by omega];exact ak li li
  have w2:IntKind.i64.wrap (j+1)=((j.toNat+1:Nat):Int):=by rw[show ((j.toNat+1:Nat):Int)=j+1 by omega];exact ak li li
  have l1:=j6 (m.toNat+1) li;have l2:=j6 (j.toNat+1) li;rw[<-HY (m.toNat+1) (j.toNat+1) li li];simp only[zW,seval];refine aK [] [] ls rfl rfl fun ops anc hA hG=>?_;simp only[w,w1,bh,zW,seval];refine aN (v:=.string ⟨(Go.Lib.decDigits (m.toNat+1)).toArray⟩) [] (by simp only[aE,seval]) ls mt lw (fun K hn hg=>?_) (by simp (maxDischargeDepth:=6) only[bh]) ?_
  .simp only[aE];exact fS (m.toNat+1+1) (m.toNat+1) li li K
  simp only[w,zW,seval];refine jr (a:=Go.Lib.decDigits (m.toNat+1)) (b:=[59]) rfl rfl pm pm mt (h0 _ _) rx ?_;simp only[w,w2,bh,zW,seval];refine aN (v:=.string ⟨(Go.Lib.decDigits (j.toNat+1)).toArray⟩) [] (by simp only[aE,seval]) ls mt lw (fun K hn hg=>?_) (by simp (maxDischargeDepth:=6) only[bh]) ?_
  .simp only[aE];exact fS (j.toNat+1+1) (j.toNat+1) li li K
  simp only[w,zW,seval];refine jr (a:=Go.Lib.decDigits (m.toNat+1)++[59]) (b:=Go.Lib.decDigits (j.toNat+1)) rfl rfl (by simp only[aE,seval]<;>rfl) pm mt (h0 _ _) py ?_;simp only[w,zW,seval];refine jr (a:=Go.Lib.decDigits (m.toNat+1)++[59]++Go.Lib.decDigits (j.toNat+1)) (b:=[72]) rfl rfl pm pm mt (h0 _ _) py ?_;simp only[w,bh,fX,seval];refine aN (v:=.string ⟨(27::91::(Go.Lib.decDigits (m.toNat+1)++[59]++Go.Lib.decDigits (j.toNat+1)++[72])).toArray⟩) [] (by simp only[aE,seval]) ls mt lw (fun K hn hg=>?_) (by simp (maxDischargeDepth:=6) only[bh]) ?_
  .simp only[aE];exact kj K (Go.Lib.decDigits (m.toNat+1)++[59]++Go.Lib.decDigits (j.toNat+1)++[72]) py
  simp only[w,Tryz.results25,bh,zW,seval];exact⟨D _,_,rfl,rfl⟩
 have J:ge (f=1)=false:=decide_eq_false k1;rw[if_neg k1];by_cases k2:f=2
 .have O:ge (f=2)=true:=decide_eq_true k2;rw[if_pos k2]
  obtain⟨e1,B⟩:∃ e,ge (look.fore<0)=e:=⟨_,rfl⟩
  obtain⟨e2,C⟩:∃ e,ge (256<look.fore)=e:=⟨_,rfl⟩
  obtain⟨e3,h3⟩:∃ e,ge (look.back<0)=e:=⟨_,rfl⟩
  obtain⟨e4,R⟩:∃ e,ge (256<look.back)=e:=⟨_,rfl⟩
  have ec:te look=!(e1||(e2||(e3||e4))):=by rw[<-B,<-C,<-h3,<-R,Bool.eq_iff_iff];simp only[te,zA7,decide_eq_true_eq,Bool.not_eq_true',Bool.or_eq_false_iff,decide_eq_false_iff_not];omega
  cases e1 with
  |true =>rw[if_neg (by rw[ec]; simp)];simp only[w,J,O,B,Tryz.results25,zW,seval];exact⟨D _,_,rfl⟩
  |false =>
  cases e2 with
  |true =>rw[if_neg (by rw[ec]; simp)];simp only[w,J,O,B,C,Tryz.results25,zW,seval];exact⟨D _,_,rfl⟩
  |false =>
  cases e3 with
  |true =>rw[if_neg (by rw[ec]; simp)];simp only[w,J,O,B,C,h3,Tryz.results25,zW,seval];exact⟨D _,_,rfl⟩
  |false =>
  cases e4 with
  |true =>rw[if_neg (by rw[ec]; simp)];simp only[w,J,O,B,C,h3,R,Tryz.results25,zW,seval];exact⟨D _,_,rfl⟩
  |false =>
  have b1:=of_decide_eq_false B;have b2:=of_decide_eq_false C;have b3:=of_decide_eq_false h3;have b4:=of_decide_eq_false R;rw[if_pos (by rw[ec]; rfl)];simp only[w,J,O,B,C,h3,R,zW,seval];refine (show br Tryz.prog 57 _ _ _ _ from Mx _ look li li li li).to ?_;rw[PU look li li li li];simp only[kN,Tryz.results25,zW,seval];exact⟨D _,_,rfl,rfl⟩
 have O:ge (f=2)=false:=decide_eq_false k2;rw[if_neg k2];by_cases k3:f=3
 .have d3:ge (f=3)=true:=decide_eq_true k3;rw[if_pos k3];have hlt:A.data.toList.length<=2000000:=hs k3;obtain⟨r,hr⟩:=ac (nZ A.data.toList);rw[hr];simp only[w,J,O,d3,zW,seval];obtain⟨X0,hX0⟩:=ac (ext H [⟨58,gc,[i7 i8 f,i7 i8 m,i7 i8 j,i7 i8 n,i7 i8 look.fore,i7 i8 look.back,kw look.bold,kw look.under,kw look.inv,.string A]⟩]);have n0:X0.next=b+1:=by rw[<-hX0,aA,w]; rfl
  have k0:bk X0 (b+0)=ap ⟨58,gc,[i7 i8 f,i7 i8 m,i7 i8 j,i7 i8 n,i7 i8 look.fore,i7 i8 look.back,kw look.bold,kw look.under,kw look.inv,.string A]⟩:=by rw[<-hX0,bJ w lw]; rfl
  have m0:Mod [] H X0:=hX0▸D _;have ok0:=m0.ok hok;rw[hX0];refine aL.mono (show aL Tryz.prog 58 [.string A] X0 _ from zF X0 A hlt ok0) ?_;rintro out Y ⟨mY,ho⟩;have S:=m0.trans mY;have okY:=S.ok hok;obtain⟨y,hy⟩:=ac Y.next;have yb:Y.base<=y:=hy▸okY;have hby:b+0<y:=by have:=mY.next; omega
  have kY:=(mY.bk (show b+0<X0.next by omega) lw).trans k0
  obtain⟨v,l,e,rfl,hv,U,hll⟩:∃ v l e,out=.ok (.tuple #[v,i7 i8 e])/\cK Y 3 1 v (iv l) l.length/\((r=ap l/\e=0)\/(r=bi/\l=[]/\e=5))/\l.length<=2000000:=by
   rw[hr]at ho
   cases r with
   |none=>exact⟨_,[],5,ho,cK.nil,.inr ⟨rfl,rfl,rfl⟩,by simp⟩
   |some l =>obtain⟨v,B,C,_⟩:=ho;have:=DV _ _ _ (zA5 _) hr;exact⟨v,l,0,B,C,.inl ⟨rfl,rfl⟩,by omega⟩
  obtain⟨av,ev⟩:=hv.len;obtain⟨L,hL⟩:=ac l.length;rw[hL]at ev hll;rw[show Y=ext Y [] from rfl];simp only[zW,seval];refine c7 fun E hE=>?_;have g1:E 1=i9 (ap ⟨b+0,0,bi⟩):=by rw[hE]; rfl
  have g4:E 4=v:=by rw[hE]; rfl
  have g5:E 5=i7 i8 e:=by rw[hE]; rfl
  have g6:E 6=i7 i8 ((0:Nat):Int):=by rw[hE]; rfl
  clear hE;refine bn (fun E' X=>X=Y/\l.all B6=bv/\E' 1=i9 (ap ⟨b+0,0,bi⟩)/\E' 5=i7 i8 e) ?_ ?_
  .refine b8 (fun (i:Nat) E' X=>X=Y/\i<=L/\(l.take i).all B6=bv/\E' 1=i9 (ap ⟨b+0,0,bi⟩)/\E' 4=v/\E' 5=i7 i8 e/\E' 6=i7 i8 (i:Int)) (fun i=>L-i) 0
    ⟨rfl,zB7 _,rfl,g1,g4,g5,g6⟩ ?_
   clear g1 g4 g5 g6 E;rintro i E X ⟨hX,hiL,F,g1,g4,g5,g6⟩;rw[hX,show Y=ext Y [] from rfl];clear hX X;by_cases hi:i<L
   .have d:ge ((i:Int)<(L:Int))=true:=decide_eq_true li
    obtain⟨c,hc⟩:∃ c,l[i]?=ap c:=⟨_,zB3 li⟩
    obtain⟨nn,ee,hn,hbk,hg⟩:=Ik hv hc;rw[hL]at ee;have ia:=ta (len:=L) (cap:=L) (n:=nn) (off:=0) (s:=bi) (i:=(i:Int)) (k:=i) rfl hi;rw[hy]at hn;have hwi:IntKind.i64.wrap ((i:Int)+1)=((i+1:Nat):Int):=by rw[show ((i+1:Nat):Int)=(i:Int)+1 by omega];exact ak li li
    have hpr:=zC Y c;obtain⟨pc,hpc⟩:=ac (B6 c);rw[hpc]at hpr;have htk:l.take (i+1)=l.take i++[c]:=by rw[List.take_add_one,hc]; rfl
    simp only[g4,g6,ee,hy,d,ia,hn,hbk,hg,zC6,zW,seval];refine (show br Tryz.prog 59 _ (ext Y []) _ (ext Y []) from hpr).to ?_
    cases pc with
    |false =>
     have hna:l.all B6=false:=by rw[Bool.eq_false_iff];intro h;have:=zD3.1 h c (zC0 hc);rw[hpc]at this;cases this
     simp only[Bool.not_false,da,Tryz.results25,zW,seval]
     rcases U with⟨rfl,_⟩|⟨rfl,rfl,_⟩
     .show Sl H (if l.all B6=bv then _ else bi) _ _;rw[if_neg (by rw[hna]; simp)];exact⟨S,_,rfl⟩
     .exact⟨S,_,rfl⟩
    |true =>
     simp only[g6,hwi,zE4,zW,seval];refine aC ⟨i+1,by omega,rfl,by omega,?_,?_,?_,?_,?_⟩
     .rw[htk,List.all_append,F,List.all_cons,hpc]; rfl
     all_goals simp only[g1,g4,g5,ee,aE,seval]
   .have d:ge ((i:Int)<(L:Int))=false:=decide_eq_false li;have:l.take i=l:=zC3 li;rw[this]at F;simp only[g4,g6,ev,d,zW,seval];refine ah ⟨rfl,F,?_,?_⟩<;>simp only[g1,g5,aE,seval]
  clear g1 g4 g5 g6 E;rintro E X ⟨hX,F,g1,g5⟩;rw[hX,show Y=ext Y [] from rfl]
  rcases U with⟨rfl,rfl⟩|⟨rfl,rfl,rfl⟩
  .simp only[g1,g5,hy,hby,kY,decide_true,Tryz.results25,zW,seval];rw[if_pos F];exact⟨S,_,rfl,rfl⟩
  .simp only[g1,g5,hy,hby,kY,seval,decide_false,Tryz.results25,zW];exact⟨S,_,rfl⟩
 have d3:ge (f=3)=false:=decide_eq_false k3;rw[if_neg k3];by_cases k4:f=4
 .have d4:ge (f=4)=true:=decide_eq_true k4;rw[if_pos k4];simp only[w,J,O,d3,d4,zW,seval];refine (show br Tryz.prog 55 _ _ _ _ from kj _ [75] mt).to ?_;simp only[kN,Tryz.results25,zW,seval];exact⟨D _,_,rfl,rfl⟩
 have d4:ge (f=4)=false:=decide_eq_false k4;rw[if_neg k4];by_cases I:f=5\/f=6
 .rw[if_pos I]
  obtain⟨e1,B⟩:∃ e,ge (m<0)=e:=⟨_,rfl⟩
  obtain⟨e2,C⟩:∃ e,ge (j<m)=e:=⟨_,rfl⟩
  obtain⟨e3,h3⟩:∃ e,ge (0<=j/\j<=9998)=e:=⟨_,rfl⟩
  obtain⟨e4,R⟩:∃ e,ge (n<1)=e:=⟨_,rfl⟩
  have V:∀ G:aa,Pure 54 [i7 i8 j] G (kw e3):=fun G=>h3▸tr G j
  cases e1 with
  |true =>
   have:=of_decide_eq_true B;rw[if_neg li];rcases I with rfl|rfl
   all_goals
    simp only[w,B,seval,decide_true,decide_false,Tryz.results25,zW];exact⟨D _,_,rfl⟩
  |false =>
  have r1:=of_decide_eq_false B
  cases e2 with
  |true =>
   have:=of_decide_eq_true C;rw[if_neg li];rcases I with rfl|rfl
   all_goals
    simp only[w,B,C,seval,decide_true,decide_false,Tryz.results25,zW];exact⟨D _,_,rfl⟩
  |false =>
  have r2:=of_decide_eq_false C
  cases e3 with
  |false =>
   have:=of_decide_eq_false h3;rw[if_neg li];rcases I with rfl|rfl
   all_goals
    simp only[w,B,C,seval,decide_true,decide_false,zW];refine (show br Tryz.prog 54 _ _ _ _ from V _).to ?_;simp only[Tryz.results25,zW,seval];exact⟨D _,_,rfl⟩
  |true =>
  have r3:=of_decide_eq_true h3
  cases e4 with
  |true =>
   have:=of_decide_eq_true R;rw[if_neg li];rcases I with rfl|rfl
   all_goals
    simp only[w,B,C,seval,decide_true,decide_false,zW];refine (show br Tryz.prog 54 _ _ _ _ from V _).to ?_;simp only[w,R,Tryz.results25,zW,seval];exact⟨D _,_,rfl⟩
  |false =>
  have r4:=of_decide_eq_false R;have w1:IntKind.i64.wrap (j-m)=j-m:=ak li li;have w2:IntKind.i64.wrap (j-m+1)=j-m+1:=ak li li;by_cases c5:j-m+1<n
  .have h5:ge (j-m+1<n)=true:=decide_eq_true c5;rw[if_neg li];rcases I with rfl|rfl
   all_goals
    simp only[w,B,C,seval,decide_true,decide_false,zW];refine (show br Tryz.prog 54 _ _ _ _ from V _).to ?_;simp only[w,R,w1,w2,h5,Tryz.results25,zW,seval];exact⟨D _,_,rfl⟩
  have h5:ge (j-m+1<n)=false:=decide_eq_false c5;rw[if_pos ⟨by omega,by omega,by omega,by omega,by omega⟩];rcases I with rfl|rfl
  .simp only[w,B,C,seval,decide_true,decide_false,zW];refine (show br Tryz.prog 54 _ _ _ _ from V _).to ?_;simp only[w,R,w1,w2,h5,decide_true,zW,seval];refine (show br Tryz.prog 60 _ _ _ _ from vw _ ⟨5,m,j,n,look,A⟩ m.toNat j.toNat n.toNat 77 rc rc rc li li li).to ?_;rw[show [(77:UInt8)]=[cond bv 77 76] from rfl,C6 _ _ _ bv li li li];simp only[Tryz.results25,zW,seval];exact⟨D _,_,rfl,rfl⟩
  .simp only[w,B,C,seval,decide_true,decide_false,zW];refine (show br Tryz.prog 54 _ _ _ _ from V _).to ?_;simp only[w,R,w1,w2,h5,seval,decide_false,zW];refine (show br Tryz.prog 60 _ _ _ _ from vw _ ⟨6,m,j,n,look,A⟩ m.toNat j.toNat n.toNat 76 rc rc rc li li li).to ?_;rw[show [(76:UInt8)]=[cond gc 77 76] from rfl,C6 _ _ _ gc li li li];simp only[Tryz.results25,zW,seval];exact⟨D _,_,rfl,rfl⟩
 have d5:ge (f=5)=false:=decide_eq_false li;have d6:ge (f=6)=false:=decide_eq_false li;rw[if_neg I];by_cases k7:f=7
 .have d7:ge (f=7)=true:=decide_eq_true k7;rw[if_pos k7];simp only[w,J,O,d3,d4,d5,d6,d7,zW,seval];refine (show br Tryz.prog 55 _ _ _ _ from kj _ [63,50,53,104] mt).to ?_;simp only[kN,Tryz.results25,zW,seval];exact⟨D _,_,rfl,rfl⟩
 have d7:ge (f=7)=false:=decide_eq_false k7;rw[if_neg k7];by_cases k8:f=8
 .have d8:ge (f=8)=true:=decide_eq_true k8;rw[if_pos k8];simp only[w,J,O,d3,d4,d5,d6,d7,d8,zW,seval];refine (show br Tryz.prog 55 _ _ _ _ from kj _ [63,50,53,108] mt).to ?_;simp only[kN,Tryz.results25,zW,seval];exact⟨D _,_,rfl,rfl⟩
 have d8:ge (f=8)=false:=decide_eq_false k8;rw[if_neg k8];simp only[w,J,O,d3,d4,d5,d6,d7,d8,Tryz.results25,zW,seval];exact⟨D _,_,rfl⟩
set_option maxRecDepth 100000
def wk{H:aa}{v:gt}{l:List UInt8}{s:ByteArray}(h:cK H 5 1 v (aq l) l.length)(hl:l.length<=350000000)(hs:s.size<=1000000000)(j:H.base<=H.next) :
  ∃ u G,aF Tryz.prog H .append ⟨[25,9]⟩ [v,.string s]=ap (u,G)/\cK G 5 1 u (aq (l++s.data.toList)) (l++s.data.toList).length/\Mod (ae v) H G/\∀ n∈ae u,n∈ae v\/H.next<=n:=by
 have o:Tryz.prog.underlying 25=ap (.slice 5):=by kernel_rfl
 have r:bg Tryz.prog 5=ap 1:=by kernel_rfl
 have w:bytesOf Tryz.prog 5=ap 1:=by kernel_rfl
 have A:zeroOf Tryz.prog 5=ap (.int .u8 0):=by kernel_rfl
 have B:fM Tryz.prog 9=ap false:=by kernel_rfl
 have C:s.size=s.data.toList.length:=Array.length_toList.symm;by_cases f:0<s.size
 .obtain⟨G,K,O,R,g4⟩:=Ip (P:=Tryz.prog) (st:=25) (xt:=9) (e:=5) (by1:=1) (z:=.int .u8 0) (s:=s) o r w A rfl B h f sm rfl (mR _ _);refine⟨_,G,K,?_,R j,fun n D=>.inr (by simp only[ae,zA6]at D; omega)⟩;rw[ju,zB2,<-C];exact O
 .have b:s.data.toList=[]:=zE7 li;have hx:kz (.string s)=ap 0:=by rw[kz]; congr 1; omega
  have F:dj H 1 0 (.string s)=ap []:=rfl;rw[b,zD4];obtain⟨S,q2,⟨f,rfl⟩|⟨f,n,rfl,I,c⟩⟩:=id h
  .exact⟨_,H,Qe o r w A rfl B hx F,h,Mod.refl,fun n D=>.inl D⟩
  .have U:=me (H:=H) (L:=[]) (n:=n) (off:=0+l.length*1) (vs:=[]) c I (by simp only[zB0,ib]; omega) rfl rfl;have J:=Ly (P:=Tryz.prog) (H:=H) (st:=25) (xt:=9) (m:=n) (off:=0) (k:=l.length) (cap:=l.length) (sp:=bi) (x:=.string s) o r w A rfl B hx F lw li sm;rw[show dX H n (0+l.length*1) []=dX (ext H []) n (0+l.length*1) [] from rfl,U,zB1]at J;refine⟨_,_,J,?_,Mod.uw ol,fun q V=>.inl V⟩;refine⟨S,q2,.inr ⟨f,n,rfl,?_,by rw[aA,bE]; simpa using c⟩⟩;show bk (uw H n (0+l.length*1) []) n=_;rw[bR,I]
   have a:∀(l:List gt)(k:Nat),cQ l k []=l:=fun l=>by
    induction l with
    |nil=>intro k; cases k<;>rfl
    |cons x l ih=>intro k; cases k with
     |zero=>rfl
     |succ k=>exact congrArg (x::·) (ih k)
   simp[Oy,a]
def RT(s:ByteArray):Option (List UInt8):=match nZ s.data.toList with
 |none=>bi
 |some l=>if l.all B6=bv then ap s.data.toList else bi
def Qi(H:aa)(t:Go.Proofs.YtpohjcacnkhnkaaGreatDoor.KE H)(h2n:2<=H.next)(v:gt)(l:List UInt8)(s:ByteArray)(hv:cK H 5 1 v (aq l) l.length)(hl:l.length<=310000000)(hs:s.size<=1000000000)(h2:∀ n∈ae v,2<n)(A:H.base<=H.next) :
  aL Tryz.prog 52 [v,.string s] H (Fj H v l (RT s)):=by
 obtain⟨b,hb⟩:=ac H.next;obtain⟨r,hr⟩:=ac (nZ s.data.toList);have I:∀(X:aa)(m:Int),bM Tryz.prog X 21 3 (.int .i32 m)=ap (i7 i8 (IntKind.i64.wrap m),X):=fun X m=>im (u:=.int .i32) ls ls;have e1:=Jr (H:=ext H []) (s:=s) u9;refine aH mixed Tryz.func52 rfl Tryz.ntmps52 (zA8 rfl) ?_;simp only[Md,e1,zW,seval];refine c7 fun E V=>?_;have C:E 0=v:=by rw[V]; rfl
 have D:E 1=.string s:=by rw[V]; rfl
 have e:E 10=i9 (ap ⟨H.next,0,bi⟩):=by rw[V]; rfl
 have g4:E 4=jp bi 0 0:=by rw[V]; rfl
 have g5:E 5=kw false:=by rw[V]; rfl
 clear V;refine bn (fun F X=>Mod [] H X/\F 0=v/\F 1=.string s/\∀ cs,r=ap cs->cs.all B6=bv) ?_ ?_
 .refine b8 (fun (p:Nat) F X=>Mod [] H X/\X.get H.next=ap (KU s p)/\H.next<X.next/\p<=s.data.toList.length/\(∀ cs,r=ap cs->∃ B l',cs=B++l'/\nZ (s.data.toList.drop p)=ap l'/\B.all B6=bv)/\F 0=v/\F 1=.string s/\F 10=i9 (ap ⟨H.next,0,bi⟩)/\F 4=jp bi 0 0/\F 5=kw gc) (fun p=>s.data.toList.length-p) 0
   ⟨Mod.new A,by rw[aa.fN,if_pos (show H.next=(ext H []).next from rfl)],zD9 _,zB7 _,fun cs h=>⟨[],cs,rfl,by rw[zD2,hr,h],rfl⟩,C,D,e,g4,g5⟩ ?_
  clear C D g4 g5 e E;rintro p E X ⟨m,hit,hlt,hps,J,C,D,e,g4,g5⟩;rw[show X=ext X [] from rfl];by_cases h0:p<s.data.toList.length
  .have K:0<(s.data.toList.drop p).length:=by rw[zC1]; omega
   have hpt:=pS _ K;have f:=Mo _ K;rw[Go.Lib.decodeL_drop]at f;have hst:=mu _ K
   obtain⟨c,hc⟩:∃ c:Nat,(Utf8.decode s p).1=c:=⟨_,rfl⟩
   obtain⟨n,hn⟩:=ac ((Utf8.decode s p).2);have k:=Nh (H:=ext X []) (n:=H.next) (p:=p) (s:=s) hit (by rw[jA]; exact h0);rw[hc,hn]at k f;obtain⟨Y,hY⟩:=ac (X.cy H.next (ap (KU s (p+n))));have mY:Mod [H.next] X Y:=hY▸Mod.cy lw;have hYn:Y.next=X.next:=by rw[<-hY]; rfl
   have hYit:Y.get H.next=ap (KU s (p+n)):=by rw[<-hY,aa.fg,if_pos rfl]
   rw[show (ext X []).cy H.next (ap (KU s (p+n)))=ext Y [] from hY]at k;have O:Mod [] H Y:=m.step mY A (fun q hq=>.inr (by simp only[zA6]at hq; omega))
   have hn1:1<=n/\p+n<=s.data.toList.length/\c<2000000000:=by
    rcases f with⟨j,w,R⟩|⟨j,w,R,_⟩
    .omega
    .rw[zC1]at hpt;omega
   have hw:IntKind.i64.wrap (c:Int)=c:=ak li li
   -- a character that cannot be displayed
   have S:B6 c=gc->RT s=none:=fun hp=>by
    unfold RT;rw[hr]
    cases r with
    |none=>rfl
    |some cs =>
     obtain⟨B,l',rfl,o,h4⟩:=J cs rfl;rw[hst]at o
     rcases f with⟨j,_⟩|⟨j,w,_⟩
     .rw[if_pos j]at o; cases o
     .rw[if_neg j]at o;obtain⟨l2,_,rfl⟩:=zB5.1 o;rw[w];simp only[List.all_append,List.all_cons,hp,zF7,Bool.and_false];rfl
   have good:B6 c=bv->∀ cs,r=ap cs->∃ B l',cs=B++l'/\nZ (s.data.toList.drop (p+n))=ap l'/\B.all B6=true:=fun hp cs h=>by
    obtain⟨B,l',rfl,o,h4⟩:=J cs h;rw[hst]at o
    rcases f with⟨j,_⟩|⟨j,w,R,_⟩
    .rw[if_pos j]at o; cases o
    .rw[if_neg j]at o;obtain⟨l2,h5,rfl⟩:=zB5.1 o;refine⟨B++[(c:Int)],l2,by rw[w]; simp,?_,by simp[h4,hp]⟩;rw[List.drop_drop,R,Int.toNat_natCast]at h5;exact h5
   have U:∀ L,Mod (ae v) H (ext Y L):=fun L=>(O.mono lw).trans (Mod.ext (O.ok A));by_cases c1:(c:Int)<32
   .have j:ge ((c:Int)<32)=true:=decide_eq_true c1;rw[S (by unfold B6; rw[j]; rfl)];simp only[e,wg,k,aY,I,hw,j,da,Tryz.results52,zW,seval];exact⟨U [],_,rfl,rfl⟩
   have j:ge ((c:Int)<32)=false:=decide_eq_false c1;by_cases c2:(c:Int)=127
   .have w:ge ((c:Int)=127)=true:=decide_eq_true c2;rw[S (by unfold B6; rw[w]; simp)];simp only[e,wg,k,aY,I,hw,j,w,da,Tryz.results52,zW,seval];exact⟨U [],_,rfl,rfl⟩
   have w:ge ((c:Int)=127)=false:=decide_eq_false c2;simp only[e,wg,k,aY,I,hw,j,w,zW,seval];refine (Go.Proofs.YtpohjcacnkhnkaaGreatDoor.iK (ext Y []) c).to ?_;by_cases c3:((Go.Proofs.YtpohjcacnkhnkaaGreatDoor.cB (c:Int):Nat):Int)=0
   .have R:ge (((Go.Proofs.YtpohjcacnkhnkaaGreatDoor.cB (c:Int):Nat):Int)=0)=true:=decide_eq_true c3;rw[S (by unfold B6; rw[decide_eq_true (show cB c=0 by rw[<-Ed]; omega)]; simp)];simp only[R,da,Tryz.results52,zW,seval];exact⟨U [],_,rfl,rfl⟩
   .have R:ge (((Go.Proofs.YtpohjcacnkhnkaaGreatDoor.cB (c:Int):Nat):Int)=0)=false:=decide_eq_false c3;simp only[R,zW,seval];refine aC ⟨p+n,by omega,O,?_,?_,by omega,good (by unfold B6; rw[j,w,decide_eq_false (show ¬cB c=0 by rw[<-Ed]; omega)]; rfl),by simp only[C,aE,seval],by simp only[D,aE,seval],by simp only[e,aE,seval],by simp only[g4,aE,seval],by simp only[g5,aE,seval]⟩
    .rw[show (ext Y []).get H.next=Y.get H.next from rfl,hYit]
    .rw[show (ext Y []).next=Y.next from rfl]; omega
  .have k:=MQ (H:=ext X []) (n:=H.next) (p:=p) (s:=s) hit (by rw[jA]; exact h0);simp only[e,wg,k,zW,seval];refine ah ⟨m,by simp only[C,aE,seval],by simp only[D,aE,seval],fun cs h=>?_⟩;obtain⟨B,l',rfl,o,h4⟩:=J cs h;rw[zE8 li,o6]at o;cases o;simpa using h4
 clear C D g4 g5 e E;rintro E X ⟨m,C,D,hall⟩;have okX:=m.ok A;have vX:cK X 5 1 v (aq l) l.length:=hv.of m.next fun q hq=>m.get q (hv.ne q hq).2 lw;obtain⟨u,G,k1,k2,k3,k4⟩:=wk (s:=s) vX li hs okX;have mG:Mod (ae v) H G:=(m.mono lw).trans k3;have t01:∀ q,q<2->q∉ae v:=fun q h h'=>by have:=h2 q h'; omega
 have tlt:∀ q,q<2->q<H.next:=fun q h=>by omega
 have tG:Go.Proofs.YtpohjcacnkhnkaaGreatDoor.KE G:=t.of (mG.get 0 (tlt 0 li) (t01 0 li)) (mG.get 1 (tlt 1 li) (t01 1 li));have hvd:=Go.Proofs.YtpohjcacnkhnkaaGreatDoor.Pp (ext G []) tG s li;rw[AJ _ _ (zA5 _),hr]at hvd;rw[show X=ext X [] from rfl]at k1 ⊢;simp only[C,D,k1,zW,seval];refine hvd.to ?_;simp only[Tryz.results52,zW,seval];unfold RT;rw[hr]
 cases r with
 |none=>exact⟨mG,u,rfl,cS (zA5 _) _ k2.sc⟩
 |some cs =>
  simp only;rw[if_pos (hall cs rfl)];refine⟨mG,u,rfl,k2,fun n hn=>?_⟩;rcases k4 n hn with h|h
  .exact .inl h
  .exact .inr (zC7 m.next h)
set_option maxRecDepth 100000
def HN{X:aa}(t:Pow X){v:gt}{l:List UInt8}{ns:List Nat}{f:UInt8}{L:List gt}{k y:Nat}{m:Int}(e:cK X 5 1 v (aq l) l.length)(r:l.length<=310000000)(s:nV ns=L)(w:ns.length=k)(A:0<k)(B:(f.toNat:Int)=m)(b:∀ n∈ns,n<=9999)(j:k<=20)(C:2∉ae v)(o:X.next=y)(a:X.base<=X.next) :
  aL Tryz.prog 50 [v,.int .u8 m,jp (ap ⟨y+0,0,ap 0⟩) k k] (ext X [⟨3,gc,L⟩]) (NP X v (l++ig ns f)):=by
 subst s w B;have c:Mod [] X (ext X [⟨3,gc,nV ns⟩]):=Mod.ext a;have D:bk (ext X [⟨3,gc,nV ns⟩]) (y+0)=ap ⟨3,gc,nV ns⟩:=by rw[bJ o lw]; rfl
 refine (NA _ (t.mod c lw) v _ l ns f (e.of c.next fun q F=>c.get q (e.ne q F).2 lw) r ⟨by rw[jQ,zE5],.inr ⟨A,_,_,_,_,_,_,_,rfl,ma D,by rw[aA,o]; simp,by rw[jQ]; omega,by rw[zD2,zC3 (by rw[jQ]; omega)]⟩⟩ b j C (fun n b h=>by
  simp only[ae,zA6]at h;have:=(e.ne n b).2
  omega) (c.ok a)).mono ?_
 intro out Y h;exact NP.trans (c.mono lw) (fun n b=>.inl b) a h
def PJ{X:aa}(t:Pow X){v:gt}{l:List UInt8}{f:UInt8}{b:Int}(c:cK X 5 1 v (aq l) l.length)(e:l.length<=310000000)(j:(f.toNat:Int)=b)(k:2∉ae v)(a:X.base<=X.next) :
  aL Tryz.prog 50 [v,.int .u8 b,jp bi 0 0] (ext X []) (NP X v (l++ig [] f)):=by
 subst j;exact NA X t v _ l [] f c e pq.nil lw lw k (fun n _ h=>by simp[ae]at h) a
def Sm(o:zB)(up:Bool):Option (List UInt8) :=
 if 0<=o.row/\o.row<=o.col/\o.col<=9998/\1<=o.n/\o.n<=o.col-o.row+1 then ap (yt o.row.toNat o.col.toNat o.n.toNat up) else bi
def EX(H:aa)(t:Pow H)(v:gt)(l:List UInt8)(o:zB)(up:Bool)(hv:cK H 5 1 v (aq l) l.length)(hl:l.length<=300000000)(h2:2∉ae v)(j:H.base<=H.next) :
  aL Tryz.prog 53 [v,o.val,.int .u8 (cond up 77 76)] H (Fj H v l (Sm o up)):=by
 obtain⟨b,A⟩:=ac H.next;obtain⟨m,c,e,n,look,r⟩:=o;refine aH mixed Tryz.func53 rfl Tryz.ntmps53 (zA8 rfl) ?_;have mE:∀ L,Mod (ae v) H (ext H L):=fun L=>Mod.ext j;unfold Sm Op.val Op.cells;simp only;by_cases c1:c<0
 .have J:ge (c<0)=true:=decide_eq_true c1;rw[if_neg li];simp only[A,J,Tryz.results53,zW,seval];exact⟨mE _,_,rfl,rfl⟩
 have J:ge (c<0)=false:=decide_eq_false c1;by_cases c2:e<c
 .have U:ge (e<c)=true:=decide_eq_true c2;rw[if_neg li];simp only[A,J,U,Tryz.results53,zW,seval];exact⟨mE _,_,rfl,rfl⟩
 have U:ge (e<c)=false:=decide_eq_false c2;by_cases c3:9998<e
 .have d3:ge (9998<e)=true:=decide_eq_true c3;rw[if_neg li];simp only[A,J,U,d3,Tryz.results53,zW,seval];exact⟨mE _,_,rfl,rfl⟩
 have d3:ge (9998<e)=false:=decide_eq_false c3;by_cases c4:n<1
 .have d4:ge (n<1)=true:=decide_eq_true c4;rw[if_neg li];simp only[A,J,U,d3,d4,Tryz.results53,zW,seval];exact⟨mE _,_,rfl,rfl⟩
 have d4:ge (n<1)=false:=decide_eq_false c4;have w1:IntKind.i64.wrap (e-c)=e-c:=by rw[IntKind.wrap_i64]; omega
 have w2:IntKind.i64.wrap (e-c+1)=e-c+1:=by rw[IntKind.wrap_i64]; omega
 by_cases c5:e-c+1<n
 .have d5:ge (e-c+1<n)=true:=decide_eq_true c5;rw[if_neg li];simp only[A,J,U,d3,d4,d5,w1,w2,Tryz.results53,zW,seval];exact⟨mE _,_,rfl,rfl⟩
 have d5:ge (e-c+1<n)=false:=decide_eq_false c5;rw[if_pos li];have w3:IntKind.i64.wrap (c+1)=c+1:=by rw[IntKind.wrap_i64]; omega
 have w4:IntKind.i64.wrap (e+1)=e+1:=by rw[IntKind.wrap_i64]; omega
 obtain⟨O,hO⟩:=ac ([Value.int i8 m,i7 i8 c,i7 i8 e,i7 i8 n,i7 i8 look.fore,i7 i8 look.back,kw look.bold,kw look.under,kw look.inv,.string r]);obtain⟨X0,C⟩:=ac (ext H [⟨58,gc,O⟩]);have m0:Mod [] H X0:=C▸Mod.ext j;have n0:X0.next=b+1:=by rw[<-C,aA,A]; rfl
 have kb0:bk X0 (b+0)=ap ⟨58,gc,O⟩:=by rw[<-C,bJ A lw]; rfl
 have v0:cK X0 5 1 v (aq l) l.length:=hv.of m0.next fun q s=>m0.get q (hv.ne q s).2 lw;have hvb:∀ q∈ae v,q<b:=fun q s=>A▸(hv.ne q s).2;obtain⟨G,g1,g2,g3,g4⟩:=wQ (cs:=[27,55]) (L:=[.int .u8 27,.int .u8 55]) (k:=2) v0 rfl rfl mt li mt n0 (m0.ok j);have hE:ext X0 [⟨5,gc,[.int .u8 27,.int .u8 55]⟩]=ext H [⟨58,gc,[Value.int i8 m,i7 i8 c,i7 i8 e,i7 i8 n,i7 i8 look.fore,i7 i8 look.back,kw look.bold,kw look.under,kw look.inv,.string r]⟩,⟨5,gc,[.int .u8 27,.int .u8 55]⟩]:=by rw[<-C,<-hO,kB]; rfl
 rw[hE]at g1;have mG:Mod (ae v) H G:=(m0.mono lw).trans g3;have kG:bk G (b+0)=ap ⟨58,gc,O⟩:=(g3.bk li fun h=>by have:=hvb _ h; omega).trans kb0;have bG:G.base<=b+3:=by have:=mG.ok j; omega
 have nG:G.next=b+3:=by omega
 have bl3:b+0<b+3:=by omega
 rw[<-hO]at kG;have t2:2<b:=A▸t.1;simp only[A,J,U,d3,d4,d5,w1,w2,w3,w4,g1,kG,nG,bl3,gE,zW,seval];have tG:=t.mod mG h2;have e1:(((c.toNat+1:Nat)):Int)=c+1:=by omega
 have e2:(((e.toNat+1:Nat)):Int)=e+1:=by omega
 refine (HN (ns:=[c.toNat+1,e.toNat+1]) (f:=114) tG g2 py (by simp only[nV,zB9,zE6,e1,e2]) rfl (Nat.succ_pos 1) rfl (by simp only[zA9,zF2,or_false]; rintro q (rfl|rfl)<;>omega) lw (by simp only[ae,zA6]; omega) nG (mG.ok j)).mono ?_
 have D:∀ {X Y:aa} {w u:gt},Mod (ae v) H X->(∀ q∈ae w,b+1<=q)->bk X (b+0)=ap ⟨58,gc,[Value.int i8 m,i7 i8 c,i7 i8 e,i7 i8 n,i7 i8 look.fore,i7 i8 look.back,kw look.bold,kw look.under,kw look.inv,.string r]⟩->b+1<=X.next->Mod (ae w) X Y->(∀ n∈ae u,n∈ae w\/X.next<=n) ->
   Mod (ae v) H Y/\(∀ q∈ae u,b+1<=q)/\bk Y (b+0)=ap ⟨58,gc,[Value.int i8 m,i7 i8 c,i7 i8 e,i7 i8 n,i7 i8 look.fore,i7 i8 look.back,kw look.bold,kw look.under,kw look.inv,.string r]⟩/\b+1<=Y.next:=fun mX hw kX hX F K =>
  ⟨mX.step F j fun q s=>.inr (by have:=hw q s; omega),fun q s=>(K q s).elim (hw q) fun h=>by omega,(F.bk li fun h=>by have:=hw _ h; omega).trans kX,by have:=F.next; omega⟩
 have w5:∀ q∈ae (Value.slice (ap ⟨b+1+1,0,bi⟩) (l.length+2) (l.length+2)),b+1<=q:=fun q s=>by simp only[ae,zA6]at s; omega
 have lc:∀(l:List UInt8)(a:List Nat)(f:UInt8),a.length<=2->(l++ig a f).length<=l.length+13:=fun l a f h=>by have:=join_le a;simp only[ig,zB2,zA3,zB0];omega
 rintro out Y ⟨F,u,rfl,u1,u2⟩;obtain⟨F,K,kY,bY⟩:=D mG w5 kG li F u2;have lY:=lc (l++[27,55]) [c.toNat+1,e.toNat+1] 114 lw;have l0:(l++[27,55]).length=l.length+2:=by simp
 obtain⟨y,B⟩:=ac Y.next;have okY:=F.ok j;have bby:Y.base<=y:=B▸okY;have ly:b+0<y:=by omega
 rw[show Y=ext Y [] from rfl];simp only[B,ly,kY,w3,gE,zW,seval];have e3:(((0+1:Nat)):Int)=1:=rfl;refine (HN (ns:=[c.toNat+1,0+1]) (f:=72) (t.mod F h2) u1 li (by simp only[nV,zB9,zE6,e1,e3]) rfl (Nat.succ_pos 1) rfl (by simp only[zA9,zF2,or_false]; rintro q (rfl|rfl)<;>omega) lw (fun h=>by have:=K _ h; omega) B okY).mono ?_;rintro out Z ⟨mZ,u',rfl,R,S⟩;obtain⟨mZ,I,kZ,bZ⟩:=D F K kY bY mZ S;have lZ:=lc (l++[27,55]++ig [c.toNat+1,e.toNat+1] 114) [c.toNat+1,0+1] 72 lw;clear B bby ly;obtain⟨y,B⟩:=ac Z.next;have okZ:=mZ.ok j;have ly:b+0<y:=by omega
 rw[show Z=ext Z [] from rfl];simp only[B,ly,kZ,gE,zW,seval];have e4:((n.toNat:Nat):Int)=n:=by omega
 refine (HN (ns:=[n.toNat]) (f:=cond up 77 76) (t.mod mZ h2) R li (by simp only[nV,zB9,zE6,e4]) rfl (Nat.succ_pos 0) (by cases up<;>rfl) (by simp only[zA9,zF2,or_false]; rintro q rfl; omega) lw (fun h=>by have:=I _ h; omega) B okZ).mono ?_;rintro out W ⟨mW,u,rfl,u1,u2⟩;obtain⟨mW,K,kW,bW⟩:=D mZ I kZ bZ mW u2;have lW:=lc (l++[27,55]++ig [c.toNat+1,e.toNat+1] 114++ig [c.toNat+1,0+1] 72) [n.toNat] (cond up 77 76) lw;have okW:=mW.ok j;rw[show W=ext W [] from rfl];simp only[zW,seval];refine (PJ (X:=W) (f:=114) (t.mod mW h2) u1 li rfl (fun h=>by have:=K _ h; omega) okW).mono ?_;rintro out V ⟨mV,u',rfl,R,S⟩;obtain⟨mV,I,kV,bV⟩:=D mW K kW bW mV S;have lV:=lc (l++[27,55]++ig [c.toNat+1,e.toNat+1] 114++ig [c.toNat+1,0+1] 72++ig [n.toNat] (cond up 77 76)) [] 114 lw;obtain⟨y,B⟩:=ac V.next;have okV:=mV.ok j;obtain⟨G',g1,g2,g3,g4⟩:=wQ (cs:=[27,56]) (L:=[.int .u8 27,.int .u8 56]) (k:=2) R rfl rfl mt li mt B okV;rw[show V=ext V [] from rfl];simp only[B,g1,Tryz.results53,zW,seval];have mF:Mod (ae v) H G':=mV.step g3 j fun q s=>.inr (by have:=I q s; omega);refine⟨mF,_,rfl,?_,fun q s=>.inr (by simp only[ae,zA6]at s; omega)⟩;have eq:l++yt c.toNat e.toNat n.toNat up=l++[27,55]++ig [c.toNat+1,e.toNat+1] 114++ig [c.toNat+1,0+1] 72++ig [n.toNat] (cond up 77 76)++ig [] 114++[27,56]:=by simp only[yt,zC9]
 rw[eq];exact g2
set_option maxRecDepth 100000
def Fj.trans{H X Y:aa}{v:gt}{l:List UInt8}{r:Option (List UInt8)}{out:Out}(m:Mod [] H X)(h:Fj X v l r out Y):Fj H v l r out Y:=by
 obtain⟨a,b⟩:=h;refine⟨(m.mono lw).trans a,?_⟩
 cases r with
 |none=>exact b
 |some cs =>obtain⟨u,e,c,f⟩:=b;exact⟨u,e,c,fun n j=>(f n j).imp id fun h=>zC7 m.next h⟩
def Fj.two{H Y:aa}{v:gt}{l:List UInt8}{r:Option (List UInt8)}{out:Out}(h:Fj H v l r out Y):∃ a z,out=.ok (.tuple #[a,kw z]):=by
 obtain⟨a,b⟩:=h
 cases r with
 |none=>obtain⟨x,e,_⟩:=b; exact⟨x,gc,e⟩
 |some cs=>obtain⟨u,e,_⟩:=b; exact⟨u,bv,e⟩
def Px(H:aa):Prop:=2<H.next/\Go.Proofs.YtpohjcacnkhnkaaGreatDoor.KE H/\Pow H
def Px.mod{H G:aa}{W:List Nat}(t:Px H)(m:Mod W H G)(h:∀ n∈W,2<n):Px G :=
 ⟨zD1 t.1 m.next,t.2.1.of (m.get 0 (by have:=t.1; omega) fun a=>by have:=h _ a; omega) (m.get 1 (by have:=t.1; omega) fun a=>by have:=h _ a; omega),t.2.2.mod m fun a=>by have:=h _ a; omega⟩
def K5(H:aa)(t:Px H)(v:gt)(l:List UInt8)(o:zB)(hv:cK H 5 1 v (aq l) l.length)(hl:l.length<=300000000)(hs:o.kind=3->o.text.size<=1000000000)(h2:∀ n∈ae v,2<n)(U:H.base<=H.next) :
  aL Tryz.prog 24 [v,o.val] H (Fj H v l (l8 o)):=by
 obtain⟨b,A⟩:=ac H.next;obtain⟨c,e,j,n,look,k⟩:=o;refine aH mixed Tryz.func24 rfl Tryz.ntmps24 (zA8 rfl) ?_;have mE:∀ L,Mod (ae v) H (ext H L):=fun L=>Mod.ext U;unfold l8 Op.val Op.cells;simp only;obtain⟨O,hO⟩:=ac ([Value.int i8 c,i7 i8 e,i7 i8 j,i7 i8 n,i7 i8 look.fore,i7 i8 look.back,kw look.bold,kw look.under,kw look.inv,.string k]);obtain⟨C,V⟩:=ac (ext H [⟨58,gc,O⟩]);have F:Mod [] H C:=V▸Mod.ext U;have n0:C.next=b+1:=by rw[<-V,aA,A]; rfl
 have J:cK C 5 1 v (aq l) l.length:=hv.of F.next fun q hq=>F.get q (hv.ne q hq).2 lw;have t0:=t.mod F lw;have m:=F.ok U;have D:2∉ae v:=fun h=>by have:=h2 _ h; omega
 have K:ext H [⟨58,gc,[Value.int i8 c,i7 i8 e,i7 i8 j,i7 i8 n,i7 i8 look.fore,i7 i8 look.back,kw look.bold,kw look.under,kw look.inv,.string k]⟩]=C:=by rw[hO]; exact V
 -- what a call answers is passed on
 have w:∀ {r:Option (List UInt8)} {out:Out} {Y:aa},Fj C v l r out Y->∃ a z,out=.ok (.tuple #[a,kw z])/\Fj H v l r (.ok (.tuple #[a,kw z])) Y:=fun h=>by obtain⟨a,z,rfl⟩:=h.two;exact⟨a,z,rfl,Fj.trans F h⟩
 by_cases k1:c=1
 .have B:ge (c=1)=true:=decide_eq_true k1;rw[if_pos k1];by_cases c1:min e j<0
  .have e1:ge (min e j<0)=true:=decide_eq_true c1;rw[if_neg li];simp only[A,B,e1,Tryz.results24,zW,seval];exact⟨mE _,_,rfl,rfl⟩
  have e1:ge (min e j<0)=false:=decide_eq_false c1;by_cases c2:9998<max e j
  .have e2:ge (9998<max e j)=true:=decide_eq_true c2;rw[if_neg li];simp only[A,B,e1,e2,Tryz.results24,zW,seval];exact⟨mE _,_,rfl,rfl⟩
  have e2:ge (9998<max e j)=false:=decide_eq_false c2;rw[if_pos li];have w3:IntKind.i64.wrap (e+1)=e+1:=by rw[IntKind.wrap_i64]; omega
  have w4:IntKind.i64.wrap (j+1)=j+1:=by rw[IntKind.wrap_i64]; omega
  have e3:(((e.toNat+1:Nat)):Int)=e+1:=by omega
  have e4:(((j.toNat+1:Nat)):Int)=j+1:=by omega
  simp only[A,B,e1,e2,w3,w4,zW,seval];have hXL:ext H [⟨58,gc,[Value.int i8 c,i7 i8 e,i7 i8 j,i7 i8 n,i7 i8 look.fore,i7 i8 look.back,kw look.bold,kw look.under,kw look.inv,.string k]⟩,⟨3,gc,[i7 i8 (e+1),i7 i8 (j+1)]⟩]=ext C [⟨3,gc,[i7 i8 (e+1),i7 i8 (j+1)]⟩]:=by rw[<-K,kB]; rfl
  rw[hXL];refine (HN (ns:=[e.toNat+1,j.toNat+1]) (f:=72) t0.2.2 J li (by simp only[nV,zB9,zE6,e3,e4]) rfl (Nat.succ_pos 1) rfl (by simp only[zA9,zF2,or_false]; rintro q (rfl|rfl)<;>omega) lw D n0 m).mono ?_;rintro out Y ⟨mY,u,rfl,u1,u2⟩;rw[show Y=ext Y [] from rfl];simp only[Tryz.results24,zW,seval];exact Fj.trans F ⟨mY,u,rfl,u1,u2⟩
 have B:ge (c=1)=false:=decide_eq_false k1;rw[if_neg k1];by_cases k2:c=2
 .have I:ge (c=2)=true:=decide_eq_true k2;rw[if_pos k2];simp only[A,B,I,zW,seval];rw[K];refine (QV C t0.2.2 v l look J li D m).mono ?_;intro out Y h;obtain⟨a,z,rfl,h'⟩:=w h;rw[show Y=ext Y [] from rfl];simp only[Tryz.results24,zW,seval];exact h'
 have I:ge (c=2)=false:=decide_eq_false k2;rw[if_neg k2];by_cases k3:c=3
 .have R:ge (c=3)=true:=decide_eq_true k3;rw[if_pos k3];simp only[A,B,I,R,zW,seval];rw[K];refine (Qi C t0.2.1 (by have:=t0.1; omega) v l k J li (hs k3) h2 m).mono ?_;intro out Y h;obtain⟨a,z,rfl,h'⟩:=w h;rw[show Y=ext Y [] from rfl];simp only[Tryz.results24,zW,seval];exact h'
 have R:ge (c=3)=false:=decide_eq_false k3;rw[if_neg k3];by_cases k4:c=4
 .have d4:ge (c=4)=true:=decide_eq_true k4;rw[if_pos k4];simp only[A,B,I,R,d4,zW,seval];rw[K];refine (PJ (X:=C) (f:=75) t0.2.2 J li rfl D m).mono ?_;rintro out Y ⟨mY,u,rfl,u1,u2⟩;rw[show Y=ext Y [] from rfl];simp only[Tryz.results24,zW,seval];exact Fj.trans F ⟨mY,u,rfl,u1,u2⟩
 have d4:ge (c=4)=false:=decide_eq_false k4;rw[if_neg k4];by_cases k5:c=5
 .have S:ge (c=5)=true:=decide_eq_true k5;rw[if_pos (.inl k5),S];simp only[A,B,I,R,d4,S,zW,seval];rw[K];refine (EX C t0.2.2 v l ⟨c,e,j,n,look,k⟩ bv J hl D m).mono ?_;intro out Y h;obtain⟨a,z,rfl,h'⟩:=w h;rw[show Y=ext Y [] from rfl];simp only[Tryz.results24,zW,seval];exact h'
 have S:ge (c=5)=false:=decide_eq_false k5;by_cases k6:c=6
 .have d6:ge (c=6)=true:=decide_eq_true k6;rw[if_pos (.inr k6),S];simp only[A,B,I,R,d4,S,d6,zW,seval];rw[K];refine (EX C t0.2.2 v l ⟨c,e,j,n,look,k⟩ gc J hl D m).mono ?_;intro out Y h;obtain⟨a,z,rfl,h'⟩:=w h;rw[show Y=ext Y [] from rfl];simp only[Tryz.results24,zW,seval];exact h'
 have d6:ge (c=6)=false:=decide_eq_false k6;rw[if_neg li];by_cases k7:c=7
 .have d7:ge (c=7)=true:=decide_eq_true k7;rw[if_pos k7];obtain⟨u,G,g1,g2,g3,g4⟩:=wk (s:=⟨#[27,91,63,50,53,104]⟩) J li mt m;simp only[A,B,I,R,d4,S,d6,d7,zW,seval];rw[K,g1,show G=ext G [] from rfl];simp only[Tryz.results24,zW,seval];exact Fj.trans F ⟨g3,u,rfl,g2,g4⟩
 have d7:ge (c=7)=false:=decide_eq_false k7;rw[if_neg k7];by_cases k8:c=8
 .have d8:ge (c=8)=true:=decide_eq_true k8;rw[if_pos k8];obtain⟨u,G,g1,g2,g3,g4⟩:=wk (s:=⟨#[27,91,63,50,53,108]⟩) J li mt m;simp only[A,B,I,R,d4,S,d6,d7,d8,zW,seval];rw[K,g1,show G=ext G [] from rfl];simp only[Tryz.results24,zW,seval];exact Fj.trans F ⟨g3,u,rfl,g2,g4⟩
 have d8:ge (c=8)=false:=decide_eq_false k8;rw[if_neg k8];simp only[A,B,I,R,d4,S,d6,d7,d8,Tryz.results24,zW,seval];exact⟨mE _,_,rfl,rfl⟩
set_option maxRecDepth 100000
def uZ(o:zB):∀ l:List zB,dM (l++[o])=(dM l).bind fun b=>(l8 o).map (b++·)
 |[]=>by have c:dM []=ap []:=rfl;rw[zD0,c,dM,c];cases l8 o<;>simp
 |a::l=>by
  rw[zG1,dM,uZ o l,dM]
  cases l8 a with
  |none=>rfl
  |some x =>
   cases dM l with
   |none=>rfl
   |some y =>cases l8 o<;>simp
def rf{o:zB}(h:l8 o=bi):∀ {l:List zB},o∈l->dM l=bi
 |a::l,hm=>by
  rw[dM];rcases zA9.1 hm with rfl|hm
  .rw[h]
  .rw[rf h hm];cases l8 a<;>rfl
def ug{o:zB}{l:List zB}{k:Nat}(h:l[k]?=ap o):dM (l.take (k+1))=(dM (l.take k)).bind fun b=>(l8 o).map (b++·):=by rw[List.take_add_one,h,Option.toList_some,uZ]
def RQ(H:aa)(r:Option (List UInt8))(out:Out)(X:aa):Prop :=
 Mod [] H X/\match r with
  |some cs=>∃ u,out=.ok (.tuple #[u,i7 i8 0])/\cK X 5 1 u (aq cs) cs.length/\∀ n∈ae u,H.next<=n
  |none=>out=.ok (.tuple #[jp bi 0 0,i7 i8 5])
def N2(H:aa)(t:Px H)(v:gt)(l:List zB)(hv:lz H v l)(hl:l.length<=7500)(hB:∀ k b,dM (l.take k)=ap b->b.length<=300000000)(hs:∀ o∈l,o.kind=3->o.text.size<=1000000000)(hsc:aV H.next v=bv)(r:H.base<=H.next) :
  aL Tryz.prog 7 [v] H (RQ H (dM l)):=by
 obtain⟨va,vc,ev⟩:=hv.sl;refine aH mixed Tryz.func7 rfl Tryz.ntmps7 (zA8 rfl) ?_;rw[ev];simp only[zW,seval];rw[<-ev];refine c7 fun E K=>?_;have D:E 8=v:=by rw[K]; rfl
 have F:E 9=i7 i8 (l.length:Int):=by rw[K]; rfl
 have a:E 10=i7 i8 ((0:Nat):Int):=by rw[K]; rfl
 have I:E 4=jp bi 0 0:=by rw[K]; rfl
 clear K;refine b8 (fun (q:Nat × List UInt8 × gt) E' X=>q.1<=l.length/\Mod [] H X/\dM (l.take q.1)=ap q.2.1/\cK X 5 1 q.2.2 (aq q.2.1) q.2.1.length/\(∀ n∈ae q.2.2,H.next<=n)/\E' 4=q.2.2/\E' 8=v/\E' 9=i7 i8 (l.length:Int)/\E' 10=i7 i8 (q.1:Int)) (fun q=>l.length-q.1) (0,[],jp bi 0 0) ⟨zB7 _,Mod.refl,rfl,cK.nil,fun n hn=>by simp[ae]at hn,I,D,F,a⟩ ?_;clear I D F a E;rintro⟨i,O,u⟩ E X ⟨hi,J,f,vX,R,I,D,F,a⟩;simp only at hi f vX R I a;have S:=J.ok r;obtain⟨y,hy⟩:=ac X.next;have yb:X.base<=y:=hy▸S;have hnx:=J.next;have hbl:=hB i O f;have hvX:lz X v l:=hv.of J.next fun n hn=>J.get n (dQ _ hsc n hn) lw;rw[show X=ext X [] from rfl];by_cases j:i<l.length
 .have hd:ge ((i:Int)<(l.length:Int))=true:=decide_eq_true li
  obtain⟨o,A⟩:∃ o,l[i]?=ap o:=⟨_,zB3 j⟩
  have U:=zC0 A
  rcases hvX with⟨V,_⟩|⟨_,n,off,s,c,e,op,L,e1,r1,n1,hle,hL⟩
  .rw[V]at j; simp at j
  have i1:=Pw (cap:=c) (n:=n) (off:=off) (s:=s) (i:=(i:Int)) rfl j;have l1:=I1 (e:=e) (o:=op) A hle hL;rw[hy]at n1;rw[e1]at D;have hw1:IntKind.i64.wrap ((i:Int)+1)=((i+1:Nat):Int):=by rw[IntKind.wrap_i64]; omega
  unfold Op.val Op.cells at l1;simp only[I,D,F,a,hy,yb,hd,i1,n1,r1,l1,gE,zW,seval];obtain⟨X1,hX1⟩:=ac (ext X [⟨58,gc,[Value.int i8 o.kind,i7 i8 o.row,i7 i8 o.col,i7 i8 o.n,i7 i8 o.look.fore,i7 i8 o.look.back,kw o.look.bold,kw o.look.under,kw o.look.inv,.string o.text]⟩]);have m1:Mod [] X X1:=hX1▸Mod.ext S;have m:=J.trans m1;have vX1:cK X1 5 1 u (aq O) O.length:=vX.of m1.next fun q B=>m1.get q (vX.ne q B).2 lw;have t2:=t.1;rw[hX1];refine (K5 X1 (t.mod m lw) u O o vX1 li (hs o U) (fun q B=>by have:=R q B; omega) (m.ok r)).mono ?_;intro out Y h;obtain⟨mY,h⟩:=h;have mHY:Mod [] H Y:=m.step mY r fun q B=>.inr (R q B);have C:=ug A;rw[f,zA4]at C
  cases he:l8 o with
  |none =>rw[he]at h;obtain⟨x,rfl,hx⟩:=h;rw[show Y=ext Y [] from rfl];simp only[Tryz.results7,zW,seval];rw[rf he U];exact⟨mHY,rfl⟩
  |some cs =>rw[he]at h C;obtain⟨w,rfl,w1,w2⟩:=h;rw[show Y=ext Y [] from rfl];simp only[a,hw1,zW,seval];refine aC ⟨(i+1,O++cs,w),by simp only; omega,by simp only; omega,mHY,C,w1,fun q B=>(w2 q B).elim (R q) fun h=>zC7 m.next h,by simp only[aE,seval],by simp only[D,e1,aE,seval],by simp only[F,aE,seval],by simp only[aE]⟩
 .have hd:ge ((i:Int)<(l.length:Int))=false:=decide_eq_false li;simp only[I,F,a,hd,Tryz.results7,zW,seval];rw[zC3 li]at f;rw[f];exact⟨J,u,rfl,vX,R⟩
set_option maxRecDepth 100000
def M9(H:aa)(v:gt)(l:List zB)(hv:lz H v l)(hl:l.length<=7500)(hB:∀ k b,dM (l.take k)=ap b->b.length<=300000000)(hs:∀ o∈l,o.text.data.toList.length<=2000000)(hsc:aV H.next v=bv)(I:H.base<=H.next) :
  aL Tryz.prog 8 [v] H (RQ H (dM l)):=by
 obtain⟨va,vc,ev⟩:=hv.sl;refine aH mixed Tryz.func8 rfl Tryz.ntmps8 (zA8 rfl) ?_;simp only[zW,seval];refine c7 fun E hE=>?_;have j:E 0=v:=by rw[hE]; rfl
 have B:E 5=i7 i8 ((0:Nat):Int):=by rw[hE]; rfl
 have C:E 4=jp bi 0 0:=by rw[hE]; rfl
 clear hE;refine bn (fun K X=>Mod [] H X/\∃ f,dM l=ap f/\cK X 5 1 (K 4) (aq f) f.length/\∀ n∈ae (K 4),H.next<=n) ?_ ?_
 .refine b8 (fun (q:Nat × List UInt8 × gt) K X=>q.1<=l.length/\Mod [] H X/\dM (l.take q.1)=ap q.2.1/\cK X 5 1 q.2.2 (aq q.2.1) q.2.1.length/\(∀ n∈ae q.2.2,H.next<=n)/\K 0=v/\K 4=q.2.2/\K 5=i7 i8 (q.1:Int)) (fun q=>l.length-q.1) (0,[],jp bi 0 0) ⟨zB7 _,Mod.refl,rfl,cK.nil,fun n hn=>by simp[ae]at hn,j,C,B⟩ ?_;clear j C B E;rintro⟨i,f,u⟩ E X ⟨hi,D,a,O,R,j,C,B⟩;simp only at hi a O R C B;have S:=D.ok I;obtain⟨y,hy⟩:=ac X.next;have yb:X.base<=y:=hy▸S;have hnx:=D.next;have hbl:=hB i f a;have hvX:lz X v l:=hv.of D.next fun n hn=>D.get n (dQ _ hsc n hn) lw;rw[show X=ext X [] from rfl];by_cases m:i<l.length
  .have hd:ge ((i:Int)<(l.length:Int))=true:=decide_eq_true li
   obtain⟨o,J⟩:∃ o,l[i]?=ap o:=⟨_,zB3 m⟩
   have U:=zC0 J
   rcases hvX with⟨V,_⟩|⟨_,n,off,s,c,e,op,L,e1,r1,n1,hle,hL⟩
   .rw[V]at m; simp at m
   have i1:=Pw (cap:=c) (n:=n) (off:=off) (s:=s) (i:=(i:Int)) rfl m;have l1:=I1 (e:=e) (o:=op) J hle hL;rw[hy]at n1;rw[e1]at j;have hw1:IntKind.i64.wrap ((i:Int)+1)=((i+1:Nat):Int):=by rw[IntKind.wrap_i64]; omega
   have F:=FP X o (fun _=>hs o U) S;unfold Op.val Op.cells at l1 F;simp only[j,B,hy,hd,i1,n1,r1,l1,gE,zW,seval];refine aL.mono (show aL Tryz.prog 25 _ (ext X []) _ from F) ?_;intro out Y h;obtain⟨mY,h⟩:=h;have r:Mod [] H Y:=D.trans mY;have A:=ug J;rw[a,zA4]at A
   cases he:l8 o with
   |none =>rw[he]at h;obtain⟨x,rfl⟩:=h;rw[show Y=ext Y [] from rfl];simp only[da,Tryz.results8,zW,seval];rw[rf he U];exact⟨r,rfl⟩
   |some cs =>rw[he]at h A;obtain⟨s,hs1,rfl⟩:=h;have okY:=r.ok I;have vY:cK Y 5 1 u (aq f) f.length:=O.of mY.next fun q hq=>mY.get q (O.ne q hq).2 lw;have hcl:=hB (i+1) _ A;rw[zB2]at hcl;obtain⟨w,G,a1,a2,a3,a4⟩:=wk (s:=s) vY li (by rw[jA,hs1]; omega) okY;rw[hs1]at a2;rw[show Y=ext Y [] from rfl];simp only[C,zW,seval];rw[show ext Y []=Y from rfl,a1];rw[show G=ext G [] from rfl];simp only[B,hw1,zW,seval];have mHG:Mod [] H G:=r.step a3 I fun q hq=>.inr (R q hq);refine aC ⟨(i+1,f++cs,w),by simp only; omega,by simp only; omega,mHG,A,a2,fun q hq=>(a4 q hq).elim (R q) fun h=>zC7 r.next h,by simp only[j,e1,aE,seval],by simp only[aE,seval],by simp only[aE]⟩
  .have hd:ge ((i:Int)<(l.length:Int))=false:=decide_eq_false li;rw[ev]at j;simp only[j,B,hd,zW,seval];rw[zC3 li]at a;refine ah ⟨D,f,a,?_,?_⟩
   .simp only[C,aE,seval]; exact O
   .simp only[C,aE,seval]; exact R
 clear j C B E;rintro E X ⟨D,f,a,O,R⟩;rw[show X=ext X [] from rfl];simp only[Tryz.results8,zW,seval];rw[a];exact⟨D,_,rfl,O,R⟩
structure Rq where
 t:Nat
 rb:Nat
 rs:List (Nat × Bool)
 rv:gt
def bF(p:Rq)(x:Tm):List Value:=[jp (ap ⟨p.rb,0,bi⟩) x.h x.h,
 i7 i8 x.row,i7 i8 x.col,i7 i8 x.pen.fore,i7 i8 x.pen.back,kw x.pen.bold,kw x.pen.under,kw x.pen.inv,
 i7 i8 x.srow,i7 i8 x.scol,i7 i8 x.spen.fore,i7 i8 x.spen.back,kw x.spen.bold,kw x.spen.under,kw x.spen.inv,
 .bool x.shown,i7 i8 x.top,i7 i8 x.bottom,p.rv]
def Rq.au(p:Rq):List Nat:=p.t::p.rb::p.rs.map (·.1)
structure cL (H:aa) (p:Rq) (x:Tm):Prop where
 cell:bk H p.t=ap ⟨71,gc,bF p x⟩
 rows:bk H p.rb=ap ⟨56,bv,p.rs.map (aM x.w)⟩
 len:p.rs.length=x.h
 row:∀(i:Nat)(q:Nat × Bool)(l:List Ce),p.rs[i]?=ap q->x.grid[i]?=ap l->bk H q.1=ap ⟨77,q.2,aQ l⟩
 nd:p.au.Nodup
 lt:∀ n∈p.au,n<H.next
structure eZ (H:aa) (p:Rq) (H1:aa) (p1:Rq) (y:Tm):Prop where
 at_:cL H1 p1 y
 mod:Mod p.au H H1
 same:p1.t=p.t
 rest:p1.rv=p.rv
 new:∀ n∈p1.au,n∈p.au\/H.next<=n
def zt(f:FuncId)(args:List gt)(H:aa)(p:Rq)(v:gt)(y:Tm):Prop :=
 aL Tryz.prog f (i9 (ap ⟨p.t,0,bi⟩)::args) H fun out H1=>out=.ok v/\∃ p1,eZ H p H1 p1 y
section
variable{H G H1 H2:aa}{p p1 p2:Rq}{x y z:Tm}
def cL.of(g:cL H p x)(e:H.next<=G.next)(a:∀ n∈p.au,G.get n=H.get n):cL G p x where
 cell:=(aO (a _ pi)).trans g.cell
 rows:=(aO (a _ pi)).trans g.rows
 len:=g.len
 row:=fun i q l c f=>(aO (a _ (by simp only[Rq.au,zA9,zB6]; exact .inr (.inr ⟨q,zC0 c,rfl⟩)))).trans (g.row i q l c f)
 nd:=g.nd
 lt:=fun n b=>zD1 (g.lt n b) e
def cL.rowOf(g:cL H p x){i:Nat}{l:List Ce}(h:x.grid[i]?=ap l):∃ q,p.rs[i]?=ap q/\q.1∈p.au/\bk H q.1=ap ⟨77,q.2,aQ l⟩:=by
 have a:i<p.rs.length:=by rw[g.len];exact (zE0.1 h).1
 exact⟨p.rs[i],zB3 a,by simp only[Rq.au,zA9,zB6]; exact .inr (.inr ⟨p.rs[i],List.getElem_mem _,rfl⟩),g.row i _ l (zB3 a) h⟩
def cL.ne(g:cL H p x):∀ n∈p.au,H.get n≠none:=by
 intro n b;simp only[Rq.au,zA9,zB6]at b
 rcases b with rfl|rfl|⟨q,c,rfl⟩
 .exact fI g.cell
 .exact fI g.rows
 .obtain⟨i,hi,rfl⟩:=List.mem_iff_getElem.1 c;have a:i<x.grid.length:=by rw[show x.grid.length=x.h from rfl,<-g.len]; exact hi
  exact fI (g.row i _ _ (zB3 hi) (zB3 a))
def eZ.refl(g:cL H p x):eZ H p H p x:=⟨g,Mod.refl,rfl,rfl,fun _ h=>.inl h⟩
def eZ.ok(s:eZ H p H1 p1 y)(a:H.base<=H.next):H1.base<=H1.next:=s.mod.ok a
def eZ.trans(c:H.base<=H.next)(a:eZ H p H1 p1 y)(b:eZ H1 p1 H2 p2 z):eZ H p H2 p2 z where
 at_:=b.at_
 mod:=a.mod.step b.mod c a.new
 same:=b.same.trans a.same
 rest:=b.rest.trans a.rest
 new:=fun n e=>(b.new n e).elim (a.new n) fun h=>.inr (zC7 a.mod.next h)
def eZ.quiet(g:cL H p x)(m:Mod [] H H1):eZ H p H1 p x :=
 ⟨g.of m.next fun n a=>m.get n (g.lt n a) lw,m.mono lw,rfl,rfl,fun _ h=>.inl h⟩
def cL.uN(g:cL H p x){k:Nat}{q:Nat × Bool}(f:p.rs[k]?=ap q):q.1∈p.au/\q.1≠p.t/\q.1≠p.rb:=by have c:q.1∈p.rs.map (·.1):=zB6.2 ⟨q,zC0 f,rfl⟩;have a:=zB8.1 g.nd;have b:=zB8.1 a.2;refine⟨by simp only[Rq.au,zA9]; exact .inr (.inr c),fun e=>a.1 (e▸zC4 _ c),fun e=>b.1 (e▸c)⟩
def cL.RU(g:cL H p x):p.t≠p.rb:=fun e=>(zB8.1 g.nd).1 (e▸zD7)
def cL.put(g:cL H p x)(m:Mod [p.t] H H1)(h:bk H1 p.t=ap ⟨71,gc,bF p y⟩)(c:y.grid=x.grid):eZ H p H1 p y:=by
 have f:p.t∉p.rb::p.rs.map (·.1):=(zB8.1 g.nd).1;have a:∀ n∈p.rb::p.rs.map (·.1),H1.get n=H.get n:=fun n b=>m.get n (g.lt n (zC4 _ b)) (fun e=>f (by simp only[zA6]at e; exact e▸b));refine⟨⟨h,?_,?_,?_,g.nd,fun n b=>m.lt (g.lt n b)⟩,m.mono (by intro n b; simp only[zA6]at b; subst b; simp[Rq.au]),rfl,rfl,fun _ h=>.inl h⟩
 .rw[aO (a _ lw),g.rows,Tm.w,Tm.w,c]
 .rw[g.len,Tm.h,Tm.h,c]
 .intro i q l j k;rw[c]at k;rw[aO (a _ (zC4 _ (zB6.2 ⟨q,zC0 j,rfl⟩)))];exact g.row i q l j k
def cL.one(g:cL H p x){off:Nat}{vs:List gt}(h:cQ (bF p x) off vs=bF p y)(a:y.grid=x.grid):eZ H p (Go.Ax.ext (uw H p.t off vs) []) p y :=
 g.put (Mod.uw lw) (by rw[ext_nil,bR,g.cell]; exact congrArg (fun l=>ap (Bl.mk 71 gc l)) h) a
def cL.two(g:cL H p x){off off2:Nat}{vs vs2:List gt}(h:cQ (cQ (bF p x) off vs) off2 vs2=bF p y)(a:y.grid=x.grid):eZ H p (Go.Ax.ext (uw (uw H p.t off vs) p.t off2 vs2) []) p y :=
 g.put ((Mod.uw lw).trans (Mod.uw lw)) (by rw[ext_nil,bR,bR,g.cell]; exact congrArg (fun l=>ap (Bl.mk 71 gc l)) h) a
def cL.putRow(g:cL H p x){k:Nat}{q:Nat × Bool}{l l':List Ce}(C:p.rs[k]?=ap q)(D:x.grid[k]?=ap l)(m:Mod [q.1] H H1)(h:bk H1 q.1=ap ⟨77,q.2,aQ l'⟩)(A:l'.length=l.length):eZ H p H1 p {x with grid:=x.grid.set k l'}:=by
 obtain⟨R,S,U⟩:=g.uN C;have c:∀ n,n<H.next->n≠q.1->H1.get n=H.get n:=fun n s dK=>m.get n s (by simp only[zA6]; exact dK);have F:k<x.grid.length:=(zE0.1 D).1
 have V:Tm.w {x with grid:=x.grid.set k l'}=x.w:=by
  simp only[Tm.w]
  cases J:x.grid with
  |nil=>rw[J]at F; simp at F
  |cons a r =>
   cases k with
   |zero =>rw[J]at D;simp only[zF3,i5]at D;subst D;simp[A]
   |succ k=>simp
 have K:Tm.h {x with grid:=x.grid.set k l'}=x.h:=by simp[Tm.h]
 have j:=g.lt;have B:(p.rs.map (·.1)).Nodup:=(zB8.1 (zB8.1 g.nd).2).2;refine⟨⟨?_,?_,by rw[g.len,K],?_,g.nd,fun n s=>m.lt (g.lt n s)⟩,m.mono (by intro n s; simp only[zA6]at s; subst s; exact R),rfl,rfl,fun _ h=>.inl h⟩
 .rw[aO (c _ (j _ pi) S.symm),g.cell];simp only[bF,K]
 .rw[aO (c _ (j _ pi) U.symm),g.rows,V]
 .intro i O l2 b f;simp only[zF4]at f;by_cases o:k=i
  .subst o;rw[C]at b;cases b;rw[if_pos rfl,if_pos F]at f;cases f;exact h
  .rw[if_neg o]at f
   have dK:O.1≠q.1:=fun e=>o (by
    have hi:=(zE0.1 b).1;have I:=(zE0.1 C).1;refine ((List.getElem_inj (xs:=p.rs.map (·.1)) (h₀:=by simpa using I) (h₁:=by simpa using hi) B).1 ?_);simp only[List.getElem_map]
    rw[(zE0.1 b).2,(zE0.1 C).2,e])
   rw[aO (c _ (j _ (g.uN b).1) dK)];exact g.row i O l2 b f
def eZ.merge{g:aa}{F:List Nat}(s:eZ (H.restrict F) p g p1 y)(m:Mod p.au H H1)(c:∀ n∈p.au,H1.get n=g.get n)(e:∀ n,H.next<=n->n<g.next->H1.get n=g.get n)(f:H1.next=g.next):eZ H p H1 p1 y:=by
 have j:=aI H F;have b:∀ n∈p1.au,n∈p.au\/H.next<=n:=fun n a=>(s.new n a).imp id (fun h=>by rw[j.1]at h; exact h);refine⟨s.at_.of (by rw[f]; exact zA5 _) fun n a=>?_,m,s.same,s.rest,b⟩;rcases b n a with h|h
 .exact c n h
 .exact e n h (s.at_.lt n a)
end
section
variable{N:Nat}{E:Env}{ds:List Deferred}{ops:Array Oper}{anc:List Nat}{d:Nat}{ty:ii}{pos:String}{after:Array Edge}{i:Nat}{fps:List Fp}{Q:ai -> aa -> Prop}{H:aa}
def fm{f:FuncId}{args:List i4}{ts:Array ii}{v:gt}{as':List gt}{p:Rq}{x y:Tm}(g:cL H p x)(ok:H.base<=H.next)(j:args.all (bd Tryz.prog N)=bv)(k:aB Tryz.prog f=bv)(o:d<N)
  (a:args.map (bX E)=i9 (ap ⟨p.t,0,bi⟩)::as')
  (c:∀ r∈fps,(anc.getD i 0).testBit r.i=bv\/(r.hi<=r.lo/\(∀ n∈r.W,n∉p.au)/\(∀ n∈r.F,n∉p.au)))
  (s:∀ G,cL G p x->G.base<=G.next->zt f as' G p v y) (h:∀ e p1,eZ H p e p1 y->Q (bj N (cy E d v) ds) e) :
  mh Tryz.prog ops anc ⟨ap d,.call ⟨.value (.func f),⟨args⟩,ts⟩,ty,pos,after,bi⟩ [] i fps (bj N E ds) H Q:=by
 have b:=aI H p.au;obtain⟨_,w,A,rfl,p1,st⟩:=s (H.restrict p.au) (g.of (by rw[b.1]; exact zA5 _) fun m c=>by rw[bf,if_pos c]) (by rw[b.1,b.2.1]; exact zA5 _);refine jH (W:=p.au) p.au ok j k g.ne g.lt (fun _ h=>h) (v:=v) (g:=w) (by rw[a]; exact A) st.mod c ?_;intro H1 D B C I hx _;rw[zc,cW N E ds d v o];exact h H1 p1 (eZ.merge st B C I hx)
def Gz{f:FuncId}{args:List i4}{ts:Array ii}{v:gt}{as':List gt}{p:Rq}{x y:Tm}(F:List Nat)(k:∀ n∈F,H.get n≠bi/\n<H.next)(g:cL H p x)(ok:H.base<=H.next)(w:args.all (bd Tryz.prog N)=bv)(A:aB Tryz.prog f=bv)(B:d<N)
  (b:args.map (bX E)=i9 (ap ⟨p.t,0,bi⟩)::as')
  (e:∀ r∈fps,(anc.getD i 0).testBit r.i=bv\/(r.hi<=r.lo/\(∀ n∈r.W,n∉p.au++F)/\(∀ n∈r.F,n∉p.au)))
  (C:∀ G,cL G p x->G.base<=G.next->G.next=H.next->(∀ n∈F,G.get n=H.get n)->zt f as' G p v y) (h:∀ o p1,eZ H p o p1 y->Q (bj N (cy E d v) ds) o) :
  mh Tryz.prog ops anc ⟨ap d,.call ⟨.value (.func f),⟨args⟩,ts⟩,ty,pos,after,bi⟩ [] i fps (bj N E ds) H Q:=by
 have a:=aI H (p.au++F);have s:∀ n∈p.au++F,(H.restrict (p.au++F)).get n=H.get n:=fun n c=>by rw[bf,if_pos c]
 obtain⟨_,I,J,rfl,p1,st⟩:=C (H.restrict (p.au++F)) (g.of (by rw[a.1]; exact zA5 _) fun m e=>s m (List.mem_append_left _ e)) (by rw[a.1,a.2.1]; exact zA5 _) a.1 fun m e=>s m (List.mem_append_right _ e);refine jH (W:=p.au) (p.au++F) ok w A (fun n c=>(zB4.1 c).elim (g.ne n) fun h=>(k n h).1) (fun n c=>(zB4.1 c).elim (g.lt n) fun h=>(k n h).2) (fun _ h=>List.mem_append_left _ h) (v:=v) (g:=I) (by rw[b]; exact J) st.mod e ?_;intro H1 D K j O hx _;rw[zc,cW N E ds d v B];exact h H1 p1 (eZ.merge st K (fun n c=>j n (List.mem_append_left _ c)) O hx)
end
def cL.first{H:aa}{p:Rq}{x:Tm}(g:cL H p x)(s:x.Sz):∃ q,p.rs[0]?=ap q/\(p.rs.map (aM x.w))[0]?=ap (aM x.w q):=by obtain⟨q,a,_⟩:=g.rowOf s.head;exact⟨q,a,by rw[zE1,a]; rfl⟩
def jk(H:aa)(p:Rq)(x:Tm)(g:cL H p x)(s:x.Sz):Pure 72 [i9 (ap ⟨p.t,0,bi⟩)] H (i7 i8 (x.w:Int)):=by obtain⟨b,a⟩:=ac H.next;have e:p.t<b:=a▸g.lt p.t pi;have f:p.rb<b:=a▸g.lt p.rb pi;have c:=g.cell;simp only[bF]at c;have j:=g.rows;obtain⟨q,_,m⟩:=g.first s;have hi:=eP (len:=x.h) (cap:=x.h) (n:=p.rb) (s:=bi) (i:=0) (k:=0) rfl s.h1;refine ba mixed Tryz.func72 rfl Tryz.ntmps72 (zA8 rfl) fun wf o=>?_;simp only[a,e,f,c,j,hi,m,aM,Tryz.results72,zW,seval];exact Fin.pure rfl
def r9(H:aa)(p:Rq)(x:Tm)(g:cL H p x)(s:x.Sz):Pure 35 [i9 (ap ⟨p.t,0,bi⟩)] H (i7 i8 x.inside):=by
 obtain⟨b,a⟩:=ac H.next;have e:p.t<b:=a▸g.lt p.t pi;have c:=g.cell;simp only[bF]at c;have f:IntKind.i64.wrap ((x.w:Int)-1)=(x.w:Int)-1:=ak (by have:=s.w2; omega) (by have:=s.w2; omega);refine ba mixed Tryz.func35 rfl Tryz.ntmps35 (zA8 rfl) fun wf h=>?_;simp only[zW,seval];refine aK [] [] ls rfl rfl fun ops anc m n=>?_;simp only[a,e,c,bh,zW,seval];refine aN (v:=i7 i8 (x.w:Int)) p.au (by simp only[aE,seval]) ls mt g.ne (fun K j k=>?_) (by simp (maxDischargeDepth:=6) only[bh]) ?_
 .simp only[aE];exact jk K p x (g.of (by rw[j]; exact zA5 _) k) s
 simp only[a,f,Tryz.results35,bh,zW,seval];exact Fin.cq (by rw[pF]) rfl
def iV(H:aa)(p:Rq)(x:Tm)(r c:Int)(g:cL H p x)(s:x.Sz)(ok:H.base<=H.next):zt 94 [i7 i8 r,i7 i8 c] H p (.tuple #[]) (x.bp r c):=by
 obtain⟨b,a⟩:=ac H.next;have f:p.t<b:=a▸g.lt p.t pi;have e:=g.cell;simp only[bF]at e;have A:=s.h2;have s2:=s.w2;have k:IntKind.i64.wrap ((x.w:Int)-1)=(x.w:Int)-1:=ak li li;have m:IntKind.i64.wrap ((x.h:Int)-1)=(x.h:Int)-1:=ak li li;refine aH mixed Tryz.func94 rfl Tryz.ntmps94 (zA8 rfl) ?_;simp only[fq,seval];refine aK [(20,6),(20,13),(24,6),(24,13),(24,20)] [] ls ls rfl fun ops anc j B=>?_;simp only[aj]at j;simp only[a,f,e,bh,zW,seval];refine aN (v:=i7 i8 (x.w:Int)) p.au (by simp only[aE,seval]) ls mt g.ne (fun K n o=>?_) (by simp (maxDischargeDepth:=6) only[bh]) ?_
 .simp only[aE];exact jk K p x (g.of (by rw[n]; exact zA5 _) o) s
 simp only[a,f,e,j,k,m,Tryz.results94,bh,zW,seval];exact⟨p,g.two (y:=x.bp r c) rfl rfl⟩
end Go.Proofs.YtpohjcacnkhnkaaGreatDoor.Tq
namespace Go.Ax
section
variable{P:io}{ro:Option Nat}{H:aa}{N:Nat}{E:Env}{ds:List Deferred}
def OS{f:FuncId}{x:i4}{args:List i4}{ts:Array ii}{dst:Option Nat}{ops:Array Oper}{rest:List Oper}{ty:ii}{pos:String}{after:Array Edge}{Q:Exit->ai->aa->Prop}{fs ca:List gt}(hx:bd P N x=bv)(a:bX E x=.func (.func f) ⟨fs⟩ ⟨ca⟩)(b:args.all (bd P N)=bv)(c:aB P f=bv)
  (h:aL P f (fs++args.map (bX E)++ca) H (Kc P ro ops rest (bj N E ds) dst Q)) :
  wpOps P ro ops (⟨dst,.call ⟨.value x,⟨args⟩,ts⟩,ty,pos,after,bi⟩::rest) (bj N E ds) H Q:=by
 rw[zx rfl rfl];simp only[zQ,cj,lx,cT b,aD hx,a,zA1,zA4,qw,fF,jh,c,if_true,zB1,nT];exact h
end
end Go.Ax
namespace Go.Proofs.YtpohjcacnkhnkaaGreatDoor.Tq
open Go.Ax
def pW(H:aa)(v:gt)(l:List UInt8):Prop :=
 (∃ a,v=.slice a l.length l.length)/\∀(k:Nat)(c:UInt8),l[k]?=ap c->∃ n off,aS Tryz.prog 25 v (i7 i8 (k:Int))=ap (i9 (ap ⟨n,off,bi⟩))/\n∈ae v/\∀ q,rl Tryz.prog 5 off (CW (bk H n) q)=ap (gD c)
def pW.of{H G:aa}{v:gt}{l:List UInt8}(h:pW H v l)(b:∀ n∈ae v,G.get n=H.get n):pW G v l :=
 ⟨h.1,fun k c e=>by
  obtain⟨n,off,f,a,j⟩:=h.2 k c e
  exact⟨n,off,f,a,fun q=>by rw[aO (b n a)]; exact j q⟩⟩
def LM{H:aa}{n:Nat}{o:Bool}{sp:Option Nat}{l:List UInt8}(h:bk H n=ap ⟨5,o,aq l⟩):pW H (jp (ap ⟨n,0,sp⟩) l.length l.length) l :=
 ⟨⟨_,rfl⟩,fun k c a=>by
  have b:k<l.length:=by
   rcases zC2 k l.length with h'|h'
   .exact h'
   .rw[zC5 h']at a; cases a
  refine⟨n,0+k,CM rfl b,by simp[ae],fun q=>?_⟩;rw[h,gN,lL ls,zC6,ri,a]
  rfl⟩
def tk(X:aa)(s:ByteArray)(a:s.data.toList.length<=1000000000):bM Tryz.prog (ext X []) 9 25 (.string s)=ap (jp (ap ⟨X.next,0,bi⟩) s.data.toList.length s.data.toList.length,ext X [⟨5,bv,aq s.data.toList⟩]):=by
 have b:Tryz.prog.underlying 25=ap (.slice 5):=by kernel_rfl
 have c:Tryz.prog.underlying 9=ap .string:=by kernel_rfl
 have f:Tryz.prog.underlying 5=ap (.int .u8):=by kernel_rfl
 have h:bg Tryz.prog 5=ap 1:=by kernel_rfl
 have j:=et (H:=X) (L:=[]) (e:=5) (l:=aq s.data.toList) (o:=true) (p7 _ _);have k:s.size=s.data.toList.length:=by rw[Array.length_toList]; rfl
 simp only[bM,b,c,f,h,zA1,zA4,j,k];rw[if_pos (Nat.ble_eq_true_of_le a)];rfl
def Tm.byte(t:Tm)(c:UInt8):Tm × Nat:=match t.mode with
 |0=>t.plain cI c
 |1=>t.second c
 |2=>(t,0)
 |3=>t.parameter c
 |_=>t.ignore c
def Tm.fY(t:Tm)(m:Nat):Tm:={t with mode:=m}
def step_eq(t:Tm)(c:UInt8):t.step cI c=(t.byte c).1.fY (t.byte c).2:=by
 unfold Tm.step Tm.byte
 match t.mode with
 |0=>rfl
 |1=>rfl
 |2=>rfl
 |3=>rfl
 |_+4=>rfl
def Tm.Sz.fY{x:Tm}(s:x.Sz){m:Nat}(h:m<5):(x.fY m).Sz :=
 ⟨s.h1,s.h2,s.w1,s.w2,s.ws,s.r1,s.r2,s.c1,s.c2,s.sr1,s.sr2,s.sc1,s.sc2,s.t1,s.t2,s.t3,h,s.hd⟩
def DJ:∀(k:Nat)(x:Tm),x.Sz->(Tm.drain cI k x).1.Sz/\(Tm.drain cI k x).2<5/\(Tm.drain cI k x).1.params=x.params/\(Tm.drain cI k x).1.rest.length<=x.rest.length
 |0,x,s=>⟨s,by simp[Tm.drain],rfl,zA5 _⟩
 |k+1,x,s=>by
  rw[Tm.drain];by_cases h:x.rest≠[]/\cI.full x.rest=bv
  .rw[if_pos h];by_cases b:x.rest.headD 0=27
   .rw[if_pos b];exact⟨s.aR [],by simp,rfl,by simp⟩
   .rw[if_neg b]
    obtain⟨r,n,e⟩:∃ r n,cI.dec x.rest=(r,n):=⟨_,_,rfl⟩
    simp only[e];obtain⟨y,c⟩:=ac ((if r≠65533\/n>1 then x.character cI r else x));rw[c]
    have a:y.Sz/\y.params=x.params/\y.rest=x.rest:=by
     rw[<-c];split
     .exact⟨s.character r,(iG cI x r).2,(iG cI x r).1⟩
     .exact⟨s,rfl,rfl⟩
    obtain⟨f,j,m,o⟩:=DJ k (y.aR (y.rest.drop n)) (a.1.aR _);refine⟨f,j,m.trans a.2.1,zC7 o ?_⟩;simp only[Tm.aR,zC1,a.2.2];omega
  .rw[if_neg h];exact⟨s,by simp,rfl,zA5 _⟩
def ou(x:Tm)(l:List Int):(x.aU l).params=x.params/\(x.aU l).rest=x.rest:=by
 unfold Tm.aU;split
 .exact⟨rfl,rfl⟩
 .split
  .exact⟨rfl,rfl⟩
  .split<;>exact⟨rfl,rfl⟩
def rC(l:List Int):∀(k i:Nat)(x:Tm),(Tm.bL l i k x).params=x.params/\(Tm.bL l i k x).rest=x.rest
 |0,_,_=>⟨rfl,rfl⟩
 |k+1,i,x=>by rw[cV];obtain⟨a,b⟩:=rC l k (i+1) (x.bK l i);rw[a,b];unfold Tm.bK;split<;>exact⟨rfl,rfl⟩
def FQ(x:Tm)(f:UInt8)(l:List Int):(x.aT f l).params=x.params/\(x.aT f l).rest=x.rest:=by
 cases C:nE f.toNat with
 |none=>rw[yv C]; exact⟨rfl,rfl⟩
 |some g =>
  unfold Tm.aT;by_cases j:f=65
  .rw[if_pos j]; exact⟨rfl,rfl⟩
  rw[if_neg j];by_cases k:f=66
  .rw[if_pos k]; exact⟨rfl,rfl⟩
  rw[if_neg k];by_cases m:f=67
  .rw[if_pos m]; exact⟨rfl,rfl⟩
  rw[if_neg m];by_cases n:f=68
  .rw[if_pos n]; exact⟨rfl,rfl⟩
  rw[if_neg n];by_cases o:f=71
  .rw[if_pos o]; exact⟨rfl,rfl⟩
  rw[if_neg o];by_cases r:f=100
  .rw[if_pos r]; exact⟨rfl,rfl⟩
  rw[if_neg r];by_cases s:f=72\/f=102
  .rw[if_pos s]; exact⟨rfl,rfl⟩
  rw[if_neg s];by_cases w:f=74
  .rw[if_pos w];obtain⟨a,b⟩:=rC l x.grid.length 0 (x.aU l);exact⟨a.trans (ou x l).1,b.trans (ou x l).2⟩
  rw[if_neg w];by_cases A:f=75
  .rw[if_pos A]; exact ou x l
  rw[if_neg A];by_cases B:f=76
  .rw[if_pos B]; unfold Tm.lines; split<;>exact⟨rfl,rfl⟩
  rw[if_neg B];by_cases c:f=77
  .rw[if_pos c]; unfold Tm.lines; split<;>exact⟨rfl,rfl⟩
  rw[if_neg c];by_cases e:f=109
  .rw[if_pos e]; exact⟨rfl,rfl⟩
  rw[if_neg e];by_cases h:f=114
  .rw[if_pos h,mi]; split<;>exact⟨rfl,rfl⟩
  rw[if_neg h]; exact⟨rfl,rfl⟩
def GS(x:Tm)(f:UInt8):(x.dJ f).params=x.params/\(x.dJ f).rest=x.rest:=by
 unfold Tm.dJ;split
 .exact⟨rfl,rfl⟩
 .split
  .exact FQ x f _
  .exact⟨rfl,rfl⟩
def wz{x:Tm}(s:x.Sz)(f:x.params.length<=65)(c:UInt8):(x.byte c).1.Sz/\(x.byte c).2<5/\(x.byte c).1.params.length<=65/\(x.byte c).1.rest.length<=x.rest.length+1:=by
 unfold Tm.byte;split
 .obtain⟨a,b,d,e⟩:=DJ (x.rest.length+2) (x.aR (x.rest++[c])) (s.aR _);refine⟨a,b,?_,?_⟩
  .show (Tm.drain cI (x.rest.length+2) (x.aR (x.rest++[c]))).1.params.length<=65;rw[d]; exact f
  .refine zC7 e ?_;simp[Tm.aR]
 .refine⟨s.second c,?_⟩;unfold Tm.second;by_cases j:c=91
  .rw[if_pos j]; exact⟨by simp,by simp,by simp⟩
  rw[if_neg j];by_cases k:c=93
  .rw[if_pos k]; exact⟨by simp,f,by simp⟩
  rw[if_neg k];by_cases m:c=27
  .rw[if_pos m]; exact⟨by simp,f,by simp⟩
  rw[if_neg m];by_cases n:32<=c/\c<48
  .rw[if_pos n]; exact⟨by simp,f,by simp⟩
  rw[if_neg n];by_cases o:c=55
  .rw[if_pos o]; exact⟨by simp,f,by simp⟩
  rw[if_neg o];by_cases r:c=56
  .rw[if_pos r]; exact⟨by simp,f,by simp⟩
  rw[if_neg r];by_cases w:c=99
  .rw[if_pos w]; exact⟨by simp,by simp[Tm.new],by simp[Tm.new]⟩
  rw[if_neg w];by_cases A:c=77/\x.row=x.top
  .rw[if_pos A]; exact⟨by simp,f,by simp[Tm.fe]⟩
  rw[if_neg A];by_cases B:c=77
  .rw[if_pos B]; exact⟨by simp,f,by simp⟩
  rw[if_neg B]; exact⟨by simp,f,by simp⟩
 .exact⟨s,by simp,f,by simp⟩
 .refine⟨s.parameter c,?_⟩;unfold Tm.parameter;by_cases j:c=27
  .rw[if_pos j]; exact⟨by simp,f,by simp⟩
  rw[if_neg j];by_cases k:64<=c/\c<=126
  .rw[if_pos k];simp only;split
   .obtain⟨a,b⟩:=GS x c;rw[a,b];exact⟨by omega,f,by omega⟩
   .exact⟨by simp,f,by simp⟩
  rw[if_neg k];by_cases m:c<32\/c>126\/(c ≥ 48/\x.middle=bv)
  .rw[if_pos m]; exact⟨by simp,f,by simp⟩
  rw[if_neg m];simp only;split
  .rename_i h;exact⟨by simp,by simp only[zB2,zA3,zB0]at h ⊢; omega,by simp⟩
  .exact⟨by simp,f,by simp⟩
 .unfold Tm.ignore;split
  .exact⟨s,by simp,f,by simp⟩
  .exact⟨s.DF c,by simp,f,by simp⟩
def QE(H:aa)(p:Rp)(x:Tm)(c:UInt8)(g:b7 H p x)(s:x.Sz)(ok:H.base<=H.next)(e:ss H)(f:0∉p.au)(p1:1∉p.au)(a:x.rest.length<=900)(b:x.params.length<=65) :
  gp (41+x.mode) [gD c] H p (i7 i8 ((x.byte c).2:Int)) (x.byte c).1:=by
 have k:=s.md;have j:x.mode=0\/x.mode=1\/x.mode=2\/x.mode=3\/x.mode=4:=by omega
 unfold Tm.byte;rcases j with h|h|h|h|h<;>rw[h]
 .exact Ph H p x c g s ok e f p1 a
 .exact Kg H p x c g s ok
 .exact (QT H p x c).to ⟨rfl,p,Step.refl g⟩
 .exact DX H p x c g s ok b
 .exact NJ H p x c g ok
end Go.Proofs.YtpohjcacnkhnkaaGreatDoor.Tq
