/- Parts of the proof, one behind the other. -/
import Derived.Test.YtpohjcacnkhnkaaGreatDoorM6
import Derived.Test.YtpohjcacnkhnkaaGreatDoorM3
import Derived.Test.YtpohjcacnkhnkaaGreatDoorM4
import Derived.Test.YtpohjcacnkhnkaaGreatDoorRows
import Derived.Shelf.Unicode.ValidAny
import Derived.Lib.ValidLaws
import Derived.Lib.TrimUEq
set_option linter.all false
set_option maxRecDepth 10000
set_option maxHeartbeats 16000000
open And renaming intro -> zA0
open Option renaming bind_eq_bind -> zA1, bind_eq_some_iff -> zA2, bind_some -> zA3, map_some -> zA9, map_eq_some_iff -> zB3
open Bool renaming and_eq_true -> zA4, false_eq_true -> zC4, not_true -> zE0, and_self -> zE3, not_false -> zG2
open List renaming mem_singleton -> zA5, mem_cons -> zA7, length_cons -> zB0, getElem?_eq_getElem -> zB1, mem_append -> zB2, length_append -> zB4, mem_map -> zB5, length_nil -> zB6, mem_of_getElem? -> zB9, map_cons -> zC0, nil_append -> zC1, getElem?_eq_none -> zC5, all_eq_true -> zC6, mem_cons_of_mem -> zC7, getD_eq_getElem?_getD -> zC8, nodup_cons -> zC9, append_nil -> zD0, drop_zero -> zD1, not_mem_nil -> zD2, append_assoc -> zD3, nodup_append -> zD4, take_of_length_le -> zD6, length_map -> zD7, length_drop -> zD8, mem_flatMap -> zE2, length_replicate -> zE4, mem_cons_self -> zE5, cons_append -> zE7, eq_nil_of_length_eq_zero -> zE9, getElem?_map -> zF0, drop_eq_nil_of_le -> zF1, length_set -> zF3, map_nil -> zF4, getElem?_cons_zero -> zF5, mem_of_mem_take -> zF6, mem_of_mem_drop -> zF9, mem_range -> zG0, getElem?_eq_some_iff -> zG1, drop_drop -> zG3, getElem?_cons_succ -> zG4, getElem_mem -> zG7, take_append_drop -> zG8
open Nat renaming le_of_ble_eq_true -> zA6, le_refl -> zA8, zero_le -> zB7, zero_add -> zB8, lt_or_ge -> zC2, le_trans -> zC3, lt_of_lt_of_le -> zD5, lt_succ_self -> zD9, add_zero -> zE1, ble_eq -> zE6, mul_one -> zE8, min -> zF2, zero_mul -> zF7, add_sub_cancel_left -> zF8, sub_self -> zG5
open Int renaming toNat_natCast -> zG6

namespace Go.Proofs.YtpohjcacnkhnkaaGreatDoor.Tq
open Go.Ax
abbrev Iy (n:Int):Int:=IntKind.i32.wrap n
def fa (a:UInt8):Int:=IntKind.i64.wrap (fe .u8 (cf a.toNat) 7)
def O9 (a:UInt8):Int:=jZ .i32 (vz .i32 (Iy (cf a.toNat)) 31) 31
def Rj (a:UInt8):Int:=Jo .i32 (NA .i32 (Iy (a.toNat:Int)) (O9 a)) (fe .i32 65533 (O9 a))
def Qj (a b:UInt8):Int:=Jo .i32 (vz .i32 (Iy (fe .u8 (a.toNat:Int) 31)) 6) (Iy (fe .u8 (b.toNat:Int) 63))
def P4 (a b c:UInt8):Int:=Jo .i32 (Jo .i32 (vz .i32 (Iy (fe .u8 (a.toNat:Int) 15)) 12) (vz .i32 (Iy (fe .u8 (b.toNat:Int) 63)) 6)) (Iy (fe .u8 (c.toNat:Int) 63))
def P6 (a b c d:UInt8):Int:=Jo .i32 (Jo .i32 (Jo .i32 (vz .i32 (Iy (fe .u8 (a.toNat:Int) 7)) 18) (vz .i32 (Iy (fe .u8 (b.toNat:Int) 63)) 12)) (vz .i32 (Iy (fe .u8 (c.toNat:Int) 63)) 6)) (Iy (fe .u8 (d.toNat:Int) 63))
def PZ (a b:UInt8):Bool:=decide ((b.toNat:Int)<gQ ((jZ .u8 (cf a.toNat) 4).toNat*2))||decide (gQ ((jZ .u8 (cf a.toNat) 4).toNat*2+1)<(b.toNat:Int))
def Nl (c:UInt8):Bool:=decide ((c.toNat:Int)<128)||decide (191<(c.toNat:Int))
def qs (a b c:UInt8):List UInt8->Int × Nat
 |[]=>(65533,1)
 |d::_=>cond (Nl d) (65533,1) (P6 a b c d,4)
def oN (a b:UInt8):List UInt8->Int × Nat
 |[]=>(65533,1)
 |c::r=>cond (Nl c) (65533,1) (cond (decide (fa a<=3)) (P4 a b c,3) (qs a b c r))
def n7 (a:UInt8):List UInt8->Int × Nat
 |[]=>(65533,1)
 |b::r=>cond (PZ a b) (65533,1) (cond (decide (fa a<=2)) (Qj a b,2) (oN a b r))
def iX:List UInt8->Int × Nat
 |[]=>(65533,0)
 |a::r=>cond (decide (240<=cf a.toNat)) (Rj a,1) (cond (decide (((r.length+1:Nat):Int)<fa a)) (65533,1) (n7 a r))
def oz:List UInt8->Int × Nat
 |[]=>(65533,0)
 |a::r=>cond (decide ((a.toNat:Int)<128)) ((a.toNat:Int),1) (iX (a::r))
theorem KG {a:UInt8} (h:¬240<=cf a.toNat):2<=fa a/\fa a<=4:=by
 have fo:=Bx a.toNat_lt
 rcases fo.sz with h'|⟨h1,h2⟩
 ·exact absurd h' h
 ·have:=aQ (n:=fe .u8 (cf a.toNat) 7) (by omega) (by omega)
  unfold fa
  rw[show IntKind.i64.wrap (fe .u8 (cf a.toNat) 7)=_ from this]
  exact⟨h1,h2⟩
theorem NF (a b c:UInt8) (r:List UInt8):1<=(qs a b c r).2/\(qs a b c r).2<=r.length+3:=by
 cases r with
 |nil=>simp[qs]
 |cons d r=>simp only[qs,zB0]; cases Nl d<;>simp<;>omega
theorem Nx (a b:UInt8) (r:List UInt8):1<=(oN a b r).2/\(oN a b r).2<=r.length+2:=by
 cases r with
 |nil=>simp[oN]
 |cons c r =>
  have:=NF a b c r
  simp only[oN,zB0]
  cases Nl c<;>cases decide (fa a<=3)<;>simp<;>omega
theorem Oz (a:UInt8) (r:List UInt8):1<=(n7 a r).2/\(n7 a r).2<=r.length+1:=by
 cases r with
 |nil=>simp[n7]
 |cons b r =>
  have:=Nx a b r
  simp only[n7,zB0]
  cases PZ a b<;>cases decide (fa a<=2)<;>simp<;>omega
theorem Ll (l:List UInt8) (h:l≠[]):1<=(oz l).2/\(oz l).2<=l.length:=by
 cases l with
 |nil=>exact absurd rfl h
 |cons a r =>
  have:=Oz a r
  simp only[oz,iX,zB0]
  cases decide ((a.toNat:Int)<128)<;>cases decide (240<=cf a.toNat)<;>cases decide (((r.length+1:Nat):Int)<fa a)<;>simp<;>omega
def Pp (n:Int):Prop:=-2147483648<=n/\n<=2147483647
theorem wrap32 (n:Int):Pp (IntKind.i32.wrap n):=by
 simp only[Pp,IntKind.wrap,IntKind.signed,IntKind.bits]
 simp
 omega
theorem GX (a b:Int):Pp (Jo .i32 a b):=wrap32 _
theorem ND (l:List UInt8):Pp (oz l).1:=by
 have hE:Pp 65533:=⟨by decide,by decide⟩
 have h4:∀ a b c r,Pp (qs a b c r).1:=fun a b c r=>by
  cases r with
  |nil=>exact hE
  |cons d r=>simp only[qs]; cases Nl d; exact GX _ _; exact hE
 have h3:∀ a b r,Pp (oN a b r).1:=fun a b r=>by
  cases r with
  |nil=>exact hE
  |cons c r=>simp only[oN]; cases Nl c; cases decide (fa a<=3); exact h4 a b c r; exact GX _ _; exact hE
 have h2:∀ a r,Pp (n7 a r).1:=fun a r=>by
  cases r with
  |nil=>exact hE
  |cons b r=>simp only[n7]; cases PZ a b; cases decide (fa a<=2); exact h3 a b r; exact GX _ _; exact hE
 cases l with
 |nil=>exact hE
 |cons a r =>
  simp only[oz,iX]
  cases decide ((a.toNat:Int)<128)
  ·cases decide (240<=cf a.toNat)
   ·cases decide (((r.length+1:Nat):Int)<fa a)
    ·exact h2 a r
    ·exact hE
   ·exact GX _ _
  ·have:=a.toNat_lt
   exact⟨by simp only[cond_true]; omega,by simp only[cond_true]; omega⟩
theorem PT (H:aa) (v:Value) (l:List UInt8) (h:cK H v l) (hlt:∀ n∈ae v,n<H.next) (ht:tj H) (hl:l≠[]) (hlen:l.length<1000000):Pure 112 [v] H (.tuple ⟨[.int .i32 (iX l).1,.int .i64 ((iX l).2:Int)]⟩):=by
 obtain⟨b,hb⟩:=Go.Ax.bP H.next
 obtain⟨av,e⟩:=h.sl
 obtain⟨a,r,rfl⟩:∃ a r,l=a::r:=by cases l with|nil=>exact absurd rfl hl|cons a r=>exact⟨a,r,rfl⟩
 obtain⟨L,hL⟩:=Go.Ax.bP ((a::r).length)
 have hLr:L=r.length+1:=by rw[<-hL]; rfl
 rw[hL]at e
 obtain⟨n0,o0,i0,m0,ld0⟩:=h.get (k:=0) (c:=a) rfl
 rw[e,show ((0:Nat):Int)=0 from rfl]at i0
 have t0:n0<b:=hb▸hlt n0 m0
 have fo:=Bx a.toNat_lt
 have hf0:=ht.f a.toNat a.toNat_lt
 have l0:0<b:=hb▸ht.l0
 have l1:1<b:=hb▸ht.l1
 have hx0:=QT (a:=a)
 have hx1:=Rh fo.i0 fo.i1
 have hacc:=ht.a (jZ .u8 (cf a.toNat) 4).toNat (by have:=fo.i0; have:=fo.i1; omega)
 have hcv:∀ (X:aa) (k:IntKind) (m:Int),cj Tryz.prog X 5 3 (.int k m)=some (.int .i64 (IntKind.i64.wrap m),X):=fun X k m=>iL (u:=.int .u8) (by kernel_rfl) (by kernel_rfl)
 have hcv2:∀ (X:aa) (k:IntKind) (m:Int),cj Tryz.prog X 5 21 (.int k m)=some (.int .i32 (IntKind.i32.wrap m),X):=fun X k m=>iL (u:=.int .u8) (by kernel_rfl) (by kernel_rfl)
 have dz:decide ((L:Int)<1)=false:=decide_eq_false (by omega)
 obtain⟨d240,hd240⟩:∃ d,decide (240<=cf a.toNat)=d:=⟨_,rfl⟩
 obtain⟨dn,hdn⟩:∃ d,decide ((L:Int)<fa a)=d:=⟨_,rfl⟩
 have hdn':=hdn
 unfold fa at hdn'
 have key:iX (a::r)=cond d240 (Rj a,1) (cond dn (65533,1) (n7 a r)):=by simp only[iX,hd240,<-hLr,hdn]
 rw[key]
 refine bJ mixed Tryz.func112 rfl Tryz.ntmps112 (zA6 rfl) fun wf hsc=>?_
 have hbase:H.base<=b:=hb▸wf.base
 rw[e]
 cases d240 with
 |true =>
  simp only[hb,dz,i0,t0,ld0,hx0,l0,hf0,hd240,ou,iT,OM,Bd,Na,FH,GK,vQ,oG,iQ,bQ,hcv2,seval,cond_true,Tryz.results112,zW]
  exact Fin.cz rfl rfl
 |false =>
  have hsz:=KG (a:=a) (fun h=>by have:=hd240.symm.trans (decide_eq_true h); simp at this)
  cases dn with
  |true =>
   simp only[hb,hbase,dz,i0,t0,ld0,hx0,l0,l1,hf0,hd240,hdn',ou,iT,oG,iQ,bQ,hcv,hx1,hacc,seval,cond_true,cond_false,Tryz.results112,zW]
   exact Fin.cz rfl rfl
  |false =>
   have hLn:fa a<=(L:Int):=by have:=of_decide_eq_false hdn; omega
   match r,h,hl,hlen,hL,hLr with
   |[],h,hl,hlen,hL,hLr=>simp at hLr; omega
   |b1::r1,h,hl,hlen,hL,hLr =>
    obtain⟨n1,o1,i1,m1,ld1⟩:=h.get (k:=1) (c:=b1) rfl
    rw[e,show ((1:Nat):Int)=1 from rfl]at i1
    have t1:n1<b:=hb▸hlt n1 m1
    obtain⟨dA,hdA⟩:∃ d,decide ((b1.toNat:Int)<gQ ((jZ .u8 (cf a.toNat) 4).toNat*2))=d:=⟨_,rfl⟩
    obtain⟨dB,hdB⟩:∃ d,decide (gQ ((jZ .u8 (cf a.toNat) 4).toNat*2+1)<(b1.toNat:Int))=d:=⟨_,rfl⟩
    obtain⟨s2,hs2⟩:∃ d,decide (fa a<=2)=d:=⟨_,rfl⟩
    have hs2':=hs2
    unfold fa at hs2'
    simp only[n7,PZ,hdA,hdB,hs2]
    cases dA with
    |true =>
     simp only[hb,hbase,dz,i0,t0,ld0,hx0,l0,l1,hf0,hd240,hdn',ou,iT,oG,iQ,bQ,hcv,hx1,hacc,seval,cond_true,cond_false,i1,t1,ld1,hdA,Bool.true_or,Tryz.results112,zW]
     exact Fin.cz rfl rfl
    |false =>
    cases dB with
    |true =>
     simp only[hb,hbase,dz,i0,t0,ld0,hx0,l0,l1,hf0,hd240,hdn',ou,iT,oG,iQ,bQ,hcv,hx1,hacc,seval,cond_true,cond_false,i1,t1,ld1,hdA,hdB,Bool.or_true,Tryz.results112,zW]
     exact Fin.cz rfl rfl
    |false =>
    cases s2 with
    |true =>
     simp only[hb,hbase,dz,i0,t0,ld0,hx0,l0,l1,hf0,hd240,hdn',ou,iT,OM,Bd,GK,vQ,oG,iQ,bQ,hcv,hcv2,hx1,hacc,seval,cond_true,cond_false,i1,t1,ld1,hdA,hdB,hs2',Bool.or_false,Tryz.results112,zW]
     exact Fin.cz rfl rfl
    |false =>
    have hs3:3<=fa a:=by have:=of_decide_eq_false hs2; omega
    match r1,h,hl,hlen,hL,hLr with
    |[],h,hl,hlen,hL,hLr=>simp at hLr; omega
    |b2::r2,h,hl,hlen,hL,hLr =>
     obtain⟨n2,o2,i2,m2,ld2⟩:=h.get (k:=2) (c:=b2) rfl
     rw[e,show ((2:Nat):Int)=2 from rfl]at i2
     have t2:n2<b:=hb▸hlt n2 m2
     obtain⟨dC,hdC⟩:∃ d,decide ((b2.toNat:Int)<128)=d:=⟨_,rfl⟩
     obtain⟨dD,hdD⟩:∃ d,decide (191<(b2.toNat:Int))=d:=⟨_,rfl⟩
     obtain⟨s3,hs3'⟩:∃ d,decide (fa a<=3)=d:=⟨_,rfl⟩
     have hs3'':=hs3'
     unfold fa at hs3''
     simp only[oN,Nl,hdC,hdD,hs3',Bool.or_false,cond_false]
     cases dC with
     |true =>
      simp only[hb,hbase,dz,i0,t0,ld0,hx0,l0,l1,hf0,hd240,hdn',ou,iT,oG,iQ,bQ,hcv,hx1,hacc,seval,cond_true,i1,t1,ld1,hdA,hdB,hs2',i2,t2,ld2,hdC,Bool.true_or,Tryz.results112,zW]
      exact Fin.cz rfl rfl
     |false =>
     cases dD with
     |true =>
      simp only[hb,hbase,dz,i0,t0,ld0,hx0,l0,l1,hf0,hd240,hdn',ou,iT,oG,iQ,bQ,hcv,hx1,hacc,seval,cond_true,i1,t1,ld1,hdA,hdB,hs2',i2,t2,ld2,hdC,hdD,Bool.or_true,Tryz.results112,zW]
      exact Fin.cz rfl rfl
     |false =>
     cases s3 with
     |true =>
      simp only[hb,hbase,dz,i0,t0,ld0,hx0,l0,l1,hf0,hd240,hdn',ou,iT,OM,Bd,GK,vQ,oG,iQ,bQ,hcv,hcv2,hx1,hacc,seval,cond_true,cond_false,i1,t1,ld1,hdA,hdB,hs2',i2,t2,ld2,hdC,hdD,hs3'',Bool.or_false,Tryz.results112,zW]
      exact Fin.cz rfl rfl
     |false =>
     have hs4:4<=fa a:=by have:=of_decide_eq_false hs3'; omega
     match r2,h,hl,hlen,hL,hLr with
     |[],h,hl,hlen,hL,hLr=>simp at hLr; omega
     |b3::r3,h,hl,hlen,hL,hLr =>
      obtain⟨n3,o3,i3,m3,ld3⟩:=h.get (k:=3) (c:=b3) rfl
      rw[e,show ((3:Nat):Int)=3 from rfl]at i3
      have t3:n3<b:=hb▸hlt n3 m3
      obtain⟨dE,hdE⟩:∃ d,decide ((b3.toNat:Int)<128)=d:=⟨_,rfl⟩
      obtain⟨dF,hdF⟩:∃ d,decide (191<(b3.toNat:Int))=d:=⟨_,rfl⟩
      simp only[qs,Nl,hdE,hdF,Bool.or_false,cond_false]
      cases dE<;>cases dF <;>
       (simp only[hb,hbase,dz,i0,t0,ld0,hx0,l0,l1,hf0,hd240,hdn',ou,iT,OM,Bd,GK,vQ,oG,iQ,bQ,hcv,hcv2,hx1,hacc,seval,cond_true,cond_false,i1,t1,ld1,hdA,hdB,hs2',i2,t2,ld2,hdC,hdD,hs3'',i3,t3,ld3,hdE,hdF,Bool.or_true,Bool.or_false,Tryz.results112,zW]
        exact Fin.cz rfl rfl)
theorem Q9 (H:aa) (v:Value) (l:List UInt8) (h:cK H v l) (hlt:∀ n∈ae v,n<H.next) (ht:tj H) (hl:l≠[]) (hlen:l.length<1000000):Pure 80 [v] H (.tuple ⟨[.int .i32 (oz l).1,.int .i64 ((oz l).2:Int)]⟩):=by
 obtain⟨b,hb⟩:=Go.Ax.bP H.next
 obtain⟨av,e⟩:=h.sl
 obtain⟨a,r,rfl⟩:∃ a r,l=a::r:=by cases l with|nil=>exact absurd rfl hl|cons a r=>exact⟨a,r,rfl⟩
 obtain⟨L,hL⟩:=Go.Ax.bP ((a::r).length)
 have hLr:L=r.length+1:=by rw[<-hL]; rfl
 rw[hL]at e
 obtain⟨n0,o0,i0,m0,ld0⟩:=h.get (k:=0) (c:=a) rfl
 rw[e,show ((0:Nat):Int)=0 from rfl]at i0
 have t0:n0<b:=hb▸hlt n0 m0
 have hcv2:∀ (X:aa) (k:IntKind) (m:Int),cj Tryz.prog X 5 21 (.int k m)=some (.int .i32 (IntKind.i32.wrap m),X):=fun X k m=>iL (u:=.int .u8) (by kernel_rfl) (by kernel_rfl)
 have hw32:IntKind.i32.wrap (a.toNat:Int)=(a.toNat:Int):=by
  have:=a.toNat_lt
  simp only[IntKind.wrap,IntKind.signed,IntKind.bits]
  simp
  omega
 have d0:decide ((0:Int)<(L:Int))=true:=decide_eq_true (by omega)
 obtain⟨d1,hd1⟩:∃ d,decide ((a.toNat:Int)<128)=d:=⟨_,rfl⟩
 have key:oz (a::r)=cond d1 ((a.toNat:Int),1) (iX (a::r)):=by simp only[oz,hd1]
 rw[key]
 refine bJ mixed Tryz.func80 rfl Tryz.ntmps80 (zA6 rfl) fun wf hsc=>?_
 have hsl:=PT H v (a::r) h hlt ht hl hlen
 rw[e]at hsl ⊢
 simp only[zW,seval]
 refine eT fun E hE=>?_
 have g0:E 0=.slice av L L:=by rw[hE]; rfl
 have g6:E 6=.slice av L L:=by rw[hE]; rfl
 have g7:E 7=.int .i64 (L:Int):=by rw[hE]; rfl
 have g8:E 8=.int .i64 0:=by rw[hE]; rfl
 clear hE
 obtain⟨P0,hP0⟩:∃ P0:Prop,P0=(d1=false):=⟨_,rfl⟩
 refine bE (fun E' H'=>H'=H/\P0/\E' 0=.slice av L L) ?_ ?_
 ·refine cU (fun (q:Unit) E' H'=>H'=H/\E' 0=.slice av L L/\E' 6=.slice av L L/\E' 7=.int .i64 (L:Int)/\E' 8=.int .i64 0) (fun _=>0) () ⟨rfl,g0,g6,g7,g8⟩ ?_
  clear g0 g6 g7 g8 E
  rintro _ E X ⟨hX,g0,g6,g7,g8⟩
  rw[hX,show H=ext H [] from rfl]
  cases d1 with
  |true =>
   simp only[g6,g7,g8,hb,d0,i0,t0,ld0,hd1,bQ,hcv2,hw32,eF,cond_true,Tryz.results80,zW,seval]
   exact Fin.cz rfl rfl
  |false =>
   simp only[g6,g7,g8,hb,d0,i0,t0,ld0,hd1,zW,seval]
   rw[BG (by decide),tI,qS,oX]
   refine aj ⟨rfl,hP0.mpr rfl,?_⟩
   simp only[g0,aW,seval]
 clear g0 g6 g7 g8 E
 rintro E X ⟨hX,hdd,g0⟩
 rw[hX,hP0.mp hdd,cond_false,show H=ext H [] from rfl]
 simp only[g0,zW,seval]
 refine (show br Tryz.prog 112 [.slice av L L] (ext H []) _ (ext H []) from hsl).to ?_
 simp only[Tryz.results80,zW,seval]
 exact Fin.cz rfl rfl
end Go.Proofs.YtpohjcacnkhnkaaGreatDoor.Tq
namespace Go.Proofs.YtpohjcacnkhnkaaGreatDoor
open Go.Ax
def Ex (c:Int):Bool:=decide (0<=c)&&decide (c<=1114111)&&!(decide (55296<=c)&&decide (c<=57343))
theorem Ru (H:aa) (c:Int):Pure 122 [.int .i64 c] H (.bool (Ex c)):=by
 obtain⟨d1,h1⟩:∃ d,decide (0<=c)=d:=⟨_,rfl⟩
 obtain⟨d2,h2⟩:∃ d,decide (c<=1114111)=d:=⟨_,rfl⟩
 obtain⟨d3,h3⟩:∃ d,decide (55296<=c)=d:=⟨_,rfl⟩
 obtain⟨d4,h4⟩:∃ d,decide (c<=57343)=d:=⟨_,rfl⟩
 simp only[Ex,h1,h2,h3,h4]
 refine bJ mixed Tryz.func122 rfl Tryz.ntmps122 (zA6 rfl) fun wf hsc=>?_
 cases d1<;>cases d2<;>cases d3<;>cases d4<;>(simp only[h1,h2,h3,h4,Tryz.results122,zW,seval]; exact Fin.cz rfl rfl)
def vD (f:Nat->Bool):Nat->Nat->Nat->Nat
 |0,i,_=>i
 |k+1,i,j=>if i<j then (cond (f ((i+j) / 2)) (vD f k i ((i+j) / 2)) (vD f k ((i+j) / 2+1) j)) else i
theorem Ka (f:Nat->Bool) (k i j:Nat) (h:¬i<j):vD f k i j=i:=by
 cases k with
 |zero=>rfl
 |succ k=>rw[vD,if_neg h]
def Nn (l:List (Int × Int)):List Value:=l.flatMap fun q=>[.int .i64 q.1,.int .i64 q.2]
theorem HZ (l:List (Int × Int)) (k:Nat) (q:Int × Int) (h:l[k]?=some q):(Nn l)[k*2]?=some (.int .i64 q.1)/\(Nn l)[k*2+1]?=some (.int .i64 q.2):=by
 induction l generalizing k with
 |nil=>simp at h
 |cons a l ih =>
  cases k with
  |zero =>
   simp only[zF5,Option.some.injEq]at h
   subst h
   exact⟨rfl,rfl⟩
  |succ k =>
   have:=ih k (by simpa using h)
   rw[show (k+1)*2=k*2+2 by omega]
   exact this
theorem Pl {len cap n:Nat} {s:Option Nat} {k:Nat} (hk:k<len):aP Tryz.prog 167 (.slice (some ⟨n,0,s⟩) len cap) (.int .i64 (k:Int))=some (.pointer (some ⟨n,k*2,none⟩)):=by
 rw[gl (e:=163) (sz:=2) (by kernel_rfl) (by kernel_rfl) (by omega) (by omega)]
 simp
structure RO (H:aa) (bs bc m:Nat) (c:Int) (sp:List (Int × Int)):Prop where
 s:bk H bs=some ⟨167,false,[.slice (some ⟨m,0,some 0⟩) sp.length sp.length]⟩
 c:bk H bc=some ⟨3,false,[.int .i64 c]⟩
 m:∃ e,bk H m=some ⟨e,false,Nn sp⟩
def zj (c:Int) (sp:List (Int × Int)) (i:Nat):Bool:=decide (c<=(sp.getD i (0,0)).2)
theorem Qu (H:aa) (bs bc m:Nat) (c:Int) (sp:List (Int × Int)) (h:RO H bs bc m c sp) (i:Nat) (hi:i<sp.length):Pure 154 [.int .i64 (i:Int),.pointer (some ⟨bs,0,none⟩),.pointer (some ⟨bc,0,none⟩)] H (.bool (zj c sp i)):=by
 obtain⟨b,hb⟩:=Go.Ax.bP H.next
 obtain⟨h1,h2,e,h3⟩:=h
 obtain⟨q,hq⟩:∃ q,sp[i]?=some q:=⟨_,zB1 hi⟩
 have hg:=(HZ sp i q hq).2
 have hd:sp.getD i (0,0)=q:=by rw[List.getD,hq]; rfl
 have hia:=Pl (len:=sp.length) (cap:=sp.length) (n:=m) (s:=some 0) hi
 refine bJ mixed Tryz.func154 rfl Tryz.ntmps154 (zA6 rfl) fun wf hsc=>?_
 have l1:bs<b:=hb▸wf.lt h1
 have l2:bc<b:=hb▸wf.lt h2
 have l3:m<b:=hb▸wf.lt h3
 simp only[zW,seval]
 refine bf [] [] (by kernel_rfl) rfl rfl fun ops anc hA hG=>?_
 simp only[hb,h1,h2,h3,l1,l2,l3,hia,hg,zj,hd,Tryz.results154,b9,zW,seval]
 exact Fin.cz rfl rfl
theorem Kd {i j:Nat} (h:i+j<1000000):IntKind.i64.wrap (jZ .u64 (IntKind.u64.wrap (IntKind.i64.wrap ((i:Int)+(j:Int)))) 1)=(((i+j) / 2:Nat):Int):=by
 have h1:=aQ (n:=(i:Int)+(j:Int)) (by omega) (by omega)
 rw[show IntKind.i64.wrap ((i:Int)+(j:Int))=_ from h1]
 have h2:IntKind.u64.wrap ((i:Int)+(j:Int))=(i:Int)+(j:Int):=by
  simp only[IntKind.wrap,IntKind.signed,IntKind.bits]
  simp
  omega
 rw[h2]
 have h3:jZ .u64 ((i:Int)+(j:Int)) 1=(((i+j) / 2:Nat):Int):=by
  simp only[jZ,IntKind.bits]
  rw[Int.fdiv_eq_ediv_of_nonneg _ (by decide)]
  simp
 rw[h3]
 exact aQ (by omega) (by omega)
theorem Ku (H:aa) (bs bc m:Nat) (c:Int) (sp:List (Int × Int)) (h:RO H bs bc m c sp) (hlen:sp.length<=1000):Pure 153 [.int .i64 (sp.length:Int),.func (.func 154) ⟨[]⟩ ⟨[.pointer (some ⟨bs,0,none⟩),.pointer (some ⟨bc,0,none⟩)]⟩] H (.int .i64 (vD (zj c sp) sp.length 0 sp.length:Int)):=by
 obtain⟨b,hb⟩:=Go.Ax.bP H.next
 have hcv:∀ (X:aa) (k:IntKind) (m:Int),cj Tryz.prog X 3 138 (.int k m)=some (.int .u64 (IntKind.u64.wrap m),X):=fun X k m=>iL (u:=.int .i64) (by kernel_rfl) (by kernel_rfl)
 have hcv2:∀ (X:aa) (k:IntKind) (m:Int),cj Tryz.prog X 138 3 (.int k m)=some (.int .i64 (IntKind.i64.wrap m),X):=fun X k m=>iL (u:=.int .u64) (by kernel_rfl) (by kernel_rfl)
 refine bJ mixed Tryz.func153 rfl Tryz.ntmps153 (zA6 rfl) fun wf hsc=>?_
 simp only[zW,seval]
 refine eT fun E hE=>?_
 have g1:E 1=.func (.func 154) ⟨[]⟩ ⟨[.pointer (some ⟨bs,0,none⟩),.pointer (some ⟨bc,0,none⟩)]⟩:=by rw[hE]; rfl
 have g5:E 5=.int .i64 ((0:Nat):Int):=by rw[hE]; rfl
 have g6:E 6=.int .i64 (sp.length:Int):=by rw[hE]; rfl
 clear hE
 refine bE (fun E' H'=>H'=H/\E' 5=.int .i64 (vD (zj c sp) sp.length 0 sp.length:Int)) ?_ ?_
 ·refine cU (fun (q:Nat × Nat × Nat) E' H'=>H'=H/\q.2.1-q.1<=q.2.2/\q.2.1<=sp.length/\vD (zj c sp) q.2.2 q.1 q.2.1=vD (zj c sp) sp.length 0 sp.length/\E' 1=.func (.func 154) ⟨[]⟩ ⟨[.pointer (some ⟨bs,0,none⟩),.pointer (some ⟨bc,0,none⟩)]⟩/\E' 5=.int .i64 (q.1:Int)/\E' 6=.int .i64 (q.2.1:Int)) (fun q=>q.2.1-q.1) (0,sp.length,sp.length)
   ⟨rfl,by simp,zA8 _,rfl,g1,g5,g6⟩ ?_
  clear g1 g5 g6 E
  rintro⟨i,j,k⟩ E X ⟨hX,hk,hj,hs,g1,g5,g6⟩
  simp only at hk hj hs g5 g6
  rw[hX,show H=ext H [] from rfl]
  by_cases hij:i<j
  ·have hd:decide ((i:Int)<(j:Int))=true:=decide_eq_true (by omega)
   obtain⟨k',rfl⟩:∃ k',k=k'+1:=⟨k-1,by omega⟩
   rw[vD,if_pos hij]at hs
   have hhalf:=Kd (i:=i) (j:=j) (by omega)
   obtain⟨md,hmd⟩:=Go.Ax.bP ((i+j) / 2)
   rw[hmd]at hhalf hs
   have hm1:i<=md/\md<j:=by omega
   have hws:=bO (show md<1000000 by omega)
   have hp:=Qu H bs bc m c sp h md (by omega)
   simp only[g1,g5,g6,hd,bQ,hcv,hcv2,oG,iQ,hhalf,seval,zW]
   refine vK (f:=154) (ca:=[.pointer (some ⟨bs,0,none⟩),.pointer (some ⟨bc,0,none⟩)]) rfl rfl rfl (by kernel_rfl) ?_
   simp only[aW]
   refine (show br Tryz.prog 154 _ (ext H []) _ (ext H []) from hp).to ?_
   cases hf:zj c sp md with
   |true =>
    rw[hf,cond_true]at hs
    simp only[zW,seval]
    refine aM ⟨(i,md,k'),by simp only; omega,rfl,by simp only; omega,by simp only; omega,hs,?_,?_,?_⟩<;>simp only[g1,g5,aW,seval]
   |false =>
    rw[hf,cond_false]at hs
    simp only[hws,zW,seval]
    refine aM ⟨(md+1,j,k'),by simp only; omega,rfl,by simp only; omega,by simp only; omega,hs,?_,?_,?_⟩<;>simp only[g1,g6,aW,seval]
  ·have hd:decide ((i:Int)<(j:Int))=false:=decide_eq_false (by omega)
   rw[Ka _ _ _ _ hij]at hs
   simp only[g5,g6,hd,zW,seval]
   refine aj ⟨rfl,?_⟩
   simp only[g5,hs,aW,seval]
 clear g1 g5 g6 E
 rintro E X ⟨hX,g5⟩
 rw[hX,show H=ext H [] from rfl]
 simp only[g5,Tryz.results153,zW,seval]
 exact Fin.pure rfl
def QG (c:Int) (sp:List (Int × Int)):Bool :=
 decide (vD (zj c sp) sp.length 0 sp.length<sp.length)&&decide ((sp.getD (vD (zj c sp) sp.length 0 sp.length) (0,0)).1<=c)
theorem QM (H:aa) (m:Nat) (c:Int) (sp:List (Int × Int)) (h:∃ e,bk H m=some ⟨e,false,Nn sp⟩) (hlen:sp.length<=1000):Pure 123 [.int .i64 c,.slice (some ⟨m,0,some 0⟩) sp.length sp.length] H (.bool (QG c sp)):=by
 obtain⟨b,hb⟩:=Go.Ax.bP H.next
 obtain⟨e,h3⟩:=h
 obtain⟨k,hk⟩:=Go.Ax.bP sp.length
 obtain⟨i,hi⟩:=Go.Ax.bP (vD (zj c sp) sp.length 0 sp.length)
 obtain⟨d1,hd1⟩:∃ d,decide (i<k)=d:=⟨_,rfl⟩
 have hd1':decide ((i:Int)<(k:Int))=d1:=by
  rw[<-hd1]
  by_cases h:i<k
  ·rw[decide_eq_true h,decide_eq_true (by omega)]
  ·rw[decide_eq_false h,decide_eq_false (by omega)]
 refine bJ mixed Tryz.func123 rfl Tryz.ntmps123 (zA6 rfl) fun wf hsc=>?_
 have l3:m<b:=hb▸wf.lt h3
 have hclo:RO (ext H [⟨3,false,[.int .i64 c]⟩,⟨167,false,[.slice (some ⟨m,0,some 0⟩) sp.length sp.length]⟩]) (b+1) (b+0) m c sp :=
  ⟨by rw[bu hb (by simp)]; rfl,by rw[bu hb (by simp)]; rfl,e,by rw[iN (by omega)]; exact h3⟩
 have hse:=Ku _ (b+1) (b+0) m c sp hclo hlen
 unfold QG
 rw[hi]at hse ⊢
 rw[hk]at hse ⊢
 rw[hd1]
 simp (maxDischargeDepth:=6) only[hb,l3,zW,seval]
 refine hse.to ?_
 simp (maxDischargeDepth:=6) only[zW,seval]
 refine bf [] [(4,14)] (by kernel_rfl) rfl (by kernel_rfl) fun ops anc hA hG=>?_
 simp only[aw]at hG
 cases d1 with
 |false =>
  simp (maxDischargeDepth:=6) only[hb,hG,hd1',Bool.false_and,Tryz.results123,b9,zW,seval]
  exact Fin.cz rfl rfl
 |true =>
  have hik:i<sp.length:=by rw[hk]; exact of_decide_eq_true hd1
  obtain⟨q,hq⟩:∃ q,sp[i]?=some q:=⟨_,zB1 hik⟩
  have hg:=(HZ sp i q hq).1
  have hd:sp.getD i (0,0)=q:=by rw[List.getD,hq]; rfl
  have hia:=Pl (len:=k) (cap:=k) (n:=m) (s:=some 0) (k:=i) (by omega)
  rw[hd]
  simp (maxDischargeDepth:=6) only[hb,l3,h3,hG,hd1',hia,hg,Bool.true_and,Tryz.results123,b9,zW,seval]
  exact Fin.cz rfl rfl
def qN:List (Int × Int):=[(768,879),(1155,1161),(1425,1469),(8203,8207),(8400,8447),(65024,65039),(65056,65071)]
def ya:List (Int × Int):=[(0,8),(10,31),(127,127),(4352,4447),(11904,12350),(12353,42191),(44032,55203),(63744,64255),(65072,65135),(65280,65376),(65504,65510),(127744,128591),(129280,129535),(131072,262141)]
def dI (c:Int):Nat:=if (!Ex c||QG c qN)=true then 0 else if QG c ya=true then 2 else 1
theorem gW (H:aa) (c:Int):Pure 88 [.int .i64 c] H (.int .i64 (dI c:Int)):=by
 obtain⟨b,hb⟩:=Go.Ax.bP H.next
 refine bJ mixed Tryz.func88 rfl Tryz.ntmps88 (zA6 rfl) fun wf hsc=>?_
 have hbase:H.base<=b:=hb▸wf.base
 have uA7:Tryz.prog.underlying 164=some (.array 7 163):=by kernel_rfl
 have uA14:Tryz.prog.underlying 165=some (.array 14 163):=by kernel_rfl
 have zSp:bh Tryz.prog 163=some 2:=by kernel_rfl
 have slA7:∀ (X:aa) (n:Nat),cg Tryz.prog X 164 (.pointer (some ⟨n,0,none⟩)) none none none=some (.slice (some ⟨n,0,some 0⟩) 7 7,X):=fun X n=>by
  simp only[cg,uA7,bound,zSp,zA1,zA3]
  rfl
 have slA14:∀ (X:aa) (n:Nat),cg Tryz.prog X 165 (.pointer (some ⟨n,0,none⟩)) none none none=some (.slice (some ⟨n,0,some 0⟩) 14 14,X):=fun X n=>by
  simp only[cg,uA14,bound,zSp,zA1,zA3]
  rfl
 obtain⟨d0,hd0⟩:∃ d,Ex c=d:=⟨_,rfl⟩
 obtain⟨d1,hd1⟩:∃ d,QG c qN=d:=⟨_,rfl⟩
 obtain⟨d2,hd2⟩:∃ d,QG c ya=d:=⟨_,rfl⟩
 have his:=Ru (ext H [⟨164,false,Nn qN⟩,⟨165,false,Nn ya⟩]) c
 have hin0:=QM (ext H [⟨164,false,Nn qN⟩,⟨165,false,Nn ya⟩]) (b+0) c qN ⟨164,by rw[bu hb (by simp)]; rfl⟩ (by decide)
 have hin1:=QM (ext H [⟨164,false,Nn qN⟩,⟨165,false,Nn ya⟩]) (b+1) c ya ⟨165,by rw[bu hb (by simp)]; rfl⟩ (by decide)
 rw[hd0]at his
 rw[hd1]at hin0
 rw[hd2]at hin1
 have hl0:qN.length=7:=rfl
 have hl1:ya.length=14:=rfl
 rw[hl0]at hin0
 rw[hl1]at hin1
 have key:dI c=cond (!d0||d1) 0 (cond d2 2 1):=by
  unfold dI
  rw[hd0,hd1,hd2]
  cases d0<;>cases d1<;>cases d2<;>rfl
 rw[key]
 simp only[hb,hbase,zW,seval]
 refine his.to ?_
 cases d0 with
 |false =>
  simp only[zG2,Bool.true_or,cond_true,Tryz.results88,zW,seval]
  exact Fin.cz rfl rfl
 |true =>
  simp only[slA7,zW,seval]
  refine hin0.to ?_
  cases d1 with
  |true =>
   simp only[Bool.or_true,cond_true,Tryz.results88,zW,seval]
   exact Fin.cz rfl rfl
  |false =>
   simp only[slA14,zW,seval]
   refine hin1.to ?_
   cases d2<;>(simp only[Bool.or_false,cond_true,cond_false,Tryz.results88,zW,seval]; exact Fin.cz rfl rfl)
theorem Hl {len cap n:Nat} {s:Option Nat} {k:Nat} (hk:k<len):aP Tryz.prog 22 (.slice (some ⟨n,0,s⟩) len cap) (.int .i64 (k:Int))=some (.pointer (some ⟨n,k,none⟩)):=by
 rw[gl (e:=3) (sz:=1) (by kernel_rfl) (by kernel_rfl) (by omega) (by omega)]
 simp
def bt (l:List UInt8) (i:Nat):Int:=((l.getD i 0).toNat:Int)
theorem GM (l:List UInt8) (i:Nat):0<=bt l i/\bt l i<256:=by
 have:=(l.getD i 0).toNat_lt
 unfold bt
 omega
def tl (l:List UInt8) (i:Nat):Bool:=decide (i<l.length)&&decide (128<=bt l i)&&decide (bt l i<192)
theorem uW {l:List UInt8} {i:Nat} (h:tl l i=true):i<l.length/\128<=bt l i/\bt l i<192:=by
 simp only[tl,zA4,decide_eq_true_eq]at h
 exact⟨h.1.1,h.1.2,h.2⟩
theorem u9:Tryz.prog.underlying 9=some .string:=by kernel_rfl
theorem pq (s:ByteArray):s.size=s.data.toList.length:=Array.length_toList.symm
def sH (l:List UInt8):Int × Int :=
 cond (decide (bt l 0<128)) (bt l 0,1) <|
 cond (decide (194<=bt l 0)&&decide (bt l 0<224)&&tl l 1) ((bt l 0-192)*64+bt l 1-128,2) <|
 cond (decide (224<=bt l 0)&&decide (bt l 0<240)&&tl l 1&&tl l 2)
  (cond (decide (2048<=((bt l 0-224)*64+bt l 1-128)*64+bt l 2-128)&&Ex (((bt l 0-224)*64+bt l 1-128)*64+bt l 2-128)) (((bt l 0-224)*64+bt l 1-128)*64+bt l 2-128,3) (0,0)) <|
 cond (decide (240<=bt l 0)&&decide (bt l 0<245)&&tl l 1&&tl l 2&&tl l 3)
  (cond (decide (65536<=(((bt l 0-240)*64+bt l 1-128)*64+bt l 2-128)*64+bt l 3-128)&&Ex ((((bt l 0-240)*64+bt l 1-128)*64+bt l 2-128)*64+bt l 3-128)) ((((bt l 0-240)*64+bt l 1-128)*64+bt l 2-128)*64+bt l 3-128,4) (0,0))
 (0,0)
end Go.Proofs.YtpohjcacnkhnkaaGreatDoor
namespace Go.Proofs.YtpohjcacnkhnkaaGreatDoor.Tq
open Go.Ax
theorem kM {n:Nat} (h:n<2147483648):Iy (n:Int)=n:=by
 simp only[Iy,IntKind.wrap,IntKind.signed,IntKind.bits]
 simp
 omega
theorem pR {k m y:Nat} (hy:y<2 ^ k) (h:m*2 ^ k+y<2147483648):Jo .i32 ((m*2 ^ k:Nat):Int) ((y:Nat):Int)=((m*2 ^ k+y:Nat):Int):=by
 have e:m*2 ^ k ||| y=m*2 ^ k+y:=by
  have:=Nat.shiftLeft_add_eq_or_of_lt hy m
  rw[Nat.shiftLeft_eq]at this
  exact this.symm
 have hm:m*2 ^ k<2147483648:=by omega
 have hy2:y<2147483648:=by omega
 have e2:(BitVec.ofInt 32 ((m*2 ^ k:Nat):Int) ||| BitVec.ofInt 32 ((y:Nat):Int)).toNat=m*2 ^ k+y:=by
  rw[BitVec.toNat_or,BitVec.ofInt_natCast,BitVec.ofInt_natCast,BitVec.toNat_ofNat,BitVec.toNat_ofNat,Nat.mod_eq_of_lt (by omega),Nat.mod_eq_of_lt (by omega),e]
 unfold Jo
 rw[show IntKind.i32.bits=32 from rfl,e2]
 exact kM h
theorem tM {n k:Nat} (hk:k<=32) (h:n*2 ^ k<2147483648):vz .i32 (n:Int) k=((n*2 ^ k:Nat):Int):=by
 unfold vz
 rw[show min k IntKind.i32.bits=k from Nat.min_eq_left hk]
 have:=kM h
 unfold Iy at this
 rw[<-this]
 congr 1
def KY (a:Nat):Bool:=decide (fe .u8 (a:Int) 31=(a % 32:Nat))&&decide (fe .u8 (a:Int) 15=(a % 16:Nat))&&decide (fe .u8 (a:Int) 7=(a % 8:Nat))&&decide (fe .u8 (a:Int) 63=(a % 64:Nat))
theorem Oh:(List.range 256).all KY=true:=by kernel_rfl
theorem nP (a:UInt8):fe .u8 (a.toNat:Int) 31=(a.toNat % 32:Nat)/\fe .u8 (a.toNat:Int) 15=(a.toNat % 16:Nat)/\fe .u8 (a.toNat:Int) 7=(a.toNat % 8:Nat)/\fe .u8 (a.toNat:Int) 63=(a.toNat % 64:Nat):=by
 have:=zC6.1 Oh a.toNat (zG0.2 a.toNat_lt)
 simp only[KY,zA4,decide_eq_true_eq]at this
 exact⟨this.1.1.1,this.1.1.2,this.1.2,this.2⟩
def tt (a:Nat):Option (Int × Int × Int) :=
 if a<194 then none else if a<224 then some (2,128,191) else if a=224 then some (3,160,191) else if a=237 then some (3,128,159) else if a<240 then some (3,128,191)
 else if a=240 then some (4,144,191) else if a<244 then some (4,128,191) else if a=244 then some (4,128,143) else none
def FB (a:Nat):Bool:=match tt a with
 |none=>decide (240<=cf a)&&decide (IntKind.i64.wrap (fe .u8 (cf a) 7)<=1)
 |some (n,lo,hi)=>decide (cf a<240)&&decide (IntKind.i64.wrap (fe .u8 (cf a) 7)=n)&&decide (gQ ((jZ .u8 (cf a) 4).toNat*2)=lo)&&decide (gQ ((jZ .u8 (cf a) 4).toNat*2+1)=hi)
theorem Hr:(List.range 256).all FB=true:=by kernel_rfl
theorem rz {a:UInt8} {n lo hi:Int} (h:tt a.toNat=some (n,lo,hi)):cf a.toNat<240/\fa a=n/\gQ ((jZ .u8 (cf a.toNat) 4).toNat*2)=lo/\gQ ((jZ .u8 (cf a.toNat) 4).toNat*2+1)=hi:=by
 have:=zC6.1 Hr a.toNat (zG0.2 a.toNat_lt)
 rw[FB,h]at this
 simp only[zA4,decide_eq_true_eq]at this
 exact⟨this.1.1.1,this.1.1.2,this.1.2,this.2⟩
theorem N4 {a b:UInt8} (h1:194<=a.toNat) (h2:a.toNat<224) (h3:128<=b.toNat) (h4:b.toNat<192):Qj a b=((a.toNat:Int)-192)*64+b.toNat-128:=by
 obtain⟨a1,_,_,_⟩:=nP a
 obtain⟨_,_,_,b4⟩:=nP b
 unfold Qj
 rw[a1,b4,kM (by omega),kM (by omega),tM (by decide) (by omega),pR (by omega) (by omega)]
 omega
theorem Oc {a b c:UInt8} (h1:224<=a.toNat) (h2:a.toNat<240) (h3:128<=b.toNat) (h4:b.toNat<192) (h5:128<=c.toNat) (h6:c.toNat<192):P4 a b c=(((a.toNat:Int)-224)*64+b.toNat-128)*64+c.toNat-128:=by
 obtain⟨_,a2,_,_⟩:=nP a
 obtain⟨_,_,_,b4⟩:=nP b
 obtain⟨_,_,_,c4⟩:=nP c
 unfold P4
 rw[a2,b4,c4,kM (by omega),kM (by omega),kM (by omega),tM (by decide) (by omega),tM (by decide) (by omega),pR (k:=12) (by omega) (by omega)]
 rw[show (a.toNat % 16*2 ^ 12+b.toNat % 64*2 ^ 6:Nat)=(a.toNat % 16*64+b.toNat % 64)*2 ^ 6 by omega,pR (by omega) (by omega)]
 omega
theorem NY {a b c d:UInt8} (h1:240<=a.toNat) (h2:a.toNat<245) (h3:128<=b.toNat) (h4:b.toNat<192) (h5:128<=c.toNat) (h6:c.toNat<192) (h7:128<=d.toNat) (h8:d.toNat<192):P6 a b c d=((((a.toNat:Int)-240)*64+b.toNat-128)*64+c.toNat-128)*64+d.toNat-128:=by
 obtain⟨_,_,a3,_⟩:=nP a
 obtain⟨_,_,_,b4⟩:=nP b
 obtain⟨_,_,_,c4⟩:=nP c
 obtain⟨_,_,_,d4⟩:=nP d
 unfold P6
 rw[a3,b4,c4,d4,kM (by omega),kM (by omega),kM (by omega),kM (by omega),tM (by decide) (by omega),tM (by decide) (by omega),tM (by decide) (by omega),pR (k:=18) (by omega) (by omega)]
 rw[show (a.toNat % 8*2 ^ 18+b.toNat % 64*2 ^ 12:Nat)=(a.toNat % 8*64+b.toNat % 64)*2 ^ 12 by omega,pR (by omega) (by omega)]
 rw[show ((a.toNat % 8*64+b.toNat % 64)*2 ^ 12+c.toNat % 64*2 ^ 6:Nat)=((a.toNat % 8*64+b.toNat % 64)*64+c.toNat % 64)*2 ^ 6 by omega,pR (by omega) (by omega)]
 omega
abbrev Ex:=Go.Proofs.YtpohjcacnkhnkaaGreatDoor.Ex
abbrev dI:=Go.Proofs.YtpohjcacnkhnkaaGreatDoor.dI
theorem OZ:Wd dI where
 call:=fun c H _ _=>Go.Proofs.YtpohjcacnkhnkaaGreatDoor.gW H c
 le:=fun c=>by unfold dI Go.Proofs.YtpohjcacnkhnkaaGreatDoor.dI; split<;>(try split)<;>omega
def fL:yY:=⟨dI,jb,oz⟩
theorem tj.step {H H1:aa} {p p1:Rp} {y:Tm} (t:tj H) (s:Step H p H1 p1 y) (h0:0∉p.aJ) (h1:1∉p.aJ):tj H1/\0∉p1.aJ/\1∉p1.aJ:=by
 have b0:=s.mod.bk t.l0 h0
 have b1:=s.mod.bk t.l1 h1
 refine⟨⟨fun a ha=>by rw[b0]; exact t.f a ha,fun i hi=>by rw[b1]; exact t.a i hi,s.mod.lt t.l0,s.mod.lt t.l1⟩,fun h=>?_,fun h=>?_⟩
 ·rcases s.new _ h with h|h
  ·exact h0 h
  ·have:=t.l0; omega
 ·rcases s.new _ h with h|h
  ·exact h1 h
  ·have:=t.l1; omega
theorem cK.drop {H:aa} {v:Value} {l:List UInt8} (h:cK H v l) (hl:l≠[]) {k:Nat} (hk:k<=l.length):∃ a,cg Tryz.prog (ext H []) 25 v (some (.int .i64 (k:Int))) none none=some (.slice a (l.length-k) (l.length-k),ext H [])/\cK H (.slice a (l.length-k) (l.length-k)) (l.drop k)/\ae (.slice a (l.length-k) (l.length-k))=ae v:=by
 have hu:Tryz.prog.underlying 25=some (.slice 5):=by kernel_rfl
 have hsz:bh Tryz.prog 5=some 1:=by kernel_rfl
 have hpos:0<l.length:=List.length_pos_iff.2 hl
 rcases h with⟨rfl,rfl⟩|⟨_,n,pre,rfl,hb⟩|⟨rfl,n,off,j,L,rfl,hb,hle⟩|⟨rfl,n,rfl,hb⟩
 ·exact absurd rfl hl
 ·rw[ext_nil]
  by_cases hkl:k<l.length
  ·refine⟨some ⟨n,pre.length+k*1,none⟩,qB hu hsz dM rfl (zA8 _) hk hkl hb rfl,.inr (.inl ⟨?_,n,pre++l.take k,?_,?_⟩),by simp[ae]⟩
   ·intro e
    have:=congrArg List.length e
    simp at this
    omega
   ·have e:(pre++l.take k).length=pre.length+k*1:=by simp; omega
    rw[e,zD8]
   ·rw[hb,zD3,zG8]
  ·have hke:k=l.length:=by omega
   have hs:=Cp (P:=Tryz.prog) (H:=H) (t:=25) (e:=5) (sz:=1) (n:=n) (off:=pre.length) (len:=l.length) (cap:=l.length) (lo:=some (.int .i64 (k:Int))) (hi:=none) hu hsz dM rfl rfl hke hpos hb rfl
   have hz:l.length-k=0:=by omega
   rw[hz]
   refine⟨some ⟨n,pre.length+k*1,some (pre.length+1)⟩,hs,.inr (.inr (.inl ⟨zF1 (by omega),n,_,_,_,rfl,hb,?_⟩)),by simp[ae]⟩
   rw[eU,zB4]; omega
 ·exact absurd rfl hl
 ·exact absurd rfl hl
theorem Be (x:Tm) (c:Int):(x.control c).rest=x.rest/\(x.control c).params=x.params:=by
 unfold Tm.control
 repeat' split
 all_goals exact⟨rfl,rfl⟩
theorem Fj (u:yY) (x:Tm) (c:Int):(x.write u c).rest=x.rest/\(x.write u c).params=x.params:=by
 unfold Tm.write
 simp only
 split
 ·exact⟨rfl,rfl⟩
 ·split<;>exact⟨rfl,rfl⟩
theorem gf (u:yY) (x:Tm) (c:Int):(x.character u c).rest=x.rest/\(x.character u c).params=x.params:=by
 unfold Tm.character
 split
 ·exact Be x c
 ·exact Fj u x c
def Tm.aT (x:Tm) (l:List UInt8):Tm:={x with rest:=l}
theorem Tm.Sz.aT {x:Tm} (s:x.Sz) (l:List UInt8):(x.aT l).Sz :=
 ⟨s.h1,s.h2,s.w1,s.w2,s.ws,s.r1,s.r2,s.c1,s.c2,s.sr1,s.sr2,s.sc1,s.sc2,s.t1,s.t2,s.t3,s.md,s.hd⟩
theorem cd.Cj {H H1:aa} {p:Rp} {x:Tm} (g:cd H p x) (v:Value) (l:List UInt8) (m:Mod (ae p.rv) H H1) (hv:cK H1 v l) (hi:∀ n∈ae v,n∈ae p.rv\/(H.next<=n/\n<H1.next)) (hnd:(ae v).Nodup):Step H p (ext (uw H1 p.t 19 [v]) []) {p with rv:=v,pv:=p.pv} (x.aT l):=by
 have hnd0:=(zC9.1 (zC9.1 g.nd).2).2
 rw[zD3]at hnd0
 have hnd1:=zD4.1 (zD4.1 hnd0).2.1
 have hT:=g.lt p.t (by simp[Rp.aJ])
 have htv:p.t∉ae p.rv:=fun h=>(zC9.1 g.nd).1 (by simp[h])
 have hbT:bk H1 p.t=some ⟨66,false,ba p x⟩:=(m.bk hT htv).trans g.cell
 have hvt:∀ n∈ae v,n≠p.t:=fun n hn e=>by
  rcases hi n hn with h|⟨h,_⟩
  ·exact htv (e▸h)
  ·omega
 have mU:Mod [p.t] H1 (ext (uw H1 p.t 19 [v]) []):=Mod.uw (by simp)
 refine g.Co v p.pv ((m.mono (by intro n hn; simp[hn])).trans (mU.mono (by intro n hn; simp at hn; simp[hn]))) ?_ rfl ?_ ?_ ?_ ?_
 ·rw[ext_nil,bR,hbT]; rfl
 ·exact hv.of fun n hn=>by rw[ext_nil]; exact gL (hvt n hn)
 ·refine g.par.of fun n hn=>?_
  rw[ext_nil,gL (fun e=>(zC9.1 g.nd).1 (by rw[<-e]; simp[hn]))]
  exact m.get n (g.lt n (by simp[Rp.aJ,hn])) (fun h=>hnd1.2.2 n h n hn rfl)
 ·intro n hn
  rcases zB2.1 hn with h|h
  ·rcases hi n h with h|h
   ·exact .inl (by simp[h])
   ·exact .inr ⟨h.1,by rw[ext_nil,b6]; exact h.2⟩
  ·exact .inl (by simp[h])
 ·refine zD4.2 ⟨hnd,hnd1.2.1,fun a ha b hb e=>?_⟩
  rcases hi a ha with h|⟨h,_⟩
  ·exact hnd1.2.2 a h b hb e
  ·have:=g.lt b (by simp[Rp.aJ,hb]); omega
theorem Ns (H:aa) (p:Rp) (x:Tm) (c:UInt8) (g:cd H p x) (s:x.Sz) (ok:H.base<=H.next) (tb:tj H) (p0:0∉p.aJ) (p1:1∉p.aJ) (hrl:x.rest.length<=900) :
  gF 41 [jU c] H p (.int .i64 ((x.plain fL c).2:Int)) (x.plain fL c).1:=by
 obtain⟨b,hb⟩:=Go.Ax.bP H.next
 have hT:p.t<b:=hb▸g.lt p.t (by simp[Rp.aJ])
 have h1:=g.cell
 simp only[ba]at h1
 obtain⟨arv,hrv⟩:=g.rest.sl
 have h2:=h1
 rw[hrv]at h2
 obtain⟨G,happ,hwG,mG,hn2⟩:=AM (c:=c) g.rest (fun n hn=>g.lt n (by simp[Rp.aJ,hn])) hb (by omega) ok
 obtain⟨nw,hnw⟩:=Go.Ax.bP (b+1)
 rw[hnw]at happ hwG hn2
 have okG:=mG.ok ok
 have st0:=g.Cj _ _ mG hwG (fun n hn=>by simp only[ae,zA5]at hn; subst hn; exact .inr ⟨by omega,hn2⟩) (by simp[ae])
 obtain⟨gn,hgn⟩:=Go.Ax.bP G.next
 have hTG:p.t<gn:=by rw[<-hgn]; exact mG.lt (g.lt p.t (by simp[Rp.aJ]))
 have hnwg:nw<gn:=hgn▸hn2
 have hbG:=st0.at_.cell
 have htv:p.t∉ae p.rv:=fun h=>(zC9.1 g.nd).1 (by simp[h])
 have hcG:bk G p.t=some ⟨66,false,ba p x⟩:=(mG.bk (g.lt p.t (by simp[Rp.aJ])) htv).trans g.cell
 simp only[ba]at hcG
 rw[hrv]at happ
 refine aG mixed Tryz.func41 rfl Tryz.ntmps41 (zA6 rfl) ?_
 simp (maxDischargeDepth:=6) only[hb,hT,h2,happ,hgn,hTG,hnwg,hcG,zW,Nat.reduceLeDiff,Nat.reduceLT,Nat.reduceAdd,Nat.reduceEqDiff]
 generalize hV:uw G p.t 19 _=V at st0 ⊢
 rw[ext_nil]at st0
 refine eT fun E hE=>?_
 have g0:E 0=.pointer (some ⟨p.t,0,none⟩):=by rw[hE]; rfl
 clear hE
 have hcv:∀ (X:aa) (m:Int),cj Tryz.prog X 21 3 (.int .i32 m)=some (.int .i64 (IntKind.i64.wrap m),X):=fun X m=>iL (u:=.int .i32) (by kernel_rfl) (by kernel_rfl)
 refine bE (fun E' H'=>∃ y p2,Step H p H' p2 y/\x.plain fL c=(y,0)/\E' 0=.pointer (some ⟨p.t,0,none⟩)) ?_ ?_
 ·refine cU (fun (q:Nat × Tm × Rp) E' H'=>Step H p H' q.2.2 q.2.1/\q.2.1.Sz/\q.2.1.rest.length<q.1/\q.2.1.rest.length<=901/\Tm.drain fL q.1 q.2.1=x.plain fL c/\E' 0=.pointer (some ⟨p.t,0,none⟩)) (fun q=>q.2.1.rest.length) (x.rest.length+2,x.aT (x.rest++[c]),{p with rv:=.slice (some ⟨nw,0,none⟩) (x.rest.length+1) (x.rest.length+1),pv:=p.pv})
   ⟨st0,s.aT _,by simp[Tm.aT],by simp[Tm.aT]; omega,rfl,g0⟩ ?_
  clear g0 E hV st0 hbG V
  rintro⟨k,y,p2⟩ E X ⟨st,sy,hk,hlen,hdr,g0⟩
  simp only at st sy hk hlen hdr
  rw[show X=ext X [] from rfl]
  have okX:=st.ok ok
  obtain⟨xb,hxb⟩:=Go.Ax.bP X.next
  have hT:p.t<xb:=hxb▸st.same▸st.at_.lt p2.t (by simp[Rp.aJ])
  have h1:=st.at_.cell
  rw[st.same]at h1
  simp only[ba]at h1
  obtain⟨ar,hrv⟩:=st.at_.rest.sl
  obtain⟨R,hR⟩:=Go.Ax.bP y.rest.length
  rw[hR]at hrv
  rw[hrv]at h1
  obtain⟨tX,q0,q1⟩:=tb.step st p0 p1
  obtain⟨k',rfl⟩:∃ k',k=k'+1:=⟨k-1,by omega⟩
  by_cases hnil:y.rest=[]
  ·have hR0:R=0:=by rw[<-hR,hnil]; rfl
   have hd:decide ((0:Int)<(R:Int))=false:=decide_eq_false (by omega)
   simp (maxDischargeDepth:=6) only[g0,hxb,hT,h1,hd,zW,Nat.reduceLT,Nat.reduceAdd,Nat.reduceEqDiff]
   refine aj ⟨y,p2,st,?_,?_⟩
   ·rw[<-hdr,Tm.drain,if_neg (fun h=>h.1 hnil)]
   ·exact g0
  have hRp:0<R:=by rw[<-hR]; exact List.length_pos_iff.2 hnil
  have hd:decide ((0:Int)<(R:Int))=true:=decide_eq_true (by omega)
  have hfu:=PY X p2.rv y.rest st.at_.rest (fun n hn=>st.at_.lt n (by simp[Rp.aJ,hn])) tX hnil (by omega)
  rw[hrv]at hfu
  cases hf:jb y.rest with
  |false =>
   rw[hf]at hfu
   simp (maxDischargeDepth:=6) only[g0,hxb,hT,h1,hd,zW,Nat.reduceLT,Nat.reduceAdd,Nat.reduceEqDiff]
   refine (show br Tryz.prog 79 _ (ext X []) _ (ext X []) from hfu).to ?_
   simp (maxDischargeDepth:=6) only[zW,Nat.reduceLT,Nat.reduceEqDiff]
   refine aj ⟨y,p2,st,?_,?_⟩
   ·rw[<-hdr,Tm.drain,if_neg (fun h=>by have:=h.2; rw[show fL.full y.rest=jb y.rest from rfl,hf]at this; cases this)]
   ·exact g0
  |true =>
  rw[hf]at hfu
  have hcond:y.rest≠[]/\fL.full y.rest=true:=⟨hnil,hf⟩
  obtain⟨a,r,har⟩:∃ a r,y.rest=a::r:=by cases hy:y.rest with|nil=>exact absurd hy hnil|cons a r=>exact⟨a,r,rfl⟩
  have hga:=st.at_.rest.get (k:=0) (c:=a) (by rw[har]; rfl)
  obtain⟨n0,o0,i0,m0,ld0⟩:=hga
  rw[hrv,show ((0:Nat):Int)=0 from rfl]at i0
  have t0:n0<xb:=hxb▸st.at_.lt n0 (by simp[Rp.aJ,m0])
  have q27:=j0 (c:=a) (n:=27) (by omega)
  simp only[Int.cast_ofNat_Int]at q27
  by_cases h27:a=27
  ·have t27:decide ((a.toNat:Int)=27)=true:=by rw[q27]; exact decide_eq_true h27
   have hpl:x.plain fL c=(y.aT [],1):=by
    have hh:y.rest.headD 0=27:=by rw[har]; exact h27
    rw[<-hdr,Tm.drain,if_pos hcond,if_pos hh]
    rfl
   rw[hpl]
   have stN:=st.at_.Cj (.slice none 0 0) [] Mod.refl (.inl ⟨rfl,rfl⟩) (by simp[ae]) (by simp[ae])
   rw[st.same]at stN
   simp (maxDischargeDepth:=6) only[g0,hxb,hT,h1,hd,zW,Nat.reduceLT,Nat.reduceAdd,Nat.reduceEqDiff]
   refine (show br Tryz.prog 79 _ (ext X []) _ (ext X []) from hfu).to ?_
   simp (maxDischargeDepth:=6) only[g0,hxb,hT,h1,i0,t0,ld0,t27,eF,Tryz.results41,zW,Nat.reduceLeDiff,Nat.reduceLT,Nat.reduceAdd,Nat.reduceEqDiff]
   exact⟨rfl,_,st.trans ok stN⟩
  have f27:decide ((a.toNat:Int)=27)=false:=by rw[q27]; exact decide_eq_false h27
  have hde:=Q9 X p2.rv y.rest st.at_.rest (fun n hn=>st.at_.lt n (by simp[Rp.aJ,hn])) tX hnil (by omega)
  rw[hrv]at hde
  obtain⟨hn1,hn2⟩:=Ll y.rest hnil
  have h32:=ND y.rest
  obtain⟨cr,n,hcr⟩:∃ cr n,oz y.rest=(cr,n):=⟨_,_,rfl⟩
  rw[hcr]at hde hn1 hn2 h32
  simp only at hde hn1 hn2 h32
  obtain⟨y2,hy2⟩:=Go.Ax.bP ((if cr≠65533\/n>1 then y.character fL cr else y))
  have hdr2:Tm.drain fL k' (y2.aT (y2.rest.drop n))=x.plain fL c:=by
   rw[<-hdr,Tm.drain,if_pos hcond]
   have:¬(y.rest.headD 0=27):=by rw[har]; exact h27
   rw[if_neg this]
   simp only[show fL.dec y.rest=(cr,n) from hcr]
   rw[hy2]
   rfl
  have hy2r:y2.rest=y.rest:=by
   rw[<-hy2]
   split
   ·exact (gf fL y cr).1
   ·rfl
  have sy2:y2.Sz:=by
   rw[<-hy2]
   split
   ·exact sy.character cr
   ·exact sy
  have hwc:IntKind.i64.wrap cr=cr:=aQ (by have:=h32.1; omega) (by have:=h32.2; omega)
  -- what comes behind the character
  have tail:∀ (Z:aa) (p3:Rp) (E':Env),Step X p2 Z p3 y2->∃ a' p4,cg Tryz.prog (ext Z []) 25 p3.rv (some (.int .i64 (n:Int))) none none=some (.slice a' (R-n) (R-n),ext Z [])/\Step H p (ext (uw Z p.t 19 [.slice a' (R-n) (R-n)]) []) p4 (y2.aT (y2.rest.drop n)):=by
   intro Z p3 E' st2
   have hne2:y2.rest≠[]:=by rw[hy2r]; exact hnil
   obtain⟨a',hs,hb',hid⟩:=st2.at_.rest.drop hne2 (k:=n) (by rw[hy2r]; exact hn2)
   rw[hy2r,hR]at hs hb' hid
   refine⟨a',⟨p.t,p3.rb,p3.rs,.slice a' (R-n) (R-n),p3.pv⟩,hs,?_⟩
   have hnd3:=(zC9.1 (zC9.1 st2.at_.nd).2).2
   rw[zD3]at hnd3
   have stN:=st2.at_.Cj (.slice a' (R-n) (R-n)) (y2.rest.drop n) Mod.refl (by rw[hy2r]; exact hb') (fun q hq=>.inl (hid▸hq)) (by rw[hid]; exact (zD4.1 (zD4.1 hnd3).2.1).1)
   have stF:=(st.trans ok st2).trans ok stN
   rw[show p3.t=p.t from st2.same.trans st.same]at stF
   exact stF
  have hnat:∀ m:Nat,decide ((1:Int)<(n:Int))=decide (n>1):=fun _=>by
   by_cases h:n>1
   ·rw[decide_eq_true h,decide_eq_true (by omega)]
   ·rw[decide_eq_false h,decide_eq_false (by omega)]
  obtain⟨e1,he1⟩:∃ e,decide (cr=65533)=e:=⟨_,rfl⟩
  have he1':decide (¬cr=65533)=!e1:=by rw[<-he1]; simp
  obtain⟨e2,he2⟩:∃ e,decide ((1:Int)<(n:Int))=e:=⟨_,rfl⟩
  simp (maxDischargeDepth:=6) only[g0,hxb,hT,h1,hd,zW,Nat.reduceLT,Nat.reduceAdd,Nat.reduceEqDiff]
  refine (show br Tryz.prog 79 _ (ext X []) _ (ext X []) from hfu).to ?_
  simp (maxDischargeDepth:=6) only[g0,hxb,hT,h1,i0,t0,ld0,f27,zW,Nat.reduceLT,Nat.reduceAdd,Nat.reduceEqDiff]
  refine (show br Tryz.prog 80 _ (ext X []) _ (ext X []) from hde).to ?_
  have next:∀ (Z:aa) (p3:Rp),Step X p2 Z p3 y2->∃ a' p4,bk Z p.t=some ⟨66,false,ba p3 y2⟩/\p.t<Z.next/\cg Tryz.prog (ext Z []) 25 p3.rv (some (.int .i64 (n:Int))) none none=some (.slice a' (R-n) (R-n),ext Z [])/\(∀ q∈ae (.slice a' (R-n) (R-n)),q<Z.next)/\Step H p (ext (uw Z p.t 19 [.slice a' (R-n) (R-n)]) []) p4 (y2.aT (y2.rest.drop n)):=by
   intro Z p3 st2
   obtain⟨a',p4,t1,t2⟩:=tail Z p3 (fun _=>undef) st2
   have hcz:=st2.at_.cell
   have htz:=st2.at_.lt p3.t (by simp[Rp.aJ])
   rw[show p3.t=p.t from st2.same.trans st.same]at hcz htz
   have hsub:ae (.slice a' (R-n) (R-n))=ae p3.rv:=by
    obtain⟨a2,hs2,_,hid2⟩:=st2.at_.rest.drop (by rw[hy2r]; exact hnil) (k:=n) (by rw[hy2r]; exact hn2)
    rw[hy2r,hR,t1]at hs2
    have:=Option.some.inj hs2
    rw[hy2r,hR]at hid2
    rw[(Prod.mk.inj this).1]
    exact hid2
   exact⟨a',p4,hcz,htz,t1,fun q hq=>st2.at_.lt q (by rw[hsub]at hq; simp[Rp.aJ,hq]),t2⟩
  have fin:∀ (Z:aa) (p3:Rp),Step X p2 Z p3 y2->∃ a' p4,Step H p (ext (uw Z p.t 19 [.slice a' (R-n) (R-n)]) []) p4 (y2.aT (y2.rest.drop n)):=fun Z p3 h=>by
   obtain⟨a',p4,_,_,_,_,h⟩:=next Z p3 h
   exact⟨a',p4,h⟩
  have hlen2:(y2.rest.drop n).length=R-n:=by rw[zD8,hy2r,hR]
  cases hb2:(!e1||e2) with
  |true =>
   have hyc:y2=y.character fL cr:=by
    rw[<-hy2,if_pos]
    cases e1 with
    |false=>exact .inl (of_decide_eq_false he1)
    |true =>
     simp only[zE0,Bool.false_or]at hb2
     exact .inr (by have:=of_decide_eq_true (he2.trans hb2); omega)
   have hch:=DX fL OZ X p2 y cr st.at_ sy okX h32.1 h32.2
   unfold gF at hch
   rw[st.same,<-hyc]at hch
   cases e1<;>cases e2<;>first
    |(exfalso; revert hb2; decide)
    | (simp (maxDischargeDepth := 6) only [g0, he1', he2, bQ, hcv, hwc, zE0, zG2, zW, Nat.reduceLT, Nat.reduceEqDiff]
       refine (show bF Tryz.prog 81 _ (ext X []) _ from hch).mono ?_
       rintro _ Z ⟨rfl,p3,st2⟩
       obtain⟨a',p4,hcz,htz,hslz,hidz,hstz⟩:=next Z p3 st2
       obtain⟨zn,hzn⟩:=Go.Ax.bP Z.next
       rw[hzn]at htz hidz
       simp only[ba]at hcz
       rw[show Z=ext Z [] from rfl]
       cases a' with
       |none =>
        simp (maxDischargeDepth:=6) only[g0,hzn,htz,hcz,hslz,zW,Nat.reduceLeDiff,Nat.reduceLT,Nat.reduceAdd,Nat.reduceEqDiff]
        refine aM ⟨(k',y2.aT (y2.rest.drop n),p4),by simp only[Tm.aT]; omega,hstz,sy2.aT _,by simp only[Tm.aT]; omega,by simp only[Tm.aT]; omega,hdr2,?_⟩
        simp only[g0,aW,Nat.reduceEqDiff]
       |some a3 =>
        obtain⟨ab,ao,asp⟩:=a3
        have habl:ab<zn:=hidz ab (by simp[ae])
        simp (maxDischargeDepth:=6) only[g0,hzn,htz,hcz,hslz,habl,zW,Nat.reduceLeDiff,Nat.reduceLT,Nat.reduceAdd,Nat.reduceEqDiff]
        refine aM ⟨(k',y2.aT (y2.rest.drop n),p4),by simp only[Tm.aT]; omega,hstz,sy2.aT _,by simp only[Tm.aT]; omega,by simp only[Tm.aT]; omega,hdr2,?_⟩
        simp only[g0,aW,Nat.reduceEqDiff])
  |false =>
   have hyc:y2=y:=by
    rw[<-hy2,if_neg]
    cases e1 with
    |false=>simp at hb2
    |true =>
     simp only[zE0,Bool.false_or]at hb2
     rintro (h|h)
     ·exact h (of_decide_eq_true he1)
     ·have:=of_decide_eq_false (he2.trans hb2); omega
   obtain⟨a',p4,hcz,htz,hslz,hidz,hstz⟩:=next X p2 (by rw[hyc]; exact Step.refl st.at_)
   rw[hxb]at htz hidz
   rw[hrv]at hslz
   cases e1<;>cases e2<;>first
    |(exfalso; revert hb2; decide)
    | (cases a' with
       |none =>
        simp (maxDischargeDepth:=6) only[g0,hxb,hT,h1,he1',he2,hslz,zE0,zW,Nat.reduceLeDiff,Nat.reduceLT,Nat.reduceAdd,Nat.reduceEqDiff]
        refine aM ⟨(k',y2.aT (y2.rest.drop n),p4),by simp only[Tm.aT]; omega,hstz,sy2.aT _,by simp only[Tm.aT]; omega,by simp only[Tm.aT]; omega,hdr2,?_⟩
        simp only[g0,aW,Nat.reduceEqDiff]
       |some a3 =>
        obtain⟨ab,ao,asp⟩:=a3
        have habl:ab<xb:=hidz ab (by simp[ae])
        simp (maxDischargeDepth:=6) only[g0,hxb,hT,h1,he1',he2,hslz,habl,zE0,zW,Nat.reduceLeDiff,Nat.reduceLT,Nat.reduceAdd,Nat.reduceEqDiff]
        refine aM ⟨(k',y2.aT (y2.rest.drop n),p4),by simp only[Tm.aT]; omega,hstz,sy2.aT _,by simp only[Tm.aT]; omega,by simp only[Tm.aT]; omega,hdr2,?_⟩
        simp only[g0,aW,Nat.reduceEqDiff])
 ·clear g0 E
  rintro E X ⟨y,p2,st,hpl,g0⟩
  rw[show X=ext X [] from rfl,hpl]
  simp (maxDischargeDepth:=6) only[Tryz.results41,zW,Nat.reduceLT]
  exact⟨rfl,p2,st⟩
end Go.Proofs.YtpohjcacnkhnkaaGreatDoor.Tq
namespace Go.Proofs.YtpohjcacnkhnkaaGreatDoor
open Go.Ax
theorem lE (l:List UInt8) (h0:0<l.length):0<=(sH l).2/\(sH l).2.toNat<=l.length/\-1<(sH l).1+1/\(sH l).1<2000000000:=by
 have r0:=GM l 0
 have r1:=GM l 1
 have r2:=GM l 2
 have r3:=GM l 3
 unfold sH
 cases e0:decide (bt l 0<128) with
 |true=>simp only[cond_true]; omega
 |false =>
  rw[cond_false]
  cases e1:(decide (194<=bt l 0)&&decide (bt l 0<224)&&tl l 1) with
  |true =>
   simp only[zA4,decide_eq_true_eq]at e1
   have:=uW e1.2
   simp only[cond_true]
   omega
  |false =>
   rw[cond_false]
   cases e2:(decide (224<=bt l 0)&&decide (bt l 0<240)&&tl l 1&&tl l 2) with
   |true =>
    simp only[zA4,decide_eq_true_eq]at e2
    have t1:=uW e2.1.2
    have t2:=uW e2.2
    rw[cond_true]
    cases (decide (2048<=((bt l 0-224)*64+bt l 1-128)*64+bt l 2-128)&&Ex (((bt l 0-224)*64+bt l 1-128)*64+bt l 2-128)) with
    |true=>simp only[cond_true]; omega
    |false=>simp only[cond_false]; omega
   |false =>
    rw[cond_false]
    cases e3:(decide (240<=bt l 0)&&decide (bt l 0<245)&&tl l 1&&tl l 2&&tl l 3) with
    |true =>
     simp only[zA4,decide_eq_true_eq]at e3
     have t1:=uW e3.1.1.2
     have t2:=uW e3.1.2
     have t3:=uW e3.2
     rw[cond_true]
     cases (decide (65536<=(((bt l 0-240)*64+bt l 1-128)*64+bt l 2-128)*64+bt l 3-128)&&Ex ((((bt l 0-240)*64+bt l 1-128)*64+bt l 2-128)*64+bt l 3-128)) with
     |true=>simp only[cond_true]; omega
     |false=>simp only[cond_false]; omega
    |false=>simp only[cond_false]; omega
def J4:Nat->List UInt8->Option (List Int)
 |0,l=>if l=[] then some [] else none
 |n+1,l=>if l=[] then some [] else if (sH l).2=0 then none else (J4 n (l.drop (sH l).2.toNat)).map ((sH l).1::·)
theorem zD:∀ (n m:Nat) (l:List UInt8),l.length<=n->l.length<=m->J4 n l=J4 m l
 |0,m,l,hn,_=>by
  have:l=[]:=zE9 (by omega)
  subst this
  cases m<;>rfl
 |n+1,0,l,_,hm=>by
  have:l=[]:=zE9 (by omega)
  subst this
  rfl
 |n+1,m+1,l,hn,hm=>by
  simp only[J4]
  by_cases h:l=[]
  ·rw[if_pos h,if_pos h]
  ·rw[if_neg h,if_neg h]
   by_cases h2:(sH l).2=0
   ·rw[if_pos h2,if_pos h2]
   ·rw[if_neg h2,if_neg h2]
    have hp:0<l.length:=List.length_pos_iff.2 h
    have:=lE l hp
    rw[zD n m _ (by rw[zD8]; omega) (by rw[zD8]; omega)]
def fU (l:List UInt8):Option (List Int):=J4 l.length l
theorem na:fU []=some []:=rfl
theorem kr (l:List UInt8) (h:0<l.length):fU l=if (sH l).2=0 then none else (fU (l.drop (sH l).2.toNat)).map ((sH l).1::·):=by
 unfold fU
 obtain⟨n,hn⟩:∃ n,l.length=n+1:=⟨l.length-1,by omega⟩
 rw[hn,J4,if_neg (fun e=>by rw[e]at h; simp at h)]
 by_cases h2:(sH l).2=0
 ·rw[if_pos h2,if_pos h2]
 ·rw[if_neg h2,if_neg h2]
  have:=lE l h
  rw[zD n _ _ (by rw[zD8]; omega) (zA8 _)]
theorem EM:∀ (n:Nat) (l:List UInt8) (r:List Int),l.length<=n->fU l=some r->r.length<=l.length
 |0,l,r,hn,h=>by
  have:l=[]:=zE9 (by omega)
  subst this
  rw[na]at h
  cases h
  simp
 |n+1,l,r,hn,h=>by
  by_cases h0:0<l.length
  ·rw[kr l h0]at h
   split at h
   ·cases h
   ·rename_i h2
    obtain⟨q,hq,rfl⟩:=zB3.1 h
    have hl:=lE l h0
    have:=EM n _ q (by rw[zD8]; omega) hq
    rw[zD8]at this
    simp only[zB0]
    omega
  ·have:l=[]:=zE9 (by omega)
   subst this
   rw[na]at h
   cases h
   simp
def iv (l:List Int):List Value:=l.map (Value.int .i64)
theorem RG (l:List Int) (n:Nat):aO n (iv l)=true:=by induction l with|nil=>rfl|cons a l ih=>simp only[iv,zC0,aO]at ih ⊢; rw[ih]; rfl
def O8 (H H1:aa) (r:Option (List Int)) (out:Out):Prop :=
 match r with
 |none=>out=.ok (.tuple #[.slice none 0 0,.int .i64 5])
 |some l=>∃ v,out=.ok (.tuple #[v,.int .i64 0])/\du H1 3 1 v (iv l) l.length/\∀ n∈ae v,H.next<=n
theorem NT {X:aa} {v:Value} {l:List Int} {c:Int} {x:Nat} (h:du X 3 1 v (iv l) l.length) (hx:X.next=x) (hb:X.base<=X.next) (hlen:l.length<=4000000) :
  ∃ G,aD Tryz.prog (ext X [⟨3,false,[.int .i64 c]⟩]) .append ⟨[22,22]⟩ [v,.slice (some ⟨x+0,0,some 0⟩) 1 1]=some (.slice (some ⟨x+1,0,none⟩) (l.length+1) (l.length+1),ext G [])/\du G 3 1 (.slice (some ⟨x+1,0,none⟩) (l.length+1) (l.length+1)) (iv (l++[c])) (l++[c]).length/\Mod (ae v) X G/\G.next=x+2:=by
 have h2:du (ext X [⟨3,false,[.int .i64 c]⟩]) 3 1 v (iv l) l.length:=h.of (by rw[ai]; omega) (fun n hn=>bK (h.ne n hn).2)
 have hk:bk (ext X [⟨3,false,[.int .i64 c]⟩]) (x+0)=some ⟨3,false,[.int .i64 c]⟩:=by rw[bu hx (by simp)]; rfl
 have hsm:small (l.length+1) 8=true:=by simp only[small,zA4,zE6]; omega
 obtain⟨G,k1,k2,k3,k4,_⟩:=ta (P:=Tryz.prog) (H:=ext X [⟨3,false,[.int .i64 c]⟩]) (st:=22) (xt:=22) (e:=3) (sz:=1) (by1:=8) (z:=.int .i64 0) (n:=x+0) (off:=0) (cnt2:=1) (cap:=1) (s:=some 0) (x:=x+1) (ws:=[.int .i64 c]) (b:=⟨3,false,[.int .i64 c]⟩)
  (by kernel_rfl) (by kernel_rfl) (by kernel_rfl) (by kernel_rfl) rfl (by kernel_rfl) h2 (jR hk) (by simp) rfl rfl (by decide) hsm (by rw[ai,hx]; rfl) (cB (RG _ _) rfl)
 have e1:iv l++[.int .i64 c]=iv (l++[c]):=by simp[iv]
 rw[e1]at k2
 refine⟨G,k1,by rw[zB4]; exact k2,(Mod.ext hb).trans (k3 ((Mod.ext (W:=[]) hb).ok hb)),k4⟩
end Go.Proofs.YtpohjcacnkhnkaaGreatDoor
namespace Go.Proofs.YtpohjcacnkhnkaaGreatDoor.Tq
open Go.Ax
structure Pr (e:List UInt8) (c:Int):Prop where
 ne:e≠[]
 part:∀ k,0<k->k<e.length->jb (e.take k)=false
 full:jb e=true
 dec:oz e=(c,e.length)
 big:c≠65533\/1<e.length
 esc:e.headD 0=27->c=27
theorem rH {a:UInt8} {r:List UInt8} (h:fa a<=((r.length+1:Nat):Int)):jb (a::r)=true:=by
 have:IntKind.i64.wrap (fe .u8 (cf a.toNat) 7)<=((r.length+1:Nat):Int):=h
 rw[jb,decide_eq_true this]
 rfl
theorem pF {a:UInt8} {r:List UInt8} {n lo hi:Int} (hc:tt a.toNat=some (n,lo,hi)) (h:((r.length+1:Nat):Int)<n):jb (a::r)=r5 lo hi r:=by
 obtain⟨_,h1,h2,h3⟩:=rz hc
 have:¬IntKind.i64.wrap (fe .u8 (cf a.toNat) 7)<=((r.length+1:Nat):Int):=by
  have:IntKind.i64.wrap (fe .u8 (cf a.toNat) 7)=n:=h1
  omega
 rw[jb,decide_eq_false this,h2,h3]
 rfl
theorem zN {a:UInt8} (h:a.toNat<128):Pr [a] (a.toNat:Int):=by
 have hn:tt a.toNat=none:=by unfold tt; rw[if_pos (by omega)]
 have hc:=zC6.1 Hr a.toNat (zG0.2 a.toNat_lt)
 rw[FB,hn]at hc
 simp only[zA4,decide_eq_true_eq]at hc
 refine⟨by simp,fun k h1 h2=>?_,rH hc.2,?_,.inl (by omega),fun h=>?_⟩
 ·simp only[List.length_singleton]at h2; omega
 ·rw[oz,decide_eq_true (by omega)]
  rfl
 ·simp only[List.headD_cons]at h
  rw[h]; rfl
theorem OY {a b:UInt8} (h1:194<=a.toNat) (h2:a.toNat<224) (h3:128<=b.toNat) (h4:b.toNat<192):Pr [a,b] (((a.toNat:Int)-192)*64+b.toNat-128):=by
 have hc:tt a.toNat=some (2,128,191):=by unfold tt; rw[if_neg (by omega),if_pos h2]
 obtain⟨c0,c1,c2,c3⟩:=rz hc
 refine⟨by simp,fun k k1 k2=>?_,rH (by rw[c1]; simp),?_,.inr (by simp),fun h=>?_⟩
 ·simp only[zB0,zB6]at k2
  obtain rfl:k=1:=by omega
  show jb [a]=false
  rw[pF hc (by simp)]; rfl
 ·have hz:decide (((([b]:List UInt8).length+1:Nat):Int)<fa a)=false:=by rw[c1]; rfl
  simp only[oz,iX,n7,oN,PZ]
  rw[hz,decide_eq_false (show ¬(a.toNat:Int)<128 by omega),decide_eq_false (show ¬240<=cf a.toNat by omega),c1,c2,c3,decide_eq_false (show ¬(b.toNat:Int)<128 by omega),decide_eq_false (show ¬(191:Int)<(b.toNat:Int) by omega),N4 h1 h2 h3 h4]
  rfl
 ·simp only[List.headD_cons]at h
  rw[h]at h1; exact absurd h1 (by decide)
theorem J7 {a b c:UInt8} {lo hi:Int} (h1:224<=a.toNat) (h2:a.toNat<240) (h3:128<=b.toNat) (h4:b.toNat<192) (h5:128<=c.toNat) (h6:c.toNat<192) (hc:tt a.toNat=some (3,lo,hi)) (l1:lo<=b.toNat) (l2:(b.toNat:Int)<=hi):Pr [a,b,c] ((((a.toNat:Int)-224)*64+b.toNat-128)*64+c.toNat-128):=by
 obtain⟨c0,c1,c2,c3⟩:=rz hc
 refine⟨by simp,fun k k1 k2=>?_,rH (by rw[c1]; simp),?_,.inr (by simp),fun h=>?_⟩
 ·simp only[zB0,zB6]at k2
  rcases (by omega:k=1\/k=2) with rfl|rfl
  ·show jb [a]=false
   rw[pF hc (by simp)]; rfl
  ·show jb [a,b]=false
   rw[pF hc (by simp)]
   rw[r5,decide_eq_false (by omega),decide_eq_false (by omega)]
   rfl
 ·have hz:decide (((([b,c]:List UInt8).length+1:Nat):Int)<fa a)=false:=by rw[c1]; rfl
  simp only[oz,iX,n7,oN,qs,PZ,Nl]
  rw[hz,decide_eq_false (show ¬(a.toNat:Int)<128 by omega),decide_eq_false (show ¬240<=cf a.toNat by omega),c1,c2,c3,decide_eq_false (show ¬(b.toNat:Int)<lo by omega),decide_eq_false (show ¬hi<(b.toNat:Int) by omega),decide_eq_false (show ¬(c.toNat:Int)<128 by omega),decide_eq_false (show ¬(191:Int)<(c.toNat:Int) by omega),Oc h1 h2 h3 h4 h5 h6]
  rfl
 ·simp only[List.headD_cons]at h
  rw[h]at h1; exact absurd h1 (by decide)
theorem M6 {a b c d:UInt8} {lo hi:Int} (h1:240<=a.toNat) (h2:a.toNat<245) (h3:128<=b.toNat) (h4:b.toNat<192) (h5:128<=c.toNat) (h6:c.toNat<192) (h7:128<=d.toNat) (h8:d.toNat<192) (hc:tt a.toNat=some (4,lo,hi)) (l1:lo<=b.toNat) (l2:(b.toNat:Int)<=hi):Pr [a,b,c,d] (((((a.toNat:Int)-240)*64+b.toNat-128)*64+c.toNat-128)*64+d.toNat-128):=by
 obtain⟨c0,c1,c2,c3⟩:=rz hc
 refine⟨by simp,fun k k1 k2=>?_,rH (by rw[c1]; simp),?_,.inr (by simp),fun h=>?_⟩
 ·simp only[zB0,zB6]at k2
  rcases (by omega:k=1\/k=2\/k=3) with rfl|rfl|rfl
  ·show jb [a]=false
   rw[pF hc (by simp)]; rfl
  ·show jb [a,b]=false
   rw[pF hc (by simp)]
   rw[r5,decide_eq_false (by omega),decide_eq_false (by omega)]
   rfl
  ·show jb [a,b,c]=false
   rw[pF hc (by simp)]
   rw[r5,decide_eq_false (show ¬(b.toNat:Int)<lo by omega),decide_eq_false (show ¬hi<(b.toNat:Int) by omega),decide_eq_false (show ¬(c.toNat:Int)<128 by omega),decide_eq_false (show ¬(191:Int)<(c.toNat:Int) by omega)]
   rfl
 ·have hz:decide (((([b,c,d]:List UInt8).length+1:Nat):Int)<fa a)=false:=by rw[c1]; rfl
  simp only[oz,iX,n7,oN,qs,PZ,Nl]
  rw[hz,decide_eq_false (show ¬(a.toNat:Int)<128 by omega),decide_eq_false (show ¬240<=cf a.toNat by omega),c1,c2,c3,decide_eq_false (show ¬(b.toNat:Int)<lo by omega),decide_eq_false (show ¬hi<(b.toNat:Int) by omega),decide_eq_false (show ¬(c.toNat:Int)<128 by omega),decide_eq_false (show ¬(191:Int)<(c.toNat:Int) by omega),decide_eq_false (show ¬(d.toNat:Int)<128 by omega),decide_eq_false (show ¬(191:Int)<(d.toNat:Int) by omega),NY h1 h2 h3 h4 h5 h6 h7 h8]
  rfl
 ·simp only[List.headD_cons]at h
  rw[h]at h1; exact absurd h1 (by decide)
theorem PR (l:List UInt8) (hl:l≠[]) (h:(sH l).2≠0):Pr (l.take (sH l).2.toNat) (sH l).1:=by
 have tl_lt':∀ i,tl l i=true->i<l.length/\128<=bt l i/\bt l i<192:=fun i=>uW
 unfold sH at h ⊢
 by_cases c1:bt l 0<128
 ·rw[decide_eq_true c1]at h ⊢
  simp only[cond_true]at h ⊢
  rcases l with _|⟨a,r⟩
  ·exact absurd rfl hl
  ·exact zN (a:=a) (by have:(a.toNat:Int)<128:=c1; omega)
 rw[decide_eq_false c1]at h ⊢
 simp only[cond_false]at h ⊢
 by_cases c2:(decide (194<=bt l 0)&&decide (bt l 0<224)&&tl l 1)=true
 ·rw[c2]at h ⊢
  simp only[cond_true]at h ⊢
  simp only[zA4,decide_eq_true_eq]at c2
  obtain⟨⟨k1,k2⟩,k3⟩:=c2
  obtain⟨k4,k5,k6⟩:=tl_lt' 1 k3
  rcases l with _|⟨a,_|⟨b,r⟩⟩
  ·exact absurd rfl hl
  ·simp at k4
  ·have e0:bt (a::b::r) 0=(a.toNat:Int):=rfl
   have e1:bt (a::b::r) 1=(b.toNat:Int):=rfl
   rw[e0]at k1 k2 ⊢
   rw[e1]at k5 k6 ⊢
   exact OY (a:=a) (b:=b) (by omega) (by omega) (by omega) (by omega)
 rw[Bool.eq_false_iff.2 c2]at h ⊢
 simp only[cond_false]at h ⊢
 by_cases c3:(decide (224<=bt l 0)&&decide (bt l 0<240)&&tl l 1&&tl l 2)=true
 ·rw[c3]at h ⊢
  simp only[cond_true]at h ⊢
  simp only[zA4,decide_eq_true_eq]at c3
  obtain⟨⟨⟨k1,k2⟩,k3⟩,k3'⟩:=c3
  obtain⟨k4,k5,k6⟩:=tl_lt' 1 k3
  obtain⟨k7,k8,k9⟩:=tl_lt' 2 k3'
  rcases l with _|⟨a,_|⟨b,_|⟨c,r⟩⟩⟩
  ·exact absurd rfl hl
  ·simp at k4
  ·simp at k7
  ·have e0:bt (a::b::c::r) 0=(a.toNat:Int):=rfl
   have e1:bt (a::b::c::r) 1=(b.toNat:Int):=rfl
   have e2:bt (a::b::c::r) 2=(c.toNat:Int):=rfl
   rw[e0,e1,e2]at h ⊢
   rw[e0]at k1 k2
   rw[e1]at k5 k6
   rw[e2]at k8 k9
   by_cases c4:(decide (2048<=(((a.toNat:Int)-224)*64+(b.toNat:Int)-128)*64+(c.toNat:Int)-128)&&Go.Proofs.YtpohjcacnkhnkaaGreatDoor.Ex ((((a.toNat:Int)-224)*64+(b.toNat:Int)-128)*64+(c.toNat:Int)-128))=true
   ·rw[c4]
    simp only[zA4,decide_eq_true_eq]at c4
    obtain⟨c4,c5⟩:=c4
    unfold Go.Proofs.YtpohjcacnkhnkaaGreatDoor.Ex at c5
    simp only[zA4,decide_eq_true_eq,Bool.not_eq_true',Bool.and_eq_false_iff,decide_eq_false_iff_not]at c5
    obtain⟨lo,hi,hc,q1,q2⟩:∃ lo hi,tt a.toNat=some (3,lo,hi)/\lo<=(b.toNat:Int)/\(b.toNat:Int)<=hi:=by
     unfold tt
     rw[if_neg (by omega),if_neg (by omega)]
     by_cases a1:a.toNat=224
     ·rw[if_pos a1]; exact⟨_,_,rfl,by omega,by omega⟩
     ·rw[if_neg a1]
      by_cases a2:a.toNat=237
      ·rw[if_pos a2]; exact⟨_,_,rfl,by omega,by omega⟩
      ·rw[if_neg a2,if_pos (by omega)]; exact⟨_,_,rfl,by omega,by omega⟩
    exact J7 (a:=a) (b:=b) (c:=c) (by omega) (by omega) (by omega) (by omega) (by omega) (by omega) hc q1 q2
   ·rw[Bool.eq_false_iff.2 c4]at h
    exact absurd rfl h
 rw[Bool.eq_false_iff.2 c3]at h ⊢
 simp only[cond_false]at h ⊢
 by_cases c4:(decide (240<=bt l 0)&&decide (bt l 0<245)&&tl l 1&&tl l 2&&tl l 3)=true
 ·rw[c4]at h ⊢
  simp only[cond_true]at h ⊢
  simp only[zA4,decide_eq_true_eq]at c4
  obtain⟨⟨⟨⟨k1,k2⟩,k3⟩,k3'⟩,k3''⟩:=c4
  obtain⟨k4,k5,k6⟩:=tl_lt' 1 k3
  obtain⟨k7,k8,k9⟩:=tl_lt' 2 k3'
  obtain⟨k10,k11,k12⟩:=tl_lt' 3 k3''
  rcases l with _|⟨a,_|⟨b,_|⟨c,_|⟨d,r⟩⟩⟩⟩
  ·exact absurd rfl hl
  ·simp at k4
  ·simp at k7
  ·simp at k10
  ·have e0:bt (a::b::c::d::r) 0=(a.toNat:Int):=rfl
   have e1:bt (a::b::c::d::r) 1=(b.toNat:Int):=rfl
   have e2:bt (a::b::c::d::r) 2=(c.toNat:Int):=rfl
   have e3:bt (a::b::c::d::r) 3=(d.toNat:Int):=rfl
   rw[e0,e1,e2,e3]at h ⊢
   rw[e0]at k1 k2
   rw[e1]at k5 k6
   rw[e2]at k8 k9
   rw[e3]at k11 k12
   by_cases c5:(decide (65536<=((((a.toNat:Int)-240)*64+(b.toNat:Int)-128)*64+(c.toNat:Int)-128)*64+(d.toNat:Int)-128)&&Go.Proofs.YtpohjcacnkhnkaaGreatDoor.Ex (((((a.toNat:Int)-240)*64+(b.toNat:Int)-128)*64+(c.toNat:Int)-128)*64+(d.toNat:Int)-128))=true
   ·rw[c5]
    simp only[zA4,decide_eq_true_eq]at c5
    obtain⟨c5,c6⟩:=c5
    unfold Go.Proofs.YtpohjcacnkhnkaaGreatDoor.Ex at c6
    simp only[zA4,decide_eq_true_eq,Bool.not_eq_true',Bool.and_eq_false_iff,decide_eq_false_iff_not]at c6
    obtain⟨lo,hi,hc,q1,q2⟩:∃ lo hi,tt a.toNat=some (4,lo,hi)/\lo<=(b.toNat:Int)/\(b.toNat:Int)<=hi:=by
     unfold tt
     rw[if_neg (by omega),if_neg (by omega),if_neg (by omega),if_neg (by omega),if_neg (by omega)]
     by_cases a1:a.toNat=240
     ·rw[if_pos a1]; exact⟨_,_,rfl,by omega,by omega⟩
     ·rw[if_neg a1]
      by_cases a2:a.toNat<244
      ·rw[if_pos a2]; exact⟨_,_,rfl,by omega,by omega⟩
      ·rw[if_neg a2,if_pos (by omega)]; exact⟨_,_,rfl,by omega,by omega⟩
    exact M6 (a:=a) (b:=b) (c:=c) (d:=d) (by omega) (by omega) (by omega) (by omega) (by omega) (by omega) (by omega) (by omega) hc q1 q2
   ·rw[Bool.eq_false_iff.2 c5]at h
    exact absurd rfl h
 ·rw[Bool.eq_false_iff.2 c4]at h
  exact absurd rfl h
theorem KV {u:yY} {t:Tm} (h:u.full t.rest=false) (k:Nat):Tm.drain u k t=(t,0):=by
 cases k with
 |zero=>rfl
 |succ k=>rw[Tm.drain,if_neg (fun c=>by rw[h]at c; exact absurd c.2 (by decide))]
theorem I1 {u:yY} {t:Tm} (h:t.rest=[]) (k:Nat):Tm.drain u k t=(t,0):=by
 cases k with
 |zero=>rfl
 |succ k=>rw[Tm.drain,if_neg (fun c=>c.1 h)]
theorem Jz {t:Tm} {e:List UInt8} {c:Int} (ht:t.rest=e) (ch:Pr e c) (hc:c≠27) (k:Nat):Tm.drain fL (k+1) t=({t.character fL c with rest:=[]},0):=by
 have h27:¬t.rest.headD 0=27:=fun h=>hc (ch.esc (ht▸h))
 have hd:fL.dec t.rest=(c,e.length):=by rw[ht]; exact ch.dec
 have hb:c≠65533\/e.length>1:=ch.big
 rw[Tm.drain,if_pos ⟨by rw[ht]; exact ch.ne,by rw[ht]; exact ch.full⟩,if_neg h27,hd]
 simp only
 have hcr:((t.character fL c).rest.drop e.length)=[]:=by rw[(gf fL t c).1,ht,List.drop_length]
 rw[if_pos hb,hcr,I1 rfl]
theorem zC {u:yY} {t:Tm} (h:t.mode=0) (b:UInt8):t.step u b={(t.plain u b).1 with mode:=(t.plain u b).2}:=by
 unfold Tm.step
 rw[h]
 rcases hx:t.plain u b with⟨y,m⟩
 simp only[]
theorem MB {t:Tm} (i:Idle t) {e:List UInt8} {c:Int} (ch:Pr e c) (hc:c≠27):t.feed fL e={({t with rest:=e}:Tm).character fL c with mode:=0,rest:=[]}:=by
 have hpart:∀ k,k<e.length->t.feed fL (e.take k)={t with rest:=e.take k}:=fun k=>by
  induction k with
  |zero =>
   intro _
   have:=i.rest
   cases t
   simp only at this
   subst this
   rfl
  |succ k ih =>
   intro hk
   rw[List.take_add_one,zB1 (by omega)]
   simp only[Option.toList_some]
   rw[Tm.dY,ih (by omega)]
   simp only[Tm.feed,List.foldl_cons,List.foldl_nil]
   rw[zC (show ({t with rest:=e.take k}:Tm).mode=0 from i.mode)]
   have hf:=ch.part (k+1) (by omega) hk
   rw[List.take_add_one,zB1 (by omega)]at hf
   simp only[Option.toList_some]at hf
   unfold Tm.plain
   rw[KV (show fL.full ({t with rest:=e.take k++[e[k]]}:Tm).rest=false from hf)]
   simp only
   rw[<-i.mode]
 obtain⟨n,hn⟩:∃ n,e.length=n+1:=by
  cases e with
  |nil=>exact absurd rfl ch.ne
  |cons a r=>exact⟨r.length,rfl⟩
 have he:e.take n++[e[n]]=e:=by
  have:=List.take_add_one (l:=e) (i:=n)
  rw[zB1 (by omega)]at this
  simp only[Option.toList_some]at this
  rw[<-this,zD6 (by omega)]
 have hp:=hpart n (by omega)
 have:t.feed fL e=(t.feed fL (e.take n)).step fL e[n]:=by
  conv=>lhs; rw[<-he,Tm.dY]
  rfl
 rw[this,hp,zC (show ({t with rest:=e.take n}:Tm).mode=0 from i.mode)]
 have hd:=Jz (t:=({t with rest:=e.take n++[e[n]]}:Tm)) (e:=e) he ch hc ((e.take n).length+1)
 unfold Tm.plain
 simp only at hd ⊢
 rw[hd,he]
end Go.Proofs.YtpohjcacnkhnkaaGreatDoor.Tq
namespace Go.Proofs.YtpohjcacnkhnkaaGreatDoor
open Go.Ax
def eE (H:aa) (v:Value) (g:List (List Ce)):Prop :=
 (g=[]/\∃ a c,v=.slice a 0 c)\/(g≠[]/\∃ n off s c e o L,v=.slice (some ⟨n,off,s⟩) g.length c/\rk H n=some ⟨e,o,L⟩/\n<H.next/\off+g.length<=L.length/\∀ k row,g[k]?=some row->∃ rv,L[off+k]?=some rv/\eQ H rv row)
theorem eE.sl {H:aa} {v:Value} {g:List (List Ce)} (h:eE H v g):∃ a c,v=.slice a g.length c:=by
 rcases h with⟨rfl,a,c,rfl⟩|⟨_,n,off,s,c,e,o,L,rfl,_⟩
 ·exact⟨a,c,rfl⟩
 ·exact⟨_,_,rfl⟩
theorem eQ.ext {H:aa} {v:Value} {l:List Ce} {B:List Bl} (h:eQ H v l):eQ (Go.Ax.ext H B) v l:=by
 rcases h with⟨rfl,a,c,rfl⟩|⟨hl,n,off,s,c,e,o,L,rfl,hb,hlt,hle,ht⟩
 ·exact .inl ⟨rfl,a,c,rfl⟩
 ·exact .inr ⟨hl,n,off,s,c,e,o,L,rfl,(Lg hlt).trans hb,by rw[ai]; omega,hle,ht⟩
theorem eE.ext {H:aa} {v:Value} {g:List (List Ce)} {B:List Bl} (h:eE H v g):eE (Go.Ax.ext H B) v g:=by
 rcases h with⟨rfl,a,c,rfl⟩|⟨hl,n,off,s,c,e,o,L,rfl,hb,hlt,hle,ht⟩
 ·exact .inl ⟨rfl,a,c,rfl⟩
 ·exact .inr ⟨hl,n,off,s,c,e,o,L,rfl,(Lg hlt).trans hb,by rw[ai]; omega,hle,fun k row hk=>by
   obtain⟨rv,h1,h2⟩:=ht k row hk
   exact⟨rv,h1,h2.ext⟩⟩
theorem eQ.ne {H:aa} {v:Value} {l:List Ce} (h:eQ H v l) (hl:l≠[]):∀ n∈ae v,H.get n≠none/\n<H.next:=by
 rcases h with⟨rfl,_⟩|⟨_,n,off,s,c,e,o,L,rfl,hb,hlt,_⟩
 ·exact absurd rfl hl
 ·intro m hm
  simp only[ae,zA5]at hm
  subst hm
  exact⟨L3 hb,hlt⟩
theorem kg {len cap n off:Nat} {s:Option Nat} {i:Int} {k:Nat} (hi:i=k) (hk:k<len):aP Tryz.prog 39 (.slice (some ⟨n,off,s⟩) len cap) (.int .i64 i)=some (.pointer (some ⟨n,off+k,none⟩)):=by
 subst hi
 rw[gl (e:=56) (sz:=1) (by kernel_rfl) (by kernel_rfl) (by omega) (by omega)]
 simp
theorem Ra:eX Tryz.prog 56=some false:=by kernel_rfl
theorem gu {k off:Nat} {e:TypeId} {o:Bool} {L:List Value} {rv:Value} (h:L[off+k]?=some rv):oL Tryz.prog 56 (off+k) (some ⟨e,o,L⟩)=some rv:=by
 simp only[oL,Ra,h]
def D7 (l:List Ce) (v:Value):List Nat:=if l=[] then [] else ae v
theorem eQ.f {H:aa} {v:Value} {l:List Ce} (h:eQ H v l):∀ n∈D7 l v,H.get n≠none:=by
 unfold D7
 split
 ·intro n hn; cases hn
 ·rename_i hl; exact fun n hn=>(h.ne hl n hn).1
theorem eQ.R6 {H G:aa} {v:Value} {l:List Ce} (h:eQ H v l) (hn:H.next<=G.next) (hg:∀ n∈D7 l v,G.get n=H.get n):eQ G v l:=by
 by_cases hl:l=[]
 ·obtain⟨a,c,e⟩:=h.sl
  subst hl
  exact .inl ⟨rfl,a,c,e⟩
 ·rw[D7,if_neg hl]at hg
  exact h.of hn hg
theorem yZ (H:aa) (v1 v2:Value) (g1 g2:List (List Ce)) (r1 c1 r2 c2:Int) (h1:eE H v1 g1) (h2:eE H v2 g2) (hl:g1.length<1000000) (hw:∀ l∈g1,l.length<1000000) :
  Pure 14 [.agg #[v1,.int .i64 r1,.int .i64 c1],.agg #[v2,.int .i64 r2,.int .i64 c2]] H (.bool (decide (g1=g2/\r1=r2/\c1=c2))):=by
 obtain⟨b,hb⟩:=Go.Ax.bP H.next
 refine bJ mixed Tryz.func14 rfl Tryz.ntmps14 (zA6 rfl) fun wf hsc=>?_
 obtain⟨a1,k1,e1⟩:=h1.sl
 obtain⟨a2,k2,e2⟩:=h2.sl
 have hsc1:aS b v1=true/\aS b v2=true:=by
  simp only[aO,aS,fb,zA4,hb]at hsc
  exact⟨hsc.1.1,hsc.2.1.1⟩
 rw[e1,e2]at hsc1
 have hfin:∀ s:Bool,(s=true->g1=g2/\r1=r2/\c1=c2)->(s=false->¬(g1=g2/\r1=r2/\c1=c2))->s=decide (g1=g2/\r1=r2/\c1=c2):=fun s h1 h2=>by
  cases s
  ·rw[decide_eq_false (h2 rfl)]
  ·rw[decide_eq_true (h1 rfl)]
 obtain⟨d1,hd1⟩:∃ d,decide ((g1.length:Int)=(g2.length:Int))=d:=⟨_,rfl⟩
 obtain⟨d2,hd2⟩:∃ d,decide (r1=r2)=d:=⟨_,rfl⟩
 obtain⟨d3,hd3⟩:∃ d,decide (c1=c2)=d:=⟨_,rfl⟩
 have hd1':g1.length=g2.length ↔ d1=true:=by rw[<-hd1,decide_eq_true_iff]; omega
 have hd2':r1=r2 ↔ d2=true:=by rw[<-hd2,decide_eq_true_iff]
 have hd3':c1=c2 ↔ d3=true:=by rw[<-hd3,decide_eq_true_iff]
 rw[e1,e2]
 simp only[hb,hsc1.1,hsc1.2,hd1,zW,seval]
 cases d1<;>simp only[hb,hd2,zW,seval]<;>cases d2<;>(try simp (maxDischargeDepth:=6) only[hb,hd3,zW,seval])<;>cases d3<;>(try simp (maxDischargeDepth:=6) only[zW,seval]) <;>
 (refine eT fun E hE=>?_
  obtain⟨s0,g5,hs⟩:∃ s0:Bool,E 5=.bool s0/\(s0=true ↔ (g1.length=g2.length/\r1=r2/\c1=c2)):=by
   refine⟨_,by rw[hE]; (simp only[aW,seval]<;>rfl),?_⟩
   rw[hd1',hd2',hd3']
   decide
  have q2:E 2=.pointer (some ⟨b+0,0,none⟩):=by rw[hE]; rfl
  have q3:E 3=.pointer (some ⟨b+1,0,none⟩):=by rw[hE]; rfl
  have q6:E 6=.int .i64 0:=by rw[hE]; rfl
  clear hE hd1 hd2 hd3 hd1' hd2' hd3'
  have hB0:∀ A B,bk (ext H [A,B]) (b+0)=some A:=fun A B=>by rw[bu hb (by simp)]; rfl
  have hB1:∀ A B,bk (ext H [A,B]) (b+1)=some B:=fun A B=>by rw[bu hb (by simp)]; rfl
  refine bE (fun E' H'=>H'=ext H [⟨41,false,[v1,.int .i64 r1,.int .i64 c1]⟩,⟨41,false,[v2,.int .i64 r2,.int .i64 c2]⟩]/\E' 5=.bool (decide (g1=g2/\r1=r2/\c1=c2))) ?_ ?_
  ·refine cU (fun (k:Nat × Bool) E' H'=>H'=ext H [⟨41,false,[v1,.int .i64 r1,.int .i64 c1]⟩,⟨41,false,[v2,.int .i64 r2,.int .i64 c2]⟩]/\E' 2=.pointer (some ⟨b+0,0,none⟩)/\E' 3=.pointer (some ⟨b+1,0,none⟩)/\E' 5=.bool k.2/\E' 6=.int .i64 (k.1:Int)/\k.1<=g1.length/\(k.2=true->g1.length=g2.length/\g1.take k.1=g2.take k.1/\r1=r2/\c1=c2)/\(k.2=false->¬(g1=g2/\r1=r2/\c1=c2))) (fun k=>g1.length-k.1) (0,s0)
    ⟨by rw[e1,e2],q2,q3,g5,q6,zB7 _,fun h=>⟨(hs.1 h).1,rfl,(hs.1 h).2⟩,fun h e=>by simp only at h; rw[h]at hs; exact absurd (hs.2 ⟨by rw[e.1],e.2⟩) (by decide)⟩ ?_
   clear q2 q3 g5 q6 hs
   rintro⟨k,s⟩ E H' ⟨hH,q2,q3,g5,q6,hk,hs1,hs2⟩
   simp only at g5 q6 hk hs1 hs2
   rw[hH]
   cases s with
   |false =>
    simp only[g5,zW,seval]
    refine aj ⟨rfl,?_⟩
    simp only[g5,aW,seval]
    rw[decide_eq_false (hs2 rfl)]
   |true =>
    obtain⟨hlen,hpre,hr,hc⟩:=hs1 rfl
    by_cases hkl:k=g1.length
    ·have hcd:decide ((k:Int)<(g1.length:Int))=false:=by simp[hkl]
     rw[e1]
     simp only[q2,g5,q6,hb,hcd,zW,seval]
     refine aj ⟨rfl,?_⟩
     simp only[g5,aW,seval]
     have:g1=g2:=by
      have e3:=hpre
      rw[hkl,List.take_length,hlen,List.take_length]at e3
      exact e3
     rw[decide_eq_true ⟨this,hr,hc⟩]
    ·have hlt:k<g1.length:=by omega
     have hcd:decide ((k:Int)<(g1.length:Int))=true:=decide_eq_true (by omega)
     rcases h1 with⟨h,_⟩|⟨_,n1,o1,s1,x1,t1,p1,L1,rfl,b1,n1l,le1,tk1⟩
     ·rw[h]at hlt; simp at hlt
     rcases h2 with⟨h,_⟩|⟨_,n2,o2,s2,x2,t2,p2,L2,rfl,b2,n2l,le2,tk2⟩
     ·rw[h]at hlen; simp at hlen; simp[hlen]at hlt
     obtain⟨w1,hr1⟩:∃ r,g1[k]?=some r:=⟨_,zB1 hlt⟩
     obtain⟨w2,hr2⟩:∃ r,g2[k]?=some r:=⟨_,zB1 (by omega)⟩
     obtain⟨u1,hu1,ra1⟩:=tk1 k w1 hr1
     obtain⟨u2,hu2,ra2⟩:=tk2 k w2 hr2
     have i1:=kg (n:=n1) (off:=o1) (s:=s1) (cap:=x1) (i:=(k:Int)) rfl hlt
     have i2:=kg (n:=n2) (off:=o2) (s:=s2) (cap:=x2) (i:=(k:Int)) (len:=g2.length) rfl (by omega)
     have y1:=gu (e:=t1) (o:=p1) hu1
     have y2:=gu (e:=t2) (o:=p2) hu2
     rw[hb]at n1l n2l
     have hww:w1.length<1000000:=hw w1 (zB9 hr1)
     simp only[q2,g5,q6,hb,hcd,zW,seval]
     refine bf [] [] (by kernel_rfl) rfl rfl fun ops anc hA hG=>?_
     simp only[q2,q3,q6,hb,i1,i2,b1,b2,n1l,n2l,y1,y2,dQ,b9,zW,seval]
     refine bx (v:=.bool (decide (w1=w2))) (D7 w1 u1++D7 w2 u2) (by simp only[aW,seval]) (by kernel_rfl) (by decide) (fun m hm=>?_) (fun G hn hg=>?_) (by simp (maxDischargeDepth:=6) only[b9]) ?_
     ·rcases zB2.1 hm with hm|hm
      ·exact ra1.ext.f m hm
      ·exact ra2.ext.f m hm
     ·simp only[aW,seval]
      exact DV G u1 u2 w1 w2 (ra1.ext.R6 (Nat.le_of_eq hn.symm) fun m hm=>hg m (List.mem_append_left _ hm)) (ra2.ext.R6 (Nat.le_of_eq hn.symm) fun m hm=>hg m (List.mem_append_right _ hm)) hww
     simp only[q6,hb,bO (show k<1000000 by omega),b9,zW,seval]
     refine aM ⟨(k+1,decide (w1=w2)),by simp only; omega,rfl,?_,?_,?_,?_,by simp only; omega,fun h=>⟨hlen,?_,hr,hc⟩,fun h e=>?_⟩<;>try simp only[q2,q3,aW,seval]
     ·have h:=of_decide_eq_true h
      rw[List.take_add_one,List.take_add_one,hr1,hr2,hpre,h]
     ·have h:=of_decide_eq_false h
      rw[e.1]at hr1
      rw[hr1]at hr2
      exact h (Option.some.inj hr2)
  ·rintro E H' ⟨hH,g5⟩
   rw[hH]
   simp only[g5,Tryz.results14,zW,seval]
   exact Fin.pure rfl)
def Rg (t:Bool):Option Nat:=if t then none else some 0
def fQ (N:Nat) (H:aa) (rv:Value) (l:List Ce):Prop :=
 ∃ n t c o,rv=.slice (some ⟨n,0,Rg t⟩) l.length (l.length+c)/\bk H n=some ⟨77,o,aN l⟩/\N<=n/\n<H.next
structure jn (N:Nat) (H:aa) (v:Value) (rvs:List Value) (g:List (List Ce)):Prop where
 len:rvs.length=g.length
 at_:(g=[]/\v=.slice none 0 0)\/∃ m s c o,v=.slice (some ⟨m,0,s⟩) g.length c/\bk H m=some ⟨56,o,rvs⟩/\N<=m/\m<H.next/\m∉rvs.flatMap ae
 row:∀ (i:Nat) (rv:Value) (l:List Ce),rvs[i]?=some rv->g[i]?=some l->fQ N H rv l
 nd:(rvs.flatMap ae).Nodup
section
variable {N M : Nat} {H G : aa} {v rv : Value} {rvs : List Value} {g : List (List Ce)} {l : List Ce}
theorem fQ.of (h:fQ N H rv l) (hn:H.next<=G.next) (hg:∀ n∈ae rv,G.get n=H.get n):fQ N G rv l:=by
 obtain⟨n,s,c,o,rfl,hb,h1,h2⟩:=h
 exact⟨n,s,c,o,rfl,(bg (hg n (by simp[ae]))).trans hb,h1,by omega⟩
theorem fQ.vt (h:fQ N H rv l):∀ n∈ae rv,N<=n/\n<H.next/\H.get n≠none:=by
 obtain⟨n,s,c,o,rfl,hb,h1,h2⟩:=h
 intro m hm
 simp only[ae,zA5]at hm
 subst hm
 exact⟨h1,h2,dT hb⟩
theorem fQ.at_ (h:fQ N H rv l):eQ H rv l:=by
 obtain⟨n,s,c,o,rfl,hb,h1,h2⟩:=h
 by_cases hl:l=[]
 ·subst hl; exact .inl ⟨rfl,_,_,rfl⟩
 ·exact .inr ⟨hl,n,0,_,_,77,o,aN l,rfl,jR hb,h2,by rw[bC]; omega,by rw[zD1,zD6 (by rw[bC]; exact zA8 _)]⟩
theorem jn.yx (o:jn N H v rvs g) {i:Nat} {l:List Ce} (h:g[i]?=some l):∃ rv,rvs[i]?=some rv/\fQ N H rv l:=by
 have hlt:=(zG1.1 h).1
 have:i<rvs.length:=by rw[o.len]; exact hlt
 exact⟨rvs[i],zB1 this,o.row i _ _ (zB1 this) h⟩
theorem jn.RL (o:jn N H v rvs g) {i:Nat} {rv:Value} (h:rvs[i]?=some rv):∃ l,g[i]?=some l/\fQ N H rv l:=by
 have hlt:=(zG1.1 h).1
 have:i<g.length:=by rw[<-o.len]; exact hlt
 exact⟨g[i],zB1 this,o.row i _ _ h (zB1 this)⟩
theorem jn.ids (o:jn N H v rvs g):∀ n∈rvs.flatMap ae,N<=n/\n<H.next/\H.get n≠none:=by
 intro n hn
 obtain⟨rv,hrv,hn⟩:=zE2.1 hn
 obtain⟨i,hi⟩:=List.getElem?_of_mem hrv
 obtain⟨l,_,h⟩:=o.RL hi
 exact h.vt n hn
theorem jn.QF (o:jn N H v rvs g):∀ n∈ae v,N<=n/\n<H.next/\H.get n≠none/\n∉rvs.flatMap ae:=by
 rcases o.at_ with⟨_,rfl⟩|⟨m,s,c,o',rfl,hb,h1,h2,h3⟩
 ·intro n hn; simp[ae]at hn
 ·intro n hn
  simp only[ae,zA5]at hn
  subst hn
  exact⟨h1,h2,dT hb,h3⟩
theorem jn.of (o:jn N H v rvs g) (hn:H.next<=G.next) (hg:∀ n,N<=n->n<H.next->n∈ae v++rvs.flatMap ae->G.get n=H.get n):jn N G v rvs g where
 len:=o.len
 at_:=by
  rcases o.at_ with h|⟨m,s,c,o',rfl,hb,h1,h2,h3⟩
  ·exact .inl h
  ·exact .inr ⟨m,s,c,o',rfl,(bg (hg m h1 h2 (by simp[ae]))).trans hb,h1,by omega,h3⟩
 row:=fun i rv l h1 h2=>(o.row i rv l h1 h2).of hn fun n hn=>by
  obtain⟨a,b,_⟩:=(o.row i rv l h1 h2).vt n hn
  exact hg n a b (List.mem_append_right _ (zE2.2 ⟨rv,zB9 h1,hn⟩))
 nd:=o.nd
theorem jn.ah (o:jn N H v rvs g):eE H v g:=by
 rcases o.at_ with⟨rfl,rfl⟩|⟨m,s,c,o',rfl,hb,h1,h2,h3⟩
 ·exact .inl ⟨rfl,_,_,rfl⟩
 ·by_cases hg:g=[]
  ·subst hg; exact .inl ⟨rfl,_,_,rfl⟩
  ·exact .inr ⟨hg,m,0,s,c,56,o',rvs,rfl,jR hb,h2,by rw[o.len]; omega,fun k l hk=>by
    obtain⟨rv,h4,h5⟩:=o.yx hk
    exact⟨rv,by rw[zB8]; exact h4,h5.at_⟩⟩
theorem zt:∀ (rvs:List Value) (i j:Nat) (a b:Value) (n:Nat),(rvs.flatMap ae).Nodup->rvs[i]?=some a->rvs[j]?=some b->i≠j->n∈ae a->n∉ae b
 |[],_,_,_,_,_,_,h,_,_,_=>by simp at h
 |x::rvs,0,0,_,_,_,_,_,_,h,_=>absurd rfl h
 |x::rvs,0,j+1,a,b,n,hnd,ha,hb,_,hn=>fun hn2=>by
  simp only[zF5,Option.some.injEq,zG4]at ha hb
  subst ha
  rw[List.flatMap_cons,zD4]at hnd
  exact hnd.2.2 n hn n (zE2.2 ⟨b,zB9 hb,hn2⟩) rfl
 |x::rvs,i+1,0,a,b,n,hnd,ha,hb,_,hn=>fun hn2=>by
  simp only[zF5,Option.some.injEq,zG4]at ha hb
  subst hb
  rw[List.flatMap_cons,zD4]at hnd
  exact hnd.2.2 n hn2 n (zE2.2 ⟨a,zB9 ha,hn⟩) rfl
 |x::rvs,i+1,j+1,a,b,n,hnd,ha,hb,hij,hn=>by
  rw[List.flatMap_cons,zD4]at hnd
  exact zt rvs i j a b n hnd.2.1 (by simpa using ha) (by simpa using hb) (by omega) hn
theorem jn.set {n k:Nat} {l':List Ce} (o:jn N H v rvs g) {s:Option Nat} {c:Nat} {f:Bool} (hrv:rvs[k]?=some (.slice (some ⟨n,0,s⟩) l.length c)) (hl:g[k]?=some l) (hlen:l'.length=l.length) (hb:bk G n=some ⟨77,f,aN l'⟩) (m:Mod [n] H G):jn N G v rvs (g.set k l'):=by
 have hnk:n∈rvs.flatMap ae:=zE2.2 ⟨_,zB9 hrv,by simp[ae]⟩
 have hother:∀ i rv,rvs[i]?=some rv->i≠k->n∉ae rv:=by
  intro i rv hi hik hn
  exact zt rvs i k rv _ n o.nd hi hrv hik hn (by simp[ae])
 refine⟨by rw[zF3]; exact o.len,?_,fun i rv q hi hq=>?_,o.nd⟩
 ·rcases o.at_ with⟨rfl,rfl⟩|⟨m',s',c',o',rfl,hb',h1,h2,h3⟩
  ·simp at hl
  ·refine .inr ⟨m',s',c',o',by rw[zF3],(m.bk h2 ?_).trans hb',h1,m.lt h2,h3⟩
   simp only[zA5]
   rintro rfl
   exact h3 hnk
 ·by_cases hik:i=k
  ·subst hik
   rw[hrv]at hi
   cases hi
   have hkl:=(zG1.1 hl).1
   rw[List.getElem?_set_self hkl]at hq
   cases hq
   obtain⟨n',s'',c'',o'',e,hb',h1,h2⟩:=o.row i _ l hrv hl
   cases e
   exact⟨n,s'',c'',f,by rw[hlen],hb,h1,m.lt h2⟩
  ·rw[List.getElem?_set_ne (fun h=>hik h.symm)]at hq
   refine (o.row i rv q hi hq).of m.next fun p hp=>m.get p ((o.row i rv q hi hq).vt p hp).2.1 ?_
   simp only[zA5]
   rintro rfl
   exact hother i rv hi hik hp
end
theorem A6:∀ (l:List Value) (off:Nat),cL l off []=l
 |[],0=>rfl
 |[],_+1=>rfl
 |_::_,0=>rfl
 |x::r,k+1=>by rw[cL,A6 r k]
theorem yh:∀ (A L:List Value) (n:Nat) (v:List Value),cL (A++L) (A.length+n) v=A++cL L n v
 |[],L,n,v=>by rw[zC1,zB6,zB8,zC1]
 |a::A,L,n,v=>by
  rw[zE7,zB0,show A.length+1+n=(A.length+n)+1 by omega,cL,yh A L n v,zE7]
theorem jD:∀ (l:List Ce) (k:Nat) (c:Ce),k<l.length->cL (aN l) (k*6) c.cells=aN (l.set k c)
 |[],_,_,h=>by simp at h
 |a::l,0,c,_=>by
  rw[List.set_cons_zero,bU,bU,zF7]
  simp only[Ce.cells,zE7,zC1,zW,A6]
 |a::l,k+1,c,h=>by
  rw[List.set_cons_succ,bU,bU,show (k+1)*6=a.cells.length+k*6 from by simp only[Ce.cells,zB0,zB6]; omega,yh,jD l k c (by simpa using h)]
theorem jL {c:Ce} {N k:Nat} {e:TypeId} {o:Bool} {l:List Ce} (h:k<l.length):vw Tryz.prog 77 N (k*6) c.val (some ⟨e,o,aN l⟩)=some ⟨e,o,aN (l.set k c)⟩:=by
 have hv:c.val.cells.toList=c.cells:=rfl
 rw[l5 (by rw[hv]; kernel_rfl) (by rw[hv,bC]; simp only[Ce.cells,zB0,zB6]; omega) (by rw[hv]; rfl) (by rw[hv]; rfl),hv,jD l k c h]
structure Lk where
 fore:Int
 back:Int
 bold:Bool
 under:Bool
 inv:Bool
deriving DecidableEq
def Lk.val (k:Lk):Value:=.agg #[.int .i64 k.fore,.int .i64 k.back,.bool k.bold,.bool k.under,.bool k.inv]
def Lk.ce (k:Lk) (r:Int):Ce:=⟨r,k.fore,k.back,k.bold,k.under,k.inv⟩
def Ce.look (c:Ce):Lk:=⟨c.fore,c.back,c.bold,c.under,c.inv⟩
def mh (k:Lk):Bool:=decide (0<=k.fore)&&decide (k.fore<=256)&&decide (0<=k.back)&&decide (k.back<=256)
def aR (c:Int):Nat:=if (decide (c<32)||decide (c=127)||!Ex c)=true then 0 else dI c
theorem rS (c:Int):dI c=0\/dI c=1\/dI c=2:=by
 unfold dI
 split
 ·exact .inl rfl
 ·split
  ·exact .inr (.inr rfl)
  ·exact .inr (.inl rfl)
theorem nC (c:Int):aR c=0\/aR c=1\/aR c=2:=by
 unfold aR
 split
 ·exact .inl rfl
 ·exact rS c
theorem sL (H:aa) (c:Int):Pure 101 [.int .i64 c] H (.int .i64 (aR c:Int)):=by
 obtain⟨d1,h1⟩:∃ d,decide (c<32)=d:=⟨_,rfl⟩
 obtain⟨d2,h2⟩:∃ d,decide (c=127)=d:=⟨_,rfl⟩
 obtain⟨d3,h3⟩:∃ d,Ex c=d:=⟨_,rfl⟩
 have his:=Ru (ext H []) c
 rw[h3]at his
 have hwd:=gW (ext H []) c
 obtain⟨m,hm⟩:=Go.Ax.bP (aR c)
 have hm':=hm
 unfold aR at hm'
 rw[h1,h2,h3]at hm'
 rw[hm]
 refine bJ mixed Tryz.func101 rfl Tryz.ntmps101 (zA6 rfl) fun wf hsc=>?_
 cases d1 with
 |true =>
  obtain rfl:0=m:=by simpa using hm'
  simp only[h1,Tryz.results101,zW,seval]; exact Fin.cz rfl rfl
 |false =>
  cases d2 with
  |true =>
   obtain rfl:0=m:=by simpa using hm'
   simp only[h1,h2,Tryz.results101,zW,seval]; exact Fin.cz rfl rfl
  |false =>
   simp only[h1,h2,zW,seval]
   refine his.to ?_
   cases d3 with
   |false =>
    obtain rfl:0=m:=by simpa using hm'
    simp only[zG2,Tryz.results101,zW,seval]; exact Fin.cz rfl rfl
   |true =>
    obtain rfl:dI c=m:=by simpa using hm'
    simp only[zE0,zW,seval]
    refine hwd.to ?_
    simp only[Tryz.results101,zW,seval]
    exact Fin.cz rfl rfl
theorem rP (H:aa) (k:Lk):Pure 102 [k.val] H (.bool (mh k)):=by
 obtain⟨b,hb⟩:=Go.Ax.bP H.next
 obtain⟨d1,h1⟩:∃ d,decide (0<=k.fore)=d:=⟨_,rfl⟩
 obtain⟨d2,h2⟩:∃ d,decide (k.fore<=256)=d:=⟨_,rfl⟩
 obtain⟨d3,h3⟩:∃ d,decide (0<=k.back)=d:=⟨_,rfl⟩
 obtain⟨d4,h4⟩:∃ d,decide (k.back<=256)=d:=⟨_,rfl⟩
 simp only[mh,h1,h2,h3,h4]
 refine bJ mixed Tryz.func102 rfl Tryz.ntmps102 (zA6 rfl) fun wf hsc=>?_
 cases d1<;>cases d2<;>cases d3<;>cases d4<;>(simp only[hb,Lk.val,h1,h2,h3,h4,Tryz.results102,zW,seval]; exact Fin.cz rfl rfl)
theorem run_load {l:List Ce} {k:Nat} {c:Ce} {e:TypeId} {o:Bool} {L:List Value} {off:Nat} (hk:l[k]?=some c) (hle:off+l.length*6<=L.length) (h:(L.drop off).take (l.length*6)=aN l):oL Tryz.prog 3 (off+k*6) (some ⟨e,o,L⟩)=some (.int .i64 c.rune):=by
 have h1:eX Tryz.prog 3=some false:=by kernel_rfl
 have h2:=xY l k c L off hk h
 have h3:((L.drop (off+k*6)).take 6)[0]?=some (.int .i64 c.rune):=by rw[h2]; rfl
 rw[kF h1]
 simpa using h3
theorem I9 {l:List Ce} {k:Nat} {c:Ce} {e:TypeId} {o:Bool} {L:List Value} {off:Nat} (hk:l[k]?=some c) (hle:off+l.length*6<=L.length) (h:(L.drop off).take (l.length*6)=aN l):oL Tryz.prog 44 (off+(k*6+1)) (some ⟨e,o,L⟩)=some c.look.val:=by
 rw[show off+(k*6+1)=off+k*6+1 from (Nat.add_assoc _ _ _).symm]
 have hlt:k<l.length:=(zG1.1 hk).1
 have h1:eX Tryz.prog 44=some true:=by kernel_rfl
 have h2:bh Tryz.prog 44=some 5:=by kernel_rfl
 have h3:=xY l k c L off hk h
 have h4:(L.drop (off+k*6+1)).take 5=((L.drop (off+k*6)).take 6).drop 1:=by
  rw[List.drop_take,zG3]
 rw[sJ h1,h2,zA3,if_pos (by omega),h4,h3]
 rfl
theorem wx {α:Type} (f:α->List Value) (sz:Nat) (hf:∀ a,(f a).length=sz):∀ (l:List α) (k:Nat) (c:α),l[k]?=some c->((l.flatMap f).drop (k*sz)).take sz=f c
 |[],_,_,h=>by simp at h
 |a::l,0,c,h=>by
  simp only[zF5,Option.some.injEq]at h
  subst h
  rw[zF7,zD1,List.flatMap_cons,List.take_append,hf,zG5,List.take_zero,zD0,zD6 (by rw[hf]; exact zA8 _)]
 |a::l,k+1,c,h=>by
  rw[List.flatMap_cons,show (k+1)*sz=(f a).length+k*sz by rw[hf,Nat.succ_mul]; omega,List.drop_append,zF1 (by omega),zC1,zF8]
  exact wx f sz hf l k c (by simpa using h)
theorem Nt {α:Type} (f:α->List Value) (sz:Nat) (hf:∀ a,(f a).length=sz) {l:List α} {k:Nat} {c:α} {L:List Value} {off:Nat} (hk:l[k]?=some c) (h:(L.drop off).take (l.length*sz)=l.flatMap f):(L.drop (off+k*sz)).take sz=f c:=by
 have hlt:k<l.length:=(zG1.1 hk).1
 have h2:=wx f sz hf l k c hk
 have h3:sz<=l.length*sz-k*sz:=by
  have:(k+1)*sz<=l.length*sz:=Nat.mul_le_mul_right sz hlt
  rw[Nat.succ_mul]at this
  omega
 rw[<-h,List.drop_take,zG3,List.take_take,Nat.min_eq_left h3]at h2
 exact h2
structure Op where
 kind:Int
 row:Int
 col:Int
 n:Int
 look:Lk
 text:ByteArray
def Op.cells (x:Op):List Value:=[.int .i64 x.kind,.int .i64 x.row,.int .i64 x.col,.int .i64 x.n,.int .i64 x.look.fore,.int .i64 x.look.back,.bool x.look.bold,.bool x.look.under,.bool x.look.inv,.string x.text]
def Op.val (x:Op):Value:=.agg ⟨x.cells⟩
theorem L7 (x:Op):x.cells.length=10:=rfl
def opsOf (l:List Op):List Value:=l.flatMap Op.cells
def jB (H:aa) (v:Value) (l:List Op):Prop :=
 (l=[]/\∃ a c,v=.slice a 0 c)\/(l≠[]/\∃ n off s c e o L,v=.slice (some ⟨n,off,s⟩) l.length c/\rk H n=some ⟨e,o,L⟩/\n<H.next/\off+l.length*10<=L.length/\(L.drop off).take (l.length*10)=opsOf l)
theorem jB.sl {H:aa} {v:Value} {l:List Op} (h:jB H v l):∃ a c,v=.slice a l.length c:=by
 rcases h with⟨rfl,a,c,rfl⟩|⟨_,n,off,s,c,e,o,L,rfl,_⟩
 ·exact⟨a,c,rfl⟩
 ·exact⟨_,_,rfl⟩
theorem jB.of {H G:aa} {v:Value} {l:List Op} (h:jB H v l) (hn:H.next<=G.next) (hg:∀ n∈ae v,G.get n=H.get n):jB G v l:=by
 rcases h with⟨rfl,a,c,rfl⟩|⟨hl,n,off,s,c,e,o,L,rfl,hb,hlt,hle,ht⟩
 ·exact .inl ⟨rfl,a,c,rfl⟩
 ·exact .inr ⟨hl,n,off,s,c,e,o,L,rfl,(nf (hg n (by simp[ae]))).trans hb,by omega,hle,ht⟩
theorem O2 {len cap n off:Nat} {s:Option Nat} {i:Int} {k:Nat} (hi:i=k) (hk:k<len):aP Tryz.prog 23 (.slice (some ⟨n,off,s⟩) len cap) (.int .i64 i)=some (.pointer (some ⟨n,off+k*10,none⟩)):=by
 subst hi
 rw[gl (e:=58) (sz:=10) (by kernel_rfl) (by kernel_rfl) (by omega) (by omega)]
 simp
theorem IH {l:List Op} {k:Nat} {x:Op} {e:TypeId} {o:Bool} {L:List Value} {off:Nat} (hk:l[k]?=some x) (hle:off+l.length*10<=L.length) (h:(L.drop off).take (l.length*10)=opsOf l):oL Tryz.prog 58 (off+k*10) (some ⟨e,o,L⟩)=some x.val:=by
 have hlt:k<l.length:=(zG1.1 hk).1
 have h1:eX Tryz.prog 58=some true:=by kernel_rfl
 have h2:bh Tryz.prog 58=some 10:=by kernel_rfl
 have h3:=Nt Op.cells 10 L7 hk h
 rw[sJ h1,h2,zA3,if_pos (by omega),h3]
 rfl
structure St where
 ah:List (List Ce)
 sr:Int
 sc:Int
 pen:Lk
 row:Int
 col:Int
 shown:Bool
def St.cells (x:St) (v:Value):List Value:=[v,.int .i64 x.sr,.int .i64 x.sc,.int .i64 x.pen.fore,.int .i64 x.pen.back,.bool x.pen.bold,.bool x.pen.under,.bool x.pen.inv,.int .i64 x.row,.int .i64 x.col,.bool x.shown]
structure cT (T:TypeId) (N:Nat) (H:aa) (p:Nat) (v:Value) (rvs:List Value) (x:St):Prop where
 cell:bk H p=some ⟨T,false,x.cells v⟩
 own:jn N H v rvs x.ah
 apart:p∉ae v++rvs.flatMap ae
 lt:p<H.next
 lo:N<=p
structure St.Ok (x:St) (W:Nat):Prop where
 h1:1<=x.ah.length
 h2:x.ah.length<=200
 w1:1<=W
 w2:W<=1000
 wid:∀ l∈x.ah,l.length=W
 row0:0<=x.row
 row1:x.row<x.ah.length
 col0:0<=x.col
 col1:x.col<=W
def Ce.sp:Ce:=⟨32,0,0,false,false,false⟩
def pn (l:List Ce) (k:Nat):List Ce:=if 0<k/\(l.getD k Ce.sp).rune=-1 then l.set (k-1) Ce.sp else l
def rG (l:List Ce) (k:Nat):List Ce:=if (l.getD (k+1) Ce.sp).rune=-1 then l.set (k+1) Ce.sp else l
def lg (l:List Ce) (k:Nat) (c:Ce):List Ce:=(rG (pn l k) k).set k c
theorem tK (l:List Ce) (k:Nat):(pn l k).length=l.length:=by unfold pn; split<;>simp
theorem Af (l:List Ce) (k:Nat):(rG l k).length=l.length:=by unfold rG; split<;>simp
theorem fJ (l:List Ce) (k:Nat) (c:Ce):(lg l k c).length=l.length:=by rw[lg,zF3,Af,tK]
def St.setRow (x:St) (k:Nat) (l:List Ce):St:={x with ah:=x.ah.set k l}
def St.fits (W:Nat):List Int->Int->Bool
 |[],_=>true
 |c::l,n=>if (decide (aR c=0)||decide ((W:Int)<n+aR c))=true then false else St.fits W l (n+aR c)
def sb (pen:Lk) (l:List Ce) (k:Nat) (c:Int):List Ce :=
 if aR c=2 then (((lg (lg l k Ce.sp) (k+1) Ce.sp).set (k+1) (pen.ce (-1))).set k (pen.ce c)) else (lg l k Ce.sp).set k (pen.ce c)
def e7 (pen:Lk):List Int->List Ce->Nat->List Ce × Nat
 |[],l,k=>(l,k)
 |c::cs,l,k=>e7 pen cs (sb pen l k c) (k+aR c)
def eV (l:List Ce):Nat->Nat->List Ce
 |_,0=>l
 |k,n+1=>eV (lg l k Ce.sp) (k+1) n
def xh (W:Nat) (g:List (List Ce)) (top bot n:Nat) (up:Bool):List (List Ce) :=
 let part:=(g.take (bot+1)).drop top
 let fresh:=List.replicate n (List.replicate W Ce.sp)
 g.take top++(if up then part.drop n++fresh else fresh++part.take (part.length-n))++g.drop (bot+1)
def St.pY (W:Nat) (r:List UInt8->Option (List Int)) (x:St) (o:Op):Option St :=
 if o.kind=1 then (if (decide (0<=o.row)&&decide (o.row<x.ah.length)&&decide (0<=o.col)&&decide (o.col<W))=true then some {x with row:=o.row,col:=o.col} else none)
 else if o.kind=2 then (if mh o.look=true then some {x with pen:=o.look} else none)
 else if o.kind=3 then (match r o.text.data.toList with
  |none=>none
  |some l=>if St.fits W l x.col=true then
    some {x with ah:=x.ah.set x.row.toNat (e7 x.pen l (x.ah.getD x.row.toNat []) x.col.toNat).1,col:=((e7 x.pen l (x.ah.getD x.row.toNat []) x.col.toNat).2:Nat)}
   else none)
 else if o.kind=4 then (if x.col<W then some {x with ah:=x.ah.set x.row.toNat (eV (x.ah.getD x.row.toNat []) x.col.toNat (W-x.col.toNat))} else none)
 else if o.kind=5\/o.kind=6 then (if (decide (0<=o.row)&&decide (o.row<=o.col)&&decide (o.col<x.ah.length)&&decide (1<=o.n)&&decide (o.n<=o.col-o.row+1))=true then
   some {x with ah:=xh W x.ah o.row.toNat o.col.toNat o.n.toNat (decide (o.kind=5))} else none)
 else if o.kind=7 then some {x with shown:=true}
 else if o.kind=8 then some {x with shown:=false}
 else none
def St.all (W:Nat) (r:List UInt8->Option (List Int)):List Op->Nat->St->St ⊕ Nat
 |[],_,x=>.inl x
 |o::l,i,x=>match x.pY W r o with
  |none=>.inr i
  |some y=>St.all W r l (i+1) y
end Go.Proofs.YtpohjcacnkhnkaaGreatDoor
namespace Go.Proofs.YtpohjcacnkhnkaaGreatDoor.Tq
abbrev NP:=Go.Proofs.YtpohjcacnkhnkaaGreatDoor.Ce
abbrev OR:=Go.Proofs.YtpohjcacnkhnkaaGreatDoor.Lk
abbrev oq:NP:=Go.Proofs.YtpohjcacnkhnkaaGreatDoor.Ce.sp
def Rr (k:Lk):OR:=⟨k.fore,k.back,k.bold,k.under,k.inv⟩
def Gx (c:Ce):NP:=⟨c.rune,c.look.fore,c.look.back,c.look.bold,c.look.under,c.look.inv⟩
theorem tc (l:List NP) (i:Nat) (c:NP) (k:Nat):(l.set i c).getD k oq=if i=k/\k<l.length then c else l.getD k oq:=by
 simp only[zC8,List.getElem?_set]
 by_cases h:i=k
 ·subst h
  by_cases h2:i<l.length
  ·simp[h2]
  ·simp[h2]
 ·simp[h]
theorem BT (l:List NP) (k j:Nat) (hk:k<l.length):(lg l k oq).getD j oq=if j=k then oq else if j+1=k/\(l.getD k oq).rune=-1 then oq else if j=k+1/\(l.getD j oq).rune=-1 then oq else l.getD j oq:=by
 unfold lg
 rw[tc,Af,tK]
 by_cases h1:j=k
 ·subst h1
  rw[if_pos ⟨rfl,hk⟩,if_pos rfl]
 ·rw[if_neg (fun h=>h1 h.1.symm),if_neg h1]
  have hl:∀ i,(pn l k).getD i oq=if i+1=k/\(l.getD k oq).rune=-1 then oq else l.getD i oq:=fun i=>by
   unfold pn
   split
   ·rename_i h
    rw[tc]
    by_cases h2:i+1=k
    ·rw[if_pos ⟨by omega,by omega⟩,if_pos ⟨h2,h.2⟩]
    ·rw[if_neg (fun c=>h2 (by omega)),if_neg (fun c=>h2 c.1)]
   ·rename_i h
    rw[if_neg (fun c=>h ⟨by omega,c.2⟩)]
  unfold rG
  have hk1:(pn l k).getD (k+1) oq=l.getD (k+1) oq:=by rw[hl,if_neg (by omega)]
  rw[show Go.Proofs.YtpohjcacnkhnkaaGreatDoor.Ce.sp=oq from rfl,hk1]
  by_cases hr:(l.getD (k+1) oq).rune=-1
  ·rw[if_pos hr,tc,tK]
   by_cases h2:j=k+1
   ·subst h2
    have hlt:k+1<l.length:=by
     rcases zC2 (k+1) l.length with h|h
     ·exact h
     ·rw[zC8,zC5 h]at hr
      exact absurd hr (by decide)
    rw[if_pos ⟨rfl,hlt⟩,if_neg (by omega),if_pos ⟨rfl,hr⟩]
   ·rw[if_neg (fun c=>h2 c.1.symm),hl]
    rw[if_neg (fun c:j=k+1/\_=>h2 c.1)]
  ·rw[if_neg hr,hl]
   by_cases h2:j=k+1
   ·subst h2
    rw[if_neg (fun c:k+1=k+1/\_=>hr c.2)]
   ·rw[if_neg (fun c:j=k+1/\_=>h2 c.1)]
theorem CR:∀ (n:Nat) (l:List NP) (k j:Nat),k+n<=l.length->(eV l k n).getD j oq=if n=0 then l.getD j oq else if k<=j/\j<k+n then oq else if j+1=k/\(l.getD k oq).rune=-1 then oq else if j=k+n/\(l.getD j oq).rune=-1 then oq else l.getD j oq
 |0,l,k,j,_=>by rw[eV,if_pos rfl]
 |n+1,l,k,j,h=>by
  have r1:¬((lg l k oq).getD (k+1) oq).rune=-1:=by
   rw[BT l k (k+1) (by omega),if_neg (by omega),if_neg (by omega)]
   split
   ·decide
   ·rename_i hc
    exact fun hr=>hc ⟨rfl,hr⟩
  rw[eV,show Go.Proofs.YtpohjcacnkhnkaaGreatDoor.Ce.sp=oq from rfl,CR n _ (k+1) j (by rw[fJ]; omega),if_neg (show ¬n+1=0 by omega)]
  by_cases hn:n=0
  ·subst hn
   rw[if_pos rfl,BT l k j (by omega)]
   by_cases hj:j=k
   ·rw[if_pos hj,if_pos (by omega)]
   ·rw[if_neg hj,if_neg (show ¬(k<=j/\j<k+(0+1)) by omega),zB8]
  ·rw[if_neg hn,if_neg (show ¬(j+1=k+1/\((lg l k oq).getD (k+1) oq).rune=-1) from fun c=>r1 c.2),BT l k j (by omega)]
   clear r1
   rcases Nat.lt_trichotomy j k with hj|rfl|hj
   ·rw[if_neg (show ¬(k+1<=j/\j<k+1+n) by omega),if_neg (show ¬j=k by omega),if_neg (show ¬(k<=j/\j<k+(n+1)) by omega)]
    have e1:∀ p:Prop,¬(j=k+1/\p):=fun p c=>by have:=c.1; omega
    have e2:∀ p:Prop,¬(j=k+1+n/\p):=fun p c=>by have:=c.1; omega
    have e3:∀ p:Prop,¬(j=k+(n+1)/\p):=fun p c=>by have:=c.1; omega
    simp only[e1,e2,e3,if_false]
   ·rw[if_neg (show ¬(j+1<=j/\j<j+1+n) by omega),if_pos (show j<=j/\j<j+(n+1) by omega)]
    have e2:∀ p:Prop,¬(j=j+1+n/\p):=fun p c=>by have:=c.1; omega
    simp only[e2,if_false,if_true]
   ·have e3:∀ p:Prop,¬(j+1=k/\p):=fun p c=>by have:=c.1; omega
    by_cases h4:j<k+(n+1)
    ·rw[if_pos (show k<=j/\j<k+(n+1) by omega),if_pos (show k+1<=j/\j<k+1+n by omega)]
    ·have e4:∀ p:Prop,¬(j=k+1/\p):=fun p c=>by have:=c.1; omega
     rw[if_neg (show ¬(k<=j/\j<k+(n+1)) by omega),if_neg (show ¬(k+1<=j/\j<k+1+n) by omega),if_neg (show ¬j=k by omega)]
     simp only[e3,e4,if_false]
     rw[show k+(n+1)=k+1+n by omega]
theorem getD_map (l:List Ce) (j:Nat):(l.map Gx).getD j oq=Gx (l.getD j sp):=by
 simp only[zC8,zF0]
 cases l[j]?<;>rfl
theorem AG (l:List Ce) (i:Nat) (c:Ce) (k:Nat):(l.set i c).getD k sp=if i=k/\k<l.length then c else l.getD k sp:=by
 simp only[zC8,List.getElem?_set]
 by_cases h:i=k
 ·subst h
  by_cases h2:i<l.length
  ·simp[h2]
  ·simp[h2]
 ·simp[h]
theorem xu (l:List Ce) (a b:Nat) (h1:a<=b) (h2:b<=l.length):(iR l a b).length=l.length:=by
 unfold iR
 have e:∀ m:List Ce,m.length=l.length->(m.take a++List.replicate (b-a) sp++m.drop (max a b)).length=l.length:=fun m hm=>by
  simp only[zB4,List.length_take,zE4,zD8]
  omega
 apply e
 split<;>(try split)<;>simp
theorem MK {l m:List NP} (h:l.length=m.length) (hg:∀ j,l.getD j oq=m.getD j oq):l=m:=by
 apply List.ext_getElem? 
 intro j
 have:=hg j
 simp only[zC8]at this
 rcases zC2 j l.length with hj|hj
 ·rw[zB1 hj,zB1 (by omega)]at this ⊢
  simpa using this
 ·rw[zC5 hj,zC5 (by omega)]
theorem G3 (m:List Ce) (a b j:Nat) (h1:a<=b) (h2:b<=m.length):(m.take a++List.replicate (b-a) sp++m.drop (max a b)).getD j sp=if a<=j/\j<b then sp else m.getD j sp:=by
 simp only[zC8]
 have e1:(m.take a).length=a:=by rw[List.length_take]; omega
 rcases zC2 j a with h|h
 ·rw[zD3,List.getElem?_append_left (by omega),List.getElem?_take,if_pos h,if_neg (by omega)]
 ·rcases zC2 j b with h'|h'
  ·rw[List.getElem?_append_left (by rw[zB4,e1,zE4]; omega),List.getElem?_append_right (by omega),e1,List.getElem?_replicate,if_pos (by omega),if_pos ⟨h,h'⟩]
   rfl
  ·rw[List.getElem?_append_right (by rw[zB4,e1,zE4]; omega),zB4,e1,zE4,List.getElem?_drop,if_neg (by omega)]
   congr 2
   omega
theorem oU (l:List Ce) (a b:Nat) (h1:a<=b) (h2:b<=l.length):(iR l a b).map Gx=eV (l.map Gx) a (b-a):=by
 refine MK ?_ fun j=>?_
 ·rw[zD7,xu l a b h1 h2]
  have:∀ (n:Nat) (m:List NP) (k:Nat),(eV m k n).length=m.length:=fun n=>by
   induction n with
   |zero=>intro m k; rfl
   |succ n ih=>intro m k; rw[eV,ih,fJ]
  rw[this,zD7]
 ·rw[getD_map,CR (b-a) _ a j (by rw[zD7]; omega),getD_map,getD_map]
  unfold iR
  simp only
  by_cases hab:a<b
  ·have e1:∀ i,(if a<b/\(l.getD a sp).rune=-1 then l.set (a-1) sp else l).getD i sp=if (l.getD a sp).rune=-1/\a-1=i/\i<l.length then sp else l.getD i sp:=fun i=>by
    by_cases hr:(l.getD a sp).rune=-1
    ·rw[if_pos ⟨hab,hr⟩,AG]
     by_cases hc:a-1=i/\i<l.length
     ·rw[if_pos hc,if_pos ⟨hr,hc⟩]
     ·rw[if_neg hc,if_neg (fun h=>hc h.2)]
    ·rw[if_neg (fun h=>hr h.2),if_neg (fun h=>hr h.1)]
   have len1:(if a<b/\(l.getD a sp).rune=-1 then l.set (a-1) sp else l).length=l.length:=by split<;>simp
   generalize (if a<b/\(l.getD a sp).rune=-1 then l.set (a-1) sp else l)=l1 at e1 len1
   have e2:∀ i,(if a<b/\b<l1.length/\(l1.getD b sp).rune=-1 then l1.set b sp else l1).getD i sp=if b<l.length/\(l1.getD b sp).rune=-1/\b=i then sp else l1.getD i sp:=fun i=>by
    by_cases hr:b<l.length/\(l1.getD b sp).rune=-1
    ·rw[if_pos ⟨hab,by omega,hr.2⟩,AG]
     by_cases hc:b=i
     ·rw[if_pos ⟨hc,by omega⟩,if_pos ⟨hr.1,hr.2,hc⟩]
     ·rw[if_neg (fun h=>hc h.1),if_neg (fun h=>hc h.2.2)]
    ·rw[if_neg (fun h=>hr ⟨by omega,h.2.2⟩),if_neg (fun h=>hr ⟨h.1,h.2.1⟩)]
   have len2:(if a<b/\b<l1.length/\(l1.getD b sp).rune=-1 then l1.set b sp else l1).length=l.length:=by split<;>simp[len1]
   generalize (if a<b/\b<l1.length/\(l1.getD b sp).rune=-1 then l1.set b sp else l1)=l2 at e2 len2
   rw[G3 l2 a b j h1 (by omega),if_neg (show ¬b-a=0 by omega)]
   rw[show a+(b-a)=b by omega]
   by_cases hj:a<=j/\j<b
   ·rw[if_pos hj,if_pos hj]; rfl
   ·rw[if_neg hj,if_neg hj,e2]
    have hb1:l1.getD b sp=l.getD b sp:=by rw[e1,if_neg (by omega)]
    rw[hb1]
    have cr:∀ c:Ce,(Gx c).rune=c.rune:=fun _=>rfl
    simp only[cr]
    by_cases hjb:j=b
    ·subst hjb
     rw[if_neg (show ¬(j+1=a/\_) from fun c=>by omega)]
     by_cases hr:(l.getD j sp).rune=-1
     ·have hlt:j<l.length:=by
       rcases zC2 j l.length with h|h
       ·exact h
       ·rw[zC8,zC5 h]at hr
        exact absurd hr (by decide)
      rw[if_pos ⟨hlt,hr,rfl⟩,if_pos ⟨rfl,hr⟩]; rfl
     ·rw[if_neg (fun h=>hr h.2.1),if_neg (fun h=>hr h.2),hb1]
    ·rw[if_neg (fun h=>hjb h.2.2.symm),if_neg (fun h:j=b/\_=>hjb h.1),e1]
     by_cases hc:j+1=a/\(l.getD a sp).rune=-1
     ·rw[if_pos ⟨hc.2,by omega,by omega⟩,if_pos hc]; rfl
     ·rw[if_neg hc]
      by_cases hd:(l.getD a sp).rune=-1/\a-1=j/\j<l.length
      ·have ha0:a=0:=by
        rcases Nat.eq_zero_or_pos a with h|h
        ·exact h
        ·exact absurd ⟨by omega,hd.1⟩ hc
       omega
      ·rw[if_neg hd]
  ·have hba:b-a=0:=by omega
   obtain rfl:a=b:=by omega
   rw[if_pos hba,if_neg (fun h=>hab h.1)]
   rw[if_neg (fun h=>hab h.1)]
   rw[G3 l a a j (zA8 _) h2,if_neg (by omega)]
abbrev yX:=Go.Proofs.YtpohjcacnkhnkaaGreatDoor.Op
abbrev oh (g:List (List Ce)):List (List NP):=g.map fun l=>l.map Gx
structure qx (W:Nat) (x:St) (t:Tm):Prop where
 ok:x.Ok W
 ah:x.ah=oh t.ah
 pen:x.pen=Rr t.pen
 row:x.row=t.row
 col:x.col=t.col
 shown:x.shown=t.shown
 top:t.top=0
 bot:t.bottom=(t.ah.length:Int)-1
 idle:Idle t
section
variable {W : Nat} {x y : St} {t : Tm} {u : yY}
theorem qx.len (s:qx W x t):x.ah.length=t.ah.length:=by rw[s.ah,zD7]
theorem qx.bS (s:qx W x t):t.bS=(x.ah.length:Int):=by rw[s.len]; rfl
theorem qx.wid (s:qx W x t):∀ l∈t.ah,l.length=W:=fun l hl=>by
 have:=s.ok.wid (l.map Gx) (by rw[s.ah]; exact zB5.2 ⟨l,hl,rfl⟩)
 rwa [zD7]at this
theorem qx.width (s:qx W x t):t.width=(W:Int):=by
 have h1:=s.ok.h1
 rw[s.len]at h1
 unfold Tm.width
 cases h:t.ah with
 |nil=>rw[h]at h1; simp at h1
 |cons l g =>
  have:=s.wid l (by rw[h]; simp)
  simp[this]
def fW (l:List Nat) (f:UInt8):List UInt8:=27::91::(dH l++[f])
def tF (l:List Nat):List Int:=if l=[] then [0] else l.map Int.ofNat
theorem jf (hu:u.full [27]=true) (i:Idle t) (l:List Nat) {f:UInt8} (hl:∀ n∈l,n<=9999) (h12:l.length<=12) (hf:64<=f/\f<=126) (cR:¬(f=104\/f=108)) :
  t.feed u (fW l f)=(({t with mode:=3,params:=dH l,middle:=false}:Tm).dK f (tF l)).m0:=by
 obtain⟨a1,a2⟩:=EK l hl
 have hn:numbers (dH l) [] 0=some (tF l):=by
  unfold tF
  split
  ·rename_i h; subst h; rfl
  ·rename_i h
   have:=CL l [] h hl
   simpa using this
 unfold fW
 rw[Ed hu i a1 (by omega) hf]
 unfold Tm.fw
 rw[if_neg (fun h=>cR h.2)]
 simp only[hn]
theorem Ik (t:Tm) (a b:Nat):t.dK 72 [Int.ofNat (a+1),Int.ofNat (b+1)]=t.cn a b:=by
 have e1:count [Int.ofNat (a+1),Int.ofNat (b+1)]-1=(a:Int):=by
  simp only[count,List.headD_cons,Int.ofNat_eq_natCast]; omega
 have e2:max 1 (snd [Int.ofNat (a+1),Int.ofNat (b+1)])-1=(b:Int):=by
  simp only[snd,List.getD_cons_succ,List.getD_cons_zero,Int.ofNat_eq_natCast]; omega
 show t.cn (count [Int.ofNat (a+1),Int.ofNat (b+1)]-1) (max 1 (snd [Int.ofNat (a+1),Int.ofNat (b+1)])-1)=_
 rw[e1,e2]
theorem LA (hu:u.full [27]=true) (s:qx W x t) {o:yX} (ho:0<=o.row/\o.row<x.ah.length/\0<=o.col/\o.col<W) :
  qx W {x with row:=o.row,col:=o.col} (t.feed u (fW [o.row.toNat+1,o.col.toNat+1] 72)):=by
 have h2:=s.ok.h2
 have w2:=s.ok.w2
 obtain⟨o1,o2,o3,o4⟩:=ho
 rw[jf hu s.idle _ (fun n hn=>by simp only[zA7,zD2,or_false]at hn; omega) (by simp) (by decide) (by decide)]
 rw[show tF [o.row.toNat+1,o.col.toNat+1]=[Int.ofNat (o.row.toNat+1),Int.ofNat (o.col.toNat+1)] from rfl,Ik]
 have hm:∀ (q:Tm),q.ah=t.ah->q.cn (o.row.toNat:Nat) (o.col.toNat:Nat)={q with row:=o.row,col:=o.col}:=fun q hq=>by
  unfold Tm.cn
  have e1:q.bS=(x.ah.length:Int):=by rw[<-s.bS]; unfold Tm.bS; rw[hq]
  have e2:q.width=(W:Int):=by rw[<-s.width]; unfold Tm.width; rw[hq]
  rw[e1,e2,show max 0 (min ((o.row.toNat:Nat):Int) ((x.ah.length:Int)-1))=o.row by omega,show max 0 (min ((o.col.toNat:Nat):Int) ((W:Int)-1))=o.col by omega]
 rw[hm ({t with mode:=3,params:=dH [o.row.toNat+1,o.col.toNat+1],middle:=false}:Tm) rfl]
 exact⟨⟨s.ok.h1,s.ok.h2,s.ok.w1,s.ok.w2,s.ok.wid,o1,o2,o3,by show o.col<=W; omega⟩,s.ah,s.pen,rfl,rfl,s.shown,s.top,s.bot,⟨rfl,s.idle.rest⟩⟩
theorem Dn (hu:u.full [27]=true) (s:qx W x t) (b:Bool):qx W {x with shown:=b} (t.feed u [27,91,63,50,53,cond b 104 108]):=by
 have h:=Ed (u:=u) hu s.idle (ps:=[63,50,53]) (f:=cond b 104 108) (fun c hc=>by
  simp only[zA7,zD2,or_false]at hc
  rcases hc with rfl|rfl|rfl<;>exact⟨by decide,by decide⟩) (by decide) (by cases b<;>decide)
 have e:([27,91,63,50,53,cond b 104 108]:List UInt8)=27::91::([63,50,53]++[cond b 104 108]):=rfl
 rw[e,h]
 unfold Tm.fw
 rw[if_pos ⟨rfl,by cases b<;>decide⟩]
 exact⟨⟨s.ok.h1,s.ok.h2,s.ok.w1,s.ok.w2,s.ok.wid,s.ok.row0,s.ok.row1,s.ok.col0,s.ok.col1⟩,s.ah,s.pen,s.row,s.col,by cases b<;>rfl,s.top,s.bot,⟨rfl,s.idle.rest⟩⟩
def j8 (k:OR):List Nat:=0::((if k.bold then [1] else [])++(if k.under then [4] else [])++(if k.inv then [7] else [])++(if 0<k.fore then [38,5,(k.fore-1).toNat] else [])++(if 0<k.back then [48,5,(k.back-1).toNat] else []))
theorem Jy (k:Lk) (b:Int) (h0:0<=b) (h1:b<=256):Lk.attributes ((if 0<b then [48,5,(b-1).toNat] else []).map Int.ofNat) k=if 0<b then {k with back:=b} else k:=by
 split
 ·rename_i h
  have e1:¬(Int.ofNat (b-1).toNat>255):=by simp only[Int.ofNat_eq_natCast]; omega
  have e2:Int.ofNat (b-1).toNat+1=b:=by simp only[Int.ofNat_eq_natCast]; omega
  show Lk.attributes [48,5,Int.ofNat (b-1).toNat] k=_
  rw[Lk.attributes,if_pos (.inr rfl)]
  rw[if_neg (fun h=>h.elim (fun h=>h rfl) e1),e2]
  rfl
 ·rfl
theorem I0 (k:Lk) (b:Int) (h0:0<=b) (h1:b<=256) (r:List Int):Lk.attributes ((if 0<b then [38,5,(b-1).toNat] else []).map Int.ofNat++r) k=Lk.attributes r (if 0<b then {k with fore:=b} else k):=by
 split
 ·rename_i h
  have e1:¬(Int.ofNat (b-1).toNat>255):=by simp only[Int.ofNat_eq_natCast]; omega
  have e2:Int.ofNat (b-1).toNat+1=b:=by simp only[Int.ofNat_eq_natCast]; omega
  show Lk.attributes (38::5::Int.ofNat (b-1).toNat::r) k=_
  rw[Lk.attributes,if_pos (.inl rfl)]
  rw[if_neg (fun h=>h.elim (fun h=>h rfl) e1),e2]
  rfl
 ·rfl
theorem rI (k:Lk) (n:Int) (r:List Int) (h:n=0\/n=1\/n=4\/n=7):Lk.attributes (n::r) k=Lk.attributes r (k.attribute n):=by
 rcases h with rfl|rfl|rfl|rfl<;>(rcases r with _|⟨a,_|⟨b,r⟩⟩<;>rfl)
def R5 (k:OR):Lk:=⟨k.fore,k.back,k.bold,k.under,k.inv⟩
theorem JC (k:Lk) (o:OR) (h:mh o=true):Lk.attributes (tF (j8 o)) k=R5 o:=by
 unfold mh at h
 simp only[zA4,decide_eq_true_eq]at h
 obtain⟨⟨⟨f0,f1⟩,b0⟩,b1⟩:=h
 have e:tF (j8 o)=0::((if o.bold then [1] else [])++((if o.under then [4] else [])++((if o.inv then [7] else [])++((if 0<o.fore then [38,5,(o.fore-1).toNat] else []).map Int.ofNat++(if 0<o.back then [48,5,(o.back-1).toNat] else []).map Int.ofNat)))):=by
  unfold tF j8
  rw[if_neg (by simp)]
  simp only[zC0,List.map_append,zD3]
  congr 1
  cases o.bold<;>cases o.under<;>cases o.inv<;>rfl
 rw[e,rI _ _ _ (.inl rfl)]
 have hz:Lk.attribute k 0=.no:=rfl
 rw[hz]
 have b1':∀ (q:Lk) (c:Bool) (r:List Int),Lk.attributes ((if c then [1] else [])++r) q=Lk.attributes r {q with bold:=c||q.bold}:=fun q c r=>by
  cases c
  ·rfl
  ·show Lk.attributes (1::r) q=_
   rw[rI _ _ _ (.inr (.inl rfl))]; rfl
 have u1':∀ (q:Lk) (c:Bool) (r:List Int),Lk.attributes ((if c then [4] else [])++r) q=Lk.attributes r {q with under:=c||q.under}:=fun q c r=>by
  cases c
  ·rfl
  ·show Lk.attributes (4::r) q=_
   rw[rI _ _ _ (.inr (.inr (.inl rfl)))]; rfl
 have i1':∀ (q:Lk) (c:Bool) (r:List Int),Lk.attributes ((if c then [7] else [])++r) q=Lk.attributes r {q with inv:=c||q.inv}:=fun q c r=>by
  cases c
  ·rfl
  ·show Lk.attributes (7::r) q=_
   rw[rI _ _ _ (.inr (.inr (.inr rfl)))]; rfl
 rw[b1',u1',i1',I0 _ _ f0 f1,Jy _ _ b0 b1]
 unfold R5 Lk.no
 simp only[Bool.or_false]
 split
 ·split
  ·rfl
  ·rw[show o.fore=0 by omega]
 ·rw[show o.back=0 by omega]
  split
  ·rfl
  ·rw[show o.fore=0 by omega]
theorem MQ (hu:u.full [27]=true) (s:qx W x t) {o:OR} (ho:mh o=true):qx W {x with pen:=o} (t.feed u (fW (j8 o) 109)):=by
 have hc:=ho
 unfold mh at hc
 simp only[zA4,decide_eq_true_eq]at hc
 rw[jf hu s.idle _ (fun n hn=>by
  unfold j8 at hn
  simp only[zA7,zB2]at hn
  rcases hn with rfl|(((h|h)|h)|h)|h
  ·omega
  all_goals (split at h<;>simp only[zA7,zD2,or_false]at h<;>omega)) (by
   unfold j8
   simp only[zB0,zB4]
   have h3:∀ (b:Bool) (n:Nat),(if b then [n] else ([]:List Nat)).length<=1:=fun b n=>by cases b<;>simp
   have h4:∀ (p:Prop) [Decidable p] (a b c:Nat),(if p then [a,b,c] else ([]:List Nat)).length<=3:=fun p _ a b c=>by split<;>simp
   have:=h3 o.bold 1; have:=h3 o.under 4; have:=h3 o.inv 7; have:=h4 (0<o.fore) 38 5 (o.fore-1).toNat; have:=h4 (0<o.back) 48 5 (o.back-1).toNat
   omega) (by decide) (by decide)]
 have e:∀ q:Tm,q.dK 109 (tF (j8 o))={q with pen:=R5 o}:=fun q=>by
  rw[<-JC q.pen o ho]
  rfl
 rw[e]
 exact⟨⟨s.ok.h1,s.ok.h2,s.ok.w1,s.ok.w2,s.ok.wid,s.ok.row0,s.ok.row1,s.ok.col0,s.ok.col1⟩,s.ah,rfl,s.row,s.col,s.shown,s.top,s.bot,⟨rfl,s.idle.rest⟩⟩
theorem GU (g:List (List Ce)) (i:Nat) (l:List Ce):oh (g.set i l)=(oh g).set i (l.map Gx):=by
 unfold oh
 rw[List.map_set]
theorem It (g:List (List Ce)) (i:Nat):(oh g).getD i []=(g.getD i []).map Gx:=by
 simp only[oh,zC8,zF0]
 cases g[i]?<;>rfl
theorem qx.M9 (s:qx W x t):(t.ah.getD t.row.toNat []).length=W:=by
 have h0:=s.ok.row0
 have h1:=s.ok.row1
 rw[s.row]at h0 h1
 rw[s.len]at h1
 have h2:t.row.toNat<t.ah.length:=by omega
 rw[zC8,zB1 h2,Option.getD_some]
 exact s.wid _ (zG7 _)
theorem Jb (hu:u.full [27]=true) (s:qx W x t) (hc:x.col<W):qx W {x with ah:=x.ah.set x.row.toNat (eV (x.ah.getD x.row.toNat []) x.col.toNat (W-x.col.toNat))} (t.feed u (fW [] 75)):=by
 have c0:=s.ok.col0
 have hw:=s.width
 have hrl:=s.M9
 rw[s.col]at hc c0
 rw[jf hu s.idle [] (fun n hn=>by cases hn) (by simp) (by decide) (by decide)]
 have e:∀ q:Tm,q.dK 75 (tF [])=q.blank q.row q.inside q.width:=fun q=>rfl
 rw[e]
 have hin:Tm.inside {t with mode:=3,params:=dH [],middle:=false}=t.col:=by
  show min t.col (t.width-1)=t.col
  omega
 have hwd:Tm.width {t with mode:=3,params:=dH [],middle:=false}=(W:Int):=hw
 rw[hin,hwd]
 have hg:x.ah.set x.row.toNat (eV (x.ah.getD x.row.toNat []) x.col.toNat (W-x.col.toNat))=oh (t.ah.set t.row.toNat (iR (t.ah.getD t.row.toNat []) t.col.toNat W)):=by
  rw[GU,s.ah,It,s.row,s.col,oU _ _ _ (by omega) (by omega)]
 have hwid:∀ l∈x.ah.set x.row.toNat (eV (x.ah.getD x.row.toNat []) x.col.toNat (W-x.col.toNat)),l.length=W:=fun l hl=>by
  rw[hg]at hl
  obtain⟨m,hm,rfl⟩:=zB5.1 hl
  rw[zD7]
  rcases List.mem_or_eq_of_mem_set hm with h|h
  ·exact s.wid m h
  ·rw[h,xu _ _ _ (by omega) (by omega),hrl]
 refine⟨⟨?_,?_,s.ok.w1,s.ok.w2,hwid,s.ok.row0,?_,s.ok.col0,s.ok.col1⟩,?_,s.pen,s.row,s.col,s.shown,s.top,?_,⟨rfl,s.idle.rest⟩⟩
 ·simp only[zF3]; exact s.ok.h1
 ·simp only[zF3]; exact s.ok.h2
 ·simp only[zF3]; exact s.ok.row1
 ·rw[hg]; rfl
 ·show t.bottom=((t.ah.set t.row.toNat _).length:Int)-1
  rw[zF3]
  exact s.bot
end
section
variable {W : Nat} {x y : St} {t q : Tm} {u : yY}
theorem IY (hu:u.full [27]=true) (i:Idle q):q.feed u [27,55]={q with mode:=0,srow:=q.row,scol:=q.col,spen:=q.pen}:=by
 rw[DY hu i]; rfl
theorem JO (hu:u.full [27]=true) (i:Idle q):q.feed u [27,56]={q with mode:=0,row:=q.srow,col:=q.scol,pen:=q.spen}:=by
 rw[DY hu i]; rfl
theorem F8 (q:Tm) {a b:Nat} (hab:a<=b) (hb:(b:Int)<q.bS):q.region [Int.ofNat (a+1),Int.ofNat (b+1)]={q with top:=a,bottom:=b,row:=0,col:=max 0 (min 0 (q.width-1))}:=by
 have e1:count [Int.ofNat (a+1),Int.ofNat (b+1)]-1=(a:Int):=by
  simp only[count,List.headD_cons,Int.ofNat_eq_natCast]; omega
 have e2:snd [Int.ofNat (a+1),Int.ofNat (b+1)]-1=(b:Int):=by
  simp only[snd,List.getD_cons_succ,List.getD_cons_zero,Int.ofNat_eq_natCast]; omega
 have e3:(if (b:Int)<0\/(b:Int) ≥ q.bS then q.bS-1 else (b:Int))=b:=if_neg (by omega)
 unfold Tm.region
 simp only[e1,e2]
 rw[e3,if_pos (by omega)]
 unfold Tm.cn
 have hh:Tm.bS {q with top:=(a:Int),bottom:=(b:Int)}=q.bS:=rfl
 have hw:Tm.width {q with top:=(a:Int),bottom:=(b:Int)}=q.width:=rfl
 rw[hh,hw,show max 0 (min 0 (q.bS-1))=0 by omega]
theorem FJ (q:Tm) (hb:1<=q.bS):q.region [0]={q with top:=0,bottom:=q.bS-1,row:=0,col:=max 0 (min 0 (q.width-1))}:=by
 have e1:count [0]-1=0:=rfl
 have e2:snd [0]-1=-1:=rfl
 have e3:(if (-1:Int)<0\/(-1:Int) ≥ q.bS then q.bS-1 else (-1:Int))=q.bS-1:=if_pos (.inl (by decide))
 unfold Tm.region
 simp only[e1,e2]
 rw[e3,if_pos (by omega)]
 unfold Tm.cn
 have hh:Tm.bS {q with top:=(0:Int),bottom:=q.bS-1}=q.bS:=rfl
 have hw:Tm.width {q with top:=(0:Int),bottom:=q.bS-1}=q.width:=rfl
 rw[hh,hw,show max 0 (min 0 (q.bS-1))=0 by omega]
theorem Dg (hu:u.full [27]=true) (i:Idle q) {a b:Nat} (hab:a<=b) (hb:(b:Int)<q.bS) (h9:b<9999):∃ ps,q.feed u (fW [a+1,b+1] 114)={q with mode:=0,params:=ps,middle:=false,top:=a,bottom:=b,row:=0,col:=max 0 (min 0 (q.width-1))}:=by
 rw[jf hu i _ (fun n hn=>by simp only[zA7,zD2,or_false]at hn; omega) (by simp) (by decide) (by decide)]
 have e:∀ z:Tm,z.dK 114 (tF [a+1,b+1])=z.region [Int.ofNat (a+1),Int.ofNat (b+1)]:=fun z=>rfl
 rw[e,F8 ({q with mode:=3,params:=dH [a+1,b+1],middle:=false}:Tm) hab hb]
 exact⟨_,rfl⟩
theorem Cf (hu:u.full [27]=true) (i:Idle q) (hb:1<=q.bS):∃ ps,q.feed u (fW [] 114)={q with mode:=0,params:=ps,middle:=false,top:=0,bottom:=q.bS-1,row:=0,col:=max 0 (min 0 (q.width-1))}:=by
 rw[jf hu i [] (fun n hn=>by cases hn) (by simp) (by decide) (by decide)]
 have e:∀ z:Tm,z.dK 114 (tF [])=z.region [0]:=fun z=>rfl
 rw[e,FJ ({q with mode:=3,params:=dH [],middle:=false}:Tm) hb]
 exact⟨_,rfl⟩
theorem NI (hu:u.full [27]=true) (i:Idle q) {a:Nat} (ha:(a:Int)<q.bS) (h9:a<9999):∃ ps,q.feed u (fW [a+1,0+1] 72)={q with mode:=0,params:=ps,middle:=false,row:=a,col:=max 0 (min 0 (q.width-1))}:=by
 rw[jf hu i _ (fun n hn=>by simp only[zA7,zD2,or_false]at hn; omega) (by simp) (by decide) (by decide)]
 rw[show tF [a+1,0+1]=[Int.ofNat (a+1),Int.ofNat (0+1)] from rfl,Ik]
 refine⟨dH [a+1,0+1],?_⟩
 unfold Tm.cn Tm.m0
 have hh:Tm.bS {q with mode:=3,params:=dH [a+1,0+1],middle:=false}=q.bS:=rfl
 have hw:Tm.width {q with mode:=3,params:=dH [a+1,0+1],middle:=false}=q.width:=rfl
 rw[hh,hw,show max 0 (min (a:Int) (q.bS-1))=a by omega]
 rfl
theorem Gc (hu:u.full [27]=true) (i:Idle q) {n:Nat} (up:Bool) (h1:1<=n) (h9:n<=9999) (hr:q.top<=q.row/\q.row<=q.bottom):∃ ps,q.feed u (fW [n] (cond up 77 76))={q with mode:=0,params:=ps,middle:=false,ah:=iZ q.width.toNat q.ah q.row.toNat q.bottom.toNat n up}:=by
 rw[jf hu i _ (fun k hk=>by simp only[zA7,zD2,or_false]at hk; omega) (by simp) (by cases up<;>decide) (by cases up<;>decide)]
 have hc:count [Int.ofNat n]=(n:Int):=by simp only[count,List.headD_cons,Int.ofNat_eq_natCast]; omega
 have e:∀ z:Tm,z.dK (cond up 77 76) (tF [n])=z.lines (count [Int.ofNat n]) up:=fun z=>by cases up<;>rfl
 rw[e,hc]
 unfold Tm.lines
 rw[if_pos (show _ from hr)]
 refine⟨dH [n],?_⟩
 unfold Tm.fN Tm.m0
 rfl
theorem OC (w:Nat) (g:List (List Ce)) {a b n:Nat} (up:Bool) (hab:a<=b) (hb:b<g.length) (hn:n<=b+1-a):oh (iZ w g a b n up)=xh w (oh g) a b n up:=by
 unfold iZ xh
 simp only
 have e0:min n (b+1-a)=n:=Nat.min_eq_left hn
 have e1:((oh g).take (b+1)).drop a=oh ((g.drop a).take (b+1-a)):=by
  unfold oh
  rw[List.drop_take,<-List.map_drop,<-List.map_take]
 have e2:(oh ((g.drop a).take (b+1-a))).length=b+1-a:=by
  unfold oh
  rw[zD7,List.length_take,zD8]; omega
 have e3:oh (List.replicate n (List.replicate w sp))=List.replicate n (List.replicate w Go.Proofs.YtpohjcacnkhnkaaGreatDoor.Ce.sp):=by
  unfold oh
  rw[List.map_replicate,List.map_replicate]; rfl
 have ap:∀ a b:List (List Ce),oh (a++b)=oh a++oh b:=fun a b=>List.map_append
 have tk:∀ (k:Nat) (a:List (List Ce)),oh (a.take k)=(oh a).take k:=fun k a=>List.map_take
 have dr:∀ (k:Nat) (a:List (List Ce)),oh (a.drop k)=(oh a).drop k:=fun k a=>List.map_drop
 rw[e0,e1,ap,ap,e2,show a+(b+1-a)=b+1 by omega,dr,tk a]
 congr 2
 cases up
 ·simp only[zC4,if_false]
  rw[ap,e3,tk (b+1-a-n)]
 ·simp only[if_true]
  rw[ap,e3,dr n]
theorem IU (w:Nat) (g:List (List Ce)) {a b n:Nat} (up:Bool) (hab:a<=b) (hb:b<g.length):(iZ w g a b n up).length=g.length:=by
 unfold iZ
 simp only
 cases up<;>simp only[zC4,if_false,if_true,zB4,List.length_take,zD8,zE4]<;>omega
theorem LB (w:Nat) (g:List (List Ce)) {a b n:Nat} (up:Bool) {l:List Ce} (h:l∈iZ w g a b n up):l∈g\/l=List.replicate w sp:=by
 unfold iZ at h
 simp only[zB2]at h
 rcases h with (h|h)|h
 ·exact .inl (zF6 h)
 ·cases up
  ·simp only[zC4,if_false,zB2]at h
   rcases h with h|h
   ·exact .inr (List.eq_of_mem_replicate h)
   ·exact .inl (zF9 (zF6 (zF6 h)))
  ·simp only[if_true,zB2]at h
   rcases h with h|h
   ·exact .inl (zF9 (zF6 (zF9 h)))
   ·exact .inr (List.eq_of_mem_replicate h)
 ·exact .inl (zF9 h)
def uI (a b n:Nat) (up:Bool):List UInt8:=[27,55]++(fW [a+1,b+1] 114++(fW [a+1,0+1] 72++(fW [n] (cond up 77 76)++(fW [] 114++[27,56]))))
theorem LV (hu:u.full [27]=true) (s:qx W x t) {a b n:Nat} (up:Bool) (hab:a<=b) (hb:b<x.ah.length) (h1:1<=n) (hn:n<=b+1-a) :
  qx W {x with ah:=xh W x.ah a b n up} (t.feed u (uI a b n up)):=by
 have h2:=s.ok.h2
 have hlen:=s.len
 have hh:=s.bS
 have hw:=s.width
 obtain⟨t1,ht1⟩:∃ z,({t with mode:=0,srow:=t.row,scol:=t.col,spen:=t.pen}:Tm)=z:=⟨_,rfl⟩
 have f1:=IY hu s.idle
 rw[ht1]at f1
 have i1:Idle t1:=by rw[<-ht1]; exact⟨rfl,s.idle.rest⟩
 obtain⟨p2,f2⟩:=Dg (a:=a) (b:=b) hu i1 hab (by rw[<-ht1]; show (b:Int)<t.bS; omega) (by omega)
 obtain⟨t2,ht2⟩:∃ z,({t1 with mode:=0,params:=p2,middle:=false,top:=a,bottom:=b,row:=0,col:=max 0 (min 0 (t1.width-1))}:Tm)=z:=⟨_,rfl⟩
 rw[ht2]at f2
 have i2:Idle t2:=by rw[<-ht2]; exact⟨rfl,i1.rest⟩
 obtain⟨p3,f3⟩:=NI (a:=a) hu i2 (by rw[<-ht2,<-ht1]; show (a:Int)<t.bS; omega) (by omega)
 obtain⟨t3,ht3⟩:∃ z,({t2 with mode:=0,params:=p3,middle:=false,row:=a,col:=max 0 (min 0 (t2.width-1))}:Tm)=z:=⟨_,rfl⟩
 rw[ht3]at f3
 have i3:Idle t3:=by rw[<-ht3]; exact⟨rfl,i2.rest⟩
 obtain⟨p4,f4⟩:=Gc hu i3 up h1 (by omega) (by rw[<-ht3,<-ht2]; exact⟨Int.le_refl _,by show (a:Int)<=b; omega⟩)
 have g3:t3.ah=t.ah:=by rw[<-ht3,<-ht2,<-ht1]
 have e3:iZ t3.width.toNat t3.ah t3.row.toNat t3.bottom.toNat n up=iZ W t.ah a b n up:=by
  have w3:t3.width=t.width:=by unfold Tm.width; rw[g3]
  rw[w3,hw,g3,<-ht3,<-ht2]
  rfl
 rw[e3]at f4
 obtain⟨t4,ht4⟩:∃ z,({t3 with mode:=0,params:=p4,middle:=false,ah:=iZ W t.ah a b n up}:Tm)=z:=⟨_,rfl⟩
 rw[ht4]at f4
 have i4:Idle t4:=by rw[<-ht4]; exact⟨rfl,i3.rest⟩
 have hl4:(iZ W t.ah a b n up).length=t.ah.length:=IU W t.ah up hab (by omega)
 have h4:t4.bS=t.bS:=by rw[<-ht4]; show ((iZ W t.ah a b n up).length:Int)=_; rw[hl4]; rfl
 obtain⟨p5,f5⟩:=Cf hu i4 (by rw[h4,hh]; have:=s.ok.h1; omega)
 obtain⟨t5,ht5⟩:∃ z,({t4 with mode:=0,params:=p5,middle:=false,top:=0,bottom:=t4.bS-1,row:=0,col:=max 0 (min 0 (t4.width-1))}:Tm)=z:=⟨_,rfl⟩
 rw[ht5]at f5
 have i5:Idle t5:=by rw[<-ht5]; exact⟨rfl,i4.rest⟩
 have f6:=JO hu i5
 have hfeed:t.feed u (uI a b n up)={t5 with mode:=0,row:=t5.srow,col:=t5.scol,pen:=t5.spen}:=by
  unfold uI
  rw[Tm.dY,f1,Tm.dY,f2,Tm.dY,f3,Tm.dY,f4,Tm.dY,f5,f6]
 rw[hfeed]
 have hg:xh W x.ah a b n up=oh (iZ W t.ah a b n up):=by rw[OC W t.ah up hab (by omega) hn,s.ah]
 have g5:t5.ah=iZ W t.ah a b n up:=by rw[<-ht5,<-ht4]
 refine⟨⟨?_,?_,s.ok.w1,s.ok.w2,fun l hl=>?_,s.ok.row0,?_,s.ok.col0,s.ok.col1⟩,?_,?_,?_,?_,?_,?_,?_,⟨rfl,i5.rest⟩⟩
 ·simp only[hg,oh,zD7,hl4]; rw[<-hlen]; exact s.ok.h1
 ·simp only[hg,oh,zD7,hl4]; rw[<-hlen]; exact s.ok.h2
 ·simp only[hg]at hl
  obtain⟨z,hz,rfl⟩:=zB5.1 hl
  rw[zD7]
  rcases LB W t.ah up hz with h|h
  ·exact s.wid z h
  ·rw[h,zE4]
 ·simp only[hg,oh,zD7,hl4]; rw[<-hlen]; exact s.ok.row1
 ·simp only[hg,g5]
 ·show x.pen=Rr t5.spen
  rw[<-ht5,<-ht4,<-ht3,<-ht2,<-ht1]; exact s.pen
 ·show x.row=t5.srow
  rw[<-ht5,<-ht4,<-ht3,<-ht2,<-ht1]; exact s.row
 ·show x.col=t5.scol
  rw[<-ht5,<-ht4,<-ht3,<-ht2,<-ht1]; exact s.col
 ·show x.shown=t5.shown
  rw[<-ht5,<-ht4,<-ht3,<-ht2,<-ht1]; exact s.shown
 ·show t5.top=0
  rw[<-ht5]
 ·show t5.bottom=(t5.ah.length:Int)-1
  rw[g5,hl4,<-ht5]
  show t4.bS-1=_
  rw[h4]; rfl
end
end Go.Proofs.YtpohjcacnkhnkaaGreatDoor.Tq
namespace Go.Proofs.YtpohjcacnkhnkaaGreatDoor
open Go.Ax
section
variable {T : TypeId} {N : Nat} {H G : aa} {p : Nat} {v : Value} {rvs : List Value} {x y : St}
theorem cT.ids (a:cT T N H p v rvs x):∀ n∈p::(ae v++rvs.flatMap ae),N<=n/\n<H.next/\H.get n≠none:=by
 intro n hn
 rcases zA7.1 hn with rfl|hn
 ·exact⟨a.lo,a.lt,dT a.cell⟩
 ·rcases zB2.1 hn with hn|hn
  ·have:=a.own.QF n hn; exact⟨this.1,this.2.1,this.2.2.1⟩
  ·exact a.own.ids n hn
theorem cT.of (a:cT T N H p v rvs x) (hn:H.next<=G.next) (hg:∀ n∈p::(ae v++rvs.flatMap ae),G.get n=H.get n):cT T N G p v rvs x where
 cell:=(bg (hg p (by simp))).trans a.cell
 own:=a.own.of hn fun n _ _ h=>hg n (zC7 _ h)
 apart:=a.apart
 lt:=zD5 a.lt hn
 lo:=a.lo
theorem cT.p8 (a:cT T N H p v rvs x) (m:Mod [] H G):cT T N G p v rvs x:=a.of m.next fun n hn=>m.get n (a.ids n hn).2.1 (by simp)
theorem cT.put (a:cT T N H p v rvs x) (m:Mod [p] H G) (h:bk G p=some ⟨T,false,y.cells v⟩) (hg:y.ah=x.ah):cT T N G p v rvs y where
 cell:=h
 own:=hg▸a.own.of m.next fun n _ hl hn=>m.get n hl (by simp only[zA5]; rintro rfl; exact a.apart hn)
 apart:=a.apart
 lt:=m.lt a.lt
 lo:=a.lo
theorem cT.row (a:cT T N H p v rvs x) {i:Nat} {l:List Ce} (hl:x.ah[i]?=some l):∃ n s c f,rvs[i]?=some (.slice (some ⟨n,0,s⟩) l.length c)/\bk H n=some ⟨77,f,aN l⟩/\N<=n/\n<H.next/\n≠p:=by
 obtain⟨rv,h1,n,s,c,f,rfl,h2,h3,h4⟩:=a.own.yx hl
 refine⟨n,_,_,f,h1,h2,h3,h4,?_⟩
 rintro rfl
 exact a.apart (List.mem_append_right _ (zE2.2 ⟨_,zB9 h1,by simp[ae]⟩))
theorem cT.set (a:cT T N H p v rvs x) {i n:Nat} {l l':List Ce} {s:Option Nat} {c:Nat} {f:Bool} (hrv:rvs[i]?=some (.slice (some ⟨n,0,s⟩) l.length c)) (hl:x.ah[i]?=some l) (hlen:l'.length=l.length) (hb:bk G n=some ⟨77,f,aN l'⟩) (m:Mod [n] H G):cT T N G p v rvs (x.setRow i l'):=by
 have hpn:p≠n:=by
  rintro rfl
  exact a.apart (List.mem_append_right _ (zE2.2 ⟨_,zB9 hrv,by simp[ae]⟩))
 exact⟨(m.bk a.lt (by simpa using hpn)).trans a.cell,a.own.set hrv hl hlen hb m,a.apart,m.lt a.lt,a.lo⟩
theorem cT.Ic (a:cT T N H p v rvs x) {i n j:Nat} {l:List Ce} {s:Option Nat} {c:Nat} {f:Bool} {q:Ce} (hrv:rvs[i]?=some (.slice (some ⟨n,0,s⟩) l.length c)) (hl:x.ah[i]?=some l) (hj:j<l.length) (hb:bk H n=some ⟨77,f,aN l⟩) :
  cT T N (uw H n (0+j*6) q.cells) p v rvs (x.setRow i (l.set j q))/\Mod [n] H (uw H n (0+j*6) q.cells):=by
 have m:Mod [n] H (uw H n (0+j*6) q.cells):=Mod.uw (by simp)
 refine⟨a.set hrv hl (by simp) (f:=f) ?_ m,m⟩
 rw[bR,hb,<-jD l j q hj,zB8]
 rfl
end
theorem Fs {x:St} {i:Nat} {l:List Ce} (h:i<x.ah.length):(x.setRow i l).ah[i]?=some l:=by
 simp only[St.setRow,List.getElem?_set_self h]
theorem EY {x:St} {i:Nat} {l l2:List Ce}:(x.setRow i l).setRow i l2=x.setRow i l2:=by
 simp only[St.setRow,List.set_set]
end Go.Proofs.YtpohjcacnkhnkaaGreatDoor
namespace Go.Ax
section
variable {P : Program} {ro : Option Nat} {H : aa} {N : Nat} {E : Env} {ds : List Deferred} {Q : Exit -> ag -> aa -> Prop}
theorem cu {ops:Array Oper} {rest:List Oper} {a:ag} {dst:Option Nat} {ch:List PanicEntry}:EP P ro ops rest a dst Q (.error ch) H=Q (.panic ch) a H:=by simp only[EP]
theorem jE {J:Env->aa->Prop} {a:ag} {ch:List PanicEntry}:w8 N ds J Q (.panic ch) a H=Q (.panic ch) a H:=Eq.trans rfl rfl
theorem bT {fn:Func} {R:Out->aa->Prop} {ch:List PanicEntry}:Jk P fn R (.panic ch) (bA N E ds) H=fB P fn (bA N E ds) ds (.panicking ch) H R:=Eq.trans rfl rfl
theorem dj {fn:Func} {a:ag} {R:Out->aa->Prop} {ch:List PanicEntry}:fB P fn a [] (.panicking ch) H R=R (.error ch) H:=by simp only[fB]
def OI (Q:Exit->ag->aa->Prop) (a:ag) (H:aa):Value->Prop
 |.iface t y=>Q (.panic [{v:=.iface t y,recovered:=false}]) a H
 |_=>False
theorem EZ {a:ag} {t:TypeId} {y:Value}:OI Q a H (.iface t y)=Q (.panic [{v:=.iface t y,recovered:=false}]) a H:=by simp only[OI]
theorem Oi {ops:Array Oper} {rest:List Oper} {dst:Option Nat} {ty:TypeId} {pos:String} {after:Array Edge} {x:Operand} (hx:bj P N x=true):wpOps P ro ops (⟨dst,.panic x,ty,pos,after,none⟩::rest) (bA N E ds) H Q=OI Q (bA N E ds) H (cm E x):=by
 rw[xc rfl rfl]
 simp only[zi,ck,BM,aE hx,zA1,zA3]
 cases cm E x<;>simp only[A3,mn,EP,OI]
theorem br.panics {f:FuncId} {args:List Value} {ch:List PanicEntry} {R:Out->aa->Prop} (h:br P f args H (.error ch) H) (hR:R (.error ch) H):bF P f args H R:=⟨_,_,h,hR⟩
end
end Go.Ax
namespace Go.Proofs.YtpohjcacnkhnkaaGreatDoor
open Go.Ax
def ei (N:Nat) (H X:aa):Prop:=∃ Ws:List Nat,(∀ n∈Ws,N<=n/\(n<H.next->∀ o l,bk H n≠some ⟨121,o,l⟩))/\Mod Ws H X
theorem ei.of {N:Nat} {H X:aa} {Ws:List Nat} (m:Mod Ws H X) (h:∀ n∈Ws,N<=n/\(n<H.next->∀ o l,bk H n≠some ⟨121,o,l⟩)):ei N H X:=⟨Ws,h,m⟩
theorem ei.refl {N:Nat} {H:aa}:ei N H H:=⟨[],by simp,Mod.refl⟩
theorem ei.ok {N:Nat} {H X:aa} (m:ei N H X) (h:H.base<=H.next):X.base<=X.next:=let ⟨_,_,m⟩:=m; m.ok h
theorem ei.next {N:Nat} {H X:aa} (m:ei N H X):H.next<=X.next:=let ⟨_,_,m⟩:=m; m.next
theorem ei.trans {N:Nat} {H X Y:aa} (m:ei N H X) (k:ei N X Y):ei N H Y:=by
 obtain⟨W,h1,m⟩:=m
 obtain⟨V,h2,k⟩:=k
 refine⟨W++V,fun n hn=>?_,(m.mono fun n h=>List.mem_append_left _ h).trans (k.mono fun n h=>List.mem_append_right _ h)⟩
 rcases zB2.1 hn with hn|hn
 ·exact h1 n hn
 ·refine⟨(h2 n hn).1,fun hl o l hb=>?_⟩
  have hW:n∉W:=fun h=>(h1 n h).2 hl o l hb
  exact (h2 n hn).2 (m.lt hl) o l ((m.bk hl hW).trans hb)
theorem ei.mod {N:Nat} {G H X:aa} (m:ei N H X) (g:Mod [] G H) (hok:G.base<=G.next) (hN:G.next<=N):Mod [] G X:=by
 obtain⟨W,h1,m⟩:=m
 exact g.step m hok fun n hn=>.inr (zC3 hN (h1 n hn).1)
theorem ei.kinds {N n:Nat} {H X:aa} {o:Bool} {l:List Value} (m:ei N H X) (hl:n<H.next) (hb:bk H n=some ⟨121,o,l⟩):bk X n=some ⟨121,o,l⟩:=by
 obtain⟨W,h1,m⟩:=m
 exact (m.bk hl fun h=>(h1 n h).2 hl o l hb).trans hb
theorem cT.pN {T:TypeId} {N p:Nat} {H:aa} {v:Value} {rvs:List Value} {x:St} (a:cT T N H p v rvs x) (hT:T≠121:=by decide):∀ n∈[p],N<=n/\(n<H.next->∀ o l,bk H n≠some ⟨121,o,l⟩):=fun n hn=>by
 obtain rfl:=zA5.1 hn
 refine⟨a.lo,fun _ o l h=>?_⟩
 rw[a.cell]at h
 exact hT (by have:=Option.some.inj h; exact congrArg Bl.e this)
theorem cT.rN {T:TypeId} {N p:Nat} {H:aa} {v:Value} {rvs:List Value} {x:St} (a:cT T N H p v rvs x):∀ n∈rvs.flatMap ae,N<=n/\(n<H.next->∀ o l,bk H n≠some ⟨121,o,l⟩):=fun n hn=>by
 refine⟨(a.own.ids n hn).1,fun _ o l h=>?_⟩
 obtain⟨rv,h1,h2⟩:=zE2.1 hn
 obtain⟨i,hi⟩:=List.getElem?_of_mem h1
 obtain⟨l',_,m,s,c,o',rfl,hb,_⟩:=a.own.RL hi
 simp only[ae,zA5]at h2
 subst h2
 rw[hb]at h
 have:=congrArg Bl.e (Option.some.inj h)
 exact absurd this (show ¬(77:TypeId)=121 by decide)
def eR:PanicEntry:={v:=.iface 118 (.agg ⟨[]⟩),recovered:=false}
def Cv (v:Value):Prop:=∃ n h,v=.slice (some ⟨n,0,none⟩) h h
def j7 (T:TypeId) (N p:Nat) (r:Option St) (H:aa) (out:Out) (X:aa):Prop :=
 ei N H X/\match r with
  |some y=>out=.ok (.tuple ⟨[]⟩)/\∃ v rvs,Cv v/\cT T N X p v rvs y
  |none=>out=.error [eR]
theorem nE (H:aa):br Tryz.prog 78 [.bool true] H (.ok (.tuple ⟨[]⟩)) H:=by
 refine bJ mixed Tryz.func78 rfl Tryz.ntmps78 (zA6 rfl) fun wf hsc=>?_
 simp only[zE0,Tryz.results78,zW,seval]
 exact Fin.pure rfl
theorem eL (H:aa):br Tryz.prog 78 [.bool false] H (.error [eR]) H:=by
 have key:bF Tryz.prog 78 [.bool false] H fun out X=>out=.error [eR]/\X=H:=by
  refine aG mixed Tryz.func78 rfl Tryz.ntmps78 (zA6 rfl) ?_
  simp only[zG2,Oi,EZ,bT,dj,zW,seval]
  exact⟨rfl,rfl⟩
 obtain⟨_,_,h,rfl,rfl⟩:=key
 exact h
section
variable {N : Nat} {H : aa} {p W : Nat} {v : Value} {rvs : List Value} {x : St}
theorem cT.first {T:TypeId} (a:cT T N H p v rvs x) (ok:x.Ok W):∃ m s1 c1 o1 n0 s0 c0,v=.slice (some ⟨m,0,s1⟩) x.ah.length c1/\bk H m=some ⟨56,o1,rvs⟩/\m<H.next/\N<=m/\m≠p/\rvs[0]?=some (.slice (some ⟨n0,0,s0⟩) W c0):=by
 obtain⟨l0,hl0⟩:∃ l,x.ah[0]?=some l:=⟨_,zB1 (by have:=ok.h1; omega)⟩
 obtain⟨n,s,c,f,hrv,_⟩:=a.row hl0
 rw[ok.wid l0 (zB9 hl0)]at hrv
 rcases a.own.at_ with⟨h,_⟩|⟨m,s1,c1,o1,h1,h2,h3,h4,_⟩
 ·rw[h]at hl0; simp at hl0
 ·refine⟨m,s1,c1,o1,n,s,c,h1,h2,h4,h3,?_,hrv⟩
  rintro rfl
  exact a.apart (List.mem_append_left _ (by rw[h1]; simp[ae]))
theorem mP (a:cT 83 N H p v rvs x) (ok:x.Ok W):∃ m,m<H.next/\m≠p/\(∃ e o l,bk H m=some ⟨e,o,l⟩)/\∀ G:aa,G.next=H.next->(∀ n∈[p,m],G.get n=H.get n)->br Tryz.prog 40 [.pointer (some ⟨p,0,none⟩)] G (.ok (.int .i64 W)) G:=by
 obtain⟨m,s1,c1,o1,n0,s0,c0,rfl,hb,hlt,_,cR,hrv⟩:=a.first ok
 refine⟨m,hlt,cR,⟨_,_,_,hb⟩,fun G hn hg=>?_⟩
 have hcell:=a.cell
 simp only[St.cells]at hcell
 have hcG:bk G p=_:=(bg (hg p (by simp))).trans hcell
 have hbG:bk G m=_:=(bg (hg m (by simp))).trans hb
 have hpl:p<G.next:=by rw[hn]; exact a.lt
 have hml:m<G.next:=by rw[hn]; exact hlt
 have i0:=kg (n:=m) (off:=0) (s:=s1) (cap:=c1) (i:=((0:Nat):Int)) (len:=x.ah.length) rfl (by have:=ok.h1; omega)
 rw[show ((0:Nat):Int)=0 from rfl]at i0
 have q0:oL Tryz.prog 56 (0+0) (some ⟨56,o1,rvs⟩)=some (.slice (some ⟨n0,0,s0⟩) W c0):=gu (by rw[zB8]; exact hrv)
 rw[zE1]at i0 q0
 refine bJ mixed Tryz.func40 rfl Tryz.ntmps40 (zA6 rfl) fun wf hsc=>?_
 simp only[hcG,hbG,hpl,hml,i0,q0,Tryz.results40,zW,seval]
 exact Fin.pure rfl
theorem wZ {H:aa} {L:List Bl} {n:Nat} (h:n<H.next):bk (ext H L) n=bk H n:=by rw[iN h]
theorem cT.C6 {T:TypeId} {y:St} (a:cT T N H p v rvs x) (hok:H.base<=H.next) {off:Nat} {vs:List Value} {L:List Bl} (hc:cL (x.cells v) off vs=y.cells v) (hg:y.ah=x.ah) :
  cT T N (ext (uw H p off vs) L) p v rvs y/\Mod [p] H (ext (uw H p off vs) L):=by
 have m1:Mod [p] H (uw H p off vs):=Mod.uw (by simp)
 have m:=m1.trans (Mod.ext (W:=[p]) (L:=L) (m1.ok hok))
 refine⟨a.put m ?_ hg,m⟩
 rw[wZ (by rw[b6]; exact a.lt),bR,a.cell,<-hc]
 rfl
theorem cT.Qh {T:TypeId} {y:St} (a:cT T N H p v rvs x) (sl:Cv v) (hok:H.base<=H.next) {off:Nat} {vs:List Value} {L:List Bl} (hc:cL (x.cells v) off vs=y.cells v) (hg:y.ah=x.ah) (hT:T≠121:=by decide) :
  j7 T N p (some y) H (.ok (.tuple ⟨[]⟩)) (ext (uw H p off vs) L):=by
 obtain⟨h1,h2⟩:=a.C6 hok (L:=L) hc hg
 exact⟨ei.of h2 (a.pN hT),rfl,v,rvs,sl,h1⟩
end
def Part (H:aa) (u:Value) (L:List Value):Prop :=
 ∃ a c,u=.slice a L.length c/\aS H.next u=true/\(L=[]\/(L.length<=c/\∃ n off s b,a=some ⟨n,off,s⟩/\(s=none\/s=some 0)/\bk H n=some b/\n<H.next/\off+L.length<=b.l.length/\(b.l.drop off).take L.length=L))
section
variable {H G : aa} {u : Value} {L : List Value}
theorem Part.of (h:Part H u L) (hn:H.next<=G.next) (hg:∀ n∈ae u,G.get n=H.get n):Part G u L:=by
 obtain⟨a,c,rfl,hs,h⟩:=h
 refine⟨a,c,rfl,cM hn _ hs,h.imp id ?_⟩
 rintro⟨hc,n,off,s,b,rfl,h1,h2,h3,h4,h5⟩
 exact⟨hc,n,off,s,b,rfl,h1,(bg (hg n (by simp[ae]))).trans h2,by omega,h4,h5⟩
theorem Part.ext (h:Part H u L) {B:List Bl}:Part (Go.Ax.ext H B) u L:=by
 obtain⟨a,c,rfl,hs,h⟩:=h
 refine⟨a,c,rfl,cM (by rw[ai]; omega) _ hs,h.imp id ?_⟩
 rintro⟨hc,n,off,s,b,rfl,h1,h2,h3,h4,h5⟩
 exact⟨hc,n,off,s,b,rfl,h1,(wZ h3).trans h2,by rw[ai]; omega,h4,h5⟩
theorem Part.len (h:Part H u L):∃ a c,u=.slice a L.length c:=let ⟨a,c,e,_⟩:=h; ⟨a,c,e⟩
theorem Part.iY (h:Part H u L):Go.Ax.iY u=some L.length:=by
 obtain⟨a,c,rfl,_⟩:=h
 rfl
theorem Part.first (h:Part H u L):cO H 1 L.length u=some L:=by
 obtain⟨a,c,rfl,hs,rfl|⟨hc,n,off,s,b,rfl,h1,h2,h3,h4,h5⟩⟩:=h
 ·cases a<;>simp[cO]
 ·rw[fI h2 (by omega),zE8,h5]
theorem Part.sc (h:Part H u L):aS H.next u=true:=let ⟨_,_,_,hs,_⟩:=h; hs
theorem Part.slice (h:Part H u L) (cR:L≠[]) {x y:Option Value} {lo hi:Nat} (hx:bound 0 x=some lo) (hy:bound L.length y=some hi) (h1:lo<=hi) (h2:hi<=L.length) :
  ∃ u',(∀ G:aa,(∀ n∈ae u,G.get n=H.get n)->cg Tryz.prog G 39 u x y none=some (u',G))/\Part H u' ((L.take hi).drop lo)/\∀ n∈ae u',n∈ae u:=by
 obtain⟨a,c,rfl,hs,rfl|⟨hc,n,off,s,b,rfl,hsp,hb,hlt,h4,h5⟩⟩:=h
 ·exact absurd rfl cR
 have hu:Tryz.prog.underlying 39=some (.slice 56):=by kernel_rfl
 have hsz:bh Tryz.prog 56=some 1:=by kernel_rfl
 have hl:((L.take hi).drop lo).length=hi-lo:=by simp; omega
 have hex:∃ q:Bool,∀ G:aa,G.get n=H.get n->cY G ⟨n,off,s⟩=some q:=by
  rcases hsp with rfl|rfl
  ·exact⟨!b.o,fun G hg=>by simp only[cY,jt ((bg hg).trans hb),zA9]⟩
  ·exact⟨true,fun G hg=>rfl⟩
 have hd:∀ k,off+k+(hi-lo)<=b.l.length->k=lo->(b.l.drop (off+k)).take (hi-lo)=(L.take hi).drop lo:=fun k hk e=>by
  subst e
  rw[<-h5,List.take_take,Nat.min_eq_left h2,List.drop_take,zG3]
 obtain⟨q,hq⟩:=hex
 cases q with
 |true =>
  refine⟨.slice (some ⟨n,if c=lo then off else off+lo*1,some 0⟩) (hi-lo) (c-lo),fun G hg=>?_,?_,fun q hq=>by simpa[ae]using hq⟩
  ·simp only[cg,hu,hsz,zA1,zA3,fm,hx,hy,hq G (hg n (by simp[ae]))]
   rw[if_pos ⟨by omega,h1⟩]
  ·refine⟨_,_,by rw[hl],a8 hlt,?_⟩
   by_cases he:hi=lo
   ·exact .inl (zE9 (by omega))
   ·refine .inr ⟨by omega,n,_,some 0,b,rfl,.inr rfl,hb,hlt,?_,?_⟩
    ·rw[if_neg (by omega)]; omega
    ·rw[if_neg (by omega),zE8,hl]
     exact hd lo (by omega) rfl
 |false =>
  by_cases h0:lo=0
  ·subst h0
   refine⟨.slice (some ⟨n,off,none⟩) hi c,fun G hg=>?_,?_,fun q hq=>by simpa[ae]using hq⟩
   ·simp only[cg,hu,hsz,zA1,zA3,fm,hx,hy,hq G (hg n (by simp[ae]))]
    rw[if_pos ⟨by omega,h1⟩]
    simp only[if_true]
   ·rw[Nat.sub_zero]at hl hd
    refine⟨_,_,by rw[hl],a8 hlt,?_⟩
    by_cases he:hi=0
    ·exact .inl (zE9 (by omega))
    ·exact .inr ⟨by omega,n,_,none,b,rfl,.inl rfl,hb,hlt,by omega,by rw[hl]; exact hd 0 (by omega) rfl⟩
  ·by_cases hlc:lo<c
   ·refine⟨.slice (some ⟨n,off+lo*1,none⟩) (hi-lo) (c-lo),fun G hg=>?_,?_,fun q hq=>by simpa[ae]using hq⟩
    ·simp only[cg,hu,hsz,zA1,zA3,fm,hx,hy,hq G (hg n (by simp[ae]))]
     rw[if_pos ⟨by omega,h1⟩,if_neg h0,if_pos hlc]
    ·refine⟨_,_,by rw[hl],a8 hlt,?_⟩
     by_cases he:hi=lo
     ·exact .inl (zE9 (by omega))
     ·exact .inr ⟨by omega,n,_,none,b,rfl,.inl rfl,hb,hlt,by omega,by rw[zE8,hl]; exact hd lo (by omega) rfl⟩
   ·refine⟨.slice (some ⟨n,off+lo*1,some (off+1)⟩) 0 0,fun G hg=>?_,?_,fun q hq=>by simpa[ae]using hq⟩
    ·simp only[cg,hu,hsz,zA1,zA3,fm,hx,hy,hq G (hg n (by simp[ae]))]
     rw[if_pos ⟨by omega,h1⟩,if_neg h0,if_neg hlc,if_neg (by omega)]
    ·refine⟨_,_,by rw[hl,show hi-lo=0 by omega],a8 hlt,.inl (zE9 (by omega))⟩
end
abbrev l6:Value:=.slice none 0 0
theorem zr:zeroOf Tryz.prog 56=some l6:=by kernel_rfl
theorem Lt:l6.cells.toList=[l6]:=rfl
theorem zv:Tryz.prog.underlying 39=some (.slice 56):=by kernel_rfl
theorem rB:bh Tryz.prog 56=some 1:=by kernel_rfl
theorem B8:bytesOf Tryz.prog 56=some 24:=by kernel_rfl
theorem F7 {n:Nat} (h:n<=10000):small n 24=true:=by simp[small]; omega
theorem F4 (H:aa) (n:Nat) (h0:0<n) (hn:n<=10000):br Tryz.prog 156 [.slice none 0 0,.int .i64 (n:Int)] H (.ok (.slice (some ⟨H.next,0,none⟩) 0 n)) (ext H [⟨56,true,aV [l6] n⟩]):=by
 obtain⟨b,hb⟩:=Go.Ax.bP H.next
 have d1:decide ((n:Int)<0)=false:=decide_eq_false (by omega)
 have d2:decide ((0:Int)<(n:Int))=true:=decide_eq_true (by omega)
 have hc:=Ou (P:=Tryz.prog) (H:=ext H []) (t:=39) (l:=0) (c:=0) zv
 have hz:=KH (P:=Tryz.prog) (H:=ext H []) (st:=39) (xt:=3) (n:=n) zv rB B8 zr rfl (by kernel_rfl) h0 (wC rfl n) (F7 hn)
 have hnew:=eN (H:=H) (L:=[]) (e:=56) (l:=aV [l6] n) (o:=true) (zx rfl n)
 rw[Lt,hnew,zA9]at hz
 have hs0:=Qc (P:=Tryz.prog) (H:=ext H []) (t:=39) (l:=0) (c:=0) zv rB
 have hbk:bk (ext H [⟨56,true,aV [l6] n⟩]) (b+0)=some ⟨56,true,aV [l6] n⟩:=by rw[bu hb (by simp)]; rfl
 have hs1:=O0 (P:=Tryz.prog) (H:=ext H [⟨56,true,aV [l6] n⟩]) (t:=39) (n:=b+0) (off:=0) (l:=n) (c:=n) zv rB hbk rfl
 have hw:IntKind.i64.wrap ((n:Int)-0)=(n:Int):=(aQ (by omega) (by omega)).trans (by omega)
 have hw0:IntKind.i64.wrap ((0:Int)-0)=0:=by decide
 rw[hb]
 refine bJ mixed Tryz.func156 rfl Tryz.ntmps156 (zA6 rfl) fun wf hsc=>?_
 simp only[ai,hb,zB6,zE1]at hz hs1 ⊢
 have hz0:((0:Nat):Int)=0:=rfl
 simp only[d1,d2,hc,hw,hw0,hz0,hs0,hz,hs1,Tryz.results156,zW,Nat.reduceLT,Nat.reduceAdd,Nat.reduceEqDiff]
 exact fun h=>h
theorem BR (n k:Nat):(aV [l6] n).drop k=aV [l6] (n-k):=by
 have:=uM (z:=[l6]) n k
 simpa using this
theorem pG:∀ (vs l:List Value),vs.length<=l.length->cL l 0 vs=vs++l.drop vs.length
 |[],l,_=>by rw[A6]; rfl
 |v::vs,[],h=>by simp at h
 |v::vs,a::l,h=>by
  rw[cL,pG vs l (by simpa using h)]
  rfl
theorem CE {H:aa} {A:List Value} {u:Value} {L:List Value} {x n:Nat} (hp:Part (ext H [⟨56,true,A++aV [l6] (n-A.length)⟩]) u L) (hx:H.next=x) (hle:A.length+L.length<=n) (hn:n<=10000) (hok:H.base<=H.next) (h1:L.all one=true) (hs:aO (x+1) L=true) :
  aD Tryz.prog (ext H [⟨56,true,A++aV [l6] (n-A.length)⟩]) .append ⟨[39,39]⟩ [.slice (some ⟨x,0,none⟩) A.length n,u]=some (.slice (some ⟨x,0,none⟩) (A++L).length n,ext H [⟨56,true,(A++L)++aV [l6] (n-(A++L).length)⟩]):=by
 have hz:=qz (z:=[l6]) (n-A.length)
 rw[List.length_singleton,zE8]at hz
 rw[LU (P:=Tryz.prog) (st:=39) (xt:=39) zv rB B8 zr rfl (by kernel_rfl) hp.iY hp.first (by omega) hle (F7 (by omega))]
 have hw:=z8 (H:=H) (L:=[⟨56,true,A++aV [l6] (n-A.length)⟩]) (b:=x) (i:=0) (off:=0+A.length*1) (vs:=L) hx hok rfl (by simp only[zB4]; omega) h1 (by simpa using hs)
 have hput:cL (A++aV [l6] (n-A.length)) (0+A.length*1) L=(A++L)++aV [l6] (n-(A++L).length):=by
  have:=yh A (aV [l6] (n-A.length)) 0 L
  rw[show 0+A.length*1=A.length+0 by omega,this,pG _ _ (by omega),BR,zB4,zD3,Nat.sub_sub]
 rw[hput]at hw
 rw[show x=x+0 from rfl,hw]
 simp only[zA9,zB4,List.set_cons_zero]
theorem DE {len cap n off:Nat} {s:Option Nat} {k:Nat} (hk:k<len):aP Tryz.prog 186 (.slice (some ⟨n,off,s⟩) len cap) (.int .i64 (k:Int))=some (.pointer (some ⟨n,off+k,none⟩)):=by
 rw[gl (e:=39) (sz:=1) (by kernel_rfl) (by kernel_rfl) (by omega) (by omega)]
 simp
theorem C1 (H:aa) (b:Nat) (sp:Option Nat) (K:Nat) (e:TypeId) (o:Bool) (parts:List (Value × List Value)) (n:Nat) (hb:bk H b=some ⟨e,o,parts.map Prod.fst⟩) (hbl:b<H.next)
  (hP:∀ q∈parts,Part H q.1 q.2/\q.2.all one=true/\aO H.next q.2=true) (hn:(parts.flatMap Prod.snd).length=n) (h0:0<n) (hn1:n<=10000) (hpl:parts.length<=10000) :
  br Tryz.prog 135 [.slice (some ⟨b,0,sp⟩) parts.length K] H (.ok (.slice (some ⟨H.next,0,none⟩) n n)) (ext H [⟨56,true,parts.flatMap Prod.snd⟩]):=by
 obtain⟨x,hx⟩:=Go.Ax.bP H.next
 rw[hx]at hbl ⊢
 refine bJ mixed Tryz.func135 rfl Tryz.ntmps135 (zA6 rfl) fun wf hsc=>?_
 have hok:H.base<=H.next:=wf.base
 simp only[zW,seval]
 refine eT fun E hE=>?_
 have g0:E 0=.slice (some ⟨b,0,sp⟩) parts.length K:=by rw[hE]; rfl
 have g3:E 3=.int .i64 ((0:Nat):Int):=by rw[hE]; rfl
 have g9:E 9=.slice (some ⟨b,0,sp⟩) parts.length K:=by rw[hE]; rfl
 have g10:E 10=.int .i64 (parts.length:Int):=by rw[hE]; rfl
 have g11:E 11=.int .i64 ((0:Nat):Int):=by rw[hE]; rfl
 clear hE
 have ldp:∀ (k:Nat) (q:Value × List Value),parts[k]?=some q->oL Tryz.prog 39 (0+k) (some ⟨e,o,parts.map Prod.fst⟩)=some q.1:=fun k q h=>by
  rw[kF (by kernel_rfl),zB8]
  simp[h]
 have tk:∀ (k:Nat) (q:Value × List Value),parts[k]?=some q->(parts.take (k+1)).flatMap Prod.snd=(parts.take k).flatMap Prod.snd++q.2:=fun k q h=>by
  rw[List.take_add_one,h]
  simp
 have le:∀ k,((parts.take k).flatMap Prod.snd).length<=n:=fun k=>by
  rw[<-hn]
  conv=>rhs; rw[<-zG8 k parts,List.flatMap_append,zB4]
  omega
 refine bE (fun E' Y=>Y=ext H []/\E' 0=.slice (some ⟨b,0,sp⟩) parts.length K/\E' 3=.int .i64 (n:Int)) ?_ ?_
 ·refine cU (fun (k:Nat) E' Y=>Y=ext H []/\E' 0=.slice (some ⟨b,0,sp⟩) parts.length K/\E' 3=.int .i64 (((parts.take k).flatMap Prod.snd).length:Int)/\E' 9=.slice (some ⟨b,0,sp⟩) parts.length K/\E' 10=.int .i64 (parts.length:Int)/\E' 11=.int .i64 (k:Int)/\k<=parts.length) (fun k=>parts.length-k) 0
   ⟨rfl,g0,by simpa using g3,g9,g10,g11,zB7 _⟩ ?_
  clear g0 g3 g9 g10 g11
  rintro k E Y ⟨hY,g0,g3,g9,g10,g11,hk⟩
  rw[hY]
  by_cases hkl:k=parts.length
  ·have hc:decide ((k:Int)<(parts.length:Int))=false:=by simp[hkl]
   simp only[g10,g11,hc,zW,seval]
   rw[hkl,List.take_length,hn]at g3
   exact aj ⟨rfl,by simp only[g0,aW,seval],by simp only[g3,aW,seval]⟩
  ·have hlt:k<parts.length:=by omega
   have hc:decide ((k:Int)<(parts.length:Int))=true:=decide_eq_true (by omega)
   obtain⟨q,hq⟩:∃ q,parts[k]?=some q:=⟨_,zB1 hlt⟩
   obtain⟨aq,cq,eq⟩:=(hP q (zB9 hq)).1.len
   have ia:=DE (len:=parts.length) (cap:=K) (n:=b) (off:=0) (s:=sp) hlt
   have lq:=ldp k q hq
   have t1:=tk k q hq
   have le1:=le (k+1)
   rw[t1,zB4]at le1
   have hw:IntKind.i64.wrap ((((parts.take k).flatMap Prod.snd).length:Int)+(q.2.length:Int))=(((parts.take (k+1)).flatMap Prod.snd).length:Int):=by
    rw[t1,zB4]
    exact (aQ (by omega) (by omega)).trans (by omega)
   have d0:decide ((((parts.take (k+1)).flatMap Prod.snd).length:Int)<0)=false:=decide_eq_false (by omega)
   rw[eq]at lq
   simp only[g3,g9,g10,g11,hc,hx,hbl,hb,ia,lq,hw,d0,bO (show k<1000000 by omega),zW,seval]
   refine aM ⟨k+1,by omega,rfl,?_,?_,?_,?_,?_,by omega⟩
   ·exact g0
   ·rfl
   ·exact g9
   ·exact g10
   ·rfl
 ·clear g0 g3 g9 g10 g11
  rintro E Y ⟨hY,g0,g3⟩
  rw[hY]
  simp only[g3,zW,seval]
  refine (F4 (ext H []) n h0 hn1).to ?_
  simp only[g0,hx,zW,seval]
  refine eT fun E2 hE2=>?_
  have k6:E2 6=.slice (some ⟨x,0,none⟩) ((parts.take 0).flatMap Prod.snd).length n:=by rw[hE2]; rfl
  have k25:E2 25=.slice (some ⟨b,0,sp⟩) parts.length K:=by rw[hE2]; rfl
  have k26:E2 26=.int .i64 (parts.length:Int):=by rw[hE2]; rfl
  have k27:E2 27=.int .i64 ((0:Nat):Int):=by rw[hE2]; rfl
  clear hE2
  refine bE (fun E' Y=>Y=ext H [⟨56,true,parts.flatMap Prod.snd⟩]/\E' 6=.slice (some ⟨x,0,none⟩) n n) ?_ ?_
  ·refine cU (fun (k:Nat) E' Y=>Y=ext H [⟨56,true,(parts.take k).flatMap Prod.snd++aV [l6] (n-((parts.take k).flatMap Prod.snd).length)⟩]/\E' 6=.slice (some ⟨x,0,none⟩) ((parts.take k).flatMap Prod.snd).length n/\E' 25=.slice (some ⟨b,0,sp⟩) parts.length K/\E' 26=.int .i64 (parts.length:Int)/\E' 27=.int .i64 (k:Int)/\k<=parts.length) (fun k=>parts.length-k) 0
    ⟨by rw[List.take_zero,List.flatMap_nil,zC1,zB6,Nat.sub_zero],k6,k25,k26,k27,zB7 _⟩ ?_
   clear k6 k25 k26 k27
   rintro k E Y ⟨hY,g6,g25,g26,g27,hk⟩
   rw[hY]
   by_cases hkl:k=parts.length
   ·have hc:decide ((k:Int)<(parts.length:Int))=false:=by simp[hkl]
    simp only[g26,g27,hc,zW,seval]
    rw[hkl,List.take_length,hn]at g6
    rw[hkl,List.take_length,hn,zG5,aV,zD0]
    exact aj ⟨rfl,by simp only[g6,aW,seval]⟩
   ·have hlt:k<parts.length:=by omega
    have hc:decide ((k:Int)<(parts.length:Int))=true:=decide_eq_true (by omega)
    obtain⟨q,hq⟩:∃ q,parts[k]?=some q:=⟨_,zB1 hlt⟩
    obtain⟨hPq,h1q,hsq⟩:=hP q (zB9 hq)
    have ia:=DE (len:=parts.length) (cap:=K) (n:=b) (off:=0) (s:=sp) hlt
    have lq:=ldp k q hq
    have t1:=tk k q hq
    have le1:=le (k+1)
    rw[t1,zB4]at le1
    have ap:=CE (A:=(parts.take k).flatMap Prod.snd) (n:=n) (hPq.ext (B:=[⟨56,true,(parts.take k).flatMap Prod.snd++aV [l6] (n-((parts.take k).flatMap Prod.snd).length)⟩])) hx le1 hn1 hok h1q (dN (by omega) _ hsq)
    rw[<-t1]at ap
    simp only[g6,g25,g26,g27,hc,hx,hbl,hb,ia,lq,ap,bO (show k<1000000 by omega),zW,seval]
    refine aM ⟨k+1,by omega,rfl,?_,?_,?_,?_,by omega⟩
    ·rfl
    ·exact g25
    ·exact g26
    ·rfl
  ·rintro E Y ⟨hY,g6⟩
   rw[hY]
   simp only[g6,Tryz.results135,zW,seval]
   exact fun h=>h
end Go.Proofs.YtpohjcacnkhnkaaGreatDoor
namespace Go.Ax
variable {P : Program} {H : aa}
theorem Gr {st xt e:TypeId} {sz by1 m k n off cnt cap:Nat} {s:Option Nat} {z:Value} {b bm:Bl} (hu:P.underlying st=some (.slice e)) (hsz:bh P e=some sz) (hby:bytesOf P e=some by1) (hz:zeroOf P e=some z) (hzl:z.cells.toList.length=sz) (hi:fj P xt=some false)
  (hm:bk H m=some bm) (ho:k*sz<=bm.l.length) (hoo:bm.l.all one=true)
  (hb:rk H n=some b) (hle:off+cnt*sz<=b.l.length) (hone:((b.l.drop off).take (cnt*sz)).all one=true) (hc:0<cnt) (hsm:small (k+cnt) by1=true) :
  aD P H .append ⟨[st,xt]⟩ [.slice (some ⟨m,0,some 0⟩) k k,.slice (some ⟨n,off,s⟩) cnt cap]=(cF H e (bm.l.take (k*sz)++(b.l.drop off).take (cnt*sz)) true).map fun g=>(.slice (some ⟨H.next,0,none⟩) (k+cnt) (k+cnt),g):=by
 have hl:((b.l.drop off).take (cnt*sz)).length=cnt*sz:=by simp; omega
 have hl2:(bm.l.take (k*sz)).length=k*sz:=by simp; omega
 have hf:=fI (sz:=sz) (cnt:=k) (off:=0) (len:=k) (cap:=k) (s:=some 0) hm (by omega)
 simp only[zD1]at hf
 have hoo2:=lG hoo 0 (k*sz)
 simp only[zD1]at hoo2
 simp only[aD,eP,hu,hsz,hby,hz,hi,zA1,zA3,iY,jH hb hle,hl,hzl,hsm,and_self,if_true,cW]
 rw[if_neg (by omega)]
 simp only[hf,zA3,hl2,hoo2,hone,decide_true,zE3,if_true,fC,cY]
 cases cF H e (bm.l.take (k*sz)++(b.l.drop off).take (cnt*sz)) true<;>rfl
end Go.Ax
namespace Go.Proofs.YtpohjcacnkhnkaaGreatDoor
open Go.Ax
theorem Lf {G:aa} {m:Nat} {rv:Value} {l:List Ce} (hm:bk G m=some ⟨77,false,[]⟩) (hlt:m<G.next) (hok:G.base<=G.next) (hr:eQ G rv l) (hlen:l.length<=10000) :
  ∃ rv' G',aD Tryz.prog G .append ⟨[56,56]⟩ [.slice (some ⟨m,0,some 0⟩) 0 0,rv]=some (rv',G')/\fQ m G' rv' l/\Mod [m] G G'/\∀ n∈ae rv',n=m\/G.next<=n:=by
 have a1:Tryz.prog.underlying 56=some (.slice 77):=by kernel_rfl
 have a2:bh Tryz.prog 77=some 6:=by kernel_rfl
 have a3:bytesOf Tryz.prog 77=some 32:=by kernel_rfl
 have a4:zeroOf Tryz.prog 77=some (.agg #[.int .i64 0,.int .i64 0,.int .i64 0,.bool false,.bool false,.bool false]):=by kernel_rfl
 have a5:fj Tryz.prog 56=some false:=by kernel_rfl
 rcases hr with⟨rfl,a,c,rfl⟩|⟨hl,n,off,s,c,e,o,L,rfl,hb,hnl,hle,ht⟩
 ·have hw:=ku (H:=G) (L:=[]) (off:=0) (vs:=[]) hlt hm (by simp) rfl rfl
  rw[ext_nil,ext_nil]at hw
  have hf:cO G 6 0 (.slice a 0 c)=some []:=by
   cases a with
   |none=>rfl
   |some a=>simp only[cO,if_true]
  refine⟨.slice (some ⟨m,0,some 0⟩) 0 0,uw G m 0 [],?_,⟨m,false,0,false,rfl,?_,zA8 _,by rw[b6]; exact hlt⟩,Mod.uw (by simp),fun n hn=>by simp only[ae,zA5]at hn; exact .inl hn⟩
  ·simp only[aD,eP,a1,a2,a3,a4,a5,iY,hf,zA1,zA3]
   rw[if_pos ⟨by simp,by decide,rfl⟩]
   simp only[cW]
   rw[if_pos (by omega)]
   simp only[zF7,zE1,hw,zA1,zA3]
  ·rw[bR,hm]
   rfl
 ·have hpos:0<l.length:=List.length_pos_iff.2 hl
  have happ:=Gr (P:=Tryz.prog) (H:=G) (st:=56) (xt:=56) (e:=77) (sz:=6) (by1:=32) (m:=m) (k:=0) (n:=n) (off:=off) (cnt:=l.length) (cap:=c) (s:=s) (b:=⟨e,o,L⟩) (bm:=⟨77,false,[]⟩)
   a1 a2 a3 a4 rfl a5 hm (by simp) rfl hb hle (by rw[ht]; exact r9 l) hpos (by simp only[small,zA4,zE6]; omega)
  have hn:=eN (H:=G) (L:=[]) (e:=77) (l:=aN l) (o:=true) (jv _ _)
  simp only[ht,zF7,List.take_zero,zC1]at happ
  rw[show G=ext G [] from rfl,hn,zA9]at happ
  simp only[zB8]at happ
  refine⟨_,_,happ,⟨G.next+0,true,0,true,rfl,by rw[zC1,bu rfl (by simp)]; rfl,by omega,by rw[ai]; simp⟩,Mod.ext hok,fun n hn=>by simp only[ae,zA5]at hn; exact .inr (by rw[hn]; exact zA8 _)⟩
structure Grow (N:Nat) (X:aa) (u:Value) (rvs:List Value) (g:List (List Ce)):Prop where
 at_:du X 56 1 u rvs g.length
 row:∀ (i:Nat) (rv:Value) (l:List Ce),rvs[i]?=some rv->g[i]?=some l->fQ N X rv l
 nd:(rvs.flatMap ae).Nodup
 apart:∀ n∈ae u,N<=n/\n∉rvs.flatMap ae
 sc:aO X.next rvs=true
section
variable {N : Nat} {X Y Z : aa} {u rv : Value} {rvs : List Value} {g : List (List Ce)} {l : List Ce}
theorem Grow.nil:Grow N X (.slice none 0 0) [] []:=⟨du.nil,fun i rv l h=>by simp at h,by simp,fun n hn=>by simp[ae]at hn,rfl⟩
theorem Grow.len (o:Grow N X u rvs g):rvs.length=g.length:=by have:=o.at_.1; omega
theorem Grow.ids (o:Grow N X u rvs g):∀ n∈rvs.flatMap ae,N<=n/\n<X.next/\X.get n≠none:=by
 intro n hn
 obtain⟨rv,hrv,hn⟩:=zE2.1 hn
 obtain⟨i,hi⟩:=List.getElem?_of_mem hrv
 have hlt:=(zG1.1 hi).1
 exact (o.row i rv (g[i]'(by rw[<-o.len]; exact hlt)) hi (zB1 (by rw[<-o.len]; exact hlt))).vt n hn
theorem Grow.of (o:Grow N X u rvs g) (hn:X.next<=Y.next) (hg:∀ n,n<X.next->n∈ae u++rvs.flatMap ae->Y.get n=X.get n):Grow N Y u rvs g where
 at_:=o.at_.of hn fun n h=>hg n (o.at_.ne n h).2 (List.mem_append_left _ h)
 row:=fun i rv l h1 h2=>(o.row i rv l h1 h2).of hn fun n h=>hg n ((o.row i rv l h1 h2).vt n h).2.1 (List.mem_append_right _ (zE2.2 ⟨rv,zB9 h1,h⟩))
 nd:=o.nd
 apart:=o.apart
 sc:=dN hn _ o.sc
theorem Grow.push (o:Grow N X u rvs g) (m:Mod [] X Y) (hN:N<=Y.next) (hr:fQ N Y rv l) (hfr:∀ n∈ae rv,X.next<=n) (hone:one rv=true) (m2:Mod (ae u) Y Z) (hx:bk Z Y.next=some ⟨56,true,rvs++[rv]⟩) (hlt:Y.next<Z.next) :
  Grow N Z (.slice (some ⟨Y.next,0,none⟩) (g.length+1) (g.length+1)) (rvs++[rv]) (g++[l]):=by
 have hrv1:(ae rv).Nodup/\aS Z.next rv=true:=by
  obtain⟨n,s,c,o',rfl,_,_,h⟩:=hr
  exact⟨by simp[ae],a8 (Nat.lt_trans h hlt)⟩
 have huX:∀ n∈ae u,n<X.next:=fun n h=>(o.at_.ne n h).2
 have hnx:=m.next
 refine⟨⟨by simp only[zB4,List.length_singleton]; have:=o.len; omega,by rw[List.all_append,o.at_.2.1]; simp[hone],.inr ⟨by simp,Y.next,by simp,hx,hlt⟩⟩,fun i q c h1 h2=>?_,?_,fun n hn=>?_,cB (dN (zC3 hnx m2.next) _ o.sc) (by simp[aO,hrv1.2])⟩
 ·rcases zC2 i rvs.length with h|h
  ·rw[List.getElem?_append_left h]at h1
   rw[List.getElem?_append_left (by rw[<-o.len]; exact h)]at h2
   have h3:=o.row i q c h1 h2
   refine h3.of (zC3 hnx m2.next) fun n hn=>?_
   have h4:=(h3.vt n hn).2.1
   rw[m2.get n (by omega) fun h5=>(o.apart n h5).2 (zE2.2 ⟨q,zB9 h1,hn⟩),m.get n h4 (by simp)]
  ·rw[List.getElem?_append_right h]at h1
   rw[List.getElem?_append_right (by rw[<-o.len]; exact h),<-o.len]at h2
   obtain⟨h3,h4⟩:rv=q/\l=c:=by
    cases hk:i-rvs.length with
    |zero=>rw[hk]at h1 h2; exact⟨by simpa using h1,by simpa using h2⟩
    |succ k=>rw[hk]at h1; simp at h1
   subst h3 h4
   exact hr.of m2.next fun n hn=>m2.get n (hr.vt n hn).2.1 fun h5=>by have:=huX n h5; have:=hfr n hn; omega
 ·rw[List.flatMap_append,zD4]
  refine⟨o.nd,by simpa using hrv1.1,fun a ha b hb=>?_⟩
  have h1:=(o.ids a ha).2.1
  have h2:=hfr b (by simpa using hb)
  omega
 ·simp only[ae,zA5]at hn
  subst hn
  refine⟨hN,fun h=>?_⟩
  rw[List.flatMap_append]at h
  rcases zB2.1 h with h|h
  ·have:=(o.ids _ h).2.1; omega
  ·have:=(hr.vt Y.next (by simpa using h)).2.1; omega
theorem Grow.own (o:Grow N X u rvs g):jn N X u rvs g:=by
 refine⟨o.len,?_,o.row,o.nd⟩
 have hid:=o.apart
 obtain⟨h1,_,⟨h0,rfl⟩|⟨h0,n,rfl,hb,hlt⟩⟩:=o.at_
 ·exact .inl ⟨List.length_eq_zero_iff.1 h0,rfl⟩
 ·obtain⟨h2,h3⟩:=hid n (by simp[ae])
  exact .inr ⟨n,none,_,true,rfl,hb,h2,hlt,h3⟩
end
section
variable {α β : Type}
def part (g:List α) (top bot:Nat):List α:=(g.take (bot+1)).drop top
def vu (up:Bool) (q f:List α) (n:Nat):List α:=if up then q.drop n++f else f++q.take (q.length-n)
def glue (up:Bool) (g f:List α) (top bot n:Nat):List α:=g.take top++vu up (part g top bot) f n++g.drop (bot+1)
theorem Ak (W:Nat) (g:List (List Ce)) (top bot n:Nat) (up:Bool):xh W g top bot n up=glue up g (List.replicate n (List.replicate W Ce.sp)) top bot n:=rfl
theorem F2 (g:List α) {top bot:Nat} (h:top<=bot+1):g=g.take top++part g top bot++g.drop (bot+1):=by
 have h1:g.take top=(g.take (bot+1)).take top:=by rw[List.take_take,Nat.min_eq_left h]
 rw[part,h1,zG8,zG8]
theorem wF {g:List α} {top bot:Nat} (h:bot<g.length):(part g top bot).length=bot+1-top:=by
 simp only[part,zD8,List.length_take]; omega
theorem HT {up:Bool} {q f:List α} {n:Nat} (hn:n<=q.length) (hf:f.length=n):(vu up q f n).length=q.length:=by
 unfold vu
 cases up
 ·simp; omega
 ·simp; omega
theorem mR {up:Bool} {g f:List α} {top bot n:Nat} (h1:top<=bot) (h2:bot<g.length) (h3:n<=bot+1-top) (hf:f.length=n):(glue up g f top bot n).length=g.length:=by
 simp only[glue,zB4,List.length_take,zD8,HT (show n<=(part g top bot).length by rw[wF h2]; exact h3) hf,wF h2]
 omega
theorem xf {up:Bool} {g f:List α} {top bot n:Nat} (h:α->β):(glue up g f top bot n).map h=glue up (g.map h) (f.map h) top bot n:=by
 unfold glue vu part
 cases up<;>simp[List.map_take,List.map_drop]
theorem Cm {up:Bool} {q f:List α} {n:Nat} {z:α} (h:z∈vu up q f n):z∈q\/z∈f:=by
 unfold vu at h
 cases up
 ·rcases zB2.1 (by simpa using h) with h|h
  ·exact .inr h
  ·exact .inl (zF6 h)
 ·rcases zB2.1 (by simpa using h) with h|h
  ·exact .inl (zF9 h)
  ·exact .inr h
theorem sa {up:Bool} {g f:List α} {top bot n:Nat} {z:α} (h:z∈glue up g f top bot n):z∈g\/z∈f:=by
 unfold glue at h
 rcases zB2.1 h with h|h
 ·rcases zB2.1 h with h|h
  ·exact .inl (zF6 h)
  ·rcases Cm h with h|h
   ·exact .inl (zF6 (zF9 h))
   ·exact .inr h
 ·exact .inl (zF9 h)
theorem FR {up:Bool} {g f:List α} {top bot n:Nat} (i:α->List β) (h:(g.flatMap i++f.flatMap i).Nodup) (ht:top<=bot+1):((glue up g f top bot n).flatMap i).Nodup:=by
 have hs:(glue up g f top bot n).flatMap i=(g.take top).flatMap i++(vu up (part g top bot) f n).flatMap i++(g.drop (bot+1)).flatMap i:=by
  simp only[glue,List.flatMap_append]
 rw[hs]
 have hg:g.flatMap i=(g.take top).flatMap i++(part g top bot).flatMap i++(g.drop (bot+1)).flatMap i:=by
  conv=>lhs; rw[F2 g ht]
  simp only[List.flatMap_append]
 rw[hg]at h
 generalize (g.take top).flatMap i=A at *
 generalize (g.drop (bot+1)).flatMap i=B at *
 generalize part g top bot=q at *
 have key:∀ D:List β,D.Sublist (q.flatMap i)->(A++D++B++f.flatMap i).Nodup:=fun D hD =>
  h.sublist ((((List.Sublist.refl A).append hD).append (List.Sublist.refl B)).append (List.Sublist.refl _))
 unfold vu
 cases up with
 |true =>
  simp only[if_true,List.flatMap_append]
  have hD:((q.drop n).flatMap i).Sublist (q.flatMap i):=by
   conv=>rhs; rw[<-zG8 n q,List.flatMap_append]
   exact List.sublist_append_right _ _
  have h1:=key _ hD
  refine (List.Perm.nodup_iff ?_).2 h1
  simp only[zD3]
  exact List.Perm.append_left _ (List.Perm.append_left _ List.perm_append_comm)
 |false =>
  simp only[zC4,if_false,List.flatMap_append]
  have hD:((q.take (q.length-n)).flatMap i).Sublist (q.flatMap i):=by
   conv=>rhs; rw[<-zG8 (q.length-n) q,List.flatMap_append]
   exact List.sublist_append_left _ _
  have h1:=key _ hD
  refine (List.Perm.nodup_iff ?_).2 h1
  simp only[zD3]
  refine List.Perm.append_left _ ?_
  rw[<-zD3 ((q.take (q.length-n)).flatMap i)]
  exact List.perm_append_comm
end
theorem jn.glue {N:Nat} {H X Y:aa} {v u:Value} {rvs fr:List Value} {g fg:List (List Ce)} (o:jn N H v rvs g) (gr:Grow H.next X u fr fg) (m:Mod [] H X) (m2:Mod (ae u) X Y) {up:Bool} {top bot n:Nat} {y:Nat}
  (hN:N<=H.next) (h1:top<=bot) (h2:bot<g.length) (h3:n<=bot+1-top) (hf:fg.length=n) (hy:bk Y y=some ⟨56,true,Go.Proofs.YtpohjcacnkhnkaaGreatDoor.glue up rvs fr top bot n⟩) (hyl:X.next<=y) (hyn:y<Y.next) :
  jn N Y (.slice (some ⟨y,0,none⟩) g.length g.length) (Go.Proofs.YtpohjcacnkhnkaaGreatDoor.glue up rvs fr top bot n) (Go.Proofs.YtpohjcacnkhnkaaGreatDoor.glue up g fg top bot n):=by
 have hln:rvs.length=g.length:=o.len
 have hlf:fr.length=fg.length:=gr.len
 have hall:∀ z∈Go.Proofs.YtpohjcacnkhnkaaGreatDoor.glue up (rvs.zip g) (fr.zip fg) top bot n,fQ N Y z.1 z.2/\z.1∈Go.Proofs.YtpohjcacnkhnkaaGreatDoor.glue up rvs fr top bot n:=fun z hz=>by
  have hm:z.1∈Go.Proofs.YtpohjcacnkhnkaaGreatDoor.glue up rvs fr top bot n:=by
   have:(Go.Proofs.YtpohjcacnkhnkaaGreatDoor.glue up (rvs.zip g) (fr.zip fg) top bot n).map Prod.fst=Go.Proofs.YtpohjcacnkhnkaaGreatDoor.glue up rvs fr top bot n:=by
    rw[xf,List.map_fst_zip (by omega),List.map_fst_zip (by omega)]
   rw[<-this]
   exact List.mem_map_of_mem hz
  refine⟨?_,hm⟩
  rcases sa hz with h|h
  ·obtain⟨i,hi⟩:=List.getElem?_of_mem h
   rw[List.getElem?_zip_eq_some]at hi
   have h4:=o.row i _ _ hi.1 hi.2
   refine h4.of (zC3 m.next m2.next) fun q hq=>?_
   have h5:=h4.vt q hq
   rw[m2.get q (by have:=m.next; omega) (fun h6=>by have:=(gr.apart q h6).1; omega),m.get q h5.2.1 (by simp)]
  ·obtain⟨i,hi⟩:=List.getElem?_of_mem h
   rw[List.getElem?_zip_eq_some]at hi
   have h4:=gr.row i _ _ hi.1 hi.2
   obtain⟨q,s,c,oo,e,hb,hq1,hq2⟩:=h4.of m2.next fun q hq=>m2.get q (h4.vt q hq).2.1 fun h6=>(gr.apart q h6).2 (zE2.2 ⟨_,zB9 hi.1,hq⟩)
   exact⟨q,s,c,oo,e,hb,by omega,hq2⟩
 have hidl:∀ q∈(Go.Proofs.YtpohjcacnkhnkaaGreatDoor.glue up rvs fr top bot n).flatMap ae,q<X.next:=fun q hq=>by
  obtain⟨rv,h4,h5⟩:=zE2.1 hq
  rcases sa h4 with h6|h6
  ·have:=(o.ids q (zE2.2 ⟨rv,h6,h5⟩)).2.1; have:=m.next; omega
  ·exact (gr.ids q (zE2.2 ⟨rv,h6,h5⟩)).2.1
 refine⟨?_,?_,?_,?_⟩
 ·rw[mR h1 (by omega) h3 (by omega),mR h1 h2 h3 hf,hln]
 ·refine .inr ⟨y,none,g.length,true,?_,hy,by have:=m.next; omega,hyn,fun h=>by have:=hidl y h; omega⟩
  rw[mR h1 h2 h3 hf]
 ·intro i rv l hi hl
  have hz:(Go.Proofs.YtpohjcacnkhnkaaGreatDoor.glue up (rvs.zip g) (fr.zip fg) top bot n)[i]?=some (rv,l):=by
   have e1:(Go.Proofs.YtpohjcacnkhnkaaGreatDoor.glue up (rvs.zip g) (fr.zip fg) top bot n).map Prod.fst=Go.Proofs.YtpohjcacnkhnkaaGreatDoor.glue up rvs fr top bot n:=by
    rw[xf,List.map_fst_zip (by omega),List.map_fst_zip (by omega)]
   have e2:(Go.Proofs.YtpohjcacnkhnkaaGreatDoor.glue up (rvs.zip g) (fr.zip fg) top bot n).map Prod.snd=Go.Proofs.YtpohjcacnkhnkaaGreatDoor.glue up g fg top bot n:=by
    rw[xf,List.map_snd_zip (by omega),List.map_snd_zip (by omega)]
   rw[<-e1,zF0]at hi
   rw[<-e2,zF0]at hl
   cases hq:(Go.Proofs.YtpohjcacnkhnkaaGreatDoor.glue up (rvs.zip g) (fr.zip fg) top bot n)[i]? with
   |none=>rw[hq]at hi; cases hi
   |some z =>
    rw[hq]at hi hl
    simp only[zA9,Option.some.injEq]at hi hl
    rw[<-hi,<-hl]
  exact (hall _ (zB9 hz)).1
 ·refine FR ae ?_ (by omega)
  rw[zD4]
  refine⟨o.nd,gr.nd,fun a ha b hb e=>?_⟩
  have:=(o.ids a ha).2.1
  have:=(gr.ids b hb).1
  omega
theorem GB {X:aa} {v8:Value} {l:List Int} {i:Nat} {c:Int} (h:du X 3 1 v8 (iv l) l.length) (hc:l[i]?=some c):∃ n,v8=.slice (some ⟨n,0,none⟩) l.length l.length/\n<X.next/\bk X n=some ⟨3,true,iv l⟩/\(iv l)[i]?=some (.int .i64 c):=by
 have hi:i<l.length:=(zG1.1 hc).1
 obtain⟨_,_,⟨h0,_⟩|⟨_,n,e,hb,hlt⟩⟩:=h
 ·omega
 ·exact⟨n,e,hlt,hb,by simp[iv,hc]⟩
def St.text (W:Nat) (r:Option (List Int)) (x:St):Option St:=match r with
 |none=>none
 |some l=>if St.fits W l x.col=true then
   some {x with ah:=x.ah.set x.row.toNat (e7 x.pen l (x.ah.getD x.row.toNat []) x.col.toNat).1,col:=((e7 x.pen l (x.ah.getD x.row.toNat []) x.col.toNat).2:Nat)}
  else none
theorem mj {W:Nat} {c:Int} {l:List Int} {n:Int} (h:St.fits W (c::l) n=true):aR c≠0/\n+aR c<=W/\St.fits W l (n+aR c)=true:=by
 rw[St.fits]at h
 split at h
 ·cases h
 ·rename_i hh
  simp only[Bool.or_eq_true,decide_eq_true_eq,not_or,Int.not_lt]at hh
  exact⟨hh.1,hh.2,h⟩
theorem CC (pen:Lk) (l:List Ce) (k:Nat) (c:Int):(sb pen l k c).length=l.length:=by
 unfold sb
 split<;>simp[fJ]
theorem Pk (N:Nat) (H:aa) (p i k n:Nat) (v:Value) (rvs:List Value) (x:St) (l:List Ce) (c:Ce) (s:Option Nat) (cc:Nat) (a:cT 83 N H p v rvs x) (hok:H.base<=H.next) (hi:x.row=(i:Int)) (hl:x.ah[i]?=some l) (hrv:rvs[i]?=some (.slice (some ⟨n,0,s⟩) l.length cc)) (hk:k<l.length) (hlen:l.length<=1000) (hgl:x.ah.length<=1000) :
  bF Tryz.prog 132 [.pointer (some ⟨p,0,none⟩),.int .i64 (k:Int),c.val] H (fun out X=>out=.ok (.tuple ⟨[]⟩)/\cT 83 N X p v rvs (x.setRow i (lg l k c))/\Mod [n] H X):=by
 obtain⟨b,hb⟩:=Go.Ax.bP H.next
 have hpl:=a.lt
 rw[hb]at hpl
 have hcell:=a.cell
 simp only[St.cells,hi]at hcell
 have hil:i<x.ah.length:=(zG1.1 hl).1
 obtain⟨m,s1,c1,o1,ev,hbm,hNm,hml,hmn⟩:∃ m s1 c1 o1,v=.slice (some ⟨m,0,s1⟩) x.ah.length c1/\bk H m=some ⟨56,o1,rvs⟩/\N<=m/\m<H.next/\m∉rvs.flatMap ae:=by
  rcases a.own.at_ with⟨h,_⟩|h
  ·rw[h]at hil; simp at hil
  ·exact h
 obtain⟨f,hbn,hNn,hnl⟩:∃ f,bk H n=some ⟨77,f,aN l⟩/\N<=n/\n<H.next:=by
  obtain⟨n',s',c',f,e,h1,h2,h3⟩:=a.own.row i _ l hrv hl
  cases e
  exact⟨f,h1,h2,h3⟩
 subst ev
 rw[hb]at hml hnl
 have i1:=kg (n:=m) (off:=0) (s:=s1) (cap:=c1) (i:=(i:Int)) (len:=x.ah.length) rfl hil
 have q1:oL Tryz.prog 56 (0+i) (some ⟨56,o1,rvs⟩)=some (.slice (some ⟨n,0,s⟩) l.length cc):=gu (by rw[zB8]; exact hrv)
 refine aG mixed Tryz.func132 rfl Tryz.ntmps132 (zA6 rfl) ?_
 simp only[hb,Ce.val,zW,seval]
 refine bf [] [] (by kernel_rfl) rfl rfl fun ops anc hA hG=>?_
 simp only[hb,hpl,hcell,hml,hbm,i1,q1,b9,zW,seval]
 obtain⟨q,hq⟩:∃ q,l[k]?=some q:=⟨_,zB1 hk⟩
 have ht:∀ l':List Ce,((aN l').drop 0).take (l'.length*6)=aN l':=fun l'=>by rw[zD1,zD6 (by rw[bC]; exact zA8 _)]
 have ia:∀ (j:Nat) (z:Int),z=(j:Int)->j<l.length->aP Tryz.prog 56 (.slice (some ⟨n,0,s⟩) l.length cc) (.int .i64 z)=some (.pointer (some ⟨n,0+j*6,none⟩)):=fun j z hz hj=>iG (n:=n) (off:=0) (s:=s) (cap:=cc) (i:=z) hz hj
 have i2:=ia k (k:Int) rfl hk
 have q2:=run_load (e:=77) (o:=f) hq (by rw[bC]; omega) (ht l)
 have spv:∀ (l':List Ce) (j:Nat) (M:Nat),j<l'.length->vw Tryz.prog 77 M (0+j*6) (.agg ⟨[.int .i64 32,.int .i64 0,.int .i64 0,.bool false,.bool false,.bool false]⟩) (some ⟨77,f,aN l'⟩)=some ⟨77,f,aN (l'.set j Ce.sp)⟩:=fun l' j M hj=>by
  rw[zB8]
  exact jL (c:=Ce.sp) hj
 obtain⟨d1,hd1⟩:∃ d,decide (q.rune=-1)=d:=⟨_,rfl⟩
 obtain⟨d2,hd2⟩:∃ d,decide ((0:Int)<(k:Int))=d:=⟨_,rfl⟩
 have hh:pn l k=if (d1&&d2)=true then l.set (k-1) Ce.sp else l:=by
  have e1:(l.getD k Ce.sp).rune=q.rune:=by rw[zC8,hq]; rfl
  unfold pn
  rw[e1,<-hd1,<-hd2]
  by_cases h1:q.rune=-1<;>by_cases h2:0<k<;>simp[h1,h2]
 have hw1:IntKind.i64.wrap ((k:Int)+1)=((k+1:Nat):Int):=bO (by omega)
 have hpn:p≠n:=fun e=>a.apart (by rw[e]; exact List.mem_append_right _ (zE2.2 ⟨_,zB9 hrv,by simp[ae]⟩))
 have fin:∀ (G:aa) (l2:List Ce) (L:List Bl),Mod [n] H G->bk G n=some ⟨77,f,aN l2⟩->l2.length=l.length->rG (pn l k) k=l2->cT 83 N (ext (uw G n (0+k*6) c.cells) L) p (.slice (some ⟨m,0,s1⟩) x.ah.length c1) rvs (x.setRow i (lg l k c))/\Mod [n] H (ext (uw G n (0+k*6) c.cells) L):=fun G l2 L mG hG hl2 hh2=>by
  have m1:Mod [n] H (uw G n (0+k*6) c.cells):=mG.trans (Mod.uw (by simp))
  have m2:=m1.trans (Mod.ext (W:=[n]) (L:=L) (m1.ok hok))
  have hbX:bk (ext (uw G n (0+k*6) c.cells) L) n=some ⟨77,f,aN (l2.set k c)⟩:=by
   rw[iN (by rw[b6]; have:=mG.next; omega),bR,hG,<-jD l2 k c (by omega),zB8]
   rfl
  have e3:lg l k c=l2.set k c:=by rw[lg,hh2]
  have o2:=a.own.set (k:=i) (n:=n) hrv hl (l':=l2.set k c) (by rw[zF3]; exact hl2) hbX m2
  rw[<-e3]at o2
  exact⟨⟨(m2.bk a.lt (by simpa using hpn)).trans a.cell,o2,a.apart,m2.lt a.lt,a.lo⟩,m2⟩
 have spq:∀ (G:aa) (l1:List Ce),bk G n=some ⟨77,f,aN l1⟩->l1.length=l.length->k+1<l.length->∃ q3,l1[k+1]?=some q3/\oL Tryz.prog 3 (0+(k+1)*6) (some ⟨77,f,aN l1⟩)=some (.int .i64 q3.rune)/\rG l1 k=if decide (q3.rune=-1)=true then l1.set (k+1) Ce.sp else l1:=fun G l1 hG hl1 h1=>by
  obtain⟨q3,hq3⟩:∃ q3,l1[k+1]?=some q3:=⟨_,zB1 (by omega)⟩
  refine⟨q3,hq3,run_load hq3 (by rw[bC]; omega) (ht l1),?_⟩
  have e1:(l1.getD (k+1) Ce.sp).rune=q3.rune:=by rw[zC8,hq3]; rfl
  unfold rG
  rw[e1]
  by_cases h:q3.rune=-1<;>simp[h]
 have hRo:∀ l1:List Ce,l1.length=l.length->¬k+1<l.length->rG l1 k=l1:=fun l1 hl1 h1=>by
  unfold rG
  rw[if_neg]
  rw[zC8,zC5 (by omega)]
  decide
 have stc:∀ (l':List Ce) (M:Nat),k<l'.length->vw Tryz.prog 77 M (0+k*6) (.agg ⟨[.int .i64 c.rune,.int .i64 c.fore,.int .i64 c.back,.bool c.bold,.bool c.under,.bool c.inv]⟩) (some ⟨77,f,aN l'⟩)=some ⟨77,f,aN (l'.set k c)⟩:=fun l' M hj=>by
  rw[zB8]
  exact jL hj
 have pu:∀ (l1:List Ce) (j:Nat),j<l1.length->cL (aN l1) (0+j*6) [.int .i64 32,.int .i64 0,.int .i64 0,.bool false,.bool false,.bool false]=aN (l1.set j Ce.sp):=fun l1 j hj=>by
  rw[zB8]
  exact jD l1 j Ce.sp hj
 have upu:∀ (G:aa) (l1:List Ce) (j:Nat),bk G n=some ⟨77,f,aN l1⟩->j<l1.length->∀ vs,vs=Ce.sp.cells->bk (uw G n (0+j*6) vs) n=some ⟨77,f,aN (l1.set j Ce.sp)⟩:=fun G l1 j hG hj vs hvs=>by
  rw[hvs,bR,hG,<-pu l1 j hj]
  rfl
 by_cases hdd:(d1&&d2)=true
 ·obtain⟨rfl,rfl⟩:d1=true/\d2=true:=by cases d1<;>cases d2<;>simp_all
  have hk0:0<k:=by have:=of_decide_eq_true hd2; omega
  have hw2:IntKind.i64.wrap ((k:Int)-1)=((k-1:Nat):Int):=(aQ (by omega) (by omega)).trans (by omega)
  have i3:=ia (k-1) ((k-1:Nat):Int) rfl (by omega)
  replace hh:pn l k=l.set (k-1) Ce.sp:=hh.trans (if_pos rfl)
  simp only[hb,hnl,hbn,i2,q2,hd1,hd2,hw1,hw2,i3,spv l (k-1) _ (by omega),zW,seval]
  generalize hG:uw H n _ _=G
  have mG:Mod [n] H G:=hG▸Mod.uw (by simp)
  have hGn:G.next=b:=by rw[<-hG,b6,hb]
  have bG:bk G n=some ⟨77,f,aN (l.set (k-1) Ce.sp)⟩:=hG▸upu H l (k-1) hbn (by omega) _ rfl
  generalize hl1:l.set (k-1) Ce.sp=l1 at hh bG ⊢
  have hl1l:l1.length=l.length:=by rw[<-hl1]; simp
  by_cases h1:k+1<l.length
  ·have c1':decide (((k+1:Nat):Int)<(l.length:Int))=true:=decide_eq_true (by omega)
   obtain⟨q3,hq3,r3,hR⟩:=spq G l1 bG hl1l h1
   have i4:=ia (k+1) ((k+1:Nat):Int) rfl h1
   obtain⟨d3,hd3⟩:∃ d,decide (q3.rune=-1)=d:=⟨_,rfl⟩
   rw[hd3]at hR
   cases d3 with
   |true =>
    replace hR:=hR.trans (if_pos rfl)
    simp only[hGn,hnl,bG,c1',hw1,i2,i4,r3,hd3,spv l1 (k+1) _ (by omega),pu l1 (k+1) (by omega),stc (l1.set (k+1) Ce.sp) _ (by rw[zF3]; omega),Tryz.results132,zW,seval]
    refine⟨trivial,fin _ _ _ (mG.trans (Mod.uw (by simp))) (upu G l1 (k+1) bG (by omega) _ rfl) (by rw[zF3]; exact hl1l) (by rw[hh]; exact hR)⟩
   |false =>
    replace hR:=hR.trans (if_neg (by decide))
    simp only[hGn,hnl,bG,c1',hw1,i2,i4,r3,hd3,stc l1 _ (by omega),Tryz.results132,zW,seval]
    exact⟨trivial,fin _ _ _ mG bG hl1l (by rw[hh]; exact hR)⟩
  ·have c1':decide (((k+1:Nat):Int)<(l.length:Int))=false:=decide_eq_false (by omega)
   simp only[hGn,hnl,bG,c1',i2,stc l1 _ (by omega),Tryz.results132,zW,seval]
   exact⟨trivial,fin _ _ _ mG bG hl1l (by rw[hh]; exact hRo l1 hl1l h1)⟩
 ·replace hh:pn l k=l:=hh.trans (if_neg hdd)
  have hds:d2=false\/(d2=true/\d1=false):=by cases d1<;>cases d2<;>simp_all
  by_cases h1:k+1<l.length
  ·have c1':decide (((k+1:Nat):Int)<(l.length:Int))=true:=decide_eq_true (by omega)
   obtain⟨q3,hq3,r3,hR⟩:=spq H l hbn rfl h1
   have i4:=ia (k+1) ((k+1:Nat):Int) rfl h1
   obtain⟨d3,hd3⟩:∃ d,decide (q3.rune=-1)=d:=⟨_,rfl⟩
   rw[hd3]at hR
   cases d3 with
   |true =>
    replace hR:=hR.trans (if_pos rfl)
    rcases hds with rfl|⟨rfl,rfl⟩
    all_goals
     simp only[hb,hnl,hbn,c1',hw1,i2,q2,hd1,hd2,i4,r3,hd3,spv l (k+1) _ (by omega),pu l (k+1) (by omega),stc (l.set (k+1) Ce.sp) _ (by rw[zF3]; omega),Tryz.results132,zW,seval]
     exact⟨trivial,fin _ _ _ (Mod.uw (by simp)) (upu H l (k+1) hbn (by omega) _ rfl) (by rw[zF3]) (by rw[hh]; exact hR)⟩
   |false =>
    replace hR:=hR.trans (if_neg (by decide))
    rcases hds with rfl|⟨rfl,rfl⟩
    all_goals
     simp only[hb,hnl,hbn,c1',hw1,i2,q2,hd1,hd2,i4,r3,hd3,stc l _ hk,Tryz.results132,zW,seval]
     exact⟨trivial,fin _ _ _ Mod.refl hbn rfl (by rw[hh]; exact hR)⟩
  ·have c1':decide (((k+1:Nat):Int)<(l.length:Int))=false:=decide_eq_false (by omega)
   rcases hds with rfl|⟨rfl,rfl⟩
   all_goals
    simp only[hb,hnl,hbn,c1',hw1,i2,q2,hd1,hd2,stc l _ hk,Tryz.results132,zW,seval]
    exact⟨trivial,fin _ _ _ Mod.refl hbn rfl (by rw[hh]; exact hRo l rfl h1)⟩
set_option maxRecDepth 100000
abbrev vE:DataW Unit:=Rows.laid_unicode_utf8_first
abbrev sD:DataW Unit:=Rows.laid_unicode_utf8_acceptRanges
def yO (H:aa):Prop:=∃ e1 e2,bk H 0=some ⟨e1,false,dc vE⟩/\bk H 1=some ⟨e2,false,dc sD⟩
theorem yO.of {H G:aa} (t:yO H) (h0:G.get 0=H.get 0) (h1:G.get 1=H.get 1):yO G:=by
 obtain⟨e1,e2,a,b⟩:=t
 exact⟨e1,e2,(bg h0).trans a,(bg h1).trans b⟩
def RZ:Go.Shelf.Ren:=⟨fun n=>if n=196 then 124 else if n=259 then 155 else 0,fun n=>if n=46 then 138 else if n=53 then 173 else if n=119 then 148 else if n=138 then 150 else if n=139 then 151 else n,fun n=>n-3⟩
theorem Rq:Go.Proofs.Lays.n196 Tryz.prog RZ:=by
 constructor
 all_goals first
  |exact mixed
  |kernel_rfl
  |(intro w; kernel_rfl)
theorem KE:dc vE=(List.range 256).map fun c=>Value.int .u8 ((Go.Lib.firstT c:Nat):Int):=by kernel_rfl
theorem K8:dc sD=(List.range 16).flatMap fun i=>[Value.int .u8 ((Go.Lib.accLo i:Nat):Int),Value.int .u8 ((Go.Lib.accHi i:Nat):Int)]:=by kernel_rfl
theorem Ac {f g:Nat->Value}:∀ (n k:Nat) (i:Nat),i<n->(((List.range' k n).flatMap fun j=>[f j,g j])[2*i]?=some (f (k+i))/\((List.range' k n).flatMap fun j=>[f j,g j])[2*i+1]?=some (g (k+i)))
 |0,_,_,h=>absurd h (by omega)
 |n+1,k,0,_=>by rw[List.range'_succ]; exact⟨rfl,rfl⟩
 |n+1,k,i+1,h=>by
  rw[List.range'_succ]
  have:=Ac (f:=f) (g:=g) n (k+1) i (by omega)
  rw[show k+1+i=k+(i+1) by omega]at this
  exact this
theorem E7 {ρ:Go.Ax.Ren} {H:aa} {w:World} (r:Rel Tryz.prog ρ H w) (t:yO H):Go.Lib.Utf8Tabs 0 1 w:=by
 obtain⟨e1,e2,h1,h2⟩:=t
 obtain⟨c1,a1,b1⟩:=pz r (show 0<Tryz.prog.globals.size by decide +kernel) h1 (by kernel_rfl)
 obtain⟨c2,a2,b2⟩:=pz r (show 1<Tryz.prog.globals.size by decide +kernel) h2 (by kernel_rfl)
 refine⟨fun c hc=>?_,fun i hi=>?_⟩
 ·simp only[World.cell?,a1]
  rw[<-Array.getElem?_toList,b1,KE,zF0,List.getElem?_range hc]
  rfl
 ·have:=Ac (f:=fun i=>Value.int .u8 ((Go.Lib.accLo i:Nat):Int)) (g:=fun i=>Value.int .u8 ((Go.Lib.accHi i:Nat):Int)) 16 0 i hi
  rw[zB8]at this
  simp only[World.cell?,a2]
  rw[<-Array.getElem?_toList,<-Array.getElem?_toList,b2,K8,List.range_eq_range']
  exact⟨by simpa using this.1,by simpa using this.2⟩
theorem za (H:aa) (t:yO H) (s:ByteArray) (hs:s.size<=9223372036854775807):Pure 124 [.string s] H (.bool (Go.Lib.validD s.data.toList)):=by
 intro ρ w r hsc F n R hF hR
 have hc:=Go.Proofs.Any.utf8_ValidString Rq s w hs (E7 r t)
 have e1:[Value.string s].map ρ.val=[Value.string s]:=tg ρ _ (fun x hx=>by simp only[zA5]at hx; subst hx; rfl)
 rw[e1]
 refine (hF.calls hc).mono ?_
 rintro e w' ⟨rfl,hb⟩
 have:=hR ρ w' (St.below r hb) rfl
 rwa [df ρ _ rfl]at this
theorem Iq (H:aa) (t:yO H) (s:ByteArray) (hs:s.size<=9223372036854775807):Pure 89 [.string s] H (.bool (Go.Lib.validD s.data.toList)):=by
 refine bJ mixed Tryz.func89 rfl Tryz.ntmps89 (zA6 rfl) fun wf hsc=>?_
 simp only[zW,seval]
 refine (za (ext H []) t s hs).to ?_
 simp only[Tryz.results89,zW,seval]
 exact Fin.cz rfl rfl
theorem Ga (l:List UInt8) (i:Nat):tl l i=true ↔ (i<l.length/\(l.getD i 0).toNat / 64=2):=by
 constructor
 ·intro hh
  have h:=uW hh
  unfold bt at h
  omega
 ·intro hh
  simp only[tl,zA4,decide_eq_true_eq]
  unfold bt
  omega
theorem FA (l:List UInt8) (h:0<l.length):((sH l).2=0/\(Go.Lib.decodeL l).1=65533/\(Go.Lib.decodeL l).2=1) \/
  ((sH l).2≠0/\(sH l).1=((Go.Lib.decodeL l).1:Int)/\(sH l).2=((Go.Lib.decodeL l).2:Int)/\¬((Go.Lib.decodeL l).1=65533/\(Go.Lib.decodeL l).2=1)):=by
 rw[Go.Lib.decodeL_N]
 have r0:=(l.getD 0 0).toNat_lt
 have r1:=(l.getD 1 0).toNat_lt
 have r2:=(l.getD 2 0).toNat_lt
 have r3:=(l.getD 3 0).toNat_lt
 have t1:=Ga l 1
 have t2:=Ga l 2
 have t3:=Ga l 3
 unfold sH Ex Go.Lib.decodeN
 simp only[Bool.cond_eq_ite,zA4,Bool.not_eq_true',decide_eq_true_eq,Bool.and_eq_false_iff,decide_eq_false_iff_not]
 rw[show bt l 0=((l.getD 0 0).toNat:Int) from rfl,show bt l 1=((l.getD 1 0).toNat:Int) from rfl,show bt l 2=((l.getD 2 0).toNat:Int) from rfl,show bt l 3=((l.getD 3 0).toNat:Int) from rfl]
 generalize (l.getD 0 0).toNat=b0 at *
 generalize (l.getD 1 0).toNat=b1 at *
 generalize (l.getD 2 0).toNat=b2 at *
 generalize (l.getD 3 0).toNat=b3 at *
 generalize tl l 1=c1 at *
 generalize tl l 2=c2 at *
 generalize tl l 3=c3 at *
 generalize l.length=n at *
 by_cases h1:b0<128
 ·rw[if_pos (by omega),if_pos h1]
  dsimp only
  omega
 rw[if_neg (by omega)]
 by_cases h4:194<=b0/\b0<224
 ·by_cases hc:c1=true
  ·have a1:=t1.1 hc
   rw[if_pos ⟨⟨by omega,by omega⟩,hc⟩,if_neg h1,if_pos ⟨by omega,a1⟩,if_pos (by omega)]
   dsimp only
   omega
  ·rw[if_neg (fun hh=>hc hh.2),if_neg (by intro hh; omega),if_neg (by intro hh; omega),if_neg h1,if_neg (fun hh=>hc (t1.2 hh.2)),if_neg (by omega),if_neg (by omega)]
   dsimp only
   omega
 rw[if_neg (by intro hh; omega)]
 by_cases h5:224<=b0/\b0<240
 ·by_cases hc:c1=true/\c2=true
  ·have a1:=t1.1 hc.1
   have a2:=t2.1 hc.2
   rw[if_pos ⟨⟨⟨by omega,by omega⟩,hc.1⟩,hc.2⟩,if_neg h1,if_neg (show ¬(b0 / 32=6/\(1<n/\b1 / 64=2)) by omega),if_pos (show (b0 / 16=14/\(1<n/\b1 / 64=2)/\(2<n/\b2 / 64=2)) from⟨by omega,a1,a2⟩)]
   have hz:((b0:Int)-224)*64+b1-128=(((b0-224)*64+(b1-128):Nat):Int):=by omega
   have hy:((((b0-224)*64+(b1-128):Nat):Int))*64+b2-128=((b0 % 16*4096+b1 % 64*64+b2 % 64:Nat):Int):=by omega
   rw[hz,hy]
   generalize b0 % 16*4096+b1 % 64*64+b2 % 64=z
   by_cases hz:z ≥ 2048/\(z<55296\/57344<=z/\z<=1114111)
   ·rw[if_pos (by omega),if_pos hz]
    dsimp only
    omega
   ·rw[if_neg (by omega),if_neg hz]
    dsimp only
    omega
  ·rw[if_neg (fun hh=>hc ⟨hh.1.2,hh.2⟩),if_neg (by intro hh; omega),if_neg h1,if_neg (show ¬(b0 / 32=6/\(1<n/\b1 / 64=2)) by omega),if_neg (show ¬(b0 / 16=14/\(1<n/\b1 / 64=2)/\(2<n/\b2 / 64=2)) from fun hh=>hc ⟨t1.2 hh.2.1,t2.2 hh.2.2⟩),if_neg (show ¬(b0 / 8=30/\(1<n/\b1 / 64=2)/\(2<n/\b2 / 64=2)/\(3<n/\b3 / 64=2)) by omega)]
   dsimp only
   omega
 rw[if_neg (by intro hh; omega)]
 by_cases h6:240<=b0/\b0<245
 ·by_cases hc:c1=true/\c2=true/\c3=true
  ·have a1:=t1.1 hc.1
   have a2:=t2.1 hc.2.1
   have a3:=t3.1 hc.2.2
   rw[if_pos ⟨⟨⟨⟨by omega,by omega⟩,hc.1⟩,hc.2.1⟩,hc.2.2⟩,if_neg h1,if_neg (show ¬(b0 / 32=6/\(1<n/\b1 / 64=2)) by omega),if_neg (show ¬(b0 / 16=14/\(1<n/\b1 / 64=2)/\(2<n/\b2 / 64=2)) by omega),if_pos (show (b0 / 8=30/\(1<n/\b1 / 64=2)/\(2<n/\b2 / 64=2)/\(3<n/\b3 / 64=2)) from⟨by omega,a1,a2,a3⟩)]
   have hz:((b0:Int)-240)*64+b1-128=(((b0-240)*64+(b1-128):Nat):Int):=by omega
   have hy:((((b0-240)*64+(b1-128):Nat):Int))*64+b2-128=(((b0-240)*4096+(b1-128)*64+(b2-128):Nat):Int):=by omega
   have hx:((((b0-240)*4096+(b1-128)*64+(b2-128):Nat):Int))*64+b3-128=((b0 % 8*262144+b1 % 64*4096+b2 % 64*64+b3 % 64:Nat):Int):=by omega
   rw[hz,hy,hx]
   generalize b0 % 8*262144+b1 % 64*4096+b2 % 64*64+b3 % 64=z
   by_cases hz:z ≥ 65536/\(z<55296\/57344<=z/\z<=1114111)
   ·rw[if_pos (by omega),if_pos hz]
    dsimp only
    omega
   ·rw[if_neg (by omega),if_neg hz]
    dsimp only
    omega
  ·rw[if_neg (fun hh=>hc ⟨hh.1.1.2,hh.1.2,hh.2⟩),if_neg h1,if_neg (show ¬(b0 / 32=6/\(1<n/\b1 / 64=2)) by omega),if_neg (show ¬(b0 / 16=14/\(1<n/\b1 / 64=2)/\(2<n/\b2 / 64=2)) by omega),if_neg (show ¬(b0 / 8=30/\(1<n/\b1 / 64=2)/\(2<n/\b2 / 64=2)/\(3<n/\b3 / 64=2)) from fun hh=>hc ⟨t1.2 hh.2.1,t2.2 hh.2.2.1,t3.2 hh.2.2.2⟩)]
   dsimp only
   omega
 rw[if_neg (by intro hh; omega),if_neg h1]
 repeat' split
 all_goals (dsimp only; omega)
theorem sP:∀ (n:Nat) (l:List UInt8),l.length<=n->Go.Lib.validD l=(fU l).isSome
 |0,l,hn=>by
  have:l=[]:=zE9 (by omega)
  subst this
  rfl
 |n+1,l,hn=>by
  by_cases h0:0<l.length
  ·have cR:l≠[]:=fun e=>by rw[e]at h0; simp at h0
   rw[Go.Lib.validD_step l cR,kr l h0]
   have hl:=lE l h0
   rcases FA l h0 with⟨h1,h2,h3⟩|⟨h1,h2,h3,h4⟩
   ·rw[if_pos ⟨h2,h3⟩,if_pos h1]
    rfl
   ·rw[if_neg h4,if_neg h1,Option.isSome_map]
    have e:(Go.Lib.decodeL l).2=(sH l).2.toNat:=by omega
    rw[e]
    exact sP n _ (by rw[zD8]; omega)
  ·have:l=[]:=zE9 (by omega)
   subst this
   rfl
theorem Qn (H:aa) (t:yO H) (s:ByteArray) (hlen:s.data.toList.length<=2000000) (hok:H.base<=H.next):bF Tryz.prog 131 [.string s] H (fun out H1=>Mod [] H H1/\O8 H H1 (fU s.data.toList) out):=by
 obtain⟨r,hr⟩:=Go.Ax.bP (fU s.data.toList)
 have hv:=Iq (ext H []) t s (by rw[pq]; omega)
 rw[sP _ _ (zA8 _),hr]at hv
 have hcv:∀ (X:aa) (m:Int),cj Tryz.prog X 21 3 (.int .i32 m)=some (.int .i64 (IntKind.i64.wrap m),X):=fun X m=>iL (u:=.int .i32) (by kernel_rfl) (by kernel_rfl)
 refine aG mixed Tryz.func131 rfl Tryz.ntmps131 (zA6 rfl) ?_
 simp only[zW,seval]
 refine hv.to ?_
 rw[hr]
 cases hr0:r with
 |none =>
  simp only[Option.isSome_none,Tryz.results131,zW,seval]
  exact⟨Mod.refl,rfl⟩
 |some r0 =>
  rw[<-hr0]
  have hsome:r.isSome=true:=by rw[hr0]; rfl
  have e1:=AT (H:=ext H []) (s:=s) u9
  simp only[hr0,Option.isSome_some,CH,e1,zW,seval]
  refine eT fun E hE=>?_
  have g4:E 4=.slice none 0 0:=by rw[hE]; rfl
  have g11:E 11=.pointer (some ⟨H.next,0,none⟩):=by rw[hE]; rfl
  clear hE
  refine bE (fun E' X=>Mod [] H X/\∃ v l,r=some l/\E' 4=v/\du X 3 1 v (iv l) l.length/\∀ n∈ae v,H.next<=n) ?_ ?_
  ·refine cU (fun (q:Nat × List Int × Value) E' X=>Mod [] H X/\X.get H.next=some (F0 s q.1)/\H.next<X.next/\r=(fU (s.data.toList.drop q.1)).map (q.2.1++·)/\q.2.1.length<=q.1/\q.1<=s.data.toList.length/\E' 11=.pointer (some ⟨H.next,0,none⟩)/\E' 4=q.2.2/\du X 3 1 q.2.2 (iv q.2.1) q.2.1.length/\∀ n∈ae q.2.2,H.next<n) (fun q=>s.data.toList.length-q.1) (0,[],.slice none 0 0)
    ⟨Mod.new hok,by rw[aa.fA,if_pos (show H.next=(ext H []).next from rfl)],zD9 _,by rw[<-hr]; simp,zA8 _,zB7 _,g11,g4,du.nil,fun n hn=>by simp[ae]at hn⟩ ?_
   clear g4 g11 E
   rintro⟨p,l,v⟩ E X ⟨m,hit,hlt,hrr,hlp,hps,g11,g4,hva,hid⟩
   simp only at hit hrr hlp hps g11 g4 hva hid
   rw[show X=ext X [] from rfl]
   by_cases h0:p<s.data.toList.length
   ·have hl0:0<(s.data.toList.drop p).length:=by rw[zD8]; omega
    have hpt:=lE _ hl0
    have hdec:=FA _ hl0
    rw[Go.Lib.decodeL_drop]at hdec
    rw[kr _ hl0]at hrr
    obtain⟨c,n,hcn⟩:∃ c n,sH (s.data.toList.drop p)=(c,n):=⟨_,_,rfl⟩
    rw[hcn]at hpt hdec hrr
    simp only at hpt hdec hrr
    by_cases hn:n=0
    ·rw[if_pos hn]at hrr
     rw[hrr]at hsome
     cases hsome
    rw[if_neg hn]at hrr
    obtain⟨h1,h2,h3,h4⟩:=hdec.resolve_left (fun h=>hn h.1)
    have hnx:=DP (H:=ext X []) (n:=H.next) (p:=p) (s:=s) hit (by rw[pq]; exact h0)
    obtain⟨Y,hY⟩:=Go.Ax.bP (X.cE H.next (some (F0 s (p+(Utf8.decode s p).2))))
    have mY:Mod [H.next] X Y:=hY▸Mod.cE (by simp)
    have hYn:Y.next=X.next:=by rw[<-hY]; rfl
    have hYit:Y.get H.next=some (F0 s (p+(Utf8.decode s p).2)):=by rw[<-hY,aa.eY,if_pos rfl]
    rw[show (ext X []).cE H.next (some (F0 s (p+(Utf8.decode s p).2)))=ext Y [] from hY,<-h2]at hnx
    rw[<-hY]at mY
    rw[hY]at mY
    obtain⟨x,hx⟩:=Go.Ax.bP Y.next
    have hxb:Y.base<=Y.next:=mY.ok (m.ok hok)
    have hvY:du Y 3 1 v (iv l) l.length:=hva.of (by omega) (fun q hq=>mY.get q (hva.ne q hq).2 (by simp only[zA5]; have:=hid q hq; omega))
    have hw:IntKind.i64.wrap c=c:=aQ (by omega) (by omega)
    obtain⟨G,k1,k2,k3,k4⟩:=NT (c:=c) hvY hx hxb (by omega)
    simp only[g4,g11,pQ,hnx,zW,seval]
    simp only[hx,bQ,hcv,hw,k1,zW,seval]
    refine aM ⟨(p+n.toNat,l++[c],.slice (some ⟨x+1,0,none⟩) (l.length+1) (l.length+1)),?_,?_,?_,?_,?_,?_,?_,?_,?_,?_,?_⟩
    ·simp only; omega
    ·exact (m.step mY hok (fun q hq=>.inr (by simp only[zA5]at hq; omega))).step k3 hok (fun q hq=>.inr (Nat.le_of_lt (hid q hq)))
    ·have hnv:H.next∉ae v:=fun h=>absurd (hid _ h) (Nat.lt_irrefl _)
     rw[show (ext G []).get H.next=G.get H.next from rfl,k3.get H.next (by omega) hnv,hYit]
     rw[show (Utf8.decode s p).2=n.toNat by omega]
    ·rw[show (ext G []).next=G.next from rfl,k4]; omega
    ·rw[hrr,Option.map_map,zG3]
     congr 1
     funext y
     simp
    ·simp only[zB4,zB0,zB6]; omega
    ·rw[zD8]at hpt; omega
    ·exact g11
    ·rfl
    ·exact k2
    ·intro q hq
     simp only[ae,zA5]at hq
     omega
   ·have hnx:=EJ (H:=ext X []) (n:=H.next) (p:=p) (s:=s) hit (by rw[pq]; exact h0)
    rw[zF1 (by omega),na]at hrr
    simp only[g11,pQ,hnx,zW,seval]
    exact aj ⟨m,v,l,by rw[hrr]; simp,g4,hva,fun q hq=>Nat.le_of_lt (hid q hq)⟩
  clear g4 g11 E
  rintro E X ⟨m,v,l,hrl,g4,hva,hid⟩
  rw[show X=ext X [] from rfl]
  simp only[g4,Tryz.results131,zW,seval]
  have e:r0=l:=Option.some.inj (hr0.symm.trans hrl)
  subst e
  exact⟨m,v,rfl,hva,hid⟩
theorem yO.Qq {N:Nat} {H X:aa} (t:yO H) (m:ei N H X) (hN:2<=N) (hn:2<=H.next):yO X:=by
 obtain⟨W,h,m⟩:=m
 exact t.of (m.get 0 (by omega) fun h0=>by have:=h 0 h0; omega) (m.get 1 (by omega) fun h0=>by have:=h 1 h0; omega)
theorem FO (N:Nat) (H:aa) (p W:Nat) (v:Value) (rvs:List Value) (x:St) (o:Op) (a:cT 83 N H p v rvs x) (sl:Cv v) (t:yO H) (hN:2<=N) (hok:H.base<=H.next) (ok:x.Ok W) (hlen:o.text.data.toList.length<=2000000) :
  bF Tryz.prog 106 [.pointer (some ⟨p,0,none⟩),o.val] H (j7 83 N p (x.text W (fU o.text.data.toList)) H):=by
 obtain⟨r,hr⟩:=Go.Ax.bP (fU o.text.data.toList)
 have h2n:2<=H.next:=by have:=a.lt; have:=a.lo; omega
 have m0:Mod [] H (ext H [⟨58,false,o.cells⟩]):=Mod.ext hok
 refine aG mixed Tryz.func106 rfl Tryz.ntmps106 (zA6 rfl) ?_
 simp only[Op.val,Op.cells,zW,seval]
 refine (Qn (ext H [⟨58,false,o.cells⟩]) (t.Qq (ei.of (N:=N) (Ws:=[]) m0 (by simp)) hN h2n) o.text (by omega) (m0.ok hok)).mono ?_
 rintro out X ⟨mX,ho⟩
 replace mX:Mod [] H X:=m0.trans mX
 rw[hr]at ho ⊢
 have aX:=a.p8 mX
 obtain⟨xn,hx⟩:=Go.Ax.bP X.next
 rw[show X=ext X [] from rfl]
 have bad:j7 83 N p none H (.error [eR]) (ext X []):=⟨ei.of (Ws:=[]) mX (by simp),rfl⟩
 cases hp:r with
 |none =>
  rw[hp]at ho
  simp only[O8]at ho
  subst ho
  have h5:decide ((5:Int)=0)=false:=by decide
  simp only[h5,zW,seval]
  refine br.panics (eL _) ?_
  simp only[cu,cy,bT,dj]
  exact bad
 |some l =>
  rw[hp]at ho
  obtain⟨v5,rfl,hv5,hid5'⟩:=ho
  have hid5:∀ n∈ae v5,H.next<=n:=fun n hn=>by have:=hid5' n hn; rw[ai]at this; omega
  have hll:l.length<=2000000:=zC3 (EM _ _ _ (zA8 _) (hr.trans hp)) hlen
  have hpl:=aX.lt
  rw[hx]at hpl
  have hcell:=aX.cell
  simp only[St.cells]at hcell
  obtain⟨i,hi⟩:∃ i:Nat,x.row=i:=⟨x.row.toNat,by have:=ok.row0; omega⟩
  obtain⟨k0,hk0⟩:∃ k:Nat,x.col=k:=⟨x.col.toNat,by have:=ok.col0; omega⟩
  obtain⟨a5,e5⟩:=hv5.len
  rw[e5]
  simp only[zW,seval]
  refine br.to (nE _) ?_
  simp only[hx,hpl,hcell,hk0,zW,seval]
  rw[<-e5]
  obtain⟨l0,hl0⟩:∃ l0,x.ah[i]?=some l0:=⟨_,zB1 (by have:=ok.row1; omega)⟩
  have hw0:l0.length=W:=ok.wid l0 (zB9 hl0)
  have hgd:x.ah.getD x.row.toNat []=l0:=by rw[hi,zG6,zC8,hl0]; rfl
  have hk0':x.col.toNat=k0:=by rw[hk0,zG6]
  obtain⟨F,hF⟩:=Go.Ax.bP (St.fits W l (k0:Int))
  obtain⟨y,hy⟩:∃ y:St,y={x with ah:=x.ah.set i (e7 x.pen l l0 k0).1,col:=((e7 x.pen l l0 k0).2:Nat)}:=⟨_,rfl⟩
  have hty:x.text W (some l)=if F=true then some y else none:=by
   simp only[St.text]
   rw[hgd,hk0',hk0,hF,hy,hi,zG6]
  rw[hty]
  refine eT fun E hE=>?_
  have g0:E 0=.pointer (some ⟨p,0,none⟩):=by rw[hE]; rfl
  have g4:E 4=v5:=by rw[hE]; simp only[e5,aW,seval]
  have g6:E 6=.int .i64 (k0:Int):=by rw[hE]; rfl
  have g26:E 26=v5:=by rw[hE]; simp only[e5,aW,seval]
  have g27:E 27=.int .i64 (l.length:Int):=by rw[hE]; rfl
  have g28:E 28=.int .i64 ((0:Nat):Int):=by rw[hE]; rfl
  clear hE
  have hW1:=ok.w1
  have hW2:=ok.w2
  have hcl:=ok.col1
  obtain⟨mw,hmwl,hmwp,_,hwd⟩:=mP aX ok
  have hwX:br Tryz.prog 40 [.pointer (some ⟨p,0,none⟩)] (ext X []) (.ok (.int .i64 W)) (ext X []):=hwd X rfl (fun _ _=>rfl)
  refine bE (fun E' Y=>Y=ext X []/\E' 0=.pointer (some ⟨p,0,none⟩)/\E' 4=v5/\F=true) ?_ ?_
  ·refine cU (fun (q:Nat × Int) E' Y=>Y=ext X []/\E' 0=.pointer (some ⟨p,0,none⟩)/\E' 4=v5/\E' 6=.int .i64 q.2/\E' 26=v5/\E' 27=.int .i64 (l.length:Int)/\E' 28=.int .i64 (q.1:Int)/\q.1<=l.length/\0<=q.2/\q.2<=W/\St.fits W (l.drop q.1) q.2=F) (fun q=>l.length-q.1) (0,(k0:Int))
    ⟨rfl,g0,g4,g6,g26,g27,g28,zB7 _,by simp,by simp only; omega,hF⟩ ?_
   clear g0 g4 g6 g26 g27 g28
   rintro⟨j,n⟩ E Y ⟨hY,g0,g4,g6,g26,g27,g28,hj,hn0,hn1,hf⟩
   simp only at g6 g28 hj hn0 hn1 hf
   rw[hY]
   by_cases hjl:j=l.length
   ·have hc:decide ((j:Int)<(l.length:Int))=false:=by simp[hjl]
    simp only[g27,g28,hc,zW,seval]
    rw[zF1 (by omega),St.fits]at hf
    exact aj ⟨rfl,by simp only[g0,aW,seval],by simp only[g4,aW,seval],hf.symm⟩
   ·have hlj:j<l.length:=by omega
    have hc:decide ((j:Int)<(l.length:Int))=true:=decide_eq_true (by omega)
    obtain⟨c,hcj⟩:∃ c,l[j]?=some c:=⟨_,zB1 hlj⟩
    obtain⟨n8,e8',n8l,b8,c8⟩:=GB hv5 hcj
    rw[hx]at n8l
    have g26':=g26
    rw[e8']at g26'
    have ij:=Hl (len:=l.length) (cap:=l.length) (n:=n8) (s:=none) (k:=j) hlj
    have hdr:l.drop j=c::l.drop (j+1):=by
     rw[List.drop_eq_getElem_cons hlj]
     rw[zB1 hlj]at hcj
     rw[Option.some.inj hcj]
    rw[hdr,St.fits]at hf
    obtain⟨w,hw⟩:=Go.Ax.bP (aR c)
    have hw3:=nC c
    rw[hw]at hf hw3
    have hwi:=sL (ext X []) c
    rw[hw]at hwi
    obtain⟨d1,hd1⟩:∃ d,decide ((0:Int)<(w:Int))=d:=⟨_,rfl⟩
    have hd1':decide (w=0)=!d1:=by rw[<-hd1,<-decide_not]; exact decide_eq_decide.2 (by omega)
    obtain⟨d2,hd2⟩:∃ d,decide (n+(w:Int)<=(W:Int))=d:=⟨_,rfl⟩
    have hd2':decide ((W:Int)<n+w)=!d2:=by rw[<-hd2,<-decide_not]; exact decide_eq_decide.2 (by omega)
    rw[hd1',hd2']at hf
    have hwr:IntKind.i64.wrap (n+(w:Int))=n+w:=aQ (by omega) (by omega)
    simp only[g26',g27,g28,hx,hc,ij,b8,n8l,c8,zW,seval]
    refine hwi.to ?_
    cases d1 with
    |false =>
     obtain rfl:false=F:=by simpa using hf
     simp only[g6,hwr,hd1,zW,seval]
     refine br.panics (eL _) ?_
     simp only[cu,cy,iH,jQ,jE,bT,dj,zC4,if_false]
     exact bad
    |true =>
     simp only[g0,g6,hwr,hd1,zW,seval]
     refine hwX.to ?_
     cases d2 with
     |false =>
      obtain rfl:false=F:=by simpa using hf
      simp only[hd2,zW,seval]
      refine br.panics (eL _) ?_
      simp only[cu,cy,iH,jQ,jE,bT,dj,zC4,if_false]
      exact bad
     |true =>
      have hf':St.fits W (l.drop (j+1)) (n+w)=F:=by simpa using hf
      have:=of_decide_eq_true hd2
      simp only[hd2,zW,seval]
      refine br.to (nE _) ?_
      simp only[g28,CV (show j<4000000 by omega),zW,seval]
      refine aM ⟨(j+1,n+w),by simp only; omega,rfl,?_,?_,?_,?_,?_,?_,by simp only; omega,by simp only; omega,by simp only; omega,hf'⟩
      ·exact g0
      ·exact g4
      ·rfl
      ·simp only[g26,e8',aW,seval]
      ·exact g27
      ·rfl
  ·clear g0 g4 g6 g26 g27 g28
   rintro E Y ⟨hY,g0,g4,rfl⟩
   rw[hY]
   rw[if_pos rfl]
   obtain⟨m,s1,c1,o1,ev,hbm,hNm,hml,hmn⟩:∃ m s1 c1 o1,v=.slice (some ⟨m,0,s1⟩) x.ah.length c1/\bk X m=some ⟨56,o1,rvs⟩/\N<=m/\m<X.next/\m∉rvs.flatMap ae:=by
    rcases aX.own.at_ with⟨h,_⟩|h
    ·rw[h]at hl0; simp at hl0
    ·exact h
   obtain⟨n,s2,cc,f00,hrv,_⟩:=aX.row hl0
   obtain⟨xs,hxs⟩:∃ xs:List Ce->Int->St,xs=fun lr cl=>{x with ah:=x.ah.set i lr,col:=cl}:=⟨_,rfl⟩
   have hil:i<x.ah.length:=(zG1.1 hl0).1
   have hgi:∀ lr cl,(xs lr cl).ah[i]?=some lr:=fun lr cl=>by rw[hxs]; exact List.getElem?_set_self hil
   have hsr:∀ lr cl lr',(xs lr cl).setRow i lr'=xs lr' cl:=fun lr cl lr'=>by rw[hxs]; simp only[St.setRow,List.set_set]
   have hx0:xs l0 (k0:Int)=x:=by
    rw[hxs]
    simp only
    rw[<-hk0]
    have:x.ah.set i l0=x.ah:=List.ext_getElem? fun j=>by
     rw[List.getElem?_set]
     split
     ·rename_i e; subst e; exact hl0.symm
     ·rfl
    rw[this]
   have rd:∀ (Z:aa) (lr:List Ce) (cl:Int),lr.length=W->cT 83 N Z p v rvs (xs lr cl)->∃ f o,bk Z n=some ⟨77,f,aN lr⟩/\n<Z.next/\bk Z m=some ⟨56,o,rvs⟩/\m<Z.next/\bk Z p=some ⟨83,false,(xs lr cl).cells v⟩/\p<Z.next:=fun Z lr cl hlr az=>by
    obtain⟨n',s',c',f,h1,h2,_,h3,_⟩:=az.row (hgi lr cl)
    rw[hrv]at h1
    rw[hw0,hlr]at h1
    cases h1
    rcases az.own.at_ with⟨h,_⟩|⟨m',s'',c'',o,e,h4,_,h5,_⟩
    ·have:=hgi lr cl; rw[h]at this; simp at this
    ·have hgl:(xs lr cl).ah.length=x.ah.length:=by rw[hxs]; simp
     rw[ev,hgl]at e
     cases e
     exact⟨f,o,h2,h3,h4,h5,az.cell,az.lt⟩
   have hxi:∀ lr cl,(xs lr cl).row=(i:Int):=fun lr cl=>by rw[hxs]; exact hi
   have hxg:∀ lr cl,(xs lr cl).ah.length=x.ah.length:=fun lr cl=>by rw[hxs]; simp
   have hxc:∀ lr cl,(xs lr cl).cells v=[v,.int .i64 x.sr,.int .i64 x.sc,.int .i64 x.pen.fore,.int .i64 x.pen.back,.bool x.pen.bold,.bool x.pen.under,.bool x.pen.inv,.int .i64 (i:Int),.int .i64 cl,.bool x.shown]:=fun lr cl=>by rw[hxs]; simp only[St.cells,hi]
   have hidl:∀ n∈p::rvs.flatMap ae,n<H.next:=fun q hq=>by
    rcases zA7.1 hq with rfl|hq
    ·exact a.lt
    ·exact (a.own.ids q hq).2.1
   have fr8:∀ (Z:aa),Mod (p::rvs.flatMap ae) X Z->∀ {j:Nat} {c:Int},l[j]?=some c->∃ n8,v5=.slice (some ⟨n8,0,none⟩) l.length l.length/\n8<Z.next/\bk Z n8=some ⟨3,true,iv l⟩/\(iv l)[j]?=some (.int .i64 c)/\H.next<=n8:=fun Z mZ {j c} hc=>by
    obtain⟨n8,e8',n8l,b8,c8⟩:=GB hv5 hc
    have h8:H.next<=n8:=hid5 n8 (by rw[e8']; simp[ae])
    exact⟨n8,e8',mZ.lt n8l,(mZ.bk n8l (fun h=>by have:=hidl _ h; omega)).trans b8,c8,h8⟩
   have g4':=g4
   rw[e5]at g4'
   simp only[g4',zW,seval]
   refine eT fun E2 hE2=>?_
   have k0':E2 0=.pointer (some ⟨p,0,none⟩):=by rw[hE2]; simp only[g0,aW,seval]
   have k47:E2 47=v5:=by rw[hE2]; simp only[e5,aW,seval]
   have k48:E2 48=.int .i64 (l.length:Int):=by rw[hE2]; rfl
   have k49:E2 49=.int .i64 ((0:Nat):Int):=by rw[hE2]; rfl
   clear hE2
   refine cU (fun (q:Nat × List Ce × Nat) E' Y=>Mod (p::rvs.flatMap ae) X Y/\E' 0=.pointer (some ⟨p,0,none⟩)/\E' 47=v5/\E' 48=.int .i64 (l.length:Int)/\E' 49=.int .i64 (q.1:Int)/\q.1<=l.length/\q.2.1.length=W/\cT 83 N Y p v rvs (xs q.2.1 (q.2.2:Int))/\e7 x.pen (l.drop q.1) q.2.1 q.2.2=e7 x.pen l l0 k0/\St.fits W (l.drop q.1) (q.2.2:Int)=true) (fun q=>l.length-q.1) (0,l0,k0)
    ⟨Mod.refl,k0',k47,k48,k49,zB7 _,hw0,by simp only; rw[hx0]; exact aX,rfl,hF⟩ ?_
   rintro⟨j,lr,k⟩ E Y ⟨mY,g0,g47,g48,g49,hj,hlr,aY,hput,hfit⟩
   simp only at g49 hj hlr aY hput hfit
   rw[show Y=ext Y [] from rfl]
   by_cases hjl:j=l.length
   ·have hc:decide ((j:Int)<(l.length:Int))=false:=by simp[hjl]
    simp only[g48,g49,hc,Tryz.results106,zW,seval]
    rw[zF1 (by omega),e7]at hput
    refine⟨ei.of ((mX.mono (by simp)).trans mY) (fun q hq=>?_),rfl,v,rvs,sl,?_⟩
    ·rcases zA7.1 hq with rfl|hq
     ·exact a.pN (by decide) _ (zA5.2 rfl)
     ·exact a.rN q hq
    rw[hy,<-hput]
    rw[hxs]at aY
    exact aY
   ·have hlj:j<l.length:=by omega
    have hc:decide ((j:Int)<(l.length:Int))=true:=decide_eq_true (by omega)
    obtain⟨c,hcj⟩:∃ c,l[j]?=some c:=⟨_,zB1 hlj⟩
    have hdr:l.drop j=c::l.drop (j+1):=by
     rw[List.drop_eq_getElem_cons hlj]
     rw[zB1 hlj]at hcj
     rw[Option.some.inj hcj]
    rw[hdr]at hput hfit
    obtain⟨hf0,hf1,hfit'⟩:=mj hfit
    rw[e7]at hput
    obtain⟨w,hw⟩:=Go.Ax.bP (aR c)
    have hw3:=nC c
    rw[hw]at hput hf0 hf1 hfit' hw3
    obtain⟨l2,hl2⟩:∃ l2,l2=if w=2 then (lg (lg lr k Ce.sp) (k+1) Ce.sp).set (k+1) (x.pen.ce (-1)) else lg lr k Ce.sp:=⟨_,rfl⟩
    have hpc:sb x.pen lr k c=l2.set k (x.pen.ce c):=by
     rw[sb,hw,hl2]
     split<;>rfl
    have hl2l:l2.length=W:=by
     rw[hl2]
     split
     ·rw[zF3,fJ,fJ,hlr]
     ·rw[fJ,hlr]
    have hokY:=mY.ok (mX.ok hok)
    obtain⟨n8,e8',n8l,b8,c8,h8⟩:=fr8 Y mY hcj
    obtain⟨f,o,bn,nl,bm,ml,bp,pl⟩:=rd Y lr k hlr aY
    rw[hxc]at bp
    have ij:=Hl (len:=l.length) (cap:=l.length) (n:=n8) (s:=none) (k:=j) hlj
    have hrv':∀ lr:List Ce,lr.length=W->rvs[i]?=some (.slice (some ⟨n,0,s2⟩) lr.length cc):=fun lr h=>by rw[hrv,hw0,h]
    have hnm:∀ q∈[n],q∈p::rvs.flatMap ae:=fun q hq=>by
     obtain rfl:=zA5.1 hq
     exact zC7 _ (zE2.2 ⟨_,zB9 hrv,by simp[ae]⟩)
    have hpn:p≠n:=fun e=>a.apart (List.mem_append_right _ (zE2.2 ⟨_,zB9 hrv,by simp[ae,e]⟩))
    have set1:∀ (Z:aa) (lr:List Ce) (cl:Int) (q:Nat),cT 83 N Z p v rvs (xs lr cl)->Z.base<=Z.next->lr.length=W->q<W->bF Tryz.prog 132 [.pointer (some ⟨p,0,none⟩),.int .i64 (q:Int),Ce.sp.val] Z (fun out Z1=>out=.ok (.tuple ⟨[]⟩)/\cT 83 N Z1 p v rvs (xs (lg lr q Ce.sp) cl)/\Mod [n] Z Z1):=fun Z lr cl q az hz hl hq=>by
     have:=Pk N Z p i q n v rvs (xs lr cl) lr Ce.sp s2 cc az hz (hxi _ _) (hgi _ _) (hrv' lr hl) (by omega) (by omega) (by rw[hxg]; exact zC3 ok.h2 (by decide))
     rw[hsr]at this
     exact this
    obtain⟨yn,hyn⟩:=Go.Ax.bP Y.next
    rw[hyn]at n8l nl ml pl
    have g47':=g47
    rw[e8']at g47'
    simp only[g0,g47',g48,g49,hc,ij,b8,n8l,c8,bp,pl,hyn,zW,seval]
    refine (set1 (ext Y []) lr k k aY hokY hlr (by omega)).mono ?_
    rintro _ Y1 ⟨rfl,a1,m1⟩
    replace m1:Mod [n] Y Y1:=m1
    have hokY1:=m1.ok hokY
    have mY1:=mY.trans (m1.mono hnm)
    rw[show Y1=ext Y1 [] from rfl]
    obtain⟨d2,hd2⟩:∃ d,decide ((w:Int)=2)=d:=⟨_,rfl⟩
    have hwi:=sL (ext Y1 []) c
    rw[hw]at hwi
    simp only[zW,seval]
    refine hwi.to ?_
    simp only[hd2,zW,seval]
    refine gZ (fun E' Z=>Mod (p::rvs.flatMap ae) X Z/\E' 0=.pointer (some ⟨p,0,none⟩)/\E' 47=v5/\E' 48=.int .i64 (l.length:Int)/\E' 49=.int .i64 (j:Int)/\E' 11=.int .i64 c/\E' 12=.int .i64 (w:Int)/\cT 83 N Z p v rvs (xs l2 k)) ?_ ?_
    ·cases d2 with
     |false =>
      have:¬w=2:=fun e=>by rw[e]at hd2; exact absurd hd2 (by decide)
      rw[if_neg this]at hl2
      rw[hl2]
      simp only[lh]
      exact aj ⟨mY1,by simp only[g0,aW,seval],by simp only[g47',e8',aW,seval],by simp only[g48,aW,seval],by simp only[g49,aW,seval],by simp only[aW,seval],by simp only[aW,seval],a1⟩
     |true =>
      have hw2:w=2:=by have:=of_decide_eq_true hd2; omega
      rw[if_pos hw2]at hl2
      obtain⟨f1,o1,bn1,nl1,bm1,ml1,bp1,pl1⟩:=rd Y1 _ k (by rw[fJ]; exact hlr) a1
      rw[hxc]at bp1
      obtain⟨yn1,hyn1⟩:∃ yn,Y1.next=yn:=⟨_,rfl⟩
      rw[hyn1]at nl1 ml1 pl1
      have hks:IntKind.i64.wrap ((k:Int)+1)=((k+1:Nat):Int):=bO (by omega)
      simp only[g0,bp1,pl1,hyn1,hks,zW,seval]
      refine (set1 (ext Y1 []) _ k (k+1) a1 hokY1 (by rw[fJ]; exact hlr) (by omega)).mono ?_
      rintro _ Y2 ⟨rfl,a2,m2⟩
      replace m2:Mod [n] Y1 Y2:=m2
      have mY2:=mY1.trans (m2.mono hnm)
      rw[show Y2=ext Y2 [] from rfl]
      simp only[lh,seval]
      obtain⟨lq,hlq⟩:=Go.Ax.bP (lg (lg lr k Ce.sp) (k+1) Ce.sp)
      rw[hlq]at a2 hl2
      have hlql:lq.length=W:=by rw[<-hlq,fJ,fJ,hlr]
      obtain⟨f2,o2,bn2,nl2,bm2,ml2,bp2,pl2⟩:=rd Y2 lq k hlql a2
      rw[hxc]at bp2
      obtain⟨yn2,hyn2⟩:∃ yn,Y2.next=yn:=⟨_,rfl⟩
      rw[hyn2]at nl2 ml2 pl2
      obtain⟨hm1,hn1⟩:m<yn2/\n<yn2:=⟨ml2,nl2⟩
      have ig:=kg (n:=m) (off:=0) (s:=s1) (cap:=c1) (i:=(i:Int)) (len:=x.ah.length) rfl hil
      have qg:oL Tryz.prog 56 (0+i) (some ⟨56,o2,rvs⟩)=some (.slice (some ⟨n,0,s2⟩) W cc):=gu (by rw[zB8,hrv,hw0])
      have ir:aP Tryz.prog 56 (.slice (some ⟨n,0,s2⟩) W cc) (.int .i64 ((k+1:Nat):Int))=some (.pointer (some ⟨n,0+(k+1)*6,none⟩)):=iG (n:=n) (off:=0) (s:=s2) (cap:=cc) (i:=((k+1:Nat):Int)) rfl (by omega)
      have stq:∀ M:Nat,vw Tryz.prog 77 M (0+(k+1)*6) (.agg ⟨[.int .i64 (-1),.int .i64 x.pen.fore,.int .i64 x.pen.back,.bool x.pen.bold,.bool x.pen.under,.bool x.pen.inv]⟩) (some ⟨77,f2,aN lq⟩)=some ⟨77,f2,aN (lq.set (k+1) (x.pen.ce (-1)))⟩:=fun M=>by
       rw[zB8]
       exact jL (c:=x.pen.ce (-1)) (by omega)
      refine bf [(22,4),(22,8),(22,10),(22,14),(22,19)] [] (by kernel_rfl) (by kernel_rfl) rfl fun ops anc hA hG=>?_
      simp only[aw]at hA
      rw[ev]at bp2
      simp only[g0,bp2,pl2,bm2,bn2,hm1,hn1,hyn2,hks,ig,qg,ir,stq,hA,b9,zW,seval]
      obtain⟨a3,m3⟩:=a2.Ic (q:=x.pen.ce (-1)) (j:=k+1) (hrv' lq hlql) (hgi _ _) (by omega) bn2
      rw[hsr,<-hl2]at a3
      refine aj ⟨mY2.trans (m3.mono hnm),?_,?_,?_,?_,?_,?_,a3⟩
      ·exact g0
      ·simp only[g47',e8',aW,seval]
      ·exact g48
      ·exact g49
      ·rfl
      ·rfl
    ·rintro E Z ⟨mZ,g0,g47,g48,g49,g11,g12,aZ⟩
     rw[show Z=ext Z [] from rfl]
     obtain⟨f,o,bn,nl,bm,ml,bp,pl⟩:=rd Z l2 k hl2l aZ
     rw[hxc]at bp
     obtain⟨zn,hzn⟩:=Go.Ax.bP Z.next
     rw[hzn]at nl ml pl
     have ig:=kg (n:=m) (off:=0) (s:=s1) (cap:=c1) (i:=(i:Int)) (len:=x.ah.length) rfl hil
     have qg:oL Tryz.prog 56 (0+i) (some ⟨56,o,rvs⟩)=some (.slice (some ⟨n,0,s2⟩) W cc):=gu (by rw[zB8,hrv,hw0])
     have ir:aP Tryz.prog 56 (.slice (some ⟨n,0,s2⟩) W cc) (.int .i64 (k:Int))=some (.pointer (some ⟨n,0+k*6,none⟩)):=iG (n:=n) (off:=0) (s:=s2) (cap:=cc) (i:=(k:Int)) rfl (by omega)
     have stq:∀ M:Nat,vw Tryz.prog 77 M (0+k*6) (.agg ⟨[.int .i64 c,.int .i64 x.pen.fore,.int .i64 x.pen.back,.bool x.pen.bold,.bool x.pen.under,.bool x.pen.inv]⟩) (some ⟨77,f,aN l2⟩)=some ⟨77,f,aN (l2.set k (x.pen.ce c))⟩:=fun M=>by
      rw[zB8]
      exact jL (c:=x.pen.ce c) (by omega)
     simp only[lh]
     refine bf [(22,4),(22,8),(22,10),(22,14),(22,19)] [] (by kernel_rfl) (by kernel_rfl) rfl fun ops anc hA hG=>?_
     simp only[aw]at hA
     rw[ev]at bp
     simp only[g0,g11,bp,pl,bm,bn,ml,nl,hzn,ig,qg,ir,stq,hA,b9,zW,seval]
     obtain⟨a3,m3⟩:=aZ.Ic (q:=x.pen.ce c) (j:=k) (hrv' l2 hl2l) (hgi _ _) (by omega) bn
     rw[hsr,<-hpc]at a3
     have hokZ1:=(m3.mono hnm).ok (mZ.ok (mX.ok hok))
     have mZ1:=mZ.trans (m3.mono hnm)
     have bp1:=a3.cell
     rw[hxc]at bp1
     have pl1:=a3.lt
     generalize hZ1:uw Z n _ _=Z1
     rw[show uw Z n (0+k*6) (x.pen.ce c).cells=Z1 from hZ1]at a3 hokZ1 mZ1 bp1 pl1
     obtain⟨zn1,hzn1⟩:∃ zn,Z1.next=zn:=⟨_,rfl⟩
     rw[hzn1]at pl1
     have hkw:IntKind.i64.wrap ((k:Int)+(w:Int))=((k+w:Nat):Int):=(aQ (by omega) (by omega)).trans (by omega)
     simp only[g12,g49,bp1,pl1,hzn1,hkw,CV (show j<4000000 by omega),zW,seval]
     obtain⟨a4,m4⟩:=a3.C6 (y:=xs (sb x.pen lr k c) ((k+w:Nat):Int)) hokZ1 (off:=9) (vs:=[.int .i64 ((k+w:Nat):Int)]) (L:=[]) (by rw[hxc,hxc]; rfl) (by rw[hxs])
     refine aM ⟨(j+1,sb x.pen lr k c,k+w),by simp only; omega,mZ1.trans (m4.mono (by simp)),?_,?_,?_,?_,by simp only; omega,by simp only[CC]; exact hlr,a4,hput,by simpa using hfit'⟩
     ·exact g0
     ·exact g47
     ·exact g48
     ·rfl
theorem St.Ok.setRow {x:St} {W i:Nat} {l:List Ce} (ok:x.Ok W) (hl:l.length=W):(x.setRow i l).Ok W:=by
 refine⟨?_,?_,ok.w1,ok.w2,?_,ok.row0,?_,ok.col0,ok.col1⟩
 ·simp only[St.setRow,zF3]; exact ok.h1
 ·simp only[St.setRow,zF3]; exact ok.h2
 ·intro q hq
  rcases List.mem_or_eq_of_mem_set hq with h|h
  ·exact ok.wid q h
  ·rw[h]; exact hl
 ·simp only[St.setRow,zF3]; exact ok.row1
theorem setRow_self {x:St} {i:Nat} {l:List Ce} (h:x.ah[i]?=some l):x.setRow i l=x:=by
 have:x.ah.set i l=x.ah:=List.ext_getElem? fun j=>by
  rw[List.getElem?_set]
  split
  ·rename_i e; subst e; rw[if_pos (zG1.1 h).1]; exact h.symm
  ·rfl
 simp only[St.setRow,this]
def St.clear (W:Nat) (x:St):Option St:=if x.col<W then some {x with ah:=x.ah.set x.row.toNat (eV (x.ah.getD x.row.toNat []) x.col.toNat (W-x.col.toNat))} else none
theorem N8 (N:Nat) (H:aa) (p W:Nat) (v:Value) (rvs:List Value) (x:St) (o:Op) (a:cT 83 N H p v rvs x) (sl:Cv v) (hok:H.base<=H.next) (ok:x.Ok W) :
  bF Tryz.prog 107 [.pointer (some ⟨p,0,none⟩),o.val] H (j7 83 N p (x.clear W) H):=by
 obtain⟨b,hb⟩:=Go.Ax.bP H.next
 have hpl:=a.lt
 rw[hb]at hpl
 have hcell:=a.cell
 simp only[St.cells]at hcell
 have m0:Mod [] H (ext H [⟨58,false,o.cells⟩]):=Mod.ext hok
 have aX:=a.p8 m0
 obtain⟨m,hml,hmp,⟨_,_,_,hmb⟩,hwd⟩:=mP aX ok
 have hFn:∀ n∈[p,m],(ext H [⟨58,false,o.cells⟩]).get n≠none:=fun n hn=>by
  simp only[zA7,zD2,or_false]at hn
  rcases hn with rfl|rfl
  ·exact dT aX.cell
  ·exact dT hmb
 obtain⟨i,hi⟩:∃ i:Nat,x.row=i:=⟨x.row.toNat,by have:=ok.row0; omega⟩
 obtain⟨k0,hk0⟩:∃ k:Nat,x.col=k:=⟨x.col.toNat,by have:=ok.col0; omega⟩
 obtain⟨l0,hl0⟩:∃ l0,x.ah[i]?=some l0:=⟨_,zB1 (by have:=ok.row1; omega)⟩
 have hw0:l0.length=W:=ok.wid l0 (zB9 hl0)
 have hgd:x.ah.getD x.row.toNat []=l0:=by rw[hi,zG6,zC8,hl0]; rfl
 have hk0':x.col.toNat=k0:=by rw[hk0,zG6]
 have hil:i<x.ah.length:=(zG1.1 hl0).1
 have hr:x.clear W=if (k0:Int)<W then some (x.setRow i (eV l0 k0 (W-k0))) else none:=by
  unfold St.clear
  rw[hgd,hk0',hk0,hi,zG6]
  simp only[St.setRow,hk0,hi]
 rw[hr]
 refine aG mixed Tryz.func107 rfl Tryz.ntmps107 (zA6 rfl) ?_
 simp only[Op.val,Op.cells,hb,zW,seval]
 by_cases hkw:(k0:Int)<W
 ·have hd:decide ((k0:Int)<W)=true:=decide_eq_true hkw
  rw[if_pos hkw]
  refine bf [] [] (by kernel_rfl) rfl rfl fun ops anc hA hG=>?_
  simp only[hb,hpl,hcell,hk0,b9,zW,seval]
  refine bx (v:=.int .i64 W) [p,m] rfl rfl (zA6 rfl) hFn (fun G hn hg=>hwd G hn hg) (by simp[cQ]) ?_
  simp only[hd,b9,zW,seval]
  refine bx (v:=.tuple ⟨[]⟩) [] rfl rfl (zA6 rfl) (by simp) (fun G hn hg=>nE G) (by simp[cQ]) ?_
  simp only[hb,hpl,hcell,hk0,b9,zW,seval]
  refine eT fun E hE=>?_
  have g0:E 0=.pointer (some ⟨p,0,none⟩):=by rw[hE]; rfl
  have g4:E 4=.int .i64 (k0:Int):=by rw[hE]; rfl
  clear hE
  obtain⟨X,hX⟩:=Go.Ax.bP (ext H [⟨58,false,o.cells⟩])
  simp only[Op.cells]at hX
  rw[hX]
  rw[show ext H [⟨58,false,o.cells⟩]=X from hX]at aX m0
  rw[show X=ext X [] from rfl]
  obtain⟨n,s2,cc,f00,hrv,_⟩:=aX.row hl0
  refine cU (fun (q:Nat × List Ce) E' Y=>Mod [n] X Y/\E' 0=.pointer (some ⟨p,0,none⟩)/\E' 4=.int .i64 (q.1:Int)/\q.1<=W/\q.2.length=W/\cT 83 N Y p v rvs (x.setRow i q.2)/\eV q.2 q.1 (W-q.1)=eV l0 k0 (W-k0)) (fun q=>W-q.1) (k0,l0)
   ⟨Mod.refl,g0,g4,by simp only; omega,hw0,by simp only; rw[setRow_self hl0]; exact aX,rfl⟩ ?_
  clear g0 g4
  rintro⟨k,lr⟩ E Y ⟨mY,g0,g4,hk,hlr,aY,hcl⟩
  simp only at g4 hk hlr aY hcl
  rw[show Y=ext Y [] from rfl]
  obtain⟨m2,_,_,_,hwd2⟩:=mP aY (ok.setRow hlr)
  have hwY:br Tryz.prog 40 [.pointer (some ⟨p,0,none⟩)] (ext Y []) (.ok (.int .i64 W)) (ext Y []):=hwd2 Y rfl (fun _ _=>rfl)
  simp only[g0,g4,zW,seval]
  refine hwY.to ?_
  by_cases hkW:k=W
  ·have hc:decide ((k:Int)<(W:Int))=false:=by simp[hkW]
   simp only[hc,Tryz.results107,zW,seval]
   refine⟨(ei.of (Ws:=[]) m0 (by simp)).trans (ei.of mY (fun q hq=>?_)),rfl,v,rvs,sl,?_⟩
   ·obtain rfl:=zA5.1 hq
    exact aX.rN q (zE2.2 ⟨_,zB9 hrv,by simp[ae]⟩)
   ·rw[hkW,zG5,eV]at hcl
    rw[<-hcl]
    exact aY
  ·have hc:decide ((k:Int)<(W:Int))=true:=decide_eq_true (by omega)
   have hc1:eV lr k (W-k)=eV (lg lr k Ce.sp) (k+1) (W-(k+1)):=by
    rw[show W-k=(W-(k+1))+1 by omega,eV]
   simp only[g0,g4,hc,zW,seval]
   have hset:=Pk N (ext Y []) p i k n v rvs (x.setRow i lr) lr Ce.sp s2 cc aY (mY.ok (m0.ok hok)) hi (Fs hil) (by rw[hrv,hw0,hlr]) (by omega) (by have:=ok.w2; omega) (by simp only[St.setRow,zF3]; exact zC3 ok.h2 (by decide))
   rw[EY]at hset
   refine hset.mono ?_
   rintro _ Y1 ⟨rfl,a1,m1⟩
   rw[show Y1=ext Y1 [] from rfl]
   simp only[g4,bO (show k<1000000 by have:=ok.w2; omega),zW,seval]
   refine aM ⟨(k+1,lg lr k Ce.sp),by simp only; omega,mY.trans m1,?_,?_,by simp only; omega,by simp only[fJ]; exact hlr,a1,by simp only; rw[<-hc1]; exact hcl⟩
   ·exact g0
   ·rfl
 ·have hd:decide ((k0:Int)<W)=false:=decide_eq_false hkw
  rw[if_neg hkw]
  refine iV [] [] (by kernel_rfl) (by kernel_rfl) rfl rfl (fun ops anc hA hG=>?_) (by simp) ⟨rfl,rfl⟩
  simp only[cD,c7,hb,hpl,hcell,hk0,b9,zW,seval]
  refine bx (v:=.int .i64 W) [p,m] rfl rfl (zA6 rfl) hFn (fun G hn hg=>hwd G hn hg) (by simp[cQ]) ?_
  simp only[hd,b9,zW,seval]
  simp only[dP,eZ,ej,true_and,zW,seval]
  refine br.panics (eL _) ?_
  simp only[cu,cy,bT,dj]
  exact⟨ei.of (Ws:=[]) m0 (by simp),rfl⟩
end Go.Proofs.YtpohjcacnkhnkaaGreatDoor
namespace Go.Ax
section
variable {P : Program} {H : aa} {N : Nat} {E : Env} {ds : List Deferred} {ops : Array Oper} {anc : List Nat} {d : Nat} {ty : TypeId} {pos : String} {after : Array Edge} {rest : List Oper} {i : Nat} {fps : List Fp} {Q : ag -> aa -> Prop}
theorem I8 {f:FuncId} {x:Operand} {args:List Operand} {ts:Array TypeId} {v:Value} {M:List Bl} {ca:List Value} (F:List Nat) (hx:bj P N x=true) (hv:cm E x=.func (.func f) ⟨[]⟩ ⟨ca⟩) (ha:args.all (bj P N)=true) (hb:aF P f=true) (hd:d<N) (hF:∀ n∈F,H.get n≠none)
  (hc:∀ G:aa,G.next=H.next->(∀ n∈F,G.get n=H.get n)->br P f (args.map (cm E)++ca) G (.ok v) (ext G M)) (hm:∀ r∈fps,cQ (anc.getD i 0) F [] (ae v++M.flatMap fun x=>gk x.l) r)
  (h:fH P ops anc rest (i+1) (⟨i,F,[],H.next,H.next+M.length⟩::fps) (bA N (cE E d v) ds) (ext H M) Q):nA P ops anc ⟨some d,.call ⟨.value x,⟨args⟩,ts⟩,ty,pos,after,none⟩ rest i fps (bA N E ds) H Q :=
 tz (v:=v) (M:=M) F rfl hd hF (fun G h1 h2=>by
  refine fP (x:=.enter f (args.map (cm E)++ca)) (g:=G) ?_ (hc G h1 h2)
  simp only[ck,kc,cp ha,aE hx,hv,zA1,zA3,oA,fq,iU,hb,if_true,zC1,zA9]) hm h
theorem Cs {t:TypeId} {x:Operand} {lo hi mx:Option Operand} {v:Value} (F:List Nat) (hx:bj P N x=true) (h1:iu P N lo=true) (h2:iu P N hi=true) (h3:iu P N mx=true) (hd:d<N) (hF:∀ n∈F,H.get n≠none)
  (hc:∀ G:aa,(∀ n∈F,G.get n=H.get n)->cg P G t (cm E x) (qF E lo) (qF E hi) (qF E mx)=some (v,G)) (hm:∀ r∈fps,cQ (anc.getD i 0) F [] (ae v++([]:List Bl).flatMap fun x=>gk x.l) r)
  (h:fH P ops anc rest (i+1) (⟨i,F,[],H.next,H.next⟩::fps) (bA N (cE E d v) ds) (ext H []) Q):nA P ops anc ⟨some d,.slice t x lo hi mx,ty,pos,after,none⟩ rest i fps (bA N E ds) H Q :=
 tz (v:=v) (M:=[]) F rfl hd hF (fun G _ h4=>fP (x:=.value v) (g:=G) (sN hx h1 h2 h3 (hc G h4)) ⟨rfl,rfl⟩) hm h
end
end Go.Ax
namespace Go.Proofs.YtpohjcacnkhnkaaGreatDoor
open Go.Ax
theorem Kf (H:aa) (w:Nat) (h1:1<=w) (hw:w<=1000):br Tryz.prog 36 [.int .i64 (w:Int)] H (.ok (.slice (some ⟨H.next,0,some 0⟩) w w)) (ext H [⟨77,false,aN (List.replicate w Ce.sp)⟩]):=by
 obtain⟨b,hb⟩:=Go.Ax.bP H.next
 refine jd (fun wf hsc=>?_) (fun _ _=>jv _ _)
 have hok:H.base<=H.next:=wf.base
 refine aG mixed Tryz.func36 rfl Tryz.ntmps36 (zA6 rfl) ?_
 simp only[hb,zW,seval]
 refine (xw w h1 hw Ce.sp (b+0) (some 0) (ext H [⟨77,false,Ce.sp.cells⟩]) (by rw[bu hb (by simp)]; rfl)).to ?_
 simp only[hb,Tryz.results36,zW,seval]
 exact⟨b+1,rfl,by omega,by rw[bu hb (by simp)]; rfl,Mod.ext hok⟩
theorem iJ {N:Nat} {L M:List Value} (h:aO N L=true) (hs:∀ v∈M,v∈L):aO N M=true:=bL.2 fun v hv=>bL.1 h v (hs v hv)
theorem one_sub {L M:List Value} (h:L.all one=true) (hs:∀ v∈M,v∈L):M.all one=true:=zC6.2 fun v hv=>zC6.1 h v (hs v hv)
theorem Pt (H:aa) (u1 u2:Value) (L1 L2:List Value) (n x:Nat) (hx:H.next=x) (P1:Part H u1 L1) (P2:Part H u2 L2) (h1:L1.all one=true) (h2:L2.all one=true) (s1:aO H.next L1=true) (s2:aO H.next L2=true) (hn:(L1++L2).length=n) (h0:0<n) (hn1:n<=10000) :
  br Tryz.prog 135 [.slice (some ⟨x+0,0,some 0⟩) 2 2] (ext H [⟨39,false,[u1,u2]⟩]) (.ok (.slice (some ⟨x+1,0,none⟩) n n)) (ext H [⟨39,false,[u1,u2]⟩,⟨56,true,L1++L2⟩]):=by
 have hnx:(ext H [⟨39,false,[u1,u2]⟩]).next=x+1:=by rw[ai,hx]; rfl
 have:=C1 (ext H [⟨39,false,[u1,u2]⟩]) (x+0) (some 0) 2 39 false [(u1,L1),(u2,L2)] n (by rw[bu hx (by simp)]; rfl) (by omega) (fun q hq=>?_) (by simpa using hn) h0 hn1 (by simp)
 ·rw[hnx]at this
  simpa[jr]using this
 ·have le:H.next<=(ext H [⟨39,false,[u1,u2]⟩]).next:=by omega
  simp only[zA7,zD2,or_false]at hq
  rcases hq with rfl|rfl
  ·exact⟨P1.ext,h1,dN le _ s1⟩
  ·exact⟨P2.ext,h2,dN le _ s2⟩
theorem JL (H:aa) (u1 u2:Value) (L1 L2:List Value) (b:Nat) (o:Op) (P1:Part H u1 L1) (P2:Part H u2 L2) (h1:L1.all one=true) (h2:L2.all one=true) (s1:aO H.next L1=true) (s2:aO H.next L2=true) (hb:bk H b=some ⟨58,false,o.cells⟩) (hbl:b<H.next)
  (k:Nat) (hk:o.n=(k:Int)) (hk0:0<k) (hk1:k<=L1.length) (h2l:L2.length=k) (hl:L1.length<=1000) :
  br Tryz.prog 134 [u1,u2,.pointer (some ⟨b,0,none⟩)] H (.ok (.slice (some ⟨H.next,0,none⟩) L1.length L1.length)) (ext H [⟨56,true,vu true L1 L2 k⟩]):=by
 obtain⟨x,hx⟩:=Go.Ax.bP H.next
 obtain⟨u3,hsl,P3,_⟩:=P1.slice (by intro e; rw[e]at hk1; simp at hk1; omega) (x:=some (.int .i64 (k:Int))) (y:=none) (lo:=k) (hi:=L1.length) (by simp[bound]) rfl hk1 (zA8 _)
 rw[List.take_length]at P3
 have hmid:vu true L1 L2 k=[(u3,L1.drop k),(u2,L2)].flatMap Prod.snd:=by simp[vu]
 refine jd (fun wf hsc=>?_) (fun _ _=>?_)
 ·rw[hx]
  rw[hx]at hbl
  have hok:H.base<=H.next:=wf.base
  have sc1:=P3.sc
  have sc2:=P2.sc
  have tw:=Pt H u3 u2 (L1.drop k) L2 L1.length x hx P3 P2 (one_sub h1 fun v hv=>zF9 hv) h2 (iJ s1 fun v hv=>zF9 hv) s2 (by simp only[zB4,zD8]; omega) (by omega) (by omega)
  rw[hx]at sc1 sc2
  obtain⟨a3,c3,e3⟩:=P3.len
  obtain⟨a2,c2,e2⟩:=P2.len
  subst e3 e2
  refine aG mixed Tryz.func134 rfl Tryz.ntmps134 (zA6 rfl) ?_
  simp only[hx,hbl,hb,Op.cells,hk,hsl (ext H []) (fun _ _=>rfl),sc1,sc2,zW,seval]
  refine tw.to ?_
  simp only[Tryz.results134,zW,seval]
  exact⟨x+1,rfl,by omega,by rw[bu hx (by simp)]; rfl,Mod.ext hok⟩
 ·exact cB (iJ s1 fun v hv=>zF9 hv) s2
theorem Jt (H:aa) (u1 u2:Value) (L1 L2:List Value) (b:Nat) (o:Op) (P1:Part H u1 L1) (P2:Part H u2 L2) (h1:L1.all one=true) (h2:L2.all one=true) (s1:aO H.next L1=true) (s2:aO H.next L2=true) (hb:bk H b=some ⟨58,false,o.cells⟩) (hbl:b<H.next)
  (k:Nat) (hk:o.n=(k:Int)) (hk0:0<k) (hk1:k<=L1.length) (h2l:L2.length=k) (hl:L1.length<=1000) :
  br Tryz.prog 136 [u1,u2,.pointer (some ⟨b,0,none⟩)] H (.ok (.slice (some ⟨H.next,0,none⟩) L1.length L1.length)) (ext H [⟨56,true,vu false L1 L2 k⟩]):=by
 obtain⟨x,hx⟩:=Go.Ax.bP H.next
 obtain⟨u3,hsl,P3,_⟩:=P1.slice (by intro e; rw[e]at hk1; simp at hk1; omega) (x:=none) (y:=some (.int .i64 ((L1.length-k:Nat):Int))) (lo:=0) (hi:=L1.length-k) rfl (by simp only[bound]; rw[if_pos (by omega)]; simp) (zB7 _) (by omega)
 rw[zD1]at P3
 have hwr:IntKind.i64.wrap ((L1.length:Int)-(k:Int))=((L1.length-k:Nat):Int):=(aQ (by omega) (by omega)).trans (by omega)
 have hmid:vu false L1 L2 k=[(u2,L2),(u3,L1.take (L1.length-k))].flatMap Prod.snd:=by simp[vu]
 refine jd (fun wf hsc=>?_) (fun _ _=>?_)
 ·rw[hx]
  rw[hx]at hbl
  have hok:H.base<=H.next:=wf.base
  have sc1:=P3.sc
  have sc2:=P2.sc
  have tw:=Pt H u2 u3 L2 (L1.take (L1.length-k)) L1.length x hx P2 P3 h2 (one_sub h1 fun v hv=>zF6 hv) s2 (iJ s1 fun v hv=>zF6 hv) (by simp only[zB4,List.length_take]; omega) (by omega) (by omega)
  rw[hx]at sc1 sc2
  obtain⟨a1,c1,e1⟩:=P1.len
  obtain⟨a3,c3,e3⟩:=P3.len
  obtain⟨a2,c2,e2⟩:=P2.len
  subst e1 e3 e2
  refine aG mixed Tryz.func136 rfl Tryz.ntmps136 (zA6 rfl) ?_
  simp only[hx,hbl,hb,Op.cells,hk,hwr,hsl (ext H []) (fun _ _=>rfl),sc1,sc2,zW,seval]
  refine tw.to ?_
  simp only[Tryz.results136,zW,seval]
  exact⟨x+1,rfl,by omega,by rw[bu hx (by simp)]; rfl,Mod.ext hok⟩
 ·exact cB s2 (iJ s1 fun v hv=>zF6 hv)
def St.fN (W:Nat) (x:St) (o:Op) (up:Bool):Option St :=
 if (decide (0<=o.row)&&decide (o.row<=o.col)&&decide (o.col<x.ah.length)&&decide (1<=o.n)&&decide (o.n<=o.col-o.row+1))=true then
   some {x with ah:=xh W x.ah o.row.toNat o.col.toNat o.n.toNat up} else none
theorem Ad (N:Nat) (H:aa) (p W:Nat) (v:Value) (rvs:List Value) (x:St) (o:Op) (up:Bool) (f b0:Nat) (hb:aF Tryz.prog f=true) (a:cT 83 N H p v rvs x) (sl:Cv v) (hok:H.base<=H.next) (ok:x.Ok W)
  (ho:bk H b0=some ⟨58,false,o.cells⟩) (hob:b0<H.next)
  (hf:∀ (G:aa) (u1 u2:Value) (L1 L2:List Value),Part G u1 L1->Part G u2 L2->L1.all one=true->L2.all one=true->aO G.next L1=true->aO G.next L2=true->bk G b0=some ⟨58,false,o.cells⟩->b0<G.next ->
   ∀ k:Nat,o.n=(k:Int)->0<k->k<=L1.length->L2.length=k->L1.length<=1000->br Tryz.prog f [u1,u2,.pointer (some ⟨b0,0,none⟩)] G (.ok (.slice (some ⟨G.next,0,none⟩) L1.length L1.length)) (ext G [⟨56,true,vu up L1 L2 k⟩])) :
  bF Tryz.prog 133 [.pointer (some ⟨p,0,none⟩),o.val,.func (.func f) ⟨[]⟩ ⟨[.pointer (some ⟨b0,0,none⟩)]⟩] H (j7 83 N p (x.fN W o up) H):=by
 obtain⟨b,hbn⟩:=Go.Ax.bP H.next
 have hpl:=a.lt
 rw[hbn]at hpl hob
 have hcell:=a.cell
 simp only[St.cells]at hcell
 have m0:Mod [] H (ext H [⟨58,false,o.cells⟩]):=Mod.ext hok
 have aX:=a.p8 m0
 obtain⟨d1,h1⟩:∃ d,decide (0<=o.row)=d:=⟨_,rfl⟩
 obtain⟨d2,h2⟩:∃ d,decide (o.row<=o.col)=d:=⟨_,rfl⟩
 obtain⟨d3,h3⟩:∃ d,decide (o.col<x.ah.length)=d:=⟨_,rfl⟩
 obtain⟨d4,h4⟩:∃ d,decide (1<=o.n)=d:=⟨_,rfl⟩
 obtain⟨d5,h5⟩:∃ d,decide (o.n<=o.col-o.row+1)=d:=⟨_,rfl⟩
 obtain⟨mb,hb',ev⟩:=id sl
 have ehb:hb'=x.ah.length:=by
  rcases aX.own.at_ with⟨h,_⟩|⟨_,_,_,_,h,_⟩
  ·have:=ok.h1; rw[h]at this; simp at this
  ·rw[ev]at h; cases h; rfl
 subst ehb
 unfold St.fN
 rw[h1,h2,h3,h4,h5]
 refine aG mixed Tryz.func133 rfl Tryz.ntmps133 (zA6 rfl) ?_
 simp only[Op.val,Op.cells,hbn,zW,seval]
 by_cases hall:(d1&&d2&&d3&&d4&&d5)=true
 ·rw[if_pos hall]
  simp only[zA4]at hall
  obtain⟨⟨⟨⟨rfl,rfl⟩,rfl⟩,rfl⟩,rfl⟩:=hall
  have i1:=of_decide_eq_true h1
  have i2:=of_decide_eq_true h2
  have i3:=of_decide_eq_true h3
  have i4:=of_decide_eq_true h4
  have i5:=of_decide_eq_true h5
  have hh:=ok.h2
  have hw1:IntKind.i64.wrap (o.col-o.row)=o.col-o.row:=aQ (by omega) (by omega)
  have hw2:IntKind.i64.wrap (o.col-o.row+1)=o.col-o.row+1:=aQ (by omega) (by omega)
  rw[ev]at hcell
  refine bf [] [(3,10),(10,17),(21,28),(26,33)] (by kernel_rfl) rfl (by kernel_rfl) fun ops anc hA hG=>?_
  simp only[aw]at hG
  simp only[hbn,hpl,hcell,h1,h2,h3,h4,h5,hw1,hw2,hG,b9,zW,seval]
  refine bx (v:=.tuple ⟨[]⟩) [] rfl rfl (zA6 rfl) (by simp) (fun G hn hg=>nE G) (by simp[cQ]) ?_
  simp only[hbn,b9,zW,seval]
  refine eT fun E hE=>?_
  have g0:E 0=.pointer (some ⟨p,0,none⟩):=by rw[hE]; rfl
  have g2:E 2=.func (.func f) ⟨[]⟩ ⟨[.pointer (some ⟨b0,0,none⟩)]⟩:=by rw[hE]; rfl
  have g4:E 4=.pointer (some ⟨b+0,0,none⟩):=by rw[hE]; rfl
  have g6:E 6=.slice none 0 0:=by rw[hE]; rfl
  have g46:E 46=.int .i64 o.n:=by rw[hE]; rfl
  have g47:E 47=.int .i64 ((0:Nat):Int):=by rw[hE]; rfl
  clear hE
  obtain⟨X,hX⟩:=Go.Ax.bP (ext H [⟨58,false,o.cells⟩])
  have hXo:bk X (b+0)=some ⟨58,false,o.cells⟩:=by rw[<-hX,bu hbn (by simp)]; rfl
  have hXn:X.next=b+1:=by rw[<-hX,ai,hbn]; rfl
  have hXb:bk X b0=some ⟨58,false,o.cells⟩:=(m0.bk (by omega) (by simp)).trans ho |> fun h=>by rw[<-hX]; exact h
  rw[show ext H [⟨58,false,o.cells⟩]=X from hX]at aX m0
  simp only[Op.cells]at hX
  rw[hX]
  have okX:=m0.ok hok
  obtain⟨n,hn'⟩:∃ n:Nat,o.n=n:=⟨o.n.toNat,by omega⟩
  rw[hn']at g46
  refine bE (fun E' Y=>Mod [] X Y/\E' 0=.pointer (some ⟨p,0,none⟩)/\E' 2=.func (.func f) ⟨[]⟩ ⟨[.pointer (some ⟨b0,0,none⟩)]⟩/\E' 4=.pointer (some ⟨b+0,0,none⟩)/\∃ u fr,E' 6=u/\Grow (b+1) Y u fr (List.replicate n (List.replicate W Ce.sp))) ?_ ?_
  ·rw[show X=ext X [] from rfl]
   refine cU (fun (q:Nat × Value × List Value) E' Y=>Mod [] X Y/\E' 0=.pointer (some ⟨p,0,none⟩)/\E' 2=.func (.func f) ⟨[]⟩ ⟨[.pointer (some ⟨b0,0,none⟩)]⟩/\E' 4=.pointer (some ⟨b+0,0,none⟩)/\E' 6=q.2.1/\E' 46=.int .i64 (n:Int)/\E' 47=.int .i64 (q.1:Int)/\q.1<=n/\Grow (b+1) Y q.2.1 q.2.2 (List.replicate q.1 (List.replicate W Ce.sp))) (fun q=>n-q.1) (0,.slice none 0 0,[])
    ⟨Mod.refl,g0,g2,g4,g6,g46,g47,zB7 _,Grow.nil⟩ ?_
   clear g0 g2 g4 g6 g46 g47
   rintro⟨k,u,fr⟩ E Y ⟨mY,g0,g2,g4,g6,g46,g47,hk,gr⟩
   simp only at g6 g47 hk gr
   rw[show Y=ext Y [] from rfl]
   by_cases hkn:k=n
   ·have hc:decide ((k:Int)<(n:Int))=false:=by simp[hkn]
    simp only[g46,g47,hc,zW,seval]
    rw[hkn]at gr
    exact aj ⟨mY,by simp only[g0,aW,seval],by simp only[g2,aW,seval],by simp only[g4,aW,seval],u,fr,by simp only[g6,aW,seval],gr⟩
   ·have hc:decide ((k:Int)<(n:Int))=true:=decide_eq_true (by omega)
    have okY:=mY.ok okX
    have aY:=aX.p8 mY
    obtain⟨_,_,_,_,hwd⟩:=mP aY ok
    have hwY:br Tryz.prog 40 [.pointer (some ⟨p,0,none⟩)] (ext Y []) (.ok (.int .i64 W)) (ext Y []):=hwd Y rfl (fun _ _=>rfl)
    obtain⟨y,hy⟩:=Go.Ax.bP Y.next
    have hby:b+1<=y:=by have:=mY.next; omega
    obtain⟨rv,hrv⟩:∃ rv,rv=Value.slice (some ⟨y+0,0,some 0⟩) W W:=⟨_,rfl⟩
    obtain⟨Y2,hY2⟩:=Go.Ax.bP (ext Y [⟨77,false,aN (List.replicate W Ce.sp)⟩,⟨56,false,[rv]⟩])
    have mY2:Mod [] Y Y2:=hY2▸Mod.ext okY
    have nY2:Y2.next=y+2:=by rw[<-hY2,ai,hy]; rfl
    have b1:bk Y2 (y+0)=some ⟨77,false,aN (List.replicate W Ce.sp)⟩:=by rw[<-hY2,bu hy (by simp)]; rfl
    have b2:bk Y2 (y+1)=some ⟨56,false,[rv]⟩:=by rw[<-hY2,bu hy (by simp)]; rfl
    have hone:one rv=true:=by rw[hrv]; rfl
    have hlr:(List.replicate k (List.replicate W Ce.sp)).length=k:=zE4
    have vs:=gr.at_.of (G:=Y2) mY2.next (fun q hq=>mY2.get q (gr.at_.ne q hq).2 (by simp))
    rw[hlr]at vs
    have hscr:aO Y2.next (fr++[rv])=true:=cB (dN mY2.next _ gr.sc) (by rw[hrv]; simp only[aO,aS,Bool.and_true]; exact a8 (by omega))
    obtain⟨Z,hap,hvs,hmd,hzn,_⟩:=ta (P:=Tryz.prog) (H:=Y2) (st:=39) (xt:=39) (e:=56) (sz:=1) (by1:=24) (z:=.slice none 0 0) (n:=y+1) (off:=0) (cnt2:=1) (cap:=1) (s:=some 0) (x:=Y2.next) (ws:=[rv]) (b:=⟨56,false,[rv]⟩)
     zv rB B8 zr rfl (by kernel_rfl) vs (jR b2) (by simp) rfl (by simp[hone]) (by decide) (F7 (by omega)) rfl hscr
    have mZ:=hmd (mY2.ok okY)
    rw[nY2]at hap hvs hzn
    have hbz:bk Z (y+2)=some ⟨56,true,fr++[rv]⟩:=by
     obtain⟨_,_,⟨h0,_⟩|⟨_,n,e,hbn,_⟩⟩:=hvs
     ·omega
     ·cases e; exact hbn
    have gr2:=gr.push (rv:=rv) (l:=List.replicate W Ce.sp) (Y:=Y2) (Z:=Z) mY2 (by omega) ⟨y+0,false,0,false,by rw[hrv,zE4]; rfl,b1,by omega,by omega⟩ (fun q hq=>by rw[hrv]at hq; simp only[ae,zA5]at hq; omega) hone mZ (by rw[nY2]; exact hbz) (by omega)
    rw[nY2,hlr,show List.replicate k (List.replicate W Ce.sp)++[List.replicate W Ce.sp]=List.replicate (k+1) (List.replicate W Ce.sp) from (List.replicate_succ' ..).symm]at gr2
    simp only[g0,g6,g46,g47,hc,zW,seval]
    refine hwY.to ?_
    simp only[zW,seval]
    refine (Kf (ext Y []) W ok.w1 ok.w2).to ?_
    simp only[hy,zW,seval]
    rw[hrv]at hY2
    rw[hY2]
    simp only[hap,g47,bO (show k<1000000 by omega),zW,seval]
    refine aM ⟨(k+1,.slice (some ⟨y+2,0,none⟩) (k+1) (k+1),fr++[rv]),by simp only; omega,(mY.trans mY2).step mZ okX (fun q hq=>.inr (by have:=(gr.apart q hq).1; omega)),?_,?_,?_,?_,?_,?_,by simp only; omega,gr2⟩
    ·exact g0
    ·exact g2
    ·exact g4
    ·rfl
    ·exact g46
    ·rfl
  ·clear g0 g2 g4 g6 g46 g47
   rintro E Y ⟨mY,g0,g2,g4,u,fr,g6,gr⟩
   have okY:=mY.ok okX
   have aY:=aX.p8 mY
   obtain⟨y,hy⟩:=Go.Ax.bP Y.next
   have hyb:Y.base<=y:=hy▸okY
   have hby:b+1<=y:=by have:=mY.next; omega
   have hpY:p<y:=by omega
   have hboY:b+0<y:=by omega
   have hb0Y:b0<y:=by omega
   have kp:=aY.cell
   simp only[St.cells]at kp
   rw[ev]at kp
   have kb:bk Y (b+0)=some ⟨58,false,o.cells⟩:=(mY.bk (by omega) (by simp)).trans hXo
   have kb0:bk Y b0=some ⟨58,false,o.cells⟩:=(mY.bk (by omega) (by simp)).trans hXb
   obtain⟨om,hbm,hmy⟩:∃ om,bk Y mb=some ⟨56,om,rvs⟩/\mb<y:=by
    rcases aY.own.at_ with⟨h,_⟩|⟨m,s,c,om,e,h1,_,h2,_⟩
    ·rw[h]at i3; simp at i3; omega
    ·rw[ev]at e; cases e; exact⟨om,h1,by omega⟩
   have hmp:mb≠p:=fun e=>a.apart (List.mem_append_left _ (by rw[ev,e]; simp[ae]))
   have hlr:rvs.length=x.ah.length:=a.own.len
   obtain⟨top,htop⟩:∃ k:Nat,o.row=k:=⟨o.row.toNat,by omega⟩
   obtain⟨bot,hbot⟩:∃ k:Nat,o.col=k:=⟨o.col.toNat,by omega⟩
   have hvone:rvs.all one=true:=zC6.2 fun rv hrv=>by
    obtain⟨i,hi⟩:=List.getElem?_of_mem hrv
    obtain⟨l,_,n,s,c,o',rfl,_⟩:=aY.own.RL hi
    rfl
   have hvsc:aO Y.next rvs=true:=bL.2 fun rv hrv=>by
    obtain⟨i,hi⟩:=List.getElem?_of_mem hrv
    obtain⟨l,_,n,s,c,o',rfl,_,_,h⟩:=aY.own.RL hi
    exact a8 h
   have cR:rvs≠[]:=fun e=>by rw[e]at hlr; simp at hlr; omega
   have PV:Part Y v rvs:=⟨some ⟨mb,0,none⟩,x.ah.length,by rw[ev,hlr],by rw[ev]; exact a8 (show mb<Y.next by omega),.inr ⟨Nat.le_of_eq hlr,mb,0,none,_,rfl,.inl rfl,hbm,by omega,by simp,by simp⟩⟩
   obtain⟨uA,slA,PA,iA⟩:=PV.slice cR (x:=none) (y:=some (.int .i64 (top:Int))) (lo:=0) (hi:=top) rfl (by simp[bound]) (zB7 _) (by omega)
   obtain⟨uB,slB,PB,iB⟩:=PV.slice cR (x:=some (.int .i64 (top:Int))) (y:=some (.int .i64 ((bot+1:Nat):Int))) (lo:=top) (hi:=bot+1) (by simp[bound]) (by simp only[bound]; rw[if_pos (by omega)]; simp) (by omega) (by omega)
   obtain⟨uC,RK,PC,iC⟩:=PV.slice cR (x:=some (.int .i64 ((bot+1:Nat):Int))) (y:=none) (lo:=bot+1) (hi:=rvs.length) (by simp only[bound]; rw[if_pos (by omega)]; simp) rfl (by omega) (zA8 _)
   rw[zD1]at PA
   rw[List.take_length]at PC
   rw[show (rvs.take (bot+1)).drop top=part rvs top bot from rfl]at PB
   have hwb:IntKind.i64.wrap ((bot:Int)+1)=((bot+1:Nat):Int):=bO (by omega)
   rw[ev]at slA slB RK iA iB iC
   have iv:ae (.slice (some ⟨mb,0,none⟩) x.ah.length x.ah.length)=[mb]:=rfl
   rw[iv]at iA iB iC
   have hgl:(List.replicate n (List.replicate W Ce.sp)).length=n:=zE4
   obtain⟨hu1,hu2,⟨hu0,_⟩|⟨hu0,nu,eu,kbu,hnu⟩⟩:=gr.at_
   ·omega
   rw[hgl]at eu hu1
   subst eu
   have PU:Part Y (.slice (some ⟨nu,0,none⟩) n n) fr:=⟨_,_,by rw[show fr.length=n by omega],a8 hnu,.inr ⟨by omega,nu,0,none,_,rfl,.inl rfl,kbu,hnu,by simp,by simp⟩⟩
   have hplen:=wF (g:=rvs) (top:=top) (bot:=bot) (by omega)
   rw[show Y=ext Y [] from rfl]
   refine bf [(32,8),(32,22),(32,31),(33,32),(33,22),(37,5),(37,8),(37,14),(37,20),(37,22),(37,27),(37,31),(37,32),(37,33)] [] (by kernel_rfl) (by kernel_rfl) rfl fun ops anc hA hG=>?_
   simp only[aw]at hA
   simp only[htop,hbot,Op.cells]at kb
   simp only[g0,g4,hy,hpY,hboY,kp,kb,ph,b9,zW,seval]
   have hF1:∀ q∈[mb],(ext Y []).get q≠none:=fun q hq=>by rw[zA5.1 hq]; exact dT hbm
   refine Cs (v:=uA) [mb] rfl rfl rfl rfl (zA6 rfl) hF1 (fun G hG=>by simp only[jj,jk,aW,seval]; exact slA G (fun q hq=>hG q hq)) (by simp[cQ]) ?_
   simp only[g0,g2,g4,hy,hpY,hboY,kp,kb,hwb,ph,b9,zW,seval]
   refine Cs (v:=uB) [mb] rfl rfl rfl rfl (zA6 rfl) hF1 (fun G hG=>by simp only[jj,jk,aW,seval]; exact slB G (fun q hq=>hG q hq)) (by simp[cQ]) ?_
   simp only[g6,hy,b9,zW,seval]
   have hfr1:fr.all one=true:=hu2
   have hF2:∀ q∈[mb,nu,b0],(ext Y []).get q≠none:=fun q hq=>by
    simp only[zA7,zD2,or_false]at hq
    rcases hq with rfl|rfl|rfl
    ·exact dT hbm
    ·exact dT kbu
    ·exact dT kb0
   obtain⟨lb,hlb⟩:=Go.Ax.bP ((part rvs top bot).length)
   refine I8 (f:=f) (v:=.slice (some ⟨y,0,none⟩) lb lb) (M:=[⟨56,true,vu up (part rvs top bot) fr n⟩]) (ca:=[.pointer (some ⟨b0,0,none⟩)]) [mb,nu,b0] rfl rfl rfl hb (zA6 rfl) hF2 (fun G hn hG=>?_) (by simp[cQ]) ?_
   ·replace hn:G.next=Y.next:=hn
    have:=hf G uB (.slice (some ⟨nu,0,none⟩) n n) (part rvs top bot) fr (PB.of (by omega) fun q hq=>hG q (by have:=iB q hq; simp only[zA5]at this; simp[this])) (PU.of (by omega) fun q hq=>hG q (by simp only[ae,zA5]at hq; simp[hq])) (one_sub hvone fun z hz=>zF6 (zF9 hz)) hfr1 (by rw[hn]; exact iJ hvsc fun z hz=>zF6 (zF9 hz)) (by rw[hn]; exact gr.sc) ((bg (hG b0 (by simp))).trans kb0) (by omega) n hn' (by omega) (by omega) (by omega) (by omega)
    rw[hlb,hn,hy]at this
    simp only[aW,seval]
    exact this
   simp only[g0,g4,hy,hpY,hboY,kp,kb,hwb,ph,b9,zW,seval]
   refine⟨.inr (fun q hq=>by simp only[ae,zA5]at hq; omega),?_⟩
   have hmb1:(ext Y [⟨56,true,vu up (part rvs top bot) fr n⟩]).get mb=Y.get mb:=bK (by omega)
   have hF3:∀ q∈[mb],(ext Y [⟨56,true,vu up (part rvs top bot) fr n⟩]).get q≠none:=fun q hq=>by rw[zA5.1 hq,hmb1]; exact dT hbm
   refine Cs (v:=uC) [mb] rfl rfl rfl rfl (zA6 rfl) hF3 (fun G hG=>by simp only[jj,jk,aW,seval]; exact RK G (fun q hq=>by rw[hG q hq,zA5.1 hq,hmb1])) ?_ ?_
   ·simp only[yg,re,lB,xv,and_true,implies_true,zA5,List.flatMap_nil,zD0]
    refine⟨.inr (by simp),.inr (by simp),.inr ⟨by simp,trivial,fun _=>⟨fun q hq=>.inl (by omega),fun q hq=>.inl (by have:=iC q hq; simp only[zA5]at this; omega)⟩⟩,?_⟩
    simp[cQ]
   obtain⟨aA,cA,eA⟩:=PA.len
   obtain⟨aC,cC,eC⟩:=PC.len
   have ic:=PA.sc
   have scC:=PC.sc
   rw[hy]at ic scC
   have iA':=iA
   have iC':=iC
   rw[eA]at ic iA'
   rw[eC]at scC iC'
   have hy01:y<y+1:=zD9 y
   simp only[hy,eA,eC,ic,scC,hy01,hA,b9,zW,seval]
   rw[<-eA,<-eC]
   have hmidl:(vu up (part rvs top bot) fr n).length=lb:=by rw[HT (by omega) (by omega),hlb]
   have hgln:(glue up rvs fr top bot n).length=x.ah.length:=by rw[mR (by omega) (by omega) (by omega) (by omega),hlr]
   obtain⟨Y3,hY3⟩:=Go.Ax.bP (ext Y [⟨56,true,vu up (part rvs top bot) fr n⟩,⟨39,false,[uA,.slice (some ⟨y,0,none⟩) lb lb,uC]⟩])
   have mY3:Mod [] Y Y3:=hY3▸Mod.ext okY
   have nY3:Y3.next=y+2:=by rw[<-hY3,ai,hy]; rfl
   have q0:bk Y3 (y+0)=some ⟨56,true,vu up (part rvs top bot) fr n⟩:=by rw[<-hY3,bu hy (by simp)]; rfl
   have q1:bk Y3 (y+1)=some ⟨39,false,[uA,.slice (some ⟨y,0,none⟩) lb lb,uC]⟩:=by rw[<-hY3,bu hy (by simp)]; rfl
   have qm:Y3.get mb=Y.get mb:=mY3.get mb (by omega) (by simp)
   rw[hY3]
   have hF4:∀ q∈[y+1,mb,y+0],Y3.get q≠none:=fun q hq=>by
    simp only[zA7,zD2,or_false]at hq
    rcases hq with rfl|rfl|rfl
    ·exact dT q1
    ·rw[qm]; exact dT hbm
    ·exact dT q0
   have hmone:(vu up (part rvs top bot) fr n).all one=true:=zC6.2 fun z hz=>by
    rcases Cm hz with h|h
    ·exact zC6.1 hvone z (zF6 (zF9 h))
    ·exact zC6.1 hfr1 z h
   have hmsc:aO Y.next (vu up (part rvs top bot) fr n)=true:=bL.2 fun z hz=>by
    rcases Cm hz with h|h
    ·exact bL.1 hvsc z (zF6 (zF9 h))
    ·exact bL.1 gr.sc z h
   refine sw (H:=Y3) (v:=.slice (some ⟨y+2,0,none⟩) x.ah.length x.ah.length) (M:=[⟨56,true,glue up rvs fr top bot n⟩]) [y+1,mb,y+0] rfl (by kernel_rfl) (zA6 rfl) hF4 (fun G hn hG=>?_) ?_ ?_
   ·have hGn:G.next=y+2:=by rw[hn,nY3]
    have hP:∀ z∈[(uA,rvs.take top),(Value.slice (some ⟨y,0,none⟩) lb lb,vu up (part rvs top bot) fr n),(uC,rvs.drop (bot+1))],Part G z.1 z.2/\z.2.all one=true/\aO G.next z.2=true:=fun z hz=>by
     have hle:Y.next<=G.next:=by omega
     simp only[zA7,zD2,or_false]at hz
     rcases hz with rfl|rfl|rfl
     ·exact⟨PA.of hle fun q hq=>by have:=iA q hq; simp only[zA5]at this; rw[hG q (by simp[this]),this,qm],one_sub hvone fun z hz=>zF6 hz,dN hle _ (iJ hvsc fun z hz=>zF6 hz)⟩
     ·refine⟨⟨some ⟨y,0,none⟩,lb,by rw[hmidl],a8 (show y<G.next by omega),.inr ⟨Nat.le_of_eq hmidl,y,0,none,_,rfl,.inl rfl,(bg (hG (y+0) (by simp))).trans q0,by omega,by simp,by simp⟩⟩,hmone,dN hle _ hmsc⟩
     ·exact⟨PC.of hle fun q hq=>by have:=iC q hq; simp only[zA5]at this; rw[hG q (by simp[this]),this,qm],one_sub hvone fun z hz=>zF9 hz,dN hle _ (iJ hvsc fun z hz=>zF9 hz)⟩
    have:=C1 G (y+1) (some 0) 3 39 false [(uA,rvs.take top),(Value.slice (some ⟨y,0,none⟩) lb lb,vu up (part rvs top bot) fr n),(uC,rvs.drop (bot+1))] x.ah.length ((bg (hG (y+1) (by simp))).trans q1) (by omega) hP (by simp only[List.flatMap_cons,List.flatMap_nil,zD0]; rw[<-zD3]; exact hgln) (by omega) (by omega) (by simp)
    rw[hGn]at this
    simp only[List.flatMap_cons,List.flatMap_nil,zD0]at this
    rw[<-zD3]at this
    simp only[aW]
    exact this
   ·simp only[yg,re,lB,hA,true_or,true_and]
    simp
   have mpY3:bk Y3 p=_:=(mY3.bk (by omega) (by simp)).trans kp
   have hp3:p<y+2:=by omega
   have hlt2:y+2<y+3:=zD9 _
   simp only[nY3,mpY3,hp3,hlt2,hA,b9,zW,seval]
   refine⟨⟨.inr (.inl (by omega)),.inr (.inl (by omega))⟩,⟨.inr (.inl (by omega)),.inr (.inl (by omega))⟩,⟨.inr (.inl (by omega)),.inr (.inl (by omega))⟩,by omega,⟨.inr (by omega),.inr (by omega),.inr (by omega),.inr (by omega)⟩,?_⟩
   simp only[Tryz.results133,lh]
   have okY3:=mY3.ok okY
   have mZ1:Mod [] Y (ext Y3 [⟨56,true,glue up rvs fr top bot n⟩]):=mY3.trans (Mod.ext okY3)
   have kz1:bk (ext Y3 [⟨56,true,glue up rvs fr top bot n⟩]) (y+2)=some ⟨56,true,glue up rvs fr top bot n⟩:=by
    rw[show y+2=y+2+0 from rfl,bu nY3 (by simp)]; rfl
   have nz1:(ext Y3 [⟨56,true,glue up rvs fr top bot n⟩]).next=y+3:=by rw[ai,nY3]; rfl
   have og:=aX.own.glue (gr:=hXn.symm▸gr) (m:=mY) (m2:=mZ1.mono (by simp)) (N:=N) (up:=up) (top:=top) (bot:=bot) (n:=n) (y:=y+2) (by have:=a.lo; omega) (by omega) (by omega) (by omega) hgl kz1 (by omega) (by omega)
   have mW:Mod [p] Y3 (ext (uw Y3 p 0 [Value.slice (some ⟨y+2,0,none⟩) x.ah.length x.ah.length]) [⟨56,true,glue up rvs fr top bot n⟩]):=by
    have m1:Mod [p] Y3 (uw Y3 p 0 [Value.slice (some ⟨y+2,0,none⟩) x.ah.length x.ah.length]):=Mod.uw (by simp)
    exact m1.trans (Mod.ext (m1.ok okY3))
   have kz:bk (ext (uw Y3 p 0 [Value.slice (some ⟨y+2,0,none⟩) x.ah.length x.ah.length]) [⟨56,true,glue up rvs fr top bot n⟩]) (y+2)=some ⟨56,true,glue up rvs fr top bot n⟩:=by
    rw[show y+2=y+2+0 from rfl,bu (by rw[b6,nY3]) (by simp)]; rfl
   have kzp:bk (ext (uw Y3 p 0 [Value.slice (some ⟨y+2,0,none⟩) x.ah.length x.ah.length]) [⟨56,true,glue up rvs fr top bot n⟩]) p=some ⟨83,false,St.cells {x with ah:=glue up x.ah (List.replicate n (List.replicate W Ce.sp)) top bot n} (.slice (some ⟨y+2,0,none⟩) x.ah.length x.ah.length)⟩:=by
    rw[iN (by rw[b6]; omega),bR,mpY3]; rfl
   have nz:(ext (uw Y3 p 0 [Value.slice (some ⟨y+2,0,none⟩) x.ah.length x.ah.length]) [⟨56,true,glue up rvs fr top bot n⟩]).next=y+3:=by rw[ai,b6,nY3]; rfl
   generalize ext (uw Y3 p 0 [Value.slice (some ⟨y+2,0,none⟩) x.ah.length x.ah.length]) [⟨56,true,glue up rvs fr top bot n⟩]=Z at mW kz kzp nz ⊢
   have hids:∀ q∈(glue up rvs fr top bot n).flatMap ae,q≠p/\q<y:=fun q hq=>by
    obtain⟨rv,h4,h5⟩:=zE2.1 hq
    rcases sa h4 with h6|h6
    ·have h7:=zE2.2 ⟨rv,h6,h5⟩
     have:=(aY.own.ids q h7).2.1
     exact⟨fun e=>a.apart (List.mem_append_right _ (e▸h7)),by omega⟩
    ·have h7:=gr.ids q (zE2.2 ⟨rv,h6,h5⟩)
     exact⟨by omega,by omega⟩
   rw[htop,hbot,hn',zG6,zG6,zG6,Ak]
   refine⟨(ei.of (Ws:=[]) ((m0.trans mY).trans mY3) (by simp)).trans (ei.of mW (aY.p8 mY3).pN),rfl,.slice (some ⟨y+2,0,none⟩) x.ah.length x.ah.length,glue up rvs fr top bot n,⟨_,_,rfl⟩,kzp,?_,?_,by omega,a.lo⟩
   ·have hgg:(glue up x.ah (List.replicate n (List.replicate W Ce.sp)) top bot n).length=x.ah.length:=mR (by omega) (by omega) (by omega) hgl
    refine⟨og.len,.inr ⟨y+2,none,x.ah.length,true,by rw[hgg],kz,by have:=a.lo; omega,by omega,fun h=>by have:=(hids _ h).2; omega⟩,fun i rv l h4 h5=>?_,og.nd⟩
    have h6:=og.row i rv l h4 h5
    refine h6.of (by omega) fun q hq=>?_
    have h7:=hids q (zE2.2 ⟨rv,zB9 h4,hq⟩)
    rw[mW.get q (by omega) (by simpa using h7.1),bK (by omega)]
   ·intro h
    rcases zB2.1 h with h|h
    ·simp only[ae,zA5]at h; omega
    ·exact (hids p h).1 rfl
 ·rw[if_neg hall]
  rw[ev]at hcell
  have fin:j7 83 N p none H (.error [eR]) (ext H [⟨58,false,o.cells⟩]):=⟨ei.of (Ws:=[]) m0 (by simp),rfl⟩
  have hs:d1=false\/(d1=true/\d2=false)\/(d1=true/\d2=true/\d3=false)\/(d1=true/\d2=true/\d3=true/\d4=false)\/(d1=true/\d2=true/\d3=true/\d4=true/\d5=false):=by
   cases d1<;>cases d2<;>cases d3<;>cases d4<;>cases d5<;>simp_all
  have hh:=ok.h2
  rcases hs with rfl|⟨rfl,rfl⟩|⟨rfl,rfl,rfl⟩|⟨rfl,rfl,rfl,rfl⟩|⟨rfl,rfl,rfl,rfl,rfl⟩
  ·refine iV [] [(3,10),(10,17),(21,28),(26,33)] (by kernel_rfl) (by kernel_rfl) rfl (by kernel_rfl) (fun ops anc hA hG=>?_) (by simp) ⟨rfl,rfl⟩
   simp only[aw]at hG
   simp only[cD,c7,hbn,h1,hG,b9,zW,seval]
   simp only[dP,eZ,ej,true_and,zW,seval]
   refine br.panics (eL _) ?_
   simp only[cu,cy,bT,dj]
   exact fin
  ·refine iV [] [(3,10),(10,17),(21,28),(26,33)] (by kernel_rfl) (by kernel_rfl) rfl (by kernel_rfl) (fun ops anc hA hG=>?_) (by simp) ⟨rfl,rfl⟩
   simp only[aw]at hG
   simp only[cD,c7,hbn,h1,h2,hG,b9,zW,seval]
   simp only[dP,eZ,ej,true_and,zW,seval]
   refine br.panics (eL _) ?_
   simp only[cu,cy,bT,dj]
   exact fin
  ·refine iV [] [(3,10),(10,17),(21,28),(26,33)] (by kernel_rfl) (by kernel_rfl) rfl (by kernel_rfl) (fun ops anc hA hG=>?_) (by simp) ⟨rfl,rfl⟩
   simp only[aw]at hG
   simp only[cD,c7,hbn,hpl,hcell,h1,h2,h3,hG,b9,zW,seval]
   simp only[dP,eZ,ej,true_and,zW,seval]
   refine br.panics (eL _) ?_
   simp only[cu,cy,bT,dj]
   exact fin
  ·refine iV [] [(3,10),(10,17),(21,28),(26,33)] (by kernel_rfl) (by kernel_rfl) rfl (by kernel_rfl) (fun ops anc hA hG=>?_) (by simp) ⟨rfl,rfl⟩
   simp only[aw]at hG
   simp only[cD,c7,hbn,hpl,hcell,h1,h2,h3,h4,hG,b9,zW,seval]
   simp only[dP,eZ,ej,true_and,zW,seval]
   refine br.panics (eL _) ?_
   simp only[cu,cy,bT,dj]
   exact fin
  ·have i1:=of_decide_eq_true h1
   have i2:=of_decide_eq_true h2
   have i3:=of_decide_eq_true h3
   have hw1:IntKind.i64.wrap (o.col-o.row)=o.col-o.row:=aQ (by omega) (by omega)
   have hw2:IntKind.i64.wrap (o.col-o.row+1)=o.col-o.row+1:=aQ (by omega) (by omega)
   refine iV [] [(3,10),(10,17),(21,28),(26,33)] (by kernel_rfl) (by kernel_rfl) rfl (by kernel_rfl) (fun ops anc hA hG=>?_) (by simp) ⟨rfl,rfl⟩
   simp only[aw]at hG
   simp only[cD,c7,hbn,hpl,hcell,h1,h2,h3,h4,h5,hw1,hw2,hG,b9,zW,seval]
   simp only[dP,eZ,ej,true_and,zW,seval]
   refine br.panics (eL _) ?_
   simp only[cu,cy,bT,dj]
   exact fin
theorem wb (N:Nat) (H:aa) (p W:Nat) (v:Value) (rvs:List Value) (x:St) (o:Op) (a:cT 83 N H p v rvs x) (sl:Cv v) (hok:H.base<=H.next) (ok:x.Ok W) :
  bF Tryz.prog 108 [.pointer (some ⟨p,0,none⟩),o.val] H (j7 83 N p (x.fN W o true) H):=by
 obtain⟨b,hb⟩:=Go.Ax.bP H.next
 have m0:Mod [] H (ext H [⟨58,false,o.cells⟩]):=Mod.ext hok
 have aX:=a.p8 m0
 have hld:bk (ext H [⟨58,false,o.cells⟩]) (b+0)=some ⟨58,false,o.cells⟩:=by rw[bu hb (by simp)]; rfl
 have key:=Ad N (ext H [⟨58,false,o.cells⟩]) p W v rvs x o true 134 (b+0) (by kernel_rfl) aX sl (m0.ok hok) ok hld (by rw[ai,hb]; simp) (fun G u1 u2 L1 L2 P1 P2 q1 q2 s1 s2 hbk hbl k hk hk0 hk1 h2l hl=>JL G u1 u2 L1 L2 (b+0) o P1 P2 q1 q2 s1 s2 hbk hbl k hk hk0 hk1 h2l hl)
 refine aG mixed Tryz.func108 rfl Tryz.ntmps108 (zA6 rfl) ?_
 simp only[Op.val,Op.cells,hb,zW,seval]
 refine key.mono ?_
 rintro out X ⟨mX,ho⟩
 have mX':=(ei.of (Ws:=[]) (N:=N) m0 (by simp)).trans mX
 generalize x.fN W o true=r at ho ⊢
 cases r with
 |none =>
  obtain rfl:=ho
  simp only[cu,bT,dj]
  exact⟨mX',rfl⟩
 |some y =>
  obtain⟨rfl,v',rvs',s',a'⟩:=ho
  rw[show X=ext X [] from rfl]
  simp only[Tryz.results108,lh,seval]
  exact⟨mX',rfl,v',rvs',s',a'⟩
theorem xe (N:Nat) (H:aa) (p W:Nat) (v:Value) (rvs:List Value) (x:St) (o:Op) (a:cT 83 N H p v rvs x) (sl:Cv v) (hok:H.base<=H.next) (ok:x.Ok W) :
  bF Tryz.prog 109 [.pointer (some ⟨p,0,none⟩),o.val] H (j7 83 N p (x.fN W o false) H):=by
 obtain⟨b,hb⟩:=Go.Ax.bP H.next
 have m0:Mod [] H (ext H [⟨58,false,o.cells⟩]):=Mod.ext hok
 have aX:=a.p8 m0
 have hld:bk (ext H [⟨58,false,o.cells⟩]) (b+0)=some ⟨58,false,o.cells⟩:=by rw[bu hb (by simp)]; rfl
 have key:=Ad N (ext H [⟨58,false,o.cells⟩]) p W v rvs x o false 136 (b+0) (by kernel_rfl) aX sl (m0.ok hok) ok hld (by rw[ai,hb]; simp) (fun G u1 u2 L1 L2 P1 P2 q1 q2 s1 s2 hbk hbl k hk hk0 hk1 h2l hl=>Jt G u1 u2 L1 L2 (b+0) o P1 P2 q1 q2 s1 s2 hbk hbl k hk hk0 hk1 h2l hl)
 refine aG mixed Tryz.func109 rfl Tryz.ntmps109 (zA6 rfl) ?_
 simp only[Op.val,Op.cells,hb,zW,seval]
 refine key.mono ?_
 rintro out X ⟨mX,ho⟩
 have mX':=(ei.of (Ws:=[]) (N:=N) m0 (by simp)).trans mX
 generalize x.fN W o false=r at ho ⊢
 cases r with
 |none =>
  obtain rfl:=ho
  simp only[cu,bT,dj]
  exact⟨mX',rfl⟩
 |some y =>
  obtain⟨rfl,v',rvs',s',a'⟩:=ho
  rw[show X=ext X [] from rfl]
  simp only[Tryz.results109,lh,seval]
  exact⟨mX',rfl,v',rvs',s',a'⟩
section
variable {Z : aa} {N : Nat} {E : Env} {ds : List Deferred} {ops : Array Oper} {anc : List Nat} {ty : TypeId} {pos : String} {after : Array Edge} {rest : List Oper} {i d : Nat} {fps : List Fp} {Q : ag -> aa -> Prop} {v u : Value} {vs L : List Value} {cnt : Nat}
end
end Go.Proofs.YtpohjcacnkhnkaaGreatDoor
