/- Parts of the proof, one behind the other. -/
import Derived.Test.YtpohjcacnkhnkaaGreatDoorM7
import Derived.Test.YtpohjcacnkhnkaaGreatDoorM3
import Derived.Test.YtpohjcacnkhnkaaGreatDoorM6
import Derived.Test.YtpohjcacnkhnkaaGreatDoorM4
import Derived.SizedLaws
import Derived.Test.YtpohjcacnkhnkaaGreatDoorRows
import Derived.ProofKit
import Derived.Carry
import Derived.OpenShut
import Derived.LaidMore
import Derived.Lay
set_option linter.all false
set_option maxRecDepth 10000
set_option maxHeartbeats 16000000
open Option renaming some->a9,none->bi
open Bool renaming true->bv,false->ci
open Decidable renaming decide->f7
open Go renaming Value->go,TypeId->io,Program->ip,World->i6,Operand->i7
open Option.some renaming injEq->i8
open Prod.mk renaming injEq->i9
open Go.Value renaming int->jp,pointer->li,slice->lm,bool->ls
open Go.IntKind renaming i64->kw
open And renaming intro -> zA0
open Option renaming bind_eq_bind -> zA1, bind_eq_some_iff -> zA2, bind_some -> zA3, map_some -> zB2, map_eq_some_iff -> zB5, getD_some -> zH9
open Nat renaming le_refl -> zA4, le_of_ble_eq_true -> zA7, zero_le -> zB7, lt_or_ge -> zC0, zero_add -> zC2, le_trans -> zC4, add_zero -> zD5, lt_of_lt_of_le -> zE0, ble_eq -> zE8, mul_one -> zF0, lt_succ_self -> zF3, le_of_eq -> zF6, min -> zF9, add_sub_cancel_left -> zG2, sub_self -> zG8, min_eq_left -> zH0, zero_mul -> zH1
open List renaming mem_singleton -> zA5, mem_cons -> zA8, length_cons -> zA9, getElem?_eq_getElem -> zB0, mem_append -> zB1, length_append -> zB3, length_nil -> zB4, nil_append -> zB6, map_cons -> zB8, mem_cons_of_mem -> zB9, mem_map -> zC1, all_eq_true -> zC3, mem_of_getElem? -> zC5, length_drop -> zC6, append_nil -> zC7, append_assoc -> zC8, getD_eq_getElem?_getD -> zC9, drop_zero -> zD0, getElem?_eq_none -> zD3, take_of_length_le -> zD4, nodup_cons -> zD6, not_mem_nil -> zD7, length_take -> zD9, length_map -> zE1, mem_of_mem_take -> zE2, cons_append -> zE3, mem_of_mem_drop -> zE4, eq_nil_of_length_eq_zero -> zE5, nodup_append -> zE6, map_nil -> zE7, drop_eq_nil_of_le -> zE9, length_replicate -> zF1, mem_cons_self -> zF2, getElem?_eq_some_iff -> zF5, mem_range -> zF7, mem_append_left -> zF8, getElem?_map -> zG0, getElem?_cons_zero -> zG1, mem_flatMap -> zG3, take_add_one -> zG4, getElem?_append_right -> zG5, mem_append_right -> zG6, take_append_drop -> zG9, take_length -> zH2, drop_drop -> zH3, drop_eq_getElem_cons -> zH4, eq_of_mem_replicate -> zH6, getElem?_cons_succ -> zH8, length_singleton -> zI0
open Bool renaming and_eq_true -> zA6, not_true -> zD1, false_eq_true -> zD2, and_self -> zD8, not_false -> zF4, or_eq_true -> zH5, or_false -> zH7
open Int renaming toNat_natCast -> zG7
namespace Go.Ax
def V7{P:ip}{ro:Option Nat}{x y:Code}{Q:Exit->ah->aa->Prop}{N:Nat}{E:Env}{ds:List Deferred}{H:aa}{v:go}(h:∀ c,c=E->sj P ro x y Q (bu N c ds) H v):sj P ro x y Q (bu N E ds) H v:=h E rfl
end Go.Ax
namespace Go.Proofs.YtpohjcacnkhnkaaGreatDoor.Tq
open Go.Ax
set_option maxRecDepth 100000
def El(ns:List Nat):(nV ns).all one=true:=by simp[nV,one]
def T2(n:Nat)(ns:List Nat):aT n (nV ns)=true:=by rw[ck];intro f c;obtain⟨w',_,rfl⟩:=zC1.1 c;rfl
def lh(ns:List Nat):(nV ns).length=ns.length:=by simp[nV]
def ML(H:aa)(w:go)(l:List Nat):Prop:=l≠[]/\∃ n o,w=lm (a9 ⟨n,0,if o then bi else a9 0⟩) l.length l.length/\bk H n=a9 ⟨3,o,nV l⟩/\n<H.next
def ML.rd{H:aa}{w:go}{l:List Nat}(h:ML H w l):qq H 1 w (nV l) l.length:=by obtain⟨f,n,o,rfl,j,c⟩:=h;exact⟨by rw[lh,zF0],.inr ⟨by have:=List.length_pos_iff.2 f; omega,n,0,_,_,3,o,_,rfl,iq j,c,by rw[lh]; omega,by rw[zD0,zD4 (by rw[lh]; omega)]⟩⟩
def Bt{X:aa}{w:go}{l cs:List Nat}{b k:Nat}{L:List go}(h:ML X w l)(f:nV cs=L)(T:cs.length=k)(O:0<k)(j:X.next=b)(R:l.length<=100)(V:k<=100)(r:X.base<=X.next) :
  ∃ w' G,aE Tryz.prog (ext X [⟨3,ci,L⟩]) .append ⟨[22,22]⟩ [w,lm (a9 ⟨b+0,0,a9 0⟩) k k]=a9 (w',ext G [])/\ML G w' (l++cs)/\Mod (ae w) X G/\∀ n∈ae w',X.next<=n:=by
 subst f;subst T;obtain⟨cn,n,o,rfl,I,t⟩:=h;have A:bk (ext X [⟨3,ci,nV cs⟩]) (b+0)=a9 ⟨3,ci,nV cs⟩:=by rw[aZ j nl]; rfl
 have B:bk (ext X [⟨3,ci,nV cs⟩]) n=a9 ⟨3,o,nV l⟩:=(kf t).trans I;have C:small (l.length+cs.length) 8=true:=by simp only[small,zA6,zE8]; omega
 have f:nV l++nV cs=nV (l++cs):=by simp[nV]
 have D:((nV cs).drop 0).take (cs.length*1)=nV cs:=by rw[zD0]; exact zD4 (by rw[lh]; omega)
 cases o with
 |false =>
  have c:=qZ (P:=Tryz.prog) (H:=ext X [⟨3,ci,nV cs⟩]) (st:=22) (xt:=22) (e:=3) (sz:=1) (by1:=8) (z:=jp kw 0) (m:=n) (k:=l.length) (n:=b+0) (off:=0) (cnt:=cs.length) (cap:=cs.length) (s:=a9 0)
   m9 m9 m9 m9 rfl m9 B (by rw[lh]; omega) (El l) A (by simp only[lh]; omega) (El cs) O C
  have ht:(nV l).take (l.length*1)=nV l:=zD4 (by rw[lh]; omega);simp only[ht,D,f]at c;have J:=ey (H:=X) (L:=[⟨3,ci,nV cs⟩]) (e:=3) (l:=nV (l++cs)) (o:=true) (T2 _ _);rw[J,zB2]at c;refine⟨_,ext X [⟨3,ci,nV cs⟩,⟨3,bv,nV (l++cs)⟩],c,⟨by simp[cn],b+1,bv,?_,?_,?_⟩,Mod.ext r,fun q M=>?_⟩
  .rw[ai,j]; simp
  .rw[aZ j nl]; rfl
  .rw[ai,j]; simp
  .simp only[ae,zA5,ai]at M; omega
 |true =>
  have c:=Gn (P:=Tryz.prog) (H:=ext X [⟨3,ci,nV cs⟩]) (st:=22) (xt:=22) (e:=3) (sz:=1) (by1:=8) (z:=jp kw 0) (m:=n) (k:=l.length) (gO:=nV l) (n:=b+0) (off:=0) (cnt:=cs.length) (cap:=cs.length) (s:=a9 0)
   m9 m9 m9 m9 rfl m9 B (by rw[lh]; omega) (El l) A (by simp only[lh]; omega) (El cs) O C
  simp only[D,f]at c;rw[Jx t]at c;have J:=ey (H:=dp X n) (L:=[⟨3,ci,nV cs⟩]) (e:=3) (l:=nV (l++cs)) (o:=true) (T2 _ _);rw[J,zB2]at c;have S:Mod (ae (lm (a9 ⟨n,0,bi⟩) l.length l.length)) X (dp X n):=Mod.cH pm;refine⟨_,ext (dp X n) [⟨3,ci,nV cs⟩,⟨3,bv,nV (l++cs)⟩],c,⟨by simp[cn],b+1,bv,?_,?_,?_⟩,S.trans (Mod.ext (S.ok r)),fun q M=>?_⟩
  .rw[ai,j]; simp
  .rw[aZ (show (dp X n).next=b from j) nl]; rfl
  .rw[ai,jN,j]; simp
  .simp only[ae,zA5,ai]at M; omega
def HZ(H:aa)(v:go)(l:List UInt8)(r:Option (List UInt8))(out:Out)(X:aa):Prop :=
 Mod (ae v) H X/\match r with
  |some cs=>∃ u,out=.ok (.tuple #[u,ls bv])/\cz X 5 1 u (ak (l++cs)) (l++cs).length/\∀ n∈ae u,n∈ae v\/H.next<=n
  |none=>∃ x,out=.ok (.tuple #[x,ls ci])/\aV X.next x=bv
def RJ(k:Tj):List Value:=[jp kw k.fore,jp kw k.back,ls k.bold,ls k.under,ls k.inv]
def Vj(H:aa)(b:Nat)(v:go)(k:Tj)(ws:List Nat)(E:Env)(X:aa):Prop :=
 Mod [] H X/\bk X b=a9 ⟨44,ci,RJ k⟩/\b<X.next/\E 0=v/\E 3=li (a9 ⟨b,0,bi⟩)/\∃ w,E 6=w/\ML X w ws/\∀ n∈ae w,H.next<=n/\n≠b
def UE(H:aa)(t:Pow H)(v:go)(l:List UInt8)(k:Tj)(hv:cz H 5 1 v (ak l) l.length)(hl:l.length<=310000000)(h2:2∉ae v)(s:H.base<=H.next) :
  bF Tryz.prog 51 [v,.agg ⟨RJ k⟩] H (HZ H v l (if lK k=bv then a9 (gA (lF k) 109) else bi)):=by
 obtain⟨b,hb⟩:=ac H.next;have mE:∀ L,Mod (ae v) H (ext H L):=fun L=>Mod.ext s;refine aI mixed Tryz.func51 rfl Tryz.ntmps51 (zA7 rfl) ?_;unfold RJ;by_cases hc:lK k=bv
 .rw[if_pos hc];unfold lK at hc;simp only[zA6,decide_eq_true_eq]at hc;have c1:f7 (k.fore<0)=false:=decide_eq_false lw;have c2:f7 (256<k.fore)=false:=decide_eq_false lw;have c3:f7 (k.back<0)=false:=decide_eq_false lw;have c4:f7 (256<k.back)=false:=decide_eq_false lw;simp only[hb,c1,c2,c3,c4,zW,seval];refine V7 fun E hE=>?_;have M:E 0=v:=by rw[hE]; rfl
  have B:E 3=li (a9 ⟨b+0,0,bi⟩):=by rw[hE]; rfl
  have J:E 6=lm (a9 ⟨b+1,0,a9 0⟩) 1 1:=by rw[hE]; rfl
  clear hE;obtain⟨X,hX⟩:=ac (ext H [⟨44,ci,[jp kw k.fore,jp kw k.back,ls k.bold,ls k.under,ls k.inv]⟩,⟨3,ci,[jp kw 0]⟩]);have r:Mod [] H X:=hX▸Mod.ext s;have C:bk X (b+0)=a9 ⟨44,ci,RJ k⟩:=by rw[<-hX,aZ hb nl]; rfl
  obtain⟨y,j⟩:=ac X.next;have yb2:y=b+2:=by rw[<-j,<-hX,ai,hb]; rfl
  have f:b+0<y:=by omega
  have I:ML X (lm (a9 ⟨b+1,0,a9 0⟩) 1 1) [0]:=⟨by simp,b+1,ci,rfl,by rw[<-hX,aZ hb nl]; rfl,by omega⟩
  have c:∀ n∈ae (Value.slice (a9 ⟨b+1,0,a9 0⟩) 1 1),H.next<=n/\n≠b+0:=fun n hn=>by simp only[ae,zA5]at hn;omega
  obtain⟨w,hw'⟩:=ac (Value.slice (a9 ⟨b+1,0,a9 0⟩) 1 1);rw[hw']at J I c;have o:=r.ok s;have S:([0]:List Nat).length<=1:=by decide
  rw[hX,show X=ext X [] from rfl];clear hX hw';refine fB (Vj H (b+0) v k ([0]++(if (k.bold)=bv then [1] else []))) ?_ ?_
  .obtain⟨z,R⟩:=ac ((k.bold));rw[R]
   cases z with
   |false =>rw[show (if ci=bv then [1] else [])=([]:List Nat) from rfl,zC7];simp only[gV];exact ag ⟨r,C,by rw[ext_nil,j]; exact f,by simp only[M],by simp only[B],w,by simp only[J],I,c⟩
   |true =>
    rw[show (if bv=bv then [1] else [])=([1]:List Nat) from rfl];have T:nV [1]=[jp kw 1]:=by rfl
    obtain⟨w',G,V,k2,D,O⟩:=Bt (cs:=[1]) (L:=[jp kw 1]) (k:=1) I T rfl ol j lw ol o
    skip
    have mG:Mod [] H G:=r.step D s fun q A=>.inr (c q A).1;simp only[J,j,V,zW,seval];exact ag ⟨mG,by rw[ext_nil]; exact (D.bk lw fun h=>(c _ h).2 rfl).trans C,by have:=D.next; rw[ai]; omega,by simp only[M,aF,seval],by simp only[B,aF,seval],w',by simp only[aF],k2,fun q A=>⟨by have:=O q A; have:=r.next; omega,by have:=O q A; omega⟩⟩
  rintro E X ⟨r,C,f,M,B,w,J,I,c⟩;obtain⟨y,j⟩:=ac X.next;have o:=r.ok s;have yb:X.base<=y:=j▸o;rw[j]at f
  have S:([0]++(if (k.bold)=bv then [1] else [])).length<=2:=by
   simp only[zB3,apply_ite List.length,zA9,zB4]
   (repeat' split)<;>omega
  rw[show X=ext X [] from rfl];simp only[B,j,C,f,cm,RJ,zW,seval];refine fB (Vj H (b+0) v k ([0]++(if (k.bold)=bv then [1] else [])++(if (k.under)=bv then [4] else []))) ?_ ?_
  .obtain⟨z,R⟩:=ac ((k.under));rw[R]
   cases z with
   |false =>rw[show (if ci=bv then [4] else [])=([]:List Nat) from rfl,zC7];simp only[gV];exact ag ⟨r,C,by rw[ext_nil,j]; exact f,by simp only[M,aF,seval],by simp only[B,aF,seval],w,by simp only[J,aF,seval],I,c⟩
   |true =>
    rw[show (if bv=bv then [4] else [])=([4]:List Nat) from rfl];have T:nV [4]=[jp kw 4]:=by rfl
    obtain⟨w',G,V,k2,D,O⟩:=Bt (cs:=[4]) (L:=[jp kw 4]) (k:=1) I T rfl ol j lw ol o
    skip
    have mG:Mod [] H G:=r.step D s fun q A=>.inr (c q A).1;simp only[J,j,V,zW,seval];exact ag ⟨mG,by rw[ext_nil]; exact (D.bk lw fun h=>(c _ h).2 rfl).trans C,by have:=D.next; rw[ai]; omega,by simp only[M,aF,seval],by simp only[B,aF,seval],w',by simp only[aF],k2,fun q A=>⟨by have:=O q A; have:=r.next; omega,by have:=O q A; omega⟩⟩
  rintro E X ⟨r,C,f,M,B,w,J,I,c⟩;obtain⟨y,j⟩:=ac X.next;have o:=r.ok s;have yb:X.base<=y:=j▸o;rw[j]at f
  have S:([0]++(if (k.bold)=bv then [1] else [])++(if (k.under)=bv then [4] else [])).length<=3:=by
   simp only[zB3,apply_ite List.length,zA9,zB4]
   (repeat' split)<;>omega
  rw[show X=ext X [] from rfl];simp only[B,j,C,f,cm,RJ,zW,seval];refine fB (Vj H (b+0) v k ([0]++(if (k.bold)=bv then [1] else [])++(if (k.under)=bv then [4] else [])++(if (k.inv)=bv then [7] else []))) ?_ ?_
  .obtain⟨z,R⟩:=ac ((k.inv));rw[R]
   cases z with
   |false =>rw[show (if ci=bv then [7] else [])=([]:List Nat) from rfl,zC7];simp only[gV];exact ag ⟨r,C,by rw[ext_nil,j]; exact f,by simp only[M,aF,seval],by simp only[B,aF,seval],w,by simp only[J,aF,seval],I,c⟩
   |true =>
    rw[show (if bv=bv then [7] else [])=([7]:List Nat) from rfl];have T:nV [7]=[jp kw 7]:=by rfl
    obtain⟨w',G,V,k2,D,O⟩:=Bt (cs:=[7]) (L:=[jp kw 7]) (k:=1) I T rfl ol j lw ol o
    skip
    have mG:Mod [] H G:=r.step D s fun q A=>.inr (c q A).1;simp only[J,j,V,zW,seval];exact ag ⟨mG,by rw[ext_nil]; exact (D.bk lw fun h=>(c _ h).2 rfl).trans C,by have:=D.next; rw[ai]; omega,by simp only[M,aF,seval],by simp only[B,aF,seval],w',by simp only[aF],k2,fun q A=>⟨by have:=O q A; have:=r.next; omega,by have:=O q A; omega⟩⟩
  rintro E X ⟨r,C,f,M,B,w,J,I,c⟩;obtain⟨y,j⟩:=ac X.next;have o:=r.ok s;have yb:X.base<=y:=j▸o;rw[j]at f
  have S:([0]++(if (k.bold)=bv then [1] else [])++(if (k.under)=bv then [4] else [])++(if (k.inv)=bv then [7] else [])).length<=4:=by
   simp only[zB3,apply_ite List.length,zA9,zB4]
   (repeat' split)<;>omega
  rw[show X=ext X [] from rfl];simp only[B,j,C,f,cm,RJ,zW,seval];refine fB (Vj H (b+0) v k ([0]++(if (k.bold)=bv then [1] else [])++(if (k.under)=bv then [4] else [])++(if (k.inv)=bv then [7] else [])++(if (f7 (0<k.fore))=bv then [38,5,(k.fore-1).toNat] else []))) ?_ ?_
  .obtain⟨z,R⟩:=ac ((f7 (0<k.fore)));rw[R]
   cases z with
   |false =>rw[show (if ci=bv then [38,5,(k.fore-1).toNat] else [])=([]:List Nat) from rfl,zC7];simp only[gV];exact ag ⟨r,C,by rw[ext_nil,j]; exact f,by simp only[M,aF,seval],by simp only[B,aF,seval],w,by simp only[J,aF,seval],I,c⟩
   |true =>
    rw[show (if bv=bv then [38,5,(k.fore-1).toNat] else [])=([38,5,(k.fore-1).toNat]:List Nat) from rfl]
    have T:nV [38,5,(k.fore-1).toNat]=[jp kw 38,jp kw 5,jp kw (k.fore-1)]:=by
     have h1:=of_decide_eq_true R;have h2:(((k.fore-1).toNat:Nat):Int)=k.fore-1:=by omega
     simp only[nV,zB8,zE7,h2];rfl
    obtain⟨w',G,V,k2,D,O⟩:=Bt (cs:=[38,5,(k.fore-1).toNat]) (L:=[jp kw 38,jp kw 5,jp kw (k.fore-1)]) (k:=3) I T rfl ol j lw ol o;have w1:IntKind.i64.wrap (k.fore-1)=k.fore-1:=by rw[IntKind.wrap_i64]; omega
    have mG:Mod [] H G:=r.step D s fun q A=>.inr (c q A).1;simp only[B,J,j,C,f,cm,RJ,V,w1,zW,seval];exact ag ⟨mG,by rw[ext_nil]; exact (D.bk lw fun h=>(c _ h).2 rfl).trans C,by have:=D.next; rw[ai]; omega,by simp only[M,aF,seval],by simp only[B,aF,seval],w',by simp only[aF],k2,fun q A=>⟨by have:=O q A; have:=r.next; omega,by have:=O q A; omega⟩⟩
  rintro E X ⟨r,C,f,M,B,w,J,I,c⟩;obtain⟨y,j⟩:=ac X.next;have o:=r.ok s;have yb:X.base<=y:=j▸o;rw[j]at f
  have S:([0]++(if (k.bold)=bv then [1] else [])++(if (k.under)=bv then [4] else [])++(if (k.inv)=bv then [7] else [])++(if (f7 (0<k.fore))=bv then [38,5,(k.fore-1).toNat] else [])).length<=7:=by
   simp only[zB3,apply_ite List.length,zA9,zB4]
   (repeat' split)<;>omega
  rw[show X=ext X [] from rfl];simp only[B,j,C,f,cm,RJ,zW,seval];refine fB (Vj H (b+0) v k ([0]++(if (k.bold)=bv then [1] else [])++(if (k.under)=bv then [4] else [])++(if (k.inv)=bv then [7] else [])++(if (f7 (0<k.fore))=bv then [38,5,(k.fore-1).toNat] else [])++(if (f7 (0<k.back))=bv then [48,5,(k.back-1).toNat] else []))) ?_ ?_
  .obtain⟨z,R⟩:=ac ((f7 (0<k.back)));rw[R]
   cases z with
   |false =>rw[show (if ci=bv then [48,5,(k.back-1).toNat] else [])=([]:List Nat) from rfl,zC7];simp only[gV];exact ag ⟨r,C,by rw[ext_nil,j]; exact f,by simp only[M,aF,seval],by simp only[B,aF,seval],w,by simp only[J,aF,seval],I,c⟩
   |true =>
    rw[show (if bv=bv then [48,5,(k.back-1).toNat] else [])=([48,5,(k.back-1).toNat]:List Nat) from rfl]
    have T:nV [48,5,(k.back-1).toNat]=[jp kw 48,jp kw 5,jp kw (k.back-1)]:=by
     have h1:=of_decide_eq_true R;have h2:(((k.back-1).toNat:Nat):Int)=k.back-1:=by omega
     simp only[nV,zB8,zE7,h2];rfl
    obtain⟨w',G,V,k2,D,O⟩:=Bt (cs:=[48,5,(k.back-1).toNat]) (L:=[jp kw 48,jp kw 5,jp kw (k.back-1)]) (k:=3) I T rfl ol j lw ol o;have w1:IntKind.i64.wrap (k.back-1)=k.back-1:=by rw[IntKind.wrap_i64]; omega
    have mG:Mod [] H G:=r.step D s fun q A=>.inr (c q A).1;simp only[B,J,j,C,f,cm,RJ,V,w1,zW,seval];exact ag ⟨mG,by rw[ext_nil]; exact (D.bk lw fun h=>(c _ h).2 rfl).trans C,by have:=D.next; rw[ai]; omega,by simp only[M,aF,seval],by simp only[B,aF,seval],w',by simp only[aF],k2,fun q A=>⟨by have:=O q A; have:=r.next; omega,by have:=O q A; omega⟩⟩
  rintro E X ⟨r,C,f,M,B,w,J,I,c⟩;have o:=r.ok s;obtain⟨y,j⟩:=ac X.next;have yb:X.base<=y:=j▸o;have key:[0]++(if (k.bold)=bv then [1] else [])++(if (k.under)=bv then [4] else [])++(if (k.inv)=bv then [7] else [])++(if (f7 (0<k.fore))=bv then [38,5,(k.fore-1).toNat] else [])++(if (f7 (0<k.back))=bv then [48,5,(k.back-1).toNat] else [])=lF k:=by simp only[lF,decide_eq_true_eq,zC8,zE3,zB6]
  rw[key]at I;have vX:cz X 5 1 v (ak l) l.length:=hv.of r.next fun q A=>r.get q (hv.ne q A).2 nl
  have hnl:(lF k).length<=20:=by
   rw[<-key];simp only[zB3,apply_ite List.length,zA9,zB4]
   (repeat' split)<;>omega
  have hn9:∀ n∈lF k,n<=9999:=fun n hn=>by rw[<-key]at hn;simp only[zB1,List.mem_ite_nil_right,zA8,zD7,or_false]at hn;omega
  rw[show X=ext X [] from rfl];simp only[M,J,zW,seval];refine (QW (ext X []) (t.mod r nl) v w l (lF k) 109 vX hl I.rd hn9 hnl h2 (fun n hn h=>by have:=(c n h).1; have:=(hv.ne n hn).2; omega) o).mono ?_;rintro out Y ⟨m1,u,rfl,u1,u2⟩;rw[show Y=ext Y [] from rfl];simp only[Tryz.results51,zW,seval];refine⟨(r.mono nl).trans m1,u,rfl,u1,fun n hn=>?_⟩;rcases u2 n hn with h|h
  .exact .inl h
  .exact .inr (zC4 r.next h)
 .rw[if_neg hc];by_cases c1:k.fore<0
  .have d1:f7 (k.fore<0)=true:=decide_eq_true c1;simp only[hb,d1,Tryz.results51,zW,seval];exact⟨mE _,_,rfl,rfl⟩
  have d1:f7 (k.fore<0)=false:=decide_eq_false c1;by_cases c2:256<k.fore
  .have d2:f7 (256<k.fore)=true:=decide_eq_true c2;simp only[hb,d1,d2,Tryz.results51,zW,seval];exact⟨mE _,_,rfl,rfl⟩
  have d2:f7 (256<k.fore)=false:=decide_eq_false c2;by_cases c3:k.back<0
  .have d3:f7 (k.back<0)=true:=decide_eq_true c3;simp only[hb,d1,d2,d3,Tryz.results51,zW,seval];exact⟨mE _,_,rfl,rfl⟩
  have d3:f7 (k.back<0)=false:=decide_eq_false c3;by_cases c4:256<k.back
  .have d4:f7 (256<k.back)=true:=decide_eq_true c4;simp only[hb,d1,d2,d3,d4,Tryz.results51,zW,seval];exact⟨mE _,_,rfl,rfl⟩
  refine absurd ?_ hc;unfold lK;simp only[zA6,decide_eq_true_eq];omega
set_option maxRecDepth 100000
def D9{H:aa}{v:go}{l:List UInt8}{s:ByteArray}(o:cz H 5 1 v (ak l) l.length)(hl:l.length<=350000000)(hs:s.size<=1000000000)(r:H.base<=H.next) :
  ∃ u G,aE Tryz.prog H .append ⟨[25,9]⟩ [v,.string s]=a9 (u,G)/\cz G 5 1 u (ak (l++s.data.toList)) (l++s.data.toList).length/\Mod (ae v) H G/\∀ n∈ae u,n∈ae v\/H.next<=n:=by
 have a1:Tryz.prog.underlying 25=a9 (.slice 5):=by kernel_rfl
 have t:br Tryz.prog 5=a9 1:=by kernel_rfl
 have A:bytesOf Tryz.prog 5=a9 1:=by kernel_rfl
 have B:zeroOf Tryz.prog 5=a9 (.int .u8 0):=by kernel_rfl
 have C:fE Tryz.prog 9=a9 false:=by kernel_rfl
 have D:s.size=s.data.toList.length:=Array.length_toList.symm;by_cases j:0<s.size
 .obtain⟨G,R,S,T,g4⟩:=La (P:=Tryz.prog) (st:=25) (xt:=9) (e:=5) (by1:=1) (z:=.int .u8 0) (s:=s) a1 t A B rfl C o j sm rfl (pk _ _);refine⟨_,G,R,?_,T r,fun n I=>.inr (by simp only[ae,zA5]at I; omega)⟩;rw[j6,zB3,<-D];exact S
 .have f:s.data.toList=[]:=zE5 lw;have hx:jD (.string s)=a9 0:=by rw[jD]; congr 1; omega
  have J:cK H 1 0 (.string s)=a9 []:=rfl;rw[f,zC7];obtain⟨V,q2,⟨j,rfl⟩|⟨j,n,rfl,M,h⟩⟩:=id o
  .exact⟨_,H,QA a1 t A B rfl C hx J,o,Mod.refl,fun n I=>.inl I⟩
  .have hw:=ke (H:=H) (L:=[]) (n:=n) (off:=0+l.length*1) (vs:=[]) h M (by simp only[zB4,jo]; omega) rfl rfl;have O:=Jk (P:=Tryz.prog) (H:=H) (st:=25) (xt:=9) (m:=n) (off:=0) (k:=l.length) (cap:=l.length) (sp:=bi) (x:=.string s) a1 t A B rfl C hx J nl lw sm;rw[show dT H n (0+l.length*1) []=dT (ext H []) n (0+l.length*1) [] from rfl,hw,zB2]at O;refine⟨_,_,O,?_,Mod.uw pm,fun q hq=>.inl hq⟩;refine⟨V,q2,.inr ⟨j,n,rfl,?_,by rw[ai,cw]; simpa using h⟩⟩;show bk (uw H n (0+l.length*1) []) n=_;rw[bR,M]
   have c:∀(l:List go)(k:Nat),dj l k []=l:=fun l=>by
    induction l with
    |nil=>intro k; cases k<;>rfl
    |cons x l ih=>intro k; cases k with
     |zero=>rfl
     |succ k=>exact congrArg (x::·) (ih k)
   simp[Q1,c]
def Wg(s:ByteArray):Option (List UInt8):=match ei s.data.toList with
 |none=>bi
 |some l=>if l.all MO=bv then a9 s.data.toList else bi
def T9(H:aa)(t:Go.Proofs.YtpohjcacnkhnkaaGreatDoor.Od H)(h2n:2<=H.next)(v:go)(l:List UInt8)(s:ByteArray)(hv:cz H 5 1 v (ak l) l.length)(hl:l.length<=310000000)(hs:s.size<=1000000000)(h2:∀ n∈ae v,2<n)(C:H.base<=H.next) :
  bF Tryz.prog 52 [v,.string s] H (HZ H v l (Wg s)):=by
 obtain⟨b,hb⟩:=ac H.next;obtain⟨r,hr⟩:=ac (ei s.data.toList);have O:∀(X:aa)(m:Int),bB Tryz.prog X 21 3 (.int .i32 m)=a9 (jp kw (IntKind.i64.wrap m),X):=fun X m=>gF (u:=.int .i32) m9 m9;have e1:=Mv (H:=ext H []) (s:=s) u9;refine aI mixed Tryz.func52 rfl Tryz.ntmps52 (zA7 rfl) ?_;simp only[Oz,e1,zW,seval];refine da fun E hE=>?_;have I:E 0=v:=by rw[hE]; rfl
 have J:E 1=.string s:=by rw[hE]; rfl
 have f:E 10=li (a9 ⟨H.next,0,bi⟩):=by rw[hE]; rfl
 have g4:E 4=lm bi 0 0:=by rw[hE]; rfl
 have g5:E 5=ls false:=by rw[hE]; rfl
 clear hE;refine aS (fun M X=>Mod [] H X/\M 0=v/\M 1=.string s/\∀ cs,r=a9 cs->cs.all MO=bv) ?_ ?_
 .refine cp (fun (p:Nat) M X=>Mod [] H X/\X.get H.next=a9 (QS s p)/\H.next<X.next/\p<=s.data.toList.length/\(∀ cs,r=a9 cs->∃ D l',cs=D++l'/\ei (s.data.toList.drop p)=a9 l'/\D.all MO=bv)/\M 0=v/\M 1=.string s/\M 10=li (a9 ⟨H.next,0,bi⟩)/\M 4=lm bi 0 0/\M 5=ls ci) (fun p=>s.data.toList.length-p) 0
   ⟨Mod.new C,by rw[aa.fk,if_pos (show H.next=(ext H []).next from rfl)],zF3 _,zB7 _,fun cs h=>⟨[],cs,rfl,by rw[zD0,hr,h],rfl⟩,I,J,f,g4,g5⟩ ?_
  clear I J g4 g5 f E;rintro p E X ⟨m,hit,hlt,hps,R,I,J,f,g4,g5⟩;rw[show X=ext X [] from rfl];by_cases h0:p<s.data.toList.length
  .have S:0<(s.data.toList.drop p).length:=by rw[zC6]; omega
   have hpt:=ri _ S;have j:=P9 _ S;rw[Go.Lib.decodeL_drop]at j;have hst:=n6 _ S
   obtain⟨c,hc⟩:∃ c:Nat,(Utf8.decode s p).1=c:=⟨_,rfl⟩
   obtain⟨n,hn⟩:=ac ((Utf8.decode s p).2);have z:=Q9 (H:=ext X []) (n:=H.next) (p:=p) (s:=s) hit (by rw[Fg]; exact h0);rw[hc,hn]at z j;obtain⟨Y,hY⟩:=ac (X.cH H.next (a9 (QS s (p+n))));have mY:Mod [H.next] X Y:=hY▸Mod.cH nl;have hYn:Y.next=X.next:=by rw[<-hY]; rfl
   have hYit:Y.get H.next=a9 (QS s (p+n)):=by rw[<-hY,aa.fC,if_pos rfl]
   rw[show (ext X []).cH H.next (a9 (QS s (p+n)))=ext Y [] from hY]at z;have T:Mod [] H Y:=m.step mY C (fun q hq=>.inr (by simp only[zA5]at hq; omega))
   have hn1:1<=n/\p+n<=s.data.toList.length/\c<2000000000:=by
    rcases j with⟨o,B,V⟩|⟨o,B,V,_⟩
    .omega
    .rw[zC6]at hpt;omega
   have hw:IntKind.i64.wrap (c:Int)=c:=aR lw lw
   -- a character that cannot be displayed
   have bad:MO c=ci->Wg s=none:=fun hp=>by
    unfold Wg;rw[hr]
    cases r with
    |none=>rfl
    |some cs =>
     obtain⟨D,l',rfl,A,h4⟩:=R cs rfl;rw[hst]at A
     rcases j with⟨o,_⟩|⟨o,B,_⟩
     .rw[if_pos o]at A; cases A
     .rw[if_neg o]at A;obtain⟨l2,_,rfl⟩:=zB5.1 A;rw[B];simp only[List.all_append,List.all_cons,hp,Bool.false_and,Bool.and_false];rfl
   have good:MO c=bv->∀ cs,r=a9 cs->∃ D l',cs=D++l'/\ei (s.data.toList.drop (p+n))=a9 l'/\D.all MO=true:=fun hp cs h=>by
    obtain⟨D,l',rfl,A,h4⟩:=R cs h;rw[hst]at A
    rcases j with⟨o,_⟩|⟨o,B,V,_⟩
    .rw[if_pos o]at A; cases A
    .rw[if_neg o]at A;obtain⟨l2,h5,rfl⟩:=zB5.1 A;refine⟨D++[(c:Int)],l2,by rw[B]; simp,?_,by simp[h4,hp]⟩;rw[zH3,V,zG7]at h5;exact h5
   have hbY:∀ L,Mod (ae v) H (ext Y L):=fun L=>(T.mono nl).trans (Mod.ext (T.ok C));by_cases c1:(c:Int)<32
   .have o:f7 ((c:Int)<32)=true:=decide_eq_true c1;rw[bad (by unfold MO; rw[o]; rfl)];simp only[f,yG,z,bp,O,hw,o,cO,Tryz.results52,zW,seval];exact⟨hbY [],_,rfl,rfl⟩
   have o:f7 ((c:Int)<32)=false:=decide_eq_false c1;by_cases c2:(c:Int)=127
   .have B:f7 ((c:Int)=127)=true:=decide_eq_true c2;rw[bad (by unfold MO; rw[B]; simp)];simp only[f,yG,z,bp,O,hw,o,B,cO,Tryz.results52,zW,seval];exact⟨hbY [],_,rfl,rfl⟩
   have B:f7 ((c:Int)=127)=false:=decide_eq_false c2;simp only[f,yG,z,bp,O,hw,o,B,zW,seval];refine (Go.Proofs.YtpohjcacnkhnkaaGreatDoor.ja (ext Y []) c).to ?_;by_cases c3:((Go.Proofs.YtpohjcacnkhnkaaGreatDoor.c7 (c:Int):Nat):Int)=0
   .have V:f7 (((Go.Proofs.YtpohjcacnkhnkaaGreatDoor.c7 (c:Int):Nat):Int)=0)=true:=decide_eq_true c3;rw[bad (by unfold MO; rw[decide_eq_true (show c7 c=0 by rw[<-yR]; omega)]; simp)];simp only[V,cO,Tryz.results52,zW,seval];exact⟨hbY [],_,rfl,rfl⟩
   .have V:f7 (((Go.Proofs.YtpohjcacnkhnkaaGreatDoor.c7 (c:Int):Nat):Int)=0)=false:=decide_eq_false c3;simp only[V,zW,seval];refine aG ⟨p+n,by omega,T,?_,?_,by omega,good (by unfold MO; rw[o,B,decide_eq_false (show ¬c7 c=0 by rw[<-yR]; omega)]; rfl),by simp only[I,aF,seval],by simp only[J,aF,seval],by simp only[f,aF,seval],by simp only[g4,aF,seval],by simp only[g5,aF,seval]⟩
    .rw[show (ext Y []).get H.next=Y.get H.next from rfl,hYit]
    .rw[show (ext Y []).next=Y.next from rfl]; omega
  .have z:=OV (H:=ext X []) (n:=H.next) (p:=p) (s:=s) hit (by rw[Fg]; exact h0);simp only[f,yG,z,zW,seval];refine ag ⟨m,by simp only[I,aF,seval],by simp only[J,aF,seval],fun cs h=>?_⟩;obtain⟨D,l',rfl,A,h4⟩:=R cs h;rw[zE9 lw,AI]at A;cases A;simpa using h4
 clear I J g4 g5 f E;rintro E X ⟨m,I,J,hall⟩;have okX:=m.ok C;have vX:cz X 5 1 v (ak l) l.length:=hv.of m.next fun q hq=>m.get q (hv.ne q hq).2 nl;obtain⟨u,G,k1,k2,k3,k4⟩:=D9 (s:=s) vX lw hs okX;have mG:Mod (ae v) H G:=(m.mono nl).trans k3;have t01:∀ q,q<2->q∉ae v:=fun q h h'=>by have:=h2 q h'; omega
 have tlt:∀ q,q<2->q<H.next:=fun q h=>by omega
 have tG:Go.Proofs.YtpohjcacnkhnkaaGreatDoor.Od G:=t.of (mG.get 0 (tlt 0 lw) (t01 0 lw)) (mG.get 1 (tlt 1 lw) (t01 1 lw));have hvd:=Go.Proofs.YtpohjcacnkhnkaaGreatDoor.S3 (ext G []) tG s lw;rw[C8 _ _ (zA4 _),hr]at hvd;rw[show X=ext X [] from rfl]at k1 ⊢;simp only[I,J,k1,zW,seval];refine hvd.to ?_;simp only[Tryz.results52,zW,seval];unfold Wg;rw[hr]
 cases r with
 |none=>exact⟨mG,u,rfl,cU (zA4 _) _ k2.sc⟩
 |some cs =>
  simp only;rw[if_pos (hall cs rfl)];refine⟨mG,u,rfl,k2,fun n hn=>?_⟩;rcases k4 n hn with h|h
  .exact .inl h
  .exact .inr (zC4 m.next h)
set_option maxRecDepth 100000
def Kf{X:aa}(t:Pow X){v:go}{l:List UInt8}{ns:List Nat}{f:UInt8}{L:List go}{k y:Nat}{z:Int}(r:cz X 5 1 v (ak l) l.length)(B:l.length<=310000000)(C:nV ns=L)(D:ns.length=k)(I:0<k)(J:(f.toNat:Int)=z)(j:∀ n∈ns,n<=9999)(s:k<=20)(M:2∉ae v)(A:X.next=y)(c:X.base<=X.next) :
  bF Tryz.prog 50 [v,.int .u8 z,lm (a9 ⟨y+0,0,a9 0⟩) k k] (ext X [⟨3,ci,L⟩]) (RG X v (l++gA ns f)):=by
 subst C D J;have o:Mod [] X (ext X [⟨3,ci,nV ns⟩]):=Mod.ext c;have O:bk (ext X [⟨3,ci,nV ns⟩]) (y+0)=a9 ⟨3,ci,nV ns⟩:=by rw[aZ A nl]; rfl
 refine (QW _ (t.mod o nl) v _ l ns f (r.of o.next fun q R=>o.get q (r.ne q R).2 nl) B ⟨by rw[lh,zF0],.inr ⟨I,_,_,_,_,_,_,_,rfl,iq O,by rw[ai,A]; simp,by rw[lh]; omega,by rw[zD0,zD4 (by rw[lh]; omega)]⟩⟩ j s M (fun n j h=>by
  simp only[ae,zA5]at h;have:=(r.ne n j).2
  omega) (o.ok c)).mono ?_
 intro out Y h;exact RG.trans (o.mono nl) (fun n j=>.inl j) c h
def TJ{X:aa}(t:Pow X){v:go}{l:List UInt8}{f:UInt8}{j:Int}(o:cz X 5 1 v (ak l) l.length)(r:l.length<=310000000)(s:(f.toNat:Int)=j)(z:2∉ae v)(c:X.base<=X.next) :
  bF Tryz.prog 50 [v,.int .u8 j,lm bi 0 0] (ext X []) (RG X v (l++gA [] f)):=by
 subst s;exact QW X t v _ l [] f o r qq.nil nl nl z (fun n _ h=>by simp[ae]at h) c
def WT(o:CB)(up:Bool):Option (List UInt8) :=
 if 0<=o.row/\o.row<=o.col/\o.col<=9998/\1<=o.n/\o.n<=o.col-o.row+1 then a9 (w9 o.row.toNat o.col.toNat o.n.toNat up) else bi
def uT(H:aa)(t:Pow H)(v:go)(l:List UInt8)(o:CB)(up:Bool)(hv:cz H 5 1 v (ak l) l.length)(hl:l.length<=300000000)(h2:2∉ae v)(j:H.base<=H.next) :
  bF Tryz.prog 53 [v,o.val,.int .u8 (cond up 77 76)] H (HZ H v l (WT o up)):=by
 obtain⟨b,z⟩:=ac H.next;obtain⟨r,row,c,n,look,text⟩:=o;refine aI mixed Tryz.func53 rfl Tryz.ntmps53 (zA7 rfl) ?_;have mE:∀ L,Mod (ae v) H (ext H L):=fun L=>Mod.ext j;unfold WT Op.val Op.cells;simp only;by_cases c1:row<0
 .have J:f7 (row<0)=true:=decide_eq_true c1;rw[if_neg lw];simp only[z,J,Tryz.results53,zW,seval];exact⟨mE _,_,rfl,rfl⟩
 have J:f7 (row<0)=false:=decide_eq_false c1;by_cases c2:c<row
 .have T:f7 (c<row)=true:=decide_eq_true c2;rw[if_neg lw];simp only[z,J,T,Tryz.results53,zW,seval];exact⟨mE _,_,rfl,rfl⟩
 have T:f7 (c<row)=false:=decide_eq_false c2;by_cases c3:9998<c
 .have d3:f7 (9998<c)=true:=decide_eq_true c3;rw[if_neg lw];simp only[z,J,T,d3,Tryz.results53,zW,seval];exact⟨mE _,_,rfl,rfl⟩
 have d3:f7 (9998<c)=false:=decide_eq_false c3;by_cases c4:n<1
 .have d4:f7 (n<1)=true:=decide_eq_true c4;rw[if_neg lw];simp only[z,J,T,d3,d4,Tryz.results53,zW,seval];exact⟨mE _,_,rfl,rfl⟩
 have d4:f7 (n<1)=false:=decide_eq_false c4;have w1:IntKind.i64.wrap (c-row)=c-row:=by rw[IntKind.wrap_i64]; omega
 have w2:IntKind.i64.wrap (c-row+1)=c-row+1:=by rw[IntKind.wrap_i64]; omega
 by_cases c5:c-row+1<n
 .have d5:f7 (c-row+1<n)=true:=decide_eq_true c5;rw[if_neg lw];simp only[z,J,T,d3,d4,d5,w1,w2,Tryz.results53,zW,seval];exact⟨mE _,_,rfl,rfl⟩
 have d5:f7 (c-row+1<n)=false:=decide_eq_false c5;rw[if_pos lw];have w3:IntKind.i64.wrap (row+1)=row+1:=by rw[IntKind.wrap_i64]; omega
 have w4:IntKind.i64.wrap (c+1)=c+1:=by rw[IntKind.wrap_i64]; omega
 obtain⟨O,hO⟩:=ac ([Value.int kw r,jp kw row,jp kw c,jp kw n,jp kw look.fore,jp kw look.back,ls look.bold,ls look.under,ls look.inv,.string text]);obtain⟨X0,B⟩:=ac (ext H [⟨58,ci,O⟩]);have m0:Mod [] H X0:=B▸Mod.ext j;have n0:X0.next=b+1:=by rw[<-B,ai,z]; rfl
 have kb0:bk X0 (b+0)=a9 ⟨58,ci,O⟩:=by rw[<-B,aZ z nl]; rfl
 have v0:cz X0 5 1 v (ak l) l.length:=hv.of m0.next fun q s=>m0.get q (hv.ne q s).2 nl;have hvb:∀ q∈ae v,q<b:=fun q s=>z▸(hv.ne q s).2;obtain⟨G,g1,g2,g3,g4⟩:=AF (cs:=[27,55]) (L:=[.int .u8 27,.int .u8 55]) (k:=2) v0 rfl rfl ol lw ol n0 (m0.ok j);have hE:ext X0 [⟨5,ci,[.int .u8 27,.int .u8 55]⟩]=ext H [⟨58,ci,[Value.int kw r,jp kw row,jp kw c,jp kw n,jp kw look.fore,jp kw look.back,ls look.bold,ls look.under,ls look.inv,.string text]⟩,⟨5,ci,[.int .u8 27,.int .u8 55]⟩]:=by rw[<-B,<-hO,j0]; rfl
 rw[hE]at g1;have mG:Mod (ae v) H G:=(m0.mono nl).trans g3;have kG:bk G (b+0)=a9 ⟨58,ci,O⟩:=(g3.bk lw fun h=>by have:=hvb _ h; omega).trans kb0;have bG:G.base<=b+3:=by have:=mG.ok j; omega
 have nG:G.next=b+3:=by omega
 have bl3:b+0<b+3:=by omega
 rw[<-hO]at kG;have t2:2<b:=z▸t.1;simp only[z,J,T,d3,d4,d5,w1,w2,w3,w4,g1,kG,nG,bl3,cm,zW,seval];have tG:=t.mod mG h2;have e1:(((row.toNat+1:Nat)):Int)=row+1:=by omega
 have e2:(((c.toNat+1:Nat)):Int)=c+1:=by omega
 refine (Kf (ns:=[row.toNat+1,c.toNat+1]) (f:=114) tG g2 (by simp only[zB3,zA9,zB4]; omega) (by simp only[nV,zB8,zE7,e1,e2]) rfl (Nat.succ_pos 1) rfl (by simp only[zA8,zD7,or_false]; rintro q (rfl|rfl)<;>omega) nl (by simp only[ae,zA5]; omega) nG (mG.ok j)).mono ?_
 have C:∀ {X Y:aa} {w u:go},Mod (ae v) H X->(∀ q∈ae w,b+1<=q)->bk X (b+0)=a9 ⟨58,ci,[Value.int kw r,jp kw row,jp kw c,jp kw n,jp kw look.fore,jp kw look.back,ls look.bold,ls look.under,ls look.inv,.string text]⟩->b+1<=X.next->Mod (ae w) X Y->(∀ n∈ae u,n∈ae w\/X.next<=n) ->
   Mod (ae v) H Y/\(∀ q∈ae u,b+1<=q)/\bk Y (b+0)=a9 ⟨58,ci,[Value.int kw r,jp kw row,jp kw c,jp kw n,jp kw look.fore,jp kw look.back,ls look.bold,ls look.under,ls look.inv,.string text]⟩/\b+1<=Y.next:=fun mX hw kX hX D M =>
  ⟨mX.step D j fun q s=>.inr (by have:=hw q s; omega),fun q s=>(M q s).elim (hw q) fun h=>by omega,(D.bk lw fun h=>by have:=hw _ h; omega).trans kX,by have:=D.next; omega⟩
 have w5:∀ q∈ae (Value.slice (a9 ⟨b+1+1,0,bi⟩) (l.length+2) (l.length+2)),b+1<=q:=fun q s=>by simp only[ae,zA5]at s; omega
 have lc:∀(l:List UInt8)(a:List Nat)(f:UInt8),a.length<=2->(l++gA a f).length<=l.length+13:=fun l a f h=>by have:=join_le a;simp only[gA,zB3,zA9,zB4];omega
 rintro out Y ⟨D,u,rfl,u1,u2⟩;obtain⟨D,M,kY,bY⟩:=C mG w5 kG lw D u2;have lY:=lc (l++[27,55]) [row.toNat+1,c.toNat+1] 114 nl;have l0:(l++[27,55]).length=l.length+2:=by simp
 obtain⟨y,A⟩:=ac Y.next;have okY:=D.ok j;have bby:Y.base<=y:=A▸okY;have ly:b+0<y:=by omega
 rw[show Y=ext Y [] from rfl];simp only[A,ly,kY,w3,cm,zW,seval];have e3:(((0+1:Nat)):Int)=1:=rfl;refine (Kf (ns:=[row.toNat+1,0+1]) (f:=72) (t.mod D h2) u1 lw (by simp only[nV,zB8,zE7,e1,e3]) rfl (Nat.succ_pos 1) rfl (by simp only[zA8,zD7,or_false]; rintro q (rfl|rfl)<;>omega) nl (fun h=>by have:=M _ h; omega) A okY).mono ?_;rintro out Z ⟨mZ,u',rfl,R,S⟩;obtain⟨mZ,I,kZ,bZ⟩:=C D M kY bY mZ S;have lZ:=lc (l++[27,55]++gA [row.toNat+1,c.toNat+1] 114) [row.toNat+1,0+1] 72 nl;clear A bby ly;obtain⟨y,A⟩:=ac Z.next;have okZ:=mZ.ok j;have ly:b+0<y:=by omega
 rw[show Z=ext Z [] from rfl];simp only[A,ly,kZ,cm,zW,seval];have e4:((n.toNat:Nat):Int)=n:=by omega
 refine (Kf (ns:=[n.toNat]) (f:=cond up 77 76) (t.mod mZ h2) R lw (by simp only[nV,zB8,zE7,e4]) rfl (Nat.succ_pos 0) (by cases up<;>rfl) (by simp only[zA8,zD7,or_false]; rintro q rfl; omega) nl (fun h=>by have:=I _ h; omega) A okZ).mono ?_;rintro out W ⟨mW,u,rfl,u1,u2⟩;obtain⟨mW,M,kW,bW⟩:=C mZ I kZ bZ mW u2;have lW:=lc (l++[27,55]++gA [row.toNat+1,c.toNat+1] 114++gA [row.toNat+1,0+1] 72) [n.toNat] (cond up 77 76) nl;have okW:=mW.ok j;rw[show W=ext W [] from rfl];simp only[zW,seval];refine (TJ (X:=W) (f:=114) (t.mod mW h2) u1 lw rfl (fun h=>by have:=M _ h; omega) okW).mono ?_;rintro out V ⟨mV,u',rfl,R,S⟩;obtain⟨mV,I,kV,bV⟩:=C mW M kW bW mV S;have lV:=lc (l++[27,55]++gA [row.toNat+1,c.toNat+1] 114++gA [row.toNat+1,0+1] 72++gA [n.toNat] (cond up 77 76)) [] 114 nl;obtain⟨y,A⟩:=ac V.next;have okV:=mV.ok j;obtain⟨G',g1,g2,g3,g4⟩:=AF (cs:=[27,56]) (L:=[.int .u8 27,.int .u8 56]) (k:=2) R rfl rfl ol lw ol A okV;rw[show V=ext V [] from rfl];simp only[A,g1,Tryz.results53,zW,seval];have mF:Mod (ae v) H G':=mV.step g3 j fun q s=>.inr (by have:=I q s; omega);refine⟨mF,_,rfl,?_,fun q s=>.inr (by simp only[ae,zA5]at s; omega)⟩;have eq:l++w9 row.toNat c.toNat n.toNat up=l++[27,55]++gA [row.toNat+1,c.toNat+1] 114++gA [row.toNat+1,0+1] 72++gA [n.toNat] (cond up 77 76)++gA [] 114++[27,56]:=by simp only[w9,zC8]
 rw[eq];exact g2
set_option maxRecDepth 100000
def HZ.trans{H X Y:aa}{v:go}{l:List UInt8}{r:Option (List UInt8)}{out:Out}(m:Mod [] H X)(h:HZ X v l r out Y):HZ H v l r out Y:=by
 obtain⟨a,b⟩:=h;refine⟨(m.mono nl).trans a,?_⟩
 cases r with
 |none=>exact b
 |some cs =>obtain⟨u,e,u1,c⟩:=b;exact⟨u,e,u1,fun n f=>(c n f).imp id fun h=>zC4 m.next h⟩
def HZ.two{H Y:aa}{v:go}{l:List UInt8}{r:Option (List UInt8)}{out:Out}(h:HZ H v l r out Y):∃ a z,out=.ok (.tuple #[a,ls z]):=by
 obtain⟨a,b⟩:=h
 cases r with
 |none=>obtain⟨x,e,_⟩:=b; exact⟨x,ci,e⟩
 |some cs=>obtain⟨u,e,_⟩:=b; exact⟨u,bv,e⟩
def TM(H:aa):Prop:=2<H.next/\Go.Proofs.YtpohjcacnkhnkaaGreatDoor.Od H/\Pow H
def TM.mod{H G:aa}{W:List Nat}(t:TM H)(m:Mod W H G)(h:∀ n∈W,2<n):TM G :=
 ⟨zE0 t.1 m.next,t.2.1.of (m.get 0 (by have:=t.1; omega) fun c=>by have:=h _ c; omega) (m.get 1 (by have:=t.1; omega) fun c=>by have:=h _ c; omega),t.2.2.mod m fun c=>by have:=h _ c; omega⟩
def Q5(H:aa)(t:TM H)(v:go)(l:List UInt8)(o:CB)(hv:cz H 5 1 v (ak l) l.length)(hl:l.length<=300000000)(hs:o.kind=3->o.text.size<=1000000000)(h2:∀ n∈ae v,2<n)(hok:H.base<=H.next) :
  bF Tryz.prog 24 [v,o.val] H (HZ H v l (mA o)):=by
 obtain⟨b,C⟩:=ac H.next;obtain⟨c,row,j,n,look,text⟩:=o;refine aI mixed Tryz.func24 rfl Tryz.ntmps24 (zA7 rfl) ?_;have mE:∀ L,Mod (ae v) H (ext H L):=fun L=>Mod.ext hok;unfold mA Op.val Op.cells;simp only;obtain⟨O,hO⟩:=ac ([Value.int kw c,jp kw row,jp kw j,jp kw n,jp kw look.fore,jp kw look.back,ls look.bold,ls look.under,ls look.inv,.string text]);obtain⟨I,hX0⟩:=ac (ext H [⟨58,ci,O⟩]);have m0:Mod [] H I:=hX0▸Mod.ext hok;have n0:I.next=b+1:=by rw[<-hX0,ai,C]; rfl
 have R:cz I 5 1 v (ak l) l.length:=hv.of m0.next fun q hq=>m0.get q (hv.ne q hq).2 nl;have t0:=t.mod m0 nl;have A:=m0.ok hok;have J:2∉ae v:=fun h=>by have:=h2 _ h; omega
 have S:ext H [⟨58,ci,[Value.int kw c,jp kw row,jp kw j,jp kw n,jp kw look.fore,jp kw look.back,ls look.bold,ls look.under,ls look.inv,.string text]⟩]=I:=by rw[hO]; exact hX0
 -- what a call answers is passed on
 have B:∀ {r:Option (List UInt8)} {out:Out} {Y:aa},HZ I v l r out Y->∃ a z,out=.ok (.tuple #[a,ls z])/\HZ H v l r (.ok (.tuple #[a,ls z])) Y:=fun h=>by obtain⟨a,z,rfl⟩:=h.two;exact⟨a,z,rfl,HZ.trans m0 h⟩
 by_cases k1:c=1
 .have D:f7 (c=1)=true:=decide_eq_true k1;rw[if_pos k1];by_cases c1:min row j<0
  .have e1:f7 (min row j<0)=true:=decide_eq_true c1;rw[if_neg lw];simp only[C,D,e1,Tryz.results24,zW,seval];exact⟨mE _,_,rfl,rfl⟩
  have e1:f7 (min row j<0)=false:=decide_eq_false c1;by_cases c2:9998<max row j
  .have e2:f7 (9998<max row j)=true:=decide_eq_true c2;rw[if_neg lw];simp only[C,D,e1,e2,Tryz.results24,zW,seval];exact⟨mE _,_,rfl,rfl⟩
  have e2:f7 (9998<max row j)=false:=decide_eq_false c2;rw[if_pos lw];have w3:IntKind.i64.wrap (row+1)=row+1:=by rw[IntKind.wrap_i64]; omega
  have w4:IntKind.i64.wrap (j+1)=j+1:=by rw[IntKind.wrap_i64]; omega
  have e3:(((row.toNat+1:Nat)):Int)=row+1:=by omega
  have e4:(((j.toNat+1:Nat)):Int)=j+1:=by omega
  simp only[C,D,e1,e2,w3,w4,zW,seval];have hXL:ext H [⟨58,ci,[Value.int kw c,jp kw row,jp kw j,jp kw n,jp kw look.fore,jp kw look.back,ls look.bold,ls look.under,ls look.inv,.string text]⟩,⟨3,ci,[jp kw (row+1),jp kw (j+1)]⟩]=ext I [⟨3,ci,[jp kw (row+1),jp kw (j+1)]⟩]:=by rw[<-S,j0]; rfl
  rw[hXL];refine (Kf (ns:=[row.toNat+1,j.toNat+1]) (f:=72) t0.2.2 R lw (by simp only[nV,zB8,zE7,e3,e4]) rfl (Nat.succ_pos 1) rfl (by simp only[zA8,zD7,or_false]; rintro q (rfl|rfl)<;>omega) nl J n0 A).mono ?_;rintro out Y ⟨mY,u,rfl,u1,u2⟩;rw[show Y=ext Y [] from rfl];simp only[Tryz.results24,zW,seval];exact HZ.trans m0 ⟨mY,u,rfl,u1,u2⟩
 have D:f7 (c=1)=false:=decide_eq_false k1;rw[if_neg k1];by_cases k2:c=2
 .have M:f7 (c=2)=true:=decide_eq_true k2;rw[if_pos k2];simp only[C,D,M,zW,seval];rw[S];refine (UE I t0.2.2 v l look R lw J A).mono ?_;intro out Y h;obtain⟨a,z,rfl,h'⟩:=B h;rw[show Y=ext Y [] from rfl];simp only[Tryz.results24,zW,seval];exact h'
 have M:f7 (c=2)=false:=decide_eq_false k2;rw[if_neg k2];by_cases k3:c=3
 .have T:f7 (c=3)=true:=decide_eq_true k3;rw[if_pos k3];simp only[C,D,M,T,zW,seval];rw[S];refine (T9 I t0.2.1 (by have:=t0.1; omega) v l text R lw (hs k3) h2 A).mono ?_;intro out Y h;obtain⟨a,z,rfl,h'⟩:=B h;rw[show Y=ext Y [] from rfl];simp only[Tryz.results24,zW,seval];exact h'
 have T:f7 (c=3)=false:=decide_eq_false k3;rw[if_neg k3];by_cases k4:c=4
 .have d4:f7 (c=4)=true:=decide_eq_true k4;rw[if_pos k4];simp only[C,D,M,T,d4,zW,seval];rw[S];refine (TJ (X:=I) (f:=75) t0.2.2 R lw rfl J A).mono ?_;rintro out Y ⟨mY,u,rfl,u1,u2⟩;rw[show Y=ext Y [] from rfl];simp only[Tryz.results24,zW,seval];exact HZ.trans m0 ⟨mY,u,rfl,u1,u2⟩
 have d4:f7 (c=4)=false:=decide_eq_false k4;rw[if_neg k4];by_cases k5:c=5
 .have V:f7 (c=5)=true:=decide_eq_true k5;rw[if_pos (.inl k5),V];simp only[C,D,M,T,d4,V,zW,seval];rw[S];refine (uT I t0.2.2 v l ⟨c,row,j,n,look,text⟩ bv R hl J A).mono ?_;intro out Y h;obtain⟨a,z,rfl,h'⟩:=B h;rw[show Y=ext Y [] from rfl];simp only[Tryz.results24,zW,seval];exact h'
 have V:f7 (c=5)=false:=decide_eq_false k5;by_cases k6:c=6
 .have d6:f7 (c=6)=true:=decide_eq_true k6;rw[if_pos (.inr k6),V];simp only[C,D,M,T,d4,V,d6,zW,seval];rw[S];refine (uT I t0.2.2 v l ⟨c,row,j,n,look,text⟩ ci R hl J A).mono ?_;intro out Y h;obtain⟨a,z,rfl,h'⟩:=B h;rw[show Y=ext Y [] from rfl];simp only[Tryz.results24,zW,seval];exact h'
 have d6:f7 (c=6)=false:=decide_eq_false k6;rw[if_neg lw];by_cases k7:c=7
 .have d7:f7 (c=7)=true:=decide_eq_true k7;rw[if_pos k7];obtain⟨u,G,g1,g2,g3,g4⟩:=D9 (s:=⟨#[27,91,63,50,53,104]⟩) R lw ol A;simp only[C,D,M,T,d4,V,d6,d7,zW,seval];rw[S,g1,show G=ext G [] from rfl];simp only[Tryz.results24,zW,seval];exact HZ.trans m0 ⟨g3,u,rfl,g2,g4⟩
 have d7:f7 (c=7)=false:=decide_eq_false k7;rw[if_neg k7];by_cases k8:c=8
 .have d8:f7 (c=8)=true:=decide_eq_true k8;rw[if_pos k8];obtain⟨u,G,g1,g2,g3,g4⟩:=D9 (s:=⟨#[27,91,63,50,53,108]⟩) R lw ol A;simp only[C,D,M,T,d4,V,d6,d7,d8,zW,seval];rw[S,g1,show G=ext G [] from rfl];simp only[Tryz.results24,zW,seval];exact HZ.trans m0 ⟨g3,u,rfl,g2,g4⟩
 have d8:f7 (c=8)=false:=decide_eq_false k8;rw[if_neg k8];simp only[C,D,M,T,d4,V,d6,d7,d8,Tryz.results24,zW,seval];exact⟨mE _,_,rfl,rfl⟩
set_option maxRecDepth 100000
def wX(o:CB):∀ l:List CB,eS (l++[o])=(eS l).bind fun b=>(mA o).map (b++·)
 |[]=>by have c:eS []=a9 []:=rfl;rw[zB6,c,eS,c];cases mA o<;>simp
 |a::l=>by
  rw[zE3,eS,wX o l,eS]
  cases mA a with
  |none=>rfl
  |some x =>
   cases eS l with
   |none=>rfl
   |some y =>cases mA o<;>simp
def zR{o:CB}(h:mA o=bi):∀ {l:List CB},o∈l->eS l=bi
 |a::l,hm=>by
  rw[eS];rcases zA8.1 hm with rfl|hm
  .rw[h]
  .rw[zR h hm];cases mA a<;>rfl
def GN{o:CB}{l:List CB}{k:Nat}(h:l[k]?=a9 o):eS (l.take (k+1))=(eS (l.take k)).bind fun b=>(mA o).map (b++·):=by rw[zG4,h,Option.toList_some,wX]
def vD{l:List CB}(j:∀ o∈l,∀ b,mA o=a9 b->b.length<=400):∀ {b},eS l=a9 b->b.length<=400*l.length:=by
 induction l with
 |nil=>intro b h; cases h; simp
 |cons a l n =>
  intro b h;rw[eS]at h
  cases c:mA a with
  |none=>rw[c]at h; cases h
  |some x =>
   cases f:eS l with
   |none=>rw[c,f]at h; cases h
   |some y =>rw[c,f]at h;cases h;have s:=j a nl x c;have t:=n (fun o r=>j o (by simp[r])) f;rw[zB3,zA9];omega
def WQ(H:aa)(r:Option (List UInt8))(out:Out)(X:aa):Prop :=
 Mod [] H X/\match r with
  |some cs=>∃ u,out=.ok (.tuple #[u,jp kw 0])/\cz X 5 1 u (ak cs) cs.length/\∀ n∈ae u,H.next<=n
  |none=>out=.ok (.tuple #[lm bi 0 0,jp kw 5])
def SO(H:aa)(t:TM H)(v:go)(l:List CB)(hv:iP H v l)(hl:l.length<=7500)(hB:∀ k b,eS (l.take k)=a9 b->b.length<=300000000)(hs:∀ o∈l,o.kind=3->o.text.size<=1000000000)(hsc:aV H.next v=bv)(A:H.base<=H.next) :
  bF Tryz.prog 7 [v] H (WQ H (eS l)):=by
 obtain⟨va,vc,ev⟩:=hv.sl;refine aI mixed Tryz.func7 rfl Tryz.ntmps7 (zA7 rfl) ?_;rw[ev];simp only[zW,seval];rw[<-ev];refine da fun E R=>?_;have I:E 8=v:=by rw[R]; rfl
 have J:E 9=jp kw (l.length:Int):=by rw[R]; rfl
 have f:E 10=jp kw ((0:Nat):Int):=by rw[R]; rfl
 have M:E 4=lm bi 0 0:=by rw[R]; rfl
 clear R;refine cp (fun (q:Nat × List UInt8 × go) E' X=>q.1<=l.length/\Mod [] H X/\eS (l.take q.1)=a9 q.2.1/\cz X 5 1 q.2.2 (ak q.2.1) q.2.1.length/\(∀ n∈ae q.2.2,H.next<=n)/\E' 4=q.2.2/\E' 8=v/\E' 9=jp kw (l.length:Int)/\E' 10=jp kw (q.1:Int)) (fun q=>l.length-q.1) (0,[],lm bi 0 0) ⟨zB7 _,Mod.refl,rfl,cz.nil,fun n hn=>by simp[ae]at hn,M,I,J,f⟩ ?_;clear M I J f E;rintro⟨i,S,u⟩ E X ⟨hi,O,j,vX,T,M,I,J,f⟩;simp only at hi j vX T M f;have V:=O.ok A;obtain⟨y,hy⟩:=ac X.next;have yb:X.base<=y:=hy▸V;have hnx:=O.next;have hbl:=hB i S j;have hvX:iP X v l:=hv.of O.next fun n hn=>O.get n (fY _ hsc n hn) nl;rw[show X=ext X [] from rfl];by_cases r:i<l.length
 .have hd:f7 ((i:Int)<(l.length:Int))=true:=decide_eq_true lw
  obtain⟨o,B⟩:∃ o,l[i]?=a9 o:=⟨_,zB0 r⟩
  have hom:=zC5 B
  rcases hvX with⟨hnil,_⟩|⟨_,n,off,s,c,e,op,L,e1,r1,n1,hle,hL⟩
  .rw[hnil]at r; simp at r
  have i1:=TE (cap:=c) (n:=n) (off:=off) (s:=s) (i:=(i:Int)) rfl r;have l1:=J9 (e:=e) (o:=op) B hle hL;rw[hy]at n1;rw[e1]at I;have hw1:IntKind.i64.wrap ((i:Int)+1)=((i+1:Nat):Int):=by rw[IntKind.wrap_i64]; omega
  unfold Op.val Op.cells at l1;simp only[M,I,J,f,hy,yb,hd,i1,n1,r1,l1,cm,zW,seval];obtain⟨X1,hX1⟩:=ac (ext X [⟨58,ci,[Value.int kw o.kind,jp kw o.row,jp kw o.col,jp kw o.n,jp kw o.look.fore,jp kw o.look.back,ls o.look.bold,ls o.look.under,ls o.look.inv,.string o.text]⟩]);have m1:Mod [] X X1:=hX1▸Mod.ext V;have z:=O.trans m1;have vX1:cz X1 5 1 u (ak S) S.length:=vX.of m1.next fun q C=>m1.get q (vX.ne q C).2 nl;have t2:=t.1;rw[hX1];refine (Q5 X1 (t.mod z nl) u S o vX1 lw (hs o hom) (fun q C=>by have:=T q C; omega) (z.ok A)).mono ?_;intro out Y h;obtain⟨mY,h⟩:=h;have mHY:Mod [] H Y:=z.step mY A fun q C=>.inr (T q C);have D:=GN B;rw[j,zA3]at D
  cases he:mA o with
  |none =>rw[he]at h;obtain⟨x,rfl,hx⟩:=h;rw[show Y=ext Y [] from rfl];simp only[Tryz.results7,zW,seval];rw[zR he hom];exact⟨mHY,rfl⟩
  |some cs =>rw[he]at h D;obtain⟨w,rfl,w1,w2⟩:=h;rw[show Y=ext Y [] from rfl];simp only[f,hw1,zW,seval];refine aG ⟨(i+1,S++cs,w),by simp only; omega,by simp only; omega,mHY,D,w1,fun q C=>(w2 q C).elim (T q) fun h=>zC4 z.next h,by simp only[aF,seval],by simp only[I,e1,aF,seval],by simp only[J,aF,seval],by simp only[aF]⟩
 .have hd:f7 ((i:Int)<(l.length:Int))=false:=decide_eq_false lw;simp only[M,J,f,hd,Tryz.results7,zW,seval];rw[zD4 lw]at j;rw[j];exact⟨O,u,rfl,vX,T⟩
def Ly(H:aa)(t:TM H)(v:go)(l:List CB)(h:iP H v l)(j:l.length<=7500)(n:∀ o∈l,∀ b,mA o=a9 b->b.length<=400)(r:∀ o∈l,o.kind=3->o.text.size<=1000000000)(c:aV H.next v=bv)(f:H.base<=H.next) :
  bF Tryz.prog 7 [v] H (WQ H (eS l)):=by
 refine SO H t v l h j (fun k b s=>?_) r c f;have:=vD (fun o z=>n o (zE2 z)) s;rw[zD9]at this;have:=Nat.min_le_right k l.length;omega
end Go.Proofs.YtpohjcacnkhnkaaGreatDoor.Tq
namespace Go.Ax
section
variable{P:ip}{ro:Option Nat}{H:aa}{N:Nat}{E:Env}{ds:List Deferred}
def R4{f:FuncId}{x:i7}{args:List i7}{ts:Array io}{dst:Option Nat}{ops:Array Oper}{rest:List Oper}{ty:io}{pos:String}{after:Array Edge}{Q:Exit->ah->aa->Prop}{fs ca:List go}(hx:bj P N x=bv)(c:cy E x=.func (.func f) ⟨fs⟩ ⟨ca⟩)(j:args.all (bj P N)=bv)(n:aD P f=bv)
  (h:bF P f (fs++args.map (cy E)++ca) H (FZ P ro ops rest (bu N E ds) dst Q)) :
  wpOps P ro ops (⟨dst,.call ⟨.value x,⟨args⟩,ts⟩,ty,pos,after,bi⟩::rest) (bu N E ds) H Q:=by
 rw[yf rfl rfl];simp only[Bv,cE,kH,cD j,aH hx,c,zA1,zA3,pA,fe,jh,n,if_true,zB2,mO];exact h
end
end Go.Ax
namespace Go.Proofs.YtpohjcacnkhnkaaGreatDoor.Tq
open Go.Ax
def oD(H:aa)(v:go)(l:List UInt8):Prop :=
 (∃ a,v=.slice a l.length l.length)/\∀(k:Nat)(c:UInt8),l[k]?=a9 c->∃ n off,aW Tryz.prog 25 v (jp kw (k:Int))=a9 (li (a9 ⟨n,off,bi⟩))/\n∈ae v/\∀ q,rL Tryz.prog 5 off (HY (bk H n) q)=a9 (kA c)
def oD.of{H G:aa}{v:go}{l:List UInt8}(h:oD H v l)(j:∀ n∈ae v,G.get n=H.get n):oD G v l :=
 ⟨h.1,fun k c o=>by
  obtain⟨n,off,r,f,s⟩:=h.2 k c o
  exact⟨n,off,r,f,fun q=>by rw[bg (j n f)]; exact s q⟩⟩
def Ak{H:aa}{n:Nat}{o:Bool}{sp:Option Nat}{l:List UInt8}(h:bk H n=a9 ⟨5,o,ak l⟩):oD H (lm (a9 ⟨n,0,sp⟩) l.length l.length) l :=
 ⟨⟨_,rfl⟩,fun k c f=>by
  have j:k<l.length:=by
   rcases zC0 k l.length with h'|h'
   .exact h'
   .rw[zD3 h']at f; cases f
  refine⟨n,0+k,Mc rfl j,by simp[ae],fun q=>?_⟩;rw[h,jL,lf m9,zC2,zy,f]
  rfl⟩
def CK(X:aa)(s:ByteArray)(c:s.data.toList.length<=1000000000):bB Tryz.prog (ext X []) 9 25 (.string s)=a9 (lm (a9 ⟨X.next,0,bi⟩) s.data.toList.length s.data.toList.length,ext X [⟨5,bv,ak s.data.toList⟩]):=by
 have f:Tryz.prog.underlying 25=a9 (.slice 5):=by kernel_rfl
 have h:Tryz.prog.underlying 9=a9 .string:=by kernel_rfl
 have j:Tryz.prog.underlying 5=a9 (.int .u8):=by kernel_rfl
 have n:br Tryz.prog 5=a9 1:=by kernel_rfl
 have r:=ey (H:=X) (L:=[]) (e:=5) (l:=ak s.data.toList) (o:=true) (vo _ _);have t:s.size=s.data.toList.length:=by rw[Array.length_toList]; rfl
 simp only[bB,f,h,j,n,zA1,zA3,r,t];rw[if_pos (Nat.ble_eq_true_of_le c)];rfl
def Tm.byte(t:Tm)(c:UInt8):Tm × Nat:=match t.mode with
 |0=>t.plain ek c
 |1=>t.second c
 |2=>(t,0)
 |3=>t.parameter c
 |_=>t.ignore c
def Tm.gp(t:Tm)(m:Nat):Tm:={t with mode:=m}
def step_eq(t:Tm)(c:UInt8):t.step ek c=(t.byte c).1.gp (t.byte c).2:=by
 unfold Tm.step Tm.byte
 match t.mode with
 |0=>rfl
 |1=>rfl
 |2=>rfl
 |3=>rfl
 |_+4=>rfl
def Tm.Sz.gp{x:Tm}(s:x.Sz){m:Nat}(h:m<5):(x.gp m).Sz :=
 ⟨s.h1,s.h2,s.w1,s.w2,s.ws,s.r1,s.r2,s.c1,s.c2,s.sr1,s.sr2,s.sc1,s.sc2,s.t1,s.t2,s.t3,h,s.hd⟩
def ux:∀(k:Nat)(x:Tm),x.Sz->(Tm.drain ek k x).1.Sz/\(Tm.drain ek k x).2<5/\(Tm.drain ek k x).1.params=x.params/\(Tm.drain ek k x).1.rest.length<=x.rest.length
 |0,x,s=>⟨s,by simp[Tm.drain],rfl,zA4 _⟩
 |k+1,x,s=>by
  rw[Tm.drain];by_cases h:x.rest≠[]/\ek.full x.rest=bv
  .rw[if_pos h];by_cases f:x.rest.headD 0=27
   .rw[if_pos f];exact⟨s.aN [],by simp,rfl,by simp⟩
   .rw[if_neg f]
    obtain⟨r,n,e⟩:∃ r n,ek.dec x.rest=(r,n):=⟨_,_,rfl⟩
    simp only[e];obtain⟨y,j⟩:=ac ((if r≠65533\/n>1 then x.character ek r else x));rw[j]
    have c:y.Sz/\y.params=x.params/\y.rest=x.rest:=by
     rw[<-j];split
     .exact⟨s.character r,(il ek x r).2,(il ek x r).1⟩
     .exact⟨s,rfl,rfl⟩
    obtain⟨o,t,z,A⟩:=ux k (y.aN (y.rest.drop n)) (c.1.aN _);refine⟨o,t,z.trans c.2.1,zC4 A ?_⟩;simp only[Tm.aN,zC6,c.2.2];omega
  .rw[if_neg h];exact⟨s,by simp,rfl,zA4 _⟩
def qC(x:Tm)(l:List Int):(x.cg l).params=x.params/\(x.cg l).rest=x.rest:=by
 unfold Tm.cg;split
 .exact⟨rfl,rfl⟩
 .split
  .exact⟨rfl,rfl⟩
  .split<;>exact⟨rfl,rfl⟩
def uJ(l:List Int):∀(k i:Nat)(x:Tm),(Tm.c9 l i k x).params=x.params/\(Tm.c9 l i k x).rest=x.rest
 |0,_,_=>⟨rfl,rfl⟩
 |k+1,i,x=>by rw[ij];obtain⟨a,b⟩:=uJ l k (i+1) (x.cR l i);rw[a,b];unfold Tm.cR;split<;>exact⟨rfl,rfl⟩
def Jo(x:Tm)(f:UInt8)(l:List Int):(x.cQ f l).params=x.params/\(x.cQ f l).rest=x.rest:=by
 cases I:oT f.toNat with
 |none=>rw[zp I]; exact⟨rfl,rfl⟩
 |some g =>
  unfold Tm.cQ;by_cases n:f=65
  .rw[if_pos n]; exact⟨rfl,rfl⟩
  rw[if_neg n];by_cases o:f=66
  .rw[if_pos o]; exact⟨rfl,rfl⟩
  rw[if_neg o];by_cases r:f=67
  .rw[if_pos r]; exact⟨rfl,rfl⟩
  rw[if_neg r];by_cases s:f=68
  .rw[if_pos s]; exact⟨rfl,rfl⟩
  rw[if_neg s];by_cases t:f=71
  .rw[if_pos t]; exact⟨rfl,rfl⟩
  rw[if_neg t];by_cases z:f=100
  .rw[if_pos z]; exact⟨rfl,rfl⟩
  rw[if_neg z];by_cases A:f=72\/f=102
  .rw[if_pos A]; exact⟨rfl,rfl⟩
  rw[if_neg A];by_cases B:f=74
  .rw[if_pos B];obtain⟨a,b⟩:=uJ l x.aj.length 0 (x.cg l);exact⟨a.trans (qC x l).1,b.trans (qC x l).2⟩
  rw[if_neg B];by_cases C:f=75
  .rw[if_pos C]; exact qC x l
  rw[if_neg C];by_cases D:f=76
  .rw[if_pos D]; unfold Tm.lines; split<;>exact⟨rfl,rfl⟩
  rw[if_neg D];by_cases c:f=77
  .rw[if_pos c]; unfold Tm.lines; split<;>exact⟨rfl,rfl⟩
  rw[if_neg c];by_cases h:f=109
  .rw[if_pos h]; exact⟨rfl,rfl⟩
  rw[if_neg h];by_cases j:f=114
  .rw[if_pos j,nR]; split<;>exact⟨rfl,rfl⟩
  rw[if_neg j]; exact⟨rfl,rfl⟩
def Bc(x:Tm)(f:UInt8):(x.dP f).params=x.params/\(x.dP f).rest=x.rest:=by
 unfold Tm.dP;split
 .exact⟨rfl,rfl⟩
 .split
  .exact Jo x f _
  .exact⟨rfl,rfl⟩
def tE{x:Tm}(s:x.Sz)(f:x.params.length<=65)(c:UInt8):(x.byte c).1.Sz/\(x.byte c).2<5/\(x.byte c).1.params.length<=65/\(x.byte c).1.rest.length<=x.rest.length+1:=by
 unfold Tm.byte;split
 .obtain⟨a,b,d,e⟩:=ux (x.rest.length+2) (x.aN (x.rest++[c])) (s.aN _);refine⟨a,b,?_,?_⟩
  .show (Tm.drain ek (x.rest.length+2) (x.aN (x.rest++[c]))).1.params.length<=65;rw[d]; exact f
  .refine zC4 e ?_;simp[Tm.aN]
 .refine⟨s.second c,?_⟩;unfold Tm.second;by_cases j:c=91
  .rw[if_pos j]; exact⟨by simp,by simp,by simp⟩
  rw[if_neg j];by_cases n:c=93
  .rw[if_pos n]; exact⟨by simp,f,by simp⟩
  rw[if_neg n];by_cases o:c=27
  .rw[if_pos o]; exact⟨by simp,f,by simp⟩
  rw[if_neg o];by_cases r:32<=c/\c<48
  .rw[if_pos r]; exact⟨by simp,f,by simp⟩
  rw[if_neg r];by_cases t:c=55
  .rw[if_pos t]; exact⟨by simp,f,by simp⟩
  rw[if_neg t];by_cases z:c=56
  .rw[if_pos z]; exact⟨by simp,f,by simp⟩
  rw[if_neg z];by_cases A:c=99
  .rw[if_pos A]; exact⟨by simp,by simp[Tm.new],by simp[Tm.new]⟩
  rw[if_neg A];by_cases B:c=77/\x.row=x.top
  .rw[if_pos B]; exact⟨by simp,f,by simp[Tm.fA]⟩
  rw[if_neg B];by_cases C:c=77
  .rw[if_pos C]; exact⟨by simp,f,by simp⟩
  rw[if_neg C]; exact⟨by simp,f,by simp⟩
 .exact⟨s,by simp,f,by simp⟩
 .refine⟨s.parameter c,?_⟩;unfold Tm.parameter;by_cases j:c=27
  .rw[if_pos j]; exact⟨by simp,f,by simp⟩
  rw[if_neg j];by_cases n:64<=c/\c<=126
  .rw[if_pos n];simp only;split
   .obtain⟨a,b⟩:=Bc x c;rw[a,b];exact⟨by omega,f,by omega⟩
   .exact⟨by simp,f,by simp⟩
  rw[if_neg n];by_cases o:c<32\/c>126\/(c ≥ 48/\x.middle=bv)
  .rw[if_pos o]; exact⟨by simp,f,by simp⟩
  rw[if_neg o];simp only;split
  .rename_i h;exact⟨by simp,by simp only[zB3,zA9,zB4]at h ⊢; omega,by simp⟩
  .exact⟨by simp,f,by simp⟩
 .unfold Tm.ignore;split
  .exact⟨s,by simp,f,by simp⟩
  .exact⟨s.FY c,by simp,f,by simp⟩
def UD(H:aa)(p:Rp)(x:Tm)(c:UInt8)(g:cx H p x)(s:x.Sz)(ok:H.base<=H.next)(n:ti H)(o:0∉p.aM)(r:1∉p.aM)(f:x.rest.length<=900)(j:x.params.length<=65) :
  iK (41+x.mode) [kA c] H p (jp kw ((x.byte c).2:Int)) (x.byte c).1:=by
 have z:=s.md;have t:x.mode=0\/x.mode=1\/x.mode=2\/x.mode=3\/x.mode=4:=by omega
 unfold Tm.byte;rcases t with h|h|h|h|h<;>rw[h]
 .exact SU H p x c g s ok n o r f
 .exact Mu H p x c g s ok
 .exact (Ul H p x c).to ⟨rfl,p,Step.refl g⟩
 .exact GO H p x c g s ok j
 .exact OJ H p x c g ok
def NB(x:Tm)(l:List UInt8)(c:UInt8):x.feed ek (l++[c])=(x.feed ek l).step ek c:=by simp[Tm.feed]
def Dr(H:aa)(p:Rp)(x:Tm)(v:go)(B:List UInt8)(g:cx H p x)(s:x.Sz)(ok:H.base<=H.next)(tb:ti H)(p0:0∉p.aM)(p1:1∉p.aM)(hb:oD H v B)(J:∀ n∈ae v,n<H.next)(hv:∀ n∈ae v,n∉p.aM)(hrl:∀ k,(x.feed ek (B.take k)).rest.length<=900)(hbl:B.length<=3000000)(hpl:x.params.length<=65) :
  bF Tryz.prog 21 [li (a9 ⟨p.t,0,bi⟩),v] H fun out H1=>out=.ok (jp kw 0)/\(∃ p',Step H p H1 p' (x.feed ek B)):=by
 obtain⟨b,hn⟩:=ac (H.next);have hbb:H.base<=b:=hn▸ok;have hT:p.t<b:=hn▸g.lt p.t pi;obtain⟨av,M⟩:=hb.1;obtain⟨L,hL⟩:=ac (B.length);rw[hL]at M hbl;refine aI mixed Tryz.func21 rfl Tryz.ntmps21 (zA7 rfl) ?_;rw[M];simp (maxDischargeDepth:=6) only[zW,seval];refine (Pw (ext H []) p x g s).to ?_;simp (maxDischargeDepth:=6) only[hn,hbb,hT,zW,seval];generalize O:ext H [_]=H0;have D:Mod [] H H0:=O▸Mod.ext ok;have I:=D.ok ok;have g0':cx H0 p x:=g.of D.next fun n C=>D.get n (g.lt n C) nl;have tb0:ti H0:=by have b0:=D.bk tb.l0 nl;have b1:=D.bk tb.l1 nl;exact⟨fun a ha=>by rw[b0]; exact tb.f a ha,fun i hi=>by rw[b1]; exact tb.a i hi,D.lt tb.l0,D.lt tb.l1⟩
 have hH0n:H0.next=b+1:=by rw[<-O,ai,hn]; rfl
 have hfun:∀ m:Nat,m<5->∀ q,rL Tryz.prog 85 m (HY (bk H0 (b+0)) q)=a9 (.func (.func (41+m)) ⟨[li (a9 ⟨p.t,0,bi⟩)]⟩ ⟨[]⟩):=by
  intro m hm q;rw[<-O,aZ hn nl,zG1,jL];have:m=0\/m=1\/m=2\/m=3\/m=4:=by omega
  rcases this with rfl|rfl|rfl|rfl|rfl<;>exact lf m9
 have hb0:oD H0 v B:=hb.of fun n C=>D.get n (J n C) nl;have hv0:∀ n∈ae v,n<H0.next:=fun n C=>D.lt (J n C);have hp0n:b+0∉p.aM:=fun h=>by have:=g.lt _ h; omega
 refine da fun E hE=>?_;have f0:E 0=li (a9 ⟨p.t,0,bi⟩):=by rw[hE]; simp only[aF,seval]
 have f5:E 5=li (a9 ⟨b+0,0,bi⟩):=by rw[hE]; simp only[aF,seval]
 have A:E 22=.slice av L L:=by rw[hE]; simp only[aF,seval]
 have r:E 23=jp kw (L:Int):=by rw[hE]; simp only[aF,seval]
 have j:E 24=jp kw ((0:Nat):Int):=by rw[hE]; (simp only[aF]<;>rfl)
 clear hE
 have R:∀ m:Nat,m<5->aD Tryz.prog (41+m)=true:=by
  intro m hm;have:m=0\/m=1\/m=2\/m=3\/m=4:=by omega
  have hall:([41,42,43,44,45].all (aD Tryz.prog))=true:=by kernel_rfl
  have hget:=zC3.1 hall;rcases this with rfl|rfl|rfl|rfl|rfl<;>exact hget _ nl
 refine aS (fun E' H'=>∃ p',Step H0 p H' p' (x.feed ek B)) ?_ ?_
 .refine cp (fun (q:Nat × Tm × Rp) E' H'=>Step H0 p H' q.2.2 q.2.1/\q.2.1.Sz/\q.1<=L/\q.2.1=x.feed ek (B.take q.1)/\q.2.1.params.length<=65/\E' 0=li (a9 ⟨p.t,0,bi⟩)/\E' 5=li (a9 ⟨b+0,0,bi⟩)/\E' 22=.slice av L L/\E' 23=jp kw (L:Int)/\E' 24=jp kw (q.1:Int)) (fun q=>L-q.1) (0,x,p)
   ⟨Step.refl g0',s,zB7 _,by simp[Tm.feed],hpl,f0,f5,A,r,j⟩ ?_
  clear f0 f5 A r j E;rintro⟨i,y,p2⟩ E X ⟨st,sy,hi,hy,S,f0,f5,A,r,j⟩;simp only at st sy hi hy S j;have hry:y.rest.length<=900:=hy▸hrl i;rw[show X=ext X [] from rfl];have okX:=st.ok I;by_cases hie:i=L
  .have hd:f7 ((i:Int)<(L:Int))=false:=decide_eq_false lw;simp (maxDischargeDepth:=6) only[r,j,hd,zW,seval];rw[hie,<-hL,zH2]at hy;rw[hy]at st;exact ag ⟨p2,st⟩
  .have hd:f7 ((i:Int)<(L:Int))=true:=decide_eq_true lw
   obtain⟨c,hc⟩:∃ c,B[i]?=a9 c:=⟨_,zB0 lw⟩
   obtain⟨n1,o1,i1,m1,ld1⟩:=hb0.2 i c hc;rw[M]at i1;obtain⟨xb,T⟩:=ac (X.next);have t1:n1<xb:=T▸st.mod.lt (hv0 n1 m1);have ld1':∀ q,rL Tryz.prog 5 o1 (HY (bk X n1) q)=a9 (kA c):=fun q=>by rw[st.mod.bk (hv0 n1 m1) (hv n1 m1)]; exact ld1 q
   have hTx:p.t<xb:=T▸st.same▸st.at_.lt p2.t pi;have z:=st.at_.cell;rw[st.same]at z;simp only[bh]at z;have hmd:=sy.md;have hfx:∀ q,rL Tryz.prog 85 y.mode (HY (bk X (b+0)) q)=a9 (.func (.func (41+y.mode)) ⟨[li (a9 ⟨p.t,0,bi⟩)]⟩ ⟨[]⟩):=by intro q; rw[st.mod.bk lw hp0n]; exact hfun y.mode hmd q
   have hb0x:b+0<xb:=by have:=st.mod.next; omega
   have hia:aW Tryz.prog 86 (li (a9 ⟨b+0,0,bi⟩)) (jp kw (y.mode:Int))=a9 (li (a9 ⟨b+0,y.mode,bi⟩)):=by have:=Jh (P:=Tryz.prog) (t:=86) (e:=85) (sz:=1) (len:=5) (n:=b+0) (off:=0) (k:=kw) (i:=(y.mode:Int)) m9 m9 lw lw;simpa using this
   obtain⟨tX,q0,q1⟩:=tb0.step st p0 p1;have V:=UD X p2 y c st.at_ sy okX tX q0 q1 lw S;unfold iK at V;rw[st.same]at V;obtain⟨z1,z2,z3,z4⟩:=tE sy S c;have hws:IntKind.i64.wrap ((i:Int)+1)=((i+1:Nat):Int):=by rw[IntKind.wrap_i64]; omega
   simp (maxDischargeDepth:=6) only[f0,f5,A,r,j,hd,T,i1,t1,ld1',hTx,z,hb0x,hia,hfx,zW,seval];refine R4 (f:=41+y.mode) (fs:=[li (a9 ⟨p.t,0,bi⟩)]) (ca:=[]) (by simp only[aF,seval]) (by simp only[aF,seval]) (by simp only[aF,seval]) (R y.mode hmd) ?_;simp only[aF];refine bF.mono (show bF Tryz.prog (41+y.mode) [li (a9 ⟨p.t,0,bi⟩),kA c] (ext X []) _ from V) ?_;rintro _ Z ⟨rfl,p3,st2⟩;have o:=st.trans I st2;have okZ:=o.ok I;obtain⟨zb,hzb⟩:=ac (Z.next);have hTz:p.t<zb:=hzb▸o.same▸o.at_.lt p3.t pi;have hcz:=o.at_.cell;rw[o.same]at hcz;simp only[bh]at hcz;have st4:=o.trans I (o.at_.one (off:=18) (vs:=[jp kw (((y.byte c).2:Nat):Int)]) (y:=(y.byte c).1.gp (y.byte c).2) rfl rfl rfl rfl);rw[o.same]at st4;rw[show Z=ext Z [] from rfl];simp (maxDischargeDepth:=6) only[j,hzb,hTz,hcz,hws,zW,seval];refine aG ⟨(i+1,(y.byte c).1.gp (y.byte c).2,p3),by simp only; omega,st4,z1.gp z2,by simp only; omega,?_,z3,?_,?_,?_,?_,?_⟩<;>try simp only[f0,f5,A,r,aF,seval]
   .have htk:B.take (i+1)=B.take i++[c]:=by
     rw[zG4,hc]; rfl
    rw[htk,NB,<-hy,step_eq]
 .clear f0 f5 A r j E;rintro E X ⟨p',st⟩;rw[show X=ext X [] from rfl];simp (maxDischargeDepth:=6) only[Tryz.results21,zW,seval];exact⟨trivial,p',(Step.quiet g D).trans ok st⟩
def M5(H:aa)(w:Nat)(S:1<=w)(B:w<=300)(q:Nat × Bool)(l:List Ce)(t:l.length=w)(A:bk H q.1=a9 ⟨77,q.2,a8 l⟩):bD Tryz.prog 33 [bE w q] H (.ok (lm (a9 ⟨H.next,0,bi⟩) w w)) (ext H [⟨77,bv,a8 l⟩]):=by
 refine j8 (fun wf C=>?_) (fun _ _=>kj _ _);obtain⟨b,f⟩:=ac H.next;have T:q.1<b:=f▸wf.lt A;have a1:Tryz.prog.underlying 56=a9 (.slice 77):=by kernel_rfl
 have D:bytesOf Tryz.prog 77=a9 32:=by kernel_rfl
 have I:zeroOf Tryz.prog 77=a9 (Ce.zero.val):=by kernel_rfl
 have J:fE Tryz.prog 56=a9 false:=by kernel_rfl
 have h:small (0+w) 32=true:=by simp only[small,zA6,zE8]; omega
 have M:bk (ext H [⟨77,ci,[]⟩]) (b+0)=a9 ⟨77,ci,[]⟩:=by rw[aZ f nl]; rfl
 have j:bk (ext H [⟨77,ci,[]⟩]) q.1=a9 ⟨77,q.2,a8 l⟩:=(kf lw).trans A;have c:=qZ (P:=Tryz.prog) (H:=ext H [⟨77,ci,[]⟩]) (st:=56) (xt:=56) (e:=77) (sz:=6) (by1:=32) (z:=Ce.zero.val) (m:=b+0) (k:=0) (n:=q.1) (off:=0) (cnt:=w) (cap:=w) (s:=if q.2=bv then bi else a9 0) a1 VV D I rfl J M nl rfl j (by rw[bx,t]; omega) (tS l) lw h;have O:([]:List go).take (0*6)++((a8 l).drop 0).take (w*6)=a8 l:=by have R:(a8 l).take (w*6)=a8 l:=zD4 (by rw[bx,t]; omega);rw[zD0,R]; simp
 have r:=ey (H:=H) (L:=[⟨77,ci,[]⟩]) (e:=77) (l:=a8 l) (o:=true) (kj _ _);simp only[O]at c;rw[r,zB2,ai,f,zC2]at c;refine aI mixed Tryz.func33 rfl Tryz.ntmps33 (zA7 rfl) ?_;simp only[f,bE,c,Tryz.results33,zW,seval];exact⟨_,rfl,by omega,by rw[aZ f nl]; rfl,Mod.ext wf.base⟩
structure Nz (N:Nat) (H:aa) (v:go) (w:Nat) (rs:List (Nat × Bool)) (g:List (List Ce)):Prop where
 at_:kS H v w rs
 row:∀(i:Nat)(q:Nat × Bool)(l:List Ce),rs[i]?=a9 q->g[i]?=a9 l->bk H q.1=a9 ⟨77,q.2,a8 l⟩
 zt:∀ q∈rs,N<=q.1/\q.1<H.next
 nd:(rs.map (·.1)).Nodup
 blk:∀ n∈ae v,N<=n/\n<H.next/\n∉rs.map (·.1)
def Nz.of{N:Nat}{H G:aa}{v:go}{w:Nat}{f:List (Nat × Bool)}{g:List (List Ce)}(o:Nz N H v w f g)(h:f.length<=g.length)(j:H.next<=G.next)(r:∀ n,N<=n->n<H.next->G.get n=H.get n):Nz N G v w f g where
 at_:=o.at_.of fun n c=>r n (o.blk n c).1 (o.blk n c).2.1
 row:=fun i q l s z=>by have:=o.zt q (zC5 s);rw[bg (r q.1 this.1 this.2)];exact o.row i q l s z
 zt:=fun q t=>⟨(o.zt q t).1,zE0 (o.zt q t).2 j⟩
 nd:=o.nd
 blk:=fun n c=>⟨(o.blk n c).1,zE0 (o.blk n c).2.1 j,(o.blk n c).2.2⟩
def Tm.dR(x:Tm):Int:=cond x.shown x.row (-1)
def Tm.dQ(x:Tm):Int:=cond x.shown x.inside 0
def QB(H:aa)(p:Rp)(x:Tm)(g:cx H p x)(s:x.Sz)(ok:H.base<=H.next) :
  bF Tryz.prog 15 [li (a9 ⟨p.t,0,bi⟩)] H fun out H1=>∃ j n,out=.ok (.agg ⟨[lm (a9 ⟨n,0,bi⟩) x.h x.h,jp kw x.dR,jp kw x.dQ]⟩)/\j.length=x.h/\Nz H.next H1 (lm (a9 ⟨n,0,bi⟩) x.h x.h) x.w j x.aj/\Mod [] H H1:=by
 obtain⟨b,S⟩:=ac (H.next);have hbb:H.base<=b:=S▸ok;have hT:p.t<b:=S▸g.lt p.t pi;have hR:p.rb<b:=S▸g.lt p.rb pi;have h1:=g.cell;simp only[bh]at h1;have s1:=s.h1;have s2:=s.h2;have s3:=s.w1;have s4:=s.w2;have hgl:x.aj.length=x.h:=rfl;refine aI mixed Tryz.func15 rfl Tryz.ntmps15 (zA7 rfl) ?_;simp (maxDischargeDepth:=6) only[S,zW,seval];refine (Pw (ext H [_]) p x (g.of (by rw[ai]; omega) fun n f=>bL (g.lt n f)) s).to ?_;simp (maxDischargeDepth:=6) only[S,hbb,hT,h1,zW,seval];refine da fun E hE=>?_;have f0:E 0=li (a9 ⟨p.t,0,bi⟩):=by rw[hE]; simp only[aF,seval]
 have f2:E 2=li (a9 ⟨b+0,0,bi⟩):=by rw[hE]; simp only[aF,seval]
 have T:E 3=li (a9 ⟨b+1,0,bi⟩):=by rw[hE]; simp only[aF,seval]
 have R:E 14=lm (a9 ⟨p.rb,0,bi⟩) x.h x.h:=by rw[hE]; simp only[aF,seval]
 have I:E 15=jp kw (x.h:Int):=by rw[hE]; simp only[aF,seval]
 have A:E 16=jp kw ((0:Nat):Int):=by rw[hE]; (simp only[aF]<;>rfl)
 clear hE;refine aS (fun E' V=>∃ j v,j.length=x.h/\Mod [] H V/\b+1<V.next/\bk V (b+0)=a9 ⟨41,ci,[lm bi 0 0,jp kw 0,jp kw 0]⟩/\bk V (b+1)=a9 ⟨41,ci,[v,jp kw (-1),jp kw 0]⟩/\Nz (b+2) V v x.w j x.aj/\E' 0=li (a9 ⟨p.t,0,bi⟩)/\E' 2=li (a9 ⟨b+0,0,bi⟩)/\E' 3=li (a9 ⟨b+1,0,bi⟩)) ?_ ?_
 .refine cp (fun (q:List (Nat × Bool) × go) E' V=>q.1.length<=x.h/\Mod [] H V/\b+1<V.next/\bk V (b+0)=a9 ⟨41,ci,[lm bi 0 0,jp kw 0,jp kw 0]⟩/\bk V (b+1)=a9 ⟨41,ci,[q.2,jp kw (-1),jp kw 0]⟩/\Nz (b+2) V q.2 x.w q.1 x.aj/\E' 0=li (a9 ⟨p.t,0,bi⟩)/\E' 2=li (a9 ⟨b+0,0,bi⟩)/\E' 3=li (a9 ⟨b+1,0,bi⟩)/\E' 14=lm (a9 ⟨p.rb,0,bi⟩) x.h x.h/\E' 15=jp kw (x.h:Int)/\E' 16=jp kw (q.1.length:Int)) (fun q=>x.h-q.1.length) ([],lm bi 0 0)
   ⟨zB7 _,Mod.ext ok,by rw[ai,S]; simp,by rw[aZ S nl]; rfl,by rw[aZ S nl]; rfl,⟨.inl ⟨rfl,rfl⟩,by simp,by simp,by simp,by simp[ae]⟩,f0,f2,T,R,I,A⟩ ?_
  clear f0 f2 T R I A E;rintro⟨j,v⟩ E X ⟨hl,mX,hbX,hc0,B,z,f0,f2,T,R,I,A⟩;simp only at hl B z A;rw[show X=ext X [] from rfl];have okX:=mX.ok ok;by_cases hlh:j.length=x.h
  .have hd:f7 ((j.length:Int)<(x.h:Int))=false:=decide_eq_false lw;simp (maxDischargeDepth:=6) only[I,A,hd,zW,seval];refine ag ⟨j,v,hlh,mX,hbX,hc0,B,z,?_,?_,?_⟩<;>simp only[f0,f2,T,aF,seval]
  .have hd:f7 ((j.length:Int)<(x.h:Int))=true:=decide_eq_true lw;obtain⟨c,hx⟩:=ac (X.next);have hxb:X.base<=c:=hx▸okX;have hbx:b+1<c:=hx▸hbX;have hRx:p.rb<c:=by omega
   have hTx:p.t<c:=by omega
   have gX:cx X p x:=g.of mX.next fun n f=>mX.get n (g.lt n f) nl;obtain⟨l,hlr,_,hlw,_⟩:=s.rowAt (k:=j.length) lw;obtain⟨q,hq,hqm,hqb⟩:=gX.rowOf hlr;have hqx:q.1<c:=hx▸gX.lt q.1 hqm;have hqlt:q.1<b:=S▸g.lt q.1 hqm;have hrows:=gX.rows;have hqr:(p.rs.map (bE x.w))[j.length]?=a9 (bE x.w q):=by rw[zG0,hq]; rfl
   have hri:=uF (len:=x.h) (cap:=x.h) (n:=p.rb) (s:=bi) (i:=(j.length:Int)) (k:=j.length) rfl lw;have hws:=ba (show j.length<1000000 by omega);have hvx:∀ n∈ae v,n<c:=fun n f=>hx▸(z.blk n f).2.1;simp (maxDischargeDepth:=6) only[R,I,A,hd,hx,hRx,hrows,hri,hqr,zW,seval];refine aQ [(4,3),(5,1),(5,3),(5,4),(7,1),(7,3),(7,4),(7,5)] [] m9 m9 rfl fun ops anc hA hG=>?_;simp only[aw]at hA;simp (maxDischargeDepth:=6) only[T,hx,hbx,B,bE,bS,zW,seval];refine ue (v:=lm (a9 ⟨c+0,0,bi⟩) x.w x.w) (M:=[⟨77,bv,a8 l⟩]) [q.1] (by simp (maxDischargeDepth:=6) only[aF,seval]) m9 ol (fun n f=>by simp (maxDischargeDepth:=6) only[zA5]at f; subst f; exact fa hqb) (fun K f hg=>?_) (by simp (maxDischargeDepth:=6) only[bS]) ?_
   .simp only[aF];have:=M5 K x.w s3 s4 q l hlw ((bg (hg q.1 nl)).trans (by rw[ext_nil]; exact hqb));rw[f,ext_nil,hx]at this;exact this
   simp (maxDischargeDepth:=6) only[hx,hA,zA9,zB4,bS,zW,seval];rw[Cf (by simp only[aF,seval])];obtain⟨Z,hZ⟩:=ac (ext X [⟨77,bv,a8 l⟩,⟨56,ci,[lm (a9 ⟨c+0,0,bi⟩) x.w x.w]⟩]);have mZ:Mod [] X Z:=hZ▸Mod.ext okX;have okZ:=mZ.ok okX;have hZn:Z.next=c+2:=by rw[<-hZ,ai,hx]; rfl
   have hZ1:bk Z (c+1)=a9 ⟨56,ci,[bE x.w (c+0,bv)]⟩:=by rw[<-hZ,aZ hx nl]; rfl
   have hZ0:bk Z (c+0)=a9 ⟨77,bv,a8 l⟩:=by rw[<-hZ,aZ hx nl]; rfl
   have hZo:∀ n,n<c->Z.get n=X.get n:=fun n f=>mZ.get n lw nl;rw[hZ];have hrn:=aK Z (ae v++[c+1]);have hRr:∀ n∈ae v++[c+1],(Z.restrict (ae v++[c+1])).get n=Z.get n:=fun n f=>by rw[aU,if_pos f]
   have hrsZ:kS Z v x.w j:=z.at_.of fun n f=>hZo n (hvx n f)
   obtain⟨G,happ,hrsG,mG,hGn⟩:=Hl (x:=c+2) (k:=c+1) (q:=(c+0,bv)) (hrsZ.of fun n f=>hRr n (by simp[f])) (by rw[hrn.1,hZn]) ((bg (hRr (c+1) nl)).trans hZ1) lw (fun r hr=>by
    rw[hrn.1,hZn];rcases zB1.1 hr with h|h
    .have:=(z.zt r h).2; omega
    .simp only[zA5]at h; subst h; simp only; omega)
   have mG:=mG (by rw[hrn.1,hrn.2.1]; exact zA4 _)
   have hneZ:∀ n∈ae v++[c+1],Z.get n≠none:=fun n f=>by
    rcases zB1.1 f with h|h
    .exact hrsZ.ne n h
    .simp only[zA5]at h; subst h; exact fa hZ1
   refine lU (W:=ae v) (ae v++[c+1]) okZ hneZ (fun n f=>by
     rcases zB1.1 f with h|h
     .have:=hvx n h; omega
     .simp only[zA5]at h; omega) (fun n f=>by simp[f])
    (sZ (v:=lm (a9 ⟨c+2,0,bi⟩) (j.length+1) (j.length+1)) (by simp only[aF,seval]) (by simp only[aF,seval]; exact happ)) mG (by simp only[aw,cG,hA,true_or,and_true]) ?_
   intro H1 D mH1 hF1 hN1 C hD1;have C:H1.next=c+3:=by rw[C,hGn]
   have hvn:∀ n,n<b+2->n∉ae v:=fun n f hh=>by have:=(z.blk n hh).1; omega
   have hT1:bk H1 (b+1)=a9 ⟨41,ci,[v,jp kw (-1),jp kw 0]⟩:=by rw[mH1.bk lw (hvn _ lw),bg (hZo _ hbx)]; exact B
   have hTn:b+1<c+3:=by omega
   rw[show H1=ext H1 [] from rfl];simp (maxDischargeDepth:=6) only[T,C,hTn,hT1,hA,bS,zW,seval];refine⟨⟨fun _=>.inr (.inl lw),.inr (.inl lw),.inr (.inl lw)⟩,?_⟩;simp (maxDischargeDepth:=6) only[A,hws,zW,seval];have mU:Mod [b+1] H1 (uw H1 (b+1) 0 [lm (a9 ⟨c+2,0,bi⟩) (j.length+1) (j.length+1)]):=Mod.uw nl
   have hnewB:bk H1 (c+2)=a9 ⟨56,bv,(j++[(c+0,bv)]).map (bE x.w)⟩:=by
    rw[bg (hN1 (c+2) lw lw)]
    rcases hrsG with⟨h,_⟩|⟨_,n,e,hb'⟩
    .simp at h
    .simp only[Value.slice.injEq,i8,Addr.mk.injEq,and_true]at e;rw[e.1]; exact hb'
   have hget:∀ n,n<c+2->n≠b+1->n∉ae v->(uw H1 (b+1) 0 [lm (a9 ⟨c+2,0,bi⟩) (j.length+1) (j.length+1)]).get n=Z.get n:=fun n o J h3'=>by rw[iV J,mH1.get n lw h3']
   refine aG ⟨(j++[(c+0,bv)],lm (a9 ⟨c+2,0,bi⟩) (j.length+1) (j.length+1)),by simp only[zB3,zA9,zB4]; omega,by simp only[zB3,zA9,zB4]; omega,?_,?_,?_,?_,?_,?_,?_,?_,?_,?_,?_⟩
   .have m1:Mod (ae v) X H1:=(mZ.mono nl).trans mH1;exact (mX.step m1 ok (fun n f=>.inr (by have:=(z.blk n f).1; omega))).step mU ok (fun n f=>.inr (by simp only[zA5]at f; omega))
   .rw[ext_nil,cw,C]; omega
   .rw[ext_nil,bg (hget (b+0) lw lw (hvn _ lw)),bg (hZo (b+0) lw)]; exact hc0
   .rw[ext_nil,bR,hT1]; rfl
   .refine⟨.inr ⟨by simp,c+2,by simp,?_⟩,?_,?_,?_,?_⟩
    .rw[ext_nil,pU lw];exact hnewB
    .intro i q' l' o J;by_cases hi:i<j.length
     .rw[List.getElem?_append_left hi]at o;have hr:=z.zt q' (zC5 o);have hm:q'.1∉ae v:=fun hh=>(z.blk _ hh).2.2 (zC1.2 ⟨q',zC5 o,rfl⟩);rw[ext_nil,bg (hget q'.1 lw lw hm),bg (hZo q'.1 lw)];exact z.row i q' l' o J
     .rw[zG5 lw]at o
      have hi2:i=j.length:=by
       rcases zC0 (i-j.length) 1 with h|h
       .omega
       .rw[zD3 (by simpa using h)]at o; cases o
      subst hi2;rw[zG8]at o;simp only[zG1,i8]at o;subst o;rw[hlr]at J;cases J;rw[ext_nil,bg (hget (c+0) lw lw (fun hh=>by have:=hvx _ hh; omega))];exact hZ0
    .intro r hr;rw[ext_nil,cw,C];rcases zB1.1 hr with h|h
     .have:=z.zt r h; omega
     .simp only[zA5]at h;subst h;simp only; omega
    .rw[List.map_append];refine zE6.2 ⟨z.nd,by simp,fun a ha b' hb' e=>?_⟩;obtain⟨r,hr,rfl⟩:=zC1.1 ha;simp only[zB8,zE7,zA5]at hb';have:=(z.zt r hr).2;omega
    .intro n f;simp only[ae,zA5]at f;subst f;refine⟨by omega,by rw[ext_nil,cw,C]; omega,fun hm=>?_⟩;obtain⟨r,hr,e⟩:=zC1.1 hm;rcases zB1.1 hr with h|h
     .have:=(z.zt r h).2; omega
     .simp only[zA5]at h;subst h;simp only at e;omega
   .simp only[f0,aF,seval]
   .simp only[f2,aF,seval]
   .simp only[T,aF,seval]
   .simp only[R,aF,seval]
   .simp only[I,aF,seval]
   .simp only[zB3,zA9,zB4,aF,seval]
 .clear f0 f2 T R I A E;rintro E X ⟨j,v,hl,mX,hbX,hc0,B,z,f0,f2,T⟩;rw[show X=ext X [] from rfl];have okX:=mX.ok ok;obtain⟨c,hx⟩:=ac (X.next);have hb1x:b+1<c:=hx▸hbX;have hb0x:b+0<c:=by omega
  have hTx:p.t<c:=by omega
  have gX:cx X p x:=g.of mX.next fun n f=>mX.get n (g.lt n f) nl;have h1X:=gX.cell;simp only[bh]at h1X
  rcases z.at_ with⟨h,_⟩|⟨_,n,rfl,hbn⟩
  .rw[h]at hl; simp at hl; omega
  rw[hl]at z B;have C:=z.blk n pm;have hnn:n<c:=hx▸C.2.1;have O:∀(Y:aa),Mod [b+0,b+1] X Y->Nz H.next Y (lm (a9 ⟨n,0,bi⟩) x.h x.h) x.w j x.aj/\Mod [] H Y:=fun Y mY=>by refine⟨?_,mX.step mY ok (fun n f=>.inr (by simp only[zA8,zD7,or_false]at f; omega))⟩;have o2:Nz (b+2) Y (lm (a9 ⟨n,0,bi⟩) x.h x.h) x.w j x.aj:=z.of lw mY.next (fun n o J=>mY.get n J (by simp only[zA8,zD7,or_false]; omega));exact⟨o2.at_,o2.row,fun q hq=>⟨by have:=(o2.zt q hq).1; omega,(o2.zt q hq).2⟩,o2.nd,fun m hm=>⟨by have:=(o2.blk m hm).1; omega,(o2.blk m hm).2⟩⟩
  obtain⟨ds,hds⟩:∃ d,x.shown=d:=⟨_,rfl⟩
  cases ds with
  |true =>
   simp (maxDischargeDepth:=6) only[f0,hx,hTx,h1X,hds,zW,seval];refine aQ [(8,4),(8,6),(10,4),(10,6),(10,8)] [] m9 m9 rfl fun ops anc hA hG=>?_;simp only[aw]at hA;simp (maxDischargeDepth:=6) only[f0,hx,hTx,h1X,bS,zW,seval];refine bI (v:=jp kw x.inside) p.aM (by simp (maxDischargeDepth:=6) only[aF,seval]) m9 ol gX.ne (fun K f hg=>?_) (by simp (maxDischargeDepth:=6) only[bS]) ?_
   .simp only[aF];exact qs K p x (gX.of (by rw[f]; exact zA4 _) hg) s
   simp (maxDischargeDepth:=6) only[f2,T,hx,hb1x,hb0x,hnn,hc0,B,hA,Tryz.results15,bS,zW,seval];obtain⟨o1,o2⟩:=O _ (((Mod.uw nl).trans (Mod.uw nl)).trans (Mod.uw nl):Mod [b+0,b+1] X (ext (uw (uw (uw X (b+1) 1 [jp kw x.row]) (b+1) 2 [jp kw x.inside]) (b+0) 0 [lm (a9 ⟨n,0,bi⟩) x.h x.h,jp kw x.row,jp kw x.inside]) []));rw[S]at o1;exact⟨j,n,by simp only[Tm.dR,Tm.dQ,hds,cond_true],hl,o1,o2⟩
  |false =>simp (maxDischargeDepth:=6) only[f0,f2,T,hx,hTx,hb0x,hb1x,hnn,h1X,hds,hc0,B,Tryz.results15,zW,seval];obtain⟨o1,o2⟩:=O _ (Mod.uw nl:Mod [b+0,b+1] X (ext (uw X (b+0) 0 [lm (a9 ⟨n,0,bi⟩) x.h x.h,jp kw (-1),jp kw 0]) []));rw[S]at o1;exact⟨j,n,by simp only[Tm.dR,Tm.dQ,hds,cond_false],hl,o1,o2⟩
abbrev ru(s:ByteArray):List UInt8:=s.data.toList
def KI(s:ByteArray):s.size=(ru s).length:=by rw[Array.length_toList]; rfl
structure Live (H:aa) (p:Rp) (x:Tm):Prop where
 at_:cx H p x
 sz:x.Sz
 tb:ti H
 p0:0∉p.aM
 p1:1∉p.aM
 pl:x.params.length<=65
def rf{x:Tm}(s:x.Sz)(h:x.params.length<=65):∀(f:List UInt8),(x.feed ek f).Sz/\(x.feed ek f).params.length<=65/\(x.feed ek f).rest.length<=x.rest.length+f.length
 |[]=>⟨s,h,zA4 _⟩
 |c::f=>by obtain⟨a,b,d,e⟩:=tE s h c;have j:x.feed ek (c::f)=(x.step ek c).feed ek f:=rfl;rw[j,step_eq];obtain⟨n,o,r⟩:=rf (a.gp b) d f;refine⟨n,o,zC4 r ?_⟩;show (x.byte c).1.rest.length+f.length<=_;simp only[zA9];omega
def Live.step{H H1:aa}{p f:Rp}{x:Tm}(l:Live H p x){c:List UInt8}(s:Step H p H1 f (x.feed ek c)):Live H1 f (x.feed ek c):=by obtain⟨t,a,b⟩:=l.tb.step s l.p0 l.p1;obtain⟨h,j,_⟩:=rf l.sz l.pl c;exact⟨s.at_,h,t,a,b,j⟩
def CP(H:aa)(p:Rp)(x:Tm)(s:ByteArray)(l:Live H p x)(ok:H.base<=H.next)(A:x.rest.length+(ru s).length<=900) :
  bF Tryz.prog 21 [li (a9 ⟨p.t,0,bi⟩),lm (a9 ⟨H.next,0,bi⟩) (ru s).length (ru s).length] (ext H [⟨5,bv,ak (ru s)⟩]) fun out H1=>out=.ok (jp kw 0)/\∃ f,Step H p H1 f (x.feed ek (ru s)):=by
 have m:Mod [] H (ext H [⟨5,bv,ak (ru s)⟩]):=Mod.ext ok;have j:=m.ok ok;have r:cx (ext H [⟨5,bv,ak (ru s)⟩]) p x:=l.at_.of m.next fun n c=>m.get n (l.at_.lt n c) nl;obtain⟨z,_,_⟩:=l.tb.step (Step.quiet l.at_ m) l.p0 l.p1;refine (Dr _ p x _ (ru s) r l.sz j z l.p0 l.p1 (Ak (n:=H.next) (o:=true) (sp:=bi) (by rw[show H.next=H.next+0 from rfl,aZ rfl nl]; rfl)) (fun n c=>?_) (fun n c h=>?_) (fun k=>by have:=(rf l.sz l.pl ((ru s).take k)).2.2; rw[zD9]at this; omega) lw l.pl).mono ?_
 .simp only[ae,zA5]at c;rw[ai]; simp; omega
 .simp only[ae,zA5]at c;have:=l.at_.lt n h;omega
 .rintro out H1 ⟨rfl,f,st⟩;exact⟨rfl,f,(Step.quiet l.at_ m).trans ok st⟩
def Oj(a:UInt8):fK a<=4:=by
 by_cases h:240<=cF a.toNat
 .have c:∀ n,n<256->240<=cF n->IntKind.i64.wrap (eQ .u8 (cF n) 7)<=4:=by decide +kernel
  exact c _ a.toNat_lt h
 .exact (OY h).2
def We{l:List UInt8}(h:4<=l.length):ek.full l=true:=by
 cases l with
 |nil=>simp at h
 |cons a r =>refine tu ?_;have:=Oj a;simp only[zA9]at h;omega
def QJ{k:Nat}{x:Tm}(s:x.Sz)(h:x.rest.length<=4):(Tm.drain ek (k+1) x).1.rest.length<=3:=by
 by_cases c:x.rest.length<=3
 .exact zC4 (ux (k+1) x s).2.2.2 c
 have cn:x.rest≠[]:=fun e=>by rw[e]at c; simp at c
 rw[Tm.drain,if_pos ⟨cn,We lw⟩];split
 .simp
 .obtain⟨r,n,e⟩:∃ r n,ek.dec x.rest=(r,n):=⟨_,_,rfl⟩
  simp only[e];have o:1<=n:=by have:=(OO x.rest cn).1;rw[show qI x.rest=(r,n) from e]at this;exact this
  obtain⟨y,f⟩:=ac ((if r≠65533\/n>1 then x.character ek r else x));rw[f]
  have j:y.Sz/\y.rest=x.rest:=by
   rw[<-f];split
   .exact⟨s.character r,(il ek x r).1⟩
   .exact⟨s,rfl⟩
  refine zC4 (ux k (y.aN (y.rest.drop n)) (j.1.aN _)).2.2.2 ?_;simp only[Tm.aN,zC6,j.2];omega
def SC{x:Tm}(s:x.Sz)(c:UInt8)(h:x.rest.length<=3):(x.byte c).1.rest.length<=3:=by
 unfold Tm.byte;split
 .refine QJ (x:=x.aN (x.rest++[c])) (s.aN _) ?_;simp only[Tm.aN,zB3,zI0];omega
 .unfold Tm.second
  repeat' split
  all_goals first
   |exact h
   |(simp[Tm.new])
 .exact h
 .unfold Tm.parameter
  repeat' split
  all_goals first
   |exact h
   |(simp only; rw[(Bc x c).2]; exact h)
   |(simp only; split<;>exact h)
 .unfold Tm.ignore;split<;>exact h
def yE:∀(f:List UInt8){x:Tm},x.Sz->x.params.length<=65->x.rest.length<=3->(x.feed ek f).rest.length<=3
 |[],x,_,_,h=>h
 |c::f,x,s,n,h=>by have j:=tE s n c;have o:=SC s c h;rw[show x.feed ek (c::f)=(x.step ek c).feed ek f from rfl,step_eq];exact yE f (j.1.gp j.2.1) j.2.2.1 o
end Go.Proofs.YtpohjcacnkhnkaaGreatDoor.Tq
namespace Go.Proofs.YtpohjcacnkhnkaaGreatDoor
open Go.Ax
def JT:List FuncId:=[103,104,105,106,107,108,109,110,111]
def Xf(f:FuncId):Value:=.func (.func f) ⟨[]⟩ ⟨[]⟩
def im:List Value:=JT.map Xf
def Su(H:aa):bD Tryz.prog 77 [] H (.ok (.agg ⟨im⟩)) H:=by
 obtain⟨b,r⟩:=ac H.next;refine bA mixed Tryz.func77 rfl Tryz.ntmps77 (zA7 rfl) fun wf s=>?_;have f:cY Tryz.prog 121 [(0,.func (.func 103) #[] #[]),(1,.func (.func 104) #[] #[]),(2,.func (.func 105) #[] #[]),(3,.func (.func 106) #[] #[]),(4,.func (.func 107) #[] #[]),(5,.func (.func 108) #[] #[]),(6,.func (.func 109) #[] #[]),(7,.func (.func 110) #[] #[]),(8,.func (.func 111) #[] #[])]=a9 (.agg ⟨im⟩):=by kernel_rfl
 have j:∀(M:Nat)(l:List go),l.length=9->Cc Tryz.prog 121 M 0 (.agg ⟨im⟩) (a9 ⟨121,ci,l⟩)=a9 ⟨121,ci,im⟩:=fun M l h=>by have c:(Value.agg ⟨im⟩).cells.toList=im:=rfl;rw[oG (by rw[c]; kernel_rfl) (by rw[c,h]; decide) (by rw[c]; rfl) (by rw[c]; rfl),c,qP _ _ (by rw[h]; decide),zE9 (by rw[h]; decide),zC7]
 have n:H.base<=b:=r▸wf.base;have o:rL Tryz.prog 121 0 (a9 ⟨121,ci,im⟩)=a9 (.agg ⟨im⟩):=by kernel_rfl
 simp only[r,n,f,j,o,Tryz.results77,zW,seval];exact Fin.pure rfl
section
variable{N:Nat}{H:aa}{p W:Nat}{v:go}{rvs:List go}{x:St}
end
end Go.Proofs.YtpohjcacnkhnkaaGreatDoor
namespace Go.Ax
section
variable{P:ip}{rec:Rec}{H H1 g:aa}{a a1:ah}{u u1:FrameMode}
def dy{top:Bool}{ops:Array Oper}{o:Oper}{rest:List Oper}{v:go}(c:cN ops a o=a9 bv)(f:RL P rec a H o=a9 (.ok v,g)):lv P rec top ops (o::rest) a H=lv P rec top ops rest (a.put o.dst v) g:=by simp only[lv,c,f]
def n5{x y:Code}(h:mu P rec x a u H=a9 (.normal,a1,u1,H1)):mu P rec (.seq x y) a u H=mu P rec y a1 u1 H1:=by simp only[mu,h]
def tD{id:Nat}{ops:Array Oper}{e:Exit}(c:(ops.toList.any fun o=>isRec o.op)=ci)(h:rec.run bi (.region id ops ci) a H=a9 (e,a1,H1)):mu P rec (.region id ops ci) a u H=a9 (e,a1,u,H1):=by simp only[mu,c,h,zB2]
def Fm{id:Nat}{ops:Array Oper}(c:(ops.toList.any fun o=>isRec o.op)=bv):mu P rec (.region id ops ci) a u H=kr P ops ops.toList a u H:=by simp only[mu,c]
def Co{o:Oper}{t:io}{x y:i7}{p v:go}(c:o.op=.store t x y)(hx:aO P a x=a9 p)(f:aO P a y=a9 v)(h:fw P H t p v=a9 g):RL P rec a H o=a9 (.ok undef,g):=by simp only[RL,c,cE,wz,hx,f,zA1,zA3,h,Ob,zB2,UU]
end
end Go.Ax
namespace Go.Proofs.YtpohjcacnkhnkaaGreatDoor
open Go.Ax
def Vc:ah:=⟨{RV.ofList []with n:=16},[]⟩
def VB(H:aa)(c:H.base<=H.next):fw Tryz.prog (H.new (Bl.obj ⟨118,ci,[]⟩)) 118 (li (a9 ⟨H.next,0,bi⟩)) (.agg #[])=a9 (ext H [⟨118,ci,[]⟩]):=by
 have h:=vL (P:=Tryz.prog) (H:=H) (L:=[⟨118,ci,[]⟩]) (b:=H.next) (i:=0) (off:=0) (t:=118) (v:=.agg #[]) rfl c ol;have f:Cc Tryz.prog 118 (H.next+1) 0 (.agg #[]) (a9 ⟨118,ci,[]⟩)=a9 ⟨118,ci,[]⟩:=by rw[oG (v:=.agg #[]) m9 ol rfl rfl];rfl
 simp only[zI0,zG1,f,zB2,List.set_cons_zero,zD5]at h;exact h
def NL(H:aa)(c:H.base<=H.next):nB Tryz.prog (rC Tryz.prog) 76 [] .returning H=a9 (.ok (.tuple ⟨[]⟩),.returning,ext H [⟨118,ci,[]⟩]):=by
 have f:∃ h,mu Tryz.prog (rC Tryz.prog) (Tryz.f76.body.getD .skip) Vc .returning H=a9 (.normal,⟨h,[]⟩,.returning,ext H [⟨118,ci,[]⟩]):=by show ∃ h,mu Tryz.prog (rC Tryz.prog) (.seq _ (.seq _ (.seq _ _))) Vc .returning H=_;apply Exists.intro;refine (n5 ((Fm rfl).trans rfl)).trans ?_;refine (n5 (tD rfl (Eq.trans (show (rC Tryz.prog).run bi _ _ H=lv Tryz.prog (exec Tryz.prog (fun _ _ _=>bi) 59) bv _ _ _ H from rfl) ((dy rfl rfl).trans ((dy rfl rfl).trans ((dy rfl rfl).trans ((dy rfl rfl).trans ((dy rfl rfl).trans ((dy rfl rfl).trans ((dy rfl (Co rfl rfl rfl (VB H c))).trans ((dy rfl rfl).trans rfl))))))))))).trans ?_;refine (n5 (tD rfl rfl)).trans ?_;rfl
 obtain⟨h,f⟩:=f;have j:Tryz.f76.body=a9 (Tryz.f76.body.getD .skip):=rfl;simp only[nB,Tryz.func76,zA1,zA3];rw[j,zA3];show (mu Tryz.prog (rC Tryz.prog) (Tryz.f76.body.getD .skip) Vc _ H).bind _=_;rw[f];rfl
def MX(H:aa)(c:H.base<=H.next):nB Tryz.prog (rC Tryz.prog) 76 [] (.panicking [gj]) H=a9 (.ok (.tuple ⟨[]⟩),.panicking [{gj with recovered:=true}],ext H [⟨118,ci,[]⟩]):=by
 have f:∃ h,mu Tryz.prog (rC Tryz.prog) (Tryz.f76.body.getD .skip) Vc (.panicking [gj]) H=a9 (.normal,⟨h,[]⟩,.panicking [{gj with recovered:=true}],ext H [⟨118,ci,[]⟩]):=by show ∃ h,mu Tryz.prog (rC Tryz.prog) (.seq _ (.seq _ (.seq _ _))) Vc (.panicking [gj]) H=_;apply Exists.intro;refine (n5 ((Fm rfl).trans rfl)).trans ?_;refine (n5 (tD rfl (Eq.trans (show (rC Tryz.prog).run bi _ _ H=lv Tryz.prog (exec Tryz.prog (fun _ _ _=>bi) 59) bv _ _ _ H from rfl) ((dy rfl rfl).trans ((dy rfl rfl).trans ((dy rfl rfl).trans ((dy rfl rfl).trans ((dy rfl rfl).trans ((dy rfl rfl).trans ((dy rfl (Co rfl rfl rfl (VB H c))).trans ((dy rfl rfl).trans rfl))))))))))).trans ?_;refine (n5 (tD rfl rfl)).trans ?_;rfl
 obtain⟨h,f⟩:=f;have j:Tryz.f76.body=a9 (Tryz.f76.body.getD .skip):=rfl;simp only[nB,Tryz.func76,zA1,zA3];rw[j,zA3];show (mu Tryz.prog (rC Tryz.prog) (Tryz.f76.body.getD .skip) Vc _ H).bind _=_;rw[f];rfl
def JF:settle (.panicking [{gj with recovered:=true}])=.returning:=by rfl
end Go.Proofs.YtpohjcacnkhnkaaGreatDoor
namespace Go.Ax
section
variable{P:ip}{ro:Option Nat}{H:aa}{N:Nat}{E:Env}{ds:List Deferred}{ops:Array Oper}{rest:List Oper}{ty:io}{pos:String}{after:Array Edge}{Q:Exit -> ah -> aa -> Prop}
def Sn{f:FuncId}{args:List i7}{ts:Array io}(c:args.all (bj P N)=bv):wpOps P bi ops (⟨bi,.defer ⟨.value (.func f),⟨args⟩,ts⟩,ty,pos,after,bi⟩::rest) (bu N E ds) H Q=wpOps P bi ops rest (bu N E (⟨.fn (.func f) #[],⟨args.map (cy E)⟩⟩::ds)) H Q:=by simp only[wpOps,cN,p8,cD c,aO,zA1,zA3,I6];rfl
end
end Go.Ax
namespace Go.Proofs.YtpohjcacnkhnkaaGreatDoor
open Go.Ax
def Vs(N p:Nat)(r:St ⊕ Nat)(H:aa)(out:Out)(X:aa):Prop :=
 iL N H X/\match r with
  |.inl y=>out=.ok (jp kw (-1))/\∃ v rvs,RE v/\iT 83 N X p v rvs y
  |.inr i=>out=.ok (jp kw (i:Int))
def JJ:(JT.all fun f=>aD Tryz.prog f)=true:=by kernel_rfl
def MI{N:Nat}{E:Env}{H:aa}{R:Out->aa->Prop}(c:H.base<=H.next)(f:∀ i,E 4=i->R (.ok i) (ext H [⟨118,ci,[]⟩]))(h:4<N) :
  ft Tryz.prog Tryz.f39 (bu N E [⟨.fn (.func 76) #[],⟨[]⟩⟩]) [⟨.fn (.func 76) #[],⟨[]⟩⟩] .returning H R:=by
 refine⟨by kernel_rfl,_,_,_,NL H c,?_⟩;refine⟨[E 4],?_,?_⟩
 .show dw Tryz.prog _ _ [.tmp 4]=_;rw[Ew h,DF];rfl
 .rw[yI]; exact f _ rfl
def MW{N:Nat}{E:Env}{H:aa}{R:Out->aa->Prop}(c:H.base<=H.next)(f:∀ i,E 4=i->R (.ok i) (ext H [⟨118,ci,[]⟩]))(h:4<N) :
  ft Tryz.prog Tryz.f39 (bu N E [⟨.fn (.func 76) #[],⟨[]⟩⟩]) [⟨.fn (.func 76) #[],⟨[]⟩⟩] (.panicking [gj]) H R:=by
 refine⟨by kernel_rfl,_,_,_,MX H c,?_⟩;rw[JF];refine⟨[E 4],?_,?_⟩
 .show dw Tryz.prog _ _ [.tmp 4]=_;rw[Ew h,DF];rfl
 .rw[yI]; exact f _ rfl
def di(g:List (List Ce)):Nat:=(g.getD 0 []).length
def eK(g:List (List Ce))(r c:Int):Int :=
 cond (f7 ((g.length:Int)<1)||f7 (200<(g.length:Int))) 3
  (cond (f7 ((di g:Int)<1)||f7 (1000<(di g:Int))||(!(f7 (0<=r)&&f7 (r<(g.length:Int))&&f7 (0<=c)&&f7 (c<(di g:Int)))&&!(f7 (r=-1)&&f7 (c=0)))) 3
   (cond (lA (di g) g) 0 5))
def vi(H:aa)(v:go)(g:List (List Ce))(r c:Int)(hg:ej H v g)(hw:∀ l∈g,l.length<1000000)(hgl:g.length<1000000) :
  Pure 37 [.agg ⟨[v,jp kw r,jp kw c]⟩] H (jp kw (eK g r c)):=by
 obtain⟨b,C⟩:=ac (H.next);obtain⟨h,T⟩:=ac (g.length);obtain⟨W,hW⟩:=ac (di g)
 obtain⟨dh1,I⟩:∃ d,f7 ((h:Int)<1)=d:=⟨_,rfl⟩
 obtain⟨dh2,R⟩:∃ d,f7 ((200:Int)<(h:Int))=d:=⟨_,rfl⟩
 obtain⟨D,V⟩:∃ d,f7 ((W:Int)<1)=d:=⟨_,rfl⟩
 obtain⟨J,k4⟩:∃ d,f7 ((1000:Int)<(W:Int))=d:=⟨_,rfl⟩
 obtain⟨S,h1⟩:∃ d,f7 ((0:Int)<=r)=d:=⟨_,rfl⟩
 obtain⟨d2,h2⟩:∃ d,f7 (r<(h:Int))=d:=⟨_,rfl⟩
 obtain⟨d3,h3⟩:∃ d,f7 ((0:Int)<=c)=d:=⟨_,rfl⟩
 obtain⟨d4,h4⟩:∃ d,f7 (c<(W:Int))=d:=⟨_,rfl⟩
 obtain⟨d5,h5⟩:∃ d,f7 (r=-1)=d:=⟨_,rfl⟩
 obtain⟨d6,h6⟩:∃ d,f7 (c=0)=d:=⟨_,rfl⟩
 obtain⟨B,hB⟩:=ac (lA W g);have h5':f7 (¬r=-1)=!d5:=by rw[decide_not,h5]
 have h6':f7 (¬c=0)=!d6:=by rw[decide_not,h6]
 rw[eK,T,hW,I,R,V,k4,h1,h2,h3,h4,h5,h6,hB];refine bA mixed Tryz.func37 rfl Tryz.ntmps37 (zA7 rfl) fun wf hsc=>?_;have f:H.base<=b:=C▸wf.base;have hg':=hg;obtain⟨a0,c0,e0⟩:=hg.sl;have t:aV b v=true:=by simp only[aT,aV,fL,zA6,C]at hsc;exact hsc.1.1
 rw[e0,T]at t
 cases dh1 with
 |true =>rw[e0,T];simp (maxDischargeDepth:=6) only[C,t,I,Tryz.results37,zW,seval];exact Fin.cf rfl rfl
 |false =>
  cases dh2 with
  |true =>rw[e0,T];simp (maxDischargeDepth:=6) only[C,t,I,R,Tryz.results37,zW,seval];exact Fin.cf rfl rfl
  |false =>
   have j:0<g.length:=by have:=of_decide_eq_false I; omega
   rcases hg with⟨h',_⟩|⟨_,n1,o1,s1,x1,t1,p1,L1,rfl,b1,n1l,le1,tk1⟩
   .rw[h']at j; simp at j
   obtain⟨r0,hr0⟩:∃ q,g[0]?=a9 q:=⟨_,zB0 j⟩
   obtain⟨u0,hu0,ra0⟩:=tk1 0 r0 hr0;obtain⟨a0',k0,e0'⟩:=ra0.sl;have hl0:r0.length=W:=by rw[<-hW,di,zC9,hr0]; rfl
   rw[hl0]at e0';rw[e0']at hu0;have M:=fD (n:=n1) (off:=o1) (s:=s1) (cap:=x1) (i:=((0:Nat):Int)) rfl j;rw[show ((0:Nat):Int)=0 from rfl]at M;have q1:=dG (e:=t1) (o:=p1) hu0;rw[zD5]at q1 M;rw[T]at M hg' ⊢;have z:=n1l;rw[C]at z;have hB1:∀ A:Bl,bk (ext H [A,⟨3,ci,[jp kw (W:Int)]⟩]) (b+1)=a9 ⟨3,ci,[jp kw (W:Int)]⟩:=fun A=>by rw[aZ C nl]; rfl
   have O:=ET (ext H [⟨41,ci,[lm (a9 ⟨n1,o1,s1⟩) h x1,jp kw r,jp kw c]⟩,⟨3,ci,[jp kw (W:Int)]⟩]) _ g W (b+1) hg'.ext hw hgl (hB1 _);rw[hB]at O;have hs:(S=bv/\d2=bv/\d3=bv/\d4=bv)\/S=ci\/(S=bv/\d2=ci)\/(S=bv/\d2=bv/\d3=ci)\/(S=bv/\d2=bv/\d3=bv/\d4=ci):=by cases S<;>cases d2<;>cases d3<;>cases d4<;>simp
   have hws:D=bv\/(D=ci/\J=bv)\/(D=ci/\J=ci):=by cases D<;>cases J<;>simp
   have hns:d5=ci\/(d5=bv/\d6=ci)\/(d5=bv/\d6=bv):=by cases d5<;>cases d6<;>simp
   rcases hws with rfl|⟨rfl,rfl⟩|⟨rfl,rfl⟩
   .rcases hs with⟨rfl,rfl,rfl,rfl⟩|rfl|⟨rfl,rfl⟩|⟨rfl,rfl,rfl⟩|⟨rfl,rfl,rfl,rfl⟩
    all_goals (simp (maxDischargeDepth:=6) only[C,f,z,b1,M,q1,cm,I,R,V,h1,h2,h3,h4,Tryz.results37,zW,seval]; exact Fin.cf rfl rfl)
   .rcases hs with⟨rfl,rfl,rfl,rfl⟩|rfl|⟨rfl,rfl⟩|⟨rfl,rfl,rfl⟩|⟨rfl,rfl,rfl,rfl⟩
    all_goals (simp (maxDischargeDepth:=6) only[C,f,z,b1,M,q1,cm,I,R,V,k4,h1,h2,h3,h4,Tryz.results37,zW,seval]; exact Fin.cf rfl rfl)
   .rcases hs with⟨rfl,rfl,rfl,rfl⟩|hs
    .simp (maxDischargeDepth:=6) only[C,f,z,b1,M,q1,cm,I,R,V,k4,h1,h2,h3,h4,zD1,zW,seval];refine O.to ?_
     cases B with
     |true=>simp (maxDischargeDepth:=6) only[zD1,Tryz.results37,zW,seval]; exact Fin.cf rfl rfl
     |false=>simp (maxDischargeDepth:=6) only[zF4,Tryz.results37,zW,seval]; exact Fin.cf rfl rfl
    rcases hs with rfl|⟨rfl,rfl⟩|⟨rfl,rfl,rfl⟩|⟨rfl,rfl,rfl,rfl⟩
    all_goals rcases hns with rfl|⟨rfl,rfl⟩|⟨rfl,rfl⟩
    all_goals simp (maxDischargeDepth:=6) only[C,f,z,b1,M,q1,cm,I,R,V,k4,h1,h2,h3,h4,h5',h6',zD1,zF4,Tryz.results37,zW,seval]
    all_goals first
     |exact Fin.cf rfl rfl
     | (refine O.to ?_
        cases B with
        |true=>simp (maxDischargeDepth:=6) only[zD1,Tryz.results37,zW,seval]; exact Fin.cf rfl rfl
        |false=>simp (maxDischargeDepth:=6) only[zF4,Tryz.results37,zW,seval]; exact Fin.cf rfl rfl)
def I3(H:aa)(v:go)(l:List Ce)(B:dZ H v l)(cn:l≠[])(f:H.base<=H.next)(j:l.length<=10000) :
  bF Tryz.prog 33 [v] H (fun out X=>∃ u,out=.ok u/\fH H.next X u l/\Mod [] H X):=by
 obtain⟨b,r⟩:=ac H.next;have C:bk (ext H [⟨77,ci,[]⟩]) (b+0)=a9 ⟨77,ci,[]⟩:=by rw[aZ r nl]; rfl
 obtain⟨u,G,t,D,z,I⟩:=Ou (G:=ext H [⟨77,ci,[]⟩]) C (by rw[ai,r]; simp) ((Mod.ext (W:=[]) f).ok f) B.ext j
 rcases B with⟨h,_⟩|⟨_,n,off,s,c,e,o,L,rfl,J,A,M,ht⟩
 .exact absurd h cn
 rw[r]at A;refine aI mixed Tryz.func33 rfl Tryz.ntmps33 (zA7 rfl) ?_;simp only[r,t,Tryz.results33,zW,seval];refine⟨u,rfl,?_,?_⟩
 .obtain⟨m,O,R,o',S,T,h2,V⟩:=D;exact⟨m,O,R,o',S,T,by omega,V⟩
 .exact (Mod.ext (W:=[]) f).step z f (fun m z=>by simp only[zA5]at z; exact .inr lw)
def Mg(H:aa)(v:go)(g:List (List Ce))(r c:Int)(hg:ej H v g)(M:H.base<=H.next)(hs:aV H.next v=bv)(cn:∀ l∈g,l≠[])(hw:∀ l∈g,l.length<=10000)(hgl:g.length<=10000) :
  bF Tryz.prog 38 [.agg ⟨[v,jp kw r,jp kw c]⟩] H (fun out X=>∃ u rvs,out=.ok (.agg ⟨[u,jp kw r,jp kw c]⟩)/\Grow H.next X u rvs g/\Mod [] H X):=by
 obtain⟨b,hb⟩:=ac H.next;have hbase:H.base<=b:=hb▸M;obtain⟨a0,c0,e0⟩:=hg.sl;rw[hb]at hs;have hs':=hs;rw[e0]at hs;refine aI mixed Tryz.func38 rfl Tryz.ntmps38 (zA7 rfl) ?_;rw[e0];simp (maxDischargeDepth:=6) only[hb,hbase,hs,zW,seval];rw[<-e0];refine da fun E hE=>?_;have g1:E 1=li (a9 ⟨b+0,0,bi⟩):=by rw[hE]; rfl
 have g2:E 2=li (a9 ⟨b+1,0,bi⟩):=by rw[hE]; rfl
 have g9:E 9=v:=by rw[hE,e0]; simp only[aF,seval]
 have I:E 10=jp kw (g.length:Int):=by rw[hE]; rfl
 have t:E 11=jp kw ((0:Nat):Int):=by rw[hE]; rfl
 clear hE;generalize O:ext H _=X0;have m0:Mod [] H X0:=O▸Mod.ext M;have n0:X0.next=b+2:=by rw[<-O,ai,hb]; rfl
 have R:bk X0 (b+0)=a9 ⟨41,ci,[lm bi 0 0,jp kw r,jp kw c]⟩:=by rw[<-O,aZ hb nl]; rfl
 have k1:bk X0 (b+1)=a9 ⟨41,ci,[lm bi 0 0,jp kw 0,jp kw 0]⟩:=by rw[<-O,aZ hb nl]; rfl
 clear O;refine aS (fun E' X=>∃ u rvs,Mod [] H X/\b+2<=X.next/\bk X (b+1)=a9 ⟨41,ci,[lm bi 0 0,jp kw 0,jp kw 0]⟩/\bk X (b+0)=a9 ⟨41,ci,[u,jp kw r,jp kw c]⟩/\Grow (b+2) X u rvs g/\E' 1=li (a9 ⟨b+0,0,bi⟩)/\E' 2=li (a9 ⟨b+1,0,bi⟩)) ?_ ?_
 .refine cp (fun (k:Nat × go × List go) E' X=>Mod [] H X/\b+2<=X.next/\bk X (b+1)=a9 ⟨41,ci,[lm bi 0 0,jp kw 0,jp kw 0]⟩/\bk X (b+0)=a9 ⟨41,ci,[k.2.1,jp kw r,jp kw c]⟩/\Grow (b+2) X k.2.1 k.2.2 (g.take k.1)/\k.1<=g.length/\E' 1=li (a9 ⟨b+0,0,bi⟩)/\E' 2=li (a9 ⟨b+1,0,bi⟩)/\E' 9=v/\E' 10=jp kw (g.length:Int)/\E' 11=jp kw (k.1:Int)) (fun k=>g.length-k.1) (0,lm bi 0 0,[])
   ⟨m0,by omega,k1,R,Grow.nil,zB7 _,g1,g2,g9,I,t⟩ ?_
  clear g1 g2 g9 I t R k1 n0 m0;rintro⟨k,u,rvs⟩ E X ⟨mX,xl,k1,R,gr,hk,g1,g2,g9,I,t⟩;simp only at R k1 gr hk t;obtain⟨x,hx⟩:=ac X.next;have okX:=mX.ok M;have hxb:X.base<=x:=hx▸okX;rw[hx]at xl;have l0:b+0<x:=by omega
  rw[show X=ext X [] from rfl];by_cases hkl:k=g.length
  .have hc:f7 ((k:Int)<(g.length:Int))=false:=by simp[hkl]
   simp (maxDischargeDepth:=6) only[I,t,hc,zW,seval];rw[hkl,zH2]at gr;exact ag ⟨u,rvs,mX,by rw[ai,hx]; simpa using xl,k1,R,gr,by simp only[g1,aF,seval],by simp only[g2,aF,seval]⟩
  .have hlt:k<g.length:=by omega
   have hc:f7 ((k:Int)<(g.length:Int))=true:=decide_eq_true lw
   obtain⟨w1,hr1⟩:∃ r,g[k]?=a9 r:=⟨_,zB0 hlt⟩
   rcases hg with⟨h,_⟩|⟨_,n1,o1,s1,x1,t1,p1,L1,ev,b1,n1l,le1,tk1⟩
   .rw[h]at hlt; simp at hlt
   subst ev;obtain⟨u1,hu1,ra1⟩:=tk1 k w1 hr1;have hw1:w1≠[]:=cn w1 (zC5 hr1);have i1:=fD (n:=n1) (off:=o1) (s:=s1) (cap:=x1) (i:=(k:Int)) rfl hlt;have q1:=dG (e:=t1) (o:=p1) hu1;have b1X:rk X n1=a9 ⟨t1,p1,L1⟩:=(kh (mX.get n1 n1l nl)).trans b1;have raX:dZ X u1 w1:=ra1.of mX.next fun m hm=>mX.get m (ra1.ne hw1 m hm).2 nl;have n1x:n1<x:=by have:=mX.next; omega
   obtain⟨au,eu⟩:=gr.at_.len;simp (maxDischargeDepth:=6) only[g9,I,t,hx,n1x,i1,b1X,q1,cm,hc,zW,seval];refine aQ [(4,3),(5,1),(5,3),(5,4),(7,1),(7,3),(7,4),(7,5)] [] m9 m9 rfl fun ops anc hA hG=>?_;simp only[aw]at hA;simp (maxDischargeDepth:=6) only[g1,hx,l0,R,bS,zW,seval];have hFu:∀ n∈ae u1,X.get n≠bi/\n<X.next:=raX.ne hw1;have hrn:=aK X (ae u1);have ra2:dZ (X.restrict (ae u1)) u1 w1:=raX.of (by rw[hrn.1]; exact zA4 _) fun n hn=>by rw[aU,if_pos hn]
   obtain⟨_,gg,hcc,rv,rfl,hrv,mg⟩:=I3 (X.restrict (ae u1)) u1 w1 ra2 hw1 (by rw[hrn.1,hrn.2.1]; exact zA4 _) (hw w1 (zC5 hr1));rw[hrn.1]at hrv;refine mi (H:=ext X []) (W:=[]) (ae u1) okX rfl m9 (fun n hn=>(hFu n hn).1) (fun n hn=>(hFu n hn).2) (fun _ h=>by simp at h) (v:=rv) (g:=gg) (by simp only[aF]; exact hcc) mg (by simp[]) ?_;intro Z D mZ hFZ hNZ hnZ hDZ;have hD0:D=[]:=List.eq_nil_iff_forall_not_mem.2 (fun q hq=>by simpa using hDZ q hq);subst hD0;replace mZ:Mod [] X Z:=mZ;replace hNZ:∀ m,X.next<=m->m<gg.next->Z.get m=gg.get m:=hNZ;have okZ:=mZ.ok okX;have hZx:=mZ.next;have J:fH x Z rv w1:=by obtain⟨n,s,cc,o,e,h1,h2,h3⟩:=hrv;exact⟨n,s,cc,o,e,(bg (hNZ n h2 h3)).trans h1,by omega,by rw[hnZ]; exact h3⟩
   have S:∀ n∈ae rv,x<=n/\n<Z.next/\Z.get n≠none:=J.zt;obtain⟨nr,sr,cr,HY,rfl,hb3,hlo3,hlt3⟩:=id J;obtain⟨z,hz⟩:=ac Z.next;have hzb:Z.base<=z:=hz▸okZ;have T:=hlt3;rw[hz]at T;rw[show Z=ext Z [] from rfl];simp (maxDischargeDepth:=6) only[hz,T,hA,bS,zW,seval]
   obtain⟨A,V⟩:∃ q,q=Value.slice (a9 ⟨nr,0,Ur sr⟩) w1.length (w1.length+cr):=⟨_,rfl⟩
   have hone1:one A=true:=by rw[V]; rfl
   rw[<-V]at J S ⊢;rw[Jc (by simp only[aF,seval])];generalize hY2:ext Z _=B;have mY2:Mod [] Z B:=hY2▸Mod.ext okZ;have hY2n:B.next=z+1:=by rw[<-hY2,ai,hz]; rfl
   have hk2:bk B (z+0)=a9 ⟨56,ci,[A]⟩:=by rw[<-hY2,aZ hz nl]; rfl
   have okY2:=mY2.ok okZ;have f:Mod [] X B:=mZ.trans mY2
   have hF2:∀ n∈(z+0)::ae u,B.get n≠bi/\n<B.next:=fun n hn=>by
    rcases zA8.1 hn with rfl|hn
    .exact⟨fa hk2,by omega⟩
    .have:=gr.at_.ne n hn;exact⟨by rw[f.get n this.2 nl]; exact this.1,zE0 this.2 f.next⟩
   have C:=aK B ((z+0)::ae u);have hgtk:(g.take k).length=k:=by rw[zD9]; omega
   have vsY:=gr.at_.of (G:=B.restrict ((z+0)::ae u)) (by rw[C.1]; exact f.next) (fun n hn=>by rw[aU,if_pos (by simp[hn]),f.get n (gr.at_.ne n hn).2 nl]);have hrvY2:fH (b+2) B A w1:=by obtain⟨n,s,c',o,e,h1,h2,h3⟩:=J.of mY2.next (fun n hn=>mY2.get n (S n hn).2.1 nl);exact⟨n,s,c',o,e,h1,by omega,h3⟩
   have hscr:aT B.next (rvs++[A])=true:=cb (dV f.next _ gr.sc) (by rw[V]; simp only[aT,aV,Bool.and_true]; exact bd lw)
   obtain⟨G2,hap2,hvs2,hmd2,hgn2,_⟩:=oO (P:=Tryz.prog) (H:=B.restrict ((z+0)::ae u)) (st:=39) (xt:=39) (e:=56) (sz:=1) (by1:=24) (z:=lm bi 0 0) (n:=z+0) (off:=0) (cnt2:=1) (cap:=1) (s:=a9 0) (x:=B.next) (ws:=[A]) (b:=⟨56,ci,[A]⟩)
    m9 m9 m9 m9 rfl m9 vsY (iq ((bg (by rw[aU,if_pos nl])).trans hk2)) nl rfl (by simp[hone1]) ol sm C.1 (by rw[C.1]; exact hscr)
   refine lU (H:=B) (W:=ae u) ((z+0)::ae u) okY2 (fun n hn=>(hF2 n hn).1) (fun n hn=>(hF2 n hn).2) (fun n hn=>by simp[hn]) (Jt (v:=_) (G:=G2) rfl (by simp only[aF,seval]; exact hap2)) (hmd2 (by rw[C.1,C.2.1]; exact zA4 _)) (by simp only[aw,cG,hA,true_or,and_true]) ?_;intro Z3 D3 mZ3 hFZ3 hNZ3 hnZ3 hDZ3;rw[hgn2]at hnZ3 hNZ3
   have hb4:bk Z3 B.next=a9 ⟨56,bv,rvs++[A]⟩:=by
    obtain⟨_,_,⟨h0,_⟩|⟨_,n,e,hbn,_⟩⟩:=hvs2
    .omega
    .cases e;exact (bg (hNZ3 _ (zA4 _) lw)).trans hbn
   have gr3:=gr.push f lw hrvY2 (fun n hn=>by rw[hx]; exact (S n hn).1) hone1 mZ3 hb4 lw;have nbu:∀ j,j<b+2->j∉ae u:=fun j hj h=>by have:=(gr.apart j h).1; omega
   have gH:∀ j,j<b+2->bk Z3 j=bk X j:=fun j hj=>(mZ3.bk lw (nbu j hj)).trans (f.bk lw nl);have k0':=(gH (b+0) lw).trans R;have k1':=(gH (b+1) lw).trans k1;obtain⟨z3,hz3⟩:=ac Z3.next;have l3:b+0<z3:=by omega
   have l4:B.next<z3:=by omega
   rw[hgtk]at gr3 ⊢;rw[show Z3=ext Z3 [] from rfl];simp (maxDischargeDepth:=6) only[g1,t,hz3,k0',l3,l4,hA,ba (show k<1000000 by omega),bS,zW,seval];refine⟨⟨fun _=>.inr (.inl lw),.inr (.inl lw),fun _=>.inr (.inl lw)⟩,?_⟩;generalize hU:uw Z3 (b+0) 0 _=U;have mU:Mod [b+0] Z3 U:=hU▸Mod.uw nl;have hU2:bk U (b+0)=a9 ⟨41,ci,[lm (a9 ⟨B.next,0,bi⟩) (k+1) (k+1),jp kw r,jp kw c]⟩:=by rw[<-hU,bR,k0']; rfl
   have mXU:Mod ((b+0)::ae u) X U:=((f.mono nl).trans (mZ3.mono (fun n hn=>zB9 _ hn))).trans (mU.mono nl);have hUn:=mU.next;refine aG ⟨(k+1,lm (a9 ⟨B.next,0,bi⟩) (k+1) (k+1),rvs++[A]),by simp only; omega,mX.step mXU M (fun n hn=>?_),by rw[ai]; simp only[zB4]; omega,?_,hU2,?_,by simp only; omega,?_,?_,?_,?_,?_⟩
   .rcases zA8.1 hn with rfl|hn
    .exact .inr lw
    .have:=(gr.apart n hn).1; exact .inr lw
   .exact (mU.bk lw nl).trans k1'
   .simp only;rw[show g.take (k+1)=g.take k++[w1] from by rw[zG4,hr1]; rfl];refine gr3.of mU.next fun n hn hm=>mU.get n hn ?_;simp only[zA5];rintro rfl;rcases zB1.1 hm with hm|hm
    .have:=(gr3.apart _ hm).1; omega
    .have:=(gr3.ids _ hm).1; omega
   .exact g1
   .exact g2
   .exact g9
   .exact I
   .rfl
 .clear g1 g2 g9 I t R k1 n0 m0;rintro E X ⟨u,rvs,mX,xl,k1,R,gr,g1,g2⟩;obtain⟨au,eu⟩:=gr.at_.len;obtain⟨x,hx⟩:=ac X.next;rw[hx]at xl;have l1:b+1<x:=by omega
  have l0:b+0<x:=by omega
  have hsu:aV x (.slice au g.length g.length)=true:=by
   rw[<-eu];obtain⟨_,_,⟨_,rfl⟩|⟨_,n,rfl,_,h⟩⟩:=gr.at_
   .rfl
   .exact bd (by rw[<-hx]; exact h)
  rw[eu]at R;rw[show X=ext X [] from rfl];simp (maxDischargeDepth:=6) only[g1,g2,hx,R,k1,l0,l1,hsu,Tryz.results38,zW,seval];generalize hU:uw X (b+1) 0 _=U;have mU:Mod [b+1] X U:=hU▸Mod.uw nl;refine⟨u,rvs,by rw[eu],?_,mX.step mU M (fun n hn=>by simp only[zA5]at hn; exact .inr lw)⟩
  have gU:=gr.of (Y:=U) mU.next fun n hn hm=>mU.get n hn (by
   simp only[zA5];rintro rfl;rcases zB1.1 hm with hm|hm
   .have:=(gr.apart _ hm).1; omega
   .have:=(gr.ids _ hm).1; omega)
  exact⟨gU.at_,fun i rv l h1 h2=>by
   obtain⟨n,s,c',o,e,h3,h4,h5⟩:=gU.row i rv l h1 h2
   exact⟨n,s,c',o,e,h3,by omega,h5⟩,gU.nd,fun n hn=>⟨by have:=(gU.apart n hn).1; omega,(gU.apart n hn).2⟩,gU.sc⟩
def QN(H:aa)(v:go):Prop:=∀ n off s len c b,v=lm (a9 ⟨n,off,s⟩) len c->rk H n=a9 b->aT H.next b.l=bv
def ej.sK{H:aa}{v:go}{g:List (List Ce)}(h:ej H v g)(cn:g≠[]):∃ F:List Nat,(∀ n∈F,H.get n≠bi/\n<H.next)/\∀ G:aa,H.next<=G.next->(∀ n∈F,G.get n=H.get n)->ej G v g/\(QN H v->QN G v):=by
 rcases h with⟨h,_⟩|⟨_,n,off,s,c,e,o,L,rfl,D,z,A,I⟩
 .exact absurd h cn
 refine⟨n::(List.range g.length).flatMap fun k=>uN (g.getD k []) (L.getD (off+k) (lm bi 0 0)),fun m hm=>?_,fun G J B=>⟨.inr ⟨cn,n,off,s,c,e,o,L,rfl,(kh (B n nl)).trans D,by omega,A,fun k row r=>?_⟩,fun O V M s' len' c' R S t=>?_⟩⟩
 .rcases zA8.1 hm with rfl|hm
  .exact⟨KW D,z⟩
  .obtain⟨k,r,hm⟩:=zG3.1 hm;have r:=zF7.1 r
   obtain⟨row,j⟩:∃ row,g[k]?=a9 row:=⟨_,zB0 r⟩
   obtain⟨rv,f,C⟩:=I k row j;rw[zC9,j,zC9,f]at hm;simp only[zH9]at hm;unfold uN at hm;split at hm
   .cases hm
   .rename_i T; exact C.ne T m hm
 .obtain⟨rv,f,C⟩:=I k row r;refine⟨rv,f,C.Si J fun m hm=>B m (zB9 _ (zG3.2 ⟨k,zF7.2 (zF5.1 r).1,?_⟩))⟩;rw[zC9,r,zC9,f];exact hm
 .cases S;rw[kh (B n nl)]at t;exact dV J _ (O n off s _ _ R rfl t)
def iP.df{H G:aa}{v:go}{l:List Op}(h:iP H v l)(m:Mod [] H G):iP G v l:=by
 rcases h with⟨rfl,a,c,rfl⟩|⟨r,n,off,s,c,e,o,L,rfl,t,f,j,z⟩
 .exact .inl ⟨rfl,a,c,rfl⟩
 .exact .inr ⟨r,n,off,s,c,e,o,L,rfl,(kh (m.get n f nl)).trans t,m.lt f,j,z⟩
def iP.gO{H:aa}{v:go}{l:List Op}(h:iP H v l)(f:l≠[]):∀ n∈ae v,n<H.next:=by
 rcases h with⟨rfl,_⟩|⟨_,n,off,s,c,e,o,L,rfl,t,j,_⟩
 .exact absurd rfl f
 .intro m r; simp only[ae,zA5]at r; omega
def St.start(g:List (List Ce))(r c:Int):St:=⟨g,r,c,⟨0,0,ci,ci,ci⟩,max r 0,c,f7 (0<=r)⟩
def St.atR(y:St):Int:=if y.shown=bv then y.row else -1
def St.Kd(W:Nat)(y:St):Int:=if y.shown=bv then min y.col ((W:Int)-1) else 0
def zj{g:List (List Ce)}{r c:Int}(h:eK g r c=0):(St.start g r c).Ok (di g)/\(∀ l∈g,l≠[])/\g≠[]:=by
 unfold eK at h
 cases j:(f7 ((g.length:Int)<1)||f7 (200<(g.length:Int))) with
 |true=>rw[j,cond_true]at h; omega
 |false =>
  rw[j,cond_false]at h;simp only[Bool.or_eq_false_iff,decide_eq_false_iff_not]at j;obtain⟨W,A⟩:=ac (di g);rw[A]at h ⊢
  cases n:(f7 ((W:Int)<1)||f7 (1000<(W:Int))||(!(f7 (0<=r)&&f7 (r<(g.length:Int))&&f7 (0<=c)&&f7 (c<(W:Int)))&&!(f7 (r=-1)&&f7 (c=0)))) with
  |true=>rw[n,cond_true]at h; omega
  |false =>
   rw[n,cond_false]at h
   cases s:lA W g with
   |false=>rw[s,cond_false]at h; omega
   |true =>
    have t:∀ l∈g,l.length=W:=fun l o=>by have:=zC3.1 s l o;unfold pH at this;simp only[zA6,decide_eq_true_eq]at this;exact this.1
    simp only[Bool.or_eq_false_iff,decide_eq_false_iff_not]at n;obtain⟨⟨w1,B⟩,f⟩:=n
    have z:(0<=r/\r<(g.length:Int)/\0<=c/\c<(W:Int))\/(r=-1/\c=0):=by
     by_cases q:(r=-1/\c=0)
     .exact .inr q
     .left;have:(f7 (r=-1)&&f7 (c=0))=false:=by by_cases C:r=-1<;>by_cases D:c=0<;>simp_all
      rw[this]at f;simp only[zF4,Bool.and_true,Bool.not_eq_false',zA6,decide_eq_true_eq]at f;exact⟨f.1.1.1,f.1.1.2,f.1.2,f.2⟩
    refine⟨⟨by show 1<=g.length; omega,by show g.length<=200; omega,by omega,by omega,t,by show 0<=max r 0; omega,by show max r 0<g.length; omega,by show 0<=c; omega,by show c<=W; omega⟩,fun l o e=>?_,fun e=>?_⟩
    .have:=t l o; rw[e]at this; simp at this; omega
    .rw[e]at j; simp at j
def wD{W:Nat}{r:List UInt8->Option (List Int)}:∀(l:List Op)(i:Nat)(x y:St),x.Ok W->St.all W r l i x=.inl y->y.Ok W
 |[],_,x,y,ok,h=>by rw[St.all]at h; cases h; exact ok
 |o::l,i,x,y,ok,h=>by
  rw[St.all]at h
  cases c:x.iD W r o with
  |none=>rw[c]at h; cases h
  |some z=>rw[c]at h; exact wD l (i+1) z y (yz ok c) h
def UB(H:aa)(g:List (List Ce))(r c:Int)(l:List Op)(out:Out)(X:aa):Prop :=
 Mod [] H X/\if eK g r c=0 then (match St.all (di g) ei l 0 (St.start g r c) with
  |.inr i=>out=.ok (.tuple #[.agg #[lm bi 0 0,jp kw 0,jp kw 0],jp kw 5,jp kw (i:Int)])
  |.inl y=>∃ u rvs N,out=.ok (.tuple #[.agg #[u,jp kw y.atR,jp kw (y.Kd (di g))],jp kw 0,jp kw 0])/\H.next<=N/\jO N X u rvs y.aj)
 else out=.ok (.tuple #[.agg #[lm bi 0 0,jp kw 0,jp kw 0],jp kw (eK g r c),jp kw 0])
def EU(w:Nat)(f:1<=w)(j:w<=300)(H:aa):bD Tryz.prog 36 [jp kw (w:Int)] H (.ok (lm (a9 ⟨H.next,0,a9 0⟩) w w)) (ext H [⟨77,ci,a8 (List.replicate w Ce.blank)⟩]):=by refine j8 (fun wf h=>?_) (fun _ _=>kj _ _);obtain⟨b,c⟩:=ac H.next;refine aI mixed Tryz.func36 rfl Tryz.ntmps36 (zA7 rfl) ?_;simp only[c,zW,seval];refine (AR w f lw Ce.blank (b+0) (a9 0) (ext H (_::_)) (by rw[aZ c nl]; rfl)).to ?_;simp only[c,zA9,zB4,Tryz.results36,zW,seval];exact⟨_,rfl,by omega,by rw[aZ c nl]; rfl,Mod.ext wf.base⟩
def jj(h w:Nat):List (List Ce):=List.replicate h (List.replicate w Ce.blank)
def j7(h w:Nat):(jj h w).length=h:=by simp[jj]
def Mr(H:aa)(h w:Nat)(out:Out)(H1:aa):Prop:=∃ q rvs,out=.ok (.tuple #[.agg #[lm (a9 ⟨q,0,bi⟩) h h,jp kw (-1),jp kw 0],jp kw 0])/\q<H1.next/\Grow H.next H1 (lm (a9 ⟨q,0,bi⟩) h h) rvs (jj h w)/\Mod [] H H1
def Ib(h w:Nat)(h1:1<=h)(h2:h<=200)(w1:1<=w)(w2:w<=300)(H:aa)(B:H.base<=H.next):bF Tryz.prog 19 [jp kw (h:Int),jp kw (w:Int)] H (Mr H h w):=by
 obtain⟨b,hb⟩:=ac (H.next);have hbase:H.base<=b:=hb▸B;have c1:f7 ((h:Int)<1)=false:=decide_eq_false lw;have c2:f7 ((200:Int)<(h:Int))=false:=decide_eq_false lw;have c3:f7 ((w:Int)<1)=false:=decide_eq_false lw;have c4:f7 ((1000:Int)<(w:Int))=false:=decide_eq_false lw;refine aI mixed Tryz.func19 rfl Tryz.ntmps19 (zA7 rfl) ?_;simp (maxDischargeDepth:=6) only[hb,hbase,c1,c2,c3,c4,zW,seval];refine da fun E hE=>?_;have g1:E 1=jp kw (w:Int):=by rw[hE]; simp only[aF,seval]
 have V:E 4=li (a9 ⟨b+0,0,bi⟩):=by rw[hE]; simp only[aF,seval]
 have I:E 6=li (a9 ⟨b+1,0,bi⟩):=by rw[hE]; simp only[aF,seval]
 have gB:E 23=jp kw (h:Int):=by rw[hE]; simp only[aF,seval]
 have gC:E 24=jp kw ((0:Nat):Int):=by rw[hE]; (simp only[aF]<;>rfl)
 clear hE;generalize C:ext H (_::_)=X0;have m0:Mod [] H X0:=C▸Mod.ext B;have n0:X0.next=b+2:=by rw[<-C,ai,hb]; rfl
 have R:bk X0 (b+0)=a9 ⟨41,ci,[lm bi 0 0,jp kw 0,jp kw 0]⟩:=by rw[<-C,aZ hb nl]; rfl
 have J:bk X0 (b+1)=a9 ⟨41,ci,[lm bi 0 0,jp kw (-1),jp kw 0]⟩:=by rw[<-C,aZ hb nl]; rfl
 clear C;refine aS (fun E' X=>∃ u rvs,Mod [] H X/\b+2<=X.next/\bk X (b+0)=a9 ⟨41,ci,[lm bi 0 0,jp kw 0,jp kw 0]⟩/\bk X (b+1)=a9 ⟨41,ci,[u,jp kw (-1),jp kw 0]⟩/\Grow (b+2) X u rvs (jj h w)/\E' 4=li (a9 ⟨b+0,0,bi⟩)/\E' 6=li (a9 ⟨b+1,0,bi⟩)) ?_ ?_
 .refine cp (fun (k:Nat × go × List go) E' X=>Mod [] H X/\b+2<=X.next/\bk X (b+0)=a9 ⟨41,ci,[lm bi 0 0,jp kw 0,jp kw 0]⟩/\bk X (b+1)=a9 ⟨41,ci,[k.2.1,jp kw (-1),jp kw 0]⟩/\Grow (b+2) X k.2.1 k.2.2 (jj k.1 w)/\k.1<=h/\E' 1=jp kw (w:Int)/\E' 4=li (a9 ⟨b+0,0,bi⟩)/\E' 6=li (a9 ⟨b+1,0,bi⟩)/\E' 23=jp kw (h:Int)/\E' 24=jp kw (k.1:Int)) (fun k=>h-k.1) (0,lm bi 0 0,[])
   ⟨m0,by omega,R,J,Grow.nil,zB7 _,g1,V,I,gB,gC⟩ ?_
  clear g1 V I gB gC R J n0 m0;rintro⟨k,u,rvs⟩ E X ⟨mX,xl,R,J,gr,hk,g1,V,I,gB,gC⟩;simp only at R J gr hk gC;obtain⟨x,hx⟩:=ac (X.next);have okX:=mX.ok B;have hxb:X.base<=x:=hx▸okX;rw[hx]at xl;have l1:b+1<x:=by omega
  rw[show X=ext X [] from rfl];by_cases hkl:k=h
  .have hc:f7 ((k:Int)<(h:Int))=false:=by simp[hkl]
   simp (maxDischargeDepth:=6) only[gB,gC,hc,zW,seval];rw[hkl]at gr;exact ag ⟨u,rvs,mX,by rw[ai,hx]; simpa using xl,R,J,gr,by simp only[V,aF,seval],by simp only[I,aF,seval]⟩
  .have hlt:k<h:=by omega
   have hc:f7 ((k:Int)<(h:Int))=true:=decide_eq_true lw;obtain⟨au,eu⟩:=gr.at_.len;have onu:one u=true:=by rw[eu]; rfl
   have scu:aV x u=true:=hx▸gr.at_.sc;simp (maxDischargeDepth:=6) only[gB,gC,hc,zW,seval];refine aQ [(4,3),(5,1),(5,3),(5,4),(6,3),(6,4),(6,5),(7,1),(7,3),(7,4),(7,5)] [] m9 m9 rfl fun ops anc hA hG=>?_;simp only[aw]at hA;simp (maxDischargeDepth:=6) only[g1,I,hx,l1,J,bS,zW,seval];refine ue (H:=ext X []) (v:=lm (a9 ⟨x+0,0,a9 0⟩) w w) (M:=[⟨77,ci,a8 (List.replicate w Ce.blank)⟩]) [] (by simp (maxDischargeDepth:=6) only[aF,seval]) m9 ol (fun _ h=>by cases h) (fun G hn _=>?_) (by simp (maxDischargeDepth:=6) only[bS]) ?_
   .simp only[aF];have:=EU w w1 w2 G;rw[hn,ext_nil,hx]at this;exact this
   simp (maxDischargeDepth:=6) only[hx,hA,zA9,zB4,bS,zW,seval];rw[Jc (by simp only[aF,seval])]
   obtain⟨f,r⟩:∃ q,q=Value.slice (a9 ⟨x+0,0,a9 0⟩) w w:=⟨_,rfl⟩
   have D:one f=true:=by rw[r]; rfl
   rw[<-r];generalize S:ext X _=t;have c:Mod [] X t:=S▸Mod.ext okX;have hY2n:t.next=x+2:=by rw[<-S,ai,hx]; rfl
   have hk1:bk t (x+0)=a9 ⟨77,ci,a8 (List.replicate w Ce.blank)⟩:=by rw[<-S,aZ hx nl]; rfl
   have hk2:bk t (x+1)=a9 ⟨56,ci,[f]⟩:=by rw[<-S,aZ hx nl]; rfl
   have okY2:=c.ok okX
   have hF2:∀ n∈(x+1)::ae u,t.get n≠bi/\n<t.next:=fun n hn=>by
    rcases zA8.1 hn with rfl|hn
    .exact⟨fa hk2,by omega⟩
    .have:=gr.at_.ne n hn;exact⟨by rw[c.get n this.2 nl]; exact this.1,zE0 this.2 c.next⟩
   have A:=aK t ((x+1)::ae u);have hgtk:=j7 k w;have vsY:=gr.at_.of (G:=t.restrict ((x+1)::ae u)) (by rw[A.1]; exact c.next) (fun n hn=>by rw[aU,if_pos (by simp[hn]),c.get n (gr.at_.ne n hn).2 nl]);have hlw:(List.replicate w Ce.blank).length=w:=by simp
   have hrvY2:fH (b+2) t f (List.replicate w Ce.blank):=⟨x+0,ci,0,ci,by rw[r,hlw]; rfl,hk1,by omega,by omega⟩
   have hscr:aT t.next (rvs++[f])=true:=cb (dV c.next _ gr.sc) (by rw[r]; simp only[aT,aV,Bool.and_true]; exact bd lw)
   obtain⟨G2,hap2,hvs2,hmd2,hgn2,_⟩:=oO (P:=Tryz.prog) (H:=t.restrict ((x+1)::ae u)) (st:=39) (xt:=39) (e:=56) (sz:=1) (by1:=24) (z:=lm bi 0 0) (n:=x+1) (off:=0) (cnt2:=1) (cap:=1) (s:=a9 0) (x:=t.next) (ws:=[f]) (b:=⟨56,ci,[f]⟩)
    m9 m9 m9 m9 rfl m9 vsY (iq ((bg (by rw[aU,if_pos nl])).trans hk2)) nl rfl (by simp[D]) ol sm A.1 (by rw[A.1]; exact hscr)
   refine lU (H:=t) (W:=ae u) ((x+1)::ae u) okY2 (fun n hn=>(hF2 n hn).1) (fun n hn=>(hF2 n hn).2) (fun n hn=>by simp[hn]) (Jt (v:=_) (G:=G2) (by simp only[aF,seval]) (by simp only[aF,seval]; exact hap2)) (hmd2 (by rw[A.1,A.2.1]; exact zA4 _)) (by simp only[aw,cG,hA,true_or,and_true]) ?_;intro Z3 D3 mZ3 hFZ3 hNZ3 hnZ3 hDZ3;rw[hgn2]at hnZ3 hNZ3
   have hb4:bk Z3 t.next=a9 ⟨56,bv,rvs++[f]⟩:=by
    obtain⟨_,_,⟨h0,_⟩|⟨_,n,e,hbn,_⟩⟩:=hvs2
    .omega
    .cases e;exact (bg (hNZ3 _ (zA4 _) lw)).trans hbn
   have T:=gr.push c lw hrvY2 (fun n hn=>by rw[r]at hn; simp only[ae,zA5]at hn; omega) D mZ3 hb4 lw;have nbu:∀ j,j<b+2->j∉ae u:=fun j hj h=>by have:=(gr.apart j h).1; omega
   have gH:∀ j,j<b+2->bk Z3 j=bk X j:=fun j hj=>(mZ3.bk lw (nbu j hj)).trans (c.bk lw nl);have k0':=(gH (b+0) lw).trans R;have k1':=(gH (b+1) lw).trans J;obtain⟨z3,hz3⟩:=ac (Z3.next);have l3:b+1<z3:=by omega
   have l4:t.next<z3:=by omega
   rw[hgtk]at T ⊢;rw[show Z3=ext Z3 [] from rfl];simp (maxDischargeDepth:=6) only[I,gC,hz3,k1',l3,l4,hA,ba (show k<1000000 by omega),bS,zW,seval];generalize hU:uw Z3 (b+1) 0 _=U;have O:Mod [b+1] Z3 U:=hU▸Mod.uw nl;have hU2:bk U (b+1)=a9 ⟨41,ci,[lm (a9 ⟨t.next,0,bi⟩) (k+1) (k+1),jp kw (-1),jp kw 0]⟩:=by rw[<-hU,bR,k1']; rfl
   have mXU:Mod ((b+1)::ae u) X U:=((c.mono nl).trans (mZ3.mono (fun n hn=>zB9 _ hn))).trans (O.mono nl);have hUn:=O.next;refine aG ⟨(k+1,lm (a9 ⟨t.next,0,bi⟩) (k+1) (k+1),rvs++[f]),by simp only; omega,mX.step mXU B (fun n hn=>?_),by rw[ai]; simp only[zB4]; omega,?_,hU2,?_,by simp only; omega,?_,?_,?_,?_,?_⟩
   .rcases zA8.1 hn with rfl|hn
    .exact .inr lw
    .have:=(gr.apart n hn).1; exact .inr lw
   .exact (O.bk lw nl).trans k0'
   .simp only;rw[show jj (k+1) w=jj k w++[List.replicate w Ce.blank] from by unfold jj; rw[List.replicate_succ']];refine T.of O.next fun n hn hm=>O.get n hn ?_;simp only[zA5];rintro rfl;rcases zB1.1 hm with hm|hm
    .have:=(T.apart _ hm).1; omega
    .have:=(T.ids _ hm).1; omega
   .simp only[g1,aF,seval]
   .simp only[V,aF,seval]
   .simp only[I,aF,seval]
   .simp only[gB,aF,seval]
   .simp only[aF]
 .clear g1 V I gB gC R J n0 m0;rintro E X ⟨u,rvs,mX,xl,R,J,gr,V,I⟩
  obtain⟨q,rfl,hql⟩:∃ q,u=lm (a9 ⟨q,0,bi⟩) h h/\q<X.next:=by
   have hl:=j7 h w;obtain⟨_,_,⟨h0,_⟩|⟨_,n,rfl,_,hn⟩⟩:=gr.at_
   .omega
   .exact⟨n,by rw[hl],hn⟩
  obtain⟨x,hx⟩:=ac (X.next);rw[hx]at xl hql;have l1:b+1<x:=by omega
  have l0:b+0<x:=by omega
  rw[show X=ext X [] from rfl];simp (maxDischargeDepth:=6) only[V,I,hx,R,J,l0,l1,hql,Tryz.results19,zW,seval];generalize hU:uw X (b+0) 0 _=U;have O:Mod [b+0] X U:=hU▸Mod.uw nl;refine⟨q,rvs,rfl,O.lt lw,?_,mX.step O B (fun n hn=>by simp only[zA5]at hn; exact .inr lw)⟩
  have gU:=gr.of (Y:=U) O.next fun n hn hm=>O.get n hn (by
   simp only[zA5];rintro rfl;rcases zB1.1 hm with hm|hm
   .have:=(gr.apart _ hm).1; omega
   .have:=(gr.ids _ hm).1; omega)
  exact⟨gU.at_,fun i rv l h1 h2=>by
   obtain⟨n,s,c',o,e,h3,h4,h5⟩:=gU.row i rv l h1 h2
   exact⟨n,s,c',o,e,h3,by omega,h5⟩,gU.nd,fun n hn=>⟨by have:=(gU.apart n hn).1; omega,(gU.apart n hn).2⟩,gU.sc⟩
end Go.Proofs.YtpohjcacnkhnkaaGreatDoor
namespace Go.Proofs.YtpohjcacnkhnkaaGreatDoor.Tq
open Go.Ax
def OM(b:Bool)(x y:Int × Int)(hx:x.2<=4)(c:y.2<=4):(cond b x y).2<=4:=by cases b<;>assumption
def Sp(l:List UInt8):(rV l).2<=4:=by
 unfold rV
 repeat' apply OM
 all_goals (simp only; omega)
def CM:∀(n:Nat)(l:List UInt8)(r:List Int),l.length<=n->ei l=a9 r->l.length<=4*r.length
 |0,l,r,f,h=>by omega
 |n+1,l,r,f,h=>by
  by_cases c:0<l.length
  .rw[n6 l c]at h;have o:=Sp l;obtain⟨s,t,_⟩:=ri l c;split at h
   .cases h
   .rename_i z;obtain⟨q,j,rfl⟩:=zB5.1 h;have:=CM n _ q (by rw[zC6]; omega) j;rw[zC6]at this;rw[zA9];omega
  .omega
def Gu{W:Nat}:∀(l:List Int)(n:Int),St.fits W l n=bv->n<=W->n+l.length<=W
 |[],n,_,h=>by simpa using h
 |c::l,n,h,_=>by obtain⟨o,f,j⟩:=rm h;have:=Gu l _ j f;rw[zA9];omega
def oL(ns:List Nat)(f:UInt8):(gA ns f).length<=5*ns.length+3:=by have:=join_le ns;simp only[gA,zA9,zB3,zB4];omega
def QP(k:Tj):(lF k).length<=10:=by
 unfold lF;simp only[zA9,zB3,apply_ite List.length,zB4]
 (repeat' split)<;>omega
def UC{o:CB}(c:o.kind≠3){b:List UInt8}(h:mA o=a9 b):b.length<=200:=by
 unfold mA at h;by_cases f:o.kind=1
 .rw[if_pos f]at h;split at h
  .cases h;exact zC4 (oL _ _) nl
  .cases h
 rw[if_neg f]at h;by_cases j:o.kind=2
 .rw[if_pos j]at h;split at h
  .cases h;have:=QP o.look;exact zC4 (oL _ _) lw
  .cases h
 rw[if_neg j,if_neg c]at h;by_cases r:o.kind=4
 .rw[if_pos r]at h;cases h;exact zC4 (oL _ _) nl
 rw[if_neg r]at h;by_cases s:o.kind=5\/o.kind=6
 .rw[if_pos s]at h;split at h
  .cases h;have A:=oL [o.row.toNat+1,o.col.toNat+1] 114;have B:=oL [o.row.toNat+1,0+1] 72;have c:=oL [o.n.toNat] (cond (f7 (o.kind=5)) 77 76);have C:=oL [] 114;simp only[zA9,zB4]at A B c C;simp only[w9,zB3,zA9,zB4];omega
  .cases h
 rw[if_neg s]at h;by_cases t:o.kind=7
 .rw[if_pos t]at h;cases h; simp
 rw[if_neg t]at h;by_cases z:o.kind=8
 .rw[if_pos z]at h;cases h; simp
 rw[if_neg z]at h;cases h
def yz{W:Nat}{x y:St}{o:CB}(s:W<=100)(ok:x.Ok W)(h:x.iD W ei o=a9 y):(∀ b,mA o=a9 b->b.length<=400)/\(o.kind=3->o.text.size<=1000000000):=by
 by_cases f:o.kind=3
 .have j:o.text.data.toList.length<=400:=by
   unfold St.iD at h;rw[if_neg lw,if_neg lw,if_pos f]at h;split at h
   .cases h
   .rename_i l n;split at h
    .rename_i r;have t:=CM _ _ _ (zA4 _) n;have z:=Gu _ _ r ok.col1;have A:=ok.col0;omega
    .cases h
  refine⟨fun b c=>?_,fun _=>by rw[show o.text.size=o.text.data.toList.length from Array.length_toList.symm]; omega⟩;unfold mA at c;rw[if_neg lw,if_neg lw,if_pos f]at c;split at c
  .cases c
  .split at c
   .cases c; omega
   .cases c
 .exact⟨fun b c=>by have:=UC f c; omega,fun h=>absurd h f⟩
def wD{W:Nat}(f:W<=100):∀(l:List CB)(i:Nat){x y:St}{t:Tm},pI W x t->St.all W ei l i x=.inl y->∀ o∈l,(∀ b,mA o=a9 b->b.length<=400)/\(o.kind=3->o.text.size<=1000000000)
 |[],i,x,y,t,s,h=>by simp
 |o::l,i,x,y,t,s,h=>by
  rw[St.all]at h
  cases c:x.iD W ei o with
  |none=>rw[c]at h; cases h
  |some z =>
   rw[c]at h;obtain⟨b,n,j⟩:=OC s c;intro q hq;rcases zA8.1 hq with rfl|hq
   .exact yz f s.ok c
   .exact wD f l (i+1) j h q hq
def RQ(l:List Ce):Go.Proofs.YtpohjcacnkhnkaaGreatDoor.a8 (l.map AL)=a8 l:=by
 induction l with
 |nil=>rfl
 |cons c l f=>rw[zB8,Go.Proofs.YtpohjcacnkhnkaaGreatDoor.cP,f,cP]; rfl
def TB{W:Nat}{x:St}{t:Tm}(s:pI W x t):t.dR=x.atR/\t.dQ=x.Kd W:=by have c:=s.width;unfold Tm.dR Tm.dQ St.atR St.Kd Tm.inside;rw[s.shown,s.row,s.col,c];cases t.shown<;>exact⟨rfl,rfl⟩
def Live.quiet{H H1:aa}{p:Rp}{x:Tm}(l:Live H p x)(m:Mod [] H H1):Live H1 p x:=by obtain⟨t,a,b⟩:=l.tb.step (Step.quiet l.at_ m) l.p0 l.p1;exact⟨(Step.quiet l.at_ m).at_,l.sz,t,l.p0,l.p1,l.pl⟩
def Pj(p q:Rp):Prop:=∀ n∈p.aM,n∉q.aM
def Live.other{H H1:aa}{p q o:Rp}{x y:Tm}(l:Live H p x)(s:Step H q H1 o y)(r:0∉q.aM)(f:1∉q.aM)(d:Pj p q):Live H1 p x/\Pj p o:=by
 have z:cx H1 p x:=l.at_.of s.mod.next fun n c=>s.mod.get n (l.at_.lt n c) (d n c);obtain⟨t,_,_⟩:=l.tb.step s r f;refine⟨⟨z,l.sz,t,l.p0,l.p1,l.pl⟩,fun n c j=>?_⟩;rcases s.new n j with h|h
 .exact d n c h
 .have:=l.at_.lt n c; omega
def z7{H:aa}{h w:Nat}(ok:H.base<=H.next)(c:ti H)(r:1<=h)(B:h<=40)(w1:1<=w)(C:w<=100) :
  bF Tryz.prog 10 [jp kw (h:Int),jp kw (w:Int)] H fun out H1=>∃ p,out=.ok (.tuple ⟨[li (a9 ⟨p.t,0,bi⟩),jp kw 0]⟩)/\Live H1 p (Tm.new h w)/\Mod [] H H1/\∀ n∈p.aM,H.next<=n:=by
 refine (TR H h w ok r lw w1 lw).mono ?_;rintro out H1 ⟨p,rfl,t,m,j,_,_⟩;have s:=m.bk c.l0 nl;have z:=m.bk c.l1 nl;refine⟨p,rfl,⟨t,Dv r lw w1 lw,⟨fun a A=>by rw[s]; exact c.f a A,fun i hi=>by rw[z]; exact c.a i hi,m.lt c.l0,m.lt c.l1⟩,fun o=>?_,fun o=>?_,by simp[Tm.new]⟩,m,j⟩
 .have:=j 0 o; have:=c.l0; omega
 .have:=j 1 o; have:=c.l1; omega
def Tb(H:aa)(h w:Int)(t:h<1\/w<1)(z:h<=40):Pure 10 [jp kw h,jp kw w] H (.tuple ⟨[li bi,jp kw 3]⟩):=by
 obtain⟨f,j⟩:∃ d,f7 (h<1)=d:=⟨_,rfl⟩
 have r:f7 ((200:Int)<h)=false:=decide_eq_false lw
 obtain⟨n,o⟩:∃ d,f7 (w<1)=d:=⟨_,rfl⟩
 have c:¬(f=ci/\n=ci):=fun⟨a,b⟩=>by have:=of_decide_eq_false (j.trans a);have:=of_decide_eq_false (o.trans b);omega
 refine bA mixed Tryz.func10 rfl Tryz.ntmps10 (zA7 rfl) fun wf s=>?_
 cases f<;>cases n<;>first
  |exact absurd ⟨rfl,rfl⟩ c
  |(simp only[j,r,o,Tryz.results10,zW,seval]; exact Fin.cf rfl rfl)
def Sx(H:aa)(t:Od H):bD Tryz.prog 6 [] H (.ok (ls bv)) H:=by
 obtain⟨c,f,h,j⟩:=t;refine Mt mixed (Nl _) rfl (MM c f) (fun x hx=>?_);simp only[Vk,zA8,zD7,or_false]at hx;rcases hx with rfl|rfl
 .exact⟨show 0<Tryz.prog.globals.size by decide +kernel,by kernel_rfl,h⟩
 .exact⟨show 1<Tryz.prog.globals.size by decide +kernel,by kernel_rfl,j⟩
def MZ(X:aa)(l:List go)(n x:Nat)(h:X.base<=X.next)(hx:X.next=x):bB Tryz.prog (ext X [⟨5,ci,l⟩]) 25 25 (lm (a9 ⟨x+0,0,a9 0⟩) n n)=a9 (lm (a9 ⟨x+0,0,a9 0⟩) n n,ext X [⟨5,bv,l⟩]):=by
 subst hx;have j:Tryz.prog.underlying 25=a9 (.slice 5):=by kernel_rfl
 have o:Tryz.prog.underlying 5=a9 (.int .u8):=by kernel_rfl
 have c:=fc (H:=X) (L:=[⟨5,ci,l⟩]) (i:=0) nl;simp only[zG1,zB2,Bl.obj]at c;have f:=ql (H:=X) (L:=[⟨5,ci,l⟩]) (i:=0) (b:=⟨5,bv,l⟩) h nl;simp only[Bl.obj,List.set_cons_zero]at f;have r:Nat.beq 25 25=true:=rfl;have s:Nat.beq ((a9 0:Option Nat).getD 0) 0=true:=rfl;simp only[bB,j,o,zA1,zA3,c,r,s,zD8,if_true];rw[f]
def TV{H:aa}{v:go}{l:List UInt8}(h:cz H 5 1 v (ak l) l.length):oD H v l:=by
 obtain⟨s,h2,⟨f,rfl⟩|⟨f,n,rfl,j,o⟩⟩:=h
 .have:l=[]:=zE5 f;subst this;exact⟨⟨_,rfl⟩,fun k c r=>by simp at r⟩
 .exact Ak j
end Go.Proofs.YtpohjcacnkhnkaaGreatDoor.Tq
namespace Go.Ax
open Go.ChangeShapes
section
variable{P:ip}{ρ:Ren}{H:aa}{w:i6}
variable{K:Type}{enc:io × go -> K}{spare:Nat -> Bool}{held:Bool}
end
open Go.ChangeShapes
section
variable{P:ip}{ρ:Ren}{H:aa}{w:i6}
variable{K:Type}{enc:io × go -> K}{spare:Nat -> Bool}{held:Bool}
end
open Go.ChangeShapes
section
variable{P:ip}{w:i6}
def Dh(N:Nat):∀(T:List (Nat × io × List go))(n:Nat),(rN N T).get n≠bi->∃ x∈T,x.1=n
 |[],n,h=>absurd (qf _ n) h
 |(g,e,vs)::r,n,h=>by
  rw[rN,aa.qW]at h;by_cases c:n=g
  .exact⟨(g,e,vs),by simp,c.symm⟩
  .rw[if_neg c]at h;obtain⟨x,hx,e⟩:=Dh N r n h;exact⟨x,by simp[hx],e⟩
def Ro.Wz(T:List (Nat × io × List go))(h:∀ x∈T,x.1<P.globals.size/\DO x.2.2=bv/\∃ c,w.heap[x.1]?=a9 (.cells c x.2.1 (0,0))/\c.toList=x.2.2)(j:∀ x∈T,x.2.2.all Rx=bv):Ro P Ren.same (rN P.globals.size T) w:=by obtain⟨o,r,s⟩:=oQ P.globals.size T;refine⟨yO T h,by rw[o,r],s,fun n t=>.inr ?_⟩;obtain⟨x,hx,rfl⟩:=Dh _ T n t;obtain⟨z,_,c,A,B⟩:=h x hx;exact⟨z,c,_,A,fun v f=>by rw[B]at f; exact zC3.1 (j x hx) v f⟩
def vO{H:aa}{g:Nat}{e:io}{vs:List go}:bk (H.put g (a9 (D4 e vs))) g=a9 ⟨e,ci,vs⟩:=by
 refine Ux ⟨RV.ofList vs,?_,RV.n_ofList _,fun i hi=>?_⟩
 .simp only[bO,aa.qW,if_true,D4]
 .rw[RV.cM]
def vz{H:aa}{g n:Nat}{e:io}{vs:List go}{b:Option Bl}(c:n≠g)(h:bk H n=b):bk (H.put g (a9 (D4 e vs))) n=b:=(bg (by rw[aa.qW,if_neg c])).trans h
end
end Go.Ax
namespace Go.Proofs.YtpohjcacnkhnkaaGreatDoor.Tq
open Go.ChangeShapes Go.WideShapes Go.ChangeAt Go.RowKit Go.Ax
def rE{K:Type}{enc:io × go->K}{P:ip}(f:laidOutB P=bv){W W':i6}(j:Below W.heap.size W W'):∀ {ts:List io} {vs:List go} {ds:List (DataW K)} {ps:List MemPlace},
  (ts.all fun t=>P.readableRec t&&Nat.blt t P.types.size)=bv->DataW.TrodAll enc P W 0 (fun _=>bv) bv ts vs ds ps->(∀ x∈ps,x.block<W.heap.size)->DataW.TrodAll enc P W' 0 (fun b=>f7 (b<W.heap.size)) bv ts vs ds ps
 |[],[],[],ps,_,h,_=>h
 |t::ts,v::vs,d::ds,ps,c,h,n=>by obtain⟨p,q,o,r,rfl⟩:=h;simp only[List.all_cons,zA6]at c;exact⟨p,q,Below.trod f c.1.1 (bT c.1.2) o j (fun x hx=>n x (by simp[hx])),rE f j (by simpa using c.2) r (fun x hx=>n x (by simp[hx])),rfl⟩
def Iv:ownKnob Tryz.prog.godebug=none:=by kernel_rfl
def PR:laidOutB Tryz.prog=true:=by kernel_rfl
def VD:Tryz.prog.underlying 3=a9 (.int kw):=by kernel_rfl
def Wn:Tryz.prog.underlying 4=a9 .bool:=by kernel_rfl
abbrev HN(c f h:io):List (Nat × io × List go):=[(0,c,dc Go.Proofs.YtpohjcacnkhnkaaGreatDoor.yi),(1,f,dc Go.Proofs.YtpohjcacnkhnkaaGreatDoor.uc),(2,h,dc N3)]
def Laid(w:i6)(f h j:io):Prop:=(∃ c,w.heap[0]?=a9 (.cells c f (0,0))/\c.toList=dc Go.Proofs.YtpohjcacnkhnkaaGreatDoor.yi)/\(∃ c,w.heap[1]?=a9 (.cells c h (0,0))/\c.toList=dc Go.Proofs.YtpohjcacnkhnkaaGreatDoor.uc)/\∃ c,w.heap[2]?=a9 (.cells c j (0,0))/\c.toList=dc N3
def NS{w:i6}(h:laidMet Tryz.prog Rows.termAppliesRow.laid w):∃ c f j,Laid w c f j:=by obtain⟨o,r,a1,s⟩:=AX h (name := "unicode/utf8.first") (d:=Go.Proofs.YtpohjcacnkhnkaaGreatDoor.yi) (.tail _ (.tail _ (.tail _ (.tail _ (.head _))))) (g:=0) (t:=148) (e:=5) (ts:=[5]) (D:=1000) (n:=256) m9 m9 m9 m9 m9 m9 m9 (bT m9);obtain⟨c2,z,A,B⟩:=AX h (name := "unicode/utf8.acceptRanges") (d:=Go.Proofs.YtpohjcacnkhnkaaGreatDoor.uc) (.tail _ (.tail _ (.tail _ (.head _)))) (g:=1) (t:=151) (e:=150) (ts:=[5,5]) (D:=1000) (n:=16) m9 m9 m9 m9 m9 m9 m9 (bT m9);obtain⟨C,I,J,M⟩:=AX h (name := "internal/strconv.uint64pow10") (d:=N3) (.tail _ (.tail _ (.head _))) (g:=2) (t:=195) (e:=173) (ts:=[173]) (D:=1000) (n:=20) m9 m9 m9 m9 m9 m9 m9 (bT m9);exact⟨r,z,I,⟨o,a1,s⟩,⟨c2,A,B⟩,C,J,M⟩
def Laid.ro{W:i6}{c f j:io}(h:Laid W c f j):∃ ρ H,Ro Tryz.prog ρ H W/\TM H:=by
 have n:2<(rN Tryz.prog.globals.size (HN c f j)).next:=by rw[(oQ Tryz.prog.globals.size (HN c f j)).1];exact zA7 m9
 refine⟨_,_,Ro.Wz (HN c f j) (fun x hx=>?_) (fun x hx=>?_),n,⟨c,f,vO,vz ol vO⟩,n,j,vz ol (vz ol vO)⟩
 .simp only[HN,zA8,zD7,or_false]at hx;rcases hx with rfl|rfl|rfl
  .exact⟨show 0<Tryz.prog.globals.size by decide +kernel,by kernel_rfl,h.1⟩
  .exact⟨show 1<Tryz.prog.globals.size by decide +kernel,by kernel_rfl,h.2.1⟩
  .exact⟨show 2<Tryz.prog.globals.size by decide +kernel,by kernel_rfl,h.2.2⟩
 .simp only[HN,zA8,zD7,or_false]at hx;rcases hx with rfl|rfl|rfl
  .exact (by kernel_rfl:(dc Go.Proofs.YtpohjcacnkhnkaaGreatDoor.yi).all Rx=bv)
  .exact (by kernel_rfl:(dc Go.Proofs.YtpohjcacnkhnkaaGreatDoor.uc).all Rx=bv)
  .exact (by kernel_rfl:(dc N3).all Rx=bv)
section
variable{K:Type}{enc:io × go -> K}{W:i6}{ρ:Ren}{H:aa}{held:Bool}
end
end Go.Proofs.YtpohjcacnkhnkaaGreatDoor.Tq
namespace Go.Proofs.YtpohjcacnkhnkaaGreatDoor
open Go.Ax
def dZ.df{H G:aa}{v:go}{l:List Ce}(h:dZ H v l)(m:Mod [] H G):dZ G v l:=by
 by_cases f:l=[]
 .obtain⟨a,c,e⟩:=h.sl;subst f;exact .inl ⟨rfl,a,c,e⟩
 .exact h.of m.next fun n j=>m.get n (h.ne f n j).2 nl
def ej.df{H G:aa}{v:go}{g:List (List Ce)}(h:ej H v g)(m:Mod [] H G):ej G v g:=by
 rcases h with h|⟨r,n,off,s,c,e,o,L,rfl,t,f,j,z⟩
 .exact .inl h
 .refine .inr ⟨r,n,off,s,c,e,o,L,rfl,(kh (m.get n f nl)).trans t,m.lt f,j,fun k row A=>?_⟩;obtain⟨rv,B,C⟩:=z k row A;exact⟨rv,B,C.df m⟩
def yC(l:List Op):(opsOf l).all one=true:=by
 induction l with
 |nil=>rfl
 |cons x l c=>rw[opsOf,List.flatMap_cons,List.all_append,zA6]; exact⟨rfl,c⟩
def EB(N:Nat)(l:List Op):aT N (opsOf l)=true:=by
 induction l with
 |nil=>rfl
 |cons x l c=>rw[opsOf,List.flatMap_cons]; exact cb rfl c
def y8(g:List (List Ce))(r c:Int)(l:List Op):List (List Ce) × Int × Int × Int × Int :=
 if eK g r c=0 then (match St.all (di g) ei l 0 (St.start g r c) with
  |.inr i=>([],0,0,5,(i:Int))
  |.inl y=>(y.aj,y.atR,y.Kd (di g),0,0))
 else ([],0,0,eK g r c,0)
def jO.none{N:Nat}{X:aa}:jO N X (lm bi 0 0) [] []:=⟨rfl,.inl ⟨rfl,rfl⟩,fun i rv l h=>by simp at h,by simp⟩
def UB.val{H X:aa}{g:List (List Ce)}{r c:Int}{l:List Op}{out:Out}(h:UB H g r c l out X):Mod [] H X/\∃ u rvs N,out=.ok (.tuple #[.agg #[u,jp kw (y8 g r c l).2.1,jp kw (y8 g r c l).2.2.1],jp kw (y8 g r c l).2.2.2.1,jp kw (y8 g r c l).2.2.2.2])/\H.next<=N/\jO N X u rvs (y8 g r c l).1:=by
 obtain⟨m,h⟩:=h;refine⟨m,?_⟩;unfold y8;split at h
 .rename_i f;rw[if_pos f];split at h
  .rename_i i hi;try rw[hi]
   exact⟨_,[],H.next,h,zA4 _,jO.none⟩
  .rename_i y j;try rw[j]
   exact h
 .rename_i f;rw[if_neg f];exact⟨_,[],H.next,h,zA4 _,jO.none⟩
def Hd:Tryz.prog.underlying 23=a9 (.slice 58):=by kernel_rfl
def O8:br Tryz.prog 58=a9 10:=by kernel_rfl
def Pz:bytesOf Tryz.prog 58=a9 72:=by kernel_rfl
def Ap:zeroOf Tryz.prog 58=a9 (.agg #[jp kw 0,jp kw 0,jp kw 0,jp kw 0,jp kw 0,jp kw 0,ls ci,ls ci,ls ci,.string ⟨#[]⟩]):=by kernel_rfl
def HA:fE Tryz.prog 23=a9 false:=by kernel_rfl
def yK{n:Nat}(h:n<=100000):small n 72=true:=by simp only[small,zA6,zE8]; omega
def qQ(l:List Op):(opsOf l).length=l.length*10:=by
 induction l with
 |nil=>rfl
 |cons a l c =>have h:opsOf (a::l)=a.cells++opsOf l:=rfl;rw[h,zB3,c,zA9,show a.cells.length=10 from rfl];omega
def DY(l m:List Op):opsOf (l++m)=opsOf l++opsOf m:=by simp[opsOf]
def SK(H:aa)(m:Nat)(v:go)(l:List Op):Prop :=
 (l=[]/\v=lm (a9 ⟨m,0,a9 0⟩) 0 0/\bk H m=a9 ⟨58,ci,[]⟩/\m<H.next)\/(l≠[]/\cz H 58 10 v (opsOf l) l.length)
def PS{H:aa}{m:Nat}{v u:go}{l l2:List Op}(h:SK H m v l)(hp:iP H u l2)(J:H.base<=H.next)(hl:l.length+l2.length<=100000) :
  ∃ A G,aE Tryz.prog H .append ⟨[23,23]⟩ [v,u]=a9 (A,G)/\SK G m A (l++l2)/\Mod (ae v) H G/\∀ n∈ae A,n∈ae v\/H.next<=n:=by
 by_cases D:l2=[]
 .subst D;obtain⟨a,c,rfl⟩:=hp.sl;rw[zC7];have t:Go.Ax.jD (.slice a ([]:List Op).length c)=a9 0:=rfl
  have S:cK H 10 0 (.slice a ([]:List Op).length c)=a9 []:=by
   cases a with
   |none=>rfl
   |some a=>simp only[cK,if_true]
  have z:∀(n k:Nat)(s:Option Nat)(b:Bl),v=lm (a9 ⟨n,0,s⟩) k k->s.getD 0=0->bk H n=a9 b->n<H.next->k*10<=b.l.length->k<=100000->SK H m v l ->
    ∃ A G,aE Tryz.prog H .append ⟨[23,23]⟩ [v,.slice a ([]:List Op).length c]=a9 (A,G)/\SK G m A l/\Mod (ae v) H G/\∀ n∈ae A,n∈ae v\/H.next<=n:=fun n k s b e hs j M hkb hk hv=>by
   subst e;have hw:=ke (H:=H) (L:=[]) (n:=n) (off:=0+k*10) (vs:=[]) M j (by simp only[zB4]; omega) rfl rfl;have ha:=Jk (P:=Tryz.prog) (H:=H) (st:=23) (xt:=23) (m:=n) (off:=0) (k:=k) (cap:=k) (sp:=s) Hd O8 Pz Ap rfl HA t S rfl lw (yK lw);rw[show dT H n (0+k*10) []=dT (ext H []) n (0+k*10) [] from rfl,hw,zB2]at ha;refine⟨_,_,ha,?_,Mod.uw pm,fun q I=>.inl I⟩;have O:bk (uw H n (0+k*10) []) n=a9 b:=by rw[bR,j];simp[Q1,E5]
   rcases hv with⟨rfl,e,B,C⟩|⟨R,q1,q2,⟨T,_⟩|⟨T,n',e,B,C⟩⟩
   .simp only[Value.slice.injEq,i8,Addr.mk.injEq,true_and]at e;obtain⟨⟨rfl,rfl⟩,rfl,_⟩:=e;rw[B]at j;cases j;exact .inl ⟨rfl,rfl,O,by rw[ai,cw]; simpa using C⟩
   .exact absurd (zE5 T) R
   .simp only[Value.slice.injEq,i8,Addr.mk.injEq,true_and]at e;obtain⟨⟨rfl,rfl⟩,rfl,_⟩:=e;rw[B]at j;cases j;exact .inr ⟨R,q1,q2,.inr ⟨T,n,rfl,O,by rw[ai,cw]; simpa using C⟩⟩
  rcases id h with⟨rfl,e,j,C⟩|⟨R,h1,D,⟨h3,_⟩|⟨h3,n,e,j,V⟩⟩
  .exact z m 0 (a9 0) _ e rfl j C nl lw h
  .exact absurd (zE5 h3) R
  .exact z n l.length bi _ e rfl j V (by simp only; rw[qQ]; exact zA4 _) lw h
 .rcases hp with⟨e,_⟩|⟨_,n,off,s,c,e,o,L,rfl,j,hnl,t,ht⟩
  .exact absurd e D
  have r:0<l2.length:=List.length_pos_iff.2 D
  rcases h with⟨rfl,rfl,C,M⟩|⟨R,h⟩
  .have f:=zA (P:=Tryz.prog) (H:=H) (st:=23) (xt:=23) (e:=58) (sz:=10) (by1:=72) (m:=m) (k:=0) (n:=n) (off:=off) (cnt:=l2.length) (cap:=c) (s:=s) (b:=⟨e,o,L⟩) (bm:=⟨58,ci,[]⟩)
    Hd O8 Pz Ap rfl HA C nl rfl j t (by rw[ht]; exact yC l2) r (yK lw)
   have V:=ey (H:=H) (L:=[]) (e:=58) (l:=opsOf l2) (o:=true) (EB _ _);simp only[ht,zH1,List.take_zero,zB6]at f;rw[show H=ext H [] from rfl,V,zB2]at f;simp only[zC2]at f;refine⟨_,_,f,.inr ⟨by simpa using D,by rw[zB6,qQ],by rw[zB6]; exact yC l2,.inr ⟨by simpa using r,H.next+0,rfl,?_,by rw[ai]; simp⟩⟩,Mod.ext J,fun q I=>by simp only[ae,zA5]at I; exact .inr (by rw[I]; exact zA4 _)⟩;rw[zB6,zB6,aZ rfl nl]; rfl
  .obtain⟨G,ga,gb,gc,gd,ge⟩:=oO (P:=Tryz.prog) (H:=H) (st:=23) (xt:=23) (e:=58) (sz:=10) (by1:=72) (n:=n) (off:=off) (cnt2:=l2.length) (cap:=c) (s:=s) (x:=H.next) (ws:=opsOf l2) (b:=⟨e,o,L⟩)
    Hd O8 Pz Ap rfl HA h j t ht (yC l2) r (yK lw) rfl (cb (EB _ _) (EB _ _))
   refine⟨_,G,ga,.inr ⟨by simp[D],?_⟩,gc J,fun q I=>.inr (by simp only[ae,zA5]at I; omega)⟩;rw[DY,zB3];exact gb
section
variable{Z:aa}{N:Nat}{E:Env}{ds:List Deferred}{ops:Array Oper}{anc:List Nat}{ty:io}{pos:String}{after:Array Edge}{rest:List Oper}{i d m:Nat}{fps:List Fp}{Q:ah -> aa -> Prop}{v u:go}{l l2:List Op}
end
def nZ(H:aa)(v1 v2:go)(c l2:List Ce)(h1:dZ H v1 c)(h2:dZ H v2 l2)(hl:c.length<1000000):Pure 48 [v1,v2] H (ls (f7 (c=l2))):=by
 obtain⟨b,hb⟩:=ac H.next;refine bA mixed Tryz.func48 rfl Tryz.ntmps48 (zA7 rfl) fun wf hsc=>?_;obtain⟨a1,c1,e1⟩:=h1.sl;obtain⟨a2,c2,e2⟩:=h2.sl;by_cases f:c.length=l2.length
 case neg =>
  have hd:f7 (¬(c.length:Int)=(l2.length:Int))=true:=decide_eq_true lw;rw[e1,e2];simp only[hd,Tryz.results48,zW,seval];rw[decide_eq_false (fun e=>f (by rw[e]))];exact Fin.cf rfl rfl
 have hd:f7 (¬(c.length:Int)=(l2.length:Int))=false:=decide_eq_false lw;rw[e1,e2];simp only[hd,zW,seval];rw[<-e1,<-e2];refine da fun E D=>?_;have I:E 0=v1:=by rw[D]; rfl
 have J:E 1=v2:=by rw[D]; rfl
 have j:E 12=jp kw (c.length:Int):=by rw[D]; rfl
 have t:E 13=jp kw ((0:Nat):Int):=by rw[D]; rfl
 clear D;refine aS (fun M O=>O=ext H []/\c=l2) ?_ ?_
 .refine cp (fun (k:Nat) M O=>O=ext H []/\M 0=v1/\M 1=v2/\M 12=jp kw (c.length:Int)/\M 13=jp kw (k:Int)/\k<=c.length/\c.take k=l2.take k) (fun k=>c.length-k) 0
   ⟨rfl,I,J,j,t,zB7 _,rfl⟩ ?_
  clear I J j t;rintro k E O ⟨hH,I,J,j,t,hk,z⟩;rw[hH];by_cases R:k=c.length
  .have hc:f7 ((k:Int)<(c.length:Int))=false:=by simp[R]
   simp only[j,t,hc,zW,seval];refine ag ⟨rfl,?_⟩;rw[R,zH2,f,zH2]at z;exact z
  .have A:k<c.length:=by omega
   have hc:f7 ((k:Int)<(c.length:Int))=true:=decide_eq_true lw
   rcases h1 with⟨h,_⟩|⟨_,n1,o1,s1,c1,t1,p1,L1,rfl,b1,S,le1,tk1⟩
   .rw[h]at A; simp at A
   rcases h2 with⟨h,_⟩|⟨_,n2,o2,s2,c2,t2,p2,L2,rfl,b2,T,le2,tk2⟩
   .rw[h]at f; simp at f; simp[f]at A
   obtain⟨V,B⟩:∃ r,c[k]?=a9 r:=⟨_,zB0 A⟩
   obtain⟨r2,C⟩:∃ r,l2[k]?=a9 r:=⟨_,zB0 lw⟩
   have i1:=eU (n:=n1) (off:=o1) (s:=s1) (cap:=c1) (i:=(k:Int)) rfl A;have i2:=eU (n:=n2) (off:=o2) (s:=s2) (cap:=c2) (i:=(k:Int)) (len:=l2.length) rfl lw;have q1:=gm (e:=t1) (o:=p1) B le1 tk1;have q2:=gm (e:=t2) (o:=p2) C le2 tk2;rw[hb]at S T;simp only[j,t,hc,zW,seval];refine aQ [] [] m9 rfl rfl fun ops anc hA hG=>?_;simp only[I,J,hb,i1,i2,b1,b2,S,T,q1,q2,cm,Ce.val,bS,zW,seval];refine vI (ts:=[3,3,3,4,4,4]) (xs:=V.cells) (ys:=r2.cells) (r:=!f7 (V=r2)) NO Nv NP (by rw[wF]; rfl) rfl rfl ol (by simp only[aF,seval]; rfl) rx (jc _) (jc _) ?_;by_cases hr:V=r2
   .have hs:f7 (V=r2)=true:=decide_eq_true hr;simp only[t,hs,zD1,ba (show k<1000000 by omega),bS,zW,seval];refine aG ⟨k+1,by omega,rfl,?_,?_,?_,?_,by omega,?_⟩<;>try simp only[I,J,j,aF,seval]
    rw[zG4,zG4,B,C,z,hr]
   .have hs:f7 (V=r2)=false:=decide_eq_false hr;have cn:f7 (c=l2)=false:=decide_eq_false (fun e=>hr (by rw[e]at B; rw[B]at C; exact Option.some.inj C));simp only[hs,zF4,cO,Tryz.results48,bS,zW,seval];rw[cn];exact Fin.cf rfl rfl
 .rintro E O ⟨hH,he⟩;rw[hH,he];simp only[Tryz.results48,decide_true,zW,seval];exact Fin.cf rfl rfl
def O0(H:aa)(v1 v2:go)(c B:List (List Ce))(h1:ej H v1 c)(h2:ej H v2 B)(hw:∀ l∈c,l.length<1000000)(hl:c.length<1000000):Pure 116 [v1,v2,.func (.func 48) ⟨[]⟩ ⟨[]⟩] H (ls (f7 (c=B))):=by
 obtain⟨b,hb⟩:=ac H.next;refine bA mixed Tryz.func116 rfl Tryz.ntmps116 (zA7 rfl) fun wf hsc=>?_;obtain⟨a1,c1,e1⟩:=h1.sl;obtain⟨a2,c2,e2⟩:=h2.sl;by_cases j:c.length=B.length
 case neg =>
  have hd:f7 (¬(c.length:Int)=(B.length:Int))=true:=decide_eq_true lw;rw[e1,e2];simp only[hd,Tryz.results116,zW,seval];rw[decide_eq_false (fun e=>j (by rw[e]))];exact Fin.cf rfl rfl
 have hd:f7 (¬(c.length:Int)=(B.length:Int))=false:=decide_eq_false lw;rw[e1,e2];simp only[hd,zW,seval];rw[<-e1,<-e2];refine da fun E J=>?_;have O:E 1=v2:=by rw[J]; simp only[aF,seval]
 have R:E 2=.func (.func 48) ⟨[]⟩ ⟨[]⟩:=by rw[J]; simp only[aF,seval]
 have S:E 15=v1:=by rw[J]; rfl
 have T:E 16=jp kw (c.length:Int):=by rw[J]; rfl
 have V:E 17=jp kw ((0:Nat):Int):=by rw[J]; rfl
 clear J;refine aS (fun M H'=>H'=ext H []/\c=B) ?_ ?_
 .refine cp (fun (k:Nat) M H'=>H'=ext H []/\M 1=v2/\M 2=.func (.func 48) ⟨[]⟩ ⟨[]⟩/\M 15=v1/\M 16=jp kw (c.length:Int)/\M 17=jp kw (k:Int)/\k<=c.length/\c.take k=B.take k) (fun k=>c.length-k) 0
   ⟨rfl,O,R,S,T,V,zB7 _,rfl⟩ ?_
  clear O R S T V;rintro k E H' ⟨hH,q1,q2,q15,D,I,hk,t⟩;rw[hH];by_cases hkl:k=c.length
  .have hc:f7 ((k:Int)<(c.length:Int))=false:=by simp[hkl]
   simp only[D,I,hc,zW,seval];refine ag ⟨rfl,?_⟩;rw[hkl,zH2,j,zH2]at t;exact t
  .have z:k<c.length:=by omega
   have hc:f7 ((k:Int)<(c.length:Int))=true:=decide_eq_true lw
   rcases h1 with⟨h,_⟩|⟨_,n1,o1,s1,x1,t1,p1,L1,rfl,b1,n1l,le1,tk1⟩
   .rw[h]at z; simp at z
   rcases h2 with⟨h,_⟩|⟨_,n2,o2,s2,x2,t2,p2,L2,rfl,b2,n2l,le2,tk2⟩
   .rw[h]at j; simp at j; simp[j]at z
   obtain⟨w1,A⟩:∃ r,c[k]?=a9 r:=⟨_,zB0 z⟩
   obtain⟨w2,C⟩:∃ r,B[k]?=a9 r:=⟨_,zB0 lw⟩
   obtain⟨u1,hu1,ra1⟩:=tk1 k w1 A;obtain⟨u2,hu2,ra2⟩:=tk2 k w2 C;have i1:=fD (n:=n1) (off:=o1) (s:=s1) (cap:=x1) (i:=(k:Int)) rfl z;have i2:=fD (n:=n2) (off:=o2) (s:=s2) (cap:=x2) (i:=(k:Int)) (len:=B.length) rfl lw;have y1:=dG (e:=t1) (o:=p1) hu1;have y2:=dG (e:=t2) (o:=p2) hu2;rw[hb]at n1l n2l;simp only[q1,q2,q15,D,I,hb,hc,i1,i2,b1,b2,n1l,n2l,y1,y2,cm,zW,seval];refine qY (f:=48) (ca:=[]) rfl rfl rfl m9 ?_;simp only[aF,seval];refine (show bD Tryz.prog 48 _ (ext H []) _ (ext H []) from nZ (ext H []) u1 u2 w1 w2 ra1.ext ra2.ext (hw w1 (zC5 A))).to ?_;by_cases hr:w1=w2
   .have hs:f7 (w1=w2)=true:=decide_eq_true hr;simp only[I,hs,zD1,ba (show k<1000000 by omega),zW,seval];refine aG ⟨k+1,by omega,rfl,?_,?_,?_,?_,?_,by omega,?_⟩<;>try simp only[q1,q2,q15,D,aF,seval]
    rw[zG4,zG4,A,C,t,hr]
   .have hs:f7 (w1=w2)=false:=decide_eq_false hr;have cn:f7 (c=B)=false:=decide_eq_false (fun e=>hr (by rw[e]at A; rw[A]at C; exact Option.some.inj C));simp only[hs,zF4,cO,Tryz.results116,zW,seval];rw[cn];exact Fin.cf rfl rfl
 .rintro E H' ⟨hH,he⟩;rw[hH,he];simp only[Tryz.results116,decide_true,zW,seval];exact Fin.cf rfl rfl
def GY(H:aa)(f h:go)(c j:List (List Ce))(n:ej H f c)(o:ej H h j)(r:∀ l∈c,l.length<1000000)(s:c.length<1000000):Pure 84 [f,h] H (ls (f7 (c=j))):=by refine bA mixed Tryz.func84 rfl Tryz.ntmps84 (zA7 rfl) fun wf t=>?_;simp only[zW,seval];refine (O0 (ext H []) f h c j n o r s).to ?_;simp only[Tryz.results84,zW,seval];exact Fin.cf rfl rfl
def nv:List (List Ce)->List (List Ce)->Nat
 |x::g,y::h=>if x=y then nv g h+1 else 0
 |_,_=>0
def wo(g h:List (List Ce))(top:Nat):Nat->Nat
 |0=>0
 |b+1=>if top<b+1/\g.getD b []=h.getD b [] then wo g h top b else b+1
def fT(P:Nat->Bool)(i:Nat):Nat->Option Nat
 |0=>bi
 |f+1=>if P i=bv then a9 i else fT P (i+1) f
def RD(g h:List (List Ce))(top n i:Nat):Bool:=f7 ((h.drop top).take (n-i)=(g.drop (top+i)).take (n-i))
def RK(g h:List (List Ce))(top n i:Nat):Bool:=f7 ((h.drop (top+i)).take (n-i)=(g.drop top).take (n-i))
def c8(k:Int)(top bot i:Nat):Op:=⟨k,(top:Int),(bot:Int)-1,(i:Int),⟨0,0,ci,ci,ci⟩,.empty⟩
def gT(g h:List (List Ce)):Option Op :=
 let top:=nv g h
 let bot:=wo g h top h.length
 match fT (RD g h top (bot-top)) 1 (bot-top-1) with
 |some i=>a9 (c8 5 top bot i)
 |none=>(fT (RK g h top (bot-top)) 1 (bot-top-1)).map (c8 6 top bot)
def BT:∀(g h:List (List Ce))(k:Nat),g.take k=h.take k->k<=g.length->k<=h.length->nv g h=nv (g.drop k) (h.drop k)+k
 |g,h,0,_,_,_=>by simp
 |[],_,k+1,_,c,_=>by simp at c
 |_::_,[],k+1,_,_,c=>by simp at c
 |x::g,y::h,k+1,e,c,f=>by simp only[List.take_succ_cons,List.cons.injEq]at e;rw[nv,if_pos e.1,BT g h k e.2 (by simpa using c) (by simpa using f),List.drop_succ_cons,List.drop_succ_cons];omega
def Kq:∀(g h:List (List Ce)),nv g h<=h.length/\nv g h<=g.length/\g.take (nv g h)=h.take (nv g h)
 |[],h=>by simp[nv]
 |_::_,[]=>by simp[nv]
 |x::g,y::h=>by
  rw[nv];split
  .rename_i e;have:=Kq g h;refine⟨by simp; omega,by simp; omega,?_⟩;rw[List.take_succ_cons,List.take_succ_cons,e,this.2.2]
  .simp
def DM(g h:List (List Ce))(top:Nat):∀ b,wo g h top b<=b
 |0=>zA4 _
 |b+1=>by
  rw[wo];split
  .exact Nat.le_succ_of_le (DM g h top b)
  .exact zA4 _
def Lw(g h:List (List Ce))(top:Nat):∀ b,top<=b->top<=wo g h top b
 |0,f=>f
 |b+1,f=>by
  rw[wo];split
  .rename_i c; exact Lw g h top b lw
  .exact f
def pQ{P:Nat->Bool}:∀(f i j:Nat),fT P i f=a9 j->i<=j/\j<i+f/\P j=bv
 |0,i,j,h=>by cases h
 |f+1,i,j,h=>by
  rw[fT]at h;split at h
  .rename_i c; cases h; exact⟨zA4 _,by omega,c⟩
  .have:=pQ f (i+1) j h; exact⟨by omega,by omega,this.2.2⟩
def iG(c:Int):List Int :=
 if c<128 then [c] else if c<2048 then [192+c / 64,128+c % 64] else if c<65536 then [224+c / 4096,128+c / 64 % 64,128+c % 64] else [240+c / 262144,128+c / 4096 % 64,128+c / 64 % 64,128+c % 64]
def ev(l:List Int):List Value:=l.map (Value.int .u8)
def Up(l:List Int):(ev l).all one=true:=by induction l with|nil=>rfl|cons a l c=>simp only[ev,zB8,List.all_cons]at c ⊢; rw[c]; rfl
def T3(l:List Int)(n:Nat):aT n (ev l)=true:=by induction l with|nil=>rfl|cons a l c=>simp only[ev,zB8,aT]at c ⊢; rw[c]; rfl
def U3(l m:List Int):ev (l++m)=ev l++ev m:=by simp[ev]
def DZ(l:List Int):(ev l).length=l.length:=by simp[ev]
def GJ(c:Int):1<=(iG c).length/\(iG c).length<=4:=by
 unfold iG;split
 .simp
 .split
  .simp
  .split<;>simp
def zB(n:Int):IntKind.u8.wrap n=n % 256:=by simp[IntKind.wrap,IntKind.bits,IntKind.signed]
def Kl{n:Int}(c:0<=n)(f:n<4294967296):IntKind.u32.wrap n=n:=by simp[IntKind.wrap,IntKind.bits,IntKind.signed];omega
def RX{n:Int}(c:0<=n)(f:n<2147483648):IntKind.i32.wrap n=n:=by simp[IntKind.wrap,IntKind.bits,IntKind.signed];omega
def QH{x:Int}(c:0<=x)(f:x<256):eQ .u8 x 63=x % 64:=by have h:=zC3.1 (show ((List.range 256).all fun i=>f7 (eQ .u8 (i:Int) 63=(i:Int) % 64))=bv by kernel_rfl) x.toNat (zF7.2 lw);have e:((x.toNat:Nat):Int)=x:=Int.toNat_of_nonneg c;rw[e]at h;exact of_decide_eq_true h
def Oh{x:Int}(c:0<=x)(f:x<64):vw .u8 128 x=128+x:=by have h:=zC3.1 (show ((List.range 64).all fun i=>f7 (vw .u8 128 (i:Int)=128+(i:Int)))=bv by kernel_rfl) x.toNat (zF7.2 lw);have e:((x.toNat:Nat):Int)=x:=Int.toNat_of_nonneg c;rw[e]at h;exact of_decide_eq_true h
def V0{x:Int}(c:0<=x)(f:x<32):vw .u8 192 x=192+x:=by have h:=zC3.1 (show ((List.range 32).all fun i=>f7 (vw .u8 192 (i:Int)=192+(i:Int)))=bv by kernel_rfl) x.toNat (zF7.2 lw);have e:((x.toNat:Nat):Int)=x:=Int.toNat_of_nonneg c;rw[e]at h;exact of_decide_eq_true h
def V5{x:Int}(c:0<=x)(f:x<16):vw .u8 224 x=224+x:=by have h:=zC3.1 (show ((List.range 16).all fun i=>f7 (vw .u8 224 (i:Int)=224+(i:Int)))=bv by kernel_rfl) x.toNat (zF7.2 lw);have e:((x.toNat:Nat):Int)=x:=Int.toNat_of_nonneg c;rw[e]at h;exact of_decide_eq_true h
def Wa{x:Int}(c:0<=x)(f:x<8):vw .u8 240 x=240+x:=by have h:=zC3.1 (show ((List.range 8).all fun i=>f7 (vw .u8 240 (i:Int)=240+(i:Int)))=bv by kernel_rfl) x.toNat (zF7.2 lw);have e:((x.toNat:Nat):Int)=x:=Int.toNat_of_nonneg c;rw[e]at h;exact of_decide_eq_true h
def OE{c:Int}(j:0<=c)(n:Nat)(f:n<=32)(q:Int)(h:(2:Int) ^ n=q)(o:0<q):jC .i32 c n=c / q:=by have:min n IntKind.i32.bits=n:=zH0 f;rw[jC,this,h,Int.fdiv_eq_ediv_of_nonneg _ lw]
def QZ(X:aa)(v:go)(c:List Int)(out:Out)(G:aa):Prop :=
 ∃ u,out=.ok u/\cz G 5 1 u (ev c) c.length/\Mod (ae v) X G/\∀ n∈ae u,X.next<=n
def tr{X:aa}{v:go}{c e:List Int}{x k:Nat}(h:cz X 5 1 v (ev c) c.length)(hx:X.next=x)(f:X.base<=X.next)(t:c.length<=1000000)(j:e.length=k)(O:1<=k)(B:k<=4) :
  ∃ G,aE Tryz.prog (ext X [⟨5,ci,ev e⟩]) .append ⟨[25,25]⟩ [v,lm (a9 ⟨x+0,0,a9 0⟩) k k]=a9 (lm (a9 ⟨x+1,0,bi⟩) (c.length+k) (c.length+k),ext G [])/\cz G 5 1 (lm (a9 ⟨x+1,0,bi⟩) (c.length+k) (c.length+k)) (ev (c++e)) (c++e).length/\Mod (ae v) X G/\G.next=x+2:=by
 have C:cz (ext X [⟨5,ci,ev e⟩]) 5 1 v (ev c) c.length:=h.of (by rw[ai]; omega) (fun n D=>bL (h.ne n D).2);have o:bk (ext X [⟨5,ci,ev e⟩]) (x+0)=a9 ⟨5,ci,ev e⟩:=by rw[aZ hx nl]; rfl
 have r:small (c.length+k) 1=true:=by simp only[small,zA6,zE8]; omega
 obtain⟨G,I,A,J,M,_⟩:=oO (P:=Tryz.prog) (H:=ext X [⟨5,ci,ev e⟩]) (st:=25) (xt:=25) (e:=5) (sz:=1) (by1:=1) (z:=.int .u8 0) (n:=x+0) (off:=0) (cnt2:=k) (cap:=k) (s:=a9 0) (x:=x+1) (ws:=ev e) (b:=⟨5,ci,ev e⟩)
  m9 m9 m9 m9 rfl m9 C (iq o) (by simp[DZ,j]) (by simp only[zD0]; exact zD4 (by rw[DZ,j]; omega)) (Up e) lw r (by rw[ai,hx]; rfl) (cb (T3 _ _) (T3 _ _))
 rw[<-U3]at A;refine⟨G,I,by rw[zB3,j]; exact A,(Mod.ext f).trans (J ((Mod.ext (W:=[]) f).ok f)),M⟩
def Iw(X:aa)(v:go)(M:List Int)(c:Int)(h:cz X 5 1 v (ev M) M.length)(t:X.base<=X.next)(hc:oA c=bv)(h128:128<=c)(j:M.length<=1000000) :
  bF Tryz.prog 162 [v,.int .i32 c] X (QZ X v (M++iG c)):=by
 obtain⟨x,hx⟩:=ac X.next;have hr:0<=c/\c<=1114111/\(c<55296\/57343<c):=by simp only[oA,zA6,Bool.not_eq_true',Bool.and_eq_false_iff,decide_eq_true_eq,decide_eq_false_iff_not]at hc;omega
 have O:IntKind.u32.wrap c=c:=Kl lw lw;have o:∀(X:aa)(m:Int),bB Tryz.prog X 21 170 (.int .i32 m)=a9 (.int .u32 (IntKind.u32.wrap m),X):=fun X m=>gF (u:=.int .i32) m9 m9;have r:∀(X:aa)(m:Int),bB Tryz.prog X 21 5 (.int .i32 m)=a9 (.int .u8 (IntKind.u8.wrap m),X):=fun X m=>gF (u:=.int .i32) m9 m9;have R:jC .i32 c 6=c / 64:=OE lw 6 lw 64 ol lw;have z:jC .i32 c 12=c / 4096:=OE lw 12 lw 4096 ol lw;have T:jC .i32 c 18=c / 262144:=OE lw 18 lw 262144 ol lw;have S:vw .u8 128 (eQ .u8 (IntKind.u8.wrap c) 63)=128+c % 64:=by rw[zB,QH lw lw,Oh lw lw]; omega
 have V:vw .u8 128 (eQ .u8 (IntKind.u8.wrap (c / 64)) 63)=128+c / 64 % 64:=by rw[zB,QH lw lw,Oh lw lw]; omega
 have n8:vw .u8 128 (eQ .u8 (IntKind.u8.wrap (c / 4096)) 63)=128+c / 4096 % 64:=by rw[zB,QH lw lw,Oh lw lw]; omega
 refine aI mixed Tryz.func162 rfl Tryz.ntmps162 (zA7 rfl) ?_;obtain⟨a,ea⟩:=h.len;by_cases c1:c<2048
 .have I:f7 (c<=2047)=true:=decide_eq_true lw;have B:vw .u8 192 (IntKind.u8.wrap (c / 64))=192+c / 64:=by rw[zB,Int.emod_eq_of_lt lw lw,V0 lw lw]
  have s:iG c=[192+c / 64,128+c % 64]:=by rw[iG,if_neg lw,if_pos c1]
  obtain⟨G,f,C,D,k4⟩:=tr (e:=iG c) (k:=2) h hx t j (by rw[s]; rfl) lw lw;rw[s]at f;simp only[ev,zB8,zE7]at f;simp only[O,o,r,I,hx,bp,ml,fQ,HG,p7,mh,fU,seval,R,S,B,f,Tryz.results162,zW];exact⟨_,rfl,C,D,fun n A=>by simp only[ae,zA5]at A; omega⟩
 .have I:f7 (c<=2047)=false:=decide_eq_false lw;by_cases c2:c<65536
  .have B:vw .u8 224 (IntKind.u8.wrap (c / 4096))=224+c / 4096:=by rw[zB,Int.emod_eq_of_lt lw lw,V5 lw lw]
   have s:iG c=[224+c / 4096,128+c / 64 % 64,128+c % 64]:=by rw[iG,if_neg lw,if_neg c1,if_pos c2]
   obtain⟨G,f,C,D,k4⟩:=tr (e:=iG c) (k:=3) h hx t j (by rw[s]; rfl) lw lw;rw[s]at f;simp only[ev,zB8,zE7]at f;by_cases c3:c<55296
   .have J:f7 (c<55296)=true:=decide_eq_true c3;simp only[O,o,r,I,J,hx,bp,ml,fQ,HG,p7,mh,fU,seval,R,z,S,V,B,f,Tryz.results162,zW];exact⟨_,rfl,C,D,fun n A=>by simp only[ae,zA5]at A; omega⟩
   .have J:f7 (c<55296)=false:=decide_eq_false c3;have d3:f7 (57343<c)=true:=decide_eq_true lw;have d4:f7 (c<=65535)=true:=decide_eq_true lw;simp only[O,o,r,I,J,d3,d4,hx,bp,ml,fQ,HG,p7,mh,fU,seval,R,z,S,V,B,f,Tryz.results162,zW];exact⟨_,rfl,C,D,fun n A=>by simp only[ae,zA5]at A; omega⟩
  .have J:f7 (c<55296)=false:=decide_eq_false lw;have d3:f7 (57343<c)=true:=decide_eq_true lw;have d4:f7 (c<=65535)=false:=decide_eq_false lw;have d5:f7 (65535<c)=true:=decide_eq_true lw;have d6:f7 (c<=1114111)=true:=decide_eq_true lw;have B:vw .u8 240 (IntKind.u8.wrap (c / 262144))=240+c / 262144:=by rw[zB,Int.emod_eq_of_lt lw lw,Wa lw lw]
   have s:iG c=[240+c / 262144,128+c / 4096 % 64,128+c / 64 % 64,128+c % 64]:=by rw[iG,if_neg lw,if_neg c1,if_neg c2]
   obtain⟨G,f,C,D,k4⟩:=tr (e:=iG c) (k:=4) h hx t j (by rw[s]; rfl) lw lw;rw[s]at f;simp only[ev,zB8,zE7]at f;simp only[O,o,r,I,J,d3,d4,d5,d6,hx,bp,ml,fQ,HG,p7,mh,fU,seval,R,z,T,S,V,n8,B,f,Tryz.results162,zW];exact⟨_,rfl,C,D,fun n A=>by simp only[ae,zA5]at A; omega⟩
def DN(X:aa)(v:go)(j:List Int)(c:Int)(h:cz X 5 1 v (ev j) j.length)(o:X.base<=X.next)(C:oA c=bv)(f:j.length<=1000000) :
  bF Tryz.prog 151 [v,.int .i32 c] X (QZ X v (j++iG c)):=by
 obtain⟨x,hx⟩:=ac X.next;have S:0<=c/\c<=1114111:=by simp only[oA,zA6,Bool.not_eq_true',Bool.and_eq_false_iff,decide_eq_true_eq,decide_eq_false_iff_not]at C;omega
 have D:IntKind.u32.wrap c=c:=Kl lw lw;have r:∀(X:aa)(m:Int),bB Tryz.prog X 21 170 (.int .i32 m)=a9 (.int .u32 (IntKind.u32.wrap m),X):=fun X m=>gF (u:=.int .i32) m9 m9;have s:∀(X:aa)(m:Int),bB Tryz.prog X 21 5 (.int .i32 m)=a9 (.int .u8 (IntKind.u8.wrap m),X):=fun X m=>gF (u:=.int .i32) m9 m9;refine aI mixed Tryz.func151 rfl Tryz.ntmps151 (zA7 rfl) ?_;by_cases M:c<128
 .have t:f7 (c<=127)=true:=decide_eq_true lw;have O:IntKind.u8.wrap c=c:=by rw[zB,Int.emod_eq_of_lt lw lw]
  have I:iG c=[c]:=by rw[iG,if_pos M]
  obtain⟨G,z,A,B,J⟩:=tr (e:=iG c) (k:=1) h hx o f (by rw[I]; rfl) lw lw;rw[I]at z;simp only[ev,zB8,zE7]at z;simp only[D,r,s,t,hx,bp,O,z,Tryz.results151,zW,seval];exact⟨_,rfl,A,B,fun n R=>by simp only[ae,zA5]at R; omega⟩
 .have t:f7 (c<=127)=false:=decide_eq_false lw;simp only[D,r,t,bp,zW,seval];refine (Iw X v j c h o C lw f).mono ?_;rintro _ G ⟨u,rfl,A,B,J⟩;rw[show G=ext G [] from rfl];simp only[Tryz.results151,zW,seval];exact⟨u,rfl,A,B,J⟩
end Go.Proofs.YtpohjcacnkhnkaaGreatDoor
namespace Go.Ax
def bF.VZ{P:ip}{H:aa}{f:FuncId}{args:List go}{v:go}(h:H.base<=H.next->bF P f args H fun out X=>out=.ok v/\Mod [] H X)(j:aV H.next v=bv):bD P f args H (.ok v) H:=fun ρ w r c=>(h r.wf.base).pure j ρ w r c
end Go.Ax
namespace Go.Proofs.YtpohjcacnkhnkaaGreatDoor
open Go.Ax
def vl(l:List Int):ByteArray:=⟨((l.flatMap iG).map fun n=>UInt8.ofNat n.toNat).toArray⟩
def Hq:∀ c:List Int,cB (ev c)=a9 (c.map fun n=>UInt8.ofNat n.toNat)
 |[]=>rfl
 |b::c=>by have:=Hq c;simp only[ev]at this;simp only[ev,zB8,cB,this,zB2]
def UI{X:aa}{u:go}{c:List Int}(h:cz X 5 1 u (ev c) c.length):bB Tryz.prog X 25 9 u=a9 (.string ⟨(c.map fun n=>UInt8.ofNat n.toNat).toArray⟩,X):=by
 have f:Tryz.prog.underlying 25=a9 (.slice 5):=by kernel_rfl
 have j:Tryz.prog.underlying 9=a9 .string:=by kernel_rfl
 have r:Tryz.prog.underlying 5=a9 (.int .u8):=by kernel_rfl
 have z:=Hq c;obtain⟨B,h2,⟨t,rfl⟩|⟨t,n,rfl,A,C⟩⟩:=h
 .have:c=[]:=zE5 t;subst this;simp only[bB,f,j,r,cK,zA1,zA3];rfl
 .have o:=fF (sz:=1) (cnt:=c.length) (off:=0) (len:=c.length) (cap:=c.length) (s:=bi) A (by simp only; rw[DZ]; omega);simp only[zD0]at o;rw[zD4 (by rw[DZ]; omega)]at o;simp only[bB,f,j,r,o,zA1,zA3,z,zB2]
def Qg{X:aa}{v:go}{l:List Int}{k:Nat}{c:Int}(h:cz X 3 1 v (iv l) l.length)(j:l[k]?=a9 c) :
  ∃ n,v=lm (a9 ⟨n,0,bi⟩) l.length l.length/\n<X.next/\aW Tryz.prog 22 v (jp kw (k:Int))=a9 (li (a9 ⟨n,k,bi⟩))/\bk X n=a9 ⟨3,bv,iv l⟩/\rL Tryz.prog 3 k (a9 ⟨3,bv,iv l⟩)=a9 (jp kw c):=by
 have f:=(zF5.1 j).1;obtain⟨t,h2,⟨o,rfl⟩|⟨o,n,rfl,r,s⟩⟩:=h
 .omega
 .refine⟨n,rfl,s,Sa f,r,?_⟩;rw[lf m9];simp only[iv,zG0,j,zB2]
def Rf{l:List Int}{k:Nat}{c:Int}(h:l[k]?=a9 c):(l.take k).flatMap iG++iG c=(l.take (k+1)).flatMap iG:=by rw[zG4,h,List.flatMap_append];simp
def S7(l:List Int):(l.flatMap iG).length<=l.length*4:=by
 induction l with
 |nil=>simp
 |cons a l c =>have:=(GJ a).2;simp only[List.flatMap_cons,zB3,zA9];omega
def So(H:aa)(v:go)(l:List Int)(h:cz H 3 1 v (iv l) l.length)(hl:l.length<=65536)(O:∀ c∈l,oA c=bv):Pure 120 [v] H (.tuple #[.string (vl l),jp kw 0]):=by
 refine bF.VZ (fun C=>?_) (by rfl);obtain⟨a,ea⟩:=h.len;have hd:f7 (65536<(l.length:Int))=false:=decide_eq_false lw;have D:∀(X:aa)(m:Int),bB Tryz.prog X 3 21 (jp kw m)=a9 (.int .i32 (IntKind.i32.wrap m),X):=fun X m=>gF (u:=.int kw) m9 m9;refine aI mixed Tryz.func120 rfl Tryz.ntmps120 (zA7 rfl) ?_;rw[ea];simp only[hd,zW,seval];rw[<-ea];refine da fun E I=>?_;have o:E 10=v:=by rw[I]; rfl
 have f:E 11=jp kw (l.length:Int):=by rw[I]; rfl
 have j:E 12=jp kw ((0:Nat):Int):=by rw[I]; rfl
 have r:E 4=lm bi 0 0:=by rw[I]; rfl
 clear I;refine aS (fun z X=>Mod [] H X/\∃ u,z 4=u/\cz X 5 1 u (ev (l.flatMap iG)) (l.flatMap iG).length) ?_ ?_
 .refine cp (fun (q:Nat × go) z X=>Mod [] H X/\z 10=v/\z 11=jp kw (l.length:Int)/\z 12=jp kw (q.1:Int)/\z 4=q.2/\q.1<=l.length/\cz X 5 1 q.2 (ev ((l.take q.1).flatMap iG)) ((l.take q.1).flatMap iG).length/\∀ n∈ae q.2,H.next<=n) (fun q=>l.length-q.1) (0,lm bi 0 0)
   ⟨Mod.refl,o,f,j,r,zB7 _,cz.nil,fun n A=>by simp[ae]at A⟩ ?_
  clear r o f j E;rintro⟨k,u⟩ E X ⟨m,o,f,j,r,hk,B,J⟩;simp only at o f j r hk B J;rw[show X=ext X [] from rfl];by_cases M:k=l.length
  .have O:f7 ((k:Int)<(l.length:Int))=false:=by simp[M]
   simp only[f,j,O,zW,seval];refine ag ⟨m,u,by simp only[r,aF,seval],?_⟩;rw[M,zH2]at B;exact B
  .have R:k<l.length:=by omega
   have S:f7 ((k:Int)<(l.length:Int))=true:=decide_eq_true lw
   obtain⟨c,s⟩:∃ c,l[k]?=a9 c:=⟨_,zB0 R⟩
   have t:=O c (zC5 s);have T:cz X 3 1 v (iv l) l.length:=h.of m.next fun n A=>m.get n (h.ne n A).2 nl;obtain⟨n,ev',A,V,hb,hld⟩:=Qg T s;obtain⟨x,hx⟩:=ac X.next;have hr:0<=c/\c<=1114111:=by simp only[oA,zA6,Bool.not_eq_true',Bool.and_eq_false_iff,decide_eq_true_eq,decide_eq_false_iff_not]at t;omega
   have w32:IntKind.i32.wrap c=c:=RX lw lw;rw[hx]at A;simp only[o,f,j,hx,S,V,A,hb,hld,zW,seval];refine (Ub (ext X []) c).to ?_;simp only[t,r,bp,D,w32,zW,seval];refine (DN X u _ c B (m.ok C) t (by have:=S7 (l.take k); rw[zD9]at this; omega)).mono ?_;rintro _ G ⟨u2,rfl,k1,k2,k3⟩;rw[show G=ext G [] from rfl];rw[Rf s]at k1;simp only[j,ba (show k<1000000 by omega),zW,seval];refine aG ⟨(k+1,u2),by simp only; omega,m.step k2 C (fun q hq=>.inr (J q hq)),?_,?_,?_,?_,by simp only; omega,k1,fun q hq=>by have:=k3 q hq; have:=m.next; simp only at *; omega⟩<;>simp only[o,f,aF,seval]
 .rintro E X ⟨m,u,r,B⟩;rw[show X=ext X [] from rfl];have hcv:=UI (X:=ext X []) B;simp only[r,bp,hcv,Tryz.results120,zW,seval];exact⟨rfl,m⟩
def Dj:Lk:=⟨0,0,ci,ci,ci⟩
def R3(r c:Int):Op:=⟨1,r,c,0,Dj,.empty⟩
def RF(k:Lk):Op:=⟨2,0,0,0,k,.empty⟩
def SG(s:ByteArray):Op:=⟨3,0,0,0,Dj,s⟩
def PO(k:Int):Op:=⟨k,0,0,0,Dj,.empty⟩
def mS(l:List Ce):Nat->Nat
 |0=>0
 |e+1=>if l[e]?=a9 Ce.sp then mS l e else e+1
def eL(a b:List Ce)(i:Nat):Nat->Nat
 |0=>i
 |f+1=>if a[i]?=b[i]? then eL a b (i+1) f else i
def qw(a b:List Ce)(i c k:Nat):Nat->Nat
 |0=>c
 |f+1=>if k<8 then (if a[i]?=b[i]? then qw a b (i+1) c (k+1) f else qw a b (i+1) (i+1) 0 f) else c
def jI(b:List Ce)(s t:Nat):Nat:=if s<t/\(b[t]?).map Ce.rune=a9 (-1) then t+1 else t
def bM(a b:List Ce)(i e:Nat):Nat × Nat :=
 (eL a b i (e-i),jI b (eL a b i (e-i)) (qw a b (eL a b i (e-i)) (eL a b i (e-i)) 0 (e-eL a b i (e-i))))
def fG(k:Lk):List Ce->Nat
 |[]=>0
 |c::l=>if c.look=k then fG k l+1 else 0
def b9(l:List Ce):List Int:=(l.map Ce.rune).filter fun c=>f7 (c≠-1)
def fI:Nat->List Ce->Lk->List Op × Lk
 |0,_,p=>([],p)
 |_+1,[],p=>([],p)
 |f+1,c::l,p =>
  ((if c.look=p then [] else [RF c.look])++SG (vl (b9 ((c::l).take (fG c.look (c::l)))))::(fI f ((c::l).drop (fG c.look (c::l))) c.look).1,
   (fI f ((c::l).drop (fG c.look (c::l))) c.look).2)
def kM(row i:Nat)(l:List Ce)(p:Lk):List Op × Lk:=(R3 row i::(fI l.length l p).1,(fI l.length l p).2)
def eP(row:Nat)(a b:List Ce)(e:Nat):Nat->Nat->Lk->List Op × Lk
 |0,_,p=>([],p)
 |f+1,i,p =>
  if (bM a b i e).1<(bM a b i e).2 then
   ((kM row (bM a b i e).1 ((b.take (bM a b i e).2).drop (bM a b i e).1) p).1++(eP row a b e f (bM a b i e).2 (kM row (bM a b i e).1 ((b.take (bM a b i e).2).drop (bM a b i e).1) p).2).1,
    (eP row a b e f (bM a b i e).2 (kM row (bM a b i e).1 ((b.take (bM a b i e).2).drop (bM a b i e).1) p).2).2)
  else ([],p)
def Il(row:Nat)(a b:List Ce)(e:Nat):List Op:=if a.drop e=b.drop e then [] else [R3 row e,PO 4]
def oc(row:Nat)(a b:List Ce)(p:Lk):List Op × Lk :=
 ((eP row a b (mS b b.length) (b.length+1) 0 p).1++Il row a b (mS b b.length),(eP row a b (mS b b.length) (b.length+1) 0 p).2)
def lH:Nat->List (List Ce)->List (List Ce)->Lk->List Op
 |i,a::g,b::h,p=>if a=b then lH (i+1) g h p else (oc i a b p).1++lH (i+1) g h (oc i a b p).2
 |_,_,_,_=>[]
def nA(g h:List (List Ce))(r c:Int):List (List Ce):=match gT g h with
 |some x=>(y8 g r c [x]).1
 |none=>g
def FJ(r c:Int):List Op:=if r<0 then [PO 8] else [R3 r c,PO 7]
def tg(g h:List (List Ce))(r c r2 c2:Int):List Op:=(gT g h).toList++lH 0 (nA g h r c) h Dj++FJ r2 c2
def uq(l:List Ce):∀ e,mS l e<=e
 |0=>zA4 _
 |e+1=>by
  rw[mS];split
  .exact Nat.le_succ_of_le (uq l e)
  .exact zA4 _
def pR(a b:List Ce):∀ f i,i<=eL a b i f/\eL a b i f<=i+f
 |0,i=>⟨zA4 _,zA4 _⟩
 |f+1,i=>by
  rw[eL];split
  .have:=pR a b f (i+1); omega
  .omega
def mP(a b:List Ce):∀ f i c k,c<=i->c<=qw a b i c k f/\qw a b i c k f<=i+f
 |0,i,c,k,h=>by simp only[qw]; omega
 |f+1,i,c,k,h=>by
  rw[qw];split
  .split
   .have:=mP a b f (i+1) c (k+1) lw; omega
   .have:=mP a b f (i+1) (i+1) 0 lw; omega
  .omega
def CD(a b:List Ce)(i e:Nat):i<=(bM a b i e).1/\(bM a b i e).1<=(bM a b i e).2:=by have c:=pR a b (e-i) i;have f:=mP a b (e-eL a b i (e-i)) (eL a b i (e-i)) (eL a b i (e-i)) 0 (zA4 _);simp only[bM,jI];split<;>omega
def C5(a b:List Ce)(i e:Nat)(h:e<=b.length)(hi:i<=b.length):(bM a b i e).2<=b.length:=by
 have j:=pR a b (e-i) i;have n:=mP a b (e-eL a b i (e-i)) (eL a b i (e-i)) (eL a b i (e-i)) 0 (zA4 _);simp only[bM,jI];split
 .rename_i c;obtain⟨t,f⟩:=ac (qw a b (eL a b i (e-i)) (eL a b i (e-i)) 0 (e-eL a b i (e-i)));rw[f]at c ⊢;rcases zC0 t b.length with h|h
  .exact h
  .rw[zD3 h]at c; simp at c
 .omega
def ud(k:Lk):∀ l,fG k l<=l.length
 |[]=>zA4 _
 |c::l=>by
  rw[fG];split
  .have:=ud k l; simp; omega
  .simp
def vC(c:Ce)(l:List Ce):1<=fG c.look (c::l):=by rw[fG,if_pos rfl]; omega
def Lk.cells(k:Lk):List Value:=[jp kw k.fore,jp kw k.back,ls k.bold,ls k.under,ls k.inv]
def Pf(r s:Lk):Ei r.cells s.cells=f7 (r=s):=by obtain⟨a,b,c,d,e⟩:=r;obtain⟨f,h,j,n,o⟩:=s;simp only[Lk.cells,Ei,Sw,Bool.and_true,Lk.mk.injEq];by_cases t:a=f<;>by_cases z:b=h<;>by_cases A:c=j<;>by_cases B:d=n<;>by_cases C:e=o<;>simp[t,z,A,B,C]
def VN:flat Tryz.prog 10000 44=a9 [3,3,4,4,4]:=by kernel_rfl
def Wc:fj Tryz.prog 44=a9 true:=by kernel_rfl
def VJ:Tryz.prog.eqGuardType Tryz.prog.depth 44=false:=by kernel_rfl
def yF(r:Lk):fits Tryz.prog [3,3,4,4,4] r.cells=true:=by
 have c:∀ n,Ed Tryz.prog 3 (jp kw n)=true:=fun n=>by kernel_rfl
 have f:∀ n,Ed Tryz.prog 4 (ls n)=true:=fun n=>by kernel_rfl
 simp only[Lk.cells,fits,c,f,zD8]
def Tn(H:aa)(c:Ce)(k:Lk)(q:Nat)(j:bk H q=a9 ⟨44,ci,k.cells⟩):Pure 119 [c.val,li (a9 ⟨q,0,bi⟩)] H (ls (!f7 (c.look=k))):=by obtain⟨b,f⟩:=ac H.next;refine bA mixed Tryz.func119 rfl Tryz.ntmps119 (zA7 rfl) fun wf n=>?_;have h:q<b:=f▸wf.lt j;simp only[Ce.val,Lk.cells,f,j,h,zW,seval];refine TH (ts:=[3,3,4,4,4]) (xs:=c.look.cells) (ys:=k.cells) (r:=!f7 (c.look=k)) VN Wc VJ (by rw[Pf]; rfl) rfl rfl ol (by simp only[aF,seval]; rfl) rx (yF _) (yF _) ?_;simp only[Tryz.results119,zW,seval];exact Fin.cf rfl rfl
def Vf(k:Lk)(l:List Ce):Int:=if fG k l<l.length then (fG k l:Int) else -1
def As(k:Lk):∀(l:List Ce)(i:Nat),(∀ j c,j<i->l[j]?=a9 c->c.look=k)->i<=l.length->fG k l=fG k (l.drop i)+i
 |l,0,_,_=>by simp
 |[],i+1,_,h=>by simp at h
 |c::l,i+1,h,hi=>by rw[fG,if_pos (h 0 c (Nat.succ_pos _) rfl),List.drop_succ_cons,As k l i (fun j f o n=>h (j+1) f lw n) (by simpa using hi)];omega
def Nt(H:aa)(v:go)(l:List Ce)(k:Lk)(q:Nat)(hr:dZ H v l)(hl:l.length<1000000)(hq:bk H q=a9 ⟨44,ci,k.cells⟩) :
  Pure 118 [v,.func (.func 119) ⟨[]⟩ ⟨[li (a9 ⟨q,0,bi⟩)]⟩] H (jp kw (Vf k l)):=by
 obtain⟨b,hb⟩:=ac H.next;refine bA mixed Tryz.func118 rfl Tryz.ntmps118 (zA7 rfl) fun wf hsc=>?_;obtain⟨a1,c1,e1⟩:=hr.sl;rw[e1];simp only[zW,seval];rw[<-e1];refine da fun E J=>?_;have M:E 0=v:=by rw[J]; rfl
 have O:E 1=.func (.func 119) ⟨[]⟩ ⟨[li (a9 ⟨q,0,bi⟩)]⟩:=by rw[J]; rfl
 have D:E 7=jp kw (l.length:Int):=by rw[J]; rfl
 have I:E 8=jp kw ((0:Nat):Int):=by rw[J]; rfl
 clear J;refine aS (fun R S=>S=ext H []/\fG k l=l.length) ?_ ?_
 .refine cp (fun (i:Nat) R S=>S=ext H []/\R 0=v/\R 1=.func (.func 119) ⟨[]⟩ ⟨[li (a9 ⟨q,0,bi⟩)]⟩/\R 7=jp kw (l.length:Int)/\R 8=jp kw (i:Int)/\i<=l.length/\∀ j c,j<i->l[j]?=a9 c->c.look=k) (fun i=>l.length-i) 0
   ⟨rfl,M,O,D,I,zB7 _,fun j c hj=>by omega⟩ ?_
  clear M O D I;rintro i E S ⟨hH,M,O,D,I,hk,B⟩;rw[hH];have z:=As k l i B hk;by_cases hkl:i=l.length
  .have hc:f7 ((i:Int)<(l.length:Int))=false:=by simp[hkl]
   simp only[D,I,hc,zW,seval];rw[zE9 lw,fG]at z;exact ag ⟨rfl,by omega⟩
  .have t:i<l.length:=by omega
   have hc:f7 ((i:Int)<(l.length:Int))=true:=decide_eq_true lw
   rcases hr with⟨h,_⟩|⟨_,n1,o1,s1,x1,t1,p1,L1,rfl,b1,T,le1,tk1⟩
   .rw[h]at t; simp at t
   obtain⟨r1,A⟩:∃ r,l[i]?=a9 r:=⟨_,zB0 t⟩
   have i1:=eU (n:=n1) (off:=o1) (s:=s1) (cap:=x1) (i:=(i:Int)) rfl t;have q1:=gm (e:=t1) (o:=p1) A le1 tk1;rw[hb]at T;have V:=Tn (ext H []) r1 k q hq;obtain⟨d,hd⟩:=ac (f7 (r1.look=k));rw[hd]at V;have hdr:l.drop i=r1::l.drop (i+1):=by rw[zH4 t];rw[zB0 t]at A;rw[Option.some.inj A]
   rw[hdr,fG]at z;simp only[M,O,D,I,hb,hc,i1,b1,T,q1,cm,zW,seval];refine qY (f:=119) (ca:=[li (a9 ⟨q,0,bi⟩)]) rfl rfl rfl m9 ?_;simp only[aF];refine (show bD Tryz.prog 119 _ (ext H []) _ (ext H []) from V).to ?_
   cases d with
   |true =>
    simp only[I,zD1,ba (show i<1000000 by omega),zW,seval];refine aG ⟨i+1,by omega,rfl,?_,?_,?_,?_,by omega,fun j c hj C=>?_⟩
    .exact M
    .exact O
    .exact D
    .rfl
    .rcases zC0 j i with h|h
     .exact B j c h C
     .obtain rfl:j=i:=by omega
      rw[A]at C;cases C;exact of_decide_eq_true hd
   |false =>rw[if_neg (of_decide_eq_false hd),zC2]at z;simp only[zF4,cO,Tryz.results118,zW,seval];exact Fin.cf (by rw[Vf,z,if_pos t]) rfl
 .rintro E S ⟨hH,z⟩;rw[hH];simp only[Tryz.results118,zW,seval];exact Fin.cf (by rw[Vf,if_neg lw]) rfl
def Wj(H:aa)(n:Nat)(s:Option Nat):Prop:=s=a9 0\/(s=bi/\∃ b,bk H n=a9 b)
def Ik(H:aa)(sz:Nat)(u:go)(L:List go)(cnt:Nat):Prop :=
 ∃ n off s c e o M,u=lm (a9 ⟨n,off,s⟩) cnt (cnt+c)/\Wj H n s/\rk H n=a9 ⟨e,o,M⟩/\n<H.next/\off+cnt*sz<=M.length/\(M.drop off).take (cnt*sz)=L
section
variable{H G:aa}{u:go}{L:List go}{sz cnt:Nat}
def Wj.of{n:Nat}{s:Option Nat}(h:Wj H n s)(c:G.get n=H.get n):Wj G n s:=h.imp id fun⟨f,b,j⟩=>⟨f,b,(bg c).trans j⟩
def Ik.of(h:Ik H sz u L cnt)(A:H.next<=G.next)(f:∀ n∈ae u,G.get n=H.get n):Ik G sz u L cnt:=by obtain⟨n,off,s,c,e,o,M,rfl,j,r,B,t,z⟩:=h;have:=f n pm;exact⟨n,off,s,c,e,o,M,rfl,j.of this,(kh this).trans r,by omega,t,z⟩
def Ik.ne(h:Ik H sz u L cnt):∀ n∈ae u,H.get n≠bi/\n<H.next:=by obtain⟨n,off,s,c,e,o,M,rfl,t,j,r,z,A⟩:=h;intro m f;simp only[ae,zA5]at f;subst f;exact⟨KW j,r⟩
def Ik.df(h:Ik H sz u L cnt)(m:Mod [] H G):Ik G sz u L cnt:=h.of m.next fun n c=>m.get n (h.ne n c).2 nl
def Ik.sc(h:Ik H sz u L cnt):aV H.next u=true:=by obtain⟨n,off,s,c,e,o,M,rfl,j,r,f,t,z⟩:=h;exact bd f
def Ik.slice{P:ip}{t e:io}(S:P.underlying t=a9 (.slice e))(z:br P e=a9 sz)(h0:sz≠0)(h:Ik H sz u L cnt){x y:Option go}{lo hi:Nat}(hx:bound 0 x=a9 lo)(T:bound cnt y=a9 hi)(V:lo<=hi)(h2:hi<=cnt) :
  ∃ I,(∀ G:aa,(∀ n∈ae u,G.get n=H.get n)->bX P G t u x y bi=a9 (I,G))/\(lo<hi->Ik H sz I ((L.drop (lo*sz)).take ((hi-lo)*sz)) (hi-lo))/\(∃ a c,I=.slice a (hi-lo) c)/\(∀ n∈ae I,n∈ae u)/\(∀ n,aV n u=bv->aV n I=bv):=by
 obtain⟨n,off,s,c,e',o,M,rfl,J,hb,C,hle,ht⟩:=h
 have hM:∀ k,k=lo->(M.drop (off+k*sz)).take ((hi-lo)*sz)=(L.drop (lo*sz)).take ((hi-lo)*sz):=fun k e=>by
  subst e;have h3:(hi-k)*sz<=cnt*sz-k*sz:=by rw[<-Nat.sub_mul]; exact Nat.mul_le_mul_right _ lw
  rw[<-ht,List.drop_take,zH3,List.take_take,zH0 h3]
 have j:off+lo*sz+(hi-lo)*sz<=M.length:=by
  have:lo*sz+(hi-lo)*sz=hi*sz:=by rw[<-Nat.add_mul]; congr 1; omega
  have h3:hi*sz<=cnt*sz:=Nat.mul_le_mul_right _ h2;omega
 have f:∃ q:Bool,(∀ G:aa,G.get n=H.get n->cX G ⟨n,off,s⟩=a9 q):=by
  rcases J with rfl|⟨rfl,b,A⟩
  .exact⟨bv,fun G r=>rfl⟩
  .exact⟨!b.o,fun G r=>by simp only[cX,jx ((bg r).trans A),zB2]⟩
 obtain⟨q,f⟩:=f
 cases q with
 |true =>
  refine⟨lm (a9 ⟨n,if cnt+c=lo then off else off+lo*sz,a9 0⟩) (hi-lo) (cnt+c-lo),fun G r=>?_,fun B=>?_,⟨_,_,rfl⟩,fun q f=>by simpa[ae]using f,fun q f=>by simpa[aV]using f⟩
  .simp only[bX,S,z,zA1,zA3,et,hx,T,f G (r n pm)];rw[if_pos ⟨by omega,V⟩]
  .rw[if_neg lw];exact⟨n,_,a9 0,cnt+c-hi,e',o,M,by rw[show hi-lo+(cnt+c-hi)=cnt+c-lo by omega],.inl rfl,hb,C,j,hM lo rfl⟩
 |false =>
  obtain⟨rfl,b,A⟩:s=bi/\∃ b,bk H n=a9 b:=by
   rcases J with rfl|h
   .have:=f H rfl;simp[cX]at this
   .exact h
  by_cases D:lo=0
  .subst D;refine⟨lm (a9 ⟨n,off,bi⟩) hi (cnt+c),fun G r=>?_,fun B=>?_,⟨_,_,by rw[Nat.sub_zero]⟩,fun q f=>by simpa[ae]using f,fun q f=>by simpa[aV]using f⟩
   .simp only[bX,S,z,zA1,zA3,et,hx,T,f G (r n pm)];rw[if_pos ⟨by omega,V⟩];simp only[if_true]
   .have O:=hM 0 rfl;rw[zH1]at j O;exact⟨n,off,bi,cnt+c-hi,e',o,M,by rw[Nat.sub_zero,show hi+(cnt+c-hi)=cnt+c by omega],.inr ⟨rfl,b,A⟩,hb,C,j,by rw[zH1]; exact O⟩
  .by_cases R:lo<cnt+c
   .refine⟨lm (a9 ⟨n,off+lo*sz,bi⟩) (hi-lo) (cnt+c-lo),fun G r=>?_,fun B=>?_,⟨_,_,rfl⟩,fun q f=>by simpa[ae]using f,fun q f=>by simpa[aV]using f⟩
    .simp only[bX,S,z,zA1,zA3,et,hx,T,f G (r n pm)];rw[if_pos ⟨by omega,V⟩,if_neg D,if_pos R]
    .exact⟨n,_,bi,cnt+c-hi,e',o,M,by rw[show hi-lo+(cnt+c-hi)=cnt+c-lo by omega],.inr ⟨rfl,b,A⟩,hb,C,j,hM lo rfl⟩
   .refine⟨lm (a9 ⟨n,off+lo*sz,a9 (off+1)⟩) 0 0,fun G r=>?_,fun B=>absurd B lw,⟨_,0,by rw[show hi-lo=0 by omega]⟩,fun q f=>by simpa[ae]using f,fun q f=>by simpa[aV]using f⟩;simp only[bX,S,z,zA1,zA3,et,hx,T,f G (r n pm)];rw[if_pos ⟨by omega,V⟩,if_neg D,if_neg R,if_neg h0]
end
def iN(H:aa)(v:go)(l:List Ce):Prop:=(l=[]/\∃ a c,v=.slice a 0 c)\/(l≠[]/\Ik H 6 v (a8 l) l.length)
def fP(H:aa)(v:go)(g:List (List Ce)):Prop :=
 (g=[]/\∃ a c,v=.slice a 0 c)\/(g≠[]/\∃ rvs,rvs.length=g.length/\Ik H 1 v rvs g.length/\∀(k:Nat)(row:List Ce),g[k]?=a9 row->∃ rv,rvs[k]?=a9 rv/\iN H rv row)
section
variable{H G:aa}{v:go}{l:List Ce}{g:List (List Ce)}
def iN.at_(h:iN H v l):dZ H v l:=by
 rcases h with h|⟨f,n,off,s,c,e,o,M,rfl,A,j,r,t,z⟩
 .exact .inl h
 .exact .inr ⟨f,n,off,s,_,e,o,M,rfl,j,r,t,z⟩
def iN.of(h:iN H v l)(c:H.next<=G.next)(f:∀ n∈ae v,G.get n=H.get n):iN G v l:=h.imp id fun⟨j,o⟩=>⟨j,o.of c f⟩
def iN.df(h:iN H v l)(m:Mod [] H G):iN G v l:=h.imp id fun⟨c,f⟩=>⟨c,f.df m⟩
def iN.sl(h:iN H v l):∃ a c,v=.slice a l.length c:=h.at_.sl
def fP.at_(h:fP H v g):ej H v g:=by
 rcases h with h|⟨r,rvs,hl,⟨n,off,s,c,e,o,M,rfl,C,t,z,D,A⟩,hr⟩
 .exact .inl h
 .refine .inr ⟨r,n,off,s,_,e,o,M,rfl,t,z,by omega,fun k row f=>?_⟩;obtain⟨rv,j,B⟩:=hr k row f;refine⟨rv,?_,B.at_⟩;rw[<-A,List.getElem?_take,if_pos (by have:=(zF5.1 f).1; omega),List.getElem?_drop]at j;exact j
def fP.df(h:fP H v g)(m:Mod [] H G):fP G v g:=h.imp id fun⟨c,rvs,f,j,n⟩=>⟨c,rvs,f,j.df m,fun k row o=>let ⟨rv,r,s⟩:=n k row o; ⟨rv,r,s.df m⟩⟩
def Md(l:List Ce)(lo hi:Nat):((a8 l).drop (lo*6)).take ((hi-lo)*6)=a8 ((l.take hi).drop lo):=by
 have f:∀(l:List Ce)(k:Nat),(a8 l).drop (k*6)=a8 (l.drop k):=fun l k=>by
  rcases zC0 k l.length with h|h
  .have e:l=l.take k++l.drop k:=(zG9 k l).symm;have c:(a8 (l.take k)).length=k*6:=by rw[bx,zD9]; omega
   conv=>lhs; rw[e,fb]
   rw[<-c,List.drop_left]
  .rw[zE9 (by rw[bx]; omega),zE9 h]; rfl
 have j:∀(l:List Ce)(k:Nat),(a8 l).take (k*6)=a8 (l.take k):=fun l k=>by
  rcases zC0 k l.length with h|h
  .have e:l=l.take k++l.drop k:=(zG9 k l).symm;have c:(a8 (l.take k)).length=k*6:=by rw[bx,zD9]; omega
   conv=>lhs; rw[e,fb]
   rw[<-c,List.take_left]
  .rw[zD4 (by rw[bx]; omega),zD4 h]
 rw[f,j,List.drop_take]
def iN.slice(h:iN H v l)(cn:l≠[]){x y:Option go}{lo hi:Nat}(hx:bound 0 x=a9 lo)(o:bound l.length y=a9 hi)(r:lo<=hi)(s:hi<=l.length) :
  ∃ f,(∀ G:aa,(∀ n∈ae v,G.get n=H.get n)->bX Tryz.prog G 56 v x y bi=a9 (f,G))/\iN H f ((l.take hi).drop lo)/\(∀ n∈ae f,n∈ae v)/\(∀ n,aV n v=bv->aV n f=bv):=by
 rcases h with⟨h,_⟩|⟨_,h⟩
 .exact absurd h cn
 obtain⟨f,z,hb,⟨a,c,A⟩,B,C⟩:=h.slice (P:=Tryz.prog) (t:=56) (e:=77) m9 m9 lw hx o r s;have j:((l.take hi).drop lo).length=hi-lo:=by simp; omega
 refine⟨f,z,?_,B,C⟩;by_cases D:lo=hi
 .exact .inl ⟨zE5 lw,a,c,by rw[A,show hi-lo=0 by omega]⟩
 .refine .inr ⟨fun e=>by rw[e]at j; simp at j; omega,?_⟩;have:=hb lw;rw[Md]at this;rw[j];exact this
def fP.slice(h:fP H v g)(cn:g≠[]){x y:Option go}{lo hi:Nat}(hx:bound 0 x=a9 lo)(r:bound g.length y=a9 hi)(s:lo<=hi)(z:hi<=g.length) :
  ∃ f,(∀ G:aa,(∀ n∈ae v,G.get n=H.get n)->bX Tryz.prog G 39 v x y bi=a9 (f,G))/\fP H f ((g.take hi).drop lo)/\(∀ n∈ae f,n∈ae v)/\(∀ n,aV n v=bv->aV n f=bv):=by
 rcases h with⟨h,_⟩|⟨_,rvs,A,h,B⟩
 .exact absurd h cn
 obtain⟨f,C,hb,⟨a,c,D⟩,I,J⟩:=h.slice (P:=Tryz.prog) (t:=39) (e:=56) m9 m9 lw hx r s z;have o:((g.take hi).drop lo).length=hi-lo:=by simp; omega
 refine⟨f,C,?_,I,J⟩;by_cases S:lo=hi
 .exact .inl ⟨zE5 lw,a,c,by rw[D,show hi-lo=0 by omega]⟩
 .refine .inr ⟨fun e=>by rw[e]at o; simp at o; omega,(rvs.drop lo).take (hi-lo),by simp; omega,?_,fun k row j=>?_⟩
  .have:=hb lw;rw[zF0,zF0]at this;rw[o];exact this
  .rw[List.getElem?_drop,List.getElem?_take]at j;split at j
   .rename_i M;obtain⟨rv,O,R⟩:=B _ _ j;exact⟨rv,by rw[List.getElem?_take,if_pos lw,List.getElem?_drop]; exact O,R⟩
   .cases j
def fH.Vh{N:Nat}{rv:go}(h:fH N H rv l):iN H rv l:=by
 obtain⟨n,t,c,o,rfl,f,s,r⟩:=h
 by_cases j:l=[]
 .subst j; exact .inl ⟨rfl,_,_,rfl⟩
 .refine .inr ⟨j,n,0,Ur t,c,_,o,a8 l,rfl,?_,iq f,r,by rw[bx]; omega,by rw[zD0,zD4 (by rw[bx]; exact zA4 _)]⟩
  cases t with
  |false=>exact .inl rfl
  |true=>exact .inr ⟨rfl,_,f⟩
def Grow.VO{N:Nat}{u:go}{rvs:List go}(o:Grow N H u rvs g):fP H u g:=by
 have c:=o.len;obtain⟨t,h2,⟨f,rfl⟩|⟨f,n,rfl,h,r⟩⟩:=o.at_
 .exact .inl ⟨zE5 f,_,_,rfl⟩
 .refine .inr ⟨fun e=>by rw[e]at f; simp at f,rvs,c,⟨n,0,bi,0,_,_,rvs,rfl,.inr ⟨rfl,_,h⟩,iq h,r,by omega,by rw[zD0,zD4 lw]⟩,fun k row j=>?_⟩;have s:=(zF5.1 j).1;exact⟨rvs[k]' lw,zB0 lw,(o.row k _ row (zB0 lw) j).Vh⟩
end
def jP(H:aa)(v:go)(l:List Op):Prop:=cz H 58 10 v (opsOf l) l.length
def jP.nil{H:aa}:jP H (lm bi 0 0) []:=cz.nil
def jP.of{H G:aa}{v:go}{l:List Op}(h:jP H v l)(c:H.next<=G.next)(f:∀ n∈ae v,G.get n=H.get n):jP G v l:=cz.of h c f
def jP.ne{H:aa}{v:go}{l:List Op}(h:jP H v l):∀ n∈ae v,H.get n≠bi/\n<H.next:=cz.ne h
def jP.sc{H:aa}{v:go}{l:List Op}(h:jP H v l):aV H.next v=true:=cz.sc h
def jP.len{H:aa}{v:go}{l:List Op}(h:jP H v l):∃ a,v=.slice a l.length l.length:=cz.len h
def jP.df{H G:aa}{v:go}{l:List Op}(h:jP H v l)(m:Mod [] H G):jP G v l:=h.of m.next fun n c=>m.get n (h.ne n c).2 nl
def jP.at_{H:aa}{v:go}{l:List Op}(h:jP H v l):iP H v l:=by
 obtain⟨o,h2,⟨c,rfl⟩|⟨c,n,rfl,f,j⟩⟩:=h
 .exact .inl ⟨zE5 c,_,_,rfl⟩
 .refine .inr ⟨fun e=>by rw[e]at c; simp at c,n,0,bi,_,_,_,_,rfl,iq f,j,by rw[qQ]; omega,?_⟩;rw[zD0,zD4 (by rw[qQ]; exact zA4 _)]
def P6{H:aa}{v u:go}{l l2:List Op}(h:jP H v l)(C:iP H u l2)(r:H.base<=H.next)(M:l.length+l2.length<=100000) :
  ∃ t G,aE Tryz.prog H .append ⟨[23,23]⟩ [v,u]=a9 (t,G)/\jP G t (l++l2)/\Mod (ae v) H G/\∀ n∈ae t,n∈ae v\/H.next<=n:=by
 by_cases D:l=[]
 .subst D;obtain⟨h1,A,⟨O,rfl⟩|⟨O,n,e,R,S⟩⟩:=h
  .rw[zB6]
   by_cases A:l2=[]
   .subst A;obtain⟨a,c,rfl⟩:=C.sl;have f:Go.Ax.jD (.slice a ([]:List Op).length c)=a9 0:=rfl
    have I:cK H 10 0 (.slice a ([]:List Op).length c)=a9 []:=by
     cases a with
     |none=>rfl
     |some a=>simp only[cK,if_true]
    exact⟨_,H,QA (P:=Tryz.prog) (st:=23) (xt:=23) Hd O8 Pz Ap rfl HA f I,jP.nil,Mod.refl,fun n S=>.inl S⟩
   .rcases C with⟨e,_⟩|⟨_,n,off,s,c,e,o,L,rfl,R,V,f,ht⟩
    .exact absurd e A
    have z:0<l2.length:=List.length_pos_iff.2 A
    obtain⟨G,B,j,J,T,ge⟩:=oO (P:=Tryz.prog) (H:=H) (st:=23) (xt:=23) (e:=58) (sz:=10) (by1:=72) (n:=n) (off:=off) (cnt2:=l2.length) (cap:=c) (s:=s) (x:=H.next) (ws:=opsOf l2) (b:=⟨e,o,L⟩)
     Hd O8 Pz Ap rfl HA (cz.nil (H:=H) (e:=58) (sz:=10)) R f ht (yC l2) z (yK (by simpa using M)) rfl (cb rfl (EB _ _))
    rw[zC2,zB6]at j;rw[zC2]at B;exact⟨_,G,B,j,J r,fun q hq=>.inr (by simp only[ae,zA5]at hq; omega)⟩
  .simp at O
 .obtain⟨t,G,B,j,J,T⟩:=PS (m:=0) (.inr ⟨D,h⟩) C r M;refine⟨t,G,B,?_,J,T⟩
  rcases j with⟨e,_⟩|⟨_,j⟩
  .simp[D]at e
  .exact j
section
variable{Z:aa}{N:Nat}{E:Env}{ds:List Deferred}{ops:Array Oper}{anc:List Nat}{ty:io}{pos:String}{after:Array Edge}{rest:List Oper}{i d:Nat}{fps:List Fp}{Q:ah -> aa -> Prop}{v u:go}{l l2:List Op}
def NU{args:List i7}(h:jP Z v l)(M:iP Z u l2)(z:∀ n∈ae u,l2≠[]->n<Z.next/\Z.get n≠bi)(A:Z.base<=Z.next)(V:l.length+l2.length<=100000)
  (hd:d<N) (ha:args.all (bj Tryz.prog N)=bv) (hv:args.map (cy E)=[v,u]) (hm:∀ r∈fps,(anc.getD i 0).testBit r.i=bv\/(r.hi<=r.lo/\(∀ n∈r.W,n∉ae v++ae u)/\(∀ n∈r.F,n∉ae v)))
  (hk:∀ j o D F,Mod (ae v) Z o->jP o j (l++l2)->(∀ n∈ae j,n∈ae v\/Z.next<=n)->(∀ n∈D,n∈ae v)->fO Tryz.prog ops anc rest (i+1) (⟨i,F,D,Z.next,o.next⟩::fps) (bu N (cH E d j) ds) o Q) :
  oz Tryz.prog ops anc ⟨a9 d,.call ⟨.builtin .append,⟨args⟩,⟨[23,23]⟩⟩,ty,pos,after,bi⟩ rest i fps (bu N E ds) Z Q:=by
 obtain⟨W,B⟩:∃ W,W=if l2=[] then [] else ae u:=⟨_,rfl⟩
 have f:=aK Z (ae v++W);have O:∀ n,n∈ae v++W->(Z.restrict (ae v++W)).get n=Z.get n:=fun n hn=>by rw[aU,if_pos hn]
 have C:iP (Z.restrict (ae v++W)) u l2:=by
  by_cases t:l2=[]
  .obtain⟨a,c,e⟩:=M.sl;subst t;exact .inl ⟨rfl,a,c,e⟩
  .exact M.of (by rw[f.1]; exact zA4 _) fun n hn=>O n (zG6 _ (by rw[B,if_neg t]; exact hn))
 obtain⟨j,G,ga,R,S,I⟩:=P6 (h.of (G:=Z.restrict (ae v++W)) (by rw[f.1]; exact zA4 _) fun n hn=>O n (zF8 _ hn)) C (by rw[f.1,f.2.1]; exact zA4 _) V;rw[f.1]at I
 have s:∀ n∈W,n<Z.next/\Z.get n≠none:=fun n hn=>by
  rw[B]at hn;split at hn
  .simp at hn
  .rename_i t; exact z n hn t
 refine lU (W:=ae v) (ae v++W) A (fun n hn=>?_) (fun n hn=>?_) (fun n hn=>zF8 _ hn) (Jt (v:=j) (G:=G) ha (by rw[hv]; exact ga)) S (fun r hr=>(hm r hr).imp id fun h=>⟨h.1,fun n hn hF=>h.2.1 n hn (by
   rcases zB1.1 hF with h3|h3
   .exact zF8 _ h3
   .refine zG6 _ ?_;rw[B]at h3;split at h3
    .simp at h3
    .exact h3),h.2.2⟩) ?_
 .rcases zB1.1 hn with hn|hn
  .exact (h.ne n hn).1
  .exact (s n hn).2
 .rcases zB1.1 hn with hn|hn
  .exact (h.ne n hn).2
  .exact (s n hn).1
 intro o D m1 m2 m3 T m5;have gl:=S.next;rw[f.1]at gl
 have J:jP o j (l++l2):=R.of lw fun n hn=>by
  rcases I n hn with h5|h5
  .exact m2 n (zF8 _ h5)
  .exact m3 n h5 (R.ne n hn).2
 have:=hk j o D (ae v++W) m1 J I m5;rw[T]at this;rw[dK N E ds d j hd];rw[<-T]at this ⊢;exact this
end
def iQ(N:Nat)(F:List Nat)(H X:aa):Prop:=∃ W:List Nat,(∀ n∈W,N<=n/\n∉F)/\Mod W H X
section
variable{N:Nat}{F:List Nat}{H X Y:aa}
def iQ.refl:iQ N F H H:=⟨[],by simp,Mod.refl⟩
def iQ.Wf(m:Mod [] H X):iQ N F H X:=⟨[],by simp,m⟩
def iQ.trans(m:iQ N F H X)(k:iQ N F X Y):iQ N F H Y:=by obtain⟨W,c,m⟩:=m;obtain⟨V,f,k⟩:=k;exact⟨W++V,fun n j=>(zB1.1 j).elim (c n) (f n),(m.mono fun n h=>zF8 _ h).trans (k.mono fun n h=>zG6 _ h)⟩
def iQ.next(m:iQ N F H X):H.next<=X.next:=let ⟨_,_,m⟩:=m; m.next
def iQ.ok(m:iQ N F H X)(h:H.base<=H.next):X.base<=X.next:=let ⟨_,_,m⟩:=m; m.ok h
def iQ.get(m:iQ N F H X){n:Nat}(j:n<H.next)(h:n<N\/n∈F):X.get n=H.get n:=by
 obtain⟨W,c,m⟩:=m;refine m.get n j fun f=>?_;rcases h with h|h
 .have:=(c n f).1; omega
 .exact (c n f).2 h
def iQ.mod{G:aa}(m:iQ N F H X)(g:Mod [] G H)(c:G.base<=G.next)(f:G.next<=N):Mod [] G X:=by obtain⟨W,h,m⟩:=m;exact g.step m c fun n j=>.inr (zC4 f (h n j).1)
def iN.kp{v:go}{l:List Ce}(h:iN H v l)(m:iQ N F H X)(hi:∀ n∈ae v,n<N\/n∈F):iN X v l:=by
 rcases id h with⟨f,c⟩|⟨f,c⟩
 .exact .inl ⟨f,c⟩
 .exact h.of m.next fun n j=>m.get (c.ne n j).2 (hi n j)
end
structure fq (N:Nat) (F:List Nat) (H:aa) (p:Nat) (v:go) (l:List Op) (k:Lk):Prop where
 cell:bk H p=a9 ⟨90,ci,[v,jp kw k.fore,jp kw k.back,ls k.bold,ls k.under,ls k.inv]⟩
 ops:jP H v l
 apart:p∉ae v
 lt:p<H.next
 lo:N<=p
 pF:p∉F
 ids:∀ n∈ae v,N<=n/\n∉F
 fl:∀ n∈F,n<H.next
def fq.of{N:Nat}{F:List Nat}{H G:aa}{p:Nat}{v:go}{l:List Op}{k:Lk}(a:fq N F H p v l k)(m:Mod [] H G):fq N F G p v l k :=
 ⟨(m.bk a.lt nl).trans a.cell,a.ops.df m,a.apart,m.lt a.lt,a.lo,a.pF,a.ids,fun n c=>m.lt (a.fl n c)⟩
def tU(N:Nat)(F:List Nat)(H:aa)(p:Nat)(v:go)(l:List Op)(k:Lk)(o:Op)(a:fq N F H p v l k)(r:H.base<=H.next)(hl:l.length<=90000)(hN:N<=H.next) :
  bF Tryz.prog 47 [li (a9 ⟨p,0,bi⟩),o.val] H (fun out X=>out=.ok (.tuple #[])/\∃ v',fq N F X p v' (l++[o]) k/\iQ N F H X):=by
 obtain⟨x,hx⟩:=ac H.next;have hp:=a.lt;rw[hx]at hp;refine aI mixed Tryz.func47 rfl Tryz.ntmps47 (zA7 rfl) ?_;simp only[Op.val,Op.cells,hx,zW,seval];generalize I:ext H _=X;have J:Mod [] H X:=I▸Mod.ext r;have M:X.next=x+1:=by rw[<-I,ai,hx]; rfl
 have kX:bk X (x+0)=a9 ⟨58,ci,o.cells⟩:=by rw[<-I,aZ hx nl]; rfl
 have s:=J.ok r;have aX:=a.of J;have kp:=aX.cell;have O:p<x+1:=by omega
 have R:x+0<x+1:=by omega
 rw[show X=ext X [] from rfl];refine aQ [(7,4),(7,5),(7,6),(10,4),(10,5),(10,6),(10,7)] [] m9 m9 rfl fun ops anc S hG=>?_;simp only[aw]at S;simp only[Op.cells]at kX;simp only[M,kX,kp,O,R,bS,zW,seval];rw[Jc rfl];generalize T:ext X _=Y;have V:Mod [] X Y:=T▸Mod.ext s;have nY:Y.next=x+2:=by rw[<-T,ai,M]; rfl
 have kY:bk Y (x+1+0)=a9 ⟨58,ci,o.cells⟩:=by rw[<-T,aZ M nl]; rfl
 have okY:=V.ok s;have j:=aX.of V;have hu:iP Y (lm (a9 ⟨x+1+0,0,a9 0⟩) 1 1) [o]:=.inr ⟨by simp,_,0,a9 0,1,_,_,_,rfl,iq kY,by omega,by simp[Op.cells],by simp[opsOf,Op.cells]⟩;refine NU (l2:=[o]) j.ops hu (fun n c _=>?_) okY (by simp only[zI0]; omega) ol rfl rfl (by simp only[aw,cG,S,true_or,and_true]) ?_
 .simp only[ae,zA5]at c;subst c;exact⟨by omega,fa kY⟩
 intro v' Z D F' C hZ hid hD;have kZ:bk Z p=a9 ⟨90,ci,[v,jp kw k.fore,jp kw k.back,ls k.bold,ls k.under,ls k.inv]⟩:=(C.bk j.lt j.apart).trans j.cell;obtain⟨z,hz⟩:=ac Z.next;have hpz:p<z:=by have:=C.next; omega
 obtain⟨av,ev⟩:=hZ.len;have t:=hZ.sc;have f:=hid;have A:=hZ;subst ev;rw[hz]at t;rw[show Z=ext Z [] from rfl];simp only[hz,kZ,hpz,t,S,Tryz.results47,bS,zW,seval];generalize hU:uw Z p 0 _=U;have B:Mod [p] Z U:=hU▸Mod.uw nl;have hU2:bk U p=a9 ⟨90,ci,[.slice av (l++[o]).length (l++[o]).length,jp kw k.fore,jp kw k.back,ls k.bold,ls k.under,ls k.inv]⟩:=by rw[<-hU,bR,kZ]; rfl
 have hyz:=C.next;have hpl:=a.lt;refine⟨⟨fun _=>.inr (.inl lw),.inr (.inl lw)⟩,⟨fun _=>.inr (.inl lw),.inr (.inl lw)⟩,.slice av (l++[o]).length (l++[o]).length,⟨hU2,?_,?_,B.lt lw,a.lo,a.pF,?_,fun n c=>?_⟩,?_⟩
 .refine A.of B.next fun n c=>B.get n (A.ne n c).2 (fun e=>?_);rw[zA5]at e;subst e;rcases f n c with h|h
  .exact j.apart h
  .have:=j.lt; omega
 .intro h;rcases f p h with h|h
  .exact j.apart h
  .have:=j.lt; omega
 .intro n c;rcases f n c with h|h
  .exact a.ids n h
  .exact⟨by omega,fun hf=>by have:=j.fl n hf; omega⟩
 .have:=a.fl n c;rw[ai];have:=B.next;omega
 .have m1:iQ N F H Y:=iQ.Wf (J.trans V)
  have m2:iQ N F Y Z:=⟨_,j.ids,C⟩
  exact (m1.trans m2).trans ⟨[p],fun n c=>by rw[zA5]at c; subst c; exact⟨a.lo,a.pF⟩,B⟩
set_option maxRecDepth 100000
def xD :
  (cY Tryz.prog 58 []=a9 (.agg #[jp kw 0,jp kw 0,jp kw 0,jp kw 0,jp kw 0,jp kw 0,ls ci,ls ci,ls ci,.string .empty])) /\
  (∀(x:Int)(s:ByteArray),cY Tryz.prog 58 [(0,jp kw x),(5,.string s)]=a9 (.agg #[jp kw x,jp kw 0,jp kw 0,jp kw 0,jp kw 0,jp kw 0,ls ci,ls ci,ls ci,.string s])):=by
 refine⟨?_,?_⟩
 all_goals first|trivial|(intros; kernel_rfl)
section
variable{N q p:Nat}{F:List Nat}{H X:aa}{v:go}{l:List Op}{k:Lk}
def fq.Tw(a:fq N (q::F) H p v l k):fq N F H p v l k :=
 ⟨a.cell,a.ops,a.apart,a.lt,a.lo,fun h=>a.pF (zB9 _ h),fun n c=>⟨(a.ids n c).1,fun h=>(a.ids n c).2 (zB9 _ h)⟩,fun n c=>a.fl n (zB9 _ c)⟩
def iQ.Tw(m:iQ N (q::F) H X):iQ N F H X:=let ⟨W,h,m⟩:=m; ⟨W,fun n c=>⟨(h n c).1,fun f=>(h n c).2 (zB9 _ f)⟩,m⟩
def fq.more(a:fq N F H p v l k)(m:Mod [] H X)(j:H.next<=q)(o:q<X.next):fq N (q::F) X p v l k:=by
 have c:=a.of m;refine⟨c.cell,c.ops,c.apart,c.lt,c.lo,fun h=>?_,fun n f=>⟨(a.ids n f).1,fun h=>?_⟩,fun n f=>?_⟩
 .rcases zA8.1 h with h|h
  .have:=a.lt; omega
  .exact a.pF h
 .rcases zA8.1 h with h|h
  .have:=(a.ops.ne n f).2; omega
  .exact (a.ids n f).2 h
 .rcases zA8.1 f with h|h
  .omega
  .exact c.fl n h
def fq.b7{U:aa}{j:Lk}(a:fq N F H p v l k)(m:Mod [p] H U)(h:bk U p=a9 ⟨90,ci,[v,jp kw j.fore,jp kw j.back,ls j.bold,ls j.under,ls j.inv]⟩):fq N F U p v l j :=
 ⟨h,a.ops.of m.next fun n c=>m.get n (a.ops.ne n c).2 (fun e=>a.apart (by rw[zA5]at e; exact e▸c)),a.apart,m.lt a.lt,a.lo,a.pF,a.ids,fun n c=>m.lt (a.fl n c)⟩
def iQ.Xe{U:aa}(a:fq N F H p v l k)(m:Mod [p] H U):iQ N F H U:=⟨[p],fun n c=>by rw[zA5]at c; subst c; exact⟨a.lo,a.pF⟩,m⟩
end
def y9(f:Nat)(k:Lk):fI f [] k=([],k):=by cases f<;>rfl
def yN(l:List Ce):(b9 l).length<=l.length:=by refine zC4 (List.length_filter_le _ _) ?_;rw[zE1]; exact zA4 _
def Gz{l:List Ce}{j:Nat}{c:Ce}(h:l[j]?=a9 c):b9 (l.take (j+1))=b9 (l.take j)++(if c.rune=-1 then [] else [c.rune]):=by rw[zG4,h];simp only[b9,List.map_append,List.filter_append,Option.toList_some,zB8,zE7];by_cases f:c.rune=-1<;>simp[f]
def N2(N:Nat)(F:List Nat)(H:aa)(p:Nat)(v u:go)(l:List Op)(k:Lk)(cs:List Ce)(row i:Nat)(a:fq N F H p v l k)(hr:iN H u cs)(hi:∀ n∈ae u,n<N\/n∈F)(hok:H.base<=H.next)(hN:N<=H.next)(hl:l.length+2*cs.length<=80000)(hcs:cs.length<=10000)(hc:∀ c∈cs,c.rune≠-1->oA c.rune=bv) :
  bF Tryz.prog 86 [li (a9 ⟨p,0,bi⟩),jp kw (row:Int),jp kw (i:Int),u] H (fun out X=>out=.ok (.tuple #[])/\∃ v',fq N F X p v' (l++(kM row i cs k).1) (kM row i cs k).2/\iQ N F H X):=by
 refine aI mixed Tryz.func86 rfl Tryz.ntmps86 (zA7 rfl) ?_;simp only[zW,seval];refine (tU N F (ext H []) p v l k (R3 row i) a hok lw hN).mono ?_;rintro _ X ⟨rfl,v1,a1,kp1⟩;replace kp1:iQ N F H X:=kp1;obtain⟨L,R⟩:=ac (l++(kM row i cs k).1);obtain⟨K,hK⟩:=ac ((kM row i cs k).2);rw[R,hK];simp only[kM]at R hK;rw[show X=ext X [] from rfl];simp only[gV,seval];refine da fun E S=>?_;have B:E 0=li (a9 ⟨p,0,bi⟩):=by rw[S]; rfl
 have C:E 3=u:=by rw[S]; rfl
 clear S
 .refine cp (fun (q:Nat × List Ce × go × go × List Op × Lk) A Y=>A 0=li (a9 ⟨p,0,bi⟩)/\A 3=q.2.2.1/\fq N F Y p q.2.2.2.1 q.2.2.2.2.1 q.2.2.2.2.2/\iQ N F H Y/\iN Y q.2.2.1 q.2.1/\(∀ n∈ae q.2.2.1,n<N\/n∈F)/\q.2.1.length<=q.1/\q.2.2.2.2.1++(fI q.1 q.2.1 q.2.2.2.2.2).1=L/\(fI q.1 q.2.1 q.2.2.2.2.2).2=K/\q.2.2.2.2.1.length+2*q.2.1.length<=80001/\q.2.1.length<=10000/\(∀ c∈q.2.1,c.rune≠-1->oA c.rune=bv)) (fun q=>q.1) (cs.length,cs,u,v1,l++[R3 row i],k)
   ⟨B,C,a1,kp1,hr.kp kp1 hi,hi,zA4 _,by rw[<-R]; simp,hK,by simp only[zB3,zI0]; omega,hcs,hc⟩ ?_
  clear B C R hK a a1 kp1 hr hi hl hcs hc E;clear v1 v u l k cs;rintro⟨f,cs,u,v,l,k⟩ E X ⟨B,C,a,kp,hr,hi,hf,R,hK,hl,hcs,hc⟩;simp only at C a hr hi hf R hK hl hcs hc;obtain⟨x,hx⟩:=ac X.next;have okX:=kp.ok hok;have hxb:X.base<=x:=hx▸okX;have hNx:N<=x:=by have:=kp.next; omega
  obtain⟨as1,c1,e1⟩:=hr.sl;have g3':=C;rw[e1]at g3';rw[show X=ext X [] from rfl]
  by_cases cn:cs=[]
  .have hc0:f7 ((0:Int)<((cs.length:Nat):Int))=false:=by rw[cn]; decide
   rw[cn,y9]at R hK;simp only[g3',hc0,Tryz.results86,zW,seval];exact⟨trivial,v,by rw[<-R,<-hK]; simp only[zC7]; exact a,kp⟩
  obtain⟨c,cs',hcc⟩:=List.exists_cons_of_ne_nil cn;have hpos:0<cs.length:=List.length_pos_iff.2 cn
  obtain⟨f',rfl⟩:∃ f',f=f'+1:=⟨f-1,by omega⟩
  have hcs0:cs[0]?=a9 c:=by rw[hcc]; rfl
  have gQ:f7 ((0:Int)<((cs.length:Nat):Int))=true:=decide_eq_true lw;obtain⟨n,hn⟩:=ac (fG c.look cs);have hnl:n<=cs.length:=hn▸ud c.look cs;have hn1:1<=n:=by rw[<-hn,hcc]; exact vC c cs'
  have hw:fI (f'+1) cs k=((if c.look=k then [] else [RF c.look])++SG (vl (b9 (cs.take n)))::(fI f' (cs.drop n) c.look).1,(fI f' (cs.drop n) c.look).2):=by rw[<-hn,hcc]; rfl
  rw[hw]at R hK;clear hw;simp only at R hK
  rcases id hr.at_ with⟨h,_⟩|⟨_,n1,o1,s1,x1,t1,p1,L1,ev1,b1,n1l,le1,tk1⟩
  .exact absurd h cn
  have i1:=eU (n:=n1) (off:=o1) (s:=s1) (cap:=x1) (len:=cs.length) (i:=((0:Nat):Int)) rfl hpos;have q1:=CX (e:=t1) (o:=p1) hcs0 le1 tk1;rw[zH1]at i1 q1;rw[zD5,show ((0:Nat):Int)=0 from rfl]at i1;rw[zC2]at q1;rw[hx]at n1l;have I:=C;rw[ev1]at I;simp only[I,hx,hxb,gQ,i1,b1,n1l,q1,cm,Lk.val,zW,seval];generalize hY:ext X _=Y;have mY:Mod [] X Y:=hY▸Mod.ext okX;have nY:Y.next=x+1:=by rw[<-hY,ai,hx]; rfl
  have kY:bk Y (x+0)=a9 ⟨44,ci,c.look.cells⟩:=by rw[<-hY,aZ hx nl]; rfl
  have okY:=mY.ok okX;have aY:=a.more (q:=x+0) mY lw lw;have hrY:=hr.df mY;rw[show Y=ext Y [] from rfl];rw[<-ev1];refine (Nt (ext Y []) u cs c.look (x+0) hrY.at_ lw kY).to ?_;obtain⟨d,J⟩:=ac (f7 (Vf c.look cs<0));simp only[J,zW,seval];refine fB (fun A Z=>Z=ext Y []/\A 0=li (a9 ⟨p,0,bi⟩)/\A 3=u/\A 8=li (a9 ⟨x+0,0,bi⟩)/\A 9=jp kw (n:Int)) ?_ ?_
  .rw[Vf,hn]at J
   cases d with
   |true =>
    have hd':=of_decide_eq_true J;split at hd'
    .omega
    have hnn:n=cs.length:=by omega
    simp only[I,zW,seval];exact ag ⟨rfl,by simp only[B,aF,seval],by simp only[C,aF,seval],by simp only[aF,seval],by simp only[hnn,aF]⟩
   |false =>
    have hd':=of_decide_eq_false J;split at hd'
    case isFalse=>omega
    rename_i hlt;simp only[gV];exact ag ⟨rfl,by simp only[B,aF,seval],by simp only[C,aF,seval],by simp only[aF,seval],by simp only[Vf,hn,if_pos hlt,aF,seval]⟩
  clear B C g3' I J d E;rintro E Z ⟨hZ,B,C,g8,M⟩;rw[hZ];clear hZ Z;obtain⟨d,J⟩:=ac (f7 (c.look=k));have kp0:=aY.cell;have hpY:=aY.lt;rw[nY]at hpY;have hxY:x+0<x+1:=by omega
  simp only[gV];refine aQ [] [] m9 rfl rfl fun ops anc hA hG=>?_;simp only[Lk.cells]at kY;simp only[B,g8,nY,kY,kp0,hpY,hxY,bS,zW,seval];refine vI (ts:=[3,3,4,4,4]) (xs:=c.look.cells) (ys:=k.cells) (r:=!f7 (c.look=k)) VN Wc VJ (by rw[Pf]; rfl) rfl rfl ol (by simp only[aF,seval]; rfl) rx (yF _) (yF _) ?_;simp only[J,bS,zW,seval];refine fB (fun A Z=>A 0=li (a9 ⟨p,0,bi⟩)/\A 3=u/\A 9=jp kw (n:Int)/\∃ v2,fq N F Z p v2 (l++if c.look=k then [] else [RF c.look]) c.look/\iQ N F Y Z) ?_ ?_
  .cases d with
   |false =>
    have hne2:=of_decide_eq_false J;simp only[B,g8,nY,kY,hxY,zF4,zW,seval];refine (tU N ((x+0)::F) (ext Y []) p v l k (RF c.look) aY okY lw (by rw[ai]; omega)).mono ?_;rintro _ Z ⟨rfl,v2,a2,D⟩;replace D:iQ N ((x+0)::F) Y Z:=D;have kZ:=(bg (D.get (n:=x+0) lw (.inr nl))).trans kY;obtain⟨z,hz⟩:=ac Z.next;have hyz:=D.next;have hxz:x+0<z:=by omega
    have hpz:p<z:=by omega
    have kZp:=a2.cell;rw[show Z=ext Z [] from rfl];simp only[B,g8,hz,kZ,kZp,hxz,hpz,zW,seval];generalize hU:uw Z p 1 _=U;have mU:Mod [p] Z U:=hU▸Mod.uw nl;have hU2:bk U p=a9 ⟨90,ci,[v2,jp kw c.look.fore,jp kw c.look.back,ls c.look.bold,ls c.look.under,ls c.look.inv]⟩:=by rw[<-hU,bR,kZp]; rfl
    refine ag ⟨by simp only[B,aF,seval],by simp only[C,aF,seval],by simp only[M,aF,seval],v2,?_,?_⟩
    .rw[if_neg hne2];exact (a2.b7 mU hU2).Tw
    .exact (D.trans (iQ.Xe a2 mU)).Tw
   |true =>have he:=of_decide_eq_true J;simp only[zD1,gV];refine ag ⟨by simp only[B,aF,seval],by simp only[C,aF,seval],by simp only[M,aF,seval],v,?_,iQ.refl⟩;rw[if_pos he,zC7,he];exact aY.Tw
  clear B C g8 M J d E hA hG ops anc;rintro E Z ⟨B,C,M,v2,a2,D⟩;have okZ:=D.ok okY;have hrZ:=hrY.kp D hi;obtain⟨u2,sl2,r2,-,-⟩:=hrZ.slice cn (x:=bi) (y:=a9 (jp kw (n:Int))) (lo:=0) (hi:=n) rfl rc (zB7 _) hnl;rw[zD0]at r2;have hTl:(cs.take n).length=n:=by rw[zD9]; omega
  obtain⟨a2',c2,e2⟩:=r2.sl;rw[hTl]at e2;have hTc:∀ c∈cs.take n,c.rune≠-1->oA c.rune=true:=fun c h=>hc c (zE2 h);obtain⟨T,hT⟩:=ac (cs.take n);rw[hT]at r2 hTl hTc R;obtain⟨z,hz⟩:=ac Z.next;have hyz:=D.next;have hsl:=sl2 (ext Z []) (fun _ _=>rfl);rw[e2]at hsl;rw[show Z=ext Z [] from rfl];simp only[C,M,hsl,zW,seval];rw[<-e2];refine da fun A S=>?_;have r0:A 0=li (a9 ⟨p,0,bi⟩):=by rw[S]; simp only[B,aF,seval]
  have r3:A 3=u:=by rw[S]; simp only[C,aF,seval]
  have r9:A 9=jp kw (n:Int):=by rw[S]; simp only[M,aF,seval]
  have r10:A 10=lm bi 0 0:=by rw[S]; rfl
  have r50:A 50=u2:=by rw[S]; rfl
  have r51:A 51=jp kw (n:Int):=by rw[S]; rfl
  have r52:A 52=jp kw ((0:Nat):Int):=by rw[S]; rfl
  clear S B C M E;refine aS (fun A W=>A 0=li (a9 ⟨p,0,bi⟩)/\A 3=u/\A 9=jp kw (n:Int)/\∃ t,A 10=t/\Mod [] Z W/\cz W 3 1 t (iv (b9 T)) (b9 T).length) ?_ ?_
  .refine cp (fun (q:Nat × go) A W=>A 0=li (a9 ⟨p,0,bi⟩)/\A 3=u/\A 9=jp kw (n:Int)/\A 10=q.2/\A 50=u2/\A 51=jp kw (n:Int)/\A 52=jp kw (q.1:Int)/\q.1<=n/\Mod [] Z W/\cz W 3 1 q.2 (iv (b9 (T.take q.1))) (b9 (T.take q.1)).length/\∀ m∈ae q.2,z<=m) (fun q=>n-q.1) (0,lm bi 0 0)
    ⟨r0,r3,r9,r10,r50,r51,r52,zB7 _,Mod.refl,cz.nil,fun m hm=>by simp[ae]at hm⟩ ?_
   clear r0 r3 r9 r10 r50 r51 r52;rintro⟨j,t⟩ E W ⟨B,C,M,O,g50,g51,g52,hj,mW,ht,hid⟩;simp only at O g52 hj ht hid;obtain⟨w,hw⟩:=ac W.next;have okW:=mW.ok okZ;have hwb:W.base<=w:=hw▸okW;have hzw:=mW.next;rw[show W=ext W [] from rfl];by_cases hjn:j=n
   .have hc0:f7 ((j:Int)<(n:Int))=false:=by simp[hjn]
    rw[hjn,zD4 lw]at ht;simp only[g51,g52,hc0,zW,seval];exact ag ⟨by simp only[B,aF,seval],by simp only[C,aF,seval],by simp only[M,aF,seval],t,by simp only[O,aF,seval],mW,ht⟩
   have hc0:f7 ((j:Int)<(n:Int))=true:=decide_eq_true lw
   obtain⟨cj,hcj⟩:∃ r,T[j]?=a9 r:=⟨_,zB0 lw⟩
   rcases id (r2.df mW).at_ with⟨h,_⟩|⟨_,n2,o2,s2,x2,t2,p2,L2,ev2,b2,n2l,le2,tk2⟩
   .rw[h]at hTl; simp at hTl; omega
   have i2:=eU (n:=n2) (off:=o2) (s:=s2) (cap:=x2) (len:=T.length) (i:=(j:Int)) rfl lw;have q2:=gm (e:=t2) (o:=p2) hcj le2 tk2;rw[hw]at n2l;have g50':=g50;rw[ev2]at g50';have htl:=Gz hcj;have hrl:=zC4 (yN (T.take j)) (List.length_take_le j T);obtain⟨d,J⟩:=ac (f7 (¬cj.rune=-1));simp only[g50',g51,g52,hw,hwb,hc0,i2,b2,n2l,q2,cm,Ce.val,J,zW,seval];generalize hV:ext W _=V;have mV:Mod [] W V:=hV▸Mod.ext okW;have nV:V.next=w+1:=by rw[<-hV,ai,hw]; rfl
   have kV:bk V (w+0)=a9 ⟨77,ci,cj.cells⟩:=by rw[<-hV,aZ hw nl]; rfl
   have okV:=mV.ok okW;have hVb:V.base<=w+1:=nV▸okV;rw[show V=ext V [] from rfl];have htV:cz V 3 1 t (iv (b9 (T.take j))) (b9 (T.take j)).length:=ht.of mV.next fun m hm=>mV.get m (ht.ne m hm).2 nl
   cases d with
   |false =>
    have he:cj.rune=-1:=by simpa using of_decide_eq_false J
    rw[if_pos he,zC7]at htl;simp only[g52,ba (show j<1000000 by omega),zW,seval];refine aG ⟨(j+1,t),by simp only; omega,by simp only[B,aF,seval],by simp only[C,aF,seval],by simp only[M,aF,seval],by simp only[O,aF,seval],by simp only[g50,aF,seval],by simp only[g51,aF,seval],by simp only[aF],by simp only; omega,mW.trans mV,?_,hid⟩;simp only[htl];exact htV
   |true =>
    have he:¬cj.rune=-1:=of_decide_eq_true J;rw[if_neg he]at htl;obtain⟨G,k1,k2,k3,k4⟩:=Td (c:=cj.rune) htV nV okV lw;have hwV:w+0<w+1:=by omega
    simp only[Ce.cells]at kV;simp only[O,g52,nV,kV,hwV,k1,ba (show j<1000000 by omega),zW,seval];refine aG ⟨(j+1,lm (a9 ⟨w+1+1,0,bi⟩) ((b9 (T.take j)).length+1) ((b9 (T.take j)).length+1)),by simp only; omega,by simp only[B,aF,seval],by simp only[C,aF,seval],by simp only[M,aF,seval],by simp only[aF,seval],by simp only[g50,aF,seval],by simp only[g51,aF,seval],by simp only[aF],by simp only; omega,?_,?_,?_⟩
    .exact (mW.trans mV).step k3 okZ fun m hm=>.inr (by rw[hz]; exact hid m hm)
    .simp only[htl];exact k2
    .intro m hm;simp only[ae,zA5]at hm;omega
  clear r0 r3 r9 r10 r50 r51 r52 A;rintro E W ⟨B,C,M,t,O,mW,ht⟩;have hall:∀ c∈b9 T,oA c=true:=fun c h=>by simp only[b9,List.mem_filter,zC1,decide_eq_true_eq]at h;obtain⟨⟨e,h1,rfl⟩,h2⟩:=h;exact hTc e h1 h2
  have hrl:=yN T;have okW:=mW.ok okZ;have hzw:=mW.next;have a3:=a2.of mW;rw[show W=ext W [] from rfl];simp only[O,zW,seval];refine (So (ext W []) t (b9 T) ht lw hall).to ?_;simp only[B,zW,seval];have hl3:(l++if c.look=k then [] else [RF c.look]).length<=l.length+1:=by rw[zB3];split<;>simp
  refine (tU N F (ext W []) p v2 _ c.look (SG (vl (b9 T))) a3 okW lw (by rw[ai]; simp only[zB4]; omega)).mono ?_;rintro _ X5 ⟨rfl,v5,a5,kp5⟩;replace kp5:iQ N F W X5:=kp5;have hr5:=(hrZ.df mW).kp kp5 hi;obtain⟨u5,sl5,r5,id5,-⟩:=hr5.slice cn (x:=a9 (jp kw (n:Int))) (y:=bi) (lo:=n) (hi:=cs.length) rc rfl hnl (zA4 _);rw[zH2]at r5;have hsl5:=sl5 (ext X5 []) (fun _ _=>rfl);rw[show X5=ext X5 [] from rfl];simp only[C,M,hsl5,zW,seval];refine aG ⟨(f',cs.drop n,u5,v5,_,c.look),zF3 _,by simp only[B,aF,seval],by simp only[aF],a5,?_,r5,fun m hm=>hi m (id5 m hm),?_,?_,hK,?_,?_,fun e he=>hc e (zE4 he)⟩
  .exact (((kp.trans (iQ.Wf mY)).trans D).trans (iQ.Wf mW)).trans kp5
  .simp only[zC6]; omega
  .rw[<-R]; simp
  .simp only[zB3,zI0,zC6]at hl3 ⊢;omega
  .simp only[zC6]; omega
def yU(a b:List Ce):∀ f i,eL a b i f<i+f->a[eL a b i f]?≠b[eL a b i f]?
 |0,i,h=>by rw[eL]at h; omega
 |f+1,i,h=>by
  rw[eL]at h ⊢;by_cases c:a[i]?=b[i]?
  .rw[if_pos c]at h ⊢;exact yU a b f (i+1) lw
  .rw[if_neg c]at h ⊢;exact c
def JK(H:aa)(ua ub:go)(e:Nat)(h:H.base<=H.next)(c:aV H.next ua=bv)(f:aV H.next ub=bv)(j:one ua=bv)(n:one ub=bv) :
  bF Tryz.prog 85 [ua,ub,jp kw (e:Int)] H (fun out X=>out=.ok (.func (.func 117) ⟨[]⟩ ⟨[li (a9 ⟨H.next+2,0,bi⟩),li (a9 ⟨H.next+0,0,bi⟩),li (a9 ⟨H.next+1,0,bi⟩)]⟩)/\X=ext H [⟨56,ci,[ua]⟩,⟨56,ci,[ub]⟩,⟨3,ci,[jp kw (e:Int)]⟩]):=by
 obtain⟨x,hx⟩:=ac H.next;have o:H.base<=x:=hx▸h;rw[hx]at c f ⊢;refine aI mixed Tryz.func85 rfl Tryz.ntmps85 (zA7 rfl) ?_;simp only[hx,c,f,FG j,FG n,Tryz.results85,zW,seval];exact⟨trivial,trivial⟩
section
variable{y pe po pn e:Nat}{ua ub:go}{a b:List Ce}
structure VU (G:aa) (pe po pn e:Nat) (ua ub:go) (a b:List Ce):Prop where
 ok:G.base<=G.next
 be:bk G pe=a9 ⟨3,ci,[jp kw (e:Int)]⟩
 bo:bk G po=a9 ⟨56,ci,[ua]⟩
 bn:bk G pn=a9 ⟨56,ci,[ub]⟩
 le:pe<G.next
 lo:po<G.next
 ln:pn<G.next
 ra:dZ G ua a
 rb:dZ G ub b
def Ir(H:aa)(I:Nat->aa->Prop)(hI:I 0 H)(hea:e<=a.length)(heb:e<=b.length)(hl:b.length<100000)
  (rd:∀ i G,I i G->VU G pe po pn e ua ub a b)
  (step:∀ i G,I i G->(bM a b i e).1<(bM a b i e).2->si Tryz.prog y [jp kw ((bM a b i e).1:Int),jp kw ((bM a b i e).2:Int)] G (fun out G'=>out=.ok (ls bv)/\I (bM a b i e).2 G')) :
  bF Tryz.prog 117 [.func (.yield y) ⟨[]⟩ ⟨[]⟩,li (a9 ⟨pe,0,bi⟩),li (a9 ⟨po,0,bi⟩),li (a9 ⟨pn,0,bi⟩)] H (fun out X=>out=.ok (.tuple #[])/\∃ i,I i X/\¬(bM a b i e).1<(bM a b i e).2):=by
 refine aI mixed Tryz.func117 rfl Tryz.ntmps117 (zA7 rfl) ?_;simp only[zW,seval];refine da fun E T=>?_;have C:E 0=.func (.yield y) ⟨[]⟩ ⟨[]⟩:=by rw[T]; rfl
 have j:E 1=li (a9 ⟨pe,0,bi⟩):=by rw[T]; rfl
 have B:E 2=li (a9 ⟨po,0,bi⟩):=by rw[T]; rfl
 have z:E 3=li (a9 ⟨pn,0,bi⟩):=by rw[T]; rfl
 have A:E 5=jp kw ((0:Nat):Int):=by rw[T]; rfl
 clear T
 refine cp (fun (i:Nat) f G=>I i G/\f 0=.func (.yield y) ⟨[]⟩ ⟨[]⟩/\f 1=li (a9 ⟨pe,0,bi⟩)/\f 2=li (a9 ⟨po,0,bi⟩)/\f 3=li (a9 ⟨pn,0,bi⟩)/\f 5=jp kw (i:Int)/\i<=e+1) (fun i=>e+2-i) 0
  ⟨hI,C,j,B,z,A,zB7 _⟩ ?_
 clear C j B z A hI E H;rintro i E H ⟨hI,C,j,B,z,A,hie⟩;obtain⟨hok,be,bo,bn,J,lpo,lpn,h0,h1⟩:=rd i H hI;obtain⟨x,hx⟩:=ac H.next;rw[hx]at J lpo lpn;obtain⟨s,hs⟩:=ac (eL a b i (e-i));have hsg:=pR a b (e-i) i;have hsn:=yU a b (e-i) i;rw[hs]at hsg hsn;obtain⟨t,ht⟩:=ac (qw a b s s 0 (e-s));have htg:=mP a b (e-s) s s 0 (zA4 _);rw[ht]at htg;have hp:bM a b i e=(s,jI b s t):=by simp only[bM,hs,ht]
 have V:=step i H hI;rw[hp]at V;simp only at V;rw[show H=ext H [] from rfl];simp only[gV];refine aS (fun f H'=>H'=ext H []/\f 0=.func (.yield y) ⟨[]⟩ ⟨[]⟩/\f 1=li (a9 ⟨pe,0,bi⟩)/\f 2=li (a9 ⟨po,0,bi⟩)/\f 3=li (a9 ⟨pn,0,bi⟩)/\f 5=jp kw (s:Int)) ?_ ?_
 .refine cp (fun (k:Nat) f H'=>H'=ext H []/\f 0=.func (.yield y) ⟨[]⟩ ⟨[]⟩/\f 1=li (a9 ⟨pe,0,bi⟩)/\f 2=li (a9 ⟨po,0,bi⟩)/\f 3=li (a9 ⟨pn,0,bi⟩)/\f 5=jp kw (k:Int)/\k<1000000/\eL a b k (e-k)=s) (fun k=>e-k) i ⟨rfl,C,j,B,z,A,by omega,hs⟩ ?_;clear C j B z A hs;rintro k E H' ⟨hH,C,j,B,z,A,hk,M⟩;rw[hH];by_cases hke:k<e
  case neg =>
   have hc:f7 ((k:Int)<(e:Int))=false:=decide_eq_false lw;rw[show e-k=0 by omega,eL]at M;simp only[gV];refine aQ [] [(3,12)] m9 rfl m9 fun ops anc hA hG=>?_;simp only[aw]at hG;simp only[j,A,hx,be,J,hc,hG,bS,zW,seval];exact ag ⟨rfl,by simp only[C,aF,seval],by simp only[j,aF,seval],by simp only[B,aF,seval],by simp only[z,aF,seval],by simp only[A,aF,seval]; rw[M]⟩
  have hc:f7 ((k:Int)<(e:Int))=true:=decide_eq_true lw;rw[show e-k=(e-(k+1))+1 by omega,eL]at M
  rcases id h0 with⟨h,_⟩|⟨_,n1,o1,s1,x1,t1,p1,L1,ev0,b1,n1l,le1,tk1⟩
  .rw[h]at hea; simp at hea; omega
  rcases id h1 with⟨h,_⟩|⟨_,n2,o2,s2,x2,t2,p2,L2,ev1,b2,O,le2,tk2⟩
  .rw[h]at heb; simp at heb; omega
  obtain⟨r1,hr1⟩:∃ r,a[k]?=a9 r:=⟨_,zB0 lw⟩
  obtain⟨r2,R⟩:∃ r,b[k]?=a9 r:=⟨_,zB0 lw⟩
  have i1:=eU (n:=n1) (off:=o1) (s:=s1) (cap:=x1) (len:=a.length) (i:=(k:Int)) rfl lw;have i2:=eU (n:=n2) (off:=o2) (s:=s2) (cap:=x2) (len:=b.length) (i:=(k:Int)) rfl lw;have q1:=gm (e:=t1) (o:=p1) hr1 le1 tk1;have q2:=gm (e:=t2) (o:=p2) R le2 tk2;rw[hx]at n1l O;rw[hr1,R]at M;have bo':=bo;have S:=bn;rw[ev0]at bo';rw[ev1]at S;obtain⟨d,hd⟩:=ac (f7 (r1=r2));simp only[gV];refine aQ [] [(3,12)] m9 rfl m9 fun ops anc hA hG=>?_;simp only[aw]at hG;simp only[j,B,z,A,hx,be,J,bo',lpo,S,lpn,hc,hG,i1,i2,b1,b2,n1l,O,q1,q2,cm,Ce.val,bS,zW,seval];refine vI (ts:=[3,3,3,4,4,4]) (xs:=r1.cells) (ys:=r2.cells) (r:=d) NO Nv NP (by rw[wF,hd]; rfl) rfl rfl ol (by simp only[aF,seval]; rfl) rx (jc _) (jc _) ?_
  cases d with
  |true =>rw[of_decide_eq_true hd,if_pos rfl]at M;simp only[A,ba hk,bS,zW,seval];refine aG ⟨k+1,by omega,rfl,?_,?_,?_,?_,?_,by omega,M⟩<;>simp only[C,j,B,z,aF,seval]
  |false =>have cn:=of_decide_eq_false hd;rw[if_neg (fun e=>cn (Option.some.inj e))]at M;simp only[bS,zW,seval];exact ag ⟨rfl,by simp only[C,aF,seval],by simp only[j,aF,seval],by simp only[B,aF,seval],by simp only[z,aF,seval],by simp only[A,aF,seval]; rw[M]⟩
 clear C j B z A;rintro E H' ⟨hH,C,j,B,z,A⟩;rw[hH];by_cases hse:s<e
 case neg =>
  have hc:f7 ((e:Int)<=(s:Int))=true:=decide_eq_true lw;have hc':f7 ((s:Int) ≥ (e:Int))=true:=decide_eq_true lw;simp only[j,A,hx,be,J,hc,Tryz.results117,zW,seval];refine⟨trivial,i,hI,?_⟩;rw[hp,jI];rw[show e-s=0 by omega,qw]at ht;subst ht;rw[if_neg (fun h=>Nat.lt_irrefl _ h.1)];exact Nat.lt_irrefl _
 have hc:f7 ((e:Int)<=(s:Int))=false:=decide_eq_false lw;have hc':f7 ((s:Int) ≥ (e:Int))=false:=decide_eq_false lw;have hns:=hsn lw;rw[show e-s=(e-(s+1))+1 by omega,qw,if_pos lw,if_neg hns]at ht;have htg2:=mP a b (e-(s+1)) (s+1) (s+1) 0 (zA4 _);rw[ht]at htg2;simp only[j,A,hx,be,J,hc,ba (show s<1000000 by omega),zW,seval];refine da fun f T=>?_;have r0:f 0=.func (.yield y) ⟨[]⟩ ⟨[]⟩:=by rw[T]; simp only[C,aF,seval]
 have r1:f 1=li (a9 ⟨pe,0,bi⟩):=by rw[T]; simp only[j,aF,seval]
 have r2:f 2=li (a9 ⟨po,0,bi⟩):=by rw[T]; simp only[B,aF,seval]
 have r3:f 3=li (a9 ⟨pn,0,bi⟩):=by rw[T]; simp only[z,aF,seval]
 have r5:f 5=jp kw (s:Int):=by rw[T]; simp only[A,aF,seval]
 have r6:f 6=jp kw ((s+1:Nat):Int):=by rw[T]; rfl
 have r7:f 7=jp kw ((0:Nat):Int):=by rw[T]; rfl
 have r8:f 8=jp kw ((s+1:Nat):Int):=by rw[T]; rfl
 clear T C j B z A E;refine aS (fun f H'=>H'=ext H []/\f 0=.func (.yield y) ⟨[]⟩ ⟨[]⟩/\f 1=li (a9 ⟨pe,0,bi⟩)/\f 2=li (a9 ⟨po,0,bi⟩)/\f 3=li (a9 ⟨pn,0,bi⟩)/\f 5=jp kw (s:Int)/\f 6=jp kw (t:Int)) ?_ ?_
 .refine cp (fun (q:Nat × Nat × Nat) f H'=>H'=ext H []/\f 0=.func (.yield y) ⟨[]⟩ ⟨[]⟩/\f 1=li (a9 ⟨pe,0,bi⟩)/\f 2=li (a9 ⟨po,0,bi⟩)/\f 3=li (a9 ⟨pn,0,bi⟩)/\f 5=jp kw (s:Int)/\f 8=jp kw (q.1:Int)/\f 6=jp kw (q.2.1:Int)/\f 7=jp kw (q.2.2:Int)/\q.1<1000000/\q.2.2<=8/\qw a b q.1 q.2.1 q.2.2 (e-q.1)=t) (fun q=>e-q.1) (s+1,s+1,0) ⟨rfl,r0,r1,r2,r3,r5,r8,r6,r7,by simp only; omega,by simp,ht⟩ ?_;clear r0 r1 r2 r3 r5 r6 r7 r8;rintro⟨k,td,al⟩ E H' ⟨hH,C,j,B,z,A,g8,g6,g7,hk,hal,D⟩;simp only at g8 g6 g7 hk hal D;rw[hH];by_cases hke:k<e
  case neg =>
   have hc:f7 ((k:Int)<(e:Int))=false:=decide_eq_false lw;rw[show e-k=0 by omega,qw]at D;simp only[j,g8,hx,be,J,hc,zW,seval];exact ag ⟨rfl,by simp only[C,aF,seval],by simp only[j,aF,seval],by simp only[B,aF,seval],by simp only[z,aF,seval],by simp only[A,aF,seval],by simp only[g6,aF,seval]; rw[D]⟩
  have hc:f7 ((k:Int)<(e:Int))=true:=decide_eq_true lw;rw[show e-k=(e-(k+1))+1 by omega,qw]at D;by_cases ha8:al<8
  case neg =>
   have hc8:f7 ((al:Int)<8)=false:=decide_eq_false lw;rw[if_neg ha8]at D;simp only[j,g7,g8,hx,be,J,hc,hc8,zW,seval];exact ag ⟨rfl,by simp only[C,aF,seval],by simp only[j,aF,seval],by simp only[B,aF,seval],by simp only[z,aF,seval],by simp only[A,aF,seval],by simp only[g6,aF,seval]; rw[D]⟩
  have hc8:f7 ((al:Int)<8)=true:=decide_eq_true lw;rw[if_pos ha8]at D
  rcases id h0 with⟨h,_⟩|⟨_,n1,o1,s1,x1,t1,p1,L1,ev0,b1,n1l,le1,tk1⟩
  .rw[h]at hea; simp at hea; omega
  rcases id h1 with⟨h,_⟩|⟨_,n2,o2,s2,x2,t2,p2,L2,ev1,b2,O,le2,tk2⟩
  .rw[h]at heb; simp at heb; omega
  obtain⟨r1,hr1⟩:∃ r,a[k]?=a9 r:=⟨_,zB0 lw⟩
  obtain⟨r2,R⟩:∃ r,b[k]?=a9 r:=⟨_,zB0 lw⟩
  have i1:=eU (n:=n1) (off:=o1) (s:=s1) (cap:=x1) (len:=a.length) (i:=(k:Int)) rfl lw;have i2:=eU (n:=n2) (off:=o2) (s:=s2) (cap:=x2) (len:=b.length) (i:=(k:Int)) rfl lw;have q1:=gm (e:=t1) (o:=p1) hr1 le1 tk1;have q2:=gm (e:=t2) (o:=p2) R le2 tk2;rw[hx]at n1l O;rw[hr1,R]at D;have bo':=bo;have S:=bn;rw[ev0]at bo';rw[ev1]at S;obtain⟨d,hd⟩:=ac (f7 (r1=r2));simp only[j,g7,g8,hx,be,J,hc,hc8,ba (show al<1000000 by omega),zW,seval];refine aQ [] [] m9 rfl rfl fun ops anc hA hG=>?_;simp only[B,z,g8,hx,bo',lpo,S,lpn,i1,i2,b1,b2,n1l,O,q1,q2,cm,Ce.val,bS,zW,seval];refine vI (ts:=[3,3,3,4,4,4]) (xs:=r1.cells) (ys:=r2.cells) (r:=!d) NO Nv NP (by rw[wF,hd]; rfl) rfl rfl ol (by simp only[aF,seval]; rfl) rx (jc _) (jc _) ?_
  cases d with
  |true =>rw[of_decide_eq_true hd,if_pos rfl]at D;simp only[g8,zD1,ba hk,bS,zW,seval];refine aG ⟨(k+1,td,al+1),by simp only; omega,rfl,?_,?_,?_,?_,?_,?_,?_,?_,by simp only; omega,by simp only; omega,D⟩<;>simp only[C,j,B,z,A,g6,aF,seval]
  |false =>have cn:=of_decide_eq_false hd;rw[if_neg (fun e=>cn (Option.some.inj e))]at D;simp only[g8,zF4,ba hk,bS,zW,seval];refine aG ⟨(k+1,k+1,0),by simp only; omega,rfl,?_,?_,?_,?_,?_,?_,?_,?_,by simp only; omega,by simp,D⟩<;>(try simp only[C,j,B,z,A,aF,seval])<;>rfl
 clear r0 r1 r2 r3 r5 r6 r7 r8 f;rintro E H' ⟨hH,C,j,B,z,A,g6⟩;rw[hH];have hst:s<t:=by omega
 have hh2:jI b s t<=e+1/\s<jI b s t:=by rw[jI]; split<;>omega
 rw[KT];refine lg (fun f H'=>H'=ext H []/\f 0=.func (.yield y) ⟨[]⟩ ⟨[]⟩/\f 1=li (a9 ⟨pe,0,bi⟩)/\f 2=li (a9 ⟨po,0,bi⟩)/\f 3=li (a9 ⟨pn,0,bi⟩)/\f 5=jp kw (s:Int)/\f 6=jp kw (jI b s t:Int)) ?_ ?_
 .obtain⟨a1,c1,e1⟩:=h1.sl;have bns:=bn;rw[e1]at bns;by_cases htb:t<b.length
  case neg =>
   have hc2:f7 ((t:Int)<(b.length:Int))=false:=decide_eq_false lw;have hh:jI b s t=t:=by rw[jI,zD3 lw,if_neg (fun c=>by simp at c)]
   simp only[z,g6,hx,bns,lpn,hc2,zW,seval];exact ag ⟨rfl,by simp only[C,aF,seval],by simp only[j,aF,seval],by simp only[B,aF,seval],by simp only[z,aF,seval],by simp only[A,aF,seval],by simp only[g6,aF,seval]; rw[hh]⟩
  have hc2:f7 ((t:Int)<(b.length:Int))=true:=decide_eq_true lw
  rcases id h1 with⟨h,_⟩|⟨_,n2,o2,s2,x2,t2,p2,L2,ev1,b2,O,le2,tk2⟩
  .rw[h]at htb; simp at htb
  obtain⟨r2,R⟩:∃ r,b[t]?=a9 r:=⟨_,zB0 htb⟩
  have i2:=eU (n:=n2) (off:=o2) (s:=s2) (cap:=x2) (len:=b.length) (i:=(t:Int)) rfl htb;have q2:=run_load (e:=t2) (o:=p2) R le2 tk2;rw[hx]at O;have S:=bn;rw[ev1]at S;obtain⟨d,hd⟩:=ac (f7 (r2.rune=-1))
  have hh:jI b s t=cond d (t+1) t:=by
   rw[jI,R]
   cases d with
   |true=>rw[if_pos ⟨hst,by simp[of_decide_eq_true hd]⟩]; rfl
   |false=>rw[if_neg (fun c=>of_decide_eq_false hd (by simpa using c.2))]; rfl
  rw[hh];cases d<;>(simp only[z,g6,hx,S,lpn,hc2,i2,b2,O,q2,cm,hd,ba (show t<1000000 by omega),zW,seval]; exact ag ⟨rfl,by simp (maxDischargeDepth:=6) only[C,aF,seval],by simp (maxDischargeDepth:=6) only[j,aF,seval],by simp (maxDischargeDepth:=6) only[B,aF,seval],by simp (maxDischargeDepth:=6) only[z,aF,seval],by simp (maxDischargeDepth:=6) only[A,aF,seval],by simp (maxDischargeDepth:=6) only[g6,cond_true,cond_false,aF,seval]⟩)
 clear C j B z A g6 E;rintro E H' ⟨hH,C,j,B,z,A,g6⟩;rw[hH];simp only[C,A,g6,zW,seval];refine Sg (l:=y) rfl rfl rfl ?_;simp only[aF,seval];refine (V hh2.2).mono ?_;rintro _ G' ⟨rfl,hI'⟩;rw[show G'=ext G' [] from rfl];simp only[g6,zD1,zW,seval];refine aG ⟨jI b s t,by omega,hI',?_,?_,?_,?_,?_,hh2.1⟩<;>simp only[C,j,B,z,aF,seval]
end
section
variable{N q p:Nat}{F F':List Nat}{H X U:aa}{v:go}{l:List Op}{k:Lk}
def fq.sub(a:fq N F H p v l k)(h:∀ n∈F',n∈F):fq N F' H p v l k :=
 ⟨a.cell,a.ops,a.apart,a.lt,a.lo,fun e=>a.pF (h p e),fun n c=>⟨(a.ids n c).1,fun e=>(a.ids n c).2 (h n e)⟩,fun n c=>a.fl n (h n c)⟩
def iQ.sub(m:iQ N F H X)(h:∀ n∈F',n∈F):iQ N F' H X:=let ⟨W,c,m⟩:=m; ⟨W,fun n f=>⟨(c n f).1,fun j=>(c n f).2 (h n j)⟩,m⟩
def fq.TO{Q:List Nat}(a:fq N F H p v l k)(m:Mod [] H X)(h:∀ q∈Q,H.next<=q/\q<X.next):fq N (Q++F) X p v l k:=by
 have c:=a.of m;refine⟨c.cell,c.ops,c.apart,c.lt,c.lo,fun e=>?_,fun n f=>⟨(a.ids n f).1,fun e=>?_⟩,fun n f=>?_⟩
 .rcases zB1.1 e with e|e
  .have:=(h p e).1; have:=a.lt; omega
  .exact a.pF e
 .rcases zB1.1 e with e|e
  .have:=(h n e).1; have:=(a.ops.ne n f).2; omega
  .exact (a.ids n f).2 e
 .rcases zB1.1 f with e|e
  .exact (h n e).2
  .exact c.fl n e
def fq.loop(a:fq N F H p v l k)(m:Mod [q] H U)(f:q∈F):fq N F U p v l k :=
 ⟨(m.bk a.lt (fun e=>a.pF (by rw[zA5]at e; exact e▸f))).trans a.cell,a.ops.of m.next fun n c=>m.get n (a.ops.ne n c).2 (fun e=>(a.ids n c).2 (by rw[zA5]at e; exact e▸f)),a.apart,m.lt a.lt,a.lo,a.pF,a.ids,fun n c=>m.lt (a.fl n c)⟩
def iQ.one(m:Mod [q] H U)(f:N<=q)(h:q∉F):iQ N F H U:=⟨[q],fun n c=>by rw[zA5]at c; subst c; exact⟨f,h⟩,m⟩
def iQ.bk(m:iQ N F H X){n:Nat}(c:n<H.next)(h:n<N\/n∈F):Go.Ax.bk X n=Go.Ax.bk H n:=bg (m.get c h)
end
def Aj:∀(f:Nat)(l:List Ce)(p:Lk),(fI f l p).1.length<=2*l.length
 |0,_,_=>by simp[fI]
 |_+1,[],_=>by simp[fI]
 |f+1,c::l,p=>by have h:=Aj f ((c::l).drop (fG c.look (c::l))) c.look;have j:=vC c l;have n:=ud c.look (c::l);rw[zC6]at h;rw[fI,zB3,zA9];split<;>simp only[zB4,zI0]<;>omega
def BE(row i:Nat)(l:List Ce)(p:Lk):(kM row i l p).1.length<=2*l.length+1:=by have:=Aj l.length l p;simp only[kM,zA9];omega
def VQ(c f:Code)(d:Nat):Loop:={state:=.ready,pending:=bi,fn:=0,tmps:=#[],params:=⟨[30,31]⟩,assign:=c,body:=f,defers:=d}
def row_step{z A:Code}(hab:a9 (z,A)=Tryz.f49.body.bind kn){N:Nat}{j:List Nat}{f d p x0 x1 x2 row s t:Nat}{v ub:go}{l:List Op}{k:Lk}{b:List Ce}{E:Env}{G:aa}
  (g4:E 4=li (a9 ⟨x0,0,bi⟩)) (g5:E 5=li (a9 ⟨x1,0,bi⟩)) (g7:E 7=li (a9 ⟨x2,0,bi⟩))
  (hl:gW G f (VQ z A d) (lj 56 E)) (a:fq N (f::j) G p v l k) (M:f∉j) (o:N<=f)
  (b0:bk G x0=a9 ⟨88,ci,[li (a9 ⟨p,0,bi⟩)]⟩) (b1:bk G x1=a9 ⟨3,ci,[jp kw (row:Int)]⟩) (b2:bk G x2=a9 ⟨56,ci,[ub]⟩) (O:x0∈j) (R:x1∈j) (S:x2∈j)
  (hr:iN G ub b) (hi:∀ n∈ae ub,n<N\/n∈j) (hok:G.base<=G.next) (hN:N<=G.next) (hst:s<t) (T:t<=b.length) (hll:l.length+2*(t-s)<=80000) (hbl:b.length<=10000) (hc:∀ c∈b,c.rune≠-1->oA c.rune=bv) :
  si Tryz.prog f [jp kw (s:Int),jp kw (t:Int)] G (fun out G'=>out=.ok (ls bv)/\gW G' f (VQ z A d) (lj 56 E)/\∃ v',fq N (f::j) G' p v' (l++(kM row s ((b.take t).drop s) k).1) (kM row s ((b.take t).drop s) k).2/\iQ N j G G'):=by
 obtain⟨x,hx⟩:=ac G.next;have V:=a.fl f nl;refine Q8 (H:=ext G []) (N:=56) (E:=E) mixed hl rfl (Sb ol ol) ?_;have h2:Tryz.f49.body.bind kn=a9 (_,_):=rfl;cases hab.trans h2;simp only[zW,seval];rw[Hy];refine⟨_,_,(hl.of (bL V)).get,rfl,?_⟩;rw[qB V];generalize B:cu G f _ _=G1;have mG1:Mod [f] G G1:=B▸Mod.cH nl;have n1:G1.next=x:=by rw[<-B,D7,hx]
 have hl1:gW G1 f _ (lj 56 E):=B▸gW.set f _ _;have J:iQ N j G G1:=iQ.one mG1 o M;have a1:=a.loop mG1 nl;have C:=a.fl x0 (by simp[O]);have D:=a.fl x1 (by simp[R]);have I:=a.fl x2 (by simp[S]);have b0':=(J.bk C (.inr O)).trans b0;have b1':=(J.bk D (.inr R)).trans b1;have b2':=(J.bk I (.inr S)).trans b2;have r1:=hr.kp J hi;have ok1:=J.ok hok;rw[hx]at C D I;have cn:b≠[]:=fun e=>by rw[e,zB4]at T; omega
 have hfv:∀ n∈ae ub,(ext G1 []).get n≠none:=fun n hn=>by
  rcases r1 with⟨h,_⟩|⟨_,h⟩
  .exact absurd h cn
  .exact (h.ne n hn).1
 obtain⟨u1,sl1,rs1,id1,sc1⟩:=r1.slice cn (x:=a9 (jp kw (s:Int))) (y:=a9 (jp kw (t:Int))) (lo:=s) (hi:=t) rc rc lw T;simp only[gV];refine pf [] [] m9 m9 rfl rfl (fun ops anc hA hG=>?_) nl ⟨rfl,rfl⟩;simp only[eF,gh,g4,g5,g7,n1,b0',b1',b2',C,D,I,gi,bS,zW,seval];refine kt (v:=u1) (ae ub) rfl rfl rfl rfl (zA7 rfl) hfv (fun G hG=>by simp only[dY,ec,aF,seval]; exact sl1 G hG) qr ?_;simp only[bS,gV,seval];simp only[hJ,jV,jg,true_and,zW,seval];have hcs:((b.take t).drop s).length=t-s:=by simp; omega
 refine (N2 N (f::j) (ext G1 []) p v u1 l k ((b.take t).drop s) row s a1 rs1 (fun n hn=>(hi n (id1 n hn)).imp id fun h=>zB9 _ h) ok1 (by rw[ai,n1,<-hx]; exact hN) lw lw (fun c hcc=>hc c (zE2 (zE4 hcc)))).mono ?_;rintro _ H3 ⟨rfl,v',a3,k3⟩;replace k3:iQ N (f::j) G1 H3:=k3;rw[show H3=ext H3 [] from rfl];simp only[gV,seval];rw[Hu];have hlp1:f<G1.next:=by omega
 have hl3:=hl1.of (k3.get hlp1 (.inr nl));have r:f<H3.next:=by have:=k3.next; omega
 refine⟨_,_,(hl3.of (G:=ext H3 []) rfl).get,rfl,gW.set _ _ _,v',?_,?_⟩
 .rw[qB r];exact a3.loop (q:=f) (Mod.cH (zA5.2 rfl)) (zF2 ..)
 .rw[qB r];exact (J.trans (k3.sub fun n hn=>zB9 _ hn)).trans (iQ.one (q:=f) (Mod.cH (zA5.2 rfl)) o M)
end Go.Proofs.YtpohjcacnkhnkaaGreatDoor
