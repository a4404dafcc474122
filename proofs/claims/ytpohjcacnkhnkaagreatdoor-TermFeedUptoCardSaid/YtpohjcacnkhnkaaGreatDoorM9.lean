/- Parts of the proof, one behind the other. -/
import Derived.Test.YtpohjcacnkhnkaaGreatDoorM8
import Derived.Test.YtpohjcacnkhnkaaGreatDoorM7
import Derived.Test.YtpohjcacnkhnkaaGreatDoorM3
import Derived.Test.YtpohjcacnkhnkaaGreatDoorM6
import Derived.Test.YtpohjcacnkhnkaaGreatDoorM4
import Derived.SizedLaws
import Derived.Test.YtpohjcacnkhnkaaGreatDoorRows
import Derived.ProofKit
import Derived.Carry
import Derived.OpenShut
import Derived.LaidMore
import Derived.Lay
set_option linter.all false
set_option maxRecDepth 10000
set_option maxHeartbeats 16000000
open Option renaming some->ap,none->bi
open Bool renaming true->bv,false->gc
open Decidable renaming decide->ge
open Go renaming Value->gt,TypeId->ii,Program->io,World->ip,Operand->i4
open Option.some renaming injEq->i5
open Prod.mk renaming injEq->i6
open Go.Value renaming int->i7,pointer->i9,slice->jp,bool->kw
open Go.IntKind renaming i64->i8
open And renaming intro -> zA0
open Option renaming bind_eq_bind -> zA1, bind_eq_some_iff -> zA2, bind_some -> zA4, map_some -> zB1, map_eq_some_iff -> zB5
open List renaming length_cons -> zA3, mem_singleton -> zA6, mem_cons -> zA9, length_nil -> zB0, length_append -> zB2, getElem?_eq_getElem -> zB3, mem_append -> zB4, mem_map -> zB6, nodup_cons -> zB8, map_cons -> zB9, mem_of_getElem? -> zC0, length_drop -> zC1, take_of_length_le -> zC3, mem_cons_of_mem -> zC4, getElem?_eq_none -> zC5, append_assoc -> zC9, nil_append -> zD0, drop_zero -> zD2, all_eq_true -> zD3, append_nil -> zD4, nodup_append -> zD5, mem_cons_self -> zD7, getElem?_eq_some_iff -> zE0, getElem?_map -> zE1, getD_eq_getElem?_getD -> zE3, map_nil -> zE6, eq_nil_of_length_eq_zero -> zE7, drop_eq_nil_of_le -> zE8, length_map -> zE9, length_take -> zF1, not_mem_nil -> zF2, getElem?_cons_zero -> zF3, getElem?_set -> zF4, mem_range -> zF5, cons_append -> zG1, length_replicate -> zG2, ext_getElem? -> zG4, getElem?_append_right -> zG5, getElem?_cons_succ -> zG6
open Nat renaming le_refl -> zA5, le_of_ble_eq_true -> zA8, zero_le -> zB7, lt_or_ge -> zC2, zero_add -> zC6, le_trans -> zC7, lt_of_lt_of_le -> zD1, add_zero -> zD6, lt_succ_self -> zD9, ble_eq -> zE2, mul_one -> zE5, min -> zF0, add_sub_cancel_left -> zF9, sub_self -> zG0
open Bool renaming and_eq_true -> zA7, false_eq_true -> zC8, and_self -> zD8, not_true -> zE4, or_false -> zF6, false_and -> zF7, or_true -> zF8, or_eq_true -> zG3
namespace Go.Proofs.YtpohjcacnkhnkaaGreatDoor.Tq
open Go.Ax
def Kw(t x:Tm)(p:List UInt8):Prop :=
 ∃ (P:List UInt8) (D:Bool) (E:UInt8),(QI p/\t=x.wt 0 p P D E)\/(p=[27]/\t=x.wt 1 [] P D E)\/(∃ c:UInt8,(32<=c.toNat/\c.toNat<48)/\p=[27,c]/\t=x.wt 2 [] P D E) \/
  (∃ w,p=27::91::w/\P=w.take 65/\(∀ r,du 2 gc (w++r)=du (2+w.length) D r)/\t=x.wt 3 [] P D E) \/
  (∃ w,p=27::93::w/\(∀ r,dP 2 (w++r)=if E=27 then dP (1+w.length) (27::r) else dP (2+w.length) r)/\t=x.wt 4 [] P D E)
def gU(x:Tm)(s:List UInt8):qL cI x (27::s)=x.iE (27::s):=if_pos rfl
def gT(x:Tm)(c:UInt8)(s:List UInt8):x.iE (27::c::s) =
  if c=91 then ((du 2 gc s).1,cond (du 2 gc s).2 (if (((27::91::s).take ((du 2 gc s).1-1)).drop 2).length<=64 then x.seq (((27::91::s).take ((du 2 gc s).1-1)).drop 2) ((27::91::s).getD ((du 2 gc s).1-1) 0) else x) x)
  else if c=93 then (dP 2 s,x) else if c=27 then (1,x) else if 32<=c.toNat/\c.toNat<48 then (if s=[] then 0 else 3,x) else (2,x.Fk c):=by
 unfold Tm.iE;rw[if_neg lw,show (27::c::s).getD 1 0=c from rfl,show (27::c::s).drop 2=s from rfl];by_cases f:c=91
 .subst f;rw[if_pos rfl,if_pos rfl]
 .rw[if_neg f,if_neg f];congr 1;congr 1;congr 1;congr 1;cases s<;>simp
def Jm{t x:Tm}{p:List UInt8}(h:Kw t x p):FF cI x p=x/\∃ m r P D E,t=x.wt m r P D E:=by
 obtain⟨P,D,E,⟨h,rfl⟩|⟨rfl,rfl⟩|⟨c,f,rfl,rfl⟩|⟨w,rfl,A,j,rfl⟩|⟨w,rfl,j,rfl⟩⟩:=h
 .exact⟨M3 h x,_,_,_,_,_,rfl⟩
 .exact⟨rB lw rfl,_,_,_,_,_,rfl⟩
 .refine⟨rB lw ?_,_,_,_,_,_,rfl⟩;rw[gU,gT];have n:c≠91:=by rintro rfl; exact absurd f.2 mt
  have o:c≠93:=by rintro rfl; exact absurd f.2 mt
  have s:c≠27:=by rintro rfl; exact absurd f.1 mt
  rw[if_neg n,if_neg o,if_neg s,if_pos f,if_pos rfl]
 .refine⟨rB lw ?_,_,_,_,_,_,rfl⟩;have:=j [];rw[zD4]at this;rw[gU,gT,if_pos rfl,this,du];rfl
 .refine⟨rB lw ?_,_,_,_,_,_,rfl⟩;have h:=j [];rw[zD4]at h
  have z:dP 2 w=0:=by
   rw[h];split
   .rfl
   .rfl
  rw[gU,gT,if_neg mt,if_pos rfl,z]
def v7(u:n5)(x:Tm)(c:UInt8)(P:List UInt8)(D:Bool)(E:UInt8) :
  (x.wt 1 [] P D E).step u c={((x.wt 1 [] P D E).second c).1 with mode:=((x.wt 1 [] P D E).second c).2}/\(x.wt 2 [] P D E).step u c=x.wt 0 [] P D E /\
  (x.wt 3 [] P D E).step u c={((x.wt 3 [] P D E).parameter c).1 with mode:=((x.wt 3 [] P D E).parameter c).2}/\(x.wt 4 [] P D E).step u c={((x.wt 4 [] P D E).ignore c).1 with mode:=((x.wt 4 [] P D E).ignore c).2} :=
 ⟨rfl,rfl,rfl,rfl⟩
def Gy{x:Tm}{c:UInt8}{P:List UInt8}{D:Bool}{E:UInt8}(h:c≠91)(j:c≠93)(n:c≠27)(o:¬(32<=c.toNat/\c.toNat<48)):∃ r s z m,(x.wt 1 [] P D E).second c=((x.Fk c).wt m [] r s z,0):=by
 unfold Tm.second Tm.Fk;rw[if_neg h,if_neg j,if_neg n,if_neg (show ¬(32<=c/\c<48) from o)];by_cases a:c=55
 .rw[if_pos a,if_pos a]; exact⟨P,D,E,1,rfl⟩
 rw[if_neg a,if_neg a];by_cases b:c=56
 .rw[if_pos b,if_pos b]; exact⟨P,D,E,1,rfl⟩
 rw[if_neg b,if_neg b];by_cases d:c=99
 .rw[if_pos d,if_pos d]; exact⟨[],gc,0,0,rfl⟩
 rw[if_neg d,if_neg d];by_cases f:c=77/\x.row=x.top
 .rw[if_pos f,if_pos (show c=77/\(x.wt 1 [] P D E).row=(x.wt 1 [] P D E).top from f)]; exact⟨P,D,E,1,rfl⟩
 rw[if_neg f,if_neg (show ¬(c=77/\(x.wt 1 [] P D E).row=(x.wt 1 [] P D E).top) from f)];by_cases g:c=77
 .rw[if_pos g,if_pos g]; exact⟨P,D,E,1,rfl⟩
 rw[if_neg g,if_neg g]; exact⟨P,D,E,1,rfl⟩
def yY(w s:List UInt8)(c:UInt8):(((27::91::(w++c::s)).take (2+w.length+1-1)).drop 2)=w/\(27::91::(w++c::s)).getD (2+w.length+1-1) 0=c/\(27::91::(w++c::s)).drop (2+w.length+1)=s/\(27::91::(w++c::s)).drop (2+w.length)=c::s:=by
 have e:2+w.length+1-1=w.length+2:=by omega
 have f:2+w.length+1=w.length+1+2:=by omega
 have h:2+w.length=w.length+2:=by omega
 rw[e,f,h];refine⟨?_,?_,?_,?_⟩
 .show ((w++c::s).take w.length)=w;exact List.take_left
 .show (w++c::s).getD w.length 0=c;simp
 .show (w++c::s).drop (w.length+1)=s;rw[show w++c::s=(w++[c])++s by simp,show w.length+1=(w++[c]).length by simp,List.drop_left]
 .exact List.drop_left
def Kk{t x:Tm}{p:List UInt8}(h:Kw t x p)(c:UInt8):∃ J p',Kw (t.step cI c) J p'/\∀ s,FF cI x (p++c::s)=FF cI J (p'++s):=by
 have hc:=c.toNat_lt;obtain⟨P,D,E,⟨h,rfl⟩|⟨rfl,rfl⟩|⟨O,z,rfl,rfl⟩|⟨w,rfl,hP,B,rfl⟩|⟨w,rfl,B,rfl⟩⟩:=h
 .obtain⟨J,q,q',m,k1,k2,k3⟩:=Gf h c x 0 P D E;refine⟨J,q',⟨P,D,E,?_⟩,k3⟩;have e:(x.wt 0 p P D E).step cI c=J.wt m q P D E:=by rw[Ju (show (x.wt 0 p P D E).mode=0 from rfl),k1];rfl
  rw[e]
  rcases k2 with⟨rfl,rfl,hi⟩|⟨rfl,rfl,rfl⟩
  .exact .inl ⟨hi,rfl⟩
  .exact .inr (.inl ⟨rfl,rfl⟩)
 .rw[(v7 cI x c P D E).1];by_cases j:c=91
  .subst j;exact⟨x,[27,91],⟨[],gc,E,.inr (.inr (.inr (.inl ⟨[],rfl,rfl,fun r=>rfl,rfl⟩)))⟩,fun s=>rfl⟩
  by_cases n:c=93
  .subst n;exact⟨x,[27,93],⟨P,D,0,.inr (.inr (.inr (.inr ⟨[],rfl,fun r=>rfl,rfl⟩)))⟩,fun s=>rfl⟩
  by_cases f:c=27
  .subst f;refine⟨x,[27],⟨P,D,E,.inr (.inl ⟨rfl,rfl⟩)⟩,fun s=>?_⟩;exact lO lw (k:=1) (by rw[show [27]++27::s=27::27::s from rfl,gU,gT]; rfl) mt
  by_cases o:32<=c.toNat/\c.toNat<48
  .refine⟨x,[27,c],⟨P,D,E,.inr (.inr (.inl ⟨c,o,rfl,?_⟩))⟩,fun s=>rfl⟩;have e:(x.wt 1 [] P D E).second c=(x.wt 1 [] P D E,2):=by unfold Tm.second;rw[if_neg j,if_neg n,if_neg f,if_pos (show 32<=c/\c<48 from o)]
   rw[e];rfl
  .obtain⟨P',C,E',m,e⟩:=Gy (x:=x) (P:=P) (D:=D) (E:=E) j n f o;refine⟨x.Fk c,[],⟨P',C,E',.inl ⟨.inl rfl,?_⟩⟩,fun s=>?_⟩
   .rw[e]; rfl
   .exact lO lw (k:=2) (by rw[show [27]++c::s=27::c::s from rfl,gU,gT,if_neg j,if_neg n,if_neg f,if_neg o]) mt
 .rw[(v7 cI x c P D E).2.1];refine⟨x,[],⟨P,D,E,.inl ⟨.inl rfl,rfl⟩⟩,fun s=>?_⟩;have j:O≠91:=by rintro rfl; exact absurd z.2 mt
  have n:O≠93:=by rintro rfl; exact absurd z.2 mt
  have f:O≠27:=by rintro rfl; exact absurd z.1 mt
  exact lO lw (k:=3) (by rw[show [27,O]++c::s=27::O::c::s from rfl,gU,gT,if_neg j,if_neg n,if_neg f,if_pos z,if_neg lw]) mt
 .rw[(v7 cI x c P D E).2.2.1];have hpl:(x.wt 3 [] P D E).params=P:=rfl;have hpm:(x.wt 3 [] P D E).middle=D:=rfl;by_cases j:c=27
  .subst j;refine⟨x,[27],⟨P,D,E,.inr (.inl ⟨rfl,rfl⟩)⟩,fun s=>?_⟩;have A:du 2 gc (w++27::s)=(2+w.length,gc):=by rw[B,du]; rfl
   have:=lO (x:=x) (y:=x) (l:=27::91::w++27::s) (k:=2+w.length) lw (by rw[show 27::91::w++27::s=27::91::(w++27::s) from rfl,gU,gT,if_pos rfl,A]; rfl) li;rw[this];exact congrArg _ (yY w s 27).2.2.2
  have R:¬c.toNat=27:=fun h=>j (by rw[<-UInt8.toNat_inj]; exact h);by_cases n:64<=c.toNat/\c.toNat<=126
  .have e:(x.wt 3 [] P D E).parameter c=(if P.length<=64 then (x.wt 3 [] P D E).dJ c else x.wt 3 [] P D E,0):=by
    unfold Tm.parameter;rw[if_neg j,if_pos (show 64<=c/\c<=126 from n)];rfl
   have A:∀ s,du 2 gc (w++c::s)=(2+w.length+1,bv):=fun s=>by rw[B,du,if_pos n]
   refine⟨if w.length<=64 then x.seq w c else x,[],⟨P,D,E,.inl ⟨.inl rfl,?_⟩⟩,fun s=>?_⟩
   .rw[e,hP,zF1];by_cases f:w.length<=64
    .rw[if_pos f,if_pos li,zC3 li,FU]; rfl
    .rw[if_neg f,if_neg li]; rfl
   .obtain⟨q1,q2,q3,_⟩:=yY w s c;have:=lO (x:=x) (y:=if w.length<=64 then x.seq w c else x) (l:=27::91::w++c::s) (k:=2+w.length+1) lw (by rw[show 27::91::w++c::s=27::91::(w++c::s) from rfl,gU,gT,if_pos rfl,A]; simp only[cond_true]; rw[q1,q2]) li;rw[this];exact congrArg _ q3
  by_cases f:c.toNat<32\/126<c.toNat\/(48<=c.toNat/\D=bv)
  .have e:(x.wt 3 [] P D E).parameter c=(x.wt 3 [] P D E,0):=by
    unfold Tm.parameter;rw[if_neg j,if_neg (show ¬(64<=c/\c<=126) from n),if_pos (show c<32\/c>126\/(c ≥ 48/\(x.wt 3 [] P D E).middle=bv) from f)]
   have A:∀ s,du 2 gc (w++c::s)=(2+w.length+1,gc):=fun s=>by rw[B,du,if_neg n,if_neg R,if_neg li,if_neg (by rintro⟨a,b,c⟩; rw[c]at f; simp at f; omega)]
   refine⟨x,[],⟨P,D,E,.inl ⟨.inl rfl,?_⟩⟩,fun s=>?_⟩
   .rw[e]; rfl
   .have:=lO (x:=x) (y:=x) (l:=27::91::w++c::s) (k:=2+w.length+1) lw (by rw[show 27::91::w++c::s=27::91::(w++c::s) from rfl,gU,gT,if_pos rfl,A]; rfl) li;rw[this];exact congrArg _ (yY w s c).2.2.1
  .obtain⟨C,I⟩:∃ C,(D||ge (c<48))=C:=⟨_,rfl⟩
   have e:(x.wt 3 [] P D E).parameter c=(x.wt 3 [] (if P.length<=64 then P++[c] else P) C E,3):=by
    unfold Tm.parameter;rw[if_neg j,if_neg (show ¬(64<=c/\c<=126) from n),if_neg (show ¬(c<32\/c>126\/(c ≥ 48/\(x.wt 3 [] P D E).middle=bv)) from f)];simp only;rw[<-I];by_cases o:P.length<=64
    .rw[if_pos o,if_pos (show (x.wt 3 [] P D E).params.length<=64 from o)]; rfl
    .rw[if_neg o,if_neg (show ¬(x.wt 3 [] P D E).params.length<=64 from o)]; rfl
   have A:∀ r,du (2+w.length) D (c::r)=du (2+(w++[c]).length) C r:=fun r=>by
    rw[du,if_neg n,if_neg R,zB2];by_cases h5:c.toNat<48
    .rw[if_pos li,<-I,decide_eq_true (show c<48 from h5),zF8]; rfl
    .have hD:D=false:=by cases D with|false=>rfl|true=>exact absurd (.inr (.inr ⟨by omega,rfl⟩)) f
     rw[if_neg li,if_pos ⟨by omega,by omega,hD⟩,<-I,decide_eq_false (show ¬c<48 from h5),zF6]; rfl
   refine⟨x,27::91::(w++[c]),⟨(if P.length<=64 then P++[c] else P),C,E,.inr (.inr (.inr (.inl ⟨w++[c],rfl,?_,fun r=>?_,?_⟩)))⟩,fun s=>by simp⟩
   .rw[hP,zF1];by_cases o:w.length<=64
    .rw[if_pos li,zC3 li,zC3 py]
    .rw[if_neg li,List.take_append_of_le_length li]
   .rw[zC9,List.singleton_append,B,A]
   .rw[e]; rfl
 .rw[(v7 cI x c P D E).2.2.2]
  have T:∀ s k,dP 2 (w++c::s)=k->k≠0->FF cI x (27::93::w++c::s)=FF cI x ((27::93::w++c::s).drop k):=fun s k hk h0 =>
   lO lw (by rw[show 27::93::w++c::s=27::93::(w++c::s) from rfl,gU,gT,if_neg mt,if_pos rfl,hk]) h0
  have V:∀ s,(27::93::w++c::s).drop (2+w.length+1)=s:=fun s=>by rw[show 27::93::w++c::s=(27::93::w++[c])++s by simp,show 2+w.length+1=(27::93::w++[c]).length by simp; omega,List.drop_left]
  have h7:c=7 ↔ c.toNat=7:=by rw[<-UInt8.toNat_inj]; rfl
  have h27:c=27 ↔ c.toNat=27:=by rw[<-UInt8.toNat_inj]; rfl
  by_cases j:c=7\/(c=92/\E=27)
  .have e:(x.wt 4 [] P D E).ignore c=(x.wt 4 [] P D E,0):=by
    unfold Tm.ignore;rw[if_pos (show c=7\/(c=92/\(x.wt 4 [] P D E).last=27) from j)]
   refine⟨x,[],⟨P,D,E,.inl ⟨.inl rfl,by rw[e]; rfl⟩⟩,fun s=>?_⟩
   have A:dP 2 (w++c::s)=2+w.length+1:=by
    rw[B]
    rcases j with rfl|⟨rfl,n⟩
    .split
     .rw[dP,if_neg mt,if_neg (by rintro⟨_,h⟩; cases h),dP,if_pos mt]; omega
     .rw[dP,if_pos mt]
    .rw[if_pos n,dP,if_neg mt,if_pos ⟨by decide,rfl⟩]; omega
   rw[T s _ A li,V];rfl
  .have e:(x.wt 4 [] P D E).ignore c=(x.wt 4 [] P D c,4):=by
    unfold Tm.ignore;rw[if_neg (show ¬(c=7\/(c=92/\(x.wt 4 [] P D E).last=27)) from j)];rfl
   simp only[not_or,not_and]at j;refine⟨x,27::93::(w++[c]),⟨P,D,c,.inr (.inr (.inr (.inr ⟨w++[c],rfl,fun r=>?_,by rw[e]; rfl⟩)))⟩,fun s=>by simp⟩;rw[zC9,List.singleton_append,B,zB2];have n7:¬c.toNat=7:=fun h=>j.1 (h7.2 h)
   have S:dP (2+w.length) (c::r)=if c=27 then dP (1+(w.length+1)) (27::r) else dP (2+(w.length+1)) r:=by
    by_cases f:c=27
    .rw[if_pos f,f,show 1+(w.length+1)=2+w.length by omega]
    .rw[if_neg f,dP,if_neg n7,if_neg (by rintro⟨h,_⟩; exact f (h27.2 h))]; rfl
   by_cases n:E=27
   .rw[if_pos n,dP,if_neg mt,if_neg (by rintro⟨_,h⟩; exact j.2 (Option.some.inj h) n),show 1+w.length+1=2+w.length by omega];exact S
   .rw[if_neg n];exact S
def Ac:∀(l:List UInt8)(t x:Tm)(p:List UInt8),Kw t x p->∃ f j,Kw (t.feed cI l) f j/\FF cI x (p++l)=FF cI f j
 |[],t,x,p,h=>⟨x,p,h,by rw[zD4]⟩
 |c::l,t,x,p,h=>by obtain⟨n,o,r,s⟩:=Kk h c;obtain⟨z,A,B,C⟩:=Ac l _ n o r;exact⟨z,A,B,(s l).trans C⟩
def Oc{x:Tm}(i:Idle x)(l:List UInt8):∃ m r P D E,x.feed cI l=(FF cI x l).wt m r P D E:=by
 have j:Kw x x []:=⟨x.params,x.middle,x.last,.inl ⟨.inl rfl,by
  obtain⟨c,f⟩:=i;cases x;simp only at c f;subst c f
  rfl⟩⟩
 obtain⟨s,z,h,e⟩:=Ac l x x [] j;obtain⟨n,o⟩:=Jm h;rw[zD0]at e;rw[e,n];exact o
def DB{X:aa}{v:gt}{l:List UInt8}(h:cK X 5 1 v (aq l) l.length):bD X v l/\∀ n∈ae v,n<X.next:=by
 obtain⟨_,_,⟨c,e⟩|⟨c,n,e,f,j⟩⟩:=h
 .have o:l=[]:=zE7 c;subst o;subst e;exact⟨.inl ⟨rfl,rfl⟩,by simp[ae]⟩
 .subst e;exact⟨.inr (.inl ⟨fun e=>by rw[e]at c; simp at c,n,[],rfl,f⟩),fun m r=>by simp only[ae,zA6]at r; omega⟩
def Ol(H:aa)(v w:gt)(l m:List UInt8)(h1:bD H v l)(O:∀ n∈ae v,n<H.next)(h2:bD H w m)(R:∀ n∈ae w,n<H.next)(B:l.length<400000000)(s:m.length<400000000):Pure 9 [v,w] H (kw (ge (l=m))):=by
 obtain⟨b,S⟩:=ac H.next;obtain⟨av,h⟩:=h1.sl;obtain⟨aw,j⟩:=h2.sl;obtain⟨L,hL⟩:=ac l.length;obtain⟨M,hM⟩:=ac m.length;rw[hL]at h B;rw[hM]at j s;refine ba mixed Tryz.func9 rfl Tryz.ntmps9 (zA8 rfl) fun wf hsc=>?_;by_cases T:L=M
 .have d:ge (¬(L:Int)=(M:Int))=false:=decide_eq_false li;simp only[h,j,d,zW,seval];refine c7 fun E I=>?_;have r:E 0=v:=by rw[I]; simp only[h,aE,seval]
  have A:E 1=w:=by rw[I]; simp only[j,aE,seval]
  have z:E 5=i7 i8 ((0:Nat):Int):=by rw[I]; rfl
  clear I
  refine b8 (fun (i:Nat) V X=>X=H/\i<=L/\l.take i=m.take i/\V 0=v/\V 1=w/\V 5=i7 i8 (i:Int)) (fun i=>L-i) 0
   ⟨rfl,zB7 _,rfl,r,A,z⟩ ?_
  clear r A z E;rintro i E X ⟨hX,hi,f,r,A,z⟩;rw[hX,show H=ext H [] from rfl];clear hX X;by_cases he:i=L
  .have hd:ge ((i:Int)<(L:Int))=false:=decide_eq_false li;have hlm:l=m:=by rw[he,zC3 li,zC3 li]at f;exact f
   simp only[r,z,h,j,hd,Tryz.results9,zW,seval];rw[decide_eq_true hlm];exact Fin.pure rfl
  have hd:ge ((i:Int)<(L:Int))=true:=decide_eq_true li
  obtain⟨c,J⟩:∃ c,l[i]?=ap c:=⟨_,zB3 li⟩
  obtain⟨k,hk⟩:∃ c,m[i]?=ap c:=⟨_,zB3 li⟩
  obtain⟨n1,o1,i1,m1,C⟩:=h1.get J;obtain⟨n2,o2,i2,m2,D⟩:=h2.get hk;have t1:=O n1 m1;have t2:=R n2 m2;rw[S]at t1 t2;rw[h]at i1;rw[j]at i2;have hwi:IntKind.i64.wrap ((i:Int)+1)=((i+1:Nat):Int):=by rw[IntKind.wrap_i64]; omega
  simp only[r,z,h,j,hd,zW,seval];refine aK [] [] ls rfl rfl fun ops anc hA hG=>?_;by_cases o:c=k
  .have d2:ge (¬(c.toNat:Int)=(k.toNat:Int))=false:=decide_eq_false (by rw[o]; simp);simp only[r,A,z,h,j,S,i1,t1,C,i2,t2,D,d2,hwi,bh,zW,seval];refine aC ⟨i+1,by omega,rfl,by omega,?_,?_,?_,?_⟩<;>try simp only[r,A,h,j,aE,seval]
   rw[List.take_add_one,List.take_add_one,f,J,hk,o]
  .have d2:ge (¬(c.toNat:Int)=(k.toNat:Int))=true:=decide_eq_true (fun e=>o (UInt8.toNat_inj.1 li));have dK:¬l=m:=fun e=>by rw[e,hk]at J; exact o (Option.some.inj J).symm
   simp only[r,A,z,h,j,S,i1,t1,C,i2,t2,D,d2,Tryz.results9,bh,zW,seval];rw[decide_eq_false dK];exact Fin.pure rfl
 .have d:ge (¬(L:Int)=(M:Int))=true:=decide_eq_true li;have dK:¬l=m:=fun e=>T (by rw[<-hL,<-hM,e]);simp only[h,j,d,Tryz.results9,zW,seval];rw[decide_eq_false dK];exact Fin.pure rfl
def GM(H:aa)(p:Rq)(x:Tm)(g:cL H p x)(s:x.Sz)(ok:H.base<=H.next) :
  aL Tryz.prog 16 [i9 (ap ⟨p.t,0,bi⟩)] H fun out H1=>∃ rs n,out=.ok (.agg ⟨[jp (ap ⟨n,0,bi⟩) x.h x.h,i7 i8 x.jq,i7 i8 x.jf]⟩)/\rs.length=x.h/\CZ H.next H1 (jp (ap ⟨n,0,bi⟩) x.h x.h) x.w rs x.grid/\Mod [] H H1:=by
 obtain⟨b,hb⟩:=ac (H.next);have hbb:H.base<=b:=hb▸ok;have hT:p.t<b:=hb▸g.lt p.t pi;have hR:p.rb<b:=hb▸g.lt p.rb pi;have h1:=g.cell;simp only[bF]at h1;have s1:=s.h1;have s2:=s.h2;have s3:=s.w1;have s4:=s.w2;have hgl:x.grid.length=x.h:=rfl;refine aH mixed Tryz.func16 rfl Tryz.ntmps16 (zA8 rfl) ?_;simp (maxDischargeDepth:=6) only[hb,hbb,zW,seval];refine c7 fun E hE=>?_;have S:E 0=i9 (ap ⟨p.t,0,bi⟩):=by rw[hE]; simp only[aE,seval]
 have f2:E 2=i9 (ap ⟨b+0,0,bi⟩):=by rw[hE]; simp only[aE,seval]
 have T:E 3=i9 (ap ⟨b+1,0,bi⟩):=by rw[hE]; simp only[aE,seval]
 have f4:E 4=i7 i8 ((0:Nat):Int):=by rw[hE]; (simp only[aE]<;>rfl)
 clear hE;refine bn (fun E' V=>∃ rs v,rs.length=x.h/\Mod [] H V/\b+1<V.next/\bk V (b+0)=ap ⟨41,gc,[jp bi 0 0,i7 i8 0,i7 i8 0]⟩/\bk V (b+1)=ap ⟨41,gc,[v,i7 i8 (-1),i7 i8 0]⟩/\CZ (b+2) V v x.w rs x.grid/\E' 0=i9 (ap ⟨p.t,0,bi⟩)/\E' 2=i9 (ap ⟨b+0,0,bi⟩)/\E' 3=i9 (ap ⟨b+1,0,bi⟩)) ?_ ?_
 .refine b8 (fun (q:List (Nat × Bool) × gt) E' V=>q.1.length<=x.h/\Mod [] H V/\b+1<V.next/\bk V (b+0)=ap ⟨41,gc,[jp bi 0 0,i7 i8 0,i7 i8 0]⟩/\bk V (b+1)=ap ⟨41,gc,[q.2,i7 i8 (-1),i7 i8 0]⟩/\CZ (b+2) V q.2 x.w q.1 x.grid/\E' 0=i9 (ap ⟨p.t,0,bi⟩)/\E' 2=i9 (ap ⟨b+0,0,bi⟩)/\E' 3=i9 (ap ⟨b+1,0,bi⟩)/\E' 4=i7 i8 (q.1.length:Int)) (fun q=>x.h-q.1.length) ([],jp bi 0 0)
   ⟨zB7 _,Mod.ext ok,by rw[aA,hb]; simp,by rw[bJ hb lw]; rfl,by rw[bJ hb lw]; rfl,⟨.inl ⟨rfl,rfl⟩,by simp,by simp,by simp,by simp[ae]⟩,S,f2,T,f4⟩ ?_
  clear S f2 T f4 E;rintro⟨rs,v⟩ E X ⟨hl,mX,hbX,hc0,B,j,S,f2,T,f4⟩;simp only at hl B j f4;rw[show X=ext X [] from rfl];have okX:=mX.ok ok;obtain⟨c,hx⟩:=ac (X.next);have hxb:X.base<=c:=hx▸okX;have hbx:b+1<c:=hx▸hbX;have hRx:p.rb<c:=by omega
  have J:p.t<c:=by omega
  have gX:cL X p x:=g.of mX.next fun n hn=>mX.get n (g.lt n hn) lw;have A:=gX.cell;simp only[bF]at A;by_cases hlh:rs.length=x.h
  .have hd:ge ((rs.length:Int)<(x.h:Int))=false:=decide_eq_false li;simp (maxDischargeDepth:=6) only[S,f4,hd,hx,J,A,zW,seval];refine ah ⟨rs,v,hlh,mX,hbX,hc0,B,j,?_,?_,?_⟩<;>simp only[S,f2,T,aE,seval]
  .have hd:ge ((rs.length:Int)<(x.h:Int))=true:=decide_eq_true li;obtain⟨l,hlr,_,hlw,_⟩:=s.rowAt (k:=rs.length) li;obtain⟨q,hq,hqm,hqb⟩:=gX.rowOf hlr;have hqx:q.1<c:=hx▸gX.lt q.1 hqm;have hqlt:q.1<b:=hb▸g.lt q.1 hqm;have hrows:=gX.rows;have hqr:(p.rs.map (aM x.w))[rs.length]?=ap (aM x.w q):=by rw[zE1,hq]; rfl
   have hri:=eP (len:=x.h) (cap:=x.h) (n:=p.rb) (s:=bi) (i:=(rs.length:Int)) (k:=rs.length) rfl li;have hws:=bA (show rs.length<1000000 by omega);have hvx:∀ n∈ae v,n<c:=fun n hn=>hx▸(j.blk n hn).2.1
   have hlb:∀ K:aa,K.next=c+1->bk K (c+0)=ap ⟨77,gc,[]⟩->bk K q.1=ap ⟨77,q.2,aQ l⟩->aF Tryz.prog K .append ⟨[56,56]⟩ [jp (ap ⟨c+0,0,ap 0⟩) 0 0,aM x.w q]=ap (jp (ap ⟨c+1,0,bi⟩) x.w x.w,ext K [⟨77,bv,aQ l⟩]):=fun K hK h2 h3=>by
    have hsm:small (0+x.w) 32=true:=by simp only[small,zA7,zE2]; omega
    have C:=kn (P:=Tryz.prog) (H:=K) (st:=56) (xt:=56) (e:=77) (sz:=6) (by1:=32) (z:=Ce.zero.val) (m:=c+0) (k:=0) (n:=q.1) (off:=0) (cnt:=x.w) (cap:=x.w) (s:=if q.2=bv then bi else ap 0) ls QL ls ls rfl ls h2 lw rfl h3 (by rw[bP,hlw]; omega) (sE l) li hsm;have ht:([]:List gt).take (0*6)++((aQ l).drop 0).take (x.w*6)=aQ l:=by have h2:(aQ l).take (x.w*6)=aQ l:=zC3 (by rw[bP,hlw]; omega);rw[zD2,h2]; simp
    have hnw:=et (H:=K) (L:=[]) (e:=77) (l:=aQ l) (o:=true) (j5 _ _);simp only[ht]at C;rw[ext_nil]at hnw;rw[hnw,zB1,hK,zC6]at C;exact C
   simp (maxDischargeDepth:=6) only[S,f4,hd,hx,J,A,zW,seval];refine aK [(10,2),(10,6),(10,9),(11,2),(11,6),(11,9),(11,10),(12,1),(12,2),(12,6),(12,9),(12,10),(12,11),(13,1),(13,2),(13,6),(13,9),(13,10),(13,11),(13,12),(14,1),(14,2),(14,6),(14,9),(14,10),(14,11),(14,12)] [] ls ls rfl fun ops anc hA hG=>?_;simp only[aj]at hA;simp (maxDischargeDepth:=6) only[S,T,f4,hx,hbx,B,J,A,hRx,hrows,hri,hqr,aM,bh,zW,seval];refine⟨.inr fun n hn=>?_,.inr fun n hn=>?_,?_⟩
   .simp only[ae,zA6]at hn; omega
   .simp only[ae,zA6]at hn; omega
   rw[mL (by simp only[aE,seval])];have hq77:bk (ext X [⟨77,gc,[]⟩]) q.1=ap ⟨77,q.2,aQ l⟩:=(iI (hx▸hqx)).trans hqb;have hx77:bk (ext X [⟨77,gc,[]⟩]) (c+0)=ap ⟨77,gc,[]⟩:=by rw[bJ hx lw]; rfl
   refine sL (v:=jp (ap ⟨c+1,0,bi⟩) x.w x.w) (M:=[⟨77,bv,aQ l⟩]) [c+0,q.1] rfl mt (fun n hn=>?_) (fun G hGn hGg=>jl (by simp only[aE,seval]) ?_) ?_ ?_
   .rcases zA9.1 hn with rfl|hn
    .exact fI hx77
    .rw[zA6.1 hn]; exact fI hq77
   .simp only[aE,seval];exact hlb G (by rw[hGn,aA,hx]; rfl) ((aO (hGg _ lw)).trans hx77) ((aO (hGg _ lw)).trans hq77)
   .simp (maxDischargeDepth:=6) only[aj,bu,hA,bh]
   simp (maxDischargeDepth:=6) only[hx,hA,zA3,zB0,bh,zW,seval];rw[mL (by simp only[aE,seval])];obtain⟨Z,hZ⟩:=ac (ext X [⟨77,gc,[]⟩,⟨77,bv,aQ l⟩,⟨56,gc,[jp (ap ⟨c+1,0,bi⟩) x.w x.w]⟩]);have mZ:Mod [] X Z:=hZ▸Mod.ext okX;have okZ:=mZ.ok okX;have hZn:Z.next=c+3:=by rw[<-hZ,aA,hx]; rfl
   have hZ1:bk Z (c+2)=ap ⟨56,gc,[aM x.w (c+1,bv)]⟩:=by rw[<-hZ,bJ hx lw]; rfl
   have hZ0:bk Z (c+1)=ap ⟨77,bv,aQ l⟩:=by rw[<-hZ,bJ hx lw]; rfl
   have hZo:∀ n,n<c->Z.get n=X.get n:=fun n hn=>mZ.get n li lw;rw[hZ];have hrn:=aI Z (ae v++[c+2]);have hRr:∀ n∈ae v++[c+2],(Z.restrict (ae v++[c+2])).get n=Z.get n:=fun n hn=>by rw[bf,if_pos hn]
   have hrsZ:gF Z v x.w rs:=j.at_.of fun n hn=>hZo n (hvx n hn)
   obtain⟨G,C,hrsG,mG,hGn⟩:=rH (x:=c+3) (k:=c+2) (q:=(c+1,bv)) (hrsZ.of fun n hn=>hRr n (by simp[hn])) (by rw[hrn.1,hZn]) ((aO (hRr (c+2) lw)).trans hZ1) li (fun r hr=>by
    rw[hrn.1,hZn];rcases zB4.1 hr with h|h
    .have:=(j.rng r h).2; omega
    .simp only[zA6]at h; subst h; simp only; omega)
   have mG:=mG (by rw[hrn.1,hrn.2.1]; exact zA5 _)
   have hneZ:∀ n∈ae v++[c+2],Z.get n≠none:=fun n hn=>by
    rcases zB4.1 hn with h|h
    .exact hrsZ.ne n h
    .simp only[zA6]at h; subst h; exact fI hZ1
   refine my (W:=ae v) (ae v++[c+2]) okZ hneZ (fun n hn=>by
     rcases zB4.1 hn with h|h
     .have:=hvx n h; omega
     .simp only[zA6]at h; omega) (fun n hn=>by simp[hn])
    (jl (v:=jp (ap ⟨c+3,0,bi⟩) (rs.length+1) (rs.length+1)) (by simp only[aE,seval]) (by simp only[aE,seval]; exact C)) mG (by simp only[aj,bu,hA,true_or,and_true]) ?_
   intro H1 D mH1 hF1 hN1 I hD1;have I:H1.next=c+4:=by rw[I,hGn]
   have hvn:∀ n,n<b+2->n∉ae v:=fun n hn hh=>by have:=(j.blk n hh).1; omega
   have hT1:bk H1 (b+1)=ap ⟨41,gc,[v,i7 i8 (-1),i7 i8 0]⟩:=by rw[mH1.bk li (hvn _ li),aO (hZo _ hbx)]; exact B
   have hTn:b+1<c+4:=by omega
   rw[show H1=ext H1 [] from rfl];simp (maxDischargeDepth:=6) only[T,I,hTn,hT1,hA,bh,zW,seval];simp (maxDischargeDepth:=6) only[f4,hws,zW,seval];have mU:Mod [b+1] H1 (uw H1 (b+1) 0 [jp (ap ⟨c+3,0,bi⟩) (rs.length+1) (rs.length+1)]):=Mod.uw lw
   have hnewB:bk H1 (c+3)=ap ⟨56,bv,(rs++[(c+1,bv)]).map (aM x.w)⟩:=by
    rw[aO (hN1 (c+3) li li)]
    rcases hrsG with⟨h,_⟩|⟨_,n,e,hb'⟩
    .simp at h
    .simp only[Value.slice.injEq,i5,Addr.mk.injEq,and_true]at e;rw[e.1]; exact hb'
   have hget:∀ n,n<c+3->n≠b+1->n∉ae v->(uw H1 (b+1) 0 [jp (ap ⟨c+3,0,bi⟩) (rs.length+1) (rs.length+1)]).get n=Z.get n:=fun n f O h3'=>by rw[fD O,mH1.get n li h3']
   refine aC ⟨(rs++[(c+1,bv)],jp (ap ⟨c+3,0,bi⟩) (rs.length+1) (rs.length+1)),by simp only[zB2,zA3,zB0]; omega,by simp only[zB2,zA3,zB0]; omega,?_,?_,?_,?_,?_,?_,?_,?_,?_⟩
   .have m1:Mod (ae v) X H1:=(mZ.mono lw).trans mH1;exact (mX.step m1 ok (fun n hn=>.inr (by have:=(j.blk n hn).1; omega))).step mU ok (fun n hn=>.inr (by simp only[zA6]at hn; omega))
   .rw[ext_nil,bE,I]; omega
   .rw[ext_nil,aO (hget (b+0) li li (hvn _ li)),aO (hZo (b+0) li)]; exact hc0
   .rw[ext_nil,bR,hT1]; rfl
   .refine⟨.inr ⟨by simp,c+3,by simp,?_⟩,?_,?_,?_,?_⟩
    .rw[ext_nil,eJ li];exact hnewB
    .intro i q' l' f O;by_cases hi:i<rs.length
     .rw[List.getElem?_append_left hi]at f;have hr:=j.rng q' (zC0 f);have hm:q'.1∉ae v:=fun hh=>(j.blk _ hh).2.2 (zB6.2 ⟨q',zC0 f,rfl⟩);rw[ext_nil,aO (hget q'.1 li li hm),aO (hZo q'.1 li)];exact j.row i q' l' f O
     .rw[zG5 li]at f
      have hi2:i=rs.length:=by
       rcases zC2 (i-rs.length) 1 with h|h
       .omega
       .rw[zC5 (by simpa using h)]at f; cases f
      subst hi2;rw[zG0]at f;simp only[zF3,i5]at f;subst f;rw[hlr]at O;cases O;rw[ext_nil,aO (hget (c+1) li li (fun hh=>by have:=hvx _ hh; omega))];exact hZ0
    .intro r hr;rw[ext_nil,bE,I];rcases zB4.1 hr with h|h
     .have:=j.rng r h; omega
     .simp only[zA6]at h;subst h;simp only; omega
    .rw[List.map_append];refine zD5.2 ⟨j.nd,by simp,fun a ha b' hb' e=>?_⟩;obtain⟨r,hr,rfl⟩:=zB6.1 ha;simp only[zB9,zE6,zA6]at hb';have:=(j.rng r hr).2;omega
    .intro n hn;simp only[ae,zA6]at hn;subst hn;refine⟨by omega,by rw[ext_nil,bE,I]; omega,fun hm=>?_⟩;obtain⟨r,hr,e⟩:=zB6.1 hm;rcases zB4.1 hr with h|h
     .have:=(j.rng r h).2; omega
     .simp only[zA6]at h;subst h;simp only at e;omega
   .simp only[S,aE,seval]
   .simp only[f2,aE,seval]
   .simp only[T,aE,seval]
   .simp only[zB2,zA3,zB0,aE,seval]
 .clear S f2 T f4 E;rintro E X ⟨rs,v,hl,mX,hbX,hc0,B,j,S,f2,T⟩;rw[show X=ext X [] from rfl];have okX:=mX.ok ok;obtain⟨c,hx⟩:=ac (X.next);have hb1x:b+1<c:=hx▸hbX;have hb0x:b+0<c:=by omega
  have J:p.t<c:=by omega
  have gX:cL X p x:=g.of mX.next fun n hn=>mX.get n (g.lt n hn) lw;have A:=gX.cell;simp only[bF]at A
  rcases j.at_ with⟨h,_⟩|⟨_,n,rfl,hbn⟩
  .rw[h]at hl; simp at hl; omega
  rw[hl]at j B;have I:=j.blk n ol;have hnn:n<c:=hx▸I.2.1;have R:∀(Y:aa),Mod [b+0,b+1] X Y->CZ H.next Y (jp (ap ⟨n,0,bi⟩) x.h x.h) x.w rs x.grid/\Mod [] H Y:=fun Y mY=>by refine⟨?_,mX.step mY ok (fun n hn=>.inr (by simp only[zA9,zF2,or_false]at hn; omega))⟩;have o2:CZ (b+2) Y (jp (ap ⟨n,0,bi⟩) x.h x.h) x.w rs x.grid:=j.of li mY.next (fun n f O=>mY.get n O (by simp only[zA9,zF2,or_false]; omega));exact⟨o2.at_,o2.row,fun q hq=>⟨by have:=(o2.rng q hq).1; omega,(o2.rng q hq).2⟩,o2.nd,fun m hm=>⟨by have:=(o2.blk m hm).1; omega,(o2.blk m hm).2⟩⟩
  obtain⟨ds,hds⟩:∃ d,x.shown=d:=⟨_,rfl⟩
  cases ds with
  |true =>
   simp (maxDischargeDepth:=6) only[S,hx,J,A,hds,zW,seval];refine aK [(8,4),(8,6),(10,4),(10,6),(10,8)] [] ls ls rfl fun ops anc hA hG=>?_;simp only[aj]at hA;simp (maxDischargeDepth:=6) only[S,hx,J,A,bh,zW,seval];refine aN (v:=i7 i8 x.inside) p.au (by simp (maxDischargeDepth:=6) only[aE,seval]) ls mt gX.ne (fun K hn hg=>?_) (by simp (maxDischargeDepth:=6) only[bh]) ?_
   .simp only[aE];exact r9 K p x (gX.of (by rw[hn]; exact zA5 _) hg) s
   simp (maxDischargeDepth:=6) only[f2,T,hx,hb1x,hb0x,hnn,hc0,B,hA,Tryz.results16,bh,zW,seval];obtain⟨o1,o2⟩:=R _ (((Mod.uw lw).trans (Mod.uw lw)).trans (Mod.uw lw):Mod [b+0,b+1] X (ext (uw (uw (uw X (b+1) 1 [i7 i8 x.row]) (b+1) 2 [i7 i8 x.inside]) (b+0) 0 [jp (ap ⟨n,0,bi⟩) x.h x.h,i7 i8 x.row,i7 i8 x.inside]) []));rw[hb]at o1;exact⟨rs,n,by simp only[Tm.jq,Tm.jf,hds,cond_true],hl,o1,o2⟩
  |false =>simp (maxDischargeDepth:=6) only[S,f2,T,hx,J,hb0x,hb1x,hnn,A,hds,hc0,B,Tryz.results16,zW,seval];obtain⟨o1,o2⟩:=R _ (Mod.uw lw:Mod [b+0,b+1] X (ext (uw X (b+0) 0 [jp (ap ⟨n,0,bi⟩) x.h x.h,i7 i8 (-1),i7 i8 0]) []));rw[hb]at o1;exact⟨rs,n,by simp only[Tm.jq,Tm.jf,hds,cond_false],hl,o1,o2⟩
def QS(l:Lk):Value:=.agg #[i7 i8 l.fore,i7 i8 l.back,kw l.bold,kw l.under,kw l.inv]
def Pf(H:aa)(p:Rq)(x:Tm)(g:cL H p x)(ok:H.base<=H.next):aL Tryz.prog 18 [i9 (ap ⟨p.t,0,bi⟩)] H fun out H1=>out=.ok (QS x.pen)/\Mod [] H H1:=by obtain⟨b,c⟩:=ac H.next;have f:H.base<=b:=c▸ok;have j:p.t<b:=c▸g.lt p.t pi;have h:=g.cell;simp only[bF]at h;refine aH mixed Tryz.func18 rfl Tryz.ntmps18 (zA8 rfl) ?_;simp only[c,f,j,h,Tryz.results18,zW,seval];exact⟨rfl,Mod.ext ok⟩
def OL(H:aa)(p:Rp)(x:Tm)(g:b7 H p x)(s:x.Sz)(ok:H.base<=H.next):aL Tryz.prog 17 [i9 (ap ⟨p.t,0,bi⟩)] H fun out H1=>out=.ok (QS x.pen)/\Mod [] H H1:=by obtain⟨b,c⟩:=ac H.next;have f:H.base<=b:=c▸ok;have j:p.t<b:=c▸g.lt p.t nl;have h:=g.cell;simp only[aW]at h;refine aH mixed Tryz.func17 rfl Tryz.ntmps17 (zA8 rfl) ?_;simp only[c,zW,seval];refine (Fw (ext H [_]) p x (g.of (by rw[aA]; omega) fun n o=>bS (g.lt n o)) s).to ?_;simp only[c,f,j,h,Tryz.results17,zW,seval];exact⟨rfl,Mod.ext ok⟩
abbrev eL(s:ByteArray):List UInt8:=s.data.toList
def BG(s:ByteArray):s.size=(eL s).length:=by rw[Array.length_toList]; rfl
def vQ(s:ByteArray)(n:Nat)(h:n<=s.size):eL (s.extract 0 n)=(eL s).take n:=by simp[eL,ByteArray.data_extract]
def Hk(s:ByteArray)(n:Nat)(h:n<=s.size):eL (s.extract n s.size)=(eL s).drop n:=by
 have:=BG s
 simp only[eL,ByteArray.data_extract,Array.toList_extract]at *
 simp only[List.extract_eq_take_drop];rw[zC3];rw[zC1,<-this];exact zA5 _
def KZ(X:aa)(s:ByteArray)(n:Nat)(h:n<=s.size):cw Tryz.prog X 9 (.string s) bi (ap (i7 i8 (n:Int))) bi=ap (.string (s.extract 0 n),X):=by
 have c:Tryz.prog.underlying 9=ap .string:=by kernel_rfl
 have f:bound s.size (ap (i7 i8 (n:Int)))=ap n:=cz
 simp only[cw,c,bound,zA1,zA4]at *
 rw[f];simp[h]
def HL(X:aa)(s:ByteArray)(n:Nat)(h:n<=s.size):cw Tryz.prog X 9 (.string s) (ap (i7 i8 (n:Int))) bi bi=ap (.string (s.extract n s.size),X):=by
 have c:Tryz.prog.underlying 9=ap .string:=by kernel_rfl
 have f:bound 0 (ap (i7 i8 (n:Int)))=ap n:=cz;simp only[cw,c,zA1,f,zA4];simp[bound,h]
structure Live (H:aa) (p:Rp) (x:Tm):Prop where
 at_:b7 H p x
 sz:x.Sz
 tb:ss H
 p0:0∉p.au
 p1:1∉p.au
 pl:x.params.length<=65
def ko{x:Tm}(s:x.Sz)(h:x.params.length<=65):∀(f:List UInt8),(x.feed cI f).Sz/\(x.feed cI f).params.length<=65/\(x.feed cI f).rest.length<=x.rest.length+f.length
 |[]=>⟨s,h,zA5 _⟩
 |c::f=>by obtain⟨a,b,d,e⟩:=wz s h c;have j:x.feed cI (c::f)=(x.step cI c).feed cI f:=rfl;rw[j,step_eq];obtain⟨n,o,r⟩:=ko (a.fY b) d f;refine⟨n,o,zC7 r ?_⟩;show (x.byte c).1.rest.length+f.length<=_;simp only[zA3];omega
def Live.step{H H1:aa}{p f:Rp}{x:Tm}(l:Live H p x){c:List UInt8}(s:Step H p H1 f (x.feed cI c)):Live H1 f (x.feed cI c):=by obtain⟨t,a,b⟩:=l.tb.step s l.p0 l.p1;obtain⟨h,j,_⟩:=ko l.sz l.pl c;exact⟨s.at_,h,t,a,b,j⟩
def AW(H:aa)(p:Rp)(x:Tm)(s:ByteArray)(l:Live H p x)(ok:H.base<=H.next)(A:x.rest.length+(eL s).length<=900) :
  aL Tryz.prog 21 [i9 (ap ⟨p.t,0,bi⟩),jp (ap ⟨H.next,0,bi⟩) (eL s).length (eL s).length] (ext H [⟨5,bv,aq (eL s)⟩]) fun out H1=>out=.ok (i7 i8 0)/\∃ f,Step H p H1 f (x.feed cI (eL s)):=by
 have m:Mod [] H (ext H [⟨5,bv,aq (eL s)⟩]):=Mod.ext ok;have j:=m.ok ok;have r:b7 (ext H [⟨5,bv,aq (eL s)⟩]) p x:=l.at_.of m.next fun n c=>m.get n (l.at_.lt n c) lw;obtain⟨z,_,_⟩:=l.tb.step (Step.quiet l.at_ m) l.p0 l.p1;refine (QN _ p x _ (eL s) r l.sz j z l.p0 l.p1 (LM (n:=H.next) (o:=true) (sp:=bi) (by rw[show H.next=H.next+0 from rfl,bJ rfl lw]; rfl)) (fun n c=>?_) (fun n c h=>?_) (fun k=>by have:=(ko l.sz l.pl ((eL s).take k)).2.2; rw[zF1]at this; omega) li l.pl).mono ?_
 .simp only[ae,zA6]at c;rw[aA]; simp; omega
 .simp only[ae,zA6]at c;have:=l.at_.lt n h;omega
 .rintro out H1 ⟨rfl,f,st⟩;exact⟨rfl,f,(Step.quiet l.at_ m).trans ok st⟩
def Nl(i L:Nat):(i:Int).tmod (L:Int)=((i % L:Nat):Int):=by rw[Int.tmod_eq_emod_of_nonneg li];exact (Int.natCast_emod i L).symm
end Go.Proofs.YtpohjcacnkhnkaaGreatDoor.Tq
namespace Go.Proofs.YtpohjcacnkhnkaaGreatDoor
open Go.Ax
section
variable{N:Nat}{H:aa}{p W:Nat}{v:gt}{rvs:List gt}{x:St}
end
end Go.Proofs.YtpohjcacnkhnkaaGreatDoor
namespace Go.Ax
section
variable{P:io}{rec:Rec}{H H1 g:aa}{a a1:ai}{u u1:FrameMode}
end
end Go.Ax
namespace Go.Proofs.YtpohjcacnkhnkaaGreatDoor
open Go.Ax
end Go.Proofs.YtpohjcacnkhnkaaGreatDoor
namespace Go.Ax
section
variable{P:io}{ro:Option Nat}{H:aa}{N:Nat}{E:Env}{ds:List Deferred}{ops:Array Oper}{rest:List Oper}{ty:ii}{pos:String}{after:Array Edge}{Q:Exit -> ai -> aa -> Prop}
end
end Go.Ax
namespace Go.Proofs.YtpohjcacnkhnkaaGreatDoor
open Go.Ax
def E3(g:List (List Ce)):Nat:=(g.getD 0 []).length
def N9(g:List (List Ce))(r c:Int):Int :=
 cond (ge ((g.length:Int)<1)||ge (200<(g.length:Int))) 3
  (cond (ge ((E3 g:Int)<1)||ge (1000<(E3 g:Int))||(!(ge (0<=r)&&ge (r<(g.length:Int))&&ge (0<=c)&&ge (c<(E3 g:Int)))&&!(ge (r=-1)&&ge (c=0)))) 3
   (cond (F1 (E3 g) g) 0 5))
def lz.zz{H G:aa}{v:gt}{l:List Op}(h:lz H v l)(m:Mod [] H G):lz G v l:=by
 rcases h with⟨rfl,a,c,rfl⟩|⟨r,n,off,s,c,e,o,L,rfl,z,f,j,A⟩
 .exact .inl ⟨rfl,a,c,rfl⟩
 .exact .inr ⟨r,n,off,s,c,e,o,L,rfl,(oF (m.get n f lw)).trans z,m.lt f,j,A⟩
end Go.Proofs.YtpohjcacnkhnkaaGreatDoor
namespace Go.Proofs.YtpohjcacnkhnkaaGreatDoor.Tq
open Go.Ax
def nh(ns:List Nat)(f:UInt8):(ig ns f).length<=5*ns.length+3:=by have:=join_le ns;simp only[ig,zA3,zB2,zB0];omega
def ND(k:Oe):(ow k).length<=10:=by
 unfold ow;simp only[zA3,zB2,apply_ite List.length,zB0]
 (repeat' split)<;>omega
def P4{o:zB}(c:o.kind≠3){b:List UInt8}(h:l8 o=ap b):b.length<=200:=by
 unfold l8 at h;by_cases f:o.kind=1
 .rw[if_pos f]at h;split at h
  .cases h;exact zC7 (nh _ _) lw
  .cases h
 rw[if_neg f]at h;by_cases j:o.kind=2
 .rw[if_pos j]at h;split at h
  .cases h;have:=ND o.look;exact zC7 (nh _ _) li
  .cases h
 rw[if_neg j,if_neg c]at h;by_cases r:o.kind=4
 .rw[if_pos r]at h;cases h;exact zC7 (nh _ _) lw
 rw[if_neg r]at h;by_cases s:o.kind=5\/o.kind=6
 .rw[if_pos s]at h;split at h
  .cases h;have B:=nh [o.row.toNat+1,o.col.toNat+1] 114;have C:=nh [o.row.toNat+1,0+1] 72;have c:=nh [o.n.toNat] (cond (ge (o.kind=5)) 77 76);have D:=nh [] 114;simp only[zA3,zB0]at B C c D;simp only[yt,zB2,zA3,zB0];omega
  .cases h
 rw[if_neg s]at h;by_cases z:o.kind=7
 .rw[if_pos z]at h;cases h; simp
 rw[if_neg z]at h;by_cases A:o.kind=8
 .rw[if_pos A]at h;cases h; simp
 rw[if_neg A]at h;cases h
def OV(l:List Ce):Go.Proofs.YtpohjcacnkhnkaaGreatDoor.aQ (l.map LV)=aQ l:=by
 induction l with
 |nil=>rfl
 |cons c l f=>rw[zB9,Go.Proofs.YtpohjcacnkhnkaaGreatDoor.cA,f,cA]; rfl
end Go.Proofs.YtpohjcacnkhnkaaGreatDoor.Tq
namespace Go.Proofs.YtpohjcacnkhnkaaGreatDoor
open Go.Ax
section
variable{Z:aa}{N:Nat}{E:Env}{ds:List Deferred}{ops:Array Oper}{anc:List Nat}{ty:ii}{pos:String}{after:Array Edge}{rest:List Oper}{i d m:Nat}{fps:List Fp}{Q:ai -> aa -> Prop}{v u:gt}{l l2:List Op}
end
def ev(l:List Int):List Value:=l.map (Value.int .u8)
end Go.Proofs.YtpohjcacnkhnkaaGreatDoor
namespace Go.Ax
end Go.Ax
namespace Go.Proofs.YtpohjcacnkhnkaaGreatDoor
open Go.Ax
def RP(H:aa)(n:Nat)(s:Option Nat):Prop:=s=ap 0\/(s=bi/\∃ b,bk H n=ap b)
def NO(H:aa)(sz:Nat)(u:gt)(L:List gt)(cnt:Nat):Prop :=
 ∃ n off s c e o M,u=jp (ap ⟨n,off,s⟩) cnt (cnt+c)/\RP H n s/\rk H n=ap ⟨e,o,M⟩/\n<H.next/\off+cnt*sz<=M.length/\(M.drop off).take (cnt*sz)=L
section
variable{H G:aa}{u:gt}{L:List gt}{sz cnt:Nat}
def RP.of{n:Nat}{s:Option Nat}(h:RP H n s)(c:G.get n=H.get n):RP G n s:=h.imp id fun⟨f,b,j⟩=>⟨f,b,(aO c).trans j⟩
def NO.of(h:NO H sz u L cnt)(B:H.next<=G.next)(f:∀ n∈ae u,G.get n=H.get n):NO G sz u L cnt:=by obtain⟨n,off,s,c,e,o,M,rfl,j,r,C,z,A⟩:=h;have:=f n ol;exact⟨n,off,s,c,e,o,M,rfl,j.of this,(oF this).trans r,by omega,z,A⟩
def NO.ne(h:NO H sz u L cnt):∀ n∈ae u,H.get n≠bi/\n<H.next:=by obtain⟨n,off,s,c,e,o,M,rfl,z,j,r,A,B⟩:=h;intro m f;simp only[ae,zA6]at f;subst f;exact⟨NL j,r⟩
def NO.zz(h:NO H sz u L cnt)(m:Mod [] H G):NO G sz u L cnt:=h.of m.next fun n c=>m.get n (h.ne n c).2 lw
end
def JD(H:aa)(v:gt)(l:List Ce):Prop:=(l=[]/\∃ a c,v=.slice a 0 c)\/(l≠[]/\NO H 6 v (aQ l) l.length)
def uY(H:aa)(v:gt)(g:List (List Ce)):Prop :=
 (g=[]/\∃ a c,v=.slice a 0 c)\/(g≠[]/\∃ rvs,rvs.length=g.length/\NO H 1 v rvs g.length/\∀(k:Nat)(f:List Ce),g[k]?=ap f->∃ rv,rvs[k]?=ap rv/\JD H rv f)
section
variable{H G:aa}{v:gt}{l:List Ce}{g:List (List Ce)}
def JD.at_(h:JD H v l):iJ H v l:=by
 rcases h with h|⟨f,n,off,s,c,e,o,M,rfl,B,j,r,z,A⟩
 .exact .inl h
 .exact .inr ⟨f,n,off,s,_,e,o,M,rfl,j,r,z,A⟩
def JD.zz(h:JD H v l)(m:Mod [] H G):JD G v l:=h.imp id fun⟨c,f⟩=>⟨c,f.zz m⟩
def uY.at_(h:uY H v g):zh H v g:=by
 rcases h with h|⟨z,rvs,hl,⟨n,off,s,c,e,o,M,rfl,I,A,B,J,C⟩,hr⟩
 .exact .inl h
 .refine .inr ⟨z,n,off,s,_,e,o,M,rfl,A,B,by omega,fun k f j=>?_⟩;obtain⟨rv,r,D⟩:=hr k f j;refine⟨rv,?_,D.at_⟩;rw[<-C,List.getElem?_take,if_pos (by have:=(zE0.1 j).1; omega),List.getElem?_drop]at r;exact r
def uY.zz(h:uY H v g)(m:Mod [] H G):uY G v g:=h.imp id fun⟨f,rvs,j,n,o⟩=>⟨f,rvs,j,n.zz m,fun k c r=>let ⟨rv,s,z⟩:=o k c r; ⟨rv,s,z.zz m⟩⟩
end
section
variable{Z:aa}{N:Nat}{E:Env}{ds:List Deferred}{ops:Array Oper}{anc:List Nat}{ty:ii}{pos:String}{after:Array Edge}{rest:List Oper}{i d:Nat}{fps:List Fp}{Q:ai -> aa -> Prop}{v u:gt}{l l2:List Op}
end
section
variable{N:Nat}{F:List Nat}{H X Y:aa}
end
set_option maxRecDepth 100000
section
variable{N q p:Nat}{F:List Nat}{H X:aa}{v:gt}{l:List Op}{k:Lk}
end
section
variable{y pe po pn e:Nat}{ua ub:gt}{a b:List Ce}
end
section
variable{N q p:Nat}{F F':List Nat}{H X U:aa}{v:gt}{l:List Op}{k:Lk}
end
section
variable{H G:aa}{v:gt}{g:List (List Ce)}
end
section
variable{N M:Nat}{F F':List Nat}{H X:aa}{v:gt}{g:List (List Ce)}
end
def p9:List Ce->List Ce
 |[]=>[]
 |c::l=>(if c.rune=-1 then Ce.sp else c)::l
end Go.Proofs.YtpohjcacnkhnkaaGreatDoor
namespace Go.Proofs.YtpohjcacnkhnkaaGreatDoor.Tq
open Go.Ax
def JT{w:Nat}{g:List (List Ce)}{c f n:Nat}{up:Bool}{l:List Ce}(h:l∈fT w g c f n up):l∈g\/l=List.replicate w sp:=by
 simp only[fT,zB4]at h;rcases h with (h|h)|h
 .exact .inl (List.mem_of_mem_take h)
 .cases up
  .simp only[zC8,if_false,zB4]at h;rcases h with h|h
   .exact .inr (List.eq_of_mem_replicate h)
   .exact .inl (List.mem_of_mem_drop (List.mem_of_mem_take (List.mem_of_mem_take h)))
  .simp only[if_true,zB4]at h;rcases h with h|h
   .exact .inl (List.mem_of_mem_drop (List.mem_of_mem_take (List.mem_of_mem_drop h)))
   .exact .inr (List.eq_of_mem_replicate h)
 .exact .inl (List.mem_of_mem_drop h)
def Tm.fQ.fe{x:Tm}(v:x.fQ)(c f n:Int)(up:Bool):(x.fe c f n up).fQ :=
 ⟨fun l h=>(JT h).elim (v.rows l) (fun e=>e▸zU _),v.pen,v.spen⟩
def Tm.fQ.control{x:Tm}(v:x.fQ)(c:Int):(x.control c).fQ:=by
 unfold Tm.control;split
 .exact v.move x.row _
 .split
  .exact v.move x.row _
  .split
   .split
    .exact v.fe _ _ _ _
    .exact v.move _ x.col
   .split
    .exact v.move x.row _
    .exact v
def LG(c:Int):cB c<=2:=By.le c
def Tm.fQ.write{x:Tm}(v:x.fQ)(s:x.Sz){f:Int}(j:¬(f<32\/f=127)):(x.write cI f).fQ:=by
 obtain⟨r,n⟩:∃ r:Nat,x.row=r:=⟨x.row.toNat,by have:=s.r1; omega⟩
 obtain⟨c,o⟩:∃ c:Nat,x.col=c:=⟨x.col.toNat,by have:=s.c1; omega⟩
 rw[oP cI x f r c n o];split
 .exact v
 .rename_i h;have:=LG f;have z:cI.wd f=cB f:=rfl;exact v.written s (by have:=s.r2; omega) li (by unfold cellW; rw[if_neg j]; exact z.symm) li
def Tm.fQ.character{x:Tm}(v:x.fQ)(s:x.Sz)(c:Int):(x.character cI c).fQ:=by
 unfold Tm.character;split
 .exact v.control c
 .rename_i h;exact v.write s h
def Tm.fQ.aU{x:Tm}(v:x.fQ)(s:x.Sz)(l:List Int):(x.aU l).fQ:=by
 obtain⟨r,j⟩:∃ r:Nat,x.row=r:=⟨x.row.toNat,by have:=s.r1; omega⟩
 have hi:=eT s;have w1:=s.w1
 obtain⟨i,f⟩:∃ i:Nat,x.inside=i:=⟨x.inside.toNat,by omega⟩
 have c:r<x.h:=by have:=s.r2; omega
 unfold Tm.aU;rw[gS];split
 .rw[j,f];exact v.blank s c li li
 .split
  .rw[j,f,show ((i:Nat):Int)+1=((i+1:Nat):Int) from by omega,show (0:Int)=((0:Nat):Int) from rfl];exact v.blank s c li li
  .split
   .rw[j,show (0:Int)=((0:Nat):Int) from rfl];exact v.blank s c li li
   .exact v
def Tm.fQ.bK{x:Tm}(v:x.fQ)(s:x.Sz)(l:List Int){i:Nat}(hi:i<x.h):(x.bK l i).fQ:=by
 unfold Tm.bK;split
 .exact v.blank s hi s.w1 (zA5 _)
 .exact v
def Tm.fQ.bL(l:List Int):∀(k i:Nat){x:Tm},x.fQ->x.Sz->i+k<=x.h->(Tm.bL l i k x).fQ
 |0,_,_,v,_,_=>v
 |k+1,i,x,v,s,h=>by rw[cV];obtain⟨a,b,_,_⟩:=s.bK l (i:=i) li;exact Tm.fQ.bL l k (i+1) (v.bK s l li) a li
def Tm.fQ.cf{x:Tm}(v:x.fQ)(s:x.Sz)(l:List Int):(x.cf l).fQ:=by obtain⟨a,b,_,_⟩:=s.aU l;exact Tm.fQ.bL l _ _ (v.aU s l) a (by rw[b]; simp[Tm.h])
def Tm.fQ.lines{x:Tm}(v:x.fQ)(n:Int)(up:Bool):(x.lines n up).fQ:=by
 unfold Tm.lines;split
 .exact v.fe _ _ _ _
 .exact v
def Tm.fQ.region{x:Tm}(v:x.fQ)(l:List Int):(x.region l).fQ:=by
 rw[mi];split
 .exact Tm.fQ.bp (x:={x with top:=count l-1,bottom:=Ev x l}) ⟨v.rows,v.pen,v.spen⟩ 0 0
 .exact v
def Lk.Ok.attribute{l:Lk}(o:l.Ok)(n:Int):(l.attribute n).Ok:=by
 unfold Lk.attribute;split
 .exact Lk.AB
 split
 .exact⟨o.f0,o.f1,o.b0,o.b1⟩
 split
 .exact⟨o.f0,o.f1,o.b0,o.b1⟩
 split
 .exact⟨o.f0,o.f1,o.b0,o.b1⟩
 split
 .exact⟨by simp,by simp,o.b0,o.b1⟩
 split
 .exact⟨o.f0,o.f1,by simp,by simp⟩
 .exact o
def gV:∀(k:Nat)(p:List Int)(l:Lk),p.length<=k->(∀ n∈p,0<=n)->l.Ok->(Lk.attributes p l).Ok
 |_,[],l,_,_,o=>by rw[Lk.attributes]; exact o
 |0,_::_,_,h,_,_=>by simp at h
 |k+1,n::p,l,h,s,o=>by
  simp only[zA3]at h;have c:∀ m∈p,0<=m:=fun m f=>s m (by simp[f]);rw[Lk.attributes.eq_def];dsimp only;split
  .match p,h,c with
   |[],_,_=>exact o
   |[_],_,_=>exact o
   |a::b::r,h,c =>
    try simp only
    split
    .exact o
    .rename_i A;have z:=c b lw;have j:=gV k r;split
     .exact j _ (by simp only[zA3]at h; omega) (fun m f=>c m (by simp[f])) ⟨by simp only; omega,by simp only; omega,o.b0,o.b1⟩
     .exact j _ (by simp only[zA3]at h; omega) (fun m f=>c m (by simp[f])) ⟨o.f0,o.f1,by simp only; omega,by simp only; omega⟩
  .split
   .exact gV k p _ li c ⟨by simp only; omega,by simp only; omega,o.b0,o.b1⟩
   .split
    .exact gV k p _ li c ⟨o.f0,o.f1,by simp only; omega,by simp only; omega⟩
    .exact gV k p _ li c (o.attribute n)
def qG:∀(l:List UInt8)(d:List Int)(n:Int)(p:List Int),(∀ m∈d,0<=m)->0<=n->numbers l d n=ap p->∀ m∈p,0<=m
 |[],d,n,p,f,j,h=>by
  simp only[numbers,i5]at h;subst h;intro m hm;rcases zB4.1 hm with hm|hm
  .exact f m hm
  .rw[zA6.1 hm]; exact j
 |c::r,d,n,p,f,j,h=>by
  rw[numbers]at h;split at h
  .refine qG r _ 0 p (fun m hm=>?_) (Int.le_refl _) h;rcases zB4.1 hm with hm|hm
   .exact f m hm
   .rw[zA6.1 hm]; exact j
  .split at h
   .rename_i o;have:(48:Int)<=(c.toNat:Int):=by have:=UInt8.le_iff_toNat_le.1 o.1;have e:(48:UInt8).toNat=48:=rfl;omega
    exact qG r d _ p f li h
   .cases h
def Tm.fQ.aT{x:Tm}(v:x.fQ)(s:x.Sz)(f:UInt8)(l:List Int)(O:∀ m∈l,0<=m):(x.aT f l).fQ:=by
 unfold Tm.aT;by_cases n:f=65
 .rw[if_pos n]; exact v.bp _ _
 rw[if_neg n];by_cases o:f=66
 .rw[if_pos o]; exact v.bp _ _
 rw[if_neg o];by_cases r:f=67
 .rw[if_pos r]; exact v.bp _ _
 rw[if_neg r];by_cases z:f=68
 .rw[if_pos z]; exact v.bp _ _
 rw[if_neg z];by_cases A:f=71
 .rw[if_pos A]; exact v.bp _ _
 rw[if_neg A];by_cases B:f=100
 .rw[if_pos B]; exact v.bp _ _
 rw[if_neg B];by_cases C:f=72\/f=102
 .rw[if_pos C]; exact v.bp _ _
 rw[if_neg C];by_cases D:f=74
 .rw[if_pos D]; exact v.cf s l
 rw[if_neg D];by_cases I:f=75
 .rw[if_pos I]; exact v.aU s l
 rw[if_neg I];by_cases J:f=76
 .rw[if_pos J]; exact v.lines _ _
 rw[if_neg J];by_cases c:f=77
 .rw[if_pos c]; exact v.lines _ _
 rw[if_neg c];by_cases h:f=109
 .rw[if_pos h]; exact⟨v.rows,gV _ l _ (zA5 _) O v.pen,v.spen⟩
 rw[if_neg h];by_cases j:f=114
 .rw[if_pos j]; exact v.region l
 rw[if_neg j];exact v
def Tm.fQ.dJ{x:Tm}(v:x.fQ)(s:x.Sz)(f:UInt8):(x.dJ f).fQ:=by
 unfold Tm.dJ;split
 .exact⟨v.rows,v.pen,v.spen⟩
 .split
  .rename_i p c;exact v.aT s f _ (qG _ _ _ _ lw (Int.le_refl _) c)
  .exact v
def Tm.fQ.parameter{x:Tm}(v:x.fQ)(s:x.Sz)(c:UInt8):(x.parameter c).1.fQ:=by
 unfold Tm.parameter;by_cases f:c=27
 .rw[if_pos f]; exact v
 rw[if_neg f];by_cases h:64<=c/\c<=126
 .rw[if_pos h];simp only;split
  .exact v.dJ s c
  .exact v
 rw[if_neg h];by_cases j:c<32\/c>126\/(c ≥ 48/\x.middle=bv)
 .rw[if_pos j]; exact v
 rw[if_neg j];simp only;split
 .exact⟨v.rows,v.pen,v.spen⟩
 .exact⟨v.rows,v.pen,v.spen⟩
def Tm.fQ.second{x:Tm}(v:x.fQ)(c:UInt8):(x.second c).1.fQ:=by
 unfold Tm.second;by_cases f:c=91
 .rw[if_pos f]; exact⟨v.rows,v.pen,v.spen⟩
 rw[if_neg f];by_cases h:c=93
 .rw[if_pos h]; exact⟨v.rows,v.pen,v.spen⟩
 rw[if_neg h];by_cases j:c=27
 .rw[if_pos j]; exact v
 rw[if_neg j];by_cases n:32<=c/\c<48
 .rw[if_pos n]; exact v
 rw[if_neg n];by_cases o:c=55
 .rw[if_pos o]; exact⟨v.rows,v.pen,v.pen⟩
 rw[if_neg o];by_cases r:c=56
 .rw[if_pos r]; exact⟨v.rows,v.spen,v.spen⟩
 rw[if_neg r];by_cases s:c=99
 .rw[if_pos s]; exact Ic _ _
 rw[if_neg s];by_cases z:c=77/\x.row=x.top
 .rw[if_pos z]; exact v.fe _ _ _ _
 rw[if_neg z];by_cases A:c=77
 .rw[if_pos A]; exact⟨v.rows,v.pen,v.spen⟩
 rw[if_neg A]; exact v
def AY:∀(k:Nat)(x:Tm),x.fQ->x.Sz->(Tm.drain cI k x).1.fQ
 |0,x,v,_=>v
 |k+1,x,v,s=>by
  rw[Tm.drain];by_cases h:x.rest≠[]/\cI.full x.rest=bv
  .rw[if_pos h];by_cases f:x.rest.headD 0=27
   .rw[if_pos f];exact⟨v.rows,v.pen,v.spen⟩
   .rw[if_neg f]
    obtain⟨r,n,e⟩:∃ r n,cI.dec x.rest=(r,n):=⟨_,_,rfl⟩
    simp only[e];obtain⟨y,j⟩:=ac ((if r≠65533\/n>1 then x.character cI r else x));rw[j]
    have c:y.Sz/\y.fQ:=by
     rw[<-j];split
     .exact⟨s.character r,v.character s r⟩
     .exact⟨s,v⟩
    have o:(y.aR (y.rest.drop n)).fQ:=⟨c.2.rows,c.2.pen,c.2.spen⟩
    exact AY k (y.aR (y.rest.drop n)) o (c.1.aR _)
  .rw[if_neg h];exact v
def Nj{x:Tm}(v:x.fQ)(s:x.Sz)(c:UInt8):(x.byte c).1.fQ:=by
 unfold Tm.byte;split
 .have f:(x.aR (x.rest++[c])).fQ:=⟨v.rows,v.pen,v.spen⟩
  exact AY (x.rest.length+2) (x.aR (x.rest++[c])) f (s.aR _)
 .exact v.second c
 .exact v
 .exact v.parameter s c
 .unfold Tm.ignore;split
  .exact v
  .exact⟨v.rows,v.pen,v.spen⟩
def DS{x:Tm}(v:x.fQ)(s:x.Sz)(j:x.params.length<=65):∀(f:List UInt8),(x.feed cI f).fQ
 |[]=>v
 |c::f=>by have h:=Nj v s c;obtain⟨a,b,d,e⟩:=wz s j c;have:=DS (x:=(x.byte c).1.fY (x.byte c).2) ⟨h.rows,h.pen,h.spen⟩ (a.fY b) d f;rw[<-step_eq]at this;exact this
def JR{h w:Nat}(f:1<=h)(j:h<=200)(w1:1<=w)(n:w<=300)(c:List UInt8):∀ l∈((Tm.new h w).feed cI c).grid,Whole l :=
 (DS (Ic h w) (xS f j w1 n) (by simp[Tm.new]) c).rows
def Dm(x y:Tm):Prop:=y.h=x.h/\y.w=x.w
def Dm.rfl{x:Tm}:Dm x x:=⟨Eq.refl _,Eq.refl _⟩
def Dm.trans{x y z:Tm}(a:Dm x y)(b:Dm y z):Dm x z:=⟨b.1.trans a.1,b.2.trans a.2⟩
def Dm.of{x y:Tm}(h:y.grid=x.grid):Dm x y:=by simp only[Dm,Tm.h,Tm.w,h,and_self]
def Dm.set{x y z:Tm}(a:Dm x y)(h:z.grid=y.grid):Dm x z:=a.trans (Dm.of h)
def CE{x:Tm}(s:x.Sz){f c n:Nat}(up:Bool)(j:f<=c)(o:c<x.h):Dm x (x.fe f c n up):=by obtain⟨r,z,_⟩:=wC (n:=n) s up j o;exact⟨r,z⟩
def FD{x:Tm}(s:x.Sz)(c:Int):Dm x (x.control c):=by
 unfold Tm.control;split
 .exact Dm.of rfl
 .split
  .exact Dm.of rfl
  .split
   .split
    .obtain⟨t,f⟩:∃ r:Nat,x.top=r:=⟨x.top.toNat,by have:=s.t1; omega⟩
     obtain⟨b,h⟩:∃ b:Nat,x.bottom=b:=⟨x.bottom.toNat,by have:=s.t1; have:=s.t2; omega⟩
     rw[f,h];exact CE s (n:=1) bv (by have:=s.t2; omega) (by have:=s.t3; omega)
    .exact Dm.of rfl
   .split
    .exact Dm.of rfl
    .exact Dm.rfl
def Fq{x:Tm}(s:x.Sz){r c n:Nat}{f:Int}(j:r<x.h)(o:c+n<=x.w)(A:f≠-1):Dm x (x.written r c n f):=by
 have C:=s.blank j (show c<=c+n by omega) o;have z:=ft s j (show c<=c+n by omega) o;have s2:=C.put (i:=c) (c:=⟨f,x.pen⟩) (by rw[z.1]; exact j) (.inl A);have B:=tc C (i:=c) (c:=⟨f,x.pen⟩) (by rw[z.1]; exact j);have a:Dm x ((x.blank r c (c+n:Nat)).put r c ⟨f,x.pen⟩):=Dm.trans ⟨z.1,z.2⟩ ⟨B.1,B.2⟩;unfold Tm.written;simp only;split
 .have D:=tc s2 (i:=c+1) (c:=⟨-1,x.pen⟩) (by rw[B.1,z.1]; exact j);exact (a.trans ⟨D.1,D.2⟩).set rfl
 .exact a.set rfl
def CN{u:n5}{x:Tm}(s:x.Sz)(f:Int):Dm x (x.character u f):=by
 unfold Tm.character;split
 .exact FD s f
 .rename_i o
  obtain⟨r,n⟩:∃ r:Nat,x.row=r:=⟨x.row.toNat,by have:=s.r1; omega⟩
  obtain⟨c,j⟩:∃ c:Nat,x.col=c:=⟨x.col.toNat,by have:=s.c1; omega⟩
  rw[oP u x f r c n j];split
  .exact Dm.rfl
  .rename_i h;exact Fq s (by have:=s.r2; omega) li li
def rP(l:List Int):∀(k i:Nat){x:Tm},x.Sz->i+k<=x.h->Dm x (Tm.bL l i k x)
 |0,_,_,_,_=>Dm.rfl
 |k+1,i,x,s,h=>by rw[cV];obtain⟨a,b,c,_⟩:=s.bK l (i:=i) li;exact Dm.trans ⟨b,c⟩ (rP l k (i+1) a li)
def C9{x:Tm}(s:x.Sz)(l:List Int):Dm x (x.cf l):=by obtain⟨a,b,c,_⟩:=s.aU l;exact Dm.trans ⟨b,c⟩ (rP l _ _ a (by rw[b]; simp[Tm.h]))
def DH{x:Tm}(s:x.Sz)(n:Nat)(up:Bool):Dm x (x.lines n up):=by
 unfold Tm.lines;split
 .rename_i h
  obtain⟨r,c⟩:∃ r:Nat,x.row=r:=⟨x.row.toNat,by have:=s.r1; omega⟩
  obtain⟨b,f⟩:∃ b:Nat,x.bottom=b:=⟨x.bottom.toNat,by have:=s.t1; have:=s.t2; omega⟩
  rw[c,f];have:=s.t3;exact CE s up li li
 .exact Dm.rfl
def Fy{x:Tm}(s:x.Sz)(f:UInt8)(l:List Int)(S:1<=count l):Dm x (x.aT f l):=by
 obtain⟨n,o⟩:∃ n:Nat,count l=n:=⟨(count l).toNat,by omega⟩
 unfold Tm.aT;by_cases r:f=65
 .rw[if_pos r]; exact Dm.of rfl
 rw[if_neg r];by_cases z:f=66
 .rw[if_pos z]; exact Dm.of rfl
 rw[if_neg z];by_cases A:f=67
 .rw[if_pos A]; exact Dm.of rfl
 rw[if_neg A];by_cases B:f=68
 .rw[if_pos B]; exact Dm.of rfl
 rw[if_neg B];by_cases C:f=71
 .rw[if_pos C]; exact Dm.of rfl
 rw[if_neg C];by_cases D:f=100
 .rw[if_pos D]; exact Dm.of rfl
 rw[if_neg D];by_cases I:f=72\/f=102
 .rw[if_pos I]; exact Dm.of rfl
 rw[if_neg I];by_cases J:f=74
 .rw[if_pos J]; exact C9 s l
 rw[if_neg J];by_cases O:f=75
 .rw[if_pos O]; exact⟨(s.aU l).2.1,(s.aU l).2.2.1⟩
 rw[if_neg O];by_cases R:f=76
 .rw[if_pos R]; rw[o]; exact DH s _ _
 rw[if_neg R];by_cases c:f=77
 .rw[if_pos c]; rw[o]; exact DH s _ _
 rw[if_neg c];by_cases h:f=109
 .rw[if_pos h]; exact Dm.of rfl
 rw[if_neg h];by_cases j:f=114
 .rw[if_pos j,mi];split
  .exact Dm.of rfl
  .exact Dm.rfl
 rw[if_neg j];exact Dm.rfl
def GP{x:Tm}(s:x.Sz)(f:UInt8):Dm x (x.dJ f):=by
 unfold Tm.dJ;split
 .exact Dm.of rfl
 .split
  .exact Fy s f _ (tT _)
  .exact Dm.rfl
def Co{x:Tm}(s:x.Sz)(c:UInt8):Dm x (x.parameter c).1:=by
 unfold Tm.parameter;by_cases f:c=27
 .rw[if_pos f]; exact Dm.rfl
 rw[if_neg f];by_cases h:64<=c/\c<=126
 .rw[if_pos h];simp only;split
  .exact GP s c
  .exact Dm.rfl
 rw[if_neg h];by_cases j:c<32\/c>126\/(c ≥ 48/\x.middle=bv)
 .rw[if_pos j]; exact Dm.rfl
 rw[if_neg j];simp only;split
 .exact Dm.of rfl
 .exact Dm.of rfl
def J5{x:Tm}(s:x.Sz)(c:UInt8):Dm x (x.second c).1:=by
 unfold Tm.second;by_cases f:c=91
 .rw[if_pos f]; exact Dm.of rfl
 rw[if_neg f];by_cases j:c=93
 .rw[if_pos j]; exact Dm.of rfl
 rw[if_neg j];by_cases o:c=27
 .rw[if_pos o]; exact Dm.rfl
 rw[if_neg o];by_cases z:32<=c/\c<48
 .rw[if_pos z]; exact Dm.rfl
 rw[if_neg z];by_cases A:c=55
 .rw[if_pos A]; exact Dm.of rfl
 rw[if_neg A];by_cases B:c=56
 .rw[if_pos B]; exact Dm.of rfl
 rw[if_neg B];by_cases C:c=99
 .rw[if_pos C]; exact⟨xG x.h x.w,EO x.w s.h1⟩
 rw[if_neg C];by_cases D:c=77/\x.row=x.top
 .rw[if_pos D]
  obtain⟨t,J⟩:∃ r:Nat,x.top=r:=⟨x.top.toNat,by have:=s.t1; omega⟩
  obtain⟨b,O⟩:∃ b:Nat,x.bottom=b:=⟨x.bottom.toNat,by have:=s.t1; have:=s.t2; omega⟩
  simp only[J,O];exact CE s (n:=1) gc (by have:=s.t2; omega) (by have:=s.t3; omega)
 rw[if_neg D];by_cases I:c=77
 .rw[if_pos I]; exact Dm.of rfl
 rw[if_neg I]; exact Dm.rfl
def Dz:∀(k:Nat)(x:Tm),x.Sz->Dm x (Tm.drain cI k x).1
 |0,x,_=>Dm.rfl
 |k+1,x,s=>by
  rw[Tm.drain];by_cases h:x.rest≠[]/\cI.full x.rest=bv
  .rw[if_pos h];by_cases c:x.rest.headD 0=27
   .rw[if_pos c];exact Dm.of rfl
   .rw[if_neg c]
    obtain⟨r,n,e⟩:∃ r n,cI.dec x.rest=(r,n):=⟨_,_,rfl⟩
    simp only[e];obtain⟨y,f⟩:=ac ((if r≠65533\/n>1 then x.character cI r else x));rw[f]
    have j:y.Sz/\Dm x y:=by
     rw[<-f];split
     .exact⟨s.character r,CN s r⟩
     .exact⟨s,Dm.rfl⟩
    have a:Dm x (y.aR (y.rest.drop n)):=j.2.set rfl;exact a.trans (Dz k (y.aR (y.rest.drop n)) (j.1.aR _))
  .rw[if_neg h];exact Dm.rfl
def OB{x:Tm}(s:x.Sz)(c:UInt8):Dm x (x.byte c).1:=by
 unfold Tm.byte;split
 .have a:Dm x (x.aR (x.rest++[c])):=Dm.of rfl;exact a.trans (Dz (x.rest.length+2) (x.aR (x.rest++[c])) (s.aR _))
 .exact J5 s c
 .exact Dm.rfl
 .exact Co s c
 .unfold Tm.ignore;split
  .exact Dm.rfl
  .exact Dm.of rfl
def IP{x:Tm}(s:x.Sz)(j:x.params.length<=65):∀(f:List UInt8),Dm x (x.feed cI f)
 |[]=>Dm.rfl
 |c::f=>by
  obtain⟨a,b,d,e⟩:=wz s j c;have h:=IP (x:=(x.byte c).1.fY (x.byte c).2) (a.fY b) d f;rw[<-step_eq]at h;have n:Dm x (x.step cI c):=by rw[step_eq]; exact (OB s c).set rfl
  exact n.trans h
def IN{c:Int}(h:cellW c≠0):cM c=cellW c:=by
 unfold cellW at h ⊢;split at h
 .exact absurd rfl h
 .rename_i f;have hi:Go.Proofs.YtpohjcacnkhnkaaGreatDoor.rj c=true:=LY h;rw[if_neg f];unfold cM
  rw[hi,if_neg (by
   simp only[zE4,zF6,zG3,decide_eq_true_eq]
   exact f)]
def H7{k:Lk}(o:k.Ok):te (Sx k)=true:=by have:=o.f0; have:=o.f1; have:=o.b0; have:=o.b1;unfold te Sx;simp only[zA7,decide_eq_true_eq];omega
def yL{l:List Ce}(w:Whole l):∀(n k:Nat),l.length-k<=n->(∀ c,l[k]?=ap c->c.rune≠-1)->lJ ((l.drop k).map LV)=bv
 |0,k,R,_=>by rw[zE8 li]; rfl
 |n+1,k,R,S=>by
  rcases zC2 k l.length with o|hge
  .obtain⟨c,s⟩:∃ c,l[k]?=ap c:=⟨_,zB3 o⟩
   have O:l.drop k=c::l.drop (k+1):=by rw[List.drop_eq_getElem_cons o];rw[zB3 o,i5]at s;rw[s]
   obtain⟨ok,h1|⟨T,z⟩|⟨V,_⟩⟩:=w k c s
   .rw[O,zB9,uj];have C:cM (LV c).rune=1:=(IN (c:=c.rune) li).trans h1;have D:te (LV c).look=true:=H7 ok;rw[C,D,if_neg mt,if_neg mt];refine yL w n (k+1) li fun d r I=>?_;obtain⟨j,q,hj,A,B,-⟩:=w.half r I;have:j=k:=by omega
    subst this;rw[s,i5]at A;subst A;omega
   .have f:k+1<l.length:=by
     rcases zC2 (k+1) l.length with h|h
     .exact h
     .rw[zC5 h]at z; cases z
    have J:l.drop (k+1)=⟨-1,c.look⟩::l.drop (k+2):=by rw[List.drop_eq_getElem_cons f];rw[zB3 f,i5]at z;rw[z]
    rw[O,zB9,uj,J,zB9];have C:cM (LV c).rune=2:=(IN (c:=c.rune) li).trans T;have D:te (LV c).look=true:=H7 ok;have e3:LV ⟨-1,c.look⟩=(LV c).look.ce (-1):=rfl;rw[C,D,e3,if_neg mt,if_pos rfl];simp only[decide_true,Bool.true_and];refine yL w n (k+2) li fun d r I=>?_;obtain⟨j,q,hj,A,B,-⟩:=w.half r I;have:j=k+1:=by omega
    subst this;rw[z,i5]at A;subst A;exact absurd (oN.symm.trans B) mt
   .exact absurd V (S c s)
  .rw[zE8 hge]; rfl
def Pl{l:List Ce}(w:Whole l):lJ (l.map LV)=true:=by
 have:=yL w l.length 0 li fun c f h=>by obtain⟨j,q,n,-⟩:=w.half f h;omega
 rwa [zD2]at this
def Nw{g:List (List Sb)}{r c:Int}{W:Nat}(o:1<=g.length)(B:g.length<=200)(w1:1<=W)(C:W<=1000)(h:∀ l∈g,lJ l=bv/\l.length=W)(f:(0<=r/\r<g.length/\0<=c/\c<W)\/(r=-1/\c=0)):N9 g r c=0/\E3 g=W:=by
 have j:E3 g=W:=by
  cases g with
  |nil=>simp at o
  |cons l g=>exact (h l lw).2
 refine⟨?_,j⟩;unfold N9;rw[j];have s:(ge ((g.length:Int)<1)||ge (200<(g.length:Int)))=false:=by rw[decide_eq_false li,decide_eq_false li]; rfl
 have z:(ge ((W:Int)<1)||ge (1000<(W:Int))||(!(ge (0<=r)&&ge (r<(g.length:Int))&&ge (0<=c)&&ge (c<(W:Int)))&&!(ge (r=-1)&&ge (c=0))))=false:=by
  rw[decide_eq_false (by omega:¬(W:Int)<1),decide_eq_false (by omega:¬1000<(W:Int))]
  rcases f with⟨a,b,d,e⟩|⟨a,b⟩
  .rw[decide_eq_true a,decide_eq_true b,decide_eq_true d,decide_eq_true e]; rfl
  .rw[decide_eq_true a,decide_eq_true b]; simp
 have A:F1 W g=true:=by unfold F1;rw[zD3];intro l n;unfold Pv;rw[(h l n).1,decide_eq_true (h l n).2]; rfl
 rw[s,z,A]; rfl
def QM{t:Tm}(s:t.Sz)(f:∀ l∈t.grid,Whole l):N9 (BD t.grid) t.jq t.jf=0/\E3 (BD t.grid)=t.w:=by
 have o:=s.h1;have r:=s.h2;have w1:=s.w1;have z:=s.w2;have j:(BD t.grid).length=t.h:=by rw[BD,zE9]; rfl
 refine Nw li li li li (fun l n=>?_) ?_
 .obtain⟨m,c,rfl⟩:=zB6.1 n;exact⟨Pl (f m c),by rw[zE9]; exact s.ws m c⟩
 .have hi:=eT s;have:=s.r1;have:=s.r2;rw[j];unfold Tm.jq Tm.jf;cases t.shown
  .exact .inr ⟨rfl,rfl⟩
  .simp only[cond_true];exact .inl ⟨by omega,by omega,by omega,by omega⟩
section
variable{W:Nat}{x y:St}{t:Tm}
end
def Live.quiet{H H1:aa}{p:Rp}{x:Tm}(l:Live H p x)(m:Mod [] H H1):Live H1 p x:=by obtain⟨t,a,b⟩:=l.tb.step (Step.quiet l.at_ m) l.p0 l.p1;exact⟨(Step.quiet l.at_ m).at_,l.sz,t,l.p0,l.p1,l.pl⟩
def NI{H:aa}{h w:Nat}(ok:H.base<=H.next)(c:ss H)(r:1<=h)(B:h<=40)(w1:1<=w)(C:w<=100) :
  aL Tryz.prog 10 [i7 i8 (h:Int),i7 i8 (w:Int)] H fun out H1=>∃ p,out=.ok (.tuple ⟨[i9 (ap ⟨p.t,0,bi⟩),i7 i8 0]⟩)/\Live H1 p (Tm.new h w)/\Mod [] H H1/\∀ n∈p.au,H.next<=n:=by
 refine (PO H h w ok r li w1 li).mono ?_;rintro out H1 ⟨p,rfl,t,m,j,_,_⟩;have s:=m.bk c.l0 lw;have z:=m.bk c.l1 lw;refine⟨p,rfl,⟨t,xS r li w1 li,⟨fun a A=>by rw[s]; exact c.f a A,fun i hi=>by rw[z]; exact c.a i hi,m.lt c.l0,m.lt c.l1⟩,fun o=>?_,fun o=>?_,by simp[Tm.new]⟩,m,j⟩
 .have:=j 0 o; have:=c.l0; omega
 .have:=j 1 o; have:=c.l1; omega
def Pe(H:aa)(h w:Int)(z:h<1\/w<1)(A:h<=40):Pure 10 [i7 i8 h,i7 i8 w] H (.tuple ⟨[i9 bi,i7 i8 3]⟩):=by
 obtain⟨f,j⟩:∃ d,ge (h<1)=d:=⟨_,rfl⟩
 have r:ge ((200:Int)<h)=false:=decide_eq_false li
 obtain⟨n,o⟩:∃ d,ge (w<1)=d:=⟨_,rfl⟩
 have c:¬(f=gc/\n=gc):=fun⟨a,b⟩=>by have:=of_decide_eq_false (j.trans a);have:=of_decide_eq_false (o.trans b);omega
 refine ba mixed Tryz.func10 rfl Tryz.ntmps10 (zA8 rfl) fun wf s=>?_
 cases f<;>cases n<;>first
  |exact absurd ⟨rfl,rfl⟩ c
  |(simp only[j,r,o,Tryz.results10,zW,seval]; exact Fin.cq rfl rfl)
def Of(H:aa)(t:KE H):br Tryz.prog 6 [] H (.ok (kw bv)) H:=by
 obtain⟨c,f,h,j⟩:=t;refine JM mixed (Jh _) rfl (Kh c f) (fun x hx=>?_);simp only[RG,zA9,zF2,or_false]at hx;rcases hx with rfl|rfl
 .exact⟨show 0<Tryz.prog.globals.size by decide +kernel,by kernel_rfl,h⟩
 .exact⟨show 1<Tryz.prog.globals.size by decide +kernel,by kernel_rfl,j⟩
end Go.Proofs.YtpohjcacnkhnkaaGreatDoor.Tq
namespace Go.Proofs.YtpohjcacnkhnkaaGreatDoor
open Go.Ax
end Go.Proofs.YtpohjcacnkhnkaaGreatDoor
namespace Go.Ax
end Go.Ax
namespace Go.Proofs.YtpohjcacnkhnkaaGreatDoor.Tq
open Go.Ax
def zT{N:Nat}{H:aa}{n w h:Nat}{rs:List (Nat × Bool)}{g:List (List Ce)}(o:CZ N H (jp (ap ⟨n,0,bi⟩) h h) w rs g)(S:g.length=h)(B:rs.length=h)(h1:1<=h)(w1:1<=w)(T:∀ l∈g,l.length=w):uY H (jp (ap ⟨n,0,bi⟩) h h) (BD g):=by
 have J:bk H n=ap ⟨56,bv,rs.map (aM w)⟩:=by
  rcases o.at_ with⟨e,_⟩|⟨_,n',e,C⟩
  .rw[e]at B; simp at B; omega
  .simp only[Value.slice.injEq,i5,Addr.mk.injEq,and_true]at e;rw[e.1]; exact C
 have D:=o.blk n ol;have c:(BD g).length=h:=by rw[BD,zE9,S]
 refine .inr ⟨fun e=>by rw[e]at c; simp at c; omega,rs.map (aM w),by rw[zE9,c,B],⟨n,0,bi,0,56,bv,rs.map (aM w),by rw[c,zD6],.inr ⟨rfl,_,J⟩,ma J,D.2.1,by rw[c,zE9]; omega,?_⟩,fun k V O=>?_⟩
 .rw[zD2,zC3 (by rw[c,zE9]; omega)]
 .rw[BD,zE1,zB5]at O;obtain⟨r,A,rfl⟩:=O
  have s:k<rs.length:=by
   rcases zC2 k g.length with h'|h'
   .omega
   .rw[zC5 h']at A; cases A
  have R:=zB3 s;have j:=o.row k _ r R A;have I:=T r (zC0 A);have z:=o.rng _ (List.getElem_mem s);have f:(r.map LV).length=w:=by rw[zE9,I]
  refine⟨aM w rs[k],by rw[zE1,R]; rfl,.inr ⟨fun e=>by rw[e]at f; simp at f; omega,rs[k].1,0,(if rs[k].2 then bi else ap 0),0,77,rs[k].2,aQ r,by rw[f,zD6]; rfl,?_,ma j,z.2,by rw[f,bP]; omega,?_⟩⟩
  .cases rs[k].2
   .exact .inl rfl
   .exact .inr ⟨rfl,_,j⟩
  .rw[f,zD2,zC3 (by rw[bP]; omega),OV]
def Qc(H:aa)(p:Rp)(x:Tm)(l:Live H p x)(ok:H.base<=H.next) :
  aL Tryz.prog 15 [i9 (ap ⟨p.t,0,bi⟩)] H fun out Y=>∃ n,out=.ok (.agg ⟨[jp (ap ⟨n,0,bi⟩) x.h x.h,i7 i8 x.jq,i7 i8 x.jf]⟩)/\uY Y (jp (ap ⟨n,0,bi⟩) x.h x.h) (BD x.grid)/\n<Y.next/\Mod [] H Y:=by
 refine (MR H p x l.at_ l.sz ok).mono ?_;rintro _ Y ⟨rs,n,rfl,c,f,m⟩;exact⟨n,rfl,zT f rfl c l.sz.h1 l.sz.w1 l.sz.ws,(f.blk n ol).2.1,m⟩
structure Ry (h w:Nat) (t:Tm):Prop where
 chk:N9 (BD t.grid) t.jq t.jf=0
 hh:t.h=h
 len:(BD t.grid).length=h
 wid:E3 (BD t.grid)=w
 ws:∀ l∈BD t.grid,l.length=w
def JJ{h w:Nat}(f:1<=h)(o:h<=200)(w1:1<=w)(r:w<=300)(c:List UInt8):Ry h w ((Tm.new h w).feed cI c):=by
 have z:(Tm.new h w).Sz:=xS f o w1 r;have A:(Tm.new h w).params.length<=65:=by simp[Tm.new]
 obtain⟨s,_,_⟩:=ko z A c;obtain⟨j,n⟩:=IP z A c;rw[xG]at j;rw[EO w f]at n;obtain⟨B,C⟩:=QM s (JR f o w1 r c)
 exact⟨B,j,by rw[BD,zE9]; exact j,C.trans n,fun l D=>by
  obtain⟨m,I,rfl⟩:=zB6.1 D
  rw[zE9,s.ws m I,n]⟩
def pk(H:aa)(v:gt)(l:List Int):Prop :=
 (∃ a c,v=.slice a l.length c)/\∀(k:Nat)(c:Int),l[k]?=ap c->∃ n off,aS Tryz.prog 22 v (i7 i8 (k:Int))=ap (i9 (ap ⟨n,off,bi⟩))/\n∈ae v/\rl Tryz.prog 3 off (rk H n)=ap (i7 i8 c)
def pk.of{H G:aa}{v:gt}{l:List Int}(h:pk H v l)(j:∀ n∈ae v,G.get n=H.get n):pk G v l :=
 ⟨h.1,fun k c o=>by
  obtain⟨n,off,r,f,s⟩:=h.2 k c o
  exact⟨n,off,r,f,by rw[oF (j n f)]; exact s⟩⟩
def Na(H:aa)(p:Rp)(x:Tm)(s:ByteArray)(v:gt)(sz:List Int)(l:Live H p x)(ok:H.base<=H.next)(hr:x.rest.length+(eL s).length<=900)(hv:pk H v sz)(hvl:∀ n∈ae v,n<H.next)(hvp:∀ n∈ae v,n∉p.au) :
  aL Tryz.prog 12 [i9 (ap ⟨p.t,0,bi⟩),.string s,v] H fun out H1=>out=.ok (.tuple #[])/\∃ p1,Step H p H1 p1 (x.feed cI (eL s)):=by
 obtain⟨av,cv,J⟩:=hv.1;obtain⟨L,hL⟩:=ac sz.length;rw[hL]at J;refine aH mixed Tryz.func12 rfl Tryz.ntmps12 (zA8 rfl) ?_;rw[J];simp only[zW,seval];refine c7 fun E hE=>?_;have O:E 0=i9 (ap ⟨p.t,0,bi⟩):=by rw[hE]; rfl
 have D:E 1=.string s:=by rw[hE]; rfl
 have R:E 2=.slice av L cv:=by rw[hE]; rfl
 have S:E 6=i7 i8 ((0:Nat):Int):=by rw[hE]; rfl
 clear hE
 refine b8 (fun (q:Nat × ByteArray × Tm × Rp) E' H'=>Step H p H' q.2.2.2 q.2.2.1/\Live H' q.2.2.2 q.2.2.1/\q.2.2.1.feed cI (eL q.2.1)=x.feed cI (eL s)/\q.2.2.1.rest.length+(eL q.2.1).length<=900/\q.1<=1000/\q.1+(eL q.2.1).length<=900/\E' 0=i9 (ap ⟨p.t,0,bi⟩)/\E' 1=.string q.2.1/\E' 2=.slice av L cv/\E' 6=i7 i8 (q.1:Int)) (fun q=>(eL q.2.1).length) (0,s,x,p)
  ⟨Step.refl l.at_,l,rfl,hr,by simp,by simp only; omega,O,D,R,S⟩ ?_
 clear O D R S E;rintro⟨i,t,y,p2⟩ E X ⟨st,I,B,hlen,hi,hi2,O,D,R,S⟩;simp only at st I B hlen hi hi2 D S;rw[show X=ext X [] from rfl];have okX:=st.ok ok;obtain⟨T,hT⟩:=ac t.size;have hTl:(eL t).length=T:=by rw[<-BG,hT]
 have V:∀(Y:aa),aF Tryz.prog Y .len ⟨[9]⟩ [.string t]=ap (i7 i8 (T:Int),Y):=fun Y=>by
  have h2:Tryz.prog.underlying 9=ap .string:=by kernel_rfl
  rw[<-hT];simp only[aF,zr,h2,zB1,goInt]
 by_cases hT0:T=0
 .have hd:ge ((0:Int)<(T:Int))=false:=decide_eq_false li;have hnil:eL t=[]:=zE7 li;rw[hnil]at B;simp only[D,V,hd,Tryz.results12,zW,seval];rw[<-B];exact⟨trivial,p2,st⟩
 .have hd:ge ((0:Int)<(T:Int))=true:=decide_eq_true li;have hws:=bA (show i<1000000 by omega);by_cases hL0:L=0
  .have hdL:ge ((0:Int)<(L:Int))=false:=decide_eq_false li;have hn1:1<=T:=by omega
   have c:T<=t.size:=by omega
   have hsp:=KZ (ext X []) t T c;have hso:=fun Y=>HL Y t T c;have j:=tk X (t.extract 0 T) (by show (eL (t.extract 0 T)).length<=_; rw[vQ t T c,zF1]; omega);have h:eL (t.extract 0 T)=(eL t).take T:=vQ t T c;have f:eL (t.extract T t.size)=(eL t).drop T:=Hk t T c;have o:=AW X p2 y (t.extract 0 T) I okX (by rw[h,zF1]; omega);rw[st.same]at o
   .simp only[O,D,R,V,hd,hdL,hsp,aY,j,zW,seval];refine o.mono ?_;rintro _ Z ⟨rfl,p3,C⟩;rw[show Z=ext Z [] from rfl];simp only[D,S,hso,hws,zW,seval];refine aC ⟨(i+1,t.extract T t.size,y.feed cI (eL (t.extract 0 T)),p3),?_,st.trans ok C,I.step C,?_,?_,?_,?_,?_,?_,?_,?_⟩<;>try simp only[O,R,aE,seval]
    .simp only[f,zC1]; omega
    .rw[<-B,h,f,<-Tm.uo,List.take_append_drop]
    .have hk:=(ko I.sz I.pl (eL (t.extract 0 T))).2.2;simp only[f,h,zC1,zF1]at hk ⊢;omega
    .omega
    .simp only[f,zC1]; omega
  .have hdL:ge ((0:Int)<(L:Int))=true:=decide_eq_true li;have hLz:(L:Int)≠0:=by omega
   have hmod:=Nl i L;have hml:i % L<sz.length:=by rw[hL]; exact Nat.mod_lt _ li
   obtain⟨z,hz⟩:∃ z,sz[i % L]?=ap z:=⟨_,zB3 hml⟩
   obtain⟨A,oz,iz,mz,ldz⟩:=hv.2 (i % L) z hz;rw[J]at iz;obtain⟨xb,hxb⟩:=ac X.next;have hnz:A<xb:=hxb▸st.mod.lt (hvl A mz);have ldz':rl Tryz.prog 3 oz (CW (bk X A) (qk X A))=ap (i7 i8 z):=by have e:rk X A=rk H A:=oF (st.mod.get A (hvl A mz) (hvp A mz));rw[show CW (bk X A) (qk X A)=rk X A from rfl,e];exact ldz
   obtain⟨r,hr0,hr1,hpick⟩:=QR X z (T:Int) li li
   obtain⟨n,hn⟩:∃ n:Nat,1+r=n:=⟨(1+r).toNat,by omega⟩
   have hwn:IntKind.i64.wrap (1+r)=(n:Int):=by have:=ak (n:=1+r) li li;rw[show IntKind.i64.wrap (1+r)=_ from this]; exact hn
   have c:n<=t.size:=by omega
   have hsp:=KZ (ext X []) t n c;have hso:=fun Y=>HL Y t n c;have j:=tk X (t.extract 0 n) (by show (eL (t.extract 0 n)).length<=_; rw[vQ t n c,zF1]; omega);have h:eL (t.extract 0 n)=(eL t).take n:=vQ t n c;have f:eL (t.extract n t.size)=(eL t).drop n:=Hk t n c;have o:=AW X p2 y (t.extract 0 n) I okX (by rw[h,zF1]; omega);rw[st.same]at o
   .simp only[D,R,S,V,hd,hdL,hLz,hmod,hxb,hnz,iz,ldz',gE,zW,seval];refine (show br Tryz.prog 28 _ (ext X []) _ (ext X []) from hpick).to ?_;rw[hxb]at j o;simp only[O,D,hwn,hsp,aY,j,zW,seval];refine o.mono ?_;rintro _ Z ⟨rfl,p3,C⟩;rw[show Z=ext Z [] from rfl];simp only[D,S,hso,hws,zW,seval];refine aC ⟨(i+1,t.extract n t.size,y.feed cI (eL (t.extract 0 n)),p3),?_,st.trans ok C,I.step C,?_,?_,?_,?_,?_,?_,?_,?_⟩<;>try simp only[O,R,aE,seval]
    .simp only[f,zC1]; omega
    .rw[<-B,h,f,<-Tm.uo,List.take_append_drop]
    .have hk:=(ko I.sz I.pl (eL (t.extract 0 n))).2.2;simp only[f,h,zC1,zF1]at hk ⊢;omega
    .omega
    .simp only[f,zC1]; omega
def Live.mod{H H1:aa}{p:Rp}{x:Tm}{W:List Nat}(l:Live H p x)(m:Mod W H H1)(h:∀ n∈p.au,n∉W)(j:0∉W)(o:1∉W):Live H1 p x:=by have r:b7 H1 p x:=l.at_.of m.next fun n c=>m.get n (l.at_.lt n c) (h n c);have s:=m.bk l.tb.l0 j;have z:=m.bk l.tb.l1 o;exact⟨r,l.sz,⟨fun a A=>by rw[s]; exact l.tb.f a A,fun i hi=>by rw[z]; exact l.tb.a i hi,m.lt l.tb.l0,m.lt l.tb.l1⟩,l.p0,l.p1,l.pl⟩
def Dp(u:n5):∀(n:Nat)(x:Tm)(l:List UInt8),x.Sz->(Tm.jU u n x l).1.Sz
 |0,_,_,s=>s
 |n+1,x,l,s=>by
  by_cases h:l=[]
  .subst h; rw[js]; exact s
  .have c:(qL u x l).2.Sz:=by
    unfold qL;split
    .exact s.iE l
    .exact s.eO u l
   rw[kL u n x h];split
   .exact c
   .exact Dp u n _ _ c
def J7(H:aa)(h w:Int)(z:h<1\/w<1)(A:h<=40):Pure 11 [i7 i8 h,i7 i8 w] H (.tuple ⟨[i9 bi,i7 i8 3]⟩):=by
 obtain⟨f,j⟩:∃ d,ge (h<1)=d:=⟨_,rfl⟩
 have r:ge ((200:Int)<h)=false:=decide_eq_false li
 obtain⟨n,o⟩:∃ d,ge (w<1)=d:=⟨_,rfl⟩
 have c:¬(f=gc/\n=gc):=fun⟨a,b⟩=>by have:=of_decide_eq_false (j.trans a);have:=of_decide_eq_false (o.trans b);omega
 refine ba mixed Tryz.func11 rfl Tryz.ntmps11 (zA8 rfl) fun wf s=>?_
 cases f<;>cases n<;>first
  |exact absurd ⟨rfl,rfl⟩ c
  |(simp only[j,r,o,Tryz.results11,zW,seval]; exact Fin.cq rfl rfl)
def Lo(H:aa)(p:Rq)(x:Tm)(g:cL H p x)(s:x.Sz)(ok:H.base<=H.next) :
  aL Tryz.prog 16 [i9 (ap ⟨p.t,0,bi⟩)] H fun out Y=>∃ n,out=.ok (.agg ⟨[jp (ap ⟨n,0,bi⟩) x.h x.h,i7 i8 x.jq,i7 i8 x.jf]⟩)/\uY Y (jp (ap ⟨n,0,bi⟩) x.h x.h) (BD x.grid)/\n<Y.next/\Mod [] H Y:=by
 refine (GM H p x g s ok).mono ?_;rintro _ Y ⟨rs,n,rfl,c,f,m⟩;exact⟨n,rfl,zT f rfl c s.h1 s.w1 s.ws,(f.blk n ol).2.1,m⟩
def Gx{C:Nat}{l:List zB}(j:∀ o∈l,∀ b,l8 o=ap b->b.length<=C):∀ {b},dM l=ap b->b.length<=C*l.length:=by
 induction l with
 |nil=>intro b h; cases h; simp
 |cons a l n =>
  intro b h;rw[dM]at h
  cases c:l8 a with
  |none=>rw[c]at h; cases h
  |some x =>
   cases f:dM l with
   |none=>rw[c,f]at h; cases h
   |some y =>rw[c,f]at h;cases h;have s:=j a lw x c;have z:=n (fun o r=>j o (by simp[r])) f;rw[zB2,zA3,Nat.mul_succ];omega
def OM{o:zB}(f:o.text.data.toList.length<=1048576){b:List UInt8}(h:l8 o=ap b):b.length<=1048776:=by
 by_cases c:o.kind=3
 .unfold l8 at h;rw[if_neg li,if_neg li,if_pos c]at h;split at h
  .cases h
  .split at h
   .cases h; omega
   .cases h
 .have:=P4 c h;omega
def RQ.cI{H X:aa}{r:Option (List UInt8)}{out:Out}(h:RQ H r out X):∃ u e,out=.ok (.tuple #[u,i7 i8 e])/\e=(r.elim 5 fun _=>0)/\cK X 5 1 u (aq (r.getD [])) (r.getD []).length/\(∀ n∈ae u,H.next<=n)/\Mod [] H X:=by
 obtain⟨m,h⟩:=h
 cases r with
 |none=>exact⟨_,5,h,rfl,cK.nil,fun n c=>by simp[ae]at c,m⟩
 |some cs =>obtain⟨u,f,j,o⟩:=h;exact⟨u,0,f,rfl,j,o,m⟩
def xC(a b:Int)(c d e:Bool):fits Tryz.prog [3,3,4,4,4] [i7 i8 a,i7 i8 b,kw c,kw d,kw e]=true:=by
 have f:Tryz.prog.underlying 3=ap (.int i8):=by kernel_rfl
 have h:Tryz.prog.underlying 4=ap .bool:=by kernel_rfl
 simp[fits,pr,f,h]
def Jj(a b:Int)(c d e:Bool):BB [i7 i8 a,i7 i8 b,kw c,kw d,kw e] [i7 i8 a,i7 i8 b,kw c,kw d,kw e]=true:=by simp[BB,MT]
def Oz(H:aa)(h w:Int)(s:ByteArray)(zv:gt)(sz:List Int)(ov:gt)(l:List zB)(t:Px H)(hok:H.base<=H.next)(hz:pk H zv sz)(hzl:∀ n∈ae zv,n<H.next)(hl:lz H ov l)(J:∀ o∈l,o.text.data.toList.length<=1048576)(hsc:aV H.next ov=bv) :
  aL Tryz.prog 3 [i7 i8 h,i7 i8 w,.string s,zv,ov] H (fun out X=>out=.ok (kw bv)/\Mod [] H X):=by
 obtain⟨oa,oc,eo⟩:=hl.sl;obtain⟨va,vc,ez⟩:=hz.1;obtain⟨T,hT⟩:=ac s.size;have hTl:(eL s).length=T:=by rw[<-BG,hT]
 have hls:∀(Y:aa),aF Tryz.prog Y .len ⟨[9]⟩ [.string s]=ap (i7 i8 (T:Int),Y):=fun Y=>by
  have h2:Tryz.prog.underlying 9=ap .string:=by kernel_rfl
  rw[<-hT];simp only[aF,zr,h2,zB1,goInt]
 obtain⟨d6,hd6⟩:∃ d,ge ((600:Int)<(T:Int))=d:=⟨_,rfl⟩
 obtain⟨d4,hd4⟩:∃ d,ge ((40:Int)<h)=d:=⟨_,rfl⟩
 obtain⟨d1,hd1⟩:∃ d,ge ((100:Int)<w)=d:=⟨_,rfl⟩
 obtain⟨dl,hdl⟩:∃ d,ge ((40:Int)<(l.length:Int))=d:=⟨_,rfl⟩
 refine aH mixed Tryz.func3 rfl Tryz.ntmps3 (zA8 rfl) ?_;rw[eo];simp only[zW,seval];refine (Of (ext H []) t.2.1).to ?_
 cases j:(d6||(d4||(d1||dl))) with
 |true =>
  cases d6<;>cases d4<;>cases d1<;>cases dl<;>first
   |(exfalso; revert j; decide)
   | (simp only [hls, hd6, hd4, hd1, hdl, Tryz.results3, zW, seval]
      exact⟨trivial,Mod.refl⟩)
 |false =>
 have k6:d6=false:=by cases d6<;>first|rfl|(exfalso; revert j; cases d4<;>cases d1<;>cases dl<;>decide)
 have k4:d4=false:=by cases d4<;>first|rfl|(exfalso; revert j; cases d6<;>cases d1<;>cases dl<;>decide)
 have k1:d1=false:=by cases d1<;>first|rfl|(exfalso; revert j; cases d6<;>cases d4<;>cases dl<;>decide)
 have kl:dl=false:=by cases dl<;>first|rfl|(exfalso; revert j; cases d6<;>cases d4<;>cases d1<;>decide)
 rw[k6]at hd6;rw[k4]at hd4;rw[k1]at hd1;rw[kl]at hdl;have hT6:T<=600:=by have:=of_decide_eq_false hd6; omega
 have hh4:h<=40:=by have:=of_decide_eq_false hd4; omega
 have hw1:w<=100:=by have:=of_decide_eq_false hd1; omega
 have hl4:l.length<=40:=by have:=of_decide_eq_false hdl; omega
 have hB:∀ k b,dM (l.take k)=ap b->b.length<=41951040:=fun k b hb=>by have:=Gx (C:=1048776) (fun o ho=>fun b hb=>OM (J o (List.mem_of_mem_take ho)) hb) hb;rw[zF1]at this;have:=Nat.min_le_right k l.length;omega
 have hB0:((dM l).getD []).length<=41951040:=by
  cases hb:dM l with
  |none=>simp
  |some b=>exact hB l.length b (by rw[List.take_length]; exact hb)
 simp only[hls,hd6,hd4,hd1,hdl,zW,seval];rw[<-eo];refine aL.mono (show aL Tryz.prog 7 [ov] (ext H []) _ from N2 H t ov l hl li (fun k b hb=>by have:=hB k b hb; omega) (fun o ho _=>by rw[jA]; have:=J o ho; omega) hsc hok) ?_;intro out X1 O;obtain⟨u,e,rfl,he,vu,iu,m1⟩:=O.cI;have ok1:=m1.ok hok;rw[show X1=ext X1 [] from rfl];simp only[zW,seval];refine aL.mono (show aL Tryz.prog 8 [ov] (ext X1 []) _ from M9 X1 ov l (hl.zz m1) li (fun k b hb=>by have:=hB k b hb; omega) (fun o ho=>by have:=J o ho; omega) (cS m1.next _ hsc) ok1) ?_;intro out z O;obtain⟨u2,e2,rfl,he2,vu2,iu2,m2⟩:=O.cI;have ok2:=m2.ok ok1;obtain rfl:e2=e:=he2.trans he.symm;have I:=m1.trans m2;obtain⟨B,hBB⟩:=ac ((dM l).getD []);rw[hBB]at vu vu2 hB0;have vu':cK z 5 1 u (aq B) B.length:=vu.of m2.next fun n c=>m2.get n (vu.ne n c).2 lw;obtain⟨by1,bl1⟩:=DB vu';obtain⟨by2,bl2⟩:=DB vu2;have S:=Ol z u u2 B B by1 bl1 by2 bl2 li li;rw[decide_eq_true rfl]at S;rw[show z=ext z [] from rfl];simp only[zW,seval];refine (show br Tryz.prog 9 _ (ext z []) _ (ext z []) from S).to ?_;have hz0:∀ i:Decidable (¬True),@decide (¬True) i=false:=fun i=>by simp
 by_cases hbad:h<1\/w<1
 .simp only[hz0,ne_eq,zW,seval];refine (show br Tryz.prog 10 _ (ext z []) _ (ext z []) from Pe z h w hbad hh4).to ?_;simp only[zW,seval];refine (show br Tryz.prog 11 _ (ext z []) _ (ext z []) from J7 z h w hbad hh4).to ?_;simp only[hz0,ne_eq,Tryz.results3,zW,seval];exact⟨trivial,I⟩
 obtain⟨h,rfl⟩:∃ n:Nat,h=n:=⟨h.toNat,by omega⟩
 obtain⟨w,rfl⟩:∃ n:Nat,w=n:=⟨w.toNat,by omega⟩
 have tb2:ss z:=Pm (t.mod I lw).2.1 (by have:=t.1; have:=I.next; omega) (by have:=t.1; have:=I.next; omega);simp only[hz0,ne_eq,zW,seval];refine aL.mono (show aL Tryz.prog 10 _ (ext z []) _ from NI ok2 tb2 li li li li) ?_;rintro _ X3 ⟨p,rfl,lt3,m3,n3⟩;replace n3:∀ n∈p.au,z.next<=n:=n3;replace m3:Mod [] z X3:=m3;have ok3:=m3.ok ok2;have mH3:=I.trans m3;rw[show X3=ext X3 [] from rfl];simp only[zW,seval];refine aL.mono (show aL Tryz.prog 11 _ (ext X3 []) _ from IY X3 h w ok3 li li li li) ?_;rintro _ X4 ⟨q,rfl,gq4,m4,n4,rv4⟩;replace n4:∀ n∈q.au,X3.next<=n:=n4;replace m4:Mod [] X3 X4:=m4;have ok4:=m4.ok ok3;have mH4:=mH3.trans m4;have lt4:=lt3.quiet m4;have n03:=mH3.next;have dpq:∀ n∈p.au,n∉q.au:=fun n c hm=>by have:=lt3.at_.lt n c; have:=n4 n hm; omega
 rw[show X4=ext X4 [] from rfl];simp only[hz0,ne_eq,zW,seval]
 obtain⟨F0,V⟩:∃ F,Tm.new h w=F:=⟨_,rfl⟩
 have hr0:F0.rest.length=0:=by rw[<-V]; simp[Tm.new]
 have hid:Idle F0:=by rw[<-V]; exact⟨rfl,rfl⟩
 have sz0:F0.Sz:=by rw[<-V]; exact xS li li li li
 rw[V]at lt4 gq4;have hz4:pk X4 zv sz:=hz.of fun n c=>mH4.get n (hzl n c) lw;refine aL.mono (show aL Tryz.prog 12 _ (ext X4 []) _ from Na X4 p F0 s zv sz lt4 ok4 li hz4 (fun n c=>mH4.lt (hzl n c)) (fun n c hu=>by have:=n3 n hu; have:=hzl n c; have:=I.next; omega)) ?_;rintro _ A ⟨rfl,p5,f⟩;replace f:Step X4 p A p5 (F0.feed cI (eL s)):=f;have ok5:=f.ok ok4;have lt5:=lt4.step f;have mH5:Mod [] H A:=mH4.step f.mod hok fun n c=>.inr (zC7 I.next (n3 n c));have gq5:cL A q F0:=gq4.of f.mod.next fun n c=>f.mod.get n (gq4.lt n c) fun hm=>dpq n hm c
 have dpq5:∀ n∈p5.au,n∉q.au:=fun n c hm=>by
  rcases f.new n c with h1|h1
  .exact dpq n h1 hm
  .have:=gq4.lt n hm; omega
 have ep5:p5.t=p.t:=f.same;have cv:bM Tryz.prog (ext A []) 9 25 (.string s)=ap (jp (ap ⟨A.next,0,bi⟩) s.data.toList.length s.data.toList.length,ext A [⟨5,bv,aq s.data.toList⟩]):=tk A s (by rw[show s.data.toList.length=T from hTl]; omega);rw[show A=ext A [] from rfl];simp only[aY,cv,zW,seval]
 obtain⟨X6,hX6⟩:∃ X,ext A [⟨5,bv,aq s.data.toList⟩]=X:=⟨_,rfl⟩
 have m6:Mod [] A X6:=hX6▸Mod.ext ok5;have ok6:=m6.ok ok5;have k6:bk X6 A.next=ap ⟨5,bv,aq s.data.toList⟩:=by rw[<-hX6,show A.next=A.next+0 from rfl,bJ rfl lw]; rfl
 have nx6:A.next<X6.next:=by rw[<-hX6,aA]; simp
 have gq6:cL X6 q F0:=gq5.of m6.next fun n c=>m6.get n (gq5.lt n c) lw;have lt6:=lt5.quiet m6;have mH6:=mH5.trans m6;rw[hX6];refine aL.mono (show aL Tryz.prog 13 _ X6 _ from Lt X6 q F0 A.next s.data.toList gq6 sz0 ok6 rv4 k6 nx6 (by rw[show s.data.toList.length=T from hTl]; omega)) ?_;rintro _ X7 ⟨rfl,q7,gq7,m7,eq7⟩;have ok7:=m7.ok ok6;have hq0:∀ n∈q.au,2<n:=fun n c=>by have:=n4 n c; have:=t.1; omega
 have lt7:=lt6.mod m7 dpq5 (fun hm=>by have:=hq0 0 hm; omega) (fun hm=>by have:=hq0 1 hm; omega);have mH7:Mod [] H X7:=mH6.step m7 hok fun n c=>.inr (zC7 mH3.next (n4 n c))
 -- what both show
 obtain⟨M,R,P,D,E,hF⟩:=Oc hid (eL s);obtain⟨Y,hY⟩:=ac (FF cI F0 (eL s));have hY':(F0.jU cI s.data.toList.length s.data.toList).1=Y:=hY;rw[hY']at gq7;rw[hF,hY]at lt7;have sh:=JJ (h:=h) (w:=w) li li li li (eL s);rw[V,hF,hY]at sh;have szY:Y.Sz:=by rw[<-hY]; exact Dp cI _ _ _ sz0
 have hgl:(BD Y.grid).length<1000000:=by have:=sh.len; have e:(Y.wt M R P D E).grid=Y.grid:=rfl; rw[e]at this; omega
 have hgw:∀ a∈BD Y.grid,a.length<1000000:=fun a ha=>by have:=sh.ws a ha; omega
 rw[show X7=ext X7 [] from rfl];simp only[zW,seval];have hs15:=Qc X7 p5 _ lt7 ok7;rw[ep5]at hs15;refine hs15.mono ?_;rintro _ X8 ⟨a,rfl,ga,la,m8⟩;have ok8:=m8.ok ok7;rw[show X8=ext X8 [] from rfl];simp only[zW,seval];have gq8:cL X8 q7 Y:=gq7.of m8.next fun n c=>m8.get n (gq7.lt n c) lw;have hs16:=Lo X8 q7 Y gq8 szY ok8;rw[eq7]at hs16;refine hs16.mono ?_;rintro _ X9 ⟨b,rfl,gb,lb,m9⟩;have ok9:=m9.ok ok8;have hss:=Go.Proofs.YtpohjcacnkhnkaaGreatDoor.zm X9 _ _ (BD Y.grid) (BD Y.grid) Y.jq Y.jf Y.jq Y.jf (ga.zz m9).at_ gb.at_ hgl hgw;rw[decide_eq_true ⟨rfl,rfl,rfl⟩]at hss;rw[show X9=ext X9 [] from rfl];simp only[zW,seval];refine (show br Tryz.prog 14 _ (ext X9 []) _ (ext X9 []) from hss).to ?_;simp only[zW,seval];have lt9:=(lt7.quiet m8).quiet m9;have hp17:=OL X9 p5 _ lt9.at_ lt9.sz ok9;rw[ep5]at hp17;refine hp17.mono ?_;rintro _ X10 ⟨rfl,m10⟩;have ok10:=m10.ok ok9;have m810:=m9.trans m10;have gq10:cL X10 q7 Y:=gq8.of m810.next fun n c=>m810.get n (gq8.lt n c) lw;rw[show X10=ext X10 [] from rfl];simp only[zW,seval];have hp18:=Pf X10 q7 Y gq10 ok10;rw[eq7]at hp18;refine hp18.mono ?_;rintro _ X11 ⟨rfl,m11⟩;have mH11:Mod [] H X11:=((mH7.trans m8).trans m810).trans m11;rw[show X11=ext X11 [] from rfl];have fl44:flat Tryz.prog 10000 44=ap [3,3,4,4,4]:=by kernel_rfl
 have ag44:ey Tryz.prog 44=ap true:=by kernel_rfl
 have gd44:Tryz.prog.eqGuardType Tryz.prog.depth 44=false:=by kernel_rfl
 simp only[QS,zW,seval];refine Ra (r:=true) (xs:=[i7 i8 Y.pen.fore,i7 i8 Y.pen.back,kw Y.pen.bold,kw Y.pen.under,kw Y.pen.inv]) (ys:=[i7 i8 Y.pen.fore,i7 i8 Y.pen.back,kw Y.pen.bold,kw Y.pen.under,kw Y.pen.inv]) fl44 ag44 gd44 (by rw[Jj]; rfl) rfl rfl mt (by simp only[aE,seval]<;>rfl) pm (xC _ _ _ _ _) (xC _ _ _ _ _) ?_;simp only[Tryz.results3,zW,seval];exact⟨trivial,mH11⟩
end Go.Proofs.YtpohjcacnkhnkaaGreatDoor.Tq
namespace Go.Ax
open Go.ChangeShapes
section
variable{P:io}{ρ:Ren}{H:aa}{w:ip}
variable{K:Type}{enc:ii × gt -> K}{spare:Nat -> Bool}{held:Bool}
def Oi{t:ii}{v:gt}(h:pr P t v=bv):af v=true:=by unfold pr at h;split at h<;>first|rfl|cases h
def EI:∀ {ts:List ii} {cs:List gt},fits P ts cs=bv->∀ v∈cs,af v=bv
 |[],[],_,v,hv=>by cases hv
 |t::ts,c::cs,h,v,hv=>by
  simp only[fits,zA7]at h;rcases zA9.1 hv with rfl|hv
  .exact Oi h.1
  .exact EI h.2 v hv
 |[],_::_,h,_,_=>by cases h
 |_::_,[],h,_,_=>by cases h
def RR(P:io)(t:ii):Bool :=
 match P.underlying t with
 |some (.int .u8)=>gc
 |some (.int .u64)=>gc
 |_=>bv
def Oq{t:ii}{v:gt}(j:RR P t=bv)(h:pr P t v=bv):zp v=false:=by
 cases v with
 |int k n =>
  unfold pr at h;split at h
  .rename_i f; cases f
  .rename_i a b c o f;cases f;have e:a=k:=by simpa using h
   rw[e]at o;unfold RR at j;rw[o]at j;cases k<;>first|rfl|cases j
  .rename_i f; cases f
  .cases h
 |_=>rfl
def xp(P:io)(ts:List ii)(vs:List gt)(len:Nat):Prop:=∀ i,i<len->fits P ts ((vs.drop (i*ts.length)).take ts.length)=bv
def KD{ts:List ii}{vs:List gt}{len:Nat}(j:vs.length=len*ts.length)(h:xp P ts vs len):∀ v∈vs,af v=true:=by intro v c;rw[xY len vs j]at c;obtain⟨l,f,c⟩:=List.mem_flatten.1 c;obtain⟨i,hi,rfl⟩:=zB6.1 f;exact EI (h i (zF5.1 hi)) v c
def yZ{vs:List gt}(h:∀ v∈vs,af v=bv)(i:Nat)(hi:i<vs.length):ρ.val (vs.getD i undef)=vs.getD i undef :=
 di ρ _ (h _ (by simp[List.getD,hi]))
def Ro.Rh(R:Ro P ρ H w){t e t0:ii}{ts:List ii}{D I:Nat}{v:gt}{x:DataW K × List MemPlace}(O:P.underlying t=ap (.slice e))(o:bg P e=ap (t0::ts).length)(S:flat P D e=ap (t0::ts))(hu:RR P t0=bv)
  (J:∀ b,spare b=bv) (h:DataW.trod enc P w 0 spare held I t [v]=ap x) :
  ∃ f H1 u vs len,Ro P f H1 w/\Ext H.next ρ f/\Dl H H1/\f.val u=v/\aV H1.next u=bv/\Pb H1 (t0::ts).length u vs len/\xp P (t0::ts) vs len/\∀ i,i<len->∃ (n:Nat) (y:DataW K × List MemPlace),DataW.trod enc P w 0 spare held n e ((vs.drop (i*(t0::ts).length)).take (t0::ts).length)=ap y/\∃ l r,x.1=.slice l r/\y.1∈l:=by
 rcases DataW.trod_slice O h with⟨z,_⟩|⟨a,len,cap,_,_,_,_,z,_,_,T,_⟩
 .simp only[List.cons.injEq,and_true]at z;subst z;exact⟨ρ,H,jp bi 0 0,[],0,R,Ext.refl _ _,Dl.refl,by rw[Ren.val],rfl,⟨by simp,bi,0,rfl,.inl rfl⟩,fun i hi=>absurd hi li,fun i hi=>absurd hi li⟩
 .simp only[List.cons.injEq,and_true]at z;subst z;have j:=OY J O o h;obtain⟨b,off,s⟩:=a;simp only at j
  rcases j with j|⟨rfl,rfl⟩
  case inr =>
   obtain⟨f,H1,u,V,q2,q3,q4,q5,q6⟩:=R.sl (sz:=(t0::ts).length) (len:=0) (cap:=0) (b:=b) (off:=off) (sp:=s) (vs:=[]) (.inr ⟨rfl,rfl⟩) lw (.inl rfl) rfl (.inl rfl) (zA5 _);exact⟨f,H1,u,[],0,V,q2,q3,q4,q5,q6,fun i hi=>absurd hi li,fun i hi=>absurd hi li⟩
  subst j;obtain⟨vs,n,k1,k2,k3,_⟩:=JN O o h;have A:xp P (t0::ts) vs len:=fun i hi=>by obtain⟨y,hy,_⟩:=k3 i hi;exact tF n D e (t0::ts) _ y S o hy
  have B:=KD k1 A;have hsc:aX H.next vs=true:=nt _ (wK B)
  have h0:len=0\/∃ i,i<vs.length/\zp (ρ.val (vs.getD i undef))=false:=by
   rcases Nat.eq_zero_or_pos len with h|h
   .exact .inl h
   .right;have hp:0<vs.length:=by rw[k1]; exact Nat.mul_pos h lw
    refine⟨0,hp,?_⟩;rw[yZ B 0 hp];have hc:=A 0 h;rw[Nat.zero_mul,zD2]at hc
    cases vs with
    |nil=>simp at hp
    |cons y ys =>simp only[zA3,List.take_succ_cons,fits,zA7]at hc;exact Oq hu hc.1
  have C:len=0\/∃ c e fz,w.heap[b]?=ap (.cells c e fz)/\∀ i,i<vs.length->c[off+i]?=ap (ρ.val (vs.getD i undef)):=by
   rcases k2 with h|⟨c,e',fz,z,h2⟩
   .left;exact (Nat.mul_eq_zero.1 h).resolve_right lw
   .exact .inr ⟨c,e',fz,z,fun i hi=>by rw[yZ B i hi]; exact h2 i hi⟩
  obtain⟨f,H1,u,V,q2,q3,q4,q5,q6⟩:=R.sl (cap:=cap) (.inl rfl) k1 C hsc h0 T;exact⟨f,H1,u,vs,len,V,q2,q3,q4,q5,q6,A,fun i hi=>by obtain⟨y,hy,_,h⟩:=k3 i hi; exact⟨n,y,hy,h⟩⟩
def Ro.SN(R:Ro P ρ H w){t e t0:ii}{ts:List ii}{D f:Nat}{v:gt}{x:DataW K × List MemPlace}(r:P.underlying t=ap (.slice e))(n:bg P e=ap (t0::ts).length)(o:flat P D e=ap (t0::ts))(s:RR P t0=bv)
  (j:∀ b,spare b=bv) (h:DataW.trod enc P w 0 spare held f t [v]=ap x) :
  ∃ c H1 u vs len,Ro P c H1 w/\Ext H.next ρ c/\Dl H H1/\c.val u=v/\aV H1.next u=bv/\Pb H1 (t0::ts).length u vs len/\xp P (t0::ts) vs len:=by
 obtain⟨c,H1,u,vs,len,z,A,B,C,I,J,O,_⟩:=R.Rh r n o s j h;exact⟨c,H1,u,vs,len,z,A,B,C,I,J,O⟩
end
open Go.ChangeShapes
section
variable{P:io}{ρ:Ren}{H:aa}{w:ip}
variable{K:Type}{enc:ii × gt -> K}{spare:Nat -> Bool}{held:Bool}
def QQ(P:io)(t:ii):Option (List (ii × Nat)) :=
 match P.underlying t with
 |some (.struct fs)=>ap (fs.toList.map fun f=>(f.type,f.offset))
 |_=>bi
def Gi{t:ii}{l:List (ii × Nat)}{o base:Nat}{cs:List gt}{x:DataW K × List MemPlace}(h:QQ P t=ap l)(hx:DataW.trod enc P w base spare held o t cs=ap x) :
  cs.length=P.cellsOf t/\∃ n:Nat,∀(i:Nat)(ty:ii)(off:Nat),l[i]?=ap (ty,off)->∃ y,DataW.trod enc P w base spare held n ty ((cs.drop off).take (P.cellsOf ty))=ap y/\(Wt P t x.1->Wt P ty y.1)/\∃ l,x.1=.agg l/\y.1∈l:=by
 unfold QQ at h;split at h
 .rename_i fs z;simp only[i5]at h;subst h;obtain⟨xs,n,_,r,B,C,D⟩:=DataW.trod_struct z hx;refine⟨B,n,fun i ty off hi=>?_⟩;rw[zE1,zB5]at hi;obtain⟨f,s,A⟩:=hi;simp only[i6]at A;obtain⟨rfl,rfl⟩:=A;have c:fs[i]?=ap f:=by simpa using s
  have I:i<fs.size:=(Array.getElem?_eq_some_iff.1 c).1;have:=D i f c;rw[zB3 li]at this;refine⟨_,this,fun J m O=>J m ?_,_,congrArg (·.1) r,zB6.2 ⟨_,List.getElem_mem _,rfl⟩⟩;rw[r,DataW.weights,z];exact DataW.weights_mem_each (j:=i) (by simp[s]) (by simp[zB3 (show i<xs.length by omega)]) m O
 .cases h
def yk{α:Type}{ts:List ii}{f:α->List gt}(j:∀ cs,fits P ts cs=bv->∃ a,cs=f a):∀(len:Nat)(vs:List gt),vs.length=len*ts.length->xp P ts vs len->∃ l:List α,l.length=len/\vs=l.flatMap f
 |0,vs,c,_=>⟨[],rfl,by simpa using c⟩
 |len+1,vs,c,h=>by
  have n:=h 0 li;rw[Nat.zero_mul,zD2]at n;obtain⟨a,o⟩:=j _ n
  obtain⟨l,r,s⟩:=yk j len (vs.drop ts.length) (by rw[zC1,c,Nat.succ_mul]; omega) (fun i hi=>by
   have:=h (i+1) li;rw[List.drop_drop];rw[Nat.succ_mul,Nat.add_comm]at this
   exact this)
  refine⟨a::l,by simp[r],?_⟩;rw[List.flatMap_cons,<-s,<-o,List.take_append_drop]
end
open Go.ChangeShapes
section
variable{P:io}{w:ip}
def Bi(N:Nat):∀(T:List (Nat × ii × List gt))(n:Nat),(qy N T).get n≠bi->∃ x∈T,x.1=n
 |[],n,h=>absurd (oR _ n) h
 |(g,e,vs)::r,n,h=>by
  rw[qy,aa.pR]at h;by_cases c:n=g
  .exact⟨(g,e,vs),by simp,c.symm⟩
  .rw[if_neg c]at h;obtain⟨x,hx,e⟩:=Bi N r n h;exact⟨x,by simp[hx],e⟩
def Ro.Sd(T:List (Nat × ii × List gt))(h:∀ x∈T,x.1<P.globals.size/\Cz x.2.2=bv/\∃ c,w.heap[x.1]?=ap (.cells c x.2.1 (0,0))/\c.toList=x.2.2)(j:∀ x∈T,x.2.2.all zp=bv):Ro P Ren.same (qy P.globals.size T) w:=by obtain⟨o,r,s⟩:=mN P.globals.size T;refine⟨y7 T h,by rw[o,r],s,fun n z=>.inr ?_⟩;obtain⟨x,hx,rfl⟩:=Bi _ T n z;obtain⟨A,_,c,B,C⟩:=h x hx;exact⟨A,c,_,B,fun v f=>by rw[C]at f; exact zD3.1 (j x hx) v f⟩
def tq{H:aa}{g:Nat}{e:ii}{vs:List gt}:bk (H.put g (ap (Ch e vs))) g=ap ⟨e,gc,vs⟩:=by
 refine QO ⟨RV.ofList vs,?_,RV.n_ofList _,fun i hi=>?_⟩
 .simp only[bI,aa.pR,if_true,Ch]
 .rw[RV.cb]
def sX{H:aa}{g n:Nat}{e:ii}{vs:List gt}{b:Option Bl}(c:n≠g)(h:bk H n=b):bk (H.put g (ap (Ch e vs))) n=b:=(aO (by rw[aa.pR,if_neg c])).trans h
end
end Go.Ax
namespace Go.Proofs.YtpohjcacnkhnkaaGreatDoor.Tq
open Go.ChangeShapes Go.WideShapes Go.ChangeAt Go.RowKit Go.Ax
def qh{K:Type}{enc:ii × gt->K}{P:io}(j:laidOutB P=bv){W W':ip}(n:Below W.heap.size W W'):∀ {ts:List ii} {vs:List gt} {ds:List (DataW K)} {c:List MemPlace},
  (ts.all fun t=>P.readableRec t&&Nat.blt t P.types.size)=bv->DataW.TrodAll enc P W 0 (fun _=>bv) bv ts vs ds c->(∀ x∈c,x.block<W.heap.size)->DataW.TrodAll enc P W' 0 (fun b=>ge (b<W.heap.size)) bv ts vs ds c
 |[],[],[],c,_,h,_=>h
 |t::ts,v::vs,d::ds,c,f,h,o=>by obtain⟨p,q,r,s,rfl⟩:=h;simp only[List.all_cons,zA7]at f;exact⟨p,q,Below.trod j f.1.1 (bO f.1.2) r n (fun x hx=>o x (by simp[hx])),qh j n (by simpa using f.2) s (fun x hx=>o x (by simp[hx])),rfl⟩
def Sf:ownKnob Tryz.prog.godebug=none:=by kernel_rfl
def NF:laidOutB Tryz.prog=true:=by kernel_rfl
def Sq:Tryz.prog.underlying 3=ap (.int i8):=by kernel_rfl
def SP:Tryz.prog.underlying 4=ap .bool:=by kernel_rfl
def SM:Tryz.prog.underlying 9=ap .string:=by kernel_rfl
abbrev Ek(c f h:ii):List (Nat × ii × List gt):=[(0,c,dc Go.Proofs.YtpohjcacnkhnkaaGreatDoor.vI),(1,f,dc Go.Proofs.YtpohjcacnkhnkaaGreatDoor.r5),(2,h,dc Jz)]
def Laid(w:ip)(f h j:ii):Prop:=(∃ c,w.heap[0]?=ap (.cells c f (0,0))/\c.toList=dc Go.Proofs.YtpohjcacnkhnkaaGreatDoor.vI)/\(∃ c,w.heap[1]?=ap (.cells c h (0,0))/\c.toList=dc Go.Proofs.YtpohjcacnkhnkaaGreatDoor.r5)/\∃ c,w.heap[2]?=ap (.cells c j (0,0))/\c.toList=dc Jz
def JC{w:ip}(h:laidMet Tryz.prog Rows.termAppliesRow.laid w):∃ c f j,Laid w c f j:=by obtain⟨o,r,a1,s⟩:=zd h (name := "unicode/utf8.first") (d:=Go.Proofs.YtpohjcacnkhnkaaGreatDoor.vI) (.tail _ (.tail _ (.tail _ (.tail _ (.head _))))) (g:=0) (t:=148) (e:=5) (ts:=[5]) (D:=1000) (n:=256) ls ls ls ls ls ls ls (bO ls);obtain⟨z,A,B,C⟩:=zd h (name := "unicode/utf8.acceptRanges") (d:=Go.Proofs.YtpohjcacnkhnkaaGreatDoor.r5) (.tail _ (.tail _ (.tail _ (.head _)))) (g:=1) (t:=151) (e:=150) (ts:=[5,5]) (D:=1000) (n:=16) ls ls ls ls ls ls ls (bO ls);obtain⟨I,J,O,R⟩:=zd h (name := "internal/strconv.uint64pow10") (d:=Jz) (.tail _ (.tail _ (.head _))) (g:=2) (t:=195) (e:=173) (ts:=[173]) (D:=1000) (n:=20) ls ls ls ls ls ls ls (bO ls);exact⟨r,A,J,⟨o,a1,s⟩,⟨z,B,C⟩,I,O,R⟩
def Laid.ro{W:ip}{c f j:ii}(h:Laid W c f j):∃ ρ H,Ro Tryz.prog ρ H W/\Px H:=by
 have n:2<(qy Tryz.prog.globals.size (Ek c f j)).next:=by rw[(mN Tryz.prog.globals.size (Ek c f j)).1];exact zA8 ls
 refine⟨_,_,Ro.Sd (Ek c f j) (fun x hx=>?_) (fun x hx=>?_),n,⟨c,f,tq,sX mt tq⟩,n,j,sX mt (sX mt tq)⟩
 .simp only[Ek,zA9,zF2,or_false]at hx;rcases hx with rfl|rfl|rfl
  .exact⟨show 0<Tryz.prog.globals.size by decide +kernel,by kernel_rfl,h.1⟩
  .exact⟨show 1<Tryz.prog.globals.size by decide +kernel,by kernel_rfl,h.2.1⟩
  .exact⟨show 2<Tryz.prog.globals.size by decide +kernel,by kernel_rfl,h.2.2⟩
 .simp only[Ek,zA9,zF2,or_false]at hx;rcases hx with rfl|rfl|rfl
  .exact (by kernel_rfl:(dc Go.Proofs.YtpohjcacnkhnkaaGreatDoor.vI).all zp=bv)
  .exact (by kernel_rfl:(dc Go.Proofs.YtpohjcacnkhnkaaGreatDoor.r5).all zp=bv)
  .exact (by kernel_rfl:(dc Jz).all zp=bv)
def sU{H:Type}{d:DataW H}{l:List (DataW H)}(h:d∈l):Rows.uptoBulk d<=Rows.uptoBulkAll l:=by
 induction l with
 |nil=>cases h
 |cons x r c =>
  simp only[Rows.uptoBulkAll]
  cases zA9.1 h with
  |inl e=>subst e; omega
  |inr e=>have:=c e; omega
def RB:∀ cs,fits Tryz.prog [3,3,3,3,3,3,4,4,4,9] cs=bv->∃ c:zB,cs=c.cells:=fun cs h=>by
 have J:=jE h
 match cs,J,h with
 |[a,b,c,d,e,f,g,O,i,j],_,h =>simp only[fits,zA7,Bool.and_true]at h;obtain⟨o,r,s,z,A,B,C,D,I,n⟩:=h;unfold pr at o r s z A B C D I n;rw[Sq]at o r s z A B;rw[SP]at C D I;rw[SM]at n;cases a<;>simp at o;cases b<;>simp at r;cases c<;>simp at s;cases d<;>simp at z;cases e<;>simp at A;cases f<;>simp at B;cases g<;>simp at C;cases O<;>simp at D;cases i<;>simp at I;cases j<;>simp at n;subst o r s z A B;exact⟨⟨_,_,_,_,⟨_,_,_,_,_⟩,_⟩,rfl⟩
section
variable{K:Type}{enc:ii × gt -> K}{W:ip}{ρ:Ren}{H:aa}{held:Bool}
def KR{n:Nat}{s:ByteArray}{y:DataW K × List MemPlace}(h:DataW.trod enc Tryz.prog W 0 (fun _=>bv) held n 9 [.string s]=ap y):s.data.toList.length<=Rows.uptoBulk y.1:=by
 cases n with
 |zero=>simp[DataW.trod]at h
 |succ n =>
  unfold DataW.trod at h;rw[SM]at h;simp only at h;split at h
  .simp only[i5]at h;subst h;simp[Rows.uptoBulk]
  .cases h
def O0{n:Nat}{o:zB}{y:DataW K × List MemPlace}(h:DataW.trod enc Tryz.prog W 0 (fun _=>bv) held n 58 o.cells=ap y):o.text.data.toList.length<=Rows.uptoBulk y.1:=by
 have j:QQ Tryz.prog 58=ap [(3,0),(3,1),(3,2),(3,3),(44,4),(9,9)]:=by kernel_rfl
 obtain⟨_,m,r⟩:=Gi j h;obtain⟨z,f,_,l,s,c⟩:=r 5 9 9 rfl;have A:Tryz.prog.cellsOf 9=1:=by kernel_rfl
 rw[A]at f;have B:=KR f;have C:=sU c;rw[s,Rows.uptoBulk];omega
def PW(R:Ro Tryz.prog ρ H W){v:gt}{d:DataW K}{p:List MemPlace}(h:DataW.Trod enc Tryz.prog W 0 (fun _=>bv) held 23 v d p)(I:v.cells.toList=[v]) :
  ∃ c H1 u l,Ro Tryz.prog c H1 W/\Ext H.next ρ c/\Dl H H1/\c.val u=v/\aV H1.next u=bv/\lz H1 u l/\∀ o∈l,o.text.data.toList.length<=Rows.uptoBulk d:=by
 obtain⟨A,B⟩:=h;rw[I]at B;obtain⟨c,H1,u,vs,len,J,O,S,T,V,k6,k7,k8⟩:=R.Rh (t:=23) (e:=58) (t0:=3) (ts:=[3,3,3,3,3,4,4,4,9]) (D:=1000) ls ls ls ls (fun _=>rfl) B;obtain⟨s,a,cap,rfl,h3⟩:=k6;obtain⟨l,j,rfl⟩:=yk RB len vs s k7;refine⟨c,H1,_,l,J,O,S,T,V,?_,fun o ho=>?_⟩
 .by_cases z:l=[]
  .subst z;subst j;exact .inl ⟨rfl,a,cap,rfl⟩
  .have dK:len≠0:=fun h=>z (zE7 li);obtain⟨n,e,rfl,h4,C,h6⟩:=h3.resolve_left dK;refine .inr ⟨z,n,0,ap 0,cap,e,bv,_,by rw[j],C,h4,by rw[s,j]; simp,?_⟩;rw[zD2,zC3 (by rw[s,j]; simp)];rfl
 .obtain⟨i,hi⟩:=List.getElem?_of_mem ho;have hlt:=(zE0.1 hi).1;obtain⟨n,y,hy,r,q,hx,hm⟩:=k8 i li;have f:DataW.trod enc Tryz.prog W 0 (fun _=>bv) held n 58 (((l.flatMap Op.cells).drop (i*10)).take 10)=ap y:=hy;rw[xr Op.cells 10 K8 l i o hi]at f;have C:=O0 f;have h6:=sU hm;simp only at hx;rw[hx,Rows.uptoBulk];omega
end
open Go.ChangeShapes Go.WideShapes Go.ChangeAt Go.RowKit Go.Ax
def LK:∀ cs,fits Tryz.prog [3] cs=bv->∃ c:Int,cs=[i7 i8 c]:=fun cs h=>by
 have f:=jE h
 match cs,f,h with
 |[a],_,h =>simp only[fits,Bool.and_true]at h;unfold pr at h;rw[Sq]at h;cases a<;>simp at h;subst h;exact⟨_,rfl⟩
def O3(l:List Int):l.flatMap (fun c=>[Value.int i8 c])=l.map (Value.int i8):=by
 induction l with
 |nil=>rfl
 |cons a l f=>rw[List.flatMap_cons,f]; rfl
section
variable{K:Type}{enc:ii × gt -> K}{W:ip}{ρ:Ren}{H:aa}{held:Bool}
def N8(R:Ro Tryz.prog ρ H W){v:gt}{d:DataW K}{p:List MemPlace}(h:DataW.Trod enc Tryz.prog W 0 (fun _=>bv) held 22 v d p)(s:v.cells.toList=[v]) :
  ∃ f H1 u l,Ro Tryz.prog f H1 W/\Ext H.next ρ f/\Dl H H1/\f.val u=v/\aV H1.next u=bv/\pk H1 u l:=by
 obtain⟨j,o⟩:=h;rw[s]at o;obtain⟨f,H1,u,vs,len,z,A,B,C,I,J,O⟩:=R.SN (t:=22) (e:=3) (t0:=3) (ts:=[]) (D:=1000) ls ls ls ls (fun _=>rfl) o;obtain⟨S,a,cap,rfl,T⟩:=J;obtain⟨l,V,rfl⟩:=yk LK len vs S O;refine⟨f,H1,_,l,z,A,B,C,I,⟨a,cap,by rw[V]⟩,fun k c r=>?_⟩;have hlt:k<l.length:=(zE0.1 r).1;obtain⟨n,e,rfl,h4,h5,h6⟩:=T.resolve_left li;refine⟨n,0+k,ta rfl li,by simp[ae],?_⟩;rw[h5,O3];have ha:ey Tryz.prog 3=ap false:=by kernel_rfl
 simp only[rl,ha,zC6,zE1,r,zB1]
end
end Go.Proofs.YtpohjcacnkhnkaaGreatDoor.Tq
