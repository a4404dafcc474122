/- Parts of the proof, one behind the other. -/
import Derived.Test.YtnigelgcjfhghaaGreatDoorM4
import Derived.Test.YtnigelgcjfhghaaGreatDoorRows
import Derived.ProofKit
import Derived.Carry
import Derived.OpenShut
import Derived.LaidMore
import Derived.Lay
set_option linter.all false
set_option maxRecDepth 10000
set_option maxHeartbeats 16000000
open And renaming intro → zA0
open Option renaming bind_eq_bind → zA1, bind_eq_some_iff → zA2, bind_some → zA3, map_some → zA5, map_eq_some_iff → zA8
open Bool renaming and_eq_true → zA4, false_eq_true → zC0, and_self → zD6
open List renaming getElem?_eq_getElem → zA6, length_cons → zA7, mem_singleton → zB0, mem_cons → zB1, length_append → zB2, map_cons → zB4, mem_cons_of_mem → zB6, length_map → zB7, getD_eq_getElem?_getD → zB8, length_singleton → zB9, mem_cons_self → zC1, length_nil → zC5, mem_append → zC6, all_eq_true → zC7, mem_map → zC8, flatMap_cons → zC9, nil_append → zD4, getElem?_eq_none → zD5, append_nil → zD8, take_of_length_le → zD9, mem_of_getElem? → zE2, map_nil → zE3, getElem?_cons_succ → zE4, drop_eq_getElem_cons → zE5, getElem?_map → zE6, eq_nil_of_length_eq_zero → zE7
open Nat renaming le_refl → zA9, zero_le → zB3, le_of_ble_eq_true → zB5, mul_one → zC2, zero_add → zC3, lt_succ_self → zC4, add_zero → zD1, eq_of_beq_eq_true → zD2, lt_or_ge → zD3, ble_eq → zD7, le_trans → zE0, lt_of_lt_of_le → zE1
open Int renaming toNat_natCast → zD0

namespace Go.Proofs.YtnigelgcjfhghaaGreatDoor
open Go.Ax
abbrev aB (n:Int):List UInt8:=[n.toNat.toUInt8,(n.toNat / 256).toUInt8]
theorem aB_of (a b:UInt8):aB ((a.toNat+256*b.toNat:Nat):Int)=[a,b]:=by
 have ha:=a.toNat_lt
 have hb:=b.toNat_lt
 have e1:((a.toNat+256*b.toNat:Nat):Int).toNat.toUInt8=a:=UInt8.toNat_inj.1 (by
  rw[show ((a.toNat+256*b.toNat:Nat):Int).toNat.toUInt8.toNat=((a.toNat+256*b.toNat:Nat):Int).toNat % 256 from UInt8.toNat_ofNat' ..]
  omega)
 have e2:(((a.toNat+256*b.toNat:Nat):Int).toNat / 256).toUInt8=b:=UInt8.toNat_inj.1 (by
  rw[show (((a.toNat+256*b.toNat:Nat):Int).toNat / 256).toUInt8.toNat=((a.toNat+256*b.toNat:Nat):Int).toNat / 256 % 256 from UInt8.toNat_ofNat' ..]
  omega)
 rw[aB,e1,e2]
theorem encB_eq (x:Ins):encB x=x.op.toNat.toUInt8::x.args.flatMap aB:=rfl
theorem kinds_three {op:Nat} (h:op<28):(∃ k:List UInt8,k.length≤1∧∀ args,kindsR op args=k)∨(op=17∧∀ args,kindsR op args=guardR args)∨(op=24∧∀ args,kindsR op args=envR args):=by
 match op,h with
 |0,_=>exact .inl ⟨_,by decide,fun _=>rfl⟩
 |1,_=>exact .inl ⟨_,by decide,fun _=>rfl⟩
 |2,_=>exact .inl ⟨_,by decide,fun _=>rfl⟩
 |3,_=>exact .inl ⟨_,by decide,fun _=>rfl⟩
 |4,_=>exact .inl ⟨_,by decide,fun _=>rfl⟩
 |5,_=>exact .inl ⟨_,by decide,fun _=>rfl⟩
 |6,_=>exact .inl ⟨_,by decide,fun _=>rfl⟩
 |7,_=>exact .inl ⟨_,by decide,fun _=>rfl⟩
 |8,_=>exact .inl ⟨_,by decide,fun _=>rfl⟩
 |9,_=>exact .inl ⟨_,by decide,fun _=>rfl⟩
 |10,_=>exact .inl ⟨_,by decide,fun _=>rfl⟩
 |11,_=>exact .inl ⟨_,by decide,fun _=>rfl⟩
 |12,_=>exact .inl ⟨_,by decide,fun _=>rfl⟩
 |13,_=>exact .inl ⟨_,by decide,fun _=>rfl⟩
 |14,_=>exact .inl ⟨_,by decide,fun _=>rfl⟩
 |15,_=>exact .inl ⟨_,by decide,fun _=>rfl⟩
 |16,_=>exact .inl ⟨_,by decide,fun _=>rfl⟩
 |17,_=>exact .inr (.inl ⟨rfl,fun _=>rfl⟩)
 |18,_=>exact .inl ⟨_,by decide,fun _=>rfl⟩
 |19,_=>exact .inl ⟨_,by decide,fun _=>rfl⟩
 |20,_=>exact .inl ⟨_,by decide,fun _=>rfl⟩
 |21,_=>exact .inl ⟨_,by decide,fun _=>rfl⟩
 |22,_=>exact .inl ⟨_,by decide,fun _=>rfl⟩
 |23,_=>exact .inl ⟨_,by decide,fun _=>rfl⟩
 |24,_=>exact .inr (.inr ⟨rfl,fun _=>rfl⟩)
 |25,_=>exact .inl ⟨_,by decide,fun _=>rfl⟩
 |26,_=>exact .inl ⟨_,by decide,fun _=>rfl⟩
 |27,_=>exact .inl ⟨_,by decide,fun _=>rfl⟩
 |n+28,h=>omega
theorem guard_len0:(guardR []).length=1:=rfl
theorem guard_len {args:List Int} (h:args≠[]):(guardR args).length=1+2*(args.getD 0 0).toNat:=by
 rw[guardR,if_neg h,zB2,rep_len]
 simp only[zA7,zC5]
 omega
theorem env_len0 {args:List Int} (h:args.length<2):(envR args).length=2:=by rw[envR,if_pos h]; rfl
theorem env_len {args:List Int} (h:2≤args.length):(envR args).length=2+(args.getD 1 0).toNat:=by
 rw[envR,if_neg (by omega),zB2,rep_len]
 simp only[zA7,zC5]
 omega
theorem take_getD {args:List Int} {k i:Nat} (h:i<k):(args.take k).getD i 0=args.getD i 0:=by
 rw[zB8,zB8,List.getElem?_take,if_pos h]
theorem kinds_pre {op:Nat} {args:List Int} {k:Nat} (hop:op<28) (h:args.length=(kindsR op args).length) (hk:k<args.length):k<(kindsR op (args.take k)).length:=by
 rcases kinds_three hop with⟨q,_,e⟩|⟨_,e⟩|⟨_,e⟩
 ·rw[e]at h ⊢; omega
 ·rw[e]at h ⊢
  cases k with
  |zero=>rw[List.take_zero,guard_len0]; omega
  |succ k =>
   have h1:args≠[]:=fun e=>by rw[e]at hk; simp at hk
   have h2:args.take (k+1)≠[]:=fun e=>by have:=congrArg List.length e; rw[List.length_take]at this; simp only[zC5]at this; omega
   rw[guard_len h1]at h
   rw[guard_len h2,take_getD (by omega)]
   omega
 ·rw[e]at h ⊢
  by_cases h1:args.length<2
  ·rw[env_len0 h1]at h; omega
  ·rw[env_len (by omega)]at h
   by_cases h2:k<2
   ·rw[env_len0 (by rw[List.length_take]; omega)]; omega
   ·rw[env_len (by rw[List.length_take]; omega),take_getD (by omega)]
    omega
theorem kinds_post {op:Nat} {args:List Int} (hop:op<28) (h1:¬args.length<(kindsR op args).length) (h2:∀ k,k<args.length→k<(kindsR op (args.take k)).length):args.length=(kindsR op args).length:=by
 by_cases h0:args.length=0
 ·omega
 have h3:=h2 (args.length-1) (by omega)
 rcases kinds_three hop with⟨q,_,e⟩|⟨_,e⟩|⟨_,e⟩
 ·rw[e]at h1 h3 ⊢; omega
 ·rw[e]at h1 h3 ⊢
  have hn:args≠[]:=fun e=>by rw[e]at h0; simp at h0
  rw[guard_len hn]at h1 ⊢
  by_cases h4:args.length=1
  ·omega
  ·have hn2:args.take (args.length-1)≠[]:=fun e=>by have:=congrArg List.length e; rw[List.length_take]at this; simp only[zC5]at this; omega
   rw[guard_len hn2,take_getD (by omega)]at h3
   omega
 ·rw[e]at h1 h3 ⊢
  by_cases h4:args.length<2
  ·rw[env_len0 h4]at h1; omega
  ·rw[env_len (by omega)]at h1 ⊢
   by_cases h5:args.length=2
   ·omega
   ·rw[env_len (by rw[List.length_take]; omega),take_getD (by omega)]at h3
    omega
theorem kinds_least {op:Nat} {args:List Int} (hop:op<28) (h:args.length=(kindsR op args).length):(kindsR op []).length≤args.length:=by
 by_cases h0:args.length=0
 ·have:args=[]:=zE7 h0
  rw[this]at h
  rw[←h]
  simp
 have:=kinds_pre hop h (k:=0) (by omega)
 rcases kinds_three hop with⟨q,_,e⟩|⟨_,e⟩|⟨_,e⟩
 ·rw[e]at h ⊢; omega
 ·rw[e]at h ⊢; rw[guard_len0]; omega
 ·rw[e]at h ⊢
  rw[env_len0 (by simp)]
  by_cases h4:args.length<2
  ·rw[env_len0 h4]at h; omega
  ·omega
theorem getD_small {args:List Int} (h:∀ y∈args,0≤y∧y≤65535) (i:Nat):0≤args.getD i 0∧args.getD i 0≤65535:=by
 rw[zB8]
 cases hi:args[i]? with
 |none=>simp
 |some y=>simpa using h y (zE2 hi)
theorem opnd_ok {y:Int} (h:0≤y∧y≤65535):opndR y=true:=by
 simp only[opndR,zA4,decide_eq_true_eq]
 exact h
theorem encA_iff {op:Nat} {args:List Int} (hop:op<28) (h:args.length=(kindsR op args).length) (hs:∀ y∈args,0≤y∧y≤65535):encA (op:Int) args=0:=by
 have h1:=kinds_least hop h
 have h2:=opnd_ok (getD_small hs 0)
 have h3:=opnd_ok (getD_small hs 1)
 unfold encA
 rw[if_neg (by omega),zD0,if_neg (by omega),if_neg (by rw[h2,h3]; simp),if_neg (by omega),if_pos (zC7.2 fun y hy=>opnd_ok (hs y hy))]
theorem rdA_was {op:Nat}:∀ (n:Nat) {a0 args:List Int} {rest r:List UInt8},rest.length≤n→rdA op a0 rest=(args,some r) →
  ∃ new,args=a0++new∧rest=new.flatMap aB++r∧¬args.length<(kindsR op args).length∧∀ k,a0.length≤k→k<args.length→k<(kindsR op (args.take k)).length:=by
 intro n
 induction n with
 |zero =>
  intro a0 args rest r hn h
  by_cases hk:a0.length<(kindsR op a0).length
  ·rw[rdA_end hk (by omega)]at h; cases h
  ·rw[rdA_done hk]at h
   cases h
   exact⟨[],by simp,by simp,hk,fun k h1 h2=>absurd h1 (by omega)⟩
 |succ n ih =>
  intro a0 args rest r hn h
  by_cases hk:a0.length<(kindsR op a0).length
  ·match rest,hn with
   |[],_=>rw[rdA_end hk (by simp)]at h; cases h
   |[_],_=>rw[rdA_end hk (by simp)]at h; cases h
   |a::b::q,hn =>
    rw[rdA_more hk]at h
    obtain⟨new,h1,h2,h3,h4⟩:=ih (by simp only[zA7]at hn; omega) h
    refine⟨((a.toNat+256*b.toNat:Nat):Int)::new,by rw[h1]; simp,?_,h3,fun k h5 h6=>?_⟩
    ·rw[zC9,aB_of,h2]
     simp
    ·by_cases h7:k=a0.length
     ·rw[h7,h1,List.append_assoc,List.take_left]
      exact hk
     ·exact h4 k (by rw[zB2,zB9]; omega) h6
  ·rw[rdA_done hk]at h
   cases h
   exact⟨[],by simp,by simp,hk,fun k h1 h2=>absurd h1 (by omega)⟩
theorem find_cons_none {α:Type} {p:α→Bool} {x:α} {l:List α} (h:(x::l).find? p=none):p x=false∧l.find? p=none:=by
 rw[List.find?_cons]at h
 cases hp:p x with
 |true=>rw[hp]at h; cases h
 |false=>rw[hp]at h; exact⟨rfl,h⟩
theorem enc_was:∀ (n:Nat) {l:List UInt8} {p:Nat},l.length≤n→(decA p l).find? (fun r=>!decide (r.2=0))=none→encL ((decA p l).map (·.1))=l∧∀ x∈(decA p l).map (·.1),encA x.op x.args=0:=by
 intro n
 induction n with
 |zero =>
  intro l p hn _
  have:l=[]:=zE7 (by omega)
  rw[this,decA_nil]
  exact⟨rfl,fun x hx=>by simp at hx⟩
 |succ n ih =>
  intro l p hn h
  match l,hn with
  |[],_=>rw[decA_nil]; exact⟨rfl,fun x hx=>by simp at hx⟩
  |op::rest,hn =>
   by_cases ho:28≤op.toNat
   ·rw[decA_bad ho]at h
    have:=(find_cons_none h).1
    simp at this
   cases hr:rdA op.toNat [] rest with
   |mk args q =>
    cases q with
    |none =>
     rw[decA_end ho hr]at h
     have:=(find_cons_none h).1
     simp at this
    |some r =>
     obtain⟨new,h1,h2,h3,h4⟩:=rdA_was rest.length (zA9 _) hr
     rw[zD4]at h1
     subst h1
     have hsm:=rdA_small op.toNat rest.length [] rest (zA9 _) (fun x hx=>by simp at hx)
     rw[hr]at hsm
     rw[decA_ok ho hr]at h ⊢
     have hlen:r.length≤n:=by
      have:=congrArg List.length h2
      rw[zB2]at this
      simp only[zA7]at hn
      omega
     obtain⟨h5,h6⟩:=ih hlen (find_cons_none h).2
     have he:encA (op.toNat:Int) args=0:=encA_iff (by omega) (kinds_post (by omega) h3 fun k hk=>h4 k (by simp) hk) hsm
     refine⟨?_,fun x hx=>?_⟩
     ·rw[zB4,encL,zC9]
      show encB _++encL _=_
      rw[h5,encB_eq]
      simp only[zD0]
      rw[List.cons_append,←h2]
      congr 1
      exact UInt8.toNat_inj.1 (by rw[show op.toNat.toUInt8.toNat=op.toNat % 256 from UInt8.toNat_ofNat' ..]; have:=op.toNat_lt; omega)
     ·rw[zB4,zB1]at hx
      rcases hx with rfl|hx
      ·exact he
      ·exact h6 x hx
theorem enc_of_dec {l:List UInt8} (h:badA l=none):encL (insA l)=l∧∀ x∈insA l,encA x.op x.args=0:=enc_was l.length (zA9 _) h
theorem dec_cons {u:Nat} (h:¬u<10):Go.Lib.decDigits u=Go.Lib.decDigits (u / 10)++[UInt8.ofNat (48+u % 10)]:=by rw[Go.Lib.decDigits,dif_neg h]
theorem val_one (c:UInt8):valR [c]=c.toNat-48:=by simp[valR]
theorem dec_len:∀ (k u:Nat),u<10 ^ (k+1)→(Go.Lib.decDigits u).length≤k+1
 |0,u,h=>by rw[Go.Lib.decDigits_one (by simpa using h)]; simp
 |k+1,u,h=>by
  by_cases h0:u<10
  ·rw[Go.Lib.decDigits_one h0]; simp
  ·rw[Nat.pow_succ]at h
   have:=dec_len k (u / 10) (by omega)
   rw[dec_cons h0,zB2,zB9]
   omega
theorem dec_pos (u:Nat):1≤(Go.Lib.decDigits u).length:=by
 by_cases h:u<10
 ·rw[Go.Lib.decDigits_one h]; simp
 ·rw[dec_cons h]; simp
theorem names_free:((List.range 28).all fun i=>decide (nameR i≠[])&&(decide ((nameR i).length≤9)&&(nameR i).all fun c=>decide (c≠32)&&decide (c≠10)))=true:=by decide +kernel
theorem name_free {i:Nat} (h:i<28):nameR i≠[]∧(nameR i).length≤9∧∀ c∈nameR i,c≠32∧c≠10:=by
 have:=zC7.1 names_free i (List.mem_range.2 h)
 simp only[zA4,decide_eq_true_eq,zC7]at this
 exact this
theorem itoa_len {n:Int} (h:0≤n∧n≤65535):(Go.Lib.itoa n).length≤5:=by
 obtain⟨u,rfl⟩:∃ u:Nat,n=u:=⟨n.toNat,by omega⟩
 rw[Go.Lib.itoa_nonneg]
 exact dec_len 4 u (by omega)
theorem text_len1 {x:Ins} (h:encA x.op x.args=0):(textI x).length≤10*(encB x).length:=by
 obtain⟨h0,h1,_,h3⟩:=encA_ok h
 have hn:=(name_free (show x.op.toNat<28 by omega)).2.1
 have:∀ l:List Int,(∀ n∈l,0≤n∧n≤65535)→(l.flatMap fun n=>32::Go.Lib.itoa n).length≤10*(l.flatMap aB).length:=by
  intro l
  induction l with
  |nil=>intro _; simp
  |cons n r ih =>
   intro hl
   have:=ih fun m hm=>hl m (zB6 _ hm)
   have:=itoa_len (hl n (zC1 ..))
   simp only[zC9,zB2,zA7,zC5]
   omega
 have:=this x.args h3
 rw[encB_eq,textI]
 simp only[zB2,zA7,zC5]
 omega
theorem text_len:∀ {xs:List Ins},(∀ x∈xs,encA x.op x.args=0)→(textL xs).length≤10*(encL xs).length
 |[],_=>by simp[textL]
 |x::r,h=>by
  have h1:=text_len1 (h x (zC1 ..))
  have h2:=text_len fun y hy=>h y (zB6 _ hy)
  unfold textL encL at h2 ⊢
  simp only[zC9,zB2]
  omega
set_option maxRecDepth 100000
set_option maxRecDepth 100000
def nmV:List Value:=(List.range 28).map fun i=>.string (bs (nameR i))
theorem nm_len:nmV.length=28:=rfl
theorem nm_get {i:Nat} (h:i<28):nmV[i]?=some (.string (bs (nameR i))):=by
 rw[nmV,zE6,List.getElem?_range h]
 rfl
theorem sh_name {s i:Nat} (h:i<28):(shV s)[2*i]?=some (.string (bs (nameR i))):=by
 match i,h with
 |0,_=>rfl
 |1,_=>rfl
 |2,_=>rfl
 |3,_=>rfl
 |4,_=>rfl
 |5,_=>rfl
 |6,_=>rfl
 |7,_=>rfl
 |8,_=>rfl
 |9,_=>rfl
 |10,_=>rfl
 |11,_=>rfl
 |12,_=>rfl
 |13,_=>rfl
 |14,_=>rfl
 |15,_=>rfl
 |16,_=>rfl
 |17,_=>rfl
 |18,_=>rfl
 |19,_=>rfl
 |20,_=>rfl
 |21,_=>rfl
 |22,_=>rfl
 |23,_=>rfl
 |24,_=>rfl
 |25,_=>rfl
 |26,_=>rfl
 |27,_=>rfl
 |n+28,h=>omega
theorem sh_sc {s N:Nat} (h:s+27≤N):scbL N (shV s)=true:=by
 have:∀ j,1≤j→j<27→scb N (fxV (s+j))=true:=fun j h1 h2=>by
  have:decide (s+j<N)=true:=decide_eq_true (by omega)
  have:Nat.blt (s+j) N=true:=blt_of (by omega)
  simp[scb,scbA,scbL,this]
 rw[scbL_iff]
 intro v hv
 simp only[shV,zB1,List.not_mem_nil,or_false]at hv
 rcases hv with rfl|rfl|rfl|rfl|rfl|rfl|rfl|rfl|rfl|rfl|rfl|rfl|rfl|rfl|rfl|rfl|rfl|rfl|rfl|rfl|rfl|rfl|rfl|rfl|rfl|rfl|rfl|rfl|rfl|rfl|rfl|rfl|rfl|rfl|rfl|rfl|rfl|rfl|rfl|rfl|rfl|rfl|rfl|rfl|rfl|rfl|rfl|rfl|rfl|rfl|rfl|rfl|rfl|rfl|rfl|rfl
 all_goals first|rfl|exact this _ (by decide) (by decide)
theorem sh_kv {s N i:Nat} {kv:Value} (h:s+27≤N) (hk:(shV s)[2*i+1]?=some kv):scb N kv=true:=by
 have:=sh_sc h
 rw[scbL_iff]at this
 exact this kv (zE2 hk)
theorem u54:Tryz.prog.underlying 54=some (.slice 9):=by kernel_rfl
theorem s9:szOf Tryz.prog 9=some 1:=by kernel_rfl
theorem nm_sc {N k:Nat}:scbL N (nmV.take k)=true:=by
 rw[scbL_iff]
 intro v hv
 obtain⟨i,_,rfl⟩:=zC8.1 (List.mem_of_mem_take hv)
 rfl
theorem str_app {X:AHeap} {v:Value} {vs:List Value} {cnt x:Nat} (h:VsAt X 9 1 v vs cnt) (hx:X.next=x) (hb:X.base≤X.next) (hlen:cnt≤1000000) (hs:scbL X.next vs=true) (w:ByteArray) :
  ∃ G,aBuiltin Tryz.prog (ext X [⟨9,false,[.string w]⟩]) .append ⟨[54,54]⟩ [v,.slice (some ⟨x+0,0,some 0⟩) 1 1]=some (.slice (some ⟨x+1,0,none⟩) (cnt+1) (cnt+1),ext G [])∧VsAt G 9 1 (.slice (some ⟨x+1,0,none⟩) (cnt+1) (cnt+1)) (vs++[.string w]) (cnt+1)∧Mod (idsV v) X G∧G.next=x+2:=by
 have h2:VsAt (ext X [⟨9,false,[.string w]⟩]) 9 1 v vs cnt:=h.of (by rw[ext_next]; omega) (fun n hn=>ext_get_old (h.ne n hn).2)
 have hk:bk (ext X [⟨9,false,[.string w]⟩]) (x+0)=some ⟨9,false,[.string w]⟩:=by rw[bk_at hx (by simp)]; rfl
 have hsm:small (cnt+1) 16=true:=by simp only[small,zA4,zD7]; omega
 obtain⟨G,k1,k2,k3,k4,_⟩:=vs_app (P:=Tryz.prog) (H:=ext X [⟨9,false,[.string w]⟩]) (st:=54) (xt:=54) (e:=9) (sz:=1) (by1:=16) (z:=.string .empty) (n:=x+0) (off:=0) (cnt2:=1) (cap:=1) (s:=some 0) (x:=x+1) (ws:=[.string w]) (b:=⟨9,false,[.string w]⟩)
  u54 s9 (by kernel_rfl) (by kernel_rfl) rfl (by kernel_rfl) h2 (rk_of hk) (by simp) rfl rfl (by decide) hsm (by rw[ext_next,hx]; rfl) (scbL_append (by rw[ext_next]; exact scbL_mono (by omega) _ hs) rfl)
 exact⟨G,k1,k2,(Mod.ext hb).trans (k3 ((Mod.ext (W:=[]) hb).ok hb)),k4⟩
theorem names_c (H:AHeap) (hok:H.base≤H.next):CallA Tryz.prog 33 [] H (fun out X=>∃ v,out=.ok v∧VsAt X 9 1 v nmV 28∧Mod [] H X∧∀ n∈idsV v,H.next≤n):=by
 obtain⟨b,hbn⟩:∃ b,H.next=b:=⟨_,rfl⟩
 have hbase:H.base≤b:=hbn▸hok
 refine callE_fn mixed Tryz.func33 rfl Tryz.ntmps33 (zB5 rfl) ?_
 simp (maxDischargeDepth:=6) only[hbn,hbase,ruW,putL,Nat.reduceLeDiff,xF,ruU,entryE,Nat.reduceLT,Nat.reduceAdd,Nat.reduceMul,Nat.reduceEqDiff]
 refine (shapes_c (ext H [])).to ?_
 simp (maxDischargeDepth:=6) only[hbn,hbase,ext_next,zC5,zD1,ruW,putL,Nat.reduceLeDiff,xF,ruU,entryE,Nat.reduceLT,Nat.reduceAdd,Nat.reduceMul,Nat.reduceEqDiff]
 refine w_env fun E hE=>?_
 have g1:E 1=.slice none 0 0:=by rw[hE]; simp only[ruU,entryE,Nat.reduceLT,Nat.reduceAdd,Nat.reduceMul,Nat.reduceEqDiff]
 have g4:E 4=.agg ⟨shV b⟩:=by rw[hE]; simp only[ruU,entryE,Nat.reduceLT,Nat.reduceAdd,Nat.reduceMul,Nat.reduceEqDiff]
 have g5:E 5=.int .i64 ((0:Nat):Int):=by rw[hE]; (simp only[ruU,entryE,Nat.reduceLT,Nat.reduceAdd,Nat.reduceMul,Nat.reduceEqDiff]<;>rfl)
 clear hE
 generalize hX0:ext _ _=X0
 have m0:Mod [] H X0:=by
  rw[←hX0]
  first
   |exact Mod.ext hok
   |exact (Mod.ext hok).trans (Mod.ext ((Mod.ext (W:=[]) hok).ok hok))
 have n0:b+27≤X0.next:=by rw[←hX0]; simp only[ext_next,hbn,shB,zA7,zC5]; omega
 clear hX0
 refine w_loop (fun (z:Nat × Value) E' X=>Mod [] H X∧b+27≤X.next∧VsAt X 9 1 z.2 (nmV.take z.1) z.1∧(∀ n∈idsV z.2,b≤n)∧z.1≤28∧E' 1=z.2∧E' 4=.agg ⟨shV b⟩∧E' 5=.int .i64 (z.1:Int)) (fun z=>28-z.1) (0,.slice none 0 0)
  ⟨m0,n0,VsAt.nil,fun n hn=>by simp[idsV]at hn,by decide,g1,g4,g5⟩ ?_
 clear g1 g4 g5 m0 n0 X0 E
 rintro⟨i,v⟩ E X ⟨m,nx,hv,hvi,hi,g1,g4,g5⟩
 simp only at hv hvi hi g1 g5
 obtain⟨x,hx⟩:∃ x,X.next=x:=⟨_,rfl⟩
 have hxb:X.base≤x:=hx▸m.ok hok
 rw[hx]at nx
 obtain⟨va,ev⟩:=hv.len
 rw[show X=ext X [] from rfl]
 by_cases hie:i=28
 ·have hd:decide ((i:Int)<28)=false:=decide_eq_false (by omega)
  rw[ev]at g1
  simp (maxDischargeDepth:=6) only[g1,g4,g5,hd,Tryz.results33,ruW,putL,Nat.reduceLeDiff,xF,ruU,entryE,Nat.reduceLT,Nat.reduceAdd,Nat.reduceMul,Nat.reduceEqDiff]
  rw[←ev]
  subst hie
  refine⟨v,rfl,?_,m,hvi⟩
  rw[zD9 (by rw[nm_len]; omega)]at hv
  exact hv
 ·have hil:i<28:=by omega
  have hd:decide ((i:Int)<28)=true:=decide_eq_true (by omega)
  obtain⟨f,ca,Fk,hkv,hkb,hkF,hkc⟩:=kinds_c b i hil
  have hix:=ix114 hil (sh_name hil) hkv
  have hks:∀ N,x≤N→scb N (.func (.func f) ⟨[]⟩ ⟨ca⟩)=true:=fun N h=>sh_kv (by omega) hkv
  have hcs:∀ N,x≤N→scbL N ca=true:=fun N h=>by
   have:=hks N h
   rw[sc_func,zA4]at this
   exact this.2
  have hc0:=hcs x (zA9 _)
  have hc1:=hcs (x+1) (by omega)
  obtain⟨Y,hY⟩:∃ Y,ext X [⟨113,false,[.string (bs (nameR i)),.func (.func f) ⟨[]⟩ ⟨ca⟩]⟩]=Y:=⟨_,rfl⟩
  have mY:Mod [] X Y:=hY▸Mod.ext (by omega)
  have nY:Y.next=x+1:=by rw[←hY,ext_next,hx]; rfl
  have hvY:VsAt Y 9 1 v (nmV.take i) i:=hv.of mY.next fun n hn=>mY.get n (hv.ne n hn).2 (by simp)
  obtain⟨G,k1,vG,mG,nG⟩:=str_app hvY nY (mY.ok (by omega)) (by omega) nm_sc (bs (nameR i))
  have hAB:ext X [⟨113,false,[.string (bs (nameR i)),.func (.func f) ⟨[]⟩ ⟨ca⟩]⟩,⟨9,false,[.string (bs (nameR i))]⟩]=ext Y [⟨9,false,[.string (bs (nameR i))]⟩]:=by rw[←hY,ext_append]; rfl
  rw[←hAB]at k1
  replace k1:aBuiltin Tryz.prog (ext X [⟨113,false,[.string (bs (nameR i)),.func (.func f) ⟨[]⟩ ⟨ca⟩]⟩,⟨9,false,[.string (bs (nameR i))]⟩]) .append ⟨[54,54]⟩ [v,.slice (some ⟨x+1,0,some 0⟩) 1 1]=some (.slice (some ⟨x+1+1,0,none⟩) (i+1) (i+1),ext G []):=k1
  have hw:IntKind.i64.wrap ((i:Int)+1)=((i+1:Nat):Int):=wrap_succ (by omega)
  rw[ev]at g1 k1
  simp (maxDischargeDepth:=6) only[g1,g4,g5,hd,hix,hx,hxb,hc0,hc1,k1,hw,ruW,putL,Nat.reduceLeDiff,xF,ruU,entryE,Nat.reduceLT,Nat.reduceAdd,Nat.reduceMul,Nat.reduceEqDiff]
  have hts:nmV.take (i+1)=nmV.take i++[.string (bs (nameR i))]:=by rw[List.take_add_one,nm_get hil]; rfl
  have mm:=m.trans mY
  refine loopC_next ⟨(i+1,.slice (some ⟨x+1+1,0,none⟩) (i+1) (i+1)),by simp only; omega,mm.step mG hok fun n hn=>.inr (by have:=hvi n hn; omega),by rw[ext_nil,nG]; omega,by rw[hts]; exact vG,fun n hn=>by simp only[idsV,zB0]at hn; omega,by simp only; omega,?_,?_,?_⟩
  all_goals simp only[g4,ruU,entryE,Nat.reduceLT,Nat.reduceAdd,Nat.reduceMul,Nat.reduceEqDiff]
set_option maxRecDepth 100000
def textV (l:List UInt8):Value:=match badA l with
 |some r=>.tuple #[.string .empty,fltV r.2 r.1.pos]
 |none=>.tuple #[.string (bs (textL (insA l))),fltV 0 0]
theorem itoa_ne (n:Int) (h:0≤n):Go.Lib.itoa n≠[]:=by
 obtain⟨u,rfl⟩:∃ u:Nat,n=u:=⟨n.toNat,by omega⟩
 rw[Go.Lib.itoa_nonneg]
 intro e
 have:=dec_pos u
 rw[e]at this
 simp at this
theorem enc_bound:∀ xs:List Ins,xs.length≤(encL xs).length∧∀ x∈xs,x.args.length≤(encL xs).length
 |[]=>⟨zB3 _,fun x hx=>by simp at hx⟩
 |y::r=>by
  obtain⟨h1,h2⟩:=enc_bound r
  have h3:∀ l:List Int,l.length≤(l.flatMap aB).length:=fun l=>by
   induction l with
   |nil=>simp
   |cons a q ih=>rw[zC9,zB2,zA7]; simp only[aB,zA7,zC5]; omega
  have h4:=h3 y.args
  have h5:(encL (y::r)).length=(1+(y.args.flatMap aB).length)+(encL r).length:=by
   rw[encL,zC9,zB2,encB_eq,zA7]
   show _+(encL r).length=_
   omega
  rw[h5]
  refine⟨by rw[zA7]; omega,fun x hx=>?_⟩
  rcases zB1.1 hx with rfl|hx
  ·omega
  ·have:=h2 x hx; omega
theorem text_c (H:AHeap) (bsv:Value) (l:List UInt8) (hl:l.length≤60000) (hb:RdAt H 1 bsv (bv l) l.length) (hp:Pow H):Pure 26 [bsv] H (textV l):=by
 refine callS_drop (fun wf hsc=>?_) (fun _=>by unfold textV; split<;>exact fun _=>rfl)
 obtain⟨b,hbn⟩:∃ b,H.next=b:=⟨_,rfl⟩
 have hok:=wf.base
 have hbase:H.base≤b:=hbn▸hok
 obtain⟨ba,bc,eb⟩:=hb.sl
 rw[scbL_iff]at hsc
 have hsc0:=hsc _ (zB0.2 rfl)
 refine callE_fn mixed Tryz.func26 rfl Tryz.ntmps26 (zB5 rfl) ?_
 simp (maxDischargeDepth:=6) only[hbn,hbase,ruW,putL,Nat.reduceLeDiff,xF,ruU,entryE,Nat.reduceLT,Nat.reduceAdd,Nat.reduceMul,Nat.reduceEqDiff]
 have mH:Mod [] H (ext H [⟨26,false,[.int .i64 0,.int .i64 0]⟩]):=Mod.ext hok
 refine (decode_c (ext H [⟨26,false,[.int .i64 0,.int .i64 0]⟩]) bsv l hl (hb.mod0 mH) (scb_mono mH.next _ hsc0) (mH.ok hok)).mono ?_
 rintro out X ⟨hout,mX⟩
 have kX:bk X (b+0)=some ⟨26,false,[.int .i64 0,.int .i64 0]⟩:=(mX.bk (by rw[ext_next,hbn]; simp) (by simp)).trans (by rw[bk_at hbn (by simp)]; rfl)
 rw[ext_next,hbn]at hout
 have mm:=mH.trans mX
 have nX:b+1≤X.next:=by have:=mX.next; rw[ext_next,hbn]at this; exact this
 obtain⟨x,hx⟩:∃ x,X.next=x:=⟨_,rfl⟩
 have hxb:X.base≤x:=hx▸mm.ok hok
 rw[hx]at nX
 have y0:b+0<x:=by omega
 have y1:b+0<x+1:=by omega
 rw[show X=ext X [] from rfl]
 unfold DecOut at hout
 unfold textV
 split at hout
 ·rename_i r hbad
  subst hout
  try rw[hbad]
  obtain⟨⟨pos,op,args⟩,e⟩:=r
  have he:decide (¬e=0)=true:=by
   have:=List.find?_some (show (decA 0 l).find? _=some _ from hbad)
   simpa using this
  simp (maxDischargeDepth:=6) only[hx,hxb,y0,kX,he,ruW,putL,Nat.reduceLeDiff,xF,ruU,entryE,Nat.reduceLT,Nat.reduceAdd,Nat.reduceMul,Nat.reduceEqDiff]
  refine w_drawB [] [] (by kernel_rfl) (by kernel_rfl) rfl fun ops anc hA hG=>?_
  simp (maxDischargeDepth:=6) only[hx,hxb,y0,y1,kX,qk_old,Tryz.results26,ruD,ruW,putL,Nat.reduceLeDiff,xF,ruU,entryE,Nat.reduceLT,Nat.reduceAdd,Nat.reduceMul,Nat.reduceEqDiff]
  have mU:∀ vs,Mod [] H (uw X (b+0) 0 vs):=fun vs=>mm.step (W':=[b+0]) (Mod.uw (by simp)) hok fun n hn=>.inr (by simp only[zB0]at hn; omega)
  exact⟨rfl,(mU _).trans (Mod.ext ((mU _).ok hok))⟩
 ·rename_i hbad
  obtain⟨v,ls,rfl,hls,own⟩:=hout
  obtain⟨va,ev⟩:=own.vs.len
  subst ev
  try rw[hbad]
  try simp only
  have hz:∀ i:Decidable (¬True),@decide (¬True) i=false:=fun i=>by simp
  simp (maxDischargeDepth:=6) only[hx,hxb,y0,kX,hz,ruW,putL,Nat.reduceLeDiff,xF,ruU,entryE,Nat.reduceLT,Nat.reduceAdd,Nat.reduceMul,Nat.reduceEqDiff]
  refine (shapes_c (ext X [⟨26,false,[.int .i64 0,.int .i64 0]⟩,⟨110,false,[.pointer none,.slice none 0 0]⟩])).to ?_
  simp (maxDischargeDepth:=6) only[hx,hxb,y0,kX,hz,ext_next,shB,shV,zero114,ruW,putL,Nat.reduceLeDiff,xF,ruU,entryE,Nat.reduceLT,Nat.reduceAdd,Nat.reduceMul,Nat.reduceEqDiff]
  obtain⟨v,ev⟩:∃ v,v=Value.slice va ls.length ls.length:=⟨_,rfl⟩
  rw[←ev]at own
  refine w_env fun E hE=>?_
  have g3:E 3=.pointer (some ⟨b+0,0,none⟩):=by rw[hE]; simp only[ruU,entryE,Nat.reduceLT,Nat.reduceAdd,Nat.reduceMul,Nat.reduceEqDiff]
  have g6:E 6=.pointer (some ⟨x+1,0,none⟩):=by rw[hE]; simp only[ruU,entryE,Nat.reduceLT,Nat.reduceAdd,Nat.reduceMul,Nat.reduceEqDiff]
  have g7:E 7=.pointer (some ⟨x+29,0,none⟩):=by rw[hE]; simp only[ruU,entryE,Nat.reduceLT,Nat.reduceAdd,Nat.reduceMul,Nat.reduceEqDiff]
  have g22:E 22=v:=by rw[hE,ev]; simp only[ruU,entryE,Nat.reduceLT,Nat.reduceAdd,Nat.reduceMul,Nat.reduceEqDiff]
  have g23:E 23=.int .i64 (ls.length:Int):=by rw[hE]; simp only[ruU,entryE,Nat.reduceLT,Nat.reduceAdd,Nat.reduceMul,Nat.reduceEqDiff]
  have g24:E 24=.int .i64 ((0:Nat):Int):=by rw[hE]; (simp only[ruU,entryE,Nat.reduceLT,Nat.reduceAdd,Nat.reduceMul,Nat.reduceEqDiff]<;>rfl)
  clear hE
  generalize hX0:ext X _=X0
  have m0:Mod [] X X0:=hX0▸Mod.ext (by rw[hx]; exact hxb)
  have n0:x+30≤X0.next:=by rw[←hX0,ext_next,hx]; simp
  have k1:bk X0 (x+1)=some ⟨110,false,[.pointer none,.slice none 0 0]⟩:=by rw[←hX0,bk_at hx (by simp)]; rfl
  have k29:bk X0 (x+29)=some ⟨114,false,shV (x+2)⟩:=by rw[←hX0,bk_at hx (by simp)]; rfl
  clear hX0
  have b0:BldAt X0 (x+1) (.slice none 0 0) []:=⟨⟨none,.inl rfl,k1⟩,by omega,VsAt.nil,by simp[idsV]⟩
  have hIR:InsRd X v ls:=⟨own.vs.rd,fun z hz=>(own.av z hz).rd,fun z hz=>VsAt.sc (own.av z hz)⟩
  obtain⟨henc,hall⟩:=enc_of_dec hbad
  have hall':∀ z∈ls,encA z.1.op z.1.args=0:=fun z hz=>hall _ (by rw[←hls]; exact List.mem_map_of_mem hz)
  have htl:=text_len hall
  have hbd:=enc_bound (insA l)
  rw[henc]at htl hbd
  have hll:ls.length≤l.length:=by have:=hbd.1; rw[←hls,zB7]at this; exact this
  obtain⟨T,hT⟩:∃ T,textL (insA l)=T:=⟨_,rfl⟩
  rw[hT]at htl ⊢
  have hbX:=mm.ok hok
  refine w_loop (fun (z:Nat × List UInt8 × Value) E' X'=>Mod [] X X'∧x+30≤X'.next∧BldAt X' (x+1) z.2.2 z.2.1∧(∀ n∈idsV z.2.2,x+30≤n)∧bk X' (x+29)=some ⟨114,false,shV (x+2)⟩∧z.2.1++textL ((ls.map (·.1)).drop z.1)=T∧z.1≤ls.length∧E' 3=.pointer (some ⟨b+0,0,none⟩)∧E' 6=.pointer (some ⟨x+1,0,none⟩)∧E' 7=.pointer (some ⟨x+29,0,none⟩)∧E' 22=v∧E' 23=.int .i64 (ls.length:Int)∧E' 24=.int .i64 (z.1:Int)) (fun z=>ls.length-z.1) (0,[],.slice none 0 0)
   ⟨m0,n0,b0,fun n hn=>by simp[idsV]at hn,k29,by rw[hls]; exact hT,zB3 _,g3,g6,g7,g22,g23,g24⟩ ?_
  clear g3 g6 g7 g22 g23 g24 m0 n0 b0 k1 k29 X0 E
  rintro⟨i,txt,v1⟩ E X1 ⟨m1,n1,hB,hvi,k29,htx,hil,g3,g6,g7,g22,g23,g24⟩
  simp only at hB hvi htx hil g24
  obtain⟨y,hy⟩:∃ y,X1.next=y:=⟨_,rfl⟩
  have hyb:X1.base≤y:=hy▸m1.ok hbX
  rw[hy]at n1
  rw[show X1=ext X1 [] from rfl]
  by_cases hie:i=ls.length
  ·have hd:decide ((i:Int)<(ls.length:Int))=false:=decide_eq_false (by omega)
   rw[ev]at g22
   simp (maxDischargeDepth:=6) only[g3,g6,g7,g22,g23,g24,hd,ruW,putL,Nat.reduceLeDiff,xF,ruU,entryE,Nat.reduceLT,Nat.reduceAdd,Nat.reduceMul,Nat.reduceEqDiff]
   rw[List.drop_of_length_le (by rw[zB7]; omega)]at htx
   rw[show textL []=[] from rfl,zD8]at htx
   rw[htx]at hB
   refine (string_c (ext X1 []) hB (by omega) (m1.ok hbX)).mono ?_
   rintro _ X2 ⟨rfl,m2⟩
   have mB:Mod [] X X2:=m1.step m2 hbX fun n hn=>.inr (by have:=hvi n hn; omega)
   have kk:bk X2 (b+0)=some ⟨26,false,[.int .i64 0,.int .i64 0]⟩:=(mB.bk (by omega) (by simp)).trans kX
   have nn:b+0<X2.next:=by have:=mB.next; omega
   rw[show X2=ext X2 [] from rfl]
   simp (maxDischargeDepth:=6) only[g3,g6,g7,g22,g23,g24,kk,nn,Tryz.results26,ruW,putL,Nat.reduceLeDiff,xF,ruU,entryE,Nat.reduceLT,Nat.reduceAdd,Nat.reduceMul,Nat.reduceEqDiff]
   have mE:=mm.trans mB
   exact⟨trivial,mE.step (W':=[b+0]) (Mod.uw (by simp)) hok fun n hn=>.inr (by simp only[zB0]at hn; omega)⟩
  ·have hil':i<ls.length:=by omega
   have hd:decide ((i:Int)<(ls.length:Int))=true:=decide_eq_true (by omega)
   obtain⟨z,hz'⟩:∃ z,ls[i]?=some z:=⟨_,zA6 hil'⟩
   have hzm:z∈ls:=zE2 hz'
   obtain⟨n,off,s,c,e,o,M,e1,n1',r1,ia,ld⟩:=(hIR.mod0 m1).one hz'
   have hzr:=(hIR.mod0 m1).av z hzm
   have hzs:=(hIR.mod0 m1).sc z hzm
   obtain⟨q0,q1,q2,q3⟩:=encA_ok (hall' z hzm)
   have hal:z.1.args.length≤l.length:=hbd.2 z.1 (by rw[←hls]; exact List.mem_map_of_mem hzm)
   obtain⟨⟨pos,op,args⟩,av⟩:=z
   obtain⟨aa,ac,ea⟩:=hzr.sl
   simp only at hzr hzs ea q0 q1 q2 q3 hal
   obtain⟨k,rfl⟩:∃ k:Nat,op=k:=⟨op.toNat,by omega⟩
   have hk:k<28:=by omega
   rw[hy]at n1' hzs
   simp only[ivV,ivC]at ld
   rw[ea]at ld hzs
   have h29:x+29<y:=by omega
   have hnm:=sh_name (s:=x+2) hk
   have ia4:aIndexAddr Tryz.prog 114 (.pointer (some ⟨x+29,0,none⟩)) (.int .i64 (k:Int))=some (.pointer (some ⟨x+29,2*k,none⟩)):=ia114 hk
   simp (maxDischargeDepth:=6) only[g3,g6,g7,g22,g23,g24,hd,hy,hyb,ia,r1,n1',ld,hzs,h29,k29,ia4,hnm,qk_old,ruW,putL,Nat.reduceLeDiff,xF,ruU,entryE,Nat.reduceLT,Nat.reduceAdd,Nat.reduceMul,Nat.reduceEqDiff]
   have hdr:(ls.map (·.1)).drop i=⟨pos,k,args⟩::(ls.map (·.1)).drop (i+1):=by
    have hgx:(ls.map (·.1))[i]?=some ⟨pos,k,args⟩:=by rw[zE6,hz']; rfl
    rw[zE5 (by rw[zB7]; omega)]
    congr 1
    exact Option.some.inj ((zA6 _).symm.trans hgx)
   obtain⟨R,hR⟩:∃ R,textL ((ls.map (·.1)).drop (i+1))=R:=⟨_,rfl⟩
   obtain⟨f,hf⟩:∃ f:Int→List UInt8,(fun n=>32::Go.Lib.itoa n)=f:=⟨_,rfl⟩
   rw[hdr,textL,zC9]at htx
   have htx2:(txt++nameR k)++(args.flatMap f++(10::R))=T:=by
    rw[←htx,←hR,←hf,textI]
    simp[textL]
   clear htx
   have hlT:=congrArg List.length htx2
   simp only[zB2,zA7]at hlT
   obtain⟨Z,hZ⟩:∃ Z,ext X1 [⟨59,false,[.int .i64 pos,.int .i64 (k:Int),.slice aa args.length ac]⟩]=Z:=⟨_,rfl⟩
   have mZ:Mod [] X1 Z:=hZ▸Mod.ext (by omega)
   have nZ:Z.next=y+1:=by rw[←hZ,ext_next,hy]; rfl
   have kZ:bk Z (y+0)=some ⟨59,false,[.int .i64 pos,.int .i64 (k:Int),.slice aa args.length ac]⟩:=by rw[←hZ,bk_at hy (by simp)]; rfl
   have mXZ:=m1.trans mZ
   rw[hZ]
   refine (writeString_c Z (hB.mod0 mZ) (name_free hk).1 (by omega) (mXZ.ok hbX)).mono ?_
   clear hZ
   rintro _ X2 ⟨v2,rfl,hB2,m2,hv2⟩
   have hvy:∀ n∈idsV v1,n<y:=fun n hn=>hy▸(hB.vs.ne n hn).2
   have mX2:Mod [] X X2:=mXZ.step m2 hbX fun n hn=>by
    simp only[zB1]at hn
    rcases hn with rfl|hn
    ·exact .inr (by omega)
    ·exact .inr (by have:=hvi n hn; omega)
   have nX2:=m2.next
   rw[nZ]at nX2 hv2
   have k2:bk X2 (y+0)=some ⟨59,false,[.int .i64 pos,.int .i64 (k:Int),.slice aa args.length ac]⟩:=(m2.bk (by omega) (by
    simp only[zB1,not_or]
    exact⟨by omega,fun h=>by have:=hvy _ h; omega⟩)).trans kZ
   have k29b:bk X2 (x+29)=some ⟨114,false,shV (x+2)⟩:=((m2.bk (by omega) (by
    simp only[zB1,not_or]
    exact⟨by omega,fun h=>by have:=hvi _ h; omega⟩)).trans (mZ.bk (by omega) (by simp))).trans k29
   have y2:y+0<X2.next:=by omega
   rw[show X2=ext X2 [] from rfl]
   simp (maxDischargeDepth:=6) only[g3,g6,g7,g22,g23,g24,k2,y2,qk_old,ruW,putL,Nat.reduceLeDiff,xF,ruU,entryE,Nat.reduceLT,Nat.reduceAdd,Nat.reduceMul,Nat.reduceEqDiff]
   refine w_env fun E2 hE=>?_
   have h3:E2 3=.pointer (some ⟨b+0,0,none⟩):=by rw[hE]; simp only[g3,ruU,entryE,Nat.reduceLT,Nat.reduceAdd,Nat.reduceMul,Nat.reduceEqDiff]
   have h6:E2 6=.pointer (some ⟨x+1,0,none⟩):=by rw[hE]; simp only[g6,ruU,entryE,Nat.reduceLT,Nat.reduceAdd,Nat.reduceMul,Nat.reduceEqDiff]
   have h7:E2 7=.pointer (some ⟨x+29,0,none⟩):=by rw[hE]; simp only[g7,ruU,entryE,Nat.reduceLT,Nat.reduceAdd,Nat.reduceMul,Nat.reduceEqDiff]
   have h22:E2 22=v:=by rw[hE]; simp only[g22,ruU,entryE,Nat.reduceLT,Nat.reduceAdd,Nat.reduceMul,Nat.reduceEqDiff]
   have h23:E2 23=.int .i64 (ls.length:Int):=by rw[hE]; simp only[g23,ruU,entryE,Nat.reduceLT,Nat.reduceAdd,Nat.reduceMul,Nat.reduceEqDiff]
   have h24:E2 24=.int .i64 (i:Int):=by rw[hE]; simp only[g24,ruU,entryE,Nat.reduceLT,Nat.reduceAdd,Nat.reduceMul,Nat.reduceEqDiff]
   have h35:E2 35=.slice aa args.length ac:=by rw[hE]; simp only[ruU,entryE,Nat.reduceLT,Nat.reduceAdd,Nat.reduceMul,Nat.reduceEqDiff]
   have h36:E2 36=.int .i64 (args.length:Int):=by rw[hE]; simp only[ruU,entryE,Nat.reduceLT,Nat.reduceAdd,Nat.reduceMul,Nat.reduceEqDiff]
   have h37:E2 37=.int .i64 ((0:Nat):Int):=by rw[hE]; (simp only[ruU,entryE,Nat.reduceLT,Nat.reduceAdd,Nat.reduceMul,Nat.reduceEqDiff]<;>rfl)
   clear hE g3 g6 g7 g22 g23 g24 E
   rw[ext_nil]
   refine w_loop (fun (q:Nat × List UInt8 × Value) E' X'=>Mod [] X X'∧y+1≤X'.next∧BldAt X' (x+1) q.2.2 q.2.1∧(∀ n∈idsV q.2.2,y+1≤n)∧bk X' (x+29)=some ⟨114,false,shV (x+2)⟩∧q.2.1++((args.drop q.1).flatMap f++(10::R))=T∧q.1≤args.length∧E' 3=.pointer (some ⟨b+0,0,none⟩)∧E' 6=.pointer (some ⟨x+1,0,none⟩)∧E' 7=.pointer (some ⟨x+29,0,none⟩)∧E' 22=v∧E' 23=.int .i64 (ls.length:Int)∧E' 24=.int .i64 (i:Int)∧E' 35=.slice aa args.length ac∧E' 36=.int .i64 (args.length:Int)∧E' 37=.int .i64 (q.1:Int)) (fun q=>args.length-q.1) (0,txt++nameR k,v2)
    ⟨mX2,nX2,hB2,hv2,k29b,htx2,zB3 _,h3,h6,h7,h22,h23,h24,h35,h36,h37⟩ ?_
   clear h3 h6 h7 h22 h23 h24 h35 h36 h37 E2 y2 k2 k29b nX2 mX2 hv2 hB2 m2 v2 X2 htx2 hlT
   rintro⟨j,tx3,v3⟩ E X3 ⟨m3,n3,hB3,hv3,k3,htx3,hj,g3,g6,g7,g22,g23,g24,g35,g36,g37⟩
   simp only at hB3 hv3 htx3 hj g37
   have hlT:=congrArg List.length htx3
   simp only[zB2,zA7]at hlT
   have ok3:=m3.ok hbX
   have hv3x:∀ n∈(x+1)::idsV v3,n∈([]:List Nat)∨X.next≤n:=fun n hn=>by
    simp only[zB1]at hn
    rcases hn with rfl|hn
    ·exact .inr (by omega)
    ·exact .inr (by have:=hv3 n hn; omega)
   rw[show X3=ext X3 [] from rfl]
   by_cases hje:j=args.length
   ·have hdj:decide ((j:Int)<(args.length:Int))=false:=decide_eq_false (by omega)
    simp (maxDischargeDepth:=6) only[g3,g6,g7,g22,g23,g24,g35,g36,g37,hdj,ruW,putL,Nat.reduceLeDiff,xF,ruU,entryE,Nat.reduceLT,Nat.reduceAdd,Nat.reduceMul,Nat.reduceEqDiff]
    refine (writeByte_c (ext X3 []) 10 hB3 (by omega) ok3).mono ?_
    rintro _ X4 ⟨v4,rfl,hB4,m4,hv4⟩
    have mX4:=m3.step m4 hbX hv3x
    have nn4:=m4.next
    have hw:IntKind.i64.wrap ((i:Int)+1)=((i+1:Nat):Int):=wrap_succ (by omega)
    rw[show X4=ext X4 [] from rfl]
    simp (maxDischargeDepth:=6) only[g3,g6,g7,g22,g23,g24,hw,ruW,putL,Nat.reduceLeDiff,xF,ruU,entryE,Nat.reduceLT,Nat.reduceAdd,Nat.reduceMul,Nat.reduceEqDiff]
    rw[hje,List.drop_length,List.flatMap_nil,zD4]at htx3
    refine loopC_next ⟨(i+1,tx3++[10],v4),by simp only; omega,mX4,by rw[ext_nil]; rw[ext_next]at nn4; omega,hB4,fun n hn=>by have:=hv4 n hn; rw[ext_next]at this; omega,?_,?_,by simp only; omega,?_,?_,?_,?_,?_,?_⟩
    ·exact (m4.bk (by rw[ext_next]; omega) (by
      simp only[zB1,not_or]
      exact⟨by omega,fun h=>by have:=hv3 _ h; omega⟩)).trans k3
    ·show (tx3++[10])++textL ((ls.map (·.1)).drop (i+1))=T
     rw[hR,List.append_assoc]
     exact htx3
    all_goals simp only[g3,g6,g7,g22,g23,g24,ruU,entryE,Nat.reduceLT,Nat.reduceAdd,Nat.reduceMul,Nat.reduceEqDiff]
   ·have hjl:j<args.length:=by omega
    have hdj:decide ((j:Int)<(args.length:Int))=true:=decide_eq_true (by omega)
    have hyr3:=(hIR.mod0 m3).av _ hzm
    simp only at hyr3
    rw[ea]at hyr3
    obtain⟨n',off',s',c',e',o',M',e3,n3',r3,m3'⟩:=hyr3.one hjl
    cases e3
    rw[iv_get,zA6 hjl,zA5]at m3'
    have i3:=ia_of (P:=Tryz.prog) (k:=.i64) (i:=j) (n:=n') (off:=off') (len:=args.length) (cap:=ac) (s:=s') u35 s3 hjl
    rw[zC2]at i3
    obtain⟨p,hpv⟩:∃ p,args[j]=p:=⟨_,rfl⟩
    rw[hpv]at m3'
    obtain⟨p0,p1⟩:=q3 p (hpv▸List.getElem_mem hjl)
    have hdr2:args.drop j=p::args.drop (j+1):=by rw[zE5 hjl,hpv]
    rw[hdr2,zC9,←hf,List.append_assoc]at htx3
    simp only[List.cons_append]at htx3
    have hlT:=congrArg List.length htx3
    simp only[zB2,zA7]at hlT
    simp (maxDischargeDepth:=6) only[g3,g6,g7,g22,g23,g24,g35,g36,g37,hdj,i3,n3',r3,m3',qk_old,ruW,putL,Nat.reduceLeDiff,xF,ruU,entryE,Nat.reduceLT,Nat.reduceAdd,Nat.reduceMul,Nat.reduceEqDiff]
    refine (writeByte_c (ext X3 []) 32 hB3 (by omega) ok3).mono ?_
    rintro _ X4 ⟨v4,rfl,hB4,m4,hv4⟩
    have mX4:=m3.step m4 hbX hv3x
    have nn4:=m4.next
    rw[ext_next,zC5,zD1]at nn4 hv4
    have k4:bk X4 (x+29)=some ⟨114,false,shV (x+2)⟩:=(m4.bk (by rw[ext_next]; omega) (by
      simp only[zB1,not_or]
      exact⟨by omega,fun h=>by have:=hv3 _ h; omega⟩)).trans k3
    rw[show X4=ext X4 [] from rfl]
    simp (maxDischargeDepth:=6) only[g3,g6,g7,g22,g23,g24,g35,g36,g37,ruW,putL,Nat.reduceLeDiff,xF,ruU,entryE,Nat.reduceLT,Nat.reduceAdd,Nat.reduceMul,Nat.reduceEqDiff]
    refine (itoa_c (ext X4 []) (hp.mod (mm.trans mX4) (by simp)) p p0 p1).to ?_
    simp (maxDischargeDepth:=6) only[g3,g6,g7,g22,g23,g24,g35,g36,g37,ruW,putL,Nat.reduceLeDiff,xF,ruU,entryE,Nat.reduceLT,Nat.reduceAdd,Nat.reduceMul,Nat.reduceEqDiff]
    refine (writeString_c (ext X4 []) (w:=Go.Lib.itoa p) hB4 (itoa_ne p p0) (by rw[zB2,zB9]; omega) (mX4.ok hbX)).mono ?_
    rintro _ X5 ⟨v5,rfl,hB5,m5,hv5⟩
    have mX5:=mX4.step m5 hbX fun n hn=>by
     simp only[zB1]at hn
     rcases hn with rfl|hn
     ·exact .inr (by omega)
     ·exact .inr (by have:=hv4 n hn; omega)
    have nn5:=m5.next
    rw[ext_next,zC5,zD1]at nn5 hv5
    have k5:bk X5 (x+29)=some ⟨114,false,shV (x+2)⟩:=(m5.bk (by rw[ext_next]; omega) (by
      simp only[zB1,not_or]
      exact⟨by omega,fun h=>by have:=hv4 _ h; omega⟩)).trans k4
    have hwj:IntKind.i64.wrap ((j:Int)+1)=((j+1:Nat):Int):=wrap_succ (by omega)
    rw[show X5=ext X5 [] from rfl]
    simp (maxDischargeDepth:=6) only[g3,g6,g7,g22,g23,g24,g35,g36,g37,hwj,ruW,putL,Nat.reduceLeDiff,xF,ruU,entryE,Nat.reduceLT,Nat.reduceAdd,Nat.reduceMul,Nat.reduceEqDiff]
    refine loopC_next ⟨(j+1,tx3++[32]++Go.Lib.itoa p,v5),by simp only; omega,mX5,by rw[ext_nil]; omega,hB5,fun n hn=>by have:=hv5 n hn; omega,k5,?_,by simp only; omega,?_,?_,?_,?_,?_,?_,?_,?_,?_⟩
    ·show (tx3++[32]++Go.Lib.itoa p)++((args.drop (j+1)).flatMap f++(10::R))=T
     rw[←htx3,←hf]
     simp
    all_goals simp only[g3,g6,g7,g22,g23,g24,g35,g36,ruU,entryE,Nat.reduceLT,Nat.reduceAdd,Nat.reduceMul,Nat.reduceEqDiff]
open Go.ChangeShapes Go.WideShapes Go.ChangeAt Go.RowKit Go.Ax
section
variable {P : Program} {w : World} {r : Reach} {base : Nat}
theorem ok_sliceB {t e:TypeId} {v:Value} (ht:P.underlying t=some (.slice e)) (h:Value.okWide P w r base t v):v=.slice none 0 0∨∃ b off len cap,v=.slice (some ⟨b,off,none⟩) len cap:=by
 unfold Value.okWide at h
 rw[ht]at h
 unfold Cell.okWide Cell.ok at h
 cases v with
 |slice a len cap =>
  cases a with
  |none =>
   simp only[ht]at h
   left
   cases len<;>cases cap<;>first|rfl|(simp at h)
  |some a =>
   simp only[ht]at h
   have hs:=h.2.2.2.1
   obtain⟨b,off,s⟩:=a
   simp only at hs
   subst hs
   exact .inr ⟨b,off,len,cap,rfl⟩
 |_=>simp[ht]at h
end
theorem trodAll_carryB {K:Type} {enc:TypeId × Value→K} {P:Program} (hl:laidOutB P=true) {W W':World} (hb:Below W.heap.size W W'):∀ {ts:List TypeId} {vs:List Value} {ds:List (DataW K)} {ps:List MemPlace},
  (ts.all fun t=>P.readableRec t&&Nat.blt t P.types.size)=true→DataW.TrodAll enc P W 0 (fun _=>true) true ts vs ds ps→(∀ x∈ps,x.block<W.heap.size)→DataW.TrodAll enc P W' 0 (fun b=>decide (b<W.heap.size)) true ts vs ds ps
 |[],[],[],ps,_,h,_=>h
 |t::ts,v::vs,d::ds,ps,ht,h,hp=>by
  obtain⟨p,q,h1,h2,rfl⟩:=h
  simp only[List.all_cons,zA4]at ht
  exact⟨p,q,Below.trod hl ht.1.1 (blt_lt ht.1.2) h1 hb (fun x hx=>hp x (by simp[hx])),trodAll_carryB hl hb (by simpa using ht.2) h2 (fun x hx=>hp x (by simp[hx])),rfl⟩
theorem ownB:ownKnob Tryz.prog.godebug=none:=by kernel_rfl
theorem laidOutBz:laidOutB Tryz.prog=true:=by kernel_rfl
theorem u5:Tryz.prog.underlying 5=some (.int .u8):=by kernel_rfl
def LaidP (w:World) (e:TypeId):Prop:=∃ c,w.heap[3]?=some (.cells c e (0,0))∧c.toList=dc powD
theorem tab_laidP {w:World} {laid:List (String × DataW Unit)} (h:laidMet Tryz.prog laid w) (hx:("internal/strconv.uint64pow10", powD)∈laid):∃ e,LaidP w e:=by
 obtain⟨c1,t1,a1,b1⟩:=laid_tab h (name := "internal/strconv.uint64pow10") (d:=powD) hx (g:=3) (t:=207) (e:=190) (ts:=[190]) (D:=1000) (n:=20) (by kernel_rfl) (by kernel_rfl) (by kernel_rfl) (by kernel_rfl) (by kernel_rfl) (by kernel_rfl) (by kernel_rfl) (blt_lt (by kernel_rfl))
 exact⟨t1,c1,a1,b1⟩
theorem bk_put_eqB {H:AHeap} {g:Nat} {e:TypeId} {vs:List Value}:bk (H.put g (some (tabO e vs))) g=some ⟨e,false,vs⟩:=by
 refine blk_bk ⟨RV.ofList vs,?_,RV.n_ofList _,fun i hi=>?_⟩
 ·simp only[cellsAt,AHeap.get_put,if_true,tabO]
 ·rw[RV.get_ofList]
theorem add_pow {ρ:Ren} {H:AHeap} {W:World} {e:TypeId} (r:Rel Tryz.prog ρ H W) (hl:LaidP W e) (hex:∀ g,ρ.ex g=0) (hi:∀ n,H.get n≠none→ρ.blk n=3→n=3) (hn:3<H.next) :
  ∃ H1,Rel Tryz.prog ρ H1 W∧H1.next=H.next∧H1.base=H.base∧H1.dirty=H.dirty∧Pow H1∧∀ n,n≠3→H1.get n=H.get n:=by
 obtain⟨c1,a1,b1⟩:=hl
 have r1:=rel_tab r (g:=3) (show 3<Tryz.prog.globals.size by decide +kernel) (hex 3) hi a1 b1 (by kernel_rfl)
 exact⟨_,r1,rfl,rfl,rfl,⟨hn,e,bk_put_eqB⟩,fun n hn=>by rw[AHeap.get_put,if_neg hn]⟩
theorem u8s_of:∀ (vs:List Value),(∀ i,i<vs.length→∃ n:Int,vs.getD i undef=.int .u8 n∧0≤n∧n≤255)→∃ l:List UInt8,vs=bv l
 |[],_=>⟨[],rfl⟩
 |v::vs,hf=>by
  obtain⟨n,h0,h1,h2⟩:=hf 0 (by simp)
  have h0':v=.int .u8 n:=h0
  obtain⟨l,rfl⟩:=u8s_of vs fun i hi=>by
   have:=hf (i+1) (by simp only[zA7]; omega)
   simpa using this
  refine⟨n.toNat.toUInt8::l,?_⟩
  show _=.int .u8 ((n.toNat.toUInt8.toNat:Nat):Int)::bv l
  rw[h0',show n.toNat.toUInt8.toNat=n.toNat % 256 from UInt8.toNat_ofNat' ..,Nat.mod_eq_of_lt (by omega),Int.toNat_of_nonneg h1]
end Go.Proofs.YtnigelgcjfhghaaGreatDoor
namespace Go.Ax
open Go.ChangeShapes
section
variable {P : Program} {ρ : Ren} {H : AHeap} {w : World}
variable {K : Type} {enc : TypeId × Value → K} {spare : Nat → Bool} {held : Bool}
end
open Go.ChangeShapes
section
variable {P : Program} {ρ : Ren} {H : AHeap} {w : World} {g : Nat}
structure RoF (P:Program) (ρ:Ren) (H:AHeap) (w:World) (g:Nat):Prop where
 rel:Rel P ρ H w
 base:H.base=H.next
 dirty:H.dirty=[]
 al:∀ n,H.get n≠none→Fz (H.get n)∧ρ.blk n≠g
 ex:∀ n,ρ.ex n=0
theorem RoF.add (R:RoF P ρ H w g) {b off:Nat} {e:TypeId} {c:Array Value} {fz:Nat × Nat} {vs:List Value} (hb:w.heap[b]?=some (.cells c e fz)) (hc:∀ i,i<vs.length→c[off+i]?=some (ρ.val (vs.getD i undef)))
  (hs:scbL H.next vs=true) (hg:b≠g):RoF P (ρ.at H.next b off 0) (roH H e vs) w g∧Ext H.next ρ (ρ.at H.next b off 0)∧Gro H (roH H e vs):=by
 have ex:=Ren.at_ext ρ H.next b off 0
 have r:=R.rel
 have hal:∀ n,H.get n≠none→ρ.blk n=b→Fz (H.get n):=fun n hn _=>(R.al n hn).1
 have hgr:Gro H (roH H e vs):=⟨Nat.le_succ _,fun n hn=>by rw[roH_get,if_neg (by omega)]⟩
 refine⟨⟨⟨zA9 _,⟨Nat.le_succ_of_le r.glob.1,fun g hg=>?_⟩,fun m n hm hn he=>?_,fun n o hn=>?_,fun n o hn=>?_⟩,rfl,R.dirty,fun n hn=>?_,fun n=>?_⟩,ex,hgr⟩
 ·have:=r.glob.1
  rw[ex.blk g (by omega),ex.sh g (by omega)]; exact r.glob.2 g hg
 ·rw[roH_get]at hm hn ⊢
  rw[roH_get]
  by_cases h1:m=H.next<;>by_cases h2:n=H.next
  ·exact .inl (h1.trans h2.symm)
  ·rw[if_neg h2]at hn
   rw[if_pos h1,if_neg h2]
   subst h1
   rw[Ren.at_blk,ex.blk n (r.lt hn)]at he
   exact .inr ⟨roObj_fz,hal n hn he.symm⟩
  ·rw[if_neg h1]at hm
   rw[if_neg h1,if_pos h2]
   subst h2
   rw[Ren.at_blk,ex.blk m (r.lt hm)]at he
   exact .inr ⟨hal m hm he,roObj_fz⟩
  ·rw[if_neg h1]at hm
   rw[if_neg h2]at hn
   rw[if_neg h1,if_neg h2]
   rw[ex.blk m (r.lt hm),ex.blk n (r.lt hn)]at he
   exact r.inj m n hm hn he
 ·rw[roH_get]at hn
  by_cases h:n=H.next
  ·rw[if_pos h]at hn
   cases hn
   subst h
   refine⟨zC4 _,?_⟩
   simp only[sco,roObj,RV.n_ofList,RV.get_ofList]
   intro i hi
   exact scb_mono (Nat.le_succ _) _ (scbL_iff.1 hs _ (by simp[List.getD,hi]))
  ·rw[if_neg h]at hn
   have:=r.dom n o hn
   exact⟨Nat.lt_succ_of_lt this.1,this.2.mono (Nat.le_succ _)⟩
 ·rw[roH_get]at hn
  by_cases h:n=H.next
  ·rw[if_pos h]at hn
   cases hn
   subst h
   refine⟨_,by rw[Ren.at_blk]; exact hb,?_⟩
   simp only[Fits,roObj]
   refine⟨c,fz,rfl,fun i hi=>?_,fun h=>(by cases h),fun _ h=>(by cases h)⟩
   simp only[RV.n_ofList]at hi
   rw[RV.get_ofList,Ren.at_sh,val_ext ex _ (scbL_iff.1 hs _ (by simp[List.getD,hi])),Nat.add_comm]
   exact hc i hi
  ·rw[if_neg h]at hn
   obtain⟨o',h1,h2⟩:=r.obj n o hn
   have hd:=r.dom n o hn
   exact⟨o',by rw[ex.blk n hd.1]; exact h1,h2.ext hd.1 hd.2 ex⟩
 ·rw[roH_get]at hn ⊢
  by_cases h:n=H.next
  ·rw[if_pos h]
   exact⟨roObj_fz,by rw[h,Ren.at_blk]; exact hg⟩
  ·rw[if_neg h]at hn ⊢
   exact⟨(R.al n hn).1,by rw[ex.blk n (r.lt hn)]; exact (R.al n hn).2⟩
 ·by_cases h:n=H.next
  ·exact if_pos h
  ·exact (if_neg h).trans (R.ex n)
theorem RoF.skipE (R:RoF P ρ H w g) {ρ':Ren} (ex:Ext H.next ρ ρ') (he:∀ n,ρ'.ex n=0):RoF P ρ' ⟨H.root,H.next+1,H.next+1,H.dirty⟩ w g∧Gro H ⟨H.root,H.next+1,H.next+1,H.dirty⟩:=by
 have R':Ro P ρ H w:=⟨R.rel,R.base,R.dirty,fun n hn=>.inl (R.al n hn).1⟩
 obtain⟨k1,k2⟩:=R'.skipE ex
 exact⟨⟨k1.rel,rfl,R.dirty,fun n hn=>⟨(R.al n hn).1,by rw[ex.blk n (R.rel.lt hn)]; exact (R.al n hn).2⟩,he⟩,k2⟩
theorem RoF.sl (R:RoF P ρ H w g) {sz len cap b off:Nat} {sp:Option Nat} (hspot:sp=none∨len=0∧cap=0) {vs:List Value} (hlen:vs.length=len*sz)
  (hcell:len=0∨∃ c e fz,w.heap[b]?=some (.cells c e fz)∧∀ i,i<vs.length→c[off+i]?=some (ρ.val (vs.getD i undef))) (hs:scbL H.next vs=true) (hg:len=0∨b≠g) (hlc:len≤cap) :
  ∃ ρ1 H1 u,RoF P ρ1 H1 w g∧Ext H.next ρ ρ1∧Gro H H1∧ρ1.val u=.slice (some ⟨b,off,sp⟩) len cap∧scb H1.next u=true∧SlAt H1 sz u vs len:=by
 have hex:∀ s,∀ n,(ρ.at H.next b s 0).ex n=0:=fun s n=>by
  by_cases h:n=H.next
  ·exact if_pos h
  ·exact (if_neg h).trans (R.ex n)
 by_cases hz:len=0
 ·cases sp with
  |none =>
   obtain⟨k1,k3⟩:=R.skipE (Ren.at_ext ρ H.next b off 0) (hex off)
   exact⟨_,_,.slice (some ⟨H.next,0,some 0⟩) len cap,k1,Ren.at_ext ρ H.next b off 0,k3,val_sl,blt_of (zC4 _),hlen,_,_,rfl,.inl hz⟩
  |some j =>
   have hc:cap=0:=by
    rcases hspot with h|h
    ·cases h
    ·exact h.2
   subst hc hz
   obtain⟨k1,k3⟩:=R.skipE (ρ.atJ_ext H.next b off j) (fun n=>by
    by_cases h:n=H.next
    ·exact if_pos h
    ·exact (if_neg h).trans (R.ex n))
   exact⟨_,_,.slice (some ⟨H.next,0,some 1⟩) 0 0,k1,ρ.atJ_ext H.next b off j,k3,val_slJ,blt_of (zC4 _),hlen,_,_,rfl,.inl rfl⟩
 ·obtain rfl:sp=none:=by
   rcases hspot with h|h
   ·exact h
   ·exact absurd h.1 hz
  obtain⟨c,e,fz,hb,hc⟩:=hcell.resolve_left hz
  obtain⟨k1,k2,k3⟩:=R.add hb hc hs (hg.resolve_left hz)
  exact⟨_,_,.slice (some ⟨H.next,0,some 0⟩) len cap,k1,k2,k3,val_sl,blt_of (zC4 _),hlen,_,_,rfl,.inr ⟨H.next,e,rfl,zC4 _,roH_rk,hlc⟩⟩
end
end Go.Ax
namespace Go.Proofs.YtnigelgcjfhghaaGreatDoor
open Go.ChangeShapes Go.WideShapes Go.ChangeAt Go.RowKit Go.Ax
theorem ne_pow {w:World} {e e':TypeId} {b i:Nat} {c:Array Value} {fz:Nat × Nat} {k:IntKind} {n:Int} (hl:LaidP w e) (hb:w.heap[b]?=some (.cells c e' fz)) (hc:c[i]?=some (.int k n)) (hk:k≠.u64):b≠3:=fun h=>by
 obtain⟨c1,a1,b1⟩:=hl
 rw[h,a1]at hb
 simp only[Option.some.injEq,Obj.cells.injEq]at hb
 rw[←hb.1]at hc
 have:Value.int k n∈dc powD:=by
  rw[←b1,Array.mem_toList_iff]
  exact Array.mem_of_getElem? hc
 rw[pow_list]at this
 obtain⟨y,_,h⟩:=zC8.1 this
 cases h
 exact hk rfl
theorem ints_of:∀ (vs:List Value),(∀ i,i<vs.length→∃ n:Int,vs.getD i undef=.int .i64 n)→∃ l:List Int,vs=iv l
 |[],_=>⟨[],rfl⟩
 |v::vs,hf=>by
  obtain⟨n,h0⟩:=hf 0 (by simp)
  have h0':v=.int .i64 n:=h0
  obtain⟨l,rfl⟩:=ints_of vs fun i hi=>by
   have:=hf (i+1) (by simp only[zA7]; omega)
   simpa using this
  exact⟨n::l,by rw[h0']; rfl⟩
theorem one_cell {vs:List Value} {i:Nat} (h:i<vs.length):(vs.drop (i*1)).take 1=[vs.getD i undef]:=by
 rw[zC2,zE5 h,List.take_succ_cons,List.take_zero,zB8,zA6 h]
 rfl
section
variable {K : Type} {enc : TypeId × Value → K} {w : World} {ρ : Ren} {H : AHeap} {e' : TypeId}
theorem u3:Tryz.prog.underlying 3=some (.int .i64):=by kernel_rfl
theorem RoF_bytes (R:RoF Tryz.prog ρ H w 3) (hl:LaidP w e') {fuel:Nat} {v:Value} {x:DataW K × List MemPlace} (h:DataW.trod enc Tryz.prog w 0 (fun _=>true) true fuel 23 [v]=some x) :
  ∃ ρ1 H1 u l,RoF Tryz.prog ρ1 H1 w 3∧Ext H.next ρ ρ1∧Gro H H1∧ρ1.val u=v∧scb H1.next u=true∧RdAt H1 1 u (bv l) l.length:=by
 rcases DataW.trod_slice u23 h with⟨h1,_⟩|⟨a,len,cap,_,_,_,_,h1,_,_,hlc,_⟩
 ·simp only[List.cons.injEq,and_true]at h1
  subst h1
  exact⟨ρ,H,.slice none 0 0,[],R,Ext.refl _ _,Gro.refl,by rw[Ren.val],rfl,RdAt.nil⟩
 ·simp only[List.cons.injEq,and_true]at h1
  subst h1
  have hs0:=sl_spot (fun _=>rfl) u23 s5 h
  obtain⟨b,off,s⟩:=a
  simp only at hs0
  rcases hs0 with hs0|⟨rfl,rfl⟩
  case inr =>
   obtain⟨ρ1,H1,u,q1,q2,q3,q4,q5,q6⟩:=R.sl (sz:=1) (len:=0) (cap:=0) (b:=b) (off:=off) (sp:=s) (vs:=[]) (.inr ⟨rfl,rfl⟩) (by simp) (.inl rfl) rfl (.inl rfl) (zA9 _)
   exact⟨ρ1,H1,u,[],q1,q2,q3,q4,q5,SlAt.rd q6⟩
  subst hs0
  obtain⟨vs,n,k1,k2,k3⟩:=sl_cells u23 s5 h
  obtain⟨l,rfl⟩:=u8s_of vs fun i hi=>by
   obtain⟨y,hy⟩:=k3 i (by omega)
   rw[one_cell hi]at hy
   obtain⟨n,h1,_,hwf⟩:=DataW.trod_int u5 hy
   simp only[List.cons.injEq,and_true]at h1
   simp only[Lit.wf,zA4,decide_eq_true_eq]at hwf
   exact⟨n,h1,hwf⟩
  have hbl:(bv l).length=l.length:=by simp[bv]
  have hll:len=l.length:=by omega
  subst hll
  have hval:∀ i,i<(bv l).length→ρ.val ((bv l).getD i undef)=(bv l).getD i undef:=fun i hi=>by
   rw[zB8,bv_get,zA6 (by omega)]
   simp[Ren.val]
  have hcell:l.length=0∨∃ c e fz,w.heap[b]?=some (.cells c e fz)∧∀ i,i<(bv l).length→c[off+i]?=some (ρ.val ((bv l).getD i undef)):=by
   rcases k2 with h|⟨c,e,fz,h1,h2⟩
   ·exact .inl (by omega)
   ·exact .inr ⟨c,e,fz,h1,fun i hi=>by rw[hval i hi]; exact h2 i hi⟩
  have hne:l.length=0∨b≠3:=by
   rcases Nat.eq_zero_or_pos l.length with h0|h0
   ·exact .inl h0
   ·rcases k2 with h|⟨c,e,fz,h1,h2⟩
    ·exact .inl (by omega)
    ·right
     have h3:=h2 0 (by omega)
     rw[zB8,bv_get,zA6 h0]at h3
     exact ne_pow hl h1 (i:=off+0) (k:=.u8) (n:=(l[0].toNat:Int)) (by simpa using h3) (by decide)
  obtain⟨ρ1,H1,u,q1,q2,q3,q4,q5,q6⟩:=R.sl (cap:=cap) (.inl rfl) k1 hcell (by rw[scbL_iff]; intro v' hv'; obtain⟨w',_,rfl⟩:=zC8.1 hv'; rfl) hne hlc
  exact⟨ρ1,H1,u,l,q1,q2,q3,q4,q5,SlAt.rd q6⟩
theorem RoF_ints (R:RoF Tryz.prog ρ H w 3) (hl:LaidP w e') {fuel:Nat} {v:Value} {x:DataW K × List MemPlace} (h:DataW.trod enc Tryz.prog w 0 (fun _=>true) true fuel 35 [v]=some x) :
  ∃ ρ1 H1 u l,RoF Tryz.prog ρ1 H1 w 3∧Ext H.next ρ ρ1∧Gro H H1∧ρ1.val u=v∧scb H1.next u=true∧RdAt H1 1 u (iv l) l.length:=by
 rcases DataW.trod_slice u35 h with⟨h1,_⟩|⟨a,len,cap,_,_,_,_,h1,_,_,hlc,_⟩
 ·simp only[List.cons.injEq,and_true]at h1
  subst h1
  exact⟨ρ,H,.slice none 0 0,[],R,Ext.refl _ _,Gro.refl,by rw[Ren.val],rfl,RdAt.nil⟩
 ·simp only[List.cons.injEq,and_true]at h1
  subst h1
  have hs0:=sl_spot (fun _=>rfl) u35 s3 h
  obtain⟨b,off,s⟩:=a
  simp only at hs0
  rcases hs0 with hs0|⟨rfl,rfl⟩
  case inr =>
   obtain⟨ρ1,H1,u,q1,q2,q3,q4,q5,q6⟩:=R.sl (sz:=1) (len:=0) (cap:=0) (b:=b) (off:=off) (sp:=s) (vs:=[]) (.inr ⟨rfl,rfl⟩) (by simp) (.inl rfl) rfl (.inl rfl) (zA9 _)
   exact⟨ρ1,H1,u,[],q1,q2,q3,q4,q5,SlAt.rd q6⟩
  subst hs0
  obtain⟨vs,n,k1,k2,k3⟩:=sl_cells u35 s3 h
  obtain⟨l,rfl⟩:=ints_of vs fun i hi=>by
   obtain⟨y,hy⟩:=k3 i (by omega)
   rw[one_cell hi]at hy
   obtain⟨n,h1,_,_⟩:=DataW.trod_int u3 hy
   simp only[List.cons.injEq,and_true]at h1
   exact⟨n,h1⟩
  have hbl:(iv l).length=l.length:=by simp[iv]
  have hll:len=l.length:=by omega
  subst hll
  have hval:∀ i,i<(iv l).length→ρ.val ((iv l).getD i undef)=(iv l).getD i undef:=fun i hi=>by
   rw[zB8,iv_get,zA6 (by omega)]
   simp[Ren.val]
  have hcell:l.length=0∨∃ c e fz,w.heap[b]?=some (.cells c e fz)∧∀ i,i<(iv l).length→c[off+i]?=some (ρ.val ((iv l).getD i undef)):=by
   rcases k2 with h|⟨c,e,fz,h1,h2⟩
   ·exact .inl (by omega)
   ·exact .inr ⟨c,e,fz,h1,fun i hi=>by rw[hval i hi]; exact h2 i hi⟩
  have hne:l.length=0∨b≠3:=by
   rcases Nat.eq_zero_or_pos l.length with h0|h0
   ·exact .inl h0
   ·rcases k2 with h|⟨c,e,fz,h1,h2⟩
    ·exact .inl (by omega)
    ·right
     have h3:=h2 0 (by omega)
     rw[zB8,iv_get,zA6 h0]at h3
     exact ne_pow hl h1 (i:=off+0) (k:=.i64) (n:=l[0]) (by simpa using h3) (by decide)
  obtain⟨ρ1,H1,u,q1,q2,q3,q4,q5,q6⟩:=R.sl (cap:=cap) (.inl rfl) k1 hcell (by rw[scbL_iff]; intro v' hv'; obtain⟨w',_,rfl⟩:=zC8.1 hv'; rfl) hne hlc
  exact⟨ρ1,H1,u,l,q1,q2,q3,q4,q5,SlAt.rd q6⟩
theorem trod_ins {n:Nat} {cs:List Value} {y:DataW K × List MemPlace} (hl:cs.length=3) (h:DataW.trod enc Tryz.prog w 0 (fun _=>true) true n 59 cs=some y) :
  ∃ p o v m z,cs=[.int .i64 p,.int .i64 o,v]∧DataW.trod enc Tryz.prog w 0 (fun _=>true) true m 35 [v]=some z:=by
 have hchk:(match Tryz.prog.underlying 59 with
  |some (.struct fs)=>fs.size == 3&&(fs.toList.map fun f=>(f.type,f.offset)) == [(3,0),(3,1),(35,2)]
  |_=>false)=true:=by kernel_rfl
 cases hu:Tryz.prog.underlying 59 with
 |none=>rw[hu]at hchk; cases hchk
 |some td =>
  rw[hu]at hchk
  cases td with
  |struct fs =>
   simp only[zA4,beq_iff_eq]at hchk
   obtain⟨h3,hfs⟩:=hchk
   obtain⟨xs,m,_,_,_,hxl,hf⟩:=DataW.trod_struct hu h
   obtain⟨fl⟩:=fs
   obtain⟨f0,f1,f2,rfl⟩:∃ f0 f1 f2,fl=[f0,f1,f2]:=by
    match fl,h3 with
    |[a,b,c],_=>exact⟨a,b,c,rfl⟩
   simp only[zB4,zE3,List.cons.injEq,Prod.mk.injEq,and_true]at hfs
   obtain⟨⟨t0,o0⟩,⟨t1,o1⟩,t2,o2⟩:=hfs
   obtain⟨a,b,c,rfl⟩:∃ a b c,cs=[a,b,c]:=by
    match cs,hl with
    |[a,b,c],_=>exact⟨a,b,c,rfl⟩
   obtain⟨y0,y1,y2,rfl⟩:∃ y0 y1 y2,xs=[y0,y1,y2]:=by
    match xs,hxl with
    |[a,b,c],_=>exact⟨a,b,c,rfl⟩
   have c3:Tryz.prog.cellsOf 3=1:=cellsOf_szOf s3
   have c35:Tryz.prog.cellsOf 35=1:=cellsOf_szOf (by kernel_rfl)
   have h0:=hf 0 f0 rfl
   have h1:=hf 1 f1 rfl
   have h2:=hf 2 f2 rfl
   rw[t0,o0,c3]at h0
   rw[t1,o1,c3]at h1
   rw[t2,o2,c35]at h2
   obtain⟨p,e0,_⟩:=DataW.trod_int u3 (x:=y0) h0
   obtain⟨o,e1,_⟩:=DataW.trod_int u3 (x:=y1) h1
   simp at e0 e1
   exact⟨p,o,c,m,y2,by rw[e0,e1],h2⟩
  |_=>cases hchk
theorem RoF_rows (hl:LaidP w e'):∀ (cl:List (List Value)) {ρ:Ren} {H:AHeap},(∀ c∈cl,∃ p o v m,∃ z:DataW K × List MemPlace,c=[.int .i64 p,.int .i64 o,v]∧DataW.trod enc Tryz.prog w 0 (fun _=>true) true m 35 [v]=some z)→RoF Tryz.prog ρ H w 3 →
  ∃ ρ1 H1,∃ ls:List Iv,RoF Tryz.prog ρ1 H1 w 3∧Ext H.next ρ ρ1∧Gro H H1∧(insC ls).map ρ1.val=cl.flatten∧ls.length=cl.length∧∀ x∈ls,RdAt H1 1 x.2 (iv x.1.args) x.1.args.length∧scb H1.next x.2=true
 |[],ρ,H,_,R=>⟨ρ,H,[],R,Ext.refl _ _,Gro.refl,rfl,rfl,fun x hx=>by cases hx⟩
 |c::cl,ρ,H,hh,R=>by
  obtain⟨p,o,v,m,z,rfl,hz⟩:=hh c (zC1 ..)
  obtain⟨ρ1,H1,u,l,a1,a2,a3,a4,a5,a6⟩:=RoF_ints R hl hz
  obtain⟨ρ2,H2,ls,b1,b2,b3,b4,b5,b6⟩:=RoF_rows hl cl (fun c hc=>hh c (zB6 _ hc)) a1
  refine⟨ρ2,H2,(⟨p,o,l⟩,u)::ls,b1,a2.trans b2 a3.next,a3.trans b3,?_,by rw[zA7,zA7,b5],fun x hx=>?_⟩
  ·have hv:ρ2.val u=v:=by rw[val_ext b2 u a5,a4]
   rw[List.flatten_cons,←b4]
   show [ρ2.val (.int .i64 p),ρ2.val (.int .i64 o),ρ2.val u]++(insC ls).map ρ2.val=_
   rw[hv]
   simp[Ren.val]
  ·rcases zB1.1 hx with rfl|hx
   ·exact⟨a6.of b3.next fun n hn=>b3.get n (a6.ne n hn).2,scb_mono b3.next u a5⟩
   ·exact b6 x hx
theorem RoF_instrs (R:RoF Tryz.prog ρ H w 3) (hl:LaidP w e') {fuel:Nat} {v:Value} {x:DataW K × List MemPlace} (h:DataW.trod enc Tryz.prog w 0 (fun _=>true) true fuel 42 [v]=some x) :
  ∃ ρ1 H1 u ls,RoF Tryz.prog ρ1 H1 w 3∧Ext H.next ρ ρ1∧Gro H H1∧ρ1.val u=v∧scb H1.next u=true∧InsRd H1 u ls:=by
 have nil:∀ (X:AHeap) (a:Option Addr) (c:Nat),InsRd X (.slice a 0 c) []:=fun X a c=>⟨⟨rfl,.inl ⟨rfl,_,_,rfl⟩⟩,fun x hx=>(by cases hx),fun x hx=>(by cases hx)⟩
 rcases DataW.trod_slice u42 h with⟨h1,_⟩|⟨a,len,cap,_,_,_,_,h1,_,_,hlc,_⟩
 ·simp only[List.cons.injEq,and_true]at h1
  subst h1
  exact⟨ρ,H,.slice none 0 0,[],R,Ext.refl _ _,Gro.refl,by rw[Ren.val],rfl,nil _ _ _⟩
 ·simp only[List.cons.injEq,and_true]at h1
  subst h1
  have hs0:=sl_spot (fun _=>rfl) u42 s59 h
  obtain⟨b,off,s⟩:=a
  simp only at hs0
  rcases hs0 with hs0|⟨rfl,rfl⟩
  case inr =>
   obtain⟨ρ1,H1,u,q1,q2,q3,q4,q5,q6⟩:=R.sl (sz:=3) (len:=0) (cap:=0) (b:=b) (off:=off) (sp:=s) (vs:=[]) (.inr ⟨rfl,rfl⟩) (by simp) (.inl rfl) rfl (.inl rfl) (zA9 _)
   obtain⟨_,a,c,rfl,_⟩:=q6
   exact⟨ρ1,H1,_,[],q1,q2,q3,q4,q5,nil _ _ _⟩
  subst hs0
  obtain⟨vs,n,k1,k2,k3⟩:=sl_cells u42 s59 h
  have hcut:=cut_flat (m:=3) len vs k1
  have hcl:∀ c∈(List.range len).map (fun i=>(vs.drop (i*3)).take 3),∃ p o v m,∃ z:DataW K × List MemPlace,c=[.int .i64 p,.int .i64 o,v]∧DataW.trod enc Tryz.prog w 0 (fun _=>true) true m 35 [v]=some z:=fun c hc=>by
   obtain⟨i,hi,rfl⟩:=zC8.1 hc
   have hi:=List.mem_range.1 hi
   obtain⟨y,hy⟩:=k3 i hi
   have hm:i*3+3≤len*3:=by omega
   exact trod_ins (by rw[List.length_take,List.length_drop]; omega) hy
  obtain⟨ρ1,H1,ls,b1,b2,b3,b4,b5,b6⟩:=RoF_rows hl _ hcl R
  rw[←hcut]at b4
  rw[zB7,List.length_range]at b5
  have hil:(insC ls).length=len*3:=by rw[insC_len,b5]
  have hval:∀ i,i<(insC ls).length→ρ1.val ((insC ls).getD i undef)=vs.getD i undef:=fun i hi=>by
   rw[←b4,zB8,zB8,zE6,zA6 hi]
   rfl
  have hcell:len=0∨∃ c e fz,w.heap[b]?=some (.cells c e fz)∧∀ i,i<(insC ls).length→c[off+i]?=some (ρ1.val ((insC ls).getD i undef)):=by
   rcases k2 with h|⟨c,e,fz,h1,h2⟩
   ·exact .inl (by omega)
   ·exact .inr ⟨c,e,fz,h1,fun i hi=>by rw[hval i hi]; exact h2 i (by omega)⟩
  have hne:len=0∨b≠3:=by
   rcases Nat.eq_zero_or_pos len with h0|h0
   ·exact .inl h0
   ·rcases k2 with h|⟨c,e,fz,h1,h2⟩
    ·exact .inl (by omega)
    ·right
     have h3:=h2 0 (by omega)
     obtain⟨p,o,q,m,z,hc,_⟩:=hcl _ (zC8.2 ⟨0,List.mem_range.2 h0,rfl⟩)
     have h4:vs.getD 0 undef=.int .i64 p:=by
      have h5:((vs.drop (0*3)).take 3)[0]?=some (Value.int .i64 p):=by rw[hc]; rfl
      rw[Nat.zero_mul,List.drop_zero,List.getElem?_take_of_lt (by omega)]at h5
      rw[zB8,h5]
      rfl
     rw[h4]at h3
     exact ne_pow hl h1 (i:=off+0) (k:=.i64) (n:=p) h3 (by decide)
  have hsc:scbL H1.next (insC ls)=true:=insC_sc fun z hz=>(b6 z hz).2
  obtain⟨ρ2,H2,u,q1,q2,q3,q4,q5,q6⟩:=b1.sl (cap:=cap) (.inl rfl) hil hcell hsc hne hlc
  refine⟨ρ2,H2,u,ls,q1,b2.trans q2 b3.next,b3.trans q3,q4,q5,⟨by rw[b5]; exact SlAt.rd q6,fun z hz=>?_,fun z hz=>scb_mono q3.next _ (b6 z hz).2⟩⟩
  have:=(b6 z hz).1
  exact this.of q3.next fun n hn=>q3.get n (this.ne n hn).2
end
open Go.ChangeShapes Go.WideShapes Go.ChangeAt Go.RowKit Go.Ax
theorem law_callsC {K:Type} {enc:TypeId × Value→K} {f:FuncId} {W:World} {v1 v2:Value} {d1 d2:DataW K} {p1 p2:List MemPlace} {e:TypeId} {base:Nat} (hl:LaidP W e) (ok1:Value.okWide Tryz.prog W .any base 23 v1) (ok2:Value.okWide Tryz.prog W .any base 42 v2) (h1:DataW.Trod enc Tryz.prog W 0 (fun _=>true) true 23 v1 d1 p1) (h2:DataW.Trod enc Tryz.prog W 0 (fun _=>true) true 42 v2 d2 p2)
  (walk:∀ (u v:Value) (l:List UInt8) (ls:List Iv) (H:AHeap),H.base≤H.next→Pow H→RdAt H 1 u (bv l) l.length→scb H.next u=true→InsRd H v ls→CallA Tryz.prog f [u,v] H fun out H1=>out=.ok (.bool true)∧Mod [] H H1) :
  Calls Tryz.prog f #[v1,v2] W (fun e w'=>e=.returned (.bool true)∧RowKit.Below W.heap.size W w'):=by
 obtain⟨N,hN⟩:∃ N,N=Tryz.prog.globals.size:=⟨_,rfl⟩
 have h6:6≤N:=by rw[hN]; exact zB5 (by kernel_rfl)
 have r:Rel Tryz.prog (enR N 0 0) (AHeap.none (N+1)) W:=⟨zA9 _,⟨by rw[←hN]; exact Nat.le_succ _,fun g hg=>by
   have:g≠N:=by omega
   exact⟨if_neg this,if_neg this⟩⟩,fun m _ hm=>absurd (none_get _ m) hm,fun n o ho=>(by rw[none_get]at ho; cases ho),fun n o ho=>(by rw[none_get]at ho; cases ho)⟩
 have R:RoF Tryz.prog (enR N 0 0) (AHeap.none (N+1)) W 3:=⟨r,rfl,rfl,fun n hn=>absurd (none_get _ n) hn,fun _=>rfl⟩
 obtain⟨f1,hf1⟩:=h1
 obtain⟨f2,hf2⟩:=h2
 have e1:v1.cells.toList=[v1]:=by rcases ok_sliceB u23 ok1 with rfl|⟨_,_,_,_,rfl⟩<;>rfl
 have e2:v2.cells.toList=[v2]:=by rcases ok_sliceB u42 ok2 with rfl|⟨_,_,_,_,rfl⟩<;>rfl
 rw[e1]at hf1
 rw[e2]at hf2
 obtain⟨ρ1,H1,u,l,a1,a2,a3,a4,a5,a6⟩:=RoF_bytes R hl hf1
 obtain⟨ρ2,H2,v,ls,b1,b2,b3,b4,b5,b6⟩:=RoF_instrs a1 hl hf2
 have t1:N+1≤H1.next:=a3.next
 have t2:=b3.next
 obtain⟨H3,c1,c2,c3,c4,c5,c6⟩:=add_pow b1.rel hl b1.ex (fun n hn he=>absurd he (b1.al n hn).2) (by omega)
 have hne:∀ n,H2.get n≠none→n≠3:=fun n hn h=>by
  subst h
  exact (b1.al 3 hn).2 (b1.rel.glob.2 3 (by omega)).1
 have hu2:RdAt H2 1 u (bv l) l.length:=a6.of b3.next fun n hn=>b3.get n (a6.ne n hn).2
 have hu:RdAt H3 1 u (bv l) l.length:=hu2.of (by omega) fun n hn=>c6 n (hne n (hu2.ne n hn).1)
 have hv:InsRd H3 v ls:=⟨b6.rd.of (by omega) fun n hn=>c6 n (hne n (b6.rd.ne n hn).1),fun x hx=>(b6.av x hx).of (by omega) fun n hn=>c6 n (hne n ((b6.av x hx).ne n hn).1),fun x hx=>scb_mono (by omega) _ (b6.sc x hx)⟩
 have su:scb H3.next u=true:=scb_mono (by omega) _ a5
 have sv:scb H3.next v=true:=scb_mono (by omega) _ b5
 have hb:H3.base=H3.next:=by rw[c3,c2]; exact b1.base
 have hd:H3.dirty=[]:=by rw[c4]; exact b1.dirty
 have:=rel_calls c1 (args:=[u,v]) (by simp only[scbL,su,sv,zD6]) hb hd (walk u v l ls H3 (Nat.le_of_eq hb) c5 hu su hv)
 rw[zB4,zB4,zE3,b4,val_ext b2 u a5,a4]at this
 exact this
open Go.Ax
set_option maxRecDepth 100000
theorem eqb_bs (a b:List UInt8):((bs a).toList == (bs b).toList)=decide (a=b):=by
 have h1:∀ l:List UInt8,(bs l).toList=l:=fun l=>by rw[Go.Lib.toList_data]
 rw[h1,h1]
 by_cases h:a=b
 ·subst h; simp
 ·simp[h]
set_option maxRecDepth 100000
set_option maxRecDepth 100000
def fixI (op:Nat):Int:=((kindsR op []).length:Int)
theorem fix_is {op:Nat} (h:op<28):fixI op=if op=3∨op=15∨op=19∨op=20∨op=26∨op=27 then 0 else if op=24 then 2 else 1:=by
 have:∀ i:Fin 28,fixI i.val=if i.val=3∨i.val=15∨i.val=19∨i.val=20∨i.val=26∨i.val=27 then 0 else if i.val=24 then 2 else 1:=by decide +kernel
 exact this ⟨op,h⟩
theorem fixed50_c (H:AHeap) (op:Nat) (hop:op<28):Pure 50 [.int .i64 (op:Int)] H (.int .i64 (fixI op)):=by
 have hd:∀ k:Nat,decide ((op:Int)=(k:Int))=decide (op=k):=fun k=>by
  by_cases h:op=k
  ·rw[decide_eq_true h,decide_eq_true (by omega)]
  ·rw[decide_eq_false h,decide_eq_false (by omega)]
 have d3:decide ((op:Int)=3)=decide (op=3):=hd 3
 have d15:decide ((op:Int)=15)=decide (op=15):=hd 15
 have d19:decide ((op:Int)=19)=decide (op=19):=hd 19
 have d20:decide ((op:Int)=20)=decide (op=20):=hd 20
 have d26:decide ((op:Int)=26)=decide (op=26):=hd 26
 have d27:decide ((op:Int)=27)=decide (op=27):=hd 27
 have d24:decide ((op:Int)=24)=decide (op=24):=hd 24
 have hf:=fix_is hop
 refine callS_fn mixed Tryz.func50 rfl Tryz.ntmps50 (zB5 rfl) fun wf hsc=>?_
 by_cases h3:op=3
 ·rw[if_pos (by omega)]at hf
  simp (maxDischargeDepth:=6) only[d3,decide_eq_true h3,Tryz.results50,ruW,putL,Nat.reduceLeDiff,xF,ruU,entryE,Nat.reduceLT,Nat.reduceAdd,Nat.reduceMul,Nat.reduceEqDiff]
  exact Fin.pureE (by rw[hf]) rfl
 by_cases h15:op=15
 ·rw[if_pos (by omega)]at hf
  simp (maxDischargeDepth:=6) only[d3,d15,decide_eq_false h3,decide_eq_true h15,Tryz.results50,ruW,putL,Nat.reduceLeDiff,xF,ruU,entryE,Nat.reduceLT,Nat.reduceAdd,Nat.reduceMul,Nat.reduceEqDiff]
  exact Fin.pureE (by rw[hf]) rfl
 by_cases h19:op=19
 ·rw[if_pos (by omega)]at hf
  simp (maxDischargeDepth:=6) only[d3,d15,d19,decide_eq_false h3,decide_eq_false h15,decide_eq_true h19,Tryz.results50,ruW,putL,Nat.reduceLeDiff,xF,ruU,entryE,Nat.reduceLT,Nat.reduceAdd,Nat.reduceMul,Nat.reduceEqDiff]
  exact Fin.pureE (by rw[hf]) rfl
 by_cases h20:op=20
 ·rw[if_pos (by omega)]at hf
  simp (maxDischargeDepth:=6) only[d3,d15,d19,d20,decide_eq_false h3,decide_eq_false h15,decide_eq_false h19,decide_eq_true h20,Tryz.results50,ruW,putL,Nat.reduceLeDiff,xF,ruU,entryE,Nat.reduceLT,Nat.reduceAdd,Nat.reduceMul,Nat.reduceEqDiff]
  exact Fin.pureE (by rw[hf]) rfl
 by_cases h26:op=26
 ·rw[if_pos (by omega)]at hf
  simp (maxDischargeDepth:=6) only[d3,d15,d19,d20,d26,decide_eq_false h3,decide_eq_false h15,decide_eq_false h19,decide_eq_false h20,decide_eq_true h26,Tryz.results50,ruW,putL,Nat.reduceLeDiff,xF,ruU,entryE,Nat.reduceLT,Nat.reduceAdd,Nat.reduceMul,Nat.reduceEqDiff]
  exact Fin.pureE (by rw[hf]) rfl
 by_cases h27:op=27
 ·rw[if_pos (by omega)]at hf
  simp (maxDischargeDepth:=6) only[d3,d15,d19,d20,d26,d27,decide_eq_false h3,decide_eq_false h15,decide_eq_false h19,decide_eq_false h20,decide_eq_false h26,decide_eq_true h27,Tryz.results50,ruW,putL,Nat.reduceLeDiff,xF,ruU,entryE,Nat.reduceLT,Nat.reduceAdd,Nat.reduceMul,Nat.reduceEqDiff]
  exact Fin.pureE (by rw[hf]) rfl
 rw[if_neg (by omega)]at hf
 by_cases h24:op=24
 ·rw[if_pos h24]at hf
  simp (maxDischargeDepth:=6) only[d3,d15,d19,d20,d26,d27,d24,decide_eq_false h3,decide_eq_false h15,decide_eq_false h19,decide_eq_false h20,decide_eq_false h26,decide_eq_false h27,decide_eq_true h24,Tryz.results50,ruW,putL,Nat.reduceLeDiff,xF,ruU,entryE,Nat.reduceLT,Nat.reduceAdd,Nat.reduceMul,Nat.reduceEqDiff]
  exact Fin.pureE (by rw[hf]) rfl
 ·rw[if_neg h24]at hf
  simp (maxDischargeDepth:=6) only[d3,d15,d19,d20,d26,d27,d24,decide_eq_false h3,decide_eq_false h15,decide_eq_false h19,decide_eq_false h20,decide_eq_false h26,decide_eq_false h27,decide_eq_false h24,Tryz.results50,ruW,putL,Nat.reduceLeDiff,xF,ruU,entryE,Nat.reduceLT,Nat.reduceAdd,Nat.reduceMul,Nat.reduceEqDiff]
  exact Fin.pureE (by rw[hf]) rfl
theorem many_is {op:Nat} {args:List Int} (hop:op<28) (hl:(kindsR op []).length≤args.length) (hc:0≤cntR op args∧cntR op args≤65535):((kindsR op args).length:Int)=if op=17 then 1+2*args.getD 0 0 else if op=24 then 2+args.getD 1 0 else fixI op:=by
 rcases kinds_three hop with⟨q,_,e⟩|⟨rfl,e⟩|⟨rfl,e⟩
 ·have h17:op≠17:=fun h=>by
   subst h
   have h1:(kindsR 17 []).length=(kindsR 17 [1]).length:=by rw[e,e]
   exact absurd h1 (by decide)
  have h24:op≠24:=fun h=>by
   subst h
   have h1:(kindsR 24 []).length=(kindsR 24 [1,1]).length:=by rw[e,e]
   exact absurd h1 (by decide)
  rw[if_neg h17,if_neg h24,fixI,e,e]
 ·rw[if_pos rfl,e]
  rw[e,guard_len0]at hl
  have hne:args≠[]:=fun h=>by rw[h]at hl; simp at hl
  simp only[cntR,if_true]at hc
  rw[guard_len hne]
  omega
 ·rw[if_neg (by decide),if_pos rfl,e]
  rw[e,env_len0 (by simp)]at hl
  have hc':0≤args.getD 1 0∧args.getD 1 0≤65535:=hc
  rw[env_len hl]
  omega
theorem many_c (H:AHeap) (op:Nat) (av:Value) (args:List Int) (hop:op<28) (ha:RdAt H 1 av (iv args) args.length) (hl:(kindsR op []).length≤args.length) (hc:0≤cntR op args∧cntR op args≤65535):Pure 51 [.int .i64 (op:Int),av] H (.int .i64 ((kindsR op args).length:Int)):=by
 have hm:=many_is hop hl hc
 obtain⟨a0,c0,e0⟩:=ha.sl
 obtain⟨b,hb⟩:∃ b,H.next=b:=⟨_,rfl⟩
 refine callS_fn mixed Tryz.func51 rfl Tryz.ntmps51 (zB5 rfl) fun wf hsc=>?_
 by_cases h17:op=17
 ·subst h17
  rw[if_pos rfl]at hm
  have h0:0<args.length:=by have:(kindsR 17 []).length=1:=rfl; omega
  obtain⟨n,off,s,c,e,o,M,e1,n1,r1,m1⟩:=ha.one h0
  rw[e1]
  rw[iv_get,zA6 h0,zA5]at m1
  have hg:args.getD 0 0=args[0]:=by rw[zB8,zA6 h0]; rfl
  have i1:aIndexAddr Tryz.prog 35 (.slice (some ⟨n,off,s⟩) args.length c) (.int .i64 0)=some (.pointer (some ⟨n,off+0,none⟩)):=ia_of (i:=0) u35 s3 h0
  obtain⟨p,hp⟩:∃ p,args[0]=p:=⟨_,rfl⟩
  rw[hp]at m1 hg
  have hc':0≤args.getD 0 0∧args.getD 0 0≤65535:=hc
  rw[hg]at hc'
  have hd:decide (((17:Nat):Int)=17)=true:=by decide
  have w1:IntKind.i64.wrap (2*p)=2*p:=wrap_sm (by omega) (by omega)
  have w2:IntKind.i64.wrap (1+2*p)=1+2*p:=wrap_sm (by omega) (by omega)
  rw[hb]at n1
  simp (maxDischargeDepth:=6) only[hb,hd,i1,n1,r1,m1,w1,w2,qk_old,Tryz.results51,ruW,putL,Nat.reduceLeDiff,xF,ruU,entryE,Nat.reduceLT,Nat.reduceAdd,Nat.reduceMul,Nat.reduceEqDiff]
  exact Fin.pureE (by rw[hm,hg]) rfl
 ·rw[if_neg h17]at hm
  have hd:decide ((op:Int)=17)=false:=decide_eq_false (by omega)
  by_cases h24:op=24
  ·subst h24
   rw[if_pos rfl]at hm
   have h0:1<args.length:=by have:(kindsR 24 []).length=2:=rfl; omega
   obtain⟨n,off,s,c,e,o,M,e1,n1,r1,m1⟩:=ha.one h0
   rw[e1]
   rw[iv_get,zA6 h0,zA5]at m1
   have hg:args.getD 1 0=args[1]:=by rw[zB8,zA6 h0]; rfl
   have i1:aIndexAddr Tryz.prog 35 (.slice (some ⟨n,off,s⟩) args.length c) (.int .i64 1)=some (.pointer (some ⟨n,off+1,none⟩)):=ia_of (i:=1) u35 s3 h0
   obtain⟨p,hp⟩:∃ p,args[1]=p:=⟨_,rfl⟩
   rw[hp]at m1 hg
   have hc':0≤args.getD 1 0∧args.getD 1 0≤65535:=hc
   rw[hg]at hc'
   have hd2:decide (((24:Nat):Int)=24)=true:=by decide
   have w2:IntKind.i64.wrap (2+p)=2+p:=wrap_sm (by omega) (by omega)
   rw[hb]at n1
   simp (maxDischargeDepth:=6) only[hb,hd,hd2,i1,n1,r1,m1,w2,qk_old,Tryz.results51,ruW,putL,Nat.reduceLeDiff,xF,ruU,entryE,Nat.reduceLT,Nat.reduceAdd,Nat.reduceMul,Nat.reduceEqDiff]
   exact Fin.pureE (by rw[hm,hg]) rfl
  ·rw[if_neg h24]at hm
   have hd2:decide ((op:Int)=24)=false:=decide_eq_false (by omega)
   rw[e0]
   simp (maxDischargeDepth:=6) only[hb,hd,hd2,ruW,putL,Nat.reduceLeDiff,xF,ruU,entryE,Nat.reduceLT,Nat.reduceAdd,Nat.reduceMul,Nat.reduceEqDiff]
   refine (fixed50_c (ext H []) op hop).to ?_
   simp (maxDischargeDepth:=6) only[Tryz.results51,ruW,putL,Nat.reduceLeDiff,xF,ruU,entryE,Nat.reduceLT,Nat.reduceAdd,Nat.reduceMul,Nat.reduceEqDiff]
   exact Fin.pureE (by rw[hm]) rfl
set_option maxRecDepth 100000
theorem cntR_nn {op:Nat} {args:List Int} (h:∀ x∈args,0≤x∧x≤65535):0≤cntR op args∧cntR op args≤65535:=by
 refine⟨?_,cntR_small h⟩
 unfold cntR
 split
 ·exact (getD_small h 0).1
 ·split
  ·exact (getD_small h 1).1
  ·omega
set_option maxRecDepth 100000
theorem opnd_pq {x:Int} {p q:Bool} (hp:decide (x<0)=p) (hq:decide ((65535:Int)<x)=q):opndR x=(!p&&!q):=by
 rw[opndR,←hp,←hq]
 by_cases h1:x<0<;>by_cases h2:(65535:Int)<x
 all_goals first|rw[decide_eq_true h1]|rw[decide_eq_false h1]
 all_goals first|rw[decide_eq_true h2]|rw[decide_eq_false h2]
 ·rw[decide_eq_false (show ¬(0:Int)≤x by omega)]; rfl
 ·rw[decide_eq_false (show ¬(0:Int)≤x by omega)]; rfl
 ·rw[decide_eq_false (show ¬x≤65535 by omega),Bool.and_false]; rfl
 ·rw[decide_eq_true (show (0:Int)≤x by omega),decide_eq_true (show x≤65535 by omega)]; rfl
theorem opnd_of {x:Int} (h:opndR x=true):0≤x∧x≤65535:=by
 simp only[opndR,zA4,decide_eq_true_eq]at h
 exact h
theorem wrong_bad (H:AHeap) (pos op:Int) (a:Option Addr) (n c:Nat) (h:op<0∨28≤op):Pure 59 [.agg ⟨[.int .i64 pos,.int .i64 op,.slice a n c]⟩] H (.int .i64 5):=by
 obtain⟨b,hb⟩:∃ b,H.next=b:=⟨_,rfl⟩
 refine callS_fn mixed Tryz.func59 rfl Tryz.ntmps59 (zB5 rfl) fun wf hsc=>?_
 have hbase:H.base≤b:=hb▸wf.base
 rw[scbL_iff]at hsc
 have hsc0:=hsc _ (zB0.2 rfl)
 rw[hb]at hsc0
 replace hsc0:scb b (.slice a n c)=true:=sc_agg3 hsc0
 by_cases h0:op<0
 ·have hd:decide (op<0)=true:=decide_eq_true h0
  simp (maxDischargeDepth:=6) only[hb,hbase,hsc0,ruW,putL,Nat.reduceLeDiff,xF,ruU,entryE,Nat.reduceLT,Nat.reduceAdd,Nat.reduceMul,Nat.reduceEqDiff]
  refine w_drawB [] [(3,8),(8,13)] (by kernel_rfl) (by kernel_rfl) (by kernel_rfl) fun ops anc hA hG=>?_
  simp only[all2_cons]at hG
  simp (maxDischargeDepth:=6) only[hb,hbase,hd,hsc0,hG,Tryz.results59,ruD,ruW,putL,Nat.reduceLeDiff,xF,ruU,entryE,Nat.reduceLT,Nat.reduceAdd,Nat.reduceMul,Nat.reduceEqDiff]
  exact Fin.pureE rfl rfl
 ·have hd:decide (op<0)=false:=decide_eq_false h0
  have hd2:decide (28≤op)=true:=decide_eq_true (by omega)
  simp (maxDischargeDepth:=6) only[hb,hbase,hsc0,ruW,putL,Nat.reduceLeDiff,xF,ruU,entryE,Nat.reduceLT,Nat.reduceAdd,Nat.reduceMul,Nat.reduceEqDiff]
  refine w_drawB [] [(3,8),(8,13)] (by kernel_rfl) (by kernel_rfl) (by kernel_rfl) fun ops anc hA hG=>?_
  simp only[all2_cons]at hG
  simp (maxDischargeDepth:=6) only[hb,hbase,hd,hd2,hsc0,hG,Tryz.results59,ruD,ruW,putL,Nat.reduceLeDiff,xF,ruU,entryE,Nat.reduceLT,Nat.reduceAdd,Nat.reduceMul,Nat.reduceEqDiff]
  exact Fin.pureE rfl rfl
theorem wrong_ok (H:AHeap) (pos:Int) (op:Nat) (av:Value) (args:List Int) (hop:op<28) (ha:RdAt H 1 av (iv args) args.length) (hlen:args.length≤1000000):Pure 59 [.agg ⟨[.int .i64 pos,.int .i64 (op:Int),av]⟩] H (.int .i64 (encA op args)):=by
 obtain⟨b,hb⟩:∃ b,H.next=b:=⟨_,rfl⟩
 obtain⟨a0,c0,e0⟩:=ha.sl
 refine callS_fn mixed Tryz.func59 rfl Tryz.ntmps59 (zB5 rfl) fun wf hsc=>?_
 have hbase:H.base≤b:=hb▸wf.base
 rw[scbL_iff]at hsc
 have hsc0:=hsc _ (zB0.2 rfl)
 rw[hb]at hsc0
 have hd:decide ((op:Int)<0)=false:=decide_eq_false (by omega)
 have hd2:decide (28≤(op:Int))=false:=decide_eq_false (by omega)
 rw[e0]at hsc0
 replace hsc0:scb b (.slice a0 args.length c0)=true:=sc_agg3 hsc0
 have e1:¬((op:Int)<0∨28≤(op:Int)):=by omega
 rw[e0]
 simp (maxDischargeDepth:=6) only[hb,hbase,hsc0,ruW,putL,Nat.reduceLeDiff,xF,ruU,entryE,Nat.reduceLT,Nat.reduceAdd,Nat.reduceMul,Nat.reduceEqDiff]
 generalize hX:ext H _=X
 have mX:Mod [] H X:=hX▸Mod.ext wf.base
 have nX:X.next=b+1:=by rw[←hX,ext_next,hb]; rfl
 have kX:bk X (b+0)=some ⟨59,false,[.int .i64 pos,.int .i64 (op:Int),.slice a0 args.length c0]⟩:=by rw[←hX,bk_at hb (by simp)]; rfl
 clear hX
 have haX:=ha.mod0 mX
 have hbx:b+0<b+1:=by omega
 rw[show X=ext X [] from rfl]
 refine w_drawB [] [(3,8),(8,13)] (by kernel_rfl) (by kernel_rfl) (by kernel_rfl) fun ops anc hA hG=>?_
 simp only[all2_cons]at hG
 simp (maxDischargeDepth:=6) only[nX,kX,hbx,hd,hd2,hG,qk_old,ruD,ruW,putL,Nat.reduceLeDiff,xF,ruU,entryE,Nat.reduceLT,Nat.reduceAdd,Nat.reduceMul,Nat.reduceEqDiff]
 refine genV_quiet (v:=.int .i64 (fixI op)) [] (by simp only[ruU,entryE,Nat.reduceLT,Nat.reduceAdd,Nat.reduceMul,Nat.reduceEqDiff]) (by kernel_rfl) (by decide) (fun q hq=>by simp at hq) (fun G hG hg=>by simp only[ruU,entryE,Nat.reduceLT,Nat.reduceAdd,Nat.reduceMul,Nat.reduceEqDiff]; exact fixed50_c G op hop) (by simp[Meets]) ?_
 obtain⟨d1,hd1⟩:∃ d1,decide ((args.length:Int)<fixI op)=d1:=⟨_,rfl⟩
 cases d1 with
 |true =>
  have h1:=of_decide_eq_true hd1
  simp only[fixI]at h1
  simp (maxDischargeDepth:=6) only[nX,kX,hbx,hd1,hG,qk_old,Tryz.results59,ruD,ruW,putL,Nat.reduceLeDiff,xF,ruU,entryE,Nat.reduceLT,Nat.reduceAdd,Nat.reduceMul,Nat.reduceEqDiff]
  have:encA op args=5:=by rw[encA,if_neg e1,zD0,if_pos (by omega)]
  rw[this]
  exact Ax.Fin.mod rfl mX rfl
 |false =>
  have h1:=of_decide_eq_false hd1
  simp only[fixI]at h1
  have hla:(kindsR op []).length≤args.length:=by omega
  have enc3:((op:Int)=17∧opndR (args.getD 0 0)=false)∨((op:Int)=24∧opndR (args.getD 1 0)=false)→encA op args=3:=fun h=>by
   rw[encA,if_neg e1,zD0,if_neg (by omega),if_pos h]
  have hnx:¬(((op:Int)=17∧opndR (args.getD 0 0)=false)∨((op:Int)=24∧opndR (args.getD 1 0)=false))→0≤cntR op args∧cntR op args≤65535:=fun h=>by
   unfold cntR
   split
   ·rename_i h17
    cases hh:opndR (args.getD 0 0) with
    |true=>exact opnd_of hh
    |false=>exact absurd (.inl ⟨by omega,hh⟩) h
   ·split
    ·rename_i h24
     cases hh:opndR (args.getD 1 0) with
     |true=>exact opnd_of hh
     |false=>exact absurd (.inr ⟨by omega,hh⟩) h
    ·omega
  simp (maxDischargeDepth:=6) only[nX,kX,hbx,hd1,hG,qk_old,ruD,ruW,putL,Nat.reduceLeDiff,xF,ruU,entryE,Nat.reduceLT,Nat.reduceAdd,Nat.reduceMul,Nat.reduceEqDiff]
  have hsp:op=17∨op=24∨(op≠17∧op≠24):=by omega
  rcases hsp with h17|h24|⟨h17,h24⟩
  (have h0:0<args.length:=by
    subst h17
    have:(kindsR 17 []).length=1:=rfl
    omega
   obtain⟨n,off,s,c,e,o,M,e2,n1,r1,m1⟩:=haX.one h0
   rw[e0]at e2
   cases e2
   rw[iv_get,zA6 h0,zA5]at m1
   have hg:args.getD 0 0=args[0]:=by rw[zB8,zA6 h0]; rfl
   obtain⟨x,hxv⟩:∃ x,args[0]=x:=⟨_,rfl⟩
   rw[hxv]at m1 hg
   have i1:aIndexAddr Tryz.prog 35 (.slice (some ⟨n,off,s⟩) args.length c0) (.int .i64 0)=some (.pointer (some ⟨n,off+0,none⟩)):=ia_of (i:=0) u35 s3 h0
   have q3:decide ((op:Int)=17)=true:=decide_eq_true (by omega)
   have q4:decide ((op:Int)=24)=false:=decide_eq_false (by omega)
   have q5:decide ((0:Int)≤0)=true:=by decide
   obtain⟨p,hp⟩:∃ p,decide (x<0)=p:=⟨_,rfl⟩
   obtain⟨q,hq⟩:∃ q,decide ((65535:Int)<x)=q:=⟨_,rfl⟩
   have hpq:=opnd_pq hp hq
   rw[nX]at n1
   have hbad:opndR x=false→encA op args=3:=fun h=>enc3 (.inl ⟨by omega,by rw[hg]; exact h⟩)
   rcases Bool.eq_false_or_eq_true p with rfl|rfl
   ·simp (maxDischargeDepth:=6) only[nX,kX,hbx,q3,q4,q5,i1,n1,r1,m1,hp,qk_old,Tryz.results59,ruW,putL,Nat.reduceLeDiff,xF,ruU,entryE,Nat.reduceLT,Nat.reduceAdd,Nat.reduceMul,Nat.reduceEqDiff]
    rw[hbad hpq]
    exact Ax.Fin.mod rfl mX rfl
   rcases Bool.eq_false_or_eq_true q with rfl|rfl
   ·simp (maxDischargeDepth:=6) only[nX,kX,hbx,q3,q4,q5,i1,n1,r1,m1,hp,hq,qk_old,Tryz.results59,ruW,putL,Nat.reduceLeDiff,xF,ruU,entryE,Nat.reduceLT,Nat.reduceAdd,Nat.reduceMul,Nat.reduceEqDiff]
    rw[hbad hpq]
    exact Ax.Fin.mod rfl mX rfl
   have hok:¬(((op:Int)=17∧opndR (args.getD 0 0)=false)∨((op:Int)=24∧opndR (args.getD 1 0)=false)):=by
    rw[hg,hpq]
    rintro (⟨_,h⟩|⟨h,_⟩)
    ·cases h
    ·omega
   simp (maxDischargeDepth:=6) only[nX,kX,hbx,q3,q4,q5,i1,n1,r1,m1,hp,hq,qk_old,ruW,putL,Nat.reduceLeDiff,xF,ruU,entryE,Nat.reduceLT,Nat.reduceAdd,Nat.reduceMul,Nat.reduceEqDiff])
  rotate_left
  (have h0:1<args.length:=by
    subst h24
    have:(kindsR 24 []).length=2:=rfl
    omega
   obtain⟨n,off,s,c,e,o,M,e2,n1,r1,m1⟩:=haX.one h0
   rw[e0]at e2
   cases e2
   rw[iv_get,zA6 h0,zA5]at m1
   have hg:args.getD 1 0=args[1]:=by rw[zB8,zA6 h0]; rfl
   obtain⟨x,hxv⟩:∃ x,args[1]=x:=⟨_,rfl⟩
   rw[hxv]at m1 hg
   have i1:aIndexAddr Tryz.prog 35 (.slice (some ⟨n,off,s⟩) args.length c0) (.int .i64 1)=some (.pointer (some ⟨n,off+1,none⟩)):=ia_of (i:=1) u35 s3 h0
   have q3:decide ((op:Int)=17)=false:=decide_eq_false (by omega)
   have q4:decide ((op:Int)=24)=true:=decide_eq_true (by omega)
   have q5:decide ((0:Int)≤1)=true:=by decide
   obtain⟨p,hp⟩:∃ p,decide (x<0)=p:=⟨_,rfl⟩
   obtain⟨q,hq⟩:∃ q,decide ((65535:Int)<x)=q:=⟨_,rfl⟩
   have hpq:=opnd_pq hp hq
   rw[nX]at n1
   have hbad:opndR x=false→encA op args=3:=fun h=>enc3 (.inr ⟨by omega,by rw[hg]; exact h⟩)
   rcases Bool.eq_false_or_eq_true p with rfl|rfl
   ·simp (maxDischargeDepth:=6) only[nX,kX,hbx,q3,q4,q5,i1,n1,r1,m1,hp,qk_old,Tryz.results59,ruW,putL,Nat.reduceLeDiff,xF,ruU,entryE,Nat.reduceLT,Nat.reduceAdd,Nat.reduceMul,Nat.reduceEqDiff]
    rw[hbad hpq]
    exact Ax.Fin.mod rfl mX rfl
   rcases Bool.eq_false_or_eq_true q with rfl|rfl
   ·simp (maxDischargeDepth:=6) only[nX,kX,hbx,q3,q4,q5,i1,n1,r1,m1,hp,hq,qk_old,Tryz.results59,ruW,putL,Nat.reduceLeDiff,xF,ruU,entryE,Nat.reduceLT,Nat.reduceAdd,Nat.reduceMul,Nat.reduceEqDiff]
    rw[hbad hpq]
    exact Ax.Fin.mod rfl mX rfl
   have hok:¬(((op:Int)=17∧opndR (args.getD 0 0)=false)∨((op:Int)=24∧opndR (args.getD 1 0)=false)):=by
    rw[hg,hpq]
    rintro (⟨h,_⟩|⟨_,h⟩)
    ·omega
    ·cases h
   simp (maxDischargeDepth:=6) only[nX,kX,hbx,q3,q4,q5,i1,n1,r1,m1,hp,hq,qk_old,ruW,putL,Nat.reduceLeDiff,xF,ruU,entryE,Nat.reduceLT,Nat.reduceAdd,Nat.reduceMul,Nat.reduceEqDiff])
  rotate_left
  (have q3:decide ((op:Int)=17)=false:=decide_eq_false (by omega)
   have q4:decide ((op:Int)=24)=false:=decide_eq_false (by omega)
   have q5:decide ((0:Int)≤-1)=false:=by decide
   have hok:¬(((op:Int)=17∧opndR (args.getD 0 0)=false)∨((op:Int)=24∧opndR (args.getD 1 0)=false)):=by omega
   simp (maxDischargeDepth:=6) only[nX,kX,hbx,q3,q4,q5,qk_old,ruW,putL,Nat.reduceLeDiff,xF,ruU,entryE,Nat.reduceLT,Nat.reduceAdd,Nat.reduceMul,Nat.reduceEqDiff])
  all_goals
   have hcnt:=hnx hok
   refine w_env fun E hE=>?_
   have g1:E 1=.pointer (some ⟨b+0,0,none⟩):=by rw[hE]; simp only[ruU,entryE,Nat.reduceLT,Nat.reduceAdd,Nat.reduceMul,Nat.reduceEqDiff]
   clear hE
   have hFr:∀ k∈rdF av args.length,(ext X []).get k≠none:=fun k hk=>(haX.ne k hk).1
   have hcall:∀ G:AHeap,G.next=(ext X []).next→(∀ k∈rdF av args.length,G.get k=(ext X []).get k)→CallS Tryz.prog 51 [.int .i64 (op:Int),av] G (.ok (.int .i64 ((kindsR op args).length:Int))) G:=fun G hG hg =>
    many_c G op av args hop (haX.of (Nat.le_of_eq hG.symm) hg) hla hcnt
   rw[e0]at hcall hFr
   obtain⟨d6,hd6⟩:∃ d6,decide (¬(args.length:Int)=((kindsR op args).length:Int))=d6:=⟨_,rfl⟩
   refine w_drawB [] [] (by kernel_rfl) (by kernel_rfl) rfl fun ops anc hA hG=>?_
   simp (maxDischargeDepth:=6) only[g1,nX,kX,hbx,qk_old,ruD,ruW,putL,Nat.reduceLeDiff,xF,ruU,entryE,Nat.reduceLT,Nat.reduceAdd,Nat.reduceMul,Nat.reduceEqDiff]
   refine genV_quiet (v:=.int .i64 ((kindsR op args).length:Int)) (rdF (.slice _ args.length _) args.length) (by simp only[ruU,entryE,Nat.reduceLT,Nat.reduceAdd,Nat.reduceMul,Nat.reduceEqDiff]) (by kernel_rfl) (by decide) hFr (fun G hG hg=>by simp only[ruU,entryE,Nat.reduceLT,Nat.reduceAdd,Nat.reduceMul,Nat.reduceEqDiff]; exact hcall G hG hg) (by simp[Meets]) ?_
   simp (maxDischargeDepth:=6) only[g1,nX,kX,hbx,hd6,qk_old,ruD,ruW,putL,Nat.reduceLeDiff,xF,ruU,entryE,Nat.reduceLT,Nat.reduceAdd,Nat.reduceMul,Nat.reduceEqDiff]
   cases d6 with
   |true =>
    have h6:=of_decide_eq_true hd6
    simp (maxDischargeDepth:=6) only[g1,Tryz.results59,ruW,putL,Nat.reduceLeDiff,xF,ruU,entryE,Nat.reduceLT,Nat.reduceAdd,Nat.reduceMul,Nat.reduceEqDiff]
    have:encA op args=5:=by rw[encA,if_neg e1,zD0,if_neg (by omega),if_neg hok,if_pos (by omega)]
    rw[this]
    exact Ax.Fin.mod rfl mX rfl
   |false =>
    have h6:args.length=(kindsR op args).length:=by have:=of_decide_eq_false hd6; omega
    have henc:encA op args=if args.all opndR then 0 else 3:=by rw[encA,if_neg e1,zD0,if_neg (by omega),if_neg hok,if_neg (by omega)]
    simp (maxDischargeDepth:=6) only[g1,nX,kX,hbx,qk_old,ruW,putL,Nat.reduceLeDiff,xF,ruU,entryE,Nat.reduceLT,Nat.reduceAdd,Nat.reduceMul,Nat.reduceEqDiff]
    refine w_env fun E2 hE=>?_
    have h1':E2 1=.pointer (some ⟨b+0,0,none⟩):=by rw[hE]; simp only[g1,ruU,entryE,Nat.reduceLT,Nat.reduceAdd,Nat.reduceMul,Nat.reduceEqDiff]
    have h4':E2 4=.int .i64 ((0:Nat):Int):=by rw[hE]; (simp only[ruU,entryE,Nat.reduceLT,Nat.reduceAdd,Nat.reduceMul,Nat.reduceEqDiff]<;>rfl)
    clear hE g1 E
    refine w_loop (fun (j:Nat) E' H'=>H'=ext X []∧j≤args.length∧(∀ i,i<j→∀ y,args[i]?=some y→opndR y=true)∧E' 1=.pointer (some ⟨b+0,0,none⟩)∧E' 4=.int .i64 (j:Int)) (fun j=>args.length-j) 0 ⟨rfl,zB3 _,fun i hi=>absurd hi (by omega),h1',h4'⟩ ?_
    clear h1' h4' E2
    rintro j E H' ⟨hH,hj,hall,g1,g4⟩
    rw[hH]
    by_cases hje:j=args.length
    ·have hdj:decide ((j:Int)<(args.length:Int))=false:=decide_eq_false (by omega)
     simp (maxDischargeDepth:=6) only[g1,g4,nX,kX,hbx,hdj,qk_old,Tryz.results59,ruW,putL,Nat.reduceLeDiff,xF,ruU,entryE,Nat.reduceLT,Nat.reduceAdd,Nat.reduceMul,Nat.reduceEqDiff]
     have hat:args.all opndR=true:=zC7.2 fun y hy=>by
      obtain⟨i,hi,he⟩:=List.mem_iff_getElem.1 hy
      exact hall i (by omega) y (by rw[zA6 hi,he])
     rw[henc,if_pos hat]
     exact Ax.Fin.mod rfl mX rfl
    ·have hjl:j<args.length:=by omega
     have hdj:decide ((j:Int)<(args.length:Int))=true:=decide_eq_true (by omega)
     have haX':=haX
     rw[e0]at haX'
     obtain⟨n',off',s',c',e',o',M',e3,n3,r3,m3⟩:=haX'.one hjl
     have kX':=kX
     rw[e3]at kX'
     rw[iv_get,zA6 hjl,zA5]at m3
     have i3:=ia_of (P:=Tryz.prog) (k:=.i64) (i:=j) (n:=n') (off:=off') (len:=args.length) (cap:=c') (s:=s') u35 s3 hjl
     rw[zC2]at i3
     rw[nX]at n3
     obtain⟨x',hxv'⟩:∃ x,args[j]=x:=⟨_,rfl⟩
     rw[hxv']at m3
     have hw:IntKind.i64.wrap ((j:Int)+1)=((j+1:Nat):Int):=wrap_succ (by omega)
     obtain⟨p',hp'⟩:∃ p,decide (x'<0)=p:=⟨_,rfl⟩
     obtain⟨q',hq'⟩:∃ q,decide ((65535:Int)<x')=q:=⟨_,rfl⟩
     have hpq':=opnd_pq hp' hq'
     have hbad':opndR x'=false→(args.all opndR)=false:=fun h=>by
      cases hh:args.all opndR with
      |false=>rfl
      |true =>
       have:=zC7.1 hh x' (hxv'▸List.getElem_mem hjl)
       rw[h]at this
       cases this
     cases p' with
     |true =>
      simp (maxDischargeDepth:=6) only[g1,g4,nX,kX',hbx,hdj,i3,n3,r3,m3,hp',qk_old,Tryz.results59,ruW,putL,Nat.reduceLeDiff,xF,ruU,entryE,Nat.reduceLT,Nat.reduceAdd,Nat.reduceMul,Nat.reduceEqDiff]
      rw[henc,hbad' hpq']
      exact Ax.Fin.mod rfl mX rfl
     |false =>
      cases q' with
      |true =>
       simp (maxDischargeDepth:=6) only[g1,g4,nX,kX',hbx,hdj,i3,n3,r3,m3,hp',hq',qk_old,Tryz.results59,ruW,putL,Nat.reduceLeDiff,xF,ruU,entryE,Nat.reduceLT,Nat.reduceAdd,Nat.reduceMul,Nat.reduceEqDiff]
       rw[henc,hbad' hpq']
       exact Ax.Fin.mod rfl mX rfl
      |false =>
       simp (maxDischargeDepth:=6) only[g1,g4,nX,kX',hbx,hdj,i3,n3,r3,m3,hp',hq',hw,qk_old,ruW,putL,Nat.reduceLeDiff,xF,ruU,entryE,Nat.reduceLT,Nat.reduceAdd,Nat.reduceMul,Nat.reduceEqDiff]
       refine loopC_next ⟨j+1,by omega,rfl,by omega,fun i hi y hy=>?_,?_,?_⟩
       ·by_cases h:i=j
        ·subst h
         rw[zA6 hjl,hxv']at hy
         cases hy
         exact hpq'
        ·exact hall i (by omega) y hy
       all_goals simp only[g1,ruU,entryE,Nat.reduceLT,Nat.reduceAdd,Nat.reduceMul,Nat.reduceEqDiff]
theorem wrong_c (H:AHeap) (pos op:Int) (av:Value) (args:List Int) (ha:RdAt H 1 av (iv args) args.length) (hlen:args.length≤1000000):Pure 59 [.agg ⟨[.int .i64 pos,.int .i64 op,av]⟩] H (.int .i64 (encA op args)):=by
 by_cases h:op<0∨28≤op
 ·obtain⟨a,c,rfl⟩:=ha.sl
  rw[encA,if_pos h]
  exact wrong_bad H pos op a args.length c h
 ·obtain⟨k,rfl⟩:∃ k:Nat,op=k:=⟨op.toNat,by omega⟩
  exact wrong_ok H pos k av args (by omega) ha hlen
set_option maxRecDepth 100000
theorem InsRd.fld {H:AHeap} {v:Value} {ls:List Iv} (h:InsRd H v ls) {i:Nat} {x:Iv} (hi:ls[i]?=some x):∃ n off s c e o M,v=.slice (some ⟨n,off,s⟩) ls.length c∧n<H.next∧rk H n=some ⟨e,o,M⟩∧aIndexAddr Tryz.prog 42 v (.int .i64 (i:Int))=some (.pointer (some ⟨n,off+i*3,none⟩))∧ldB Tryz.prog 59 (off+i*3) (some ⟨e,o,M⟩)=some (ivV x)∧M[off+i*3]?=some (.int .i64 x.1.pos)∧M[off+(i*3+1)]?=some (.int .i64 x.1.op)∧M[off+(i*3+2)]?=some x.2:=by
 have hl:=(List.getElem?_eq_some_iff.1 hi).1
 obtain⟨n,off,s,c,e,o,M,rfl,h2,h3,h4,h5⟩:=h.rd.at_ hl
 rw[insC_at hi]at h5
 have h1:aggT Tryz.prog 59=some true:=by kernel_rfl
 have hM:∀ k,k<3→M[off+i*3+k]?=(ivC x)[k]?:=fun k hk=>by
  rw[←h5,List.getElem?_take_of_lt hk,List.getElem?_drop]
 refine⟨n,off,s,c,e,o,M,rfl,h2,h3,ia_of u42 s59 hl,?_,hM 0 (by omega),by rw[←Nat.add_assoc]; exact hM 1 (by omega),by rw[←Nat.add_assoc]; exact hM 2 (by omega)⟩
 rw[ld_agg h1,s59,zA3,if_pos (by omega),h5]
 rfl
theorem bv_app (a b:List UInt8):bv (a++b)=bv a++bv b:=by simp[bv]
theorem scbL_bv (n:Nat) (ws:List UInt8):scbL n (bv ws)=true:=by
 rw[scbL_iff]
 intro v' hv'
 obtain⟨w',_,rfl⟩:=zC8.1 hv'
 rfl
theorem mod8 {x:Int} (h0:0≤x):(x.tmod 256).toNat.toUInt8=x.toNat.toUInt8∧0≤x.tmod 256∧x.tmod 256≤255:=by
 obtain⟨n,rfl⟩:∃ n:Nat,x=n:=⟨x.toNat,by omega⟩
 have:(n:Int).tmod 256=((n % 256:Nat):Int):=by rw[Int.tmod_eq_emod_of_nonneg (by omega)]; omega
 rw[this]
 refine⟨UInt8.toNat_inj.1 ?_,by omega,by omega⟩
 simp only[zD0,UInt8.toNat_ofNat']
 omega
theorem quo8 {x:Int} (h0:0≤x) (h1:x≤65535):IntKind.i64.wrap (x.tdiv 256)=((x.toNat / 256:Nat):Int):=by
 obtain⟨n,rfl⟩:∃ n:Nat,x=n:=⟨x.toNat,by omega⟩
 have:(n:Int).tdiv 256=((n / 256:Nat):Int):=by rw[Int.tdiv_eq_ediv_of_nonneg (by omega)]; omega
 rw[this,zD0]
 exact wrap_sm (by omega) (by omega)
theorem encode31_c (H:AHeap) (v:Value) (ls:List Iv) (hi:InsRd H v ls) (hok:H.base≤H.next) (hl:ls.length≤1000000) (hn:∀ x∈ls,x.1.args.length≤1000000) (hb:(encL (ls.map (·.1))).length≤100000000) :
  CallA Tryz.prog 31 [v] H (fun out X=>EncOut H (ls.map (·.1)) out X∧Mod [] H X):=by
 obtain⟨a0,c0,e0⟩:=hi.rd.sl
 obtain⟨b,hbn⟩:∃ b,H.next=b:=⟨_,rfl⟩
 have hbase:H.base≤b:=hbn▸hok
 refine callE_fn mixed Tryz.func31 rfl Tryz.ntmps31 (zB5 rfl) ?_
 rw[e0]
 simp (maxDischargeDepth:=6) only[hbn,hbase,ruW,putL,Nat.reduceLeDiff,xF,ruU,entryE,Nat.reduceLT,Nat.reduceAdd,Nat.reduceMul,Nat.reduceEqDiff]
 rw[←e0]
 refine w_env fun E hE=>?_
 have g0:E 0=v:=by rw[hE,e0]; simp only[ruU,entryE,Nat.reduceLT,Nat.reduceAdd,Nat.reduceMul,Nat.reduceEqDiff]
 have g2:E 2=.slice none 0 0:=by rw[hE]; simp only[ruU,entryE,Nat.reduceLT,Nat.reduceAdd,Nat.reduceMul,Nat.reduceEqDiff]
 have g3:E 3=.pointer (some ⟨b+0,0,none⟩):=by rw[hE]; simp only[ruU,entryE,Nat.reduceLT,Nat.reduceAdd,Nat.reduceMul,Nat.reduceEqDiff]
 have g4:E 4=.slice none 0 0:=by rw[hE]; simp only[ruU,entryE,Nat.reduceLT,Nat.reduceAdd,Nat.reduceMul,Nat.reduceEqDiff]
 have g5:E 5=.int .i64 ((0:Nat):Int):=by rw[hE]; (simp only[ruU,entryE,Nat.reduceLT,Nat.reduceAdd,Nat.reduceMul,Nat.reduceEqDiff]<;>rfl)
 clear hE
 generalize hX0:ext H _=X0
 have m0:Mod [] H X0:=hX0▸Mod.ext hok
 have n0:b+1≤X0.next:=by rw[←hX0,ext_next,hbn]; simp
 have k0:bk X0 (b+0)=some ⟨26,false,[.int .i64 0,.int .i64 0]⟩:=by rw[←hX0,bk_at hbn (by simp)]; rfl
 clear hX0
 refine w_loop (fun (z:Nat × Value) E' X=>Mod [] H X∧b+1≤X.next∧bk X (b+0)=some ⟨26,false,[.int .i64 0,.int .i64 0]⟩∧VsAt X 5 1 z.2 (bv (encL ((ls.map (·.1)).take z.1))) (encL ((ls.map (·.1)).take z.1)).length∧(∀ n∈idsV z.2,b+1≤n)∧z.1≤ls.length∧(∀ i,i<z.1→∀ x:Ins,(ls.map (·.1))[i]?=some x→encA x.op x.args=0)∧E' 0=v∧E' 2=.slice none 0 0∧E' 3=.pointer (some ⟨b+0,0,none⟩)∧E' 4=z.2∧E' 5=.int .i64 (z.1:Int)) (fun z=>ls.length-z.1) (0,.slice none 0 0)
  ⟨m0,n0,k0,VsAt.nil,fun n hn=>by simp[idsV]at hn,zB3 _,fun i hi=>absurd hi (by simp),g0,g2,g3,g4,g5⟩ ?_
 clear g0 g2 g3 g4 g5 m0 n0 k0 X0 E
 rintro⟨i,ov⟩ E X ⟨m,nx,k,ho,hoi,hil,hgood,g0,g2,g3,g4,g5⟩
 simp only at ho hoi hil hgood g4 g5
 obtain⟨x,hx⟩:∃ x,X.next=x:=⟨_,rfl⟩
 have hxb:X.base≤x:=hx▸m.ok hok
 rw[hx]at nx
 have hbx:b+0<x:=by omega
 obtain⟨oa,eo⟩:=ho.len
 rw[show X=ext X [] from rfl]
 have mU:∀ vs,Mod [] H (uw X (b+0) 0 vs):=fun vs=>m.step (W':=[b+0]) (Mod.uw (by simp)) hok fun n hn=>by simp only[zB0]at hn; exact .inr (by omega)
 by_cases hie:i=ls.length
 ·have hd:decide ((i:Int)<(ls.length:Int))=false:=decide_eq_false (by omega)
  have htk:(ls.map (·.1)).take i=ls.map (·.1):=zD9 (by rw[zB7]; omega)
  rw[htk]at ho eo
  have hnone:encBad 0 (ls.map (·.1))=none:=encBad_at fun j y hy=>hgood j (by have:=(List.getElem?_eq_some_iff.1 hy).1; rw[zB7]at this; omega) y hy
  obtain⟨d,hd2⟩:∃ d,decide ((60000:Int)<((encL (ls.map (·.1))).length:Int))=d:=⟨_,rfl⟩
  rw[eo]at g4
  rw[e0]at g0
  cases d with
  |true =>
   have:=of_decide_eq_true hd2
   simp (maxDischargeDepth:=6) only[g0,g2,g3,g4,g5,hd,hd2,hx,hxb,hbx,k,Tryz.results31,ruW,putL,Nat.reduceLeDiff,xF,ruU,entryE,Nat.reduceLT,Nat.reduceAdd,Nat.reduceMul,Nat.reduceEqDiff]
   refine⟨?_,mU _⟩
   simp only[EncOut,hnone]
   rw[if_pos (by omega),zB7]
  |false =>
   have:=of_decide_eq_false hd2
   simp (maxDischargeDepth:=6) only[g0,g2,g3,g4,g5,hd,hd2,hx,hxb,hbx,k,Tryz.results31,ruW,putL,Nat.reduceLeDiff,xF,ruU,entryE,Nat.reduceLT,Nat.reduceAdd,Nat.reduceMul,Nat.reduceEqDiff]
   refine⟨?_,mU _⟩
   simp only[EncOut,hnone]
   rw[if_neg (by omega)]
   rw[←eo]
   refine⟨_,rfl,?_,fun n hn=>by have:=hoi n hn; omega⟩
   rw[ext_nil]
   exact ho.of (by rw[uw_next]; exact zA9 _) fun n hn=>uw_get (by have:=hoi n hn; omega)
 ·have hil':i<ls.length:=by omega
  have hd:decide ((i:Int)<(ls.length:Int))=true:=decide_eq_true (by omega)
  obtain⟨y,hy⟩:∃ y,ls[i]?=some y:=⟨_,zA6 hil'⟩
  have hym:y∈ls:=zE2 hy
  obtain⟨n,off,s,c,e,o,M,e1,n1,r1,ia,ld,_,l1,l2⟩:=(hi.mod0 m).fld hy
  have hyr:=(hi.mod0 m).av y hym
  have hys:=(hi.mod0 m).sc y hym
  have hyn:=hn y hym
  obtain⟨⟨pos,op,args⟩,av⟩:=y
  obtain⟨aa,ac,ea⟩:=hyr.sl
  simp only at hyr hys hyn ea l1 l2
  rw[hx]at n1 hys
  simp only[ivV,ivC]at ld
  rw[ea]at ld hys l2 hyr
  rw[e1]at ia
  have g0s:E 0=.slice (some ⟨n,off,s⟩) ls.length c:=g0.trans e1
  simp (maxDischargeDepth:=6) only[g0s,g2,g3,g4,g5,hd,hx,hxb,hbx,ia,r1,n1,ld,hys,qk_old,ruW,putL,Nat.reduceLeDiff,xF,ruU,entryE,Nat.reduceLT,Nat.reduceAdd,Nat.reduceMul,Nat.reduceEqDiff]
  refine (wrong_c (ext X []) pos op _ args hyr hyn).to ?_
  have hgx:(ls.map (·.1))[i]?=some ⟨pos,op,args⟩:=by rw[zE6,hy]; rfl
  by_cases hen:encA op args=0
  ·have hdz:decide (¬encA op args=0)=false:=decide_eq_false (by simp[hen])
   obtain⟨q0,q1,q2,q3⟩:=encA_ok hen
   have hcv:∀ G:AHeap,aConvert Tryz.prog G 3 5 (.int .i64 op)=some (.int .u8 ((op.toNat.toUInt8).toNat:Int),G):=fun G=>by
    rw[cv_int (u:=.int .i64) (k:=.u8) (by kernel_rfl) (by kernel_rfl),byte_val q0 (by omega)]
   simp (maxDischargeDepth:=6) only[g0s,g2,g3,g4,g5,hdz,hx,hxb,hbx,ia,r1,n1,l1,k,hcv,qk_old,w_convert,ruW,putL,Nat.reduceLeDiff,xF,ruU,entryE,Nat.reduceLT,Nat.reduceAdd,Nat.reduceMul,Nat.reduceEqDiff]
   have hmono:=encL_mono (ls:=ls.map (·.1)) (i+1)
   rw[encL_take hgx,zB2]at hmono
   have hbl:(encB ⟨pos,op,args⟩).length=1+2*args.length:=by
    simp only[encB,zA7]
    have:∀ l:List Int,(l.flatMap fun a=>[a.toNat.toUInt8,(a.toNat / 256).toUInt8]).length=2*l.length:=fun l=>by
     induction l with
     |nil=>rfl
     |cons a r ih=>rw[zC9,zB2,ih]; simp only[zA7,zC5]; omega
    rw[this]
    omega
   rw[hbl]at hmono
   obtain⟨G,k1,vG,mG,nG⟩:=byte_app (X:=X) (v:=ov) (ws:=[op.toNat.toUInt8]) (x:=x) ho hx (by rw[hx]; exact hxb) (by simp) (by simp only[zB9]; omega)
   replace k1:aBuiltin Tryz.prog (ext X [⟨5,false,[.int .u8 ((op.toNat.toUInt8).toNat:Int)]⟩]) .append ⟨[23,23]⟩ [ov,.slice (some ⟨x+0,0,some 0⟩) 1 1]=some (.slice (some ⟨x+1,0,none⟩) ((encL ((ls.map (·.1)).take i)).length+1) ((encL ((ls.map (·.1)).take i)).length+1),ext G []):=k1
   have hxo:∀ n∈idsV ov,b+1≤n∧n<x:=fun n hn=>⟨hoi n hn,hx▸(ho.ne n hn).2⟩
   have mmG:Mod [] H G:=m.step mG hok fun n hn=>.inr (by have:=hxo n hn; omega)
   have kfG:bk G (b+0)=some ⟨26,false,[.int .i64 0,.int .i64 0]⟩:=(mG.bk (by omega) (fun h=>by have:=hxo _ h; omega)).trans k
   simp (maxDischargeDepth:=6) only[g0s,g2,g3,g4,g5,k1,nG,ruW,putL,Nat.reduceLeDiff,xF,ruU,entryE,Nat.reduceLT,Nat.reduceAdd,Nat.reduceMul,Nat.reduceEqDiff]
   obtain⟨D,hD⟩:∃ D,encL ((ls.map (·.1)).take i)++[op.toNat.toUInt8]=D:=⟨_,rfl⟩
   have hDl:D.length=(encL ((ls.map (·.1)).take i)).length+1:=by rw[←hD]; simp
   rw[hD,zB9,←hDl]at vG
   rw[←hDl]
   have htot:encL ((ls.map (·.1)).take (i+1))=D++args.flatMap fun a=>[a.toNat.toUInt8,(a.toNat / 256).toUInt8]:=by rw[encL_take hgx,←hD]; simp[encB]
   refine w_env fun E2 hE=>?_
   have h0:E2 0=v:=by rw[hE]; simp only[g0,ruU,entryE,Nat.reduceLT,Nat.reduceAdd,Nat.reduceMul,Nat.reduceEqDiff]
   have h2:E2 2=.slice none 0 0:=by rw[hE]; simp only[g2,ruU,entryE,Nat.reduceLT,Nat.reduceAdd,Nat.reduceMul,Nat.reduceEqDiff]
   have h3:E2 3=.pointer (some ⟨b+0,0,none⟩):=by rw[hE]; simp only[g3,ruU,entryE,Nat.reduceLT,Nat.reduceAdd,Nat.reduceMul,Nat.reduceEqDiff]
   have h4:E2 4=.slice (some ⟨x+1,0,none⟩) D.length D.length:=by rw[hE]; simp only[ruU,entryE,Nat.reduceLT,Nat.reduceAdd,Nat.reduceMul,Nat.reduceEqDiff]
   have h5:E2 5=.int .i64 (i:Int):=by rw[hE]; simp only[g5,ruU,entryE,Nat.reduceLT,Nat.reduceAdd,Nat.reduceMul,Nat.reduceEqDiff]
   have h7:E2 7=.int .i64 ((0:Nat):Int):=by rw[hE]; (simp only[ruU,entryE,Nat.reduceLT,Nat.reduceAdd,Nat.reduceMul,Nat.reduceEqDiff]<;>rfl)
   clear hE g0s g0 g2 g3 g4 g5 E
   refine w_loop (fun (z:Nat × List UInt8 × Value) E' X'=>Mod [] H X'∧b+1≤X'.next∧bk X' (b+0)=some ⟨26,false,[.int .i64 0,.int .i64 0]⟩∧VsAt X' 5 1 z.2.2 (bv z.2.1) z.2.1.length∧(∀ n∈idsV z.2.2,b+1≤n)∧z.1≤args.length∧z.2.1++((args.drop z.1).flatMap fun a=>[a.toNat.toUInt8,(a.toNat / 256).toUInt8])=encL ((ls.map (·.1)).take (i+1))∧E' 0=v∧E' 2=.slice none 0 0∧E' 3=.pointer (some ⟨b+0,0,none⟩)∧E' 4=z.2.2∧E' 5=.int .i64 (i:Int)∧E' 7=.int .i64 (z.1:Int)) (fun z=>args.length-z.1) (0,D,.slice (some ⟨x+1,0,none⟩) D.length D.length)
    ⟨mmG,by rw[ext_nil,nG]; omega,kfG,vG,fun n hn=>by simp only[idsV,zB0]at hn; omega,zB3 _,by rw[htot]; rfl,h0,h2,h3,h4,h5,h7⟩ ?_
   clear h0 h2 h3 h4 h5 h7 E2 mmG kfG vG nG mG k1 G
   clear ia r1 n1 ld l1 l2
   rintro⟨j,o2,v2⟩ E X2 ⟨m2,nx2,kf2,vo2,hi2,hj,htj,g0,g2,g3,g4,g5,g7⟩
   simp only at vo2 hi2 hj htj g4 g7
   obtain⟨x2,hx2⟩:∃ x2,X2.next=x2:=⟨_,rfl⟩
   have xb2:X2.base≤x2:=hx2▸m2.ok hok
   rw[hx2]at nx2
   obtain⟨n',off',s',c',e',o',M',e1',n1,r1,ia,ld,_,_,l2⟩:=(hi.mod0 m2).fld hy
   have hyr2:=(hi.mod0 m2).av _ hym
   simp only at hyr2 l2
   rw[ea]at hyr2 l2
   rw[hx2]at n1
   rw[e1']at ia
   have g0s:E 0=.slice (some ⟨n',off',s'⟩) ls.length c':=g0.trans e1'
   rw[show X2=ext X2 [] from rfl]
   by_cases hje:j=args.length
   ·have hdj:decide ((j:Int)<(args.length:Int))=false:=decide_eq_false (by omega)
    simp (maxDischargeDepth:=6) only[g0s,g2,g3,g4,g5,g7,hx2,ia,n1,r1,l2,hdj,qk_old,ruW,putL,Nat.reduceLeDiff,xF,ruU,entryE,Nat.reduceLT,Nat.reduceAdd,Nat.reduceMul,Nat.reduceEqDiff]
    rw[hje,List.drop_length,List.flatMap_nil,zD8]at htj
    rw[htj]at vo2
    have hw:IntKind.i64.wrap ((i:Int)+1)=((i+1:Nat):Int):=wrap_succ (by omega)
    refine loopC_next ⟨(i+1,v2),by simp only; omega,m2,by rw[ext_nil,hx2]; exact nx2,kf2,vo2,hi2,by simp only; omega,fun i' hi' y' hy'=>?_,?_,?_,?_,?_,?_⟩
    ·by_cases hii:i'=i
     ·subst hii
      rw[hgx]at hy'
      cases hy'
      exact hen
     ·exact hgood i' (by simp only at hi'; omega) y' hy'
    all_goals simp only[g0,g2,g3,g4,g5,g7,hw,ruU,entryE,Nat.reduceLT,Nat.reduceAdd,Nat.reduceMul,Nat.reduceEqDiff]
   ·have hjl:j<args.length:=by omega
    have hdj:decide ((j:Int)<(args.length:Int))=true:=decide_eq_true (by omega)
    obtain⟨n3,off3,s3',c3,e3,o3,M3,e4,n4,r4,m4⟩:=hyr2.one hjl
    have e5:=e4
    cases e5
    rw[iv_get,zA6 hjl,zA5]at m4
    have i3:=ia_of (P:=Tryz.prog) (k:=.i64) (i:=j) (n:=n3) (off:=off3) (len:=args.length) (cap:=ac) (s:=s3') u35 s3 hjl
    rw[zC2]at i3
    rw[hx2]at n4
    obtain⟨ya,hya⟩:∃ ya,args[j]=ya:=⟨_,rfl⟩
    rw[hya]at m4
    obtain⟨y0,y1⟩:=q3 ya (hya▸List.getElem_mem hjl)
    have hw:IntKind.i64.wrap ((j:Int)+1)=((j+1:Nat):Int):=wrap_succ (by omega)
    obtain⟨z0,z1,z2⟩:=mod8 y0
    have c1:IntKind.u8.wrap (ya.tmod 256)=((ya.toNat.toUInt8).toNat:Int):=by rw[byte_val z1 (by omega),z0]
    have c2:IntKind.u8.wrap ((ya.toNat / 256:Nat):Int)=(((ya.toNat / 256).toUInt8).toNat:Int):=by
     rw[byte_val (by omega) (by omega),zD0]
    have hq8:=quo8 y0 y1
    have hdr:args.drop j=ya::args.drop (j+1):=by rw[zE5 hjl,hya]
    rw[hdr,zC9,←List.append_assoc]at htj
    have hlen2:=congrArg List.length htj
    simp only[zB2,zA7,zC5]at hlen2
    have hmono2:=encL_mono (ls:=ls.map (·.1)) (i+1)
    simp (maxDischargeDepth:=6) only[g0s,g2,g3,g4,g5,g7,hx2,ia,n1,r1,l2,hdj,qk_old,ruW,putL,Nat.reduceLeDiff,xF,ruU,entryE,Nat.reduceLT,Nat.reduceAdd,Nat.reduceMul,Nat.reduceEqDiff]
    have hrm:regBin Tryz.prog .rem 3 (.int .i64 ya) (.int .i64 256)=some (.int .i64 (ya.tmod 256)):=reg_rem (by decide)
    have hqo:regBin Tryz.prog .quo 3 (.int .i64 ya) (.int .i64 256)=some (.int .i64 (IntKind.i64.wrap (ya.tdiv 256))):=reg_quo (by decide)
    refine w_drawB [(23,22),(23,21),(22,1),(22,2),(22,3),(22,4),(22,5),(22,6),(22,7),(22,8),(22,9),(22,10),(22,11),(22,12),(22,13),(22,14),(22,15),(22,16),(22,17),(22,18),(22,19),(22,20),(22,21)] [] (by kernel_rfl) (by kernel_rfl) rfl fun ops anc hA hG=>?_
    simp only[all2_cons]at hA
    simp (maxDischargeDepth:=6) only[g0s,g2,g3,g4,g5,g7,hx2,xb2,ia,n1,r1,l2,i3,n4,r4,m4,hrm,qk_old,hA,ruD,ruW,putL,Nat.reduceLeDiff,xF,ruU,entryE,Nat.reduceLT,Nat.reduceAdd,Nat.reduceMul,Nat.reduceEqDiff]
    refine wd_cvint (u:=.int .i64) (k:=.u8) (k0:=.i64) (n:=ya.tmod 256) (by simp only[ruU,entryE,Nat.reduceLT,Nat.reduceAdd,Nat.reduceMul,Nat.reduceEqDiff]) (by decide) (by kernel_rfl) (by kernel_rfl) (by simp only[ruU,entryE,Nat.reduceLT,Nat.reduceAdd,Nat.reduceMul,Nat.reduceEqDiff]) ?_
    rw[c1]
    simp (maxDischargeDepth:=6) only[g0s,g2,g3,g4,g5,g7,hx2,xb2,ia,n1,r1,l2,i3,n4,r4,m4,hqo,hq8,qk_old,hA,ruD,ruW,putL,Nat.reduceLeDiff,xF,ruU,entryE,Nat.reduceLT,Nat.reduceAdd,Nat.reduceMul,Nat.reduceEqDiff]
    refine wd_cvint (u:=.int .i64) (k:=.u8) (k0:=.i64) (n:=((ya.toNat / 256:Nat):Int)) (by simp only[ruU,entryE,Nat.reduceLT,Nat.reduceAdd,Nat.reduceMul,Nat.reduceEqDiff]) (by decide) (by kernel_rfl) (by kernel_rfl) (by simp only[ruU,entryE,Nat.reduceLT,Nat.reduceAdd,Nat.reduceMul,Nat.reduceEqDiff]) ?_
    rw[c2]
    simp (maxDischargeDepth:=6) only[g0s,g2,g3,g4,g5,g7,hx2,xb2,qk_old,hA,ruD,ruW,putL,Nat.reduceLeDiff,xF,ruU,entryE,Nat.reduceLT,Nat.reduceAdd,Nat.reduceMul,Nat.reduceEqDiff]
    generalize hY:ext X2 _=Y
    have okX2:=m2.ok hok
    have mY:Mod [] X2 Y:=hY▸Mod.ext okX2
    have nY:Y.next=x2+1:=by rw[←hY,ext_next,hx2]; rfl
    have kY:bk Y (x2+0)=some ⟨5,false,bv [ya.toNat.toUInt8,(ya.toNat / 256).toUInt8]⟩:=by rw[←hY,bk_at hx2 (by simp)]; rfl
    have okY:=mY.ok okX2
    have voY:VsAt Y 5 1 v2 (bv o2) o2.length:=vo2.of mY.next fun k hk=>mY.get k (vo2.ne k hk).2 (by simp)
    refine wd_appV (v:=v2) (vs:=bv o2) (cnt:=o2.length) (sz:=1) (e:=5) (by1:=1) (n:=x2+0) (off:=0) (cnt2:=2) (cap:=2) (s:=some 0) (z:=.int .u8 0) (ws:=bv [ya.toNat.toUInt8,(ya.toNat / 256).toUInt8]) u23 s5 (by kernel_rfl) (by kernel_rfl) rfl (by kernel_rfl) (by simp only[ruU,entryE,Nat.reduceLT,Nat.reduceAdd,Nat.reduceMul,Nat.reduceEqDiff]) (by simp only[g4,ruU,entryE,Nat.reduceLT,Nat.reduceAdd,Nat.reduceMul,Nat.reduceEqDiff]) (by decide) voY (rk_of kY) (by omega) (by simp[bv]) rfl rfl (by decide)
     (by simp only[small,zA4,zD7]; omega) (by rw[←bv_app]; exact scbL_bv _ _) okY (by simp only[all2_cons,all2_nil,hA,true_or,and_true]) fun Z D vZ mZ hD nZ=>?_
    rw[nY]at nZ vZ ⊢
    have ho2:∀ n∈idsV v2,b+1≤n∧n<x2:=fun n hn=>⟨hi2 n hn,hx2▸(vo2.ne n hn).2⟩
    have mXZ:Mod (idsV v2) X2 Z:=(mY.mono (by simp)).trans mZ
    have mHZ:Mod [] H Z:=m2.step mXZ hok fun n hn=>.inr (by have:=ho2 n hn; omega)
    have kfZ:bk Z (b+0)=some ⟨26,false,[.int .i64 0,.int .i64 0]⟩:=(mXZ.bk (by omega) (fun h=>by have:=ho2 _ h; omega)).trans kf2
    simp (maxDischargeDepth:=6) only[g0s,g2,g3,g4,g5,g7,nZ,hw,hA,ruD,ruW,putL,Nat.reduceLeDiff,xF,ruU,entryE,Nat.reduceLT,Nat.reduceAdd,Nat.reduceMul,Nat.reduceEqDiff]
    have hol:(o2++[ya.toNat.toUInt8,(ya.toNat / 256).toUInt8]).length=o2.length+2:=by simp
    refine loopC_next ⟨(j+1,o2++[ya.toNat.toUInt8,(ya.toNat / 256).toUInt8],.slice (some ⟨x2+1,0,none⟩) (o2.length+2) (o2.length+2)),by simp only; omega,mHZ,by rw[nZ]; omega,kfZ,by rw[hol,bv_app]; exact vZ,fun n hn=>by simp only[idsV,zB0]at hn; omega,by simp only; omega,htj,?_,?_,?_,?_,?_,?_⟩
    all_goals simp only[g0,g2,g3,g4,g5,g7,hw,ruU,entryE,Nat.reduceLT,Nat.reduceAdd,Nat.reduceMul,Nat.reduceEqDiff]
  ·have hdz:decide (¬encA op args=0)=true:=decide_eq_true hen
   simp (maxDischargeDepth:=6) only[g0s,g2,g3,g4,g5,hdz,hx,hxb,hbx,k,Tryz.results31,ruW,putL,Nat.reduceLeDiff,xF,ruU,entryE,Nat.reduceLT,Nat.reduceAdd,Nat.reduceMul,Nat.reduceEqDiff]
   refine⟨?_,mU _⟩
   simp only[EncOut,encBad_some (k:=0) hgood hgx hen,zC3]
set_option maxRecDepth 100000
theorem enc_len1 (x:Ins):(encB x).length=1+2*x.args.length:=by
 have:∀ l:List Int,(l.flatMap aB).length=2*l.length:=fun l=>by
  induction l with
  |nil=>rfl
  |cons a q ih=>rw[zC9,zB2,ih]; simp only[aB,zA7,zC5]; omega
 rw[encB_eq,zA7,this]
 omega
set_option maxRecDepth 100000
set_option maxRecDepth 100000
theorem OwnI.mod0 {b:Nat} {X G:AHeap} {v:Value} {ls:List Iv} (h:OwnI b X v ls) (m:Mod [] X G):OwnI b G v ls :=
 ⟨h.vs.of m.next fun n hn=>m.get n (h.vs.ne n hn).2 (by simp),fun z hz=>(h.av z hz).of m.next fun n hn=>m.get n ((h.av z hz).ne n hn).2 (by simp),h.lo,h.alo,h.nd⟩
theorem OwnI.snoc {b:Nat} {X G:AHeap} {v nv:Value} {ls:List Iv} {y:Iv} (h:OwnI b X v ls) (m:Mod (idsV v) X G) (vG:VsAt G 59 3 nv (insC (ls++[y])) (ls++[y]).length) (hi:∀ n∈idsV nv,X.next≤n) (hb:b≤X.next) (ha:ArgA X y.2 y.1.args) (hy:∀ n∈idsV y.2,b≤n∧n∉idsV v∧∀ z∈ls,n∉idsV z.2):OwnI b G nv (ls++[y]):=by
 have hall:∀ z∈ls++[y],ArgA X z.2 z.1.args∧∀ n∈idsV z.2,b≤n∧n∉idsV v:=fun z hz=>by
  rcases zC6.1 hz with hz|hz
  ·exact⟨h.av z hz,h.alo z hz⟩
  ·rw[zB0]at hz
   subst hz
   exact⟨ha,fun n hn=>⟨(hy n hn).1,(hy n hn).2.1⟩⟩
 refine⟨vG,fun z hz=>(hall z hz).1.of m.next fun n hn=>m.get n ((hall z hz).1.ne n hn).2 ((hall z hz).2 n hn).2,fun n hn=>by have:=hi n hn; omega,fun z hz n hn=>⟨((hall z hz).2 n hn).1,fun hn'=>by have:=hi n hn'; have:=((hall z hz).1.ne n hn).2; omega⟩,?_⟩
 rw[List.flatMap_append,List.nodup_append]
 obtain⟨aa,ea⟩:=VsAt.len ha
 refine⟨h.nd,?_,fun n hn k hk e=>?_⟩
 ·simp only[zC9,List.flatMap_nil,zD8,ea]
  cases aa<;>simp[idsV]
 ·subst e
  obtain⟨z,hz,hn'⟩:=List.mem_flatMap.1 hn
  simp only[zC9,List.flatMap_nil,zD8]at hk
  exact (hy n hk).2.2 z hz hn'
theorem OwnI.rd {b:Nat} {X:AHeap} {v:Value} {ls:List Iv} (h:OwnI b X v ls):InsRd X v ls:=⟨h.vs.rd,fun z hz=>(h.av z hz).rd,fun z hz=>VsAt.sc (h.av z hz)⟩
set_option maxRecDepth 100000
def longR (ls:List Iv):Bool:=decide (200<ls.length)||ls.any fun x=>decide (40<x.1.args.length)
theorem longR_no {ls:List Iv} (h:longR ls=false):ls.length≤200∧∀ x∈ls,x.1.args.length≤40:=by
 simp only[longR,Bool.or_eq_false_iff,decide_eq_false_iff_not,List.any_eq_false,decide_eq_true_eq]at h
 exact⟨by omega,fun x hx=>by have:=h.2 x hx; omega⟩
theorem long_c (H:AHeap) (v:Value) (ls:List Iv) (hi:InsRd H v ls):Pure 21 [v] H (.bool (longR ls)):=by
 obtain⟨x,hx⟩:∃ x,H.next=x:=⟨_,rfl⟩
 obtain⟨a0,c0,e0⟩:=hi.rd.sl
 refine callS_fn mixed Tryz.func21 rfl Tryz.ntmps21 (zB5 rfl) fun wf hsc=>?_
 by_cases h200:200<ls.length
 ·have hd:decide ((200:Int)<(ls.length:Int))=true:=decide_eq_true (by omega)
  rw[e0]
  simp (maxDischargeDepth:=6) only[hd,Tryz.results21,ruW,putL,Nat.reduceLeDiff,xF,ruU,entryE,Nat.reduceLT,Nat.reduceAdd,Nat.reduceMul,Nat.reduceEqDiff]
  rw[show longR ls=true by simp[longR,h200]]
  exact Fin.pureE rfl rfl
 have hd:decide ((200:Int)<(ls.length:Int))=false:=decide_eq_false (by omega)
 rw[e0]
 simp (maxDischargeDepth:=6) only[hd,hx,ruW,putL,Nat.reduceLeDiff,xF,ruU,entryE,Nat.reduceLT,Nat.reduceAdd,Nat.reduceMul,Nat.reduceEqDiff]
 rw[←e0]
 refine w_env fun E hE=>?_
 have g0:E 0=v:=by rw[hE,e0]; simp only[ruU,entryE,Nat.reduceLT,Nat.reduceAdd,Nat.reduceMul,Nat.reduceEqDiff]
 have g3:E 3=.int .i64 ((0:Nat):Int):=by rw[hE]; (simp only[ruU,entryE,Nat.reduceLT,Nat.reduceAdd,Nat.reduceMul,Nat.reduceEqDiff]<;>rfl)
 clear hE
 refine w_loop (fun (j:Nat) E' H'=>H'=ext H []∧j≤ls.length∧(∀ i,i<j→∀ y,ls[i]?=some y→y.1.args.length≤40)∧E' 0=v∧E' 3=.int .i64 (j:Int)) (fun j=>ls.length-j) 0 ⟨rfl,zB3 _,fun i hi=>absurd hi (by omega),g0,g3⟩ ?_
 clear g0 g3 E
 rintro j E H' ⟨hH,hj,hall,g0,g3⟩
 rw[hH]
 by_cases hje:j=ls.length
 ·have hdj:decide ((j:Int)<(ls.length:Int))=false:=decide_eq_false (by omega)
  rw[e0]at g0
  simp (maxDischargeDepth:=6) only[g0,g3,hdj,Tryz.results21,ruW,putL,Nat.reduceLeDiff,xF,ruU,entryE,Nat.reduceLT,Nat.reduceAdd,Nat.reduceMul,Nat.reduceEqDiff]
  have:longR ls=false:=by
   simp only[longR,Bool.or_eq_false_iff,decide_eq_false_iff_not,List.any_eq_false,decide_eq_true_eq]
   refine⟨h200,fun y hy=>?_⟩
   obtain⟨i,hi,he⟩:=List.mem_iff_getElem.1 hy
   have:=hall i (by omega) y (by rw[zA6 hi,he])
   omega
  rw[this]
  exact Fin.pureE rfl rfl
 ·have hjl:j<ls.length:=by omega
  have hdj:decide ((j:Int)<(ls.length:Int))=true:=decide_eq_true (by omega)
  obtain⟨y,hy⟩:∃ y,ls[j]?=some y:=⟨_,zA6 hjl⟩
  have hym:y∈ls:=zE2 hy
  obtain⟨n,off,s,c,e,o,M,e1,n1,r1,ia,_,_,_,l2⟩:=hi.fld hy
  obtain⟨aa,ac,ea⟩:=(hi.av y hym).sl
  rw[ea]at l2
  rw[hx]at n1
  rw[e1]at g0 ia
  have hw:IntKind.i64.wrap ((j:Int)+1)=((j+1:Nat):Int):=wrap_succ (by omega)
  obtain⟨d,hdd⟩:∃ d,decide ((40:Int)<(y.1.args.length:Int))=d:=⟨_,rfl⟩
  simp (maxDischargeDepth:=6) only[g0,g3,hx,hdj,ia,n1,r1,l2,hdd,qk_old,ruW,putL,Nat.reduceLeDiff,xF,ruU,entryE,Nat.reduceLT,Nat.reduceAdd,Nat.reduceMul,Nat.reduceEqDiff]
  cases d with
  |true =>
   have:=of_decide_eq_true hdd
   simp (maxDischargeDepth:=6) only[Tryz.results21,ruW,putL,Nat.reduceLeDiff,xF,ruU,entryE,Nat.reduceLT,Nat.reduceAdd,Nat.reduceMul,Nat.reduceEqDiff]
   have:longR ls=true:=by
    simp only[longR,Bool.or_eq_true,List.any_eq_true,decide_eq_true_eq]
    exact .inr ⟨y,hym,by omega⟩
   rw[this]
   exact Fin.pureE rfl rfl
  |false =>
   have:=of_decide_eq_false hdd
   simp (maxDischargeDepth:=6) only[g0,g3,hw,ruW,putL,Nat.reduceLeDiff,xF,ruU,entryE,Nat.reduceLT,Nat.reduceAdd,Nat.reduceMul,Nat.reduceEqDiff]
   refine loopC_next ⟨j+1,by omega,rfl,by omega,fun i hi z hz=>?_,?_,?_⟩
   ·by_cases h:i=j
    ·subst h
     rw[hy]at hz
     cases hz
     omega
    ·exact hall i (by omega) z hz
   ·rw[e1]; simp only[g0,ruU,entryE,Nat.reduceLT,Nat.reduceAdd,Nat.reduceMul,Nat.reduceEqDiff]
   ·simp only[hw,ruU,entryE,Nat.reduceLT,Nat.reduceAdd,Nat.reduceMul,Nat.reduceEqDiff]
set_option maxRecDepth 100000
def ownW (b cnt:Nat):Value:=if cnt=0 then .slice (some ⟨b+0,0,some 0⟩) 0 0 else .slice (some ⟨b+1,0,none⟩) cnt cnt
def ownL (e:TypeId) (vs:List Value) (cnt:Nat):List Bl:=if cnt=0 then [⟨e,false,[]⟩] else [⟨e,false,[]⟩,⟨e,true,vs⟩]
theorem own_form (b cnt:Nat):∃ oa,ownW b cnt=.slice oa cnt cnt:=by
 rw[ownW]
 split
 ·rename_i h; subst h; exact⟨_,rfl⟩
 ·exact⟨_,rfl⟩
theorem own_app {H:AHeap} {b by1 cnt:Nat} {st e:TypeId} {z v:Value} {vs:List Value} (hu:Tryz.prog.underlying st=some (.slice e)) (hsz:szOf Tryz.prog e=some 1) (hby:bytesOf Tryz.prog e=some by1) (hz:zeroOf Tryz.prog e=some z) (hzl:z.cells.toList.length=1) (hi:intTy Tryz.prog st=some false)
  (hb:H.next=b) (hok:H.base≤H.next) (h:RdAt H 1 v vs cnt) (hone:vs.all one=true) (hsc:scbL (b+1) vs=true) (hsm:small cnt by1=true) :
  aBuiltin Tryz.prog (ext H [⟨e,false,[]⟩]) .append ⟨[st,st]⟩ [.slice (some ⟨b+0,0,some 0⟩) 0 0,v]=some (ownW b cnt,ext H (ownL e vs cnt)):=by
 obtain⟨h1,⟨rfl,a,c,rfl⟩|⟨h0,n,off,s,c,e',o,M,rfl,hr,hn,hle,hM⟩⟩:=h
 ·have hw:=write_new (H:=H) (L:=[⟨e,false,[]⟩]) (i:=0) (off:=0+0*1) (vs:=[]) hb hok rfl (by simp) rfl rfl
  have hf:firstC (ext H [⟨e,false,[]⟩]) 1 0 (.slice a 0 c)=some []:=by
   cases a<;>simp[firstC]
  simp only[aBuiltin,aAppend,hu,hsz,hby,hz,hi,zA1,zA3,lenV,hf,zC5,Nat.zero_mul,hzl,zC3,hsm,and_self,if_true,aAppend2,zA9]at hw ⊢
  rw[hw]
  rfl
 ·have hr':rk (ext H [⟨e,false,[]⟩]) n=some ⟨e',o,M⟩:=(rk_get (ext_get_old hn)).trans hr
  have hl:((M.drop off).take (cnt*1)).length=cnt*1:=by rw[hM,h1]
  simp only[aBuiltin,aAppend,hu,hsz,hby,hz,hi,zA1,zA3,lenV,first_rk hr' hle,hl,hzl,zC3,hsm,and_self,if_true,aAppend2]
  rw[if_neg (by omega)]
  have hn1:=new_ext (H:=H) (L:=[⟨e,false,[]⟩]) (e:=e) (l:=vs) (o:=true) (by rw[hb]; exact hsc)
  have hf:firstC (ext H [⟨e,false,[]⟩]) 1 0 (.slice (some ⟨b+0,0,some 0⟩) 0 0)=some []:=by simp[firstC]
  simp only[hf,zA3,hM,zC5,Nat.zero_mul,List.all_nil,hone,decide_true,zD6,if_true,exactAp,exactAt,zD4,hn1]
  rw[ownW,ownL,if_neg (by omega),if_neg (by omega),ext_next,hb]
  rfl
theorem own_rd {H:AHeap} {b cnt:Nat} {e:TypeId} {vs:List Value} (hb:H.next=b) (hl:vs.length=cnt*1):RdAt (ext H (ownL e vs cnt)) 1 (ownW b cnt) vs cnt:=by
 by_cases h0:cnt=0
 ·subst h0
  have:vs=[]:=zE7 (by omega)
  subst this
  exact⟨rfl,.inl ⟨rfl,_,_,rfl⟩⟩
 ·rw[ownW,ownL,if_neg h0,if_neg h0]
  refine⟨hl,.inr ⟨by omega,b+1,0,none,cnt,e,true,vs,rfl,rk_of (by rw[bk_at hb (by simp)]; rfl),by rw[ext_next,hb]; simp,by omega,by rw[List.drop_zero]; exact zD9 (by omega)⟩⟩
theorem own_sc {H:AHeap} {b cnt:Nat} {e:TypeId} {vs:List Value} (hb:H.next=b):scb (ext H (ownL e vs cnt)).next (ownW b cnt)=true:=by
 rw[ext_next,hb,ownW,ownL]
 split<;>simp[scb]
theorem own_ids {b cnt:Nat}:∀ n∈idsV (ownW b cnt),n=b∨n=b+1:=fun n hn=>by
 rw[ownW]at hn
 split at hn<;>simp[idsV]at hn<;>omega
theorem own22_c (H:AHeap) (u:Value) (l:List UInt8) (hu:RdAt H 1 u (bv l) l.length) (hl:l.length≤1000000):CallS Tryz.prog 22 [u] H (.ok (ownW H.next l.length)) (ext H (ownL 5 (bv l) l.length)):=by
 obtain⟨b,hbn⟩:∃ b,H.next=b:=⟨_,rfl⟩
 obtain⟨a0,c0,rfl⟩:=hu.sl
 refine callS_fn mixed Tryz.func22 rfl Tryz.ntmps22 (zB5 rfl) fun wf hsc=>?_
 have hok:=wf.base
 have hbase:H.base≤b:=hbn▸hok
 have happ:=own_app (st:=23) (e:=5) (by1:=1) (z:=.int .u8 0) u23 s5 (by kernel_rfl) (by kernel_rfl) rfl (by kernel_rfl) hbn hok hu (by simp[bv,one]) (scbL_bv _ _) (by simp only[small,zA4,zD7]; omega)
 rw[hbn]
 simp (maxDischargeDepth:=6) only[hbn,hbase,happ,Tryz.results22,ruW,putL,Nat.reduceLeDiff,xF,ruU,entryE,Nat.reduceLT,Nat.reduceAdd,Nat.reduceMul,Nat.reduceEqDiff]
 exact Ax.Fin.same
theorem scbL_iv (n:Nat) (ws:List Int):scbL n (iv ws)=true:=by
 rw[scbL_iff]
 intro v' hv'
 obtain⟨w',_,rfl⟩:=zC8.1 hv'
 rfl
theorem own48_c (H:AHeap) (u:Value) (l:List Int) (hu:RdAt H 1 u (iv l) l.length) (hl:l.length≤1000000):CallS Tryz.prog 48 [u] H (.ok (ownW H.next l.length)) (ext H (ownL 3 (iv l) l.length)):=by
 obtain⟨b,hbn⟩:∃ b,H.next=b:=⟨_,rfl⟩
 obtain⟨a0,c0,rfl⟩:=hu.sl
 refine callS_fn mixed Tryz.func48 rfl Tryz.ntmps48 (zB5 rfl) fun wf hsc=>?_
 have hok:=wf.base
 have hbase:H.base≤b:=hbn▸hok
 have happ:=own_app (st:=35) (e:=3) (by1:=8) (z:=.int .i64 0) u35 s3 (by kernel_rfl) (by kernel_rfl) rfl (by kernel_rfl) hbn hok hu (by simp[iv,one]) (scbL_iv _ _) (by simp only[small,zA4,zD7]; omega)
 rw[hbn]
 simp (maxDischargeDepth:=6) only[hbn,hbase,happ,Tryz.results48,ruW,putL,Nat.reduceLeDiff,xF,ruU,entryE,Nat.reduceLT,Nat.reduceAdd,Nat.reduceMul,Nat.reduceEqDiff]
 exact Ax.Fin.same
set_option maxRecDepth 100000
structure CpAt (b:Nat) (X:AHeap) (v:Value) (cs:List Iv):Prop where
 vs:VsAt X 59 3 v (insC cs) cs.length
 rd:∀ x∈cs,RdAt X 1 x.2 (iv x.1.args) x.1.args.length∧scb X.next x.2=true∧∀ n∈idsV x.2,b≤n∧n∉idsV v
 lo:∀ n∈idsV v,b≤n
theorem CpAt.ird {b:Nat} {X:AHeap} {v:Value} {cs:List Iv} (h:CpAt b X v cs):InsRd X v cs:=⟨h.vs.rd,fun x hx=>(h.rd x hx).1,fun x hx=>(h.rd x hx).2.1⟩
theorem copy_c (H:AHeap) (v:Value) (ls:List Iv) (hi:InsRd H v ls) (hok:H.base≤H.next) (hl:ls.length≤1000000) (hn:∀ x∈ls,x.1.args.length≤1000000):CallA Tryz.prog 23 [v] H (fun out X=>∃ w cs,out=.ok w∧cs.map (·.1)=ls.map (·.1)∧CpAt H.next X w cs∧Mod [] H X):=by
 obtain⟨b,hbn⟩:∃ b,H.next=b:=⟨_,rfl⟩
 have hbase:H.base≤b:=hbn▸hok
 obtain⟨a0,c0,e0⟩:=hi.rd.sl
 refine callE_fn mixed Tryz.func23 rfl Tryz.ntmps23 (zB5 rfl) ?_
 rw[e0]
 simp (maxDischargeDepth:=6) only[hbn,hbase,ruW,putL,Nat.reduceLeDiff,xF,ruU,entryE,Nat.reduceLT,Nat.reduceAdd,Nat.reduceMul,Nat.reduceEqDiff]
 rw[←e0]
 refine w_env fun E hE=>?_
 have g0:E 0=v:=by rw[hE,e0]; simp only[ruU,entryE,Nat.reduceLT,Nat.reduceAdd,Nat.reduceMul,Nat.reduceEqDiff]
 have g3:E 3=.slice none 0 0:=by rw[hE]; simp only[ruU,entryE,Nat.reduceLT,Nat.reduceAdd,Nat.reduceMul,Nat.reduceEqDiff]
 have g4:E 4=.int .i64 ((0:Nat):Int):=by rw[hE]; (simp only[ruU,entryE,Nat.reduceLT,Nat.reduceAdd,Nat.reduceMul,Nat.reduceEqDiff]<;>rfl)
 clear hE
 refine w_loop (fun (z:Nat × List Iv × Value) E' X=>Mod [] H X∧CpAt b X z.2.2 z.2.1∧z.2.1.map (·.1)=(ls.take z.1).map (·.1)∧z.1≤ls.length∧E' 0=v∧E' 3=z.2.2∧E' 4=.int .i64 (z.1:Int)) (fun z=>ls.length-z.1) (0,[],.slice none 0 0)
  ⟨by rw[ext_nil]; exact Mod.refl,⟨VsAt.nil,fun x hx=>by simp at hx,fun n hn=>by simp[idsV]at hn⟩,rfl,zB3 _,g0,g3,g4⟩ ?_
 clear g0 g3 g4 E
 rintro⟨i,cs,w⟩ E X ⟨m,cp,hcs,hil,g0,g3,g4⟩
 simp only at cp hcs hil g3 g4
 obtain⟨x,hx⟩:∃ x,X.next=x:=⟨_,rfl⟩
 have okX:=m.ok hok
 have hxb:X.base≤x:=hx▸okX
 have nx:=m.next
 rw[hbn,hx]at nx
 obtain⟨wa,ew⟩:=cp.vs.len
 have hcl:cs.length=i:=by have:=congrArg List.length hcs; rw[zB7,zB7,List.length_take]at this; omega
 rw[show X=ext X [] from rfl]
 by_cases hie:i=ls.length
 ·have hd:decide ((i:Int)<(ls.length:Int))=false:=decide_eq_false (by omega)
  rw[e0]at g0
  rw[ew]at g3
  simp (maxDischargeDepth:=6) only[g0,g3,g4,hd,Tryz.results23,ruW,putL,Nat.reduceLeDiff,xF,ruU,entryE,Nat.reduceLT,Nat.reduceAdd,Nat.reduceMul,Nat.reduceEqDiff]
  refine⟨w,cs,by rw[ew],?_,cp,m⟩
  rw[hcs,zD9 (by omega)]
 ·have hil':i<ls.length:=by omega
  have hd:decide ((i:Int)<(ls.length:Int))=true:=decide_eq_true (by omega)
  obtain⟨y,hy⟩:∃ y,ls[i]?=some y:=⟨_,zA6 hil'⟩
  have hym:y∈ls:=zE2 hy
  obtain⟨n,off,s,c,e,o,M,e1,n1,r1,ia,ld,l0,l1,l2⟩:=(hi.mod0 m).fld hy
  have hyr:=(hi.mod0 m).av y hym
  have hyn:=hn y hym
  obtain⟨⟨pos,op,args⟩,av⟩:=y
  obtain⟨aa,ac,ea⟩:=hyr.sl
  simp only at hyr hyn ea l0 l1 l2
  rw[hx]at n1
  rw[ea]at l2 hyr
  rw[e1]at ia
  have g0s:E 0=.slice (some ⟨n,off,s⟩) ls.length c:=g0.trans e1
  simp (maxDischargeDepth:=6) only[g0s,g3,g4,hd,ruW,putL,Nat.reduceLeDiff,xF,ruU,entryE,Nat.reduceLT,Nat.reduceAdd,Nat.reduceMul,Nat.reduceEqDiff]
  refine w_drawB [(16,15),(17,16),(18,5),(18,10),(18,15),(18,16),(19,1),(19,2),(19,3),(19,4),(19,5),(19,6),(19,7),(19,8),(19,9),(19,10),(19,11),(19,12),(19,13),(19,14),(19,15),(19,16),(19,17),(19,18),(20,19),(20,18),(20,16)] [] (by kernel_rfl) (by kernel_rfl) rfl fun ops anc hA hG=>?_
  simp only[all2_cons]at hA
  simp (maxDischargeDepth:=6) only[g0s,g3,g4,hx,hxb,ia,n1,r1,l0,l1,l2,qk_old,hA,ruD,ruW,putL,Nat.reduceLeDiff,xF,ruU,entryE,Nat.reduceLT,Nat.reduceAdd,Nat.reduceMul,Nat.reduceEqDiff]
  have hF:∀ k∈rdF (.slice aa args.length ac) args.length,(ext X []).get k≠none:=fun k hk=>(hyr.ne k hk).1
  refine genV_ext (v:=ownW x args.length) (M:=ownL 3 (iv args) args.length) (rdF (.slice aa args.length ac) args.length) (by simp only[ruU,entryE,Nat.reduceLT,Nat.reduceAdd,Nat.reduceMul,Nat.reduceEqDiff]) (by kernel_rfl) (by decide) hF (fun G hG hg=>?_) (by simp[Meets,hA]) ?_
  ·simp only[ruU,entryE,Nat.reduceLT,Nat.reduceAdd,Nat.reduceMul,Nat.reduceEqDiff]
   have:=own48_c G (.slice aa args.length ac) args (hyr.of (Nat.le_of_eq hG.symm) hg) (by omega)
   rw[hG,ext_nil,hx]at this
   exact this
  obtain⟨oa,ho⟩:=own_form x args.length
  have how:=own_rd (H:=ext X []) (b:=x) (cnt:=args.length) (e:=3) (vs:=iv args) hx (by simp[iv])
  have hos:=own_sc (H:=ext X []) (b:=x) (cnt:=args.length) (e:=3) (vs:=iv args) hx
  have hoi:=own_ids (b:=x) (cnt:=args.length)
  rw[ho]at how hos hoi ⊢
  rw[ext_nil]at how hos ⊢
  generalize hY:ext X (ownL 3 (iv args) args.length)=Y at how hos ⊢
  have mY:Mod [] X Y:=hY▸Mod.ext okX
  obtain⟨yn,hyn'⟩:∃ yn,Y.next=yn:=⟨_,rfl⟩
  have okY:=mY.ok okX
  have hyb:Y.base≤yn:=hyn'▸okY
  have nyn:=mY.next
  rw[hx,hyn']at nyn
  rw[hyn']at hos
  rw[show Y=ext Y [] from rfl]
  simp (maxDischargeDepth:=6) only[g0s,g3,g4,hx,hxb,hyn',hyb,hos,hA,ruD,ruW,putL,Nat.reduceLeDiff,xF,ruU,entryE,Nat.reduceLT,Nat.reduceAdd,Nat.reduceMul,Nat.reduceEqDiff]
  generalize hZ:ext Y _=Z
  have mZ:Mod [] Y Z:=hZ▸Mod.ext okY
  have nZ:Z.next=yn+1:=by rw[←hZ,ext_next,hyn']; rfl
  obtain⟨y,hyv⟩:∃ y:Iv,y=(⟨pos,op,args⟩,.slice oa args.length args.length):=⟨_,rfl⟩
  have kZ:bk Z (yn+0)=some ⟨59,false,ivC y⟩:=by rw[←hZ,bk_at hyn' (by simp)]; rw[hyv]; rfl
  have okZ:=mZ.ok okY
  have mXZ:=mY.trans mZ
  have mHZ:=m.trans mXZ
  have hwx:∀ n∈idsV w,b≤n∧n<x:=fun n hn=>⟨cp.lo n hn,hx▸(cp.vs.ne n hn).2⟩
  have vZ:VsAt Z 59 3 w (insC cs) cs.length:=cp.vs.of mXZ.next fun k hk=>mXZ.get k (cp.vs.ne k hk).2 (by simp)
  have hsY:scb Z.next (.slice oa args.length args.length)=true:=scb_mono (by omega) _ hos
  have hsC:scbL Z.next (ivC y)=true:=by
   rw[hyv]
   show (true&&(true&&(scb _ _&&true)))=true
   rw[hsY]
   rfl
  have hsI:scbL Z.next (insC cs)=true:=insC_sc fun z hz=>scb_mono mXZ.next _ (cp.rd z hz).2.1
  rw[ew]at g3
  refine wd_appV (v:=w) (vs:=insC cs) (cnt:=cs.length) (sz:=3) (e:=59) (by1:=40) (n:=yn+0) (off:=0) (cnt2:=1) (cap:=1) (s:=some 0) (z:=.agg #[.int .i64 0,.int .i64 0,.slice none 0 0]) (ws:=ivC y) u42 s59 (by kernel_rfl) (by kernel_rfl) rfl (by kernel_rfl) (by simp only[ruU,entryE,Nat.reduceLT,Nat.reduceAdd,Nat.reduceMul,Nat.reduceEqDiff]) (by rw[ew]; simp only[g3,ruU,entryE,Nat.reduceLT,Nat.reduceAdd,Nat.reduceMul,Nat.reduceEqDiff]) (by decide) vZ (rk_of kZ) (by omega) (by simp[ivC]) rfl (by rw[hyv]; rfl) (by decide)
   (by simp only[small,zA4,zD7]; omega) (scbL_append hsI hsC) okZ (by simp only[all2_cons,all2_nil,hA,true_or,and_true]) fun G D vG mG hD nG=>?_
  rw[nZ]at nG vG ⊢
  have hw:IntKind.i64.wrap ((i:Int)+1)=((i+1:Nat):Int):=wrap_succ (by omega)
  simp (maxDischargeDepth:=6) only[g0s,g3,g4,nG,hw,hA,ruD,ruW,putL,Nat.reduceLeDiff,xF,ruU,entryE,Nat.reduceLT,Nat.reduceAdd,Nat.reduceMul,Nat.reduceEqDiff]
  have mHG:Mod [] H G:=mHZ.step mG hok fun k hk=>.inr (by have:=hwx k hk; omega)
  have hrF:∀ (u:Value) (cnt:Nat),∀ k∈rdF u cnt,k∈idsV u:=fun u cnt k hk=>by
   unfold rdF at hk
   split at hk
   ·cases hk
   ·exact hk
  have nGY:G.next=yn+1+1:=nG
  have hcpG:CpAt b G (.slice (some ⟨yn+1,0,none⟩) (cs.length+1) (cs.length+1)) (cs++[y]):=by
   refine⟨?_,fun z hz=>?_,fun k hk=>by simp only[idsV,zB0]at hk; omega⟩
   ·rw[insC_append,zB2,zB9]
    have:insC [y]=ivC y:=by simp[insC]
    rw[this]
    exact vG
   ·rcases zC6.1 hz with hz|hz
    ·obtain⟨h1,h2,h3⟩:=cp.rd z hz
     have hlt:∀ k∈rdF z.2 z.1.args.length,k<X.next:=fun k hk=>(h1.ne k hk).2
     refine⟨(h1.mod0 mXZ).of mG.next fun k hk=>mG.get k (by have:=hlt k hk; omega) (h3 k (hrF _ _ k hk)).2,scb_mono (by omega) _ h2,fun k hk=>⟨(h3 k hk).1,?_⟩⟩
     have:=ids_of_scb _ h2 k hk
     simp only[idsV,zB0]
     omega
    ·rw[zB0]at hz
     subst hz
     rw[hyv]
     refine⟨(how.mod0 mZ).of mG.next fun k hk=>mG.get k (by have:=hoi k (hrF _ _ k hk); have:=(how.ne k hk).2; omega) fun hk'=>?_,scb_mono (by omega) _ hos,fun k hk=>?_⟩
     ·have:=hoi k (hrF _ _ k hk)
      have:=hwx k hk'
      omega
     ·have h1:=hoi k hk
      have h2:=ids_of_scb _ hos k hk
      refine⟨by omega,?_⟩
      simp only[idsV,zB0]
      omega
  refine loopC_next ⟨(i+1,cs++[y],.slice (some ⟨yn+1,0,none⟩) (cs.length+1) (cs.length+1)),by simp only; omega,mHG,hcpG,?_,by simp only; omega,?_,?_,?_⟩
  ·simp only
   rw[List.map_append,hcs,List.take_add_one,hy,List.map_append,hyv]
   rfl
  ·rw[e1]; simp only[g0s,ruU,entryE,Nat.reduceLT,Nat.reduceAdd,Nat.reduceMul,Nat.reduceEqDiff]
  all_goals simp only[g3,g4,hw,ruU,entryE,Nat.reduceLT,Nat.reduceAdd,Nat.reduceMul,Nat.reduceEqDiff]
set_option maxRecDepth 100000
theorem same14_c (H:AHeap) (v w:Value) (a b:List UInt8) (ha:RdAt H 1 v (bv a) a.length) (hb:RdAt H 1 w (bv b) b.length) (hl:a.length≤100000000):Pure 14 [v,w] H (.bool (decide (a=b))):=by
 obtain⟨x,hx⟩:∃ x,H.next=x:=⟨_,rfl⟩
 obtain⟨a0,c0,e0⟩:=ha.sl
 obtain⟨a1,c1,e1⟩:=hb.sl
 refine callS_fn mixed Tryz.func14 rfl Tryz.ntmps14 (zB5 rfl) fun wf hsc=>?_
 by_cases hne:a.length=b.length
 ·have hd:decide (¬(a.length:Int)=(b.length:Int))=false:=decide_eq_false (by omega)
  rw[e0,e1]
  simp (maxDischargeDepth:=6) only[hd,hx,ruW,putL,Nat.reduceLeDiff,xF,ruU,entryE,Nat.reduceLT,Nat.reduceAdd,Nat.reduceMul,Nat.reduceEqDiff]
  rw[←e0,←e1]
  refine w_env fun E hE=>?_
  have g0:E 0=v:=by rw[hE,e0]; simp only[ruU,entryE,Nat.reduceLT,Nat.reduceAdd,Nat.reduceMul,Nat.reduceEqDiff]
  have g1:E 1=w:=by rw[hE,e1]; simp only[ruU,entryE,Nat.reduceLT,Nat.reduceAdd,Nat.reduceMul,Nat.reduceEqDiff]
  have g5:E 5=.int .i64 ((0:Nat):Int):=by rw[hE]; (simp only[ruU,entryE,Nat.reduceLT,Nat.reduceAdd,Nat.reduceMul,Nat.reduceEqDiff]<;>rfl)
  clear hE
  refine w_loop (fun (j:Nat) E' H'=>H'=ext H []∧j≤a.length∧a.take j=b.take j∧E' 0=v∧E' 1=w∧E' 5=.int .i64 (j:Int)) (fun j=>a.length-j) 0 ⟨rfl,zB3 _,rfl,g0,g1,g5⟩ ?_
  clear g0 g1 g5 E
  rintro j E H' ⟨hH,hj,htk,g0,g1,g5⟩
  rw[hH]
  by_cases hje:j=a.length
  ·have hdj:decide ((j:Int)<(a.length:Int))=false:=decide_eq_false (by omega)
   rw[e0]at g0
   simp (maxDischargeDepth:=6) only[g0,g5,hdj,Tryz.results14,ruW,putL,Nat.reduceLeDiff,xF,ruU,entryE,Nat.reduceLT,Nat.reduceAdd,Nat.reduceMul,Nat.reduceEqDiff]
   have:decide (a=b)=true:=by
    rw[zD9 (by omega),zD9 (by omega)]at htk
    exact decide_eq_true htk
   rw[this]
   exact Fin.pureE rfl rfl
  ·have hjl:j<a.length:=by omega
   have hdj:decide ((j:Int)<(a.length:Int))=true:=decide_eq_true (by omega)
   obtain⟨n,off,s,c,e,o,M,k1,n1,r1,m1⟩:=ha.one hjl
   have hjb:j<b.length:=by omega
   obtain⟨n',off',s',c',e',o',M',k2,n2,r2,m2⟩:=hb.one hjb
   rw[bv_get,zA6 hjl,zA5]at m1
   rw[bv_get,zA6 hjb,zA5]at m2
   have i1:=ia_of (P:=Tryz.prog) (k:=.i64) (i:=j) (n:=n) (off:=off) (len:=a.length) (cap:=c) (s:=s) u23 s5 hjl
   have i2:=ia_of (P:=Tryz.prog) (k:=.i64) (i:=j) (n:=n') (off:=off') (len:=b.length) (cap:=c') (s:=s') u23 s5 hjb
   rw[zC2]at i1 i2
   rw[hx]at n1 n2
   have hw:IntKind.i64.wrap ((j:Int)+1)=((j+1:Nat):Int):=wrap_succ (by omega)
   obtain⟨d,hdd⟩:∃ d,decide (¬((a[j].toNat:Nat):Int)=((b[j].toNat:Nat):Int))=d:=⟨_,rfl⟩
   rw[k1]at g0
   rw[k2]at g1
   simp (maxDischargeDepth:=6) only[g0,g1,g5,hx,hdj,ruW,putL,Nat.reduceLeDiff,xF,ruU,entryE,Nat.reduceLT,Nat.reduceAdd,Nat.reduceMul,Nat.reduceEqDiff]
   refine w_drawB [] [] (by kernel_rfl) (by kernel_rfl) rfl fun ops anc hA hG=>?_
   simp (maxDischargeDepth:=6) only[g0,g1,g5,hx,i1,i2,n1,n2,r1,r2,m1,m2,hdd,qk_old,ruD,ruW,putL,Nat.reduceLeDiff,xF,ruU,entryE,Nat.reduceLT,Nat.reduceAdd,Nat.reduceMul,Nat.reduceEqDiff]
   cases d with
   |true =>
    have:=of_decide_eq_true hdd
    simp (maxDischargeDepth:=6) only[g0,g1,g5,Tryz.results14,ruW,putL,Nat.reduceLeDiff,xF,ruU,entryE,Nat.reduceLT,Nat.reduceAdd,Nat.reduceMul,Nat.reduceEqDiff]
    have:decide (a=b)=false:=decide_eq_false fun e=>by subst e; exact this rfl
    rw[this]
    exact Fin.pureE rfl rfl
   |false =>
    have hq:=of_decide_eq_false hdd
    have hab:a[j]=b[j]:=UInt8.toNat_inj.1 (by omega)
    simp (maxDischargeDepth:=6) only[g0,g1,g5,hw,ruW,putL,Nat.reduceLeDiff,xF,ruU,entryE,Nat.reduceLT,Nat.reduceAdd,Nat.reduceMul,Nat.reduceEqDiff]
    refine loopC_next ⟨j+1,by omega,rfl,by omega,?_,?_,?_,?_⟩
    ·rw[List.take_add_one,List.take_add_one,htk,zA6 hjl,zA6 hjb,hab]
    ·rw[k1]; simp only[g0,ruU,entryE,Nat.reduceLT,Nat.reduceAdd,Nat.reduceMul,Nat.reduceEqDiff]
    ·rw[k2]; simp only[g1,ruU,entryE,Nat.reduceLT,Nat.reduceAdd,Nat.reduceMul,Nat.reduceEqDiff]
    ·simp only[hw,ruU,entryE,Nat.reduceLT,Nat.reduceAdd,Nat.reduceMul,Nat.reduceEqDiff]
 ·have hd:decide (¬(a.length:Int)=(b.length:Int))=true:=decide_eq_true (by omega)
  rw[e0,e1]
  simp (maxDischargeDepth:=6) only[hd,hx,Tryz.results14,ruW,putL,Nat.reduceLeDiff,xF,ruU,entryE,Nat.reduceLT,Nat.reduceAdd,Nat.reduceMul,Nat.reduceEqDiff]
  have:decide (a=b)=false:=decide_eq_false fun e=>hne (by rw[e])
  rw[this]
  exact Fin.pureE rfl rfl
set_option maxRecDepth 100000
theorem same18_c (H:AHeap) (v w:Value) (a b:List Int) (ha:RdAt H 1 v (iv a) a.length) (hb:RdAt H 1 w (iv b) b.length) (hl:a.length≤100000000):Pure 18 [v,w] H (.bool (decide (a=b))):=by
 obtain⟨x,hx⟩:∃ x,H.next=x:=⟨_,rfl⟩
 obtain⟨a0,c0,e0⟩:=ha.sl
 obtain⟨a1,c1,e1⟩:=hb.sl
 refine callS_fn mixed Tryz.func18 rfl Tryz.ntmps18 (zB5 rfl) fun wf hsc=>?_
 by_cases hne:a.length=b.length
 ·have hd:decide (¬(a.length:Int)=(b.length:Int))=false:=decide_eq_false (by omega)
  rw[e0,e1]
  simp (maxDischargeDepth:=6) only[hd,hx,ruW,putL,Nat.reduceLeDiff,xF,ruU,entryE,Nat.reduceLT,Nat.reduceAdd,Nat.reduceMul,Nat.reduceEqDiff]
  rw[←e0,←e1]
  refine w_env fun E hE=>?_
  have g0:E 0=v:=by rw[hE,e0]; simp only[ruU,entryE,Nat.reduceLT,Nat.reduceAdd,Nat.reduceMul,Nat.reduceEqDiff]
  have g1:E 1=w:=by rw[hE,e1]; simp only[ruU,entryE,Nat.reduceLT,Nat.reduceAdd,Nat.reduceMul,Nat.reduceEqDiff]
  have g5:E 5=.int .i64 ((0:Nat):Int):=by rw[hE]; (simp only[ruU,entryE,Nat.reduceLT,Nat.reduceAdd,Nat.reduceMul,Nat.reduceEqDiff]<;>rfl)
  clear hE
  refine w_loop (fun (j:Nat) E' H'=>H'=ext H []∧j≤a.length∧a.take j=b.take j∧E' 0=v∧E' 1=w∧E' 5=.int .i64 (j:Int)) (fun j=>a.length-j) 0 ⟨rfl,zB3 _,rfl,g0,g1,g5⟩ ?_
  clear g0 g1 g5 E
  rintro j E H' ⟨hH,hj,htk,g0,g1,g5⟩
  rw[hH]
  by_cases hje:j=a.length
  ·have hdj:decide ((j:Int)<(a.length:Int))=false:=decide_eq_false (by omega)
   rw[e0]at g0
   simp (maxDischargeDepth:=6) only[g0,g5,hdj,Tryz.results18,ruW,putL,Nat.reduceLeDiff,xF,ruU,entryE,Nat.reduceLT,Nat.reduceAdd,Nat.reduceMul,Nat.reduceEqDiff]
   have:decide (a=b)=true:=by
    rw[zD9 (by omega),zD9 (by omega)]at htk
    exact decide_eq_true htk
   rw[this]
   exact Fin.pureE rfl rfl
  ·have hjl:j<a.length:=by omega
   have hdj:decide ((j:Int)<(a.length:Int))=true:=decide_eq_true (by omega)
   obtain⟨n,off,s,c,e,o,M,k1,n1,r1,m1⟩:=ha.one hjl
   have hjb:j<b.length:=by omega
   obtain⟨n',off',s',c',e',o',M',k2,n2,r2,m2⟩:=hb.one hjb
   rw[iv_get,zA6 hjl,zA5]at m1
   rw[iv_get,zA6 hjb,zA5]at m2
   have i1:=ia_of (P:=Tryz.prog) (k:=.i64) (i:=j) (n:=n) (off:=off) (len:=a.length) (cap:=c) (s:=s) u35 s3 hjl
   have i2:=ia_of (P:=Tryz.prog) (k:=.i64) (i:=j) (n:=n') (off:=off') (len:=b.length) (cap:=c') (s:=s') u35 s3 hjb
   rw[zC2]at i1 i2
   rw[hx]at n1 n2
   have hw:IntKind.i64.wrap ((j:Int)+1)=((j+1:Nat):Int):=wrap_succ (by omega)
   obtain⟨d,hdd⟩:∃ d,decide (¬a[j]=b[j])=d:=⟨_,rfl⟩
   rw[k1]at g0
   rw[k2]at g1
   simp (maxDischargeDepth:=6) only[g0,g1,g5,hx,hdj,ruW,putL,Nat.reduceLeDiff,xF,ruU,entryE,Nat.reduceLT,Nat.reduceAdd,Nat.reduceMul,Nat.reduceEqDiff]
   refine w_drawB [] [] (by kernel_rfl) (by kernel_rfl) rfl fun ops anc hA hG=>?_
   simp (maxDischargeDepth:=6) only[g0,g1,g5,hx,i1,i2,n1,n2,r1,r2,m1,m2,hdd,qk_old,ruD,ruW,putL,Nat.reduceLeDiff,xF,ruU,entryE,Nat.reduceLT,Nat.reduceAdd,Nat.reduceMul,Nat.reduceEqDiff]
   cases d with
   |true =>
    have:=of_decide_eq_true hdd
    simp (maxDischargeDepth:=6) only[g0,g1,g5,Tryz.results18,ruW,putL,Nat.reduceLeDiff,xF,ruU,entryE,Nat.reduceLT,Nat.reduceAdd,Nat.reduceMul,Nat.reduceEqDiff]
    have:decide (a=b)=false:=decide_eq_false fun e=>by subst e; exact this rfl
    rw[this]
    exact Fin.pureE rfl rfl
   |false =>
    have hq:=of_decide_eq_false hdd
    have hab:a[j]=b[j]:=by omega
    simp (maxDischargeDepth:=6) only[g0,g1,g5,hw,ruW,putL,Nat.reduceLeDiff,xF,ruU,entryE,Nat.reduceLT,Nat.reduceAdd,Nat.reduceMul,Nat.reduceEqDiff]
    refine loopC_next ⟨j+1,by omega,rfl,by omega,?_,?_,?_,?_⟩
    ·rw[List.take_add_one,List.take_add_one,htk,zA6 hjl,zA6 hjb,hab]
    ·rw[k1]; simp only[g0,ruU,entryE,Nat.reduceLT,Nat.reduceAdd,Nat.reduceMul,Nat.reduceEqDiff]
    ·rw[k2]; simp only[g1,ruU,entryE,Nat.reduceLT,Nat.reduceAdd,Nat.reduceMul,Nat.reduceEqDiff]
    ·simp only[hw,ruU,entryE,Nat.reduceLT,Nat.reduceAdd,Nat.reduceMul,Nat.reduceEqDiff]
 ·have hd:decide (¬(a.length:Int)=(b.length:Int))=true:=decide_eq_true (by omega)
  rw[e0,e1]
  simp (maxDischargeDepth:=6) only[hd,hx,Tryz.results18,ruW,putL,Nat.reduceLeDiff,xF,ruU,entryE,Nat.reduceLT,Nat.reduceAdd,Nat.reduceMul,Nat.reduceEqDiff]
  have:decide (a=b)=false:=decide_eq_false fun e=>hne (by rw[e])
  rw[this]
  exact Fin.pureE rfl rfl
theorem same28_c (H:AHeap) (v w:Value) (ls cs:List Iv) (ha:InsRd H v ls) (hb:InsRd H w cs) (hl:ls.length≤1000000) (hn:∀ x∈ls,x.1.args.length≤1000000) (he:ls.map (·.1)=cs.map (·.1)):Pure 28 [v,w] H (.bool true):=by
 obtain⟨x,hx⟩:∃ x,H.next=x:=⟨_,rfl⟩
 obtain⟨a0,c0,e0⟩:=ha.rd.sl
 obtain⟨a1,c1,e1⟩:=hb.rd.sl
 refine callS_fn mixed Tryz.func28 rfl Tryz.ntmps28 (zB5 rfl) fun wf hsc=>?_
 have hne:ls.length=cs.length:=by have:=congrArg List.length he; rwa [zB7,zB7]at this
 have hd:decide (¬(ls.length:Int)=(cs.length:Int))=false:=decide_eq_false (by omega)
 rw[e0,e1]
 simp (maxDischargeDepth:=6) only[hd,hx,ruW,putL,Nat.reduceLeDiff,xF,ruU,entryE,Nat.reduceLT,Nat.reduceAdd,Nat.reduceMul,Nat.reduceEqDiff]
 rw[←e0,←e1]
 refine w_env fun E hE=>?_
 have g0:E 0=v:=by rw[hE,e0]; simp only[ruU,entryE,Nat.reduceLT,Nat.reduceAdd,Nat.reduceMul,Nat.reduceEqDiff]
 have g1:E 1=w:=by rw[hE,e1]; simp only[ruU,entryE,Nat.reduceLT,Nat.reduceAdd,Nat.reduceMul,Nat.reduceEqDiff]
 have g5:E 5=.int .i64 ((0:Nat):Int):=by rw[hE]; (simp only[ruU,entryE,Nat.reduceLT,Nat.reduceAdd,Nat.reduceMul,Nat.reduceEqDiff]<;>rfl)
 clear hE
 refine w_loop (fun (j:Nat) E' H'=>H'=ext H []∧j≤ls.length∧E' 0=v∧E' 1=w∧E' 5=.int .i64 (j:Int)) (fun j=>ls.length-j) 0 ⟨rfl,zB3 _,g0,g1,g5⟩ ?_
 clear g0 g1 g5 E
 rintro j E H' ⟨hH,hj,g0,g1,g5⟩
 rw[hH]
 by_cases hje:j=ls.length
 ·have hdj:decide ((j:Int)<(ls.length:Int))=false:=decide_eq_false (by omega)
  rw[e0]at g0
  simp (maxDischargeDepth:=6) only[g0,g5,hdj,Tryz.results28,ruW,putL,Nat.reduceLeDiff,xF,ruU,entryE,Nat.reduceLT,Nat.reduceAdd,Nat.reduceMul,Nat.reduceEqDiff]
  exact Fin.pureE rfl rfl
 ·have hjl:j<ls.length:=by omega
  have hdj:decide ((j:Int)<(ls.length:Int))=true:=decide_eq_true (by omega)
  have hjb:j<cs.length:=by omega
  obtain⟨y,hy⟩:∃ y,ls[j]?=some y:=⟨_,zA6 hjl⟩
  obtain⟨z,hz⟩:∃ z,cs[j]?=some z:=⟨_,zA6 hjb⟩
  have hym:y∈ls:=zE2 hy
  have hzm:z∈cs:=zE2 hz
  obtain⟨n,off,s,c,e,o,M,k1,n1,r1,ia,_,l0,l1,l2⟩:=ha.fld hy
  obtain⟨n',off',s',c',e',o',M',k2,n2,r2,ib,_,p0,p1,p2⟩:=hb.fld hz
  have hyr:=ha.av y hym
  have hzr:=hb.av z hzm
  have hyn:=hn y hym
  have hw:IntKind.i64.wrap ((j:Int)+1)=((j+1:Nat):Int):=wrap_succ (by omega)
  rw[hx]at n1 n2
  rw[k1]at g0 ia
  rw[k2]at g1 ib
  have hyz:y.1=z.1:=by
   have h1:(ls.map (·.1))[j]?=some y.1:=by rw[zE6,hy]; rfl
   have h2:(cs.map (·.1))[j]?=some z.1:=by rw[zE6,hz]; rfl
   rw[he,h2]at h1
   exact (Option.some.inj h1).symm
  obtain⟨⟨pa,oa,aa⟩,va⟩:=y
  obtain⟨⟨pb,ob,ab⟩,vb⟩:=z
  simp only at l0 l1 l2 p0 p1 p2 hyr hzr hyn hyz
  cases hyz
  obtain⟨q0,q0c,eq0⟩:=hyr.sl
  obtain⟨q1,q1c,eq1⟩:=hzr.sl
  rw[eq0]at l2 hyr
  rw[eq1]at p2 hzr
  have hz0:∀ i:Decidable False,@decide False i=false:=fun i=>by simp
  simp (maxDischargeDepth:=6) only[g0,g1,g5,hx,hdj,ruW,putL,Nat.reduceLeDiff,xF,ruU,entryE,Nat.reduceLT,Nat.reduceAdd,Nat.reduceMul,Nat.reduceEqDiff]
  refine w_drawB [] [(11,28),(24,41)] (by kernel_rfl) (by kernel_rfl) (by kernel_rfl) fun ops anc hA hG=>?_
  simp only[all2_cons]at hG
  simp (maxDischargeDepth:=6) only[g0,g1,g5,hx,ia,ib,n1,n2,r1,r2,l0,l1,l2,p0,p1,p2,hz0,hG,qk_old,ruD,ruW,putL,Nat.reduceLeDiff,xF,ruU,entryE,Nat.reduceLT,Nat.reduceAdd,Nat.reduceMul,Nat.reduceEqDiff]
  refine genV_quiet (v:=.bool true) (rdF (.slice q0 aa.length q0c) aa.length++rdF (.slice q1 aa.length q1c) aa.length) (by simp only[ruU,entryE,Nat.reduceLT,Nat.reduceAdd,Nat.reduceMul,Nat.reduceEqDiff]) (by kernel_rfl) (by decide) (fun k hk=>?_) (fun G hG' hg=>?_) (by simp[Meets]) ?_
  ·rcases zC6.1 hk with hk|hk
   ·exact (hyr.ne k hk).1
   ·exact (hzr.ne k hk).1
  ·simp only[ruU,entryE,Nat.reduceLT,Nat.reduceAdd,Nat.reduceMul,Nat.reduceEqDiff]
   have h18:=same18_c G _ _ aa aa (hyr.of (Nat.le_of_eq hG'.symm) fun k hk=>hg k (List.mem_append_left _ hk)) (hzr.of (Nat.le_of_eq hG'.symm) fun k hk=>hg k (List.mem_append_right _ hk)) (by omega)
   rw[show decide (aa=aa)=true from decide_eq_true rfl]at h18
   exact h18
  simp (maxDischargeDepth:=6) only[g0,g1,g5,hx,hG,Bool.not_true,hw,ruD,ruW,putL,Nat.reduceLeDiff,xF,ruU,entryE,Nat.reduceLT,Nat.reduceAdd,Nat.reduceMul,Nat.reduceEqDiff]
  refine loopC_next ⟨j+1,by omega,rfl,by omega,?_,?_,?_⟩
  ·rw[k1]; simp only[g0,ruU,entryE,Nat.reduceLT,Nat.reduceAdd,Nat.reduceMul,Nat.reduceEqDiff]
  ·rw[k2]; simp only[g1,ruU,entryE,Nat.reduceLT,Nat.reduceAdd,Nat.reduceMul,Nat.reduceEqDiff]
  ·simp only[hw,ruU,entryE,Nat.reduceLT,Nat.reduceAdd,Nat.reduceMul,Nat.reduceEqDiff]
end Go.Proofs.YtnigelgcjfhghaaGreatDoor
namespace Go.Ax
variable {P : Program} {H : AHeap}
theorem wd_neStr {N:Nat} {E:Env} {ds:List Deferred} {ops:Array Oper} {anc:List Nat} {rest:List Oper} {d i:Nat} {fps:List Fp} {ty:TypeId} {pos:String} {after:Array Edge} {Q:AAct→AHeap→Prop} {t u:TypeId} {x y:Operand} {a b:ByteArray} (hx:opOk P N x=true) (hy:opOk P N y=true) (hp:opv E x=.string a) (hq:opv E y=.string b) (hd:d<N) (h0:∀ G:AHeap,aBin P G .neq t (.string a) (.string b)=none)
  (h:wkD P ops anc rest (i+1) (⟨i,[],[],H.next,H.next⟩::fps) (mkA N (upd E d (.bool (!(a.toList == b.toList)))) ds) H Q):wkD P ops anc (⟨some d,.binOp .neq t x y u,ty,pos,after,none⟩::rest) i fps (mkA N E ds) H Q:=by
 refine wd_same ?_ (fun G=>?_) rfl hd h
 ·funext K
  simp only[stepD,pureOp,aeval_opv hx,aeval_opv hy,hp,hq,binD,regBin,ite_self]
 ·exact aop_plain hx hy hp hq G (h0 G) rfl rfl (by simp[eqGuard,binOp,peval,Op.stringOp,pure,bind,Sem.bind]) rfl
end Go.Ax
namespace Go.Proofs.YtnigelgcjfhghaaGreatDoor
open Go.Ax
set_option maxRecDepth 100000
theorem neb_none {H:AHeap} {a b:ByteArray}:aBin Tryz.prog H .neq 9 (.string a) (.string b)=none:=by kernel_rfl
theorem names34_c (H:AHeap):CallS Tryz.prog 34 [] H (.ok (.slice (some ⟨H.next+0,0,some 0⟩) 28 28)) (ext H [⟨9,false,nmV⟩]):=by
 obtain⟨b,hbn⟩:∃ b,H.next=b:=⟨_,rfl⟩
 refine callS_fn mixed Tryz.func34 rfl Tryz.ntmps34 (zB5 rfl) fun wf hsc=>?_
 have hok:=wf.base
 have hbase:H.base≤b:=hbn▸hok
 simp (maxDischargeDepth:=6) only[hbn,hbase,Tryz.results34,ruW,putL,Nat.reduceLeDiff,xF,ruU,entryE,Nat.reduceLT,Nat.reduceAdd,Nat.reduceMul,Nat.reduceEqDiff]
 exact Ax.Fin.same
theorem same_bytes (a:List UInt8):(!((bs a).toList == (bs a).toList))=false:=by rw[eqb_bs]; simp
def sv (l:List (List UInt8)):List Value:=l.map fun a=>.string (bs a)
theorem sv_get (l:List (List UInt8)) (i:Nat):(sv l)[i]?=(l[i]?).map fun a=>.string (bs a):=zE6 ..
theorem nm_sv:nmV=sv ((List.range 28).map nameR):=by rw[sv,List.map_map]; rfl
theorem same32_c (H:AHeap) (v w:Value) (l:List (List UInt8)) (ha:RdAt H 1 v (sv l) l.length) (hb:RdAt H 1 w (sv l) l.length) (hl:l.length≤1000000):Pure 32 [v,w] H (.bool true):=by
 obtain⟨x,hx⟩:∃ x,H.next=x:=⟨_,rfl⟩
 obtain⟨a0,c0,e0⟩:=ha.sl
 obtain⟨a1,c1,e1⟩:=hb.sl
 refine callS_fn mixed Tryz.func32 rfl Tryz.ntmps32 (zB5 rfl) fun wf hsc=>?_
 have hz0:∀ i:Decidable (¬True),@decide (¬True) i=false:=fun i=>by simp
 rw[e0,e1]
 simp (maxDischargeDepth:=6) only[hz0,hx,ruW,putL,Nat.reduceLeDiff,xF,ruU,entryE,Nat.reduceLT,Nat.reduceAdd,Nat.reduceMul,Nat.reduceEqDiff]
 rw[←e0,←e1]
 refine w_env fun E hE=>?_
 have g0:E 0=v:=by rw[hE,e0]; simp only[ruU,entryE,Nat.reduceLT,Nat.reduceAdd,Nat.reduceMul,Nat.reduceEqDiff]
 have g1:E 1=w:=by rw[hE,e1]; simp only[ruU,entryE,Nat.reduceLT,Nat.reduceAdd,Nat.reduceMul,Nat.reduceEqDiff]
 have g5:E 5=.int .i64 ((0:Nat):Int):=by rw[hE]; (simp only[ruU,entryE,Nat.reduceLT,Nat.reduceAdd,Nat.reduceMul,Nat.reduceEqDiff]<;>rfl)
 clear hE
 refine w_loop (fun (j:Nat) E' H'=>H'=ext H []∧j≤l.length∧E' 0=v∧E' 1=w∧E' 5=.int .i64 (j:Int)) (fun j=>l.length-j) 0 ⟨rfl,zB3 _,g0,g1,g5⟩ ?_
 clear g0 g1 g5 E
 rintro j E H' ⟨hH,hj,g0,g1,g5⟩
 rw[hH]
 by_cases hje:j=l.length
 ·have hdj:decide ((j:Int)<(l.length:Int))=false:=decide_eq_false (by omega)
  rw[e0]at g0
  simp (maxDischargeDepth:=6) only[g0,g5,hdj,Tryz.results32,ruW,putL,Nat.reduceLeDiff,xF,ruU,entryE,Nat.reduceLT,Nat.reduceAdd,Nat.reduceMul,Nat.reduceEqDiff]
  exact Fin.pureE rfl rfl
 ·have hjl:j<l.length:=by omega
  have hdj:decide ((j:Int)<(l.length:Int))=true:=decide_eq_true (by omega)
  obtain⟨n,off,s,c,e,o,M,k1,n1,r1,m1⟩:=ha.one hjl
  obtain⟨n',off',s',c',e',o',M',k2,n2,r2,m2⟩:=hb.one hjl
  rw[sv_get,zA6 hjl,zA5]at m1 m2
  have i1:=ia_of (P:=Tryz.prog) (k:=.i64) (i:=j) (n:=n) (off:=off) (len:=l.length) (cap:=c) (s:=s) u54 s9 hjl
  have i2:=ia_of (P:=Tryz.prog) (k:=.i64) (i:=j) (n:=n') (off:=off') (len:=l.length) (cap:=c') (s:=s') u54 s9 hjl
  rw[zC2]at i1 i2
  rw[hx]at n1 n2
  have hw:IntKind.i64.wrap ((j:Int)+1)=((j+1:Nat):Int):=wrap_succ (by omega)
  rw[k1]at g0
  rw[k2]at g1
  simp (maxDischargeDepth:=6) only[g0,g1,g5,hx,hdj,ruW,putL,Nat.reduceLeDiff,xF,ruU,entryE,Nat.reduceLT,Nat.reduceAdd,Nat.reduceMul,Nat.reduceEqDiff]
  refine w_drawB [] [] (by kernel_rfl) (by kernel_rfl) rfl fun ops anc hA hG=>?_
  simp (maxDischargeDepth:=6) only[g0,g1,g5,hx,i1,i2,n1,n2,r1,r2,m1,m2,qk_old,ruD,ruW,putL,Nat.reduceLeDiff,xF,ruU,entryE,Nat.reduceLT,Nat.reduceAdd,Nat.reduceMul,Nat.reduceEqDiff]
  refine wd_neStr (a:=bs l[j]) (b:=bs l[j]) (by simp only[ruU,entryE,Nat.reduceLT,Nat.reduceAdd,Nat.reduceMul,Nat.reduceEqDiff]) (by simp only[ruU,entryE,Nat.reduceLT,Nat.reduceAdd,Nat.reduceMul,Nat.reduceEqDiff]) (by simp only[ruU,entryE,Nat.reduceLT,Nat.reduceAdd,Nat.reduceMul,Nat.reduceEqDiff]) (by simp only[ruU,entryE,Nat.reduceLT,Nat.reduceAdd,Nat.reduceMul,Nat.reduceEqDiff]) (by decide) (fun G=>neb_none) ?_
  rw[same_bytes]
  simp (maxDischargeDepth:=6) only[g0,g1,g5,hw,ruD,ruW,putL,Nat.reduceLeDiff,xF,ruU,entryE,Nat.reduceLT,Nat.reduceAdd,Nat.reduceMul,Nat.reduceEqDiff]
  refine loopC_next ⟨j+1,by omega,rfl,by omega,?_,?_,?_⟩
  ·rw[k1]; simp only[g0,ruU,entryE,Nat.reduceLT,Nat.reduceAdd,Nat.reduceMul,Nat.reduceEqDiff]
  ·rw[k2]; simp only[g1,ruU,entryE,Nat.reduceLT,Nat.reduceAdd,Nat.reduceMul,Nat.reduceEqDiff]
  ·simp only[hw,ruU,entryE,Nat.reduceLT,Nat.reduceAdd,Nat.reduceMul,Nat.reduceEqDiff]
set_option maxRecDepth 100000
theorem cv_str {G:AHeap} {n off cap:Nat} {s:Option Nat} {e:TypeId} {o:Bool} {M:List Value} {l:List UInt8} (h:rk G n=some ⟨e,o,M⟩) (hle:off+l.length≤M.length) (hM:(M.drop off).take l.length=bv l):aConvert Tryz.prog G 23 9 (.slice (some ⟨n,off,s⟩) l.length cap)=some (.string (bs l),G):=by
 have hf:=first_rk (sz:=1) (cnt:=l.length) (off:=off) (len:=l.length) (cap:=l.length) (s:=s) h (by simpa using hle)
 rw[zC2,hM]at hf
 have h5:Tryz.prog.underlying 5=some (.int .u8):=by kernel_rfl
 have hb:bytesOfCells (bv l)=some l:=bytes_bv l
 simp only[aConvert,u23,u9,h5,zA1,zA3,hf,hb,zA5]
theorem digits_c (H:AHeap) (n0:Nat) (h0:n0≤65535):Pure 57 [.int .i64 (n0:Int)] H (.string (bs (Go.Lib.itoa (n0:Int)))):=by
 rw[Go.Lib.itoa_nonneg]
 obtain⟨b,hb⟩:∃ b,H.next=b:=⟨_,rfl⟩
 refine callS_fn mixed Tryz.func57 rfl Tryz.ntmps57 (zB5 rfl) fun wf hsc=>?_
 have hok:=wf.base
 simp (maxDischargeDepth:=6) only[ruW,putL,Nat.reduceLeDiff,xF,ruU,entryE,Nat.reduceLT,Nat.reduceAdd,Nat.reduceMul,Nat.reduceEqDiff]
 refine w_env fun E hE=>?_
 have g0:E 0=.int .i64 (n0:Int):=by rw[hE]; simp only[ruU,entryE,Nat.reduceLT,Nat.reduceAdd,Nat.reduceMul,Nat.reduceEqDiff]
 have g3:E 3=.string (bs []):=by rw[hE]; (simp only[ruU,entryE,Nat.reduceLT,Nat.reduceAdd,Nat.reduceMul,Nat.reduceEqDiff]<;>rfl)
 clear hE
 refine w_loop (fun (z:Nat × List UInt8) E' X=>Mod [] H X∧z.1≤n0∧z.2.length≤n0-z.1∧Go.Lib.decDigits z.1++z.2=Go.Lib.decDigits n0∧E' 0=.int .i64 (z.1:Int)∧E' 3=.string (bs z.2)) (fun z=>z.1) (n0,[]) ⟨by rw[ext_nil]; exact Mod.refl,zA9 _,by simp,by simp,g0,g3⟩ ?_
 clear g0 g3 E
 rintro⟨n,s⟩ E X ⟨m,hn,hsl,hd,g0,g3⟩
 simp only at hn hsl hd g0 g3
 obtain⟨x,hx⟩:∃ x,X.next=x:=⟨_,rfl⟩
 have okX:=m.ok hok
 have hxb:X.base≤x:=hx▸okX
 rw[show X=ext X [] from rfl]
 by_cases h10:n<10
 ·have hd1:decide ((10:Int)≤(n:Int))=false:=decide_eq_false (by omega)
  have hw:IntKind.i64.wrap (48+(n:Int))=((48+n:Nat):Int):=(wrap_sm (by omega) (by omega)).trans (by omega)
  have hcv:∀ G:AHeap,aConvert Tryz.prog G 3 5 (.int .i64 ((48+n:Nat):Int))=some (.int .u8 ((UInt8.ofNat (48+n)).toNat:Int),G):=fun G=>by
   rw[cv_int (u:=.int .i64) (k:=.u8) (by kernel_rfl) (by kernel_rfl),byte_val (by omega) (by omega)]
   rfl
  obtain⟨c,hc⟩:∃ c,UInt8.ofNat (48+n)=c:=⟨_,rfl⟩
  rw[hc]at hcv
  have hcs:=cv_str (G:=ext X [⟨5,false,[.int .u8 (c.toNat:Int)]⟩]) (n:=x+0) (off:=0) (cap:=1) (s:=some 0) (l:=[c]) (rk_of (by rw[bk_at hx (by simp)]; rfl)) (by simp) rfl
  simp only[zB9]at hcs
  simp (maxDischargeDepth:=6) only[g0,g3,hx,hxb,hd1,hw,hcv,hcs,w_convert,ruW,putL,Nat.reduceLeDiff,xF,ruU,entryE,Nat.reduceLT,Nat.reduceAdd,Nat.reduceMul,Nat.reduceEqDiff]
  refine w_cat (a:=bs [c]) (b:=bs s) u9 rfl rfl (by simp only[ruU,entryE,Nat.reduceLT,Nat.reduceAdd,Nat.reduceMul,Nat.reduceEqDiff]) (by simp only[g3,ruU,entryE,Nat.reduceLT,Nat.reduceAdd,Nat.reduceMul,Nat.reduceEqDiff]) (by decide) (by rw[bs_size,bs_size,zB9]; omega) ?_
  rw[bytes_app]
  simp (maxDischargeDepth:=6) only[Tryz.results57,ruW,putL,Nat.reduceLeDiff,xF,ruU,entryE,Nat.reduceLT,Nat.reduceAdd,Nat.reduceMul,Nat.reduceEqDiff]
  have:c::s=Go.Lib.decDigits n0:=by rw[←hd,←hc,Go.Lib.decDigits_one h10]; rfl
  rw[this]
  exact Ax.Fin.mod rfl (m.trans (Mod.ext okX)) rfl
 ·have hd1:decide ((10:Int)≤(n:Int))=true:=decide_eq_true (by omega)
  have hrm:∀ G:AHeap,aBin Tryz.prog G .rem 3 (.int .i64 (n:Int)) (.int .i64 10)=some (.int .i64 ((n % 10:Nat):Int)):=fun G=>by
   rw[bin_rem (by decide)]
   congr 2
  have hqo:∀ G:AHeap,aBin Tryz.prog G .quo 3 (.int .i64 (n:Int)) (.int .i64 10)=some (.int .i64 ((n / 10:Nat):Int)):=fun G=>by
   rw[bin_quo (by decide),show (n:Int).tdiv 10=((n / 10:Nat):Int) from by rw[Int.tdiv_eq_ediv_of_nonneg (by omega)]; omega,show IntKind.i64.wrap ((n / 10:Nat):Int)=((n / 10:Nat):Int) from wrap_sm (by omega) (by omega)]
  have hw:IntKind.i64.wrap (48+((n % 10:Nat):Int))=((48+n % 10:Nat):Int):=(wrap_sm (by omega) (by omega)).trans (by omega)
  have hcv:∀ G:AHeap,aConvert Tryz.prog G 3 5 (.int .i64 ((48+n % 10:Nat):Int))=some (.int .u8 ((UInt8.ofNat (48+n % 10)).toNat:Int),G):=fun G=>by
   rw[cv_int (u:=.int .i64) (k:=.u8) (by kernel_rfl) (by kernel_rfl),byte_val (by omega) (by omega)]
   rfl
  have hstep:Go.Lib.decDigits (n / 10)++([UInt8.ofNat (48+n % 10)]++s)=Go.Lib.decDigits n0:=by
   rw[←hd,←List.append_assoc]
   congr 1
   conv=>rhs; rw[Go.Lib.decDigits,dif_neg h10]
  obtain⟨c,hc⟩:∃ c,UInt8.ofNat (48+n % 10)=c:=⟨_,rfl⟩
  rw[hc]at hcv hstep
  have hcs:=cv_str (G:=ext X [⟨5,false,[.int .u8 (c.toNat:Int)]⟩]) (n:=x+0) (off:=0) (cap:=1) (s:=some 0) (l:=[c]) (rk_of (by rw[bk_at hx (by simp)]; rfl)) (by simp) rfl
  simp only[zB9]at hcs
  simp (maxDischargeDepth:=6) only[g0,g3,hx,hxb,hd1,hrm,hw,hcv,hcs,w_convert,ruW,putL,Nat.reduceLeDiff,xF,ruU,entryE,Nat.reduceLT,Nat.reduceAdd,Nat.reduceMul,Nat.reduceEqDiff]
  refine w_cat (a:=bs [c]) (b:=bs s) u9 rfl rfl (by simp only[ruU,entryE,Nat.reduceLT,Nat.reduceAdd,Nat.reduceMul,Nat.reduceEqDiff]) (by simp only[g3,ruU,entryE,Nat.reduceLT,Nat.reduceAdd,Nat.reduceMul,Nat.reduceEqDiff]) (by decide) (by rw[bs_size,bs_size,zB9]; omega) ?_
  rw[bytes_app]
  simp (maxDischargeDepth:=6) only[g0,g3,hqo,ruW,putL,Nat.reduceLeDiff,xF,ruU,entryE,Nat.reduceLT,Nat.reduceAdd,Nat.reduceMul,Nat.reduceEqDiff]
  refine loopC_next ⟨(n / 10,[c]++s),by simp only; omega,m.trans (Mod.ext okX),by simp only; omega,by simp only[zB2,zB9]; omega,hstep,?_,?_⟩
  all_goals simp only[g0,g3,ruU,entryE,Nat.reduceLT,Nat.reduceAdd,Nat.reduceMul,Nat.reduceEqDiff]<;>rfl
set_option maxRecDepth 100000
theorem kinds_step {op:Nat} {args:List Int} {x:Int} (hop:op<28) (h:args.length+1≠(kindsR op []).length):(kindsR op (args++[x])).length=(kindsR op args).length:=by
 rcases kinds_three hop with⟨q,_,e⟩|⟨_,e⟩|⟨_,e⟩
 ·rw[e,e]
 ·rw[e]at h ⊢
  rw[e,guard_len0]at *
  have h1:args≠[]:=fun e=>by rw[e]at h; exact h rfl
  obtain⟨y,r,rfl⟩:=List.exists_cons_of_ne_nil h1
  rw[guard_len (by simp),guard_len (by simp)]
  rfl
 ·rw[e]at h ⊢
  rw[e]
  rw[env_len0 (by simp)]at h
  by_cases h1:args.length<2
  ·rw[env_len0 h1,env_len0 (by rw[zB2,zB9]; omega)]
  ·rw[env_len (args:=args) (by omega),env_len (args:=args++[x]) (by rw[zB2,zB9]; omega)]
   rw[zB8,zB8,List.getElem?_append_left (by omega)]
theorem find_zero:∀ (ls:List Ins) (t:List (Ins × Int)),((ls.map fun x=>(x,(0:Int)))++t).find? (fun r=>!decide (r.2=0))=t.find? fun r=>!decide (r.2=0)
 |[],_=>rfl
 |x::r,t=>by
  rw[zB4,List.cons_append,List.find?_cons]
  simp only[decide_true,Bool.not_true]
  exact find_zero r t
theorem bad_none {l:List UInt8} {ls:List Ins} (h:(ls.map fun x=>(x,(0:Int)))=decA 0 l):badA l=none∧insA l=ls:=by
 refine⟨?_,?_⟩
 ·rw[badA,←h]
  have:=find_zero ls []
  rw[zD8]at this
  exact this
 ·rw[insA,←h,List.map_map]
  exact List.map_id ls
theorem bad_some {l:List UInt8} {ls:List Ins} {i:Ins} {e:Int} (h:(ls.map fun x=>(x,(0:Int)))++[(i,e)]=decA 0 l) (he:e≠0):badA l=some (i,e):=by
 rw[badA,←h,find_zero,List.find?_cons]
 simp only[decide_eq_false he,Bool.not_false]
theorem sum_bytes {a b:Nat} (ha:a<256) (hb:b<256):IntKind.i64.wrap (256*(b:Int))=((256*b:Nat):Int)∧IntKind.i64.wrap ((a:Int)+((256*b:Nat):Int))=((a+256*b:Nat):Int) :=
 ⟨(wrap_sm (by omega) (by omega)).trans (by omega),(wrap_sm (by omega) (by omega)).trans (by omega)⟩
theorem decode25_c (H:AHeap) (bsv:Value) (l:List UInt8) (hl:l.length≤60000) (hb:RdAt H 1 bsv (bv l) l.length) (hok:H.base≤H.next):CallA Tryz.prog 25 [bsv] H (fun out X=>DecOut H.next l out X∧Mod [] H X):=by
 obtain⟨b,hbn⟩:∃ b,H.next=b:=⟨_,rfl⟩
 have hbase:H.base≤b:=hbn▸hok
 obtain⟨ba,bc,eb⟩:=hb.sl
 have hd:decide ((60000:Int)<(l.length:Int))=false:=decide_eq_false (by omega)
 refine callE_fn mixed Tryz.func25 rfl Tryz.ntmps25 (zB5 rfl) ?_
 rw[eb]
 simp (maxDischargeDepth:=6) only[hbn,hbase,hd,ruW,putL,Nat.reduceLeDiff,xF,ruU,entryE,Nat.reduceLT,Nat.reduceAdd,Nat.reduceMul,Nat.reduceEqDiff]
 rw[←eb]
 refine w_env fun E hE=>?_
 have g0:E 0=bsv:=by rw[hE,eb]; simp only[ruU,entryE,Nat.reduceLT,Nat.reduceAdd,Nat.reduceMul,Nat.reduceEqDiff]
 have g2:E 2=.slice none 0 0:=by rw[hE]; simp only[ruU,entryE,Nat.reduceLT,Nat.reduceAdd,Nat.reduceMul,Nat.reduceEqDiff]
 have g3:E 3=.pointer (some ⟨b+0,0,none⟩):=by rw[hE]; simp only[ruU,entryE,Nat.reduceLT,Nat.reduceAdd,Nat.reduceMul,Nat.reduceEqDiff]
 have g4:E 4=.slice none 0 0:=by rw[hE]; simp only[ruU,entryE,Nat.reduceLT,Nat.reduceAdd,Nat.reduceMul,Nat.reduceEqDiff]
 have g5:E 5=.int .i64 ((0:Nat):Int):=by rw[hE]; (simp only[ruU,entryE,Nat.reduceLT,Nat.reduceAdd,Nat.reduceMul,Nat.reduceEqDiff]<;>rfl)
 clear hE
 generalize hX0:ext H _=X0
 have m0:Mod [] H X0:=hX0▸Mod.ext hok
 have n0:b+1≤X0.next:=by rw[←hX0,ext_next,hbn]; simp
 have k0:bk X0 (b+0)=some ⟨26,false,[.int .i64 0,.int .i64 0]⟩:=by rw[←hX0,bk_at hbn (by simp)]; rfl
 clear hX0
 refine w_loop (fun (z:Nat × List Iv × Value) E' X=>Mod [] H X∧b+1≤X.next∧bk X (b+0)=some ⟨26,false,[.int .i64 0,.int .i64 0]⟩∧OwnI (b+1) X z.2.2 z.2.1∧z.1≤l.length∧z.2.1.length≤z.1∧((z.2.1.map (·.1)).map fun x=>(x,(0:Int)))++decA z.1 (l.drop z.1)=decA 0 l∧E' 0=bsv∧E' 2=.slice none 0 0∧E' 3=.pointer (some ⟨b+0,0,none⟩)∧E' 4=z.2.2∧E' 5=.int .i64 (z.1:Int)) (fun z=>l.length-z.1) (0,[],.slice none 0 0)
  ⟨m0,n0,k0,⟨VsAt.nil,fun x hx=>by simp at hx,fun n hn=>by simp[idsV]at hn,fun x hx=>by simp at hx,by simp⟩,zB3 _,zB3 _,rfl,g0,g2,g3,g4,g5⟩ ?_
 clear g0 g2 g3 g4 g5 m0 n0 k0 X0 E
 rintro⟨pos,ls,v⟩ E X ⟨m,nx,k,own,hpl,hll,htot,g0,g2,g3,g4,g5⟩
 simp only at own hpl hll htot g4 g5
 obtain⟨x,hx⟩:∃ x,X.next=x:=⟨_,rfl⟩
 have okX:=m.ok hok
 have hxb:X.base≤x:=hx▸okX
 rw[hx]at nx
 have hbx:b+0<x:=by omega
 obtain⟨va,ev⟩:=own.vs.len
 rw[show X=ext X [] from rfl]
 by_cases hpe:pos=l.length
 ·have hd:decide ((pos:Int)<(l.length:Int))=false:=decide_eq_false (by omega)
  rw[hpe,List.drop_length,decA_nil,zD8]at htot
  obtain⟨hbad,hins⟩:=bad_none htot
  rw[ev]at g4
  rw[eb]at g0
  simp (maxDischargeDepth:=6) only[g0,g2,g3,g4,g5,hd,hx,hxb,hbx,k,Tryz.results25,ruW,putL,Nat.reduceLeDiff,xF,ruU,entryE,Nat.reduceLT,Nat.reduceAdd,Nat.reduceMul,Nat.reduceEqDiff]
  refine⟨?_,m.step (W':=[b+0]) (Mod.uw (by simp)) hok fun n hn=>by simp only[zB0]at hn; exact .inr (by omega)⟩
  simp only[DecOut,hbad]
  rw[←ev]
  refine⟨v,ls,rfl,hins.symm,?_⟩
  rw[ext_nil]
  have hlo:=own.lo
  have halo:=own.alo
  exact⟨own.vs.of (by rw[uw_next]; exact zA9 _) fun n hn=>uw_get (by have:=hlo n hn; omega),fun z hz=>(own.av z hz).of (by rw[uw_next]; exact zA9 _) fun n hn=>uw_get (by have:=(halo z hz n hn).1; omega),fun n hn=>by have:=hlo n hn; omega,fun z hz n hn=>⟨by have:=(halo z hz n hn).1; omega,(halo z hz n hn).2⟩,own.nd⟩
 ·have hlt:pos<l.length:=by omega
  have hd:decide ((pos:Int)<(l.length:Int))=true:=decide_eq_true (by omega)
  obtain⟨n,off,s,c,e,o,M,e1,n1,r1,m1⟩:=(hb.mod0 m).one hlt
  rw[bv_get,zA6 hlt,zA5]at m1
  rw[hx]at n1
  have i0:=ia_of (P:=Tryz.prog) (k:=.i64) (i:=pos) (n:=n) (off:=off) (len:=l.length) (cap:=c) (s:=s) u23 s5 hlt
  rw[zC2]at i0
  obtain⟨op,hop⟩:∃ op,l[pos]=op:=⟨_,rfl⟩
  rw[hop]at m1
  have hcv:∀ G:AHeap,aConvert Tryz.prog G 5 3 (.int .u8 (op.toNat:Int))=some (.int .i64 (op.toNat:Int),G):=fun G=>by
   rw[cv_int (u:=.int .u8) (k:=.i64) (by kernel_rfl) (by kernel_rfl),wrap_nat (by have:=op.toNat_lt; omega)]
  have g0s:E 0=.slice (some ⟨n,off,s⟩) l.length c:=g0.trans e1
  obtain⟨d,hd2⟩:∃ d,decide ((28:Int)≤(op.toNat:Int))=d:=⟨_,rfl⟩
  simp (maxDischargeDepth:=6) only[g0s,g2,g3,g4,g5,hx,hxb,hd,i0,n1,r1,m1,hcv,qk_old,w_convert,ruW,putL,Nat.reduceLeDiff,xF,ruU,entryE,Nat.reduceLT,Nat.reduceAdd,Nat.reduceMul,Nat.reduceEqDiff]
  have hdr:l.drop pos=op::l.drop (pos+1):=by rw[zE5 hlt,hop]
  rw[hdr]at htot
  generalize hX1:ext X _=X1
  have mX1:Mod [] X X1:=hX1▸Mod.ext okX
  have nx1:X1.next=x+1:=by rw[←hX1,ext_next,hx]; rfl
  have kx1:bk X1 (x+0)=some ⟨59,false,[.int .i64 (pos:Int),.int .i64 (op.toNat:Int),.slice none 0 0]⟩:=by rw[←hX1,bk_at hx (by simp)]; rfl
  clear hX1
  have kf1:bk X1 (b+0)=some ⟨26,false,[.int .i64 0,.int .i64 0]⟩:=(mX1.bk (by omega) (by simp)).trans k
  have ok1:=mX1.ok okX
  have xb1:X1.base≤x+1:=nx1▸ok1
  have hxx:x+0<x+1:=by omega
  have hb1:b+0<x+1:=by omega
  rw[show X1=ext X1 [] from rfl]
  cases d with
  |true =>
   have hbad:28≤op.toNat:=by have:=of_decide_eq_true hd2; omega
   rw[decA_bad hbad]at htot
   have hsome:=bad_some htot (by decide)
   simp (maxDischargeDepth:=6) only[g0s,g2,g3,g4,g5,hd2,nx1,xb1,kx1,kf1,hxx,hb1,Tryz.results25,ruW,putL,Nat.reduceLeDiff,xF,ruU,entryE,Nat.reduceLT,Nat.reduceAdd,Nat.reduceMul,Nat.reduceEqDiff]
   refine⟨?_,(m.trans mX1).step (W':=[b+0]) (Mod.uw (by simp)) hok fun n hn=>by simp only[zB0]at hn; exact .inr (by omega)⟩
   simp only[DecOut,hsome]
  |false =>
   have hop28:op.toNat<28:=by have:=of_decide_eq_false hd2; omega
   simp (maxDischargeDepth:=6) only[g0s,g2,g3,g4,g5,hd2,nx1,xb1,kx1,kf1,hxx,hb1,ruW,putL,Nat.reduceLeDiff,xF,ruU,entryE,Nat.reduceLT,Nat.reduceAdd,Nat.reduceMul,Nat.reduceEqDiff]
   refine (fixed50_c (ext X1 []) op.toNat hop28).to ?_
   have hw1:IntKind.i64.wrap ((pos:Int)+1)=((pos+1:Nat):Int):=wrap_succ (by omega)
   simp (maxDischargeDepth:=6) only[g0s,g2,g3,g4,g5,hw1,ruW,putL,Nat.reduceLeDiff,xF,ruU,entryE,Nat.reduceLT,Nat.reduceAdd,Nat.reduceMul,Nat.reduceEqDiff]
   refine w_env fun E2 hE=>?_
   have h0:E2 0=bsv:=by rw[hE,e1]; simp only[g0s,ruU,entryE,Nat.reduceLT,Nat.reduceAdd,Nat.reduceMul,Nat.reduceEqDiff]
   have h2:E2 2=.slice none 0 0:=by rw[hE]; simp only[g2,ruU,entryE,Nat.reduceLT,Nat.reduceAdd,Nat.reduceMul,Nat.reduceEqDiff]
   have h3:E2 3=.pointer (some ⟨b+0,0,none⟩):=by rw[hE]; simp only[g3,ruU,entryE,Nat.reduceLT,Nat.reduceAdd,Nat.reduceMul,Nat.reduceEqDiff]
   have h4:E2 4=v:=by rw[hE]; simp only[g4,ruU,entryE,Nat.reduceLT,Nat.reduceAdd,Nat.reduceMul,Nat.reduceEqDiff]
   have h5:E2 5=.int .i64 (pos:Int):=by rw[hE]; simp only[g5,ruU,entryE,Nat.reduceLT,Nat.reduceAdd,Nat.reduceMul,Nat.reduceEqDiff]
   have h6:E2 6=.pointer (some ⟨x+0,0,none⟩):=by rw[hE]; simp only[ruU,entryE,Nat.reduceLT,Nat.reduceAdd,Nat.reduceMul,Nat.reduceEqDiff]
   have h7:E2 7=.int .i64 ((kindsR op.toNat []).length:Int):=by rw[hE]; (simp only[ruU,entryE,Nat.reduceLT,Nat.reduceAdd,Nat.reduceMul,Nat.reduceEqDiff]<;>rfl)
   have h8:E2 8=.int .i64 ((pos+1:Nat):Int):=by rw[hE]; (simp only[ruU,entryE,Nat.reduceLT,Nat.reduceAdd,Nat.reduceMul,Nat.reduceEqDiff]<;>rfl)
   clear hE g0s g0 g2 g3 g4 g5 E
   rw[ext_nil]
   refine blockC_meet (fun E' X2=>∃ args av pe,Mod [] X X2∧bk X2 (x+0)=some ⟨59,false,[.int .i64 (pos:Int),.int .i64 (op.toNat:Int),av]⟩∧x+1≤X2.next∧ArgA X2 av args∧(∀ k∈idsV av,x<k)∧rdA op.toNat [] (l.drop (pos+1))=(args,some (l.drop pe))∧pe=pos+1+2*args.length∧pe≤l.length∧E' 0=bsv∧E' 2=.slice none 0 0∧E' 3=.pointer (some ⟨b+0,0,none⟩)∧E' 4=v∧E' 6=.pointer (some ⟨x+0,0,none⟩)∧E' 8=.int .i64 (pe:Int)) ?_ ?_
   ·refine w_loop (fun (z:List Int × Value × Nat) E' X2=>Mod [] X X2∧bk X2 (x+0)=some ⟨59,false,[.int .i64 (pos:Int),.int .i64 (op.toNat:Int),z.2.1]⟩∧x+1≤X2.next∧ArgA X2 z.2.1 z.1∧(∀ k∈idsV z.2.1,x<k)∧(∀ y∈z.1,0≤y∧y≤65535)∧rdA op.toNat z.1 (l.drop z.2.2)=rdA op.toNat [] (l.drop (pos+1))∧z.2.2=pos+1+2*z.1.length∧z.2.2≤l.length∧E' 0=bsv∧E' 2=.slice none 0 0∧E' 3=.pointer (some ⟨b+0,0,none⟩)∧E' 4=v∧E' 5=.int .i64 (pos:Int)∧E' 6=.pointer (some ⟨x+0,0,none⟩)∧E' 7=.int .i64 ((kindsR op.toNat z.1).length:Int)∧E' 8=.int .i64 (z.2.2:Int)) (fun z=>l.length-z.2.2) ([],.slice none 0 0,pos+1)
     ⟨mX1,kx1,by omega,VsAt.nil,fun k hk=>by simp[idsV]at hk,fun y hy=>by simp at hy,rfl,rfl,by simp only; omega,h0,h2,h3,h4,h5,h6,h7,h8⟩ ?_
    clear h0 h2 h3 h4 h5 h6 h7 h8 E2 kx1 kf1 nx1 mX1 ok1 xb1 X1 hxx hb1
    rintro⟨args,av,pe⟩ E X2 ⟨m2,k2,nx2,ha,hai,hsm,hrd,hpe',hpos,g0,g2,g3,g4,g5,g6,g7,g8⟩
    simp only at k2 ha hai hsm hrd hpe' hpos g7 g8
    obtain⟨y,hy⟩:∃ y,X2.next=y:=⟨_,rfl⟩
    rw[hy]at nx2
    have okX2:=m2.ok okX
    have hyb:X2.base≤y:=hy▸okX2
    have hxy:x+0<y:=by omega
    have hby:b+0<y:=by omega
    have kf2:bk X2 (b+0)=some ⟨26,false,[.int .i64 0,.int .i64 0]⟩:=(m2.bk (by omega) (by simp)).trans k
    obtain⟨a1,ea⟩:=VsAt.len ha
    rw[show X2=ext X2 [] from rfl]
    rw[ea]at k2
    obtain⟨K,hK⟩:∃ K,(kindsR op.toNat args).length=K:=⟨_,rfl⟩
    rw[hK]at g7
    obtain⟨dk,hdk⟩:∃ dk,decide ((args.length:Int)<(K:Int))=dk:=⟨_,rfl⟩
    have hw2:IntKind.i64.wrap ((pe:Int)+2)=((pe+2:Nat):Int):=(wrap_sm (by omega) (by omega)).trans (by omega)
    cases dk with
    |false =>
     have hnk:¬args.length<(kindsR op.toNat args).length:=by have:=of_decide_eq_false hdk; omega
     rw[rdA_done hnk]at hrd
     simp (maxDischargeDepth:=6) only[g0,g2,g3,g4,g5,g6,g7,g8,hy,hyb,hxy,k2,hdk,qk_old,ruW,putL,Nat.reduceLeDiff,xF,ruU,entryE,Nat.reduceLT,Nat.reduceAdd,Nat.reduceMul,Nat.reduceEqDiff]
     refine joinR_normal ⟨args,av,pe,m2,by rw[ea]; exact k2,by rw[ext_nil,hy]; exact nx2,ha,hai,hrd.symm,by omega,hpos,?_,?_,?_,?_,?_,?_⟩<;>simp only[g0,g2,g3,g4,g6,g8,ruU,entryE,Nat.reduceLT,Nat.reduceAdd,Nat.reduceMul,Nat.reduceEqDiff]
    |true =>
     have hyk:args.length<(kindsR op.toNat args).length:=by have:=of_decide_eq_true hdk; omega
     obtain⟨de,hde⟩:∃ de,decide ((l.length:Int)<((pe+2:Nat):Int))=de:=⟨_,rfl⟩
     have g0e:E 0=.slice ba l.length bc:=g0.trans eb
     cases de with
     |true =>
      have hle:l.length<pe+2:=by have:=of_decide_eq_true hde; omega
      have hrl:(l.drop pe).length<2:=by rw[List.length_drop]; omega
      rw[rdA_end hyk hrl]at hrd
      rw[decA_end (by omega) hrd.symm]at htot
      have hsome:=bad_some htot (by decide)
      simp (maxDischargeDepth:=6) only[g0e,g2,g3,g4,g5,g6,g7,g8,hy,hyb,hxy,hby,kf2,k2,hdk,hw2,hde,qk_old,Tryz.results25,joinR_ret,ruW,putL,Nat.reduceLeDiff,xF,ruU,entryE,Nat.reduceLT,Nat.reduceAdd,Nat.reduceMul,Nat.reduceEqDiff]
      refine⟨?_,(m.trans m2).step (W':=[b+0]) (Mod.uw (by simp)) hok fun n hn=>by simp only[zB0]at hn; exact .inr (by omega)⟩
      simp only[DecOut,hsome]
     |false =>
      have hge:pe+2≤l.length:=by have:=of_decide_eq_false hde; omega
      obtain⟨n',off',s',c',e',o',M2,e1',n1',r1',mb2⟩:=(hb.mod0 (m.trans m2)).all (by omega)
      have hm1:=mb2 pe (by omega)
      have hm2:=mb2 (pe+1) (by omega)
      obtain⟨c0,hc0⟩:∃ c0,l[pe]?=some c0:=⟨_,zA6 (by omega)⟩
      obtain⟨c1,hc1⟩:∃ c1,l[pe+1]?=some c1:=⟨_,zA6 (by omega)⟩
      rw[bv_get,hc0,zA5]at hm1
      rw[bv_get,hc1,zA5]at hm2
      rw[hy]at n1'
      have i2:=ia_of (P:=Tryz.prog) (k:=.i64) (i:=pe) (n:=n') (off:=off') (len:=l.length) (cap:=c') (s:=s') u23 s5 (by omega)
      have i3:=ia_of (P:=Tryz.prog) (k:=.i64) (i:=pe+1) (n:=n') (off:=off') (len:=l.length) (cap:=c') (s:=s') u23 s5 (by omega)
      rw[zC2]at i2 i3
      have hw3:IntKind.i64.wrap ((pe:Int)+1)=((pe+1:Nat):Int):=wrap_succ (by omega)
      have hb0:=c0.toNat_lt
      have hb1:=c1.toNat_lt
      obtain⟨hs1,hs2⟩:=sum_bytes (a:=c0.toNat) (b:=c1.toNat) (by omega) (by omega)
      have g0s:E 0=.slice (some ⟨n',off',s'⟩) l.length c':=g0.trans e1'
      simp (maxDischargeDepth:=6) only[g0s,g2,g3,g4,g5,g6,g7,g8,hy,hyb,hxy,hby,kf2,k2,hdk,hw2,hde,qk_old,ruW,putL,Nat.reduceLeDiff,xF,ruU,entryE,Nat.reduceLT,Nat.reduceAdd,Nat.reduceMul,Nat.reduceEqDiff]
      refine w_drawB [(16,1),(16,2),(16,3),(16,4),(16,5),(16,6),(16,7),(16,8),(16,9),(16,10),(16,11),(16,12),(16,13),(16,14),(16,15),(18,0),(18,1),(18,2),(18,3),(18,4),(18,5),(18,6),(18,7),(18,8),(18,9),(18,10),(18,11),(18,12),(18,13),(18,14),(18,15),(18,16),(18,17)] [] (by kernel_rfl) (by kernel_rfl) rfl fun ops anc hA hG=>?_
      simp only[all2_cons]at hA
      simp (maxDischargeDepth:=6) only[g0s,g2,g3,g4,g5,g6,g7,g8,hy,hyb,hxy,k2,i2,n1',r1',hm1,qk_old,hA,ruD,ruW,putL,Nat.reduceLeDiff,xF,ruU,entryE,Nat.reduceLT,Nat.reduceAdd,Nat.reduceMul,Nat.reduceEqDiff]
      refine wd_cvint (u:=.int .u8) (k:=.i64) (k0:=.u8) (n:=(c0.toNat:Int)) (by simp only[ruU,entryE,Nat.reduceLT,Nat.reduceAdd,Nat.reduceMul,Nat.reduceEqDiff]) (by decide) (by kernel_rfl) (by kernel_rfl) (by simp only[ruU,entryE,Nat.reduceLT,Nat.reduceAdd,Nat.reduceMul,Nat.reduceEqDiff]) ?_
      rw[show IntKind.i64.wrap (c0.toNat:Int)=(c0.toNat:Int) from wrap_nat (by omega)]
      simp (maxDischargeDepth:=6) only[g0s,g2,g3,g4,g5,g6,g7,g8,hy,hyb,hxy,k2,i3,hw3,n1',r1',hm2,qk_old,hA,ruD,ruW,putL,Nat.reduceLeDiff,xF,ruU,entryE,Nat.reduceLT,Nat.reduceAdd,Nat.reduceMul,Nat.reduceEqDiff]
      refine wd_cvint (u:=.int .u8) (k:=.i64) (k0:=.u8) (n:=(c1.toNat:Int)) (by simp only[ruU,entryE,Nat.reduceLT,Nat.reduceAdd,Nat.reduceMul,Nat.reduceEqDiff]) (by decide) (by kernel_rfl) (by kernel_rfl) (by simp only[ruU,entryE,Nat.reduceLT,Nat.reduceAdd,Nat.reduceMul,Nat.reduceEqDiff]) ?_
      rw[show IntKind.i64.wrap (c1.toNat:Int)=(c1.toNat:Int) from wrap_nat (by omega)]
      simp (maxDischargeDepth:=6) only[g0s,g2,g3,g4,g5,g6,g7,g8,hy,hyb,hxy,k2,hs1,hs2,hA,ruD,ruW,putL,Nat.reduceLeDiff,xF,ruU,entryE,Nat.reduceLT,Nat.reduceAdd,Nat.reduceMul,Nat.reduceEqDiff]
      obtain⟨cv,hcv'⟩:∃ cv:Int,((c0.toNat+256*c1.toNat:Nat):Int)=cv:=⟨_,rfl⟩
      rw[hcv']
      generalize hY:ext X2 _=Y
      have mY:Mod [] X2 Y:=hY▸Mod.ext okX2
      have nY:Y.next=y+1:=by rw[←hY,ext_next,hy]; rfl
      have kY:bk Y (y+0)=some ⟨3,false,[.int .i64 cv]⟩:=by rw[←hY,bk_at hy (by simp)]; rfl
      have okY:=mY.ok okX2
      rw[ea]at ha hai
      have haY:ArgA Y (.slice a1 args.length args.length) args:=ha.of mY.next fun k hk=>mY.get k (ha.ne k hk).2 (by simp)
      refine wd_appV (v:=.slice a1 args.length args.length) (vs:=iv args) (cnt:=args.length) (sz:=1) (e:=3) (by1:=8) (n:=y+0) (off:=0) (cnt2:=1) (cap:=1) (s:=some 0) (z:=.int .i64 0) (ws:=[.int .i64 cv]) u35 s3 (by kernel_rfl) (by kernel_rfl) rfl (by kernel_rfl) (by simp only[ruU,entryE,Nat.reduceLT,Nat.reduceAdd,Nat.reduceMul,Nat.reduceEqDiff]) (by simp only[ruU,entryE,Nat.reduceLT,Nat.reduceAdd,Nat.reduceMul,Nat.reduceEqDiff]) (by decide) haY (rk_of kY) (by omega) (by simp) rfl rfl (by decide)
       (by simp only[small,zA4,zD7]; omega) (scbL_append (scbL_iv _ _) rfl) okY (by simp only[all2_cons,all2_nil,hA,true_or,and_true]) fun Z D vZ mZ hD nZ=>?_
      rw[nY]at nZ vZ ⊢
      have mXZ:Mod (idsV (.slice a1 args.length args.length)) X2 Z:=(mY.mono (by simp)).trans mZ
      have hxn:x+0∉idsV (.slice a1 args.length args.length):=fun h=>by have:=hai _ h; omega
      have kx:bk Z (x+0)=some ⟨59,false,[.int .i64 (pos:Int),.int .i64 (op.toNat:Int),.slice a1 args.length args.length]⟩:=(mXZ.bk (by omega) hxn).trans k2
      have hxz:x+0<y+1+1:=by omega
      have hyz:y+1<y+1+1:=by omega
      rw[show Z=ext Z [] from rfl]
      simp (maxDischargeDepth:=6) only[g0s,g2,g3,g4,g5,g6,g7,g8,nZ,kx,hxz,hyz,hw2,hA,ruD,ruW,putL,Nat.reduceLeDiff,xF,ruU,entryE,Nat.reduceLT,Nat.reduceAdd,Nat.reduceMul,Nat.reduceEqDiff]
      refine⟨⟨.inr (.inl (by omega)),.inr (.inl (by omega))⟩,?_⟩
      generalize hU:uw Z (x+0) 2 _=U
      have mU:Mod [x+0] Z U:=hU▸Mod.uw (by simp)
      have kU:bk U (x+0)=some ⟨59,false,[.int .i64 (pos:Int),.int .i64 (op.toNat:Int),.slice (some ⟨y+1,0,none⟩) (args.length+1) (args.length+1)]⟩:=by rw[←hU,bk_uw_eq,kx]; rfl
      have nU':U.next=y+1+1:=by rw[←hU,uw_next,nZ]
      have mXU:Mod [] X U:=by
       refine m2.step (W':=(x+0)::idsV (.slice a1 args.length args.length)) ((mXZ.mono (fun k hk=>zB6 _ hk)).trans (mU.mono (by simp))) okX fun k hk=>.inr ?_
       rcases zB1.1 hk with rfl|hk
       ·omega
       ·have:=hai k hk; omega
      have hdrp:l.drop pe=c0::c1::l.drop (pe+2):=by
       rw[zE5 (show pe<l.length by omega),zE5 (show pe+1<l.length by omega)]
       rw[zA6 (by omega)]at hc0 hc1
       rw[Option.some.inj hc0,Option.some.inj hc1]
      rw[hdrp,rdA_more hyk,hcv']at hrd
      have hiv:iv (args++[cv])=iv args++[.int .i64 cv]:=by simp[iv]
      have haU:ArgA U (.slice (some ⟨y+1,0,none⟩) (args.length+1) (args.length+1)) (args++[cv]):=by
       show VsAt U 3 1 _ (iv (args++[cv])) (args++[cv]).length
       rw[hiv,zB2,zB9]
       exact vZ.of mU.next fun k hk=>mU.get k (vZ.ne k hk).2 (by simp only[idsV,zB0]at hk ⊢; omega)
      have hsm':∀ j∈args++[cv],0≤j∧j≤65535:=fun j hj=>by
       rcases zC6.1 hj with hj|hj
       ·exact hsm j hj
       ·simp only[zB0]at hj; omega
      have hal:(args++[cv]).length=args.length+1:=by simp
      obtain⟨fx,hfx⟩:∃ fx,(kindsR op.toNat []).length=fx:=⟨_,rfl⟩
      obtain⟨df,hdf⟩:∃ df,decide (((args.length+1:Nat):Int)=(fx:Int))=df:=⟨_,rfl⟩
      have okU:=mXU.ok okX
      have ubU:U.base≤y+1+1:=nU'▸okU
      refine w_drawB [] [] (by kernel_rfl) (by kernel_rfl) rfl fun ops anc hA hG=>?_
      simp (maxDischargeDepth:=6) only[g0s,g2,g3,g4,g5,g6,g7,g8,nU',kU,hxz,qk_old,ruD,ruW,putL,Nat.reduceLeDiff,xF,ruU,entryE,Nat.reduceLT,Nat.reduceAdd,Nat.reduceMul,Nat.reduceEqDiff]
      refine genV_quiet (v:=.int .i64 (fx:Int)) [] (by simp only[ruU,entryE,Nat.reduceLT,Nat.reduceAdd,Nat.reduceMul,Nat.reduceEqDiff]) (by kernel_rfl) (by decide) (fun q hq=>by simp at hq) (fun G hG hg=>by simp only[ruU,entryE,Nat.reduceLT,Nat.reduceAdd,Nat.reduceMul,Nat.reduceEqDiff]; have:=fixed50_c G op.toNat hop28; rw[fixI,hfx]at this; exact this) (by simp[Meets]) ?_
      simp (maxDischargeDepth:=6) only[g0s,g2,g3,g4,g5,g6,g7,g8,nU',kU,hxz,hdf,qk_old,ruD,ruW,putL,Nat.reduceLeDiff,xF,ruU,entryE,Nat.reduceLT,Nat.reduceAdd,Nat.reduceMul,Nat.reduceEqDiff]
      cases df with
      |true =>
       have hfe:args.length+1=fx:=by have:=of_decide_eq_true hdf; omega
       simp (maxDischargeDepth:=6) only[g0s,g2,g3,g4,g5,g6,g7,g8,nU',kU,hxz,qk_old,ruW,putL,Nat.reduceLeDiff,xF,ruU,entryE,Nat.reduceLT,Nat.reduceAdd,Nat.reduceMul,Nat.reduceEqDiff]
       have hmany:=many_c (ext U []) op.toNat (.slice (some ⟨y+1,0,none⟩) (args.length+1) (args.length+1)) (args++[cv]) hop28 (VsAt.rd haU) (by rw[hal,hfx]; omega) (cntR_nn hsm')
       refine hmany.to ?_
       simp (maxDischargeDepth:=6) only[g0s,g2,g3,g4,g5,g6,g7,g8,ruW,putL,Nat.reduceLeDiff,xF,ruU,entryE,Nat.reduceLT,Nat.reduceAdd,Nat.reduceMul,Nat.reduceEqDiff]
       refine loopC_next ⟨(args++[cv],.slice (some ⟨y+1,0,none⟩) (args.length+1) (args.length+1),pe+2),by simp only; omega,mXU,kU,by rw[ext_nil]; omega,haU,fun k hk=>by simp only[idsV,zB0]at hk; omega,hsm',hrd,by simp only[hal]; omega,hge,?_,?_,?_,?_,?_,?_,?_,?_⟩
       ·rw[e1']; simp only[g0s,ruU,entryE,Nat.reduceLT,Nat.reduceAdd,Nat.reduceMul,Nat.reduceEqDiff]
       all_goals simp only[g2,g3,g4,g5,g6,g7,g8,ruU,entryE,Nat.reduceLT,Nat.reduceAdd,Nat.reduceMul,Nat.reduceEqDiff]
      |false =>
       have hfe:args.length+1≠(kindsR op.toNat []).length:=by have:=of_decide_eq_false hdf; rw[hfx]; omega
       have hks:=kinds_step (x:=cv) hop28 hfe
       rw[hK]at hks
       simp (maxDischargeDepth:=6) only[g0s,g2,g3,g4,g5,g6,g7,g8,ruW,putL,Nat.reduceLeDiff,xF,ruU,entryE,Nat.reduceLT,Nat.reduceAdd,Nat.reduceMul,Nat.reduceEqDiff]
       refine loopC_next ⟨(args++[cv],.slice (some ⟨y+1,0,none⟩) (args.length+1) (args.length+1),pe+2),by simp only; omega,mXU,kU,by rw[ext_nil]; omega,haU,fun k hk=>by simp only[idsV,zB0]at hk; omega,hsm',hrd,by simp only[hal]; omega,hge,?_,?_,?_,?_,?_,?_,?_,?_⟩
       ·rw[e1']; simp only[g0s,ruU,entryE,Nat.reduceLT,Nat.reduceAdd,Nat.reduceMul,Nat.reduceEqDiff]
       all_goals simp only[g2,g3,g4,g5,g6,g7,g8,hks,ruU,entryE,Nat.reduceLT,Nat.reduceAdd,Nat.reduceMul,Nat.reduceEqDiff]
   ·clear h0 h2 h3 h4 h5 h6 h7 h8 E2 kx1 kf1 nx1 mX1 ok1 xb1 X1 hxx hb1
    rintro E X2 ⟨args,av,pe,m2,k2,nx2,ha,hai,hrd,hpe',hpos,g0,g2,g3,g4,g6,g8⟩
    obtain⟨y,hy⟩:∃ y,X2.next=y:=⟨_,rfl⟩
    rw[hy]at nx2
    have okX2:=m2.ok okX
    have hyb:X2.base≤y:=hy▸okX2
    have hxy:x+0<y:=by omega
    obtain⟨aa,ea⟩:=VsAt.len ha
    rw[decA_ok (by omega) hrd,←hpe']at htot
    rw[ea]at k2
    have own2:=own.mod0 m2
    have hs1:=VsAt.sc ha
    rw[hy,ea]at hs1
    have mm2:=m.trans m2
    obtain⟨w,hw⟩:∃ w:Iv,w=(⟨(pos:Int),(op.toNat:Int),args⟩,.slice aa args.length args.length):=⟨_,rfl⟩
    have hwc:ivC w=[.int .i64 (pos:Int),.int .i64 (op.toNat:Int),.slice aa args.length args.length]:=by rw[hw]; rfl
    obtain⟨G,k1,vG,mG,nG⟩:=ins_app (X:=X2) (v:=v) (ls:=ls) (y:=w) (x:=y) own2.vs hy okX2 (by omega) (fun z hz=>VsAt.sc (own2.av z hz)) (by rw[hw,hy]; exact hs1) (by rw[hw]; rfl)
    rw[hwc]at k1
    have hvx:∀ n∈idsV v,b+1≤n∧n<x:=fun n hn=>⟨own.lo n hn,hx▸(own.vs.ne n hn).2⟩
    have mHG:Mod [] H G:=mm2.step mG hok fun n hn=>.inr (by have:=hvx n hn; omega)
    have kf2:bk X2 (b+0)=some ⟨26,false,[.int .i64 0,.int .i64 0]⟩:=(m2.bk (by omega) (by simp)).trans k
    have kfG:bk G (b+0)=some ⟨26,false,[.int .i64 0,.int .i64 0]⟩:=(mG.bk (by omega) (fun h=>by have:=hvx _ h; omega)).trans kf2
    have ownG:OwnI (b+1) G (.slice (some ⟨y+1,0,none⟩) (ls.length+1) (ls.length+1)) (ls++[w]):=own2.snoc mG vG (fun n hn=>by simp only[idsV,zB0]at hn; omega) (by omega) (by rw[hw,←ea]; exact ha) fun n hn=>by
     rw[hw]at hn
     have h1:=hai n (by rw[ea]; exact hn)
     refine⟨by omega,fun h=>by have:=hvx n h; omega,fun z hz h=>?_⟩
     have:=((own.av z hz).ne n h).2
     omega
    rw[show X2=ext X2 [] from rfl]
    simp (maxDischargeDepth:=6) only[g0,g2,g3,g4,g6,g8,hy,hyb,hxy,k2,hs1,k1,nG,qk_old,ruW,putL,Nat.reduceLeDiff,xF,ruU,entryE,Nat.reduceLT,Nat.reduceAdd,Nat.reduceMul,Nat.reduceEqDiff]
    refine loopC_next ⟨(pe,ls++[w],.slice (some ⟨y+1,0,none⟩) (ls.length+1) (ls.length+1)),by simp only; omega,mHG,by rw[ext_nil,nG]; omega,kfG,ownG,hpos,by simp only[zB2,zB9]; omega,?_,?_,?_,?_,?_,?_⟩
    ·simp only
     rw[←htot,List.map_append,List.map_append,List.append_assoc,hw]
     rfl
    all_goals simp only[g0,g2,g3,g4,g6,g8,ruU,entryE,Nat.reduceLT,Nat.reduceAdd,Nat.reduceMul,Nat.reduceEqDiff]
end Go.Proofs.YtnigelgcjfhghaaGreatDoor
namespace Go.Ax
variable {P : Program} {H : AHeap}
theorem wd_cat {N:Nat} {E:Env} {ds:List Deferred} {ops:Array Oper} {anc:List Nat} {rest:List Oper} {d i:Nat} {fps:List Fp} {ty:TypeId} {pos:String} {after:Array Edge} {Q:AAct→AHeap→Prop} {t u:TypeId} {x y:Operand} {a b:ByteArray} (hu:P.underlying t=some .string) (hx:opOk P N x=true) (hy:opOk P N y=true) (hp:opv E x=.string a) (hq:opv E y=.string b) (hd:d<N) (hs:a.size+b.size≤1000000000)
  (h:wkD P ops anc rest (i+1) (⟨i,[],[],H.next,H.next⟩::fps) (mkA N (upd E d (.string (a++b))) ds) H Q):wkD P ops anc (⟨some d,.binOp .add t x y u,ty,pos,after,none⟩::rest) i fps (mkA N E ds) H Q:=by
 have h0:∀ G:AHeap,aBin P G .add t (.string a) (.string b)=none:=fun G=>by
  have:aEq P G (99+1) t (.string a) (.string b)=none:=by
   unfold aEq
   rw[hu]
  show (aEq P G (99+1) t (.string a) (.string b)).bind _=none
  rw[this]
  rfl
 refine wd_same ?_ (fun G=>?_) rfl hd h
 ·funext K
  simp only[stepD,pureOp,aeval_opv hx,aeval_opv hy,hp,hq,binD,regBin,ite_self]
 ·exact aop_plain hx hy hp hq G (h0 G) rfl rfl (by
   have hs2:¬((9223372036854775807:Int)<(a.size:Int)+(b.size:Int)):=by omega
   simp[eqGuard,binOp,Op.stringOp,pure,bind,Sem.bind,hs2]
   rfl) rfl
end Go.Ax
namespace Go.Proofs.YtnigelgcjfhghaaGreatDoor
open Go.Ax
set_option maxRecDepth 100000
theorem text27_c (H:AHeap) (bsv:Value) (l:List UInt8) (hl:l.length≤60000) (hb:RdAt H 1 bsv (bv l) l.length) (hok:H.base≤H.next):CallA Tryz.prog 27 [bsv] H (fun out X=>out=.ok (textV l)∧Mod [] H X):=by
 obtain⟨b,hbn⟩:∃ b,H.next=b:=⟨_,rfl⟩
 have hbase:H.base≤b:=hbn▸hok
 obtain⟨ba,bc,eb⟩:=hb.sl
 refine callE_fn mixed Tryz.func27 rfl Tryz.ntmps27 (zB5 rfl) ?_
 simp (maxDischargeDepth:=6) only[hbn,hbase,ruW,putL,Nat.reduceLeDiff,xF,ruU,entryE,Nat.reduceLT,Nat.reduceAdd,Nat.reduceMul,Nat.reduceEqDiff]
 have mH:Mod [] H (ext H [⟨26,false,[.int .i64 0,.int .i64 0]⟩]):=Mod.ext hok
 refine (decode25_c (ext H [⟨26,false,[.int .i64 0,.int .i64 0]⟩]) bsv l hl (hb.mod0 mH) (mH.ok hok)).mono ?_
 rintro out X ⟨hout,mX⟩
 have kX:bk X (b+0)=some ⟨26,false,[.int .i64 0,.int .i64 0]⟩:=(mX.bk (by rw[ext_next,hbn]; simp) (by simp)).trans (by rw[bk_at hbn (by simp)]; rfl)
 rw[ext_next,hbn]at hout
 have mm:=mH.trans mX
 have nX:b+1≤X.next:=by have:=mX.next; rw[ext_next,hbn]at this; exact this
 obtain⟨x,hx⟩:∃ x,X.next=x:=⟨_,rfl⟩
 have okX:=mm.ok hok
 have hxb:X.base≤x:=hx▸okX
 rw[hx]at nX
 have y0:b+0<x:=by omega
 have y1:b+0<x+1:=by omega
 have x1:x+0<x+1:=by omega
 rw[show X=ext X [] from rfl]
 unfold DecOut at hout
 unfold textV
 split at hout
 ·rename_i r hbad
  subst hout
  try rw[hbad]
  obtain⟨⟨pos,op,args⟩,e⟩:=r
  have he:decide (¬e=0)=true:=by
   have:=List.find?_some (show (decA 0 l).find? _=some _ from hbad)
   simpa using this
  simp (maxDischargeDepth:=6) only[hx,hxb,y0,kX,he,ruW,putL,Nat.reduceLeDiff,xF,ruU,entryE,Nat.reduceLT,Nat.reduceAdd,Nat.reduceMul,Nat.reduceEqDiff]
  refine w_drawB [] [] (by kernel_rfl) (by kernel_rfl) rfl fun ops anc hA hG=>?_
  simp (maxDischargeDepth:=6) only[hx,hxb,y0,y1,x1,kX,qk_old,Tryz.results27,ruD,ruW,putL,Nat.reduceLeDiff,xF,ruU,entryE,Nat.reduceLT,Nat.reduceAdd,Nat.reduceMul,Nat.reduceEqDiff]
  have mU:∀ vs,Mod [] H (uw X (b+0) 0 vs):=fun vs=>mm.step (W':=[b+0]) (Mod.uw (by simp)) hok fun n hn=>.inr (by simp only[zB0]at hn; omega)
  exact⟨rfl,(mU _).trans (Mod.ext ((mU _).ok hok))⟩
 ·rename_i hbad
  obtain⟨v,ls,rfl,hls,own⟩:=hout
  obtain⟨va,ev⟩:=own.vs.len
  subst ev
  try rw[hbad]
  try simp only
  have hz:∀ i:Decidable (¬True),@decide (¬True) i=false:=fun i=>by simp
  simp (maxDischargeDepth:=6) only[hx,hxb,y0,kX,hz,ruW,putL,Nat.reduceLeDiff,xF,ruU,entryE,Nat.reduceLT,Nat.reduceAdd,Nat.reduceMul,Nat.reduceEqDiff]
  obtain⟨v,ev⟩:∃ v,v=Value.slice va ls.length ls.length:=⟨_,rfl⟩
  rw[←ev]at own
  refine w_env fun E hE=>?_
  have g3:E 3=.pointer (some ⟨b+0,0,none⟩):=by rw[hE]; simp only[ruU,entryE,Nat.reduceLT,Nat.reduceAdd,Nat.reduceMul,Nat.reduceEqDiff]
  have g4:E 4=v:=by rw[hE,ev]; simp only[ruU,entryE,Nat.reduceLT,Nat.reduceAdd,Nat.reduceMul,Nat.reduceEqDiff]
  have g6:E 6=.string (bs []):=by rw[hE]; (simp only[ruU,entryE,Nat.reduceLT,Nat.reduceAdd,Nat.reduceMul,Nat.reduceEqDiff]<;>rfl)
  have g7:E 7=.int .i64 ((0:Nat):Int):=by rw[hE]; (simp only[ruU,entryE,Nat.reduceLT,Nat.reduceAdd,Nat.reduceMul,Nat.reduceEqDiff]<;>rfl)
  clear hE
  generalize hX0:ext X _=X0
  have m0:Mod [] X X0:=hX0▸Mod.ext okX
  clear hX0
  have hIR:=own.rd
  obtain⟨henc,hall⟩:=enc_of_dec hbad
  have hall':∀ z∈ls,encA z.1.op z.1.args=0:=fun z hz=>hall _ (by rw[←hls]; exact List.mem_map_of_mem hz)
  have htl:=text_len hall
  have hbd:=enc_bound (insA l)
  rw[henc]at htl hbd
  have hll:ls.length≤l.length:=by have:=hbd.1; rw[←hls,zB7]at this; exact this
  obtain⟨T,hT⟩:∃ T,textL (insA l)=T:=⟨_,rfl⟩
  rw[hT]at htl ⊢
  refine w_loop (fun (z:Nat × List UInt8) E' X'=>Mod [] X X'∧z.2++textL ((ls.map (·.1)).drop z.1)=T∧z.1≤ls.length∧E' 3=.pointer (some ⟨b+0,0,none⟩)∧E' 4=v∧E' 6=.string (bs z.2)∧E' 7=.int .i64 (z.1:Int)) (fun z=>ls.length-z.1) (0,[])
   ⟨m0,by rw[hls]; exact hT,zB3 _,g3,g4,g6,g7⟩ ?_
  clear g3 g4 g6 g7 m0 X0 E
  rintro⟨i,txt⟩ E X1 ⟨m1,htx,hil,g3,g4,g6,g7⟩
  simp only at htx hil g6 g7
  obtain⟨y,hy⟩:∃ y,X1.next=y:=⟨_,rfl⟩
  have ok1:=m1.ok okX
  have hyb:X1.base≤y:=hy▸ok1
  have n1:=m1.next
  rw[hx,hy]at n1
  rw[show X1=ext X1 [] from rfl]
  by_cases hie:i=ls.length
  ·have hd:decide ((i:Int)<(ls.length:Int))=false:=decide_eq_false (by omega)
   have k1:bk X1 (b+0)=some ⟨26,false,[.int .i64 0,.int .i64 0]⟩:=(m1.bk (by omega) (by simp)).trans kX
   have hb1:b+0<y:=by omega
   rw[List.drop_of_length_le (by rw[zB7]; omega)]at htx
   rw[show textL []=[] from rfl,zD8]at htx
   rw[htx]at g6
   rw[ev]at g4
   simp (maxDischargeDepth:=6) only[g3,g4,g6,g7,hd,hy,hyb,hb1,k1,Tryz.results27,ruW,putL,Nat.reduceLeDiff,xF,ruU,entryE,Nat.reduceLT,Nat.reduceAdd,Nat.reduceMul,Nat.reduceEqDiff]
   exact⟨trivial,(mm.trans m1).step (W':=[b+0]) (Mod.uw (by simp)) hok fun n hn=>.inr (by simp only[zB0]at hn; omega)⟩
  ·have hil':i<ls.length:=by omega
   have hd:decide ((i:Int)<(ls.length:Int))=true:=decide_eq_true (by omega)
   obtain⟨z,hz'⟩:∃ z,ls[i]?=some z:=⟨_,zA6 hil'⟩
   have hzm:z∈ls:=zE2 hz'
   obtain⟨n,off,s,c,e,o,M,e1,n1',r1,ia,_,_,l1,l2⟩:=(hIR.mod0 m1).fld hz'
   obtain⟨q0,q1,q2,q3⟩:=encA_ok (hall' z hzm)
   have hal:z.1.args.length≤l.length:=hbd.2 z.1 (by rw[←hls]; exact List.mem_map_of_mem hzm)
   have hzr0:=hIR.av z hzm
   have hdr:(ls.map (·.1)).drop i=z.1::(ls.map (·.1)).drop (i+1):=by
    have hgx:(ls.map (·.1))[i]?=some z.1:=by rw[zE6,hz']; rfl
    rw[zE5 (by rw[zB7]; omega)]
    congr 1
    exact Option.some.inj ((zA6 _).symm.trans hgx)
   obtain⟨⟨pos,op,args⟩,av⟩:=z
   obtain⟨aa,ac,ea⟩:=hzr0.sl
   simp only at ea q0 q1 q2 q3 hal l1 hzr0 hdr
   obtain⟨k,rfl⟩:∃ k:Nat,op=k:=⟨op.toNat,by omega⟩
   have hk:k<28:=by omega
   rw[hy]at n1'
   rw[e1]at ia
   have g4s:E 4=.slice (some ⟨n,off,s⟩) ls.length c:=g4.trans e1
   obtain⟨R,hR⟩:∃ R,textL ((ls.map (·.1)).drop (i+1))=R:=⟨_,rfl⟩
   obtain⟨f,hf⟩:∃ f:Int→List UInt8,(fun n=>32::Go.Lib.itoa n)=f:=⟨_,rfl⟩
   rw[hdr,textL,zC9]at htx
   have htx2:(txt++nameR k)++(args.flatMap f++(10::R))=T:=by
    rw[←htx,←hR,←hf,textI]
    simp[textL]
   clear htx
   have hlT:=congrArg List.length htx2
   simp only[zB2,zA7]at hlT
   simp (maxDischargeDepth:=6) only[g3,g4s,g6,g7,hd,ruW,putL,Nat.reduceLeDiff,xF,ruU,entryE,Nat.reduceLT,Nat.reduceAdd,Nat.reduceMul,Nat.reduceEqDiff]
   refine w_drawB [(7,1),(8,1),(8,7),(9,1),(10,1),(8,6)] [] (by kernel_rfl) (by kernel_rfl) rfl fun ops anc hA hG=>?_
   simp only[all2_cons]at hA
   simp (maxDischargeDepth:=6) only[g3,g4s,g6,g7,hy,hyb,hA,ruD,ruW,putL,Nat.reduceLeDiff,xF,ruU,entryE,Nat.reduceLT,Nat.reduceAdd,Nat.reduceMul,Nat.reduceEqDiff]
   refine genV_ext (v:=.slice (some ⟨y+0,0,some 0⟩) 28 28) (M:=[⟨9,false,nmV⟩]) [] (by simp only[ruU,entryE,Nat.reduceLT,Nat.reduceAdd,Nat.reduceMul,Nat.reduceEqDiff]) (by kernel_rfl) (by decide) (by simp) (fun G hG' _=>?_) (by simp[Meets]) ?_
   ·simp only[ruU,entryE,Nat.reduceLT,Nat.reduceAdd,Nat.reduceMul,Nat.reduceEqDiff]
    have:=names34_c G
    rw[hG',ext_nil,hy]at this
    exact this
   obtain⟨Y,hY⟩:∃ Y,ext X1 [⟨9,false,nmV⟩]=Y:=⟨_,rfl⟩
   have mY:Mod [] X1 Y:=hY▸Mod.ext ok1
   have nY:Y.next=y+1:=by rw[←hY,ext_next,hy]; rfl
   have kY:bk Y (y+0)=some ⟨9,false,nmV⟩:=by rw[←hY,bk_at hy (by simp)]; rfl
   have rY:=rk_of kY
   have r1Y:rk Y n=some ⟨e,o,M⟩:=(rk_get (mY.get n (by omega) (by simp))).trans r1
   have iN:aIndexAddr Tryz.prog 54 (.slice (some ⟨y+0,0,some 0⟩) 28 28) (.int .i64 (k:Int))=some (.pointer (some ⟨y+0,0+k,none⟩)):=by
    have:=ia_of (P:=Tryz.prog) (k:=.i64) (i:=k) (n:=y+0) (off:=0) (len:=28) (cap:=28) (s:=some 0) u54 s9 hk
    rw[zC2]at this
    exact this
   have hnm:nmV[0+k]?=some (.string (bs (nameR k))):=by rw[zC3]; exact nm_get hk
   have hyy:y+0<y+1:=by omega
   rw[ext_nil,hY]
   rw[show Y=ext Y [] from rfl]
   simp (maxDischargeDepth:=6) only[g3,g4s,g6,g7,hy,hyb,nY,hyy,ia,n1',r1Y,l1,iN,rY,hnm,qk_old,hA,ruD,ruW,putL,Nat.reduceLeDiff,xF,ruU,entryE,Nat.reduceLT,Nat.reduceAdd,Nat.reduceMul,Nat.reduceEqDiff]
   refine⟨fun _=>.inr fun q hq=>.inl (by simp only[idsV,zB0]at hq; omega),?_⟩
   refine wd_cat (a:=bs txt) (b:=bs (nameR k)) u9 (by simp only[ruU,entryE,Nat.reduceLT,Nat.reduceAdd,Nat.reduceMul,Nat.reduceEqDiff]) (by simp only[ruU,entryE,Nat.reduceLT,Nat.reduceAdd,Nat.reduceMul,Nat.reduceEqDiff]) (by simp only[g6,ruU,entryE,Nat.reduceLT,Nat.reduceAdd,Nat.reduceMul,Nat.reduceEqDiff]) (by simp only[ruU,entryE,Nat.reduceLT,Nat.reduceAdd,Nat.reduceMul,Nat.reduceEqDiff]) (by decide) (by rw[bs_size,bs_size]; omega) ?_
   rw[bytes_app]
   simp (maxDischargeDepth:=6) only[g3,g4s,g6,g7,hA,ruD,ruW,putL,Nat.reduceLeDiff,xF,ruU,entryE,Nat.reduceLT,Nat.reduceAdd,Nat.reduceMul,Nat.reduceEqDiff]
   refine w_env fun E2 hE=>?_
   have h3:E2 3=.pointer (some ⟨b+0,0,none⟩):=by rw[hE]; simp only[g3,ruU,entryE,Nat.reduceLT,Nat.reduceAdd,Nat.reduceMul,Nat.reduceEqDiff]
   have h4:E2 4=v:=by rw[hE,e1]; simp only[g4s,ruU,entryE,Nat.reduceLT,Nat.reduceAdd,Nat.reduceMul,Nat.reduceEqDiff]
   have h6:E2 6=.string (bs (txt++nameR k)):=by rw[hE]; simp only[ruU,entryE,Nat.reduceLT,Nat.reduceAdd,Nat.reduceMul,Nat.reduceEqDiff]
   have h7:E2 7=.int .i64 (i:Int):=by rw[hE]; simp only[g7,ruU,entryE,Nat.reduceLT,Nat.reduceAdd,Nat.reduceMul,Nat.reduceEqDiff]
   have h8:E2 8=.int .i64 ((0:Nat):Int):=by rw[hE]; (simp only[ruU,entryE,Nat.reduceLT,Nat.reduceAdd,Nat.reduceMul,Nat.reduceEqDiff]<;>rfl)
   clear hE g3 g4 g4s g6 g7 E
   have mXY:=m1.trans mY
   refine w_loop (fun (q:Nat × List UInt8) E' X'=>X'=ext Y []∧q.2++((args.drop q.1).flatMap f++(10::R))=T∧q.1≤args.length∧E' 3=.pointer (some ⟨b+0,0,none⟩)∧E' 4=v∧E' 6=.string (bs q.2)∧E' 7=.int .i64 (i:Int)∧E' 8=.int .i64 (q.1:Int)) (fun q=>args.length-q.1) (0,txt++nameR k)
    ⟨rfl,htx2,zB3 _,h3,h4,h6,h7,h8⟩ ?_
   clear h3 h4 h6 h7 h8 E2
   rintro⟨j,tx2⟩ E X2 ⟨hX2,ht2,hj,g3,g4,g6,g7,g8⟩
   simp only at ht2 hj g6 g8
   rw[hX2]
   obtain⟨n',off',s',c',e',o',M',e1',n1,r1',ia',_,_,_,l2⟩:=(hIR.mod0 mXY).fld hz'
   have hyr2:=(hIR.mod0 mXY).av _ hzm
   simp only at hyr2 l2
   rw[ea]at hyr2 l2
   rw[nY]at n1
   rw[e1']at ia'
   have g4s:E 4=.slice (some ⟨n',off',s'⟩) ls.length c':=g4.trans e1'
   by_cases hje:j=args.length
   ·have hdj:decide ((j:Int)<(args.length:Int))=false:=decide_eq_false (by omega)
    rw[hje,List.drop_length,List.flatMap_nil,zD4]at ht2
    have hlt2:=congrArg List.length ht2
    simp only[zB2,zA7]at hlt2
    have hw:IntKind.i64.wrap ((i:Int)+1)=((i+1:Nat):Int):=wrap_succ (by omega)
    simp (maxDischargeDepth:=6) only[g3,g4s,g6,g7,g8,nY,ia',n1,r1',l2,hdj,qk_old,ruW,putL,Nat.reduceLeDiff,xF,ruU,entryE,Nat.reduceLT,Nat.reduceAdd,Nat.reduceMul,Nat.reduceEqDiff]
    refine w_cat (a:=bs tx2) (b:=bs [10]) u9 rfl rfl (by simp only[g6,ruU,entryE,Nat.reduceLT,Nat.reduceAdd,Nat.reduceMul,Nat.reduceEqDiff]) rfl (by decide) (by rw[bs_size,bs_size,zB9]; omega) ?_
    rw[bytes_app]
    simp (maxDischargeDepth:=6) only[g3,g4s,g6,g7,g8,hw,ruW,putL,Nat.reduceLeDiff,xF,ruU,entryE,Nat.reduceLT,Nat.reduceAdd,Nat.reduceMul,Nat.reduceEqDiff]
    refine loopC_next ⟨(i+1,tx2++[10]),by simp only; omega,mXY,?_,by simp only; omega,?_,?_,?_,?_⟩
    ·simp only
     rw[hR,←ht2,List.append_assoc]
     rfl
    ·simp only[g3,ruU,entryE,Nat.reduceLT,Nat.reduceAdd,Nat.reduceMul,Nat.reduceEqDiff]
    ·rw[e1']; simp only[g4s,ruU,entryE,Nat.reduceLT,Nat.reduceAdd,Nat.reduceMul,Nat.reduceEqDiff]
    all_goals simp only[g7,hw,ruU,entryE,Nat.reduceLT,Nat.reduceAdd,Nat.reduceMul,Nat.reduceEqDiff]
   ·have hjl:j<args.length:=by omega
    have hdj:decide ((j:Int)<(args.length:Int))=true:=decide_eq_true (by omega)
    obtain⟨n3,off3,s3',c3,e3,o3,M3,e4,n4,r4,m4⟩:=hyr2.one hjl
    have e5:=e4
    cases e5
    rw[iv_get,zA6 hjl,zA5]at m4
    have i3:=ia_of (P:=Tryz.prog) (k:=.i64) (i:=j) (n:=n3) (off:=off3) (len:=args.length) (cap:=ac) (s:=s3') u35 s3 hjl
    rw[zC2]at i3
    rw[nY]at n4
    obtain⟨ya,hya⟩:∃ ya,args[j]=ya:=⟨_,rfl⟩
    rw[hya]at m4
    obtain⟨y0',y1'⟩:=q3 ya (hya▸List.getElem_mem hjl)
    obtain⟨p,rfl⟩:∃ p:Nat,ya=p:=⟨ya.toNat,by omega⟩
    have hw:IntKind.i64.wrap ((j:Int)+1)=((j+1:Nat):Int):=wrap_succ (by omega)
    have hda:args.drop j=(p:Int)::args.drop (j+1):=by rw[zE5 hjl,hya]
    have hfp:f (p:Int)=32::Go.Lib.itoa (p:Int):=by rw[←hf]
    rw[hda,zC9,hfp]at ht2
    have hlt2:=congrArg List.length ht2
    simp only[zB2,zA7]at hlt2
    simp (maxDischargeDepth:=6) only[g3,g4s,g6,g7,g8,nY,ia',n1,r1',l2,hdj,qk_old,ruW,putL,Nat.reduceLeDiff,xF,ruU,entryE,Nat.reduceLT,Nat.reduceAdd,Nat.reduceMul,Nat.reduceEqDiff]
    refine w_cat (a:=bs tx2) (b:=bs [32]) u9 rfl rfl (by simp only[g6,ruU,entryE,Nat.reduceLT,Nat.reduceAdd,Nat.reduceMul,Nat.reduceEqDiff]) rfl (by decide) (by rw[bs_size,bs_size,zB9]; omega) ?_
    rw[bytes_app]
    simp (maxDischargeDepth:=6) only[g3,g4s,g6,g7,g8,nY,ia',n1,r1',l2,i3,n4,r4,m4,qk_old,ruW,putL,Nat.reduceLeDiff,xF,ruU,entryE,Nat.reduceLT,Nat.reduceAdd,Nat.reduceMul,Nat.reduceEqDiff]
    refine (digits_c (ext Y []) p (by omega)).to ?_
    simp (maxDischargeDepth:=6) only[g3,g4s,g6,g7,g8,ruW,putL,Nat.reduceLeDiff,xF,ruU,entryE,Nat.reduceLT,Nat.reduceAdd,Nat.reduceMul,Nat.reduceEqDiff]
    refine w_cat (a:=bs (tx2++[32])) (b:=bs (Go.Lib.itoa (p:Int))) u9 rfl rfl (by simp only[ruU,entryE,Nat.reduceLT,Nat.reduceAdd,Nat.reduceMul,Nat.reduceEqDiff]) (by simp only[ruU,entryE,Nat.reduceLT,Nat.reduceAdd,Nat.reduceMul,Nat.reduceEqDiff]) (by decide) (by rw[bs_size,bs_size,zB2,zB9]; omega) ?_
    rw[bytes_app]
    simp (maxDischargeDepth:=6) only[g3,g4s,g6,g7,g8,hw,ruW,putL,Nat.reduceLeDiff,xF,ruU,entryE,Nat.reduceLT,Nat.reduceAdd,Nat.reduceMul,Nat.reduceEqDiff]
    refine loopC_next ⟨(j+1,tx2++[32]++Go.Lib.itoa (p:Int)),by simp only; omega,rfl,?_,by simp only; omega,?_,?_,?_,?_,?_⟩
    ·simp only
     rw[←ht2]
     simp
    ·simp only[g3,ruU,entryE,Nat.reduceLT,Nat.reduceAdd,Nat.reduceMul,Nat.reduceEqDiff]
    ·rw[e1']; simp only[g4s,ruU,entryE,Nat.reduceLT,Nat.reduceAdd,Nat.reduceMul,Nat.reduceEqDiff]
    all_goals simp only[g7,g8,hw,ruU,entryE,Nat.reduceLT,Nat.reduceAdd,Nat.reduceMul,Nat.reduceEqDiff]
set_option maxRecDepth 100000
theorem putL_one:∀ {l:List Value} {off:Nat} {vs:List Value},l.all one=true→vs.all one=true→(putL l off vs).all one=true
 |[],_,_,_,_=>rfl
 |_::_,0,[],h,_=>h
 |x::r,0,y::ys,h,h2=>by
  simp only[putL,List.all_cons,zA4]at h h2 ⊢
  exact⟨h2.1,putL_one h.2 h2.2⟩
 |x::r,k+1,vs,h,h2=>by
  simp only[putL,List.all_cons,zA4]at h ⊢
  exact⟨h.1,putL_one h.2 h2⟩
theorem vs_put {X:AHeap} {e:TypeId} {sz cnt n off:Nat} {vs ws:List Value} (h:VsAt X e sz (.slice (some ⟨n,0,none⟩) cnt cnt) vs cnt) (hc:0<cnt) (hle:off+ws.length≤vs.length) (ho:ws.all one=true):VsAt (uw X n off ws) e sz (.slice (some ⟨n,0,none⟩) cnt cnt) (putL vs off ws) cnt:=by
 obtain⟨h1,h2,⟨h0,_⟩|⟨_,m,hm,hb,hlt⟩⟩:=h
 ·omega
 ·simp only[Value.slice.injEq,Option.some.injEq,Addr.mk.injEq,and_true,true_and]at hm
  subst hm
  refine⟨by rw[putL_length]; exact h1,putL_one h2 ho,.inr ⟨hc,n,rfl,bk_uw hb hle,by rw[uw_next]; exact hlt⟩⟩
theorem vs_bk {X:AHeap} {e:TypeId} {sz cnt:Nat} {v:Value} {vs:List Value} (h:VsAt X e sz v vs cnt) (hc:0<cnt):∃ n,v=.slice (some ⟨n,0,none⟩) cnt cnt∧bk X n=some ⟨e,true,vs⟩∧n<X.next∧vs.length=cnt*sz:=by
 obtain⟨h1,h2,⟨h0,_⟩|⟨_,m,hm,hb,hlt⟩⟩:=h
 ·omega
 ·exact⟨m,hm,hb,hlt,h1⟩
theorem flat_apart {ls:List Iv} {i k:Nat} {y z:Iv} (hnd:(ls.flatMap fun x=>idsV x.2).Nodup) (hi:ls[i]?=some y) (hk:ls[k]?=some z) (hik:i<k):∀ n∈idsV y.2,n∉idsV z.2:=fun n hn hn'=>by
 have hl:=(List.getElem?_eq_some_iff.1 hk).1
 have h1:ls=ls.take (i+1)++ls.drop (i+1):=(List.take_append_drop _ _).symm
 rw[h1,List.flatMap_append,List.nodup_append]at hnd
 refine hnd.2.2 n (List.mem_flatMap.2 ⟨y,zE2 (i:=i) (by rw[List.getElem?_take_of_lt (by omega)]; exact hi),hn⟩) n (List.mem_flatMap.2 ⟨z,zE2 (i:=k-(i+1)) (by rw[List.getElem?_drop,show i+1+(k-(i+1))=k by omega]; exact hk),hn'⟩) rfl
theorem over_c (X:AHeap) (b:Nat) (v:Value) (ls:List Iv) (own:OwnI b X v ls) (hl:ls.length≤1000000) (hn:∀ x∈ls,x.1.args.length≤1000000) (hok:X.base≤X.next):CallA Tryz.prog 29 [v] X (fun out G=>out=.ok (.tuple #[])∧Mod (idsV v++ls.flatMap fun x=>idsV x.2) X G):=by
 obtain⟨x,hx⟩:∃ x,X.next=x:=⟨_,rfl⟩
 obtain⟨va,ev⟩:=own.vs.len
 obtain⟨W,hW⟩:∃ W,(idsV v++ls.flatMap fun x=>idsV x.2)=W:=⟨_,rfl⟩
 rw[hW]
 refine callE_fn mixed Tryz.func29 rfl Tryz.ntmps29 (zB5 rfl) ?_
 simp (maxDischargeDepth:=6) only[ruW,putL,Nat.reduceLeDiff,xF,ruU,entryE,Nat.reduceLT,Nat.reduceAdd,Nat.reduceMul,Nat.reduceEqDiff]
 refine w_env fun E hE=>?_
 have g0:E 0=v:=by rw[hE]; simp only[ruU,entryE,Nat.reduceLT,Nat.reduceAdd,Nat.reduceMul,Nat.reduceEqDiff]
 have g2:E 2=.int .i64 ((0:Nat):Int):=by rw[hE]; (simp only[ruU,entryE,Nat.reduceLT,Nat.reduceAdd,Nat.reduceMul,Nat.reduceEqDiff]<;>rfl)
 clear hE
 refine w_loop (fun (z:Nat × List Value) E' X'=>Mod W X X'∧VsAt X' 59 3 v z.2 ls.length∧(∀ t,z.1*3≤t→z.2[t]?=(insC ls)[t]?)∧(∀ k y,z.1≤k→ls[k]?=some y→ArgA X' y.2 y.1.args)∧z.1≤ls.length∧E' 0=v∧E' 2=.int .i64 (z.1:Int)) (fun z=>ls.length-z.1) (0,insC ls)
  ⟨by rw[ext_nil]; exact Mod.refl,by rw[ext_nil]; exact own.vs,fun t _=>rfl,fun k y _ hy=>by rw[ext_nil]; exact own.av y (zE2 hy),zB3 _,g0,g2⟩ ?_
 clear g0 g2 E
 rintro⟨i,C⟩ E X1 ⟨m1,hC,hCt,hav,hil,g0,g2⟩
 simp only at hC hCt hav hil g2
 obtain⟨y,hy⟩:∃ y,X1.next=y:=⟨_,rfl⟩
 have ok1:=m1.ok hok
 have hyb:X1.base≤y:=hy▸ok1
 rw[show X1=ext X1 [] from rfl]
 by_cases hie:i=ls.length
 ·have hd:decide ((i:Int)<(ls.length:Int))=false:=decide_eq_false (by omega)
  rw[ev]at g0
  simp (maxDischargeDepth:=6) only[g0,g2,hd,Tryz.results29,ruW,putL,Nat.reduceLeDiff,xF,ruU,entryE,Nat.reduceLT,Nat.reduceAdd,Nat.reduceMul,Nat.reduceEqDiff]
  exact⟨trivial,m1⟩
 ·have hil':i<ls.length:=by omega
  have hd:decide ((i:Int)<(ls.length:Int))=true:=decide_eq_true (by omega)
  obtain⟨w,hw⟩:∃ w,ls[i]?=some w:=⟨_,zA6 hil'⟩
  have hwm:w∈ls:=zE2 hw
  have hwn:=hn w hwm
  have hwa:=hav i w (zA9 _) hw
  have hCi:C[i*3+2]?=some w.2:=by
   rw[hCt _ (by omega)]
   have h5:=insC_at hw
   have:((insC ls).drop (i*3)).take 3=ivC w:=h5
   have h6:(((insC ls).drop (i*3)).take 3)[2]?=(insC ls)[i*3+2]?:=by rw[List.getElem?_take_of_lt (by omega),List.getElem?_drop]
   rw[←h6,this]
   rfl
  obtain⟨nv,env,hbv,hnv,hCl⟩:=vs_bk hC (by omega)
  have hal:=own.alo w hwm
  have hap:=fun k z (h1:i<k) (h2:ls[k]?=some z)=>flat_apart own.nd hw h2 h1
  have hWm:∀ n∈idsV w.2,n∈W:=fun n hn=>by rw[←hW]; exact List.mem_append_right _ (List.mem_flatMap.2 ⟨w,hwm,hn⟩)
  have hWv:nv∈W:=by rw[←hW]; exact List.mem_append_left _ (by rw[env]; simp[idsV])
  obtain⟨⟨pos,op,args⟩,av⟩:=w
  simp only at hwn hwa hCi hal hap hWm
  simp (maxDischargeDepth:=6) only[g0,g2,hd,env,ruW,putL,Nat.reduceLeDiff,xF,ruU,entryE,Nat.reduceLT,Nat.reduceAdd,Nat.reduceMul,Nat.reduceEqDiff]
  refine w_env fun E2 hE=>?_
  have h0:E2 0=v:=by rw[hE]; simp only[g0,ruU,entryE,Nat.reduceLT,Nat.reduceAdd,Nat.reduceMul,Nat.reduceEqDiff]
  have h2:E2 2=.int .i64 (i:Int):=by rw[hE]; simp only[g2,ruU,entryE,Nat.reduceLT,Nat.reduceAdd,Nat.reduceMul,Nat.reduceEqDiff]
  have h3:E2 3=.int .i64 ((0:Nat):Int):=by rw[hE]; (simp only[ruU,entryE,Nat.reduceLT,Nat.reduceAdd,Nat.reduceMul,Nat.reduceEqDiff]<;>rfl)
  clear hE g0 g2 E
  have i1:aIndexAddr Tryz.prog 42 (.slice (some ⟨nv,0,none⟩) ls.length ls.length) (.int .i64 (i:Int))=some (.pointer (some ⟨nv,0+i*3,none⟩)):=ia_of u42 s59 hil'
  have hCi':C[0+(i*3+2)]?=some av:=by rw[zC3]; exact hCi
  obtain⟨aa,ea⟩:=VsAt.len hwa
  rw[ext_nil]
  refine w_loop (fun (q:Nat × List Value) E' X'=>Mod W X X'∧VsAt X' 59 3 v C ls.length∧VsAt X' 3 1 av q.2 args.length∧(∀ k y,i<k→ls[k]?=some y→ArgA X' y.2 y.1.args)∧q.1≤args.length∧E' 0=v∧E' 2=.int .i64 (i:Int)∧E' 3=.int .i64 (q.1:Int)) (fun q=>args.length-q.1) (0,iv args)
   ⟨m1,hC,hwa,fun k y hk hy=>hav k y (by omega) hy,zB3 _,h0,h2,h3⟩ ?_
  clear h0 h2 h3 E2 hbv hnv hC hwa hy hyb ok1 m1 hav
  rintro⟨j,M⟩ E X2 ⟨m2,hC,hM,hav,hj,g0,g2,g3⟩
  simp only at hM hj g3
  obtain⟨y2,hy⟩:∃ y2,X2.next=y2:=⟨_,rfl⟩
  have ok2:=m2.ok hok
  have hyb:X2.base≤y2:=hy▸ok2
  obtain⟨nv',env',hbv,hnv,_⟩:=vs_bk hC (by omega)
  have hnn:nv'=nv:=by
   rw[env]at env'
   simp only[Value.slice.injEq,Option.some.injEq,Addr.mk.injEq,and_true,true_and]at env'
   exact env'.symm
  subst hnn
  have rv:=rk_of hbv
  rw[hy]at hnv
  rw[env]at g0
  rw[show X2=ext X2 [] from rfl]
  by_cases hje:j=args.length
  ·have hdj:decide ((j:Int)<(args.length:Int))=false:=decide_eq_false (by omega)
   have hw:IntKind.i64.wrap ((i:Int)+1)=((i+1:Nat):Int):=wrap_succ (by omega)
   rw[ea]at hCi'
   have hle:0+i*3+3≤C.length:=by rw[hCl]; omega
   have hst:aStore Tryz.prog (ext X2 []) 59 (.pointer (some ⟨nv',0+i*3,none⟩)) (.agg #[.int .i64 (-77),.int .i64 0,.slice none 0 0])=some (ext (uw X2 nv' (0+i*3) [.int .i64 (-77),.int .i64 0,.slice none 0 0]) []):=by
    rw[store_old (by rw[hy]; exact hnv),hbv,stB_ok (e:=59) (o:=true) (l:=C) s59 hle rfl rfl]
    rfl
   simp (maxDischargeDepth:=6) only[g0,g2,g3,hy,hyb,hnv,i1,rv,hCi',hdj,hw,hst,hle,qk_old,ruW,putL,Nat.reduceLeDiff,xF,ruU,entryE,Nat.reduceLT,Nat.reduceAdd,Nat.reduceMul,Nat.reduceEqDiff]
   rw[ext_nil]
   rw[env]at hC
   have mU:Mod [nv'] X2 (uw X2 nv' (0+i*3) [.int .i64 (-77),.int .i64 0,.slice none 0 0]):=Mod.uw (by simp)
   refine loopC_next ⟨(i+1,putL C (0+i*3) [.int .i64 (-77),.int .i64 0,.slice none 0 0]),by simp only; omega,m2.trans (mU.mono (by simpa using hWv)),by simp only; exact vs_put hC (by omega) hle rfl,fun t ht=>?_,fun k z hk hz=>?_,by simp only; omega,?_,?_⟩
   ·by_cases htl:t<C.length
    ·rw[putL_get _ _ _ _ htl,if_neg (by simp only[zA7,zC5]; omega)]
     exact hCt t (by omega)
    ·rw[zD5 (by rw[putL_length]; omega),zD5 (by rw[insC_len]; rw[hCl]at htl; omega)]
   ·have hz':=hav k z (by simp only at hk; omega) hz
    refine hz'.of mU.next fun n hn=>mU.get n (hz'.ne n hn).2 ?_
    have:=(own.alo z (zE2 hz) n hn).2
    rw[env]at this
    simpa[idsV]using this
   all_goals simp only[g0,g2,hw,ruU,entryE,Nat.reduceLT,Nat.reduceAdd,Nat.reduceMul,Nat.reduceEqDiff]
  ·have hjl:j<args.length:=by omega
   have hdj:decide ((j:Int)<(args.length:Int))=true:=decide_eq_true (by omega)
   have hw:IntKind.i64.wrap ((j:Int)+1)=((j+1:Nat):Int):=wrap_succ (by omega)
   obtain⟨na,ena,hba,hna,hMl⟩:=vs_bk hM (by omega)
   rw[hy]at hna
   rw[ena]at hCi'
   have i3:aIndexAddr Tryz.prog 35 (.slice (some ⟨na,0,none⟩) args.length args.length) (.int .i64 (j:Int))=some (.pointer (some ⟨na,0+j*1,none⟩)):=ia_of u35 s3 hjl
   rw[zC2]at i3
   have hle:0+j+1≤M.length:=by rw[hMl]; omega
   have hst:aStore Tryz.prog (ext X2 []) 3 (.pointer (some ⟨na,0+j,none⟩)) (.int .i64 (-77))=some (ext (uw X2 na (0+j) [.int .i64 (-77)]) []):=by
    rw[store_old (by rw[hy]; exact hna),hba,stB_ok (e:=3) (o:=true) (l:=M) s3 hle rfl rfl]
    rfl
   have hnav:na≠nv':=fun h=>by
    have:=(hal na (by rw[ena]; simp[idsV])).2
    rw[env,h]at this
    exact this (by simp[idsV])
   simp (maxDischargeDepth:=6) only[g0,g2,g3,hy,hyb,hnv,hna,i1,i3,rv,hCi',hdj,hw,hst,hle,qk_old,ruW,putL,Nat.reduceLeDiff,xF,ruU,entryE,Nat.reduceLT,Nat.reduceAdd,Nat.reduceMul,Nat.reduceEqDiff]
   rw[ext_nil]
   have mU:Mod [na] X2 (uw X2 na (0+j) [.int .i64 (-77)]):=Mod.uw (by simp)
   have hnaW:na∈W:=hWm na (by rw[ena]; simp[idsV])
   rw[ena]at hM
   refine loopC_next ⟨(j+1,putL M (0+j) [.int .i64 (-77)]),by simp only; omega,m2.trans (mU.mono (by simpa using hnaW)),hC.of mU.next fun n hn=>mU.get n (hC.ne n hn).2 ?_,by rw[ena]; simp only; exact vs_put hM (by omega) hle rfl,fun k z hk hz=>?_,by simp only; omega,?_,?_,?_⟩
   ·rw[env]at hn
    simp only[idsV,zB0]at hn ⊢
    omega
   ·have hz':=hav k z hk hz
    refine hz'.of mU.next fun n hn=>mU.get n (hz'.ne n hn).2 ?_
    have:=hap k z hk hz na (by rw[ena]; simp[idsV])
    simp only[zB0]
    exact fun h=>this (h▸hn)
   ·rw[env]; simp only[g0,ruU,entryE,Nat.reduceLT,Nat.reduceAdd,Nat.reduceMul,Nat.reduceEqDiff]
   all_goals simp only[g2,g3,hw,ruU,entryE,Nat.reduceLT,Nat.reduceAdd,Nat.reduceMul,Nat.reduceEqDiff]
set_option maxRecDepth 100000
def dI (l:List UInt8):List Ins:=match badA l with
 |some _=>[]
 |none=>insA l
def dE (l:List UInt8):Int:=match badA l with
 |some r=>r.2
 |none=>0
def dA (l:List UInt8):Int:=match badA l with
 |some r=>r.1.pos
 |none=>0
def dT (l:List UInt8):List UInt8:=match badA l with
 |some _=>[]
 |none=>textL (insA l)
theorem own_nil (b:Nat) (X:AHeap):OwnI b X (.slice none 0 0) []:=⟨VsAt.nil,fun x hx=>by simp at hx,fun n hn=>by simp[idsV]at hn,fun x hx=>by simp at hx,by simp⟩
theorem dec_norm {b:Nat} {l:List UInt8} {out:Out} {X:AHeap} (h:DecOut b l out X):∃ v ls,out=.ok (.tuple #[v,fltV (dE l) (dA l)])∧ls.map (·.1)=dI l∧OwnI b X v ls:=by
 simp only[DecOut]at h
 simp only[dE,dA,dI]
 cases hb:badA l with
 |some r =>
  rw[hb]at h
  exact⟨_,[],h,rfl,own_nil b X⟩
 |none =>
  rw[hb]at h
  obtain⟨v,ls,h1,h2,h3⟩:=h
  exact⟨v,ls,h1,h2,h3⟩
theorem text_norm (l:List UInt8):textV l=.tuple #[.string (bs (dT l)),fltV (dE l) (dA l)]:=by
 simp only[textV,dT,dE,dA]
 cases badA l<;>rfl
theorem dI_small (l:List UInt8):(dI l).length≤l.length∧∀ x∈dI l,x.args.length≤l.length:=by
 simp only[dI]
 cases hb:badA l with
 |some r=>exact⟨zB3 _,fun x hx=>by simp at hx⟩
 |none =>
  have h:=enc_bound (insA l)
  rw[(enc_of_dec hb).1]at h
  exact h
theorem ivs_small {l:List UInt8} {ls:List Iv} (h:ls.map (·.1)=dI l):ls.length≤l.length∧∀ x∈ls,x.1.args.length≤l.length:=by
 obtain⟨h1,h2⟩:=dI_small l
 rw[←h]at h1 h2
 rw[zB7]at h1
 exact⟨h1,fun x hx=>h2 x.1 (List.mem_map_of_mem hx)⟩
def xE (ls:List Ins):Int:=match encBad 0 ls with
 |some r=>r.1
 |none=>if 60000<(encL ls).length then 4 else 0
def xA (ls:List Ins):Int:=match encBad 0 ls with
 |some r=>r.2
 |none=>if 60000<(encL ls).length then (ls.length:Int) else 0
def xW (ls:List Ins):List UInt8:=match encBad 0 ls with
 |some _=>[]
 |none=>if 60000<(encL ls).length then [] else encL ls
theorem enc_norm {H:AHeap} {ls:List Ins} {out:Out} {X:AHeap} (h:EncOut H ls out X):∃ v,out=.ok (.tuple #[v,fltV (xE ls) (xA ls)])∧VsAt X 5 1 v (bv (xW ls)) (xW ls).length:=by
 simp only[EncOut]at h
 simp only[xE,xA,xW]
 cases hb:encBad 0 ls with
 |some r =>
  rw[hb]at h
  exact⟨_,h,VsAt.nil⟩
 |none =>
  rw[hb]at h
  simp only at h ⊢
  by_cases hl:60000<(encL ls).length
  ·rw[if_pos hl]at h ⊢
   rw[if_pos hl,if_pos hl]
   exact⟨_,h,VsAt.nil⟩
  ·rw[if_neg hl]at h ⊢
   rw[if_neg hl,if_neg hl]
   obtain⟨v,h1,h2,_⟩:=h
   exact⟨v,h1,h2⟩
theorem xW_small (ls:List Ins):(xW ls).length≤60000:=by
 simp only[xW]
 cases encBad 0 ls with
 |some r=>simp
 |none =>
  simp only
  split
  ·simp
  ·omega
theorem encL_small:∀ {ls:List Ins},(∀ x∈ls,x.args.length≤40)→(encL ls).length≤81*ls.length
 |[],_=>by simp[encL]
 |x::r,h=>by
  have h1:=encL_small (ls:=r) fun y hy=>h y (zB6 _ hy)
  have h2:=enc_len1 x
  have h3:=h x (zC1 ..)
  rw[show encL (x::r)=encB x++encL r from rfl,zB2,zA7]
  omega
theorem OwnI.keep {b:Nat} {X G:AHeap} {v:Value} {ls:List Iv} {W:List Nat} (h:OwnI b X v ls) (m:Mod W X G) (hW:∀ n∈W,n<b):OwnI b G v ls :=
 ⟨h.vs.of m.next fun n hn=>m.get n (h.vs.ne n hn).2 fun hw=>by have:=hW n hw; have:=h.lo n hn; omega,fun z hz=>(h.av z hz).of m.next fun n hn=>m.get n ((h.av z hz).ne n hn).2 fun hw=>by have:=hW n hw; have:=(h.alo z hz n hn).1; omega,h.lo,h.alo,h.nd⟩
theorem eq26c (e a:Int):eqOp .neq (eqL [.int .i64 e,.int .i64 a] [.int .i64 e,.int .i64 a])=some (.bool false):=by
 simp[eqL,eqOp,eq1]
end Go.Proofs.YtnigelgcjfhghaaGreatDoor
namespace Go.Ax
variable {P : Program} {H : AHeap}
theorem w_neStr {ro:Option Nat} {N:Nat} {E:Env} {ds:List Deferred} {ops:Array Oper} {rest:List Oper} {d:Nat} {ty:TypeId} {pos:String} {after:Array Edge} {Q:Exit→AAct→AHeap→Prop} {t u:TypeId} {x y:Operand} {a b:ByteArray} (hx:opOk P N x=true) (hy:opOk P N y=true) (hp:opv E x=.string a) (hq:opv E y=.string b) (hd:d<N) (h0:aBin P H .neq t (.string a) (.string b)=none)
  (h:wpOps P ro ops rest (mkA N (upd E d (.bool (!(a.toList == b.toList)))) ds) H Q):wpOps P ro ops (⟨some d,.binOp .neq t x y u,ty,pos,after,none⟩::rest) (mkA N E ds) H Q:=by
 have:=w_plain (ro:=ro) (H:=H) (ds:=ds) (ops:=ops) (rest:=rest) (ty:=ty) (pos:=pos) (after:=after) (Q:=Q) (u:=u) hx hy hp hq hd h0 rfl rfl (v:=.bool (!(a.toList == b.toList))) (by
  simp[eqGuard,binOp,peval,Op.stringOp,pure,bind,Sem.bind]) rfl
 rw[this]
 exact h
end Go.Ax
namespace Go.Proofs.YtnigelgcjfhghaaGreatDoor
open Go.Ax
abbrev kpa1:List Value:=[.int .i64 0,.int .i64 0,.int .i64 1,.int .i64 1,.string ⟨#[100,114,111,112,10]⟩,.int .i64 9,.int .i64 0]
abbrev kpa2:List Value:=[.int .i64 0,.int .i64 0,.int .i64 1,.int .i64 1,.string ⟨#[99,111,110,115,116,32,48,10]⟩,.int .i64 13,.int .i64 0]
abbrev kpa3:List Value:=[.int .i64 0,.int .i64 0,.int .i64 1,.int .i64 1,.string ⟨#[106,117,109,112,32,49,10]⟩,.int .i64 5,.int .i64 0]
abbrev kpa4:List Value:=[.int .i64 0,.int .i64 0,.int .i64 1,.int .i64 1,.string ⟨#[114,101,116,117,114,110,10]⟩,.int .i64 9,.int .i64 0]
abbrev kpa5:List Value:=[.int .i64 0,.int .i64 0,.int .i64 1,.int .i64 1,.string ⟨#[99,111,110,115,116,32,49,10]⟩,.int .i64 3,.int .i64 0]
abbrev kpa6:List Value:=[.int .i64 0,.int .i64 0,.int .i64 2,.int .i64 2,.string ⟨#[99,111,110,115,116,32,48,10,99,97,116,99,104,32,49,49,10,99,111,110,115,116,32,49,10,100,111,110,101,10,114,101,116,117,114,110,10]⟩,.int .i64 5,.int .i64 3]
abbrev kpa7:List Value:=[.int .i64 2,.int .i64 2,.int .i64 4,.int .i64 1,.string ⟨#[99,111,110,115,116,32,48,10,99,111,112,121,32,50,10,99,111,112,121,32,50,10,99,97,108,108,32,50,10,114,101,116,117,114,110,10]⟩,.int .i64 12,.int .i64 6]
abbrev kpl0:List (FuncId × List Value × Value):=[]
abbrev kpl1:List (FuncId × List Value × Value):=(37,kpa1,.bool true)::kpl0
abbrev kpl2:List (FuncId × List Value × Value):=(37,kpa2,.bool true)::kpl1
abbrev kpl3:List (FuncId × List Value × Value):=(37,kpa3,.bool true)::kpl2
abbrev kpl4:List (FuncId × List Value × Value):=(37,kpa4,.bool true)::kpl3
abbrev kpl5:List (FuncId × List Value × Value):=(37,kpa5,.bool true)::kpl4
abbrev kpl6:List (FuncId × List Value × Value):=(37,kpa6,.bool true)::kpl5
abbrev kpl7:List (FuncId × List Value × Value):=(37,kpa7,.bool true)::kpl6
end Go.Proofs.YtnigelgcjfhghaaGreatDoor
