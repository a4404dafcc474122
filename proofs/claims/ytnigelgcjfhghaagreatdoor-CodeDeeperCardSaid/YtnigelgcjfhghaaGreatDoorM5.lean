/- Parts of the proof, one behind the other. -/
import Derived.Test.YtnigelgcjfhghaaGreatDoorM4
import Derived.Test.YtnigelgcjfhghaaGreatDoorM3
set_option linter.all false
set_option maxRecDepth 10000
set_option maxHeartbeats 16000000
open And renaming intro -> zA0
open Option renaming bind_eq_bind -> zA1, bind_eq_some_iff -> zA2, bind_some -> zA3, map_some -> zA5, map_eq_some_iff -> zB0
open Bool renaming and_eq_true -> zA4, false_eq_true -> zB8, and_self -> zC3
open List renaming getElem?_eq_getElem -> zA6, mem_singleton -> zA7, length_cons -> zA8, mem_cons -> zA9, getD_eq_getElem?_getD -> zB1, map_cons -> zB4, mem_cons_of_mem -> zB6, mem_cons_self -> zB7, mem_append -> zC0, all_eq_true -> zC2, mem_map -> zC4, length_append -> zC8, length_singleton -> zC9, nil_append -> zD0, length_nil -> zD1, length_map -> zD5, not_mem_nil -> zD6, getElem?_cons_succ -> zD7, flatMap_cons -> zD8, getElem?_eq_none -> zE1, take_of_length_le -> zE2, append_nil -> zE3, getElem?_cons_zero -> zE5, eq_nil_of_length_eq_zero -> zE6, length_take -> zE7
open Nat renaming le_refl -> zB2, le_of_ble_eq_true -> zB3, zero_le -> zB5, le_trans -> zB9, lt_succ_self -> zC1, zero_add -> zC5, lt_or_ge -> zC6, mul_one -> zC7, eq_of_beq_eq_true -> zD2, add_zero -> zD3, lt_of_lt_of_le -> zD4, ble_eq -> zD9
open Int renaming cast_ofNat_Int -> zE0, toNat_natCast -> zE4

namespace Go.Proofs.YtnigelgcjfhghaaGreatDoor
open Go.Ax
set_option maxRecDepth 100000
set_option maxRecDepth 100000
end Go.Proofs.YtnigelgcjfhghaaGreatDoor
namespace Go.Ax
theorem rdF_ids {v:Value} {cnt n:Nat} (h:n∈rdF v cnt):n∈idsV v:=by
 unfold rdF at h
 split at h
 ·cases h
 ·exact h
theorem RdAt.modW {H G:AHeap} {sz cnt:Nat} {v:Value} {vs:List Value} {W:List Nat} (h:RdAt H sz v vs cnt) (m:Mod W H G) (hd:∀ n∈rdF v cnt,n∉W):RdAt G sz v vs cnt:=h.of m.next fun n hn=>m.get n (h.ne n hn).2 (hd n hn)
end Go.Ax
namespace Go.Proofs.YtnigelgcjfhghaaGreatDoor
open Go.Ax
set_option maxRecDepth 100000
set_option maxRecDepth 100000
def FrAt (e:TypeId) (H:AHeap) (v:Value) (fs:List Fr):Prop :=
 (fs=[]/\v=.slice none 0 0)\/∃ n c M,v=.slice (some ⟨n,0,none⟩) fs.length c/\fs.length<=c/\bk H n=some ⟨e,true,M⟩/\n<H.next/\fs.length*3<=M.length/\M.take (fs.length*3)=frC fs
section
variable {e : TypeId} {H G : AHeap} {v : Value} {fs : List Fr}
theorem FrAt.nil:FrAt e H (.slice none 0 0) []:=.inl ⟨rfl,rfl⟩
theorem FrAt.vs (h:VsAt H e 3 v (frC fs) fs.length):FrAt e H v fs:=by
 obtain⟨h1,h2,⟨h0,rfl⟩|⟨h0,n,rfl,hb,hlt⟩⟩:=h
 ·exact .inl ⟨zE6 h0,rfl⟩
 ·exact .inr ⟨n,_,_,rfl,zB2 _,hb,hlt,by omega,by rw[zE2 (by omega)]⟩
theorem FrAt.rd (h:FrAt e H v fs):RdAt H 3 v (frC fs) fs.length:=by
 obtain⟨rfl,rfl⟩|⟨n,c,M,rfl,hc,hb,hn,hl,ht⟩:=h
 ·exact RdAt.nil
 ·by_cases h0:fs.length=0
  ·exact⟨frC_len fs,.inl ⟨h0,some ⟨n,0,none⟩,c,by rw[h0]⟩⟩
  ·exact⟨frC_len fs,.inr ⟨by omega,n,0,none,c,e,true,M,rfl,rk_of hb,hn,by omega,by rw[List.drop_zero]; exact ht⟩⟩
theorem FrAt.of (h:FrAt e H v fs) (hn:H.next<=G.next) (hg:∀ n∈idsV v,G.get n=H.get n):FrAt e G v fs:=by
 obtain⟨rfl,rfl⟩|⟨n,c,M,rfl,hc,hb,hlt,hl,ht⟩:=h
 ·exact .inl ⟨rfl,rfl⟩
 ·exact .inr ⟨n,c,M,rfl,hc,(bk_get (hg n (by simp[idsV]))).trans hb,by omega,hl,ht⟩
theorem FrAt.ne (h:FrAt e H v fs):∀ n∈idsV v,H.get n≠none/\n<H.next:=by
 obtain⟨rfl,rfl⟩|⟨n,c,M,rfl,hc,hb,hlt,hl,ht⟩:=h
 ·intro n hn; simp[idsV]at hn
 ·intro k hk
  simp only[idsV,zA7]at hk
  subst hk
  exact⟨bk_ne hb,hlt⟩
theorem FrAt.mod {W:List Nat} (h:FrAt e H v fs) (m:Mod W H G) (hd:∀ n∈idsV v,n∉W):FrAt e G v fs:=h.of m.next fun n hn=>m.get n (h.ne n hn).2 (hd n hn)
theorem FrAt.mod0 (h:FrAt e H v fs) (m:Mod [] H G):FrAt e G v fs:=h.mod m (by simp)
theorem FrAt.sc (h:FrAt e H v fs):scb H.next v=true:=by
 obtain⟨rfl,rfl⟩|⟨n,c,M,rfl,hc,hb,hlt,hl,ht⟩:=h
 ·rfl
 ·simp only[scb]; exact blt_of hlt
theorem FrAt.sl (h:FrAt e H v fs):∃ a c,v=.slice a fs.length c:=by
 obtain⟨rfl,rfl⟩|⟨n,c,M,rfl,hc,hb,hlt,hl,ht⟩:=h
 ·exact⟨_,_,rfl⟩
 ·exact⟨_,_,rfl⟩
theorem frC_take:∀ (fs:List Fr) (k:Nat),frC (fs.take k)=(frC fs).take (k*3)
 |[],k=>by simp[frC]
 |f::r,0=>by simp[frC]
 |f::r,k+1=>by
  have h:=frC_take r k
  simp only[frC]at h
  rw[List.take_succ_cons,frC,frC,zD8,zD8,h,List.take_append,zE2 (l:=frV f) (by simp[frV]; omega)]
  simp only[frV,zA8,zD1]
  rw[show (k+1)*3-(0+1+1+1)=k*3 by omega]
theorem FrAt.cut {st:TypeId} (h:FrAt e H v fs) (hu:Tryz.prog.underlying st=some (.slice e)) (hs:szOf Tryz.prog e=some 3) (hne:fs≠[]) :
  ∃ a c,FrAt e H (.slice a (fs.length-1) c) fs.dropLast/\(∀ n∈idsV (.slice a (fs.length-1) c),n∈idsV v)/\∀ G:AHeap,(∀ n∈idsV v,G.get n=H.get n)->aSlice Tryz.prog G st v none (some (.int .i64 ((fs.length-1:Nat):Int))) none=some (.slice a (fs.length-1) c,G):=by
 obtain⟨rfl,rfl⟩|⟨n,c,M,rfl,hc,hb,hlt,hl,ht⟩:=h
 ·exact absurd rfl hne
 ·have hd:fs.dropLast=fs.take (fs.length-1):=List.dropLast_eq_take
  have hdl:fs.dropLast.length=fs.length-1:=List.length_dropLast
  refine⟨some ⟨n,0,none⟩,c,.inr ⟨n,c,M,by rw[hdl],by omega,hb,hlt,by omega,?_⟩,fun k hk=>hk,fun G hg=>?_⟩
  ·rw[hdl,hd,frC_take,<-ht,List.take_take,Nat.min_eq_left (by omega)]
  ·have ho:isOpen G n=some true:=isOpen_bk ((bk_get (hg n (by simp[idsV]))).trans hb)
   simp only[aSlice,hu,hs,aSlice2,bound,zA1,zA3,exactAt,ho,zA5,Bool.not_true]
   rw[if_pos (by omega),zA3,zE4,if_pos (by omega),if_pos trivial]
end
theorem eff_bd (op:Nat) (args:List Int) (h0:op=4\/op=9->0<args.length/\0<=args.getD 0 0/\args.getD 0 0<=65535):0<=(effR op args).1/\(effR op args).1<=65536/\0<=(effR op args).2/\(effR op args).2<=1:=by
 unfold effR
 split
 ·decide
 split
 ·rename_i h; have:=h0 h; simp only; omega
 split
 ·decide
 split<;>decide
end Go.Proofs.YtnigelgcjfhghaaGreatDoor
namespace Go.Ax
section
variable {P : Program} {H : AHeap} {N : Nat} {E : Env} {ds : List Deferred} {ops : Array Oper} {rest : List Oper} {ty : TypeId} {pos : String} {after : Array Edge} {d i : Nat} {fps : List Fp} {anc : List Nat} {Q : AAct -> AHeap -> Prop}
end
end Go.Ax
namespace Go.Proofs.YtnigelgcjfhghaaGreatDoor
open Go.Ax
set_option maxRecDepth 100000
set_option maxRecDepth 100000
abbrev Ks:=List (Option St)
def knU (ks:Ks) (dn:List Bool) (i:Nat):Bool:=(ks.getD i none).isSome&&!dn.getD i false
def nxtR (ks:Ks) (dn:List Bool):Option Nat:=(List.range ks.length).find? (knU ks dn)
def queR (ks:Ks) (dn:List Bool):List Nat:=(List.range ks.length).filter (knU ks dn)
def prR (depth:Int) (l:List Ins) (ks:Ks) (i:Nat):Except Int Ks:=procR 9 19 12 13 depth 200 1000 l ks i
def posR (l:List Ins) (i:Nat):Int:=match l[i]? with
 |some x=>x.pos
 |none=>0
def runR (depth:Int) (l:List Ins):Nat->Ks->List Bool->Except (Int × Int) Ks
 |0,ks,_=>.ok ks
 |n+1,ks,dn=>match nxtR ks dn with
  |none=>.ok ks
  |some i=>match prR depth l ks i with
   |.error e=>.error (e,posR l i)
   |.ok ks=>runR depth l n ks (dn.set i true)
def leftR (dn:List Bool):Nat:=(dn.filter (! ·)).length
theorem left_set:∀ {dn:List Bool} {i:Nat},dn[i]?=some false->leftR dn=leftR (dn.set i true)+1
 |b::r,0,h=>by
  simp only[zE5,Option.some.injEq]at h
  subst h
  simp[leftR]
 |b::r,i+1,h=>by
  rw[zD7]at h
  have:=left_set h
  simp only[leftR]at this
  cases b<;>simp[leftR,this]
theorem left_rep (n:Nat):leftR (List.replicate n false)=n:=by simp[leftR]
theorem nxt_some {ks:Ks} {dn:List Bool} {i:Nat} (h:nxtR ks dn=some i):i<ks.length/\(∃ s,ks[i]?=some (some s))/\dn.getD i false=false/\∀ j,j<i->knU ks dn j=false:=by
 rw[nxtR,List.find?_range_eq_some]at h
 obtain⟨h1,h2,h3⟩:=h
 rw[List.mem_range]at h2
 simp only[knU,zA4,Bool.not_eq_true']at h1
 refine⟨h2,?_,h1.2,fun j hj=>?_⟩
 ·rw[zB1,zA6 h2]at h1
  cases hk:ks[i]with
  |none=>rw[hk]at h1; simp at h1
  |some s=>exact⟨s,by rw[zA6 h2,hk]⟩
 ·simpa using h3 j hj
theorem nxt_head {ks:Ks} {dn:List Bool}:nxtR ks dn=(queR ks dn).head?:=by rw[nxtR,queR,List.head?_filter]
theorem que_give {ks:Ks} {dn:List Bool} {i:Nat} {s:St} (hi:i<ks.length) (h0:ks.getD i none=none) (hd:dn.getD i false=false) :
  queR (ks.set i (some s)) dn=(queR ks dn).filter (fun j=>decide (j<i))++i::(queR ks dn).filter (fun j=>decide (i<j)):=by
 obtain⟨m,hm⟩:∃ m,ks.length=i+(m+1):=⟨ks.length-i-1,by omega⟩
 have hr:List.range ks.length=List.range' 0 i++i::List.range' (i+1) m:=by
  rw[hm,List.range_eq_range',<-List.range'_append_1,zC5,List.range'_succ]
 have e1:∀ j,j≠i->knU (ks.set i (some s)) dn j=knU ks dn j:=fun j hj=>by
  rw[knU,knU,zB1,List.getElem?_set_ne (fun h=>hj h.symm),<-zB1]
 have e2:knU (ks.set i (some s)) dn i=true:=by
  rw[knU,zB1,List.getElem?_set_self (by omega),hd]; rfl
 have e3:knU ks dn i=false:=by rw[knU,h0]; rfl
 have a1:∀ j∈List.range' 0 i,j<i:=fun j hj=>by rw[List.mem_range'_1]at hj; omega
 have a2:∀ j∈List.range' (i+1) m,i<j:=fun j hj=>by rw[List.mem_range'_1]at hj; omega
 rw[queR,queR,List.length_set,hr]
 simp only[List.filter_append,List.filter_cons,e2,e3,if_true,List.filter_filter]
 congr 1
 ·rw[List.filter_congr fun j hj=>e1 j (by have:=a1 j hj; omega)]
  have h1:(List.range' 0 i).filter (fun a=>decide (a<i)&&knU ks dn a)=(List.range' 0 i).filter (knU ks dn):=List.filter_congr fun j hj=>by simp[a1 j hj]
  have:(List.range' (i+1) m).filter (fun a=>decide (a<i)&&knU ks dn a)=[]:=by
   rw[List.filter_eq_nil_iff]
   intro j hj
   have:=a2 j hj
   simp only[zA4,decide_eq_true_eq,not_and]
   omega
  simp[this,h1]
 ·congr 1
  rw[List.filter_congr fun j hj=>e1 j (by have:=a2 j hj; omega)]
  have h1:(List.range' (i+1) m).filter (fun a=>decide (i<a)&&knU ks dn a)=(List.range' (i+1) m).filter (knU ks dn):=List.filter_congr fun j hj=>by simp[a2 j hj]
  have h2:(List.range' 0 i).filter (fun a=>decide (i<a)&&knU ks dn a)=[]:=by
   rw[List.filter_eq_nil_iff]
   intro j hj
   have:=a1 j hj
   simp only[zA4,decide_eq_true_eq,not_and]
   omega
  simp[h1,h2]
theorem que_done {ks:Ks} {dn:List Bool} {i:Nat} {r:List Nat} (hlen:dn.length=ks.length) (h:queR ks dn=i::r):queR ks (dn.set i true)=r:=by
 have hn:nxtR ks dn=some i:=by rw[nxt_head,h]; rfl
 obtain⟨h1,_,h2,h3⟩:=nxt_some hn
 have hnd:(queR ks dn).Nodup:=List.Pairwise.filter _ List.nodup_range
 have he:queR ks (dn.set i true)=(queR ks dn).filter fun j=>decide (j≠i):=by
  rw[queR,queR,List.filter_filter]
  refine List.filter_congr fun j hj=>?_
  by_cases hji:j=i
  ·subst hji
   have:knU ks (dn.set j true) j=false:=by
    rw[knU]
    rw[zB1 (l:=dn.set j true),List.getElem?_set_self (by omega)]
    simp
   simp[this]
  ·simp only[knU,zB1]
   rw[List.getElem?_set_ne (fun h=>hji h.symm)]
   simp[hji]
 rw[he,h]
 rw[h]at hnd
 have hr:=(List.nodup_cons.1 hnd).1
 rw[List.filter_cons,if_neg (by simp)]
 rw[List.filter_eq_self]
 intro j hj
 exact decide_eq_true fun e=>hr (e▸hj)
theorem que_sorted (ks:Ks) (dn:List Bool):(queR ks dn).Pairwise (· < ·):=List.Pairwise.filter _ List.pairwise_lt_range
def statO (l:List Ins) (cn:Nat) (x:Ins):Option (Int × Int) :=
 if (constsR x.op.toNat x.args).any (fun k=>decide ((cn:Int)<=k))=true then some (3,x.pos) else
 if x.op.toNat=8/\x.args.getD 0 0=0 then some (3,x.pos) else
 if (targsR x.op.toNat x.args).any (fun t=>decide (findR l t<0))=true then some (5,x.pos) else none
def statR (l:List Ins) (cn:Nat):Option (Int × Int):=l.findSome? (statO l cn)
def entS (h:Int):St:=⟨h,0,[]⟩
def hghR (ks:Ks):List Int:=ks.map fun o=>match o with
 |some s=>s.h
 |none=>-1
set_option maxRecDepth 100000
theorem set_same {α:Type}:∀ {l:List α} {i:Nat} {a:α},l[i]?=some a->l.set i a=l
 |b::r,0,a,h=>by
  simp only[zE5,Option.some.injEq]at h
  rw[h,List.set_cons_zero]
 |b::r,i+1,a,h=>by
  rw[zD7]at h
  rw[List.set_cons_succ,set_same h]
abbrev Rs:=Option (St × Value) × Bool
def rsC:Rs->List Value
 |(none,d)=>[.bool false,.bool d,.int .i64 0,.int .i64 0,.slice none 0 0]
 |(some (s,v),d)=>[.bool true,.bool d,.int .i64 s.h,.int .i64 s.b,v]
def rsL (l:List Rs):List Value:=l.flatMap rsC
structure ASt (H:AHeap) (n:Nat) (l:List Rs):Prop where
 blk:bk H n=some ⟨100,false,rsL l⟩
 lt:n<H.next
 fr:∀ x∈l,∀ s v,x.1=some (s,v)->FrAt 183 H v s.fs/\n∉idsV v
 un:∀ x∈l,x.1=none->x.2=false
section
variable {H G : AHeap} {n : Nat} {l : List Rs} {i : Nat} {x : Rs}
end
set_option maxRecDepth 100000
def WfI (x:Ins):Prop:=0<=x.op/\x.op<28/\x.args.length=(kindsR x.op.toNat x.args).length/\∀ y∈x.args,0<=y/\y<=65535
theorem WfI.len {x:Ins} (w:WfI x) (h:(kindsR x.op.toNat x.args).length≠0):0<x.args.length:=by have:=w.2.2.1; omega
theorem fix_len:∀ op:Fin 28,op.val≠3->op.val≠15->op.val≠19->op.val≠20->op.val≠26->op.val≠27->op.val≠17->op.val≠24->(kindsR op.val []).length≠0:=by decide +kernel
theorem WfI.pos {x:Ins} (w:WfI x) (h:x.op.toNat≠3/\x.op.toNat≠15/\x.op.toNat≠19/\x.op.toNat≠20/\x.op.toNat≠26/\x.op.toNat≠27):0<x.args.length:=by
 have h0:=w.1
 have h1:=w.2.1
 refine w.len fun hk=>?_
 by_cases h17:x.op.toNat=17
 ·rw[h17,show kindsR 17 x.args=guardR x.args from rfl]at hk
  by_cases hn:x.args=[]
  ·rw[hn]at hk; cases hk
  ·have:=guard_len hn
   omega
 by_cases h24:x.op.toNat=24
 ·rw[h24,show kindsR 24 x.args=envR x.args from rfl]at hk
  by_cases hn:x.args.length<2
  ·have:=env_len0 hn
   omega
  ·have:=env_len (args:=x.args) (by omega)
   omega
 rw[fix_same (by omega) h17 h24]at hk
 exact fix_len ⟨x.op.toNat,by omega⟩ h.1 h.2.1 h.2.2.1 h.2.2.2.1 h.2.2.2.2.1 h.2.2.2.2.2 h17 h24 hk
theorem WfI.fst {x:Ins} (w:WfI x) (h:0<x.args.length):0<=x.args.getD 0 0/\x.args.getD 0 0<=65535:=by
 rw[zB1,zA6 h]
 exact w.2.2.2 _ (List.getElem_mem h)
theorem evens_len:∀ l:List Int,(evens l).length<=l.length
 |[]=>zB2 _
 |[a]=>zB2 _
 |a::b::r=>by
  have:=evens_len r
  simp only[evens,zA8]
  omega
theorem consts_len (op:Nat) (args:List Int):(constsR op args).length<=args.length+1:=by
 unfold constsR
 split
 ·simp
 split
 ·have:=evens_len (args.drop 1)
  rw[List.length_drop]at this
  omega
 ·simp
theorem targs_len (op:Nat) (args:List Int):(targsR op args).length<=args.length+1:=by
 unfold targsR
 split
 ·simp
 split
 ·have:=evens_len (args.drop 2)
  rw[List.length_drop]at this
  omega
 ·simp
theorem stat_at {l:List Ins} {cn i:Nat} {x:Ins} {r:Int × Int} (h:l[i]?=some x) (hr:statO l cn x=some r) (hb:∀ k,k<i->∀ y,l[k]?=some y->statO l cn y=none):statR l cn=some r:=by
 have:∀ (m:List Ins) (i:Nat),m[i]?=some x->(∀ k,k<i->∀ y,m[k]?=some y->statO l cn y=none)->m.findSome? (statO l cn)=some r:=by
  intro m
  induction m with
  |nil=>intro i h; simp at h
  |cons a m ih =>
   intro i h hb
   cases i with
   |zero =>
    simp only[zE5,Option.some.injEq]at h
    rw[List.findSome?_cons,h,hr]
   |succ i =>
    rw[zD7]at h
    rw[List.findSome?_cons,hb 0 (by omega) a rfl]
    exact ih i h fun k hk y hy=>hb (k+1) (by omega) y (by rw[zD7]; exact hy)
 exact this l i h hb
theorem stat_not {l:List Ins} {cn:Nat} (hb:∀ (k:Nat) (y:Ins),l[k]?=some y->statO l cn y=none):statR l cn=none:=by
 rw[statR,List.findSome?_eq_none_iff]
 intro x hx
 obtain⟨k,hk,e⟩:=List.mem_iff_getElem.1 hx
 exact hb k x (by rw[zA6 hk,e])
set_option maxRecDepth 100000
def StOk (s:St):Prop:=0<=s.h/\s.h<=1000/\0<=s.b/\s.b<=1000/\s.fs.length<=200/\∀ f∈s.fs,(0<=f.height/\f.height<=100000)/\0<=f.bound/\f.bound<=100000
def KsOk (ks:Ks):Prop:=∀ (i:Nat) (t:St),ks[i]?=some (some t)->StOk t
theorem find_lt {l:List Ins} {a:Int} (h:0<=findR l a):findR l a=(((findR l a).toNat:Nat):Int)/\(findR l a).toNat<l.length:=by
 refine⟨by omega,?_⟩
 unfold findR at h ⊢
 cases hi:l.findIdx? (fun x=>decide (x.pos=a)) with
 |none=>rw[hi]at h; simp at h
 |some i =>
  have:=(List.findIdx?_eq_some_iff_getElem.1 hi).1
  simpa using this
def insF (v:Value) (ls:List Iv):List Nat:=rdF v ls.length++ls.flatMap fun x=>rdF x.2 x.1.args.length
theorem InsRd.of {H G:AHeap} {v:Value} {ls:List Iv} (h:InsRd H v ls) (hn:H.next<=G.next) (hg:∀ k∈insF v ls,G.get k=H.get k):InsRd G v ls :=
 ⟨h.rd.of hn fun k hk=>hg k (List.mem_append_left _ hk),fun x hx=>(h.av x hx).of hn fun k hk=>hg k (List.mem_append_right _ (List.mem_flatMap.2 ⟨x,hx,hk⟩)),fun x hx=>scb_mono hn _ (h.sc x hx)⟩
theorem InsRd.ne {H:AHeap} {v:Value} {ls:List Iv} (h:InsRd H v ls):∀ k∈insF v ls,H.get k≠none/\k<H.next:=fun k hk=>by
 rcases zC0.1 hk with hk|hk
 ·exact h.rd.ne k hk
 ·obtain⟨x,hx,hk⟩:=List.mem_flatMap.1 hk
  exact (h.av x hx).ne k hk
theorem give_bd {P:St->Prop} {ks ks':Ks} {i:Nat} {s:St} (h:giveR ks i s=some ks') (hk:∀ (j:Nat) (t:St),ks[j]?=some (some t)->P t) (hs:P s):∀ (j:Nat) (t:St),ks'[j]?=some (some t)->P t:=by
 unfold giveR at h
 split at h
 ·simp only[Option.some.injEq]at h
  subst h
  intro j t hj
  rcases zC6 i ks.length with hl|hl
  ·by_cases hji:j=i
   ·subst hji
    rw[List.getElem?_set_self hl]at hj
    simp only[Option.some.injEq]at hj
    exact hj▸hs
   ·rw[List.getElem?_set_ne (fun e=>hji e.symm)]at hj
    exact hk j t hj
  ·rw[List.set_eq_of_length_le hl]at hj
   exact hk j t hj
 ·split at h
  ·simp only[Option.some.injEq]at h
   subst h
   exact hk
  ·cases h
def tl3 (l:List Ins) (op:Nat) (args:List Int) (ts:St):Option Ks->Except Int Ks
 |none=>.error 9
 |some ks=>match givesR ks ((targsR op args).map fun t=>(findR l t).toNat) ts with
  |none=>.error 9
  |some ks=>.ok ks
def tl2 (l:List Ins) (ks:Ks) (i op:Nat) (args:List Int) (ns ts:St):Except Int Ks :=
 if (op≠10/\op≠15)/\i+1=l.length then .error 13 else tl3 l op args ts (if op≠10/\op≠15 then giveR ks (i+1) ns else some ks)
def tl1 (depth:Int) (l:List Ins) (ks:Ks) (i op:Nat) (args:List Int) (ns ts:St):Except Int Ks :=
 if deepR depth 200 1000 ns=true\/targsR op args≠[]/\deepR depth 200 1000 ts=true then .error 12 else tl2 l ks i op args ns ts
theorem prR_eq {depth:Int} {l:List Ins} {ks:Ks} {i:Nat} {x:Ins} {s:St} (h1:l[i]?=some x) (h2:ks.getD i none=some s) :
  prR depth l ks i=if missR x.op.toNat x.args s.h=true then .error 9 else if disR x.op.toNat x.args s=true then .error 19 else tl1 depth l ks i x.op.toNat x.args (aftR x.op.toNat x.args s).1 (aftR x.op.toNat x.args s).2:=by
 unfold prR procR tl1 tl2 tl3
 rw[h1,h2]
 rfl
theorem aft_len (op:Nat) (args:List Int) (s:St):(aftR op args s).1.fs.length<=s.fs.length+1/\(aftR op args s).2.fs.length<=s.fs.length+1:=by
 have hd:s.fs.dropLast.length<=s.fs.length:=by rw[List.length_dropLast]; omega
 unfold aftR
 simp only
 repeat' split
 all_goals simp only[zC8,zC9]
 all_goals omega
set_option maxRecDepth 100000
theorem ins_wf {l:List UInt8} (h:badA l=none):∀ x∈insA l,WfI x:=fun x hx=>encA_ok ((enc_of_dec h).2 x hx)
theorem encL_len:∀ ls:List Ins,ls.length<=(encL ls).length/\∀ x∈ls,x.args.length<=(encL ls).length
 |[]=>⟨zB2 _,fun x hx=>by cases hx⟩
 |y::r=>by
  obtain⟨h1,h2⟩:=encL_len r
  have hy:(encB y).length=1+2*y.args.length:=by
   rw[encB,zA8]
   have:∀ a:List Int,(a.flatMap fun a=>[a.toNat.toUInt8,(a.toNat / 256).toUInt8]).length=2*a.length:=by
    intro a
    induction a with
    |nil=>rfl
    |cons b a ih=>rw[zD8,zC8,ih]; simp only[zA8,zD1]; omega
   rw[this]
   omega
  have he:(encL (y::r)).length=(encB y).length+(encL r).length:=by simp[encL]
  rw[he,hy]
  refine⟨by rw[zA8]; omega,fun x hx=>?_⟩
  rcases zA9.1 hx with rfl|hx
  ·omega
  ·have:=h2 x hx; omega
theorem ins_len {l:List UInt8} (h:badA l=none):(insA l).length<=l.length/\∀ x∈insA l,x.args.length<=l.length:=by
 have:=encL_len (insA l)
 rw[(enc_of_dec h).1]at this
 exact this
theorem top_ok {s:St} (h:StOk s):0<=(topS s).bound/\(topS s).bound<=100000/\0<=(topS s).height/\(topS s).height<=100000:=by
 by_cases hn:s.fs=[]
 ·rw[topS,hn]; decide
 ·have hm:topS s∈s.fs:=by
   rw[topS,List.getLastD_eq_getLast?,List.getLast?_eq_some_getLast hn]
   exact List.getLast_mem hn
  have:=h.2.2.2.2.2 _ hm
  omega
theorem aft_ok {x:Ins} {s:St} (w:WfI x) (h:StOk s) (hm:missR x.op.toNat x.args s.h=false) (hd:disR x.op.toNat x.args s=false) {depth:Int} (hdp:depth<=1000) :
  (deepR depth 200 1000 (aftR x.op.toNat x.args s).1=false->StOk (aftR x.op.toNat x.args s).1)/\(deepR depth 200 1000 (aftR x.op.toNat x.args s).2=false->StOk (aftR x.op.toNat x.args s).2):=by
 obtain⟨op,hop⟩:∃ q,x.op.toNat=q:=⟨_,rfl⟩
 have hpos:=w.pos
 have hfst:=w.fst
 rw[hop]at hm hd hpos ⊢
 have hbd:=eff_bd op x.args fun h=>⟨hpos (by omega),hfst (hpos (by omega))⟩
 obtain⟨p,q,hpq⟩:∃ p q,effR op x.args=(p,q):=⟨_,_,rfl⟩
 have hmp:¬s.h<p:=by
  unfold missR at hm
  rw[hpq]at hm
  simp only[Bool.or_eq_false_iff,decide_eq_false_iff_not]at hm
  exact hm.1
 rw[hpq]at hbd
 simp only at hbd
 have ht:=top_ok h
 obtain⟨w1,w2,w3,w4,w5,w6⟩:=h
 have mkS:∀ t:St,deepR depth 200 1000 t=false->0<=t.h->0<=t.b->(∀ f∈t.fs,(0<=f.height/\f.height<=100000)/\0<=f.bound/\f.bound<=100000)->StOk t:=fun t h h1 h2 h3=>by
  unfold deepR at h
  simp only[Bool.or_eq_false_iff,decide_eq_false_iff_not]at h
  exact⟨h1,by omega,h2,by omega,by omega,h3⟩
 have app:∀ f:Fr,((0<=f.height/\f.height<=100000)/\0<=f.bound/\f.bound<=100000)->∀ g∈s.fs++[f],(0<=g.height/\g.height<=100000)/\0<=g.bound/\g.bound<=100000:=fun f hf g hg=>by
  rcases zC0.1 hg with hg|hg
  ·exact w6 g hg
  ·rw[zA7]at hg
   exact hg▸hf
 have drp:∀ g∈s.fs.dropLast,(0<=g.height/\g.height<=100000)/\0<=g.bound/\g.bound<=100000:=fun g hg=>w6 g (List.dropLast_subset _ hg)
 unfold aftR
 rw[hpq]
 simp only
 by_cases c1:op=13\/op=14
 ·rw[if_pos c1]
  exact⟨fun h=>mkS _ h (by dsimp only; omega) w3 w6,fun h=>mkS _ h w1 w3 w6⟩
 rw[if_neg c1]
 by_cases c2:op=7
 ·rw[if_pos c2]
  exact⟨fun h=>mkS _ h (by dsimp only; omega) (by dsimp only; omega) w6,fun h=>mkS _ h (by dsimp only; omega) w3 w6⟩
 rw[if_neg c2]
 by_cases c3:op=8
 ·rw[if_pos c3]
  have h8:(topS s).bound<=s.b-x.args.getD 0 0:=by
   rw[disR,if_pos c3,decide_eq_false_iff_not]at hd
   omega
  exact⟨fun h=>mkS _ h (by dsimp only; omega) (by dsimp only; omega) w6,fun h=>mkS _ h (by dsimp only; omega) w3 w6⟩
 rw[if_neg c3]
 by_cases c4:op=16\/op=17
 ·rw[if_pos c4]
  refine⟨fun h=>?_,fun h=>mkS _ h (by dsimp only; omega) w3 w6⟩
  have hdd:=h
  unfold deepR at hdd
  simp only[Bool.or_eq_false_iff,decide_eq_false_iff_not]at hdd
  exact mkS _ h (by dsimp only; omega) w3 (app _ ⟨(by dsimp only; omega),(by dsimp only; omega)⟩)
 rw[if_neg c4]
 by_cases c5:op=18
 ·rw[if_pos c5]
  refine⟨fun h=>?_,fun h=>?_⟩
  ·have hdd:=h
   unfold deepR at hdd
   simp only[Bool.or_eq_false_iff,decide_eq_false_iff_not]at hdd
   exact mkS _ h (by dsimp only; omega) w3 (app _ ⟨(by dsimp only; omega),(by dsimp only; omega)⟩)
  ·have hdd:=h
   unfold deepR at hdd
   simp only[Bool.or_eq_false_iff,decide_eq_false_iff_not]at hdd
   exact mkS _ h (by dsimp only; omega) w3 (app _ ⟨(by dsimp only; omega),(by dsimp only; omega)⟩)
 rw[if_neg c5]
 by_cases c6:op=19
 ·rw[if_pos c6]
  refine⟨fun h=>mkS _ h (by dsimp only; omega) w3 ?_,fun h=>mkS _ h (by dsimp only; omega) w3 w6⟩
  simp only
  split
  ·intro g hg
   rcases zC0.1 hg with hg|hg
   ·exact drp g hg
   ·rw[zA7]at hg
    subst hg
    simp only
    omega
  ·exact drp
 rw[if_neg c6]
 by_cases c7:op=20
 ·rw[if_pos c7]
  exact⟨fun h=>mkS _ h (by dsimp only; omega) w3 drp,fun h=>mkS _ h (by dsimp only; omega) w3 w6⟩
 rw[if_neg c7]
 exact⟨fun h=>mkS _ h (by dsimp only; omega) w3 w6,fun h=>mkS _ h (by dsimp only; omega) w3 w6⟩
theorem gives_bd {P:St->Prop}:∀ {r:List Nat} {ks ks':Ks} {s:St},givesR ks r s=some ks'->(∀ (j:Nat) (t:St),ks[j]?=some (some t)->P t)->P s->∀ (j:Nat) (t:St),ks'[j]?=some (some t)->P t
 |[],ks,ks',s,h,hk,_=>by
  simp only[givesR,Option.some.injEq]at h
  exact h▸hk
 |i::r,ks,ks',s,h,hk,hs=>by
  rw[givesR]at h
  cases hg:giveR ks i s with
  |none=>rw[hg]at h; cases h
  |some k1 =>
   rw[hg]at h
   exact gives_bd h (give_bd hg hk hs) hs
theorem pr_ok {depth:Int} {l:List Ins} {ks ks':Ks} {i:Nat} (hw:∀ x∈l,WfI x) (hk:KsOk ks) (hdp:depth<=1000) (h:prR depth l ks i=.ok ks'):KsOk ks':=by
 cases hx:l[i]? with
 |none=>unfold prR procR at h; rw[hx]at h; cases h
 |some x =>
  cases hs:ks.getD i none with
  |none=>unfold prR procR at h; rw[hx,hs]at h; cases h
  |some s =>
   rw[prR_eq hx hs]at h
   have hsk:StOk s:=by
    rw[zB1]at hs
    cases hj:ks[i]? with
    |none=>rw[hj]at hs; cases hs
    |some o=>rw[hj]at hs; exact hk i s (by rw[hj]; exact congrArg some hs)
   cases hm:missR x.op.toNat x.args s.h with
   |true=>rw[hm,if_pos rfl]at h; cases h
   |false =>
    rw[hm,if_neg (by simp)]at h
    cases hd:disR x.op.toNat x.args s with
    |true=>rw[hd,if_pos rfl]at h; cases h
    |false =>
     rw[hd,if_neg (by simp)]at h
     obtain⟨o1,o2⟩:=aft_ok (hw x (List.mem_of_getElem? hx)) hsk hm hd hdp
     unfold tl1 at h
     split at h
     ·cases h
     ·rename_i hnd
      have n1:deepR depth 200 1000 (aftR x.op.toNat x.args s).1=false:=by
       cases hq:deepR depth 200 1000 (aftR x.op.toNat x.args s).1 with
       |false=>rfl
       |true=>exact absurd (.inl hq) hnd
      unfold tl2 at h
      split at h
      ·cases h
      ·have h1:∀ k1:Ks,(if x.op.toNat≠10/\x.op.toNat≠15 then giveR ks (i+1) (aftR x.op.toNat x.args s).1 else some ks)=some k1->KsOk k1:=fun k1 hk1=>by
        split at hk1
        ·exact give_bd hk1 hk (o1 n1)
        ·simp only[Option.some.injEq]at hk1
         exact hk1▸hk
       cases hg:(if x.op.toNat≠10/\x.op.toNat≠15 then giveR ks (i+1) (aftR x.op.toNat x.args s).1 else some ks) with
       |none=>rw[hg,tl3]at h; cases h
       |some k1 =>
        rw[hg,tl3]at h
        have hk1:=h1 k1 hg
        by_cases ht:targsR x.op.toNat x.args=[]
        ·rw[ht,List.map_nil,givesR]at h
         simp only[Except.ok.injEq]at h
         exact h▸hk1
        ·have n2:deepR depth 200 1000 (aftR x.op.toNat x.args s).2=false:=by
          cases hq:deepR depth 200 1000 (aftR x.op.toNat x.args s).2 with
          |false=>rfl
          |true=>exact absurd (.inr ⟨ht,hq⟩) hnd
         cases hgs:givesR k1 ((targsR x.op.toNat x.args).map fun t=>(findR l t).toNat) (aftR x.op.toNat x.args s).2 with
         |none=>rw[hgs]at h; cases h
         |some k2 =>
          rw[hgs]at h
          simp only[Except.ok.injEq]at h
          exact h▸gives_bd hgs hk1 (o2 n2)
def verR (least most depth:Int) (cn:Nat) (bs:List UInt8):Except (Int × Int) Ks :=
 if headR least most depth cn=true then .error (3,0) else
 match badA bs with
 |some r=>.error (r.2,r.1.pos)
 |none =>
  if insA bs=[] then .error (13,0) else
  match statR (insA bs) cn with
  |some r=>.error r
  |none =>
   if deepR depth 200 1000 (entS (entR least most))=true then .error (12,0) else
   runR depth (insA bs) ((insA bs).length+1) ((List.replicate (insA bs).length none).set 0 (some (entS (entR least most)))) (List.replicate (insA bs).length false)
set_option maxRecDepth 100000
structure CpAt (b:Nat) (X:AHeap) (v:Value) (cs:List Iv):Prop where
 vs:VsAt X 59 3 v (insC cs) cs.length
 rd:∀ x∈cs,RdAt X 1 x.2 (iv x.1.args) x.1.args.length/\scb X.next x.2=true/\∀ n∈idsV x.2,b<=n/\n∉idsV v
 lo:∀ n∈idsV v,b<=n
set_option maxRecDepth 100000
theorem same18_c (H:AHeap) (v w:Value) (a b:List Int) (ha:RdAt H 1 v (iv a) a.length) (hb:RdAt H 1 w (iv b) b.length) (hl:a.length<=100000000):Pure 18 [v,w] H (.bool (decide (a=b))):=by
 obtain⟨x,hx⟩:=Go.Ax.exq H.next
 obtain⟨a0,c0,e0⟩:=ha.sl
 obtain⟨a1,c1,e1⟩:=hb.sl
 refine callS_fn mixed Tryz.func18 rfl Tryz.ntmps18 (zB3 rfl) fun wf hsc=>?_
 by_cases hne:a.length=b.length
 ·have hd:decide (¬(a.length:Int)=(b.length:Int))=false:=decide_eq_false (by omega)
  rw[e0,e1]
  simp only[hd,ruW,xF,ruU,entryE,Nat.reduceLT,Nat.reduceAdd,Nat.reduceEqDiff]
  rw[<-e0,<-e1]
  refine w_env fun E hE=>?_
  have g0:E 0=v:=by rw[hE,e0]; simp only[ruU,Nat.reduceEqDiff]
  have g1:E 1=w:=by rw[hE,e1]; simp only[ruU,Nat.reduceEqDiff]
  have g5:E 5=.int .i64 ((0:Nat):Int):=by rw[hE]; rfl
  clear hE
  refine w_loop (fun (j:Nat) E' H'=>H'=ext H []/\j<=a.length/\a.take j=b.take j/\E' 0=v/\E' 1=w/\E' 5=.int .i64 (j:Int)) (fun j=>a.length-j) 0 ⟨rfl,zB5 _,rfl,g0,g1,g5⟩ ?_
  clear g0 g1 g5 E
  rintro j E H' ⟨hH,hj,htk,g0,g1,g5⟩
  rw[hH]
  by_cases hje:j=a.length
  ·have hdj:decide ((j:Int)<(a.length:Int))=false:=decide_eq_false (by omega)
   rw[e0]at g0
   simp only[g0,g5,hdj,Tryz.results18,ruW,xF,ruU,Nat.reduceLT,Nat.reduceEqDiff]
   have:decide (a=b)=true:=by
    rw[zE2 (by omega),zE2 (by omega)]at htk
    exact decide_eq_true htk
   rw[this]
   exact Fin.pureE rfl rfl
  ·have hjl:j<a.length:=by omega
   have hdj:decide ((j:Int)<(a.length:Int))=true:=decide_eq_true (by omega)
   obtain⟨n,off,s,c,e,o,M,k1,n1,r1,m1⟩:=ha.one hjl
   have hjb:j<b.length:=by omega
   obtain⟨n',off',s',c',e',o',M',k2,n2,r2,m2⟩:=hb.one hjb
   rw[iv_get,zA6 hjl,zA5]at m1
   rw[iv_get,zA6 hjb,zA5]at m2
   have i1:=ia_of (P:=Tryz.prog) (k:=.i64) (i:=j) (n:=n) (off:=off) (len:=a.length) (cap:=c) (s:=s) u35 s3 hjl
   have i2:=ia_of (P:=Tryz.prog) (k:=.i64) (i:=j) (n:=n') (off:=off') (len:=b.length) (cap:=c') (s:=s') u35 s3 hjb
   rw[zC7]at i1 i2
   rw[hx]at n1 n2
   have hw:IntKind.i64.wrap ((j:Int)+1)=((j+1:Nat):Int):=wrap_succ (by omega)
   obtain⟨d,hdd⟩:=Go.Ax.exq (decide (¬a[j]=b[j]))
   rw[k1]at g0
   rw[k2]at g1
   simp only[g0,g5,hdj,ruW,xF,ruU,Nat.reduceLT,Nat.reduceEqDiff]
   refine w_drawB [] [] (by kernel_rfl) (by kernel_rfl) rfl fun ops anc hA hG=>?_
   simp only[g0,g1,g5,hx,i1,i2,n1,n2,r1,r2,m1,m2,hdd,qk_old,ruD,ruW,xF,ruU,Nat.reduceLT,Nat.reduceAdd,Nat.reduceEqDiff]
   cases d with
   |true =>
    have:=of_decide_eq_true hdd
    simp only[Tryz.results18,ruW,ruU,Nat.reduceLT]
    have:decide (a=b)=false:=decide_eq_false fun e=>by subst e; exact this rfl
    rw[this]
    exact Fin.pureE rfl rfl
   |false =>
    have hq:=of_decide_eq_false hdd
    have hab:a[j]=b[j]:=by omega
    simp only[g5,hw,ruW,ruU,Nat.reduceLT,Nat.reduceEqDiff]
    refine loopC_next ⟨j+1,by omega,rfl,by omega,?_,?_,?_,?_⟩
    ·rw[List.take_add_one,List.take_add_one,htk,zA6 hjl,zA6 hjb,hab]
    ·rw[k1]; simp only[g0,ruU,Nat.reduceEqDiff]
    ·rw[k2]; simp only[g1,ruU,Nat.reduceEqDiff]
    ·rfl
 ·have hd:decide (¬(a.length:Int)=(b.length:Int))=true:=decide_eq_true (by omega)
  rw[e0,e1]
  simp only[hd,Tryz.results18,ruW,xF,ruU,entryE,Nat.reduceLT,Nat.reduceAdd,Nat.reduceEqDiff]
  have:decide (a=b)=false:=decide_eq_false fun e=>hne (by rw[e])
  rw[this]
  exact Fin.pureE rfl rfl
end Go.Proofs.YtnigelgcjfhghaaGreatDoor
namespace Go.Ax
variable {P : Program} {H : AHeap}
end Go.Ax
namespace Go.Proofs.YtnigelgcjfhghaaGreatDoor
open Go.Ax
set_option maxRecDepth 100000
set_option maxRecDepth 100000
set_option maxRecDepth 100000
set_option maxRecDepth 100000
set_option maxRecDepth 100000
theorem pr_len {depth:Int} {l:List Ins} {ks ks':Ks} {i:Nat} (h:prR depth l ks i=.ok ks'):ks'.length=ks.length:=by
 cases hx:l[i]? with
 |none=>unfold prR procR at h; rw[hx]at h; cases h
 |some x =>
  cases hs:ks.getD i none with
  |none=>unfold prR procR at h; rw[hx,hs]at h; cases h
  |some s =>
   rw[prR_eq hx hs]at h
   unfold tl1 tl2 at h
   split at h
   ·cases h
   split at h
   ·cases h
   split at h
   ·cases h
   split at h
   ·cases h
   have key:∀ o:Option Ks,(∀ k,o=some k->k.length=ks.length)->tl3 l x.op.toNat x.args (aftR x.op.toNat x.args s).2 o=.ok ks'->ks'.length=ks.length:=fun o ho h=>by
    cases o with
    |none=>cases h
    |some k =>
     rw[tl3]at h
     cases hg:givesR k ((targsR x.op.toNat x.args).map fun t=>(findR l t).toNat) (aftR x.op.toNat x.args s).2 with
     |none=>rw[hg]at h; cases h
     |some k2 =>
      rw[hg]at h
      simp only[Except.ok.injEq]at h
      rw[<-h,gives_len hg,ho k rfl]
   refine key _ (fun k hk=>?_) h
   split at hk
   ·exact give_len hk
   ·simp only[Option.some.injEq]at hk
    rw[hk]
theorem run_len {depth:Int} {l:List Ins}:∀ {n:Nat} {ks ks':Ks} {dn:List Bool},runR depth l n ks dn=.ok ks'->ks'.length=ks.length
 |0,ks,ks',dn,h=>by
  simp only[runR,Except.ok.injEq]at h
  rw[h]
 |n+1,ks,ks',dn,h=>by
  rw[runR]at h
  split at h
  ·simp only[Except.ok.injEq]at h
   rw[h]
  ·split at h
   ·cases h
   ·rename_i hp
    rw[run_len h,pr_len hp]
theorem ver_len {least most depth:Int} {cn:Nat} {bs:List UInt8} {ks:Ks} (h:verR least most depth cn bs=.ok ks):ks.length=(insA bs).length/\ks.length<=bs.length:=by
 unfold verR at h
 split at h
 ·cases h
 split at h
 ·cases h
 rename_i hb
 split at h
 ·cases h
 split at h
 ·cases h
 split at h
 ·cases h
 have:=run_len h
 rw[List.length_set,List.length_replicate]at this
 have:=(ins_len hb).1
 omega
def HgtOut (r:Except (Int × Int) Ks) (out:Out) (X:AHeap):Prop :=
 match r with
 |.error (e,a)=>out=.ok (.tuple #[.slice none 0 0,fltV e a])
 |.ok ks=>∃ w,out=.ok (.tuple #[w,fltV 0 0])/\ArgA X w (hghR ks)
set_option maxRecDepth 100000
def SubK (ks ks':Ks):Prop:=∀ (j:Nat) (t:St),ks[j]?=some (some t)->ks'[j]?=some (some t)
theorem SubK.refl (ks:Ks):SubK ks ks:=fun _ _ h=>h
theorem SubK.trans {a b c:Ks} (h1:SubK a b) (h2:SubK b c):SubK a c:=fun j t h=>h2 j t (h1 j t h)
theorem kn_get {ks:Ks} {i:Nat} {s:St} (h:ks[i]?=some (some s)):ks.getD i none=some s:=by rw[zB1,h]; rfl
theorem kn_of {ks:Ks} {i:Nat} {s:St} (h:ks.getD i none=some s):ks[i]?=some (some s):=by
 rw[zB1]at h
 cases hj:ks[i]? with
 |none=>rw[hj]at h; cases h
 |some o=>rw[hj]at h; exact congrArg some h
theorem give_facts {ks ks':Ks} {i:Nat} {s:St} (h:giveR ks i s=some ks'):SubK ks ks'/\(i<ks.length->ks'[i]?=some (some s))/\∀ (j:Nat) (t:St),ks'[j]?=some (some t)->ks[j]?=some (some t)\/t=s:=by
 unfold giveR at h
 split at h
 ·rename_i hn
  simp only[Option.some.injEq]at h
  subst h
  refine⟨fun j t hj=>?_,fun hi=>List.getElem?_set_self hi,fun j t hj=>?_⟩
  ·rw[List.getElem?_set]
   split
   ·rename_i e
    subst e
    rw[kn_get hj]at hn
    cases hn
   ·exact hj
  ·rw[List.getElem?_set]at hj
   split at hj
   ·split at hj
    ·simp only[Option.some.injEq]at hj
     exact .inr hj.symm
    ·cases hj
   ·exact .inl hj
 ·rename_i t hn
  split at h
  ·rename_i e
   simp only[Option.some.injEq]at h
   subst h
   exact⟨SubK.refl _,fun _=>e▸kn_of hn,fun j t hj=>.inl hj⟩
  ·cases h
theorem gives_facts:∀ {r:List Nat} {ks ks':Ks} {s:St},givesR ks r s=some ks'->SubK ks ks'/\(∀ i∈r,i<ks.length->ks'[i]?=some (some s))/\∀ (j:Nat) (t:St),ks'[j]?=some (some t)->ks[j]?=some (some t)\/r≠[]/\t=s
 |[],ks,ks',s,h=>by
  simp only[givesR,Option.some.injEq]at h
  subst h
  exact⟨SubK.refl _,fun i hi=>(by cases hi),fun j t hj=>.inl hj⟩
 |i::r,ks,ks',s,h=>by
  rw[givesR]at h
  cases hg:giveR ks i s with
  |none=>rw[hg]at h; cases h
  |some k1 =>
   rw[hg]at h
   obtain⟨a1,a2,a3⟩:=give_facts hg
   obtain⟨b1,b2,b3⟩:=gives_facts h
   refine⟨a1.trans b1,fun j hj hl=>?_,fun j t hj=>?_⟩
   ·rcases zA9.1 hj with rfl|hj
    ·exact b1 _ _ (a2 hl)
    ·exact b2 j hj (by rw[give_len hg]; exact hl)
   ·rcases b3 j t hj with h|h
    ·rcases a3 j t h with h|h
     ·exact .inl h
     ·exact .inr ⟨by simp,h⟩
    ·exact .inr ⟨by simp,h.2⟩
structure FxAt (D:Int) (l:List Ins) (ks:Ks) (i:Nat) (x:Ins) (s:St):Prop where
 ins:l[i]?=some x
 miss:missR x.op.toNat x.args s.h=false
 dis:disR x.op.toNat x.args s=false
 deep:deepR D 200 1000 (aftR x.op.toNat x.args s).1=false
 next:x.op.toNat≠10/\x.op.toNat≠15->ks[i+1]?=some (some (aftR x.op.toNat x.args s).1)
 targ:∀ t∈targsR x.op.toNat x.args,(findR l t).toNat<ks.length->ks[(findR l t).toNat]?=some (some (aftR x.op.toNat x.args s).2)
theorem pr_facts {D:Int} {l:List Ins} {ks ks':Ks} {i:Nat} {s:St} (hs:ks[i]?=some (some s)) (hl:ks.length=l.length) (h:prR D l ks i=.ok ks') :
  ∃ x,FxAt D l ks' i x s/\SubK ks ks'/\(targsR x.op.toNat x.args≠[]->deepR D 200 1000 (aftR x.op.toNat x.args s).2=false) /\
   (∀ (j:Nat) (t:St),ks'[j]?=some (some t)->ks[j]?=some (some t)\/(x.op.toNat≠10/\x.op.toNat≠15)/\t=(aftR x.op.toNat x.args s).1\/targsR x.op.toNat x.args≠[]/\t=(aftR x.op.toNat x.args s).2) /\
   ∀ d,prR d l ks i=if deepR d 200 1000 (aftR x.op.toNat x.args s).1=true\/targsR x.op.toNat x.args≠[]/\deepR d 200 1000 (aftR x.op.toNat x.args s).2=true then .error 12 else .ok ks':=by
 have hi:i<l.length:=by rw[<-hl]; exact (List.getElem?_eq_some_iff.1 hs).1
 obtain⟨x,hx⟩:∃ x,l[i]?=some x:=⟨_,zA6 hi⟩
 rw[prR_eq hx (kn_get hs)]at h
 have hall:∀ d,prR d l ks i=_:=fun d=>prR_eq hx (kn_get hs)
 cases hm:missR x.op.toNat x.args s.h with
 |true=>rw[hm,if_pos rfl]at h; cases h
 |false =>
  rw[hm,if_neg (by simp)]at h
  cases hd:disR x.op.toNat x.args s with
  |true=>rw[hd,if_pos rfl]at h; cases h
  |false =>
   rw[hd,if_neg (by simp)]at h
   unfold tl1 at h
   split at h
   ·cases h
   ·rename_i hnd
    have n1:deepR D 200 1000 (aftR x.op.toNat x.args s).1=false:=by
     cases hq:deepR D 200 1000 (aftR x.op.toNat x.args s).1 with
     |false=>rfl
     |true=>exact absurd (.inl hq) hnd
    have n2:targsR x.op.toNat x.args≠[]->deepR D 200 1000 (aftR x.op.toNat x.args s).2=false:=fun ht=>by
     cases hq:deepR D 200 1000 (aftR x.op.toNat x.args s).2 with
     |false=>rfl
     |true=>exact absurd (.inr ⟨ht,hq⟩) hnd
    have hpd:∀ d,prR d l ks i=if deepR d 200 1000 (aftR x.op.toNat x.args s).1=true\/targsR x.op.toNat x.args≠[]/\deepR d 200 1000 (aftR x.op.toNat x.args s).2=true then .error 12 else .ok ks':=fun d=>by
     rw[hall d,hm,if_neg (by simp),hd,if_neg (by simp),tl1,h]
    unfold tl2 at h
    split at h
    ·cases h
    ·rename_i hend
     cases hg:(if x.op.toNat≠10/\x.op.toNat≠15 then giveR ks (i+1) (aftR x.op.toNat x.args s).1 else some ks) with
     |none=>rw[hg,tl3]at h; cases h
     |some k1 =>
      rw[hg,tl3]at h
      have g1:SubK ks k1/\k1.length=ks.length/\(x.op.toNat≠10/\x.op.toNat≠15->k1[i+1]?=some (some (aftR x.op.toNat x.args s).1))/\∀ (j:Nat) (t:St),k1[j]?=some (some t)->ks[j]?=some (some t)\/(x.op.toNat≠10/\x.op.toNat≠15)/\t=(aftR x.op.toNat x.args s).1:=by
       split at hg
       ·rename_i hc
        obtain⟨a1,a2,a3⟩:=give_facts hg
        refine⟨a1,give_len hg,fun _=>a2 ?_,fun j t hj=>(a3 j t hj).imp id fun h=>⟨hc,h⟩⟩
        have:¬i+1=l.length:=fun e=>hend ⟨hc,e⟩
        omega
       ·rename_i hc
        simp only[Option.some.injEq]at hg
        subst hg
        exact⟨SubK.refl _,rfl,fun h=>absurd h hc,fun j t hj=>.inl hj⟩
      obtain⟨a1,a2,a3,a4⟩:=g1
      cases hgs:givesR k1 ((targsR x.op.toNat x.args).map fun t=>(findR l t).toNat) (aftR x.op.toNat x.args s).2 with
      |none=>rw[hgs]at h; cases h
      |some k2 =>
       rw[hgs]at h
       simp only[Except.ok.injEq]at h
       subst h
       obtain⟨b1,b2,b3⟩:=gives_facts hgs
       have hkl:=gives_len hgs
       refine⟨x,⟨hx,hm,hd,n1,fun hc=>b1 _ _ (a3 hc),fun t ht hlt=>b2 _ (zC4.2 ⟨t,ht,rfl⟩) (by omega)⟩,a1.trans b1,n2,fun j t hj=>?_,hpd⟩
       rcases b3 j t hj with h|h
       ·exact (a4 j t h).imp id .inl
       ·exact .inr (.inr ⟨fun e=>h.1 (by rw[e]; rfl),h.2⟩)
theorem deep_iff {D d:Int} {s:St} (h:deepR D 200 1000 s=false):deepR d 200 1000 s=decide (d<s.h):=by
 unfold deepR at h ⊢
 simp only[Bool.or_eq_false_iff]at h
 rw[h.1.2,h.2,Bool.or_false,Bool.or_false]
theorem aft_jr {op:Nat} {args:List Int} {s:St} (h:¬(op≠10/\op≠15)):(aftR op args s).1.h<=s.h:=by
 have:op=10\/op=15:=by omega
 rcases this with rfl|rfl
 ·show s.h-0+0<=s.h
  omega
 ·show s.h-1+0<=s.h
  omega
theorem pr_at {D:Int} {l:List Ins} {ks ks':Ks} {i:Nat} (h:prR D l ks i=.ok ks'):∃ s,ks[i]?=some (some s):=by
 cases hx:l[i]? with
 |none=>unfold prR procR at h; rw[hx]at h; cases h
 |some x =>
  cases hs:ks.getD i none with
  |none=>unfold prR procR at h; rw[hx,hs]at h; cases h
  |some s=>exact⟨s,kn_of hs⟩
theorem run_sub {D:Int} {l:List Ins}:∀ (n:Nat) {ks:Ks} {dn:List Bool} {ks':Ks},runR D l n ks dn=.ok ks'->ks.length=l.length->SubK ks ks'
 |0,_,_,_,h,_=>by
  rw[runR]at h
  simp only[Except.ok.injEq]at h
  exact h▸SubK.refl _
 |n+1,ks,dn,ks',h,hl=>by
  rw[runR]at h
  cases hn:nxtR ks dn with
  |none =>
   rw[hn]at h
   simp only[Except.ok.injEq]at h
   exact h▸SubK.refl _
  |some i =>
   simp only[hn]at h
   cases hp:prR D l ks i with
   |error e=>rw[hp]at h; cases h
   |ok k1 =>
    rw[hp]at h
    obtain⟨s,hs⟩:=pr_at hp
    obtain⟨x,_,hsub,_⟩:=pr_facts hs hl hp
    exact hsub.trans (run_sub n h (by rw[pr_len hp]; exact hl))
theorem run_le {D d:Int} {l:List Ins} (hst:∀ x∈l,∀ t∈targsR x.op.toNat x.args,0<=findR l t):∀ (n:Nat) {ks:Ks} {dn:List Bool} {ks':Ks},runR D l n ks dn=.ok ks'->ks.length=l.length->(∀ (j:Nat) (t:St),ks'[j]?=some (some t)->t.h<=d)->runR d l n ks dn=.ok ks'
 |0,_,_,_,h,_,_=>h
 |n+1,ks,dn,ks',h,hl,hall=>by
  rw[runR]at h ⊢
  cases hn:nxtR ks dn with
  |none=>rw[hn]at h; exact h
  |some i =>
   simp only[hn]at h
   cases hp:prR D l ks i with
   |error e=>rw[hp]at h; cases h
   |ok k1 =>
    rw[hp]at h
    obtain⟨s,hs⟩:=pr_at hp
    obtain⟨x,hfx,hsub,hd2,_,hpd⟩:=pr_facts hs hl hp
    have hk1:k1.length=l.length:=by rw[pr_len hp]; exact hl
    have hs1:=run_sub n h hk1
    have e:prR d l ks i=.ok k1:=by
     rw[hpd d,if_neg]
     rintro (h1|⟨h1,h2⟩)
     ·rw[deep_iff hfx.deep,decide_eq_true_eq]at h1
      by_cases hc:x.op.toNat≠10/\x.op.toNat≠15
      ·have:=hall _ _ (hs1 _ _ (hfx.next hc))
       omega
      ·have:=hall _ _ (hs1 _ _ (hsub _ _ hs))
       have:=aft_jr (args:=x.args) (s:=s) hc
       omega
     ·rw[deep_iff (hd2 h1),decide_eq_true_eq]at h2
      obtain⟨t,ht⟩:=List.exists_mem_of_ne_nil _ h1
      have:=hall _ _ (hs1 _ _ (hfx.targ t ht (by rw[hk1]; exact (find_lt (hst x (List.mem_of_getElem? hfx.ins) t ht)).2)))
      omega
    simp only[e]
    exact run_le hst n h hk1 hall
theorem run_gt {D d:Int} {l:List Ins}:∀ (n:Nat) {ks:Ks} {dn:List Bool} {ks':Ks},runR D l n ks dn=.ok ks'->ks.length=l.length->(∀ (j:Nat) (t:St),ks[j]?=some (some t)->t.h<=d)->(∃ (j:Nat) (t:St),ks'[j]?=some (some t)/\d<t.h)->∃ p,runR d l n ks dn=.error (12,p)
 |0,_,_,_,h,_,hall,⟨j,t,hj,ht⟩=>by
  rw[runR]at h
  simp only[Except.ok.injEq]at h
  subst h
  have:=hall j t hj
  omega
 |n+1,ks,dn,ks',h,hl,hall,hex=>by
  rw[runR]at h ⊢
  cases hn:nxtR ks dn with
  |none =>
   rw[hn]at h
   simp only[Except.ok.injEq]at h
   subst h
   obtain⟨j,t,hj,ht⟩:=hex
   have:=hall j t hj
   omega
  |some i =>
   simp only[hn]at h
   cases hp:prR D l ks i with
   |error e=>rw[hp]at h; cases h
   |ok k1 =>
    rw[hp]at h
    obtain⟨s,hs⟩:=pr_at hp
    obtain⟨x,hfx,hsub,hd2,hnew,hpd⟩:=pr_facts hs hl hp
    have hk1:k1.length=l.length:=by rw[pr_len hp]; exact hl
    have e:=hpd d
    by_cases hc:deepR d 200 1000 (aftR x.op.toNat x.args s).1=true\/targsR x.op.toNat x.args≠[]/\deepR d 200 1000 (aftR x.op.toNat x.args s).2=true
    ·rw[if_pos hc]at e
     simp only[e]
     exact⟨_,rfl⟩
    ·rw[if_neg hc]at e
     simp only[e]
     refine run_gt n h hk1 (fun j t hj=>?_) hex
     rcases hnew j t hj with h1|⟨_,rfl⟩|⟨h2,rfl⟩
     ·exact hall j t h1
     ·have:¬deepR d 200 1000 (aftR x.op.toNat x.args s).1=true:=fun h=>hc (.inl h)
      rw[deep_iff hfx.deep,decide_eq_true_eq]at this
      omega
     ·have:¬deepR d 200 1000 (aftR x.op.toNat x.args s).2=true:=fun h=>hc (.inr ⟨h2,h⟩)
      rw[deep_iff (hd2 h2),decide_eq_true_eq]at this
      omega
theorem stat_targ {l:List Ins} {cn:Nat} (h:statR l cn=none):∀ x∈l,∀ t∈targsR x.op.toNat x.args,0<=findR l t:=fun x hx t ht=>by
 rw[statR,List.findSome?_eq_none_iff]at h
 have:=h x hx
 unfold statO at this
 split at this
 ·cases this
 split at this
 ·cases this
 split at this
 ·cases this
 ·rename_i hn
  have h1:¬findR l t<0:=fun hlt=>hn (List.any_eq_true.2 ⟨t,ht,decide_eq_true hlt⟩)
  omega
theorem ent_get {n:Nat} {s:St} {j:Nat} {t:St} (h:((List.replicate n (none:Option St)).set 0 (some s))[j]?=some (some t)):t=s:=by
 rw[List.getElem?_set]at h
 split at h
 ·split at h
  ·simp only[Option.some.injEq]at h
   exact h.symm
  ·cases h
 ·rw[List.getElem?_replicate]at h
  split at h<;>cases h
theorem ver_ok {least most D:Int} {cn:Nat} {bs:List UInt8} {ks:Ks} (h:verR least most D cn bs=.ok ks) :
  headR least most D cn=false/\badA bs=none/\insA bs≠[]/\statR (insA bs) cn=none/\deepR D 200 1000 (entS (entR least most))=false /\
   runR D (insA bs) ((insA bs).length+1) ((List.replicate (insA bs).length none).set 0 (some (entS (entR least most)))) (List.replicate (insA bs).length false)=.ok ks:=by
 unfold verR at h
 split at h
 ·cases h
 rename_i h1
 split at h
 ·cases h
 rename_i h2
 split at h
 ·cases h
 rename_i h3
 split at h
 ·cases h
 rename_i h4
 split at h
 ·cases h
 rename_i h5
 exact⟨by simpa using h1,h2,h3,h4,by simpa using h5,h⟩
theorem head_depth {least most D d cn:Int} (h:headR least most D cn=false) (h1:0<=d) (h2:d<=1000):headR least most d cn=false:=by
 unfold headR at h ⊢
 simp only[Bool.or_eq_false_iff]at h ⊢
 exact⟨⟨⟨h.1.1.1,decide_eq_false (by omega)⟩,decide_eq_false (by omega)⟩,h.2⟩
theorem ver_le {least most D d:Int} {cn:Nat} {bs:List UInt8} {ks:Ks} (h:verR least most D cn bs=.ok ks) (h1:0<=d) (h2:d<=1000) (hall:∀ (j:Nat) (t:St),ks[j]?=some (some t)->t.h<=d):verR least most d cn bs=.ok ks:=by
 obtain⟨a1,a2,a3,a4,a5,a6⟩:=ver_ok h
 have hl:((List.replicate (insA bs).length (none:Option St)).set 0 (some (entS (entR least most)))).length=(insA bs).length:=by rw[List.length_set,List.length_replicate]
 have hpos:0<(insA bs).length:=List.length_pos_iff.2 a3
 have he:(entS (entR least most)).h<=d:=hall 0 _ (run_sub _ a6 hl 0 _ (by rw[List.getElem?_set_self (by rw[List.length_replicate]; exact hpos)]))
 unfold verR
 rw[head_depth a1 h1 h2,if_neg (by simp),a2]
 simp only
 rw[if_neg a3,a4]
 simp only
 rw[deep_iff a5,if_neg (by rw[decide_eq_true_eq]; omega)]
 exact run_le (stat_targ a4) _ a6 hl hall
theorem ver_gt {least most D d:Int} {cn:Nat} {bs:List UInt8} {ks:Ks} (h:verR least most D cn bs=.ok ks) (h1:0<=d) (h2:d<=1000) (hex:∃ (j:Nat) (t:St),ks[j]?=some (some t)/\d<t.h):∃ p,verR least most d cn bs=.error (12,p):=by
 obtain⟨a1,a2,a3,a4,a5,a6⟩:=ver_ok h
 have hl:((List.replicate (insA bs).length (none:Option St)).set 0 (some (entS (entR least most)))).length=(insA bs).length:=by rw[List.length_set,List.length_replicate]
 unfold verR
 rw[head_depth a1 h1 h2,if_neg (by simp),a2]
 simp only
 rw[if_neg a3,a4]
 simp only
 rw[deep_iff a5]
 by_cases hd:d<(entS (entR least most)).h
 ·rw[if_pos (decide_eq_true hd)]
  exact⟨_,rfl⟩
 ·rw[if_neg (by rw[decide_eq_true_eq]; exact hd)]
  refine run_gt _ a6 hl (fun j t hj=>?_) hex
  rw[ent_get hj]
  omega
theorem ver_neg {least most d:Int} {cn:Nat} {bs:List UInt8} (h1:d<0):verR least most d cn bs=.error (3,0):=by
 have:headR least most d cn=true:=by
  unfold headR
  rw[decide_eq_true h1]
  simp
 rw[verR,if_pos this]
theorem run_bd {D:Int} {l:List Ins} (hw:∀ x∈l,WfI x) (hd:D<=1000):∀ (n:Nat) {ks:Ks} {dn:List Bool} {ks':Ks},runR D l n ks dn=.ok ks'->KsOk ks->KsOk ks'
 |0,_,_,_,h,hk=>by
  rw[runR]at h
  simp only[Except.ok.injEq]at h
  exact h▸hk
 |n+1,ks,dn,ks',h,hk=>by
  rw[runR]at h
  cases hn:nxtR ks dn with
  |none =>
   rw[hn]at h
   simp only[Except.ok.injEq]at h
   exact h▸hk
  |some i =>
   simp only[hn]at h
   cases hp:prR D l ks i with
   |error e=>rw[hp]at h; cases h
   |ok k1 =>
    rw[hp]at h
    exact run_bd hw hd n h (pr_ok hw hk hd hp)
theorem head_bd {least most D cn:Int} (h:headR least most D cn=false):0<=least/\least<=255/\0<=D/\D<=1000/\0<=entR least most/\entR least most<=256/\cn<=65536:=by
 unfold headR at h
 simp only[Bool.or_eq_false_iff,decide_eq_false_iff_not,Bool.and_eq_false_iff,Decidable.not_not]at h
 unfold entR
 split<;>omega
theorem ver_bd {least most D:Int} {cn:Nat} {bs:List UInt8} {ks:Ks} (h:verR least most D cn bs=.ok ks):KsOk ks:=by
 obtain⟨a1,a2,a3,a4,a5,a6⟩:=ver_ok h
 have hb:=head_bd a1
 refine run_bd (ins_wf a2) hb.2.2.2.1 _ a6 fun j t hj=>?_
 rw[ent_get hj]
 exact⟨hb.2.2.2.2.1,by show entR least most<=1000; omega,by show (0:Int)<=0; decide,by show (0:Int)<=1000; decide,by show 0<=200; decide,fun f hf=>(by cases hf)⟩
def topH (hs:List Int):Int:=hs.foldl max 0
theorem fold_le:∀ (hs:List Int) (a:Int),a<=hs.foldl max a/\∀ h∈hs,h<=hs.foldl max a
 |[],a=>⟨Int.le_refl _,fun h hh=>by cases hh⟩
 |x::r,a=>by
  obtain⟨h1,h2⟩:=fold_le r (max a x)
  rw[List.foldl_cons]
  refine⟨by omega,fun h hh=>?_⟩
  rcases zA9.1 hh with rfl|hh
  ·omega
  ·exact h2 h hh
theorem fold_mem:∀ (hs:List Int) (a:Int),hs.foldl max a=a\/hs.foldl max a∈hs
 |[],a=>.inl rfl
 |x::r,a=>by
  rw[List.foldl_cons]
  rcases fold_mem r (max a x) with h|h
  ·rw[h]
   rcases Int.le_total a x with hle|hle
   ·right
    rw[Int.max_eq_right hle]
    exact zB7 ..
   ·left
    rw[Int.max_eq_left hle]
  ·exact .inr (zB6 _ h)
theorem hgh_mem {ks:Ks} {j:Nat} {t:St} (h:ks[j]?=some (some t)):t.h∈hghR ks:=by
 rw[hghR,zC4]
 exact⟨some t,List.mem_of_getElem? h,rfl⟩
theorem top_le {ks:Ks} {j:Nat} {t:St} (h:ks[j]?=some (some t)):t.h<=topH (hghR ks):=(fold_le _ 0).2 _ (hgh_mem h)
theorem top_nn (hs:List Int):0<=topH hs:=(fold_le hs 0).1
theorem top_at {ks:Ks} (h:topH (hghR ks)≠0):∃ (j:Nat) (t:St),ks[j]?=some (some t)/\t.h=topH (hghR ks):=by
 rcases fold_mem (hghR ks) 0 with h1|h1
 ·exact absurd h1 h
 ·have hnn:=top_nn (hghR ks)
  have h1':topH (hghR ks)∈hghR ks:=h1
  have h2:=h1'
  rw[hghR,zC4]at h2
  obtain⟨o,ho,he⟩:=h2
  cases o with
  |none =>
   have he':(-1:Int)=topH (hghR ks):=he
   omega
  |some t =>
   obtain⟨j,hj,hjj⟩:=List.getElem_of_mem ho
   exact⟨j,t,by rw[zA6 hj,hjj],he⟩
theorem deeper_law {least most:Int} {cn:Nat} {bs:List UInt8} {ks:Ks} (h:verR least most 1000 cn bs=.ok ks) :
  topH (hghR ks)<=1000/\(∀ d,topH (hghR ks)<=d->d<=1000->verR least most d cn bs=.ok ks)/\∃ p,verR least most (topH (hghR ks)-1) cn bs=.error (if topH (hghR ks)=0 then 3 else 12,p):=by
 have hnn:=top_nn (hghR ks)
 have hbd:∀ (j:Nat) (t:St),ks[j]?=some (some t)->t.h<=1000:=fun j t hj=>by
  have:=ver_bd h j t hj
  exact this.2.1
 have h1:topH (hghR ks)<=1000:=by
  by_cases h0:topH (hghR ks)=0
  ·omega
  ·obtain⟨j,t,hj,ht⟩:=top_at h0
   have:=hbd j t hj
   omega
 refine⟨h1,fun d h2 h3=>ver_le h (by omega) h3 fun j t hj=>by have:=top_le hj; omega,?_⟩
 by_cases h0:topH (hghR ks)=0
 ·rw[if_pos h0]
  exact⟨0,ver_neg (by omega)⟩
 ·rw[if_neg h0]
  obtain⟨j,t,hj,ht⟩:=top_at h0
  exact ver_gt h (by omega) (by omega) ⟨j,t,hj,by omega⟩
set_option maxRecDepth 100000
theorem opsK_more {c:UInt8} {ks:List UInt8} {args:List Int} {i:Nat} (h1:i<ks.length) (h2:i<args.length):opsK c (ks.drop i) (args.drop i)=(if ks.getD i 0=c then [args.getD i 0] else [])++opsK c (ks.drop (i+1)) (args.drop (i+1)):=by
 rw[List.drop_eq_getElem_cons h1,List.drop_eq_getElem_cons h2,opsK_cons,zB1,zB1,zA6 h1,zA6 h2]
 rfl
theorem opsK_len (c:UInt8):∀ (ks:List UInt8) (args:List Int),(opsK c ks args).length<=args.length
 |[],args=>by simp[opsK]
 |_::_,[]=>by simp[opsK]
 |k::ks,a::args=>by
  have:=opsK_len c ks args
  rw[opsK_cons,zC8,zA8]
  split<;>simp<;>omega
theorem operands96_c (H:AHeap) (pos:Int) (op:Nat) (av:Value) (args:List Int) (c:UInt8) (hop:op<28) (ha:RdAt H 1 av (iv args) args.length) (hal:args.length<=1000000) (hk:args.length=(kindsR op args).length) (hcn:cntR op args<=1000000) (hsv:scb H.next av=true) (hok:H.base<=H.next) :
  CallA Tryz.prog 96 [.agg ⟨[.int .i64 pos,.int .i64 (op:Int),av]⟩,.int .u8 (c.toNat:Int)] H (fun out X=>∃ w,out=.ok w/\ArgA X w (opsK c (kindsR op args) args)/\Mod [] H X/\∀ n∈idsV w,H.next<=n):=by
 obtain⟨b,hb⟩:=Go.Ax.exq H.next
 have hbase:H.base<=b:=hb▸hok
 obtain⟨a0,c0,e0⟩:=ha.sl
 refine callE_fn mixed Tryz.func96 rfl Tryz.ntmps96 (zB3 rfl) ?_
 rw[hb]
 have hsc0:=hsv
 rw[hb,e0]at hsc0
 obtain⟨f,ca,Fk,hkv,hkb,hkF,hkc⟩:=kinds_c (b+1) op hop
 obtain⟨nm,hnm⟩:∃ nm,(shV (b+1))[2*op]?=some nm:=⟨_,zA6 (by rw[sh_len]; omega)⟩
 have hix:=ix114 hop hnm hkv
 rw[e0]
 simp only[hb,hsc0,ruW,ruU,entryE,Nat.reduceLT,Nat.reduceAdd,Nat.reduceEqDiff]
 refine w_drawB [(3,0),(4,0),(7,0),(7,6),(7,2)] [] (by kernel_rfl) (by kernel_rfl) rfl fun ops anc hA hG=>?_
 simp only[all2_cons]at hA
 simp only[ruD]
 refine genV_ext (v:=.agg ⟨shV (b+1)⟩) (M:=shB (b+1)) [] rfl (by kernel_rfl) (by decide) (by simp) (fun G hG _=>?_) (by simp[Meets]) ?_
 ·have:=shapes_c G
  rw[hG,ext_next,hb]at this
  simp only[ruU]
  exact this
 generalize hX:ext (ext H _) _=X
 have mX:Mod [] H X:=by
  rw[<-hX]
  exact (Mod.ext (by rw[hb]; exact hbase)).trans (Mod.ext (by rw[ext_base,ext_next,hb]; omega))
 have nX:X.next=b+28:=by rw[<-hX,ext_next,ext_next,hb]; rfl
 have kX:bk X (b+0)=some ⟨59,false,[.int .i64 pos,.int .i64 (op:Int),.slice a0 args.length c0]⟩:=by
  rw[<-hX,bk_old (by rw[ext_next,hb]; simp),bk_at hb (by simp)]
  rfl
 have sX:ShAt X (b+1):=by
  have:=ShAt.new (H:=ext H [⟨59,false,[.int .i64 pos,.int .i64 (op:Int),.slice a0 args.length c0]⟩]) (L:=[])
  rw[ext_nil,ext_next,hb]at this
  rw[<-hX]
  exact this
 have haX:=ha.mod0 mX
 clear hX
 rw[show X=ext X [] from rfl,ext_next,hb,zC9]
 have hbx:b+0<b+28:=by omega
 have hmt:b+0<b+1:=by omega
 simp only[nX,kX,hbx,hmt,hix,hA,qk_old,ruD,ruW,xF,ruU,Nat.reduceLT,Nat.reduceAdd,Nat.reduceEqDiff]
 refine⟨.inr fun _ n hn=>.inl (by have:=ids_of_scb _ hsc0 n hn; omega),?_⟩
 have okX:=mX.ok (by rw[hb]; exact hbase)
 rw[e0]at haX
 obtain⟨FF,hFF⟩:=Go.Ax.exq (Fk++rdF (.slice a0 args.length c0) args.length)
 have hFn:∀ k∈FF,X.get k≠none:=fun k hk=>by
  rw[<-hFF]at hk
  rcases zC0.1 hk with hk|hk
  ·obtain⟨h1,h2⟩:=hkF k hk
   obtain⟨j,rfl⟩:∃ j,k=b+1+j:=⟨k-(b+1),by omega⟩
   have hj:j<(shB (b+1)).length:=by simp[shB]; omega
   exact bk_ne (sX j _ (zA6 hj)).1
  ·exact (haX.ne k hk).1
 refine genV_quietV (v:=.string ⟨(kindsR op args).toArray⟩) (f:=f) (ca:=ca) FF rfl rfl rfl hkb (by decide) hFn (fun G h1 h2=>?_) (by simp only[all2_cons,all2_nil,Meets,hA,true_or,and_true]) ?_
 ·simp only[ruU]
  refine hkc G (.slice a0 args.length c0) args (fun i b' h3 h4=>?_) (haX.of (Nat.le_of_eq h1.symm) fun k hk=>h2 k (hFF▸List.mem_append_right _ hk)) hcn
  obtain⟨q1,q2⟩:=sX i b' h3
  have hg:=h2 (b+1+i) (hFF▸List.mem_append_left _ h4)
  exact⟨(bk_get hg).trans q1,by show _<G.next; rw[h1]; exact q2⟩
 simp only[nX,ruD,ruW,ruU,Nat.reduceLT,Nat.reduceAdd]
 refine⟨fun _=>.inr fun n hn=>by simp[idsV]at hn,?_⟩
 obtain⟨ks,hks⟩:=Go.Ax.exq (kindsR op args)
 rw[hks]at hk ⊢
 simp only[bt_lenStr u9,bytes_size,ruW,ruU,Nat.reduceLT]
 refine w_env fun E hE=>?_
 have g1:E 1=.int .u8 (c.toNat:Int):=by rw[hE]; rfl
 have g2:E 2=.pointer (some ⟨b+0,0,none⟩):=by rw[hE]; rfl
 have g5:E 5=.slice none 0 0:=by rw[hE]; rfl
 have g6:E 6=.string (bs ks):=by rw[hE]; rfl
 have g17:E 17=.int .i64 (ks.length:Int):=by rw[hE]; rfl
 have g18:E 18=.int .i64 ((0:Nat):Int):=by rw[hE]; rfl
 clear hE
 refine w_loop (fun (z:Nat × List Int × Value) E' X'=>Mod [] X X'/\ArgA X' z.2.2 z.2.1/\(∀ n∈idsV z.2.2,b+28<=n)/\z.2.1++opsK c (ks.drop z.1) (args.drop z.1)=opsK c ks args/\z.1<=ks.length/\z.2.1.length<=z.1/\E' 1=.int .u8 (c.toNat:Int)/\E' 2=.pointer (some ⟨b+0,0,none⟩)/\E' 5=z.2.2/\E' 6=.string (bs ks)/\E' 17=.int .i64 (ks.length:Int)/\E' 18=.int .i64 (z.1:Int)) (fun z=>ks.length-z.1) (0,[],.slice none 0 0)
  ⟨Mod.refl,VsAt.nil,fun n hn=>by simp[idsV]at hn,rfl,zB5 _,zB5 _,g1,g2,g5,g6,g17,g18⟩ ?_
 clear g1 g2 g5 g6 g17 g18 E
 rintro⟨j,out,w⟩ E Y ⟨mY,hw,hwi,hev,hj,hol,g1,g2,g5,g6,g17,g18⟩
 simp only at hw hwi hev hj hol g5 g18
 obtain⟨y,hy⟩:=Go.Ax.exq Y.next
 have okY:=mY.ok okX
 have hyb:Y.base<=y:=hy▸okY
 have ly:b+28<=y:=by have:=mY.next; omega
 have hby:b+0<y:=by omega
 have kY:=(mY.bk (by omega) (by simp)).trans kX
 obtain⟨wa,ew⟩:=VsAt.len hw
 have mHY:=mX.trans mY
 rw[show Y=ext Y [] from rfl]
 by_cases hje:j=ks.length
 ·have hd:decide ((j:Int)<(ks.length:Int))=false:=decide_eq_false (by omega)
  rw[List.drop_of_length_le (by omega),opsK_nil,zE3]at hev
  rw[ew]at g5
  simp only[g5,g17,g18,hd,Tryz.results96,ruW,ruU,Nat.reduceLT,Nat.reduceEqDiff]
  refine⟨w,by rw[ew],by rw[<-hev]; exact hw,mHY,fun q hq=>by have:=hwi q hq; omega⟩
 ·have hjl:j<ks.length:=by omega
  have hd:decide ((j:Int)<(ks.length:Int))=true:=decide_eq_true (by omega)
  have hja:j<args.length:=by omega
  rw[opsK_more hjl hja]at hev
  have hwj:IntKind.i64.wrap ((j:Int)+1)=((j+1:Nat):Int):=wrap_succ (by omega)
  have hib:=ix_bs (l:=ks) hjl
  obtain⟨dk,hdk⟩:∃ d,decide (((ks.getD j 0).toNat:Int)=(c.toNat:Int))=d:=⟨_,rfl⟩
  cases dk with
  |false =>
   have hne:=of_decide_eq_false hdk
   rw[if_neg (fun e=>hne (by rw[e]))]at hev
   simp only[g1,g6,g17,g18,hd,hib,hdk,hwj,ruW,ruU,Nat.reduceLT,Nat.reduceEqDiff]
   refine loopC_next ⟨(j+1,out,w),by simp only; omega,mY,hw,hwi,hev,by simp only; omega,by simp only; omega,?_,?_,?_,?_,?_,?_⟩
   all_goals simp only[g1,g2,g5,g6,g17,ruU,Nat.reduceEqDiff]
  |true =>
   have he:ks.getD j 0=c:=UInt8.toNat_inj.1 (by have:=of_decide_eq_true hdk; omega)
   rw[if_pos he]at hev
   obtain⟨n,off,s,cc,e,o,M,e2,n1,r1,m1⟩:=(haX.mod0 mY).one hja
   simp only[Value.slice.injEq]at e2
   obtain⟨ea,-,ec⟩:=e2
   rw[ea]at kY
   rw[iv_get,zA6 hja,zA5]at m1
   have hg:args.getD j 0=args[j]:=by rw[zB1,zA6 hja]; rfl
   rw[hg]at hev
   have i1:=ia_of (P:=Tryz.prog) (k:=.i64) (i:=j) (n:=n) (off:=off) (len:=args.length) (cap:=c0) (s:=s) u35 s3 hja
   rw[zC7]at i1
   rw[hy]at n1
   obtain⟨xa,hxa⟩:=Go.Ax.exq (args[j])
   rw[hxa]at m1 hev
   obtain⟨G,k1,vG,mG,nG⟩:=int_app hw hy okY (by omega) xa
   have hwx:∀ q∈idsV w,b+28<=q/\q<y:=fun q hq=>⟨hwi q hq,hy▸(hw.ne q hq).2⟩
   have mXG:Mod [] X G:=mY.step mG okX fun q hq=>.inr (by have:=hwx q hq; omega)
   simp only[g1,g2,g5,g6,g17,g18,hy,hby,kY,hd,hib,hdk,hwj,i1,n1,r1,m1,k1,qk_old,ruW,xF,ruU,Nat.reduceLT,Nat.reduceAdd,Nat.reduceEqDiff]
   refine loopC_next ⟨(j+1,out++[xa],.slice (some ⟨y+1,0,none⟩) (out.length+1) (out.length+1)),by simp only; omega,mXG,vG,fun q hq=>by simp only[idsV,zA7]at hq; omega,by simp only; rw[List.append_assoc]; exact hev,by simp only; omega,by simp only[zC8,zC9]; omega,?_,?_,?_,?_,?_,?_⟩
   all_goals simp only[g1,g2,g6,g17,ruU,Nat.reduceEqDiff]
set_option maxRecDepth 100000
theorem nan148_c (H:AHeap) (x:Int):Pure 148 [.int .i64 x] H (.bool false):=by
 refine callS_fn mixed Tryz.func148 rfl Tryz.ntmps148 (zB3 rfl) fun wf hsc=>?_
 have hz0:∀ i:Decidable (¬True),@decide (¬True) i=false:=fun i=>by simp
 simp only[hz0,Tryz.results148,ruW,ruU,entryE,Nat.reduceLT,Nat.reduceEqDiff]
 exact Fin.pureE rfl rfl
theorem nan120_c (H:AHeap) (x:Int):Pure 120 [.int .i64 x] H (.bool false):=by
 refine callS_fn mixed Tryz.func120 rfl Tryz.ntmps120 (zB3 rfl) fun wf hsc=>?_
 have hz0:∀ i:Decidable (¬True),@decide (¬True) i=false:=fun i=>by simp
 simp only[hz0,Tryz.results120,ruW,ruU,entryE,Nat.reduceLT,Nat.reduceEqDiff]
 exact Fin.pureE rfl rfl
theorem less119_c (H:AHeap) (x y:Int):Pure 119 [.int .i64 x,.int .i64 y] H (.bool (decide (x<y))):=by
 refine callS_fn mixed Tryz.func119 rfl Tryz.ntmps119 (zB3 rfl) fun wf hsc=>?_
 simp only[ruW,xF,ruU,entryE,Nat.reduceLT,Nat.reduceAdd,Nat.reduceEqDiff]
 refine (nan148_c (ext H _) x).to ?_
 obtain⟨d,hd⟩:=Go.Ax.exq (decide (x<y))
 rw[hd]
 simp only[hd,Tryz.results119,ruW,ruU,Nat.reduceLT,Nat.reduceEqDiff]
 exact Fin.pureE rfl rfl
def idxR (p:Int->Bool) (l:List Int):Int:=match l.findIdx? p with
 |some i=>(i:Int)
 |none=>-1
theorem idx_at {p:Int->Bool} {l:List Int} {i:Nat} (h:i<l.length) (hx:p l[i]=true) (hb:∀ k (hk:k<i),p (l[k]'(by omega))=false):idxR p l=(i:Int):=by
 have:l.findIdx? p=some i:=by
  rw[List.findIdx?_eq_some_iff_getElem]
  exact⟨h,hx,fun j hj=>by rw[hb j hj]; simp⟩
 rw[idxR,this]
theorem idx_not {p:Int->Bool} {l:List Int} (hb:∀ k (hk:k<l.length),p l[k]=false):idxR p l=-1:=by
 have:l.findIdx? p=none:=by
  rw[List.findIdx?_eq_none_iff]
  intro x hx
  obtain⟨k,hk,e⟩:=List.mem_iff_getElem.1 hx
  rw[<-e]
  exact hb k hk
 rw[idxR,this]
theorem idx_any (p:Int->Bool) (l:List Int):decide (0<=idxR p l)=l.any p:=by
 unfold idxR
 cases h:l.findIdx? p with
 |none =>
  rw[List.findIdx?_eq_none_iff]at h
  have:l.any p=false:=by
   rw[List.any_eq_false]
   exact fun x hx=>by rw[h x hx]; simp
  rw[this]; rfl
 |some i =>
  obtain⟨h1,h2,_⟩:=List.findIdx?_eq_some_iff_getElem.1 h
  rw[List.any_eq_true.2 ⟨_,List.getElem_mem h1,h2⟩]
  exact decide_eq_true (by simp only; omega)
theorem index151_c (H:AHeap) (v:Value) (l:List Int) (x:Int) (hv:RdAt H 1 v (iv l) l.length) (hl:l.length<=1000000):Pure 151 [v,.int .i64 x] H (.int .i64 (idxR (fun y=>decide (y=x)) l)):=by
 obtain⟨b,hb⟩:=Go.Ax.exq H.next
 obtain⟨a0,c0,e0⟩:=hv.sl
 refine callS_fn mixed Tryz.func151 rfl Tryz.ntmps151 (zB3 rfl) fun wf hsc=>?_
 rw[e0]
 simp only[ruW,xF,ruU,entryE,Nat.reduceLT,Nat.reduceAdd,Nat.reduceEqDiff]
 refine w_env fun E hE=>?_
 have g0:E 0=v:=by rw[hE,e0]; simp only[ruU,Nat.reduceEqDiff]
 have g1:E 1=.int .i64 x:=by rw[hE]; rfl
 have g7:E 7=.int .i64 (l.length:Int):=by rw[hE]; rfl
 have g8:E 8=.int .i64 ((0:Nat):Int):=by rw[hE]; rfl
 clear hE
 refine w_loop (fun (j:Nat) E' H'=>H'=ext H []/\j<=l.length/\(∀ k (hk:k<l.length),k<j->decide (l[k]=x)=false)/\E' 0=v/\E' 1=.int .i64 x/\E' 7=.int .i64 (l.length:Int)/\E' 8=.int .i64 (j:Int)) (fun j=>l.length-j) 0 ⟨rfl,zB5 _,fun k _ hk=>absurd hk (by omega),g0,g1,g7,g8⟩ ?_
 clear g0 g1 g7 g8 E
 rintro j E H' ⟨hH,hj,hall,g0,g1,g7,g8⟩
 rw[hH]
 by_cases hje:j=l.length
 ·have hd:decide ((j:Int)<(l.length:Int))=false:=decide_eq_false (by omega)
  simp only[g7,g8,hd,Tryz.results151,ruW,ruU,Nat.reduceLT]
  rw[idx_not fun k hk=>hall k hk (by omega)]
  exact Fin.pureE rfl rfl
 ·have hjl:j<l.length:=by omega
  have hd:decide ((j:Int)<(l.length:Int))=true:=decide_eq_true (by omega)
  obtain⟨n,off,s,c,e,o,M,e1,n1,r1,m1⟩:=hv.one hjl
  rw[e1]at g0
  have i1:=ia_of (P:=Tryz.prog) (k:=.i64) (i:=j) (n:=n) (off:=off) (len:=l.length) (cap:=c) (s:=s) u35 s3 hjl
  rw[zC7]at i1
  rw[iv_get,zA6 hjl,zA5]at m1
  rw[hb]at n1
  have hwj:IntKind.i64.wrap ((j:Int)+1)=((j+1:Nat):Int):=wrap_succ (by omega)
  obtain⟨xa,hxa⟩:=Go.Ax.exq (l[j])
  rw[hxa]at m1
  obtain⟨d,hdd⟩:=Go.Ax.exq (decide (x=xa))
  simp only[g0,g1,g7,g8,hb,hd,i1,n1,r1,m1,hdd,qk_old,ruW,xF,ruU,Nat.reduceLT,Nat.reduceEqDiff]
  cases d with
  |true =>
   have:=of_decide_eq_true hdd
   simp only[Tryz.results151,ruW,ruU,Nat.reduceLT,Nat.reduceEqDiff]
   rw[idx_at hjl (by rw[hxa]; exact decide_eq_true this.symm) fun k hk=>hall k (by omega) hk]
   exact Fin.pureE rfl rfl
  |false =>
   have hne:=of_decide_eq_false hdd
   simp only[g8,hwj,ruW,ruU,Nat.reduceLT,Nat.reduceEqDiff]
   refine loopC_next ⟨j+1,by omega,rfl,by omega,fun k hk hkj=>?_,?_,?_,?_,?_⟩
   ·by_cases hkk:k=j
    ·subst hkk; rw[hxa]; exact decide_eq_false fun e=>hne e.symm
    ·exact hall k hk (by omega)
   ·rw[e1]; simp only[g0,ruU,Nat.reduceEqDiff]
   ·exact g1
   ·exact g7
   ·rfl
theorem contains128_c (H:AHeap) (v:Value) (l:List Int) (x:Int) (hv:RdAt H 1 v (iv l) l.length) (hl:l.length<=1000000):Pure 128 [v,.int .i64 x] H (.bool (l.any fun y=>decide (y=x))):=by
 obtain⟨a0,c0,e0⟩:=hv.sl
 have hc:=index151_c (ext H []) v l x hv hl
 refine callS_fn mixed Tryz.func128 rfl Tryz.ntmps128 (zB3 rfl) fun wf hsc=>?_
 rw[e0]at hc ⊢
 simp only[ruW,xF,ruU,entryE,Nat.reduceLT,Nat.reduceAdd,Nat.reduceEqDiff]
 refine hc.to ?_
 rw[<-idx_any]
 simp only[Tryz.results128,ruW,ruU,Nat.reduceLT]
 exact Fin.pureE rfl rfl
theorem high126_c (H:AHeap) (x h:Int) (m:Nat) (hm:bk H m=some ⟨3,false,[.int .i64 h]⟩) (hl:m<H.next):Pure 126 [.int .i64 x,.pointer (some ⟨m,0,none⟩)] H (.bool (decide (h<=x))):=by
 obtain⟨b,hb⟩:=Go.Ax.exq H.next
 rw[hb]at hl
 refine callS_fn mixed Tryz.func126 rfl Tryz.ntmps126 (zB3 rfl) fun wf hsc=>?_
 simp only[hb,hm,hl,qk_old,Tryz.results126,ruW,xF,ruU,entryE,Nat.reduceLT,Nat.reduceAdd,Nat.reduceEqDiff]
 exact Fin.pureE rfl rfl
theorem indexF150_c (H:AHeap) (v:Value) (l:List Int) (h:Int) (m:Nat) (hv:RdAt H 1 v (iv l) l.length) (hl:l.length<=1000000) (hm:bk H m=some ⟨3,false,[.int .i64 h]⟩) (hlt:m<H.next):Pure 150 [v,.func (.func 126) ⟨[]⟩ ⟨[.pointer (some ⟨m,0,none⟩)]⟩] H (.int .i64 (idxR (fun y=>decide (h<=y)) l)):=by
 obtain⟨b,hb⟩:=Go.Ax.exq H.next
 obtain⟨a0,c0,e0⟩:=hv.sl
 refine callS_fn mixed Tryz.func150 rfl Tryz.ntmps150 (zB3 rfl) fun wf hsc=>?_
 rw[e0]
 simp only[ruW,xF,ruU,entryE,Nat.reduceLT,Nat.reduceAdd,Nat.reduceEqDiff]
 refine w_env fun E hE=>?_
 have g0:E 0=v:=by rw[hE,e0]; simp only[ruU,Nat.reduceEqDiff]
 have g1:E 1=.func (.func 126) ⟨[]⟩ ⟨[.pointer (some ⟨m,0,none⟩)]⟩:=by rw[hE]; rfl
 have g7:E 7=.int .i64 (l.length:Int):=by rw[hE]; rfl
 have g8:E 8=.int .i64 ((0:Nat):Int):=by rw[hE]; rfl
 clear hE
 refine w_loop (fun (j:Nat) E' H'=>H'=ext H []/\j<=l.length/\(∀ k (hk:k<l.length),k<j->decide (h<=l[k])=false)/\E' 0=v/\E' 1=.func (.func 126) ⟨[]⟩ ⟨[.pointer (some ⟨m,0,none⟩)]⟩/\E' 7=.int .i64 (l.length:Int)/\E' 8=.int .i64 (j:Int)) (fun j=>l.length-j) 0 ⟨rfl,zB5 _,fun k _ hk=>absurd hk (by omega),g0,g1,g7,g8⟩ ?_
 clear g0 g1 g7 g8 E
 rintro j E H' ⟨hH,hj,hall,g0,g1,g7,g8⟩
 rw[hH]
 by_cases hje:j=l.length
 ·have hd:decide ((j:Int)<(l.length:Int))=false:=decide_eq_false (by omega)
  simp only[g7,g8,hd,Tryz.results150,ruW,ruU,Nat.reduceLT]
  rw[idx_not fun k hk=>hall k hk (by omega)]
  exact Fin.pureE rfl rfl
 ·have hjl:j<l.length:=by omega
  have hd:decide ((j:Int)<(l.length:Int))=true:=decide_eq_true (by omega)
  obtain⟨n,off,s,c,e,o,M,e1,n1,r1,m1⟩:=hv.one hjl
  rw[e1]at g0
  have i1:=ia_of (P:=Tryz.prog) (k:=.i64) (i:=j) (n:=n) (off:=off) (len:=l.length) (cap:=c) (s:=s) u35 s3 hjl
  rw[zC7]at i1
  rw[iv_get,zA6 hjl,zA5]at m1
  rw[hb]at n1
  have hwj:IntKind.i64.wrap ((j:Int)+1)=((j+1:Nat):Int):=wrap_succ (by omega)
  obtain⟨xa,hxa⟩:=Go.Ax.exq (l[j])
  rw[hxa]at m1
  obtain⟨d,hdd⟩:=Go.Ax.exq (decide (h<=xa))
  simp only[g0,g1,g7,g8,hb,hd,i1,n1,r1,m1,qk_old,ruW,xF,ruU,Nat.reduceLT,Nat.reduceEqDiff]
  refine w_callV (f:=126) (ca:=[.pointer (some ⟨m,0,none⟩)]) rfl rfl rfl (by kernel_rfl) ?_
  refine (high126_c (ext H []) xa h m hm hlt).to ?_
  rw[hdd]
  cases d with
  |true =>
   simp only[Tryz.results150,ruW,ruU,Nat.reduceLT,Nat.reduceEqDiff]
   rw[idx_at hjl (by rw[hxa]; exact hdd) fun k hk=>hall k (by omega) hk]
   exact Fin.pureE rfl rfl
  |false =>
   simp only[g8,hwj,ruW,ruU,Nat.reduceLT,Nat.reduceEqDiff]
   refine loopC_next ⟨j+1,by omega,rfl,by omega,fun k hk hkj=>?_,?_,?_,?_,?_⟩
   ·by_cases hkk:k=j
    ·subst hkk; rw[hxa]; exact hdd
    ·exact hall k hk (by omega)
   ·rw[e1]; simp only[g0,ruU,Nat.reduceEqDiff]
   ·exact g1
   ·exact g7
   ·rfl
theorem containsF125_c (H:AHeap) (v:Value) (l:List Int) (h:Int) (m:Nat) (hv:RdAt H 1 v (iv l) l.length) (hl:l.length<=1000000) (hm:bk H m=some ⟨3,false,[.int .i64 h]⟩) (hlt:m<H.next):Pure 125 [v,.func (.func 126) ⟨[]⟩ ⟨[.pointer (some ⟨m,0,none⟩)]⟩] H (.bool (l.any fun y=>decide (h<=y))):=by
 obtain⟨a0,c0,e0⟩:=hv.sl
 have hc:=indexF150_c (ext H []) v l h m hv hl hm hlt
 refine callS_fn mixed Tryz.func125 rfl Tryz.ntmps125 (zB3 rfl) fun wf hsc=>?_
 rw[e0]at hc ⊢
 simp only[ruW,xF,ruU,entryE,Nat.reduceLT,Nat.reduceAdd,Nat.reduceEqDiff]
 refine hc.to ?_
 rw[<-idx_any]
 simp only[Tryz.results125,ruW,ruU,Nat.reduceLT]
 exact Fin.pureE rfl rfl
theorem missing100_c (H:AHeap) (pos:Int) (op:Nat) (av:Value) (args:List Int) (h:Int) (hop:op<28) (ha:RdAt H 1 av (iv args) args.length) (hal:args.length<=1000000) (hk:args.length=(kindsR op args).length) (hcn:cntR op args<=1000000) (h0:op=4\/op=9->0<args.length/\0<=args.getD 0 0/\args.getD 0 0<=65535) (hh:-1000000000<=h/\h<=1000000000) (hsv:scb H.next av=true) (hok:H.base<=H.next) :
  CallA Tryz.prog 100 [.agg ⟨[.int .i64 pos,.int .i64 (op:Int),av]⟩,.int .i64 h] H (fun out X=>out=.ok (.bool (missC op args h))/\Mod [] H X):=by
 obtain⟨b,hb⟩:=Go.Ax.exq H.next
 obtain⟨a0,c0,e0⟩:=ha.sl
 refine callE_fn mixed Tryz.func100 rfl Tryz.ntmps100 (zB3 rfl) ?_
 have hsc0:=hsv
 rw[hb,e0]at hsc0
 rw[e0]
 simp only[hb,hsc0,ruW,Nat.reduceLeDiff,xF,ruU,entryE,Nat.reduceLT,Nat.reduceAdd,Nat.reduceEqDiff]
 generalize hX:ext H _=X
 have mX:Mod [] H X:=hX▸Mod.ext hok
 have nX:X.next=b+2:=by rw[<-hX,ext_next,hb]; rfl
 have k0:bk X (b+0)=some ⟨59,false,[.int .i64 pos,.int .i64 (op:Int),.slice a0 args.length c0]⟩:=by rw[<-hX,bk_at hb (by simp)]; rfl
 have k1:bk X (b+1)=some ⟨3,false,[.int .i64 h]⟩:=by rw[<-hX,bk_at hb (by simp)]; rfl
 clear hX
 have okX:=mX.ok hok
 obtain⟨x,hx⟩:=Go.Ax.exq X.next
 have j0:b+0<x:=by omega
 have j1:b+1<x:=by omega
 have haX:=ha.mod0 mX
 rw[e0]at haX
 rw[show X=ext X [] from rfl]
 refine (eff124_c (ext X []) pos op (.slice a0 args.length c0) args hop haX h0).to ?_
 obtain⟨pq,hpq⟩:=Go.Ax.exq (effR op args)
 rw[hpq]
 have hw:IntKind.i64.wrap (h-1)=h-1:=wrap_sm (by omega) (by omega)
 have hsx:scb X.next (.slice a0 args.length c0)=true:=scb_mono (by omega) _ hsc0
 by_cases h2:op=2\/op=23
 ·have hm:missC op args h=(decide (h-1<0)||(opsK 105 (kindsR op args) args).any fun a=>decide (h-1<=a)):=by rw[missC,if_pos h2]
  rw[hm]
  have hd2:∃ d,decide ((op:Int)=2)=d:=⟨_,rfl⟩
  obtain⟨d2,hd2⟩:=hd2
  have hd23:d2=false->decide ((op:Int)=23)=true:=fun hf=>by
   subst hf
   have:=of_decide_eq_false hd2
   exact decide_eq_true (by omega)
  obtain⟨d,hd⟩:=Go.Ax.exq (decide (h-1<0))
  rw[hd]
  have kc:(match d2 with
    |true=>True
    |false=>decide ((op:Int)=23)=true):=by cases d2; exact hd23 rfl; trivial
  have tail:∀ U,uw X (b+1) 0 [.int .i64 (h-1)]=U->Mod [] H U/\U.next=x/\bk U (b+0)=some ⟨59,false,[.int .i64 pos,.int .i64 (op:Int),.slice a0 args.length c0]⟩/\bk U (b+1)=some ⟨3,false,[.int .i64 (h-1)]⟩/\U.base<=U.next/\RdAt U 1 (.slice a0 args.length c0) (iv args) args.length:=fun U hU=>by
   have mU:Mod [b+1] X U:=hU▸Mod.uw (by simp)
   have nU:U.next=x:=by rw[<-hU,uw_next,hx]
   refine⟨mX.step mU hok fun n hn=>.inr (by simp only[zA7]at hn; omega),nU,(mU.bk (by omega) (by simp)).trans k0,by rw[<-hU,bk_uw_eq,k1]; rfl,mU.ok okX,?_⟩
   refine haX.modW mU fun n hn=>?_
   have:=ids_of_scb _ hsc0 n (rdF_ids hn)
   simp only[zA7]
   omega
  obtain⟨U,hU⟩:=Go.Ax.exq (uw X (b+1) 0 [.int .i64 (h-1)])
  obtain⟨mU,nU,u0,u1,okU,haU⟩:=tail U hU
  cases d2
  case' true=>simp only[hx,j0,j1,k0,k1,hd2,hw,qk_old,ruW,putL,Nat.reduceLeDiff,xF,ruU,Nat.reduceLT,Nat.reduceAdd,Nat.reduceEqDiff]
  case' false=>simp only[hx,j0,j1,k0,k1,hd2,hd23 rfl,hw,qk_old,ruW,putL,Nat.reduceLeDiff,xF,ruU,Nat.reduceLT,Nat.reduceAdd,Nat.reduceEqDiff]
  all_goals
   rw[ext_nil,hU,show U=ext U [] from rfl]
   cases d with
   |true =>
    simp only[hd,Tryz.results100,ruW,ruU,Nat.reduceLT,Nat.reduceEqDiff]
    exact⟨by rw[Bool.true_or],mU⟩
   |false =>
    simp only[nU,j0,u0,hd,qk_old,ruW,Nat.reduceLeDiff,xF,ruU,Nat.reduceLT,Nat.reduceAdd,Nat.reduceEqDiff]
    rw[ext_nil]
    refine (operands96_c U pos op (.slice a0 args.length c0) args 105 hop haU hal hk hcn (by rw[nU]; exact scb_mono (by omega) _ hsc0) okU).mono ?_
    rintro _ Y ⟨w,rfl,vw,mY,hwlo⟩
    obtain⟨y,hy⟩:=Go.Ax.exq Y.next
    have ly:x<=y:=by have:=mY.next; omega
    have k1Y:=(mY.bk (by omega) (by simp)).trans u1
    have j1y:b+1<y:=by omega
    obtain⟨wa,ew⟩:=VsAt.len vw
    have hc:=containsF125_c (ext Y []) w (opsK 105 (kindsR op args) args) (h-1) (b+1) vw.rd (zB9 (opsK_len _ _ _) hal) k1Y (by rw[ext_nil,hy]; exact j1y)
    rw[ew]at hc ⊢
    rw[show Y=ext Y [] from rfl]
    simp only[w_func,ruW,xF,ruU,Nat.reduceLT,Nat.reduceEqDiff]
    refine hc.to ?_
    simp only[Tryz.results100,Bool.false_or,ruW,ruU,Nat.reduceLT,Nat.reduceEqDiff]
    exact⟨trivial,mU.trans mY⟩
 ·have hm:missC op args h=(decide (h<pq.1)||(opsK 105 (kindsR op args) args).any fun a=>decide (h<=a)):=by rw[missC,if_neg h2,hpq]
  rw[hm]
  have hne2:decide ((op:Int)=2)=false:=decide_eq_false (by omega)
  have hne23:decide ((op:Int)=23)=false:=decide_eq_false (by omega)
  obtain⟨d,hd⟩:=Go.Ax.exq (decide (h<pq.1))
  rw[hd]
  simp only[hx,j0,j1,k0,k1,hne2,hne23,hd,qk_old,ruW,xF,ruU,Nat.reduceLT,Nat.reduceAdd,Nat.reduceEqDiff]
  cases d with
  |true =>
   simp only[Tryz.results100,ruW,ruU,Nat.reduceLT,Nat.reduceEqDiff]
   exact⟨by rw[Bool.true_or],mX⟩
  |false =>
   simp only[hx,j0,k0,qk_old,ruW,Nat.reduceLeDiff,xF,ruU,Nat.reduceLT,Nat.reduceAdd,Nat.reduceEqDiff]
   rw[ext_nil]
   refine (operands96_c X pos op (.slice a0 args.length c0) args 105 hop haX hal hk hcn hsx okX).mono ?_
   rintro _ Y ⟨w,rfl,vw,mY,hwlo⟩
   obtain⟨y,hy⟩:=Go.Ax.exq Y.next
   have ly:x<=y:=by have:=mY.next; omega
   have k1Y:=(mY.bk (by omega) (by simp)).trans k1
   have j1y:b+1<y:=by omega
   obtain⟨wa,ew⟩:=VsAt.len vw
   have hc:=containsF125_c (ext Y []) w (opsK 105 (kindsR op args) args) h (b+1) vw.rd (zB9 (opsK_len _ _ _) hal) k1Y (by rw[ext_nil,hy]; exact j1y)
   rw[ew]at hc ⊢
   rw[show Y=ext Y [] from rfl]
   simp only[w_func,ruW,xF,ruU,Nat.reduceLT,Nat.reduceEqDiff]
   refine hc.to ?_
   simp only[Tryz.results100,Bool.false_or,ruW,ruU,Nat.reduceLT,Nat.reduceEqDiff]
   exact⟨trivial,mX.trans mY⟩
set_option maxRecDepth 100000
def stC (s:St) (fv:Value):Value:=.agg ⟨[.int .i64 s.h,.int .i64 s.b,fv]⟩
theorem sc_stC {N:Nat} {s:St} {x:Value} (h:scb N (stC s x)=true):scb N x=true:=by
 have h':(true&&(true&&(scb N x&&true)))=true:=h
 simpa using h'
theorem u91:Tryz.prog.underlying 91=some (.slice 176):=by kernel_rfl
theorem s176:szOf Tryz.prog 176=some 3:=by kernel_rfl
theorem ag176:aggT Tryz.prog 176=some true:=by kernel_rfl
theorem fl176:flat Tryz.prog 10000 176=some [3,3,3]:=by kernel_rfl
theorem gd176:Tryz.prog.eqGuardType Tryz.prog.depth 176=false:=by kernel_rfl
theorem fr_oneC {H:AHeap} {v:Value} {fs:List Fr} (h:RdAt H 3 v (frC fs) fs.length) {i:Nat} {f:Fr} (hi:fs[i]?=some f):∃ n off s c e o M,v=.slice (some ⟨n,off,s⟩) fs.length c/\n<H.next/\rk H n=some ⟨e,o,M⟩/\aIndexAddr Tryz.prog 91 v (.int .i64 (i:Int))=some (.pointer (some ⟨n,off+i*3,none⟩))/\ldB Tryz.prog 176 (off+i*3) (some ⟨e,o,M⟩)=some (.agg ⟨frV f⟩):=by
 have hl:=(List.getElem?_eq_some_iff.1 hi).1
 obtain⟨n,off,s,c,e,o,M,rfl,h2,h3,h4,h5⟩:=h.at_ hl
 rw[frC_at hi]at h5
 refine⟨n,off,s,c,e,o,M,rfl,h2,h3,ia_of u91 s176 hl,?_⟩
 rw[ld_agg ag176,s176,zA3,if_pos (by omega),h5]
theorem top127_c (H:AHeap) (s:St) (fv:Value) (hf:RdAt H 3 fv (frC s.fs) s.fs.length) (hl:s.fs.length<=1000000):Pure 127 [stC s fv] H (.agg ⟨frV (topS s)⟩):=by
 obtain⟨b,hb⟩:=Go.Ax.exq H.next
 obtain⟨f0,fc,ef⟩:=hf.sl
 refine callS_fn mixed Tryz.func127 rfl Tryz.ntmps127 (zB3 rfl) fun wf hsc=>?_
 have hok:=wf.base
 have hbase:H.base<=b:=hb▸hok
 rw[scbL_iff]at hsc
 have hsc1:=sc_stC (hsc _ (zA7.2 rfl))
 rw[hb,ef]at hsc1
 obtain⟨dl,hdl⟩:∃ d,decide ((0:Int)<(s.fs.length:Int))=d:=⟨_,rfl⟩
 rw[ef]
 unfold stC
 cases dl with
 |false =>
  have hnil:s.fs=[]:=zE6 (by have:=of_decide_eq_false hdl; omega)
  have htt:topS s=⟨-1,0,0⟩:=by rw[topS,hnil]; rfl
  rw[htt]
  simp (maxDischargeDepth:=6) only[hb,hbase,hsc1,hdl,Tryz.results127,ruW,putL,Nat.reduceLeDiff,xF,ruU,entryE,Nat.reduceLT,Nat.reduceAdd,Nat.reduceEqDiff]
  exact Fin.pureE rfl rfl
 |true =>
  have hpos:0<s.fs.length:=by have:=of_decide_eq_true hdl; omega
  obtain⟨t,ht⟩:=Go.Ax.exq (topS s)
  have hlast:s.fs[s.fs.length-1]?=some t:=by
   rw[<-ht,topS,List.getLastD_eq_getLast?,List.getLast?_eq_getElem?,zA6 (by omega)]
   rfl
  rw[ht]
  obtain⟨n,off,sp,c,e,o,M,e1,n1,r1,ia,ld⟩:=fr_oneC hf hlast
  have e3:=ef.symm.trans e1
  simp only[Value.slice.injEq]at e3
  obtain⟨rfl,-,rfl⟩:=e3
  rw[e1]at ia
  rw[hb]at n1
  have hw:IntKind.i64.wrap ((s.fs.length:Int)-1)=((s.fs.length-1:Nat):Int):=(wrap_sm (by omega) (by omega)).trans (by omega)
  unfold frV at ld ⊢
  simp (maxDischargeDepth:=6) only[hb,hbase,hdl,hw,ia,n1,r1,ld,qk_old,Tryz.results127,ruW,putL,Nat.reduceLeDiff,xF,ruU,entryE,Nat.reduceLT,Nat.reduceAdd,Nat.reduceEqDiff]
  exact Fin.pureE rfl rfl
theorem dis101_c (H:AHeap) (pos:Int) (op:Nat) (av:Value) (args:List Int) (s:St) (fv:Value) (hop:op<28) (ha:RdAt H 1 av (iv args) args.length) (hal:args.length<=1000000) (h8:op=8->0<args.length/\0<=args.getD 0 0/\args.getD 0 0<=65535)
  (hf:RdAt H 3 fv (frC s.fs) s.fs.length) (hfl:s.fs.length<=1000000) (hb9:-1000000000<=s.b/\s.b<=1000000000) (hfh:∀ f∈s.fs,-1000000000<=f.height/\f.height<=1000000000) :
  Pure 101 [.agg ⟨[.int .i64 pos,.int .i64 (op:Int),av]⟩,stC s fv] H (.bool (disR op args s)):=by
 obtain⟨b,hb⟩:=Go.Ax.exq H.next
 obtain⟨a0,c0,e0⟩:=ha.sl
 obtain⟨f0,fc,ef⟩:=hf.sl
 refine callS_fn mixed Tryz.func101 rfl Tryz.ntmps101 (zB3 rfl) fun wf hsc=>?_
 have hok:=wf.base
 have hbase:H.base<=b:=hb▸hok
 rw[scbL_iff]at hsc
 have hsc0:=hsc _ (zB7 ..)
 have hsc1:=sc_stC (hsc _ (zB6 _ (zB7 ..)))
 rw[hb,e0]at hsc0
 rw[hb,ef]at hsc1
 replace hsc0:scb b (.slice a0 args.length c0)=true:=sc_agg3 hsc0
 have hsc2:=scb_mono (show b<=b+1 by omega) _ hsc1
 have hT:∀ i:Decidable True,@decide True i=true:=fun i=>by simp
 have hF:∀ i:Decidable False,@decide False i=false:=fun i=>by simp
 obtain⟨t,ht⟩:=Go.Ax.exq (topS s)
 rw[e0,ef]
 unfold stC
 simp only[hb,hsc0,hsc2,ruW,Nat.reduceLeDiff,xF,ruU,entryE,Nat.reduceLT,Nat.reduceAdd,Nat.reduceEqDiff]
 generalize hX:ext H _=X
 have mX:Mod [] H X:=hX▸Mod.ext hok
 have nX:X.next=b+2:=by rw[<-hX,ext_next,hb]; rfl
 have k0:bk X (b+0)=some ⟨59,false,[.int .i64 pos,.int .i64 (op:Int),.slice a0 args.length c0]⟩:=by rw[<-hX,bk_at hb (by simp)]; rfl
 have k1:bk X (b+1)=some ⟨93,false,[.int .i64 s.h,.int .i64 s.b,.slice f0 s.fs.length fc]⟩:=by rw[<-hX,bk_at hb (by simp)]; rfl
 clear hX
 have okX:=mX.ok hok
 obtain⟨x,hx⟩:=Go.Ax.exq X.next
 have xb:X.base<=x:=hx▸okX
 have haX:=ha.mod0 mX
 have htc:=top127_c (ext X []) s fv (hf.mod0 mX) hfl
 rw[e0]at haX
 rw[ht,ef]at htc
 unfold stC at htc
 have htb:-1000000000<=t.height/\t.height<=1000000000:=by
  by_cases hn:s.fs=[]
  ·have htt:t=⟨-1,0,0⟩:=by rw[<-ht,topS,hn]; rfl
   rw[htt]
   decide
  ·refine hfh t ?_
   rw[<-ht,topS,List.getLastD_eq_getLast?,List.getLast?_eq_some_getLast hn]
   exact List.getLast_mem hn
 have hwt:IntKind.i64.wrap (t.height+1)=t.height+1:=wrap_sm (by omega) (by omega)
 rw[show X=ext X [] from rfl]
 refine htc.to ?_
 have hdd:disR op args s=(let level:=decide (s.h=t.height+1)&&decide (s.b=t.bound)
  if op=8 then decide (s.b-args.getD 0 0<t.bound) else
  if op=19 then !level||!(decide (t.kind=16)||decide (t.kind=17)||decide (t.kind=18)) else
  if op=20 then !level||!decide (t.kind=19) else
  if op=15 then decide (s.fs≠[])||decide (0<s.b) else false):=by rw[disR,ht]
 rw[hdd]
 obtain⟨p4,q4⟩:∃ p,decide (s.h=t.height+1)=p:=⟨_,rfl⟩
 obtain⟨p5,q5⟩:∃ p,decide (s.b=t.bound)=p:=⟨_,rfl⟩
 rw[q4,q5]
 unfold frV
 obtain⟨lv,hlv⟩:=Go.Ax.exq ((p4&&p5))
 rw[hlv]
 generalize hc:Code.seq (Code.region 2 _ _) _=code
 simp only[hx,xb,ruW,putL,Nat.reduceLeDiff,xF,ruU,Nat.reduceLT,Nat.reduceAdd,Nat.reduceEqDiff]
 subst hc
 rw[w_seq]
 refine w_env fun E hE=>?_
 have g2:E 2=.pointer (some ⟨b+0,0,none⟩):=by rw[hE]; rfl
 have g3:E 3=.pointer (some ⟨b+1,0,none⟩):=by rw[hE]; rfl
 have g5:E 5=.pointer (some ⟨x+0,0,none⟩):=by rw[hE]; rfl
 clear hE
 generalize hY:ext X _=Y
 have mXY:Mod [] X Y:=hY▸Mod.ext okX
 have nY:Y.next=x+1:=by rw[<-hY,ext_next,hx]; rfl
 have k2:bk Y (x+0)=some ⟨176,false,[.int .i64 t.kind,.int .i64 t.height,.int .i64 t.bound]⟩:=by rw[<-hY,bk_at hx (by simp)]; rfl
 clear hY
 have okY:=mXY.ok okX
 have mY:=mX.trans mXY
 obtain⟨y,hy⟩:=Go.Ax.exq Y.next
 have hyx:x+1=y:=nY.symm.trans hy
 replace k0:=(mXY.bk (by omega) (by simp)).trans k0
 replace k1:=(mXY.bk (by omega) (by simp)).trans k1
 have haY:=haX.mod0 mXY
 replace l0:b+0<y:=by omega
 replace l1:b+1<y:=by omega
 have l2:x+0<y:=by omega
 rw[show Y=ext Y [] from rfl]
 refine w_meet (fun E' X'=>X'=ext Y []/\E' 2=.pointer (some ⟨b+0,0,none⟩)/\E' 3=.pointer (some ⟨b+1,0,none⟩)/\E' 5=.pointer (some ⟨x+0,0,none⟩)/\E' 6=.bool lv) ?_ ?_
 ·cases p4 with
  |false =>
   have:lv=false:=by rw[<-hlv]; rfl
   subst this
   simp only[g3,g5,hy,l1,l2,k1,k2,hwt,q4,qk_old,ruW,xF,ruU,Nat.reduceLT,Nat.reduceAdd,Nat.reduceEqDiff]
   refine joinR_normal ⟨rfl,?_,?_,?_,?_⟩
   all_goals simp only[g2,g3,g5,ruU,Nat.reduceEqDiff]
  |true =>
   have:lv=p5:=by rw[<-hlv]; rfl
   subst this
   simp only[g3,g5,hy,l1,l2,k1,k2,hwt,q4,q5,qk_old,ruW,xF,ruU,Nat.reduceLT,Nat.reduceAdd,Nat.reduceEqDiff]
   refine joinR_normal ⟨rfl,?_,?_,?_,?_⟩
   all_goals simp only[g2,g3,g5,ruU,Nat.reduceEqDiff]
 clear g2 g3 g5 E
 rintro E X' ⟨hX',g2,g3,g5,g6⟩
 rw[hX']
 by_cases c8:op=8
 ·subst c8
  obtain⟨hl,hx0,hx1⟩:=h8 rfl
  obtain⟨n,off,sp,c,e,o,M,e2,n1,r1,m1⟩:=haY.one hl
  have e3:=e2
  simp only[Value.slice.injEq]at e3
  obtain⟨rfl,-,rfl⟩:=e3
  rw[iv_get,zA6 hl,zA5]at m1
  have hg:args.getD 0 0=args[0]:=by rw[zB1,zA6 hl]; rfl
  have i1:aIndexAddr Tryz.prog 35 (.slice (some ⟨n,off,sp⟩) args.length c0) (.int .i64 0)=some (.pointer (some ⟨n,off+0,none⟩)):=ia_of (i:=0) u35 s3 hl
  rw[hy]at n1
  rw[hg]at hx0 hx1
  have hw:IntKind.i64.wrap (s.b-args[0])=s.b-args[0]:=wrap_sm (by omega) (by omega)
  rw[if_pos rfl]
  simp only[zE0]at k0
  simp only[zE0,g2,hy,l0,k0,hT,qk_old,ruW,xF,ruU,Nat.reduceLT,Nat.reduceAdd]
  refine w_drawB [] [] (by kernel_rfl) (by kernel_rfl) rfl fun ops anc hA hG=>?_
  simp only[g2,g3,g5,hy,l0,l1,l2,k0,k1,k2,i1,n1,r1,m1,hw,qk_old,Tryz.results101,ruD,ruW,xF,ruU,Nat.reduceLT,Nat.reduceAdd,Nat.reduceEqDiff]
  rw[hg]
  exact Ax.Fin.mod rfl mY rfl
 rw[if_neg c8]
 by_cases c19:op=19
 ·subst c19
  rw[if_pos rfl]
  simp only[zE0]at k0
  cases lv with
  |false =>
   simp only[zE0,Int.reduceEq,g2,g6,hy,l0,k0,hT,hF,qk_old,Tryz.results101,ruW,xF,ruU,Nat.reduceLT,Nat.reduceAdd,Nat.reduceEqDiff]
   exact Ax.Fin.mod rfl mY rfl
  |true =>
   simp only[zE0,Int.reduceEq,g2,g5,g6,hy,l0,l2,k0,k2,hT,hF,qk_old,ruW,xF,ruU,Nat.reduceLT,Nat.reduceAdd,Nat.reduceEqDiff]
   have hrd:RdAt (ext Y [⟨3,false,[.int .i64 16,.int .i64 17,.int .i64 18]⟩]) 1 (.slice (some ⟨y+0,0,some 0⟩) 3 3) (iv [16,17,18]) ([16,17,18]:List Int).length:=⟨rfl,.inr ⟨by decide,y+0,0,some 0,3,3,false,[.int .i64 16,.int .i64 17,.int .i64 18],rfl,rk_of (by rw[bk_at hy (by simp)]; rfl),by rw[ext_next,hy]; simp,by simp,rfl⟩⟩
   refine (contains128_c _ _ [16,17,18] t.kind hrd (by decide)).to ?_
   have hcn:(([16,17,18]:List Int).any fun y=>decide (y=t.kind))=(decide (t.kind=16)||decide (t.kind=17)||decide (t.kind=18)):=by
    have:∀ a b:Int,decide (a=b)=decide (b=a):=fun a b=>decide_eq_decide.2 ⟨fun h=>h.symm,fun h=>h.symm⟩
    simp only[List.any_cons,List.any_nil,Bool.or_false,this 16,this 17,this 18,Bool.or_assoc]
   rw[hcn]
   simp only[Tryz.results101,ruW,ruU,Nat.reduceLT,Nat.reduceEqDiff]
   have mF:Mod [] H (ext Y [⟨3,false,[.int .i64 16,.int .i64 17,.int .i64 18]⟩]):=mY.trans (Mod.ext okY)
   exact Ax.Fin.mod rfl mF rfl
 rw[if_neg c19]
 have flip:∀ {x y:Int} {p:Bool},decide (¬x=y)=p->decide (x=y)=!p:=fun {x y p} h=>by
  rw[<-h]
  by_cases e:x=y<;>simp[e]
 by_cases c20:op=20
 ·subst c20
  rw[if_pos rfl]
  simp only[zE0]at k0
  obtain⟨p1,q1⟩:∃ p,decide (¬t.kind=19)=p:=⟨_,rfl⟩
  simp only[flip q1]
  cases lv<;>cases p1
  all_goals
   simp only[zE0,Int.reduceEq,g2,g5,g6,hy,l0,l2,k0,k2,hT,hF,q1,qk_old,Tryz.results101,ruW,xF,ruU,Nat.reduceLT,Nat.reduceAdd,Nat.reduceEqDiff]
   exact Ax.Fin.mod rfl mY rfl
 rw[if_neg c20]
 by_cases c15:op=15
 ·subst c15
  rw[if_pos rfl]
  obtain⟨p1,q1⟩:∃ p,decide ((0:Int)<(s.fs.length:Int))=p:=⟨_,rfl⟩
  obtain⟨p2,q2⟩:∃ p,decide ((0:Int)<s.b)=p:=⟨_,rfl⟩
  have e1:decide (s.fs≠[])=p1:=by
   rw[<-q1]
   cases s.fs with
   |nil=>rfl
   |cons a r=>simp
  rw[e1,q2]
  simp only[zE0]at k0
  cases p1<;>cases p2
  all_goals
   simp only[zE0,Int.reduceEq,g2,g3,hy,l0,l1,k0,k1,hT,hF,q1,q2,qk_old,Tryz.results101,ruW,xF,ruU,Nat.reduceLT,Nat.reduceAdd,Nat.reduceEqDiff]
   exact Ax.Fin.mod rfl mY rfl
 rw[if_neg c15]
 have hcs:op=0\/op=1\/op=2\/op=3\/op=4\/op=5\/op=6\/op=7\/op=9\/op=10\/op=11\/op=12\/op=13\/op=14\/op=16\/op=17\/op=18\/op=21\/op=22\/op=23\/op=24\/op=25\/op=26\/op=27:=by omega
 rcases hcs with rfl|rfl|rfl|rfl|rfl|rfl|rfl|rfl|rfl|rfl|rfl|rfl|rfl|rfl|rfl|rfl|rfl|rfl|rfl|rfl|rfl|rfl|rfl|rfl
 all_goals
  simp only[zE0]at k0
  simp only[zE0,Int.reduceEq,g2,hy,l0,k0,hF,qk_old,Tryz.results101,ruW,xF,ruU,Nat.reduceLT,Nat.reduceAdd,Nat.reduceEqDiff]
  exact Ax.Fin.mod rfl mY rfl
set_option maxRecDepth 100000
theorem ff176 (f:Fr):fits Tryz.prog [3,3,3] (frV f)=true:=by
 obtain⟨a,b,c⟩:=f
 kernel_rfl
theorem equal123_c (H:AHeap) (fs gs:List Fr) (fv gv:Value) (hf:RdAt H 3 fv (frC fs) fs.length) (hg:RdAt H 3 gv (frC gs) gs.length) (hl:fs.length<=1000000):Pure 123 [fv,gv] H (.bool (decide (fs=gs))):=by
 obtain⟨b,hb⟩:=Go.Ax.exq H.next
 obtain⟨f0,fc,ef⟩:=hf.sl
 obtain⟨g0',gc,eg⟩:=hg.sl
 refine callS_fn mixed Tryz.func123 rfl Tryz.ntmps123 (zB3 rfl) fun wf hsc=>?_
 rw[ef,eg]
 obtain⟨p3,q3⟩:∃ p,decide (¬(fs.length:Int)=(gs.length:Int))=p:=⟨_,rfl⟩
 cases p3 with
 |true =>
  have hne:=of_decide_eq_true q3
  rw[show decide (fs=gs)=false from decide_eq_false fun e=>hne (by rw[e])]
  simp only[q3,Tryz.results123,ruW,xF,ruU,entryE,Nat.reduceLT,Nat.reduceAdd,Nat.reduceEqDiff]
  exact Fin.pureE rfl rfl
 |false =>
 have hle:fs.length=gs.length:=by have:=of_decide_eq_false q3; omega
 simp only[q3,ruW,xF,ruU,entryE,Nat.reduceLT,Nat.reduceAdd,Nat.reduceEqDiff]
 refine w_env fun E hE=>?_
 have g0:E 0=fv:=by rw[hE,ef]; simp only[ruU,Nat.reduceEqDiff]
 have g1:E 1=gv:=by rw[hE,eg]; simp only[ruU,Nat.reduceEqDiff]
 have g12:E 12=.int .i64 (fs.length:Int):=by rw[hE]; rfl
 have g13:E 13=.int .i64 ((0:Nat):Int):=by rw[hE]; rfl
 clear hE
 refine w_loop (fun (j:Nat) E' H'=>H'=ext H []/\j<=fs.length/\fs.take j=gs.take j/\E' 0=fv/\E' 1=gv/\E' 12=.int .i64 (fs.length:Int)/\E' 13=.int .i64 (j:Int)) (fun j=>fs.length-j) 0 ⟨rfl,zB5 _,rfl,g0,g1,g12,g13⟩ ?_
 clear g0 g1 g12 g13 E
 rintro j E H' ⟨hH,hj,htk,g0,g1,g12,g13⟩
 rw[hH]
 by_cases hje:j=fs.length
 ·have hdj:decide ((j:Int)<(fs.length:Int))=false:=decide_eq_false (by omega)
  simp only[g12,g13,hdj,Tryz.results123,ruW,ruU,Nat.reduceLT]
  rw[zE2 (by omega),zE2 (by omega)]at htk
  rw[decide_eq_true htk]
  exact Fin.pureE rfl rfl
 ·have hjl:j<fs.length:=by omega
  have hdj:decide ((j:Int)<(fs.length:Int))=true:=decide_eq_true (by omega)
  obtain⟨f,hfj⟩:∃ f,fs[j]?=some f:=⟨_,zA6 hjl⟩
  obtain⟨g,hgj⟩:∃ g,gs[j]?=some g:=⟨_,zA6 (by omega)⟩
  obtain⟨n,off,sp,c,e,o,M,e1,n1,r1,ia,ld⟩:=fr_oneC hf hfj
  obtain⟨n',off',sp',c',e',o',M',e1',n1',r1',ia',ld'⟩:=fr_oneC hg hgj
  rw[e1]at ia g0
  rw[e1']at ia' g1
  rw[hb]at n1 n1'
  have hw:IntKind.i64.wrap ((j:Int)+1)=((j+1:Nat):Int):=wrap_succ (by omega)
  simp only[g12,g13,hdj,ruW,ruU,Nat.reduceLT,Nat.reduceEqDiff]
  refine w_drawB [] [] (by kernel_rfl) (by kernel_rfl) rfl fun ops anc hA hG=>?_
  simp only[g0,g1,hb,ia,ia',n1,n1',r1,r1',ld,ld',qk_old,ruD,ruW,ruU,Nat.reduceLT,Nat.reduceAdd,Nat.reduceEqDiff]
  refine wd_eqS fl176 ag176 gd176 (fr_neq f g) rfl rfl (by decide) rfl rfl (ff176 _) (ff176 _) ?_
  by_cases hfg:f=g
  ·rw[decide_eq_true hfg]
   simp only[g13,hw,Bool.not_true,ruD,ruW,ruU,Nat.reduceLT,Nat.reduceAdd,Nat.reduceEqDiff]
   refine loopC_next ⟨j+1,by omega,rfl,by omega,?_,?_,?_,?_,?_⟩
   ·rw[List.take_add_one,List.take_add_one,htk,hfj,hgj,hfg]
   ·rw[e1]; simp only[g0,ruU,Nat.reduceEqDiff]
   ·rw[e1']; simp only[g1,ruU,Nat.reduceEqDiff]
   ·exact g12
   ·rfl
  ·rw[decide_eq_false hfg]
   simp only[Bool.not_false,Tryz.results123,ruD,ruW,ruU,Nat.reduceLT,Nat.reduceAdd]
   have:decide (fs=gs)=false:=decide_eq_false fun e=>hfg (by
    rw[e,hgj]at hfj
    exact (Option.some.inj hfj).symm)
   rw[this]
   exact Fin.pureE rfl rfl
theorem same99_c (H:AHeap) (s t:St) (fv gv:Value) (hf:RdAt H 3 fv (frC s.fs) s.fs.length) (hg:RdAt H 3 gv (frC t.fs) t.fs.length) (hl:s.fs.length<=1000000):Pure 99 [stC s fv,stC t gv] H (.bool (decide (s=t))):=by
 obtain⟨b,hb⟩:=Go.Ax.exq H.next
 obtain⟨f0,fc,ef⟩:=hf.sl
 obtain⟨g0,gc,eg⟩:=hg.sl
 refine callS_fn mixed Tryz.func99 rfl Tryz.ntmps99 (zB3 rfl) fun wf hsc=>?_
 have hok:=wf.base
 have hbase:H.base<=b:=hb▸hok
 rw[scbL_iff]at hsc
 have hsc0:=sc_stC (hsc _ (zB7 ..))
 have hsc1:=sc_stC (hsc _ (zB6 _ (zB7 ..)))
 rw[hb,ef]at hsc0
 rw[hb,eg]at hsc1
 have hsc2:=scb_mono (show b<=b+1 by omega) _ hsc1
 obtain⟨p1,q1⟩:∃ p,decide (s.h=t.h)=p:=⟨_,rfl⟩
 obtain⟨p2,q2⟩:∃ p,decide (s.b=t.b)=p:=⟨_,rfl⟩
 have he:decide (s=t)=(p1&&(p2&&decide (s.fs=t.fs))):=by
  obtain⟨h,b',fs⟩:=s
  obtain⟨h',b'',fs'⟩:=t
  rw[<-q1,<-q2]
  by_cases h1:h=h'<;>by_cases h2:b'=b''<;>by_cases h3:fs=fs'<;>simp[h1,h2,h3]
 rw[he,ef,eg]
 unfold stC
 cases p1 with
 |false =>
  simp only[hb,hsc0,hsc2,q1,Tryz.results99,ruW,xF,ruU,entryE,Nat.reduceLT,Nat.reduceAdd,Nat.reduceEqDiff]
  exact Fin.pureE rfl rfl
 |true =>
 cases p2 with
 |false =>
  simp only[hb,hsc0,hsc2,q1,q2,Tryz.results99,ruW,xF,ruU,entryE,Nat.reduceLT,Nat.reduceAdd,Nat.reduceEqDiff]
  exact Fin.pureE rfl rfl
 |true =>
  simp only[hb,hsc0,hsc2,q1,q2,ruW,xF,ruU,entryE,Nat.reduceLT,Nat.reduceAdd,Nat.reduceEqDiff]
  have hq:=equal123_c (ext H [⟨93,false,[.int .i64 s.h,.int .i64 s.b,.slice f0 s.fs.length fc]⟩,⟨93,false,[.int .i64 t.h,.int .i64 t.b,.slice g0 t.fs.length gc]⟩]) s.fs t.fs fv gv hf.ext hg.ext hl
  rw[ef,eg]at hq
  refine hq.to ?_
  simp only[Tryz.results99,ruW,ruU,Nat.reduceLT,Nat.reduceEqDiff]
  exact Fin.pureE rfl rfl
def vfC (least most depth:Int) (u p l ix st q:Value):List Value:=[.int .i64 least,.int .i64 most,.int .i64 depth,u,p,l,ix,st,q]
theorem deep74_c (H:AHeap) (v:Nat) (least most depth:Int) (u p l ix st q:Value) (s:St) (fa:Option Addr) (fc:Nat) (hv:bk H v=some ⟨90,false,vfC least most depth u p l ix st q⟩) (hvl:v<H.next) :
  Pure 74 [.pointer (some ⟨v,0,none⟩),stC s (.slice fa s.fs.length fc)] H (.bool (deepR depth 200 1000 s)):=by
 obtain⟨b,hb⟩:=Go.Ax.exq H.next
 refine callS_fn mixed Tryz.func74 rfl Tryz.ntmps74 (zB3 rfl) fun wf hsc=>?_
 have hok:=wf.base
 have hbase:H.base<=b:=hb▸hok
 rw[scbL_iff]at hsc
 have s2:=sc_stC (hsc _ (zB6 _ (zB7 ..)))
 rw[hb]at s2 hvl
 unfold vfC at hv
 obtain⟨d1,h1⟩:∃ d,decide (depth<s.h)=d:=⟨_,rfl⟩
 obtain⟨d2,h2⟩:∃ d,decide ((200:Int)<(s.fs.length:Int))=d:=⟨_,rfl⟩
 obtain⟨d3,h3⟩:∃ d,decide ((1000:Int)<s.b)=d:=⟨_,rfl⟩
 have he:deepR depth 200 1000 s=(d1||d2||d3):=by rw[deepR,h1,h2,h3]
 rw[he]
 unfold stC
 cases d1<;>cases d2<;>cases d3
 all_goals
  simp only[hb,s2,ruW,ruU,entryE,Nat.reduceLT,Nat.reduceAdd]
  refine w_drawB [(9,8),(15,14)] [(8,13),(14,19)] (by kernel_rfl) (by kernel_rfl) rfl fun ops anc hA hG=>?_
  simp only[all2_cons,all2_nil,and_true]at hA hG
  simp only[hb,hv,hvl,h1,h2,h3,hG,qk_old,Tryz.results74,ruD,ruW,xF,ruU,Nat.reduceLT,Nat.reduceAdd,Nat.reduceEqDiff]
  exact Fin.pureE rfl rfl
end Go.Proofs.YtnigelgcjfhghaaGreatDoor
namespace Go.Ax
section
variable {P : Program} {H : AHeap} {N : Nat} {E : Env} {ds : List Deferred} {ops : Array Oper} {rest : List Oper} {ty : TypeId} {pos : String} {after : Array Edge} {d i : Nat} {fps : List Fp} {anc : List Nat} {Q : AAct -> AHeap -> Prop}
theorem wd_appE {args:List Operand} {ts:Array TypeId} {v:Value} {M:List Bl} (F:List Nat) (ha:args.all (opOk P N)=true) (hd:d<N) (hF:∀ n∈F,H.get n≠none) (hc:∀ G:AHeap,G.next=H.next->(∀ n∈F,G.get n=H.get n)->aBuiltin P G .append ts (args.map (opv E))=some (v,ext G M))
  (hm:∀ r∈fps,Meets (anc.getD i 0) F [] (idsV v++M.flatMap fun x=>idsL x.l) r) (h:wkD P ops anc rest (i+1) (⟨i,F,[],H.next,H.next+M.length⟩::fps) (mkA N (upd E d v) ds) (ext H M) Q) :
  wkD P ops anc (⟨some d,.call ⟨.builtin .append,⟨args⟩,ts⟩,ty,pos,after,none⟩::rest) i fps (mkA N E ds) H Q:=by
 rw[wd_app ha]
 exact genV_extO (v:=v) (M:=M) F rfl hd hF (fun G h1 h2=>builtin_op ha (hc G h1 h2)) hm h
end
end Go.Ax
namespace Go.Proofs.YtnigelgcjfhghaaGreatDoor
open Go.Ax
set_option maxRecDepth 100000
theorem by176:bytesOf Tryz.prog 176=some 24:=by kernel_rfl
theorem z176:zeroOf Tryz.prog 176=some (.agg #[.int .i64 0,.int .i64 0,.int .i64 0]):=by kernel_rfl
theorem i91:intTy Tryz.prog 91=some false:=by kernel_rfl
def ClAt (X:AHeap) (w:Value) (fs:List Fr):Prop:=VsAt X 176 3 w (frC fs) fs.length\/(fs=[]/\∃ m,w=.slice (some ⟨m,0,some 0⟩) 0 0/\m<X.next/\X.get m≠none)
theorem ClAt.of {X G:AHeap} {w:Value} {fs:List Fr} (h:ClAt X w fs) (hn:X.next<=G.next) (hg:∀ n∈idsV w,G.get n=X.get n):ClAt G w fs:=by
 rcases h with h|⟨h0,m,rfl,h1,h2⟩
 ·exact .inl (h.of hn hg)
 ·exact .inr ⟨h0,m,rfl,by omega,by rw[hg m (by simp[idsV])]; exact h2⟩
theorem ClAt.ne {X:AHeap} {w:Value} {fs:List Fr} (h:ClAt X w fs):∀ n∈idsV w,X.get n≠none/\n<X.next:=by
 rcases h with h|⟨h0,m,rfl,h1,h2⟩
 ·exact h.ne
 ·intro n hn
  simp only[idsV,zA7]at hn
  subst hn
  exact⟨h2,h1⟩
theorem clone130_c (H:AHeap) (fv:Value) (fs:List Fr) (hf:FrAt 176 H fv fs) (hl:fs.length<=1000000) (hok:H.base<=H.next):CallA Tryz.prog 130 [fv] H (fun out X=>∃ w,out=.ok w/\ClAt X w fs/\Mod [] H X/\∀ n∈idsV w,H.next<=n):=by
 obtain⟨b,hb⟩:=Go.Ax.exq H.next
 refine callE_fn mixed Tryz.func130 rfl Tryz.ntmps130 (zB3 rfl) ?_
 obtain⟨rfl,rfl⟩|⟨n,c,M,rfl,hc,hk,hn,hlM,ht⟩:=hf
 ·simp only[hb,Tryz.results130,ruW,xF,ruU,entryE,Nat.reduceLT,Nat.reduceEqDiff]
  exact⟨_,rfl,.inl VsAt.nil,Mod.refl,fun n hn=>by simp[idsV]at hn⟩
 ·have hrd:RdAt H 3 (.slice (some ⟨n,0,none⟩) fs.length c) (frC fs) fs.length:=FrAt.rd (.inr ⟨n,c,M,rfl,hc,hk,hn,hlM,ht⟩)
  have happ:=own_appN (st:=91) (e:=176) (by1:=24) (sz:=3) (z:=.agg #[.int .i64 0,.int .i64 0,.int .i64 0]) u91 s176 by176 z176 rfl i91 hb hok hrd (frC_one fs) (frC_sc _ fs) (by simp only[small,zA4,zD9]; omega)
  have hid:=own_ids (b:=b) (cnt:=fs.length)
  simp only[hb,happ,Tryz.results130,ruW,xF,ruU,entryE,Nat.reduceLT,Nat.reduceEqDiff]
  refine⟨_,rfl,?_,Mod.ext hok,fun q hq=>by have:=hid q hq; omega⟩
  by_cases h0:fs.length=0
  ·refine .inr ⟨zE6 h0,b+0,?_,?_,?_⟩
   ·rw[ownW,if_pos h0]
   ·rw[ext_next,hb,ownL,if_pos h0]; simp
   ·rw[ownL,if_pos h0]
    exact bk_ne (b:=⟨176,false,[]⟩) (by rw[bk_at hb (by simp)]; rfl)
  ·refine .inl ⟨frC_len fs,frC_one fs,.inr ⟨by omega,b+1,?_,?_,?_⟩⟩
   ·rw[ownW,if_neg h0]
   ·rw[ownL,if_neg h0,bk_at hb (by simp)]; rfl
   ·rw[ext_next,hb,ownL,if_neg h0]; simp
theorem open129_c (H:AHeap) (s:St) (fv:Value) (kind:Int) (hf:FrAt 176 H fv s.fs) (hl:s.fs.length<=1000000) (hok:H.base<=H.next) :
  CallA Tryz.prog 129 [stC s fv,.int .i64 kind] H (fun out X=>∃ w,out=.ok (stC ⟨s.h,s.b,s.fs++[⟨kind,s.h,s.b⟩]⟩ w)/\FrAt 176 X w (s.fs++[⟨kind,s.h,s.b⟩])/\Mod [] H X/\∀ n∈idsV w,H.next<=n):=by
 obtain⟨b,hb⟩:=Go.Ax.exq H.next
 obtain⟨f0,fc,ef⟩:=hf.sl
 have sfv:=hf.sc
 rw[hb,ef]at sfv
 have sfv1:=scb_mono (show b<=b+1 by omega) _ sfv
 refine callE_fn mixed Tryz.func129 rfl Tryz.ntmps129 (zB3 rfl) ?_
 rw[ef]
 unfold stC
 simp only[hb,sfv,ruW,xF,ruU,entryE,Nat.reduceLT,Nat.reduceAdd,Nat.reduceEqDiff]
 generalize hX:ext H _=X
 have mX:Mod [] H X:=hX▸Mod.ext hok
 have nX:X.next=b+2:=by rw[<-hX,ext_next,hb]; rfl
 have k0:bk X (b+0)=some ⟨93,false,[.int .i64 s.h,.int .i64 s.b,.slice f0 s.fs.length fc]⟩:=by rw[<-hX,bk_at hb (by simp)]; rfl
 have k1:bk X (b+1)=some ⟨93,false,[.int .i64 0,.int .i64 0,.slice none 0 0]⟩:=by rw[<-hX,bk_at hb (by simp)]; rfl
 clear hX
 have okX:=mX.ok hok
 obtain⟨x,hx⟩:=Go.Ax.exq X.next
 have hxb:b+2=x:=nX.symm.trans hx
 have xb:X.base<=x:=hx▸okX
 have l0:b+0<x:=by omega
 have l1:b+1<x:=by omega
 have hfX:=hf.mod0 mX
 rw[ef]at hfX hf
 rw[show X=ext X [] from rfl]
 refine w_drawB [(2,0),(2,1),(10,2),(10,9),(10,7),(10,5),(10,1),(11,10),(11,9),(11,2),(12,0),(12,1),(12,2),(12,3),(12,4),(12,5),(12,6),(12,7),(12,8),(12,9),(12,10)] [] (by kernel_rfl) (by kernel_rfl) rfl fun ops anc hA hG=>?_
 simp only[all2_cons]at hA
 simp only[hx,l0,k0,qk_old,ruD,ruW,xF,ruU,Nat.reduceLT,Nat.reduceAdd,Nat.reduceEqDiff]
 have hrn:=restrict_next X (idsV (.slice f0 s.fs.length fc))
 have hfR:FrAt 176 (X.restrict (idsV (.slice f0 s.fs.length fc))) (.slice f0 s.fs.length fc) s.fs:=hfX.of (by rw[hrn.1]; exact zB2 _) fun m hm=>by rw[restrict_get,if_pos hm]
 obtain⟨_,g,hc,w,rfl,cw,mg,hwlo⟩:=clone130_c (X.restrict (idsV (.slice f0 s.fs.length fc))) (.slice f0 s.fs.length fc) s.fs hfR hl (by rw[hrn.1,hrn.2.1]; exact zB2 _)
 rw[hrn.1]at hwlo
 refine genV_mod (W:=[]) (v:=w) (g:=g) (idsV (.slice f0 s.fs.length fc)) okX rfl (by kernel_rfl) (fun n hn=>(hfX.ne n hn).1) (fun n hn=>(hfX.ne n hn).2) (by simp) (by simp only[ruU]; exact hc) mg (by simp only[all2_cons,all2_nil,hA,true_or,and_true]) ?_
 intro Z D mZ hgF hgN hnZ hD
 have hD0:D=[]:=List.eq_nil_iff_forall_not_mem.2 fun n hn=>by have:=hD n hn; simp at this
 subst hD0
 replace mZ:Mod [] X Z:=mZ
 replace hnZ:Z.next=g.next:=hnZ
 have cwZ:ClAt Z w s.fs:=cw.of (Nat.le_of_eq hnZ.symm) fun n hn=>hgN n (hwlo n hn) (cw.ne n hn).2
 clear hgF hgN
 obtain⟨z,hz⟩:=Go.Ax.exq Z.next
 have okZ:=mZ.ok okX
 have zb:Z.base<=z:=hz▸okZ
 have lz:x<=z:=by have:=mZ.next; omega
 replace k0:=(mZ.bk (by omega) (by simp)).trans k0
 replace k1:=(mZ.bk (by omega) (by simp)).trans k1
 replace l0:b+0<z:=by omega
 replace l1:b+1<z:=by omega
 obtain⟨f,hf'⟩:∃ f:Fr,f=⟨kind,s.h,s.b⟩:=⟨_,rfl⟩
 have hfv:frV f=[.int .i64 kind,.int .i64 s.h,.int .i64 s.b]:=by rw[hf']; rfl
 rw[<-hf']
 have hl0X:b+0<X.next+0:=by omega
 rw[show Z=ext Z [] from rfl]
 simp only[hz,l0,k0,hl0X,qk_old,ruD,ruW,xF,ruU,Nat.reduceLT,Nat.reduceAdd,Nat.reduceEqDiff]
 refine⟨.inr fun _ n hn=>.inr (by simp only[zE3,idsV,zA7]at hn; omega),?_⟩
 have fin:∀ (G:AHeap) (D:List Nat) (v:Value),FrAt 176 G v (s.fs++[f])->Mod (idsV w) (ext Z [⟨176,false,[.int .i64 kind,.int .i64 s.h,.int .i64 s.b]⟩]) G->(∀ n∈idsV v,z<=n)->G.next=z+2->∃ y,G.next=y/\G.base<=y/\b+0<y/\b+1<y/\bk G (b+0)=some ⟨93,false,[.int .i64 s.h,.int .i64 s.b,.slice f0 s.fs.length fc]⟩/\bk G (b+1)=some ⟨93,false,[.int .i64 0,.int .i64 0,.slice none 0 0]⟩/\Mod [] X G:=fun G D v hv mG hvi hG=>by
  have mZE:Mod [] Z (ext Z [⟨176,false,[.int .i64 kind,.int .i64 s.h,.int .i64 s.b]⟩]):=Mod.ext okZ
  have hwi:∀ n∈idsV w,x<=n:=fun n hn=>by have:=hwlo n hn; omega
  have nE:(ext Z [⟨176,false,[.int .i64 kind,.int .i64 s.h,.int .i64 s.b]⟩]).next=z+1:=by rw[ext_next,hz]; rfl
  refine⟨z+2,hG,hG▸mG.ok (mZE.ok okZ),by omega,by omega,?_,?_,(mZ.trans mZE).step mG okX fun n hn=>.inr (by have:=hwi n hn; omega)⟩
  ·exact (mG.bk (by omega) (fun h=>by have:=hwi _ h; omega)).trans ((mZE.bk (by omega) (by simp)).trans k0)
  ·exact (mG.bk (by omega) (fun h=>by have:=hwi _ h; omega)).trans ((mZE.bk (by omega) (by simp)).trans k1)
 have kE:bk (ext Z [⟨176,false,[.int .i64 kind,.int .i64 s.h,.int .i64 s.b]⟩]) (z+0)=some ⟨176,false,[.int .i64 kind,.int .i64 s.h,.int .i64 s.b]⟩:=by rw[bk_at hz (by simp)]; rfl
 have hsm:small (s.fs.length+1) 24=true:=by simp only[small,zA4,zD9]; omega
 have hfc:frC s.fs++frV f=frC (s.fs++[f]):=by rw[frC_append]; simp[frC]
 have fin2:∀ (G:AHeap) (v:Value),FrAt 176 G v (s.fs++[f])->Mod [] X G->(∀ n∈idsV v,z<=n)->∀ F,Mod [b+0,b+1] G F->∃ w,Except.ok (.agg ⟨[.int .i64 s.h,.int .i64 s.b,v]⟩)=(Except.ok (.agg ⟨[.int .i64 s.h,.int .i64 s.b,w]⟩):Out)/\FrAt 176 F w (s.fs++[f])/\Mod [] H F/\∀ n∈idsV w,b<=n:=fun G v hv mG hvi F mF=>⟨v,rfl,hv.mod mF fun n hn h=>by
  have:=hvi n hn
  simp only[zA9,zD6,or_false]at h
  omega,(mX.trans mG).step mF hok fun n hn=>.inr (by simp only[zA9,zD6,or_false]at hn; omega),fun n hn=>by have:=hvi n hn; omega⟩
 rcases cwZ with hv|⟨h0,m,rfl,hm1,hm2⟩
 ·have hvE:VsAt (ext Z [⟨176,false,[.int .i64 kind,.int .i64 s.h,.int .i64 s.b]⟩]) 176 3 w (frC s.fs) s.fs.length:=hv.of (by rw[ext_next]; omega) (fun n hn=>ext_get_old (hv.ne n hn).2)
  refine wd_appV (v:=w) (vs:=frC s.fs) (cnt:=s.fs.length) (sz:=3) (e:=176) (by1:=24) (n:=z+0) (off:=0) (cnt2:=1) (cap:=1) (s:=some 0) (z:=.agg #[.int .i64 0,.int .i64 0,.int .i64 0]) (ws:=frV f) u91 s176 by176 z176 rfl i91 rfl rfl (by decide) hvE (rk_of kE) (by rw[ext_next,hz]; simp) (by simp) (by rw[hfv]; rfl) rfl (by decide) hsm (scbL_append (frC_sc _ _) rfl) ((Mod.ext (W:=[]) okZ).ok okZ) (by simp only[all2_cons,all2_nil,hA,true_or,and_true]) fun G D vG mG hD nG=>?_
  rw[hfc,show s.fs.length+1=(s.fs++[f]).length by simp]at vG
  rw[ext_next,hz]at vG nG ⊢
  have fG:=FrAt.vs vG
  simp only[zC9]at nG vG fG ⊢
  rw[show (s.fs++[f]).length=s.fs.length+1 by simp]at fG
  obtain⟨y,hy,yb,i0,i1,q0,q1,mXG⟩:=fin G D _ fG mG (fun n hn=>by simp only[idsV,zA7]at hn; omega) nG
  have hslz:scb y (.slice (some ⟨z+1,0,none⟩) (s.fs.length+1) (s.fs.length+1))=true:=by simp only[scb]; exact blt_of (by omega)
  have hslw:scb (y+0) (.slice (some ⟨z+1,0,none⟩) (s.fs.length+1) (s.fs.length+1))=true:=hslz
  rw[show G=ext G [] from rfl]
  simp only[hy,i0,i1,q0,q1,hslw,hA,qk_old,Tryz.results129,ruD,ruW,putL,Nat.reduceLeDiff,xF,ruU,Nat.reduceLT,Nat.reduceAdd,Nat.reduceEqDiff]
  rw[ext_nil]
  refine fin2 G _ fG mXG (fun n hn=>by simp only[idsV,zA7]at hn; omega) _ ?_
  exact (Mod.uw (by simp)).trans (Mod.uw (by simp))
 ·have hA0:=fun (G:AHeap) (hG:G.next=z+1) (hr:bk G (z+0)=some ⟨176,false,[.int .i64 kind,.int .i64 s.h,.int .i64 s.b]⟩)=>app_ex0 (X:=G) (st:=91) (n:=z+0) (off:=0) (cnt:=1) (cap:=1) (m:=m) (s:=some 0) (bl:=⟨176,false,[.int .i64 kind,.int .i64 s.h,.int .i64 s.b]⟩) (ws:=[.int .i64 kind,.int .i64 s.h,.int .i64 s.b]) u91 s176 by176 z176 rfl i91 (rk_of hr) (by simp) rfl (by decide) rfl rfl (by decide)
  have nE:(ext Z [⟨176,false,[.int .i64 kind,.int .i64 s.h,.int .i64 s.b]⟩]).next=z+1:=by rw[ext_next,hz]; rfl
  refine wd_appE (v:=.slice (some ⟨z+1,0,none⟩) 1 1) (M:=[⟨176,true,[.int .i64 kind,.int .i64 s.h,.int .i64 s.b]⟩]) [z+0] rfl (by decide) (fun n hn=>by simp only[zA7]at hn; subst hn; exact bk_ne kE) (fun G h1 h2=>?_) (by simp only[all2_cons,all2_nil,Meets,hA,true_or,and_true]) ?_
  ·simp only[ruU,Nat.reduceEqDiff]
   have:=hA0 G (by rw[h1,nE]) ((bk_get (h2 (z+0) (by simp))).trans kE)
   rw[h1,nE]at this
   exact this
  generalize hG':ext (ext Z _) _=G
  have mG:Mod (idsV (.slice (some ⟨m,0,some 0⟩) 0 0)) (ext Z [⟨176,false,[.int .i64 kind,.int .i64 s.h,.int .i64 s.b]⟩]) G:=hG'▸Mod.ext ((Mod.ext (W:=[]) okZ).ok okZ)
  have nG:G.next=z+2:=by rw[<-hG',ext_next,nE]; rfl
  have kG:bk G (z+1+0)=some ⟨176,true,[.int .i64 kind,.int .i64 s.h,.int .i64 s.b]⟩:=by rw[<-hG',bk_at nE (by simp)]; rfl
  clear hG'
  have fG:FrAt 176 G (.slice (some ⟨z+1,0,none⟩) 1 1) (s.fs++[f]):=by
   rw[h0]
   exact .inr ⟨z+1,1,_,rfl,zB2 _,kG,by omega,by simp,by rw[zD0]; simp only[zC9,frC,zD8,List.flatMap_nil,hfv]; rfl⟩
  obtain⟨y,hy,yb,i0,i1,q0,q1,mXG⟩:=fin G [] _ fG mG (fun n hn=>by simp only[idsV,zA7]at hn; omega) nG
  have hslz:scb y (.slice (some ⟨z+1,0,none⟩) 1 1)=true:=by simp only[scb]; exact blt_of (by omega)
  have hslw:scb (y+0) (.slice (some ⟨z+1,0,none⟩) 1 1)=true:=hslz
  rw[show G=ext G [] from rfl]
  simp only[hy,i0,i1,q0,q1,hslw,hA,qk_old,Tryz.results129,ruD,ruW,putL,Nat.reduceLeDiff,xF,ruU,Nat.reduceLT,Nat.reduceAdd,Nat.reduceEqDiff]
  rw[ext_nil]
  refine fin2 G _ fG mXG (fun n hn=>by simp only[idsV,zA7]at hn; omega) _ ?_
  exact (Mod.uw (by simp)).trans (Mod.uw (by simp))
set_option maxRecDepth 100000
theorem after102_c (H:AHeap) (pos:Int) (op:Nat) (av:Value) (args:List Int) (s:St) (fv:Value) (hop:op<28) (ha:RdAt H 1 av (iv args) args.length) (hal:args.length<=1000000) (h0:op=4\/op=9->0<args.length/\0<=args.getD 0 0/\args.getD 0 0<=65535) (h8:op=8->0<args.length/\0<=args.getD 0 0/\args.getD 0 0<=65535)
  (hf:FrAt 176 H fv s.fs) (hfl:s.fs.length<=1000000) (hne:op=19\/op=20->s.fs≠[]) (hh:-1000000000<=s.h/\s.h<=1000000000) (hb9:-1000000000<=s.b/\s.b<=1000000000) (hok:H.base<=H.next) (sav:scb H.next av=true) :
  CallA Tryz.prog 102 [.agg ⟨[.int .i64 pos,.int .i64 (op:Int),av]⟩,stC s fv] H (fun out X=>∃ v1 v2,out=.ok (.tuple #[stC (aftR op args s).1 v1,stC (aftR op args s).2 v2])/\FrAt 176 X v1 (aftR op args s).1.fs/\FrAt 176 X v2 (aftR op args s).2.fs/\Mod [] H X):=by
 obtain⟨b,hb⟩:=Go.Ax.exq H.next
 have hbase:H.base<=b:=hb▸hok
 obtain⟨a0,c0,e0⟩:=ha.sl
 obtain⟨f0,fc,ef⟩:=hf.sl
 have sfv:=hf.sc
 rw[hb,e0]at sav
 rw[hb,ef]at sfv
 have sfv1:=scb_mono (show b<=b+1 by omega) _ sfv
 have hT:∀ i:Decidable True,@decide True i=true:=fun i=>by simp
 have hF:∀ i:Decidable False,@decide False i=false:=fun i=>by simp
 refine callE_fn mixed Tryz.func102 rfl Tryz.ntmps102 (zB3 rfl) ?_
 rw[e0,ef]
 unfold stC
 simp only[hb,sav,sfv1,ruW,Nat.reduceLeDiff,xF,ruU,entryE,Nat.reduceLT,Nat.reduceAdd,Nat.reduceEqDiff]
 generalize hX:ext H _=X
 have mX:Mod [] H X:=hX▸Mod.ext hok
 have nX:X.next=b+4:=by rw[<-hX,ext_next,hb]; rfl
 have k0:bk X (b+0)=some ⟨59,false,[.int .i64 pos,.int .i64 (op:Int),.slice a0 args.length c0]⟩:=by rw[<-hX,bk_at hb (by simp)]; rfl
 have k1:bk X (b+1)=some ⟨93,false,[.int .i64 s.h,.int .i64 s.b,.slice f0 s.fs.length fc]⟩:=by rw[<-hX,bk_at hb (by simp)]; rfl
 have k2:bk X (b+2)=some ⟨93,false,[.int .i64 0,.int .i64 0,.slice none 0 0]⟩:=by rw[<-hX,bk_at hb (by simp)]; rfl
 have k3:bk X (b+3)=some ⟨93,false,[.int .i64 0,.int .i64 0,.slice none 0 0]⟩:=by rw[<-hX,bk_at hb (by simp)]; rfl
 clear hX
 have okX:=mX.ok hok
 have haX:=ha.mod0 mX
 have hfX:=hf.mod0 mX
 rw[e0]at haX
 obtain⟨pq,hpq⟩:=Go.Ax.exq (effR op args)
 have hbd:=eff_bd op args h0
 rw[show X=ext X [] from rfl]
 refine (eff124_c (ext X []) pos op (.slice a0 args.length c0) args hop haX h0).to ?_
 rw[hpq]at hbd ⊢
 obtain⟨p,q⟩:=pq
 simp only at hbd ⊢
 have hw1:IntKind.i64.wrap (q-p)=q-p:=wrap_sm (by omega) (by omega)
 have hw2:IntKind.i64.wrap (s.h+(q-p))=s.h-p+q:=(wrap_sm (by omega) (by omega)).trans (by omega)
 obtain⟨h',hh'⟩:∃ h',s.h-p+q=h':=⟨_,rfl⟩
 rw[hh']at hw2
 obtain⟨x,hx⟩:=Go.Ax.exq X.next
 have hxb:b+4=x:=nX.symm.trans hx
 have xb:X.base<=x:=hx▸okX
 have l0:b+0<x:=by omega
 have l1:b+1<x:=by omega
 have l2:b+2<x:=by omega
 have l3:b+3<x:=by omega
 have sf4:=scb_mono (show b<=x+1 by omega) _ sfv
 have sf5:=scb_mono (show b<=x+0 by omega) _ sfv
 simp only[hx,xb,k1,l1,hw1,hw2,sf4,qk_old,ruW,putL,Nat.reduceLeDiff,xF,ruU,Nat.reduceLT,Nat.reduceAdd,Nat.reduceEqDiff]
 generalize hY0:ext _ _=Y0
 have hxu:(uw X (b+1) 0 [.int .i64 h']).next=x:=by rw[uw_next,hx]
 have m0:Mod [b+1] X Y0:=hY0▸(Mod.uw (by simp)).trans (Mod.ext (by rw[uw_base,uw_next]; exact okX))
 have n0:Y0.next=x+1:=by rw[<-hY0,ext_next,hxu]; rfl
 have q4:bk Y0 (x+0)=some ⟨93,false,[.int .i64 s.h,.int .i64 s.b,.slice f0 s.fs.length fc]⟩:=by rw[<-hY0,bk_at hxu (by simp)]; rfl
 have q1:bk Y0 (b+1)=some ⟨93,false,[.int .i64 h',.int .i64 s.b,.slice f0 s.fs.length fc]⟩:=by rw[<-hY0,bk_old (by rw[hxu]; exact l1),bk_uw_eq,k1]; rfl
 have hb1:∀ i,i<4->i≠1->b+i∉[b+1]:=fun i h1 h2 h=>by simp only[zA7]at h; omega
 have q0:=(m0.bk (n:=b+0) (by omega) (hb1 0 (by decide) (by decide))).trans k0
 have q2:=(m0.bk (n:=b+2) (by omega) (hb1 2 (by decide) (by decide))).trans k2
 have q3:=(m0.bk (n:=b+3) (by omega) (hb1 3 (by decide) (by decide))).trans k3
 clear hY0 k0 k1 k2 k3
 have ok0:=m0.ok okX
 obtain⟨y,hy⟩:=Go.Ax.exq Y0.next
 have hyx:x+1=y:=n0.symm.trans hy
 have yb0:Y0.base<=y:=hy▸ok0
 have j0:b+0<y:=by omega
 have j1:b+1<y:=by omega
 have j2:b+2<y:=by omega
 have j3:b+3<y:=by omega
 have j4:x+0<y:=by omega
 have syv:=scb_mono (show b<=y by omega) _ sfv
 have syw:=scb_mono (show b<=y+0 by omega) _ sfv
 rw[show Y0=ext Y0 [] from rfl]
 refine w_drawB [(2,0),(3,1),(3,0),(3,2)] [] (by kernel_rfl) (by kernel_rfl) rfl fun ops anc hA hG=>?_
 simp only[all2_cons]at hA
 generalize hc:Code.seq (Code.region 5 _ _) _=code
 simp only[hy,q1,q2,q3,j1,j2,j3,syw,hA,qk_old,ruD,ruW,putL,Nat.reduceLeDiff,xF,ruU,Nat.reduceLT,Nat.reduceAdd,Nat.reduceEqDiff]
 subst hc
 rw[ext_nil]
 refine w_env fun E hE=>?_
 have g2:E 2=.pointer (some ⟨b+0,0,none⟩):=by rw[hE]; rfl
 have g3:E 3=.pointer (some ⟨b+1,0,none⟩):=by rw[hE]; rfl
 have g4:E 4=.pointer (some ⟨b+2,0,none⟩):=by rw[hE]; rfl
 have g5:E 5=.pointer (some ⟨b+3,0,none⟩):=by rw[hE]; rfl
 have g8:E 8=.pointer (some ⟨x+0,0,none⟩):=by rw[hE]; rfl
 clear hE
 generalize hY:uw (uw Y0 _ _ _) _ _ _=Y
 have mY1:Mod [b+2,b+3] Y0 Y:=hY▸(Mod.uw (by simp)).trans (Mod.uw (by simp))
 have nY:Y.next=y:=by rw[<-hY,uw_next,uw_next,hy]
 have h23:b+2≠b+3:=by omega
 have k2:bk Y (b+2)=some ⟨93,false,[.int .i64 h',.int .i64 s.b,.slice f0 s.fs.length fc]⟩:=by rw[<-hY,bk_uw_ne h23,bk_uw_eq,q2]; rfl
 have k3:bk Y (b+3)=some ⟨93,false,[.int .i64 h',.int .i64 s.b,.slice f0 s.fs.length fc]⟩:=by rw[<-hY,bk_uw_eq,bk_uw_ne h23.symm,q3]; rfl
 have hb23:∀ n,n<b+2\/b+4<=n->n∉[b+2,b+3]:=fun n h hn=>by simp only[zA9,zD6,or_false]at hn; omega
 have k0:=(mY1.bk (by omega) (hb23 (b+0) (by omega))).trans q0
 have k1:=(mY1.bk (by omega) (hb23 (b+1) (by omega))).trans q1
 have k4:=(mY1.bk (by omega) (hb23 (x+0) (by omega))).trans q4
 clear hY q0 q1 q2 q3 q4 yb0
 have okY:=mY1.ok ok0
 replace hy:=nY
 have yb:Y.base<=y:=hy▸okY
 have mXY:Mod [b+1,b+2,b+3] X Y:=(m0.mono (by simp)).trans (mY1.mono (by simp))
 have mY:Mod [] H Y:=mX.step mXY hok fun n hn=>.inr (by simp only[zA9,zD6,or_false]at hn; omega)
 have hlow:∀ n,n<b->n∉[b+1,b+2,b+3]:=fun n h hn=>by simp only[zA9,zD6,or_false]at hn; omega
 have haY:=ha.mod0 mY
 have hfY:=hf.mod0 mY
 rw[e0]at haY
 rw[ef]at hfY hfX hf
 have dn:∀ i j,i<4->j<4->i≠j->(b+i=b+j)=False:=fun i j _ _ h=>eq_false (by omega)
 have hwh:IntKind.i64.wrap (h'+1)=h'+1:=wrap_sm (by omega) (by omega)
 have hwb:IntKind.i64.wrap (s.b+1)=s.b+1:=wrap_sm (by omega) (by omega)
 have hfid:∀ n∈idsV (.slice f0 s.fs.length fc),n<b\/y<=n:=fun n hn=>.inl (by have:=(hf.ne n hn).2; omega)
 have fin2:∀ Z F,Mod [] Y Z->Mod [b+2,b+3] Z F->(∀ v fs,FrAt 176 Z v fs->(∀ n∈idsV v,n<b\/y<=n)->FrAt 176 F v fs)/\Mod [] H F:=fun Z F mZ mF=>⟨fun v fs hv hi=>hv.mod mF fun n hn=>by
  have:=hi n hn
  simp only[zA9,zD6,or_false]
  omega,(mY.trans mZ).step mF hok fun n hn=>.inr (by simp only[zA9,zD6,or_false]at hn; omega)⟩
 rw[show Y=ext Y [] from rfl]
 by_cases hA:op=13\/op=14
 ·have haft:aftR op args s=(⟨h',s.b,s.fs⟩,⟨s.h,s.b,s.fs⟩):=by
   unfold aftR
   rw[hpq,if_pos hA]
   simp only[hh']
  rw[haft]
  rcases hA with rfl|rfl
  all_goals
   simp only[zE0]at k0
   simp only[Int.reduceEq,hy,k0,k3,k4,j0,j3,j4,g2,g5,g8,hT,hF,not_false_eq_true,syw,qk_old,ruW,putL,Nat.reduceLeDiff,xF,ruU,Nat.reduceLT,Nat.reduceAdd,Nat.reduceEqDiff]
   refine w_drawB [(2,0),(3,1),(3,0),(3,2)] [] (by kernel_rfl) (by kernel_rfl) rfl fun ops anc hA hG=>?_
   simp only[all2_cons]at hA
   simp only[hy,k2,k3,j2,j3,g4,g5,hA,dn,not_false_eq_true,syw,qk_old,Tryz.results102,ruD,ruW,putL,Nat.reduceLeDiff,xF,ruU,Nat.reduceLT,Nat.reduceAdd,Nat.reduceEqDiff]
   rw[ext_nil]
   refine (fun hm=>⟨_,_,rfl,(fin2 Y _ Mod.refl hm).1 _ _ hfY hfid,(fin2 Y _ Mod.refl hm).1 _ _ hfY hfid,(fin2 Y _ Mod.refl hm).2⟩) ?_
   exact ((Mod.uw (by simp)).trans (Mod.uw (by simp))).trans (Mod.uw (by simp))
 by_cases h7:op=7
 ·subst h7
  have haft:aftR 7 args s=(⟨h',s.b+1,s.fs⟩,⟨h',s.b,s.fs⟩):=by
   unfold aftR
   rw[hpq,if_neg (by omega),if_pos rfl]
   simp only[hh']
  rw[haft]
  ·simp only[zE0]at k0
   simp only[Int.reduceEq,hy,k0,k2,j0,j2,g2,g4,hT,hF,not_false_eq_true,hwb,qk_old,ruW,putL,Nat.reduceLeDiff,xF,ruU,Nat.reduceLT,Nat.reduceAdd,Nat.reduceEqDiff]
   refine w_drawB [(2,0),(3,1),(3,0),(3,2)] [] (by kernel_rfl) (by kernel_rfl) rfl fun ops anc hA hG=>?_
   simp only[all2_cons]at hA
   simp only[hy,k2,k3,j2,j3,g4,g5,hA,dn,not_false_eq_true,syw,qk_old,Tryz.results102,ruD,ruW,putL,Nat.reduceLeDiff,xF,ruU,Nat.reduceLT,Nat.reduceAdd,Nat.reduceEqDiff]
   rw[ext_nil]
   refine (fun hm=>⟨_,_,rfl,(fin2 Y _ Mod.refl hm).1 _ _ hfY hfid,(fin2 Y _ Mod.refl hm).1 _ _ hfY hfid,(fin2 Y _ Mod.refl hm).2⟩) ?_
   exact ((Mod.uw (by simp)).trans (Mod.uw (by simp))).trans (Mod.uw (by simp))
 by_cases c8:op=8
 ·subst c8
  obtain⟨hl,hx0,hx1⟩:=h8 rfl
  obtain⟨n,off,sp,c,e,o,M,e2,n1,r1,m1⟩:=haY.one hl
  have e3:=e2
  simp only[Value.slice.injEq]at e3
  obtain⟨rfl,-,rfl⟩:=e3
  rw[iv_get,zA6 hl,zA5]at m1
  have hg:args.getD 0 0=args[0]:=by rw[zB1,zA6 hl]; rfl
  have i1:aIndexAddr Tryz.prog 35 (.slice (some ⟨n,off,sp⟩) args.length c0) (.int .i64 0)=some (.pointer (some ⟨n,off+0,none⟩)):=ia_of (i:=0) u35 s3 hl
  rw[hy]at n1
  rw[hg]at hx0 hx1
  have hw:IntKind.i64.wrap (s.b-args[0])=s.b-args[0]:=wrap_sm (by omega) (by omega)
  have haft:aftR 8 args s=(⟨h',s.b-args[0],s.fs⟩,⟨h',s.b,s.fs⟩):=by
   unfold aftR
   rw[hpq,if_neg (by omega),if_neg (by omega),if_pos rfl,hg]
   simp only[hh']
  rw[haft]
  ·simp only[zE0]at k0
   simp only[Int.reduceEq,hy,k0,j0,g2,hT,hF,not_false_eq_true,qk_old,ruW,xF,ruU,Nat.reduceLT,Nat.reduceAdd,Nat.reduceEqDiff]
   refine w_drawB [(8,0),(8,1),(8,2),(8,3),(8,4),(8,5),(8,6),(8,7)] [] (by kernel_rfl) (by kernel_rfl) rfl fun ops anc hA hG=>?_
   simp only[all2_cons]at hA
   simp only[hy,k0,k2,j0,j2,g2,g4,not_false_eq_true,i1,n1,r1,m1,hw,hA,qk_old,ruD,ruW,putL,Nat.reduceLeDiff,xF,ruU,Nat.reduceLT,Nat.reduceAdd,Nat.reduceEqDiff]
   refine w_drawB [(2,0),(3,1),(3,0),(3,2)] [] (by kernel_rfl) (by kernel_rfl) rfl fun ops anc hA hG=>?_
   simp only[all2_cons]at hA
   simp only[hy,k2,k3,j2,j3,g4,g5,hA,dn,not_false_eq_true,syw,qk_old,Tryz.results102,ruD,ruW,putL,Nat.reduceLeDiff,xF,ruU,Nat.reduceLT,Nat.reduceAdd,Nat.reduceEqDiff]
   rw[ext_nil]
   refine (fun hm=>⟨_,_,rfl,(fin2 Y _ Mod.refl hm).1 _ _ hfY hfid,(fin2 Y _ Mod.refl hm).1 _ _ hfY hfid,(fin2 Y _ Mod.refl hm).2⟩) ?_
   exact ((Mod.uw (by simp)).trans (Mod.uw (by simp))).trans (Mod.uw (by simp))
 have hopen:=fun (G:AHeap) (k:Int) (hG:FrAt 176 G (.slice f0 s.fs.length fc) s.fs) (okG:G.base<=G.next)=>open129_c G ⟨h',s.b,s.fs⟩ (.slice f0 s.fs.length fc) k hG hfl okG
 simp only[stC]at hopen
 by_cases hD:op=16\/op=17
 ·obtain⟨f,hf'⟩:∃ f:Fr,f=⟨(op:Int),h',s.b⟩:=⟨_,rfl⟩
  have haft:aftR op args s=(⟨h',s.b,s.fs++[f]⟩,⟨h'+1,s.b,s.fs⟩):=by
   unfold aftR
   rw[hpq,if_neg (by omega),if_neg (by omega),if_neg (by omega),if_pos (by omega)]
   simp only[hh',hf']
  rw[haft]
  have hcall:=hopen Y (op:Int) hfY okY
  rw[<-hf']at hcall
  rcases hD with rfl|rfl
  all_goals
   simp only[zE0]at k0 hcall
   simp only[Int.reduceEq,hy,k0,k1,j0,j1,g2,g3,hT,hF,not_false_eq_true,qk_old,ruW,Nat.reduceLeDiff,xF,ruU,Nat.reduceLT,Nat.reduceAdd,Nat.reduceEqDiff]
   rw[ext_nil]
   refine hcall.mono ?_
   rintro _ Z ⟨w,rfl,fw,mZ,hwlo⟩
   obtain⟨z,hz⟩:=Go.Ax.exq Z.next
   have okZ:=mZ.ok okY
   have lz:y<=z:=by have:=mZ.next; omega
   have hfZ:=hfY.mod0 mZ
   have hwid:∀ n∈idsV w,n<b\/y<=n:=fun n hn=>.inr (by have:=hwlo n hn; omega)
   have sw:=fw.sc
   obtain⟨wa,wc,ew⟩:=fw.sl
   rw[ew,hz]at sw
   rw[ew]at fw hwid
   have sw0:=scb_mono (show z<=z+0 by omega) _ sw
   have szw:=scb_mono (show b<=z+0 by omega) _ sfv
   replace k0:=(mZ.bk (by omega) (by simp)).trans k0
   replace k1:=(mZ.bk (by omega) (by simp)).trans k1
   replace k2:=(mZ.bk (by omega) (by simp)).trans k2
   replace k3:=(mZ.bk (by omega) (by simp)).trans k3
   replace k4:=(mZ.bk (by omega) (by simp)).trans k4
   replace j0:b+0<z:=by omega
   replace j1:b+1<z:=by omega
   replace j2:b+2<z:=by omega
   replace j3:b+3<z:=by omega
   replace j4:x+0<z:=by omega
   rw[ew]
   rw[show Z=ext Z [] from rfl]
   simp only[hz,k2,k3,j2,j3,g4,g5,dn,not_false_eq_true,sw0,hwh,qk_old,ruW,putL,Nat.reduceLeDiff,xF,ruU,Nat.reduceLT,Nat.reduceAdd,Nat.reduceEqDiff]
   refine w_drawB [(2,0),(3,1),(3,0),(3,2)] [] (by kernel_rfl) (by kernel_rfl) rfl fun ops anc hA hG=>?_
   simp only[all2_cons]at hA
   simp only[hz,k2,k3,j2,j3,g4,g5,hA,dn,not_false_eq_true,sw0,szw,qk_old,Tryz.results102,ruD,ruW,putL,Nat.reduceLeDiff,xF,ruU,Nat.reduceLT,Nat.reduceAdd,Nat.reduceEqDiff]
   rw[ext_nil]
   refine (fun hm=>⟨_,_,rfl,(fin2 Z _ mZ hm).1 _ _ fw hwid,(fin2 Z _ mZ hm).1 _ _ hfZ hfid,(fin2 Z _ mZ hm).2⟩) ?_
   exact (((Mod.uw (by simp)).trans (Mod.uw (by simp))).trans (Mod.uw (by simp))).trans (Mod.uw (by simp))
 by_cases hE:op=18
 ·obtain⟨f,hf'⟩:∃ f:Fr,f=⟨18,h',s.b⟩:=⟨_,rfl⟩
  obtain⟨g,hg'⟩:∃ g:Fr,g=⟨19,h',s.b⟩:=⟨_,rfl⟩
  subst hE
  have haft:aftR 18 args s=(⟨h',s.b,s.fs++[f]⟩,⟨h'+1,s.b,s.fs++[g]⟩):=by
   unfold aftR
   rw[hpq,if_neg (by omega),if_neg (by omega),if_neg (by omega),if_neg (by omega),if_pos rfl]
   simp only[hh',hf',hg']
  rw[haft]
  have hcall:=hopen Y 18 hfY okY
  rw[<-hf']at hcall
  simp only[zE0]at k0
  simp only[Int.reduceEq,hy,k0,k1,j0,j1,g2,g3,hT,hF,not_false_eq_true,qk_old,ruW,Nat.reduceLeDiff,xF,ruU,Nat.reduceLT,Nat.reduceAdd,Nat.reduceEqDiff]
  rw[ext_nil]
  refine hcall.mono ?_
  rintro _ Z ⟨w,rfl,fw,mZ,hwlo⟩
  obtain⟨z,hz⟩:=Go.Ax.exq Z.next
  have okZ:=mZ.ok okY
  have lz:y<=z:=by have:=mZ.next; omega
  have hfZ:=hfY.mod0 mZ
  have hwid:∀ n∈idsV w,n<b\/y<=n:=fun n hn=>.inr (by have:=hwlo n hn; omega)
  have sw:=fw.sc
  obtain⟨wa,wc,ew⟩:=fw.sl
  rw[ew,hz]at sw
  rw[ew]at fw hwid
  have sw0:=scb_mono (show z<=z+0 by omega) _ sw
  replace k0:=(mZ.bk (by omega) (by simp)).trans k0
  replace k1:=(mZ.bk (by omega) (by simp)).trans k1
  replace k2:=(mZ.bk (by omega) (by simp)).trans k2
  replace k3:=(mZ.bk (by omega) (by simp)).trans k3
  replace k4:=(mZ.bk (by omega) (by simp)).trans k4
  replace j0:b+0<z:=by omega
  replace j1:b+1<z:=by omega
  replace j2:b+2<z:=by omega
  replace j3:b+3<z:=by omega
  replace j4:x+0<z:=by omega
  rw[ew]
  rw[show Z=ext Z [] from rfl]
  simp only[hz,k1,k2,j1,j2,g3,g4,dn,not_false_eq_true,sw0,qk_old,ruW,putL,Nat.reduceLeDiff,xF,ruU,Nat.reduceLT,Nat.reduceAdd,Nat.reduceEqDiff]
  rw[ext_nil]
  obtain⟨U,hU⟩:=Go.Ax.exq (uw Z (b+2) 0 [.int .i64 h',.int .i64 s.b,.slice wa (s.fs++[f]).length wc])
  rw[hU]
  have mU:Mod [b+2] Z U:=hU▸Mod.uw (by simp)
  have nU:U.next=z:=by rw[<-hU,uw_next,hz]
  replace k2:bk U (b+2)=some ⟨93,false,[.int .i64 h',.int .i64 s.b,.slice wa (s.fs++[f]).length wc]⟩:=by rw[<-hU,bk_uw_eq,k2]; rfl
  have hb2:∀ n,n≠b+2->n∉[b+2]:=fun n h hn=>by simp only[zA7]at hn; exact h hn
  replace k0:=(mU.bk (by omega) (hb2 (b+0) (by omega))).trans k0
  replace k1:=(mU.bk (by omega) (hb2 (b+1) (by omega))).trans k1
  replace k3:=(mU.bk (by omega) (hb2 (b+3) (by omega))).trans k3
  replace k4:=(mU.bk (by omega) (hb2 (x+0) (by omega))).trans k4
  clear hU
  have hfU:=hfZ.mod mU fun n hn=>hb2 n (by have:=hfid n hn; omega)
  have fwU:=fw.mod mU fun n hn=>hb2 n (by have:=hwid n hn; omega)
  have okU:=mU.ok okZ
  have hcal2:=hopen U 19 hfU okU
  rw[<-hg']at hcal2
  refine hcal2.mono ?_
  rintro _ T ⟨r,rfl,fr,mT,hrlo⟩
  obtain⟨t,ht⟩:=Go.Ax.exq T.next
  have okT:=mT.ok okU
  have lt:z<=t:=by have:=mT.next; omega
  have fwT:=fwU.mod0 mT
  have hrid:∀ n∈idsV r,n<b\/y<=n:=fun n hn=>.inr (by have:=hrlo n hn; omega)
  have sr:=fr.sc
  obtain⟨ra,rc,er⟩:=fr.sl
  rw[er,ht]at sr
  rw[er]at fr hrid
  have sr0:=scb_mono (show t<=t+0 by omega) _ sr
  have sw2:=scb_mono (show z<=t+0 by omega) _ sw
  replace k0:=(mT.bk (by omega) (by simp)).trans k0
  replace k1:=(mT.bk (by omega) (by simp)).trans k1
  replace k2:=(mT.bk (by omega) (by simp)).trans k2
  replace k3:=(mT.bk (by omega) (by simp)).trans k3
  replace k4:=(mT.bk (by omega) (by simp)).trans k4
  replace j0:b+0<t:=by omega
  replace j1:b+1<t:=by omega
  replace j2:b+2<t:=by omega
  replace j3:b+3<t:=by omega
  replace j4:x+0<t:=by omega
  rw[er]
  rw[show T=ext T [] from rfl]
  simp only[ht,k3,j3,g5,not_false_eq_true,sr0,hwh,qk_old,ruW,putL,Nat.reduceLeDiff,xF,ruU,Nat.reduceLT,Nat.reduceAdd,Nat.reduceEqDiff]
  refine w_drawB [(2,0),(3,1),(3,0),(3,2)] [] (by kernel_rfl) (by kernel_rfl) rfl fun ops anc hA hG=>?_
  simp only[all2_cons]at hA
  simp only[ht,k2,k3,j2,j3,g4,g5,hA,dn,not_false_eq_true,sw2,sr0,qk_old,Tryz.results102,ruD,ruW,putL,Nat.reduceLeDiff,xF,ruU,Nat.reduceLT,Nat.reduceAdd,Nat.reduceEqDiff]
  rw[ext_nil]
  have mUT:Mod [b+2] Z T:=mU.trans (mT.mono (by simp))
  have fin3:∀ F,Mod [b+2,b+3] T F->(∀ v fs,FrAt 176 T v fs->(∀ n∈idsV v,n<b\/y<=n)->FrAt 176 F v fs)/\Mod [] H F:=fun F mF=>⟨fun v fs hv hi=>hv.mod mF fun n hn=>by
   have:=hi n hn
   simp only[zA9,zD6,or_false]
   omega,((mY.trans mZ).step mUT hok fun n hn=>.inr (by simp only[zA7]at hn; omega)).step mF hok fun n hn=>.inr (by simp only[zA9,zD6,or_false]at hn; omega)⟩
  refine (fun hm=>⟨_,_,rfl,(fin3 _ hm).1 _ _ fwT hwid,(fin3 _ hm).1 _ _ fr hrid,(fin3 _ hm).2⟩) ?_
  exact (((Mod.uw (by simp)).trans (Mod.uw (by simp))).trans (Mod.uw (by simp))).trans (Mod.uw (by simp))
 by_cases h19:op=19\/op=20
 ·have hne':=hne h19
  have hpos:0<s.fs.length:=List.length_pos_iff.2 hne'
  obtain⟨t,ht⟩:=Go.Ax.exq (topS s)
  have ht':topS ⟨h',s.b,s.fs⟩=t:=ht
  have hwl:IntKind.i64.wrap ((s.fs.length:Int)-1)=((s.fs.length-1:Nat):Int):=(wrap_sm (by omega) (by omega)).trans (by omega)
  obtain⟨ca,cc,fcut,cid,hcut⟩:=hfY.cut (st:=91) u91 s176 hne'
  have hdl:s.fs.dropLast.length=s.fs.length-1:=List.length_dropLast
  have hcid:∀ n∈idsV (.slice ca (s.fs.length-1) cc),n<b\/y<=n:=fun n hn=>hfid n (cid n hn)
  have scu:=fcut.sc
  rw[hy]at scu
  have scu0:=scb_mono (show y<=y+0 by omega) _ scu
  have scu1:=scb_mono (show y<=y+1 by omega) _ scu
  have hsl:∀ L,aSlice Tryz.prog (ext Y L) 91 (.slice f0 s.fs.length fc) none (some (.int .i64 ((s.fs.length-1:Nat):Int))) none=some (.slice ca (s.fs.length-1) cc,ext Y L):=fun L=>hcut _ fun n hn=>ext_get_old (hfY.ne n hn).2
  rcases h19 with rfl|rfl
  ·have haft:aftR 19 args s=(⟨h',s.b,if t.kind=18 then s.fs.dropLast++[⟨19,t.height,t.bound⟩] else s.fs.dropLast⟩,⟨h',s.b,s.fs⟩):=by
    unfold aftR
    rw[hpq,if_neg (by omega),if_neg (by omega),if_neg (by omega),if_neg (by omega),if_neg (by omega),if_pos rfl]
    simp only[hh',ht]
   rw[haft]
   have htc:=top127_c (ext Y []) ⟨h',s.b,s.fs⟩ (.slice f0 s.fs.length fc) hfY.rd hfl
   rw[ht']at htc
   simp only[stC,frV]at htc
   obtain⟨d18,hd18⟩:∃ d,decide (t.kind=18)=d:=⟨_,rfl⟩
   simp only[zE0]at k0
   simp only[Int.reduceEq,hy,k0,k1,j0,j1,g2,g3,hT,hF,not_false_eq_true,qk_old,ruW,Nat.reduceLeDiff,xF,ruU,Nat.reduceLT,Nat.reduceAdd,Nat.reduceEqDiff]
   refine htc.to ?_
   simp only[hy,yb,k1,k2,j1,j2,g3,g4,not_false_eq_true,hwl,hsl,scu1,hd18,qk_old,ruW,putL,Nat.reduceLeDiff,xF,ruU,Nat.reduceLT,Nat.reduceAdd,Nat.reduceEqDiff]
   obtain⟨U,hU⟩:=Go.Ax.exq (ext (uw Y (b+2) 2 [.slice ca (s.fs.length-1) cc]) [⟨176,false,[.int .i64 t.kind,.int .i64 t.height,.int .i64 t.bound]⟩])
   rw[hU]
   have hyu:(uw Y (b+2) 2 [.slice ca (s.fs.length-1) cc]).next=y:=by rw[uw_next,hy]
   have mU:Mod [b+2] Y U:=hU▸(Mod.uw (by simp)).trans (Mod.ext (by rw[uw_base,uw_next]; exact okY))
   have nU:U.next=y+1:=by rw[<-hU,ext_next,hyu]; rfl
   have u6:bk U (y+0)=some ⟨176,false,[.int .i64 t.kind,.int .i64 t.height,.int .i64 t.bound]⟩:=by rw[<-hU,bk_at hyu (by simp)]; rfl
   replace k2:bk U (b+2)=some ⟨93,false,[.int .i64 h',.int .i64 s.b,.slice ca (s.fs.length-1) cc]⟩:=by rw[<-hU,bk_old (by rw[hyu]; exact j2),bk_uw_eq,k2]; rfl
   have hb2:∀ n,n≠b+2->n∉[b+2]:=fun n h hn=>by simp only[zA7]at hn; exact h hn
   replace k0:=(mU.bk (by omega) (hb2 (b+0) (by omega))).trans k0
   replace k1:=(mU.bk (by omega) (hb2 (b+1) (by omega))).trans k1
   replace k3:=(mU.bk (by omega) (hb2 (b+3) (by omega))).trans k3
   replace k4:=(mU.bk (by omega) (hb2 (x+0) (by omega))).trans k4
   have hfU:=hfY.mod mU fun n hn=>hb2 n (by have:=hfid n hn; omega)
   have fcU:=fcut.mod mU fun n hn=>hb2 n (by have:=hcid n hn; omega)
   have okU:=mU.ok okY
   obtain⟨u,hu⟩:=Go.Ax.exq U.next
   clear hU
   have suw:=scb_mono (show b<=u+0 by omega) _ sfv
   have scw:=scb_mono (show y<=u+0 by omega) _ scu
   replace j0:b+0<u:=by omega
   replace j1:b+1<u:=by omega
   replace j2:b+2<u:=by omega
   replace j3:b+3<u:=by omega
   replace j4:x+0<u:=by omega
   have fin4:∀ Z F,Mod [] U Z->Mod [b+2,b+3] Z F->(∀ v fs,FrAt 176 Z v fs->(∀ n∈idsV v,n<b\/y<=n)->FrAt 176 F v fs)/\Mod [] H F:=fun Z F mZ mF=>⟨fun v fs hv hi=>hv.mod mF fun n hn=>by
    have:=hi n hn
    simp only[zA9,zD6,or_false]
    omega,((mY.step mU hok fun n hn=>.inr (by simp only[zA7]at hn; omega)).trans mZ).step mF hok fun n hn=>.inr (by simp only[zA9,zD6,or_false]at hn; omega)⟩
   rw[show U=ext U [] from rfl]
   cases d18 with
   |false =>
    rw[if_neg (of_decide_eq_false hd18)]
    simp only[ruW]
    refine w_drawB [(2,0),(3,1),(3,0),(3,2)] [] (by kernel_rfl) (by kernel_rfl) rfl fun ops anc hA hG=>?_
    simp only[all2_cons]at hA
    simp only[hu,k2,k3,j2,j3,g4,g5,hA,dn,not_false_eq_true,suw,scw,qk_old,Tryz.results102,ruD,ruW,putL,Nat.reduceLeDiff,xF,ruU,Nat.reduceLT,Nat.reduceAdd,Nat.reduceEqDiff]
    rw[ext_nil]
    refine (fun hm=>⟨_,_,rfl,(fin4 U _ Mod.refl hm).1 _ _ fcU hcid,(fin4 U _ Mod.refl hm).1 _ _ hfU hfid,(fin4 U _ Mod.refl hm).2⟩) ?_
    exact (Mod.uw (by simp)).trans (Mod.uw (by simp))
   |true =>
    rw[if_pos (of_decide_eq_true hd18)]
    simp only[ruW]
    refine w_drawB [(2,1),(9,2),(9,8),(9,1),(9,4),(9,6),(10,9),(10,8),(10,2),(11,9),(11,0),(11,1),(11,2),(11,3),(11,4),(11,5),(11,6),(11,7),(11,8)] [] (by kernel_rfl) (by kernel_rfl) rfl fun ops anc hA hG=>?_
    simp only[all2_cons]at hA
    simp only[hu,k2,j2,g4,not_false_eq_true,qk_old,ruD,ruW,xF,ruU,Nat.reduceLT,Nat.reduceAdd,Nat.reduceEqDiff]
    have hrn:=restrict_next U (idsV (.slice ca (s.fs.length-1) cc))
    have fcR:FrAt 176 (U.restrict (idsV (.slice ca (s.fs.length-1) cc))) (.slice ca (s.fs.length-1) cc) s.fs.dropLast:=fcU.of (by rw[hrn.1]; exact zB2 _) fun m hm=>by rw[restrict_get,if_pos hm]
    obtain⟨_,g,hc,w,rfl,cw,mg,hwlo⟩:=clone130_c (U.restrict (idsV (.slice ca (s.fs.length-1) cc))) (.slice ca (s.fs.length-1) cc) s.fs.dropLast fcR (by omega) (by rw[hrn.1,hrn.2.1]; exact zB2 _)
    rw[hrn.1]at hwlo
    refine genV_mod (W:=[]) (v:=w) (g:=g) (idsV (.slice ca (s.fs.length-1) cc)) okU rfl (by kernel_rfl) (fun n hn=>(fcU.ne n hn).1) (fun n hn=>(fcU.ne n hn).2) (by simp) (by simp only[ruU]; exact hc) mg (by simp only[all2_cons,all2_nil,hA,true_or,and_true]) ?_
    intro Z D mZ hgF hgN hnZ hD
    have hD0:D=[]:=List.eq_nil_iff_forall_not_mem.2 fun n hn=>by have:=hD n hn; simp at this
    subst hD0
    replace mZ:Mod [] U Z:=mZ
    replace hnZ:Z.next=g.next:=hnZ
    have cwZ:ClAt Z w s.fs.dropLast:=cw.of (Nat.le_of_eq hnZ.symm) fun n hn=>hgN n (hwlo n hn) (cw.ne n hn).2
    clear hgF hgN
    obtain⟨z,hz⟩:=Go.Ax.exq Z.next
    have okZ:=mZ.ok okU
    have zb:Z.base<=z:=hz▸okZ
    have lz:u<=z:=by have:=mZ.next; omega
    replace k0:=(mZ.bk (by omega) (by simp)).trans k0
    replace k1:=(mZ.bk (by omega) (by simp)).trans k1
    replace k2:=(mZ.bk (by omega) (by simp)).trans k2
    replace k3:=(mZ.bk (by omega) (by simp)).trans k3
    replace k4:=(mZ.bk (by omega) (by simp)).trans k4
    replace j0:b+0<z:=by omega
    replace j1:b+1<z:=by omega
    replace j2:b+2<z:=by omega
    replace j3:b+3<z:=by omega
    replace j4:x+0<z:=by omega
    replace u6:=(mZ.bk (by omega) (by simp)).trans u6
    replace j6:y+0<z:=by omega
    obtain⟨f,hf'⟩:∃ f:Fr,f=⟨19,t.height,t.bound⟩:=⟨_,rfl⟩
    have hfv:frV f=[.int .i64 19,.int .i64 t.height,.int .i64 t.bound]:=by rw[hf']; rfl
    rw[<-hf']
    have hyU:y+0<U.next+0:=by omega
    rw[show Z=ext Z [] from rfl]
    simp only[hz,u6,j6,hyU,not_false_eq_true,qk_old,ruD,ruW,xF,ruU,Nat.reduceLT,Nat.reduceAdd,Nat.reduceEqDiff]
    refine⟨.inr fun _ n hn=>.inr (by simp only[zE3,idsV,zA7]at hn; omega),?_⟩
    have hwi:∀ n∈idsV w,u<=n:=fun n hn=>by have:=hwlo n hn; omega
    have fin5:∀ (G:AHeap) (v:Value),FrAt 176 G v (s.fs.dropLast++[f])->Mod (idsV w) (ext Z [⟨176,false,[.int .i64 19,.int .i64 t.height,.int .i64 t.bound]⟩]) G->(∀ n∈idsV v,z<=n)->G.next=z+2->G.base<=z+2/\b+0<z+2/\b+1<z+2/\b+2<z+2/\b+3<z+2/\x+0<z+2/\bk G (b+0)=some ⟨59,false,[.int .i64 pos,.int .i64 19,.slice a0 args.length c0]⟩/\bk G (b+1)=some ⟨93,false,[.int .i64 h',.int .i64 s.b,.slice f0 s.fs.length fc]⟩/\bk G (b+2)=some ⟨93,false,[.int .i64 h',.int .i64 s.b,.slice ca (s.fs.length-1) cc]⟩/\bk G (b+3)=some ⟨93,false,[.int .i64 h',.int .i64 s.b,.slice f0 s.fs.length fc]⟩/\bk G (x+0)=some ⟨93,false,[.int .i64 s.h,.int .i64 s.b,.slice f0 s.fs.length fc]⟩/\Mod [] U G:=fun G v hv mG hvi hG=>by
     have mZE:Mod [] Z (ext Z [⟨176,false,[.int .i64 19,.int .i64 t.height,.int .i64 t.bound]⟩]):=Mod.ext okZ
     have hlo:∀ n,n<u->n∉idsV w:=fun n h hn=>by have:=hwi n hn; omega
     refine⟨hG▸mG.ok (mZE.ok okZ),by omega,by omega,by omega,by omega,by omega,?_,?_,?_,?_,?_,(mZ.trans mZE).step mG okU fun n hn=>.inr (by have:=hwi n hn; omega)⟩
     ·exact (mG.bk (by rw[ext_next]; omega) (hlo _ (by omega))).trans ((mZE.bk (by omega) (by simp)).trans k0)
     ·exact (mG.bk (by rw[ext_next]; omega) (hlo _ (by omega))).trans ((mZE.bk (by omega) (by simp)).trans k1)
     ·exact (mG.bk (by rw[ext_next]; omega) (hlo _ (by omega))).trans ((mZE.bk (by omega) (by simp)).trans k2)
     ·exact (mG.bk (by rw[ext_next]; omega) (hlo _ (by omega))).trans ((mZE.bk (by omega) (by simp)).trans k3)
     ·exact (mG.bk (by rw[ext_next]; omega) (hlo _ (by omega))).trans ((mZE.bk (by omega) (by simp)).trans k4)
    have kE:bk (ext Z [⟨176,false,[.int .i64 19,.int .i64 t.height,.int .i64 t.bound]⟩]) (z+0)=some ⟨176,false,[.int .i64 19,.int .i64 t.height,.int .i64 t.bound]⟩:=by rw[bk_at hz (by simp)]; rfl
    have hfc:frC s.fs.dropLast++frV f=frC (s.fs.dropLast++[f]):=by rw[frC_append]; simp[frC]
    rcases cwZ with hv|⟨hd0,m,rfl,hm1,hm2⟩
    ·obtain⟨ln,hln⟩:=Go.Ax.exq s.fs.dropLast.length
     have hsm:small (ln+1) 24=true:=by simp only[small,zA4,zD9]; omega
     rw[hln]at hv
     have hvE:VsAt (ext Z [⟨176,false,[.int .i64 19,.int .i64 t.height,.int .i64 t.bound]⟩]) 176 3 w (frC s.fs.dropLast) ln:=hv.of (by rw[ext_next]; omega) (fun n hn=>ext_get_old (hv.ne n hn).2)
     refine wd_appV (v:=w) (vs:=frC s.fs.dropLast) (cnt:=ln) (sz:=3) (e:=176) (by1:=24) (n:=z+0) (off:=0) (cnt2:=1) (cap:=1) (s:=some 0) (z:=.agg #[.int .i64 0,.int .i64 0,.int .i64 0]) (ws:=frV f) u91 s176 by176 z176 rfl i91 rfl rfl (by decide) hvE (rk_of kE) (by rw[ext_next,hz]; simp) (by simp) (by rw[hfv]; rfl) rfl (by decide) hsm (scbL_append (frC_sc _ _) rfl) ((Mod.ext (W:=[]) okZ).ok okZ) (by simp only[all2_cons,all2_nil,hA,true_or,and_true]) fun G D vG mG hD nG=>?_
     rw[hfc,show ln+1=(s.fs.dropLast++[f]).length by simp[hln]]at vG
     rw[ext_next,hz]at vG nG ⊢
     have fG:=FrAt.vs vG
     simp only[zC9]at nG vG fG ⊢
     rw[show (s.fs.dropLast++[f]).length=ln+1 by simp[hln]]at fG
     obtain⟨yb',i0,i1,i2,i3,i4,p0,p1,p2,p3,p4,mUG⟩:=fin5 G _ fG mG (fun n hn=>by simp only[idsV,zA7]at hn; omega) nG
     have hfG:FrAt 176 G (.slice f0 s.fs.length fc) s.fs:=hfU.mod0 mUG
     have suv':=scb_mono (show b<=z+2 by omega) _ sfv
     have suw':=scb_mono (show b<=z+2+0 by omega) _ sfv
     obtain⟨q,hq⟩:=Go.Ax.exq (z+2)
     rw[hq]at yb' i0 i1 i2 i3 i4 nG suv' suw'
     have hslz:scb q (.slice (some ⟨z+1,0,none⟩) (ln+1) (ln+1))=true:=by simp only[scb]; exact blt_of (by omega)
     have hslw:scb (q+0) (.slice (some ⟨z+1,0,none⟩) (ln+1) (ln+1))=true:=hslz
     rw[show G=ext G [] from rfl]
     simp only[nG,i2,p2,g4,hA,not_false_eq_true,hslw,ruD,ruW,putL,Nat.reduceLeDiff,xF,ruU,Nat.reduceLT,Nat.reduceAdd,Nat.reduceEqDiff]
     refine w_drawB [(2,0),(3,1),(3,0),(3,2)] [] (by kernel_rfl) (by kernel_rfl) rfl fun ops anc hA hG=>?_
     simp only[all2_cons]at hA
     simp only[nG,p2,p3,i2,i3,g4,g5,hA,dn,not_false_eq_true,hslw,suv',qk_old,Tryz.results102,ruD,ruW,putL,Nat.reduceLeDiff,xF,ruU,Nat.reduceLT,Nat.reduceAdd,Nat.reduceEqDiff]
     rw[ext_nil]
     refine (fun hm=>⟨_,_,rfl,(fin4 G _ mUG hm).1 _ _ fG (fun n hn=>by simp only[idsV,zA7]at hn; omega),(fin4 G _ mUG hm).1 _ _ hfG hfid,(fin4 G _ mUG hm).2⟩) ?_
     exact ((Mod.uw (by simp)).trans (Mod.uw (by simp))).trans (Mod.uw (by simp))
    ·have hA0:=fun (G:AHeap) (hG:G.next=z+1) (hr:bk G (z+0)=some ⟨176,false,[.int .i64 19,.int .i64 t.height,.int .i64 t.bound]⟩)=>app_ex0 (X:=G) (st:=91) (n:=z+0) (off:=0) (cnt:=1) (cap:=1) (m:=m) (s:=some 0) (bl:=⟨176,false,[.int .i64 19,.int .i64 t.height,.int .i64 t.bound]⟩) (ws:=[.int .i64 19,.int .i64 t.height,.int .i64 t.bound]) u91 s176 by176 z176 rfl i91 (rk_of hr) (by simp) rfl (by decide) rfl rfl (by decide)
     have nE:(ext Z [⟨176,false,[.int .i64 19,.int .i64 t.height,.int .i64 t.bound]⟩]).next=z+1:=by rw[ext_next,hz]; rfl
     refine wd_appE (v:=.slice (some ⟨z+1,0,none⟩) 1 1) (M:=[⟨176,true,[.int .i64 19,.int .i64 t.height,.int .i64 t.bound]⟩]) [z+0] rfl (by decide) (fun n hn=>by simp only[zA7]at hn; subst hn; exact bk_ne kE) (fun G h1 h2=>?_) (by simp only[all2_cons,all2_nil,Meets,hA,true_or,and_true]) ?_
     ·simp only[ruU,Nat.reduceEqDiff]
      have:=hA0 G (by rw[h1,nE]) ((bk_get (h2 (z+0) (by simp))).trans kE)
      rw[h1,nE]at this
      exact this
     generalize hG':ext (ext Z _) _=G
     have mG:Mod (idsV (.slice (some ⟨m,0,some 0⟩) 0 0)) (ext Z [⟨176,false,[.int .i64 19,.int .i64 t.height,.int .i64 t.bound]⟩]) G:=hG'▸Mod.ext ((Mod.ext (W:=[]) okZ).ok okZ)
     have nG:G.next=z+2:=by rw[<-hG',ext_next,nE]; rfl
     have kG:bk G (z+1+0)=some ⟨176,true,[.int .i64 19,.int .i64 t.height,.int .i64 t.bound]⟩:=by rw[<-hG',bk_at nE (by simp)]; rfl
     clear hG'
     have fG:FrAt 176 G (.slice (some ⟨z+1,0,none⟩) 1 1) (s.fs.dropLast++[f]):=by
      rw[hd0]
      exact .inr ⟨z+1,1,_,rfl,zB2 _,kG,by omega,by simp,by rw[zD0]; simp only[zC9,frC,zD8,List.flatMap_nil,hfv]; rfl⟩
     obtain⟨yb',i0,i1,i2,i3,i4,p0,p1,p2,p3,p4,mUG⟩:=fin5 G _ fG mG (fun n hn=>by simp only[idsV,zA7]at hn; omega) nG
     have hfG:FrAt 176 G (.slice f0 s.fs.length fc) s.fs:=hfU.mod0 mUG
     have suv':=scb_mono (show b<=z+2 by omega) _ sfv
     have suw':=scb_mono (show b<=z+2+0 by omega) _ sfv
     obtain⟨q,hq⟩:=Go.Ax.exq (z+2)
     rw[hq]at yb' i0 i1 i2 i3 i4 nG suv' suw'
     have hslz:scb q (.slice (some ⟨z+1,0,none⟩) 1 1)=true:=by simp only[scb]; exact blt_of (by omega)
     have hslw:scb (q+0) (.slice (some ⟨z+1,0,none⟩) 1 1)=true:=hslz
     rw[show G=ext G [] from rfl]
     simp only[nG,i2,p2,g4,hA,not_false_eq_true,hslw,ruD,ruW,putL,Nat.reduceLeDiff,xF,ruU,Nat.reduceLT,Nat.reduceAdd,Nat.reduceEqDiff]
     refine w_drawB [(2,0),(3,1),(3,0),(3,2)] [] (by kernel_rfl) (by kernel_rfl) rfl fun ops anc hA hG=>?_
     simp only[all2_cons]at hA
     simp only[nG,p2,p3,i2,i3,g4,g5,hA,dn,not_false_eq_true,hslw,suv',qk_old,Tryz.results102,ruD,ruW,putL,Nat.reduceLeDiff,xF,ruU,Nat.reduceLT,Nat.reduceAdd,Nat.reduceEqDiff]
     rw[ext_nil]
     refine (fun hm=>⟨_,_,rfl,(fin4 G _ mUG hm).1 _ _ fG (fun n hn=>by simp only[idsV,zA7]at hn; omega),(fin4 G _ mUG hm).1 _ _ hfG hfid,(fin4 G _ mUG hm).2⟩) ?_
     exact ((Mod.uw (by simp)).trans (Mod.uw (by simp))).trans (Mod.uw (by simp))
  ·have haft:aftR 20 args s=(⟨h',s.b,s.fs.dropLast⟩,⟨h',s.b,s.fs⟩):=by
    unfold aftR
    rw[hpq,if_neg (by omega),if_neg (by omega),if_neg (by omega),if_neg (by omega),if_neg (by omega),if_neg (by omega),if_pos rfl]
    simp only[hh']
   rw[haft]
   have hcY:FrAt 176 Y (.slice ca (s.fs.length-1) cc) s.fs.dropLast:=fcut
   simp only[zE0]at k0
   simp only[Int.reduceEq,hy,k0,k1,k2,j0,j1,j2,g2,g3,g4,hT,hF,not_false_eq_true,hwl,hsl,scu0,qk_old,ruW,putL,Nat.reduceLeDiff,xF,ruU,Nat.reduceLT,Nat.reduceAdd,Nat.reduceEqDiff]
   refine w_drawB [(2,0),(3,1),(3,0),(3,2)] [] (by kernel_rfl) (by kernel_rfl) rfl fun ops anc hA hG=>?_
   simp only[all2_cons]at hA
   simp only[hy,k2,k3,j2,j3,g4,g5,hA,dn,not_false_eq_true,syw,scu0,qk_old,Tryz.results102,ruD,ruW,putL,Nat.reduceLeDiff,xF,ruU,Nat.reduceLT,Nat.reduceAdd,Nat.reduceEqDiff]
   rw[ext_nil]
   refine (fun hm=>⟨_,_,rfl,(fin2 Y _ Mod.refl hm).1 _ _ hcY hcid,(fin2 Y _ Mod.refl hm).1 _ _ hfY hfid,(fin2 Y _ Mod.refl hm).2⟩) ?_
   exact ((Mod.uw (by simp)).trans (Mod.uw (by simp))).trans (Mod.uw (by simp))
 have haft:aftR op args s=(⟨h',s.b,s.fs⟩,⟨h',s.b,s.fs⟩):=by
  unfold aftR
  rw[hpq,if_neg (by omega),if_neg (by omega),if_neg (by omega),if_neg (by omega),if_neg (by omega),if_neg (by omega),if_neg (by omega)]
  simp only[hh']
 rw[haft]
 have hcs:op=0\/op=1\/op=2\/op=3\/op=4\/op=5\/op=6\/op=9\/op=10\/op=11\/op=12\/op=15\/op=21\/op=22\/op=23\/op=24\/op=25\/op=26\/op=27:=by omega
 rcases hcs with rfl|rfl|rfl|rfl|rfl|rfl|rfl|rfl|rfl|rfl|rfl|rfl|rfl|rfl|rfl|rfl|rfl|rfl|rfl
 all_goals
  simp only[zE0]at k0
  simp only[Int.reduceEq,hy,k0,j0,g2,hF,not_false_eq_true,qk_old,ruW,xF,ruU,Nat.reduceLT,Nat.reduceAdd,Nat.reduceEqDiff]
  refine w_drawB [(2,0),(3,1),(3,0),(3,2)] [] (by kernel_rfl) (by kernel_rfl) rfl fun ops anc hA hG=>?_
  simp only[all2_cons]at hA
  simp only[hy,k2,k3,j2,j3,g4,g5,hA,dn,not_false_eq_true,syw,qk_old,Tryz.results102,ruD,ruW,putL,Nat.reduceLeDiff,xF,ruU,Nat.reduceLT,Nat.reduceAdd,Nat.reduceEqDiff]
  rw[ext_nil]
  refine (fun hm=>⟨_,_,rfl,(fin2 Y _ Mod.refl hm).1 _ _ hfY hfid,(fin2 Y _ Mod.refl hm).1 _ _ hfY hfid,(fin2 Y _ Mod.refl hm).2⟩) ?_
  exact (Mod.uw (by simp)).trans (Mod.uw (by simp))
set_option maxRecDepth 100000
def posQ (q:List Int) (k:Int):Nat:=(q.filter fun x=>decide (x<k)).length
theorem posQ_of:∀ {q:List Int} {k:Int} {p:Nat},p<=q.length->(∀ i (h:i<q.length),i<p->q[i]<k)->(∀ i (h:i<q.length),p<=i->k<=q[i])->posQ q k=p
 |[],k,p,hp,_,_=>by simp only[zD1]at hp; simp[posQ]; omega
 |x::r,k,0,hp,h1,h2=>by
  have hx:=h2 0 (by simp) (by omega)
  simp only[List.getElem_cons_zero]at hx
  have ih:=posQ_of (q:=r) (k:=k) (p:=0) (by omega) (fun i h hi=>absurd hi (by omega)) (fun i h _=>by have:=h2 (i+1) (by simp only[zA8]; omega) (by omega); simpa using this)
  simp only[posQ]at ih
  rw[posQ,List.filter_cons,if_neg (by simp; omega)]
  exact ih
 |x::r,k,p+1,hp,h1,h2=>by
  have hx:=h1 0 (by simp) (by omega)
  simp only[List.getElem_cons_zero]at hx
  have ih:=posQ_of (q:=r) (k:=k) (p:=p) (by simp only[zA8]at hp; omega) (fun i h hi=>by have:=h1 (i+1) (by simp only[zA8]; omega) (by omega); simpa using this) (fun i h hi=>by have:=h2 (i+1) (by simp only[zA8]; omega) (by omega); simpa using this)
  simp only[posQ]at ih
  rw[posQ,List.filter_cons,if_pos (by simpa using hx),zA8,ih]
theorem u80:Tryz.prog.underlying 80=some (.int .u64):=by kernel_rfl
theorem u3:Tryz.prog.underlying 3=some (.int .i64):=by kernel_rfl
theorem search97_c (H:AHeap) (v:Value) (q:List Int) (k:Int) (hv:RdAt H 1 v (iv q) q.length) (hl:q.length<=1000000) (hs:q.Pairwise (· < ·)):∃ f:Bool,Pure 97 [v,.int .i64 k] H (.tuple #[.int .i64 (posQ q k:Int),.bool f]):=by
 obtain⟨b,hb⟩:=Go.Ax.exq H.next
 obtain⟨a0,c0,e0⟩:=hv.sl
 have hmono:∀ i j (hi:i<q.length) (hj:j<q.length),i<j->q[i]<q[j]:=fun i j hi hj hij=>List.pairwise_iff_getElem.1 hs i j hi hj hij
 obtain⟨F,hF⟩:∃ F:Bool,(if h:posQ q k<q.length then decide (q[posQ q k]=k) else false)=F:=⟨_,rfl⟩
 refine⟨F,?_⟩
 refine callS_fn mixed Tryz.func97 rfl Tryz.ntmps97 (zB3 rfl) fun wf hsc=>?_
 rw[e0]
 simp only[ruW,xF,ruU,entryE,Nat.reduceLT,Nat.reduceAdd,Nat.reduceEqDiff]
 refine w_env fun E hE=>?_
 have g0:E 0=v:=by rw[hE,e0]; simp only[ruU,Nat.reduceEqDiff]
 have g1:E 1=.int .i64 k:=by rw[hE]; rfl
 have g6:E 6=.int .i64 (q.length:Int):=by rw[hE]; rfl
 have g7:E 7=.int .i64 ((0:Nat):Int):=by rw[hE]; rfl
 have g8:E 8=.int .i64 (q.length:Int):=by rw[hE]; rfl
 clear hE
 refine w_loop (fun (z:Nat × Nat) E' H'=>H'=ext H []/\z.1<=z.2/\z.2<=q.length/\(∀ i (h:i<q.length),i<z.1->q[i]<k)/\(∀ i (h:i<q.length),z.2<=i->k<=q[i])/\E' 0=v/\E' 1=.int .i64 k/\E' 6=.int .i64 (q.length:Int)/\E' 7=.int .i64 (z.1:Int)/\E' 8=.int .i64 (z.2:Int)) (fun z=>z.2-z.1) (0,q.length) ⟨rfl,zB5 _,zB2 _,fun i _ h=>absurd h (by omega),fun i h1 h2=>absurd h2 (by omega),g0,g1,g6,g7,g8⟩ ?_
 clear g0 g1 g6 g7 g8 E
 rintro⟨i,j⟩ E H' ⟨hH,hij,hjl,hlo,hhi,g0,g1,g6,g7,g8⟩
 simp only at hij hjl hlo hhi g7 g8
 rw[hH]
 by_cases hd:i=j
 ·subst hd
  have hdd:decide ((i:Int)<(i:Int))=false:=decide_eq_false (by omega)
  have hp:=posQ_of hjl hlo hhi
  rw[hp]at hF ⊢
  obtain⟨d1,hd1⟩:∃ d,decide ((i:Int)<(q.length:Int))=d:=⟨_,rfl⟩
  cases d1 with
  |false =>
   have hge:=of_decide_eq_false hd1
   rw[dif_neg (by omega)]at hF
   subst hF
   simp only[g6,g7,g8,hdd,hd1,Tryz.results97,ruW,ruU,Nat.reduceLT,Nat.reduceEqDiff]
   exact Fin.pureE rfl rfl
  |true =>
   have hlt:i<q.length:=by have:=of_decide_eq_true hd1; omega
   rw[dif_pos hlt]at hF
   obtain⟨n,off,s,c,e,o,M,e1,n1,r1,m1⟩:=hv.one hlt
   rw[e1]at g0
   have i1:=ia_of (P:=Tryz.prog) (k:=.i64) (i:=i) (n:=n) (off:=off) (len:=q.length) (cap:=c) (s:=s) u35 s3 hlt
   rw[zC7]at i1
   rw[iv_get,zA6 hlt,zA5]at m1
   rw[hb]at n1
   cases F with
   |true =>
    simp only[g0,g1,g6,g7,g8,hb,hdd,hd1,i1,n1,r1,m1,hF,qk_old,Tryz.results97,ruW,xF,ruU,Nat.reduceLT,Nat.reduceEqDiff]
    exact Fin.pureE rfl rfl
   |false =>
    simp only[g0,g1,g6,g7,g8,hb,hdd,hd1,i1,n1,r1,m1,hF,qk_old,ruW,xF,ruU,Nat.reduceLT,Nat.reduceEqDiff]
    refine (nan120_c (ext H []) q[i]).to ?_
    simp only[Tryz.results97,ruW,ruU,Nat.reduceLT,Nat.reduceEqDiff]
    exact Fin.pureE rfl rfl
 ·have hlt:i<j:=by omega
  have hdd:decide ((i:Int)<(j:Int))=true:=decide_eq_true (by omega)
  obtain⟨m,hm⟩:=Go.Ax.exq ((i+j) / 2)
  have hmj:m<q.length:=by omega
  have hw1:IntKind.i64.wrap ((i:Int)+(j:Int))=((i+j:Nat):Int):=(wrap_sm (by omega) (by omega)).trans (by omega)
  have hc1:∀ G:AHeap,aConvert Tryz.prog G 3 80 (.int .i64 ((i+j:Nat):Int))=some (.int .u64 ((i+j:Nat):Int),G):=fun G=>by
   rw[cv_int u3 u80]
   have:IntKind.u64.wrap ((i+j:Nat):Int)=((i+j:Nat):Int):=by
    simp only[IntKind.wrap,IntKind.signed,IntKind.bits]
    simp
    omega
   rw[this]
  have hsh:bShr .u64 ((i+j:Nat):Int) 1=(m:Int):=by
   simp only[bShr,IntKind.bits]
   rw[show (2:Int) ^ min 1 64=2 by decide,Int.fdiv_eq_ediv_of_nonneg _ (by omega)]
   omega
  have hsh':bitV .shr (.int .u64 ((i+j:Nat):Int)) (.int .u64 1)=some (.int .u64 (m:Int)):=by rw[bit_shr (by omega)]; rw[show (1:Int).toNat=1 from rfl,hsh]
  have hc2:∀ G:AHeap,aConvert Tryz.prog G 80 3 (.int .u64 (m:Int))=some (.int .i64 (m:Int),G):=fun G=>by
   rw[cv_int u80 u3,wrap_nat (by omega)]
  obtain⟨n,off,s,c,e,o,M,e1,n1,r1,m1⟩:=hv.one hmj
  rw[e1]at g0
  have i1:=ia_of (P:=Tryz.prog) (k:=.i64) (i:=m) (n:=n) (off:=off) (len:=q.length) (cap:=c) (s:=s) u35 s3 hmj
  rw[zC7]at i1
  rw[iv_get,zA6 hmj,zA5]at m1
  rw[hb]at n1
  obtain⟨xa,hxa⟩:=Go.Ax.exq (q[m])
  rw[hxa]at m1
  have hwm:IntKind.i64.wrap ((m:Int)+1)=((m+1:Nat):Int):=wrap_succ (by omega)
  simp only[g0,g1,g7,g8,hb,hdd,hw1,hc1,hc2,hsh',i1,n1,r1,m1,w_convert,w_shr,qk_old,ruW,xF,ruU,Nat.reduceLT,Nat.reduceEqDiff]
  refine (less119_c (ext H []) xa k).to ?_
  obtain⟨dl,hdl⟩:∃ d,decide (xa<k)=d:=⟨_,rfl⟩
  rw[hdl]
  cases dl with
  |true =>
   have hx:=of_decide_eq_true hdl
   simp only[hwm,ruW,ruU,Nat.reduceLT,Nat.reduceEqDiff]
   refine loopC_next ⟨(m+1,j),by simp only; omega,rfl,by simp only; omega,hjl,fun a ha hai=>?_,hhi,?_,?_,?_,?_,?_⟩
   ·by_cases ham:a=m
    ·subst ham; rw[hxa]; exact hx
    ·have:=hmono a m ha hmj (by simp only at hai; omega)
     omega
   ·rw[e1]; simp only[g0,ruU,Nat.reduceEqDiff]
   ·exact g1
   ·exact g6
   ·rfl
   ·exact g8
  |false =>
   have hx:=of_decide_eq_false hdl
   simp only[ruW,ruU,Nat.reduceLT,Nat.reduceEqDiff]
   refine loopC_next ⟨(i,m),by simp only; omega,rfl,by simp only; omega,by simp only; omega,hlo,fun a ha hai=>?_,?_,?_,?_,?_,?_⟩
   ·by_cases ham:a=m
    ·subst ham; rw[hxa]; omega
    ·have:=hmono m a hmj ha (by simp only at hai; omega)
     omega
   ·rw[e1]; simp only[g0,ruU,Nat.reduceEqDiff]
   ·exact g1
   ·exact g6
   ·exact g7
   ·rfl
set_option maxRecDepth 100000
def QAt (H:AHeap) (v:Value) (q:List Int):Prop :=
 (q=[]/\v=.slice none 0 0) \/
 (q=[]/\∃ n off o M,v=.slice (some ⟨n,off,some (o+1)⟩) 0 0/\bk H n=some ⟨3,true,M⟩/\n<H.next/\off<=M.length) \/
 (0<q.length/\∃ n off M,v=.slice (some ⟨n,off,none⟩) q.length q.length/\bk H n=some ⟨3,true,M⟩/\n<H.next/\off+q.length<=M.length/\(M.drop off).take q.length=iv q)
section
variable {H G : AHeap} {v : Value} {q : List Int}
theorem QAt.of (h:QAt H v q) (hn:H.next<=G.next) (hg:∀ n∈idsV v,G.get n=H.get n):QAt G v q:=by
 rcases h with⟨rfl,rfl⟩|⟨rfl,n,off,o,M,rfl,hb,hl,hle⟩|⟨h0,n,off,M,rfl,hb,hl,hle,ht⟩
 ·exact .inl ⟨rfl,rfl⟩
 ·exact .inr (.inl ⟨rfl,n,off,o,M,rfl,(bk_get (hg n (by simp[idsV]))).trans hb,by omega,hle⟩)
 ·exact .inr (.inr ⟨h0,n,off,M,rfl,(bk_get (hg n (by simp[idsV]))).trans hb,by omega,hle,ht⟩)
theorem QAt.ne (h:QAt H v q):∀ n∈idsV v,H.get n≠none/\n<H.next:=by
 rcases h with⟨rfl,rfl⟩|⟨rfl,n,off,o,M,rfl,hb,hl,hle⟩|⟨h0,n,off,M,rfl,hb,hl,hle,ht⟩
 ·intro n hn; simp[idsV]at hn
 all_goals
  intro k hk
  simp only[idsV,zA7]at hk
  subst hk
  exact⟨bk_ne hb,hl⟩
theorem QAt.sc (h:QAt H v q):scb H.next v=true:=by
 rcases h with⟨rfl,rfl⟩|⟨rfl,n,off,o,M,rfl,hb,hl,hle⟩|⟨h0,n,off,M,rfl,hb,hl,hle,ht⟩
 ·rfl
 all_goals simp only[scb]; exact blt_of hl
theorem QAt.rd (h:QAt H v q):RdAt H 1 v (iv q) q.length:=by
 rcases h with⟨rfl,rfl⟩|⟨rfl,n,off,o,M,rfl,hb,hl,hle⟩|⟨h0,n,off,M,rfl,hb,hl,hle,ht⟩
 ·exact RdAt.nil
 ·exact RdAt.nil
 ·exact⟨by simp[iv],.inr ⟨h0,n,off,none,_,3,true,M,rfl,rk_of hb,hl,by omega,by rw[zC7]; exact ht⟩⟩
theorem QAt.sl (h:QAt H v q):∃ a,v=.slice a q.length q.length:=by
 rcases h with⟨rfl,rfl⟩|⟨rfl,n,off,o,M,rfl,hb,hl,hle⟩|⟨h0,n,off,M,rfl,hb,hl,hle,ht⟩<;>exact⟨_,rfl⟩
end
theorem by3:bytesOf Tryz.prog 3=some 8:=by kernel_rfl
theorem z3:zeroOf Tryz.prog 3=some (.int .i64 0):=by kernel_rfl
theorem i35:intTy Tryz.prog 35=some false:=by kernel_rfl
theorem iv_one (q:List Int):(iv q).all one=true:=by
 induction q with
 |nil=>rfl
 |cons a r ih=>simp only[iv,zB4,List.all_cons]at ih ⊢; rw[ih]; rfl
theorem QAt.cut {H:AHeap} {v:Value} {k:Int} {q:List Int} (h:QAt H v (k::q)):∃ w,QAt H w q/\(∀ n∈idsV w,n∈idsV v)/\∀ G:AHeap,(∀ n∈idsV v,G.get n=H.get n)->aSlice Tryz.prog G 35 v (some (.int .i64 1)) none none=some (w,G):=by
 rcases h with⟨h,_⟩|⟨h,_⟩|⟨h0,n,off,M,rfl,hb,hl,hle,ht⟩
 ·cases h
 ·cases h
 ·have hopen:∀ G:AHeap,(∀ m∈idsV (.slice (some ⟨n,off,none⟩) (k::q).length (k::q).length),G.get m=H.get m)->isOpen G n=some true:=fun G hg=>isOpen_bk ((bk_get (hg n (by simp[idsV]))).trans hb)
  simp only[zA8]at hle ht
  cases hq:q with
  |nil =>
   refine⟨.slice (some ⟨n,off+1*1,some (off+1)⟩) 0 0,.inr (.inl ⟨rfl,n,off+1*1,off,M,rfl,hb,hl,by omega⟩),fun m hm=>hm,fun G hg=>?_⟩
   have ho:=hopen G (by rw[hq]; exact hg)
   simp only[aSlice,u35,s3,aSlice2,bound,zA1,zA3,exactAt,ho,zA5,Bool.not_true,zA8,zD1]
   simp
  |cons k2 r =>
   refine⟨.slice (some ⟨n,off+1*1,none⟩) (k2::r).length (k2::r).length,.inr (.inr ⟨by simp,n,off+1*1,M,rfl,hb,hl,by rw[hq]at hle; simp only[zA8]at hle ⊢; omega,?_⟩),fun m hm=>hm,fun G hg=>?_⟩
   ·rw[hq]at ht
    have h2:=congrArg (fun z=>z.drop 1) ht
    simp only[List.drop_take,List.drop_drop]at h2
    rw[show (iv (k::k2::r)).drop 1=iv (k2::r) from rfl]at h2
    rw[<-h2,Nat.one_mul]
    congr 1
   ·have ho:=hopen G (by rw[hq]; exact hg)
    simp only[aSlice,u35,s3,aSlice2,bound,zA1,zA3,exactAt,ho,zA5,Bool.not_true,zA8]
    simp
theorem q_new {G:AHeap} {n:Nat} {l:List Int} (hok:G.base<=G.next) (hn:n<G.next):∃ G',aNew (G.upd n none) 3 (iv l) true=some G'/\Mod [n] G G'/\G'.next=G.next+1/\bk G' G.next=some ⟨3,true,iv l⟩:=by
 have h1:Mod [n] G (G.upd n none):=Mod.upd (by simp)
 have hnx:(G.upd n none).next=G.next:=rfl
 have h2:=new_ext (H:=G.upd n none) (L:=[]) (e:=3) (l:=iv l) (o:=true) (scbL_iv _ l)
 rw[ext_nil]at h2
 refine⟨_,h2,h1.trans (Mod.ext (h1.ok hok)),by rw[ext_next,hnx]; rfl,?_⟩
 have:=bk_at (H:=G.upd n none) (L:=[⟨3,true,iv l⟩]) (i:=0) hnx (by simp)
 exact this
theorem QAt.mk {G:AHeap} {m:Nat} {l:List Int} (h0:0<l.length) (hb:bk G m=some ⟨3,true,iv l⟩) (hm:m<G.next):QAt G (.slice (some ⟨m,0,none⟩) l.length l.length) l :=
 .inr (.inr ⟨h0,m,0,iv l,rfl,hb,hm,by simp[iv],by rw[List.drop_zero]; exact zE2 (by simp[iv])⟩)
theorem q_app {G:AHeap} {v:Value} {q:List Int} {k:Int} {nb:Nat} (h:QAt G v q) (hnb:bk G nb=some ⟨3,false,[.int .i64 k]⟩) (hl:q.length<=1000000) (hok:G.base<=G.next) :
  ∃ G',aBuiltin Tryz.prog G .append ⟨[35,35]⟩ [v,.slice (some ⟨nb,0,some 0⟩) 1 1]=some (.slice (some ⟨G.next,0,none⟩) (q.length+1) (q.length+1),G')/\QAt G' (.slice (some ⟨G.next,0,none⟩) (q.length+1) (q.length+1)) (q++[k])/\Mod (idsV v) G G'/\G'.next=G.next+1:=by
 have hsm:small (q.length+1) 8=true:=by simp only[small,zA4,zD9]; omega
 have hfx:firstC G 1 1 (.slice (some ⟨nb,0,some 0⟩) 1 1)=some [.int .i64 k]:=by rw[first_bk hnb (by simp)]; rfl
 have hiv:iv q++[.int .i64 k]=iv (q++[k]):=by simp[iv]
 have hlen:(q++[k]).length=q.length+1:=by simp
 rcases h with⟨rfl,rfl⟩|⟨rfl,n,off,o,M,rfl,hb,hlt,hle⟩|⟨h0,n,off,M,rfl,hb,hlt,hle,ht⟩
 ·have happ:=app_nil (P:=Tryz.prog) (H:=G) (st:=35) (xt:=35) (e:=3) (sz:=1) (by1:=8) (n:=nb) (off:=0) (cnt:=1) (cap:=1) (s:=some 0) (z:=.int .i64 0) (b:=⟨3,false,[.int .i64 k]⟩) u35 s3 by3 z3 rfl i35 hnb (by simp) rfl (by decide) (by decide)
  have h2:=new_ext (H:=G) (L:=[]) (e:=3) (l:=iv [k]) (o:=true) (scbL_iv _ _)
  rw[ext_nil]at h2
  refine⟨ext G [⟨3,true,iv [k]⟩],?_,?_,Mod.ext hok,by rw[ext_next]; rfl⟩
  ·rw[happ]
   show (aNew G 3 (iv [k]) true).map _=_
   rw[h2]
   rfl
  ·refine QAt.mk (l:=[k]) (by simp) ?_ (by rw[ext_next]; simp)
   have:=bk_at (H:=G) (L:=[⟨3,true,iv [k]⟩]) (i:=0) rfl (by simp)
   exact this
 ·obtain⟨G',g1,g2,g3,g4⟩:=q_new (l:=[k]) hok hlt
  obtain⟨rv,h1,h2,_⟩:=bk_blk hb
  have hop:isOpen G n=some true:=isOpen_bk hb
  refine⟨G',?_,QAt.mk (l:=[k]) (by simp) g4 (by omega),g2,g3⟩
  simp only at h1 h2
  have hf0:firstC G 1 0 (.slice (some ⟨n,off,some (o+1)⟩) 0 0)=some []:=by simp[firstC]
  simp only[aBuiltin,aAppend,u35,s3,by3,z3,i35,zA1,zA3,lenV,hfx,zC9,Nat.one_mul,zC5,aAppend2]
  rw[if_pos ⟨trivial,by exact hsm,rfl⟩,if_neg (by omega)]
  simp only[hf0,zA3,zD1,Nat.zero_mul,decide_true,List.all_nil,zC3,exactAp,zD3,hop,h1]
  simp only[List.all_cons,List.all_nil,one_int,zC3,if_true,Nat.beq_refl,zD0]
  rw[if_pos ⟨trivial,by rw[zD9]; omega⟩]
  rw[show ([.int .i64 k]:List Value)=iv [k] from rfl,g1]
  rfl
 ·obtain⟨G',g1,g2,g3,g4⟩:=q_new (l:=q++[k]) hok hlt
  obtain⟨rv,h1,h2,_⟩:=bk_blk hb
  have hop:isOpen G n=some true:=isOpen_bk hb
  have hQ:=QAt.mk (l:=q++[k]) (by omega) g4 (by omega)
  rw[hlen]at hQ
  refine⟨G',?_,hQ,g2,g3⟩
  simp only at h1 h2
  have hf0:firstC G 1 q.length (.slice (some ⟨n,off,none⟩) q.length q.length)=some (iv q):=by
   rw[first_bk hb (by simp only; omega),zC7,ht]
  simp only[aBuiltin,aAppend,u35,s3,by3,z3,i35,zA1,zA3,lenV,hfx,zC9,Nat.one_mul,aAppend2]
  rw[if_pos ⟨trivial,by exact hsm,rfl⟩,if_neg (by omega)]
  simp only[hf0,zA3,iv_one,exactAp,exactAt,hop,zA5,Bool.not_true,h1]
  rw[show (iv q).length=q.length by simp[iv]]
  simp only[zC7,decide_true,zC3,List.all_cons,List.all_nil,one_int,if_true,hiv]
  rw[if_pos ⟨trivial,by rw[zD9]; omega⟩,g1]
  rfl
theorem insert98_c (H:AHeap) (v:Value) (q:List Int) (i:Nat) (k:Int) (nb:Nat) (hq:QAt H v q) (hi:i<=q.length) (hnb:bk H nb=some ⟨3,false,[.int .i64 k]⟩) (hlt:nb<H.next) (hl:q.length<=100000) (hok:H.base<=H.next) :
  CallA Tryz.prog 98 [v,.int .i64 (i:Int),.slice (some ⟨nb,0,some 0⟩) 1 1] H (fun out X=>∃ w,out=.ok w/\QAt X w (q.take i++k::q.drop i)/\Mod (idsV v) H X/\∀ n∈idsV w,H.next<=n):=by
 by_cases hie:i=q.length
 ·obtain⟨b,hb⟩:=Go.Ax.exq H.next
  obtain⟨a0,ev⟩:=hq.sl
  obtain⟨G,g1,g2,g3,g4⟩:=q_app hq hnb (by omega) hok
  have hcut:∃ w,aSlice Tryz.prog (ext H []) 35 v (some (.int .i64 (i:Int))) none none=some (w,ext H []):=by
   rw[ext_nil]
   rcases hq with⟨rfl,rfl⟩|⟨rfl,n,off,o,M,rfl,hbn,hln,hle⟩|⟨h0,n,off,M,rfl,hbn,hln,hle,ht⟩
   ·rw[hie]
    simp[aSlice,s3,aSlice2,bound]
   ·rw[hie]
    simp[aSlice,s3,aSlice2,bound,exactAt]
   ·refine⟨.slice (some ⟨n,off+i*1,some (off+1)⟩) 0 0,?_⟩
    simp only[aSlice,u35,s3,aSlice2,bound,exactAt,isOpen_bk hbn,zA1,zA3,zA5,Bool.not_true,zE4]
    rw[if_pos (by omega),zA3,if_pos (by omega),if_neg (by omega),if_neg (by omega),if_neg (by omega)]
  obtain⟨w0,hcut⟩:=hcut
  have hd:decide ((i:Int)=(q.length:Int))=true:=decide_eq_true (by omega)
  have h10:decide (((1:Nat):Int)=0)=false:=by decide
  rw[zE2 (by omega),List.drop_of_length_le (by omega)]
  rw[ev]at g1 hcut ⊢
  refine callE_fn mixed Tryz.func98 rfl Tryz.ntmps98 (zB3 rfl) ?_
  have g1':aBuiltin Tryz.prog (ext H []) .append #[35,35] [.slice a0 q.length q.length,.slice (some ⟨nb,0,some 0⟩) 1 1]=some (.slice (some ⟨b,0,none⟩) (q.length+1) (q.length+1),G):=by rw[<-hb]; exact g1
  have hF:∀ i:Decidable False,@decide False i=false:=fun i=>by simp
  simp only[hb,hcut,hd,h10,g1',Tryz.results98,ruW,xF,ruU,entryE,Nat.reduceLT,Nat.reduceAdd,Nat.reduceEqDiff]
  rw[hb]at g2
  rw[<-ev]
  exact⟨_,rfl,g2,g3,fun n hn=>by simp only[idsV,zA7]at hn; omega⟩
 ·have hil:i<q.length:=by omega
  rcases hq with⟨rfl,rfl⟩|⟨rfl,n,off,o,M,rfl,hbn,hln,hle⟩|⟨h0,n,off,M,rfl,hbn,hln,hle,ht⟩
  ·simp at hil
  ·simp at hil
  ·obtain⟨rv,h1,h2,h3⟩:=bk_blk hbn
   obtain⟨ru,u1,u2,u3'⟩:=bk_blk hnb
   simp only at h1 h2 h3 u1 u2 u3'
   obtain⟨cc,ff,hgu⟩:=cellsAt_get u1
   have hnn:n≠nb:=fun e=>by
    subst e
    rw[hbn]at hnb
    cases hnb
   have hgets:rv.gets off q.length=iv q:=by
    rw[<-ht]
    exact Blk.gets h2 h3 _ _ hle
   have hu0:ru.get 0=.int .i64 k:=by
    have:=u3' 0 (by rw[zC9]; omega)
    rw[this]; rfl
   have hall:(iv q).all isI64=true:=by
    rw[zC2]
    intro x hx
    rw[iv,zC4]at hx
    obtain⟨y,_,rfl⟩:=hx
    rfl
   have hins:insK 98 3 98 [.slice (some ⟨n,off,none⟩) q.length q.length,.int .i64 (i:Int),.slice (some ⟨nb,0,some 0⟩) 1 1] H=some (.slice (some ⟨H.next,0,none⟩) (q.length+1) (q.length+1),(H.upd n none).new ⟨.cells #[] 3,true,RV.ofList (iv (q.take i++k::q.drop i))⟩):=by
    have e1:(Nat.beq 98 98&&decide (0<=(i:Int))&&Nat.blt ((i:Int)).toNat q.length&&Nat.ble q.length 1000000)=true:=by
     simp only[zA4,decide_eq_true_eq]
     exact⟨⟨⟨rfl,by omega⟩,by rw[zE4]; exact blt_of hil⟩,by rw[zD9]; omega⟩
    have e2:(Nat.beq 3 3&&Nat.ble q.length q.length&&Nat.ble (off+q.length) rv.n&&Nat.blt 0 ru.n&&!(Nat.beq n nb)&&(rv.gets off q.length).all isI64&&isI64 (ru.get 0))=true:=by
     rw[hgets,hall,hu0]
     simp only[zA4,Bool.not_eq_true']
     refine⟨⟨⟨⟨⟨⟨rfl,by rw[zD9]; omega⟩,by rw[zD9,h2]; omega⟩,blt_of (by rw[u2]; simp)⟩,?_⟩,trivial⟩,rfl⟩
     rw[<-Bool.not_eq_true,Nat.beq_eq]
     exact hnn
    have e3:iv (q.take i++k::q.drop i)=(rv.gets off q.length).take ((i:Int)).toNat++(ru.get 0::(rv.gets off q.length).drop ((i:Int)).toNat):=by
     rw[hgets,hu0,zE4]
     simp[iv,List.map_take,List.map_drop]
    rw[e3]
    simp only[insK,e1,if_true,h1,hgu,e2]
   have hc:=ins_known laysI (e3:=3) rfl 98 _ _ _ _ hins
   obtain⟨G',g1,g2,g3,g4⟩:=q_new (l:=q.take i++k::q.drop i) hok hln
   rw[aNew_nw (scbL_iv _ _)]at g1
   simp only[Option.some.injEq]at g1
   subst g1
   refine⟨_,_,hc,_,rfl,?_,?_,fun m hm=>by simp only[idsV,zA7]at hm; omega⟩
   ·have hQ:=QAt.mk (l:=q.take i++k::q.drop i) (by simp; omega) g4 (by omega)
    rw[show (q.take i++k::q.drop i).length=q.length+1 by simp; omega]at hQ
    exact hQ
   ·exact g2
end Go.Proofs.YtnigelgcjfhghaaGreatDoor
namespace Go.Ax
section
variable {P : Program} {ro : Option Nat} {H : AHeap} {N : Nat} {E : Env} {ds : List Deferred} {ops : Array Oper} {rest : List Oper} {ty : TypeId} {pos : String} {after : Array Edge} {d i : Nat} {fps : List Fp} {anc : List Nat}
theorem w_mapUp {Q:Exit->AAct->AHeap->Prop} {t:TypeId} {x k y:Operand} (hx:opOk P N x=true) (hk:opOk P N k=true) (hy:opOk P N y=true):wpOps P ro ops (⟨none,.mapUpdate t x k y,ty,pos,after,none⟩::rest) (mkA N E ds) H Q=storeC P ro ops rest (mkA N E ds) Q (aMapUpdate P H t (opv E x) (opv E k) (opv E y)):=by
 rw[w_op rfl rfl]
 simp only[opA,aop,xMapUpdate,aeval_opv hx,aeval_opv hk,aeval_opv hy,ruh,zA1,zA3]
 cases aMapUpdate P H t (opv E x) (opv E k) (opv E y) with
 |none=>rfl
 |some H1=>simp only[zA5,nextA,opC,put_none,storeC]
theorem isDef_mapUp {t:TypeId} {x k y:Operand}:isDef (.mapUpdate t x k y)=false:=by simp only[isDef]
theorem wd_look {Q:AAct->AHeap->Prop} {t:TypeId} {x k:Operand} {ok:Bool} {v:Value} (F:List Nat) (hx:opOk P N x=true) (hk:opOk P N k=true) (hd:d<N) (hF:∀ n∈F,H.get n≠none)
  (hc:∀ G:AHeap,(∀ n∈F,G.get n=H.get n)->aLookup P G t (opv E x) (opv E k) ok=some v) (hm:∀ r∈fps,Meets (anc.getD i 0) F [] (idsV v++([]:List Bl).flatMap fun x=>idsL x.l) r)
  (h:wkD P ops anc rest (i+1) (⟨i,F,[],H.next,H.next⟩::fps) (mkA N (upd E d v) ds) (ext H []) Q):wkD P ops anc (⟨some d,.lookup t x k ok,ty,pos,after,none⟩::rest) i fps (mkA N E ds) H Q:=by
 have hg:wkD P ops anc (⟨some d,.lookup t x k ok,ty,pos,after,none⟩::rest) i fps (mkA N E ds) H Q=genV P ops anc ⟨some d,.lookup t x k ok,ty,pos,after,none⟩ rest i fps (mkA N E ds) H Q:=by
  simp only[wkD,wantA,stepD,pureOp,restD,newOp,genV]
 rw[hg]
 refine genV_extO (v:=v) (M:=[]) F rfl hd hF (fun G _ h4=>opS_of (x:=.value v) (g:=G) ?_ ⟨rfl,rfl⟩) hm h
 simp only[aop,xLookup,aeval_opv hx,aeval_opv hk,zA1,zA3,hc G h4,rv,zA5]
end
end Go.Ax
namespace Go.Proofs.YtnigelgcjfhghaaGreatDoor
open Go.Ax
set_option maxRecDepth 100000
def MapsTo (es:List MapEntry) (f:Int->Option Value):Prop:=∀ (a:Int) (j:Nat),match f a with
 |none=>Instr.findNow (.int .i64) (.int .i64 a) es j=some none
 |some v=>∃ i,Instr.findNow (.int .i64) (.int .i64 a) es j=some (some (i,v))
theorem MapsTo.nil:MapsTo [] fun _=>none:=fun a j=>rfl
theorem same_int (a b:Int):Instr.sameNow (.int .i64) (.int .i64 a) (.int .i64 b)=some (a == b):=by simp[Instr.sameNow]
theorem MapsTo.push {es:List MapEntry} {f:Int->Option Value} {k:Int} {v:Value} {c:Nat} (h:MapsTo es f) (hk:f k=none):MapsTo (es++[{key:=.int .i64 k,val:=v,born:=c}]) fun a=>if a=k then some v else f a:=by
 have key:∀ (es:List MapEntry) (a:Int) (j:Nat),Instr.findNow (.int .i64) (.int .i64 a) es j=some none->Instr.findNow (.int .i64) (.int .i64 a) (es++[{key:=.int .i64 k,val:=v,born:=c}]) j=if a=k then some (some (j+es.length,v)) else some none:=by
  intro es a
  induction es with
  |nil =>
   intro j _
   simp only[zD0,Instr.findNow,same_int,zD1,zD3]
   by_cases e:a=k
   ·rw[if_pos e,e,show (k == k)=true by simp]
   ·rw[if_neg e,show (a == k)=false by simpa using e]
  |cons x r ih =>
   intro j h
   simp only[List.cons_append,Instr.findNow]at h ⊢
   split at h
   ·cases h
   ·rename_i hs
    rw[ih (j+1) h]
    rw[zA8,show j+1+r.length=j+(r.length+1) by omega]
   ·cases h
 have key2:∀ (es:List MapEntry) (a:Int) (j i:Nat) (w:Value),Instr.findNow (.int .i64) (.int .i64 a) es j=some (some (i,w))->Instr.findNow (.int .i64) (.int .i64 a) (es++[{key:=.int .i64 k,val:=v,born:=c}]) j=some (some (i,w)):=by
  intro es a
  induction es with
  |nil=>intro j i w h; cases h
  |cons x r ih =>
   intro j i w h
   simp only[List.cons_append,Instr.findNow]at h ⊢
   split at h
   ·exact h
   ·exact ih (j+1) i w h
   ·cases h
 intro a j
 have ha:=h a j
 by_cases e:a=k
 ·subst e
  rw[hk]at ha
  simp only[if_true]
  exact⟨_,by rw[key es a j ha,if_pos rfl]⟩
 ·simp only[if_neg e]
  cases hf:f a with
  |none =>
   rw[hf]at ha
   simp only at ha ⊢
   rw[key es a j ha,if_neg e]
  |some w =>
   rw[hf]at ha
   simp only at ha ⊢
   obtain⟨i,hi⟩:=ha
   exact⟨i,key2 es a j i w hi⟩
def MpAt (H:AHeap) (r:Nat) (f:Int->Option Value):Prop:=r<H.next/\∃ es c,H.get r=some (mapO es c)/\MapsTo es f
section
variable {H G : AHeap} {r : Nat} {f : Int -> Option Value}
theorem MpAt.of (h:MpAt H r f) (hn:H.next<=G.next) (hg:G.get r=H.get r):MpAt G r f:=by
 obtain⟨h1,es,c,h2,h3⟩:=h
 exact⟨by omega,es,c,hg.trans h2,h3⟩
theorem MpAt.mod {W:List Nat} (h:MpAt H r f) (m:Mod W H G) (hr:r∉W):MpAt G r f:=h.of m.next (m.get r h.1 hr)
theorem MpAt.ne (h:MpAt H r f):H.get r≠none:=by
 obtain⟨_,es,c,h2,_⟩:=h
 rw[h2]; simp
theorem u87:Tryz.prog.underlying 87=some (.map 3 3):=by kernel_rfl
theorem u88:Tryz.prog.underlying 88=some (.map 3 93):=by kernel_rfl
theorem z93:zeroOf Tryz.prog 93=some (.agg #[.int .i64 0,.int .i64 0,.slice none 0 0]):=by kernel_rfl
theorem MpAt.look (h:MpAt H r f) {t e:TypeId} (hu:Tryz.prog.underlying t=some (.map 3 e)) {z:Value} (hz:zeroOf Tryz.prog e=some z) (a:Int) (ok:Bool) (G:AHeap) (hg:G.get r=H.get r):aLookup Tryz.prog G t (.map (some r)) (.int .i64 a) ok=some (match f a with
  |some v=>if ok then .tuple #[v,.bool true] else v
  |none=>if ok then .tuple #[z,.bool false] else z):=by
 obtain⟨_,es,c,h2,h3⟩:=h
 have hm:mapAt G (some r)=some ⟨es⟩:=by simp only[mapAt,hg,h2,mapO]
 have ha:=h3 a 0
 simp only[aLookup,hu,hm,u3,zA1,zA3,keyOk,keyKind,zC3,if_true]
 cases hf:f a with
 |none=>rw[hf]at ha; simp only at ha; rw[ha,hz]; rfl
 |some v=>rw[hf]at ha; obtain⟨i,hi⟩:=ha; rw[hi]
theorem MpAt.put (h:MpAt H r f) (hok:H.base<=H.next) {t e:TypeId} (hu:Tryz.prog.underlying t=some (.map 3 e)) {k:Int} {v:Value} (hk:f k=none) (hv:scb H.next v=true):∃ G,aMapUpdate Tryz.prog H t (.map (some r)) (.int .i64 k) v=some G/\MpAt G r (fun a=>if a=k then some v else f a)/\Mod [r] H G/\G.next=H.next:=by
 obtain⟨h1,es,c,h2,h3⟩:=h
 have ha:=h3 k 0
 rw[hk]at ha
 simp only at ha
 refine⟨H.upd r (some (mapO (es++[{key:=.int .i64 k,val:=v,born:=c}]) (c+1))),?_,⟨h1,_,_,by rw[AHeap.get_upd,if_pos rfl],h3.push hk⟩,Mod.upd (by simp),rfl⟩
 unfold aMapUpdate
 rw[hu]
 simp only[h2,mapO,u3,zA1,zA3,keyOk,keyKind,hv,zC3,if_true,ha]
 simp
end
set_option maxRecDepth 100000
abbrev Ss:=List (Option (St × Value))
def ksS (ss:Ss):Ks:=ss.map fun x=>x.map (·.1)
def stF (ss:Ss) (a:Int):Option Value:=if 0<=a then match ss.getD a.toNat none with
 |some p=>some (stC p.1 p.2)
 |none=>none else none
def ixF (l:List Ins) (a:Int):Option Value:=if 0<=findR l a then some (.int .i64 (findR l a)) else none
theorem stF_nat {ss:Ss} {i:Nat}:stF ss (i:Int)=match ss.getD i none with
 |some p=>some (stC p.1 p.2)
 |none=>none:=by rw[stF,if_pos (by omega),zE4]
theorem stF_set {ss:Ss} {i:Nat} {s:St} {v:Value} (hi:i<ss.length):stF (ss.set i (some (s,v)))=fun a=>if a=(i:Int) then some (stC s v) else stF ss a:=by
 funext a
 unfold stF
 by_cases h0:0<=a
 ·rw[if_pos h0,if_pos h0]
  by_cases e:a=(i:Int)
  ·rw[if_pos e,e,zE4,zB1,List.getElem?_set_self hi]
   rfl
  ·rw[if_neg e,zB1,List.getElem?_set_ne (fun h=>e (by omega)),<-zB1]
 ·rw[if_neg h0,if_neg h0,if_neg (by omega)]
structure VAt (H:AHeap) (v r ix d0 d1:Nat) (least most depth:Int) (u p lv:Value) (ls:List Iv) (ss:Ss) (qv:Value) (q:List Int):Prop where
 vb:bk H v=some ⟨90,false,vfC least most depth u p lv (.map (some ix)) (.map (some r)) qv⟩
 vl:v<d0
 rl:r<d0
 vn:v<H.next
 ins:InsRd H lv ls
 insd:∀ k∈insF lv ls,d0<=k/\k<d1
 ixm:MpAt H ix (ixF (ls.map (·.1)))
 ixd:d1<=ix
 ixr:ix≠r
 sts:MpAt H r (stF ss)
 que:QAt H qv q
 qd:∀ k∈idsV qv,d1<=k
 fr:∀ (i:Nat) (s:St) (fv:Value),ss[i]?=some (some (s,fv))->FrAt 176 H fv s.fs
theorem bk_map {H:AHeap} {r:Nat} {es:List MapEntry} {c:Nat} (h:H.get r=some (mapO es c)):bk H r=none:=by
 simp only[bk,cellsAt,h,mapO,Option.map_none]
theorem MpAt.bk {H:AHeap} {r:Nat} {f:Int->Option Value} (h:MpAt H r f):Go.Ax.bk H r=none:=by
 obtain⟨_,es,c,h2,_⟩:=h
 exact bk_map h2
theorem QAt.ids {H:AHeap} {v:Value} {q:List Int} (h:QAt H v q):∀ n∈idsV v,∃ M,bk H n=some ⟨3,true,M⟩:=by
 rcases h with⟨rfl,rfl⟩|⟨rfl,n,off,o,M,rfl,hb,hl,hle⟩|⟨h0,n,off,M,rfl,hb,hl,hle,ht⟩
 ·intro n hn; simp[idsV]at hn
 all_goals
  intro k hk
  simp only[idsV,zA7]at hk
  subst hk
  exact⟨M,hb⟩
theorem FrAt.ids {H:AHeap} {v:Value} {fs:List Fr} (h:FrAt 176 H v fs):∀ n∈idsV v,∃ M,bk H n=some ⟨176,true,M⟩:=by
 obtain⟨rfl,rfl⟩|⟨n,c,M,rfl,hc,hb,hn,hl,ht⟩:=h
 ·intro n hn; simp[idsV]at hn
 ·intro k hk
  simp only[idsV,zA7]at hk
  subst hk
  exact⟨M,hb⟩
theorem FrAt.apart {H:AHeap} {fv qv:Value} {fs:List Fr} {q:List Int} {v r:Nat} {L:List Value} {f:Int->Option Value} (h:FrAt 176 H fv fs) (hv:bk H v=some ⟨90,false,L⟩) (hr:MpAt H r f) (hq:QAt H qv q):∀ k∈idsV fv,k∉v::r::idsV qv:=by
 intro k hk hm
 obtain⟨M,hM⟩:=h.ids k hk
 rcases zA9.1 hm with rfl|hm
 ·rw[hv]at hM; cases hM
 rcases zA9.1 hm with rfl|hm
 ·rw[hr.bk]at hM; cases hM
 ·obtain⟨M',hM'⟩:=hq.ids k hm
  rw[hM]at hM'; cases hM'
theorem srt_take:∀ {q:List Int} {i:Int},q.Pairwise (· < ·)->i∉q->q.take (posQ q i)=q.filter (fun x=>decide (x<i))/\q.drop (posQ q i)=q.filter (fun x=>decide (i<x))
 |[],i,_,_=>by simp[posQ]
 |x::r,i,h,hn=>by
  rw[List.pairwise_cons]at h
  have ih:=srt_take h.2 (fun hm=>hn (zB6 _ hm))
  have hne:i≠x:=fun e=>hn (e▸zB7 ..)
  by_cases hx:x<i
  ·have hp:posQ (x::r) i=posQ r i+1:=by
    rw[posQ,List.filter_cons,if_pos (by simpa using hx),zA8]; rfl
   rw[hp,List.take_succ_cons,List.drop_succ_cons,ih.1,ih.2,List.filter_cons,if_pos (by simpa using hx),List.filter_cons,if_neg (by simp; omega)]
   exact⟨rfl,rfl⟩
  ·have hall:∀ y∈r,¬y<i:=fun y hy=>by have:=h.1 y hy; omega
   have hf:r.filter (fun x=>decide (x<i))=[]:=by
    rw[List.filter_eq_nil_iff]
    intro y hy
    simpa using hall y hy
   have hp:posQ (x::r) i=0:=by
    rw[posQ,List.filter_cons,if_neg (by simpa using hx),hf]; rfl
   have hg:r.filter (fun x=>decide (i<x))=r:=by
    rw[List.filter_eq_self]
    intro y hy
    have:=h.1 y hy
    exact decide_eq_true (by omega)
   rw[hp,List.take_zero,List.drop_zero,List.filter_cons,if_neg (by simpa using hx),hf,List.filter_cons,if_pos (by simp; omega),hg]
   exact⟨rfl,rfl⟩
def qI (l:List Nat):List Int:=l.map fun n:Nat=>(n:Int)
theorem qI_sorted {l:List Nat} (h:l.Pairwise (· < ·)):(qI l).Pairwise (· < ·):=by
 rw[qI,List.pairwise_map]
 exact h.imp fun h=>by omega
theorem qI_filter (l:List Nat) (i:Nat):(qI l).filter (fun x=>decide (x<(i:Int)))=qI (l.filter fun j=>decide (j<i))/\(qI l).filter (fun x=>decide ((i:Int)<x))=qI (l.filter fun j=>decide (i<j)):=by
 induction l with
 |nil=>exact⟨rfl,rfl⟩
 |cons a r ih =>
  simp only[qI,zB4,List.filter_cons]at ih ⊢
  have e1:decide (((a:Nat):Int)<(i:Int))=decide (a<i):=decide_eq_decide.2 (by omega)
  have e2:decide ((i:Int)<((a:Nat):Int))=decide (i<a):=decide_eq_decide.2 (by omega)
  rw[e1,e2]
  constructor
  ·split
   ·rw[zB4,ih.1]
   ·exact ih.1
  ·split
   ·rw[zB4,ih.2]
   ·exact ih.2
theorem que_ins {ks:Ks} {dn:List Bool} {i:Nat} {s:St} (hi:i<ks.length) (h0:ks.getD i none=none) (hd:dn.getD i false=false) :
  (qI (queR ks dn)).take (posQ (qI (queR ks dn)) i)++(i:Int)::(qI (queR ks dn)).drop (posQ (qI (queR ks dn)) i)=qI (queR (ks.set i (some s)) dn):=by
 have hn:i∉queR ks dn:=fun h=>by
  rw[queR,List.mem_filter,knU,h0]at h
  simp at h
 have hn':(i:Int)∉qI (queR ks dn):=fun h=>by
  rw[qI,zC4]at h
  obtain⟨a,ha,e⟩:=h
  exact hn ((show a=i by omega)▸ha)
 obtain⟨t1,t2⟩:=srt_take (qI_sorted (que_sorted ks dn)) hn'
 obtain⟨f1,f2⟩:=qI_filter (queR ks dn) i
 rw[t1,t2,f1,f2,que_give hi h0 hd]
 simp[qI]
end Go.Proofs.YtnigelgcjfhghaaGreatDoor
namespace Go.Ax
section
variable {P : Program} {ro : Option Nat} {H : AHeap} {N : Nat} {E : Env} {ds : List Deferred} {Q : Exit -> AAct -> AHeap -> Prop}
theorem opC_error {ops:Array Oper} {rest:List Oper} {a:AAct} {dst:Option Nat} {ch:List PanicEntry}:opC P ro ops rest a dst Q (.error ch) H=Q (.panic ch) a H:=by simp only[opC]
theorem joinR_panic {J:Env->AHeap->Prop} {a:AAct} {ch:List PanicEntry}:joinR N ds J Q (.panic ch) a H=Q (.panic ch) a H:=Eq.trans rfl rfl
theorem endA_panic {fn:Func} {R:Out->AHeap->Prop} {ch:List PanicEntry}:endA P fn R (.panic ch) (mkA N E ds) H=leaveA P fn (mkA N E ds) ds (.panicking ch) H R:=Eq.trans rfl rfl
theorem lv_panic {fn:Func} {a:AAct} {R:Out->AHeap->Prop} {ch:List PanicEntry}:leaveA P fn a [] (.panicking ch) H R=R (.error ch) H:=by simp only[leaveA]
def panC (Q:Exit->AAct->AHeap->Prop) (a:AAct) (H:AHeap):Value->Prop
 |.iface t y=>Q (.panic [{v:=.iface t y,recovered:=false}]) a H
 |_=>False
theorem panC_iface {a:AAct} {t:TypeId} {y:Value}:panC Q a H (.iface t y)=Q (.panic [{v:=.iface t y,recovered:=false}]) a H:=by simp only[panC]
theorem w_panic {ops:Array Oper} {rest:List Oper} {dst:Option Nat} {ty:TypeId} {pos:String} {after:Array Edge} {x:Operand} (hx:opOk P N x=true):wpOps P ro ops (⟨dst,.panic x,ty,pos,after,none⟩::rest) (mkA N E ds) H Q=panC Q (mkA N E ds) H (opv E x):=by
 rw[w_op rfl rfl]
 simp only[opA,aop,xPanic,aeval_opv hx,zA1,zA3]
 cases opv E x<;>simp only[panicV,nextA,opC,panC]
theorem settle_returning:settle .returning=.returning:=rfl
end
section
variable {P : Program} {rec : Rec} {H H1 g : AHeap} {a a1 : AAct} {u u1 : FrameMode}
theorem runSeq_ok {top:Bool} {ops:Array Oper} {o:Oper} {rest:List Oper} {v:Value} (hw:wantA ops a o=some true) (ho:opF P rec a H o=some (.ok v,g)):runSeq P rec top ops (o::rest) a H=runSeq P rec top ops rest (a.put o.dst v) g:=by simp only[runSeq,hw,ho]
theorem runS_seq {x y:Code} (h:runS P rec x a u H=some (.normal,a1,u1,H1)):runS P rec (.seq x y) a u H=runS P rec y a1 u1 H1:=by simp only[runS,h]
theorem runS_cond {c:Operand} {x y:Code} (h:aeval P a c=some (.bool true)):runS P rec (.cond c x y) a u H=runS P rec x a u H:=by simp only[runS,h]
theorem runS_reg {id:Nat} {ops:Array Oper} {e:Exit} (hn:(ops.toList.any fun o=>isRec o.op)=false) (h:rec.run none (.region id ops false) a H=some (e,a1,H1)):runS P rec (.region id ops false) a u H=some (e,a1,u,H1):=by
 simp only[runS,hn,h,zA5]
theorem runS_rec {id:Nat} {ops:Array Oper} (hn:(ops.toList.any fun o=>isRec o.op)=true):runS P rec (.region id ops false) a u H=runOpsS P ops ops.toList a u H:=by
 simp only[runS,hn]
theorem opF_store {o:Oper} {t:TypeId} {x y:Operand} {p v:Value} (ho:o.op=.store t x y) (hx:aeval P a x=some p) (hy:aeval P a y=some v) (h:aStore P H t p v=some g):opF P rec a H o=some (.ok undef,g):=by
 simp only[opF,ho,aop,xStore,hx,hy,zA1,zA3,h,ruh,zA5,doN]
theorem opF_load {o:Oper} {t:TypeId} {x:Operand} {p v:Value} (ho:o.op=.load t x) (hx:aeval P a x=some p) (h:aLoad P H t p=some v):opF P rec a H o=some (.ok v,H):=by
 simp only[opF,ho,aop,xLoad,hx,zA1,zA3,h,rv,zA5,doN]
end
section
variable {P : Program} {ro : Option Nat} {H : AHeap} {N : Nat} {E : Env} {ds : List Deferred} {ops : Array Oper} {rest : List Oper} {ty : TypeId} {pos : String} {after : Array Edge} {Q : Exit -> AAct -> AHeap -> Prop}
theorem w_deferV {f:FuncId} {x:Operand} {args:List Operand} {ts:Array TypeId} {ca:List Value} (hx:opOk P N x=true) (hv:opv E x=.func (.func f) ⟨[]⟩ ⟨ca⟩) (ha:args.all (opOk P N)=true):wpOps P none ops (⟨none,.defer ⟨.value x,⟨args⟩,ts⟩,ty,pos,after,none⟩::rest) (mkA N E ds) H Q=wpOps P none ops rest (mkA N E (⟨.fn (.func f) ⟨ca⟩,⟨args.map (opv E)⟩⟩::ds)) H Q:=by
 simp only[wpOps,wantA,aDefer,aevals_opv ha,aeval_opv hx,hv,zA1,zA3,deferV]
 rfl
end
end Go.Ax
namespace Go.Proofs.YtnigelgcjfhghaaGreatDoor
open Go.Ax
set_option maxRecDepth 100000
def faultP (e a:Int):PanicEntry:={v:=.iface 134 (.agg ⟨[.int .i64 e,.int .i64 a]⟩),recovered:=false}
theorem fail_f (H:AHeap) (e a:Int):Pure 73 [.bool false,.int .i64 e,.int .i64 a] H (.tuple #[]):=by
 refine callS_fn mixed Tryz.func73 rfl Tryz.ntmps73 (zB3 rfl) fun wf hsc=>?_
 simp only[Tryz.results73,ruW,ruU,entryE,Nat.reduceLT,Nat.reduceAdd,Nat.reduceEqDiff]
 exact Fin.pureE rfl rfl
theorem fail_t (H:AHeap) (e a:Int) (R:Out->AHeap->Prop) (hR:R (.error [faultP e a]) H):CallA Tryz.prog 73 [.bool true,.int .i64 e,.int .i64 a] H R:=by
 refine callE_fn mixed Tryz.func73 rfl Tryz.ntmps73 (zB3 rfl) ?_
 simp only[w_panic,panC_iface,endA_panic,lv_panic,ruW,xF,ruU,entryE,Nat.reduceLT,Nat.reduceAdd,Nat.reduceEqDiff]
 rw[ext_nil]
 exact hR
def rg71 (q:Nat):AAct:=⟨{RV.ofList [.pointer (some ⟨q,0,none⟩)]with n:=16},[]⟩
def faultR (e a:Int):PanicEntry:={faultP e a with recovered:=true}
theorem st134 (H:AHeap) (hok:H.base<=H.next) (e a:Int):aStore Tryz.prog (H.new (Bl.obj ⟨134,false,[.int .i64 0,.int .i64 0]⟩)) 134 (.pointer (some ⟨H.next,0,none⟩)) (.agg #[.int .i64 e,.int .i64 a])=some (ext H [⟨134,false,[.int .i64 e,.int .i64 a]⟩]):=by
 have h:=store_new (P:=Tryz.prog) (H:=H) (L:=[⟨134,false,[.int .i64 0,.int .i64 0]⟩]) (b:=H.next) (i:=0) (off:=0) (t:=134) (v:=.agg #[.int .i64 e,.int .i64 a]) rfl hok (by decide)
 have hs:stB Tryz.prog 134 (H.next+1) 0 (.agg #[.int .i64 e,.int .i64 a]) (some ⟨134,false,[.int .i64 0,.int .i64 0]⟩)=some ⟨134,false,[.int .i64 e,.int .i64 a]⟩:=by
  rw[stB_ok (v:=.agg #[.int .i64 e,.int .i64 a]) (by kernel_rfl) (by simp[Value.cells]) rfl rfl]
  rfl
 simp only[zC9,zE5,hs,zA5,List.set_cons_zero,zD3]at h
 exact h
theorem ld134 (H:AHeap) (e a:Int):aLoad Tryz.prog (ext H [⟨134,false,[.int .i64 e,.int .i64 a]⟩]) 134 (.pointer (some ⟨H.next,0,none⟩))=some (.agg #[.int .i64 e,.int .i64 a]):=by
 have h:rk (ext H [⟨134,false,[.int .i64 e,.int .i64 a]⟩]) (H.next+0)=some ⟨134,false,[.int .i64 e,.int .i64 a]⟩:=rk_of (by rw[bk_at rfl (by simp)]; rfl)
 rw[load_bk]
 show ldB Tryz.prog 134 0 (rk (ext H [⟨134,false,[.int .i64 e,.int .i64 a]⟩]) (H.next+0))=_
 rw[h,ld_agg (by kernel_rfl),show szOf Tryz.prog 134=some 2 by kernel_rfl,zA3,if_pos (by simp)]
 rfl
theorem st26 (H:AHeap) (q:Nat) (x y e a:Int) (hq:bk H q=some ⟨26,false,[.int .i64 x,.int .i64 y]⟩) (hl:q<H.next) (L:List Bl):aStore Tryz.prog (ext H L) 26 (.pointer (some ⟨q,0,none⟩)) (.agg #[.int .i64 e,.int .i64 a])=some (ext (uw H q 0 [.int .i64 e,.int .i64 a]) L):=by
 rw[store_old hl]
 rw[hq]
 rfl
theorem exec71 (H:AHeap) (hok:H.base<=H.next) (q:Nat) (x y e a:Int) (hq:bk H q=some ⟨26,false,[.int .i64 x,.int .i64 y]⟩) (hl:q<H.next):enterD Tryz.prog (recX Tryz.prog) 71 [.pointer (some ⟨q,0,none⟩)] (.panicking [faultP e a]) H=some (.ok (.tuple ⟨[]⟩),.panicking [faultR e a],ext (uw H q 0 [.int .i64 e,.int .i64 a]) [⟨134,false,[.int .i64 e,.int .i64 a]⟩]):=by
 have hr:∃ e1,runS Tryz.prog (recX Tryz.prog) (Tryz.f71.body.getD .skip) (rg71 q) (.panicking [faultP e a]) H=some (.normal,⟨e1,[]⟩,.panicking [faultR e a],ext (uw H q 0 [.int .i64 e,.int .i64 a]) [⟨134,false,[.int .i64 e,.int .i64 a]⟩]):=by
  show ∃ e1,runS Tryz.prog (recX Tryz.prog) (.seq _ (.seq _ (.cond _ (.seq _ (.seq _ _)) _))) (rg71 q) (.panicking [faultP e a]) H=_
  apply Exists.intro
  refine (runS_seq ((runS_rec rfl).trans rfl)).trans ?_
  refine (runS_seq (runS_reg rfl rfl)).trans ?_
  refine (runS_cond rfl).trans ?_
  refine (runS_seq (runS_reg rfl (Eq.trans (show (recX Tryz.prog).run none _ _ H=runSeq Tryz.prog (exec Tryz.prog (fun _ _ _=>none) 59) true _ _ _ H from rfl) ((runSeq_ok rfl rfl).trans ((runSeq_ok rfl rfl).trans ((runSeq_ok rfl rfl).trans ((runSeq_ok rfl rfl).trans ((runSeq_ok rfl rfl).trans ((runSeq_ok rfl rfl).trans ((runSeq_ok rfl (opF_store rfl rfl rfl (st134 H hok e a))).trans ((runSeq_ok rfl rfl).trans rfl))))))))))).trans ?_
  refine (runS_seq ((runS_seq (runS_reg rfl rfl)).trans rfl)).trans ?_
  refine (runS_reg rfl (Eq.trans (show (recX Tryz.prog).run none _ _ (ext H _)=runSeq Tryz.prog (exec Tryz.prog (fun _ _ _=>none) 59) true _ _ _ (ext H _) from rfl) ((runSeq_ok rfl (opF_load rfl rfl (ld134 H e a))).trans ((runSeq_ok rfl (opF_store rfl rfl rfl (st26 H q x y e a hq hl _))).trans rfl)))).trans ?_
  rfl
 obtain⟨e1,hr⟩:=hr
 have hb:Tryz.f71.body=some (Tryz.f71.body.getD .skip):=rfl
 simp only[enterD,Tryz.func71,zA1,zA3]
 rw[hb,zA3]
 show (runS Tryz.prog (recX Tryz.prog) (Tryz.f71.body.getD .skip) (rg71 q) _ H).bind _=_
 rw[hr]
 rfl
set_option maxRecDepth 100000
theorem ksS_get {ss:Ss} {i:Nat}:(ksS ss)[i]?=ss[i]?.map fun x=>x.map (·.1):=by simp[ksS]
theorem ksS_set {ss:Ss} {i:Nat} {s:St} {v:Value}:ksS (ss.set i (some (s,v)))=(ksS ss).set i (some s):=by simp[ksS,List.map_set]
theorem ksS_len {ss:Ss}:(ksS ss).length=ss.length:=by simp[ksS]
theorem VAt.mod0 {H G:AHeap} {v r ix d0 d1:Nat} {least most depth:Int} {u p lv:Value} {ls:List Iv} {ss:Ss} {qv:Value} {q:List Int} (V:VAt H v r ix d0 d1 least most depth u p lv ls ss qv q) (m:Mod [] H G):VAt G v r ix d0 d1 least most depth u p lv ls ss qv q where
 vb:=(m.bk V.vn (by simp)).trans V.vb
 vl:=V.vl
 rl:=V.rl
 vn:=zD4 V.vn m.next
 ins:=V.ins.mod0 m
 insd:=V.insd
 ixm:=V.ixm.mod m (by simp)
 ixd:=V.ixd
 ixr:=V.ixr
 sts:=V.sts.mod m (by simp)
 que:=V.que.of m.next fun n hn=>m.get n (V.que.ne n hn).2 (by simp)
 qd:=V.qd
 fr:=fun i s fv h=>(V.fr i s fv h).mod0 m
def GvOut (H X:AHeap) (v r ix d0 d1:Nat) (least most depth:Int) (u p lv:Value) (ls:List Iv) (qv:Value) (dn:List Bool) (at':Int) (out:Out) (len:Nat):Option Ks->Prop
 |none=>out=.error [faultP 9 at']
 |some ks'=>out=.ok (.tuple #[])/\∃ ss' qv',VAt X v r ix d0 d1 least most depth u p lv ls ss' qv' (qI (queR ks' dn))/\ksS ss'=ks'/\ss'.length=len/\∀ k∈idsV qv',k∈idsV qv\/H.next<=k
theorem give75_c (H:AHeap) (v r ix d0 d1:Nat) (least most depth:Int) (u p lv:Value) (ls:List Iv) (ss:Ss) (qv:Value) (dn:List Bool) (i:Nat) (s:St) (fv:Value) (at':Int) (V:VAt H v r ix d0 d1 least most depth u p lv ls ss qv (qI (queR (ksS ss) dn))) (hi:i<ss.length) (hl:ss.length<=100000) (hd1:d1<=H.next)
  (hf:FrAt 176 H fv s.fs) (hfl:s.fs.length<=1000000) (hdn:(ksS ss).getD i none=none->dn.getD i false=false) (hu:scb H.next u=true) (hp:scb H.next p=true) (hlv:scb H.next lv=true) (hok:H.base<=H.next) :
  CallA Tryz.prog 75 [.pointer (some ⟨v,0,none⟩),.int .i64 (i:Int),stC s fv,.int .i64 at'] H (fun out X=>Mod (v::r::idsV qv) H X/\GvOut H X v r ix d0 d1 least most depth u p lv ls qv dn at' out ss.length (giveR (ksS ss) i s)):=by
 obtain⟨b,hb⟩:=Go.Ax.exq H.next
 have hbase:H.base<=b:=hb▸hok
 obtain⟨f0,fc,ef⟩:=hf.sl
 have sfv:=hf.sc
 rw[hb,ef]at sfv
 have hvb:v<b:=by rw[<-hb]; exact V.vn
 have hrb:r<b:=hb▸V.sts.1
 have kv:=V.vb
 unfold vfC at kv
 have hks:(ksS ss).getD i none=(ss.getD i none).map (·.1):=by
  rw[zB1,zB1,ksS_get]
  cases ss[i]?<;>rfl
 refine callE_fn mixed Tryz.func75 rfl Tryz.ntmps75 (zB3 rfl) ?_
 rw[ef]
 unfold stC
 cases hx:ss.getD i none with
 |none =>
  rw[hx]at hks
  have hlk:∀ L,aLookup Tryz.prog (ext H L) 88 (.map (some r)) (.int .i64 (i:Int)) true=some (.tuple #[.agg #[.int .i64 0,.int .i64 0,.slice none 0 0],.bool false]):=fun L=>by
   have:=V.sts.look u88 z93 (i:Int) true (ext H L) (ext_get_old V.sts.1)
   rw[stF_nat,hx]at this
   exact this
  simp only[hb,hbase,sfv,hvb,kv,hlk,w_lookup,qk_old,ruW,putL,Nat.reduceLeDiff,xF,ruU,entryE,Nat.reduceLT,Nat.reduceAdd,Nat.reduceEqDiff]
  have hg:giveR (ksS ss) i s=some ((ksS ss).set i (some s)):=by rw[giveR,hks]; rfl
  rw[hg]
  generalize hX:ext H _=X
  have mX:Mod [] H X:=hX▸Mod.ext hok
  have nX:X.next=b+2:=by rw[<-hX,ext_next,hb]; rfl
  have k0:bk X (b+0)=some ⟨93,false,[.int .i64 s.h,.int .i64 s.b,.slice f0 s.fs.length fc]⟩:=by rw[<-hX,bk_at hb (by simp)]; rfl
  clear hX
  have okX:=mX.ok hok
  have VX:=V.mod0 mX
  have hfX:=hf.mod0 mX
  rw[ef]at hfX
  obtain⟨x,hx'⟩:∃ x,X.next=x:=⟨_,rfl⟩
  have l0:b+0<x:=by omega
  have lv0:v<x:=by omega
  have kvX:=VX.vb
  unfold vfC at kvX
  have stF0:stF ss (i:Int)=none:=by rw[stF_nat,hx]
  have sfx:scb X.next (.agg #[.int .i64 s.h,.int .i64 s.b,.slice f0 s.fs.length fc])=true:=by
   have:scb X.next (.slice f0 s.fs.length fc)=true:=scb_mono (by omega) _ sfv
   show (true&&(true&&(scb _ _&&true)))=true
   rw[this]; rfl
  obtain⟨Y,hput,stY,mY,nY⟩:=VX.sts.put okX u88 stF0 sfx
  have hput':aMapUpdate Tryz.prog (ext X []) 88 (.map (some r)) (.int .i64 (i:Int)) (.agg #[.int .i64 s.h,.int .i64 s.b,.slice f0 s.fs.length fc])=some Y:=hput
  rw[show X=ext X [] from rfl]
  refine w_drawP [] [] (by kernel_rfl) (by kernel_rfl) rfl rfl (fun ops anc hA hG=>?_) (by simp) ⟨rfl,rfl⟩
  simp only[dropLast_more,dropLast_one,hx',l0,lv0,k0,kvX,qk_old,ruD,ruW,Nat.reduceLeDiff,xF,ruU,Nat.reduceLT,Nat.reduceAdd,Nat.reduceEqDiff]
  simp only[lastO_cons,lastO_one,isDef_mapUp,w_mapUp,true_and,ruU,Nat.reduceLT,Nat.reduceEqDiff]
  rw[hput']
  obtain⟨y,hy⟩:=Go.Ax.exq Y.next
  have okY:=mY.ok okX
  have lv1:v<y:=by omega
  have hvr:v≠r:=fun e=>by
   have:=VX.sts.bk
   rw[<-e,VX.vb]at this
   cases this
  have hnr:∀ k,(∃ M,bk X k=some M)->k∉[r]:=fun k ⟨M,hM⟩ hk=>by
   simp only[zA7]at hk
   subst hk
   rw[VX.sts.bk]at hM
   cases hM
  have kvY:=(mY.bk VX.vn (by simpa using hvr)).trans kvX
  have qY:QAt Y qv (qI (queR (ksS ss) dn)):=VX.que.of mY.next fun k hk=>mY.get k (VX.que.ne k hk).2 (hnr k (by obtain⟨M,hM⟩:=VX.que.ids k hk; exact⟨_,hM⟩))
  obtain⟨q,hq⟩:=Go.Ax.exq (qI (queR (ksS ss) dn))
  have hqs:q.Pairwise (· < ·):=hq▸qI_sorted (que_sorted _ _)
  have hql:q.length<=100000:=by
   rw[<-hq,qI,zD5,queR]
   refine zB9 (List.length_filter_le ..) ?_
   rw[List.length_range,ksS_len]
   exact hl
  have hqi:=que_ins (s:=s) (by rw[ksS_len]; exact hi) hks (hdn hks)
  rw[hq]at qY hqi
  obtain⟨qa,eq⟩:=qY.sl
  obtain⟨fb,hsrch⟩:=search97_c (ext Y []) qv q (i:Int) qY.rd (by omega) hqs
  rw[eq]at hsrch kvY
  rw[show Y=ext Y [] from rfl]
  simp only[storeC_some,hy,lv1,kvY,qk_old,ruW,xF,ruU,Nat.reduceLT,Nat.reduceAdd,Nat.reduceEqDiff]
  refine hsrch.to ?_
  simp only[hy,lv1,kvY,qk_old,ruW,xF,ruU,Nat.reduceLT,Nat.reduceAdd,Nat.reduceEqDiff]
  have mYE:Mod [] Y (ext Y [⟨3,false,[.int .i64 (i:Int)]⟩]):=Mod.ext okY
  have nYE:(ext Y [⟨3,false,[.int .i64 (i:Int)]⟩]).next=y+1:=by rw[ext_next,hy]; rfl
  have qE:QAt (ext Y [⟨3,false,[.int .i64 (i:Int)]⟩]) qv q:=qY.of (by rw[nYE,hy]; omega) fun n hn=>ext_get_old (qY.ne n hn).2
  have kE:bk (ext Y [⟨3,false,[.int .i64 (i:Int)]⟩]) (y+0)=some ⟨3,false,[.int .i64 (i:Int)]⟩:=by rw[bk_at hy (by simp)]; rfl
  have kvE:=(mYE.bk (by omega) (by simp)).trans kvY
  have hI:=insert98_c (ext Y [⟨3,false,[.int .i64 (i:Int)]⟩]) qv q (posQ q i) i (y+0) qE (List.length_filter_le ..) kE (by omega) hql (mYE.ok okY)
  rw[eq]at hI
  refine hI.mono ?_
  rintro _ Z ⟨w,rfl,qZ,mZ,hw⟩
  rw[nYE]at hw
  obtain⟨z,hz⟩:=Go.Ax.exq Z.next
  have okZ:=mZ.ok (mYE.ok okY)
  have zb:Z.base<=z:=hz▸okZ
  have lvz:v<z:=by have:=mZ.next; omega
  have hvq:v∉idsV qv:=fun h=>by
   obtain⟨M,hM⟩:=VX.que.ids v h
   rw[VX.vb]at hM
   cases hM
  have hvqa:=hvq
  rw[eq]at hvqa
  have kvZ:=(mZ.bk (by rw[nYE]; omega) hvqa).trans kvE
  have swz:scb z w=true:=hz▸qZ.sc
  rw[hqi]at qZ
  obtain⟨wa,ew⟩:=qZ.sl
  obtain⟨wn,hwn⟩:=Go.Ax.exq ((qI (queR ((ksS ss).set i (some s)) dn)).length)
  rw[hwn]at ew
  rw[ew]at swz
  rw[show Z=ext Z [] from rfl,ew]
  simp only[hz,lvz,kvZ,swz,Tryz.results75,ruW,putL,Nat.reduceLeDiff,xF,ruU,Nat.reduceLT,Nat.reduceAdd,Nat.reduceEqDiff]
  rw[ext_nil]
  obtain⟨U,hU⟩:=Go.Ax.exq (uw Z v 8 [Value.slice wa wn wn])
  have mU:Mod [v] Z U:=hU▸Mod.uw (by simp)
  have nU:U.next=z:=by rw[<-hU,uw_next,hz]
  have kU:=bk_uw (off:=8) (vs:=[Value.slice wa wn wn]) kvZ (by simp)
  rw[hU]at kU ⊢
  have mHZ:Mod (v::r::idsV qv) H Z:=(((mX.mono (by simp)).trans (mY.mono (by simp))).trans (mYE.mono (by simp))).trans (mZ.mono (by rw[<-eq]; simp +contextual))
  have mHU:Mod (v::r::idsV qv) H U:=mHZ.trans (mU.mono (by simp))
  have hwb:∀ k∈idsV w,b+2<k:=fun k hk=>by have:=hw k hk; omega
  have hrq:r∉idsV qv:=fun h=>by
   obtain⟨M,hM⟩:=VX.que.ids r h
   rw[VX.sts.bk]at hM
   cases hM
  refine⟨mHU,rfl,ss.set i (some (s,fv)),.slice wa wn wn,?_,ksS_set,List.length_set,fun k hk=>.inr ?_⟩
  ·have dj:∀ k,d0<=k->k∉idsV qv->k∉v::r::idsV qv:=fun k h1 h2 hm=>by
    have:=V.vl
    have:=V.rl
    rcases zA9.1 hm with rfl|hm
    ·omega
    rcases zA9.1 hm with rfl|hm
    ·omega
    ·exact h2 hm
   have d01:d0<=d1\/∀ k,k∉insF lv ls:=by
    rcases zC6 d1 d0 with h|h
    ·exact .inr fun k hk=>by have:=V.insd k hk; omega
    ·exact .inl h
   have hixq:ix∉idsV qv:=fun h=>by
    obtain⟨M,hM⟩:=V.que.ids ix h
    rw[V.ixm.bk]at hM
    cases hM
   have hixv:ix≠v:=fun e=>by
    have:=V.ixm.bk
    rw[e,V.vb]at this
    cases this
   have hvw:v∉idsV w:=fun h=>by have:=hwb v h; omega
   have hixr:ix≠r:=V.ixr
   refine⟨kU,V.vl,V.rl,by omega,V.ins.of mHU.next fun k hk=>mHU.get k (V.ins.ne k hk).2 (dj k (V.insd k hk).1 fun h=>?_),V.insd,V.ixm.mod mHU (by simp[hixv,hixr,hixq]),V.ixd,V.ixr,?_,?_,fun k hk=>?_,fun j t tv hj=>?_⟩
   ·have:=V.insd k hk
    have:=V.qd k h
    omega
   ·have h1:=((stY.mod mYE (by simp)).mod mZ (by rw[<-eq]; exact hrq)).mod mU (by simpa using fun e:r=v=>hvr e.symm)
    rw[stF_set hi,ef]
    exact h1
   ·rw[<-ew]
    exact qZ.of (by omega) fun k hk=>mU.get k (qZ.ne k hk).2 (by simp only[zA7]; rintro rfl; exact hvw hk)
   ·rw[<-ew]at hk
    have:=hwb k hk
    omega
   ·by_cases hji:j=i
    ·rw[hji,List.getElem?_set_self hi]at hj
     simp only[Option.some.injEq,Prod.mk.injEq]at hj
     obtain⟨e1,e2⟩:=hj
     rw[<-e1,<-e2]
     exact hf.mod mHU (hf.apart V.vb V.sts V.que)
    ·rw[List.getElem?_set_ne (fun h=>hji h.symm)]at hj
     have f1:=V.fr j t tv hj
     exact f1.mod mHU (f1.apart V.vb V.sts V.que)
  ·rw[<-ew]at hk
   have:=hwb k hk
   omega
 |some pr =>
  obtain⟨t,tv⟩:=pr
  rw[hx]at hks
  have hxi:ss[i]?=some (some (t,tv)):=by
   rw[zB1,zA6 hi]at hx
   rw[zA6 hi]
   exact congrArg some hx
  have ft:=V.fr i t tv hxi
  obtain⟨t0,tc,et⟩:=ft.sl
  have stv:=ft.sc
  rw[hb,et]at stv
  have stv2:=scb_mono (show b<=b+2 by omega) _ stv
  have hlk:∀ L,aLookup Tryz.prog (ext H L) 88 (.map (some r)) (.int .i64 (i:Int)) true=some (.tuple #[.agg ⟨[.int .i64 t.h,.int .i64 t.b,.slice t0 t.fs.length tc]⟩,.bool true]):=fun L=>by
   have:=V.sts.look u88 z93 (i:Int) true (ext H L) (ext_get_old V.sts.1)
   rw[stF_nat,hx,et]at this
   exact this
  have hg:giveR (ksS ss) i s=if t=s then some (ksS ss) else none:=by rw[giveR,hks]; rfl
  rw[hg]
  simp only[hb,hbase,sfv,stv2,hvb,kv,hlk,w_lookup,qk_old,ruW,putL,Nat.reduceLeDiff,xF,ruU,entryE,Nat.reduceLT,Nat.reduceAdd,Nat.reduceEqDiff]
  generalize hX:ext H _=X
  have mX:Mod [] H X:=hX▸Mod.ext hok
  clear hX
  have hsm:=same99_c X s t fv tv (hf.mod0 mX).rd (ft.mod0 mX).rd hfl
  rw[ef,et]at hsm
  unfold stC at hsm
  refine hsm.to ?_
  rw[show X=ext X [] from rfl]
  by_cases hst:t=s
  ·rw[decide_eq_true hst.symm,if_pos hst]
   simp only[ruW,xF,ruU,Nat.reduceLT,Nat.reduceEqDiff]
   refine (fail_f (ext X []) 9 at').to ?_
   simp only[Tryz.results75,ruW,Nat.reduceLT]
   exact⟨mX.mono (by simp),rfl,ss,qv,V.mod0 mX,rfl,rfl,fun k hk=>.inl hk⟩
  ·rw[decide_eq_false (fun e=>hst e.symm),if_neg hst]
   simp only[ruW,xF,ruU,Nat.reduceLT,Nat.reduceEqDiff]
   refine fail_t _ 9 at' _ ?_
   simp only[opC_error,endA_panic,lv_panic]
   exact⟨mX.mono (by simp),rfl⟩
set_option maxRecDepth 100000
def PcOut (X:AHeap) (v r ix d0 d1:Nat) (least most depth:Int) (u p lv:Value) (ls:List Iv) (qv:Value) (dn:List Bool) (pos:Int) (out:Out) (len nx:Nat):Except Int Ks->Prop
 |.error e=>out=.error [faultP e pos]
 |.ok ks'=>out=.ok (.tuple #[])/\∃ ss' qv',VAt X v r ix d0 d1 least most depth u p lv ls ss' qv' (qI (queR ks' dn))/\ksS ss'=ks'/\ss'.length=len/\∀ k∈idsV qv',k∈idsV qv\/nx<=k
theorem ixF_at {l:List Ins} {a:Int} (h:0<=findR l a):ixF l a=some (.int .i64 (findR l a)):=by rw[ixF,if_pos h]
theorem callS_wf {f:FuncId} {args:List Value} {H X:AHeap} {out:Out} (h:H.base<=H.next->scbL H.next args=true->CallS Tryz.prog f args H out X):CallS Tryz.prog f args H out X:=fun ρ w hr hs=>h hr.wf.base hs ρ w hr hs
theorem missing100_p (H:AHeap) (pos:Int) (op:Nat) (av:Value) (args:List Int) (h:Int) (hop:op<28) (ha:RdAt H 1 av (iv args) args.length) (hal:args.length<=1000000) (hk:args.length=(kindsR op args).length) (hcn:cntR op args<=1000000) (h0:op=4\/op=9->0<args.length/\0<=args.getD 0 0/\args.getD 0 0<=65535) (hh:-1000000000<=h/\h<=1000000000) :
  Pure 100 [.agg ⟨[.int .i64 pos,.int .i64 (op:Int),av]⟩,.int .i64 h] H (.bool (missR op args h)) :=
 callS_wf fun hok hsc=>by
  rw[scbL_iff]at hsc
  have h1:=hsc _ (zB7 ..)
  have h2:(true&&(true&&(scb H.next av&&true)))=true:=h1
  rw[<-miss_agree hop hk]
  exact CallA.pure (missing100_c H pos op av args h hop ha hal hk hcn h0 hh (by simpa using h2) hok) rfl
theorem VAt.ixw {H:AHeap} {v r ix d0 d1:Nat} {least most depth:Int} {u p lv:Value} {ls:List Iv} {ss:Ss} {qv:Value} {q:List Int} (V:VAt H v r ix d0 d1 least most depth u p lv ls ss qv q):ix∉v::r::idsV qv:=by
 intro hm
 have hb:=V.ixm.bk
 rcases zA9.1 hm with e|hm
 ·rw[e,V.vb]at hb; cases hb
 rcases zA9.1 hm with e|hm
 ·exact V.ixr e
 ·obtain⟨M,hM⟩:=V.que.ids ix hm
  rw[hb]at hM
  cases hM
def gvE:Option Ks->Except Int Ks
 |none=>.error 9
 |some ks=>.ok ks
theorem tl3_gv (l:List Ins) (op:Nat) (args:List Int) (ts:St) (o:Ks):tl3 l op args ts (some o)=gvE (givesR o ((targsR op args).map fun t=>(findR l t).toNat) ts):=by
 rw[tl3]
 cases givesR o ((targsR op args).map fun t=>(findR l t).toNat) ts<;>rfl
theorem give_un {ks ks':Ks} {i j:Nat} {s:St} (h:giveR ks i s=some ks') (hj:ks'.getD j none=none):ks.getD j none=none:=by
 unfold giveR at h
 split at h
 ·rename_i h0
  simp only[Option.some.injEq]at h
  subst h
  by_cases e:j=i
  ·rw[e]; exact h0
  ·rw[zB1,List.getElem?_set_ne (fun h=>e h.symm),<-zB1]at hj
   exact hj
 ·split at h
  ·simp only[Option.some.injEq]at h
   exact h▸hj
  ·cases h
theorem process76_c (H:AHeap) (v r ix d0 d1:Nat) (least most depth:Int) (u p lv:Value) (ls:List Iv) (ss:Ss) (qv:Value) (dn:List Bool) (i:Nat) (x:Iv) (s:St) (fv:Value) (V:VAt H v r ix d0 d1 least most depth u p lv ls ss qv (qI (queR (ksS ss) dn)))
  (hx:ls[i]?=some x) (hs:ss[i]?=some (some (s,fv))) (hlen:ss.length=ls.length) (hl:ls.length<=100000) (hd1:d1<=H.next) (hw:∀ x∈ls,WfI x.1) (hal:∀ x∈ls,x.1.args.length<=1000000) (hks:KsOk (ksS ss)) (hdp:depth<=1000)
  (hst:∀ t∈targsR x.1.op.toNat x.1.args,0<=findR (ls.map (·.1)) t) (hdn:∀ j,(ksS ss).getD j none=none->dn.getD j false=false) (hu:scb H.next u=true) (hp:scb H.next p=true) (hlv:scb H.next lv=true) (hok:H.base<=H.next) :
  CallA Tryz.prog 76 [.pointer (some ⟨v,0,none⟩),.int .i64 (i:Int)] H (fun out X=>Mod (v::r::idsV qv) H X/\PcOut X v r ix d0 d1 least most depth u p lv ls qv dn x.1.pos out ss.length H.next (prR depth (ls.map (·.1)) (ksS ss) i)):=by
 obtain⟨b,hb⟩:=Go.Ax.exq H.next
 have hbase:H.base<=b:=hb▸hok
 have hxm:x∈ls:=List.mem_of_getElem? hx
 have hil:i<ls.length:=(List.getElem?_eq_some_iff.1 hx).1
 have hvb:v<b:=hb▸V.vn
 have hrb:r<b:=hb▸V.sts.1
 obtain⟨m,off,sp,c,e,o,M,e1,m1,r1,ia,ld⟩:=V.ins.one hx
 have hxr:=V.ins.av x hxm
 have hxs:=V.ins.sc x hxm
 have hxw:=hw x hxm
 have hxa:=hal x hxm
 have hsok:=hks i s (by rw[ksS_get,hs]; rfl)
 obtain⟨⟨pos,opi,args⟩,av⟩:=x
 obtain⟨op,rfl⟩:∃ q:Nat,opi=q:=⟨opi.toNat,by have:=hxw.1; simp only at this; omega⟩
 simp only[zE4]at hxr hxs hxa hst
 have hop:op<28:=by have:=hxw.2.1; simp only at this; omega
 have hpos:=hxw.pos
 have hfst:=hxw.fst
 simp only[zE4]at hpos hfst
 have hkl:args.length=(kindsR op args).length:=hxw.2.2.1
 have hcn:cntR op args<=1000000:=by have:=cntR_small (op:=op) (args:=args) hxw.2.2.2; omega
 have hfr:=V.fr i s fv hs
 obtain⟨f0,fc,ef⟩:=hfr.sl
 obtain⟨a0,c0,ea⟩:=hxr.sl
 have kv:=V.vb
 unfold vfC at kv
 rw[hb]at m1
 rw[e1]at ia kv
 have sav:scb b (.slice a0 args.length c0)=true:=by rw[<-ea,<-hb]; exact hxs
 have sfv:=hfr.sc
 rw[hb,ef]at sfv
 simp only[ivV,ivC,ea]at ld
 have sav1:=scb_mono (show b<=b+2 by omega) _ sav
 have sfv1:=scb_mono (show b<=b+2 by omega) _ sfv
 have hsg:ss.getD i none=some (s,fv):=by rw[zB1,hs]; rfl
 have hns:∀ a c,idsV (.slice none a c)=[]:=fun _ _=>rfl
 have hr0:(r=b+0)=False:=eq_false (by omega)
 have hr1:(r=b+1)=False:=eq_false (by omega)
 have hlk:∀ G:AHeap,G.get r=H.get r->aLookup Tryz.prog G 88 (.map (some r)) (.int .i64 (i:Int)) false=some (.agg ⟨[.int .i64 s.h,.int .i64 s.b,.slice f0 s.fs.length fc]⟩):=fun G hG=>by
  have:=V.sts.look u88 z93 (i:Int) false G hG
  rw[stF_nat,hsg,ef]at this
  exact this
 refine callE_fn mixed Tryz.func76 rfl Tryz.ntmps76 (zB3 rfl) ?_
 simp only[ruW,entryE,Nat.reduceAdd]
 refine w_drawB [(15,14),(15,13),(16,14),(16,13),(16,12)] [] (by kernel_rfl) (by kernel_rfl) rfl fun ops anc hA hG=>?_
 simp only[all2_cons]at hA
 simp only[hb,ia,m1,r1,ld,hvb,kv,zE3,qk_old,ruD,ruW,xF,ruU,Nat.reduceLT,Nat.reduceAdd,Nat.reduceEqDiff]
 refine wd_look (v:=.agg ⟨[.int .i64 s.h,.int .i64 s.b,.slice f0 s.fs.length fc]⟩) [r] rfl rfl (by decide) (fun n hn=>by simp only[zA7]at hn; exact hn▸V.sts.ne) (fun G hG=>by simp only[ruU,Nat.reduceEqDiff]; exact hlk G (hG r (by simp))) (by simp[Meets]) ?_
 simp only[hb,hbase,m1,hvb,sav1,sfv1,hA,hns,hr0,zE3,ruD,ruW,putL,Nat.reduceLeDiff,xF,ruU,Nat.reduceLT,Nat.reduceAdd,Nat.reduceEqDiff]
 generalize hY:ext H _=Y
 have mY:Mod [] H Y:=hY▸Mod.ext hok
 have nY:Y.next=b+2:=by rw[<-hY,ext_next,hb]; rfl
 have k0:bk Y (b+0)=some ⟨59,false,[.int .i64 pos,.int .i64 (op:Int),.slice a0 args.length c0]⟩:=by rw[<-hY,bk_at hb (by simp)]; rfl
 have k1:bk Y (b+1)=some ⟨93,false,[.int .i64 s.h,.int .i64 s.b,.slice f0 s.fs.length fc]⟩:=by rw[<-hY,bk_at hb (by simp)]; rfl
 clear hY
 have okY:=mY.ok hok
 obtain⟨y,hy⟩:=Go.Ax.exq Y.next
 have hyb:b+2=y:=nY.symm.trans hy
 have VY:=V.mod0 mY
 have hxY:RdAt Y 1 (.slice a0 args.length c0) (iv args) args.length:=ea▸VY.ins.av _ hxm
 have hfY:FrAt 176 Y (.slice f0 s.fs.length fc) s.fs:=ef▸hfr.mod0 mY
 have kvY:=VY.vb
 unfold vfC at kvY
 rw[e1]at kvY
 have j0:b+0<y:=by omega
 have j1:b+1<y:=by omega
 have j2:v<y:=by omega
 obtain⟨w1,w2,w3,w4,w5,w6⟩:=hsok
 have h49:op=4\/op=9->0<args.length/\0<=args.getD 0 0/\args.getD 0 0<=65535:=fun h=>⟨hpos (by omega),hfst (hpos (by omega))⟩
 have h8:op=8->0<args.length/\0<=args.getD 0 0/\args.getD 0 0<=65535:=fun h=>⟨hpos (by omega),hfst (hpos (by omega))⟩
 have hpr:prR depth (ls.map (·.1)) (ksS ss) i=if missR op args s.h=true then .error 9 else if disR op args s=true then .error 19 else tl1 depth (ls.map (·.1)) (ksS ss) i op args (aftR op args s).1 (aftR op args s).2 :=
  prR_eq (x:=⟨pos,(op:Int),args⟩) (by rw[List.getElem?_map,hx]; rfl) (by rw[zB1,ksS_get,hs]; rfl)
 rw[hpr]
 obtain⟨q1,hq1⟩:∃ q,missR op args s.h=q:=⟨_,rfl⟩
 obtain⟨FA,hFA⟩:∃ F,rdF (.slice a0 args.length c0) args.length=F:=⟨_,rfl⟩
 have hFn:∀ k∈FA,Y.get k≠none:=fun k hk=>(hxY.ne k (hFA▸hk)).1
 refine w_drawP [] [] (by kernel_rfl) (by kernel_rfl) rfl rfl (fun ops anc hA hG=>?_) (by simp) ⟨rfl,rfl⟩
 rw[show Y=ext Y [] from rfl]
 simp only[dropLast_more,dropLast_one,hy,j0,j1,k0,k1,qk_old,ruD,ruW,Nat.reduceLeDiff,xF,ruU,Nat.reduceLT,Nat.reduceAdd,Nat.reduceEqDiff]
 refine genV_quiet (v:=.bool q1) FA rfl (by kernel_rfl) (by decide) hFn (fun G h1 h2=>?_) (by simp[Meets]) ?_
 ·simp only[ruU,Nat.reduceEqDiff]
  rw[<-hq1]
  exact missing100_p G pos op (.slice a0 args.length c0) args s.h hop (hxY.of (Nat.le_of_eq h1.symm) fun k hk=>h2 k (hFA▸hk)) hxa hkl hcn h49 ⟨by omega,by omega⟩
 simp only[hy,j0,k0,qk_old,ruD,ruW,xF,ruU,Nat.reduceLT,Nat.reduceAdd,Nat.reduceEqDiff]
 simp only[lastO_cons,lastO_one,isDef_call,true_and,ruW,xF,ruU,Nat.reduceLT,Nat.reduceEqDiff]
 cases q1 with
 |true =>
  rw[if_pos hq1]
  refine fail_t _ 9 pos _ ?_
  simp only[opC_error,seqC_panic,endA_panic,lv_panic]
  exact⟨mY.mono (by simp),rfl⟩
 |false =>
 rw[if_neg (by rw[hq1]; simp)]
 refine (fail_f (ext Y []) 9 pos).to ?_
 simp only[ruW,Nat.reduceLT]
 obtain⟨q2,hq2⟩:∃ q,disR op args s=q:=⟨_,rfl⟩
 refine w_drawP [] [] (by kernel_rfl) (by kernel_rfl) rfl rfl (fun ops anc hA hG=>?_) (by simp) ⟨rfl,rfl⟩
 simp only[dropLast_more,dropLast_one,hy,j0,j1,k0,k1,qk_old,ruD,ruW,Nat.reduceLeDiff,xF,ruU,Nat.reduceLT,Nat.reduceAdd,Nat.reduceEqDiff]
 refine genV_quiet (v:=.bool q2) (FA++idsV (.slice f0 s.fs.length fc)) rfl (by kernel_rfl) (by decide) (fun k hk=>?_) (fun G h1 h2=>?_) (by simp[Meets]) ?_
 ·rcases zC0.1 hk with hk|hk
  ·exact hFn k hk
  ·exact (hfY.ne k hk).1
 ·simp only[ruU,Nat.reduceEqDiff]
  rw[<-hq2]
  exact dis101_c G pos op (.slice a0 args.length c0) args s (.slice f0 s.fs.length fc) hop (hxY.of (Nat.le_of_eq h1.symm) fun k hk=>h2 k (List.mem_append_left _ (hFA▸hk))) hxa h8 (hfY.of (Nat.le_of_eq h1.symm) fun k hk=>h2 k (List.mem_append_right _ hk)).rd (by omega) ⟨by omega,by omega⟩ (fun f hf=>by have:=w6 f hf; omega)
 simp only[hy,j0,k0,qk_old,ruD,ruW,xF,ruU,Nat.reduceLT,Nat.reduceAdd,Nat.reduceEqDiff]
 simp only[lastO_cons,lastO_one,isDef_call,true_and,ruW,xF,ruU,Nat.reduceLT,Nat.reduceEqDiff]
 cases q2 with
 |true =>
  rw[if_pos hq2]
  refine fail_t _ 19 pos _ ?_
  simp only[opC_error,seqC_panic,endA_panic,lv_panic]
  exact⟨mY.mono (by simp),rfl⟩
 |false =>
 rw[if_neg (by rw[hq2]; simp)]
 refine (fail_f (ext Y []) 19 pos).to ?_
 simp only[hy,j0,j1,k0,k1,qk_old,ruW,Nat.reduceLeDiff,xF,ruU,Nat.reduceLT,Nat.reduceAdd,Nat.reduceEqDiff]
 have hnf:op=19\/op=20->s.fs≠[]:=fun h he=>by
  have ht:(topS s).kind=-1:=by rw[topS,he]; rfl
  unfold disR at hq2
  rw[ht]at hq2
  rcases h with rfl|rfl<;>simp at hq2
 have hadr:=after102_c (ext Y []) pos op (.slice a0 args.length c0) args s (.slice f0 s.fs.length fc) hop hxY hxa h49 h8 hfY (by omega) hnf ⟨by omega,by omega⟩ ⟨by omega,by omega⟩ okY (by rw[ext_nil,hy]; exact scb_mono (by omega) _ sav)
 unfold stC at hadr
 refine hadr.mono ?_
 rintro _ Z ⟨v1,v2,rfl,fr1,fr2,mZ⟩
 have aln:=aft_len op args s
 replace mZ:Mod [] Y Z:=mZ
 obtain⟨ns,hns'⟩:∃ q,(aftR op args s).1=q:=⟨_,rfl⟩
 obtain⟨ts,hts'⟩:∃ q,(aftR op args s).2=q:=⟨_,rfl⟩
 rw[hns']at fr1 aln ⊢
 rw[hts']at fr2 aln ⊢
 obtain⟨R,hR⟩:=Go.Ax.exq (tl1 depth (ls.map (·.1)) (ksS ss) i op args ns ts)
 rw[hR]
 unfold tl1 at hR
 obtain⟨f1,c1,ef1⟩:=fr1.sl
 obtain⟨f2,c2,ef2⟩:=fr2.sl
 have sf1:=fr1.sc
 have sf2:=fr2.sc
 obtain⟨z,hz⟩:=Go.Ax.exq Z.next
 rw[ef1,hz]at sf1
 rw[ef2,hz]at sf2
 have okZ:=mZ.ok okY
 have zb:Z.base<=z:=hz▸okZ
 have lz:y<=z:=by have:=mZ.next; omega
 replace k0:=(mZ.bk (by omega) (by simp)).trans k0
 replace k1:=(mZ.bk (by omega) (by simp)).trans k1
 replace j0:b+0<z:=by omega
 replace j1:b+1<z:=by omega
 have sf11:=scb_mono (show z<=z+2 by omega) _ sf1
 have sf22:=scb_mono (show z<=z+2 by omega) _ sf2
 have VZ:=VY.mod0 mZ
 have hxZ:=hxY.mod0 mZ
 rw[show Z=ext Z [] from rfl]
 rw[ef1,ef2]
 simp only[hz,zb,j0,k0,sf11,sf22,qk_old,ruW,putL,Nat.reduceLeDiff,xF,ruU,Nat.reduceLT,Nat.reduceAdd,Nat.reduceEqDiff]
 generalize hT:ext Z _=T
 have mT:Mod [] Z T:=hT▸Mod.ext okZ
 have t1:bk T (z+0)=some ⟨93,false,[.int .i64 ns.h,.int .i64 ns.b,.slice f1 ns.fs.length c1]⟩:=by rw[<-hT,bk_at hz (by simp)]; rfl
 have t2:bk T (z+1)=some ⟨93,false,[.int .i64 ts.h,.int .i64 ts.b,.slice f2 ts.fs.length c2]⟩:=by rw[<-hT,bk_at hz (by simp)]; rfl
 have nT:T.next=z+2:=by rw[<-hT,ext_next,hz]; rfl
 clear hT
 have okT:=mT.ok okZ
 have sav2:scb T.next (.slice a0 args.length c0)=true:=scb_mono (by omega) _ sav
 refine (operands96_c T pos op (.slice a0 args.length c0) args 116 hop (hxZ.mod0 mT) hxa hkl hcn sav2 okT).mono ?_
 rintro _ U ⟨wt,rfl,vt,mU,hlt⟩
 rw[(kinds_agree hop hkl).2]at vt
 have mZU:=mT.trans mU
 obtain⟨un,hun⟩:=Go.Ax.exq U.next
 have okU:=mU.ok okT
 have ub:U.base<=un:=hun▸okU
 have lu:z+2<=un:=by have:=mU.next; omega
 replace k0:=(mZU.bk (by omega) (by simp)).trans k0
 replace k1:=(mZU.bk (by omega) (by simp)).trans k1
 replace t1:=(mU.bk (by omega) (by simp)).trans t1
 replace t2:=(mU.bk (by omega) (by simp)).trans t2
 replace j0:b+0<un:=by omega
 replace j1:b+1<un:=by omega
 have j3:z+0<un:=by omega
 have j4:z+1<un:=by omega
 have jv:v<un:=by omega
 have VU:=VZ.mod0 mZU
 have fU1:=fr1.mod0 mZU
 have fU2:=fr2.mod0 mZU
 rw[ef1]at fU1
 rw[ef2]at fU2
 have mHU:Mod [] H U:=(mY.trans mZ).trans mZU
 have kvU:=VU.vb
 have hvU:Go.Ax.bk U v≠none:=by rw[kvU]; simp
 obtain⟨ta,tc,et⟩:=vt.rd.sl
 rw[et]
 rw[show U=ext U [] from rfl]
 simp only[opC_ok,w_assign,w_nil,seqC_normal,ruU,Nat.reduceLT]
 have pureD:∀ (G:AHeap) (t:St) (f:Option Addr) (c:Nat),G.next=un->G.get v=U.get v->CallS Tryz.prog 74 [.pointer (some ⟨v,0,none⟩),.agg ⟨[.int .i64 t.h,.int .i64 t.b,.slice f t.fs.length c]⟩] G (.ok (.bool (deepR depth 200 1000 t))) G:=fun G t f c h1 h2=>deep74_c G v least most depth u p lv (.map (some ix)) (.map (some r)) qv t f c ((bk_get h2).trans kvU) (by omega)
 obtain⟨dA,hdA⟩:∃ d,deepR depth 200 1000 ns=d:=⟨_,rfl⟩
 obtain⟨dB,hdB⟩:∃ d,decide ((0:Int)<((targsR op args).length:Int))=d:=⟨_,rfl⟩
 obtain⟨dC,hdC⟩:∃ d,deepR depth 200 1000 ts=d:=⟨_,rfl⟩
 have hBn:dB=true ↔ targsR op args≠[]:=by
  rw[<-hdB,decide_eq_true_eq,<-List.length_pos_iff]
  omega
 refine w_env fun E hE=>?_
 have g0:E 0=.pointer (some ⟨v,0,none⟩):=by rw[hE]; rfl
 have g1:E 1=.int .i64 (i:Int):=by rw[hE]; rfl
 have g4:E 4=.pointer (some ⟨b+0,0,none⟩):=by rw[hE]; rfl
 have g6:E 6=.pointer (some ⟨z+0,0,none⟩):=by rw[hE]; rfl
 have g7:E 7=.pointer (some ⟨z+1,0,none⟩):=by rw[hE]; rfl
 have g8:E 8=.slice ta (targsR op args).length tc:=by rw[hE]; rfl
 clear hE
 have hvF:∀ k∈[v],U.get k≠none:=fun k hk=>by simp only[zA7]at hk; exact hk▸bk_ne kvU
 rw[w_seq]
 refine w_meet (fun E' X'=>X'=ext U []/\¬(deepR depth 200 1000 ns=true\/targsR op args≠[]/\deepR depth 200 1000 ts=true)/\E' 0=.pointer (some ⟨v,0,none⟩)/\E' 1=.int .i64 (i:Int)/\E' 4=.pointer (some ⟨b+0,0,none⟩)/\E' 6=.pointer (some ⟨z+0,0,none⟩)/\E' 7=.pointer (some ⟨z+1,0,none⟩)/\E' 8=.slice ta (targsR op args).length tc) ?_ ?_
 ·refine w_drawP [] [(3,48),(7,52)] (by kernel_rfl) (by kernel_rfl) rfl (by kernel_rfl) (fun ops anc hA hG=>?_) (by simp) ⟨rfl,rfl⟩
  simp only[all2_cons]at hG
  simp only[dropLast_more,dropLast_one,g0,g6,hun,j3,t1,qk_old,ruD,ruW,Nat.reduceLeDiff,xF,ruU,Nat.reduceLT,Nat.reduceAdd,Nat.reduceEqDiff]
  refine genV_quiet (v:=.bool dA) [v] rfl (by kernel_rfl) (by decide) hvF (fun G h1 h2=>?_) (by simp[Meets]) ?_
  ·simp only[ruU,Nat.reduceEqDiff]
   rw[<-hdA]
   exact pureD G ns f1 c1 (h1.trans hun) (h2 v (by simp))
  cases dA with
  |true =>
   rw[if_pos (.inl hdA)]at hR
   simp only[g4,hun,j0,k0,hG,qk_old,ruD,ruW,xF,ruU,Nat.reduceLT,Nat.reduceAdd,Nat.reduceEqDiff]
   simp only[lastO_cons,lastO_one,isDef_call,true_and,ruW,xF,ruU,Nat.reduceLT,Nat.reduceEqDiff]
   refine fail_t _ 12 pos _ ?_
   simp only[opC_error,endA_panic,lv_panic,joinR_panic]
   rw[<-hR]
   exact⟨mHU.mono (by simp),rfl⟩
  |false =>
   cases dB with
   |false =>
    simp only[g4,g8,hun,j0,k0,hdB,hG,qk_old,ruD,ruW,xF,ruU,Nat.reduceLT,Nat.reduceAdd,Nat.reduceEqDiff]
    simp only[lastO_cons,lastO_one,isDef_call,true_and,ruW,xF,ruU,Nat.reduceLT,Nat.reduceEqDiff]
    refine (fail_f _ 12 pos).to ?_
    simp only[ruW,Nat.reduceLT]
    refine joinR_normal ⟨rfl,(by rintro (h|h); (· rw[hdA]at h; cases h); (· have:=hBn.2 h.1; cases this)),?_,?_,?_,?_,?_,?_⟩
    ·exact g0
    ·exact g1
    ·exact g4
    ·exact g6
    ·exact g7
    ·exact g8
   |true =>
    simp only[g0,g7,g8,hun,j4,t2,hdB,hG,qk_old,ruD,ruW,Nat.reduceLeDiff,xF,ruU,Nat.reduceLT,Nat.reduceAdd,Nat.reduceEqDiff]
    refine genV_quiet (v:=.bool dC) [v] rfl (by kernel_rfl) (by decide) hvF (fun G h1 h2=>?_) (by simp[Meets]) ?_
    ·simp only[ruU,Nat.reduceEqDiff]
     rw[<-hdC]
     exact pureD G ts f2 c2 (h1.trans hun) (h2 v (by simp))
    cases dC with
    |true =>
     rw[if_pos (.inr ⟨hBn.1 rfl,hdC⟩)]at hR
     simp only[g4,hun,j0,k0,hG,qk_old,ruD,ruW,xF,ruU,Nat.reduceLT,Nat.reduceAdd,Nat.reduceEqDiff]
     simp only[lastO_cons,lastO_one,isDef_call,true_and,ruW,xF,ruU,Nat.reduceLT,Nat.reduceEqDiff]
     refine fail_t _ 12 pos _ ?_
     simp only[opC_error,endA_panic,lv_panic,joinR_panic]
     rw[<-hR]
     exact⟨mHU.mono (by simp),rfl⟩
    |false =>
     simp only[g4,hun,j0,k0,hG,qk_old,ruD,ruW,xF,ruU,Nat.reduceLT,Nat.reduceAdd,Nat.reduceEqDiff]
     simp only[lastO_cons,lastO_one,isDef_call,true_and,ruW,xF,ruU,Nat.reduceLT,Nat.reduceEqDiff]
     refine (fail_f _ 12 pos).to ?_
     simp only[ruW,Nat.reduceLT]
     refine joinR_normal ⟨rfl,(by rintro (h|h); (· rw[hdA]at h; cases h); (· have:=h.2; rw[hdC]at this; cases this)),?_,?_,?_,?_,?_,?_⟩
     ·exact g0
     ·exact g1
     ·exact g4
     ·exact g6
     ·exact g7
     ·exact g8
 clear g0 g1 g4 g6 g7 g8 E
 rintro E X' ⟨hX',hnd,g0,g1,g4,g6,g7,g8⟩
 rw[hX']
 rw[if_neg hnd]at hR
 unfold tl2 at hR
 obtain⟨dg,hdg⟩:∃ d,decide (op≠10/\op≠15)=d:=⟨_,rfl⟩
 have hgd:(op≠10/\op≠15) ↔ dg=true:=by rw[<-hdg,decide_eq_true_eq]
 have hwi:IntKind.i64.wrap ((i:Int)+1)=((i+1:Nat):Int):=wrap_succ (by omega)
 have sf1u:=scb_mono (show z<=un by omega) _ sf1
 have sf2u:=scb_mono (show z<=un by omega) _ sf2
 have hu2:scb U.next u=true:=scb_mono mHU.next _ hu
 have hp2:scb U.next p=true:=scb_mono mHU.next _ hp
 have hlv2:scb U.next lv=true:=scb_mono mHU.next _ hlv
 unfold vfC at kvU
 rw[e1]at kvU
 have hfl:∀ t:St,(t=ns\/t=ts)->t.fs.length<=1000000:=fun t ht=>by rcases ht with rfl|rfl<;>omega
 rw[w_seq]
 refine w_meet (fun E' X'=>∃ ss2 qv2,Mod (v::r::idsV qv) U X'/\VAt X' v r ix d0 d1 least most depth u p lv ls ss2 qv2 (qI (queR (ksS ss2) dn))/\ss2.length=ss.length/\(∀ j,(ksS ss2).getD j none=none->dn.getD j false=false)/\(∀ k∈idsV qv2,k∈idsV qv\/U.next<=k)/\tl3 (ls.map (·.1)) op args ts (some (ksS ss2))=R/\E' 0=.pointer (some ⟨v,0,none⟩)/\E' 4=.pointer (some ⟨b+0,0,none⟩)/\E' 7=.pointer (some ⟨z+1,0,none⟩)/\E' 8=.slice ta (targsR op args).length tc) ?_ ?_
 ·rw[w_seq]
  refine w_meet (fun E' X'=>X'=ext U []/\E' 68=.bool dg/\E' 0=.pointer (some ⟨v,0,none⟩)/\E' 1=.int .i64 (i:Int)/\E' 4=.pointer (some ⟨b+0,0,none⟩)/\E' 6=.pointer (some ⟨z+0,0,none⟩)/\E' 7=.pointer (some ⟨z+1,0,none⟩)/\E' 8=.slice ta (targsR op args).length tc) ?_ ?_
  ·obtain⟨p1,hp1⟩:∃ p,decide (¬(op:Int)=10)=p:=⟨_,rfl⟩
   obtain⟨p2,hp2⟩:∃ p,decide (¬(op:Int)=15)=p:=⟨_,rfl⟩
   cases p1 with
   |false =>
    have he:=of_decide_eq_false hp1
    have hd0:dg=false:=by rw[<-hdg]; exact decide_eq_false fun h=>h.1 (by omega)
    subst hd0
    simp only[g4,hun,j0,k0,hp1,qk_old,ruW,xF,ruU,Nat.reduceLT,Nat.reduceAdd,Nat.reduceEqDiff]
    refine joinR_normal ⟨rfl,by simp only[ruU],?_,?_,?_,?_,?_,?_⟩
    ·exact g0
    ·exact g1
    ·exact g4
    ·exact g6
    ·exact g7
    ·exact g8
   |true =>
    have he:=of_decide_eq_true hp1
    have hd0:dg=p2:=by
     rw[<-hdg,<-hp2]
     exact decide_eq_decide.2 ⟨fun h h'=>h.2 (by omega),fun h=>⟨by omega,by omega⟩⟩
    subst hd0
    simp only[g4,hun,j0,k0,hp1,hp2,qk_old,ruW,xF,ruU,Nat.reduceLT,Nat.reduceAdd,Nat.reduceEqDiff]
    refine joinR_normal ⟨rfl,by simp only[ruU],?_,?_,?_,?_,?_,?_⟩
    ·exact g0
    ·exact g1
    ·exact g4
    ·exact g6
    ·exact g7
    ·exact g8
  clear g0 g1 g4 g6 g7 g8 E
  rintro E X' ⟨hX',g68,g0,g1,g4,g6,g7,g8⟩
  rw[hX']
  cases dg with
  |false =>
   rw[if_neg (fun h=>by have:=hgd.1 h.1; cases this),if_neg (fun h=>by have:=hgd.1 h; cases this)]at hR
   simp only[g68,hun,ruW,Nat.reduceLT]
   refine joinR_normal ⟨ss,qv,Mod.refl,VU,rfl,hdn,fun k hk=>.inl hk,hR,?_,?_,?_,?_⟩
   ·simp only[g0]
   ·simp only[g4]
   ·simp only[g7]
   ·simp only[g8]
  |true =>
   obtain⟨d,hde⟩:=Go.Ax.exq (decide (((i+1:Nat):Int)=(ls.length:Int)))
   simp only[g68,ruW,Nat.reduceLT]
   refine w_drawP [] [] (by kernel_rfl) (by kernel_rfl) rfl rfl (fun ops anc hA hG=>?_) (by simp) ⟨rfl,rfl⟩
   simp only[dropLast_more,dropLast_one,g0,g1,g4,hun,j0,jv,k0,kvU,hwi,hde,qk_old,ruD,ruW,xF,ruU,Nat.reduceLT,Nat.reduceAdd,Nat.reduceEqDiff]
   simp only[lastO_cons,lastO_one,isDef_call,true_and,ruW,xF,ruU,Nat.reduceLT,Nat.reduceEqDiff]
   cases d with
   |true =>
    have he:=of_decide_eq_true hde
    rw[if_pos ⟨hgd.2 rfl,by rw[zD5]; omega⟩]at hR
    refine fail_t _ 13 pos _ ?_
    simp only[opC_error,seqC_panic,endA_panic,lv_panic,joinR_panic]
    rw[<-hR]
    exact⟨mHU.mono (by simp),rfl⟩
   |false =>
    have he:=of_decide_eq_false hde
    rw[if_neg (fun h=>he (by have:=h.2; rw[zD5]at this; omega)),if_pos (hgd.2 rfl)]at hR
    refine (fail_f _ 13 pos).to ?_
    simp only[g0,g1,g4,g6,hun,j0,j3,k0,t1,hwi,qk_old,ruW,Nat.reduceLeDiff,xF,ruU,Nat.reduceLT,Nat.reduceAdd,Nat.reduceEqDiff]
    have hgv:=give75_c (ext U []) v r ix d0 d1 least most depth u p lv ls ss qv dn (i+1) ns (.slice f1 ns.fs.length c1) pos VU (by omega) (by omega) (zB9 hd1 mHU.next) fU1 (hfl _ (.inl rfl)) (hdn (i+1)) hu2 hp2 hlv2 okU
    unfold stC at hgv
    refine hgv.mono ?_
    rintro out V2 ⟨mV,ho⟩
    obtain⟨og,hog⟩:=Go.Ax.exq (giveR (ksS ss) (i+1) ns)
    rw[hog]at ho hR
    cases og with
    |none =>
     unfold GvOut at ho
     rw[ho]
     simp only[opC_error,endA_panic,lv_panic,joinR_panic]
     rw[<-hR]
     exact⟨(mHU.mono (by simp)).trans mV,rfl⟩
    |some ks1 =>
     obtain⟨ho,ss2,qv2,V3,hk2,hl2,hq2⟩:=ho
     rw[ho]
     simp only[ruW,Nat.reduceLT]
     rw[<-hk2]at hR V3
     refine joinR_normal ⟨ss2,qv2,mV,V3,hl2,fun j hj=>?_,fun k hk=>?_,hR,?_,?_,?_,?_⟩
     ·rw[hk2]at hj
      exact hdn j (give_un hog hj)
     ·rw[<-hun]; exact hq2 k hk
     ·exact g0
     ·exact g4
     ·exact g7
     ·exact g8
 clear g0 g1 g4 g6 g7 g8 E
 rintro E X' ⟨ss2,qv2,mV,V2,hl2,hdn2,hq2,hR2,g0,g4,g7,g8⟩
 simp only[g8,ruW,xF,ruU,Nat.reduceLT]
 refine w_env fun E3 hE=>?_
 replace g0:E3 0=.pointer (some ⟨v,0,none⟩):=by rw[hE]; simp only[g0,ruU,Nat.reduceEqDiff]
 replace g4:E3 4=.pointer (some ⟨b+0,0,none⟩):=by rw[hE]; simp only[g4,ruU,Nat.reduceEqDiff]
 replace g7:E3 7=.pointer (some ⟨z+1,0,none⟩):=by rw[hE]; simp only[g7,ruU,Nat.reduceEqDiff]
 have g87:E3 87=.slice ta (targsR op args).length tc:=by rw[hE]; rfl
 have g88:E3 88=.int .i64 ((targsR op args).length:Int):=by rw[hE]; rfl
 have g89:E3 89=.int .i64 ((0:Nat):Int):=by rw[hE]; rfl
 clear hE E g8
 obtain⟨fnd,hfnd⟩:∃ f:Int->Nat,f=fun t=>(findR (ls.map (·.1)) t).toNat:=⟨_,rfl⟩
 have hRf:∀ o,tl3 (ls.map (·.1)) op args ts (some o)=gvE (givesR o ((targsR op args).map fnd) ts):=fun o=>by rw[tl3_gv,hfnd]
 have tln:=targs_len op args
 have hix:∀ (G:AHeap) (q:Int),0<=findR (ls.map (·.1)) q->G.get ix=U.get ix->aLookup Tryz.prog G 87 (.map (some ix)) (.int .i64 q) false=some (.int .i64 ((fnd q:Nat):Int)):=fun G q h0 hG=>by
  have:=VU.ixm.look u87 z3 q false G hG
  rw[ixF_at h0,(find_lt h0).1]at this
  rw[hfnd]
  exact this
 refine w_loop (fun (st:Nat × Ss × Value) E' X'=>Mod (v::r::idsV qv) U X'/\VAt X' v r ix d0 d1 least most depth u p lv ls st.2.1 st.2.2 (qI (queR (ksS st.2.1) dn))/\st.2.1.length=ss.length/\(∀ j,(ksS st.2.1).getD j none=none->dn.getD j false=false)/\(∀ k∈idsV st.2.2,k∈idsV qv\/U.next<=k)/\gvE (givesR (ksS st.2.1) (((targsR op args).drop st.1).map fnd) ts)=R/\st.1<=(targsR op args).length/\E' 0=.pointer (some ⟨v,0,none⟩)/\E' 4=.pointer (some ⟨b+0,0,none⟩)/\E' 7=.pointer (some ⟨z+1,0,none⟩)/\E' 87=.slice ta (targsR op args).length tc/\E' 88=.int .i64 ((targsR op args).length:Int)/\E' 89=.int .i64 (st.1:Int)) (fun st=>(targsR op args).length-st.1) (0,ss2,qv2) ⟨mV,V2,hl2,hdn2,hq2,by rw[<-hR2,hRf]; rfl,zB5 _,g0,g4,g7,g87,g88,g89⟩ ?_
 clear g0 g4 g7 g87 g88 g89 E3 mV V2 hl2 hdn2 hq2 hR2 ss2 qv2
 rintro⟨j,ss2,qv2⟩ E X ⟨mV,V2,hl2,hdn2,hq2,hR2,hj,g0,g4,g7,g87,g88,g89⟩
 simp only at V2 hl2 hdn2 hq2 hR2 hj g89
 have okX:=mV.ok okU
 obtain⟨x,hxn'⟩:∃ x,X.next=x:=⟨_,rfl⟩
 have lx:un<=x:=by have:=mV.next; omega
 have xb:X.base<=x:=hxn'▸okX
 have hqU:∀ k∈idsV qv,k<b:=fun k hk=>by have:=(V.que.ne k hk).2; omega
 have hnW:∀ k,b<=k->k∉v::r::idsV qv:=fun k hk hm=>by
  rcases zA9.1 hm with rfl|hm
  ·omega
  rcases zA9.1 hm with rfl|hm
  ·omega
  ·have:=hqU k hm; omega
 have t2X:=(mV.bk (n:=z+1) (by omega) (hnW _ (by omega))).trans t2
 have k0X:=(mV.bk (n:=b+0) (by omega) (hnW _ (by omega))).trans k0
 have j4x:z+1<x:=by omega
 have j0x:b+0<x:=by omega
 have jvx:v<x:=by omega
 have vtX:ArgA X wt (targsR op args):=vt.of mV.next fun k hk=>mV.get k (vt.ne k hk).2 (hnW _ (by have:=hlt k hk; omega))
 have fX2:FrAt 176 X (.slice f2 ts.fs.length c2) ts.fs:=fU2.mod mV (fU2.apart VU.vb VU.sts VU.que)
 have kvX:=V2.vb
 unfold vfC at kvX
 rw[show X=ext X [] from rfl]
 by_cases hje:j=(targsR op args).length
 ·have hdj:decide ((j:Int)<((targsR op args).length:Int))=false:=decide_eq_false (by omega)
  simp only[g88,g89,hdj,Tryz.results76,ruW,ruU,Nat.reduceLT]
  rw[List.drop_eq_nil_of_le (by omega),List.map_nil,givesR]at hR2
  rw[<-hR2]
  exact⟨(mHU.mono (by simp)).trans mV,rfl,ss2,qv2,V2,rfl,hl2,fun k hk=>(hq2 k hk).imp_right fun h=>by have:=mHU.next; omega⟩
 ·have hjl':j<(targsR op args).length:=by omega
  have hdj:decide ((j:Int)<((targsR op args).length:Int))=true:=decide_eq_true (by omega)
  obtain⟨n2,off2,s2,c2',e2,o2,M2,ek2,n12,r12,m12⟩:=vtX.rd.one hjl'
  rw[et]at ek2
  simp only[Value.slice.injEq]at ek2
  obtain⟨hta,-,rfl⟩:=ek2
  have g87s:=g87
  rw[hta]at g87s
  have i2:aIndexAddr Tryz.prog 35 (.slice (some ⟨n2,off2,s2⟩) (targsR op args).length tc) (.int .i64 (j:Int))=some (.pointer (some ⟨n2,off2+j*1,none⟩)):=ia_of u35 s3 hjl'
  rw[zC7]at i2
  rw[iv_get,zA6 hjl',zA5]at m12
  rw[hxn']at n12
  obtain⟨q,hq⟩:=Go.Ax.exq ((targsR op args)[j])
  rw[hq]at m12
  have hqm:q∈targsR op args:=hq▸List.getElem_mem hjl'
  have hq0:=hst q hqm
  have hwj:IntKind.i64.wrap ((j:Int)+1)=((j+1:Nat):Int):=wrap_succ (by omega)
  simp only[g87s,g88,g89,hxn',hdj,i2,n12,r12,m12,qk_old,ruW,xF,ruU,Nat.reduceLT,Nat.reduceEqDiff]
  have hgX:X.get ix=U.get ix:=mV.get ix VU.ixm.1 VU.ixw
  have hixn:∀ k∈[ix],X.get k≠none:=fun k hk=>by simp only[zA7]at hk; exact hk▸V2.ixm.ne
  obtain⟨hfi',hfl'⟩:=find_lt hq0
  have hfl2:fnd q<ss2.length:=by
   rw[zD5]at hfl'
   rw[hfnd]
   simp only
   omega
  have hdr:(targsR op args).drop j=q::(targsR op args).drop (j+1):=by rw[List.drop_eq_getElem_cons hjl',hq]
  rw[hdr,zB4,givesR]at hR2
  refine w_drawP [] [] (by kernel_rfl) (by kernel_rfl) rfl rfl (fun ops anc hA hG=>?_) (by simp) ⟨rfl,rfl⟩
  simp only[dropLast_more,dropLast_one,g0,hxn',jvx,kvX,qk_old,ruD,ruW,xF,ruU,Nat.reduceLT,Nat.reduceAdd,Nat.reduceEqDiff]
  refine wd_look (v:=.int .i64 ((fnd q:Nat):Int)) [ix] rfl rfl (by decide) hixn (fun G hG=>by simp only[ruU,Nat.reduceEqDiff]; exact hix G q hq0 ((hG ix (by simp)).trans hgX)) (by simp[Meets]) ?_
  simp only[g4,g7,hxn',j4x,j0x,t2X,k0X,qk_old,ruD,ruW,Nat.reduceLeDiff,xF,ruU,Nat.reduceLT,Nat.reduceAdd,Nat.reduceEqDiff]
  simp only[lastO_cons,lastO_one,isDef_call,true_and,ruW,xF,ruU,Nat.reduceLT,Nat.reduceEqDiff]
  have hu3:scb X.next u=true:=scb_mono mV.next _ hu2
  have hp3:scb X.next p=true:=scb_mono mV.next _ hp2
  have hlv3:scb X.next lv=true:=scb_mono mV.next _ hlv2
  have hgv:=give75_c (ext X []) v r ix d0 d1 least most depth u p lv ls ss2 qv2 dn (fnd q) ts (.slice f2 ts.fs.length c2) pos V2 hfl2 (by omega) (zB9 hd1 (zB9 mHU.next mV.next)) fX2 (hfl _ (.inr rfl)) (hdn2 (fnd q)) hu3 hp3 hlv3 okX
  unfold stC at hgv
  refine hgv.mono ?_
  rintro out V3 ⟨mV3,ho⟩
  have mUV3:Mod (v::r::idsV qv) U V3:=mV.step mV3 okU fun k hk=>by
   rcases zA9.1 hk with rfl|hk
   ·exact .inl (by simp)
   rcases zA9.1 hk with rfl|hk
   ·exact .inl (by simp)
   ·rcases hq2 k hk with h|h
    ·exact .inl (by simp[h])
    ·exact .inr h
  obtain⟨og,hog⟩:=Go.Ax.exq (giveR (ksS ss2) (fnd q) ts)
  rw[hog]at ho hR2
  cases og with
  |none =>
   unfold GvOut at ho
   rw[ho]
   simp only[opC_error,seqC_panic,endA_panic,lv_panic,blockC_panic,loopC_panic]
   rw[<-hR2]
   exact⟨(mHU.mono (by simp)).trans mUV3,rfl⟩
  |some ks1 =>
   obtain⟨ho,ss3,qv3,V4,hk3,hl3,hq3⟩:=ho
   rw[ho]
   simp only[g89,hwj,ruW,ruU,Nat.reduceLT,Nat.reduceEqDiff]
   rw[<-hk3]at hR2 V4
   refine loopC_next ⟨(j+1,ss3,qv3),by simp only; omega,mUV3,V4,hl3.trans hl2,fun k hk=>?_,fun k hk=>?_,hR2,by simp only; omega,?_,?_,?_,?_,?_,?_⟩
   ·simp only at hk
    rw[hk3]at hk
    exact hdn2 k (give_un hog hk)
   ·rcases hq3 k hk with h|h
    ·exact hq2 k h
    ·exact .inr (zB9 mV.next h)
   ·exact g0
   ·exact g4
   ·exact g7
   ·rw[hta]; simp only[g87s,ruU,Nat.reduceEqDiff]
   ·exact g88
   ·rfl
set_option maxRecDepth 100000
def decF (bs:List UInt8):Option (Int × Int):=if 60000<bs.length then some (4,60000) else match badA bs with
 |some r=>some (r.2,r.1.pos)
 |none=>none
def statA (least most depth:Int) (cn:Nat) (bs:List UInt8):Option (Int × Int) :=
 if headR least most depth cn=true then some (3,0) else
 match decF bs with
 |some f=>some f
 |none=>if insA bs=[] then some (13,0) else statR (insA bs) cn
theorem place_inc:∀ (xs:List Ins) (p:Nat),(placeL p xs).Pairwise (fun a b=>a.pos<b.pos)/\∀ x∈placeL p xs,(p:Int)<=x.pos
 |[],p=>⟨List.Pairwise.nil,fun x hx=>by cases hx⟩
 |x::r,p=>by
  obtain⟨h1,h2⟩:=place_inc r (p+1+2*x.args.length)
  refine⟨List.Pairwise.cons (fun y hy=>?_) h1,fun y hy=>?_⟩
  ·have:=h2 y hy
   simp only
   omega
  ·rcases zA9.1 hy with rfl|hy
   ·simp only
    omega
   ·have:=h2 y hy
    omega
theorem ins_inc {l:List UInt8} (h:badA l=none):(insA l).Pairwise fun a b=>a.pos<b.pos:=by
 obtain⟨h1,h2⟩:=enc_of_dec h
 have:=(bad_back h2).2
 rw[h1]at this
 rw[this]
 exact (place_inc _ 0).1
theorem ixF_nil:ixF []=fun _=>none:=by
 funext a
 unfold ixF
 rw[if_neg (by unfold findR; simp)]
theorem findR_none {l:List Ins} {a:Int} (h:∀ x∈l,x.pos≠a):findR l a=-1:=by
 unfold findR
 have:l.findIdx? (fun x=>decide (x.pos=a))=none:=by
  rw[List.findIdx?_eq_none_iff]
  intro x hx
  exact decide_eq_false (h x hx)
 rw[this]
theorem findR_snoc {l:List Ins} {x:Ins} (a:Int) (h:∀ y∈l,y.pos≠x.pos):findR (l++[x]) a=if a=x.pos then (l.length:Int) else findR l a:=by
 by_cases e:a=x.pos
 ·rw[if_pos e]
  unfold findR
  have h1:l.findIdx? (fun y=>decide (y.pos=a))=none:=by
   rw[List.findIdx?_eq_none_iff]
   intro y hy
   exact decide_eq_false (e▸h y hy)
  rw[List.findIdx?_append,h1]
  simp[e]
 ·rw[if_neg e]
  unfold findR
  rw[List.findIdx?_append]
  have h2:[x].findIdx? (fun y=>decide (y.pos=a))=none:=by
   rw[List.findIdx?_eq_none_iff]
   intro y hy
   rw[zA7]at hy
   exact decide_eq_false (hy▸fun h=>e h.symm)
  rw[h2]
  cases l.findIdx? (fun y=>decide (y.pos=a))<;>rfl
theorem ixF_snoc {l:List Ins} {x:Ins} (h:∀ y∈l,y.pos≠x.pos):ixF (l++[x])=fun a=>if a=x.pos then some (.int .i64 (l.length:Int)) else ixF l a:=by
 funext a
 unfold ixF
 rw[findR_snoc a h]
 by_cases e:a=x.pos
 ·rw[if_pos e,if_pos e,if_pos (by omega)]
 ·rw[if_neg e,if_neg e]
theorem stF_rep (n:Nat):stF (List.replicate n none)=fun _=>none:=by
 funext a
 unfold stF
 split
 ·have:(List.replicate n (none:Option (St × Value))).getD a.toNat none=none:=by
   rw[zB1,List.getElem?_replicate]
   split<;>rfl
  rw[this]
 ·rfl
end Go.Proofs.YtnigelgcjfhghaaGreatDoor
