/- Parts of the proof, one behind the other. -/
import Derived.Test.YtfpckllenkifkaaGreatDoorM3
import Derived.Test.YtfpckllenkifkaaGreatDoorM6
import Derived.Test.YtfpckllenkifkaaGreatDoorM4
import Derived.Test.YtfpckllenkifkaaGreatDoorRows
import Derived.Shelf.Strings.Repeat
set_option linter.all false
set_option maxRecDepth 10000
set_option maxHeartbeats 16000000
open And renaming intro -> zA0
open Option renaming bind_eq_bind -> zA1, bind_eq_some_iff -> zA2, bind_some -> zA3, map_some -> zA5, map_eq_some_iff -> zA6
open Bool renaming and_eq_true -> zA4, false_eq_true -> zB7, and_self -> zD6
open List renaming getElem?_eq_getElem -> zA7, length_cons -> zB0, mem_cons -> zB1, map_cons -> zB3, mem_singleton -> zB4, mem_cons_of_mem -> zB5, mem_cons_self -> zB9, mem_of_getElem? -> zC2, all_eq_true -> zC4, getElem?_cons_zero -> zC5, getElem?_eq_none -> zC6, drop_zero -> zC7, length_append -> zC8, mem_append -> zC9, getElem?_cons_succ -> zD0, length_replicate -> zD2, eq_nil_of_length_eq_zero -> zD4, nil_append -> zD5, length_nil -> zD7, map_congr_left -> zD8, mem_map -> zE0, flatMap_cons -> zE1, append_nil -> zE2, length_take -> zE3, length_drop -> zE4
open Nat renaming le_refl -> zA8, zero_le -> zA9, le_of_ble_eq_true -> zB2, lt_or_ge -> zB6, le_trans -> zB8, zero_add -> zC0, lt_succ_self -> zC1, lt_of_lt_of_le -> zC3, min -> zD1, add_zero -> zD3, eq_of_beq_eq_true -> zD9

namespace Go.Ax
def sameBy:List UInt8->List UInt8->Bool
 |[],[]=>true
 |a::r,b::q=>Nat.beq a.toNat b.toNat&&sameBy r q
 |_,_=>false
theorem sameBy_eq:∀ {u v:List UInt8},sameBy u v=true->u=v
 |[],[],_=>rfl
 |a::r,b::q,h=>by
  simp only[sameBy,zA4]at h
  rw[UInt8.toNat_inj.1 (zD9 h.1),sameBy_eq h.2]
 |[],_::_,h=>by cases h
 |_::_,[],h=>by cases h
def sameSp:Option Nat->Option Nat->Bool
 |none,none=>true
 |some a,some b=>Nat.beq a b
 |_,_=>false
theorem sameSp_eq:∀ {u v:Option Nat},sameSp u v=true->u=v
 |none,none,_=>rfl
 |some a,some b,h=>by rw[zD9 h]
 |none,some _,h=>by cases h
 |some _,none,h=>by cases h
def sameAd (a b:Addr):Bool:=Nat.beq a.block b.block&&Nat.beq a.off b.off&&sameSp a.spot b.spot
theorem sameAd_eq {a b:Addr} (h:sameAd a b=true):a=b:=by
 simp only[sameAd,zA4]at h
 obtain⟨x,y,z⟩:=a
 obtain⟨x',y',z'⟩:=b
 simp only at h
 rw[zD9 h.1.1,zD9 h.1.2,sameSp_eq h.2]
mutual
def sameX:Value->Value->Bool
 |.bool a,.bool b=>a == b
 |.int k a,.int l b=>decide (k=l)&&decide (a=b)
 |.string a,.string b=>sameBy a.data.toList b.data.toList
 |.pointer none,.pointer none=>true
 |.pointer (some a),.pointer (some b)=>sameAd a b
 |.slice none m n,.slice none p q=>Nat.beq m p&&Nat.beq n q
 |.slice (some a) m n,.slice (some b) p q=>sameAd a b&&Nat.beq m p&&Nat.beq n q
 |.agg a,.agg b=>sameXA a b
 |_,_=>false
def sameXA:Array Value->Array Value->Bool
 |⟨l⟩,⟨m⟩=>sameXL l m
def sameXL:List Value->List Value->Bool
 |[],[]=>true
 |a::r,b::q=>sameX a b&&sameXL r q
 |_,_=>false
end
mutual
theorem sameX_eq:∀ (u v:Value),sameX u v=true->u=v
 |.bool a,v,h=>by cases v<;>first|(simp[sameX]at h; done)|(rw[sameX,beq_iff_eq]at h; rw[h])
 |.int k a,v,h=>by cases v<;>first|(simp[sameX]at h; done)|(rw[sameX,zA4,decide_eq_true_eq,decide_eq_true_eq]at h; rw[h.1,h.2])
 |.string ⟨⟨a⟩⟩,v,h=>by
  cases v<;>first|(simp[sameX]at h; done)|skip
  rename_i b
  obtain⟨⟨b⟩⟩:=b
  rw[sameX]at h
  have h:sameBy a b=true:=h
  rw[sameBy_eq h]
 |.pointer none,v,h=>by cases v<;>first|(simp[sameX]at h; done)|(rename_i b; cases b<;>first|rfl|(simp[sameX]at h; done))
 |.pointer (some a),v,h=>by cases v<;>first|(simp[sameX]at h; done)|(rename_i b; cases b<;>first|(simp[sameX]at h; done)|(rw[sameX]at h; rw[sameAd_eq h]))
 |.slice none m n,v,h=>by cases v<;>first|(simp[sameX]at h; done)|(rename_i b _ _; cases b<;>first|(rw[sameX,zA4]at h; rw[zD9 h.1,zD9 h.2])|(simp[sameX]at h; done))
 |.slice (some a) m n,v,h=>by cases v<;>first|(simp[sameX]at h; done)|(rename_i b _ _; cases b<;>first|(rw[sameX,zA4,zA4]at h; rw[sameAd_eq h.1.1,zD9 h.1.2,zD9 h.2])|(simp[sameX]at h; done))
 |.agg a,.agg b,h=>by
  rw[sameX]at h
  rw[sameXA_eq a b h]
 |.agg a,.bool _,h=>by simp[sameX]at h
 |.agg a,.int _ _,h=>by simp[sameX]at h
 |.agg a,.string _,h=>by simp[sameX]at h
 |.agg a,.pointer _,h=>by simp[sameX]at h
 |.agg a,.slice _ _ _,h=>by simp[sameX]at h
 |.agg a,.float _ _,h=>by simp[sameX]at h
 |.agg a,.complex _ _ _,h=>by simp[sameX]at h
 |.agg a,.map _,h=>by simp[sameX]at h
 |.agg a,.chan _,h=>by simp[sameX]at h
 |.agg a,.func _ _ _,h=>by simp[sameX]at h
 |.agg a,.nilFunc,h=>by simp[sameX]at h
 |.agg a,.iface _ _,h=>by simp[sameX]at h
 |.agg a,.nilIface,h=>by simp[sameX]at h
 |.agg a,.tuple _,h=>by simp[sameX]at h
 |.float _ _,v,h=>by simp[sameX]at h
 |.complex _ _ _,v,h=>by simp[sameX]at h
 |.map _,v,h=>by simp[sameX]at h
 |.chan _,v,h=>by simp[sameX]at h
 |.func _ _ _,v,h=>by simp[sameX]at h
 |.nilFunc,v,h=>by simp[sameX]at h
 |.iface _ _,v,h=>by simp[sameX]at h
 |.nilIface,v,h=>by simp[sameX]at h
 |.tuple _,v,h=>by simp[sameX]at h
theorem sameXA_eq:∀ (u v:Array Value),sameXA u v=true->u=v
 |⟨l⟩,⟨m⟩,h=>by
  rw[sameXA]at h
  rw[sameXL_eq l m h]
theorem sameXL_eq:∀ (u v:List Value),sameXL u v=true->u=v
 |[],[],_=>rfl
 |a::r,b::q,h=>by
  simp only[sameXL,zA4]at h
  rw[sameX_eq a b h.1,sameXL_eq r q h.2]
 |[],_::_,h=>by simp[sameXL]at h
 |_::_,[],h=>by simp[sameXL]at h
end
structure Ent where
 f:FuncId
 args:List Value
 next:Nat
 blks:List (Nat × Bl)
end Go.Ax
namespace Go.Proofs.YtfpckllenkifkaaGreatDoor
open Go.Ax
set_option maxRecDepth 100000
def rhoR:Go.Shelf.Ren:=⟨fun n=>if n=99 then 77 else if n=105 then 61 else if n=165 then 78 else if n=166 then 30 else if n=169 then 32 else if n=170 then 79 else if n=206 then 90 else if n=212 then 40 else if n=240 then 63 else if n=241 then 91 else if n=263 then 70 else if n=264 then 71 else if n=276 then 80 else if n=277 then 99 else 0,fun n=>if n=37 then 78 else if n=46 then 96 else if n=51 then 117 else if n=53 then 120 else if n=70 then 77 else if n=72 then 80 else if n=75 then 83 else if n=76 then 84 else if n=80 then 87 else if n=109 then 97 else if n=127 then 109 else if n=146 then 118 else if n=148 then 121 else if n=164 then 134 else n,fun n=>n⟩
theorem laysR:Go.Proofs.Lays.n105 Tryz.prog rhoR:=by
 constructor
 all_goals first
  |exact mixed
  |kernel_rfl
  |(intro w; kernel_rfl)
theorem extraR:Go.Proofs.Builder.Extra Tryz.prog rhoR:=by
 refine⟨⟨?_,?_⟩,?_,?_,?_,?_,?_,?_,?_,?_⟩
 all_goals first
  |kernel_rfl
  |(intro w; kernel_rfl)
  |decide
def repK (K:FuncId->List Value->AHeap->Option Value):FuncId->List Value->AHeap->Option Value:=fun f args H =>
 match args with
 |[.string s,.int .i64 n]=>if Nat.beq f 61&&decide (0<=n)&&decide (n<=1000)&&Nat.ble s.size 1000 then some (.string ⟨(Go.Lib.repeatL s.data.toList n.toNat).toArray⟩) else K f args H
 |args=>K f args H
theorem known_rep {K:FuncId->List Value->AHeap->Option Value} (hK:Known Tryz.prog K):Known Tryz.prog (repK K):=by
 intro f args v H h
 unfold repK at h
 split at h
 ·rename_i s n
  split at h
  ·rename_i hc
   simp only[zA4,decide_eq_true_eq]at hc
   obtain⟨⟨⟨hf,h0⟩,h1⟩,h2⟩:=hc
   have hf:=zD9 hf
   subst hf
   have h2:=zB2 h2
   obtain⟨k,rfl⟩:∃ k:Nat,n=k:=⟨n.toNat,by omega⟩
   cases h
   have hm:s.size*k<=1000*1000:=Nat.mul_le_mul h2 (by omega)
   refine⟨rfl,fun ρ F m w r hsc hF=>?_⟩
   have hc:=Go.Proofs.Any.strings_Repeat laysR extraR s k w (by omega) (by omega)
   have e1:[Value.string s,Value.int .i64 (k:Int)].map ρ.val=[Value.string s,Value.int .i64 (k:Int)]:=map_af ρ _ (fun x hx=>by simp only[zB1,List.not_mem_nil,or_false]at hx; rcases hx with rfl|rfl<;>rfl)
   rw[e1,Int.toNat_natCast]
   exact hF.calls hc
  ·exact hK _ _ _ _ h
 ·exact hK _ _ _ _ h
end Go.Proofs.YtfpckllenkifkaaGreatDoor
