/- Parts of the proof, one behind the other. -/
import Derived.Test.YtnigelgcjfhghaaGreatDoorM7
import Derived.Test.YtnigelgcjfhghaaGreatDoorM8
import Derived.Test.YtnigelgcjfhghaaGreatDoorM9
import Derived.Test.YtnigelgcjfhghaaGreatDoorM10
import Derived.Test.YtnigelgcjfhghaaGreatDoorM11
import Derived.Test.YtnigelgcjfhghaaGreatDoorM12
import Derived.Test.YtnigelgcjfhghaaGreatDoorM13
set_option linter.all false
set_option maxRecDepth 10000
set_option maxHeartbeats 16000000
open And renaming intro -> zA0
open Option renaming bind_eq_bind -> zA1, bind_eq_some_iff -> zA2, bind_some -> zA3, map_some -> zA6, map_eq_some_iff -> zB2
open List renaming mem_singleton -> zA4, getElem?_eq_getElem -> zA5, length_cons -> zA8, getD_eq_getElem?_getD -> zA9, mem_cons -> zB0, map_cons -> zB4, mem_append -> zB7, mem_cons_self -> zB8, mem_cons_of_mem -> zB9, length_nil -> zC5, length_append -> zC6, length_singleton -> zC7, length_map -> zC8, flatMap_cons -> zD1, all_eq_true -> zD4, mem_map -> zD5, nil_append -> zD6, getElem?_cons_succ -> zD7, length_take -> zE1, append_nil -> zE2, getElem?_eq_none -> zE3, not_mem_nil -> zE4, getElem?_map -> zE5, getElem?_eq_some_iff -> zE6, eq_nil_of_length_eq_zero -> zE7, take_of_length_le -> zE8, getElem?_cons_zero -> zE9, drop_zero -> zF0, mem_of_getElem? -> zF2, map_nil -> zF3, getElem_mem -> zF4, map_append -> zF5
open Bool renaming and_eq_true -> zA7, false_eq_true -> zC1, and_self -> zC9, or_eq_false_iff -> zF6
open Nat renaming le_refl -> zB1, le_of_ble_eq_true -> zB3, zero_le -> zC0, le_trans -> zC2, zero_add -> zC3, lt_succ_self -> zC4, mul_one -> zD0, lt_of_lt_of_le -> zD2, lt_or_ge -> zD3, eq_of_beq_eq_true -> zD8, ble_eq -> zD9, add_zero -> zE0, le_of_eq -> zF1
open Int renaming toNat_natCast -> zB5, cast_ofNat_Int -> zB6

namespace Go.Proofs.YtnigelgcjfhghaaGreatDoor
open Go.Ax
theorem kpk0:KnownX Tryz.prog (lookP baseK kpl0):=known_nilP known_bK
theorem known_onceP {K:KX} {l:List (FuncId × List Value × Value)} (hK:KnownX Tryz.prog K) (hl:KnownX Tryz.prog (lookP K l)) (fuel:Nat) {f:FuncId} {xs:List Value} {v:Value} (ha:xs.all af=true) (h:ansTX Tryz.prog K fuel f xs v []=true) :
  KnownX Tryz.prog (lookP K ((f,xs,v)::l)):=by
 intro g args u H H1 hu
 unfold lookP at hu
 split at hu
 ·rename_i hc
  simp only[zA7]at hc
  have c1:=zD8 hc.1
  have c2:=sameXL_eq _ _ hc.2
  subst c1 c2
  simp only[Option.some.injEq,Prod.mk.injEq]at hu
  obtain⟨rfl,rfl⟩:=hu
  exact callS_tabX mixed hK ha h (fun x hx=>by cases hx)
 ·exact hl _ _ _ _ _ hu
theorem kpk1:KnownX Tryz.prog (lookP baseK kpl1):=known_onceP known_bK kpk0 3000 rfl kpt1
theorem kpk2:KnownX Tryz.prog (lookP baseK kpl2):=known_onceP known_bK kpk1 3000 rfl kpt2
theorem kpk3:KnownX Tryz.prog (lookP baseK kpl3):=known_onceP known_bK kpk2 3000 rfl kpt3
theorem kpk4:KnownX Tryz.prog (lookP baseK kpl4):=known_onceP known_bK kpk3 3000 rfl kpt4
theorem kpk5:KnownX Tryz.prog (lookP baseK kpl5):=known_onceP known_bK kpk4 3000 rfl kpt5
theorem kpk6:KnownX Tryz.prog (lookP baseK kpl6):=known_onceP known_bK kpk5 3000 rfl kpt6
theorem kpk7:KnownX Tryz.prog (lookP baseK kpl7):=known_onceP known_bK kpk6 3000 rfl kpt7
def midK:KX:=lookP baseK kpl7
theorem known_mid:KnownX Tryz.prog midK:=kpk7
def khe1:Ent:=⟨38,[.int .i64 0,.int .i64 0,.int .i64 2,.int .i64 2,.string ⟨#[99,111,110,115,116,32,48,10,99,97,116,99,104,32,49,48,10,99,111,110,115,116,32,49,10,100,111,110,101,10,114,101,116,117,114,110,10]⟩,.slice (some ⟨419,0,some 0⟩) 5 5],420,[(419,⟨3,false,[.int .i64 0,.int .i64 1,.int .i64 0,.int .i64 1,.int .i64 1]⟩)]⟩
def khe2:Ent:=⟨38,[.int .i64 2,.int .i64 2,.int .i64 5,.int .i64 1,.string ⟨#[99,111,110,115,116,32,48,10,99,111,112,121,32,50,10,99,111,112,121,32,50,10,99,97,108,108,32,50,10,114,101,116,117,114,110,10]⟩,.slice (some ⟨397,0,some 0⟩) 5 5],398,[(397,⟨3,false,[.int .i64 2,.int .i64 3,.int .i64 4,.int .i64 5,.int .i64 3]⟩)]⟩
abbrev khl0:List Ent:=[]
abbrev khl1:List Ent:=khe1::khl0
abbrev khl2:List Ent:=khe2::khl1
end Go.Proofs.YtnigelgcjfhghaaGreatDoor
