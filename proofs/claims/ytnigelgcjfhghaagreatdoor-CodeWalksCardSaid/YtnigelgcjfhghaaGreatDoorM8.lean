/- Parts of the proof, one behind the other. -/
import Derived.Test.YtnigelgcjfhghaaGreatDoorM6
set_option linter.all false
set_option maxRecDepth 10000
set_option maxHeartbeats 16000000
open And renaming intro -> zA0
open Option renaming bind_eq_bind -> zA1, bind_eq_some_iff -> zA2, bind_some -> zA3, map_some -> zA6, map_eq_some_iff -> zB2
open List renaming mem_singleton -> zA4, getElem?_eq_getElem -> zA5, length_cons -> zA8, getD_eq_getElem?_getD -> zA9, mem_cons -> zB0, map_cons -> zB4, mem_append -> zB7, mem_cons_self -> zB8, mem_cons_of_mem -> zB9, length_nil -> zC5, length_append -> zC6, length_singleton -> zC7, length_map -> zC8, flatMap_cons -> zD1, all_eq_true -> zD4, mem_map -> zD5, nil_append -> zD6, getElem?_cons_succ -> zD7, length_take -> zE1, append_nil -> zE2, getElem?_eq_none -> zE3, not_mem_nil -> zE4, getElem?_map -> zE5, getElem?_eq_some_iff -> zE6, eq_nil_of_length_eq_zero -> zE7, take_of_length_le -> zE8, getElem?_cons_zero -> zE9, drop_zero -> zF0, mem_of_getElem? -> zF2, map_nil -> zF3, getElem_mem -> zF4, map_append -> zF5
open Bool renaming and_eq_true -> zA7, false_eq_true -> zC1, and_self -> zC9, or_eq_false_iff -> zF6
open Nat renaming le_refl -> zB1, le_of_ble_eq_true -> zB3, zero_le -> zC0, le_trans -> zC2, zero_add -> zC3, lt_succ_self -> zC4, mul_one -> zD0, lt_of_lt_of_le -> zD2, lt_or_ge -> zD3, eq_of_beq_eq_true -> zD8, ble_eq -> zD9, add_zero -> zE0, le_of_eq -> zF1
open Int renaming toNat_natCast -> zB5, cast_ofNat_Int -> zB6

namespace Go.Proofs.YtnigelgcjfhghaaGreatDoor
open Go.Ax
theorem kpt2:ansTX Tryz.prog baseK 3000 37 kpa2 (.bool true) []=true:=by kernel_rfl
end Go.Proofs.YtnigelgcjfhghaaGreatDoor
