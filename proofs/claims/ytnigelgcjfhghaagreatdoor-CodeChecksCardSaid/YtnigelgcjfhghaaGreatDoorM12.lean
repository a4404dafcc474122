/- Parts of the proof, one behind the other. -/
import Derived.Test.YtnigelgcjfhghaaGreatDoorM7
set_option linter.all false
set_option maxRecDepth 10000
set_option maxHeartbeats 16000000
open And renaming intro -> zA0
open Option renaming bind_eq_bind -> zA1, bind_eq_some_iff -> zA2, bind_some -> zA3, map_some -> zA6, map_eq_some_iff -> zB3
open List renaming getElem?_eq_getElem -> zA4, mem_singleton -> zA5, mem_cons -> zA8, getD_eq_getElem?_getD -> zA9, length_cons -> zB0, mem_cons_self -> zB6, map_cons -> zB7, mem_cons_of_mem -> zB8, mem_append -> zB9, not_mem_nil -> zC0, length_append -> zC3, nil_append -> zC5, length_nil -> zC7, length_singleton -> zC8, length_map -> zC9, all_eq_true -> zD2, flatMap_cons -> zD8, append_nil -> zD9, take_of_length_le -> zE0, getElem?_cons_succ -> zE2, mem_map -> zE3, eq_nil_of_length_eq_zero -> zE5, getElem?_map -> zE6, getElem?_cons_zero -> zE7, getElem?_eq_none -> zE8, drop_zero -> zF0, mem_of_getElem? -> zF1, cons_append -> zF2, length_take -> zF3, getElem?_eq_some_iff -> zF4, map_nil -> zF6, drop_eq_getElem_cons -> zF7, length_drop -> zF8, mem_append_right -> zF9
open Bool renaming and_eq_true -> zA7, false_eq_true -> zC6, and_self -> zD3, not_true -> zF5
open Nat renaming le_refl -> zB1, le_of_ble_eq_true -> zB2, zero_le -> zB5, zero_add -> zC1, le_trans -> zC2, mul_one -> zC4, le_of_eq -> zD0, lt_succ_self -> zD1, add_zero -> zD4, ble_eq -> zD5, lt_or_ge -> zD6, lt_of_lt_of_le -> zE1, eq_of_beq_eq_true -> zE4, zero_mul -> zE9
open Int renaming cast_ofNat_Int -> zB4, toNat_natCast -> zD7

namespace Go.Proofs.YtnigelgcjfhghaaGreatDoor
open Go.Ax
theorem kpt5:ansTX Tryz.prog baseK 3000 37 kpa5 (.bool true) []=true:=by kernel_rfl
end Go.Proofs.YtnigelgcjfhghaaGreatDoor
