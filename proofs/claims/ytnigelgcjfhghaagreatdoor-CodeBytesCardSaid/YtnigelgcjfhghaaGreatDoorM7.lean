/- Parts of the proof, one behind the other. -/
import Derived.Test.YtnigelgcjfhghaaGreatDoorM5
set_option linter.all false
set_option maxRecDepth 10000
set_option maxHeartbeats 16000000
open And renaming intro → zA0
open Option renaming bind_eq_bind → zA1, bind_eq_some_iff → zA2, bind_some → zA3, map_some → zA5, map_eq_some_iff → zA8
open Bool renaming and_eq_true → zA4, false_eq_true → zC0, and_self → zD6
open List renaming getElem?_eq_getElem → zA6, length_cons → zA7, mem_singleton → zB0, mem_cons → zB1, length_append → zB2, map_cons → zB4, mem_cons_of_mem → zB6, length_map → zB7, getD_eq_getElem?_getD → zB8, length_singleton → zB9, mem_cons_self → zC1, length_nil → zC5, mem_append → zC6, all_eq_true → zC7, mem_map → zC8, flatMap_cons → zC9, nil_append → zD4, getElem?_eq_none → zD5, append_nil → zD8, take_of_length_le → zD9, mem_of_getElem? → zE2, map_nil → zE3, getElem?_cons_succ → zE4, drop_eq_getElem_cons → zE5, getElem?_map → zE6, eq_nil_of_length_eq_zero → zE7
open Nat renaming le_refl → zA9, zero_le → zB3, le_of_ble_eq_true → zB5, mul_one → zC2, zero_add → zC3, lt_succ_self → zC4, add_zero → zD1, eq_of_beq_eq_true → zD2, lt_or_ge → zD3, ble_eq → zD7, le_trans → zE0, lt_of_lt_of_le → zE1
open Int renaming toNat_natCast → zD0

namespace Go.Proofs.YtnigelgcjfhghaaGreatDoor
open Go.Ax
theorem kpt2:ansTX Tryz.prog baseK 3000 37 kpa2 (.bool true) []=true:=by kernel_rfl
end Go.Proofs.YtnigelgcjfhghaaGreatDoor
