/- Parts of the proof, one behind the other. -/
import Derived.Test.YtnigelgcjfhghaaGreatDoorM5
set_option linter.all false
set_option maxRecDepth 10000
set_option maxHeartbeats 16000000
open And renaming intro → zA0
open Option renaming bind_eq_bind → zA1, bind_eq_some_iff → zA2, bind_some → zA3, map_some → zA6, map_eq_some_iff → zA9
open Bool renaming and_eq_true → zA4, false_eq_true → zB5, and_self → zD7
open List renaming length_cons → zA5, mem_cons → zA7, mem_singleton → zB0, getElem?_eq_getElem → zB1, length_append → zB2, mem_cons_of_mem → zB3, map_cons → zB4, mem_cons_self → zB6, all_eq_true → zB7, length_nil → zB8, length_singleton → zC0, mem_append → zC1, flatMap_cons → zC4, getD_eq_getElem?_getD → zC6, nil_append → zC8, length_map → zD3, mem_map → zD4, not_mem_nil → zD6, take_of_length_le → zD8, cons_append → zE0, getElem?_eq_none → zE2, append_nil → zE3, map_nil → zE4, getElem?_cons_succ → zE5, append_assoc → zE6, eq_nil_of_length_eq_zero → zE7
open Nat renaming le_refl → zA8, le_of_ble_eq_true → zB9, zero_le → zC2, add_zero → zC3, mul_one → zC5, lt_succ_self → zC7, zero_add → zC9, eq_of_beq_eq_true → zD1, lt_or_ge → zD2, le_trans → zD5, lt_of_lt_of_le → zD9, ble_eq → zE1
open Int renaming toNat_natCast → zD0

namespace Go.Proofs.YtnigelgcjfhghaaGreatDoor
open Go.Ax
theorem kpt6:ansTX Tryz.prog baseK 3000 37 kpa6 (.bool true) []=true:=by kernel_rfl
end Go.Proofs.YtnigelgcjfhghaaGreatDoor
