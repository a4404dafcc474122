/- Parts of the proof, one behind the other. -/
import Derived.Test.YtnigelgcjfhghaaGreatDoorM16
set_option linter.all false
set_option maxRecDepth 10000
set_option maxHeartbeats 16000000
open And renaming intro → zA0
open Option renaming bind_eq_bind → zA1, bind_eq_some_iff → zA2, bind_some → zA3, map_some → zA5, map_eq_some_iff → zA6
open Bool renaming and_eq_true → zA4, false_eq_true → zB2
open List renaming mem_singleton → zA7, length_cons → zA9, getElem?_eq_getElem → zB0, mem_cons → zB1, length_append → zB3, mem_cons_of_mem → zB5, all_eq_true → zB6, mem_cons_self → zB7, map_cons → zB9, length_singleton → zC0, mem_append → zC2, getD_eq_getElem?_getD → zC3, length_nil → zC4, nil_append → zC5, flatMap_cons → zD4, append_nil → zD5, getElem?_cons_succ → zD6, getElem?_eq_none → zD7, take_of_length_le → zD8
open Nat renaming le_refl → zA8, zero_le → zB4, le_of_ble_eq_true → zB8, eq_of_beq_eq_true → zC6, lt_succ_self → zC7, zero_add → zC8, lt_or_ge → zC9, add_zero → zD0, le_trans → zD1, lt_of_lt_of_le → zD2, mul_one → zD3
open Int renaming toNat_natCast → zC1

namespace Go.Proofs.YtnigelgcjfhghaaGreatDoor
open Go.Ax
theorem awakeK_true:ansTX Tryz.prog topK 3000 11 [] (.bool true) []=true:=by kernel_rfl
theorem awake_c (H:AHeap):CallS Tryz.prog 11 [] H (.ok (.bool true)) H:=callS_tabX mixed known_top rfl awakeK_true (fun x hx=>by cases hx)
end Go.Proofs.YtnigelgcjfhghaaGreatDoor
