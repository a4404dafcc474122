/- Parts of the proof, one behind the other. -/
import Derived.Test.YtaojjfebkldmnaaDoorM11
set_option linter.all false
set_option maxRecDepth 10000
set_option maxHeartbeats 16000000
open And renaming intro → zA0
open Option renaming bind_eq_bind → zA1, bind_eq_some_iff → zA2, bind_some → zA3, map_some → zA7, map_eq_some_iff → zB0
open Nat renaming le_refl → zA4, le_of_ble_eq_true → zA9, zero_le → zB2, zero_add → zB6, lt_or_ge → zC4, lt_succ_self → zC7, le_trans → zD1, lt_of_lt_of_le → zD2, add_zero → zD8, zero_mul → zE8, le_of_eq → zE9, sub_self → zF7, eq_of_beq_eq_true → zF9, add_sub_cancel_left → zG3
open Bool renaming and_eq_true → zA5, false_eq_true → zC2, not_true → zD3, and_self → zD5, not_false → zE1
open List renaming getElem?_eq_getElem → zA6, mem_singleton → zA8, mem_cons → zB1, mem_cons_of_mem → zB3, length_cons → zB4, mem_append → zB5, length_append → zB7, nil_append → zB8, map_cons → zB9, all_eq_true → zC0, mem_of_getElem? → zC1, length_nil → zC3, length_drop → zC5, mem_flatMap → zC6, append_nil → zC8, getD_eq_getElem?_getD → zC9, eq_nil_of_length_eq_zero → zD0, getElem?_eq_some_iff → zD4, drop_zero → zD6, mem_cons_self → zD7, length_take → zD9, getElem?_eq_none → zE0, mem_append_right → zE2, drop_eq_nil_of_le → zE3, mem_append_left → zE4, mem_of_mem_take → zE5, mem_of_mem_drop → zE6, getElem?_cons_zero → zF0, take_of_length_le → zF1, flatMap_cons → zF2, mem_range → zF3, cons_append → zF4, map_nil → zF5, take_length → zF6, getElem?_cons_succ → zF8, drop_drop → zG0, append_assoc → zG1, drop_eq_getElem_cons → zG2
open Int renaming toNat_natCast → zE7

namespace Go.Proofs.YtaojjfebkldmnaaDoor
open Go.Ax
theorem ken1 (ee:Nat→TypeId):entRun Tryd.prog (lookH tabE (lookK kanA) enl0) 3000 tabE ee ent1=true:=by kernel_rfl
theorem knh1:Known Tryd.prog (lookH tabE (lookK kanA) enl1):=known_heap mixed knh0 3000 ken1
end Go.Proofs.YtaojjfebkldmnaaDoor
