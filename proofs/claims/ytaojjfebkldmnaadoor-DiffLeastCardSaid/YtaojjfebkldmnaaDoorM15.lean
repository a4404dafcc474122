/- Parts of the proof, one behind the other. -/
import Derived.Test.YtaojjfebkldmnaaDoorM14
set_option linter.all false
set_option maxRecDepth 10000
set_option maxHeartbeats 16000000
open And renaming intro → zA0
open Option renaming bind_eq_bind → zA1, bind_eq_some_iff → zA2, bind_some → zA3, map_some → zA7, map_eq_some_iff → zB1
open Bool renaming and_eq_true → zA4, false_eq_true → zC2, not_true → zC8, and_self → zD1, not_false → zD6
open Nat renaming le_refl → zA5, le_of_ble_eq_true → zA9, zero_le → zB0, zero_add → zC1, lt_or_ge → zC4, lt_succ_self → zC6, add_zero → zC7, lt_of_lt_of_le → zC9, le_of_eq → zD2, le_trans → zD9, zero_mul → zE1, sub_self → zE9, eq_of_beq_eq_true → zF4
open List renaming getElem?_eq_getElem → zA6, mem_singleton → zA8, mem_cons → zB2, mem_cons_of_mem → zB3, mem_append → zB4, length_cons → zB5, length_append → zB6, map_cons → zB7, nil_append → zB8, mem_of_getElem? → zB9, all_eq_true → zC0, length_nil → zC3, eq_nil_of_length_eq_zero → zC5, append_nil → zD0, drop_zero → zD3, mem_append_left → zD4, mem_append_right → zD5, mem_cons_self → zD7, length_drop → zD8, getElem?_eq_none → zE0, getElem?_eq_some_iff → zE2, mem_flatMap → zE3, mem_of_mem_take → zE4, mem_of_mem_drop → zE5, take_of_length_le → zE6, drop_eq_nil_of_le → zE7, getD_eq_getElem?_getD → zE8, drop_eq_getElem_cons → zF0, mem_range → zF1, map_nil → zF2, cons_append → zF3, getElem?_cons_zero → zF5, length_take → zF6, take_length → zF7, flatMap_cons → zF8, getElem?_cons_succ → zF9

namespace Go.Proofs.YtaojjfebkldmnaaDoor
open Go.Ax
theorem ken4 (ee:Nat→TypeId):entRun Tryd.prog (lookH tabE (lookK kanA) enl3) 3000 tabE ee ent4=true:=by kernel_rfl
theorem knh4:Known Tryd.prog (lookH tabE (lookK kanA) enl4):=known_heap mixed knh3 3000 ken4
end Go.Proofs.YtaojjfebkldmnaaDoor
