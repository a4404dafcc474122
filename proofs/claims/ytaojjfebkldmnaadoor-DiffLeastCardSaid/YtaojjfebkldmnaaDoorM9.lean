/- Parts of the proof, one behind the other. -/
import Derived.Test.YtaojjfebkldmnaaDoorProg
import Derived.Test.YtaojjfebkldmnaaDoorM3
import Derived.KernelRfl
set_option linter.all false
set_option maxRecDepth 10000
set_option maxHeartbeats 16000000
open And renaming intro → zA0
open Option renaming bind_eq_bind → zA1, bind_eq_some_iff → zA2, bind_some → zA3, map_some → zA7, map_eq_some_iff → zB1
open Bool renaming and_eq_true → zA4, false_eq_true → zC2, not_true → zC8, and_self → zD1, not_false → zD6
open Nat renaming le_refl → zA5, le_of_ble_eq_true → zA9, zero_le → zB0, zero_add → zC1, lt_or_ge → zC4, lt_succ_self → zC6, add_zero → zC7, lt_of_lt_of_le → zC9, le_of_eq → zD2, le_trans → zD9, zero_mul → zE1, sub_self → zE9, eq_of_beq_eq_true → zF4
open List renaming getElem?_eq_getElem → zA6, mem_singleton → zA8, mem_cons → zB2, mem_cons_of_mem → zB3, mem_append → zB4, length_cons → zB5, length_append → zB6, map_cons → zB7, nil_append → zB8, mem_of_getElem? → zB9, all_eq_true → zC0, length_nil → zC3, eq_nil_of_length_eq_zero → zC5, append_nil → zD0, drop_zero → zD3, mem_append_left → zD4, mem_append_right → zD5, mem_cons_self → zD7, length_drop → zD8, getElem?_eq_none → zE0, getElem?_eq_some_iff → zE2, mem_flatMap → zE3, mem_of_mem_take → zE4, mem_of_mem_drop → zE5, take_of_length_le → zE6, drop_eq_nil_of_le → zE7, getD_eq_getElem?_getD → zE8, drop_eq_getElem_cons → zF0, mem_range → zF1, map_nil → zF2, cons_append → zF3, getElem?_cons_zero → zF5, length_take → zF6, take_length → zF7, flatMap_cons → zF8, getElem?_cons_succ → zF9

namespace Go.Proofs.YtaojjfebkldmnaaDoor
open Go.Ax
abbrev AnsK:=List (FuncId × List Value × Value)
abbrev kan0:AnsK:=[]
theorem kno0:Known Tryd.prog (lookK kan0):=known_nil _
abbrev kan1:AnsK:=(87,[.int .u64 1,.int .u64 6],.tuple #[.int .u64 0,.int .u64 6])::kan0
theorem kno1:Known Tryd.prog (lookK kan1):=known_cons mixed kno0 1000 rfl (by kernel_rfl)
abbrev kan2:AnsK:=(62,[.int .i64 28450],.int .i64 2)::kan1
theorem kno2:Known Tryd.prog (lookK kan2):=known_cons mixed kno1 1000 rfl (by kernel_rfl)
abbrev kan3:AnsK:=(62,[.int .i64 120],.int .i64 1)::kan2
theorem kno3:Known Tryd.prog (lookK kan3):=known_cons mixed kno2 1000 rfl (by kernel_rfl)
abbrev kan4:AnsK:=(62,[.int .i64 104],.int .i64 1)::kan3
theorem kno4:Known Tryd.prog (lookK kan4):=known_cons mixed kno3 1000 rfl (by kernel_rfl)
abbrev kan5:AnsK:=(62,[.int .i64 103],.int .i64 1)::kan4
theorem kno5:Known Tryd.prog (lookK kan5):=known_cons mixed kno4 1000 rfl (by kernel_rfl)
abbrev kan6:AnsK:=(62,[.int .i64 102],.int .i64 1)::kan5
theorem kno6:Known Tryd.prog (lookK kan6):=known_cons mixed kno5 1000 rfl (by kernel_rfl)
abbrev kan7:AnsK:=(62,[.int .i64 101],.int .i64 1)::kan6
theorem kno7:Known Tryd.prog (lookK kan7):=known_cons mixed kno6 1000 rfl (by kernel_rfl)
abbrev kan8:AnsK:=(62,[.int .i64 100],.int .i64 1)::kan7
theorem kno8:Known Tryd.prog (lookK kan8):=known_cons mixed kno7 1000 rfl (by kernel_rfl)
abbrev kan9:AnsK:=(62,[.int .i64 99],.int .i64 1)::kan8
theorem kno9:Known Tryd.prog (lookK kan9):=known_cons mixed kno8 1000 rfl (by kernel_rfl)
abbrev kan10:AnsK:=(62,[.int .i64 98],.int .i64 1)::kan9
theorem kno10:Known Tryd.prog (lookK kan10):=known_cons mixed kno9 1000 rfl (by kernel_rfl)
abbrev kan11:AnsK:=(62,[.int .i64 97],.int .i64 1)::kan10
theorem kno11:Known Tryd.prog (lookK kan11):=known_cons mixed kno10 1000 rfl (by kernel_rfl)
abbrev kan12:AnsK:=(70,[.bool true],.tuple #[])::kan11
theorem kno12:Known Tryd.prog (lookK kan12):=known_cons mixed kno11 1000 rfl (by kernel_rfl)
abbrev kan13:AnsK:=(63,[.agg #[.int .i64 0,.int .i64 0,.bool false,.bool false,.bool false]],.bool true)::kan12
theorem kno13:Known Tryd.prog (lookK kan13):=known_cons mixed kno12 1000 rfl (by kernel_rfl)
abbrev kan14:AnsK:=(62,[.int .i64 32],.int .i64 1)::kan13
theorem kno14:Known Tryd.prog (lookK kan14):=known_cons mixed kno13 1000 rfl (by kernel_rfl)
end Go.Proofs.YtaojjfebkldmnaaDoor
