/- Parts of the proof, one behind the other. -/
import Derived.Test.YtfpckllenkifkaaDoorProg
import Derived.Test.YtfpckllenkifkaaDoorM3
import Derived.Test.YtfpckllenkifkaaDoorM4
import Derived.KernelRfl
set_option linter.all false
set_option maxRecDepth 10000
set_option maxHeartbeats 16000000
open And renaming intro -> zA0
open Option renaming bind_eq_bind -> zA1, bind_eq_some_iff -> zA2, bind_some -> zA3, map_some -> zA8, map_eq_some_iff -> zB0
open Bool renaming and_eq_true -> zA4, false_eq_true -> zC1, not_true -> zC2, not_false -> zD8, false_and -> zE0, and_true -> zE6, and_self -> zE8
open List renaming getElem?_eq_getElem -> zA5, mem_singleton -> zA9, mem_cons -> zB2, mem_cons_of_mem -> zB3, length_cons -> zB4, mem_of_getElem? -> zB5, map_cons -> zB7, mem_cons_self -> zB9, mem_append -> zC3, drop_zero -> zC7, length_append -> zC8, nil_append -> zC9, length_nil -> zD0, all_eq_true -> zD1, getElem?_eq_none -> zD2, getElem?_cons_zero -> zD3, length_drop -> zD4, length_replicate -> zD6, eq_nil_of_length_eq_zero -> zD7, getElem?_eq_some_iff -> zE1, getElem?_cons_succ -> zE2, length_take -> zE3, append_nil -> zE4, mem_map -> zE7, drop_drop -> zE9, take_length -> zF0, map_congr_left -> zF1, take_of_length_le -> zF2, flatMap_cons -> zF3, getElem?_take -> zF4, drop_eq_nil_of_le -> zF5, length_map -> zF6, foldl_cons -> zF7, mem_flatMap -> zF8, getD_eq_getElem?_getD -> zF9
open Nat renaming le_refl -> zA6, zero_le -> zA7, le_of_ble_eq_true -> zB1, zero_add -> zB6, le_trans -> zB8, lt_or_ge -> zC0, lt_of_lt_of_le -> zC4, lt_succ_self -> zC5, ble_eq -> zC6, add_zero -> zD5, min -> zD9, zero_mul -> zE5

namespace Go.Proofs.YtfpckllenkifkaaDoor
open Go.Ax
abbrev AnsK:=List (FuncId × List Value × Value)
abbrev kan0:AnsK:=[]
theorem kno0:Known Tryd.prog (lookK kan0):=known_nil _
abbrev kan1:AnsK:=(58,[.int .i64 98],.int .i64 1)::kan0
theorem kno1:Known Tryd.prog (lookK kan1):=known_cons mixed kno0 1000 rfl (by kernel_rfl)
abbrev kan2:AnsK:=(58,[.int .i64 105],.int .i64 1)::kan1
theorem kno2:Known Tryd.prog (lookK kan2):=known_cons mixed kno1 1000 rfl (by kernel_rfl)
abbrev kan3:AnsK:=(58,[.int .i64 104],.int .i64 1)::kan2
theorem kno3:Known Tryd.prog (lookK kan3):=known_cons mixed kno2 1000 rfl (by kernel_rfl)
abbrev kan4:AnsK:=(58,[.int .i64 77],.int .i64 1)::kan3
theorem kno4:Known Tryd.prog (lookK kan4):=known_cons mixed kno3 1000 rfl (by kernel_rfl)
abbrev kan5:AnsK:=(58,[.int .i64 97],.int .i64 1)::kan4
theorem kno5:Known Tryd.prog (lookK kan5):=known_cons mixed kno4 1000 rfl (by kernel_rfl)
abbrev kan6:AnsK:=(37,[.agg #[.int .i64 0,.int .i64 0,.bool false,.bool false,.bool false]],.bool true)::kan5
theorem kno6:Known Tryd.prog (lookK kan6):=known_cons mixed kno5 1000 rfl (by kernel_rfl)
abbrev kan7:AnsK:=(58,[.int .i64 32],.int .i64 1)::kan6
theorem kno7:Known Tryd.prog (lookK kan7):=known_cons mixed kno6 1000 rfl (by kernel_rfl)
theorem awakeK_true:ansB Tryd.prog (lookK kan7) 2000 7 [] (.bool true)=true:=by kernel_rfl
end Go.Proofs.YtfpckllenkifkaaDoor
