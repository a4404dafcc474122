/- Parts of the proof, one behind the other. -/
import Derived.Test.YtfpckllenkifkaaGreatDoorProg
import Derived.Test.YtfpckllenkifkaaGreatDoorM3
import Derived.Test.YtfpckllenkifkaaGreatDoorM4
import Derived.KernelRfl
set_option linter.all false
set_option maxRecDepth 10000
set_option maxHeartbeats 16000000
open And renaming intro -> zA0
open Option renaming bind_eq_bind -> zA1, bind_eq_some_iff -> zA2, bind_some -> zA3, map_some -> zA5, map_eq_some_iff -> zA6
open Bool renaming and_eq_true -> zA4, false_eq_true -> zB7, and_self -> zD6
open List renaming getElem?_eq_getElem -> zA7, length_cons -> zB0, mem_cons -> zB1, map_cons -> zB3, mem_singleton -> zB4, mem_cons_of_mem -> zB5, mem_cons_self -> zB9, mem_of_getElem? -> zC2, all_eq_true -> zC4, getElem?_cons_zero -> zC5, getElem?_eq_none -> zC6, drop_zero -> zC7, length_append -> zC8, mem_append -> zC9, getElem?_cons_succ -> zD0, length_replicate -> zD2, eq_nil_of_length_eq_zero -> zD4, nil_append -> zD5, length_nil -> zD7, map_congr_left -> zD8, mem_map -> zE0, flatMap_cons -> zE1, append_nil -> zE2, length_take -> zE3, length_drop -> zE4
open Nat renaming le_refl -> zA8, zero_le -> zA9, le_of_ble_eq_true -> zB2, lt_or_ge -> zB6, le_trans -> zB8, zero_add -> zC0, lt_succ_self -> zC1, lt_of_lt_of_le -> zC3, min -> zD1, add_zero -> zD3, eq_of_beq_eq_true -> zD9

namespace Go.Proofs.YtfpckllenkifkaaGreatDoor
open Go.Ax
abbrev AnsK:=List (FuncId × List Value × Value)
abbrev kan0:AnsK:=[]
theorem kno0:Known Tryz.prog (lookK kan0):=known_nil _
abbrev kan1:AnsK:=(25,[.int .i64 98],.int .i64 1)::kan0
theorem kno1:Known Tryz.prog (lookK kan1):=known_cons mixed kno0 1000 rfl (by kernel_rfl)
abbrev kan2:AnsK:=(25,[.int .i64 105],.int .i64 1)::kan1
theorem kno2:Known Tryz.prog (lookK kan2):=known_cons mixed kno1 1000 rfl (by kernel_rfl)
abbrev kan3:AnsK:=(25,[.int .i64 104],.int .i64 1)::kan2
theorem kno3:Known Tryz.prog (lookK kan3):=known_cons mixed kno2 1000 rfl (by kernel_rfl)
abbrev kan4:AnsK:=(25,[.int .i64 77],.int .i64 1)::kan3
theorem kno4:Known Tryz.prog (lookK kan4):=known_cons mixed kno3 1000 rfl (by kernel_rfl)
abbrev kan5:AnsK:=(25,[.int .i64 97],.int .i64 1)::kan4
theorem kno5:Known Tryz.prog (lookK kan5):=known_cons mixed kno4 1000 rfl (by kernel_rfl)
abbrev kan6:AnsK:=(43,[.agg #[.int .i64 0,.int .i64 0,.bool false,.bool false,.bool false]],.bool true)::kan5
theorem kno6:Known Tryz.prog (lookK kan6):=known_cons mixed kno5 1000 rfl (by kernel_rfl)
abbrev kan7:AnsK:=(25,[.int .i64 32],.int .i64 1)::kan6
theorem kno7:Known Tryz.prog (lookK kan7):=known_cons mixed kno6 1000 rfl (by kernel_rfl)
theorem awakeK_true:ansB Tryz.prog (lookK kan7) 2000 14 [] (.bool true)=true:=by kernel_rfl
end Go.Proofs.YtfpckllenkifkaaGreatDoor
