/- Parts of the proof, one behind the other. -/
import Derived.Test.YtaojjfebkldmnaaDoorProg
import Derived.Test.YtaojjfebkldmnaaDoorM3
import Derived.KernelRfl
set_option linter.all false
set_option maxRecDepth 10000
set_option maxHeartbeats 16000000
open And renaming intro → zA0
open Option renaming bind_eq_bind → zA1, bind_eq_some_iff → zA2, bind_some → zA3, map_some → zA9, map_eq_some_iff → zB2
open List renaming mem_singleton → zA4, getElem?_eq_getElem → zA6, mem_append → zB1, mem_cons → zB3, mem_cons_of_mem → zB4, length_cons → zB6, length_append → zB7, length_nil → zB8, mem_of_getElem? → zB9, nil_append → zC1, append_nil → zC5, mem_append_left → zC7, map_cons → zC8, all_eq_true → zC9, mem_append_right → zD0, drop_zero → zD1, mem_of_mem_take → zD4, mem_of_mem_drop → zD5, mem_cons_self → zD6, eq_nil_of_length_eq_zero → zD8, mem_flatMap → zE1, getD_eq_getElem?_getD → zE2, drop_eq_nil_of_le → zE3, take_length → zE4, getElem?_eq_none → zE5, take_of_length_le → zE6, length_take → zE7, getElem?_eq_some_iff → zE8, drop_eq_getElem_cons → zF0, length_drop → zF1, take_add_one → zF2, mem_range → zF3, getElem?_cons_zero → zF4, map_nil → zF5, append_assoc → zF6, flatMap_cons → zF7, length_singleton → zF8, length_replicate → zF9, getElem?_cons_succ → zG0
open Nat renaming le_refl → zA5, le_of_ble_eq_true → zA7, zero_le → zB0, zero_add → zC2, lt_or_ge → zC4, le_of_eq → zC6, lt_succ_self → zD2, add_zero → zD3, le_trans → zD7, lt_of_lt_of_le → zD9, zero_mul → zE9
open Bool renaming and_eq_true → zA8, not_true → zB5, not_false → zC0, false_eq_true → zC3, and_self → zE0

namespace Go.Proofs.YtaojjfebkldmnaaDoor
open Go.Ax
abbrev Ans:=List (FuncId × List Value × Value)
abbrev ans0:Ans:=[]
theorem known0:Known Tryd.prog (lookK ans0):=known_nil _
abbrev ans1:Ans:=(62,[.int .i64 32],.int .i64 1)::ans0
theorem known1:Known Tryd.prog (lookK ans1):=known_cons mixed known0 1000 rfl (by kernel_rfl)
abbrev ans2:Ans:=(62,[.int .i64 97],.int .i64 1)::ans1
theorem known2:Known Tryd.prog (lookK ans2):=known_cons mixed known1 1000 rfl (by kernel_rfl)
abbrev ans3:Ans:=(62,[.int .i64 98],.int .i64 1)::ans2
theorem known3:Known Tryd.prog (lookK ans3):=known_cons mixed known2 1000 rfl (by kernel_rfl)
abbrev ans4:Ans:=(62,[.int .i64 99],.int .i64 1)::ans3
theorem known4:Known Tryd.prog (lookK ans4):=known_cons mixed known3 1000 rfl (by kernel_rfl)
abbrev ans5:Ans:=(62,[.int .i64 100],.int .i64 1)::ans4
theorem known5:Known Tryd.prog (lookK ans5):=known_cons mixed known4 1000 rfl (by kernel_rfl)
abbrev ans6:Ans:=(62,[.int .i64 101],.int .i64 1)::ans5
theorem known6:Known Tryd.prog (lookK ans6):=known_cons mixed known5 1000 rfl (by kernel_rfl)
abbrev ans7:Ans:=(62,[.int .i64 102],.int .i64 1)::ans6
theorem known7:Known Tryd.prog (lookK ans7):=known_cons mixed known6 1000 rfl (by kernel_rfl)
abbrev ans8:Ans:=(62,[.int .i64 103],.int .i64 1)::ans7
theorem known8:Known Tryd.prog (lookK ans8):=known_cons mixed known7 1000 rfl (by kernel_rfl)
abbrev ans9:Ans:=(62,[.int .i64 104],.int .i64 1)::ans8
theorem known9:Known Tryd.prog (lookK ans9):=known_cons mixed known8 1000 rfl (by kernel_rfl)
end Go.Proofs.YtaojjfebkldmnaaDoor
