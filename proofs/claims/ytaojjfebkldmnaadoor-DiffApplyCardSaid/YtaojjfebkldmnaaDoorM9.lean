/- Parts of the proof, one behind the other. -/
import Derived.Test.YtaojjfebkldmnaaDoorProg
import Derived.Test.YtaojjfebkldmnaaDoorM4
import Derived.KernelRfl
set_option linter.all false
set_option maxRecDepth 10000
open Option renaming bind_eq_some_iff → oZ1, bind_eq_bind → oZ2, bind_some → oZ3, map_eq_some_iff → oZ4, map_some → oZ5

/- Known answers of pure calls in the diff laws' program: the cells of some characters; the chapter's examples in 'awake'. -/
namespace Go.Proofs.YtaojjfebkldmnaaDoor
open Go.Ax
abbrev Ans := List (FuncId × List Value × Value)
abbrev ans0 : Ans := []
theorem known0 : Known Tryd.prog (lookK ans0) := known_nil _
abbrev ans1 : Ans := (62, [.int .i64 32], .int .i64 1) :: ans0
theorem known1 : Known Tryd.prog (lookK ans1) := known_cons mixed known0 1000 rfl (by kernel_rfl)
abbrev ans2 : Ans := (62, [.int .i64 97], .int .i64 1) :: ans1
theorem known2 : Known Tryd.prog (lookK ans2) := known_cons mixed known1 1000 rfl (by kernel_rfl)
abbrev ans3 : Ans := (62, [.int .i64 98], .int .i64 1) :: ans2
theorem known3 : Known Tryd.prog (lookK ans3) := known_cons mixed known2 1000 rfl (by kernel_rfl)
abbrev ans4 : Ans := (62, [.int .i64 99], .int .i64 1) :: ans3
theorem known4 : Known Tryd.prog (lookK ans4) := known_cons mixed known3 1000 rfl (by kernel_rfl)
abbrev ans5 : Ans := (62, [.int .i64 100], .int .i64 1) :: ans4
theorem known5 : Known Tryd.prog (lookK ans5) := known_cons mixed known4 1000 rfl (by kernel_rfl)
abbrev ans6 : Ans := (62, [.int .i64 101], .int .i64 1) :: ans5
theorem known6 : Known Tryd.prog (lookK ans6) := known_cons mixed known5 1000 rfl (by kernel_rfl)
abbrev ans7 : Ans := (62, [.int .i64 102], .int .i64 1) :: ans6
theorem known7 : Known Tryd.prog (lookK ans7) := known_cons mixed known6 1000 rfl (by kernel_rfl)
abbrev ans8 : Ans := (62, [.int .i64 103], .int .i64 1) :: ans7
theorem known8 : Known Tryd.prog (lookK ans8) := known_cons mixed known7 1000 rfl (by kernel_rfl)
abbrev ans9 : Ans := (62, [.int .i64 104], .int .i64 1) :: ans8
theorem known9 : Known Tryd.prog (lookK ans9) := known_cons mixed known8 1000 rfl (by kernel_rfl)
end Go.Proofs.YtaojjfebkldmnaaDoor
