/- Known answers of pure calls in the redraw laws' program: the widths of some characters, the plain look, some products. -/
import Derived.Test.YtghlibiicooenaaGreatDoorProg
import Derived.Test.YtghlibiicooenaaGreatDoorAxT
import Derived.KernelRfl
namespace Go.Proofs.YtghlibiicooenaaGreatDoor
open Go.Ax

theorem mixed : Tryz.prog.follows .mixedOrders = true := by kernel_rfl

abbrev Ans := List (FuncId × List Value × Value)
abbrev ans0 : Ans := []
theorem known0 : Known Tryz.prog (lookK ans0) := known_nil _
abbrev ans1 : Ans := (118, [.int .i64 32], .bool true) :: ans0
theorem known1 : Known Tryz.prog (lookK ans1) := known_cons mixed known0 1000 rfl (by kernel_rfl)
abbrev ans2 : Ans := (118, [.int .i64 104], .bool true) :: ans1
theorem known2 : Known Tryz.prog (lookK ans2) := known_cons mixed known1 1000 rfl (by kernel_rfl)
abbrev ans3 : Ans := (118, [.int .i64 105], .bool true) :: ans2
theorem known3 : Known Tryz.prog (lookK ans3) := known_cons mixed known2 1000 rfl (by kernel_rfl)
abbrev ans4 : Ans := (118, [.int .i64 111], .bool true) :: ans3
theorem known4 : Known Tryz.prog (lookK ans4) := known_cons mixed known3 1000 rfl (by kernel_rfl)
abbrev ans5 : Ans := (118, [.int .i64 97], .bool true) :: ans4
theorem known5 : Known Tryz.prog (lookK ans5) := known_cons mixed known4 1000 rfl (by kernel_rfl)
abbrev ans6 : Ans := (118, [.int .i64 98], .bool true) :: ans5
theorem known6 : Known Tryz.prog (lookK ans6) := known_cons mixed known5 1000 rfl (by kernel_rfl)
abbrev ans7 : Ans := (119, [.int .i64 32], .int .i64 1) :: ans6
theorem known7 : Known Tryz.prog (lookK ans7) := known_cons mixed known6 1000 rfl (by kernel_rfl)
abbrev ans8 : Ans := (119, [.int .i64 104], .int .i64 1) :: ans7
theorem known8 : Known Tryz.prog (lookK ans8) := known_cons mixed known7 1000 rfl (by kernel_rfl)
abbrev ans9 : Ans := (119, [.int .i64 105], .int .i64 1) :: ans8
theorem known9 : Known Tryz.prog (lookK ans9) := known_cons mixed known8 1000 rfl (by kernel_rfl)
abbrev ans10 : Ans := (119, [.int .i64 111], .int .i64 1) :: ans9
theorem known10 : Known Tryz.prog (lookK ans10) := known_cons mixed known9 1000 rfl (by kernel_rfl)
abbrev ans11 : Ans := (119, [.int .i64 97], .int .i64 1) :: ans10
theorem known11 : Known Tryz.prog (lookK ans11) := known_cons mixed known10 1000 rfl (by kernel_rfl)
abbrev ans12 : Ans := (119, [.int .i64 98], .int .i64 1) :: ans11
theorem known12 : Known Tryz.prog (lookK ans12) := known_cons mixed known11 1000 rfl (by kernel_rfl)
abbrev ans13 : Ans := (226, [.int .i64 32], .int .i64 1) :: ans12
theorem known13 : Known Tryz.prog (lookK ans13) := known_cons mixed known12 1000 rfl (by kernel_rfl)
abbrev ans14 : Ans := (226, [.int .i64 104], .int .i64 1) :: ans13
theorem known14 : Known Tryz.prog (lookK ans14) := known_cons mixed known13 1000 rfl (by kernel_rfl)
abbrev ans15 : Ans := (226, [.int .i64 105], .int .i64 1) :: ans14
theorem known15 : Known Tryz.prog (lookK ans15) := known_cons mixed known14 1000 rfl (by kernel_rfl)
abbrev ans16 : Ans := (226, [.int .i64 111], .int .i64 1) :: ans15
theorem known16 : Known Tryz.prog (lookK ans16) := known_cons mixed known15 1000 rfl (by kernel_rfl)
abbrev ans17 : Ans := (117, [.agg #[.int .i64 0, .int .i64 0, .bool false, .bool false, .bool false]], .bool true) :: ans16
theorem known17 : Known Tryz.prog (lookK ans17) := known_cons mixed known16 1000 rfl (by kernel_rfl)
abbrev ans18 : Ans := (227, [.agg #[.int .i64 0, .int .i64 0, .bool false, .bool false, .bool false]], .bool true) :: ans17
theorem known18 : Known Tryz.prog (lookK ans18) := known_cons mixed known17 1000 rfl (by kernel_rfl)
abbrev ans19 : Ans := (113, [.int .u64 1, .int .u64 2], .tuple #[.int .u64 0, .int .u64 2]) :: ans18
theorem known19 : Known Tryz.prog (lookK ans19) := known_cons mixed known18 1000 rfl (by kernel_rfl)
abbrev ans20 : Ans := (113, [.int .u64 1, .int .u64 4], .tuple #[.int .u64 0, .int .u64 4]) :: ans19
theorem known20 : Known Tryz.prog (lookK ans20) := known_cons mixed known19 1000 rfl (by kernel_rfl)

end Go.Proofs.YtghlibiicooenaaGreatDoor
