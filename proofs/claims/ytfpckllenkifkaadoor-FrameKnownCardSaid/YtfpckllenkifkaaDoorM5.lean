/- Parts of the proof, one behind the other. -/
import Derived.Test.YtfpckllenkifkaaDoorProg
import Derived.Test.YtfpckllenkifkaaDoorM3
import Derived.Test.YtfpckllenkifkaaDoorM4
import Derived.KernelRfl
set_option linter.all false

/- Known answers of pure calls, and the chapter's examples in 'awake' of the frame laws: true. -/
namespace Go.Proofs.YtfpckllenkifkaaDoor
open Go.Ax

abbrev AnsK := List (FuncId × List Value × Value)
abbrev kan0 : AnsK := []
theorem kno0 : Known Tryd.prog (lookK kan0) := known_nil _
abbrev kan1 : AnsK := (58, [.int .i64 98], .int .i64 1) :: kan0
theorem kno1 : Known Tryd.prog (lookK kan1) := known_cons mixed kno0 1000 rfl (by kernel_rfl)
abbrev kan2 : AnsK := (58, [.int .i64 105], .int .i64 1) :: kan1
theorem kno2 : Known Tryd.prog (lookK kan2) := known_cons mixed kno1 1000 rfl (by kernel_rfl)
abbrev kan3 : AnsK := (58, [.int .i64 104], .int .i64 1) :: kan2
theorem kno3 : Known Tryd.prog (lookK kan3) := known_cons mixed kno2 1000 rfl (by kernel_rfl)
abbrev kan4 : AnsK := (58, [.int .i64 77], .int .i64 1) :: kan3
theorem kno4 : Known Tryd.prog (lookK kan4) := known_cons mixed kno3 1000 rfl (by kernel_rfl)
abbrev kan5 : AnsK := (58, [.int .i64 97], .int .i64 1) :: kan4
theorem kno5 : Known Tryd.prog (lookK kan5) := known_cons mixed kno4 1000 rfl (by kernel_rfl)
abbrev kan6 : AnsK := (37, [.agg #[.int .i64 0, .int .i64 0, .bool false, .bool false, .bool false]], .bool true) :: kan5
theorem kno6 : Known Tryd.prog (lookK kan6) := known_cons mixed kno5 1000 rfl (by kernel_rfl)
abbrev kan7 : AnsK := (58, [.int .i64 32], .int .i64 1) :: kan6
theorem kno7 : Known Tryd.prog (lookK kan7) := known_cons mixed kno6 1000 rfl (by kernel_rfl)
theorem awakeK_true : ansB Tryd.prog (lookK kan7) 2000 7 [] (.bool true) = true := by kernel_rfl

end Go.Proofs.YtfpckllenkifkaaDoor
