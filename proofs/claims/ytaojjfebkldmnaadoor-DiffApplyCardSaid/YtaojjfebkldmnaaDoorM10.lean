/- Parts of the proof, one behind the other. -/
import Derived.Test.YtaojjfebkldmnaaDoorM9
set_option linter.all false
set_option maxRecDepth 10000
open Option renaming bind_eq_some_iff → oZ1, bind_eq_bind → oZ2, bind_some → oZ3, map_eq_some_iff → oZ4, map_some → oZ5

/- The chapter's examples in 'awake' of the diff laws: true. -/
namespace Go.Proofs.YtaojjfebkldmnaaDoor
open Go.Ax
theorem awake_true : ansB Tryd.prog (lookK ans9) 2000 11 [] (.bool true) = true := by kernel_rfl
end Go.Proofs.YtaojjfebkldmnaaDoor
