/- Parts of the proof, one behind the other. -/
import Derived.Test.YtaojjfebkldmnaaDoorM7
set_option linter.all false

/- The chapter's examples in 'awake' of the diff laws: true. -/
namespace Go.Proofs.YtaojjfebkldmnaaDoor
open Go.Ax

theorem awake_true : ansB Tryd.prog (lookK ans9) 2000 11 [] (.bool true) = true := by kernel_rfl
abbrev ansA : Ans := (11, [], .bool true) :: ans9
theorem knownA : Known Tryd.prog (lookK ansA) := known_cons mixed known9 2000 rfl awake_true

end Go.Proofs.YtaojjfebkldmnaaDoor
