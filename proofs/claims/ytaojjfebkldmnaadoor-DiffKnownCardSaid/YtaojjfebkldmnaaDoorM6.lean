/- Parts of the proof, one behind the other. -/
import Derived.Test.YtaojjfebkldmnaaDoorM5
set_option linter.all false

/- The chapter's examples in 'awake' of the diff laws: true; a known answer for the run of DiffKnown. -/
namespace Go.Proofs.YtaojjfebkldmnaaDoor
open Go.Ax

theorem awakeK_true : ansB Tryd.prog (lookK kan14) 2000 11 [] (.bool true) = true := by kernel_rfl
abbrev kanA : AnsK := (11, [], .bool true) :: kan14
theorem knoA : Known Tryd.prog (lookK kanA) := known_cons mixed kno14 2000 rfl awakeK_true

end Go.Proofs.YtaojjfebkldmnaaDoor
