/- Parts of the proof, one behind the other. -/
import Derived.Test.YtaojjfebkldmnaaDoorM8
set_option linter.all false
set_option maxRecDepth 10000
open Option renaming bind_eq_some_iff → oZ1, bind_eq_bind → oZ2, bind_some → oZ3, map_eq_some_iff → oZ4, map_some → oZ5

/- The chapter's examples in 'awake' of the diff laws: true; a known answer for the run of DiffKnown. -/
namespace Go.Proofs.YtaojjfebkldmnaaDoor
open Go.Ax
theorem awakeK_true : ansB Tryd.prog (lookK kan14) 2000 11 [] (.bool true) = true := by kernel_rfl
abbrev kanA : AnsK := (11, [], .bool true) :: kan14
theorem knoA : Known Tryd.prog (lookK kanA) := known_cons mixed kno14 2000 rfl awakeK_true
end Go.Proofs.YtaojjfebkldmnaaDoor
