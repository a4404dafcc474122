/- Parts of the proof, one behind the other. -/
import Derived.Test.YtaojjfebkldmnaaDoorM7
set_option linter.all false

/- A call in DiffKnown (number 1): true, whatever else the memory holds. -/
namespace Go.Proofs.YtaojjfebkldmnaaDoor
open Go.Ax

theorem ken1 (ee : Nat → TypeId) : entRun Tryd.prog (lookH tabE (lookK kanA) enl0) 3000 tabE ee ent1 = true := by kernel_rfl
theorem knh1 : Known Tryd.prog (lookH tabE (lookK kanA) enl1) := known_heap mixed knh0 3000 ken1

end Go.Proofs.YtaojjfebkldmnaaDoor
