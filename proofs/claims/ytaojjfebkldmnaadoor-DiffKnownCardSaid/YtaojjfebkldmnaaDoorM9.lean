/- Parts of the proof, one behind the other. -/
import Derived.Test.YtaojjfebkldmnaaDoorM8
set_option linter.all false

/- A call in DiffKnown (number 2): true, whatever else the memory holds. -/
namespace Go.Proofs.YtaojjfebkldmnaaDoor
open Go.Ax

theorem ken2 (ee : Nat → TypeId) : entRun Tryd.prog (lookH tabE (lookK kanA) enl1) 3000 tabE ee ent2 = true := by kernel_rfl
theorem knh2 : Known Tryd.prog (lookH tabE (lookK kanA) enl2) := known_heap mixed knh1 3000 ken2

end Go.Proofs.YtaojjfebkldmnaaDoor
