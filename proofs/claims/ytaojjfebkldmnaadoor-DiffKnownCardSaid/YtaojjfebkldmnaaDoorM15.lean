/- Parts of the proof, one behind the other. -/
import Derived.Test.YtaojjfebkldmnaaDoorM14
set_option linter.all false

/- A call in DiffKnown (number 8): true, whatever else the memory holds. -/
namespace Go.Proofs.YtaojjfebkldmnaaDoor
open Go.Ax

theorem ken8 (ee : Nat → TypeId) : entRun Tryd.prog (lookH tabE (lookK kanA) enl7) 3000 tabE ee ent8 = true := by kernel_rfl
theorem knh8 : Known Tryd.prog (lookH tabE (lookK kanA) enl8) := known_heap mixed knh7 3000 ken8

end Go.Proofs.YtaojjfebkldmnaaDoor
