/- Parts of the proof, one behind the other. -/
import Derived.Test.YtaojjfebkldmnaaDoorM17
set_option linter.all false
set_option maxRecDepth 10000
open Option renaming bind_eq_some_iff → oZ1, bind_eq_bind → oZ2, bind_some → oZ3, map_eq_some_iff → oZ4, map_some → oZ5

/- A call in DiffKnown (number 8): true, whatever else the memory holds. -/
namespace Go.Proofs.YtaojjfebkldmnaaDoor
open Go.Ax
theorem ken8 (ee : Nat → TypeId) : entRun Tryd.prog (lookH tabE (lookK kanA) enl7) 3000 tabE ee ent8 = true := by kernel_rfl
theorem knh8 : Known Tryd.prog (lookH tabE (lookK kanA) enl8) := known_heap mixed knh7 3000 ken8
end Go.Proofs.YtaojjfebkldmnaaDoor
