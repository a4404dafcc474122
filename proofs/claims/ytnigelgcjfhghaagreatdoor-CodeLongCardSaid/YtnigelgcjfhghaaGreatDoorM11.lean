/- Parts of the proof, one behind the other. -/
import Derived.Test.YtnigelgcjfhghaaGreatDoorM6
set_option linter.all false

/- A call of faulty in CodeKnown: true, on any heap. -/
namespace Go.Proofs.YtnigelgcjfhghaaGreatDoor
open Go.Ax

theorem kpt5 : ansTX Tryz.prog baseK 3000 37 kpa5 (.bool true) [] = true := by kernel_rfl
end Go.Proofs.YtnigelgcjfhghaaGreatDoor
