/- Parts of the proof, one behind the other. -/
import Derived.Test.YtnigelgcjfhghaaGreatDoorM14
set_option linter.all false

/- A call of high in CodeKnown: true. -/
namespace Go.Proofs.YtnigelgcjfhghaaGreatDoor
open Go.Ax

theorem kht2 (ee : Nat → TypeId) : entRunX Tryz.prog (lookX [] midK khl0) 3000 [] ee khe2 = true := by kernel_rfl
end Go.Proofs.YtnigelgcjfhghaaGreatDoor
