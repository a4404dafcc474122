/- The run of RedrawKnown: true. -/
import Derived.Test.YtghlibiicooenaaGreatDoorAwake
namespace Go.Proofs.YtghlibiicooenaaGreatDoor
open Go.Ax

theorem known_true : ansB Tryz.prog (lookK ansA) 2000 3 [] (.bool true) = true := by kernel_rfl

end Go.Proofs.YtghlibiicooenaaGreatDoor
