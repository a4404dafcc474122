/- The run of RedrawNone on an argument of which nothing is known but its kinds: true. -/
import Derived.Test.YtghlibiicooenaaGreatDoorAwake
import Derived.Test.YtghlibiicooenaaGreatDoorAxV
namespace Go.Proofs.YtghlibiicooenaaGreatDoor
open Go.Ax

abbrev actTypes : List TypeId := [3, 3, 3, 29, 30, 9, 3, 3, 3, 3, 3, 3, 3, 3, 4, 44, 3, 3]

theorem none_true : ((masks (actTypes.map (isB Tryz.prog))).all fun m => isTrue (call Tryz.prog (lookK ansA) 1000 6 [.agg ⟨layL 6 m⟩] (AHeap.none (6 + actTypes.length)))) = true := by kernel_rfl

end Go.Proofs.YtghlibiicooenaaGreatDoor
