/- The chapter's examples in 'awake' of the redraw laws: true, as a known answer. -/
import Derived.Test.YtghlibiicooenaaGreatDoorWidths
namespace Go.Proofs.YtghlibiicooenaaGreatDoor
open Go.Ax

abbrev ansA : Ans := (16, [], .bool true) :: ans20
theorem knownA : Known Tryz.prog (lookK ansA) := known_cons mixed known20 2000 rfl (by kernel_rfl)

end Go.Proofs.YtghlibiicooenaaGreatDoor
