/- Parts of the proof, one behind the other. -/
import Derived.Test.YtnigelgcjfhghaaGreatDoorM17
set_option linter.all false

/- The chapter's examples in CodeKnown: true. -/
namespace Go.Proofs.YtnigelgcjfhghaaGreatDoor
open Go.Ax

theorem codeKnown_true : ansTX Tryz.prog allK 3000 7 [] (.bool true) [] = true := by kernel_rfl
theorem codeKnown_c (H : AHeap) : CallS Tryz.prog 7 [] H (.ok (.bool true)) H := callS_tabX mixed known_all rfl codeKnown_true (fun x hx => by cases hx)

end Go.Proofs.YtnigelgcjfhghaaGreatDoor
