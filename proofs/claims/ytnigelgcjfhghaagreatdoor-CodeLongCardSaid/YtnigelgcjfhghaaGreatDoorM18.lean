/- Parts of the proof, one behind the other. -/
import Derived.Test.YtnigelgcjfhghaaGreatDoorM17
set_option linter.all false

/- The chapter's examples in 'awake' of the code laws: true. -/
namespace Go.Proofs.YtnigelgcjfhghaaGreatDoor
open Go.Ax

theorem awakeK_true : ansTX Tryz.prog topK 3000 11 [] (.bool true) [] = true := by kernel_rfl
theorem awake_c (H : AHeap) : CallS Tryz.prog 11 [] H (.ok (.bool true)) H := callS_tabX mixed known_top rfl awakeK_true (fun x hx => by cases hx)
def awaK : KX := fun f args H =>
  match args with
  | [] => if Nat.beq f 11 then some (.bool true, H) else none
  | _ => none
theorem known_awa : KnownX Tryz.prog awaK := by
  intro f args v H H1 h
  unfold awaK at h
  split at h
  · split at h
    · rename_i hf
      have hf := Nat.eq_of_beq_eq_true hf
      subst hf
      cases h
      exact awake_c _
    · cases h
  · cases h
def allK : KX := orX awaK topK
theorem known_all : KnownX Tryz.prog allK := known_orX known_awa known_top

end Go.Proofs.YtnigelgcjfhghaaGreatDoor
