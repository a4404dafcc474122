/- Parts of the proof, one behind the other. -/
import Derived.Test.YtnigelgcjfhghaaGreatDoorM15
import Derived.Test.YtnigelgcjfhghaaGreatDoorM16
set_option linter.all false

/- The calls of high in CodeKnown as known answers. -/
namespace Go.Proofs.YtnigelgcjfhghaaGreatDoor
open Go.Ax

theorem known_onceX {K : KX} {l : List Ent} (hK : KnownX Tryz.prog (lookX [] K [])) (hl : KnownX Tryz.prog (lookX [] K l)) (fuel : Nat) {e : Ent} (h : ∀ ee, entRunX Tryz.prog (lookX [] K []) fuel [] ee e = true) : KnownX Tryz.prog (lookX [] K (e :: l)) := by
  intro g args u H H1 hu
  unfold lookX at hu
  split at hu
  · rename_i hc
    refine known_heapX mixed hK fuel h g args u H H1 ?_
    unfold lookX
    rw [if_pos hc]
    exact hu
  · exact hl _ _ _ _ _ hu
theorem khk0 : KnownX Tryz.prog (lookX [] midK khl0) := known_baseX known_mid
theorem khk1 : KnownX Tryz.prog (lookX [] midK khl1) := known_onceX khk0 khk0 3000 kht1
theorem khk2 : KnownX Tryz.prog (lookX [] midK khl2) := known_onceX khk0 khk1 3000 kht2
def topK : KX := lookX [] midK khl2
theorem known_top : KnownX Tryz.prog topK := khk2

end Go.Proofs.YtnigelgcjfhghaaGreatDoor
