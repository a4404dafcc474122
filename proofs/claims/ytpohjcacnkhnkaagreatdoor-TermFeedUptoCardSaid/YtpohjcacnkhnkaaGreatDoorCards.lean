/-
  DERIVED. GIVEN WITH THE SEED: THE CARDS: each row of YtpohjcacnkhnkaaGreatDoorRows.lean that lists a variable, with what it lists TIED to the program's text (the seventh form; the later family's looks); each row that meets fmt, with fmt's text TOLD by the authors' own Lean function (tested against real Go, not proved from fmt's source: count such statements apart). THE CARD IS WHAT COUNTS. Prove the row's statement (the work); the ties are given (YtpohjcacnkhnkaaGreatDoorTie.lean); close each card by the builder's one call (the guide's Derived/Test/ToyasCard.lean, 'card_holds'). Laid BY PROGRAM, IN A SANDBOX (cutbox-door.mjs). By AI agents, Wed Nov 11 2026. No macro, syntax, notation, axiom, sorry.
-/
import Derived.Test.YtpohjcacnkhnkaaGreatDoorRows
import GoSem.ClaimSeven
namespace Go.Proofs.YtpohjcacnkhnkaaGreatDoor
namespace Rows

/-- THE TIED CARD OF 'copyistlaw40.TermFeed'. -/
def termFeedCard : Claim7 := { stood := { row := termFeedRow, standIns := [], harness := (true, "ffc73121f9a8751cf808a496ad208cdbac7838618426a9eef6699e175e65c96e"), looks := true }, kinds := [], alts := [], laidByText := true, laidKinds := [.data, .data, .data, .data, .pinned], laidTests := true, laidLooks := .later }
def TermFeedCardSaid : Prop := Claim7.holds Tryz.pinned (.plain (OpenSpec.ofChange termFeedSpec)) termFeedCard

/-- THE TIED CARD OF 'copyistlaw40.TermApplies'. -/
def termAppliesCard : Claim7 := { stood := { row := termAppliesRow, standIns := [], harness := (true, "ffc73121f9a8751cf808a496ad208cdbac7838618426a9eef6699e175e65c96e"), looks := true }, kinds := [], alts := [], laidByText := true, laidKinds := [.data, .data, .data, .data, .pinned], laidTests := true, laidLooks := .later }
def TermAppliesCardSaid : Prop := Claim7.holds Tryz.pinned (.plain (OpenSpec.ofChange termAppliesSpec)) termAppliesCard

/-- THE TIED CARD OF 'copyistlaw40.TermDraws'. -/
def termDrawsCard : Claim7 := { stood := { row := termDrawsRow, standIns := [], harness := (true, "ffc73121f9a8751cf808a496ad208cdbac7838618426a9eef6699e175e65c96e"), looks := true }, kinds := [], alts := [], laidByText := true, laidKinds := [.data, .data, .data, .data, .pinned], laidTests := true, laidLooks := .later }
def TermDrawsCardSaid : Prop := Claim7.holds Tryz.pinned (.plain (OpenSpec.ofChange termDrawsSpec)) termDrawsCard

/-- THE SECOND FORM's CARD OF 'copyistlaw40.TermFeed'. -/
def termFeedUptoCard : Claim7 := { stood := { row := termFeedUptoRow, standIns := [], harness := (true, "ffc73121f9a8751cf808a496ad208cdbac7838618426a9eef6699e175e65c96e"), looks := true }, kinds := [], alts := [], laidByText := true, laidKinds := [.data, .data, .data, .data, .pinned], laidTests := true, laidLooks := .later }
def TermFeedUptoCardSaid : Prop := Claim7.holds Tryz.pinned (.plain (OpenSpec.upto termFeedSpec)) termFeedUptoCard

/-- THE SECOND FORM's CARD OF 'copyistlaw40.TermApplies'. -/
def termAppliesUptoCard : Claim7 := { stood := { row := termAppliesUptoRow, standIns := [], harness := (true, "ffc73121f9a8751cf808a496ad208cdbac7838618426a9eef6699e175e65c96e"), looks := true }, kinds := [], alts := [], laidByText := true, laidKinds := [.data, .data, .data, .data, .pinned], laidTests := true, laidLooks := .later }
def TermAppliesUptoCardSaid : Prop := Claim7.holds Tryz.pinned (.plain (OpenSpec.upto termAppliesSpec)) termAppliesUptoCard

/-- THE SECOND FORM's CARD OF 'copyistlaw40.TermDraws'. -/
def termDrawsUptoCard : Claim7 := { stood := { row := termDrawsUptoRow, standIns := [], harness := (true, "ffc73121f9a8751cf808a496ad208cdbac7838618426a9eef6699e175e65c96e"), looks := true }, kinds := [], alts := [], laidByText := true, laidKinds := [.data, .data, .data, .data, .pinned], laidTests := true, laidLooks := .later }
def TermDrawsUptoCardSaid : Prop := Claim7.holds Tryz.pinned (.plain (OpenSpec.upto termDrawsSpec)) termDrawsUptoCard
end Rows
end Go.Proofs.YtpohjcacnkhnkaaGreatDoor
