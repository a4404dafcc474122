/-
  DERIVED. GIVEN WITH THE SEED: THE CARDS: each row of YtfpckllenkifkaaGreatDoorRows.lean that lists a variable, with what it lists TIED to the program's text (the seventh form; the later family's looks); each row that meets fmt, with fmt's text TOLD by the authors' own Lean function (tested against real Go, not proved from fmt's source: count such statements apart). THE CARD IS WHAT COUNTS. Prove the row's statement (the work); the ties are given (YtfpckllenkifkaaGreatDoorTie.lean); close each card by the builder's one call (the guide's Derived/Test/ToyasCard.lean, 'card_holds'). Laid BY PROGRAM, IN A SANDBOX (cutbox-door.mjs). By AI agents, Wed Nov 11 2026. No macro, syntax, notation, axiom, sorry.
-/
import Derived.Test.YtfpckllenkifkaaGreatDoorRows
import GoSem.ClaimSeven
namespace Go.Proofs.YtfpckllenkifkaaGreatDoor
namespace Rows

/-- THE TIED CARD OF 'copyistlaw38.FrameValid'. -/
def frameValidCard : Claim7 := { stood := { row := frameValidRow, standIns := [], harness := (true, "57901aa59b279770811083ff035c350b36228fb603162d3c0128be5108126b40"), looks := false }, kinds := [], alts := [], laidByText := true, laidKinds := [.data, .data, .data, .data, .pinned], laidTests := true, laidLooks := .later }
def FrameValidCardSaid : Prop := Claim7.holds Tryz.pinned (.plain (OpenSpec.ofChange frameValidSpec)) frameValidCard

/-- THE SECOND FORM's CARD OF 'copyistlaw38.FrameValid'. -/
def frameValidUptoCard : Claim7 := { stood := { row := frameValidUptoRow, standIns := [], harness := (true, "57901aa59b279770811083ff035c350b36228fb603162d3c0128be5108126b40"), looks := false }, kinds := [], alts := [], laidByText := true, laidKinds := [.data, .data, .data, .data, .pinned], laidTests := true, laidLooks := .later }
def FrameValidUptoCardSaid : Prop := Claim7.holds Tryz.pinned (.plain (OpenSpec.upto frameValidSpec)) frameValidUptoCard
end Rows
end Go.Proofs.YtfpckllenkifkaaGreatDoor
