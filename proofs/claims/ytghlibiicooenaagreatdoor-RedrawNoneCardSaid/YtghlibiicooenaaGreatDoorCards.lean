/-
  DERIVED. GIVEN WITH THE SEED: THE CARDS: each row of YtghlibiicooenaaGreatDoorRows.lean that lists a variable, with what it lists TIED to the program's text (the seventh form; the later family's looks); each row that meets fmt, with fmt's text TOLD by the authors' own Lean function (tested against real Go, not proved from fmt's source: count such statements apart). THE CARD IS WHAT COUNTS. Prove the row's statement (the work); the ties are given (YtghlibiicooenaaGreatDoorTie.lean); close each card by the builder's one call (the guide's Derived/Test/ToyasCard.lean, 'card_holds'). Laid BY PROGRAM, IN A SANDBOX (cutbox-door.mjs). By AI agents, Wed Nov 11 2026. No macro, syntax, notation, axiom, sorry.
-/
import Derived.Test.YtghlibiicooenaaGreatDoorRows
import GoSem.ClaimSeven
namespace Go.Proofs.YtghlibiicooenaaGreatDoor
namespace Rows

/-- THE TIED CARD OF 'copyistlaw41.RedrawKnown'. -/
def redrawKnownCard : Claim7 := { stood := { row := redrawKnownRow, standIns := [], harness := (true, "0fcc8f6b9c951c39c2455d37cc789e71e0c2f8fa02c493f781af79bd32eecd19"), looks := true }, kinds := [], alts := [], laidByText := true, laidKinds := [.data, .data, .data, .data, .pinned], laidTests := true, laidLooks := .later }
def RedrawKnownCardSaid : Prop := Claim7.holds Tryz.pinned (.plain (OpenSpec.ofChange redrawKnownSpec)) redrawKnownCard

/-- THE TIED CARD OF 'copyistlaw41.RedrawCaches'. -/
def redrawCachesCard : Claim7 := { stood := { row := redrawCachesRow, standIns := [], harness := (true, "0fcc8f6b9c951c39c2455d37cc789e71e0c2f8fa02c493f781af79bd32eecd19"), looks := true }, kinds := [], alts := [], laidByText := true, laidKinds := [.data, .data, .data, .data, .pinned], laidTests := true, laidLooks := .later }
def RedrawCachesCardSaid : Prop := Claim7.holds Tryz.pinned (.plain (OpenSpec.ofChange redrawCachesSpec)) redrawCachesCard

/-- THE TIED CARD OF 'copyistlaw41.RedrawActs'. -/
def redrawActsCard : Claim7 := { stood := { row := redrawActsRow, standIns := [], harness := (true, "0fcc8f6b9c951c39c2455d37cc789e71e0c2f8fa02c493f781af79bd32eecd19"), looks := true }, kinds := [], alts := [], laidByText := true, laidKinds := [.data, .data, .data, .data, .pinned], laidTests := true, laidLooks := .later }
def RedrawActsCardSaid : Prop := Claim7.holds Tryz.pinned (.plain (OpenSpec.ofChange redrawActsSpec)) redrawActsCard

/-- THE TIED CARD OF 'copyistlaw41.RedrawNone'. -/
def redrawNoneCard : Claim7 := { stood := { row := redrawNoneRow, standIns := [], harness := (true, "0fcc8f6b9c951c39c2455d37cc789e71e0c2f8fa02c493f781af79bd32eecd19"), looks := true }, kinds := [], alts := [], laidByText := true, laidKinds := [.data, .data, .data, .data, .pinned], laidTests := true, laidLooks := .later }
def RedrawNoneCardSaid : Prop := Claim7.holds Tryz.pinned (.plain (OpenSpec.ofChange redrawNoneSpec)) redrawNoneCard

/-- THE TIED CARD OF 'copyistlaw41.RedrawAnew'. -/
def redrawAnewCard : Claim7 := { stood := { row := redrawAnewRow, standIns := [], harness := (true, "0fcc8f6b9c951c39c2455d37cc789e71e0c2f8fa02c493f781af79bd32eecd19"), looks := true }, kinds := [], alts := [], laidByText := true, laidKinds := [.data, .data, .data, .data, .pinned], laidTests := true, laidLooks := .later }
def RedrawAnewCardSaid : Prop := Claim7.holds Tryz.pinned (.plain (OpenSpec.ofChange redrawAnewSpec)) redrawAnewCard

/-- THE SECOND FORM's CARD OF 'copyistlaw41.RedrawKnown'. -/
def redrawKnownUptoCard : Claim7 := { stood := { row := redrawKnownUptoRow, standIns := [], harness := (true, "0fcc8f6b9c951c39c2455d37cc789e71e0c2f8fa02c493f781af79bd32eecd19"), looks := true }, kinds := [], alts := [], laidByText := true, laidKinds := [.data, .data, .data, .data, .pinned], laidTests := true, laidLooks := .later }
def RedrawKnownUptoCardSaid : Prop := Claim7.holds Tryz.pinned (.plain (OpenSpec.upto redrawKnownSpec)) redrawKnownUptoCard

/-- THE SECOND FORM's CARD OF 'copyistlaw41.RedrawCaches'. -/
def redrawCachesUptoCard : Claim7 := { stood := { row := redrawCachesUptoRow, standIns := [], harness := (true, "0fcc8f6b9c951c39c2455d37cc789e71e0c2f8fa02c493f781af79bd32eecd19"), looks := true }, kinds := [], alts := [], laidByText := true, laidKinds := [.data, .data, .data, .data, .pinned], laidTests := true, laidLooks := .later }
def RedrawCachesUptoCardSaid : Prop := Claim7.holds Tryz.pinned (.plain (OpenSpec.upto redrawCachesSpec)) redrawCachesUptoCard

/-- THE SECOND FORM's CARD OF 'copyistlaw41.RedrawActs'. -/
def redrawActsUptoCard : Claim7 := { stood := { row := redrawActsUptoRow, standIns := [], harness := (true, "0fcc8f6b9c951c39c2455d37cc789e71e0c2f8fa02c493f781af79bd32eecd19"), looks := true }, kinds := [], alts := [], laidByText := true, laidKinds := [.data, .data, .data, .data, .pinned], laidTests := true, laidLooks := .later }
def RedrawActsUptoCardSaid : Prop := Claim7.holds Tryz.pinned (.plain (OpenSpec.upto redrawActsSpec)) redrawActsUptoCard

/-- THE SECOND FORM's CARD OF 'copyistlaw41.RedrawNone'. -/
def redrawNoneUptoCard : Claim7 := { stood := { row := redrawNoneUptoRow, standIns := [], harness := (true, "0fcc8f6b9c951c39c2455d37cc789e71e0c2f8fa02c493f781af79bd32eecd19"), looks := true }, kinds := [], alts := [], laidByText := true, laidKinds := [.data, .data, .data, .data, .pinned], laidTests := true, laidLooks := .later }
def RedrawNoneUptoCardSaid : Prop := Claim7.holds Tryz.pinned (.plain (OpenSpec.upto redrawNoneSpec)) redrawNoneUptoCard

/-- THE SECOND FORM's CARD OF 'copyistlaw41.RedrawAnew'. -/
def redrawAnewUptoCard : Claim7 := { stood := { row := redrawAnewUptoRow, standIns := [], harness := (true, "0fcc8f6b9c951c39c2455d37cc789e71e0c2f8fa02c493f781af79bd32eecd19"), looks := true }, kinds := [], alts := [], laidByText := true, laidKinds := [.data, .data, .data, .data, .pinned], laidTests := true, laidLooks := .later }
def RedrawAnewUptoCardSaid : Prop := Claim7.holds Tryz.pinned (.plain (OpenSpec.upto redrawAnewSpec)) redrawAnewUptoCard
end Rows
end Go.Proofs.YtghlibiicooenaaGreatDoor
