/-
  DERIVED. GIVEN WITH THE SEED: THE CARDS: each row of YtpohjcacnkhnkaaDoorRows.lean that lists a variable, with what it lists TIED to the program's text (the seventh form; the later family's looks); each row that meets fmt, with fmt's text TOLD by the authors' own Lean function (tested against real Go, not proved from fmt's source: count such statements apart). THE CARD IS WHAT COUNTS. Prove the row's statement (the work); the ties are given (YtpohjcacnkhnkaaDoorTie.lean); close each card by the builder's one call (the guide's Derived/Test/ToyasCard.lean, 'card_holds'). Laid BY PROGRAM, IN A SANDBOX (cutbox-door.mjs). By AI agents, Wed Nov 11 2026. No macro, syntax, notation, axiom, sorry.
-/
import Derived.Test.YtpohjcacnkhnkaaDoorRows
import GoSem.ClaimSeven
namespace Go.Proofs.YtpohjcacnkhnkaaDoor
namespace Rows

/-- THE TIED CARD OF 'copyistlaw40.TermPieces'. -/
def termPiecesCard : Claim7 := { stood := { row := termPiecesRow, standIns := [], harness := (true, "41e6d167b20ebbebcb54a4da7dac9d18d7f6cce9071e6804f06bbde1733a38b9"), looks := false }, kinds := [], alts := [], laidByText := true, laidKinds := [.data, .pinned], laidTests := true, laidLooks := .later }
def TermPiecesCardSaid : Prop := Claim7.holds Tryd.pinned (.plain (OpenSpec.ofChange termPiecesSpec)) termPiecesCard

/-- THE TIED CARD OF 'copyistlaw40.TermValid'. -/
def termValidCard : Claim7 := { stood := { row := termValidRow, standIns := [], harness := (true, "41e6d167b20ebbebcb54a4da7dac9d18d7f6cce9071e6804f06bbde1733a38b9"), looks := false }, kinds := [], alts := [], laidByText := true, laidKinds := [.data, .pinned], laidTests := true, laidLooks := .later }
def TermValidCardSaid : Prop := Claim7.holds Tryd.pinned (.plain (OpenSpec.ofChange termValidSpec)) termValidCard

/-- THE SECOND FORM's CARD OF 'copyistlaw40.TermPieces'. -/
def termPiecesUptoCard : Claim7 := { stood := { row := termPiecesUptoRow, standIns := [], harness := (true, "41e6d167b20ebbebcb54a4da7dac9d18d7f6cce9071e6804f06bbde1733a38b9"), looks := false }, kinds := [], alts := [], laidByText := true, laidKinds := [.data, .pinned], laidTests := true, laidLooks := .later }
def TermPiecesUptoCardSaid : Prop := Claim7.holds Tryd.pinned (.plain (OpenSpec.upto termPiecesSpec)) termPiecesUptoCard

/-- THE SECOND FORM's CARD OF 'copyistlaw40.TermValid'. -/
def termValidUptoCard : Claim7 := { stood := { row := termValidUptoRow, standIns := [], harness := (true, "41e6d167b20ebbebcb54a4da7dac9d18d7f6cce9071e6804f06bbde1733a38b9"), looks := false }, kinds := [], alts := [], laidByText := true, laidKinds := [.data, .pinned], laidTests := true, laidLooks := .later }
def TermValidUptoCardSaid : Prop := Claim7.holds Tryd.pinned (.plain (OpenSpec.upto termValidSpec)) termValidUptoCard
end Rows
end Go.Proofs.YtpohjcacnkhnkaaDoor
