/-
  DERIVED. GIVEN WITH THE SEED: THE CARDS: each row of YtfpckllenkifkaaDoorRows.lean that lists a variable, with what it lists TIED to the program's text (the seventh form; the later family's looks); each row that meets fmt, with fmt's text TOLD by the authors' own Lean function (tested against real Go, not proved from fmt's source: count such statements apart). THE CARD IS WHAT COUNTS. Prove the row's statement (the work); the ties are given (YtfpckllenkifkaaDoorTie.lean); close each card by the builder's one call (the guide's Derived/Test/ToyasCard.lean, 'card_holds'). Laid BY PROGRAM, IN A SANDBOX (cutbox-door.mjs). By AI agents, Wed Nov 11 2026. No macro, syntax, notation, axiom, sorry.
-/
import Derived.Test.YtfpckllenkifkaaDoorRows
import GoSem.ClaimSeven
namespace Go.Proofs.YtfpckllenkifkaaDoor
namespace Rows

/-- THE TIED CARD OF 'copyistlaw38.FrameDraw'. -/
def frameDrawCard : Claim7 := { stood := { row := frameDrawRow, standIns := [], harness := (true, "c412a8a6c49cd6b2fe09513aac06e59844865c9657dc0ece8d7212a31978a57b"), looks := false }, kinds := [], alts := [], laidByText := true, laidKinds := [.data, .data, .data, .data, .pinned], laidTests := true, laidLooks := .later }
def FrameDrawCardSaid : Prop := Claim7.holds Tryd.pinned (.plain (OpenSpec.ofChange frameDrawSpec)) frameDrawCard

/-- THE TIED CARD OF 'copyistlaw38.FrameFit'. -/
def frameFitCard : Claim7 := { stood := { row := frameFitRow, standIns := [], harness := (true, "c412a8a6c49cd6b2fe09513aac06e59844865c9657dc0ece8d7212a31978a57b"), looks := false }, kinds := [], alts := [], laidByText := true, laidKinds := [.data, .data, .data, .data, .pinned], laidTests := true, laidLooks := .later }
def FrameFitCardSaid : Prop := Claim7.holds Tryd.pinned (.plain (OpenSpec.ofChange frameFitSpec)) frameFitCard

/-- THE TIED CARD OF 'copyistlaw38.FrameKnown'. -/
def frameKnownCard : Claim7 := { stood := { row := frameKnownRow, standIns := [], harness := (true, "c412a8a6c49cd6b2fe09513aac06e59844865c9657dc0ece8d7212a31978a57b"), looks := false }, kinds := [], alts := [], laidByText := true, laidKinds := [.data, .data, .data, .data, .pinned], laidTests := true, laidLooks := .later }
def FrameKnownCardSaid : Prop := Claim7.holds Tryd.pinned (.plain (OpenSpec.ofChange frameKnownSpec)) frameKnownCard

/-- THE SECOND FORM's CARD OF 'copyistlaw38.FrameDraw'. -/
def frameDrawUptoCard : Claim7 := { stood := { row := frameDrawUptoRow, standIns := [], harness := (true, "c412a8a6c49cd6b2fe09513aac06e59844865c9657dc0ece8d7212a31978a57b"), looks := false }, kinds := [], alts := [], laidByText := true, laidKinds := [.data, .data, .data, .data, .pinned], laidTests := true, laidLooks := .later }
def FrameDrawUptoCardSaid : Prop := Claim7.holds Tryd.pinned (.plain (OpenSpec.upto frameDrawSpec)) frameDrawUptoCard

/-- THE SECOND FORM's CARD OF 'copyistlaw38.FrameFit'. -/
def frameFitUptoCard : Claim7 := { stood := { row := frameFitUptoRow, standIns := [], harness := (true, "c412a8a6c49cd6b2fe09513aac06e59844865c9657dc0ece8d7212a31978a57b"), looks := false }, kinds := [], alts := [], laidByText := true, laidKinds := [.data, .data, .data, .data, .pinned], laidTests := true, laidLooks := .later }
def FrameFitUptoCardSaid : Prop := Claim7.holds Tryd.pinned (.plain (OpenSpec.upto frameFitSpec)) frameFitUptoCard

/-- THE SECOND FORM's CARD OF 'copyistlaw38.FrameKnown'. -/
def frameKnownUptoCard : Claim7 := { stood := { row := frameKnownUptoRow, standIns := [], harness := (true, "c412a8a6c49cd6b2fe09513aac06e59844865c9657dc0ece8d7212a31978a57b"), looks := false }, kinds := [], alts := [], laidByText := true, laidKinds := [.data, .data, .data, .data, .pinned], laidTests := true, laidLooks := .later }
def FrameKnownUptoCardSaid : Prop := Claim7.holds Tryd.pinned (.plain (OpenSpec.upto frameKnownSpec)) frameKnownUptoCard
end Rows
end Go.Proofs.YtfpckllenkifkaaDoor
