/-
  DERIVED. GIVEN WITH THE SEED: THE CARDS: each row of YtaojjfebkldmnaaDoorRows.lean that lists a variable, with what it lists TIED to the program's text (the seventh form; the later family's looks); each row that meets fmt, with fmt's text TOLD by the authors' own Lean function (tested against real Go, not proved from fmt's source: count such statements apart). THE CARD IS WHAT COUNTS. Prove the row's statement (the work); the ties are given (YtaojjfebkldmnaaDoorTie.lean); close each card by the builder's one call (the guide's Derived/Test/ToyasCard.lean, 'card_holds'). Laid BY PROGRAM, IN A SANDBOX (cutbox-door.mjs). By AI agents, Wed Nov 11 2026. No macro, syntax, notation, axiom, sorry.
-/
import Derived.Test.YtaojjfebkldmnaaDoorRows
import GoSem.ClaimSeven
namespace Go.Proofs.YtaojjfebkldmnaaDoor
namespace Rows

/-- THE TIED CARD OF 'copyistlaw39.DiffOps'. -/
def diffOpsCard : Claim7 := { stood := { row := diffOpsRow, standIns := [], harness := (true, "d23d47481ef6ebc73d80c8739a59da347d47949bcc0e81bf1dae53e3832d836e"), looks := true }, kinds := [], alts := [], laidByText := true, laidKinds := [.data, .pinned], laidTests := true, laidLooks := .later }
def DiffOpsCardSaid : Prop := Claim7.holds Tryd.pinned (.plain (OpenSpec.ofChange diffOpsSpec)) diffOpsCard

/-- THE TIED CARD OF 'copyistlaw39.DiffBlank'. -/
def diffBlankCard : Claim7 := { stood := { row := diffBlankRow, standIns := [], harness := (true, "d23d47481ef6ebc73d80c8739a59da347d47949bcc0e81bf1dae53e3832d836e"), looks := true }, kinds := [], alts := [], laidByText := true, laidKinds := [.data, .pinned], laidTests := true, laidLooks := .later }
def DiffBlankCardSaid : Prop := Claim7.holds Tryd.pinned (.plain (OpenSpec.ofChange diffBlankSpec)) diffBlankCard

/-- THE TIED CARD OF 'copyistlaw39.DiffApply'. -/
def diffApplyCard : Claim7 := { stood := { row := diffApplyRow, standIns := [], harness := (true, "d23d47481ef6ebc73d80c8739a59da347d47949bcc0e81bf1dae53e3832d836e"), looks := true }, kinds := [], alts := [], laidByText := true, laidKinds := [.data, .pinned], laidTests := true, laidLooks := .later }
def DiffApplyCardSaid : Prop := Claim7.holds Tryd.pinned (.plain (OpenSpec.ofChange diffApplySpec)) diffApplyCard

/-- THE TIED CARD OF 'copyistlaw39.DiffKnown'. -/
def diffKnownCard : Claim7 := { stood := { row := diffKnownRow, standIns := [], harness := (true, "d23d47481ef6ebc73d80c8739a59da347d47949bcc0e81bf1dae53e3832d836e"), looks := true }, kinds := [], alts := [], laidByText := true, laidKinds := [.data, .pinned], laidTests := true, laidLooks := .later }
def DiffKnownCardSaid : Prop := Claim7.holds Tryd.pinned (.plain (OpenSpec.ofChange diffKnownSpec)) diffKnownCard

/-- THE TIED CARD OF 'copyistlaw39.DiffAnew'. -/
def diffAnewCard : Claim7 := { stood := { row := diffAnewRow, standIns := [], harness := (true, "d23d47481ef6ebc73d80c8739a59da347d47949bcc0e81bf1dae53e3832d836e"), looks := true }, kinds := [], alts := [], laidByText := true, laidKinds := [.data, .pinned], laidTests := true, laidLooks := .later }
def DiffAnewCardSaid : Prop := Claim7.holds Tryd.pinned (.plain (OpenSpec.ofChange diffAnewSpec)) diffAnewCard

/-- THE TIED CARD OF 'copyistlaw39.DiffLeast'. -/
def diffLeastCard : Claim7 := { stood := { row := diffLeastRow, standIns := [], harness := (true, "d23d47481ef6ebc73d80c8739a59da347d47949bcc0e81bf1dae53e3832d836e"), looks := true }, kinds := [], alts := [], laidByText := true, laidKinds := [.data, .pinned], laidTests := true, laidLooks := .later }
def DiffLeastCardSaid : Prop := Claim7.holds Tryd.pinned (.plain (OpenSpec.ofChange diffLeastSpec)) diffLeastCard

/-- THE TIED CARD OF 'copyistlaw39.DiffMay'. -/
def diffMayCard : Claim7 := { stood := { row := diffMayRow, standIns := [], harness := (true, "d23d47481ef6ebc73d80c8739a59da347d47949bcc0e81bf1dae53e3832d836e"), looks := true }, kinds := [], alts := [], laidByText := true, laidKinds := [.data, .pinned], laidTests := true, laidLooks := .later }
def DiffMayCardSaid : Prop := Claim7.holds Tryd.pinned (.plain (OpenSpec.ofChange diffMaySpec)) diffMayCard

/-- THE SECOND FORM's CARD OF 'copyistlaw39.DiffOps'. -/
def diffOpsUptoCard : Claim7 := { stood := { row := diffOpsUptoRow, standIns := [], harness := (true, "d23d47481ef6ebc73d80c8739a59da347d47949bcc0e81bf1dae53e3832d836e"), looks := true }, kinds := [], alts := [], laidByText := true, laidKinds := [.data, .pinned], laidTests := true, laidLooks := .later }
def DiffOpsUptoCardSaid : Prop := Claim7.holds Tryd.pinned (.plain (OpenSpec.upto diffOpsSpec)) diffOpsUptoCard

/-- THE SECOND FORM's CARD OF 'copyistlaw39.DiffBlank'. -/
def diffBlankUptoCard : Claim7 := { stood := { row := diffBlankUptoRow, standIns := [], harness := (true, "d23d47481ef6ebc73d80c8739a59da347d47949bcc0e81bf1dae53e3832d836e"), looks := true }, kinds := [], alts := [], laidByText := true, laidKinds := [.data, .pinned], laidTests := true, laidLooks := .later }
def DiffBlankUptoCardSaid : Prop := Claim7.holds Tryd.pinned (.plain (OpenSpec.upto diffBlankSpec)) diffBlankUptoCard

/-- THE SECOND FORM's CARD OF 'copyistlaw39.DiffApply'. -/
def diffApplyUptoCard : Claim7 := { stood := { row := diffApplyUptoRow, standIns := [], harness := (true, "d23d47481ef6ebc73d80c8739a59da347d47949bcc0e81bf1dae53e3832d836e"), looks := true }, kinds := [], alts := [], laidByText := true, laidKinds := [.data, .pinned], laidTests := true, laidLooks := .later }
def DiffApplyUptoCardSaid : Prop := Claim7.holds Tryd.pinned (.plain (OpenSpec.upto diffApplySpec)) diffApplyUptoCard

/-- THE SECOND FORM's CARD OF 'copyistlaw39.DiffKnown'. -/
def diffKnownUptoCard : Claim7 := { stood := { row := diffKnownUptoRow, standIns := [], harness := (true, "d23d47481ef6ebc73d80c8739a59da347d47949bcc0e81bf1dae53e3832d836e"), looks := true }, kinds := [], alts := [], laidByText := true, laidKinds := [.data, .pinned], laidTests := true, laidLooks := .later }
def DiffKnownUptoCardSaid : Prop := Claim7.holds Tryd.pinned (.plain (OpenSpec.upto diffKnownSpec)) diffKnownUptoCard

/-- THE SECOND FORM's CARD OF 'copyistlaw39.DiffAnew'. -/
def diffAnewUptoCard : Claim7 := { stood := { row := diffAnewUptoRow, standIns := [], harness := (true, "d23d47481ef6ebc73d80c8739a59da347d47949bcc0e81bf1dae53e3832d836e"), looks := true }, kinds := [], alts := [], laidByText := true, laidKinds := [.data, .pinned], laidTests := true, laidLooks := .later }
def DiffAnewUptoCardSaid : Prop := Claim7.holds Tryd.pinned (.plain (OpenSpec.upto diffAnewSpec)) diffAnewUptoCard

/-- THE SECOND FORM's CARD OF 'copyistlaw39.DiffLeast'. -/
def diffLeastUptoCard : Claim7 := { stood := { row := diffLeastUptoRow, standIns := [], harness := (true, "d23d47481ef6ebc73d80c8739a59da347d47949bcc0e81bf1dae53e3832d836e"), looks := true }, kinds := [], alts := [], laidByText := true, laidKinds := [.data, .pinned], laidTests := true, laidLooks := .later }
def DiffLeastUptoCardSaid : Prop := Claim7.holds Tryd.pinned (.plain (OpenSpec.upto diffLeastSpec)) diffLeastUptoCard

/-- THE SECOND FORM's CARD OF 'copyistlaw39.DiffMay'. -/
def diffMayUptoCard : Claim7 := { stood := { row := diffMayUptoRow, standIns := [], harness := (true, "d23d47481ef6ebc73d80c8739a59da347d47949bcc0e81bf1dae53e3832d836e"), looks := true }, kinds := [], alts := [], laidByText := true, laidKinds := [.data, .pinned], laidTests := true, laidLooks := .later }
def DiffMayUptoCardSaid : Prop := Claim7.holds Tryd.pinned (.plain (OpenSpec.upto diffMaySpec)) diffMayUptoCard
end Rows
end Go.Proofs.YtaojjfebkldmnaaDoor
