/-
  NARROWER THAN 'FOR EVERY INPUT', by the rows' own cells (each row's printed sentence says how): DiffOps: laid · DiffBlank: laid · DiffApply: laid · DiffKnown: laid · DiffAnew: laid · DiffLeast: laid · DiffMay: laid.
  DERIVED. THE GIVEN ROWS OF THIS SEAT. 7 by the template 'for every input the law returns true; each argument reads behind the call as it read before'; 0 by the template 'total and deterministic' (their statements: YtaojjfebkldmnaaDoorTotals.lean).
  GIVEN WITH THE SEED: the statements are not yours to turn. If you find one false, say at which input.
  Laid BY PROGRAM, IN A SANDBOX (cutbox-rows.mjs): the forced cells as the released guide's own fill.sh prints them over the translation 3d88db04528c86e5… (all of the seat's roots in one cut). By AI agents, Wed Nov 11 2026. No macro, syntax, notation, axiom, sorry.
-/
import Derived.Test.YtaojjfebkldmnaaDoorChecked
import GoSem.PinnedTables
import GoSem.Claim
import GoSem.ClaimJoined
import GoSem.ClaimMapViews
import Derived.JoinedTies
import Derived.KernelRfl
namespace Go.Proofs.YtaojjfebkldmnaaDoor
/- THE CELL 'sum', in the pinned program and in every row, IS THE sha256 OF THE DUMP (.gsa) THAT YtaojjfebkldmnaaDoorProg.lean LOADS. Nothing in Lean hashes anything: it is a label: what it is worth is what the hold of that sum in a sandbox is worth. -/
noncomputable def Tryd.pinned : Pinned := { name := "ytaojjfebkldmnaadoor", sum := "3d88db04528c86e5731d611cf3fc3081ebab0bff4cc07859c736b8a7e57ddec1", checked := Tryd.checked }
namespace Rows
def none {H : Type} : Left H := { results := [], args := [] }

/- WHAT THE LISTED PACKAGE-LEVEL VARIABLES READ AS WHEN THE CALL BEGINS. Each datum BY PROGRAM (the guide's laid-datum.mjs) off the statement by which the dump's own 'gosem.cut.vars' lays the variable. In a bare row this is a premise. The card (YtaojjfebkldmnaaDoorCards.lean) ties it to the program's text. -/
def laid_unicode_utf8_acceptRanges {H : Type} : DataW H := .agg [.agg [.lit (.int .u8 128), .lit (.int .u8 191)], .agg [.lit (.int .u8 160), .lit (.int .u8 191)], .agg [.lit (.int .u8 128), .lit (.int .u8 159)], .agg [.lit (.int .u8 144), .lit (.int .u8 191)], .agg [.lit (.int .u8 128), .lit (.int .u8 143)], .agg [.lit (.int .u8 0), .lit (.int .u8 0)], .agg [.lit (.int .u8 0), .lit (.int .u8 0)], .agg [.lit (.int .u8 0), .lit (.int .u8 0)], .agg [.lit (.int .u8 0), .lit (.int .u8 0)], .agg [.lit (.int .u8 0), .lit (.int .u8 0)], .agg [.lit (.int .u8 0), .lit (.int .u8 0)], .agg [.lit (.int .u8 0), .lit (.int .u8 0)], .agg [.lit (.int .u8 0), .lit (.int .u8 0)], .agg [.lit (.int .u8 0), .lit (.int .u8 0)], .agg [.lit (.int .u8 0), .lit (.int .u8 0)], .agg [.lit (.int .u8 0), .lit (.int .u8 0)]]
/-- One of Go's own tables, pinned by name: the form's constant. -/
def laid_unicode_utf8_first : DataW Unit := Go.Pinned.utf8First

/-- 'copyistlaw39.DiffOps': WHATEVER THE INPUT: true; the input reads as it did. -/
def diffOpsSpec : ChangeSpec := { name := "diffOps", fn := fun _ => fun
  | [d1, d2] => { results := [.lit (.bool true)], args := [d1, d2] }
  | _ => none }
def diffOpsRow : OpenClaim := { program := "ytaojjfebkldmnaadoor", sum := "3d88db04528c86e5731d611cf3fc3081ebab0bff4cc07859c736b8a7e57ddec1", func := "copyist/copyistlaw39.DiffOps", spec := "diffOps", unfollowed := true, recurses := true, named := ["unicode/utf8.first", "unicode/utf8.acceptRanges"], apart := false, laid := [("unicode/utf8.acceptRanges", laid_unicode_utf8_acceptRanges), ("unicode/utf8.first", laid_unicode_utf8_first)] }
def DiffOpsSaid : Prop := diffOpsRow.holds Tryd.pinned (OpenSpec.ofChange diffOpsSpec)

/-- ITS FALSE NEIGHBOUR: 'it returns false'. Refute it at one input. -/
def diffOpsWrong : ChangeSpec := { name := "diffOps", fn := fun _ => fun
  | [d1, d2] => { results := [.lit (.bool false)], args := [d1, d2] }
  | _ => none }
def DiffOpsWrongFalsely : Prop := diffOpsRow.holds Tryd.pinned (OpenSpec.ofChange diffOpsWrong)

/-- 'copyistlaw39.DiffBlank': WHATEVER THE INPUT: true; the input reads as it did. -/
def diffBlankSpec : ChangeSpec := { name := "diffBlank", fn := fun _ => fun
  | [d1, d2] => { results := [.lit (.bool true)], args := [d1, d2] }
  | _ => none }
def diffBlankRow : OpenClaim := { program := "ytaojjfebkldmnaadoor", sum := "3d88db04528c86e5731d611cf3fc3081ebab0bff4cc07859c736b8a7e57ddec1", func := "copyist/copyistlaw39.DiffBlank", spec := "diffBlank", unfollowed := true, recurses := true, named := ["unicode/utf8.first", "unicode/utf8.acceptRanges"], apart := false, laid := [("unicode/utf8.acceptRanges", laid_unicode_utf8_acceptRanges), ("unicode/utf8.first", laid_unicode_utf8_first)] }
def DiffBlankSaid : Prop := diffBlankRow.holds Tryd.pinned (OpenSpec.ofChange diffBlankSpec)

/-- ITS FALSE NEIGHBOUR: 'it returns false'. Refute it at one input. -/
def diffBlankWrong : ChangeSpec := { name := "diffBlank", fn := fun _ => fun
  | [d1, d2] => { results := [.lit (.bool false)], args := [d1, d2] }
  | _ => none }
def DiffBlankWrongFalsely : Prop := diffBlankRow.holds Tryd.pinned (OpenSpec.ofChange diffBlankWrong)

/-- 'copyistlaw39.DiffApply': WHATEVER THE INPUT: true; the input reads as it did. -/
def diffApplySpec : ChangeSpec := { name := "diffApply", fn := fun _ => fun
  | [d1, d2] => { results := [.lit (.bool true)], args := [d1, d2] }
  | _ => none }
def diffApplyRow : OpenClaim := { program := "ytaojjfebkldmnaadoor", sum := "3d88db04528c86e5731d611cf3fc3081ebab0bff4cc07859c736b8a7e57ddec1", func := "copyist/copyistlaw39.DiffApply", spec := "diffApply", unfollowed := true, recurses := true, named := ["unicode/utf8.first", "unicode/utf8.acceptRanges"], apart := false, laid := [("unicode/utf8.acceptRanges", laid_unicode_utf8_acceptRanges), ("unicode/utf8.first", laid_unicode_utf8_first)] }
def DiffApplySaid : Prop := diffApplyRow.holds Tryd.pinned (OpenSpec.ofChange diffApplySpec)

/-- ITS FALSE NEIGHBOUR: 'it returns false'. Refute it at one input. -/
def diffApplyWrong : ChangeSpec := { name := "diffApply", fn := fun _ => fun
  | [d1, d2] => { results := [.lit (.bool false)], args := [d1, d2] }
  | _ => none }
def DiffApplyWrongFalsely : Prop := diffApplyRow.holds Tryd.pinned (OpenSpec.ofChange diffApplyWrong)

/-- 'copyistlaw39.DiffKnown': WHATEVER THE INPUT: true; the input reads as it did. -/
def diffKnownSpec : ChangeSpec := { name := "diffKnown", fn := fun _ => fun
  | [] => { results := [.lit (.bool true)], args := [] }
  | _ => none }
def diffKnownRow : OpenClaim := { program := "ytaojjfebkldmnaadoor", sum := "3d88db04528c86e5731d611cf3fc3081ebab0bff4cc07859c736b8a7e57ddec1", func := "copyist/copyistlaw39.DiffKnown", spec := "diffKnown", unfollowed := true, recurses := true, named := ["unicode/utf8.first", "unicode/utf8.acceptRanges"], apart := false, laid := [("unicode/utf8.acceptRanges", laid_unicode_utf8_acceptRanges), ("unicode/utf8.first", laid_unicode_utf8_first)] }
def DiffKnownSaid : Prop := diffKnownRow.holds Tryd.pinned (OpenSpec.ofChange diffKnownSpec)

/-- ITS FALSE NEIGHBOUR: 'it returns false'. Refute it at one input. -/
def diffKnownWrong : ChangeSpec := { name := "diffKnown", fn := fun _ => fun
  | [] => { results := [.lit (.bool false)], args := [] }
  | _ => none }
def DiffKnownWrongFalsely : Prop := diffKnownRow.holds Tryd.pinned (OpenSpec.ofChange diffKnownWrong)

/-- 'copyistlaw39.DiffAnew': WHATEVER THE INPUT: true; the input reads as it did. -/
def diffAnewSpec : ChangeSpec := { name := "diffAnew", fn := fun _ => fun
  | [d1, d2] => { results := [.lit (.bool true)], args := [d1, d2] }
  | _ => none }
def diffAnewRow : OpenClaim := { program := "ytaojjfebkldmnaadoor", sum := "3d88db04528c86e5731d611cf3fc3081ebab0bff4cc07859c736b8a7e57ddec1", func := "copyist/copyistlaw39.DiffAnew", spec := "diffAnew", unfollowed := true, recurses := true, named := ["unicode/utf8.first", "unicode/utf8.acceptRanges"], apart := false, laid := [("unicode/utf8.acceptRanges", laid_unicode_utf8_acceptRanges), ("unicode/utf8.first", laid_unicode_utf8_first)] }
def DiffAnewSaid : Prop := diffAnewRow.holds Tryd.pinned (OpenSpec.ofChange diffAnewSpec)

/-- ITS FALSE NEIGHBOUR: 'it returns false'. Refute it at one input. -/
def diffAnewWrong : ChangeSpec := { name := "diffAnew", fn := fun _ => fun
  | [d1, d2] => { results := [.lit (.bool false)], args := [d1, d2] }
  | _ => none }
def DiffAnewWrongFalsely : Prop := diffAnewRow.holds Tryd.pinned (OpenSpec.ofChange diffAnewWrong)

/-- 'copyistlaw39.DiffLeast': WHATEVER THE INPUT: true; the input reads as it did. -/
def diffLeastSpec : ChangeSpec := { name := "diffLeast", fn := fun _ => fun
  | [d1, d2] => { results := [.lit (.bool true)], args := [d1, d2] }
  | _ => none }
def diffLeastRow : OpenClaim := { program := "ytaojjfebkldmnaadoor", sum := "3d88db04528c86e5731d611cf3fc3081ebab0bff4cc07859c736b8a7e57ddec1", func := "copyist/copyistlaw39.DiffLeast", spec := "diffLeast", unfollowed := true, recurses := true, named := ["unicode/utf8.first", "unicode/utf8.acceptRanges"], apart := false, laid := [("unicode/utf8.acceptRanges", laid_unicode_utf8_acceptRanges), ("unicode/utf8.first", laid_unicode_utf8_first)] }
def DiffLeastSaid : Prop := diffLeastRow.holds Tryd.pinned (OpenSpec.ofChange diffLeastSpec)

/-- ITS FALSE NEIGHBOUR: 'it returns false'. Refute it at one input. -/
def diffLeastWrong : ChangeSpec := { name := "diffLeast", fn := fun _ => fun
  | [d1, d2] => { results := [.lit (.bool false)], args := [d1, d2] }
  | _ => none }
def DiffLeastWrongFalsely : Prop := diffLeastRow.holds Tryd.pinned (OpenSpec.ofChange diffLeastWrong)

/-- 'copyistlaw39.DiffMay': WHATEVER THE INPUT: true; the input reads as it did. -/
def diffMaySpec : ChangeSpec := { name := "diffMay", fn := fun _ => fun
  | [d1, d2, d3, d4, d5, d6] => { results := [.lit (.bool true)], args := [d1, d2, d3, d4, d5, d6] }
  | _ => none }
def diffMayRow : OpenClaim := { program := "ytaojjfebkldmnaadoor", sum := "3d88db04528c86e5731d611cf3fc3081ebab0bff4cc07859c736b8a7e57ddec1", func := "copyist/copyistlaw39.DiffMay", spec := "diffMay", unfollowed := true, recurses := true, named := ["unicode/utf8.first", "unicode/utf8.acceptRanges"], apart := false, laid := [("unicode/utf8.acceptRanges", laid_unicode_utf8_acceptRanges), ("unicode/utf8.first", laid_unicode_utf8_first)] }
def DiffMaySaid : Prop := diffMayRow.holds Tryd.pinned (OpenSpec.ofChange diffMaySpec)

/-- ITS FALSE NEIGHBOUR: 'it returns false'. Refute it at one input. -/
def diffMayWrong : ChangeSpec := { name := "diffMay", fn := fun _ => fun
  | [d1, d2, d3, d4, d5, d6] => { results := [.lit (.bool false)], args := [d1, d2, d3, d4, d5, d6] }
  | _ => none }
def DiffMayWrongFalsely : Prop := diffMayRow.holds Tryd.pinned (OpenSpec.ofChange diffMayWrong)

/- THE SECOND FORM. 'bulk': how many values and letters a reading holds, each counted each time it is reached (what is shared counts as often as it is met; a slice's spare places count too). A statement '..UptoSaid' is the law's where the arguments, and the package variables that the reading takes, are together of bulk at most 1048576: NARROWER than '..Said'. Prove '..Said' where nothing that the law and all that it calls make is longer than what came in: it says more and counts as full. Else prove '..UptoSaid'. A law counts once. -/
mutual
def uptoBulk {H : Type} : DataW H → Nat
  | .lit (.string bytes) => bytes.length + 1
  | .lit _ => 1
  | .nil => 1
  | .ptr d => uptoBulk d + 1
  | .slice elems spare => uptoBulkAll elems + uptoBulkAll spare + 1
  | .agg parts => uptoBulkAll parts + 1
  | .iface _ d => uptoBulk d + 1
  | .map entries => uptoBulkEntries entries + 1
  | .held _ => 1
def uptoBulkAll {H : Type} : List (DataW H) → Nat
  | [] => 0
  | d :: r => uptoBulk d + uptoBulkAll r
def uptoBulkEntries {H : Type} : List (Lit × DataW H) → Nat
  | [] => 0
  | x :: r => uptoBulkEntry x + uptoBulkEntries r
def uptoBulkEntry {H : Type} : Lit × DataW H → Nat
  | (.string bytes, d) => bytes.length + uptoBulk d + 1
  | (_, d) => uptoBulk d + 1
 end
def uptoSmall : (H : Type) → List (DataW H) → Bool := fun _ ds => decide (uptoBulkAll ds ≤ 1048576)
def OpenSpec.upto (s : _root_.Go.ChangeSpec) : _root_.Go.OpenSpec := { _root_.Go.OpenSpec.ofChange s with cond := some uptoSmall }

/-- 'copyistlaw39.DiffOps', WHERE WHAT IT READS IS OF BULK AT MOST 1048576: true; the input reads as it did. -/
def diffOpsUptoRow : OpenClaim := { program := "ytaojjfebkldmnaadoor", sum := "3d88db04528c86e5731d611cf3fc3081ebab0bff4cc07859c736b8a7e57ddec1", func := "copyist/copyistlaw39.DiffOps", spec := "diffOps", unfollowed := true, recurses := true, named := ["unicode/utf8.first", "unicode/utf8.acceptRanges"], apart := false, laid := [("unicode/utf8.acceptRanges", laid_unicode_utf8_acceptRanges), ("unicode/utf8.first", laid_unicode_utf8_first)], narrowed := true }
def DiffOpsUptoSaid : Prop := diffOpsUptoRow.holds Tryd.pinned (OpenSpec.upto diffOpsSpec)

/-- 'copyistlaw39.DiffBlank', WHERE WHAT IT READS IS OF BULK AT MOST 1048576: true; the input reads as it did. -/
def diffBlankUptoRow : OpenClaim := { program := "ytaojjfebkldmnaadoor", sum := "3d88db04528c86e5731d611cf3fc3081ebab0bff4cc07859c736b8a7e57ddec1", func := "copyist/copyistlaw39.DiffBlank", spec := "diffBlank", unfollowed := true, recurses := true, named := ["unicode/utf8.first", "unicode/utf8.acceptRanges"], apart := false, laid := [("unicode/utf8.acceptRanges", laid_unicode_utf8_acceptRanges), ("unicode/utf8.first", laid_unicode_utf8_first)], narrowed := true }
def DiffBlankUptoSaid : Prop := diffBlankUptoRow.holds Tryd.pinned (OpenSpec.upto diffBlankSpec)

/-- 'copyistlaw39.DiffApply', WHERE WHAT IT READS IS OF BULK AT MOST 1048576: true; the input reads as it did. -/
def diffApplyUptoRow : OpenClaim := { program := "ytaojjfebkldmnaadoor", sum := "3d88db04528c86e5731d611cf3fc3081ebab0bff4cc07859c736b8a7e57ddec1", func := "copyist/copyistlaw39.DiffApply", spec := "diffApply", unfollowed := true, recurses := true, named := ["unicode/utf8.first", "unicode/utf8.acceptRanges"], apart := false, laid := [("unicode/utf8.acceptRanges", laid_unicode_utf8_acceptRanges), ("unicode/utf8.first", laid_unicode_utf8_first)], narrowed := true }
def DiffApplyUptoSaid : Prop := diffApplyUptoRow.holds Tryd.pinned (OpenSpec.upto diffApplySpec)

/-- 'copyistlaw39.DiffKnown', WHERE WHAT IT READS IS OF BULK AT MOST 1048576: true; the input reads as it did. -/
def diffKnownUptoRow : OpenClaim := { program := "ytaojjfebkldmnaadoor", sum := "3d88db04528c86e5731d611cf3fc3081ebab0bff4cc07859c736b8a7e57ddec1", func := "copyist/copyistlaw39.DiffKnown", spec := "diffKnown", unfollowed := true, recurses := true, named := ["unicode/utf8.first", "unicode/utf8.acceptRanges"], apart := false, laid := [("unicode/utf8.acceptRanges", laid_unicode_utf8_acceptRanges), ("unicode/utf8.first", laid_unicode_utf8_first)], narrowed := true }
def DiffKnownUptoSaid : Prop := diffKnownUptoRow.holds Tryd.pinned (OpenSpec.upto diffKnownSpec)

/-- 'copyistlaw39.DiffAnew', WHERE WHAT IT READS IS OF BULK AT MOST 1048576: true; the input reads as it did. -/
def diffAnewUptoRow : OpenClaim := { program := "ytaojjfebkldmnaadoor", sum := "3d88db04528c86e5731d611cf3fc3081ebab0bff4cc07859c736b8a7e57ddec1", func := "copyist/copyistlaw39.DiffAnew", spec := "diffAnew", unfollowed := true, recurses := true, named := ["unicode/utf8.first", "unicode/utf8.acceptRanges"], apart := false, laid := [("unicode/utf8.acceptRanges", laid_unicode_utf8_acceptRanges), ("unicode/utf8.first", laid_unicode_utf8_first)], narrowed := true }
def DiffAnewUptoSaid : Prop := diffAnewUptoRow.holds Tryd.pinned (OpenSpec.upto diffAnewSpec)

/-- 'copyistlaw39.DiffLeast', WHERE WHAT IT READS IS OF BULK AT MOST 1048576: true; the input reads as it did. -/
def diffLeastUptoRow : OpenClaim := { program := "ytaojjfebkldmnaadoor", sum := "3d88db04528c86e5731d611cf3fc3081ebab0bff4cc07859c736b8a7e57ddec1", func := "copyist/copyistlaw39.DiffLeast", spec := "diffLeast", unfollowed := true, recurses := true, named := ["unicode/utf8.first", "unicode/utf8.acceptRanges"], apart := false, laid := [("unicode/utf8.acceptRanges", laid_unicode_utf8_acceptRanges), ("unicode/utf8.first", laid_unicode_utf8_first)], narrowed := true }
def DiffLeastUptoSaid : Prop := diffLeastUptoRow.holds Tryd.pinned (OpenSpec.upto diffLeastSpec)

/-- 'copyistlaw39.DiffMay', WHERE WHAT IT READS IS OF BULK AT MOST 1048576: true; the input reads as it did. -/
def diffMayUptoRow : OpenClaim := { program := "ytaojjfebkldmnaadoor", sum := "3d88db04528c86e5731d611cf3fc3081ebab0bff4cc07859c736b8a7e57ddec1", func := "copyist/copyistlaw39.DiffMay", spec := "diffMay", unfollowed := true, recurses := true, named := ["unicode/utf8.first", "unicode/utf8.acceptRanges"], apart := false, laid := [("unicode/utf8.acceptRanges", laid_unicode_utf8_acceptRanges), ("unicode/utf8.first", laid_unicode_utf8_first)], narrowed := true }
def DiffMayUptoSaid : Prop := diffMayUptoRow.holds Tryd.pinned (OpenSpec.upto diffMaySpec)

end Rows
end Go.Proofs.YtaojjfebkldmnaaDoor
