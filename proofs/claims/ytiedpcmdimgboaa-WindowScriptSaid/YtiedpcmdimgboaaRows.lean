/-
  No cell of these rows narrows 'for every input' (looked for: loops, veiled, ifaces, maps, wideKeys, modest, calm, conditions, laid).
  DERIVED. THE GIVEN ROWS OF THIS SEAT. 6 by the template 'for every input the law returns true; each argument reads behind the call as it read before'; 0 by the template 'total and deterministic' (their statements: YtiedpcmdimgboaaTotals.lean).
  GIVEN WITH THE SEED: the statements are not yours to turn. If you find one false, say at which input.
  Laid BY PROGRAM, IN A SANDBOX (cutbox-rows.mjs): the forced cells as the released guide's own fill.sh prints them over the translation ddbae29405e559e0… (all of the seat's roots in one cut). By AI agents, Wed Nov 11 2026. No macro, syntax, notation, axiom, sorry.
-/
import Derived.Test.YtiedpcmdimgboaaChecked
import GoSem.Claim
import GoSem.ClaimJoined
import GoSem.ClaimMapViews
import Derived.JoinedTies
import Derived.KernelRfl
namespace Go.Proofs.Ytiedpcmdimgboaa
/- THE CELL 'sum', in the pinned program and in every row, IS THE sha256 OF THE DUMP (.gsa) THAT YtiedpcmdimgboaaProg.lean LOADS. Nothing in Lean hashes anything: it is a label: what it is worth is what the hold of that sum in a sandbox is worth. -/
noncomputable def Try.pinned : Pinned := { name := "ytiedpcmdimgboaa", sum := "ddbae29405e559e042230002e35d2e931116aabbacef58cb98b0ddc2339dc14c", checked := Try.checked }
namespace Rows
def none {H : Type} : Left H := { results := [], args := [] }

/-- 'copyistlaw36.WindowResizes': WHATEVER THE INPUT: true; the input reads as it did. -/
def windowResizesSpec : ChangeSpec := { name := "windowResizes", fn := fun _ => fun
  | [d1, d2, d3, d4, d5, d6] => { results := [.lit (.bool true)], args := [d1, d2, d3, d4, d5, d6] }
  | _ => none }
def windowResizesRow : OpenClaim := { program := "ytiedpcmdimgboaa", sum := "ddbae29405e559e042230002e35d2e931116aabbacef58cb98b0ddc2339dc14c", func := "copyist/copyistlaw36.WindowResizes", spec := "windowResizes", unfollowed := true, recurses := true, apart := false }
def WindowResizesSaid : Prop := windowResizesRow.holds Try.pinned (OpenSpec.ofChange windowResizesSpec)

/-- ITS FALSE NEIGHBOUR: 'it returns false'. Refute it at one input. -/
def windowResizesWrong : ChangeSpec := { name := "windowResizes", fn := fun _ => fun
  | [d1, d2, d3, d4, d5, d6] => { results := [.lit (.bool false)], args := [d1, d2, d3, d4, d5, d6] }
  | _ => none }
def WindowResizesWrongFalsely : Prop := windowResizesRow.holds Try.pinned (OpenSpec.ofChange windowResizesWrong)

/-- 'copyistlaw36.WindowSplits': WHATEVER THE INPUT: true; the input reads as it did. -/
def windowSplitsSpec : ChangeSpec := { name := "windowSplits", fn := fun _ => fun
  | [d1, d2, d3, d4, d5, d6] => { results := [.lit (.bool true)], args := [d1, d2, d3, d4, d5, d6] }
  | _ => none }
def windowSplitsRow : OpenClaim := { program := "ytiedpcmdimgboaa", sum := "ddbae29405e559e042230002e35d2e931116aabbacef58cb98b0ddc2339dc14c", func := "copyist/copyistlaw36.WindowSplits", spec := "windowSplits", unfollowed := true, recurses := true, apart := false }
def WindowSplitsSaid : Prop := windowSplitsRow.holds Try.pinned (OpenSpec.ofChange windowSplitsSpec)

/-- ITS FALSE NEIGHBOUR: 'it returns false'. Refute it at one input. -/
def windowSplitsWrong : ChangeSpec := { name := "windowSplits", fn := fun _ => fun
  | [d1, d2, d3, d4, d5, d6] => { results := [.lit (.bool false)], args := [d1, d2, d3, d4, d5, d6] }
  | _ => none }
def WindowSplitsWrongFalsely : Prop := windowSplitsRow.holds Try.pinned (OpenSpec.ofChange windowSplitsWrong)

/-- 'copyistlaw36.WindowTiles': WHATEVER THE INPUT: true; the input reads as it did. -/
def windowTilesSpec : ChangeSpec := { name := "windowTiles", fn := fun _ => fun
  | [d1, d2, d3] => { results := [.lit (.bool true)], args := [d1, d2, d3] }
  | _ => none }
def windowTilesRow : OpenClaim := { program := "ytiedpcmdimgboaa", sum := "ddbae29405e559e042230002e35d2e931116aabbacef58cb98b0ddc2339dc14c", func := "copyist/copyistlaw36.WindowTiles", spec := "windowTiles", unfollowed := true, recurses := true, apart := false }
def WindowTilesSaid : Prop := windowTilesRow.holds Try.pinned (OpenSpec.ofChange windowTilesSpec)

/-- ITS FALSE NEIGHBOUR: 'it returns false'. Refute it at one input. -/
def windowTilesWrong : ChangeSpec := { name := "windowTiles", fn := fun _ => fun
  | [d1, d2, d3] => { results := [.lit (.bool false)], args := [d1, d2, d3] }
  | _ => none }
def WindowTilesWrongFalsely : Prop := windowTilesRow.holds Try.pinned (OpenSpec.ofChange windowTilesWrong)

/-- 'copyistlaw36.WindowNames': WHATEVER THE INPUT: true; the input reads as it did. -/
def windowNamesSpec : ChangeSpec := { name := "windowNames", fn := fun _ => fun
  | [] => { results := [.lit (.bool true)], args := [] }
  | _ => none }
def windowNamesRow : OpenClaim := { program := "ytiedpcmdimgboaa", sum := "ddbae29405e559e042230002e35d2e931116aabbacef58cb98b0ddc2339dc14c", func := "copyist/copyistlaw36.WindowNames", spec := "windowNames", unfollowed := true, recurses := true, apart := false }
def WindowNamesSaid : Prop := windowNamesRow.holds Try.pinned (OpenSpec.ofChange windowNamesSpec)

/-- ITS FALSE NEIGHBOUR: 'it returns false'. Refute it at one input. -/
def windowNamesWrong : ChangeSpec := { name := "windowNames", fn := fun _ => fun
  | [] => { results := [.lit (.bool false)], args := [] }
  | _ => none }
def WindowNamesWrongFalsely : Prop := windowNamesRow.holds Try.pinned (OpenSpec.ofChange windowNamesWrong)

/-- 'copyistlaw36.WindowScript': WHATEVER THE INPUT: true; the input reads as it did. -/
def windowScriptSpec : ChangeSpec := { name := "windowScript", fn := fun _ => fun
  | [d1, d2, d3] => { results := [.lit (.bool true)], args := [d1, d2, d3] }
  | _ => none }
def windowScriptRow : OpenClaim := { program := "ytiedpcmdimgboaa", sum := "ddbae29405e559e042230002e35d2e931116aabbacef58cb98b0ddc2339dc14c", func := "copyist/copyistlaw36.WindowScript", spec := "windowScript", unfollowed := true, recurses := true, apart := false }
def WindowScriptSaid : Prop := windowScriptRow.holds Try.pinned (OpenSpec.ofChange windowScriptSpec)

/-- ITS FALSE NEIGHBOUR: 'it returns false'. Refute it at one input. -/
def windowScriptWrong : ChangeSpec := { name := "windowScript", fn := fun _ => fun
  | [d1, d2, d3] => { results := [.lit (.bool false)], args := [d1, d2, d3] }
  | _ => none }
def WindowScriptWrongFalsely : Prop := windowScriptRow.holds Try.pinned (OpenSpec.ofChange windowScriptWrong)

/-- 'copyistlaw36.WindowOrder': WHATEVER THE INPUT: true; the input reads as it did. -/
def windowOrderSpec : ChangeSpec := { name := "windowOrder", fn := fun _ => fun
  | [d1, d2, d3, d4] => { results := [.lit (.bool true)], args := [d1, d2, d3, d4] }
  | _ => none }
def windowOrderRow : OpenClaim := { program := "ytiedpcmdimgboaa", sum := "ddbae29405e559e042230002e35d2e931116aabbacef58cb98b0ddc2339dc14c", func := "copyist/copyistlaw36.WindowOrder", spec := "windowOrder", unfollowed := true, recurses := true, apart := false }
def WindowOrderSaid : Prop := windowOrderRow.holds Try.pinned (OpenSpec.ofChange windowOrderSpec)

/-- ITS FALSE NEIGHBOUR: 'it returns false'. Refute it at one input. -/
def windowOrderWrong : ChangeSpec := { name := "windowOrder", fn := fun _ => fun
  | [d1, d2, d3, d4] => { results := [.lit (.bool false)], args := [d1, d2, d3, d4] }
  | _ => none }
def WindowOrderWrongFalsely : Prop := windowOrderRow.holds Try.pinned (OpenSpec.ofChange windowOrderWrong)

/- THE SECOND FORM. 'bulk': how many values and letters a reading holds, each counted each time it is reached (what is shared counts as often as it is met; a slice's spare places count too). A statement '..UptoSaid' is the law's where the arguments, and the package variables that the reading takes, are together of bulk at most 1048576: NARROWER than '..Said'. Prove '..Said' where nothing that the law and all that it calls make is longer than what came in: it says more and counts as full. Else prove '..UptoSaid'. A law counts once. -/
mutual
def uptoBulk {H : Type} : DataW H → Nat
  | .lit (.string bytes) => bytes.length + 1
  | .lit _ => 1
  | .nil => 1
  | .ptr d => uptoBulk d + 1
  | .slice elems spare => uptoBulkAll elems + uptoBulkAll spare + 1
  | .agg parts => uptoBulkAll parts + 1
  | .iface _ d => uptoBulk d + 1
  | .map entries => uptoBulkEntries entries + 1
  | .held _ => 1
def uptoBulkAll {H : Type} : List (DataW H) → Nat
  | [] => 0
  | d :: r => uptoBulk d + uptoBulkAll r
def uptoBulkEntries {H : Type} : List (Lit × DataW H) → Nat
  | [] => 0
  | x :: r => uptoBulkEntry x + uptoBulkEntries r
def uptoBulkEntry {H : Type} : Lit × DataW H → Nat
  | (.string bytes, d) => bytes.length + uptoBulk d + 1
  | (_, d) => uptoBulk d + 1
 end
def uptoSmall : (H : Type) → List (DataW H) → Bool := fun _ ds => decide (uptoBulkAll ds ≤ 1048576)
def OpenSpec.upto (s : _root_.Go.ChangeSpec) : _root_.Go.OpenSpec := { _root_.Go.OpenSpec.ofChange s with cond := some uptoSmall }

/-- 'copyistlaw36.WindowResizes', WHERE WHAT IT READS IS OF BULK AT MOST 1048576: true; the input reads as it did. -/
def windowResizesUptoRow : OpenClaim := { program := "ytiedpcmdimgboaa", sum := "ddbae29405e559e042230002e35d2e931116aabbacef58cb98b0ddc2339dc14c", func := "copyist/copyistlaw36.WindowResizes", spec := "windowResizes", unfollowed := true, recurses := true, apart := false, narrowed := true }
def WindowResizesUptoSaid : Prop := windowResizesUptoRow.holds Try.pinned (OpenSpec.upto windowResizesSpec)

/-- 'copyistlaw36.WindowSplits', WHERE WHAT IT READS IS OF BULK AT MOST 1048576: true; the input reads as it did. -/
def windowSplitsUptoRow : OpenClaim := { program := "ytiedpcmdimgboaa", sum := "ddbae29405e559e042230002e35d2e931116aabbacef58cb98b0ddc2339dc14c", func := "copyist/copyistlaw36.WindowSplits", spec := "windowSplits", unfollowed := true, recurses := true, apart := false, narrowed := true }
def WindowSplitsUptoSaid : Prop := windowSplitsUptoRow.holds Try.pinned (OpenSpec.upto windowSplitsSpec)

/-- 'copyistlaw36.WindowTiles', WHERE WHAT IT READS IS OF BULK AT MOST 1048576: true; the input reads as it did. -/
def windowTilesUptoRow : OpenClaim := { program := "ytiedpcmdimgboaa", sum := "ddbae29405e559e042230002e35d2e931116aabbacef58cb98b0ddc2339dc14c", func := "copyist/copyistlaw36.WindowTiles", spec := "windowTiles", unfollowed := true, recurses := true, apart := false, narrowed := true }
def WindowTilesUptoSaid : Prop := windowTilesUptoRow.holds Try.pinned (OpenSpec.upto windowTilesSpec)

/-- 'copyistlaw36.WindowNames', WHERE WHAT IT READS IS OF BULK AT MOST 1048576: true; the input reads as it did. -/
def windowNamesUptoRow : OpenClaim := { program := "ytiedpcmdimgboaa", sum := "ddbae29405e559e042230002e35d2e931116aabbacef58cb98b0ddc2339dc14c", func := "copyist/copyistlaw36.WindowNames", spec := "windowNames", unfollowed := true, recurses := true, apart := false, narrowed := true }
def WindowNamesUptoSaid : Prop := windowNamesUptoRow.holds Try.pinned (OpenSpec.upto windowNamesSpec)

/-- 'copyistlaw36.WindowScript', WHERE WHAT IT READS IS OF BULK AT MOST 1048576: true; the input reads as it did. -/
def windowScriptUptoRow : OpenClaim := { program := "ytiedpcmdimgboaa", sum := "ddbae29405e559e042230002e35d2e931116aabbacef58cb98b0ddc2339dc14c", func := "copyist/copyistlaw36.WindowScript", spec := "windowScript", unfollowed := true, recurses := true, apart := false, narrowed := true }
def WindowScriptUptoSaid : Prop := windowScriptUptoRow.holds Try.pinned (OpenSpec.upto windowScriptSpec)

/-- 'copyistlaw36.WindowOrder', WHERE WHAT IT READS IS OF BULK AT MOST 1048576: true; the input reads as it did. -/
def windowOrderUptoRow : OpenClaim := { program := "ytiedpcmdimgboaa", sum := "ddbae29405e559e042230002e35d2e931116aabbacef58cb98b0ddc2339dc14c", func := "copyist/copyistlaw36.WindowOrder", spec := "windowOrder", unfollowed := true, recurses := true, apart := false, narrowed := true }
def WindowOrderUptoSaid : Prop := windowOrderUptoRow.holds Try.pinned (OpenSpec.upto windowOrderSpec)

end Rows
end Go.Proofs.Ytiedpcmdimgboaa
