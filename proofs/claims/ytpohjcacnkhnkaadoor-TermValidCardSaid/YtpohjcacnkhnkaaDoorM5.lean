/- Parts of the proof, one behind the other. -/
import Derived.Test.YtpohjcacnkhnkaaDoorM4
import Derived.Test.YtpohjcacnkhnkaaDoorRows
set_option linter.all false

/- The chapter's example in 'lives' of the term laws: true, from a heap that holds the two tables of utf8. -/
namespace Go.Proofs.YtpohjcacnkhnkaaDoor
open Go.Ax

abbrev fstD : DataW Unit := Rows.laid_unicode_utf8_first
abbrev accD : DataW Unit := Rows.laid_unicode_utf8_acceptRanges
abbrev tabT (e1 e2 : TypeId) : List (Nat × TypeId × List Value) := [(0, e1, dc fstD), (1, e2, dc accD)]

theorem live_true (e1 e2 : TypeId) : ansT Tryd.prog (lookK []) 1000 5 [] (.bool true) (tabT e1 e2) = true := by kernel_rfl

end Go.Proofs.YtpohjcacnkhnkaaDoor
