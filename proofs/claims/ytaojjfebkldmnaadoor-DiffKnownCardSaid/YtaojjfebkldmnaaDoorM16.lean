/- Parts of the proof, one behind the other. -/
import Derived.Test.YtaojjfebkldmnaaDoorM15
set_option linter.all false

/- The chapter's examples in DiffKnown: true, from a heap that holds the two tables of utf8. -/
namespace Go.Proofs.YtaojjfebkldmnaaDoor
open Go.Ax

abbrev tabT (e1 e2 : TypeId) : List (Nat × TypeId × List Value) := [(0, e1, dc fstD), (1, e2, dc accD)]
theorem known_true (e1 e2 : TypeId) : ansT Tryd.prog (lookH tabE (lookK kanA) enl8) 3000 6 [] (.bool true) (tabT e1 e2) = true := by kernel_rfl

end Go.Proofs.YtaojjfebkldmnaaDoor
