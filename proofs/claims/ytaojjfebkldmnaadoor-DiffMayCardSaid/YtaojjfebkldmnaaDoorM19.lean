/- Parts of the proof, one behind the other. -/
import Derived.Test.YtaojjfebkldmnaaDoorM18
set_option linter.all false
set_option maxRecDepth 10000
open Option renaming bind_eq_some_iff → oZ1, bind_eq_bind → oZ2, bind_some → oZ3, map_eq_some_iff → oZ4, map_some → oZ5

/- The chapter's examples in DiffKnown: true, from a heap that holds the two tables of utf8. -/
namespace Go.Proofs.YtaojjfebkldmnaaDoor
open Go.Ax
abbrev tabT (e1 e2 : TypeId) : List (Nat × TypeId × List Value) := [(0, e1, dc fstD), (1, e2, dc accD)]
theorem known_true (e1 e2 : TypeId) : ansT Tryd.prog (lookH tabE (lookK kanA) enl8) 3000 6 [] (.bool true) (tabT e1 e2) = true := by kernel_rfl
end Go.Proofs.YtaojjfebkldmnaaDoor
