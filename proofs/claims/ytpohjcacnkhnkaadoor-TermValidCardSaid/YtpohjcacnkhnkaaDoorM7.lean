/- Parts of the proof, one behind the other. -/
import Derived.Test.YtpohjcacnkhnkaaDoorM4
set_option linter.all false

/- Products with one. -/
namespace Go.Proofs.YtpohjcacnkhnkaaDoor
open Go.Ax
set_option maxRecDepth 10000

theorem mul_all : ((List.range 301).all fun w => ansB Tryd.prog (lookK []) 100 40 [.int .u64 1, .int .u64 (w : Int)] (.tuple #[.int .u64 0, .int .u64 (w : Int)])) = true := by kernel_rfl
theorem mul_c {w : Nat} (h : w < 301) (H : AHeap) : CallS Tryd.prog 40 [.int .u64 1, .int .u64 (w : Int)] H (.ok (.tuple #[.int .u64 0, .int .u64 (w : Int)])) H :=
  callS_ans mixed (known_nil _) rfl (List.all_eq_true.1 mul_all w (List.mem_range.2 h)) H

end Go.Proofs.YtpohjcacnkhnkaaDoor
