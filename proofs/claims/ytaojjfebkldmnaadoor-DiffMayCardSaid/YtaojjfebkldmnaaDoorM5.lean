/- Parts of the proof, one behind the other. -/
import Derived.Test.YtaojjfebkldmnaaDoorM4
import Derived.Shelf.Bits.Mul64
set_option linter.all false
set_option maxRecDepth 10000
open Option renaming bind_eq_some_iff → oZ1, bind_eq_bind → oZ2, bind_some → oZ3, map_eq_some_iff → oZ4, map_some → oZ5

/- Products: the kit's contract of bits.Mul64, for the abstract heap. -/
namespace Go.Ax
theorem w_condK {P : Program} {ro : Option Nat} {b : Bool} {x y : Code} {Q : Exit → AAct → AHeap → Prop} {a : AAct} {H : AHeap} : wpA P ro (.cond (.const (.bool b)) x y) Q a H = condC P ro x y Q a H (.bool b) := by
 simp only [wpA, condC, aeval, af, if_true]
end Go.Ax
namespace Go.Proofs.YtaojjfebkldmnaaDoor
open Go.Ax
set_option maxRecDepth 100000
def rhoM : Go.Shelf.Ren := ⟨fun n => if n = 264 then 104 else 0, fun n => if n = 46 then 118 else if n = 53 then 135 else n, fun n => n⟩
theorem laysM : Go.Proofs.Lays.n264 Tryd.prog rhoM := by
 constructor
 all_goals first
  | exact mixed
  | kernel_rfl
  | (intro w; kernel_rfl)
theorem mul64_c (H : AHeap) (w : Nat) (hw : w < 1000000) : Pure 104 [.int .u64 1, .int .u64 (w : Int)] H (.tuple #[.int .u64 0, .int .u64 (w : Int)]) := by
 intro ρ W r hsc F n R hF hR
 have hc := Go.Proofs.Any.bits_Mul64 laysM 1 w (by omega) (by omega) W
 have h0 : 1 * w / 18446744073709551616 = 0 := by omega
 have h1 : 1 * w % 18446744073709551616 = w := by omega
 rw [h0, h1] at hc
 have e1 : [Value.int .u64 1, Value.int .u64 (w : Int)].map ρ.val = [Value.int .u64 1, Value.int .u64 (w : Int)] := map_af ρ _ (fun x hx => by simp only [List.mem_cons, List.not_mem_nil, or_false] at hx; rcases hx with rfl | rfl <;> rfl)
 rw [e1]
 refine (hF.calls hc).mono ?_
 rintro e w' ⟨rfl, rfl⟩
 have := hR ρ w' (St.refl r) rfl
 rwa [val_af ρ _ rfl] at this
theorem mul_c (H : AHeap) (w : Nat) (hw : w < 1000000) : Pure 87 [.int .u64 1, .int .u64 (w : Int)] H (.tuple #[.int .u64 0, .int .u64 (w : Int)]) := by
 refine callS_fn mixed Tryd.func87 rfl Tryd.ntmps87 (Nat.le_of_ble_eq_true rfl) fun wf hsc => ?_
 simp (maxDischargeDepth := 6) only [w_condK, ruW, putL, Nat.reduceLeDiff, xF, ruU, entryE, Nat.reduceLT, Nat.reduceAdd, Nat.reduceMul, Nat.reduceEqDiff]
 refine (mul64_c (ext H []) w hw).to ?_
 simp (maxDischargeDepth := 6) only [Tryd.results87, ruW, putL, Nat.reduceLeDiff, xF, ruU, entryE, Nat.reduceLT, Nat.reduceAdd, Nat.reduceMul, Nat.reduceEqDiff]
 exact Fin.pureE rfl rfl
end Go.Proofs.YtaojjfebkldmnaaDoor
