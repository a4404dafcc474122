/- The executor at work: a call that it walks to 'true' answers true, and keeps all that was. -/
import Derived.Test.YtiedpcmdimgboaaAxS
import Derived.Below
namespace Go.Ax

/-- nothing is renamed -/
def Ren.same : Ren := ⟨fun n => n, fun _ => 0, fun _ => 0⟩

theorem rel_none (P : Program) (w : World) : Rel P Ren.same (AHeap.none P.globals.size) w :=
  ⟨Nat.le_refl _, ⟨Nat.le_refl _, fun _ _ => ⟨rfl, rfl⟩⟩, fun m _ h => absurd (none_get _ m) h, fun n o h => (by rw [none_get] at h; cases h), fun n o h => (by rw [none_get] at h; cases h)⟩

theorem wide_wide : WideF Fence.wide := ⟨fun _ => trivial, rfl⟩

theorem call_calls {P : Program} (hmix : P.follows .mixedOrders = true) {fuel : Nat} {f : FuncId} {args : List Value} {v : Value} {H H1 : AHeap} {ρ : Ren} {w : World} (r : Rel P ρ H w) (h : call P fuel f args H = some (.ok v, H1)) :
    Calls P f (args.map ρ.val).toArray w (fun e w' => ∃ ρ1, e = .returned (ρ1.val v) ∧ St P ρ H w ρ1 H1 w') :=
  callsIn_wide (n := 0).1 (callF_run (exec_sound hmix fuel).1 r h wide_wide (fun ρ1 w1 s => ⟨ρ1, rfl, s⟩))

theorem true_calls {P : Program} (hmix : P.follows .mixedOrders = true) {fuel : Nat} {f : FuncId} (h : trueB P fuel f = true) (w : World) :
    Calls P f #[] w (fun e w' => e = .returned (.bool true) ∧ RowKit.Below w.heap.size w w') := by
  unfold trueB at h
  split at h
  · rename_i H1 hc
    refine (call_calls hmix (rel_none P w) hc).mono ?_
    rintro e w' ⟨ρ1, rfl, s⟩
    refine ⟨by rw [Ren.val], s.os, s.tape, s.output, s.size, fun b hb => s.old b hb fun n _ _ hg => absurd (none_get _ n) hg⟩
  · cases h

end Go.Ax
