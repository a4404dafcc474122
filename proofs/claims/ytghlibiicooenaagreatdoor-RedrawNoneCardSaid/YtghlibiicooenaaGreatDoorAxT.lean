/- The executor at work: a call that it walks to 'true' answers true, and keeps all that was. -/
import Derived.Test.YtghlibiicooenaaGreatDoorAxS
import Derived.Below
namespace Go.Ax

/-- nothing is renamed -/
def Ren.same : Ren := ⟨fun n => n, fun _ => 0, fun _ => 0, fun _ => .nilIface, fun _ => rfl⟩

theorem rel_none (P : Program) (w : World) : Rel P Ren.same (AHeap.none P.globals.size) w :=
  ⟨Nat.le_refl _, ⟨Nat.le_refl _, fun _ _ => ⟨rfl, rfl⟩⟩, fun m _ h => absurd (none_get _ m) h, fun n o h => (by rw [none_get] at h; cases h), fun n o h => (by rw [none_get] at h; cases h)⟩

theorem wide_wide : WideF Fence.wide := ⟨fun _ => trivial, rfl⟩

theorem call_in {P : Program} (hmix : P.follows .mixedOrders = true) {K : FuncId → List Value → Option Value} (hK : Known P K) {fuel : Nat} {f : FuncId} {args : List Value} {v : Value} {H H1 : AHeap} {ρ : Ren} {w : World} (r : Rel P ρ H w)
    (h : call P K fuel f args H = some (.ok v, H1)) {F : Fence} {n : Nat} (hF : WideF F) : CallsIn F n P f (args.map ρ.val).toArray w (fun e w' => ∃ ρ1, e = .returned (ρ1.val v) ∧ St P ρ H w ρ1 H1 w') :=
  enterF_run (exec_sound hmix hK fuel).1 r h hF (fun ρ1 w1 s => ⟨ρ1, rfl, s⟩)

theorem sameV_eq {u v : Value} (h : sameV u v = true) : u = v ∧ af v = true := by
  unfold sameV at h
  split at h
  · simp only [Bool.and_eq_true, decide_eq_true_eq] at h
    obtain ⟨rfl, rfl⟩ := h
    exact ⟨rfl, rfl⟩
  · simp only [beq_iff_eq] at h
    subst h
    exact ⟨rfl, rfl⟩
  · cases h

theorem sameL_eq : ∀ {u v : List Value}, sameL u v = true → u = v ∧ ∀ x ∈ v, af x = true
  | [], [], _ => ⟨rfl, fun _ h => by cases h⟩
  | a :: r, b :: q, h => by
    simp only [sameL, Bool.and_eq_true] at h
    obtain ⟨h1, h2⟩ := sameV_eq h.1
    obtain ⟨h3, h4⟩ := sameL_eq h.2
    refine ⟨by rw [h1, h3], fun x hx => ?_⟩
    rcases List.mem_cons.1 hx with rfl | hx
    · exact h2
    · exact h4 x hx
  | [], _ :: _, h => by cases h
  | _ :: _, [], h => by cases h

theorem afL_of : ∀ {l : List Value}, (∀ x ∈ l, af x = true) → afL l = true
  | [], _ => rfl
  | x :: l, h => by rw [afL, h x (List.mem_cons_self ..), afL_of fun y hy => h y (List.mem_cons_of_mem _ hy)]; rfl

theorem sameW_eq {u v : Value} (h : sameW u v = true) : u = v ∧ af v = true := by
  unfold sameW at h
  split at h
  · rename_i a b
    obtain ⟨h1, h2⟩ := sameL_eq h
    obtain ⟨a⟩ := a
    obtain ⟨b⟩ := b
    simp only at h1 h2
    subst h1
    exact ⟨rfl, by rw [af, afA]; exact afL_of h2⟩
  · rename_i a b
    obtain ⟨h1, h2⟩ := sameL_eq h
    obtain ⟨a⟩ := a
    obtain ⟨b⟩ := b
    simp only at h1 h2
    subst h1
    exact ⟨rfl, by rw [af, afA]; exact afL_of h2⟩
  · exact sameV_eq h

theorem sameM_eq : ∀ {u v : List Value}, sameM u v = true → u = v ∧ ∀ x ∈ v, af x = true
  | [], [], _ => ⟨rfl, fun _ h => by cases h⟩
  | a :: r, b :: q, h => by
    simp only [sameM, Bool.and_eq_true] at h
    obtain ⟨h1, h2⟩ := sameW_eq h.1
    obtain ⟨h3, h4⟩ := sameM_eq h.2
    refine ⟨by rw [h1, h3], fun x hx => ?_⟩
    rcases List.mem_cons.1 hx with rfl | hx
    · exact h2
    · exact h4 x hx
  | [], _ :: _, h => by cases h
  | _ :: _, [], h => by cases h

theorem ans_in {P : Program} (hmix : P.follows .mixedOrders = true) {K : FuncId → List Value → Option Value} (hK : Known P K) {fuel : Nat} {f : FuncId} {args : List Value} {v : Value} (ha : args.all af = true) (h : ansB P K fuel f args v = true) (F : Fence) (n : Nat) (w : World) (hF : WideF F) :
    CallsIn F n P f args.toArray w (fun e w' => e = .returned v ∧ RowKit.Below w.heap.size w w') := by
  unfold ansB at h
  split at h
  · rename_i u H1 hc
    obtain ⟨rfl, hv⟩ := sameW_eq h
    have := call_in hmix hK (rel_none P w) hc (F := F) (n := n) hF
    rw [map_af _ args (fun x hx => List.all_eq_true.1 ha x hx)] at this
    refine this.mono ?_
    rintro e w' ⟨ρ1, rfl, s⟩
    exact ⟨by rw [val_af ρ1 _ hv], s.os, s.tape, s.output, s.size, fun b hb => s.old b hb fun n _ _ hg => absurd (none_get _ n) hg⟩
  · cases h

theorem known_nil (P : Program) : Known P (lookK []) := fun f args v h => by cases h

/-- one more answer is known -/
theorem known_cons {P : Program} (hmix : P.follows .mixedOrders = true) {L : List (FuncId × List Value × Value)} (hK : Known P (lookK L)) (fuel : Nat) {f : FuncId} {args : List Value} {v : Value} (ha : args.all af = true) (h : ansB P (lookK L) fuel f args v = true) :
    Known P (lookK ((f, args, v) :: L)) := by
  intro g as u hu
  unfold lookK at hu
  split at hu
  · rename_i hc
    simp only [Bool.and_eq_true] at hc
    have h1 : f = g := Nat.eq_of_beq_eq_true hc.1
    obtain ⟨h2, _⟩ := sameM_eq hc.2
    subst h1 h2
    simp only [Option.some.injEq] at hu
    subst hu
    have hv : af v = true := by
      unfold ansB at h
      split at h
      · exact (sameW_eq h).2
      · cases h
    exact ⟨fun x hx => List.all_eq_true.1 ha x hx, hv, fun F n w hF => ans_in hmix hK ha h F n w hF⟩
  · exact hK g as u hu

theorem true_calls {P : Program} (hmix : P.follows .mixedOrders = true) {K : FuncId → List Value → Option Value} (hK : Known P K) {fuel : Nat} {f : FuncId} (h : ansB P K fuel f [] (.bool true) = true) (w : World) :
    Calls P f #[] w (fun e w' => e = .returned (.bool true) ∧ RowKit.Below w.heap.size w w') :=
  (callsIn_wide (n := 0)).1 (ans_in hmix hK rfl h Fence.wide 0 w wide_wide)

end Go.Ax
