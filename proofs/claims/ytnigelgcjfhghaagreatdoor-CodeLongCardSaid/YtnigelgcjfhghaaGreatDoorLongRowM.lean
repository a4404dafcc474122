/- Proved: copyistlaw12.CodeLong returns true for every two numbers, in every order of evaluation that Go leaves open, and leaves all memory that was there as it was. Conditions: those of the given card codeLongCard (the listed tables of Go's library hold what their texts lay), and no more. -/
import Derived.Test.YtnigelgcjfhghaaGreatDoorTie
import Derived.Test.YtnigelgcjfhghaaGreatDoorCards
import Derived.Test.YtnigelgcjfhghaaGreatDoorM19
import Derived.ProofKit
import Derived.OpenShut
import Derived.LaidMore
import Derived.Lay
import Derived.Carry
import Derived.SevenTiedAt
import Derived.Stop.Joined
set_option linter.all false

namespace Go.Proofs.YtnigelgcjfhghaaGreatDoor
open Go.ChangeShapes Go.WideShapes Go.ChangeAt Go.RowKit Go.Ax
set_option maxRecDepth 10000

theorem ownL : ownKnob Tryz.prog.godebug = none := by kernel_rfl
theorem laidOutL : laidOutB Tryz.prog = true := by kernel_rfl
theorem u3L : Tryz.prog.underlying 3 = some (.int .i64) := by kernel_rfl

theorem ok_int {P : Program} {w : World} {r : Reach} {base : Nat} {t : TypeId} {v : Value} (ht : P.underlying t = some (.int .i64)) (h : Value.okWide P w r base t v) : ∃ n, v = .int .i64 n := by
  unfold Value.okWide at h
  rw [ht] at h
  unfold Cell.okWide Cell.ok at h
  cases v <;> simp [ht] at h
  exact ⟨_, by rw [h.1]⟩
theorem trodAll_carry {K : Type} {enc : TypeId × Value → K} {P : Program} (hl : laidOutB P = true) {W W' : World} (hb : Below W.heap.size W W') : ∀ {ts : List TypeId} {vs : List Value} {ds : List (DataW K)} {ps : List MemPlace},
    (ts.all fun t => P.readableRec t && Nat.blt t P.types.size) = true → DataW.TrodAll enc P W 0 (fun _ => true) true ts vs ds ps → (∀ x ∈ ps, x.block < W.heap.size) → DataW.TrodAll enc P W' 0 (fun b => decide (b < W.heap.size)) true ts vs ds ps
  | [], [], [], ps, _, h, _ => h
  | t :: ts, v :: vs, d :: ds, ps, ht, h, hp => by
    obtain ⟨p, q, h1, h2, rfl⟩ := h
    simp only [List.all_cons, Bool.and_eq_true] at ht
    exact ⟨p, q, Below.trod hl ht.1.1 (blt_lt ht.1.2) h1 hb (fun x hx => hp x (by simp [hx])), trodAll_carry hl hb (by simpa using ht.2) h2 (fun x hx => hp x (by simp [hx])), rfl⟩

theorem law_callsN {f : FuncId} {W : World} (args : List Value) (h1 : args.all af = true) (walk : ∀ (H : AHeap), H.base ≤ H.next → CallA Tryz.prog f args H fun out H1 => out = .ok (.bool true) ∧ Mod [] H H1) :
    Calls Tryz.prog f args.toArray W (fun e w' => e = .returned (.bool true) ∧ RowKit.Below W.heap.size W w') := by
  obtain ⟨N, hN⟩ : ∃ N, Tryz.prog.globals.size = N := ⟨_, rfl⟩
  have r : Rel Tryz.prog (enR N 0 0) (AHeap.none (N + 1)) W := ⟨Nat.le_refl _, ⟨by rw [hN]; exact Nat.le_succ N, fun g hg => by
      have : g ≠ N := by omega
      exact ⟨if_neg this, if_neg this⟩⟩, fun m _ hm => absurd (none_get _ m) hm, fun n o ho => (by rw [none_get] at ho; cases ho), fun n o ho => (by rw [none_get] at ho; cases ho)⟩
  have := rel_calls r (args := args) (scbL_of_af _ (afL_of fun x hx => List.all_eq_true.1 h1 x hx)) rfl rfl (walk _ (Nat.le_refl _))
  rw [map_af _ args (fun x hx => List.all_eq_true.1 h1 x hx)] at this
  exact this

set_option maxRecDepth 100000 in
theorem long_lifted (os : Os) (started : os.Started) (H : Type) (enc : TypeId × Value → H) :
    ReturnsInHanded {} Tryz.checked os 6 .any (fun w args => (Rows.codeLongSpec.pre enc Tryz.prog Tryz.f6 Rows.codeLongRow.domain false w args ∧ laidMetH Tryz.prog Rows.codeLongRow.laid w) ∧ sizedMet enc Tryz.prog Tryz.f6 (OpenSpec.ofChange Rows.codeLongSpec) false w args)
      (Rows.codeLongSpec.post enc Tryz.prog Tryz.f6 false true false false) := by
  refine returnsInHanded_of_change_and (C := Tryz.checked) (X := fun w _ => laidMetH Tryz.prog Rows.codeLongRow.laid w) (fun _ _ _ hh h => h.of_heap hh) ownL started (by kernel_rfl) Tryz.func6
    (ChangeSpec.witness_shaped (enc := enc) (C := Tryz.checked) (os := os) (X := fun w _ => laidMetH Tryz.prog Rows.codeLongRow.laid w) false (World.laidAll Tryz.prog os Rows.codeLongRow.laid) #[.int .i64 0, .int .i64 0] 8 (World.laidAll_os _ _ _)
      (World.shaped_of_ZipB (by kernel_rfl) (by kernel_rfl)) (by kernel_rfl) (by kernel_rfl) (by kernel_rfl)
      (by rw [MakeChecks.laidMetH_plain _ _ _ (by kernel_rfl)]; exact laidMet_laidAll _ (by kernel_rfl) (by kernel_rfl))) ?_
  intro W base args ds gs before hval0 hW hc _ _ _
  have hval : ∀ (j : Nat) t v, Tryz.f6.params[j]? = some t → args[j]? = some v → Value.okWide Tryz.prog W .any base t v := hval0
  have hW' := hW
  obtain ⟨p, q, hA0, hV, rfl, hfz, _⟩ := hW
  have hA : DataW.TrodAll enc Tryz.prog W 0 (fun _ => true) true Tryz.f6.params.toList args.toList ds p := hA0
  rw [Tryz.params6] at hA hval
  obtain ⟨rfl, rfl⟩ := trodVars_none hV
  simp only [List.append_nil] at hW' hfz
  have hlt : ∀ x ∈ p, x.block < W.heap.size := fun x hx => hW'.lt x hx
  have hA' := hA
  obtain ⟨args⟩ := args
  obtain ⟨v1, vs1, d1, ds1, p1, q1, rfl, rfl, rfl, a1, hA⟩ := trodAll_cons hA
  obtain ⟨v2, vs2, d2, ds2, p2, q2, rfl, rfl, rfl, a2, hA⟩ := trodAll_cons hA
  obtain ⟨rfl, rfl, rfl⟩ := trodAll_nil hA
  clear hA0 hval0
  obtain ⟨x, rfl⟩ := ok_int u3L (hval 0 3 _ rfl rfl)
  obtain ⟨y, rfl⟩ := ok_int u3L (hval 1 3 _ rfl rfl)
  refine (law_callsN [.int .i64 x, .int .i64 y] rfl (fun G hG => law6_c G x y hG)).mono fun e W' ⟨he, hb⟩ => ?_
  subst he
  exact ⟨_, rfl, _, _, _, [], _, [], hW', trodAll_mk1 (shut_bool Tryz.underlying4 true), trodAll_carry laidOutL hb (by kernel_rfl) hA' hlt, rfl, hb.frame _, fun h => by cases h⟩

theorem long_holds : Rows.CodeLongSaid :=
  OpenClaim.holds_of_wide 6 Tryz.f6 rfl rfl rfl rfl rfl rfl rfl ⟨rfl, rfl, rfl, rfl, rfl⟩ rfl rfl rfl rfl rfl (by kernel_rfl) Tryz.func6 (by kernel_rfl)
    (of_decide_eq_true (by kernel_rfl)) (by unfold Func.isWrapper; first | (rw [if_pos (by decide +kernel)]; kernel_rfl) | (rw [if_neg (by decide +kernel)]; exact ⟨rfl, rfl⟩))
    (fun os started H enc _ => long_lifted os started H enc)

theorem codeLong_card : Rows.CodeLongCardSaid :=
  Claim7.holds_tied_plain_at .later [] [.data, .data, .data, .data, .pinned] true (true, "ecf0cb603dc1dac6831e3813d07b51e7057328e8b49d3d84a38ded88fccf75e8") true long_holds (fun _ h => by cases h) (by kernel_rfl) (fun _ h => by cases h) codeLong_row_tie rfl ⟨rfl, rfl⟩ (by kernel_rfl) rfl
    (fun f fn hf hfn => by
      obtain rfl : f = 6 := Option.some.inj ((show Tryz.prog.funcNamed "copyist/copyistlaw12.CodeLong" = some 6 by kernel_rfl).symm.trans hf) |>.symm
      obtain rfl : fn = Tryz.f6 := (Option.some.inj (Tryz.func6.symm.trans hfn)).symm
      exact ⟨by kernel_rfl, fun j t ht => by
        rw [Tryz.params6] at ht
        have hm : t ∈ [3, 3] := by simpa using Array.mem_of_getElem? ht
        have hall : ([3, 3].all fun u => !Tryz.prog.wantsStandIn u) = true := by kernel_rfl
        exact (show Tryz.prog.wantsStandIn t = false by simpa using List.all_eq_true.1 hall t hm)⟩)
    (by kernel_rfl)

end Go.Proofs.YtnigelgcjfhghaaGreatDoor
