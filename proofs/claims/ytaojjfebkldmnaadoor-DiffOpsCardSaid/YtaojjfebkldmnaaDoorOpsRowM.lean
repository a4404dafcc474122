/- Proved: copyistlaw39.DiffOps returns true for every two screens, in every order of evaluation that Go leaves open, and its arguments read afterwards as before. Conditions: those of the given card diffOpsCard (the listed tables of Go's library hold what their texts lay), and no more. -/
import Derived.Test.YtaojjfebkldmnaaDoorRows
import Derived.Test.YtaojjfebkldmnaaDoorTie
import Derived.Test.YtaojjfebkldmnaaDoorCards
import Derived.Test.YtaojjfebkldmnaaDoorM10
import Derived.SevenTiedAt
import Derived.Stop.Joined
set_option linter.all false
set_option maxRecDepth 10000
set_option maxHeartbeats 16000000
open And renaming intro → zA0
open Option renaming bind_eq_bind → zA1, bind_eq_some_iff → zA2, bind_some → zA3, map_some → zA9, map_eq_some_iff → zB2
open List renaming mem_singleton → zA4, getElem?_eq_getElem → zA6, mem_append → zB1, mem_cons → zB3, mem_cons_of_mem → zB4, length_cons → zB6, length_append → zB7, length_nil → zB8, mem_of_getElem? → zB9, nil_append → zC1, append_nil → zC5, mem_append_left → zC7, map_cons → zC8, all_eq_true → zC9, mem_append_right → zD0, drop_zero → zD1, mem_of_mem_take → zD4, mem_of_mem_drop → zD5, mem_cons_self → zD6, eq_nil_of_length_eq_zero → zD8, mem_flatMap → zE1, getD_eq_getElem?_getD → zE2, drop_eq_nil_of_le → zE3, take_length → zE4, getElem?_eq_none → zE5, take_of_length_le → zE6, length_take → zE7, getElem?_eq_some_iff → zE8, drop_eq_getElem_cons → zF0, length_drop → zF1, take_add_one → zF2, mem_range → zF3, getElem?_cons_zero → zF4, map_nil → zF5, append_assoc → zF6, flatMap_cons → zF7, length_singleton → zF8, length_replicate → zF9, getElem?_cons_succ → zG0
open Nat renaming le_refl → zA5, le_of_ble_eq_true → zA7, zero_le → zB0, zero_add → zC2, lt_or_ge → zC4, le_of_eq → zC6, lt_succ_self → zD2, add_zero → zD3, le_trans → zD7, lt_of_lt_of_le → zD9, zero_mul → zE9
open Bool renaming and_eq_true → zA8, not_true → zB5, not_false → zC0, false_eq_true → zC3, and_self → zE0

namespace Go.Proofs.YtaojjfebkldmnaaDoor
open Go.ChangeShapes Go.WideShapes Go.ChangeAt Go.RowKit Go.Ax

set_option maxRecDepth 100000 in
theorem ops3_lifted (os : Os) (started : os.Started) (H : Type) (enc : TypeId × Value → H) :
    ReturnsInHanded {} Tryd.checked os 3 .any (fun w args => (Rows.diffOpsSpec.pre enc Tryd.prog Tryd.f3 Rows.diffOpsRow.domain false w args ∧ laidMetH Tryd.prog Rows.diffOpsRow.laid w) ∧ sizedMet enc Tryd.prog Tryd.f3 (OpenSpec.ofChange Rows.diffOpsSpec) false w args)
      (Rows.diffOpsSpec.post enc Tryd.prog Tryd.f3 false true false false) := by
  refine returnsInHanded_of_change_and (C := Tryd.checked) (X := fun w _ => laidMetH Tryd.prog Rows.diffOpsRow.laid w) (fun _ _ _ hh h => h.of_heap hh) Tryd.own started (by kernel_rfl) Tryd.func3
    (ChangeSpec.witness_shaped (enc := enc) (C := Tryd.checked) (os := os) (X := fun w _ => laidMetH Tryd.prog Rows.diffOpsRow.laid w) false (World.laidAll Tryd.prog os Rows.diffOpsRow.laid)
      #[.agg #[.slice none 0 0, .int .i64 0, .int .i64 0], .agg #[.slice none 0 0, .int .i64 0, .int .i64 0]] 8 (World.laidAll_os _ _ _)
      (World.shaped_of_ZipB (by kernel_rfl) (by kernel_rfl)) (by kernel_rfl) (by kernel_rfl) (by kernel_rfl)
      (by rw [MakeChecks.laidMetH_plain _ _ _ (by kernel_rfl)]; exact laidMet_laidAll _ (by kernel_rfl) (by kernel_rfl))) ?_
  intro W base args ds gs before hval0 hW hc _ hL _
  have hval : ∀ (j : Nat) t v, Tryd.f3.params[j]? = some t → args[j]? = some v → Value.okWide Tryd.prog W .any base t v := hval0
  have hW' := hW
  obtain ⟨p, q, hA0, hV, rfl, hfz, _⟩ := hW
  have hA : DataW.TrodAll enc Tryd.prog W 0 (fun _ => true) true Tryd.f3.params.toList args.toList ds p := hA0
  rw [Tryd.params3] at hA hval
  obtain ⟨rfl, rfl⟩ := trodVars_none hV
  simp only [List.append_nil] at hW' hfz
  have hlt : ∀ x ∈ p, x.block < W.heap.size := fun x hx => hW'.lt x hx
  have hA' := hA
  obtain ⟨args⟩ := args
  obtain ⟨v1, vs1, d1, ds1, p1, q1, rfl, rfl, rfl, a1, hA⟩ := trodAll_cons hA
  obtain ⟨v2, vs2, d2, ds2, p2, q2, rfl, rfl, rfl, a2, hA⟩ := trodAll_cons hA
  obtain ⟨rfl, rfl, rfl⟩ := trodAll_nil hA
  clear hA0 hval0
  obtain ⟨ρ0, G0, R0⟩ := ro0 W
  obtain ⟨ρ1, G1, u, g, r, c, R1, x1, y1, z1, s1, gr1, sc1⟩ := ro_screen R0 a1
  obtain ⟨ρ2, G2, o, h, r', c', R2, x2, y2, z2, s2, gr2, sc2⟩ := ro_screen R1 a2
  have gr1' : GridS G2 u g := gr1.gro y2
  have hcall := rel_calls R2.rel (f := 3) (args := [.agg ⟨[u, .int .i64 r, .int .i64 c]⟩, .agg ⟨[o, .int .i64 r', .int .i64 c']⟩]) (by simp only [scbL, scb, scb_mono y2.next u s1, s2, Bool.and_self, scbA]) R2.base R2.dirty
    (law3_c G2 u o g h r c r' c' gr1' gr2 (fun n off s len c b _ hb => R2.rel.rk_sc hb) (fun n off s len c b _ hb => R2.rel.rk_sc hb) (Nat.le_of_eq R2.base) (scb_mono y2.next u s1) s2)
  have hargs : [Value.agg ⟨[u, .int .i64 r, .int .i64 c]⟩, .agg ⟨[o, .int .i64 r', .int .i64 c']⟩].map ρ2.val = [v1, v2] := by
    rw [List.map_cons, List.map_cons, List.map_nil, z2, val_ext x2 _ (by simp only [scb, scbA, scbL, s1, Bool.and_self]), z1]
  rw [hargs] at hcall
  refine hcall.mono fun e W' ⟨he, hb⟩ => ?_
  subst he
  exact ⟨_, rfl, _, _, _, [], _, [], hW', trodAll_mk1 (shut_bool Tryd.underlying4 true), trodAll_carry Tryd.laidOut hb (by kernel_rfl) hA' hlt, rfl, hb.frame _, fun h => by cases h⟩

theorem ops3_holds : Rows.DiffOpsSaid :=
  OpenClaim.holds_of_wide 3 Tryd.f3 rfl rfl rfl rfl rfl rfl rfl ⟨rfl, rfl, rfl, rfl, rfl⟩ rfl rfl rfl rfl rfl (by kernel_rfl) Tryd.func3 (by kernel_rfl)
    (of_decide_eq_true (by kernel_rfl)) (by unfold Func.isWrapper; first | (rw [if_pos (by decide +kernel)]; kernel_rfl) | (rw [if_neg (by decide +kernel)]; exact ⟨rfl, rfl⟩))
    (fun os started H enc _ => ops3_lifted os started H enc)

theorem diffOps_card : Rows.DiffOpsCardSaid :=
  Claim7.holds_tied_plain_at .later [] [.data, .pinned] true (true, "d23d47481ef6ebc73d80c8739a59da347d47949bcc0e81bf1dae53e3832d836e") true ops3_holds (fun _ h => by cases h) (by kernel_rfl) (fun _ h => by cases h) diffOps_row_tie rfl ⟨rfl, rfl⟩ (by kernel_rfl) rfl
    (fun f fn hf hfn => by
      obtain rfl : f = 3 := Option.some.inj ((show Tryd.prog.funcNamed "copyist/copyistlaw39.DiffOps" = some 3 by kernel_rfl).symm.trans hf) |>.symm
      obtain rfl : fn = Tryd.f3 := (Option.some.inj (Tryd.func3.symm.trans hfn)).symm
      exact ⟨by kernel_rfl, fun j t ht => by
        rw [Tryd.params3] at ht
        have hm : t ∈ [24, 24] := by simpa using Array.mem_of_getElem? ht
        have hall : ([24, 24].all fun u => !Tryd.prog.wantsStandIn u) = true := by kernel_rfl
        exact (show Tryd.prog.wantsStandIn t = false by simpa using List.all_eq_true.1 hall t hm)⟩)
    (by kernel_rfl)

end Go.Proofs.YtaojjfebkldmnaaDoor
