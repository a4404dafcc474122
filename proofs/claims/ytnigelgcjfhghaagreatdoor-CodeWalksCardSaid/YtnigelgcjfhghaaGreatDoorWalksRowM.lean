/- Proved: copyistlaw12.CodeWalks returns true for all code and all numbers, in every order of evaluation that Go leaves open, and its arguments read afterwards as before. Conditions: those of the given card codeWalksCard (the listed tables of Go's library hold what their texts lay), and no more. -/
import Derived.Test.YtnigelgcjfhghaaGreatDoorTie
import Derived.Test.YtnigelgcjfhghaaGreatDoorCards
import Derived.Test.YtnigelgcjfhghaaGreatDoorM5
import Derived.Test.YtnigelgcjfhghaaGreatDoorM20
import Derived.SevenTiedAt
import Derived.Stop.Joined
set_option linter.all false
set_option maxRecDepth 10000
set_option maxHeartbeats 16000000
open And renaming intro → zA0
open Option renaming bind_eq_bind → zA1, bind_eq_some_iff → zA2, bind_some → zA3, map_some → zA6, map_eq_some_iff → zB2
open List renaming mem_singleton → zA4, getElem?_eq_getElem → zA5, length_cons → zA8, getD_eq_getElem?_getD → zA9, mem_cons → zB0, map_cons → zB4, mem_append → zB7, mem_cons_self → zB8, mem_cons_of_mem → zB9, length_nil → zC5, length_append → zC6, length_singleton → zC7, length_map → zC8, flatMap_cons → zD1, all_eq_true → zD4, mem_map → zD5, nil_append → zD6, getElem?_cons_succ → zD7, length_take → zE1, append_nil → zE2, getElem?_eq_none → zE3, not_mem_nil → zE4, getElem?_map → zE5, getElem?_eq_some_iff → zE6, eq_nil_of_length_eq_zero → zE7, take_of_length_le → zE8, getElem?_cons_zero → zE9, drop_zero → zF0, mem_of_getElem? → zF2, map_nil → zF3, getElem_mem → zF4, map_append → zF5
open Bool renaming and_eq_true → zA7, false_eq_true → zC1, and_self → zC9, or_eq_false_iff → zF6
open Nat renaming le_refl → zB1, le_of_ble_eq_true → zB3, zero_le → zC0, le_trans → zC2, zero_add → zC3, lt_succ_self → zC4, mul_one → zD0, lt_of_lt_of_le → zD2, lt_or_ge → zD3, eq_of_beq_eq_true → zD8, ble_eq → zD9, add_zero → zE0, le_of_eq → zF1
open Int renaming toNat_natCast → zB5, cast_ofNat_Int → zB6

namespace Go.Proofs.YtnigelgcjfhghaaGreatDoor
open Go.ChangeShapes Go.WideShapes Go.ChangeAt Go.RowKit Go.Ax

set_option maxRecDepth 100000 in
theorem walks_lifted (os : Os) (started : os.Started) (H : Type) (enc : TypeId × Value → H) :
    ReturnsInHanded {} Tryz.checked os 9 .any (fun w args => (Rows.codeWalksSpec.pre enc Tryz.prog Tryz.f9 Rows.codeWalksRow.domain false w args ∧ laidMetH Tryz.prog Rows.codeWalksRow.laid w) ∧ sizedMet enc Tryz.prog Tryz.f9 (OpenSpec.ofChange Rows.codeWalksSpec) false w args)
      (Rows.codeWalksSpec.post enc Tryz.prog Tryz.f9 false true false false) := by
  refine returnsInHanded_of_change_and (C := Tryz.checked) (X := fun w _ => laidMetH Tryz.prog Rows.codeWalksRow.laid w) (fun _ _ _ hh h => h.of_heap hh) ownB started (by kernel_rfl) Tryz.func9
    (ChangeSpec.witness_shaped (enc := enc) (C := Tryz.checked) (os := os) (X := fun w _ => laidMetH Tryz.prog Rows.codeWalksRow.laid w) false (World.laidAll Tryz.prog os Rows.codeWalksRow.laid) #[.agg #[.int .i64 0, .int .i64 0, .int .i64 0, .slice none 0 0, .slice none 0 0], .slice none 0 0] 8 (World.laidAll_os _ _ _)
      (World.shaped_of_ZipB (by kernel_rfl) (by kernel_rfl)) (by kernel_rfl) (by kernel_rfl) (by kernel_rfl)
      (by rw [MakeChecks.laidMetH_plain _ _ _ (by kernel_rfl)]; exact laidMet_laidAll _ (by kernel_rfl) (by kernel_rfl))) ?_
  intro W base args ds gs before hval0 hW hc _ hL _
  have hval : ∀ (j : Nat) t v, Tryz.f9.params[j]? = some t → args[j]? = some v → Value.okWide Tryz.prog W .any base t v := hval0
  have hW' := hW
  obtain ⟨p, q, hA0, hV, rfl, hfz, _⟩ := hW
  have hA : DataW.TrodAll enc Tryz.prog W 0 (fun _ => true) true Tryz.f9.params.toList args.toList ds p := hA0
  rw [Tryz.params9] at hA hval
  obtain ⟨rfl, rfl⟩ := trodVars_none hV
  simp only [List.append_nil] at hW' hfz
  have hlt : ∀ x ∈ p, x.block < W.heap.size := fun x hx => hW'.lt x hx
  have hA' := hA
  rw [MakeChecks.laidMetH_plain _ _ _ (by kernel_rfl)] at hL
  obtain ⟨e, hl⟩ := tab_laidP hL (.tail _ (.tail _ (.head _)))
  obtain ⟨args⟩ := args
  obtain ⟨v1, vs1, d1, ds1, p1, q1, rfl, rfl, rfl, a1, hA⟩ := trodAll_cons hA
  obtain ⟨v2, vs2, d2, ds2, p2, q2, rfl, rfl, rfl, a2, hA⟩ := trodAll_cons hA
  obtain ⟨rfl, rfl, rfl⟩ := trodAll_nil hA
  clear hA0 hval0
  have hcall := law_callsI (f := 9) hl (hval 1 35 _ rfl rfl) a1 a2 (fun least most depth u p q l ws ns G hG hu hp hq su sp sq => law9_c G least most depth u p q l ws ns hu hp hq su sp sq hG)
  refine hcall.mono fun e W' ⟨he, hb⟩ => ?_
  subst he
  exact ⟨_, rfl, _, _, _, [], _, [], hW', trodAll_mk1 (shut_bool Tryz.underlying4 true), trodAll_carryB laidOutBz hb (by kernel_rfl) hA' hlt, rfl, hb.frame _, fun h => by cases h⟩

theorem walks_holds : Rows.CodeWalksSaid :=
  OpenClaim.holds_of_wide 9 Tryz.f9 rfl rfl rfl rfl rfl rfl rfl ⟨rfl, rfl, rfl, rfl, rfl⟩ rfl rfl rfl rfl rfl (by kernel_rfl) Tryz.func9 (by kernel_rfl)
    (of_decide_eq_true (by kernel_rfl)) (by unfold Func.isWrapper; first | (rw [if_pos (by decide +kernel)]; kernel_rfl) | (rw [if_neg (by decide +kernel)]; exact ⟨rfl, rfl⟩))
    (fun os started H enc _ => walks_lifted os started H enc)

theorem codeWalks_card : Rows.CodeWalksCardSaid :=
  Claim7.holds_tied_plain_at .later [] [.data, .data, .data, .data, .pinned] true (true, "ecf0cb603dc1dac6831e3813d07b51e7057328e8b49d3d84a38ded88fccf75e8") true walks_holds (fun _ h => by cases h) (by kernel_rfl) (fun _ h => by cases h) codeWalks_row_tie rfl ⟨rfl, rfl⟩ (by kernel_rfl) rfl
    (fun f fn hf hfn => by
      obtain rfl : f = 9 := Option.some.inj ((show Tryz.prog.funcNamed "copyist/copyistlaw12.CodeWalks" = some 9 by kernel_rfl).symm.trans hf) |>.symm
      obtain rfl : fn = Tryz.f9 := (Option.some.inj (Tryz.func9.symm.trans hfn)).symm
      exact ⟨by kernel_rfl, fun j t ht => by
        rw [Tryz.params9] at ht
        have hm : t ∈ [33, 35] := by simpa using Array.mem_of_getElem? ht
        have hall : ([33, 35].all fun u => !Tryz.prog.wantsStandIn u) = true := by kernel_rfl
        exact (show Tryz.prog.wantsStandIn t = false by simpa using List.all_eq_true.1 hall t hm)⟩)
    (by kernel_rfl)

end Go.Proofs.YtnigelgcjfhghaaGreatDoor
