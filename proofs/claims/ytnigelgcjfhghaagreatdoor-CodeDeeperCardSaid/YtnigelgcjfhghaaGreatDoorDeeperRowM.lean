/- Proved: copyistlaw12.CodeDeeper returns true for all code and every number, in every order of evaluation that Go leaves open, and its arguments read afterwards as before. Conditions: those of the given card codeDeeperCard (the listed tables of Go's library hold what their texts lay), and no more. -/
import Derived.Test.YtnigelgcjfhghaaGreatDoorTie
import Derived.Test.YtnigelgcjfhghaaGreatDoorCards
import Derived.Test.YtnigelgcjfhghaaGreatDoorM4
import Derived.Test.YtnigelgcjfhghaaGreatDoorM20
import Derived.SevenTiedAt
import Derived.Stop.Joined
set_option linter.all false
set_option maxRecDepth 10000
set_option maxHeartbeats 16000000
open And renaming intro → zA0
open Option renaming bind_eq_bind → zA1, bind_eq_some_iff → zA2, bind_some → zA3, map_some → zA5, map_eq_some_iff → zB0
open Bool renaming and_eq_true → zA4, false_eq_true → zB8, and_self → zC3
open List renaming getElem?_eq_getElem → zA6, mem_singleton → zA7, length_cons → zA8, mem_cons → zA9, getD_eq_getElem?_getD → zB1, map_cons → zB4, mem_cons_of_mem → zB6, mem_cons_self → zB7, mem_append → zC0, all_eq_true → zC2, mem_map → zC4, length_append → zC8, length_singleton → zC9, nil_append → zD0, length_nil → zD1, length_map → zD5, not_mem_nil → zD6, getElem?_cons_succ → zD7, flatMap_cons → zD8, getElem?_eq_none → zE1, take_of_length_le → zE2, append_nil → zE3, getElem?_cons_zero → zE5, eq_nil_of_length_eq_zero → zE6, length_take → zE7
open Nat renaming le_refl → zB2, le_of_ble_eq_true → zB3, zero_le → zB5, le_trans → zB9, lt_succ_self → zC1, zero_add → zC5, lt_or_ge → zC6, mul_one → zC7, eq_of_beq_eq_true → zD2, add_zero → zD3, lt_of_lt_of_le → zD4, ble_eq → zD9
open Int renaming cast_ofNat_Int → zE0, toNat_natCast → zE4

namespace Go.Proofs.YtnigelgcjfhghaaGreatDoor
open Go.ChangeShapes Go.WideShapes Go.ChangeAt Go.RowKit Go.Ax

set_option maxRecDepth 100000 in
theorem deeper_lifted (os : Os) (started : os.Started) (H : Type) (enc : TypeId × Value → H) :
    ReturnsInHanded {} Tryz.checked os 10 .any (fun w args => (Rows.codeDeeperSpec.pre enc Tryz.prog Tryz.f10 Rows.codeDeeperRow.domain false w args ∧ laidMetH Tryz.prog Rows.codeDeeperRow.laid w) ∧ sizedMet enc Tryz.prog Tryz.f10 (OpenSpec.ofChange Rows.codeDeeperSpec) false w args)
      (Rows.codeDeeperSpec.post enc Tryz.prog Tryz.f10 false true false false) := by
  refine returnsInHanded_of_change_and (C := Tryz.checked) (X := fun w _ => laidMetH Tryz.prog Rows.codeDeeperRow.laid w) (fun _ _ _ hh h => h.of_heap hh) ownB started (by kernel_rfl) Tryz.func10
    (ChangeSpec.witness_shaped (enc := enc) (C := Tryz.checked) (os := os) (X := fun w _ => laidMetH Tryz.prog Rows.codeDeeperRow.laid w) false (World.laidAll Tryz.prog os Rows.codeDeeperRow.laid) #[.agg #[.int .i64 0, .int .i64 0, .int .i64 0, .slice none 0 0, .slice none 0 0], .int .i64 0] 8 (World.laidAll_os _ _ _)
      (World.shaped_of_ZipB (by kernel_rfl) (by kernel_rfl)) (by kernel_rfl) (by kernel_rfl) (by kernel_rfl)
      (by rw [MakeChecks.laidMetH_plain _ _ _ (by kernel_rfl)]; exact laidMet_laidAll _ (by kernel_rfl) (by kernel_rfl))) ?_
  intro W base args ds gs before hval0 hW hc _ hL _
  have hval : ∀ (j : Nat) t v, Tryz.f10.params[j]? = some t → args[j]? = some v → Value.okWide Tryz.prog W .any base t v := hval0
  have hW' := hW
  obtain ⟨p, q, hA0, hV, rfl, hfz, _⟩ := hW
  have hA : DataW.TrodAll enc Tryz.prog W 0 (fun _ => true) true Tryz.f10.params.toList args.toList ds p := hA0
  rw [Tryz.params10] at hA hval
  obtain ⟨rfl, rfl⟩ := trodVars_none hV
  simp only [List.append_nil] at hW' hfz
  have hlt : ∀ x ∈ p, x.block < W.heap.size := fun x hx => hW'.lt x hx
  have hA' := hA
  rw [MakeChecks.laidMetH_plain _ _ _ (by kernel_rfl)] at hL
  obtain ⟨e, hl⟩ := tab_laidP hL (.tail _ (.tail _ (.head _)))
  obtain ⟨args⟩ := args
  obtain ⟨v1, vs1, d1, ds1, p1, q1, rfl, rfl, rfl, a1, hA⟩ := trodAll_cons hA
  obtain ⟨v2, vs2, d2, ds2, p2, q2, rfl, rfl, rfl, a2, hA⟩ := trodAll_cons hA
  obtain ⟨rfl, rfl, rfl⟩ := trodAll_nil hA
  clear hA0 hval0
  obtain ⟨x, rfl⟩ := ok_intE u3 (hval 1 3 _ rfl rfl)
  have hcall := law_callsE (f := 10) hl [.int .i64 x] rfl a1 (fun least most depth u p l ws G hG hu hp su sp => law10_c G least most depth x u p l ws hu hp su sp hG)
  refine hcall.mono fun e W' ⟨he, hb⟩ => ?_
  subst he
  exact ⟨_, rfl, _, _, _, [], _, [], hW', trodAll_mk1 (shut_bool Tryz.underlying4 true), trodAll_carryB laidOutBz hb (by kernel_rfl) hA' hlt, rfl, hb.frame _, fun h => by cases h⟩

theorem deeper_holds : Rows.CodeDeeperSaid :=
  OpenClaim.holds_of_wide 10 Tryz.f10 rfl rfl rfl rfl rfl rfl rfl ⟨rfl, rfl, rfl, rfl, rfl⟩ rfl rfl rfl rfl rfl (by kernel_rfl) Tryz.func10 (by kernel_rfl)
    (of_decide_eq_true (by kernel_rfl)) (by unfold Func.isWrapper; first | (rw [if_pos (by decide +kernel)]; kernel_rfl) | (rw [if_neg (by decide +kernel)]; exact ⟨rfl, rfl⟩))
    (fun os started H enc _ => deeper_lifted os started H enc)

theorem codeDeeper_card : Rows.CodeDeeperCardSaid :=
  Claim7.holds_tied_plain_at .later [] [.data, .data, .data, .data, .pinned] true (true, "ecf0cb603dc1dac6831e3813d07b51e7057328e8b49d3d84a38ded88fccf75e8") true deeper_holds (fun _ h => by cases h) (by kernel_rfl) (fun _ h => by cases h) codeDeeper_row_tie rfl ⟨rfl, rfl⟩ (by kernel_rfl) rfl
    (fun f fn hf hfn => by
      obtain rfl : f = 10 := Option.some.inj ((show Tryz.prog.funcNamed "copyist/copyistlaw12.CodeDeeper" = some 10 by kernel_rfl).symm.trans hf) |>.symm
      obtain rfl : fn = Tryz.f10 := (Option.some.inj (Tryz.func10.symm.trans hfn)).symm
      exact ⟨by kernel_rfl, fun j t ht => by
        rw [Tryz.params10] at ht
        have hm : t ∈ [33, 3] := by simpa using Array.mem_of_getElem? ht
        have hall : ([33, 3].all fun u => !Tryz.prog.wantsStandIn u) = true := by kernel_rfl
        exact (show Tryz.prog.wantsStandIn t = false by simpa using List.all_eq_true.1 hall t hm)⟩)
    (by kernel_rfl)

end Go.Proofs.YtnigelgcjfhghaaGreatDoor
