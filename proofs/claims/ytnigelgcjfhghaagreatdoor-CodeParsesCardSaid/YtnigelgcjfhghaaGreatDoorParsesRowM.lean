/- Proved: copyistlaw12.CodeParses returns true for every string, in every order of evaluation that Go leaves open, and its arguments read afterwards as before. Conditions: those of the given card codeParsesCard (the listed tables of Go's library hold what their texts lay), and no more. -/
import Derived.Test.YtnigelgcjfhghaaGreatDoorTie
import Derived.Test.YtnigelgcjfhghaaGreatDoorCards
import Derived.Test.YtnigelgcjfhghaaGreatDoorM4
import Derived.Test.YtnigelgcjfhghaaGreatDoorM19
import Derived.SevenTiedAt
import Derived.Stop.Joined
set_option linter.all false
set_option maxRecDepth 10000
set_option maxHeartbeats 16000000
open And renaming intro → zA0
open Option renaming bind_eq_bind → zA1, bind_eq_some_iff → zA2, bind_some → zA3, map_some → zA5, map_eq_some_iff → zA6
open Bool renaming and_eq_true → zA4, false_eq_true → zB2
open List renaming mem_singleton → zA7, length_cons → zA9, getElem?_eq_getElem → zB0, mem_cons → zB1, length_append → zB3, mem_cons_of_mem → zB5, all_eq_true → zB6, mem_cons_self → zB7, map_cons → zB9, length_singleton → zC0, mem_append → zC2, getD_eq_getElem?_getD → zC3, length_nil → zC4, nil_append → zC5, flatMap_cons → zD4, append_nil → zD5, getElem?_cons_succ → zD6, getElem?_eq_none → zD7, take_of_length_le → zD8
open Nat renaming le_refl → zA8, zero_le → zB4, le_of_ble_eq_true → zB8, eq_of_beq_eq_true → zC6, lt_succ_self → zC7, zero_add → zC8, lt_or_ge → zC9, add_zero → zD0, le_trans → zD1, lt_of_lt_of_le → zD2, mul_one → zD3
open Int renaming toNat_natCast → zC1

namespace Go.Proofs.YtnigelgcjfhghaaGreatDoor
open Go.ChangeShapes Go.WideShapes Go.ChangeAt Go.RowKit Go.Ax

theorem bs_self (s : ByteArray) : bs s.data.toList = s := by
  apply ByteArray.ext
  simp

set_option maxRecDepth 100000 in
theorem parses_lifted (os : Os) (started : os.Started) (H : Type) (enc : TypeId × Value → H) :
    ReturnsInHanded {} Tryz.checked os 3 .any (fun w args => (Rows.codeParsesSpec.pre enc Tryz.prog Tryz.f3 Rows.codeParsesRow.domain false w args ∧ laidMetH Tryz.prog Rows.codeParsesRow.laid w) ∧ sizedMet enc Tryz.prog Tryz.f3 (OpenSpec.ofChange Rows.codeParsesSpec) false w args)
      (Rows.codeParsesSpec.post enc Tryz.prog Tryz.f3 false true false false) := by
  refine returnsInHanded_of_change_and (C := Tryz.checked) (X := fun w _ => laidMetH Tryz.prog Rows.codeParsesRow.laid w) (fun _ _ _ hh h => h.of_heap hh) ownB started (by kernel_rfl) Tryz.func3
    (ChangeSpec.witness_shaped (enc := enc) (C := Tryz.checked) (os := os) (X := fun w _ => laidMetH Tryz.prog Rows.codeParsesRow.laid w) false (World.laidAll Tryz.prog os Rows.codeParsesRow.laid) #[.string .empty] 3 (World.laidAll_os _ _ _)
      (World.shaped_of_ZipB (by kernel_rfl) (by kernel_rfl)) (by kernel_rfl) (by kernel_rfl) (by kernel_rfl)
      (by rw [MakeChecks.laidMetH_plain _ _ _ (by kernel_rfl)]; exact laidMet_laidAll _ (by kernel_rfl) (by kernel_rfl))) ?_
  intro W base args ds gs before hval0 hW hc _ hL _
  have hval : ∀ (j : Nat) t v, Tryz.f3.params[j]? = some t → args[j]? = some v → Value.okWide Tryz.prog W .any base t v := hval0
  have hW' := hW
  obtain ⟨p, q, hA0, hV, rfl, hfz, _⟩ := hW
  have hA : DataW.TrodAll enc Tryz.prog W 0 (fun _ => true) true Tryz.f3.params.toList args.toList ds p := hA0
  rw [Tryz.params3] at hA hval
  obtain ⟨rfl, rfl⟩ := trodVars_none hV
  simp only [List.append_nil] at hW' hfz
  have hlt : ∀ x ∈ p, x.block < W.heap.size := fun x hx => hW'.lt x hx
  have hA' := hA
  rw [MakeChecks.laidMetH_plain _ _ _ (by kernel_rfl)] at hL
  obtain ⟨e, hl⟩ := tab_laidP hL (.tail _ (.tail _ (.head _)))
  obtain ⟨args⟩ := args
  obtain ⟨v1, vs1, d1, ds1, p1, q1, rfl, rfl, rfl, a1, hA⟩ := trodAll_cons hA
  obtain ⟨rfl, rfl, rfl⟩ := trodAll_nil hA
  clear hA0 hval0
  obtain ⟨s, rfl⟩ := ok_strB u9 (hval 0 9 _ rfl rfl)
  have hcall := law_callsP (f := 3) hl [.string s] rfl (fun G hG hp => by
    have := law3_c G s.data.toList hG
    rw [bs_self] at this
    exact this)
  refine hcall.mono fun e W' ⟨he, hb⟩ => ?_
  subst he
  exact ⟨_, rfl, _, _, _, [], _, [], hW', trodAll_mk1 (shut_bool Tryz.underlying4 true), trodAll_carryB laidOutBz hb (by kernel_rfl) hA' hlt, rfl, hb.frame _, fun h => by cases h⟩

theorem parses_holds : Rows.CodeParsesSaid :=
  OpenClaim.holds_of_wide 3 Tryz.f3 rfl rfl rfl rfl rfl rfl rfl ⟨rfl, rfl, rfl, rfl, rfl⟩ rfl rfl rfl rfl rfl (by kernel_rfl) Tryz.func3 (by kernel_rfl)
    (of_decide_eq_true (by kernel_rfl)) (by unfold Func.isWrapper; first | (rw [if_pos (by decide +kernel)]; kernel_rfl) | (rw [if_neg (by decide +kernel)]; exact ⟨rfl, rfl⟩))
    (fun os started H enc _ => parses_lifted os started H enc)

theorem codeParses_card : Rows.CodeParsesCardSaid :=
  Claim7.holds_tied_plain_at .later [] [.data, .data, .data, .data, .pinned] true (true, "ecf0cb603dc1dac6831e3813d07b51e7057328e8b49d3d84a38ded88fccf75e8") true parses_holds (fun _ h => by cases h) (by kernel_rfl) (fun _ h => by cases h) codeParses_row_tie rfl ⟨rfl, rfl⟩ (by kernel_rfl) rfl
    (fun f fn hf hfn => by
      obtain rfl : f = 3 := Option.some.inj ((show Tryz.prog.funcNamed "copyist/copyistlaw12.CodeParses" = some 3 by kernel_rfl).symm.trans hf) |>.symm
      obtain rfl : fn = Tryz.f3 := (Option.some.inj (Tryz.func3.symm.trans hfn)).symm
      exact ⟨by kernel_rfl, fun j t ht => by
        rw [Tryz.params3] at ht
        have hm : t ∈ [9] := by simpa using Array.mem_of_getElem? ht
        have hall : ([9].all fun u => !Tryz.prog.wantsStandIn u) = true := by kernel_rfl
        exact (show Tryz.prog.wantsStandIn t = false by simpa using List.all_eq_true.1 hall t hm)⟩)
    (by kernel_rfl)

end Go.Proofs.YtnigelgcjfhghaaGreatDoor
