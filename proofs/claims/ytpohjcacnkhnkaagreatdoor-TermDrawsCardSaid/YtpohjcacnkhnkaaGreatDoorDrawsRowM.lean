/- Proved: copyistlaw40.TermDraws returns true for every size of a screen and every two texts, in every order of evaluation that Go leaves open, and its arguments read afterwards as before. Conditions: those of the given card termDrawsCard (the listed tables of Go's library hold what their texts lay), and no more. -/
import Derived.Test.YtpohjcacnkhnkaaGreatDoorRows
import Derived.Test.YtpohjcacnkhnkaaGreatDoorTie
import Derived.Test.YtpohjcacnkhnkaaGreatDoorCards
import Derived.Test.YtpohjcacnkhnkaaGreatDoorM8
import Derived.Test.YtpohjcacnkhnkaaGreatDoorM9
import Derived.SevenTiedAt
import Derived.Stop.Joined
set_option linter.all false
set_option maxRecDepth 10000
set_option maxHeartbeats 16000000
open And renaming intro → zA0
open Option renaming bind_eq_bind → zA1, bind_eq_some_iff → zA2, bind_some → zA3, map_some → zB2, map_eq_some_iff → zB5, getD_some → zH9
open Nat renaming le_refl → zA4, le_of_ble_eq_true → zA7, zero_le → zB7, lt_or_ge → zC0, zero_add → zC2, le_trans → zC4, add_zero → zD5, lt_of_lt_of_le → zE0, ble_eq → zE8, mul_one → zF0, lt_succ_self → zF3, le_of_eq → zF6, min → zF9, add_sub_cancel_left → zG2, sub_self → zG8, min_eq_left → zH0, zero_mul → zH1
open List renaming mem_singleton → zA5, mem_cons → zA8, length_cons → zA9, getElem?_eq_getElem → zB0, mem_append → zB1, length_append → zB3, length_nil → zB4, nil_append → zB6, map_cons → zB8, mem_cons_of_mem → zB9, mem_map → zC1, all_eq_true → zC3, mem_of_getElem? → zC5, length_drop → zC6, append_nil → zC7, append_assoc → zC8, getD_eq_getElem?_getD → zC9, drop_zero → zD0, getElem?_eq_none → zD3, take_of_length_le → zD4, nodup_cons → zD6, not_mem_nil → zD7, length_take → zD9, length_map → zE1, mem_of_mem_take → zE2, cons_append → zE3, mem_of_mem_drop → zE4, eq_nil_of_length_eq_zero → zE5, nodup_append → zE6, map_nil → zE7, drop_eq_nil_of_le → zE9, length_replicate → zF1, mem_cons_self → zF2, getElem?_eq_some_iff → zF5, mem_range → zF7, mem_append_left → zF8, getElem?_map → zG0, getElem?_cons_zero → zG1, mem_flatMap → zG3, take_add_one → zG4, getElem?_append_right → zG5, mem_append_right → zG6, take_append_drop → zG9, take_length → zH2, drop_drop → zH3, drop_eq_getElem_cons → zH4, eq_of_mem_replicate → zH6, getElem?_cons_succ → zH8, length_singleton → zI0
open Bool renaming and_eq_true → zA6, not_true → zD1, false_eq_true → zD2, and_self → zD8, not_false → zF4, or_eq_true → zH5, or_false → zH7
open Int renaming toNat_natCast → zG7

namespace Go.Proofs.YtpohjcacnkhnkaaGreatDoor
open Go.ChangeShapes Go.WideShapes Go.ChangeAt Go.RowKit Go.Ax Go.Proofs.YtpohjcacnkhnkaaGreatDoor.Tq

theorem ok_int {P : Program} {w : World} {r : Reach} {base : Nat} {t : TypeId} {v : Value} (ht : P.underlying t = some (.int .i64)) (h : Value.okWide P w r base t v) : ∃ n, v = .int .i64 n := by
  unfold Value.okWide at h
  rw [ht] at h
  unfold Cell.okWide Cell.ok at h
  cases v <;> simp [ht] at h
  exact ⟨_, by rw [h.1]⟩
theorem nP {P : Program} {w : World} {r : Reach} {base : Nat} {t : TypeId} {v : Value} (ht : P.underlying t = some .string) (h : Value.okWide P w r base t v) : ∃ s, v = .string s := by
  unfold Value.okWide at h
  rw [ht] at h
  unfold Cell.okWide Cell.ok at h
  cases v <;> simp [ht] at h
  exact ⟨_, rfl⟩

set_option maxRecDepth 100000 in
theorem DC (os : Os) (started : os.Started) (H : Type) (enc : TypeId × Value → H) :
    ReturnsInHanded {} Tryz.checked os 5 .any (fun w args => (Rows.termDrawsSpec.pre enc Tryz.prog Tryz.f5 Rows.termDrawsRow.domain false w args ∧ laidMetH Tryz.prog Rows.termDrawsRow.laid w) ∧ sizedMet enc Tryz.prog Tryz.f5 (OpenSpec.ofChange Rows.termDrawsSpec) false w args)
      (Rows.termDrawsSpec.post enc Tryz.prog Tryz.f5 false true false false) := by
  refine returnsInHanded_of_change_and (C := Tryz.checked) (X := fun w _ => laidMetH Tryz.prog Rows.termDrawsRow.laid w) (fun _ _ _ hh h => h.of_heap hh) Iv started (by kernel_rfl) Tryz.func5
    (ChangeSpec.witness_shaped (enc := enc) (C := Tryz.checked) (os := os) (X := fun w _ => laidMetH Tryz.prog Rows.termDrawsRow.laid w) false (World.laidAll Tryz.prog os Rows.termDrawsRow.laid)
      #[.int .i64 0, .int .i64 0, .string ⟨#[]⟩, .string ⟨#[]⟩] 8 (World.laidAll_os _ _ _)
      (World.shaped_of_ZipB (by kernel_rfl) (by kernel_rfl)) (by kernel_rfl) (by kernel_rfl) (by kernel_rfl)
      (by rw [MakeChecks.laidMetH_plain _ _ _ (by kernel_rfl)]; exact laidMet_laidAll _ (by kernel_rfl) (by kernel_rfl))) ?_
  intro W base args ds gs before hval0 hW hc _ hL _
  have hval : ∀ (j : Nat) t v, Tryz.f5.params[j]? = some t → args[j]? = some v → Value.okWide Tryz.prog W .any base t v := hval0
  have hW' := hW
  obtain ⟨p, q, hA0, hV, rfl, hfz, _⟩ := hW
  have hA : DataW.TrodAll enc Tryz.prog W 0 (fun _ => true) true Tryz.f5.params.toList args.toList ds p := hA0
  rw [Tryz.params5] at hA hval
  obtain ⟨rfl, rfl⟩ := trodVars_none hV
  simp only [List.append_nil] at hW' hfz
  have hlt : ∀ x ∈ p, x.block < W.heap.size := fun x hx => hW'.lt x hx
  have hA' := hA
  have hL2 : laidMet Tryz.prog Rows.termAppliesRow.laid W := by
    rw [MakeChecks.laidMetH_plain _ _ _ (by kernel_rfl)] at hL
    exact hL
  obtain ⟨e1, e2, e3, hl⟩ := NS hL2
  obtain ⟨args⟩ := args
  obtain ⟨v1, vs1, d1, ds1, p1, q1, rfl, rfl, rfl, a1, hA⟩ := trodAll_cons hA
  obtain ⟨v2, vs2, d2, ds2, p2, q2, rfl, rfl, rfl, a2, hA⟩ := trodAll_cons hA
  obtain ⟨v3, vs3, d3, ds3, p3, q3, rfl, rfl, rfl, a3, hA⟩ := trodAll_cons hA
  obtain ⟨v4, vs4, d4, ds4, p4, q4, rfl, rfl, rfl, a4, hA⟩ := trodAll_cons hA
  obtain ⟨rfl, rfl, rfl⟩ := trodAll_nil hA
  clear hA0 hval0
  obtain ⟨h, rfl⟩ := ok_int (by kernel_rfl) (hval 0 3 _ rfl rfl)
  obtain ⟨w, rfl⟩ := ok_int (by kernel_rfl) (hval 1 3 _ rfl rfl)
  obtain ⟨sa, rfl⟩ := nP (by kernel_rfl) (hval 2 9 _ rfl rfl)
  obtain ⟨sb, rfl⟩ := nP (by kernel_rfl) (hval 3 9 _ rfl rfl)
  obtain ⟨ρ0, G0, R0, t0⟩ := hl.ro
  have hcall := NI R0.rel (f := 5) (args := [.int .i64 h, .int .i64 w, .string sa, .string sb]) (by simp only [aT, aV, Bool.and_self]) R0.base R0.dirty
    (RN G0 h w sa sb t0 (Nat.le_of_eq R0.base))
  have hargs : [Value.int .i64 h, .int .i64 w, .string sa, .string sb].map ρ0.val = [.int .i64 h, .int .i64 w, .string sa, .string sb] := rfl
  rw [hargs] at hcall
  refine hcall.mono fun e W' ⟨he, hb⟩ => ?_
  subst he
  exact ⟨_, rfl, _, _, _, [], _, [], hW', trodAll_mk1 (shut_bool Tryz.underlying4 true), rE PR hb (by kernel_rfl) hA' hlt, rfl, hb.frame _, fun h => by cases h⟩

theorem FI : Rows.TermDrawsSaid :=
  OpenClaim.holds_of_wide 5 Tryz.f5 rfl rfl rfl rfl rfl rfl rfl ⟨rfl, rfl, rfl, rfl, rfl⟩ rfl rfl rfl rfl rfl (by kernel_rfl) Tryz.func5 (by kernel_rfl)
    (of_decide_eq_true (by kernel_rfl)) (by unfold Func.isWrapper; first | (rw [if_pos (by decide +kernel)]; kernel_rfl) | (rw [if_neg (by decide +kernel)]; exact ⟨rfl, rfl⟩))
    (fun os started H enc _ => DC os started H enc)

theorem termDraws_card : Rows.TermDrawsCardSaid :=
  Claim7.holds_tied_plain_at .later [] _ _ _ _ FI (fun _ h => by cases h) (by kernel_rfl) (fun _ h => by cases h) termDraws_row_tie rfl ⟨rfl, rfl⟩ (by kernel_rfl) rfl
    (fun f fn hf hfn => by
      obtain rfl : f = 5 := Option.some.inj ((show Tryz.prog.funcNamed "copyist/copyistlaw40.TermDraws" = some 5 by kernel_rfl).symm.trans hf) |>.symm
      obtain rfl : fn = Tryz.f5 := (Option.some.inj (Tryz.func5.symm.trans hfn)).symm
      exact ⟨by kernel_rfl, fun j t ht => by
        rw [Tryz.params5] at ht
        have hm : t ∈ [3, 3, 9, 9] := by simpa using Array.mem_of_getElem? ht
        have hall : ([3, 3, 9, 9].all fun u => !Tryz.prog.wantsStandIn u) = true := by kernel_rfl
        exact (show Tryz.prog.wantsStandIn t = false by simpa using List.all_eq_true.1 hall t hm)⟩)
    (by kernel_rfl)

end Go.Proofs.YtpohjcacnkhnkaaGreatDoor
