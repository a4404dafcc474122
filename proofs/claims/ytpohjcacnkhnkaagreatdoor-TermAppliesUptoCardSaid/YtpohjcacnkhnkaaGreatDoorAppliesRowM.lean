/- Proved: copyistlaw40.TermApplies returns true for every size of a screen and every list of operations of bulk at most 1048576, in every order of evaluation that Go leaves open, and its arguments read afterwards as before. Conditions: those of the given card termAppliesUptoCard (the listed tables of Go's library hold what their texts lay), and no more. -/
import Derived.Test.YtpohjcacnkhnkaaGreatDoorRows
import Derived.Test.YtpohjcacnkhnkaaGreatDoorTie
import Derived.Test.YtpohjcacnkhnkaaGreatDoorCards
import Derived.Test.YtpohjcacnkhnkaaGreatDoorM8
import Derived.SevenTiedAt
import Derived.Stop.Joined
import Derived.Deep.DeepHandedRow
set_option linter.all false
set_option maxRecDepth 10000
set_option maxHeartbeats 16000000
open And renaming intro → zA0
open Option renaming bind_eq_bind → zA1, bind_eq_some_iff → zA2, bind_some → zA3, map_some → zA9, map_eq_some_iff → zB3
open Bool renaming and_eq_true → zA4, false_eq_true → zC4, not_true → zE0, and_self → zE3, not_false → zG2
open List renaming mem_singleton → zA5, mem_cons → zA7, length_cons → zB0, getElem?_eq_getElem → zB1, mem_append → zB2, length_append → zB4, mem_map → zB5, length_nil → zB6, mem_of_getElem? → zB9, map_cons → zC0, nil_append → zC1, getElem?_eq_none → zC5, all_eq_true → zC6, mem_cons_of_mem → zC7, getD_eq_getElem?_getD → zC8, nodup_cons → zC9, append_nil → zD0, drop_zero → zD1, not_mem_nil → zD2, append_assoc → zD3, nodup_append → zD4, take_of_length_le → zD6, length_map → zD7, length_drop → zD8, mem_flatMap → zE2, length_replicate → zE4, mem_cons_self → zE5, cons_append → zE7, eq_nil_of_length_eq_zero → zE9, getElem?_map → zF0, drop_eq_nil_of_le → zF1, length_set → zF3, map_nil → zF4, getElem?_cons_zero → zF5, mem_of_mem_take → zF6, mem_of_mem_drop → zF9, mem_range → zG0, getElem?_eq_some_iff → zG1, drop_drop → zG3, getElem?_cons_succ → zG4, getElem_mem → zG7, take_append_drop → zG8
open Nat renaming le_of_ble_eq_true → zA6, le_refl → zA8, zero_le → zB7, zero_add → zB8, lt_or_ge → zC2, le_trans → zC3, lt_of_lt_of_le → zD5, lt_succ_self → zD9, add_zero → zE1, ble_eq → zE6, mul_one → zE8, min → zF2, zero_mul → zF7, add_sub_cancel_left → zF8, sub_self → zG5
open Int renaming toNat_natCast → zG6

namespace Go.Proofs.YtpohjcacnkhnkaaGreatDoor
open Go.ChangeShapes Go.WideShapes Go.ChangeAt Go.RowKit Go.Ax Go.Proofs.YtpohjcacnkhnkaaGreatDoor.Tq

theorem ok_int {P : Program} {w : World} {r : Reach} {base : Nat} {t : TypeId} {v : Value} (ht : P.underlying t = some (.int .i64)) (h : Value.okWide P w r base t v) : ∃ n, v = .int .i64 n := by
  unfold Value.okWide at h
  rw [ht] at h
  unfold Cell.okWide Cell.ok at h
  cases v <;> simp [ht] at h
  exact ⟨_, by rw [h.1]⟩
theorem ok_slice {P : Program} {w : World} {r : Reach} {base : Nat} {t e : TypeId} {v : Value} (ht : P.underlying t = some (.slice e)) (h : Value.okWide P w r base t v) : v.cells.toList = [v] := by
  unfold Value.okWide at h
  rw [ht] at h
  unfold Cell.okWide Cell.ok at h
  cases v <;> simp [ht] at h <;> rfl

theorem ze (os : Os) {H : Type} (enc : TypeId × Value → H) : ∃ x : DataW H, DataW.whole enc Tryz.prog ((World.laidAll Tryz.prog os Rows.termAppliesRow.laid).forCall (fun _ _ => 0) ⟨#[], #[.int .i64 0, .int .i64 0, .slice none 0 0], []⟩).memory Tryz.f4.params.toList Rows.termAppliesSpec.vars false #[Value.int .i64 0, .int .i64 0, .slice none 0 0].toList 8 = some ([.lit (.int .i64 0), .lit (.int .i64 0), x], [], []) ∧ Rows.uptoBulk x ≤ 10 :=
  ⟨.nil, by kernel_rfl, by simp [Rows.uptoBulk]⟩

set_option maxRecDepth 100000 in
theorem yE (os : Os) (started : os.Started) (H : Type) (enc : TypeId × Value → H) (F : Stop.Interp) :
    ReturnsInHanded {} Tryz.checked os 4 .any ((Rows.OpenSpec.upto Rows.termAppliesSpec).preRow enc Tryz.prog Tryz.f4 Rows.termAppliesUptoRow.domain false Rows.termAppliesUptoRow.laid) (((Rows.OpenSpec.upto Rows.termAppliesSpec).at F).post enc Tryz.prog Tryz.f4 false true false false) := by
  obtain ⟨x0, hx, hx9⟩ := ze os enc
  have hok : Input.okWideB Tryz.prog ((World.laidAll Tryz.prog os Rows.termAppliesRow.laid).forCall (fun _ _ => 0) ⟨#[], #[.int .i64 0, .int .i64 0, .slice none 0 0], []⟩) 4 ⟨#[], #[.int .i64 0, .int .i64 0, .slice none 0 0], []⟩ = true := by kernel_rfl
  refine returnsInHanded_of_row (C := Tryz.checked) (s := Rows.OpenSpec.upto Rows.termAppliesSpec) Qb started (by kernel_rfl) Tryz.func4
    ⟨World.laidAll Tryz.prog os Rows.termAppliesRow.laid, fun _ _ => 0, ⟨#[], #[.int .i64 0, .int .i64 0, .slice none 0 0], []⟩, World.laidAll_os _ _ _, World.shaped_of_ZipB (by kernel_rfl) (by kernel_rfl), (Input.okWide_of_okWideB (base := 0) hok).1, (Input.okWide_of_okWideB hok).2,
      OpenSpec.preRow_of_cond 8 hx (by kernel_rfl) (fun k hk => by
        cases hk
        refine decide_eq_true ?_
        simp only [List.append_nil, Rows.uptoBulkAll, Rows.uptoBulk]
        omega) (by kernel_rfl) (by rw [MakeChecks.laidMetH_plain _ _ _ (by kernel_rfl)]; exact laidMet_laidAll _ (by kernel_rfl) (by kernel_rfl)), by
      simp only [Assume.holds]
      exact ⟨by simp, by simp, fun _ => Modest.zero, by simp, by simp⟩⟩ ?_
  intro W base args ds gs before hval0 hW hc hcond _ hL _ _
  have hval : ∀ (j : Nat) t v, Tryz.f4.params[j]? = some t → args[j]? = some v → Value.okWide Tryz.prog W .any base t v := hval0
  have hW' := hW
  obtain ⟨p, q, hA0, hV, rfl, hfz, _⟩ := hW
  have hA : DataW.TrodAll enc Tryz.prog W 0 (fun _ => true) true Tryz.f4.params.toList args.toList ds p := hA0
  rw [Tryz.params4] at hA hval
  obtain ⟨rfl, rfl⟩ := trodVars_none hV
  have hbulk := of_decide_eq_true (hcond _ rfl)
  simp only [List.append_nil] at hW' hfz hbulk
  have hlt : ∀ x ∈ p, x.block < W.heap.size := fun x hx => hW'.lt x hx
  have hA' := hA
  have hL2 : laidMet Tryz.prog Rows.termAppliesRow.laid W := by
    rw [MakeChecks.laidMetH_plain _ _ _ (by kernel_rfl)] at hL
    exact hL
  obtain ⟨e1, e2, e3, hl⟩ := JI hL2
  obtain ⟨args⟩ := args
  obtain ⟨v1, vs1, d1, ds1, p1, q1, rfl, rfl, rfl, a1, hA⟩ := trodAll_cons hA
  obtain ⟨v2, vs2, d2, ds2, p2, q2, rfl, rfl, rfl, a2, hA⟩ := trodAll_cons hA
  obtain ⟨v3, vs3, d3, ds3, p3, q3, rfl, rfl, rfl, a3, hA⟩ := trodAll_cons hA
  obtain ⟨rfl, rfl, rfl⟩ := trodAll_nil hA
  clear hA0 hval0
  obtain ⟨h, rfl⟩ := ok_int (by kernel_rfl) (hval 0 3 _ rfl rfl)
  obtain ⟨w, rfl⟩ := ok_int (by kernel_rfl) (hval 1 3 _ rfl rfl)
  have hv3 := ok_slice (e := 58) (by kernel_rfl) (hval 2 23 _ rfl rfl)
  obtain ⟨ρ0, G0, R0, t0⟩ := hl.ro
  obtain ⟨ρ1, G1, o, l, R1, x1, y1, z1, s1, o1, hb1⟩ := PH R0 a3 hv3
  have hd3 : Rows.uptoBulk d3 ≤ 1048576 := by
    refine Nat.le_trans ?_ hbulk
    exact tQ (l := [d1, d2, d3]) (by simp)
  have t1 : Ps G1 := by
    obtain ⟨n0, tb, pw⟩ := t0
    exact ⟨Nat.lt_of_lt_of_le n0 y1.next, tb.of (y1.get 0 (by omega)) (y1.get 1 (by omega)), pw.of y1.next (y1.get 2 n0)⟩
  have hcall := J8 R1.rel (f := 4) (args := [.int .i64 h, .int .i64 w, o]) (by simp only [aO, aS, s1, Bool.and_self]) R1.base R1.dirty
    (I5 G1 h w o l o1 t1 (fun q hq => by have := hb1 q hq; omega) s1 (Nat.le_of_eq R1.base))
  have hargs : [Value.int .i64 h, .int .i64 w, o].map ρ1.val = [.int .i64 h, .int .i64 w, v3] := by
    rw [List.map_cons, List.map_cons, List.map_cons, List.map_nil, z1]
    rfl
  rw [hargs] at hcall
  refine hcall.mono fun e W' ⟨he, hb⟩ => ?_
  subst he
  exact ⟨_, rfl, _, _, _, [], _, [], hW', trodAll_mk1 (shut_bool Tryz.underlying4 true), qv LM hb (by kernel_rfl) hA' hlt, rfl, hb.frame _, fun h => by cases h⟩

theorem zh : Rows.TermAppliesUptoSaid :=
  OpenClaim.holds_of_cond 4 Tryz.f4 rfl rfl rfl rfl rfl rfl rfl ⟨rfl, rfl, rfl, rfl, rfl⟩ rfl rfl rfl rfl rfl (by kernel_rfl) Tryz.func4 (by kernel_rfl)
    (of_decide_eq_true (by kernel_rfl)) (by unfold Func.isWrapper; first | (rw [if_pos (by decide +kernel)]; kernel_rfl) | (rw [if_neg (by decide +kernel)]; exact ⟨rfl, rfl⟩))
    (fun os started H enc _ F => by rw [OpenClaim.pre_eq_preRow]; exact yE os started H enc F)

theorem termApplies_card : Rows.TermAppliesUptoCardSaid :=
  Claim7.holds_tied_plain_at .later [] _ _ _ _ zh (fun _ h => by cases h) (by kernel_rfl) (fun _ h => by cases h) termAppliesUpto_row_tie rfl ⟨rfl, rfl⟩ (by kernel_rfl) rfl
    (fun f fn hf hfn => by
      obtain rfl : f = 4 := Option.some.inj ((show Tryz.prog.funcNamed "copyist/copyistlaw40.TermApplies" = some 4 by kernel_rfl).symm.trans hf) |>.symm
      obtain rfl : fn = Tryz.f4 := (Option.some.inj (Tryz.func4.symm.trans hfn)).symm
      exact ⟨by kernel_rfl, fun j t ht => by
        rw [Tryz.params4] at ht
        have hm : t ∈ [3, 3, 23] := by simpa using Array.mem_of_getElem? ht
        have hall : ([3, 3, 23].all fun u => !Tryz.prog.wantsStandIn u) = true := by kernel_rfl
        exact (show Tryz.prog.wantsStandIn t = false by simpa using List.all_eq_true.1 hall t hm)⟩)
    (by kernel_rfl)

end Go.Proofs.YtpohjcacnkhnkaaGreatDoor
