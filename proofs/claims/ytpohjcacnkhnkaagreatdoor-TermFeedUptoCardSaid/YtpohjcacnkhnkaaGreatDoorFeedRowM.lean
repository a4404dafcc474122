/- Proved: copyistlaw40.TermFeed returns true for every size of a screen, all bytes, all sizes of pieces and every list of operations, where all that is read is of bulk at most 1048576, in every order of evaluation that Go leaves open, and its arguments read afterwards as before. Conditions: those of the given card termFeedUptoCard (the listed tables of Go's library hold what their texts lay), and no more. -/
import Derived.Test.YtpohjcacnkhnkaaGreatDoorRows
import Derived.Test.YtpohjcacnkhnkaaGreatDoorTie
import Derived.Test.YtpohjcacnkhnkaaGreatDoorCards
import Derived.Test.YtpohjcacnkhnkaaGreatDoorM9
import Derived.SevenTiedAt
import Derived.Stop.Joined
import Derived.Deep.DeepHandedRow
set_option linter.all false
set_option maxRecDepth 10000
set_option maxHeartbeats 16000000
open And renaming intro → zA0
open Option renaming bind_eq_bind → zA1, bind_eq_some_iff → zA2, bind_some → zA4, map_some → zB1, map_eq_some_iff → zB5
open List renaming length_cons → zA3, mem_singleton → zA6, mem_cons → zA9, length_nil → zB0, length_append → zB2, getElem?_eq_getElem → zB3, mem_append → zB4, mem_map → zB6, nodup_cons → zB8, map_cons → zB9, mem_of_getElem? → zC0, length_drop → zC1, take_of_length_le → zC3, mem_cons_of_mem → zC4, getElem?_eq_none → zC5, append_assoc → zC9, nil_append → zD0, drop_zero → zD2, all_eq_true → zD3, append_nil → zD4, nodup_append → zD5, mem_cons_self → zD7, getElem?_eq_some_iff → zE0, getElem?_map → zE1, getD_eq_getElem?_getD → zE3, map_nil → zE6, eq_nil_of_length_eq_zero → zE7, drop_eq_nil_of_le → zE8, length_map → zE9, length_take → zF1, not_mem_nil → zF2, getElem?_cons_zero → zF3, getElem?_set → zF4, mem_range → zF5, cons_append → zG1, length_replicate → zG2, ext_getElem? → zG4, getElem?_append_right → zG5, getElem?_cons_succ → zG6
open Nat renaming le_refl → zA5, le_of_ble_eq_true → zA8, zero_le → zB7, lt_or_ge → zC2, zero_add → zC6, le_trans → zC7, lt_of_lt_of_le → zD1, add_zero → zD6, lt_succ_self → zD9, ble_eq → zE2, mul_one → zE5, min → zF0, add_sub_cancel_left → zF9, sub_self → zG0
open Bool renaming and_eq_true → zA7, false_eq_true → zC8, and_self → zD8, not_true → zE4, or_false → zF6, false_and → zF7, or_true → zF8, or_eq_true → zG3

namespace Go.Proofs.YtpohjcacnkhnkaaGreatDoor
open Go.ChangeShapes Go.WideShapes Go.ChangeAt Go.RowKit Go.Ax Go.Proofs.YtpohjcacnkhnkaaGreatDoor.Tq

theorem ok_int {P : Program} {w : World} {r : Reach} {base : Nat} {t : TypeId} {v : Value} (ht : P.underlying t = some (.int .i64)) (h : Value.okWide P w r base t v) : ∃ n, v = .int .i64 n := by
  unfold Value.okWide at h
  rw [ht] at h
  unfold Cell.okWide Cell.ok at h
  cases v <;> simp [ht] at h
  exact ⟨_, by rw [h.1]⟩
theorem pN {P : Program} {w : World} {r : Reach} {base : Nat} {t : TypeId} {v : Value} (ht : P.underlying t = some .string) (h : Value.okWide P w r base t v) : ∃ s, v = .string s := by
  unfold Value.okWide at h
  rw [ht] at h
  unfold Cell.okWide Cell.ok at h
  cases v <;> simp [ht] at h
  exact ⟨_, rfl⟩
theorem ok_slice {P : Program} {w : World} {r : Reach} {base : Nat} {t e : TypeId} {v : Value} (ht : P.underlying t = some (.slice e)) (h : Value.okWide P w r base t v) : v.cells.toList = [v] := by
  unfold Value.okWide at h
  rw [ht] at h
  unfold Cell.okWide Cell.ok at h
  cases v <;> simp [ht] at h <;> rfl

theorem FI (os : Os) {H : Type} (enc : TypeId × Value → H) : ∃ s x y : DataW H, DataW.whole enc Tryz.prog ((World.laidAll Tryz.prog os Rows.termFeedRow.laid).forCall (fun _ _ => 0) ⟨#[], #[.int .i64 0, .int .i64 0, .string ⟨#[]⟩, .slice none 0 0, .slice none 0 0], []⟩).memory Tryz.f3.params.toList Rows.termFeedSpec.vars false #[Value.int .i64 0, .int .i64 0, .string ⟨#[]⟩, .slice none 0 0, .slice none 0 0].toList 8 = some ([.lit (.int .i64 0), .lit (.int .i64 0), s, x, y], [], []) ∧ Rows.uptoBulk s + (Rows.uptoBulk x + Rows.uptoBulk y) ≤ 10 :=
  ⟨.lit (.string []), .nil, .nil, by kernel_rfl, by simp [Rows.uptoBulk]⟩

set_option maxRecDepth 100000 in
theorem Ej (os : Os) (started : os.Started) (H : Type) (enc : TypeId × Value → H) (F : Stop.Interp) :
    ReturnsInHanded {} Tryz.checked os 3 .any ((Rows.OpenSpec.upto Rows.termFeedSpec).preRow enc Tryz.prog Tryz.f3 Rows.termFeedUptoRow.domain false Rows.termFeedUptoRow.laid) (((Rows.OpenSpec.upto Rows.termFeedSpec).at F).post enc Tryz.prog Tryz.f3 false true false false) := by
  obtain ⟨s0, x0, y0, hx, hx9⟩ := FI os enc
  have hok : Input.okWideB Tryz.prog ((World.laidAll Tryz.prog os Rows.termFeedRow.laid).forCall (fun _ _ => 0) ⟨#[], #[.int .i64 0, .int .i64 0, .string ⟨#[]⟩, .slice none 0 0, .slice none 0 0], []⟩) 3 ⟨#[], #[.int .i64 0, .int .i64 0, .string ⟨#[]⟩, .slice none 0 0, .slice none 0 0], []⟩ = true := by kernel_rfl
  refine returnsInHanded_of_row (C := Tryz.checked) (s := Rows.OpenSpec.upto Rows.termFeedSpec) Sf started (by kernel_rfl) Tryz.func3
    ⟨World.laidAll Tryz.prog os Rows.termFeedRow.laid, fun _ _ => 0, ⟨#[], #[.int .i64 0, .int .i64 0, .string ⟨#[]⟩, .slice none 0 0, .slice none 0 0], []⟩, World.laidAll_os _ _ _, World.shaped_of_ZipB (by kernel_rfl) (by kernel_rfl), (Input.okWide_of_okWideB (base := 0) hok).1, (Input.okWide_of_okWideB hok).2,
      OpenSpec.preRow_of_cond 8 hx (by kernel_rfl) (fun k hk => by
        cases hk
        refine decide_eq_true ?_
        simp only [List.append_nil, Rows.uptoBulkAll, Rows.uptoBulk]
        omega) (by kernel_rfl) (by rw [MakeChecks.laidMetH_plain _ _ _ (by kernel_rfl)]; exact laidMet_laidAll _ (by kernel_rfl) (by kernel_rfl)), by
      simp only [Assume.holds]
      exact ⟨by simp, by simp, fun _ => Modest.zero, by simp, by simp⟩⟩ ?_
  intro W base args ds gs before hval0 hW hc hcond _ hL _ _
  have hval : ∀ (j : Nat) t v, Tryz.f3.params[j]? = some t → args[j]? = some v → Value.okWide Tryz.prog W .any base t v := hval0
  have hW' := hW
  obtain ⟨p, q, hA0, hV, rfl, hfz, _⟩ := hW
  have hA : DataW.TrodAll enc Tryz.prog W 0 (fun _ => true) true Tryz.f3.params.toList args.toList ds p := hA0
  rw [Tryz.params3] at hA hval
  obtain ⟨rfl, rfl⟩ := trodVars_none hV
  have hbulk := of_decide_eq_true (hcond _ rfl)
  simp only [List.append_nil] at hW' hfz hbulk
  have hlt : ∀ x ∈ p, x.block < W.heap.size := fun x hx => hW'.lt x hx
  have hA' := hA
  have hL2 : laidMet Tryz.prog Rows.termFeedRow.laid W := by
    rw [MakeChecks.laidMetH_plain _ _ _ (by kernel_rfl)] at hL
    exact hL
  obtain ⟨e1, e2, e3, hl⟩ := JC hL2
  obtain ⟨args⟩ := args
  obtain ⟨v1, vs1, d1, ds1, p1, q1, rfl, rfl, rfl, a1, hA⟩ := trodAll_cons hA
  obtain ⟨v2, vs2, d2, ds2, p2, q2, rfl, rfl, rfl, a2, hA⟩ := trodAll_cons hA
  obtain ⟨v3, vs3, d3, ds3, p3, q3, rfl, rfl, rfl, a3, hA⟩ := trodAll_cons hA
  obtain ⟨v4, vs4, d4, ds4, p4, q4, rfl, rfl, rfl, a4, hA⟩ := trodAll_cons hA
  obtain ⟨v5, vs5, d5, ds5, p5, q5, rfl, rfl, rfl, a5, hA⟩ := trodAll_cons hA
  obtain ⟨rfl, rfl, rfl⟩ := trodAll_nil hA
  clear hA0 hval0
  obtain ⟨h, rfl⟩ := ok_int (by kernel_rfl) (hval 0 3 _ rfl rfl)
  obtain ⟨w, rfl⟩ := ok_int (by kernel_rfl) (hval 1 3 _ rfl rfl)
  obtain ⟨s, rfl⟩ := pN (by kernel_rfl) (hval 2 9 _ rfl rfl)
  have hv4 := ok_slice (e := 3) (by kernel_rfl) (hval 3 22 _ rfl rfl)
  have hv5 := ok_slice (e := 58) (by kernel_rfl) (hval 4 23 _ rfl rfl)
  obtain ⟨ρ0, G0, R0, t0⟩ := hl.ro
  obtain ⟨ρ1, G1, z, sz, R1, x1, y1, z1, s1, o1⟩ := N8 R0 a4 hv4
  obtain ⟨ρ2, G2, o, l, R2, x2, y2, z2, s2, o2, hb2⟩ := PW R1 a5 hv5
  have hd5 : Rows.uptoBulk d5 ≤ 1048576 := by
    refine Nat.le_trans ?_ hbulk
    exact sU (l := [d1, d2, d3, d4, d5]) (by simp)
  have y02 := y1.trans y2
  have t2 : Px G2 := by
    obtain ⟨n0, tb, pw⟩ := t0
    exact ⟨Nat.lt_of_lt_of_le n0 y02.next, tb.of (y02.get 0 (by omega)) (y02.get 1 (by omega)), pw.of y02.next (y02.get 2 n0)⟩
  have s1' := cS y2.next _ s1
  have hz2 : pk G2 z sz := o1.of fun n hn => y2.get n (dQ _ s1 n hn)
  have e1' : ρ2.val z = v4 := by rw [fJ x2 _ s1, z1]
  have hcall := J9 R2.rel (f := 3) (args := [.int .i64 h, .int .i64 w, .string s, z, o]) (by simp only [aX, aV, s1', s2, Bool.and_self]) R2.base R2.dirty
    (Oz G2 h w s z sz o l t2 (Nat.le_of_eq R2.base) hz2 (fun n hn => dQ _ s1' n hn) o2 (fun q hq => by have := hb2 q hq; omega) s2)
  have hargs : [Value.int .i64 h, .int .i64 w, .string s, z, o].map ρ2.val = [.int .i64 h, .int .i64 w, .string s, v4, v5] := by
    rw [List.map_cons, List.map_cons, List.map_cons, List.map_cons, List.map_cons, List.map_nil, z2, e1']
    rfl
  rw [hargs] at hcall
  refine hcall.mono fun e W' ⟨he, hb⟩ => ?_
  subst he
  exact ⟨_, rfl, _, _, _, [], _, [], hW', trodAll_mk1 (shut_bool Tryz.underlying4 true), qh NF hb (by kernel_rfl) hA' hlt, rfl, hb.frame _, fun h => by cases h⟩

theorem Gq : Rows.TermFeedUptoSaid :=
  OpenClaim.holds_of_cond 3 Tryz.f3 rfl rfl rfl rfl rfl rfl rfl ⟨rfl, rfl, rfl, rfl, rfl⟩ rfl rfl rfl rfl rfl (by kernel_rfl) Tryz.func3 (by kernel_rfl)
    (of_decide_eq_true (by kernel_rfl)) (by unfold Func.isWrapper; first | (rw [if_pos (by decide +kernel)]; kernel_rfl) | (rw [if_neg (by decide +kernel)]; exact ⟨rfl, rfl⟩))
    (fun os started H enc _ F => by rw [OpenClaim.pre_eq_preRow]; exact Ej os started H enc F)

theorem termFeed_card : Rows.TermFeedUptoCardSaid :=
  Claim7.holds_tied_plain_at .later [] _ _ _ _ Gq (fun _ h => by cases h) (by kernel_rfl) (fun _ h => by cases h) termFeedUpto_row_tie rfl ⟨rfl, rfl⟩ (by kernel_rfl) rfl
    (fun f fn hf hfn => by
      obtain rfl : f = 3 := Option.some.inj ((show Tryz.prog.funcNamed "copyist/copyistlaw40.TermFeed" = some 3 by kernel_rfl).symm.trans hf) |>.symm
      obtain rfl : fn = Tryz.f3 := (Option.some.inj (Tryz.func3.symm.trans hfn)).symm
      exact ⟨by kernel_rfl, fun j t ht => by
        rw [Tryz.params3] at ht
        have hm : t ∈ [3, 3, 9, 22, 23] := by simpa using Array.mem_of_getElem? ht
        have hall : ([3, 3, 9, 22, 23].all fun u => !Tryz.prog.wantsStandIn u) = true := by kernel_rfl
        exact (show Tryz.prog.wantsStandIn t = false by simpa using List.all_eq_true.1 hall t hm)⟩)
    (by kernel_rfl)

end Go.Proofs.YtpohjcacnkhnkaaGreatDoor
