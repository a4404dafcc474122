/- Proved: copyistlaw38.FrameDraw returns true for every frame, in every order of evaluation that Go leaves open, and its argument reads afterwards as before. Conditions: those of the given card frameDrawCard (the listed tables of Go's library hold what their texts lay), and no more. -/
import Derived.Test.YtfpckllenkifkaaDoorRows
import Derived.Test.YtfpckllenkifkaaDoorTie
import Derived.Test.YtfpckllenkifkaaDoorCards
import Derived.Test.YtfpckllenkifkaaDoorM8
import Derived.SevenTiedAt
import Derived.Stop.Joined
set_option linter.all false
set_option maxRecDepth 10000
set_option maxHeartbeats 16000000
open And renaming intro → zA0
open Option renaming bind_eq_bind → zA1, bind_eq_some_iff → zA2, bind_some → zA3, map_some → zA8, map_eq_some_iff → zB0
open Bool renaming and_eq_true → zA4, false_eq_true → zC1, not_true → zC2, not_false → zD8, false_and → zE0, and_true → zE6, and_self → zE8
open List renaming getElem?_eq_getElem → zA5, mem_singleton → zA9, mem_cons → zB2, mem_cons_of_mem → zB3, length_cons → zB4, mem_of_getElem? → zB5, map_cons → zB7, mem_cons_self → zB9, mem_append → zC3, drop_zero → zC7, length_append → zC8, nil_append → zC9, length_nil → zD0, all_eq_true → zD1, getElem?_eq_none → zD2, getElem?_cons_zero → zD3, length_drop → zD4, length_replicate → zD6, eq_nil_of_length_eq_zero → zD7, getElem?_eq_some_iff → zE1, getElem?_cons_succ → zE2, length_take → zE3, append_nil → zE4, mem_map → zE7, drop_drop → zE9, take_length → zF0, map_congr_left → zF1, take_of_length_le → zF2, flatMap_cons → zF3, getElem?_take → zF4, drop_eq_nil_of_le → zF5, length_map → zF6, foldl_cons → zF7, mem_flatMap → zF8, getD_eq_getElem?_getD → zF9
open Nat renaming le_refl → zA6, zero_le → zA7, le_of_ble_eq_true → zB1, zero_add → zB6, le_trans → zB8, lt_or_ge → zC0, lt_of_lt_of_le → zC4, lt_succ_self → zC5, ble_eq → zC6, add_zero → zD5, min → zD9, zero_mul → zE5

namespace Go.Proofs.YtfpckllenkifkaaDoor
open Go.ChangeShapes Go.WideShapes Go.ChangeAt Go.RowKit Go.Ax

set_option maxRecDepth 100000 in
theorem draw_lifted (os : Os) (started : os.Started) (H : Type) (enc : TypeId × Value → H) :
    ReturnsInHanded {} Tryd.checked os 3 .any (fun w args => (Rows.frameDrawSpec.pre enc Tryd.prog Tryd.f3 Rows.frameDrawRow.domain false w args ∧ laidMetH Tryd.prog Rows.frameDrawRow.laid w) ∧ sizedMet enc Tryd.prog Tryd.f3 (OpenSpec.ofChange Rows.frameDrawSpec) false w args)
      (Rows.frameDrawSpec.post enc Tryd.prog Tryd.f3 false true false false) := by
  refine returnsInHanded_of_change_and (C := Tryd.checked) (X := fun w _ => laidMetH Tryd.prog Rows.frameDrawRow.laid w) (fun _ _ _ hh h => h.of_heap hh) Tryd.own started (by kernel_rfl) Tryd.func3
    (ChangeSpec.witness_shaped (enc := enc) (C := Tryd.checked) (os := os) (X := fun w _ => laidMetH Tryd.prog Rows.frameDrawRow.laid w) false (World.laidAll Tryd.prog os Rows.frameDrawRow.laid)
      #[.agg #[.int .i64 0, .int .i64 0, .slice none 0 0, .slice none 0 0, .string ⟨#[]⟩, .int .i64 0]] 8 (World.laidAll_os _ _ _)
      (World.shaped_of_ZipB (by kernel_rfl) (by kernel_rfl)) (by kernel_rfl) (by kernel_rfl) (by kernel_rfl)
      (by rw [MakeChecks.laidMetH_plain _ _ _ (by kernel_rfl)]; exact laidMet_laidAll _ (by kernel_rfl) (by kernel_rfl))) ?_
  intro W base args ds gs before hval0 hW hc hz hL _
  have hW' := hW
  obtain ⟨p, q, hA0, hV, rfl, hfz, _⟩ := hW
  have hA : DataW.TrodAll enc Tryd.prog W 0 (fun _ => true) true Tryd.f3.params.toList args.toList ds p := hA0
  rw [Tryd.params3] at hA hz
  obtain ⟨rfl, rfl⟩ := trodVars_none hV
  simp only [List.append_nil] at hW' hfz hz
  have hlt : ∀ x ∈ p, x.block < W.heap.size := fun x hx => hW'.lt x hx
  have hA' := hA
  rw [MakeChecks.laidMetH_plain _ _ _ (by kernel_rfl)] at hL
  obtain ⟨e1, e2, hl⟩ := tabs_laidD hL
  obtain ⟨args⟩ := args
  obtain ⟨v1, vs1, d1, ds1, p1, q1, rfl, rfl, rfl, a1, hA⟩ := trodAll_cons hA
  obtain ⟨rfl, rfl, rfl⟩ := trodAll_nil hA
  clear hA0 hval0
  have hw : Wt Tryd.prog 25 d1 := fun n hn => by
    simpa using List.all_eq_true.1 hz n (DataW.weights_mem_each (j := 0) (by rfl) (by rfl) n hn)
  obtain ⟨ρ0, G0, R0, t0, n0⟩ := hl.ro
  obtain ⟨fuel, hf⟩ := a1
  obtain ⟨ρ1, G1, us, R1, x1, y1, z1, s1, val1⟩ := R0.val (fun _ => rfl) 12 25 (by kernel_rfl) v1.cells.toList fuel _ hf hw
  obtain ⟨f, hfr⟩ := fr_of us val1
  obtain ⟨pv, bv, rfl, hF, hpos⟩ := fr_rd R1.rel s1 hfr
  have n1 : 1 < G1.next := Nat.lt_of_lt_of_le n0 y1.next
  have tab1 : Tab G1 := t0.of (y1.get 0 (by omega)) (y1.get 1 (by omega))
  have hcall := rel_calls R1.rel (f := 3) (args := [.agg ⟨frL pv bv f⟩]) (by simp only [scbL, scb, scbA, s1, Bool.and_self]) R1.base R1.dirty
    (law3_c false G1 ⟨tab1, n1⟩ f pv bv hF hpos (Nat.le_of_eq R1.base))
  have hargs : [Value.agg ⟨frL pv bv f⟩].map ρ1.val = [v1] := by
    have hv : v1 = .agg ⟨v1.cells.toList⟩ := by
      cases v1 with
      | agg cs => rfl
      | _ => simp [Value.cells, frL] at z1
    rw [hv, ← z1, List.map_cons, List.map_nil]
    simp [Ren.val, Ren.valA, Ren.valL, frL]
  rw [hargs] at hcall
  refine hcall.mono fun e W' ⟨he, hb⟩ => ?_
  subst he
  exact ⟨_, rfl, _, _, _, [], _, [], hW', trodAll_mk1 (shut_bool Tryd.underlying4 true), trodAll_carry Tryd.laidOut hb (by kernel_rfl) hA' hlt, rfl, hb.frame _, fun h => by cases h⟩

theorem draw_holds : Rows.FrameDrawSaid :=
  OpenClaim.holds_of_wide 3 Tryd.f3 rfl rfl rfl rfl rfl rfl rfl ⟨rfl, rfl, rfl, rfl, rfl⟩ rfl rfl rfl rfl rfl (by kernel_rfl) Tryd.func3 (by kernel_rfl)
    (of_decide_eq_true (by kernel_rfl)) (by unfold Func.isWrapper; first | (rw [if_pos (by decide +kernel)]; kernel_rfl) | (rw [if_neg (by decide +kernel)]; exact ⟨rfl, rfl⟩))
    (fun os started H enc _ => draw_lifted os started H enc)

theorem frameDraw_card : Rows.FrameDrawCardSaid :=
  Claim7.holds_tied_plain_at .later [] [.data, .data, .data, .data, .pinned] true (true, "c412a8a6c49cd6b2fe09513aac06e59844865c9657dc0ece8d7212a31978a57b") false draw_holds (fun _ h => by cases h) (by kernel_rfl) (fun _ h => by cases h) frameDraw_row_tie rfl ⟨rfl, rfl⟩ (by kernel_rfl) rfl
    (fun f fn hf hfn => by
      obtain rfl : f = 3 := Option.some.inj ((show Tryd.prog.funcNamed "copyist/copyistlaw38.FrameDraw" = some 3 by kernel_rfl).symm.trans hf) |>.symm
      obtain rfl : fn = Tryd.f3 := (Option.some.inj (Tryd.func3.symm.trans hfn)).symm
      exact ⟨by kernel_rfl, fun j t ht => by
        rw [Tryd.params3] at ht
        have hm : t ∈ [25] := by simpa using Array.mem_of_getElem? ht
        have hall : ([25].all fun u => !Tryd.prog.wantsStandIn u) = true := by kernel_rfl
        exact (show Tryd.prog.wantsStandIn t = false by simpa using List.all_eq_true.1 hall t hm)⟩)
    (by kernel_rfl)

end Go.Proofs.YtfpckllenkifkaaDoor
