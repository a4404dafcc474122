/- Proved: copyistlaw38.FrameValid returns true for every frame, in every order of evaluation that Go leaves open, and its argument reads afterwards as before. Conditions: those of the given card frameValidCard (the listed tables of Go's library hold what their texts lay), and no more. -/
import Derived.Test.YtfpckllenkifkaaGreatDoorRows
import Derived.Test.YtfpckllenkifkaaGreatDoorTie
import Derived.Test.YtfpckllenkifkaaGreatDoorCards
import Derived.Test.YtfpckllenkifkaaGreatDoorM9
import Derived.SevenTiedAt
import Derived.Stop.Joined
set_option linter.all false
set_option maxRecDepth 10000
set_option maxHeartbeats 16000000
open And renaming intro → zA0
open Option renaming bind_eq_bind → zA1, bind_eq_some_iff → zA2, bind_some → zA3, map_some → zA5, map_eq_some_iff → zA6
open Bool renaming and_eq_true → zA4, false_eq_true → zB7, and_self → zD6
open List renaming getElem?_eq_getElem → zA7, length_cons → zB0, mem_cons → zB1, map_cons → zB3, mem_singleton → zB4, mem_cons_of_mem → zB5, mem_cons_self → zB9, mem_of_getElem? → zC2, all_eq_true → zC4, getElem?_cons_zero → zC5, getElem?_eq_none → zC6, drop_zero → zC7, length_append → zC8, mem_append → zC9, getElem?_cons_succ → zD0, length_replicate → zD2, eq_nil_of_length_eq_zero → zD4, nil_append → zD5, length_nil → zD7, map_congr_left → zD8, mem_map → zE0, flatMap_cons → zE1, append_nil → zE2, length_take → zE3, length_drop → zE4
open Nat renaming le_refl → zA8, zero_le → zA9, le_of_ble_eq_true → zB2, lt_or_ge → zB6, le_trans → zB8, zero_add → zC0, lt_succ_self → zC1, lt_of_lt_of_le → zC3, min → zD1, add_zero → zD3, eq_of_beq_eq_true → zD9

namespace Go.Proofs.YtfpckllenkifkaaGreatDoor
open Go.ChangeShapes Go.WideShapes Go.ChangeAt Go.RowKit Go.Ax

set_option maxRecDepth 100000 in
theorem valid_lifted (os : Os) (started : os.Started) (H : Type) (enc : TypeId × Value → H) :
    ReturnsInHanded {} Tryz.checked os 3 .any (fun w args => (Rows.frameValidSpec.pre enc Tryz.prog Tryz.f3 Rows.frameValidRow.domain false w args ∧ laidMetH Tryz.prog Rows.frameValidRow.laid w) ∧ sizedMet enc Tryz.prog Tryz.f3 (OpenSpec.ofChange Rows.frameValidSpec) false w args)
      (Rows.frameValidSpec.post enc Tryz.prog Tryz.f3 false true false false) := by
  refine returnsInHanded_of_change_and (C := Tryz.checked) (X := fun w _ => laidMetH Tryz.prog Rows.frameValidRow.laid w) (fun _ _ _ hh h => h.of_heap hh) ownZ started (by kernel_rfl) Tryz.func3
    (ChangeSpec.witness_shaped (enc := enc) (C := Tryz.checked) (os := os) (X := fun w _ => laidMetH Tryz.prog Rows.frameValidRow.laid w) false (World.laidAll Tryz.prog os Rows.frameValidRow.laid)
      #[.agg #[.int .i64 0, .int .i64 0, .slice none 0 0, .slice none 0 0, .string ⟨#[]⟩, .int .i64 0]] 8 (World.laidAll_os _ _ _)
      (World.shaped_of_ZipB (by kernel_rfl) (by kernel_rfl)) (by kernel_rfl) (by kernel_rfl) (by kernel_rfl)
      (by rw [MakeChecks.laidMetH_plain _ _ _ (by kernel_rfl)]; exact laidMet_laidAll _ (by kernel_rfl) (by kernel_rfl))) ?_
  intro W base args ds gs before hval0 hW hc hz hL _
  have hW' := hW
  obtain ⟨p, q, hA0, hV, rfl, hfz, _⟩ := hW
  have hA : DataW.TrodAll enc Tryz.prog W 0 (fun _ => true) true Tryz.f3.params.toList args.toList ds p := hA0
  rw [Tryz.params3] at hA hz
  obtain ⟨rfl, rfl⟩ := trodVars_none hV
  simp only [List.append_nil] at hW' hfz hz
  have hlt : ∀ x ∈ p, x.block < W.heap.size := fun x hx => hW'.lt x hx
  have hA' := hA
  rw [MakeChecks.laidMetH_plain _ _ _ (by kernel_rfl)] at hL
  obtain ⟨e1, e2, e3, e4, e5, hl⟩ := tabs_laid hL
  obtain ⟨args⟩ := args
  obtain ⟨v1, vs1, d1, ds1, p1, q1, rfl, rfl, rfl, a1, hA⟩ := trodAll_cons hA
  obtain ⟨rfl, rfl, rfl⟩ := trodAll_nil hA
  clear hA0 hval0
  have hw : Wt Tryz.prog 25 d1 := fun n hn => by
    simpa using List.all_eq_true.1 hz n (DataW.weights_mem_each (j := 0) (by rfl) (by rfl) n hn)
  obtain ⟨ρ0, G0, R0, t0, n0⟩ := hl.ro
  obtain ⟨fuel, hf⟩ := a1
  obtain ⟨ρ1, G1, us, R1, x1, y1, z1, s1, val1⟩ := R0.val (fun _ => rfl) 12 25 (by kernel_rfl) v1.cells.toList fuel _ hf hw
  obtain ⟨f, hfr⟩ := fr_of us val1
  obtain ⟨pv, bv, rfl, hF⟩ := fr_rd R1.rel s1 hfr
  have n1 : 6 ≤ G1.next := Nat.le_trans n0 y1.next
  have tab1 : Tab5 G1 := by
    obtain ⟨e1, e2, e3, e4, e5, h1, h2, h3, h4, h5⟩ := t0
    exact ⟨e1, e2, e3, e4, e5, (bk_get (y1.get 0 (by omega))).trans h1, (bk_get (y1.get 1 (by omega))).trans h2, (bk_get (y1.get 3 (by omega))).trans h3, (bk_get (y1.get 4 (by omega))).trans h4, (bk_get (y1.get 5 (by omega))).trans h5⟩
  have hcall := rel_calls R1.rel (f := 3) (args := [.agg ⟨frL pv bv f⟩]) (by simp only [scbL, scb, scbA, s1, Bool.and_self]) R1.base R1.dirty
    (law3v_c G1 tab1 n1 f pv bv hF (Nat.le_of_eq R1.base))
  have hargs : [Value.agg ⟨frL pv bv f⟩].map ρ1.val = [v1] := by
    have hv : v1 = .agg ⟨v1.cells.toList⟩ := by
      cases v1 with
      | agg cs => rfl
      | _ => simp [Value.cells, frL] at z1
    rw [hv, ← z1, List.map_cons, List.map_nil]
    simp [Ren.val, Ren.valA, Ren.valL, frL]
  rw [hargs] at hcall
  refine hcall.mono fun e W' ⟨he, hb⟩ => ?_
  subst he
  exact ⟨_, rfl, _, _, _, [], _, [], hW', trodAll_mk1 (shut_bool Tryz.underlying4 true), trodAll_carry laidOutZ hb (by kernel_rfl) hA' hlt, rfl, hb.frame _, fun h => by cases h⟩

theorem valid_holds : Rows.FrameValidSaid :=
  OpenClaim.holds_of_wide 3 Tryz.f3 rfl rfl rfl rfl rfl rfl rfl ⟨rfl, rfl, rfl, rfl, rfl⟩ rfl rfl rfl rfl rfl (by kernel_rfl) Tryz.func3 (by kernel_rfl)
    (of_decide_eq_true (by kernel_rfl)) (by unfold Func.isWrapper; first | (rw [if_pos (by decide +kernel)]; kernel_rfl) | (rw [if_neg (by decide +kernel)]; exact ⟨rfl, rfl⟩))
    (fun os started H enc _ => valid_lifted os started H enc)

theorem frameValid_card : Rows.FrameValidCardSaid :=
  Claim7.holds_tied_plain_at .later [] [.data, .data, .data, .data, .pinned] true (true, "57901aa59b279770811083ff035c350b36228fb603162d3c0128be5108126b40") false valid_holds (fun _ h => by cases h) (by kernel_rfl) (fun _ h => by cases h) frameValid_row_tie rfl ⟨rfl, rfl⟩ (by kernel_rfl) rfl
    (fun f fn hf hfn => by
      obtain rfl : f = 3 := Option.some.inj ((show Tryz.prog.funcNamed "copyist/copyistlaw38.FrameValid" = some 3 by kernel_rfl).symm.trans hf) |>.symm
      obtain rfl : fn = Tryz.f3 := (Option.some.inj (Tryz.func3.symm.trans hfn)).symm
      exact ⟨by kernel_rfl, fun j t ht => by
        rw [Tryz.params3] at ht
        have hm : t ∈ [25] := by simpa using Array.mem_of_getElem? ht
        have hall : ([25].all fun u => !Tryz.prog.wantsStandIn u) = true := by kernel_rfl
        exact (show Tryz.prog.wantsStandIn t = false by simpa using List.all_eq_true.1 hall t hm)⟩)
    (by kernel_rfl)

end Go.Proofs.YtfpckllenkifkaaGreatDoor
