/- Proved: copyistlaw39.DiffLeast returns true for every two screens, in every order of evaluation that Go leaves open, and its arguments read afterwards as before. Conditions: those of the given card diffLeastCard (the listed tables of Go's library hold what their texts lay), and no more. -/
import Derived.Test.YtaojjfebkldmnaaDoorRows
import Derived.Test.YtaojjfebkldmnaaDoorTie
import Derived.Test.YtaojjfebkldmnaaDoorCards
import Derived.Test.YtaojjfebkldmnaaDoorM7
import Derived.Test.YtaojjfebkldmnaaDoorM8
import Derived.Test.YtaojjfebkldmnaaDoorM20
import Derived.SevenTiedAt
import Derived.Stop.Joined
set_option linter.all false
set_option maxRecDepth 10000
set_option maxHeartbeats 16000000
open And renaming intro → zA0
open Option renaming bind_eq_bind → zA1, bind_eq_some_iff → zA2, bind_some → zA3, map_some → zA7, map_eq_some_iff → zB1
open Bool renaming and_eq_true → zA4, false_eq_true → zC2, not_true → zC8, and_self → zD1, not_false → zD6
open Nat renaming le_refl → zA5, le_of_ble_eq_true → zA9, zero_le → zB0, zero_add → zC1, lt_or_ge → zC4, lt_succ_self → zC6, add_zero → zC7, lt_of_lt_of_le → zC9, le_of_eq → zD2, le_trans → zD9, zero_mul → zE1, sub_self → zE9, eq_of_beq_eq_true → zF4
open List renaming getElem?_eq_getElem → zA6, mem_singleton → zA8, mem_cons → zB2, mem_cons_of_mem → zB3, mem_append → zB4, length_cons → zB5, length_append → zB6, map_cons → zB7, nil_append → zB8, mem_of_getElem? → zB9, all_eq_true → zC0, length_nil → zC3, eq_nil_of_length_eq_zero → zC5, append_nil → zD0, drop_zero → zD3, mem_append_left → zD4, mem_append_right → zD5, mem_cons_self → zD7, length_drop → zD8, getElem?_eq_none → zE0, getElem?_eq_some_iff → zE2, mem_flatMap → zE3, mem_of_mem_take → zE4, mem_of_mem_drop → zE5, take_of_length_le → zE6, drop_eq_nil_of_le → zE7, getD_eq_getElem?_getD → zE8, drop_eq_getElem_cons → zF0, mem_range → zF1, map_nil → zF2, cons_append → zF3, getElem?_cons_zero → zF5, length_take → zF6, take_length → zF7, flatMap_cons → zF8, getElem?_cons_succ → zF9

namespace Go.Proofs.YtaojjfebkldmnaaDoor
open Go.ChangeShapes Go.WideShapes Go.ChangeAt Go.RowKit Go.Ax

theorem tab_hyps {w : World} {e1 e2 : TypeId} (h : Laid w e1 e2) : ∀ x ∈ tabT e1 e2, x.1 < Tryd.prog.globals.size ∧ afL x.2.2 = true ∧ ∃ c, w.heap[x.1]? = some (.cells c x.2.1 (0, 0)) ∧ c.toList = x.2.2 := by
  intro x hx
  simp only [tabT, List.mem_cons, List.not_mem_nil, or_false] at hx
  rcases hx with rfl | rfl
  · exact ⟨show 0 < Tryd.prog.globals.size by decide +kernel, by kernel_rfl, h.1⟩
  · exact ⟨show 1 < Tryd.prog.globals.size by decide +kernel, by kernel_rfl, h.2⟩

theorem dk_c (H : AHeap) (t : Tab H) (_ : 1 < H.next) : Pure 6 [] H (.bool true) := by
  intro ρ w r hsc F n R hF hR
  obtain ⟨e1, e2, b1, b2⟩ := t
  obtain ⟨c1, a1, d1⟩ := tab_world r (show 0 < Tryd.prog.globals.size by decide +kernel) b1 (by kernel_rfl)
  obtain ⟨c2, a2, d2⟩ := tab_world r (show 1 < Tryd.prog.globals.size by decide +kernel) b2 (by kernel_rfl)
  have hc := (ansT_in mixed knh8 rfl (known_true e1 e2) (tab_hyps ⟨⟨c1, a1, d1⟩, c2, a2, d2⟩) F n hF).1
  refine hc.mono ?_
  rintro e w' ⟨rfl, hb⟩
  have := hR ρ w' (St.below r hb) rfl
  rwa [val_af ρ _ rfl] at this

set_option maxRecDepth 100000 in
theorem least_lifted (os : Os) (started : os.Started) (H : Type) (enc : TypeId × Value → H) :
    ReturnsInHanded {} Tryd.checked os 8 .any (fun w args => (Rows.diffLeastSpec.pre enc Tryd.prog Tryd.f8 Rows.diffLeastRow.domain false w args ∧ laidMetH Tryd.prog Rows.diffLeastRow.laid w) ∧ sizedMet enc Tryd.prog Tryd.f8 (OpenSpec.ofChange Rows.diffLeastSpec) false w args)
      (Rows.diffLeastSpec.post enc Tryd.prog Tryd.f8 false true false false) := by
  refine returnsInHanded_of_change_and (C := Tryd.checked) (X := fun w _ => laidMetH Tryd.prog Rows.diffLeastRow.laid w) (fun _ _ _ hh h => h.of_heap hh) Tryd.own started (by kernel_rfl) Tryd.func8
    (ChangeSpec.witness_shaped (enc := enc) (C := Tryd.checked) (os := os) (X := fun w _ => laidMetH Tryd.prog Rows.diffLeastRow.laid w) false (World.laidAll Tryd.prog os Rows.diffLeastRow.laid)
      #[.agg #[.slice none 0 0, .int .i64 0, .int .i64 0], .agg #[.slice none 0 0, .int .i64 0, .int .i64 0]] 8 (World.laidAll_os _ _ _)
      (World.shaped_of_ZipB (by kernel_rfl) (by kernel_rfl)) (by kernel_rfl) (by kernel_rfl) (by kernel_rfl)
      (by rw [MakeChecks.laidMetH_plain _ _ _ (by kernel_rfl)]; exact laidMet_laidAll _ (by kernel_rfl) (by kernel_rfl))) ?_
  intro W base args ds gs before hval0 hW hc _ hL _
  have hval : ∀ (j : Nat) t v, Tryd.f8.params[j]? = some t → args[j]? = some v → Value.okWide Tryd.prog W .any base t v := hval0
  have hW' := hW
  obtain ⟨p, q, hA0, hV, rfl, hfz, _⟩ := hW
  have hA : DataW.TrodAll enc Tryd.prog W 0 (fun _ => true) true Tryd.f8.params.toList args.toList ds p := hA0
  rw [Tryd.params8] at hA hval
  obtain ⟨rfl, rfl⟩ := trodVars_none hV
  simp only [List.append_nil] at hW' hfz
  have hlt : ∀ x ∈ p, x.block < W.heap.size := fun x hx => hW'.lt x hx
  have hA' := hA
  rw [MakeChecks.laidMetH_plain _ _ _ (by kernel_rfl)] at hL
  obtain ⟨e1, e2, hl⟩ := tabs_laid hL
  obtain ⟨args⟩ := args
  obtain ⟨v1, vs1, d1, ds1, p1, q1, rfl, rfl, rfl, a1, hA⟩ := trodAll_cons hA
  obtain ⟨v2, vs2, d2, ds2, p2, q2, rfl, rfl, rfl, a2, hA⟩ := trodAll_cons hA
  obtain ⟨rfl, rfl, rfl⟩ := trodAll_nil hA
  clear hA0 hval0
  obtain ⟨ρ0, G0, R0, t0, n0⟩ := hl.ro
  obtain ⟨ρ1, G1, u, g, r, c, R1, x1, y1, z1, s1, gr1, sc1⟩ := ro_screen R0 a1
  obtain ⟨ρ2, G2, o, h, r', c', R2, x2, y2, z2, s2, gr2, sc2⟩ := ro_screen R1 a2
  have n1 : 1 < G1.next := Nat.lt_of_lt_of_le n0 y1.next
  have n2 : 1 < G2.next := Nat.lt_of_lt_of_le n1 y2.next
  have tab2 : Tab G2 := (t0.of (y1.get 0 (by omega)) (y1.get 1 (by omega))).of (y2.get 0 (by omega)) (y2.get 1 (by omega))
  have gr1' : GridS G2 u g := gr1.gro y2
  have hcall := rel_calls R2.rel (f := 8) (args := [.agg ⟨[u, .int .i64 r, .int .i64 c]⟩, .agg ⟨[o, .int .i64 r', .int .i64 c']⟩]) (by simp only [scbL, scb, scb_mono y2.next u s1, s2, Bool.and_self, scbA]) R2.base R2.dirty
    (law8_c G2 u o g h r c r' c' gr1' gr2 tab2 n2 (Nat.le_of_eq R2.base) (scb_mono y2.next u s1) s2 dk_c)
  have hargs : [Value.agg ⟨[u, .int .i64 r, .int .i64 c]⟩, .agg ⟨[o, .int .i64 r', .int .i64 c']⟩].map ρ2.val = [v1, v2] := by
    rw [List.map_cons, List.map_cons, List.map_nil, z2, val_ext x2 _ (by simp only [scb, scbA, scbL, s1, Bool.and_self]), z1]
  rw [hargs] at hcall
  refine hcall.mono fun e W' ⟨he, hb⟩ => ?_
  subst he
  exact ⟨_, rfl, _, _, _, [], _, [], hW', trodAll_mk1 (shut_bool Tryd.underlying4 true), trodAll_carry Tryd.laidOut hb (by kernel_rfl) hA' hlt, rfl, hb.frame _, fun h => by cases h⟩

theorem least_holds : Rows.DiffLeastSaid :=
  OpenClaim.holds_of_wide 8 Tryd.f8 rfl rfl rfl rfl rfl rfl rfl ⟨rfl, rfl, rfl, rfl, rfl⟩ rfl rfl rfl rfl rfl (by kernel_rfl) Tryd.func8 (by kernel_rfl)
    (of_decide_eq_true (by kernel_rfl)) (by unfold Func.isWrapper; first | (rw [if_pos (by decide +kernel)]; kernel_rfl) | (rw [if_neg (by decide +kernel)]; exact ⟨rfl, rfl⟩))
    (fun os started H enc _ => least_lifted os started H enc)

theorem diffLeast_card : Rows.DiffLeastCardSaid :=
  Claim7.holds_tied_plain_at .later [] [.data, .pinned] true (true, "d23d47481ef6ebc73d80c8739a59da347d47949bcc0e81bf1dae53e3832d836e") true least_holds (fun _ h => by cases h) (by kernel_rfl) (fun _ h => by cases h) diffLeast_row_tie rfl ⟨rfl, rfl⟩ (by kernel_rfl) rfl
    (fun f fn hf hfn => by
      obtain rfl : f = 8 := Option.some.inj ((show Tryd.prog.funcNamed "copyist/copyistlaw39.DiffLeast" = some 8 by kernel_rfl).symm.trans hf) |>.symm
      obtain rfl : fn = Tryd.f8 := (Option.some.inj (Tryd.func8.symm.trans hfn)).symm
      exact ⟨by kernel_rfl, fun j t ht => by
        rw [Tryd.params8] at ht
        have hm : t ∈ [24, 24] := by simpa using Array.mem_of_getElem? ht
        have hall : ([24, 24].all fun u => !Tryd.prog.wantsStandIn u) = true := by kernel_rfl
        exact (show Tryd.prog.wantsStandIn t = false by simpa using List.all_eq_true.1 hall t hm)⟩)
    (by kernel_rfl)

end Go.Proofs.YtaojjfebkldmnaaDoor
