/- Proved: copyistlaw39.DiffApply returns true for every screen and every list of operations, in every order of evaluation that Go leaves open, and its arguments read afterwards as before. Conditions: those of the given card diffApplyCard (the listed tables of Go's library hold what their texts lay), and no more. -/
import Derived.Test.YtaojjfebkldmnaaDoorRows
import Derived.Test.YtaojjfebkldmnaaDoorTie
import Derived.Test.YtaojjfebkldmnaaDoorCards
import Derived.Test.YtaojjfebkldmnaaDoorM11
import Derived.SevenTiedAt
import Derived.Stop.Joined
set_option linter.all false
set_option maxRecDepth 10000
open Option renaming bind_eq_some_iff → oZ1, bind_eq_bind → oZ2, bind_some → oZ3, map_eq_some_iff → oZ4, map_some → oZ5

namespace Go.Proofs.YtaojjfebkldmnaaDoor
open Go.ChangeShapes Go.WideShapes Go.ChangeAt Go.RowKit Go.Ax

theorem ok_slice {P : Program} {w : World} {r : Reach} {base : Nat} {t e : TypeId} {v : Value} (ht : P.underlying t = some (.slice e)) (h : Value.okWide P w r base t v) : v.cells.toList = [v] := by
  unfold Value.okWide at h
  rw [ht] at h
  unfold Cell.okWide Cell.ok at h
  cases v <;> simp [ht] at h <;> rfl

set_option maxRecDepth 100000 in
theorem apply_lifted (os : Os) (started : os.Started) (H : Type) (enc : TypeId × Value → H) :
    ReturnsInHanded {} Tryd.checked os 5 .any (fun w args => (Rows.diffApplySpec.pre enc Tryd.prog Tryd.f5 Rows.diffApplyRow.domain false w args ∧ laidMetH Tryd.prog Rows.diffApplyRow.laid w) ∧ sizedMet enc Tryd.prog Tryd.f5 (OpenSpec.ofChange Rows.diffApplySpec) false w args)
      (Rows.diffApplySpec.post enc Tryd.prog Tryd.f5 false true false false) := by
  refine returnsInHanded_of_change_and (C := Tryd.checked) (X := fun w _ => laidMetH Tryd.prog Rows.diffApplyRow.laid w) (fun _ _ _ hh h => h.of_heap hh) Tryd.own started (by kernel_rfl) Tryd.func5
    (ChangeSpec.witness_shaped (enc := enc) (C := Tryd.checked) (os := os) (X := fun w _ => laidMetH Tryd.prog Rows.diffApplyRow.laid w) false (World.laidAll Tryd.prog os Rows.diffApplyRow.laid)
      #[.agg #[.slice none 0 0, .int .i64 0, .int .i64 0], .slice none 0 0] 8 (World.laidAll_os _ _ _)
      (World.shaped_of_ZipB (by kernel_rfl) (by kernel_rfl)) (by kernel_rfl) (by kernel_rfl) (by kernel_rfl)
      (by rw [MakeChecks.laidMetH_plain _ _ _ (by kernel_rfl)]; exact laidMet_laidAll _ (by kernel_rfl) (by kernel_rfl))) ?_
  intro W base args ds gs before hval0 hW hc _ hL _
  have hval : ∀ (j : Nat) t v, Tryd.f5.params[j]? = some t → args[j]? = some v → Value.okWide Tryd.prog W .any base t v := hval0
  have hW' := hW
  obtain ⟨p, q, hA0, hV, rfl, hfz, _⟩ := hW
  have hA : DataW.TrodAll enc Tryd.prog W 0 (fun _ => true) true Tryd.f5.params.toList args.toList ds p := hA0
  rw [Tryd.params5] at hA hval
  obtain ⟨rfl, rfl⟩ := trodVars_none hV
  simp only [List.append_nil] at hW' hfz
  have hlt : ∀ x ∈ p, x.block < W.heap.size := fun x hx => hW'.lt x hx
  have hA' := hA
  rw [MakeChecks.laidMetH_plain _ _ _ (by kernel_rfl)] at hL
  obtain ⟨e1, e2, hl⟩ := tabs_laid hL
  obtain ⟨args⟩ := args
  obtain ⟨v1, vs1, d1, ds1, p1, q1, rfl, rfl, rfl, a1, hA⟩ := trodAll_cons hA
  obtain ⟨v2, vs2, d2, ds2, p2, q2, rfl, rfl, rfl, a2, hA⟩ := trodAll_cons hA
  obtain ⟨rfl, rfl, rfl⟩ := trodAll_nil hA
  clear hA0 hval0
  have hv2 := ok_slice (e := 47) (by kernel_rfl) (hval 1 28 _ rfl rfl)
  obtain ⟨ρ0, G0, R0, t0, n0⟩ := hl.ro
  obtain ⟨ρ1, G1, u, g, r, c, R1, x1, y1, z1, s1, gr1, sc1⟩ := ro_screen R0 a1
  obtain ⟨ρ2, G2, o, l, R2, x2, y2, z2, s2, o2⟩ := ro_ops R1 a2 hv2
  have n1 : 1 < G1.next := Nat.lt_of_lt_of_le n0 y1.next
  have n2 : 1 < G2.next := Nat.lt_of_lt_of_le n1 y2.next
  have tab2 : Tab G2 := (t0.of (y1.get 0 (by omega)) (y1.get 1 (by omega))).of (y2.get 0 (by omega)) (y2.get 1 (by omega))
  have gr2 : GridAt G2 u g := gr1.gro y2
  have hcall := rel_calls R2.rel (f := 5) (args := [.agg ⟨[u, .int .i64 r, .int .i64 c]⟩, o]) (by simp only [scbL, scb, scb_mono y2.next u s1, s2, Bool.and_self, scbA]) R2.base R2.dirty
    (law5_c G2 u o g r c l gr2 (fun n off s len c b _ hb => R2.rel.rk_sc hb) o2 tab2 n2 (Nat.le_of_eq R2.base) (scb_mono y2.next u s1) s2)
  have hargs : [Value.agg ⟨[u, .int .i64 r, .int .i64 c]⟩, o].map ρ2.val = [v1, v2] := by
    rw [List.map_cons, List.map_cons, List.map_nil, z2, val_ext x2 _ (by simp only [scb, scbA, scbL, s1, Bool.and_self]), z1]
  rw [hargs] at hcall
  refine hcall.mono fun e W' ⟨he, hb⟩ => ?_
  subst he
  exact ⟨_, rfl, _, _, _, [], _, [], hW', trodAll_mk1 (shut_bool Tryd.underlying4 true), trodAll_carry Tryd.laidOut hb (by kernel_rfl) hA' hlt, rfl, hb.frame _, fun h => by cases h⟩

theorem apply_holds : Rows.DiffApplySaid :=
  OpenClaim.holds_of_wide 5 Tryd.f5 rfl rfl rfl rfl rfl rfl rfl ⟨rfl, rfl, rfl, rfl, rfl⟩ rfl rfl rfl rfl rfl (by kernel_rfl) Tryd.func5 (by kernel_rfl)
    (of_decide_eq_true (by kernel_rfl)) (by unfold Func.isWrapper; first | (rw [if_pos (by decide +kernel)]; kernel_rfl) | (rw [if_neg (by decide +kernel)]; exact ⟨rfl, rfl⟩))
    (fun os started H enc _ => apply_lifted os started H enc)

theorem diffApply_card : Rows.DiffApplyCardSaid :=
  Claim7.holds_tied_plain_at .later [] [.data, .pinned] true (true, "d23d47481ef6ebc73d80c8739a59da347d47949bcc0e81bf1dae53e3832d836e") true apply_holds (fun _ h => by cases h) (by kernel_rfl) (fun _ h => by cases h) diffApply_row_tie rfl ⟨rfl, rfl⟩ (by kernel_rfl) rfl
    (fun f fn hf hfn => by
      obtain rfl : f = 5 := Option.some.inj ((show Tryd.prog.funcNamed "copyist/copyistlaw39.DiffApply" = some 5 by kernel_rfl).symm.trans hf) |>.symm
      obtain rfl : fn = Tryd.f5 := (Option.some.inj (Tryd.func5.symm.trans hfn)).symm
      exact ⟨by kernel_rfl, fun j t ht => by
        rw [Tryd.params5] at ht
        have hm : t ∈ [24, 28] := by simpa using Array.mem_of_getElem? ht
        have hall : ([24, 28].all fun u => !Tryd.prog.wantsStandIn u) = true := by kernel_rfl
        exact (show Tryd.prog.wantsStandIn t = false by simpa using List.all_eq_true.1 hall t hm)⟩)
    (by kernel_rfl)

end Go.Proofs.YtaojjfebkldmnaaDoor
