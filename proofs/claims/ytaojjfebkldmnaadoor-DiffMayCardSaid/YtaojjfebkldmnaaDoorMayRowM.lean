/- Proved: copyistlaw39.DiffMay returns true for every screen, list of operations, numbers and look, in every order of evaluation that Go leaves open, and its arguments read afterwards as before. Conditions: those of the given card diffMayCard (the listed tables of Go's library hold what their texts lay), and no more. -/
import Derived.Test.YtaojjfebkldmnaaDoorRows
import Derived.Test.YtaojjfebkldmnaaDoorTie
import Derived.Test.YtaojjfebkldmnaaDoorCards
import Derived.Test.YtaojjfebkldmnaaDoorM7
import Derived.Test.YtaojjfebkldmnaaDoorM19
import Derived.SevenTiedAt
import Derived.Stop.Joined
set_option linter.all false
set_option maxRecDepth 10000
open Option renaming bind_eq_some_iff → oZ1, bind_eq_bind → oZ2, bind_some → oZ3, map_eq_some_iff → oZ4, map_some → oZ5

namespace Go.Proofs.YtaojjfebkldmnaaDoor
open Go.ChangeShapes Go.WideShapes Go.ChangeAt Go.RowKit Go.Ax

theorem tab_hyps {w : World} {e1 e2 : TypeId} (h : Laid w e1 e2) : ∀ x ∈ tabT e1 e2, x.1 < Tryd.prog.globals.size ∧ afL x.2.2 = true ∧ ∃ c, w.heap[x.1]? = some (.cells c x.2.1 (0, 0)) ∧ c.toList = x.2.2 := by
  intro x hx
  simp only [tabT, List.mem_cons, List.not_mem_nil, or_false] at hx
  rcases hx with rfl | rfl
  · exact ⟨show 0 < Tryd.prog.globals.size by decide +kernel, by kernel_rfl, h.1⟩
  · exact ⟨show 1 < Tryd.prog.globals.size by decide +kernel, by kernel_rfl, h.2⟩

theorem dk_c (H : AHeap) (t : Tab H) (_ : 1 < H.next) : Pure 6 [] H (.bool true) := by
  intro ρ w r hsc F n R hF hR
  obtain ⟨e1, e2, b1, b2⟩ := t
  obtain ⟨c1, a1, d1⟩ := tab_world r (show 0 < Tryd.prog.globals.size by decide +kernel) b1 (by kernel_rfl)
  obtain ⟨c2, a2, d2⟩ := tab_world r (show 1 < Tryd.prog.globals.size by decide +kernel) b2 (by kernel_rfl)
  have hc := (ansT_in mixed knh8 rfl (known_true e1 e2) (tab_hyps ⟨⟨c1, a1, d1⟩, c2, a2, d2⟩) F n hF).1
  refine hc.mono ?_
  rintro e w' ⟨rfl, hb⟩
  have := hR ρ w' (St.below r hb) rfl
  rwa [val_af ρ _ rfl] at this

set_option maxRecDepth 100000 in
theorem may_lifted (os : Os) (started : os.Started) (H : Type) (enc : TypeId × Value → H) :
    ReturnsInHanded {} Tryd.checked os 9 .any (fun w args => (Rows.diffMaySpec.pre enc Tryd.prog Tryd.f9 Rows.diffMayRow.domain false w args ∧ laidMetH Tryd.prog Rows.diffMayRow.laid w) ∧ sizedMet enc Tryd.prog Tryd.f9 (OpenSpec.ofChange Rows.diffMaySpec) false w args)
      (Rows.diffMaySpec.post enc Tryd.prog Tryd.f9 false true false false) := by
  refine returnsInHanded_of_change_and (C := Tryd.checked) (X := fun w _ => laidMetH Tryd.prog Rows.diffMayRow.laid w) (fun _ _ _ hh h => h.of_heap hh) Tryd.own started (by kernel_rfl) Tryd.func9
    (ChangeSpec.witness_shaped (enc := enc) (C := Tryd.checked) (os := os) (X := fun w _ => laidMetH Tryd.prog Rows.diffMayRow.laid w) false (World.laidAll Tryd.prog os Rows.diffMayRow.laid)
      #[.agg #[.slice none 0 0, .int .i64 0, .int .i64 0], .slice none 0 0, .int .i64 0, .agg #[.int .i64 0, .int .i64 0, .bool false, .bool false, .bool false], .int .i64 0, .int .i64 0] 8 (World.laidAll_os _ _ _)
      (World.shaped_of_ZipB (by kernel_rfl) (by kernel_rfl)) (by kernel_rfl) (by kernel_rfl) (by kernel_rfl)
      (by rw [MakeChecks.laidMetH_plain _ _ _ (by kernel_rfl)]; exact laidMet_laidAll _ (by kernel_rfl) (by kernel_rfl))) ?_
  intro W base args ds gs before hval0 hW hc _ hL _
  have hval : ∀ (j : Nat) t v, Tryd.f9.params[j]? = some t → args[j]? = some v → Value.okWide Tryd.prog W .any base t v := hval0
  have hW' := hW
  obtain ⟨p, q, hA0, hV, rfl, hfz, _⟩ := hW
  have hA : DataW.TrodAll enc Tryd.prog W 0 (fun _ => true) true Tryd.f9.params.toList args.toList ds p := hA0
  rw [Tryd.params9] at hA hval
  obtain ⟨rfl, rfl⟩ := trodVars_none hV
  simp only [List.append_nil] at hW' hfz
  have hlt : ∀ x ∈ p, x.block < W.heap.size := fun x hx => hW'.lt x hx
  have hA' := hA
  rw [MakeChecks.laidMetH_plain _ _ _ (by kernel_rfl)] at hL
  obtain ⟨e1, e2, hl⟩ := tabs_laid hL
  obtain ⟨args⟩ := args
  obtain ⟨v1, vs1, d1, ds1, p1, q1, rfl, rfl, rfl, a1, hA⟩ := trodAll_cons hA
  obtain ⟨v2, vs2, d2, ds2, p2, q2, rfl, rfl, rfl, a2, hA⟩ := trodAll_cons hA
  obtain ⟨v3, vs3, d3, ds3, p3, q3, rfl, rfl, rfl, a3, hA⟩ := trodAll_cons hA
  obtain ⟨v4, vs4, d4, ds4, p4, q4, rfl, rfl, rfl, a4, hA⟩ := trodAll_cons hA
  obtain ⟨v5, vs5, d5, ds5, p5, q5, rfl, rfl, rfl, a5, hA⟩ := trodAll_cons hA
  obtain ⟨v6, vs6, d6, ds6, p6, q6, rfl, rfl, rfl, a6, hA⟩ := trodAll_cons hA
  obtain ⟨rfl, rfl, rfl⟩ := trodAll_nil hA
  clear hA0 hval0
  have hv2 := ok_sliceA (e := 47) (by kernel_rfl) (hval 1 28 _ rfl rfl)
  obtain ⟨n3, rfl⟩ := ok_int la_u3 (hval 2 3 _ rfl rfl)
  obtain ⟨n5, rfl⟩ := ok_int la_u3 (hval 4 3 _ rfl rfl)
  obtain ⟨n6, rfl⟩ := ok_int la_u3 (hval 5 3 _ rfl rfl)
  obtain ⟨k, hk⟩ := ok_look a4
  replace hk : v4 = k.val := hk
  subst hk
  obtain ⟨ρ0, G0, R0, t0, n0⟩ := hl.ro
  obtain ⟨ρ1, G1, u, g, r, c, R1, x1, y1, z1, s1, gr1, sc1⟩ := ro_screen R0 a1
  obtain ⟨ρ2, G2, o, l, R2, x2, y2, z2, s2, o2⟩ := ro_opsA R1 a2 hv2
  have n1 : 1 < G1.next := Nat.lt_of_lt_of_le n0 y1.next
  have n2 : 1 < G2.next := Nat.lt_of_lt_of_le n1 y2.next
  have tab2 : Tab G2 := (t0.of (y1.get 0 (by omega)) (y1.get 1 (by omega))).of (y2.get 0 (by omega)) (y2.get 1 (by omega))
  have gr2 : GridAt G2 u g := gr1.gro y2
  have hsk : ∀ N, scb N k.val = true := fun N => rfl
  have hcall := rel_calls R2.rel (f := 9) (args := [.agg ⟨[u, .int .i64 r, .int .i64 c]⟩, o, .int .i64 n3, k.val, .int .i64 n5, .int .i64 n6]) (by simp only [scbL, scb, scb_mono y2.next u s1, s2, Bool.and_self, scbA, hsk]) R2.base R2.dirty
    (law9_c dk_c G2 u o g r c l n3 n5 n6 k gr2 (fun n off s len c b _ hb => R2.rel.rk_sc hb) o2 tab2 n2 (Nat.le_of_eq R2.base) (scb_mono y2.next u s1) s2)
  have hvi : ∀ n, ρ2.val (.int .i64 n) = .int .i64 n := fun n => by rw [Ren.val]
  have hvk : ρ2.val k.val = k.val := val_af ρ2 _ rfl
  have hargs : [Value.agg ⟨[u, .int .i64 r, .int .i64 c]⟩, o, .int .i64 n3, k.val, .int .i64 n5, .int .i64 n6].map ρ2.val = [v1, v2, .int .i64 n3, k.val, .int .i64 n5, .int .i64 n6] := by
    simp only [List.map_cons, List.map_nil, hvi, hvk, z2]
    rw [val_ext x2 _ (by simp only [scb, scbA, scbL, s1, Bool.and_self]), z1]
  rw [hargs] at hcall
  refine hcall.mono fun e W' ⟨he, hb⟩ => ?_
  subst he
  exact ⟨_, rfl, _, _, _, [], _, [], hW', trodAll_mk1 (shut_bool Tryd.underlying4 true), trodAll_carry Tryd.laidOut hb (by kernel_rfl) hA' hlt, rfl, hb.frame _, fun h => by cases h⟩

theorem may_holds : Rows.DiffMaySaid :=
  OpenClaim.holds_of_wide 9 Tryd.f9 rfl rfl rfl rfl rfl rfl rfl ⟨rfl, rfl, rfl, rfl, rfl⟩ rfl rfl rfl rfl rfl (by kernel_rfl) Tryd.func9 (by kernel_rfl)
    (of_decide_eq_true (by kernel_rfl)) (by unfold Func.isWrapper; first | (rw [if_pos (by decide +kernel)]; kernel_rfl) | (rw [if_neg (by decide +kernel)]; exact ⟨rfl, rfl⟩))
    (fun os started H enc _ => may_lifted os started H enc)

theorem diffMay_card : Rows.DiffMayCardSaid :=
  Claim7.holds_tied_plain_at .later [] [.data, .pinned] true (true, "d23d47481ef6ebc73d80c8739a59da347d47949bcc0e81bf1dae53e3832d836e") true may_holds (fun _ h => by cases h) (by kernel_rfl) (fun _ h => by cases h) diffMay_row_tie rfl ⟨rfl, rfl⟩ (by kernel_rfl) rfl
    (fun f fn hf hfn => by
      obtain rfl : f = 9 := Option.some.inj ((show Tryd.prog.funcNamed "copyist/copyistlaw39.DiffMay" = some 9 by kernel_rfl).symm.trans hf) |>.symm
      obtain rfl : fn = Tryd.f9 := (Option.some.inj (Tryd.func9.symm.trans hfn)).symm
      exact ⟨by kernel_rfl, fun j t ht => by
        rw [Tryd.params9] at ht
        have hm : t ∈ [24, 28, 3, 45, 3, 3] := by simpa using Array.mem_of_getElem? ht
        have hall : ([24, 28, 3, 45, 3, 3].all fun u => !Tryd.prog.wantsStandIn u) = true := by kernel_rfl
        exact (show Tryd.prog.wantsStandIn t = false by simpa using List.all_eq_true.1 hall t hm)⟩)
    (by kernel_rfl)

end Go.Proofs.YtaojjfebkldmnaaDoor
