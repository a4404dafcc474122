/- Parts of the proof, one behind the other. -/
import Derived.Test.YtaojjfebkldmnaaDoorM6
import Derived.Test.YtaojjfebkldmnaaDoorM8
set_option linter.all false

/- The walk of DiffBlank. -/
namespace Go.Proofs.YtaojjfebkldmnaaDoor
open Go.Ax
set_option linter.unusedSimpArgs false
set_option maxRecDepth 10000

abbrev True1 (H : AHeap) (out : Out) (H1 : AHeap) : Prop := out = .ok (.bool true) ∧ Mod [] H H1

theorem awake_c (H : AHeap) : Pure 11 [] H (.bool true) := callS_ans mixed known9 rfl awake_true H

theorem blankG_w (h w : Nat) : ∀ l ∈ blankG h w, l.length = w := fun l hl => by
  rw [blankG, List.mem_replicate] at hl
  rw [hl.2]; simp

theorem RowAt.mod0 {H G : AHeap} {v : Value} {l : List Ce} (h : RowAt H v l) (m : Mod [] H G) : RowAt G v l := by
  by_cases hl : l = []
  · obtain ⟨a, c, e⟩ := h.sl
    subst hl
    exact .inl ⟨rfl, a, c, e⟩
  · exact h.of m.next fun n hn => m.get n (h.ne hl n hn).2 (by simp)
theorem GridAt.mod0 {H G : AHeap} {v : Value} {g : List (List Ce)} (h : GridAt H v g) (m : Mod [] H G) : GridAt G v g := by
  rcases h with h | ⟨hg, n, off, s, c, e, o, L, rfl, hb, hlt, hle, hr⟩
  · exact .inl h
  · refine .inr ⟨hg, n, off, s, c, e, o, L, rfl, (m.bk hlt (by simp)).trans hb, m.lt hlt, hle, fun k row hk => ?_⟩
    obtain ⟨rv, h1, h2⟩ := hr k row hk
    exact ⟨rv, h1, h2.mod0 m⟩

set_option maxHeartbeats 1000000 in
theorem blankLaw_c (h w : Int) (H : AHeap) (hok : H.base ≤ H.next) : CallA Tryd.prog 4 [.int .i64 h, .int .i64 w] H (True1 H) := by
  obtain ⟨b, hb⟩ : ∃ b, H.next = b := ⟨_, rfl⟩
  have hbase : H.base ≤ b := hb ▸ hok
  refine callE_fn mixed Tryd.func4 rfl Tryd.ntmps4 (Nat.le_of_ble_eq_true rfl) ?_
  by_cases a1 : 300 < w ∧ w ≤ 1000
  · simp (maxDischargeDepth := 6) only [a1.1, a1.2, decide_true, ruW, putL, Nat.reduceLeDiff, xF, ruU, entryE, Nat.reduceLT, Nat.reduceAdd, Nat.reduceMul, Nat.reduceEqDiff]
    refine (awake_c (ext H [])).to ?_
    simp (maxDischargeDepth := 6) only [Tryd.results4, ruW, putL, Nat.reduceLeDiff, xF, ruU, entryE, Nat.reduceLT, Nat.reduceAdd, Nat.reduceMul, Nat.reduceEqDiff]
    exact ⟨rfl, Mod.refl⟩
  have h33 : decide ((3 : Int) = 3) = true := rfl
  have h00 : decide ((0 : Int) = 0) = true := rfl
  cases hbo : blankOk h w with
  | false =>
    rcases (by omega : (300 < w ∧ ¬ w ≤ 1000) ∨ ¬ 300 < w) with ⟨a2, a3⟩ | a2
    · simp (maxDischargeDepth := 6) only [a2, a3, decide_true, decide_false, ruW, putL, Nat.reduceLeDiff, xF, ruU, entryE, Nat.reduceLT, Nat.reduceAdd, Nat.reduceMul, Nat.reduceEqDiff]
      refine (blank19_no h w (ext H []) hbo).to ?_
      simp (maxDischargeDepth := 6) only [hb, hbase, ruW, putL, Nat.reduceLeDiff, xF, ruU, entryE, Nat.reduceLT, Nat.reduceAdd, Nat.reduceMul, Nat.reduceEqDiff]
      refine (blank20_no h w (ext H (_ :: _)) hbo).to ?_
      simp (maxDischargeDepth := 6) only [hb, hbase, ruW, putL, Nat.reduceLeDiff, xF, ruU, entryE, Nat.reduceLT, Nat.reduceAdd, Nat.reduceMul, Nat.reduceEqDiff]
      refine (sameScreens_c (ext H (_ :: _)) _ _ [] [] 0 0 0 0 (.inl ⟨rfl, _, _, rfl⟩) (.inl ⟨rfl, _, _, rfl⟩) (by simp) (by simp)).to ?_
      simp (maxDischargeDepth := 6) only [and_self, hb, hbase, h33, decide_true, ruW, putL, Nat.reduceLeDiff, xF, ruU, entryE, Nat.reduceLT, Nat.reduceAdd, Nat.reduceMul, Nat.reduceEqDiff]
      refine (awake_c (ext H (_ :: _))).to ?_
      simp (maxDischargeDepth := 6) only [Tryd.results4, ruW, putL, Nat.reduceLeDiff, xF, ruU, entryE, Nat.reduceLT, Nat.reduceAdd, Nat.reduceMul, Nat.reduceEqDiff]
      exact ⟨rfl, Mod.ext hok⟩
    · simp (maxDischargeDepth := 6) only [a2, decide_false, ruW, putL, Nat.reduceLeDiff, xF, ruU, entryE, Nat.reduceLT, Nat.reduceAdd, Nat.reduceMul, Nat.reduceEqDiff]
      refine (blank19_no h w (ext H []) hbo).to ?_
      simp (maxDischargeDepth := 6) only [hb, hbase, ruW, putL, Nat.reduceLeDiff, xF, ruU, entryE, Nat.reduceLT, Nat.reduceAdd, Nat.reduceMul, Nat.reduceEqDiff]
      refine (blank20_no h w (ext H (_ :: _)) hbo).to ?_
      simp (maxDischargeDepth := 6) only [hb, hbase, ruW, putL, Nat.reduceLeDiff, xF, ruU, entryE, Nat.reduceLT, Nat.reduceAdd, Nat.reduceMul, Nat.reduceEqDiff]
      refine (sameScreens_c (ext H (_ :: _)) _ _ [] [] 0 0 0 0 (.inl ⟨rfl, _, _, rfl⟩) (.inl ⟨rfl, _, _, rfl⟩) (by simp) (by simp)).to ?_
      simp (maxDischargeDepth := 6) only [and_self, hb, hbase, h33, decide_true, ruW, putL, Nat.reduceLeDiff, xF, ruU, entryE, Nat.reduceLT, Nat.reduceAdd, Nat.reduceMul, Nat.reduceEqDiff]
      refine (awake_c (ext H (_ :: _))).to ?_
      simp (maxDischargeDepth := 6) only [Tryd.results4, ruW, putL, Nat.reduceLeDiff, xF, ruU, entryE, Nat.reduceLT, Nat.reduceAdd, Nat.reduceMul, Nat.reduceEqDiff]
      exact ⟨rfl, Mod.ext hok⟩
  | true =>
    simp only [blankOk, Bool.and_eq_true, decide_eq_true_eq] at hbo
    have a2 : ¬ 300 < w := by omega
    obtain ⟨h', rfl⟩ : ∃ n : Nat, h = n := ⟨h.toNat, by omega⟩
    obtain ⟨w', rfl⟩ : ∃ n : Nat, w = n := ⟨w.toNat, by omega⟩
    simp (maxDischargeDepth := 6) only [a2, decide_false, ruW, putL, Nat.reduceLeDiff, xF, ruU, entryE, Nat.reduceLT, Nat.reduceAdd, Nat.reduceMul, Nat.reduceEqDiff]
    refine (blank19_ok h' w' (by omega) (by omega) (by omega) (by omega) (ext H []) hok).mono ?_
    rintro _ X ⟨q, rfl, hql, gX, mX⟩
    have okX := mX.ok hok
    obtain ⟨x, hx⟩ : ∃ x, X.next = x := ⟨_, rfl⟩
    have hxb : X.base ≤ x := hx ▸ okX
    rw [hx] at hql
    rw [show X = ext X [] from rfl]
    simp (maxDischargeDepth := 6) only [hx, hxb, hql, ruW, putL, Nat.reduceLeDiff, xF, ruU, entryE, Nat.reduceLT, Nat.reduceAdd, Nat.reduceMul, Nat.reduceEqDiff]
    generalize hY : ext X (_ :: _) = Y
    have mY : Mod [] X Y := hY ▸ Mod.ext okX
    have okY := mY.ok okX
    have hYn : Y.next = x + 1 := by rw [← hY, ext_next, hx]; rfl
    have hY0 : bk Y (x + 0) = some ⟨24, false, [.slice (some ⟨q, 0, none⟩) h' h', .int .i64 (-1), .int .i64 0]⟩ := by rw [← hY, bk_at hx (by simp)]; rfl
    refine (blank20_ok h' w' (by omega) (by omega) (by omega) (by omega) Y okY).mono ?_
    rintro _ Z ⟨p, rfl, hpl, gZ, mZ⟩
    have okZ := mZ.ok okY
    obtain ⟨z, hz⟩ : ∃ z, Z.next = z := ⟨_, rfl⟩
    have hzb : Z.base ≤ z := hz ▸ okZ
    rw [hz] at hpl
    have hZ0 := (mZ.bk (n := x + 0) (by omega) (by simp)).trans hY0
    have lx : x + 0 < z := by have := mZ.next; omega
    have lq : q < z := by have := mZ.next; omega
    rw [show Z = ext Z [] from rfl]
    simp (maxDischargeDepth := 6) only [hz, hzb, hpl, lx, lq, hZ0, ruW, putL, Nat.reduceLeDiff, xF, ruU, entryE, Nat.reduceLT, Nat.reduceAdd, Nat.reduceMul, Nat.reduceEqDiff]
    have gl : (blankG h' w').length = h' := by simp [blankG]
    have mE : Mod [] Z (ext Z [⟨24, false, [.slice (some ⟨p, 0, none⟩) h' h', .int .i64 (-1), .int .i64 0]⟩]) := Mod.ext okZ
    refine (sameScreens_c (ext Z (_ :: _)) _ _ (blankG h' w') (blankG h' w') (-1) 0 (-1) 0 (((gX.mod0 mY).mod0 mZ).mod0 mE) (gZ.mod0 mE) (by omega) (fun l hl => by rw [blankG_w h' w' l hl]; omega)).to ?_
    simp (maxDischargeDepth := 6) only [and_self, hz, hzb, h00, decide_true, ruW, putL, Nat.reduceLeDiff, xF, ruU, entryE, Nat.reduceLT, Nat.reduceAdd, Nat.reduceMul, Nat.reduceEqDiff]
    refine (awake_c (ext Z (_ :: _))).to ?_
    simp (maxDischargeDepth := 6) only [Tryd.results4, ruW, putL, Nat.reduceLeDiff, xF, ruU, entryE, Nat.reduceLT, Nat.reduceAdd, Nat.reduceMul, Nat.reduceEqDiff]
    exact ⟨rfl, (((mX.trans mY).trans mZ).trans mE)⟩

end Go.Proofs.YtaojjfebkldmnaaDoor
