/- Parts of the proof, one behind the other. -/
import Derived.Test.YtaojjfebkldmnaaDoorM6
import Derived.Test.YtaojjfebkldmnaaDoorM4
import Derived.Test.YtaojjfebkldmnaaDoorProg
import Derived.KernelRfl
import Derived.ChangeArms
import Derived.Test.YtaojjfebkldmnaaDoorRows
import Derived.ProofKit
import Derived.Carry
import Derived.OpenShut
import Derived.LaidMore
import Derived.Lay
set_option linter.all false
set_option maxRecDepth 10000
open Option renaming bind_eq_some_iff → oZ1, bind_eq_bind → oZ2, bind_some → oZ3, map_eq_some_iff → oZ4, map_some → oZ5

/- What large and many come to; operations in memory. -/
namespace Go.Proofs.YtaojjfebkldmnaaDoor
open Go.Ax
def largeR (g : List (List Ce)) : Bool := (g.take 13).any (fun l => decide (60 < l.length)) || decide (12 < g.length)
theorem largeR_false {g : List (List Ce)} (h : largeR g = false) : g.length ≤ 12 ∧ ∀ l ∈ g, l.length ≤ 60 := by
 rw [largeR, Bool.or_eq_false_iff] at h
 have h2 := of_decide_eq_false h.2
 refine ⟨by omega, fun l hl => ?_⟩
 have h1 := h.1
 rw [List.take_of_length_le (by omega), List.any_eq_false] at h1
 have := h1 l hl
 simpa using this
theorem large_c (H : AHeap) (v : Value) (g : List (List Ce)) (r c : Int) (hg : GridAt H v g) : Pure 10 [.agg ⟨[v, .int .i64 r, .int .i64 c]⟩] H (.bool (largeR g)) := by
 obtain ⟨b, hb⟩ : ∃ b, H.next = b := ⟨_, rfl⟩
 refine callS_fn mixed Tryd.func10 rfl Tryd.ntmps10 (Nat.le_of_ble_eq_true rfl) fun wf hsc => ?_
 have hbase : H.base ≤ b := hb ▸ wf.base
 have hg' := hg
 obtain ⟨a0, c0, e0⟩ := hg.sl
 have hscv : scb b v = true := by
  simp only [scbL, scb, scbA, Bool.and_eq_true, hb] at hsc
  exact hsc.1.1
 obtain ⟨B, hB⟩ : ∃ B, largeR g = B := ⟨_, rfl⟩
 rw [hB]
 obtain ⟨X, hX⟩ : ∃ X, X = ext H [⟨24, false, [v, .int .i64 r, .int .i64 c]⟩] := ⟨_, rfl⟩
 rw [e0] at hscv hX ⊢
 simp (maxDischargeDepth := 6) only [hb, hbase, hscv, ruW, putL, Nat.reduceLeDiff, xF, ruU, entryE, Nat.reduceLT, Nat.reduceAdd, Nat.reduceMul, Nat.reduceEqDiff]
 refine w_env fun E hE => ?_
 have g1 : E 1 = .pointer (some ⟨b + 0, 0, none⟩) := by rw [hE]; simp only [ruU, entryE, Nat.reduceLT, Nat.reduceAdd, Nat.reduceMul, Nat.reduceEqDiff]
 have g3 : E 3 = .int .i64 ((0 : Nat) : Int) := by rw [hE]; (simp only [ruU, entryE, Nat.reduceLT, Nat.reduceAdd, Nat.reduceMul, Nat.reduceEqDiff] <;> rfl)
 clear hE
 refine blockC_meet (fun E' H' => H' = X ∧ E' 1 = .pointer (some ⟨b + 0, 0, none⟩) ∧ B = decide (12 < g.length)) ?_ ?_
 ·refine w_loop (fun (k : Nat) E' H' => H' = X ∧ E' 1 = .pointer (some ⟨b + 0, 0, none⟩) ∧ E' 3 = .int .i64 (k : Int) ∧ k ≤ g.length ∧ k ≤ 13 ∧ ∀ i l, i < k → g[i]? = some l → l.length ≤ 60) (fun k => g.length - k) 0
   ⟨hX.symm, g1, g3, Nat.zero_le _, by omega, fun i l hi => by omega⟩ ?_
  clear g1 g3
  rintro k E H' ⟨hH, g1, g3, hk, hk13, hpre⟩
  rw [hH, hX]
  have fin : (∀ i l, i < 13 → g[i]? = some l → l.length ≤ 60) → B = decide (12 < g.length) := fun hall => by
   rw [← hB, largeR]
   have : (g.take 13).any (fun l => decide (60 < l.length)) = false := by
    rw [List.any_eq_false]
    intro l hl
    obtain ⟨i, hi⟩ := List.getElem?_of_mem hl
    have hi13 : i < 13 := by
     have := (List.getElem?_eq_some_iff.1 hi).1
     rw [List.length_take] at this
     omega
    rw [List.getElem?_take, if_pos hi13] at hi
    have := hall i l hi13 hi
    simp; omega
   rw [this, Bool.false_or]
  by_cases hkl : k = g.length
  ·have hc : decide ((k : Int) < (g.length : Int)) = false := by simp [hkl]
   simp (maxDischargeDepth := 6) only [g1, g3, hb, hbase, hc, ruW, putL, Nat.reduceLeDiff, xF, ruU, entryE, Nat.reduceLT, Nat.reduceAdd, Nat.reduceMul, Nat.reduceEqDiff]
   refine joinR_normal ⟨rfl, by simp only [g1, ruU, entryE, Nat.reduceLT, Nat.reduceAdd, Nat.reduceMul, Nat.reduceEqDiff], fin fun i l hi hl => hpre i l (by have := (List.getElem?_eq_some_iff.1 hl).1; omega) hl⟩
  ·have hlk : k < g.length := by omega
   have hc : decide ((k : Int) < (g.length : Int)) = true := decide_eq_true (by omega)
   by_cases hk3 : k = 13
   ·have hc2 : decide ((k : Int) < 13) = false := by simp [hk3]
    simp (maxDischargeDepth := 6) only [g1, g3, hb, hbase, hc, hc2, ruW, putL, Nat.reduceLeDiff, xF, ruU, entryE, Nat.reduceLT, Nat.reduceAdd, Nat.reduceMul, Nat.reduceEqDiff]
    refine joinR_normal ⟨rfl, by simp only [g1, ruU, entryE, Nat.reduceLT, Nat.reduceAdd, Nat.reduceMul, Nat.reduceEqDiff], fin fun i l hi hl => hpre i l (by omega) hl⟩
   ·have hc2 : decide ((k : Int) < 13) = true := decide_eq_true (by omega)
    rcases hg with ⟨h', _⟩ | ⟨_, n1, o1, s1, x1, t1, p1, L1, ev, b1, n1l, le1, tk1⟩
    ·rw [h'] at hlk; simp at hlk
    rw [ev] at e0
    cases e0
    obtain ⟨w1, hr1⟩ : ∃ r, g[k]? = some r := ⟨_, List.getElem?_eq_getElem hlk⟩
    obtain ⟨u1, hu1, ra1⟩ := tk1 k w1 hr1
    obtain ⟨a1, c1, e1⟩ := ra1.sl
    rw [e1] at hu1
    have i1 := grid_ia (n := n1) (off := o1) (s := s1) (cap := c0) (i := (k : Int)) rfl hlk
    have q1 := grid_load (e := t1) (o := p1) hu1
    rw [hb] at n1l
    obtain ⟨d, hd⟩ : ∃ d, decide ((60 : Int) < (w1.length : Int)) = d := ⟨_, rfl⟩
    cases d with
    | true =>
     obtain rfl : true = B := by
      rw [← hB, largeR, List.any_eq_true.2 ⟨w1, ?_, ?_⟩, Bool.true_or]
      ·refine List.mem_of_getElem? (i := k) ?_
       rw [List.getElem?_take, if_pos (by omega), hr1]
      ·have := of_decide_eq_true hd
       exact decide_eq_true (by omega)
     simp (maxDischargeDepth := 6) only [g1, g3, hb, hbase, hc, hc2, i1, b1, n1l, q1, qk_old, hd, joinR_ret, Tryd.results10, ruW, putL, Nat.reduceLeDiff, xF, ruU, entryE, Nat.reduceLT, Nat.reduceAdd, Nat.reduceMul, Nat.reduceEqDiff]
     exact Fin.pureE rfl rfl
    | false =>
     simp (maxDischargeDepth := 6) only [g1, g3, hb, hbase, hc, hc2, i1, b1, n1l, q1, qk_old, hd, wrap_succ (show k < 1000000 by omega), ruW, putL, Nat.reduceLeDiff, xF, ruU, entryE, Nat.reduceLT, Nat.reduceAdd, Nat.reduceMul, Nat.reduceEqDiff]
     refine loopC_next ⟨k + 1, by omega, rfl, ?_, ?_, by omega, by omega, fun i l hi hl => ?_⟩
     ·simp only [g1, ruU, entryE, Nat.reduceLT, Nat.reduceAdd, Nat.reduceMul, Nat.reduceEqDiff]
     ·simp only [ruU, entryE, Nat.reduceLT, Nat.reduceAdd, Nat.reduceMul, Nat.reduceEqDiff]
     ·rcases Nat.lt_or_ge i k with h' | h'
      ·exact hpre i l h' hl
      ·obtain rfl : i = k := by omega
       rw [hr1] at hl
       cases hl
       have := of_decide_eq_false hd
       omega
 ·rintro E H' ⟨hH, g1, hBe⟩
  rw [hH, hX]
  have hd : decide ((12 : Int) < (g.length : Int)) = B := by rw [hBe]; exact decide_eq_decide.2 (by omega)
  simp (maxDischargeDepth := 6) only [g1, hb, hbase, hd, Tryd.results10, ruW, putL, Nat.reduceLeDiff, xF, ruU, entryE, Nat.reduceLT, Nat.reduceAdd, Nat.reduceMul, Nat.reduceEqDiff]
  exact Fin.pureE rfl rfl
end Go.Proofs.YtaojjfebkldmnaaDoor
/- What many comes to. -/
namespace Go.Proofs.YtaojjfebkldmnaaDoor
open Go.Ax
def manyR (g : List Op) : Bool := (g.take 61).any (fun l => decide (200 < l.text.size)) || decide (60 < g.length)
theorem manyR_false {g : List Op} (h : manyR g = false) : g.length ≤ 60 ∧ ∀ l ∈ g, l.text.size ≤ 200 := by
 rw [manyR, Bool.or_eq_false_iff] at h
 have h2 := of_decide_eq_false h.2
 refine ⟨by omega, fun l hl => ?_⟩
 have h1 := h.1
 rw [List.take_of_length_le (by omega), List.any_eq_false] at h1
 have := h1 l hl
 simpa using this
theorem ag9 : aggT Tryd.prog 9 = some false := by kernel_rfl
theorem many_c (H : AHeap) (v : Value) (g : List Op) (hg : OpsAt H v g) : Pure 21 [v] H (.bool (manyR g)) := by
 obtain ⟨b, hb⟩ : ∃ b, H.next = b := ⟨_, rfl⟩
 refine callS_fn mixed Tryd.func21 rfl Tryd.ntmps21 (Nat.le_of_ble_eq_true rfl) fun wf hsc => ?_
 obtain ⟨a0, c0, e0⟩ := hg.sl
 obtain ⟨B, hB⟩ : ∃ B, manyR g = B := ⟨_, rfl⟩
 rw [hB]
 obtain ⟨X, hX⟩ : ∃ X, X = ext H [] := ⟨_, rfl⟩
 rw [e0]
 simp (maxDischargeDepth := 6) only [ruW, putL, Nat.reduceLeDiff, xF, ruU, entryE, Nat.reduceLT, Nat.reduceAdd, Nat.reduceMul, Nat.reduceEqDiff]
 refine w_env fun E hE => ?_
 have g0 : E 0 = .slice a0 g.length c0 := by rw [hE]; simp only [ruU, entryE, Nat.reduceLT, Nat.reduceAdd, Nat.reduceMul, Nat.reduceEqDiff]
 have g3 : E 3 = .int .i64 ((0 : Nat) : Int) := by rw [hE]; (simp only [ruU, entryE, Nat.reduceLT, Nat.reduceAdd, Nat.reduceMul, Nat.reduceEqDiff] <;> rfl)
 clear hE
 refine blockC_meet (fun E' H' => H' = X ∧ E' 0 = .slice a0 g.length c0 ∧ B = decide (60 < g.length)) ?_ ?_
 ·refine w_loop (fun (k : Nat) E' H' => H' = X ∧ E' 0 = .slice a0 g.length c0 ∧ E' 3 = .int .i64 (k : Int) ∧ k ≤ g.length ∧ k ≤ 61 ∧ ∀ i l, i < k → g[i]? = some l → l.text.size ≤ 200) (fun k => g.length - k) 0
   ⟨hX.symm, g0, g3, Nat.zero_le _, by omega, fun i l hi => by omega⟩ ?_
  clear g0 g3
  rintro k E H' ⟨hH, g0, g3, hk, hk13, hpre⟩
  rw [hH, hX]
  have fin : (∀ i l, i < 61 → g[i]? = some l → l.text.size ≤ 200) → B = decide (60 < g.length) := fun hall => by
   rw [← hB, manyR]
   have : (g.take 61).any (fun l => decide (200 < l.text.size)) = false := by
    rw [List.any_eq_false]
    intro l hl
    obtain ⟨i, hi⟩ := List.getElem?_of_mem hl
    have hi13 : i < 61 := by
     have := (List.getElem?_eq_some_iff.1 hi).1
     rw [List.length_take] at this
     omega
    rw [List.getElem?_take, if_pos hi13] at hi
    have := hall i l hi13 hi
    simp; omega
   rw [this, Bool.false_or]
  by_cases hkl : k = g.length
  ·have hc : decide ((k : Int) < (g.length : Int)) = false := by simp [hkl]
   simp (maxDischargeDepth := 6) only [g0, g3, hb, hc, ruW, putL, Nat.reduceLeDiff, xF, ruU, entryE, Nat.reduceLT, Nat.reduceAdd, Nat.reduceMul, Nat.reduceEqDiff]
   refine joinR_normal ⟨rfl, by simp only [g0, ruU, entryE, Nat.reduceLT, Nat.reduceAdd, Nat.reduceMul, Nat.reduceEqDiff], fin fun i l hi hl => hpre i l (by have := (List.getElem?_eq_some_iff.1 hl).1; omega) hl⟩
  ·have hlk : k < g.length := by omega
   have hc : decide ((k : Int) < (g.length : Int)) = true := decide_eq_true (by omega)
   by_cases hk3 : k = 61
   ·have hc2 : decide ((k : Int) < 61) = false := by simp [hk3]
    simp (maxDischargeDepth := 6) only [g0, g3, hb, hc, hc2, ruW, putL, Nat.reduceLeDiff, xF, ruU, entryE, Nat.reduceLT, Nat.reduceAdd, Nat.reduceMul, Nat.reduceEqDiff]
    refine joinR_normal ⟨rfl, by simp only [g0, ruU, entryE, Nat.reduceLT, Nat.reduceAdd, Nat.reduceMul, Nat.reduceEqDiff], fin fun i l hi hl => hpre i l (by omega) hl⟩
   ·have hc2 : decide ((k : Int) < 61) = true := decide_eq_true (by omega)
    rcases hg with ⟨h', _⟩ | ⟨_, n1, o1, s1, x1, t1, p1, L1, ev, b1, n1l, le1, tk1⟩
    ·rw [h'] at hlk; simp at hlk
    rw [ev] at e0
    cases e0
    obtain ⟨w1, hr1⟩ : ∃ r, g[k]? = some r := ⟨_, List.getElem?_eq_getElem hlk⟩
    have i1 := op_ia (n := n1) (off := o1) (s := s1) (cap := c0) (i := (k : Int)) rfl hlk
    have q1 := op_cell (t := 9) (e := t1) (o := p1) (j := 9) ag9 hr1 rfl tk1
    rw [Nat.add_assoc] at q1
    rw [hb] at n1l
    obtain ⟨d, hd⟩ : ∃ d, decide ((200 : Int) < (w1.text.size : Int)) = d := ⟨_, rfl⟩
    cases d with
    | true =>
     obtain rfl : true = B := by
      rw [← hB, manyR, List.any_eq_true.2 ⟨w1, ?_, ?_⟩, Bool.true_or]
      ·refine List.mem_of_getElem? (i := k) ?_
       rw [List.getElem?_take, if_pos (by omega), hr1]
      ·have := of_decide_eq_true hd
       exact decide_eq_true (by omega)
     simp (maxDischargeDepth := 6) only [g0, g3, hb, hc, hc2, i1, b1, n1l, q1, qk_old, bt_lenStr u9, hd, joinR_ret, Tryd.results21, ruW, putL, Nat.reduceLeDiff, xF, ruU, entryE, Nat.reduceLT, Nat.reduceAdd, Nat.reduceMul, Nat.reduceEqDiff]
     exact Fin.pureE rfl rfl
    | false =>
     simp (maxDischargeDepth := 6) only [g0, g3, hb, hc, hc2, i1, b1, n1l, q1, qk_old, bt_lenStr u9, hd, wrap_succ (show k < 1000000 by omega), ruW, putL, Nat.reduceLeDiff, xF, ruU, entryE, Nat.reduceLT, Nat.reduceAdd, Nat.reduceMul, Nat.reduceEqDiff]
     refine loopC_next ⟨k + 1, by omega, rfl, ?_, ?_, by omega, by omega, fun i l hi hl => ?_⟩
     ·simp only [g0, ruU, entryE, Nat.reduceLT, Nat.reduceAdd, Nat.reduceMul, Nat.reduceEqDiff]
     ·simp only [ruU, entryE, Nat.reduceLT, Nat.reduceAdd, Nat.reduceMul, Nat.reduceEqDiff]
     ·rcases Nat.lt_or_ge i k with h' | h'
      ·exact hpre i l h' hl
      ·obtain rfl : i = k := by omega
       rw [hr1] at hl
       cases hl
       have := of_decide_eq_false hd
       omega
 ·rintro E H' ⟨hH, g0, hBe⟩
  rw [hH, hX]
  have hd : decide ((60 : Int) < (g.length : Int)) = B := by rw [hBe]; exact decide_eq_decide.2 (by omega)
  simp (maxDischargeDepth := 6) only [g0, hb, hd, Tryd.results21, ruW, putL, Nat.reduceLeDiff, xF, ruU, entryE, Nat.reduceLT, Nat.reduceAdd, Nat.reduceMul, Nat.reduceEqDiff]
  exact Fin.pureE rfl rfl
end Go.Proofs.YtaojjfebkldmnaaDoor
/- The number of characters of a string, by the reference. -/
namespace Go.Proofs.YtaojjfebkldmnaaDoor
open Go.Ax
def lenR (l : List UInt8) : Int := match ptsR l with
 | none => 0
 | some r => r.length
end Go.Proofs.YtaojjfebkldmnaaDoor
/- The number of characters of a string, by the program: the reference's. -/
namespace Go.Proofs.YtaojjfebkldmnaaDoor
open Go.Ax
end Go.Proofs.YtaojjfebkldmnaaDoor
/- What Cost comes to, in the program and in the reference. -/
namespace Go.Proofs.YtaojjfebkldmnaaDoor
open Go.Ax
end Go.Proofs.YtaojjfebkldmnaaDoor
/- What same comes to on equal lists of operations: true; the first list is written. -/
namespace Go.Proofs.YtaojjfebkldmnaaDoor
open Go.Ax
theorem opsOf_len (l : List Op) : (opsOf l).length = l.length * 10 := flat_len _ _ op_len l
end Go.Proofs.YtaojjfebkldmnaaDoor
/- Known answers of pure calls in the diff laws' program: the cells of some characters; the chapter's examples in 'awake'. -/
namespace Go.Proofs.YtaojjfebkldmnaaDoor
open Go.Ax
end Go.Proofs.YtaojjfebkldmnaaDoor
/- The chapter's examples in 'awake' of the diff laws: true. -/
namespace Go.Proofs.YtaojjfebkldmnaaDoor
open Go.Ax
end Go.Proofs.YtaojjfebkldmnaaDoor
/- Operations copied; what both Apply come to. -/
namespace Go.Proofs.YtaojjfebkldmnaaDoor
open Go.Ax
theorem RowAt.mod0 {H G : AHeap} {v : Value} {l : List Ce} (h : RowAt H v l) (m : Mod [] H G) : RowAt G v l := by
 by_cases hl : l = []
 ·obtain ⟨a, c, e⟩ := h.sl
  subst hl
  exact .inl ⟨rfl, a, c, e⟩
 ·exact h.of m.next fun n hn => m.get n (h.ne hl n hn).2 (by simp)
theorem GridAt.mod0 {H G : AHeap} {v : Value} {g : List (List Ce)} (h : GridAt H v g) (m : Mod [] H G) : GridAt G v g := by
 rcases h with h | ⟨hg, n, off, s, c, e, o, L, rfl, hb, hlt, hle, hr⟩
 ·exact .inl h
 ·refine .inr ⟨hg, n, off, s, c, e, o, L, rfl, (rk_get (m.get n hlt (by simp))).trans hb, m.lt hlt, hle, fun k row hk => ?_⟩
  obtain ⟨rv, h1, h2⟩ := hr k row hk
  exact ⟨rv, h1, h2.mod0 m⟩
theorem ops_one (l : List Op) : (opsOf l).all one = true := by
 induction l with
 | nil => rfl
 | cons x l ih => rw [opsOf, List.flatMap_cons, List.all_append, Bool.and_eq_true]; exact ⟨rfl, ih⟩
theorem ops_sc (N : Nat) (l : List Op) : scbL N (opsOf l) = true := by
 induction l with
 | nil => rfl
 | cons x l ih => rw [opsOf, List.flatMap_cons]; exact scbL_append rfl ih
def appV (g : List (List Ce)) (r c : Int) (l : List Op) : List (List Ce) × Int × Int × Int × Int :=
 if chkR g r c = 0 then (match St.all (widG g) ptsR l 0 (St.start g r c) with
  | .inr i => ([], 0, 0, 5, (i : Int))
  | .inl y => (y.grid, y.atR, y.atC (widG g), 0, 0))
 else ([], 0, 0, chkR g r c, 0)
theorem OwnG.none {N : Nat} {X : AHeap} : OwnG N X (.slice none 0 0) [] [] := ⟨rfl, .inl ⟨rfl, rfl⟩, fun i rv l h => by simp at h, by simp⟩
theorem AppR.val {H X : AHeap} {g : List (List Ce)} {r c : Int} {l : List Op} {out : Out} (h : AppR H g r c l out X) : Mod [] H X ∧ ∃ u rvs N, out = .ok (.tuple #[.agg #[u, .int .i64 (appV g r c l).2.1, .int .i64 (appV g r c l).2.2.1], .int .i64 (appV g r c l).2.2.2.1, .int .i64 (appV g r c l).2.2.2.2]) ∧ H.next ≤ N ∧ OwnG N X u rvs (appV g r c l).1 := by
 obtain ⟨m, h⟩ := h
 refine ⟨m, ?_⟩
 unfold appV
 split at h
 ·rename_i hc
  rw [if_pos hc]
  split at h
  ·rename_i i hi
   rw [hi]
   exact ⟨_, [], H.next, h, Nat.le_refl _, OwnG.none⟩
  ·rename_i y hy
   rw [hy]
   exact h
 ·rename_i hc
  rw [if_neg hc]
  exact ⟨_, [], H.next, h, Nat.le_refl _, OwnG.none⟩
theorem appV_grid {g : List (List Ce)} {r c : Int} {l : List Op} : (appV g r c l).1.length ≤ 200 ∧ ∀ q ∈ (appV g r c l).1, q.length ≤ 1000 := by
 unfold appV
 split
 ·rename_i hc
  obtain ⟨ok, _⟩ := chk_ok hc
  split
  ·simp
  ·rename_i y hy
   have oky := all_ok l 0 _ y ok hy
   exact ⟨oky.h2, fun q hq => by rw [oky.wid q hq]; exact oky.w2⟩
 ·simp
end Go.Proofs.YtaojjfebkldmnaaDoor
/- The walk of DiffApply. -/
namespace Go.Proofs.YtaojjfebkldmnaaDoor
open Go.Ax
abbrev True1 (H : AHeap) (out : Out) (H1 : AHeap) : Prop := out = .ok (.bool true) ∧ Mod [] H H1
end Go.Proofs.YtaojjfebkldmnaaDoor
/- Arguments that hold slices, of slices too: an abstract heap with one block for each slice, for reading only (such blocks may lie where others lie). -/
namespace Go.Ax
open Go.ChangeShapes
section
variable {P : Program} {ρ : Ren} {H : AHeap} {w : World}
def roObj (e : TypeId) (vs : List Value) : AObj := ⟨.cells #[] e (1, 0), true, RV.ofList vs⟩
theorem roObj_fz {e : TypeId} {vs : List Value} : Fz (some (roObj e vs)) := ⟨_, rfl, rfl⟩
def roH (H : AHeap) (e : TypeId) (vs : List Value) : AHeap := ⟨rootPut H.root H.next (some (roObj e vs)), H.next + 1, H.next + 1, H.dirty⟩
theorem roH_get {e : TypeId} {vs : List Value} (m : Nat) : (roH H e vs).get m = if m = H.next then some (roObj e vs) else H.get m := rootPut_get _ _ _ _
theorem roH_rk {e : TypeId} {vs : List Value} : rk (roH H e vs) H.next = some ⟨e, true, vs⟩ := by
 rw [rk_eq]
 simp only [cellsR, roH_get, if_true, roObj, oZ5, RV.n_ofList, RV.gets_ofList]
def isU8 : Value → Bool
 | .int .u8 _ => true
 | _ => false
structure Ro (P : Program) (ρ : Ren) (H : AHeap) (w : World) : Prop where
 rel : Rel P ρ H w
 base : H.base = H.next
 dirty : H.dirty = []
 al : ∀ n, H.get n ≠ none → Fz (H.get n) ∨ n < P.globals.size ∧ ∃ c e, w.heap[n]? = some (.cells c e (0, 0)) ∧ ∀ v ∈ c.toList, isU8 v = true
structure Gro (H H1 : AHeap) : Prop where
 next : H.next ≤ H1.next
 get : ∀ n, n < H.next → H1.get n = H.get n
theorem Gro.refl : Gro H H := ⟨Nat.le_refl _, fun _ _ => rfl⟩
theorem Gro.trans {H1 H2 : AHeap} (a : Gro H H1) (b : Gro H1 H2) : Gro H H2 := ⟨Nat.le_trans a.next b.next, fun n hn => (b.get n (Nat.lt_of_lt_of_le hn a.next)).trans (a.get n hn)⟩
theorem Ro.add (R : Ro P ρ H w) {b off : Nat} {e : TypeId} {c : Array Value} {fz : Nat × Nat} {vs : List Value} (hb : w.heap[b]? = some (.cells c e fz)) (hc : ∀ i, i < vs.length → c[off + i]? = some (ρ.val (vs.getD i undef)))
  (hs : scbL H.next vs = true) (h0 : ∃ i, i < vs.length ∧ isU8 (ρ.val (vs.getD i undef)) = false) : Ro P (ρ.at H.next b off 0) (roH H e vs) w ∧ Ext H.next ρ (ρ.at H.next b off 0) ∧ Gro H (roH H e vs) := by
 have ex := Ren.at_ext ρ H.next b off 0
 have r := R.rel
 have hal : ∀ n, H.get n ≠ none → ρ.blk n = b → Fz (H.get n) := fun n hn he => by
  rcases R.al n hn with h | ⟨hg, c', e', h1, h2⟩
  ·exact h
  ·rw [(r.glob.2 n hg).1] at he
   subst he
   rw [hb] at h1
   simp only [Option.some.injEq, Obj.cells.injEq] at h1
   obtain ⟨i, hi, hu⟩ := h0
   have h3 := hc i hi
   rw [h1.1] at h3
   have := h2 _ (Array.mem_toList_iff.2 (Array.mem_of_getElem? h3))
   rw [hu] at this
   cases this
 have hgr : Gro H (roH H e vs) := ⟨Nat.le_succ _, fun n hn => by rw [roH_get, if_neg (by omega)]⟩
 refine ⟨⟨⟨Nat.le_refl _, ⟨Nat.le_succ_of_le r.glob.1, fun g hg => ?_⟩, fun m n hm hn he => ?_, fun n o hn => ?_, fun n o hn => ?_⟩, rfl, R.dirty, fun n hn => ?_⟩, ex, hgr⟩
 ·have := r.glob.1
  rw [ex.blk g (by omega), ex.sh g (by omega)]; exact r.glob.2 g hg
 ·rw [roH_get] at hm hn ⊢
  rw [roH_get]
  by_cases h1 : m = H.next <;> by_cases h2 : n = H.next
  ·exact .inl (h1.trans h2.symm)
  ·rw [if_neg h2] at hn
   rw [if_pos h1, if_neg h2]
   subst h1
   rw [Ren.at_blk, ex.blk n (r.lt hn)] at he
   exact .inr ⟨roObj_fz, hal n hn he.symm⟩
  ·rw [if_neg h1] at hm
   rw [if_neg h1, if_pos h2]
   subst h2
   rw [Ren.at_blk, ex.blk m (r.lt hm)] at he
   exact .inr ⟨hal m hm he, roObj_fz⟩
  ·rw [if_neg h1] at hm
   rw [if_neg h2] at hn
   rw [if_neg h1, if_neg h2]
   rw [ex.blk m (r.lt hm), ex.blk n (r.lt hn)] at he
   exact r.inj m n hm hn he
 ·rw [roH_get] at hn
  by_cases h : n = H.next
  ·rw [if_pos h] at hn
   cases hn
   subst h
   refine ⟨Nat.lt_succ_self _, ?_⟩
   simp only [sco, roObj, RV.n_ofList, RV.get_ofList]
   intro i hi
   exact scb_mono (Nat.le_succ _) _ (scbL_iff.1 hs _ (by simp [List.getD, hi]))
  ·rw [if_neg h] at hn
   have := r.dom n o hn
   exact ⟨Nat.lt_succ_of_lt this.1, this.2.mono (Nat.le_succ _)⟩
 ·rw [roH_get] at hn
  by_cases h : n = H.next
  ·rw [if_pos h] at hn
   cases hn
   subst h
   refine ⟨_, by rw [Ren.at_blk]; exact hb, ?_⟩
   simp only [Fits, roObj]
   refine ⟨c, fz, rfl, fun i hi => ?_, fun h => (by cases h), fun _ h => (by cases h)⟩
   simp only [RV.n_ofList] at hi
   rw [RV.get_ofList, Ren.at_sh, val_ext ex _ (scbL_iff.1 hs _ (by simp [List.getD, hi])), Nat.add_comm]
   exact hc i hi
  ·rw [if_neg h] at hn
   obtain ⟨o', h1, h2⟩ := r.obj n o hn
   have hd := r.dom n o hn
   exact ⟨o', by rw [ex.blk n hd.1]; exact h1, h2.ext hd.1 hd.2 ex⟩
 ·rw [roH_get] at hn ⊢
  by_cases h : n = H.next
  ·rw [if_pos h]; exact .inl roObj_fz
  ·rw [if_neg h] at hn ⊢
   exact R.al n hn
theorem Ro.skipE (R : Ro P ρ H w) {ρ' : Ren} (ex : Ext H.next ρ ρ') : Ro P ρ' ⟨H.root, H.next + 1, H.next + 1, H.dirty⟩ w ∧ Gro H ⟨H.root, H.next + 1, H.next + 1, H.dirty⟩ := by
 have r := R.rel
 have hg : ∀ n, (⟨H.root, H.next + 1, H.next + 1, H.dirty⟩ : AHeap).get n = H.get n := fun n => rfl
 refine ⟨⟨⟨Nat.le_refl _, ⟨Nat.le_succ_of_le r.glob.1, fun g hg => ?_⟩, fun m n hm hn he => ?_, fun n o hn => ?_, fun n o hn => ?_⟩, rfl, R.dirty, fun n hn => R.al n hn⟩, Nat.le_succ _, fun n _ => rfl⟩
 ·have := r.glob.1
  rw [ex.blk g (by omega), ex.sh g (by omega)]; exact r.glob.2 g hg
 ·rw [hg] at hm hn
  rw [ex.blk m (r.lt hm), ex.blk n (r.lt hn)] at he
  exact r.inj m n hm hn he
 ·have := r.dom n o hn
  exact ⟨Nat.lt_succ_of_lt this.1, this.2.mono (Nat.le_succ _)⟩
 ·obtain ⟨o', h1, h2⟩ := r.obj n o hn
  have hd := r.dom n o hn
  exact ⟨o', by rw [ex.blk n hd.1]; exact h1, h2.ext hd.1 hd.2 ex⟩
theorem Ro.skip (R : Ro P ρ H w) (b off : Nat) : Ro P (ρ.at H.next b off 0) ⟨H.root, H.next + 1, H.next + 1, H.dirty⟩ w ∧ Ext H.next ρ (ρ.at H.next b off 0) ∧ Gro H ⟨H.root, H.next + 1, H.next + 1, H.dirty⟩ :=
 ⟨(R.skipE (Ren.at_ext ρ H.next b off 0)).1, Ren.at_ext ρ H.next b off 0, (R.skipE (Ren.at_ext ρ H.next b off 0)).2⟩
def Ren.atJ (ρ : Ren) (n b s j : Nat) : Ren := ⟨fun m => if m = n then b else ρ.blk m, fun m => if m = n then s else ρ.sh m, fun m => if m = n then 0 else ρ.ex m, fun m => if m = n then .int .i64 j else ρ.op m, fun m => by
 by_cases h : m = n
 ·simp only [h, if_true]; rfl
 ·simp only [h, if_false]; exact ρ.op1 m⟩
theorem Ren.atJ_ext (ρ : Ren) (n b s j : Nat) : Ext n ρ (ρ.atJ n b s j) :=
 ⟨fun m h => if_neg (Nat.ne_of_lt h), fun m h => if_neg (Nat.ne_of_lt h), fun m h => if_neg (Nat.ne_of_lt h), fun m h => if_neg (Nat.ne_of_lt h)⟩
theorem val_slJ {N b off j : Nat} : (ρ.atJ N b off j).val (.slice (some ⟨N, 0, some 1⟩) 0 0) = .slice (some ⟨b, off, some j⟩) 0 0 := by
 simp [Ren.val, Ren.atJ, Ren.offS, Ren.spS, Ren.capS, spO]
def SlAt (H : AHeap) (sz : Nat) (u : Value) (vs : List Value) (len : Nat) : Prop :=
 vs.length = len * sz ∧ ∃ a cap, u = .slice a len cap ∧ (len = 0 ∨ ∃ n e, a = some ⟨n, 0, some 0⟩ ∧ n < H.next ∧ rk H n = some ⟨e, true, vs⟩)
theorem SlAt.gro {H1 : AHeap} {sz : Nat} {u : Value} {vs : List Value} {len : Nat} (h : SlAt H sz u vs len) (g : Gro H H1) : SlAt H1 sz u vs len := by
 obtain ⟨h1, a, cap, h2, h3⟩ := h
 refine ⟨h1, a, cap, h2, h3.imp id ?_⟩
 rintro ⟨n, e, h4, h5, h6⟩
 exact ⟨n, e, h4, Nat.lt_of_lt_of_le h5 g.next, (rk_get (g.get n h5)).trans h6⟩
theorem val_sl {N b off len cap : Nat} : (ρ.at N b off 0).val (.slice (some ⟨N, 0, some 0⟩) len cap) = .slice (some ⟨b, off, none⟩) len cap := by
 simp [Ren.val, Ren.at_blk, Ren.at_sh]
theorem Ro.sl (R : Ro P ρ H w) {sz len cap b off : Nat} {sp : Option Nat} (hspot : sp = none ∨ len = 0 ∧ cap = 0) {vs : List Value} (hlen : vs.length = len * sz)
  (hcell : len = 0 ∨ ∃ c e fz, w.heap[b]? = some (.cells c e fz) ∧ ∀ i, i < vs.length → c[off + i]? = some (ρ.val (vs.getD i undef))) (hs : scbL H.next vs = true) (h0 : len = 0 ∨ ∃ i, i < vs.length ∧ isU8 (ρ.val (vs.getD i undef)) = false) :
  ∃ ρ1 H1 u, Ro P ρ1 H1 w ∧ Ext H.next ρ ρ1 ∧ Gro H H1 ∧ ρ1.val u = .slice (some ⟨b, off, sp⟩) len cap ∧ scb H1.next u = true ∧ SlAt H1 sz u vs len := by
 by_cases hz : len = 0
 ·cases sp with
  | none =>
   obtain ⟨k1, k2, k3⟩ := R.skip b off
   exact ⟨_, _, .slice (some ⟨H.next, 0, some 0⟩) len cap, k1, k2, k3, val_sl, blt_of (Nat.lt_succ_self _), hlen, _, _, rfl, .inl hz⟩
  | some j =>
   have hc : cap = 0 := by
    rcases hspot with h | h
    ·cases h
    ·exact h.2
   subst hc hz
   obtain ⟨k1, k3⟩ := R.skipE (ρ.atJ_ext H.next b off j)
   exact ⟨_, _, .slice (some ⟨H.next, 0, some 1⟩) 0 0, k1, ρ.atJ_ext H.next b off j, k3, val_slJ, blt_of (Nat.lt_succ_self _), hlen, _, _, rfl, .inl rfl⟩
 ·obtain rfl : sp = none := by
   rcases hspot with h | h
   ·exact h
   ·exact absurd h.1 hz
  obtain ⟨c, e, fz, hb, hc⟩ := hcell.resolve_left hz
  obtain ⟨k1, k2, k3⟩ := R.add hb hc hs (h0.resolve_left hz)
  exact ⟨_, _, .slice (some ⟨H.next, 0, some 0⟩) len cap, k1, k2, k3, val_sl, blt_of (Nat.lt_succ_self _), hlen, _, _, rfl, .inr ⟨H.next, e, rfl, Nat.lt_succ_self _, roH_rk⟩⟩
variable {K : Type} {enc : TypeId × Value → K} {spare : Nat → Bool} {held : Bool} {fuel : Nat}
theorem sl_spot {t e : TypeId} {sz len cap : Nat} {a : Addr} {x : DataW K × List MemPlace} (hsp : ∀ b, spare b = true) (ht : P.underlying t = some (.slice e)) (hsz : szOf P e = some (sz + 1)) (h : DataW.trod enc P w 0 spare held fuel t [.slice (some a) len cap] = some x) : a.spot = none ∨ len = 0 ∧ cap = 0 := by
 have none_at : ∀ y, (w.cells? 0 (a.add 0) (sz + 1)).bind y = (none : Option (DataW K × List MemPlace)) ∨ a.spot = none := fun y => by
  cases hs : a.spot with
  | none => exact .inr rfl
  | some j =>
   left
   cases hc : w.cells? 0 (a.add 0) (sz + 1) with
   | none => rfl
   | some cs =>
    unfold World.cells? at hc
    rw [if_pos (Nat.zero_le _)] at hc
    obtain ⟨v, hv⟩ := Go.Ax.mapM_each hc 0 (by simp)
    simp only [Addr.add, if_true, World.cell?, hs, Option.isSome_some] at hv
    split at hv <;> cases hv
 rcases DataW.trod_slice ht h with ⟨h1, _⟩ | ⟨a', len', cap', elems, rest, n, _, h1, _, _, hle, _, hel, hcells, hrest, _⟩
 ·simp at h1
 ·simp only [List.cons.injEq, Value.slice.injEq, Option.some.injEq, and_true] at h1
  obtain ⟨rfl, rfl, rfl⟩ := h1
  rw [cellsOf_szOf hsz] at hcells hrest
  rcases Nat.eq_zero_or_pos len with h0 | h0
  ·subst h0
   rcases Nat.eq_zero_or_pos cap with hc | hc
   ·exact .inr ⟨rfl, hc⟩
   ·obtain ⟨hl, hr⟩ := hrest (hsp _)
    have := hr 0 (by omega)
    rw [Nat.zero_add, Nat.zero_mul] at this
    rcases none_at (DataW.trod enc P w 0 spare held n e) with h2 | h2
    ·rw [h2, List.getElem?_eq_getElem (by omega)] at this
     cases this
    ·exact .inl h2
  ·have := hcells 0 h0
   rw [Nat.zero_mul] at this
   rcases none_at (DataW.trod enc P w 0 spare held n e) with h2 | h2
   ·rw [h2, List.getElem?_eq_getElem (by omega)] at this
    cases this
   ·exact .inl h2
theorem sl_cells {t e : TypeId} {sz b off len cap : Nat} {x : DataW K × List MemPlace} (ht : P.underlying t = some (.slice e)) (hsz : szOf P e = some sz) (h : DataW.trod enc P w 0 spare held fuel t [.slice (some ⟨b, off, none⟩) len cap] = some x) :
  ∃ (vs : List Value) (n : Nat), vs.length = len * sz ∧ (len * sz = 0 ∨ ∃ c e' fz, w.heap[b]? = some (.cells c e' fz) ∧ ∀ i, i < vs.length → c[off + i]? = some (vs.getD i undef)) ∧
   ∀ i, i < len → ∃ y, DataW.trod enc P w 0 spare held n e ((vs.drop (i * sz)).take sz) = some y := by
 rcases DataW.trod_slice ht h with ⟨h1, _⟩ | ⟨a, len', cap', elems, rest, n, _, h1, _, _, _, _, hel, hcells, _, _⟩
 ·simp at h1
 ·simp only [List.cons.injEq, Value.slice.injEq, Option.some.injEq, and_true] at h1
  obtain ⟨rfl, rfl, rfl⟩ := h1
  rw [cellsOf_szOf hsz] at hcells
  have each : ∀ i, i < len → ∃ cs y, w.cells? 0 ((⟨b, off, none⟩ : Addr).add (i * sz)) sz = some cs ∧ DataW.trod enc P w 0 spare held n e cs = some y := fun i hi => by
   have := hcells i hi
   rw [List.getElem?_eq_getElem (by omega)] at this
   obtain ⟨cs, h1, h2⟩ := Option.bind_eq_some_iff.1 this
   exact ⟨cs, _, h1, h2⟩
  by_cases h0 : len * sz = 0
  ·refine ⟨[], n, by simp [h0], .inl h0, fun i hi => ?_⟩
   obtain ⟨cs, y, h1, h2⟩ := each i hi
   have hsz0 : sz = 0 := by
    rcases Nat.eq_zero_or_pos sz with h | h
    ·exact h
    ·have := Nat.mul_pos (show 0 < len by omega) h; omega
   subst hsz0
   unfold World.cells? at h1
   rw [if_pos (Nat.zero_le _)] at h1
   simp at h1
   subst h1
   exact ⟨y, by simpa using h2⟩
  ·have hp : 0 < sz := Nat.pos_of_ne_zero fun h => h0 (by rw [h, Nat.mul_zero])
   have cell : ∀ i, i < len * sz → ∃ v, w.cell? ⟨b, off + i, none⟩ = some v := fun i hi => by
    have hq : i / sz < len := (Nat.div_lt_iff_lt_mul hp).2 hi
    obtain ⟨cs, y, hcs, _⟩ := each _ hq
    unfold World.cells? at hcs
    rw [if_pos (Nat.zero_le _)] at hcs
    obtain ⟨v, hv⟩ := mapM_each hcs (i % sz) (by simpa using Nat.mod_lt _ hp)
    rw [addr_add, addr_add] at hv
    have : off + i / sz * sz + i % sz = off + i := by rw [Nat.add_assoc, Nat.mul_comm, Nat.div_add_mod]
    rw [this] at hv
    exact ⟨v, hv⟩
   obtain ⟨v0, hv0⟩ := cell 0 (by omega)
   unfold World.cell? at hv0
   cases hb : w.heap[b]? with
   | none => simp [hb] at hv0
   | some o =>
    cases o with
    | cells c e' fz =>
     have cell' : ∀ i, i < len * sz → ∃ v, c[off + i]? = some v := fun i hi => by
      obtain ⟨v, hv⟩ := cell i hi
      simp only [World.cell?, hb] at hv
      exact ⟨v, by simpa using hv⟩
     obtain ⟨vs, hvs⟩ : ∃ vs : List Value, vs = (List.range (len * sz)).map fun i => (c[off + i]?).getD undef := ⟨_, rfl⟩
     have hvl : vs.length = len * sz := by simp [hvs]
     have hvg : ∀ i, i < vs.length → c[off + i]? = some (vs.getD i undef) := fun i hi => by
      rw [hvl] at hi
      obtain ⟨v, hv⟩ := cell' i hi
      simp [hvs, hi, hv, List.getD_eq_getElem?_getD]
     refine ⟨vs, n, hvl, .inr ⟨c, e', fz, rfl, hvg⟩, fun i hi => ?_⟩
     obtain ⟨cs, y, hcs, hy⟩ := each i hi
     have hcs' : (vs.drop (i * sz)).take sz = cs := by
      unfold World.cells? at hcs
      rw [if_pos (Nat.zero_le _)] at hcs
      have hin : i * sz + sz ≤ len * sz := by rw [← Nat.succ_mul]; exact Nat.mul_le_mul_right _ hi
      have hr := mapM_range_of (f := fun j => w.cell? (((⟨b, off, none⟩ : Addr).add (i * sz)).add j)) (g := fun j => vs.getD (i * sz + j) undef) sz (fun j hj => by
       have h3 := hvg (i * sz + j) (by rw [hvl]; omega)
       rw [addr_add, addr_add, Nat.add_assoc]
       simp [World.cell?, hb, h3])
      rw [hr] at hcs
      cases hcs
      apply List.ext_getElem?
      intro j
      by_cases hj : j < sz
      ·rw [List.getElem?_take, if_pos hj, List.getElem?_drop, List.getElem?_map, List.getElem?_range hj, List.getElem?_eq_getElem (by rw [hvl]; omega)]
       simp only [oZ5, List.getD_eq_getElem?_getD]
       rw [List.getElem?_eq_getElem (by rw [hvl]; omega)]
       rfl
      ·rw [List.getElem?_eq_none (by simp; omega), List.getElem?_eq_none (by simp; omega)]
     rw [hcs']
     exact ⟨y, hy⟩
    | _ => simp [hb] at hv0
end
end Go.Ax
/- Arguments that hold rows of structs of numbers, truth values and strings: what the abstract heap holds. -/
namespace Go.Ax
open Go.ChangeShapes
section
variable {P : Program} {ρ : Ren} {H : AHeap} {w : World}
variable {K : Type} {enc : TypeId × Value → K} {spare : Nat → Bool} {held : Bool}
theorem fit1_af {t : TypeId} {v : Value} (h : fit1 P t v = true) : af v = true := by
 unfold fit1 at h
 split at h <;> first | rfl | cases h
theorem fits_afm : ∀ {ts : List TypeId} {cs : List Value}, fits P ts cs = true → ∀ v ∈ cs, af v = true
 | [], [], _, v, hv => by cases hv
 | t :: ts, c :: cs, h, v, hv => by
  simp only [fits, Bool.and_eq_true] at h
  rcases List.mem_cons.1 hv with rfl | hv
  ·exact fit1_af h.1
  ·exact fits_afm h.2 v hv
 | [], _ :: _, h, _, _ => by cases h
 | _ :: _, [], h, _, _ => by cases h
def nu8 (P : Program) (t : TypeId) : Bool :=
 match P.underlying t with
 | some (.int .u8) => false
 | _ => true
theorem nu8_val {t : TypeId} {v : Value} (hn : nu8 P t = true) (h : fit1 P t v = true) : isU8 v = false := by
 unfold isU8
 split
 ·unfold fit1 at h
  unfold nu8 at hn
  split at h
  ·rename_i hv; cases hv
  ·rename_i k k' n hu hv
   cases hv
   have : k = .u8 := by simpa using h
   subst this
   rw [hu] at hn
   cases hn
  ·rename_i hv; cases hv
  ·cases h
 ·rfl
def chunkd (P : Program) (ts : List TypeId) (vs : List Value) (len : Nat) : Prop := ∀ i, i < len → fits P ts ((vs.drop (i * ts.length)).take ts.length) = true
theorem chunkd_af {ts : List TypeId} {vs : List Value} {len : Nat} (hl : vs.length = len * ts.length) (h : chunkd P ts vs len) : ∀ v ∈ vs, af v = true := by
 intro v hv
 rw [cut_flat len vs hl] at hv
 obtain ⟨l, hl2, hv⟩ := List.mem_flatten.1 hv
 obtain ⟨i, hi, rfl⟩ := List.mem_map.1 hl2
 exact fits_afm (h i (List.mem_range.1 hi)) v hv
theorem map_val_af {vs : List Value} (h : ∀ v ∈ vs, af v = true) (i : Nat) (hi : i < vs.length) : ρ.val (vs.getD i undef) = vs.getD i undef :=
 val_af ρ _ (h _ (by simp [List.getD, hi]))
theorem Ro.slF (R : Ro P ρ H w) {t e t0 : TypeId} {ts : List TypeId} {D fuel : Nat} {v : Value} {x : DataW K × List MemPlace} (ht : P.underlying t = some (.slice e)) (hsz : szOf P e = some (t0 :: ts).length) (hfl : flat P D e = some (t0 :: ts)) (hu : nu8 P t0 = true)
  (hall : ∀ b, spare b = true) (h : DataW.trod enc P w 0 spare held fuel t [v] = some x) :
  ∃ ρ1 H1 u vs len, Ro P ρ1 H1 w ∧ Ext H.next ρ ρ1 ∧ Gro H H1 ∧ ρ1.val u = v ∧ scb H1.next u = true ∧ SlAt H1 (t0 :: ts).length u vs len ∧ chunkd P (t0 :: ts) vs len := by
 rcases DataW.trod_slice ht h with ⟨h1, _⟩ | ⟨a, len, cap, _, _, _, _, h1, _⟩
 ·simp only [List.cons.injEq, and_true] at h1
  subst h1
  exact ⟨ρ, H, .slice none 0 0, [], 0, R, Ext.refl _ _, Gro.refl, by rw [Ren.val], rfl, ⟨by simp, none, 0, rfl, .inl rfl⟩, fun i hi => absurd hi (by omega)⟩
 ·simp only [List.cons.injEq, and_true] at h1
  subst h1
  have hs0 := sl_spot hall ht hsz h
  obtain ⟨b, off, s⟩ := a
  simp only at hs0
  rcases hs0 with hs0 | ⟨rfl, rfl⟩
  case inr =>
   obtain ⟨ρ1, H1, u, q1, q2, q3, q4, q5, q6⟩ := R.sl (sz := (t0 :: ts).length) (len := 0) (cap := 0) (b := b) (off := off) (sp := s) (vs := []) (.inr ⟨rfl, rfl⟩) (by simp) (.inl rfl) rfl (.inl rfl)
   exact ⟨ρ1, H1, u, [], 0, q1, q2, q3, q4, q5, q6, fun i hi => absurd hi (by omega)⟩
  subst hs0
  obtain ⟨vs, n, k1, k2, k3⟩ := sl_cells ht hsz h
  have hch : chunkd P (t0 :: ts) vs len := fun i hi => by
   obtain ⟨y, hy⟩ := k3 i hi
   exact trod_fits n D e (t0 :: ts) _ y hfl hsz hy
  have haf := chunkd_af k1 hch
  have hsc : scbL H.next vs = true := scbL_of_af _ (afL_of haf)
  have h0 : len = 0 ∨ ∃ i, i < vs.length ∧ isU8 (ρ.val (vs.getD i undef)) = false := by
   rcases Nat.eq_zero_or_pos len with h | h
   ·exact .inl h
   ·right
    have hp : 0 < vs.length := by rw [k1]; exact Nat.mul_pos h (by simp)
    refine ⟨0, hp, ?_⟩
    rw [map_val_af haf 0 hp]
    have hc := hch 0 h
    rw [Nat.zero_mul, List.drop_zero] at hc
    cases vs with
    | nil => simp at hp
    | cons y ys =>
     simp only [List.length_cons, List.take_succ_cons, fits, Bool.and_eq_true] at hc
     exact nu8_val hu hc.1
  have hcell : len = 0 ∨ ∃ c e fz, w.heap[b]? = some (.cells c e fz) ∧ ∀ i, i < vs.length → c[off + i]? = some (ρ.val (vs.getD i undef)) := by
   rcases k2 with h | ⟨c, e', fz, h1, h2⟩
   ·left
    exact (Nat.mul_eq_zero.1 h).resolve_right (by simp)
   ·exact .inr ⟨c, e', fz, h1, fun i hi => by rw [map_val_af haf i hi]; exact h2 i hi⟩
  obtain ⟨ρ1, H1, u, q1, q2, q3, q4, q5, q6⟩ := R.sl (cap := cap) (.inl rfl) k1 hcell hsc h0
  exact ⟨ρ1, H1, u, vs, len, q1, q2, q3, q4, q5, q6, hch⟩
theorem Ro.rows {t e t0 : TypeId} {ts : List TypeId} {D : Nat} (ht : P.underlying t = some (.slice e)) (hsz : szOf P e = some (t0 :: ts).length) (hfl : flat P D e = some (t0 :: ts)) (hu : nu8 P t0 = true) (hall : ∀ b, spare b = true) :
  ∀ (hs : List Value) {ρ : Ren} {H : AHeap}, (∀ v ∈ hs, ∃ (n : Nat) (x : DataW K × List MemPlace), DataW.trod enc P w 0 spare held n t [v] = some x) → Ro P ρ H w →
   ∃ ρ1 H1 us, Ro P ρ1 H1 w ∧ Ext H.next ρ ρ1 ∧ Gro H H1 ∧ us.map ρ1.val = hs ∧ scbL H1.next us = true ∧ ∀ u ∈ us, ∃ vs len, SlAt H1 (t0 :: ts).length u vs len ∧ chunkd P (t0 :: ts) vs len
 | [], ρ, H, _, R => ⟨ρ, H, [], R, Ext.refl _ _, Gro.refl, rfl, rfl, fun u hu => by cases hu⟩
 | v :: hs, ρ, H, hh, R => by
  obtain ⟨n, x, hx⟩ := hh v (by simp)
  obtain ⟨ρ1, H1, u, vs, len, a1, a2, a3, a4, a5, a6, a7⟩ := R.slF ht hsz hfl hu hall hx
  obtain ⟨ρ2, H2, us, b1, b2, b3, b4, b5, b6⟩ := Ro.rows ht hsz hfl hu hall hs (fun v hv => hh v (by simp [hv])) a1
  refine ⟨ρ2, H2, u :: us, b1, a2.trans b2 a3.next, a3.trans b3, ?_, ?_, ?_⟩
  ·rw [List.map_cons, b4, val_ext b2 u a5, a4]
  ·simp only [scbL, scb_mono b3.next u a5, b5, Bool.and_self]
  ·intro y hy
   rcases List.mem_cons.1 hy with rfl | hy
   ·exact ⟨vs, len, a6.gro b3, a7⟩
   ·exact b6 y hy
theorem trod_nu8 {t e : TypeId} {n : Nat} {v : Value} {x : DataW K × List MemPlace} (ht : P.underlying t = some (.slice e)) (h : DataW.trod enc P w 0 spare held n t [v] = some x) : isU8 v = false := by
 rcases DataW.trod_slice ht h with ⟨h1, _⟩ | ⟨a, len, cap, _, _, _, _, h1, _⟩
 ·simp only [List.cons.injEq, and_true] at h1
  subst h1
  rfl
 ·simp only [List.cons.injEq, and_true] at h1
  subst h1
  rfl
theorem Ro.grid (R : Ro P ρ H w) {t2 t e t0 : TypeId} {ts : List TypeId} {D fuel : Nat} {v : Value} {x : DataW K × List MemPlace} (ht2 : P.underlying t2 = some (.slice t)) (hs1 : szOf P t = some 1) (ht : P.underlying t = some (.slice e)) (hsz : szOf P e = some (t0 :: ts).length) (hfl : flat P D e = some (t0 :: ts)) (hu : nu8 P t0 = true)
  (hall : ∀ b, spare b = true) (h : DataW.trod enc P w 0 spare held fuel t2 [v] = some x) :
  ∃ ρ1 H1 u us, Ro P ρ1 H1 w ∧ Ext H.next ρ ρ1 ∧ Gro H H1 ∧ ρ1.val u = v ∧ scb H1.next u = true ∧ SlAt H1 1 u us us.length ∧ ∀ y ∈ us, ∃ vs len, SlAt H1 (t0 :: ts).length y vs len ∧ chunkd P (t0 :: ts) vs len := by
 rcases DataW.trod_slice ht2 h with ⟨h1, _⟩ | ⟨a, len, cap, _, _, _, _, h1, _⟩
 ·simp only [List.cons.injEq, and_true] at h1
  subst h1
  exact ⟨ρ, H, .slice none 0 0, [], R, Ext.refl _ _, Gro.refl, by rw [Ren.val], rfl, ⟨by simp, none, 0, rfl, .inl rfl⟩, fun y hy => by cases hy⟩
 ·simp only [List.cons.injEq, and_true] at h1
  subst h1
  have hs0 := sl_spot hall ht2 hs1 h
  obtain ⟨b, off, s⟩ := a
  simp only at hs0
  rcases hs0 with hs0 | ⟨rfl, rfl⟩
  case inr =>
   obtain ⟨ρ1, H1, u, q1, q2, q3, q4, q5, q6⟩ := R.sl (sz := 1) (len := 0) (cap := 0) (b := b) (off := off) (sp := s) (vs := []) (.inr ⟨rfl, rfl⟩) (by simp) (.inl rfl) rfl (.inl rfl)
   exact ⟨ρ1, H1, u, [], q1, q2, q3, q4, q5, q6, fun y hy => by cases hy⟩
  subst hs0
  obtain ⟨vs, n, k1, k2, k3⟩ := sl_cells ht2 hs1 h
  rw [Nat.mul_one] at k1
  have hmem : ∀ v ∈ vs, ∃ (n : Nat) (x : DataW K × List MemPlace), DataW.trod enc P w 0 spare held n t [v] = some x := fun v hv => by
   obtain ⟨i, hi, rfl⟩ := List.getElem_of_mem hv
   obtain ⟨y, hy⟩ := k3 i (by omega)
   have e1 : (vs.drop (i * 1)).take 1 = [vs[i]] := by
    rw [Nat.mul_one, List.drop_eq_getElem_cons hi]
    rfl
   rw [e1] at hy
   exact ⟨n, y, hy⟩
  obtain ⟨ρ1, H1, us, b1, b2, b3, b4, b5, b6⟩ := Ro.rows ht hsz hfl hu hall vs hmem R
  have hlen : us.length = vs.length := by rw [← b4, List.length_map]
  have hval : ∀ i, i < us.length → ρ1.val (us.getD i undef) = vs.getD i undef := fun i hi => by
   rw [← b4]
   simp [List.getD, hi]
  have hcell : len = 0 ∨ ∃ c e fz, w.heap[b]? = some (.cells c e fz) ∧ ∀ i, i < us.length → c[off + i]? = some (ρ1.val (us.getD i undef)) := by
   rcases k2 with h | ⟨c, e', fz, h1, h2⟩
   ·exact .inl (by omega)
   ·exact .inr ⟨c, e', fz, h1, fun i hi => by rw [hval i hi]; exact h2 i (by omega)⟩
  have h0 : len = 0 ∨ ∃ i, i < us.length ∧ isU8 (ρ1.val (us.getD i undef)) = false := by
   rcases Nat.eq_zero_or_pos len with h | h
   ·exact .inl h
   ·refine .inr ⟨0, by omega, ?_⟩
    rw [hval 0 (by omega)]
    have hv : vs.getD 0 undef ∈ vs := by
     have h0 : 0 < vs.length := by omega
     simp [List.getD, h0]
    obtain ⟨n, y, hy⟩ := hmem _ hv
    exact trod_nu8 ht hy
  obtain ⟨ρ2, H2, u, q1, q2, q3, q4, q5, q6⟩ := b1.sl (sp := none) (.inl rfl) (sz := 1) (vs := us) (len := len) (cap := cap) (b := b) (off := off) (by omega) hcell b5 h0
  refine ⟨ρ2, H2, u, us, q1, b2.trans q2 b3.next, b3.trans q3, q4, q5, ?_, fun y hy => ?_⟩
  ·rw [show us.length = len by omega]; exact q6
  ·obtain ⟨vs', l', j1, j2⟩ := b6 y hy
   exact ⟨vs', l', j1.gro q3, j2⟩
end
end Go.Ax
/- Structs in readable arguments; rows of cells as lists of what they stand for. -/
namespace Go.Ax
open Go.ChangeShapes
section
variable {P : Program} {ρ : Ren} {H : AHeap} {w : World}
variable {K : Type} {enc : TypeId × Value → K} {spare : Nat → Bool} {held : Bool}
def flds (P : Program) (t : TypeId) : Option (List (TypeId × Nat)) :=
 match P.underlying t with
 | some (.struct fs) => some (fs.toList.map fun f => (f.type, f.offset))
 | _ => none
theorem trod_flds {t : TypeId} {l : List (TypeId × Nat)} {fuel base : Nat} {cs : List Value} {x : DataW K × List MemPlace} (h : flds P t = some l) (hx : DataW.trod enc P w base spare held fuel t cs = some x) :
  cs.length = P.cellsOf t ∧ ∃ n : Nat, ∀ (i : Nat) (ty : TypeId) (off : Nat), l[i]? = some (ty, off) → ∃ y, DataW.trod enc P w base spare held n ty ((cs.drop off).take (P.cellsOf ty)) = some y := by
 unfold flds at h
 split at h
 ·rename_i fs hu
  simp only [Option.some.injEq] at h
  subst h
  obtain ⟨xs, n, _, _, hl, hxs, hf⟩ := DataW.trod_struct hu hx
  refine ⟨hl, n, fun i ty off hi => ?_⟩
  rw [List.getElem?_map, oZ4] at hi
  obtain ⟨f, hfi, he⟩ := hi
  simp only [Prod.mk.injEq] at he
  obtain ⟨rfl, rfl⟩ := he
  have hfi' : fs[i]? = some f := by simpa using hfi
  have hlt : i < fs.size := (Array.getElem?_eq_some_iff.1 hfi').1
  have := hf i f hfi'
  rw [List.getElem?_eq_getElem (by omega)] at this
  exact ⟨_, this⟩
 ·cases h
theorem chunk_of {α : Type} {ts : List TypeId} {f : α → List Value} (hf : ∀ cs, fits P ts cs = true → ∃ a, cs = f a) : ∀ (len : Nat) (vs : List Value), vs.length = len * ts.length → chunkd P ts vs len → ∃ l : List α, l.length = len ∧ vs = l.flatMap f
 | 0, vs, hl, _ => ⟨[], rfl, by simpa using hl⟩
 | len + 1, vs, hl, h => by
  have h0 := h 0 (by omega)
  rw [Nat.zero_mul, List.drop_zero] at h0
  obtain ⟨a, ha⟩ := hf _ h0
  have hlen : ts.length ≤ vs.length := by rw [hl, Nat.succ_mul]; omega
  obtain ⟨l, h1, h2⟩ := chunk_of hf len (vs.drop ts.length) (by rw [List.length_drop, hl, Nat.succ_mul]; omega) (fun i hi => by
   have := h (i + 1) (by omega)
   rw [List.drop_drop]
   rw [Nat.succ_mul, Nat.add_comm] at this
   exact this)
  refine ⟨a :: l, by simp [h1], ?_⟩
  rw [List.flatMap_cons, ← h2, ← ha, List.take_append_drop]
theorem Rel.rk_sc (r : Rel P ρ H w) {n : Nat} {b : Bl} (h : rk H n = some b) : scbL H.next b.l = true := by
 rw [rk_eq] at h
 unfold cellsR at h
 split at h
 ·rename_i a e q o v hg
  simp only [oZ5, Option.some.injEq] at h
  subst h
  have := (r.dom _ _ hg).2
  simp only [sco] at this
  exact gets_sc this (by omega)
 ·cases h
end
end Go.Ax
/- From what a walk shows to the given statements: screens and operations as arguments, beside the two listed tables. -/
namespace Go.Proofs.YtaojjfebkldmnaaDoor
open Go.ChangeShapes Go.WideShapes Go.ChangeAt Go.RowKit Go.Ax
theorem trodAll_carry {K : Type} {enc : TypeId × Value → K} {P : Program} (hl : laidOutB P = true) {W W' : World} (hb : Below W.heap.size W W') : ∀ {ts : List TypeId} {vs : List Value} {ds : List (DataW K)} {ps : List MemPlace},
  (ts.all fun t => P.readableRec t && Nat.blt t P.types.size) = true → DataW.TrodAll enc P W 0 (fun _ => true) true ts vs ds ps → (∀ x ∈ ps, x.block < W.heap.size) → DataW.TrodAll enc P W' 0 (fun b => decide (b < W.heap.size)) true ts vs ds ps
 | [], [], [], ps, _, h, _ => h
 | t :: ts, v :: vs, d :: ds, ps, ht, h, hp => by
  obtain ⟨p, q, h1, h2, rfl⟩ := h
  simp only [List.all_cons, Bool.and_eq_true] at ht
  exact ⟨p, q, Below.trod hl ht.1.1 (blt_lt ht.1.2) h1 hb (fun x hx => hp x (by simp [hx])), trodAll_carry hl hb (by simpa using ht.2) h2 (fun x hx => hp x (by simp [hx])), rfl⟩
theorem Tryd.own : ownKnob Tryd.prog.godebug = none := by kernel_rfl
theorem Tryd.laidOut : laidOutB Tryd.prog = true := by kernel_rfl
theorem la_u3 : Tryd.prog.underlying 3 = some (.int .i64) := by kernel_rfl
theorem la_u4 : Tryd.prog.underlying 4 = some .bool := by kernel_rfl
theorem la_u9 : Tryd.prog.underlying 9 = some .string := by kernel_rfl
theorem la_f24 : flds Tryd.prog 24 = some [(22, 0), (3, 1), (3, 2)] := by kernel_rfl
theorem RowAt.gro {H G : AHeap} {v : Value} {l : List Ce} (h : RowAt H v l) (y : Gro H G) : RowAt G v l := by
 rcases h with ⟨rfl, a, c, rfl⟩ | ⟨hl, n, off, s, c, e, o, L, rfl, hb, hlt, hle, ht⟩
 ·exact .inl ⟨rfl, a, c, rfl⟩
 ·exact .inr ⟨hl, n, off, s, c, e, o, L, rfl, (rk_get (y.get n hlt)).trans hb, Nat.lt_of_lt_of_le hlt y.next, hle, ht⟩
theorem GridAt.gro {H G : AHeap} {v : Value} {g : List (List Ce)} (h : GridAt H v g) (y : Gro H G) : GridAt G v g := by
 rcases h with ⟨rfl, a, c, rfl⟩ | ⟨hl, n, off, s, c, e, o, L, rfl, hb, hlt, hle, ht⟩
 ·exact .inl ⟨rfl, a, c, rfl⟩
 ·exact .inr ⟨hl, n, off, s, c, e, o, L, rfl, (rk_get (y.get n hlt)).trans hb, Nat.lt_of_lt_of_le hlt y.next, hle, fun k row hk => by
   obtain ⟨rv, h1, h2⟩ := ht k row hk
   exact ⟨rv, h1, h2.gro y⟩⟩
def Laid (w : World) (e1 e2 : TypeId) : Prop := (∃ c, w.heap[0]? = some (.cells c e1 (0, 0)) ∧ c.toList = dc fstD) ∧ ∃ c, w.heap[1]? = some (.cells c e2 (0, 0)) ∧ c.toList = dc accD
theorem tabs_laid {w : World} (h : laidMet Tryd.prog Rows.diffApplyRow.laid w) : ∃ e1 e2, Laid w e1 e2 := by
 obtain ⟨c1, t1, a1, b1⟩ := laid_tab h (name := "unicode/utf8.first") (d := fstD) (.tail _ (.head _)) (g := 0) (t := 142) (e := 5) (ts := [5]) (D := 1000) (n := 256) (by kernel_rfl) (by kernel_rfl) (by kernel_rfl) (by kernel_rfl) (by kernel_rfl) (by kernel_rfl) (by kernel_rfl) (blt_lt (by kernel_rfl))
 obtain ⟨c2, t2, a2, b2⟩ := laid_tab h (name := "unicode/utf8.acceptRanges") (d := accD) (.head _) (g := 1) (t := 145) (e := 144) (ts := [5, 5]) (D := 1000) (n := 16) (by kernel_rfl) (by kernel_rfl) (by kernel_rfl) (by kernel_rfl) (by kernel_rfl) (by kernel_rfl) (by kernel_rfl) (blt_lt (by kernel_rfl))
 exact ⟨t1, t2, ⟨c1, a1, b1⟩, c2, a2, b2⟩
theorem bk_put_eq {H : AHeap} {g : Nat} {e : TypeId} {vs : List Value} : bk (H.put g (some (tabO e vs))) g = some ⟨e, false, vs⟩ := by
 refine blk_bk ⟨RV.ofList vs, ?_, RV.n_ofList _, fun i hi => ?_⟩
 ·simp only [cellsAt, AHeap.get_put, if_true, tabO]
 ·rw [RV.get_ofList]
theorem Laid.ro {W : World} {e1 e2 : TypeId} (hl : Laid W e1 e2) : ∃ ρ H, Ro Tryd.prog ρ H W ∧ Tab H ∧ 1 < H.next := by
 have h2 : 2 ≤ Tryd.prog.globals.size := Nat.le_of_ble_eq_true (by kernel_rfl)
 obtain ⟨N, hN⟩ : ∃ N, Tryd.prog.globals.size = N := ⟨_, rfl⟩
 rw [hN] at h2
 have r : Rel Tryd.prog (enR N 0 0) (AHeap.none (N + 1)) W := ⟨Nat.le_refl _, ⟨by rw [hN]; exact Nat.le_succ N, fun g hg => by
   have : g ≠ N := by omega
   exact ⟨if_neg this, if_neg this⟩⟩, fun m _ hm => absurd (none_get _ m) hm, fun n o ho => (by rw [none_get] at ho; cases ho), fun n o ho => (by rw [none_get] at ho; cases ho)⟩
 obtain ⟨⟨c1, a1, b1⟩, c2, a2, b2⟩ := hl
 have r1 := rel_tab r (g := 0) (by omega) rfl (fun n h1 h2 => absurd (none_get _ n) h1) a1 b1 (by kernel_rfl)
 have r2 := rel_tab r1 (g := 1) (by omega) rfl (fun n h1 h3 => by
  rw [AHeap.get_put] at h1
  by_cases e : n = 0
  ·subst e
   rw [show (enR N 0 0).blk 0 = 0 from if_neg (by omega)] at h3
   exact absurd h3 (by decide)
  ·rw [if_neg e] at h1; exact absurd (none_get _ n) h1) a2 b2 (by kernel_rfl)
 refine ⟨_, _, ⟨r2, rfl, rfl, fun n hn => .inr ?_⟩, ⟨e1, e2, ?_, bk_put_eq⟩, by show 1 < N + 1; omega⟩
 ·rw [AHeap.get_put, AHeap.get_put] at hn
  by_cases h1 : n = 1
  ·subst h1
   refine ⟨by omega, c2, e2, a2, fun v hv => ?_⟩
   rw [b2] at hv
   exact List.all_eq_true.1 (show (dc accD).all isU8 = true by kernel_rfl) v hv
  ·rw [if_neg h1] at hn
   by_cases h0 : n = 0
   ·subst h0
    refine ⟨by omega, c1, e1, a1, fun v hv => ?_⟩
    rw [b1] at hv
    exact List.all_eq_true.1 (show (dc fstD).all isU8 = true by kernel_rfl) v hv
   ·rw [if_neg h0] at hn
    exact absurd (none_get _ n) hn
 ·rw [bk_get (G := (AHeap.none (N + 1)).put 0 (some (tabO e1 (dc fstD)))) (by rw [AHeap.get_put, if_neg (by decide)])]
  exact bk_put_eq
theorem ce_of : ∀ cs, fits Tryd.prog [3, 3, 3, 4, 4, 4] cs = true → ∃ c : Ce, cs = c.cells := fun cs h => by
 have hl := fits_length h
 match cs, hl, h with
 | [a, b, c, d, e, f], _, h =>
  simp only [fits, Bool.and_eq_true, Bool.and_true] at h
  obtain ⟨h1, h2, h3, h4, h5, h6⟩ := h
  unfold fit1 at h1 h2 h3 h4 h5 h6
  rw [la_u3] at h1 h2 h3
  rw [la_u4] at h4 h5 h6
  cases a <;> simp at h1
  cases b <;> simp at h2
  cases c <;> simp at h3
  cases d <;> simp at h4
  cases e <;> simp at h5
  cases f <;> simp at h6
  subst h1 h2 h3
  exact ⟨⟨_, _, _, _, _, _⟩, rfl⟩
theorem op_of : ∀ cs, fits Tryd.prog [3, 3, 3, 3, 3, 3, 4, 4, 4, 9] cs = true → ∃ c : Op, cs = c.cells := fun cs h => by
 have hl := fits_length h
 match cs, hl, h with
 | [a, b, c, d, e, f, g, h0, i, j], _, h =>
  simp only [fits, Bool.and_eq_true, Bool.and_true] at h
  obtain ⟨h1, h2, h3, h4, h5, h6, h7, h8, h9, h10⟩ := h
  unfold fit1 at h1 h2 h3 h4 h5 h6 h7 h8 h9 h10
  rw [la_u3] at h1 h2 h3 h4 h5 h6
  rw [la_u4] at h7 h8 h9
  rw [la_u9] at h10
  cases a <;> simp at h1
  cases b <;> simp at h2
  cases c <;> simp at h3
  cases d <;> simp at h4
  cases e <;> simp at h5
  cases f <;> simp at h6
  cases g <;> simp at h7
  cases h0 <;> simp at h8
  cases i <;> simp at h9
  cases j <;> simp at h10
  subst h1 h2 h3 h4 h5 h6
  exact ⟨⟨_, _, _, _, ⟨_, _, _, _, _⟩, _⟩, rfl⟩
theorem slAt_row {H : AHeap} {u : Value} {vs : List Value} {len : Nat} (h : SlAt H 6 u vs len) (hc : chunkd Tryd.prog [3, 3, 3, 4, 4, 4] vs len) : ∃ row, RowAt H u row := by
 obtain ⟨h1, a, cap, rfl, h3⟩ := h
 obtain ⟨l, hl, rfl⟩ := chunk_of ce_of len vs h1 hc
 by_cases h0 : l = []
 ·subst h0
  subst hl
  exact ⟨[], .inl ⟨rfl, a, cap, rfl⟩⟩
 ·have hne : len ≠ 0 := fun h => h0 (List.eq_nil_of_length_eq_zero (by omega))
  obtain ⟨n, e, rfl, h4, h5⟩ := h3.resolve_left hne
  refine ⟨l, .inr ⟨h0, n, 0, some 0, cap, e, true, _, by rw [hl], h5, h4, by rw [h1, hl]; omega, ?_⟩⟩
  rw [List.drop_zero, List.take_of_length_le (by rw [h1, hl]; exact Nat.le_refl _)]
  rfl
theorem rows_of {H : AHeap} : ∀ {us : List Value}, (∀ y ∈ us, ∃ row, RowAt H y row) → ∃ g : List (List Ce), g.length = us.length ∧ ∀ (k : Nat) row, g[k]? = some row → ∃ rv, us[k]? = some rv ∧ RowAt H rv row
 | [], _ => ⟨[], rfl, fun k row h => by simp at h⟩
 | u :: us, h => by
  obtain ⟨row, hr⟩ := h u (by simp)
  obtain ⟨g, h1, h2⟩ := rows_of (us := us) (fun y hy => h y (by simp [hy]))
  refine ⟨row :: g, by simp [h1], fun k r hk => ?_⟩
  cases k with
  | zero =>
   simp only [List.getElem?_cons_zero, Option.some.injEq] at hk
   subst hk
   exact ⟨u, rfl, hr⟩
  | succ k => exact h2 k r (by simpa using hk)
section
variable {K : Type} {enc : TypeId × Value → K} {held : Bool} {W : World} {ρ : Ren} {H : AHeap}
theorem ro_screen (R : Ro Tryd.prog ρ H W) {v : Value} {d : DataW K} {p : List MemPlace} (h : DataW.Trod enc Tryd.prog W 0 (fun _ => true) held 24 v d p) :
  ∃ ρ1 H1 u g r c, Ro Tryd.prog ρ1 H1 W ∧ Ext H.next ρ ρ1 ∧ Gro H H1 ∧ ρ1.val (.agg ⟨[u, .int .i64 r, .int .i64 c]⟩) = v ∧ scb H1.next u = true ∧ GridAt H1 u g ∧ GridSc H1 u := by
 obtain ⟨fuel, hf⟩ := h
 obtain ⟨hl, n, hs⟩ := trod_flds la_f24 hf
 rw [cellsOf_szOf (n := 3) (by kernel_rfl)] at hl
 have c22 : Tryd.prog.cellsOf 22 = 1 := cellsOf_szOf (by kernel_rfl)
 have c3 : Tryd.prog.cellsOf 3 = 1 := cellsOf_szOf (by kernel_rfl)
 cases v with
 | agg cs =>
  obtain ⟨cs⟩ := cs
  simp only [Value.cells] at hl hs
  match cs, hl, hs with
  | [a, b, c], _, hs =>
   obtain ⟨y0, h0⟩ := hs 0 22 0 rfl
   obtain ⟨y1, h1⟩ := hs 1 3 1 rfl
   obtain ⟨y2, h2⟩ := hs 2 3 2 rfl
   rw [c22] at h0
   rw [c3] at h1 h2
   obtain ⟨r, e1, _⟩ := DataW.trod_int la_u3 h1
   obtain ⟨q, e2, _⟩ := DataW.trod_int la_u3 h2
   simp only [List.drop_succ_cons, List.drop_zero, List.take_succ_cons, List.take_zero, List.cons.injEq, and_true] at e1 e2 h0
   subst e1 e2
   obtain ⟨ρ1, H1, u, us, k1, k2, k3, k4, k5, k6, k7⟩ := R.grid (t2 := 22) (t := 56) (e := 55) (t0 := 3) (ts := [3, 3, 4, 4, 4]) (D := 1000) (by kernel_rfl) (by kernel_rfl) (by kernel_rfl) (by kernel_rfl) (by kernel_rfl) (by kernel_rfl) (fun _ => rfl) h0
   obtain ⟨g, hg1, hg2⟩ := rows_of (H := H1) (us := us) (fun y hy => by
    obtain ⟨vs, len, j1, j2⟩ := k7 y hy
    exact slAt_row j1 j2)
   refine ⟨ρ1, H1, u, g, r, q, k1, k2, k3, ?_, k5, ?_, fun n off s len c b _ hb => k1.rel.rk_sc hb⟩
   ·simp [Ren.val, Ren.valA, Ren.valL, k4]
   ·obtain ⟨j1, a, cap, rfl, j3⟩ := k6
    by_cases h0 : g = []
    ·subst h0
     have : us.length = 0 := by simpa using hg1.symm
     rw [this]
     exact .inl ⟨rfl, a, cap, rfl⟩
    ·have hne : us.length ≠ 0 := fun h => h0 (List.eq_nil_of_length_eq_zero (by omega))
     obtain ⟨n, e, rfl, h4, h5⟩ := j3.resolve_left hne
     refine .inr ⟨h0, n, 0, some 0, cap, e, true, us, by rw [hg1], h5, h4, by rw [hg1]; omega, fun k row hk => ?_⟩
     rw [Nat.zero_add]
     exact hg2 k row hk
 | _ => simp [Value.cells] at hl
end
end Go.Proofs.YtaojjfebkldmnaaDoor
/- Parts of a list of operations: slices of it, put one behind the other. -/
namespace Go.Proofs.YtaojjfebkldmnaaDoor
open Go.Ax
theorem o_und : Tryd.prog.underlying 28 = some (.slice 47) := by kernel_rfl
theorem o_sz : szOf Tryd.prog 47 = some 10 := by kernel_rfl
theorem o_by : bytesOf Tryd.prog 47 = some 72 := by kernel_rfl
theorem o_zero : zeroOf Tryd.prog 47 = some (.agg #[.int .i64 0, .int .i64 0, .int .i64 0, .int .i64 0, .int .i64 0, .int .i64 0, .bool false, .bool false, .bool false, .string ⟨#[]⟩]) := by kernel_rfl
theorem o_int : intTy Tryd.prog 28 = some false := by kernel_rfl
theorem o_small {n : Nat} (h : n ≤ 100000) : small n 72 = true := by simp only [small, Bool.and_eq_true, Nat.ble_eq]; omega
theorem opsOf_append (l m : List Op) : opsOf (l ++ m) = opsOf l ++ opsOf m := by simp [opsOf]
def OpsArg (H : AHeap) (v : Value) (l : List Op) : Prop :=
 (l = [] ∧ v = .slice none 0 0) ∨ ∃ n c, v = .slice (some ⟨n, 0, some 0⟩) l.length c ∧ l.length ≤ c ∧ n < H.next ∧ (l = [] ∨ ∃ e o L, rk H n = some ⟨e, o, L⟩ ∧ l.length * 10 ≤ L.length ∧ L.take (l.length * 10) = opsOf l)
theorem OpsArg.at_ {H : AHeap} {v : Value} {l : List Op} (h : OpsArg H v l) : OpsAt H v l := by
 rcases h with ⟨rfl, rfl⟩ | ⟨n, c, rfl, hc, hn, rfl | ⟨e, o, L, hb, h1, h2⟩⟩
 ·exact .inl ⟨rfl, _, _, rfl⟩
 ·exact .inl ⟨rfl, _, _, rfl⟩
 ·by_cases hl : l = []
  ·subst hl; exact .inl ⟨rfl, _, _, rfl⟩
  ·exact .inr ⟨hl, n, 0, some 0, c, e, o, L, rfl, hb, hn, by omega, by rw [List.drop_zero]; exact h2⟩
theorem OpsArg.sl {H : AHeap} {v : Value} {l : List Op} (h : OpsArg H v l) : ∃ a c, v = .slice a l.length c := h.at_.sl
theorem opsOf_part (l : List Op) (lo hi : Nat) : ((opsOf l).drop (lo * 10)).take ((hi - lo) * 10) = opsOf ((l.take hi).drop lo) := by
 have e1 : ∀ (l : List Op) (k : Nat), (opsOf l).drop (k * 10) = opsOf (l.drop k) := fun l k => by
  rcases Nat.lt_or_ge k l.length with h | h
  ·have e : l = l.take k ++ l.drop k := (List.take_append_drop k l).symm
   have hk : (opsOf (l.take k)).length = k * 10 := by rw [opsOf_len, List.length_take]; omega
   conv => lhs; rw [e, opsOf_append]
   rw [← hk, List.drop_left]
  ·rw [List.drop_eq_nil_of_le (by rw [opsOf_len]; omega), List.drop_eq_nil_of_le h]; rfl
 have e2 : ∀ (l : List Op) (k : Nat), (opsOf l).take (k * 10) = opsOf (l.take k) := fun l k => by
  rcases Nat.lt_or_ge k l.length with h | h
  ·have e : l = l.take k ++ l.drop k := (List.take_append_drop k l).symm
   have hk : (opsOf (l.take k)).length = k * 10 := by rw [opsOf_len, List.length_take]; omega
   conv => lhs; rw [e, opsOf_append]
   rw [← hk, List.take_left]
  ·rw [List.take_of_length_le (by rw [opsOf_len]; omega), List.take_of_length_le h]
 rw [e1, e2, List.drop_take]
theorem OpsArg.slice {H : AHeap} {v : Value} {l : List Op} (h : OpsArg H v l) {x y : Option Value} {lo hi : Nat} (hx : bound 0 x = some lo) (hy : bound l.length y = some hi) (h1 : lo ≤ hi) (h2 : hi ≤ l.length) :
  ∃ u, (∀ G : AHeap, aSlice Tryd.prog G 28 v x y none = some (u, G)) ∧ OpsAt H u ((l.take hi).drop lo) ∧ (∀ n ∈ idsV u, n ∈ idsV v) ∧ (∀ n, scb n v = true → scb n u = true) := by
 have hl : ((l.take hi).drop lo).length = hi - lo := by simp; omega
 rcases h with ⟨rfl, rfl⟩ | ⟨n, c, rfl, hc, hn, hb⟩
 ·have h3 : hi = 0 := by simpa using h2
  have h4 : lo = 0 := by omega
  subst h3 h4
  refine ⟨.slice none 0 0, fun G => ?_, .inl ⟨rfl, _, _, rfl⟩, fun n hn => by simp [idsV] at hn, fun n _ => rfl⟩
  rw [List.length_nil] at hy
  simp only [aSlice, o_und, o_sz, oZ2, oZ3, aSlice2, hx, hy]
  rfl
 ·refine ⟨.slice (some ⟨n, if c = lo then 0 else 0 + lo * 10, some 0⟩) (hi - lo) (c - lo), fun G => ?_, ?_, fun q hq => by simpa [idsV] using hq, fun q hq => by simpa [scb] using hq⟩
  ·simp only [aSlice, o_und, o_sz, oZ2, oZ3, aSlice2, hx, hy, exactAt]
   rw [if_pos ⟨by omega, h1⟩]
  ·by_cases he : hi = lo
   ·refine .inl ⟨List.eq_nil_of_length_eq_zero (by omega), _, _, by rw [he, Nat.sub_self]⟩
   ·rcases hb with rfl | ⟨e, o, L, hb, h3, h4⟩
    ·exact absurd h2 (by simp; omega)
    refine .inr ⟨fun e => by rw [e] at hl; simp at hl; omega, n, _, some 0, _, e, o, L, by rw [hl], hb, hn, ?_, ?_⟩
    ·rw [if_neg (by omega), hl]
     have : hi * 10 ≤ l.length * 10 := Nat.mul_le_mul_right _ h2
     omega
    ·rw [if_neg (by omega), hl, ← opsOf_part, ← h4, Nat.zero_add, List.drop_take, List.take_take]
     rw [Nat.min_eq_left]
     have : hi * 10 ≤ l.length * 10 := Nat.mul_le_mul_right _ h2
     omega
def OpsV (H : AHeap) (m : Nat) (v : Value) (l : List Op) : Prop :=
 (l = [] ∧ v = .slice (some ⟨m, 0, some 0⟩) 0 0 ∧ bk H m = some ⟨47, false, []⟩ ∧ m < H.next) ∨ (l ≠ [] ∧ VsAt H 47 10 v (opsOf l) l.length)
theorem OpsV.of {H G : AHeap} {m : Nat} {v : Value} {l : List Op} (h : OpsV H m v l) (hn : H.next ≤ G.next) (hg : ∀ n ∈ idsV v, G.get n = H.get n) : OpsV G m v l := by
 rcases h with ⟨rfl, rfl, hb, hm⟩ | ⟨h0, h⟩
 ·exact .inl ⟨rfl, rfl, (bk_get (hg m (by simp [idsV]))).trans hb, by omega⟩
 ·exact .inr ⟨h0, h.of hn hg⟩
theorem OpsV.ne {H : AHeap} {m : Nat} {v : Value} {l : List Op} (h : OpsV H m v l) : ∀ n ∈ idsV v, H.get n ≠ none ∧ n < H.next := by
 rcases h with ⟨rfl, rfl, hb, hm⟩ | ⟨h0, h⟩
 ·intro n hn; simp only [idsV, List.mem_singleton] at hn; subst hn; exact ⟨bk_ne hb, hm⟩
 ·exact h.ne
theorem OpsV.at_ {H : AHeap} {m : Nat} {v : Value} {l : List Op} (h : OpsV H m v l) : OpsAt H v l := by
 rcases h with ⟨rfl, rfl, hb, hm⟩ | ⟨h0, h1, h2, ⟨h3, _⟩ | ⟨h3, n, rfl, hb, hn⟩⟩
 ·exact .inl ⟨rfl, _, _, rfl⟩
 ·exact absurd (List.eq_nil_of_length_eq_zero h3) h0
 ·refine .inr ⟨h0, n, 0, none, _, _, _, _, rfl, rk_of hb, hn, by rw [opsOf_len]; omega, ?_⟩
  rw [List.drop_zero, List.take_of_length_le (by rw [opsOf_len]; exact Nat.le_refl _)]
theorem opsV_app {H : AHeap} {m : Nat} {v u : Value} {l l2 : List Op} (h : OpsV H m v l) (hp : OpsAt H u l2) (hok : H.base ≤ H.next) (hl : l.length + l2.length ≤ 100000) :
  ∃ v' G, aBuiltin Tryd.prog H .append ⟨[28, 28]⟩ [v, u] = some (v', G) ∧ OpsV G m v' (l ++ l2) ∧ Mod (idsV v) H G ∧ ∀ n ∈ idsV v', n ∈ idsV v ∨ H.next ≤ n := by
 by_cases h2 : l2 = []
 ·subst h2
  obtain ⟨a, c, rfl⟩ := hp.sl
  rw [List.append_nil]
  have hle : Go.Ax.lenV (.slice a ([] : List Op).length c) = some 0 := rfl
  have hfi : firstC H 10 0 (.slice a ([] : List Op).length c) = some [] := by
   cases a with
   | none => rfl
   | some a => simp only [firstC, if_true]
  have core : ∀ (n k : Nat) (s : Option Nat) (b : Bl), v = .slice (some ⟨n, 0, s⟩) k k → s.getD 0 = 0 → bk H n = some b → n < H.next → k * 10 ≤ b.l.length → k ≤ 100000 → OpsV H m v l →
    ∃ v' G, aBuiltin Tryd.prog H .append ⟨[28, 28]⟩ [v, .slice a ([] : List Op).length c] = some (v', G) ∧ OpsV G m v' l ∧ Mod (idsV v) H G ∧ ∀ n ∈ idsV v', n ∈ idsV v ∨ H.next ≤ n := fun n k s b e hs hb hlt hkb hk hv => by
   subst e
   have hw := write_old (H := H) (L := []) (n := n) (off := 0 + k * 10) (vs := []) hlt hb (by simp only [List.length_nil]; omega) rfl rfl
   have ha := app_in (P := Tryd.prog) (H := H) (st := 28) (xt := 28) (m := n) (off := 0) (k := k) (cap := k) (sp := s) o_und o_sz o_by o_zero rfl o_int hle hfi rfl (by omega) (o_small (by omega))
   rw [show aWrite H n (0 + k * 10) [] = aWrite (ext H []) n (0 + k * 10) [] from rfl, hw, oZ5] at ha
   refine ⟨_, _, ha, ?_, Mod.uw (by simp [idsV]), fun q hq => .inl hq⟩
   have hbu : bk (uw H n (0 + k * 10) []) n = some b := by
    rw [bk_uw_eq, hb]
    simp [putB, putL_nl]
   rcases hv with ⟨rfl, e, hbm, hm⟩ | ⟨h0, q1, q2, ⟨q3, _⟩ | ⟨q3, n', e, hbm, hm⟩⟩
   ·simp only [Value.slice.injEq, Option.some.injEq, Addr.mk.injEq, true_and] at e
    obtain ⟨⟨rfl, rfl⟩, rfl, _⟩ := e
    rw [hbm] at hb
    cases hb
    exact .inl ⟨rfl, rfl, hbu, by rw [ext_next, uw_next]; simpa using hm⟩
   ·exact absurd (List.eq_nil_of_length_eq_zero q3) h0
   ·simp only [Value.slice.injEq, Option.some.injEq, Addr.mk.injEq, true_and] at e
    obtain ⟨⟨rfl, rfl⟩, rfl, _⟩ := e
    rw [hbm] at hb
    cases hb
    exact .inr ⟨h0, q1, q2, .inr ⟨q3, n, rfl, hbu, by rw [ext_next, uw_next]; simpa using hm⟩⟩
  rcases id h with ⟨rfl, e, hb, hm⟩ | ⟨h0, h1, h2, ⟨h3, _⟩ | ⟨h3, n, e, hb, hn⟩⟩
  ·exact core m 0 (some 0) _ e rfl hb hm (by simp) (by omega) h
  ·exact absurd (List.eq_nil_of_length_eq_zero h3) h0
  ·exact core n l.length none _ e rfl hb hn (by simp only; rw [opsOf_len]; exact Nat.le_refl _) (by omega) h
 ·rcases hp with ⟨e, _⟩ | ⟨_, n, off, s, c, e, o, L, rfl, hb, hnl, hle, ht⟩
  ·exact absurd e h2
  have hpos : 0 < l2.length := List.length_pos_iff.2 h2
  rcases h with ⟨rfl, rfl, hm, hlt⟩ | ⟨h0, h⟩
  ·have happ := app_exactP (P := Tryd.prog) (H := H) (st := 28) (xt := 28) (e := 47) (sz := 10) (by1 := 72) (m := m) (k := 0) (n := n) (off := off) (cnt := l2.length) (cap := c) (s := s) (b := ⟨e, o, L⟩) (bm := ⟨47, false, []⟩)
    o_und o_sz o_by o_zero rfl o_int hm (by simp) rfl hb hle (by rw [ht]; exact ops_one l2) hpos (o_small (by omega))
   have hn := new_ext (H := H) (L := []) (e := 47) (l := opsOf l2) (o := true) (ops_sc _ _)
   simp only [ht, Nat.zero_mul, List.take_zero, List.nil_append] at happ
   rw [show H = ext H [] from rfl, hn, oZ5] at happ
   simp only [Nat.zero_add] at happ
   refine ⟨_, _, happ, .inr ⟨by simpa using h2, by rw [List.nil_append, opsOf_len], by rw [List.nil_append]; exact ops_one l2, .inr ⟨by simpa using hpos, H.next + 0, rfl, ?_, by rw [ext_next]; simp⟩⟩, Mod.ext hok, fun q hq => by simp only [idsV, List.mem_singleton] at hq; exact .inr (by rw [hq]; exact Nat.le_refl _)⟩
   rw [List.nil_append, List.nil_append, bk_at rfl (by simp)]; rfl
  ·obtain ⟨G, ga, gb, gc, gd, ge⟩ := vs_app (P := Tryd.prog) (H := H) (st := 28) (xt := 28) (e := 47) (sz := 10) (by1 := 72) (n := n) (off := off) (cnt2 := l2.length) (cap := c) (s := s) (x := H.next) (ws := opsOf l2) (b := ⟨e, o, L⟩)
    o_und o_sz o_by o_zero rfl o_int h hb hle ht (ops_one l2) hpos (o_small (by omega)) rfl (scbL_append (ops_sc _ _) (ops_sc _ _))
   refine ⟨_, G, ga, .inr ⟨by simp [h2], ?_⟩, gc hok, fun q hq => .inr (by simp only [idsV, List.mem_singleton] at hq; omega)⟩
   rw [opsOf_append, List.length_append]
   exact gb
section
variable {Z : AHeap} {N : Nat} {E : Env} {ds : List Deferred} {ops : Array Oper} {anc : List Nat} {ty : TypeId} {pos : String} {after : Array Edge} {rest : List Oper} {i d m : Nat} {fps : List Fp} {Q : AAct → AHeap → Prop} {v u : Value} {l l2 : List Op}
theorem genV_appO {args : List Operand} (h : OpsV Z m v l) (hp : OpsAt Z u l2) (hnu : ∀ n ∈ idsV u, l2 ≠ [] → n < Z.next ∧ Z.get n ≠ none) (hok : Z.base ≤ Z.next) (hl : l.length + l2.length ≤ 100000)
  (hd : d < N) (ha : args.all (opOk Tryd.prog N) = true) (hv : args.map (opv E) = [v, u]) (hm : ∀ r ∈ fps, (anc.getD i 0).testBit r.i = true ∨ (r.hi ≤ r.lo ∧ (∀ n ∈ r.W, n ∉ idsV v ++ idsV u) ∧ (∀ n ∈ r.F, n ∉ idsV v)))
  (hk : ∀ v' Z' D F, Mod (idsV v) Z Z' → OpsV Z' m v' (l ++ l2) → (∀ n ∈ idsV v', n ∈ idsV v ∨ Z.next ≤ n) → (∀ n ∈ D, n ∈ idsV v) → wkD Tryd.prog ops anc rest (i + 1) (⟨i, F, D, Z.next, Z'.next⟩ :: fps) (mkA N (upd E d v') ds) Z' Q) :
  genV Tryd.prog ops anc ⟨some d, .call ⟨.builtin .append, ⟨args⟩, ⟨[28, 28]⟩⟩, ty, pos, after, none⟩ rest i fps (mkA N E ds) Z Q := by
 obtain ⟨W, hW⟩ : ∃ W, W = if l2 = [] then [] else idsV u := ⟨_, rfl⟩
 have hrn := restrict_next Z (idsV v ++ W)
 have hg : ∀ n, n ∈ idsV v ++ W → (Z.restrict (idsV v ++ W)).get n = Z.get n := fun n hn => by rw [restrict_get, if_pos hn]
 have hpR : OpsAt (Z.restrict (idsV v ++ W)) u l2 := by
  by_cases h2 : l2 = []
  ·obtain ⟨a, c, e⟩ := hp.sl
   subst h2
   exact .inl ⟨rfl, a, c, e⟩
  ·exact hp.of (by rw [hrn.1]; exact Nat.le_refl _) fun n hn => hg n (List.mem_append_right _ (by rw [hW, if_neg h2]; exact hn))
 obtain ⟨v', G, ga, gb, gc, gd⟩ := opsV_app (h.of (G := Z.restrict (idsV v ++ W)) (by rw [hrn.1]; exact Nat.le_refl _) fun n hn => hg n (List.mem_append_left _ hn)) hpR (by rw [hrn.1, hrn.2.1]; exact Nat.le_refl _) hl
 rw [hrn.1] at gd
 have hWn : ∀ n ∈ W, n < Z.next ∧ Z.get n ≠ none := fun n hn => by
  rw [hW] at hn
  split at hn
  ·simp at hn
  ·rename_i h2; exact hnu n hn h2
 refine genV_modO (W := idsV v) (idsV v ++ W) hok (fun n hn => ?_) (fun n hn => ?_) (fun n hn => List.mem_append_left _ hn) (app_op (v := v') (G := G) ha (by rw [hv]; exact ga)) gc (fun r hr => (hm r hr).imp id fun h => ⟨h.1, fun n hn hF => h.2.1 n hn (by
   rcases List.mem_append.1 hF with h3 | h3
   ·exact List.mem_append_left _ h3
   ·refine List.mem_append_right _ ?_
    rw [hW] at h3
    split at h3
    ·simp at h3
    ·exact h3), h.2.2⟩) ?_
 ·rcases List.mem_append.1 hn with hn | hn
  ·exact (h.ne n hn).1
  ·exact (hWn n hn).2
 ·rcases List.mem_append.1 hn with hn | hn
  ·exact (h.ne n hn).2
  ·exact (hWn n hn).1
 intro Z' D m1 m2 m3 m4 m5
 have gl := gc.next
 rw [hrn.1] at gl
 have hv' : OpsV Z' m v' (l ++ l2) := gb.of (by omega) fun n hn => by
  rcases gd n hn with h5 | h5
  ·exact m2 n (List.mem_append_left _ h5)
  ·exact m3 n h5 (gb.ne n hn).2
 have := hk v' Z' D (idsV v ++ W) m1 hv' gd m5
 rw [m4] at this
 rw [put_some N E ds d v' hd]
 rw [← m4] at this ⊢
 exact this
end
end Go.Proofs.YtaojjfebkldmnaaDoor
/- Operations and looks as arguments of DiffMay. -/
namespace Go.Proofs.YtaojjfebkldmnaaDoor
open Go.ChangeShapes Go.WideShapes Go.ChangeAt Go.RowKit Go.Ax
theorem ok_int {P : Program} {w : World} {r : Reach} {base : Nat} {t : TypeId} {v : Value} (ht : P.underlying t = some (.int .i64)) (h : Value.okWide P w r base t v) : ∃ n, v = .int .i64 n := by
 unfold Value.okWide at h
 rw [ht] at h
 unfold Cell.okWide Cell.ok at h
 cases v <;> simp [ht] at h
 exact ⟨_, by rw [h.1]⟩
theorem ok_sliceA {P : Program} {w : World} {r : Reach} {base : Nat} {t e : TypeId} {v : Value} (ht : P.underlying t = some (.slice e)) (h : Value.okWide P w r base t v) : v = .slice none 0 0 ∨ ∃ b off len cap, v = .slice (some ⟨b, off, none⟩) len cap ∧ len ≤ cap := by
 unfold Value.okWide at h
 rw [ht] at h
 unfold Cell.okWide Cell.ok at h
 cases v with
 | slice a len cap =>
  cases a with
  | none =>
   left
   simp only [ht] at h
   split at h <;> first | (cases h; done) | skip
   all_goals simp_all
  | some a =>
   right
   simp only [ht] at h
   obtain ⟨h1, _, _, h2, _⟩ := h
   obtain ⟨b, off, s⟩ := a
   simp only at h2
   subst h2
   exact ⟨b, off, len, cap, rfl, h1⟩
 | _ => simp [ht] at h
section
variable {K : Type} {enc : TypeId × Value → K} {held : Bool} {W : World} {ρ : Ren} {H : AHeap}
theorem ok_look {v : Value} {d : DataW K} {p : List MemPlace} (h : DataW.Trod enc Tryd.prog W 0 (fun _ => true) true 45 v d p) : ∃ k : Lk, v = .agg ⟨[.int .i64 k.fore, .int .i64 k.back, .bool k.bold, .bool k.under, .bool k.inv]⟩ := by
 obtain ⟨fuel, hf⟩ := h
 have := trod_fits fuel 10000 45 [3, 3, 4, 4, 4] _ _ (by kernel_rfl) (by kernel_rfl) hf
 have hl := fits_length this
 cases v with
 | agg cs =>
  obtain ⟨cs⟩ := cs
  simp only [Value.cells] at this hl
  match cs, this, hl with
  | [a, b, c, d, e], this, _ =>
   simp only [fits, Bool.and_eq_true, Bool.and_true] at this
   obtain ⟨h1, h2, h3, h4, h5⟩ := this
   unfold fit1 at h1 h2 h3 h4 h5
   rw [la_u3] at h1 h2
   rw [la_u4] at h3 h4 h5
   cases a <;> simp at h1
   cases b <;> simp at h2
   cases c <;> simp at h3
   cases d <;> simp at h4
   cases e <;> simp at h5
   subst h1 h2
   exact ⟨⟨_, _, _, _, _⟩, rfl⟩
 | _ => simp [Value.cells] at hl
theorem ro_opsA (R : Ro Tryd.prog ρ H W) {v : Value} {d : DataW K} {p : List MemPlace} (h : DataW.Trod enc Tryd.prog W 0 (fun _ => true) held 28 v d p) (hv : v = .slice none 0 0 ∨ ∃ b off len cap, v = .slice (some ⟨b, off, none⟩) len cap ∧ len ≤ cap) :
  ∃ ρ1 H1 u l, Ro Tryd.prog ρ1 H1 W ∧ Ext H.next ρ ρ1 ∧ Gro H H1 ∧ ρ1.val u = v ∧ scb H1.next u = true ∧ OpsArg H1 u l := by
 obtain ⟨fuel, hf⟩ := h
 rcases hv with rfl | ⟨b, off, len, cap, rfl, hle⟩
 ·exact ⟨ρ, H, .slice none 0 0, [], R, Ext.refl _ _, Gro.refl, by rw [Ren.val], rfl, .inl ⟨rfl, rfl⟩⟩
 replace hf : DataW.trod enc Tryd.prog W 0 (fun _ => true) held fuel 28 [.slice (some ⟨b, off, none⟩) len cap] = some (d, p) := hf
 obtain ⟨vs, n, k1, k2, k3⟩ := sl_cells o_und o_sz hf
 have hch : chunkd Tryd.prog [3, 3, 3, 3, 3, 3, 4, 4, 4, 9] vs len := fun i hi => by
  obtain ⟨y, hy⟩ := k3 i hi
  exact trod_fits n 1000 47 [3, 3, 3, 3, 3, 3, 4, 4, 4, 9] _ y (by kernel_rfl) o_sz hy
 have haf := chunkd_af k1 hch
 have hsc : scbL H.next vs = true := scbL_of_af _ (afL_of haf)
 obtain ⟨l, hl, hvs⟩ := chunk_of op_of len vs k1 hch
 by_cases h0 : len = 0
 ·subst h0
  have hl0 : l = [] := List.eq_nil_of_length_eq_zero hl
  subst hl0
  obtain ⟨q1, q2, q3⟩ := R.skip b off
  exact ⟨_, _, .slice (some ⟨H.next, 0, some 0⟩) 0 cap, [], q1, q2, q3, val_sl, blt_of (Nat.lt_succ_self _), .inr ⟨H.next, cap, rfl, by simp, Nat.lt_succ_self _, .inl rfl⟩⟩
 ·obtain ⟨c, e', fz, hb, hc⟩ := k2.resolve_left (fun h => h0 (by omega))
  have hp : 0 < vs.length := by rw [k1]; omega
  have hu8 : ∃ i, i < vs.length ∧ isU8 (ρ.val (vs.getD i undef)) = false := by
   refine ⟨0, hp, ?_⟩
   rw [map_val_af haf 0 hp]
   have hc := hch 0 (by omega)
   rw [Nat.zero_mul, List.drop_zero] at hc
   cases vs with
   | nil => simp at hp
   | cons y ys =>
    simp only [List.length_cons, List.length_nil, List.take_succ_cons, fits, Bool.and_eq_true] at hc
    exact nu8_val (t := 3) (by kernel_rfl) hc.1
  obtain ⟨q1, q2, q3⟩ := R.add hb (fun i hi => by rw [map_val_af haf i hi]; exact hc i hi) hsc hu8
  refine ⟨_, _, .slice (some ⟨H.next, 0, some 0⟩) len cap, l, q1, q2, q3, val_sl, blt_of (Nat.lt_succ_self _), .inr ⟨H.next, cap, by rw [hl], by omega, Nat.lt_succ_self _, .inr ⟨e', true, vs, roH_rk, by rw [k1, hl]; exact Nat.le_refl _, ?_⟩⟩⟩
  rw [List.take_of_length_le (by rw [k1, hl]; exact Nat.le_refl _), hvs]
  rfl
end
end Go.Proofs.YtaojjfebkldmnaaDoor
/- The small functions of DiffMay: Pick, move. -/
namespace Go.Proofs.YtaojjfebkldmnaaDoor
open Go.Ax
theorem pick_c (x n : Int) (hn : 1 ≤ n) (h2 : n ≤ 1000000) : ∃ r : Int, 0 ≤ r ∧ r < n ∧ ∀ H : AHeap, Pure 35 [.int .i64 x, .int .i64 n] H (.int .i64 r) := by
 have hd : decide (n ≤ 0) = false := decide_eq_false (by omega)
 have hnz : n ≠ 0 := by omega
 have h3 := Int.lt_tmod_of_pos x (show 0 < n by omega)
 have h4 := Int.tmod_lt_of_pos x (show 0 < n by omega)
 by_cases hneg : x.tmod n < 0
 ·have hd2 : decide (x.tmod n < 0) = true := decide_eq_true hneg
  have hw : IntKind.i64.wrap (x.tmod n + n) = x.tmod n + n := wrap_sm (by omega) (by omega)
  refine ⟨x.tmod n + n, by omega, by omega, fun H => ?_⟩
  refine callS_fn mixed Tryd.func35 rfl Tryd.ntmps35 (Nat.le_of_ble_eq_true rfl) fun wf hsc => ?_
  simp (maxDischargeDepth := 6) only [hd, hnz, hd2, hw, Tryd.results35, ruW, putL, Nat.reduceLeDiff, xF, ruU, entryE, Nat.reduceLT, Nat.reduceAdd, Nat.reduceMul, Nat.reduceEqDiff]
  exact Fin.pureE rfl rfl
 ·have hd2 : decide (x.tmod n < 0) = false := decide_eq_false hneg
  refine ⟨x.tmod n, by omega, by omega, fun H => ?_⟩
  refine callS_fn mixed Tryd.func35 rfl Tryd.ntmps35 (Nat.le_of_ble_eq_true rfl) fun wf hsc => ?_
  simp (maxDischargeDepth := 6) only [hd, hnz, hd2, Tryd.results35, ruW, putL, Nat.reduceLeDiff, xF, ruU, entryE, Nat.reduceLT, Nat.reduceAdd, Nat.reduceMul, Nat.reduceEqDiff]
  exact Fin.pureE rfl rfl
def mvOp (r c : Int) : Op := ⟨1, r, c, 0, ⟨0, 0, false, false, false⟩, .empty⟩
theorem mv_c (H : AHeap) (r c : Int) : Pure 29 [.int .i64 r, .int .i64 c] H (mvOp r c).val := by
 obtain ⟨b, hb⟩ : ∃ b, H.next = b := ⟨_, rfl⟩
 refine callS_fn mixed Tryd.func29 rfl Tryd.ntmps29 (Nat.le_of_ble_eq_true rfl) fun wf hsc => ?_
 have hbase : H.base ≤ b := hb ▸ wf.base
 simp (maxDischargeDepth := 6) only [hb, hbase, Tryd.results29, ruW, putL, Nat.reduceLeDiff, xF, ruU, entryE, Nat.reduceLT, Nat.reduceAdd, Nat.reduceMul, Nat.reduceEqDiff]
 exact Fin.pureE rfl rfl
end Go.Proofs.YtaojjfebkldmnaaDoor
/- What operations keep: rows are valid. -/
namespace Go.Proofs.YtaojjfebkldmnaaDoor
open Go.Ax
theorem cellsR_m1 : cellsR (-1) = 0 := by kernel_rfl
theorem cellsR_32 : cellsR 32 = 1 := by kernel_rfl
theorem colr_sp : colr Ce.sp.look = true := by kernel_rfl
def VR (l : List Ce) : Prop := ∀ k, k < l.length → colr (l.getD k Ce.sp).look = true ∧ (cellsR (l.getD k Ce.sp).rune = 1 ∨ (cellsR (l.getD k Ce.sp).rune = 2 ∧ k + 1 < l.length ∧ l.getD (k + 1) Ce.sp = (l.getD k Ce.sp).look.ce (-1)) ∨ ((l.getD k Ce.sp).rune = -1 ∧ 0 < k ∧ cellsR (l.getD (k - 1) Ce.sp).rune = 2))
theorem VR.nil : VR [] := fun k hk => absurd hk (by simp)
theorem VR.tail {c : Ce} {l : List Ce} (h : VR (c :: l)) (hc : cellsR c.rune ≠ 2) : VR l := fun k hk => by
 have := h (k + 1) (by simpa using hk)
 simp only [List.getD_cons_succ, List.length_cons, Nat.add_sub_cancel] at this
 refine ⟨this.1, ?_⟩
 rcases this.2 with h1 | ⟨h1, h2, h3⟩ | ⟨h1, _, h3⟩
 ·exact .inl h1
 ·exact .inr (.inl ⟨h1, by omega, h3⟩)
 ·cases k with
  | zero => exact absurd h3 hc
  | succ j => exact .inr (.inr ⟨h1, Nat.succ_pos _, h3⟩)
theorem VR.cons {c : Ce} {l : List Ce} (h : VR l) (hc : colr c.look = true) (h1 : cellsR c.rune = 1) : VR (c :: l) := fun k hk => by
 cases k with
 | zero => exact ⟨hc, .inl h1⟩
 | succ k =>
  have := h k (by simpa using hk)
  simp only [List.getD_cons_succ, List.length_cons, Nat.add_sub_cancel]
  refine ⟨this.1, ?_⟩
  rcases this.2 with h1 | ⟨h1, h2, h3⟩ | ⟨h1, h2, h3⟩
  ·exact .inl h1
  ·exact .inr (.inl ⟨h1, by omega, h3⟩)
  ·cases k with
   | zero => omega
   | succ j => exact .inr (.inr ⟨h1, Nat.succ_pos _, h3⟩)
theorem VR.cons2 {c : Ce} {l : List Ce} (h : VR l) (hc : colr c.look = true) (h2 : cellsR c.rune = 2) : VR (c :: c.look.ce (-1) :: l) := fun k hk => by
 cases k with
 | zero => exact ⟨hc, .inr (.inl ⟨h2, by simp, rfl⟩)⟩
 | succ k =>
  cases k with
  | zero => exact ⟨hc, .inr (.inr ⟨rfl, Nat.succ_pos _, h2⟩)⟩
  | succ k =>
   have := h k (by simpa using hk)
   simp only [List.getD_cons_succ, List.length_cons, Nat.add_sub_cancel]
   refine ⟨this.1, ?_⟩
   rcases this.2 with h1 | ⟨h1, h2, h3⟩ | ⟨h1, h2, h3⟩
   ·exact .inl h1
   ·exact .inr (.inl ⟨h1, by omega, h3⟩)
   ·cases k with
    | zero => omega
    | succ j => exact .inr (.inr ⟨h1, Nat.succ_pos _, h3⟩)
theorem whole_VR : ∀ (n : Nat) (l : List Ce), l.length ≤ n → (wholeB l = true ↔ VR l)
 | _, [], _ => ⟨fun _ => VR.nil, fun _ => rfl⟩
 | n + 1, c :: l, hn => by
  have hl : l.length ≤ n := by simpa using hn
  rw [wholeB_cons]
  constructor
  ·intro h
   split at h
   ·cases h
   ·rename_i hg
    simp only [Bool.or_eq_true, decide_eq_true_eq, Bool.not_eq_true', not_or, Bool.not_eq_false] at hg
    obtain ⟨hc0, hcl⟩ := hg
    split at h
    ·rename_i h2
     cases l with
     | nil => cases h
     | cons d l =>
      simp only [Bool.and_eq_true, decide_eq_true_eq] at h
      obtain ⟨rfl, hw⟩ := h
      exact VR.cons2 ((whole_VR n l (by simp only [List.length_cons] at hl; omega)).1 hw) hcl h2
    ·rename_i h2
     have h1 : cellsR c.rune = 1 := by
      rcases cellsR_cases c.rune with h | h | h
      ·exact absurd h hc0
      ·exact h
      ·exact absurd h h2
     exact VR.cons ((whole_VR n l hl).1 h) hcl h1
  ·intro h
   have h0 := h 0 (by simp)
   simp only [List.getD_cons_zero] at h0
   obtain ⟨hcl, h0⟩ := h0
   rcases h0 with h1 | ⟨h2, hlt, hd⟩ | ⟨_, hh, _⟩
   ·rw [if_neg (by simp [h1, hcl]), if_neg (by omega)]
    exact (whole_VR n l hl).2 (h.tail (by omega))
   ·rw [if_neg (by simp [h2, hcl]), if_pos h2]
    cases l with
    | nil => simp at hlt
    | cons d l =>
     have hd' : d = c.look.ce (-1) := hd
     subst hd'
     simp only [decide_true, Bool.true_and]
     refine (whole_VR n l (by simp only [List.length_cons] at hl; omega)).2 fun k hk => ?_
     have := h (k + 2) (by simpa using hk)
     simp only [List.getD_cons_succ, List.length_cons] at this
     refine ⟨this.1, ?_⟩
     rcases this.2 with q | ⟨q1, q2, q3⟩ | ⟨q1, _, q3⟩
     ·exact .inl q
     ·exact .inr (.inl ⟨q1, by omega, q3⟩)
     ·cases k with
      | zero =>
       have : cellsR (-1) = 2 := q3
       rw [cellsR_m1] at this
       cases this
      | succ j => exact .inr (.inr ⟨q1, Nat.succ_pos _, q3⟩)
   ·omega
theorem whole_vr {l : List Ce} : wholeB l = true ↔ VR l := whole_VR _ l (Nat.le_refl _)
theorem getD_set (l : List Ce) (i : Nat) (c : Ce) (k : Nat) : (l.set i c).getD k Ce.sp = if i = k ∧ k < l.length then c else l.getD k Ce.sp := by
 simp only [List.getD_eq_getElem?_getD, List.getElem?_set]
 by_cases h : i = k
 ·subst h
  by_cases h2 : i < l.length
  ·simp [h2]
  ·simp [h2]
 ·simp [h]
theorem setL_at (l : List Ce) (k : Nat) (c : Ce) (i : Nat) (hk : k < l.length) (hi : i < l.length) : (setL l k c).getD i Ce.sp = if i = k then c else if i + 1 = k ∧ (l.getD k Ce.sp).rune = -1 then Ce.sp else if i = k + 1 ∧ (l.getD (k + 1) Ce.sp).rune = -1 then Ce.sp else l.getD i Ce.sp := by
 have hL : ∀ j, (halfL l k).getD j Ce.sp = if j + 1 = k ∧ (l.getD k Ce.sp).rune = -1 then Ce.sp else l.getD j Ce.sp := fun j => by
  unfold halfL
  by_cases h : 0 < k ∧ (l.getD k Ce.sp).rune = -1
  ·rw [if_pos h, getD_set]
   by_cases hj : j + 1 = k
   ·rw [if_pos ⟨by omega, by omega⟩, if_pos ⟨hj, h.2⟩]
   ·rw [if_neg (fun e => hj (by omega)), if_neg (fun e => hj e.1)]
  ·rw [if_neg h, if_neg (fun e => h ⟨by omega, e.2⟩)]
 have hR : ∀ j, j < l.length → (halfR (halfL l k) k).getD j Ce.sp = if j = k + 1 ∧ (l.getD (k + 1) Ce.sp).rune = -1 then Ce.sp else (halfL l k).getD j Ce.sp := fun j hj => by
  unfold halfR
  have e : (halfL l k).getD (k + 1) Ce.sp = l.getD (k + 1) Ce.sp := by rw [hL, if_neg (fun e => by omega)]
  rw [e]
  by_cases h : (l.getD (k + 1) Ce.sp).rune = -1
  ·rw [if_pos h, getD_set, halfL_len]
   by_cases h1 : j = k + 1
   ·rw [if_pos ⟨by omega, hj⟩, if_pos ⟨h1, h⟩]
   ·rw [if_neg (fun e => h1 e.1.symm), if_neg (fun e => h1 e.1)]
  ·rw [if_neg h, if_neg (fun e => h e.2)]
 rw [setL, getD_set, halfR_len, halfL_len]
 by_cases h : i = k
 ·rw [if_pos ⟨h.symm, hi⟩, if_pos h]
 ·rw [if_neg (fun e => h e.1.symm), if_neg h, hR i hi, hL]
  by_cases h1 : i = k + 1 ∧ (l.getD (k + 1) Ce.sp).rune = -1
  ·rw [if_pos h1, if_neg (fun e => by omega), if_pos h1]
  ·rw [if_neg h1, if_neg h1]
theorem VR.set {l : List Ce} (h : VR l) {k : Nat} {c : Ce} (hk : k < l.length) (hc : colr c.look = true) (h1 : cellsR c.rune = 1) : VR (setL l k c) := fun i hi => by
 rw [setL_len] at hi ⊢
 have at_ := fun j hj => setL_at l k c j hk hj
 rw [at_ i hi]
 by_cases e1 : i = k
 ·rw [if_pos e1]; exact ⟨hc, .inl h1⟩
 rw [if_neg e1]
 by_cases e2 : i + 1 = k ∧ (l.getD k Ce.sp).rune = -1
 ·rw [if_pos e2]; exact ⟨colr_sp, .inl cellsR_32⟩
 rw [if_neg e2]
 by_cases e3 : i = k + 1 ∧ (l.getD (k + 1) Ce.sp).rune = -1
 ·rw [if_pos e3]; exact ⟨colr_sp, .inl cellsR_32⟩
 rw [if_neg e3]
 obtain ⟨q, hq⟩ := h i hi
 refine ⟨q, ?_⟩
 rcases hq with q1 | ⟨q1, q2, q3⟩ | ⟨q1, q2, q3⟩
 ·exact .inl q1
 ·refine .inr (.inl ⟨q1, q2, ?_⟩)
  have hm : (l.getD (i + 1) Ce.sp).rune = -1 := by rw [q3]; rfl
  have n1 : i + 1 ≠ k := fun e => e2 ⟨e, by rw [← e]; exact hm⟩
  rw [at_ (i + 1) q2, if_neg n1, if_neg, if_neg (fun e => by omega)]
  ·exact q3
  ·rintro ⟨e, er⟩
   rcases (h k hk).2 with p1 | ⟨p1, _⟩ | ⟨_, _, p3⟩
   ·rw [er, cellsR_m1] at p1; cases p1
   ·rw [er, cellsR_m1] at p1; cases p1
   ·rw [show k - 1 = i + 1 by omega, hm, cellsR_m1] at p3; cases p3
 ·refine .inr (.inr ⟨q1, q2, ?_⟩)
  rw [at_ (i - 1) (by omega), if_neg (fun e => e3 ⟨by omega, by rw [show k + 1 = i by omega]; exact q1⟩), if_neg (fun e => by omega), if_neg]
  ·exact q3
  ·rintro ⟨e, er⟩
   rw [e, er, cellsR_m1] at q3; cases q3
theorem VR.putC {pen : Lk} {l : List Ce} {k : Nat} {c : Int} (h : VR l) (hp : colr pen = true) (hk : k + cellsR c ≤ l.length) (hc : cellsR c ≠ 0) : VR (putC pen l k c) := by
 have hk0 : k < l.length := by omega
 unfold Go.Proofs.YtaojjfebkldmnaaDoor.putC
 have h1 : VR (setL l k Ce.sp) := h.set hk0 colr_sp cellsR_32
 split
 ·rename_i h2
  have hk1 : k + 1 < l.length := by omega
  have hm := h1.set (k := k + 1) (c := Ce.sp) (by rw [setL_len]; exact hk1) colr_sp cellsR_32
  have mk : (setL (setL l k Ce.sp) (k + 1) Ce.sp).getD k Ce.sp = Ce.sp := by
   rw [setL_at _ _ _ _ (by rw [setL_len]; exact hk1) (by rw [setL_len]; exact hk0), setL_at _ _ _ _ hk0 hk0, if_pos rfl]
   simp
  have mk1 : (setL (setL l k Ce.sp) (k + 1) Ce.sp).getD (k + 1) Ce.sp = Ce.sp := by
   rw [setL_at _ _ _ _ (by rw [setL_len]; exact hk1) (by rw [setL_len]; exact hk1), if_pos rfl]
  obtain ⟨m, hmm⟩ : ∃ m, setL (setL l k Ce.sp) (k + 1) Ce.sp = m := ⟨_, rfl⟩
  have hml : m.length = l.length := by rw [← hmm, setL_len, setL_len]
  rw [hmm] at hm mk mk1 ⊢
  have at_ : ∀ i, ((m.set (k + 1) (pen.ce (-1))).set k (pen.ce c)).getD i Ce.sp = if i = k then pen.ce c else if i = k + 1 then pen.ce (-1) else m.getD i Ce.sp := fun i => by
   rw [getD_set, List.length_set, getD_set, hml]
   by_cases e1 : i = k
   ·rw [if_pos ⟨e1.symm, by omega⟩, if_pos e1]
   ·rw [if_neg (fun e => e1 e.1.symm), if_neg e1]
    by_cases e2 : i = k + 1
    ·rw [if_pos ⟨e2.symm, by omega⟩, if_pos e2]
    ·rw [if_neg (fun e => e2 e.1.symm), if_neg e2]
  intro i hi
  rw [List.length_set, List.length_set] at hi ⊢
  rw [at_ i, at_ (i + 1), at_ (i - 1)]
  by_cases e1 : i = k
  ·rw [if_pos e1]
   exact ⟨hp, .inr (.inl ⟨h2, by omega, by rw [if_neg (by omega), if_pos (by omega)]; rfl⟩)⟩
  rw [if_neg e1]
  by_cases e2 : i = k + 1
  ·rw [if_pos e2]
   exact ⟨hp, .inr (.inr ⟨rfl, by omega, by rw [if_pos (by omega)]; exact h2⟩)⟩
  rw [if_neg e2]
  obtain ⟨q, hq⟩ := hm i hi
  refine ⟨q, ?_⟩
  rcases hq with q1 | ⟨q1, q2, q3⟩ | ⟨q1, q2, q3⟩
  ·exact .inl q1
  ·refine .inr (.inl ⟨q1, q2, ?_⟩)
   rw [if_neg, if_neg (by omega)]
   ·exact q3
   ·intro e
    rw [e, mk] at q3
    have := congrArg Ce.rune q3
    exact absurd this (show ¬ (32 : Int) = -1 by decide)
  ·refine .inr (.inr ⟨q1, q2, ?_⟩)
   rw [if_neg (by omega), if_neg]
   ·exact q3
   ·intro e
    rw [e, mk1] at q3
    rw [show Ce.sp.rune = 32 from rfl, cellsR_32] at q3
    cases q3
 ·rename_i h2
  have hc1 : cellsR c = 1 := by
   rcases cellsR_cases c with e | e | e
   ·exact absurd e hc
   ·exact e
   ·exact absurd e h2
  have e : (setL l k Ce.sp).set k (pen.ce c) = setL l k (pen.ce c) := by simp only [setL, List.set_set]
  rw [e]
  exact h.set hk0 hp hc1
theorem VR.putAll {pen : Lk} {W : Nat} (hp : colr pen = true) : ∀ (cs : List Int) (l : List Ce) (k : Nat), VR l → l.length = W → St.fits W cs (k : Int) = true → VR (putAll pen cs l k).1
 | [], _, _, h, _, _ => h
 | c :: cs, l, k, h, hl, hf => by
  obtain ⟨f1, f2, f3⟩ := fits_cons hf
  rw [Go.Proofs.YtaojjfebkldmnaaDoor.putAll]
  refine VR.putAll (W := W) hp cs _ _ (h.putC hp (by omega) f1) (by rw [putC_len]; exact hl) ?_
  rw [show ((k + cellsR c : Nat) : Int) = (k : Int) + (cellsR c : Int) by omega]
  exact f3
theorem VR.clear : ∀ (n : Nat) (l : List Ce) (k : Nat), VR l → k + n ≤ l.length → VR (clearL l k n)
 | 0, _, _, h, _ => h
 | n + 1, l, k, h, hl => by
  rw [clearL]
  exact VR.clear n _ _ (h.set (by omega) colr_sp cellsR_32) (by rw [setL_len]; omega)
theorem VR.blank (W : Nat) : VR (List.replicate W Ce.sp) := fun k hk => by
 have hk' : k < W := by simpa using hk
 have e : (List.replicate W Ce.sp).getD k Ce.sp = Ce.sp := by simp [List.getD_eq_getElem?_getD, hk']
 rw [e]
 exact ⟨colr_sp, .inl cellsR_32⟩
structure St.Vd (x : St) : Prop where
 rows : ∀ l ∈ x.grid, VR l
 pen : colr x.pen = true
theorem St.Vd.row {x : St} (v : x.Vd) : VR (x.grid.getD x.row.toNat []) := by
 rw [List.getD_eq_getElem?_getD]
 cases h : x.grid[x.row.toNat]? with
 | none => exact VR.nil
 | some l => exact v.rows l (List.mem_of_getElem? h)
theorem St.Vd.set {x : St} (v : x.Vd) {l : List Ce} {k : Nat} {c : Int} (hl : VR l) : St.Vd { x with grid := x.grid.set k l, col := c } :=
 ⟨fun q hq => by
  rcases List.mem_or_eq_of_mem_set hq with h | rfl
  ·exact v.rows q h
  ·exact hl, v.pen⟩
theorem does_vd {W : Nat} {x y : St} {o : Op} {r : List UInt8 → Option (List Int)} (ok : x.Ok W) (v : x.Vd) (h : x.does W r o = some y) : y.Vd := by
 rw [does_eq] at h
 split at h
 ·unfold St.move at h
  split at h
  ·obtain rfl := Option.some.inj h
   exact ⟨v.rows, v.pen⟩
  ·cases h
 split at h
 ·unfold St.look at h
  split at h
  ·rename_i hl
   obtain rfl := Option.some.inj h
   exact ⟨v.rows, hl⟩
  ·cases h
 split at h
 ·unfold St.text at h
  split at h
  ·cases h
  ·rename_i l _
   split at h
   ·rename_i hf
    obtain rfl := Option.some.inj h
    have c0 := ok.col0
    exact v.set (VR.putAll v.pen l _ _ v.row ok.row (by rw [show ((x.col.toNat : Nat) : Int) = x.col by omega]; exact hf))
   ·cases h
 split at h
 ·unfold St.clear at h
  split at h
  ·obtain rfl := Option.some.inj h
   have c0 := ok.col0
   have c1 := ok.col1
   exact v.set (c := x.col) (VR.clear _ _ _ v.row (by rw [ok.row]; omega))
  ·cases h
 have roll : ∀ up, x.roll W o up = some y → y.Vd := fun up h => by
  unfold St.roll at h
  split at h
  ·obtain rfl := Option.some.inj h
   rw [glue_roll]
   refine ⟨fun l hl => ?_, v.pen⟩
   rcases glue_mem hl with h | h
   ·exact v.rows l h
   ·rw [List.eq_of_mem_replicate h]; exact VR.blank W
  ·cases h
 split at h
 ·exact roll true h
 split at h
 ·exact roll false h
 split at h
 ·obtain rfl := Option.some.inj h
  exact ⟨v.rows, v.pen⟩
 split at h
 ·obtain rfl := Option.some.inj h
  exact ⟨v.rows, v.pen⟩
 ·cases h
theorem all_vd {W : Nat} {r : List UInt8 → Option (List Int)} : ∀ (l : List Op) (i : Nat) (x y : St), x.Ok W → x.Vd → St.all W r l i x = .inl y → y.Vd
 | [], _, x, y, _, v, h => by rw [St.all] at h; cases h; exact v
 | o :: l, i, x, y, ok, v, h => by
  rw [St.all] at h
  cases hd : x.does W r o with
  | none => rw [hd] at h; cases h
  | some z => rw [hd] at h; exact all_vd l (i + 1) z y (does_ok ok hd) (does_vd ok v hd) h
end Go.Proofs.YtaojjfebkldmnaaDoor
/- Operations in pieces; what they leave is valid: the plain law of DiffMay. -/
namespace Go.Proofs.YtaojjfebkldmnaaDoor
open Go.Ax
section
variable {W : Nat} {r : List UInt8 → Option (List Int)}
theorem all_append : ∀ (l m : List Op) (i : Nat) (x : St), St.all W r (l ++ m) i x = match St.all W r l i x with | .inl y => St.all W r m (i + l.length) y | .inr k => .inr k
 | [], m, i, x => rfl
 | o :: l, m, i, x => by
  rw [List.cons_append, St.all, St.all]
  cases x.does W r o with
  | none => rfl
  | some y => simp only [all_append l m (i + 1) y, List.length_cons]; rw [show i + 1 + l.length = i + (l.length + 1) by omega]
theorem all_lt : ∀ (l : List Op) (i : Nat) (x : St) (k : Nat), St.all W r l i x = .inr k → i ≤ k ∧ k < i + l.length
 | [], i, x, k, h => by rw [St.all] at h; cases h
 | o :: l, i, x, k, h => by
  rw [St.all] at h
  cases hd : x.does W r o with
  | none => rw [hd] at h; cases h; simp
  | some y => rw [hd] at h; have := all_lt l (i + 1) y k h; simp only [List.length_cons]; omega
theorem all_ix : ∀ (l : List Op) (i j : Nat) (x y : St), St.all W r l i x = .inl y → St.all W r l j x = .inl y
 | [], i, j, x, y, h => h
 | o :: l, i, j, x, y, h => by
  rw [St.all] at h ⊢
  cases hd : x.does W r o with
  | none => rw [hd] at h; cases h
  | some z => rw [hd] at h; exact all_ix l (i + 1) (j + 1) z y h
def St.at (x : St) (a b : Int) : St := { x with sr := a, sc := b }
theorem ite_at {c : Prop} [Decidable c] {x y : St} {a b : Int} (h : y = x.at a b) : (if c then some y else none) = (if c then some x else none).map fun y => y.at a b := by
 split
 ·rw [h]; rfl
 ·rfl
theorem does_at (x : St) (a b : Int) (o : Op) : (x.at a b).does W r o = (x.does W r o).map fun y => y.at a b := by
 rw [does_eq, does_eq]
 split
 ·unfold St.move; exact ite_at rfl
 split
 ·unfold St.look; exact ite_at rfl
 split
 ·unfold St.text
  cases r o.text.data.toList with
  | none => rfl
  | some l => exact ite_at rfl
 split
 ·unfold St.clear; exact ite_at rfl
 split
 ·unfold St.roll; exact ite_at rfl
 split
 ·unfold St.roll; exact ite_at rfl
 split
 ·rfl
 split
 ·rfl
 ·rfl
theorem does_len {x y : St} {o : Op} (h : x.does W r o = some y) : y.grid.length = x.grid.length := by
 rw [does_eq] at h
 split at h
 ·unfold St.move at h
  split at h
  ·obtain rfl := Option.some.inj h; rfl
  ·cases h
 split at h
 ·unfold St.look at h
  split at h
  ·obtain rfl := Option.some.inj h; rfl
  ·cases h
 split at h
 ·unfold St.text at h
  split at h
  ·cases h
  ·split at h
   ·obtain rfl := Option.some.inj h; exact List.length_set
   ·cases h
 split at h
 ·unfold St.clear at h
  split at h
  ·obtain rfl := Option.some.inj h; exact List.length_set
  ·cases h
 have roll : ∀ up, x.roll W o up = some y → y.grid.length = x.grid.length := fun up h => by
  unfold St.roll at h
  split at h
  ·rename_i hh
   simp only [Bool.and_eq_true, decide_eq_true_eq] at hh
   obtain rfl := Option.some.inj h
   rw [glue_roll]
   exact glue_len (by omega) (by omega) (by omega) List.length_replicate
  ·cases h
 split at h
 ·exact roll true h
 split at h
 ·exact roll false h
 split at h
 ·obtain rfl := Option.some.inj h; rfl
 split at h
 ·obtain rfl := Option.some.inj h; rfl
 ·cases h
theorem all_at (a b : Int) : ∀ (l : List Op) (i : Nat) (x y : St), St.all W r l i x = .inl y → St.all W r l i (x.at a b) = .inl (y.at a b)
 | [], i, x, y, h => by rw [St.all] at h ⊢; cases h; rfl
 | o :: l, i, x, y, h => by
  rw [St.all] at h ⊢
  rw [does_at]
  cases hd : x.does W r o with
  | none => rw [hd] at h; cases h
  | some z => rw [hd] at h; exact all_at a b l (i + 1) z y h
end
theorem widG_ok {y : St} {W : Nat} (ok : y.Ok W) : widG y.grid = W := by
 have h1 := ok.h1
 unfold widG
 rw [List.getD_eq_getElem?_getD, List.getElem?_eq_getElem (show 0 < y.grid.length by omega)]
 exact ok.wid _ (List.getElem_mem _)
theorem okGrid_of {g : List (List Ce)} {W : Nat} (hw : ∀ l ∈ g, l.length = W) (hv : ∀ l ∈ g, VR l) : okGrid W g = true := by
 unfold okGrid
 refine List.all_eq_true.2 fun l hl => ?_
 unfold okRow
 rw [decide_eq_true (hw l hl), whole_vr.2 (hv l hl)]
 rfl
theorem chk_of {y : St} {W : Nat} (ok : y.Ok W) (v : y.Vd) : chkR y.grid y.atR (y.atC W) = 0 := by
 have h1 := ok.h1
 have h2 := ok.h2
 have h3 := ok.w1
 have h4 := ok.w2
 have h5 := ok.row0
 have h6 := ok.row1
 have h7 := ok.col0
 have h8 := ok.col1
 unfold chkR
 rw [widG_ok ok, okGrid_of ok.wid v.rows]
 have e1 : (decide ((y.grid.length : Int) < 1) || decide (200 < (y.grid.length : Int))) = false := by simp; omega
 rw [e1]
 have e2 : (decide ((W : Int) < 1) || decide (1000 < (W : Int))) = false := by simp; omega
 rw [e2]
 cases hs : y.shown with
 | true =>
  have p1 : y.atR = y.row := by unfold St.atR; rw [hs]; rfl
  have p2 : y.atC W = min y.col ((W : Int) - 1) := by unfold St.atC; rw [hs]; rfl
  rw [p1, p2]
  have q : (decide (0 ≤ y.row) && decide (y.row < (y.grid.length : Int)) && decide (0 ≤ min y.col ((W : Int) - 1)) && decide (min y.col ((W : Int) - 1) < (W : Int))) = true := by
   simp only [Bool.and_eq_true, decide_eq_true_eq]; omega
  rw [q]
  rfl
 | false =>
  have p1 : y.atR = -1 := by unfold St.atR; rw [hs]; rfl
  have p2 : y.atC W = 0 := by unfold St.atC; rw [hs]; rfl
  rw [p1, p2]
  simp
theorem start_vd {g : List (List Ce)} {r c : Int} (h : chkR g r c = 0) : (St.start g r c).Vd := by
 refine ⟨fun l hl => ?_, rfl⟩
 unfold chkR at h
 cases h1 : (decide ((g.length : Int) < 1) || decide (200 < (g.length : Int))) with
 | true => rw [h1, cond_true] at h; cases h
 | false =>
  rw [h1, cond_false] at h
  cases h2 : (decide ((widG g : Int) < 1) || decide (1000 < (widG g : Int)) || (!(decide (0 ≤ r) && decide (r < (g.length : Int)) && decide (0 ≤ c) && decide (c < (widG g : Int))) && !(decide (r = -1) && decide (c = 0)))) with
  | true => rw [h2, cond_true] at h; cases h
  | false =>
   rw [h2, cond_false] at h
   cases h3 : okGrid (widG g) g with
   | false => rw [h3, cond_false] at h; cases h
   | true =>
    have := List.all_eq_true.1 h3 l hl
    unfold okRow at this
    simp only [Bool.and_eq_true] at this
    exact whole_vr.1 this.2
theorem may_law {g : List (List Ce)} {r c : Int} {l m : List Op} {e1 e2 : Op} (hc : chkR g r c = 0) (k1 : e1.kind = 2) (hl : colr e1.look = true) (k2 : e2.kind = 1) (r0 : 0 ≤ e2.row) (r1 : e2.row < g.length) (c0 : 0 ≤ e2.col) (c1 : e2.col < (widG g : Nat)) :
  ((appV g r c (l ++ [e1, e2] ++ m)).2.2.2.1 ≠ 0 ∧ (appV g r c (l ++ [e1, e2] ++ m)).1 = [] ∧ 0 ≤ (appV g r c (l ++ [e1, e2] ++ m)).2.2.2.2 ∧ (appV g r c (l ++ [e1, e2] ++ m)).2.2.2.2 < ((l ++ [e1, e2] ++ m).length : Nat) ∧ ((appV g r c l).2.2.2.1 = 0 ∨ (appV g r c l).2.2.2.2 = (appV g r c (l ++ [e1, e2] ++ m)).2.2.2.2)) ∨
  ∃ g1 a1 b1 g2 a2 b2, appV g r c (l ++ [e1, e2] ++ m) = (g1, a1, b1, 0, 0) ∧ appV g r c l = (g2, a2, b2, 0, 0) ∧ appV g2 a2 b2 ([e1, e2] ++ m) = (g1, a1, b1, 0, 0) ∧ chkR g1 a1 b1 = 0 ∧ g1.length = g.length ∧ widG g1 = widG g := by
 obtain ⟨ok, _, _⟩ := chk_ok hc
 have vd := start_vd hc
 obtain ⟨x, hx⟩ : ∃ x, St.start g r c = x := ⟨_, rfl⟩
 have hxg : x.grid = g := by rw [← hx]; rfl
 obtain ⟨W, hW⟩ : ∃ W, widG g = W := ⟨_, rfl⟩
 rw [hx, hW] at ok
 rw [hx] at vd
 rw [hW] at c1
 have A : ∀ l, appV g r c l = match St.all W ptsR l 0 x with | .inr i => ([], 0, 0, 5, (i : Int)) | .inl y => (y.grid, y.atR, y.atC W, 0, 0) := fun l => by
  unfold appV
  rw [if_pos hc, hW, hx] <;> (cases St.all W ptsR l 0 x <;> rfl)
 have hlen : ∀ (l : List Op) (i : Nat) (x y : St), St.all W ptsR l i x = .inl y → y.grid.length = x.grid.length := fun l => by
  induction l with
  | nil => intro i x y h; rw [St.all] at h; cases h; rfl
  | cons o l ih =>
   intro i x y h
   rw [St.all] at h
   cases hd : x.does W ptsR o with
   | none => rw [hd] at h; cases h
   | some z => rw [hd] at h; exact (ih (i + 1) z y h).trans (does_len hd)
 rw [List.append_assoc, A (l ++ ([e1, e2] ++ m)), A l, all_append]
 cases h1 : St.all W ptsR l 0 x with
 | inr k =>
  left
  have := all_lt l 0 x k h1
  refine ⟨(show (5 : Int) ≠ 0 by decide), rfl, by show (0 : Int) ≤ (k : Int); omega, ?_, .inr rfl⟩
  show (k : Int) < _
  simp only [List.length_append, List.length_cons, List.length_nil]
  omega
 | inl y =>
  have oky := all_ok l 0 x y ok h1
  have vy := all_vd l 0 x y ok vd h1
  have hyl := hlen l 0 x y h1
  rw [hxg] at hyl
  have two : ∀ (i : Nat) (z : St), z.grid.length = g.length → St.all W ptsR ([e1, e2] ++ m) i z = St.all W ptsR m (i + 1 + 1) { z with pen := e1.look, row := e2.row, col := e2.col } := fun i z hz => by
   have d1 : z.does W ptsR e1 = some { z with pen := e1.look } := by
    rw [does_eq, if_neg (by omega), if_pos k1, St.look, if_pos hl]
   have d2 : St.does W ptsR { z with pen := e1.look } e2 = some { z with pen := e1.look, row := e2.row, col := e2.col } := by
    rw [does_eq, if_pos k2, St.move, if_pos]
    simp only [Bool.and_eq_true, decide_eq_true_eq]
    exact ⟨⟨⟨r0, by rw [hz]; exact r1⟩, c0⟩, c1⟩
   rw [List.cons_append, St.all, d1]
   simp only
   rw [List.cons_append, St.all, d2]
   rfl
  simp only
  rw [two _ y hyl]
  obtain ⟨z, hz⟩ : ∃ z : St, z = { y with pen := e1.look, row := e2.row, col := e2.col } := ⟨_, rfl⟩
  rw [← hz]
  have okz : z.Ok W := by
   rw [hz]
   exact ⟨oky.h1, oky.h2, oky.w1, oky.w2, oky.wid, r0, by show e2.row < (y.grid.length : Int); omega, c0, by show e2.col ≤ (W : Int); omega⟩
  have vz : z.Vd := by rw [hz]; exact ⟨vy.rows, hl⟩
  cases h2 : St.all W ptsR m (0 + l.length + 1 + 1) z with
  | inr k =>
   left
   have := all_lt m _ z k h2
   refine ⟨(show (5 : Int) ≠ 0 by decide), rfl, by show (0 : Int) ≤ (k : Int); omega, ?_, .inl trivial⟩
   show (k : Int) < _
   simp only [List.length_append, List.length_cons, List.length_nil]
   omega
  | inl w =>
   right
   have okw := all_ok m _ z w okz h2
   have vw := all_vd m _ z w okz vz h2
   have hwl := hlen m _ z w h2
   have hzl : z.grid.length = g.length := by rw [hz]; exact hyl
   refine ⟨w.grid, w.atR, w.atC W, y.grid, y.atR, y.atC W, rfl, rfl, ?_, chk_of okw vw, by omega, by rw [widG_ok okw, hW]⟩
   unfold appV
   rw [if_pos (chk_of oky vy), widG_ok oky, two 0 (St.start y.grid y.atR (y.atC W)) hyl]
   have hsh : decide (0 ≤ y.atR) = y.shown := by
    unfold St.atR
    cases y.shown with
    | true => rw [if_pos rfl]; exact decide_eq_true oky.row0
    | false => rfl
   have e : ({ St.start y.grid y.atR (y.atC W) with pen := e1.look, row := e2.row, col := e2.col } : St) = z.at y.atR (y.atC W) := by
    rw [hz]
    simp only [St.start, St.at, hsh]
   rw [e, all_at y.atR (y.atC W) m _ z w (all_ix m _ (0 + 1 + 1) z w h2)]
   rfl
end Go.Proofs.YtaojjfebkldmnaaDoor
/- The walk of DiffMay. -/
namespace Go.Proofs.YtaojjfebkldmnaaDoor
open Go.Ax
theorem meets_ids {anc : Nat} {O : List Nat} {r : Fp} (h : ∀ n ∈ O, n < r.lo) : Meets anc [] [] O r :=
 .inr ⟨by simp, by simp, fun _ => ⟨by simp, fun n hn => .inl (h n hn)⟩⟩
theorem OpsAt.ne {H : AHeap} {v : Value} {l : List Op} (h : OpsAt H v l) (hl : l ≠ []) : ∀ n ∈ idsV v, H.get n ≠ none ∧ n < H.next := by
 rcases h with ⟨rfl, _⟩ | ⟨_, n, off, s, c, e, o, L, rfl, hb, hlt, _⟩
 ·exact absurd rfl hl
 ·intro m hm
  simp only [idsV, List.mem_singleton] at hm
  subst hm
  exact ⟨rk_ne hb, hlt⟩
set_option maxHeartbeats 8000000 in
theorem law9_c (hkn : ∀ H : AHeap, Tab H → 1 < H.next → Pure 6 [] H (.bool true)) (H : AHeap) (v ov : Value) (g : List (List Ce)) (r c : Int) (l : List Op) (n p q : Int) (k : Lk) (hg : GridAt H v g) (hsg : GridSc H v) (hl : OpsArg H ov l) (t : Tab H) (h1 : 1 < H.next) (hok : H.base ≤ H.next) (hs : scb H.next v = true) (hos : scb H.next ov = true) :
  CallA Tryd.prog 9 [.agg ⟨[v, .int .i64 r, .int .i64 c]⟩, ov, .int .i64 n, k.val, .int .i64 p, .int .i64 q] H (True1 H) := by
 obtain ⟨b, hb⟩ : ∃ b, H.next = b := ⟨_, rfl⟩
 have hbb : H.base ≤ b := hb ▸ hok
 obtain ⟨a0, c0, e0⟩ := hg.sl
 obtain ⟨ao, co, eo⟩ := hl.sl
 have hs0 := hs
 have hos0 := hos
 rw [hb] at hs hos
 have hs' := hs
 rw [e0] at hs
 refine callE_fn mixed Tryd.func9 rfl Tryd.ntmps9 (Nat.le_of_ble_eq_true rfl) ?_
 rw [e0]
 simp (maxDischargeDepth := 6) only [hb, hbb, hs, Lk.val, ruW, putL, Nat.reduceLeDiff, xF, ruU, entryE, Nat.reduceLT, Nat.reduceAdd, Nat.reduceMul, Nat.reduceEqDiff]
 rw [← e0]
 obtain ⟨X, hX⟩ : ∃ X, ext H [⟨24, false, [v, .int .i64 r, .int .i64 c]⟩, ⟨45, false, [.int .i64 k.fore, .int .i64 k.back, .bool k.bold, .bool k.under, .bool k.inv]⟩] = X := ⟨_, rfl⟩
 have mX : Mod [] H X := hX ▸ Mod.ext hok
 have nX : X.next = b + 2 := by rw [← hX, ext_next, hb]; rfl
 have k0 : bk X (b + 0) = some ⟨24, false, [v, .int .i64 r, .int .i64 c]⟩ := by rw [← hX, bk_at hb (by simp)]; rfl
 have k1 : bk X (b + 1) = some ⟨45, false, [.int .i64 k.fore, .int .i64 k.back, .bool k.bold, .bool k.under, .bool k.inv]⟩ := by rw [← hX, bk_at hb (by simp)]; rfl
 have okX := mX.ok hok
 have gX := hg.mod0 mX
 have tX : Tab X := t.of (mX.get 0 (by omega) (by simp)) (mX.get 1 h1 (by simp))
 have lX : OpsAt X ov l := hl.at_.mod0 mX
 rw [hX]
 rw [show X = ext X [] from rfl]
 refine (hkn (ext X []) tX (by show 1 < X.next; omega)).to ?_
 have l0 : b + 0 < b + 2 := by omega
 simp (maxDischargeDepth := 6) only [nX, k0, l0, ruW, putL, Nat.reduceLeDiff, xF, ruU, entryE, Nat.reduceLT, Nat.reduceAdd, Nat.reduceMul, Nat.reduceEqDiff]
 refine (large_c (ext X []) v g r c gX).to ?_
 cases hlg : largeR g with
 | true =>
  simp (maxDischargeDepth := 6) only [Tryd.results9, ruW, putL, Nat.reduceLeDiff, xF, ruU, entryE, Nat.reduceLT, Nat.reduceAdd, Nat.reduceMul, Nat.reduceEqDiff]
  exact ⟨rfl, mX⟩
 | false =>
 rw [eo]
 simp (maxDischargeDepth := 6) only [ruW, putL, Nat.reduceLeDiff, xF, ruU, entryE, Nat.reduceLT, Nat.reduceAdd, Nat.reduceMul, Nat.reduceEqDiff]
 rw [← eo]
 refine (many_c (ext X []) ov l lX).to ?_
 cases hmn : manyR l with
 | true =>
  simp (maxDischargeDepth := 6) only [Tryd.results9, ruW, putL, Nat.reduceLeDiff, xF, ruU, entryE, Nat.reduceLT, Nat.reduceAdd, Nat.reduceMul, Nat.reduceEqDiff]
  exact ⟨rfl, mX⟩
 | false =>
 obtain ⟨hgl, hgw⟩ := largeR_false hlg
 obtain ⟨hol, how⟩ := manyR_false hmn
 have hlen : ∀ o ∈ l, o.text.data.toList.length ≤ 1000 := fun o ho => by have := how o ho; rw [size_len] at this; omega
 simp (maxDischargeDepth := 6) only [nX, k0, l0, ruW, putL, Nat.reduceLeDiff, xF, ruU, entryE, Nat.reduceLT, Nat.reduceAdd, Nat.reduceMul, Nat.reduceEqDiff]
 refine (check39_c (ext X []) v g r c gX (fun q hq => by have := hgw q hq; omega) (by omega)).to ?_
 obtain ⟨ck, hck⟩ : ∃ k, chkR g r c = k := ⟨_, rfl⟩
 rw [hck]
 by_cases hk0 : ck = 0
 case neg =>
  have hd : decide (¬ ck = 0) = true := decide_eq_true hk0
  simp (maxDischargeDepth := 6) only [hd, Tryd.results9, ruW, putL, Nat.reduceLeDiff, xF, ruU, entryE, Nat.reduceLT, Nat.reduceAdd, Nat.reduceMul, Nat.reduceEqDiff]
  exact ⟨rfl, mX⟩
 subst hk0
 have hd0 : decide (¬ True) = false := by simp
 obtain ⟨ok, hne, hgne⟩ := chk_ok hck
 have hgl1 : 1 ≤ g.length := ok.h1
 have hW1 := ok.w1
 have hW2 := ok.w2
 have hwr : IntKind.i64.wrap ((l.length : Int) + 1) = (l.length : Int) + 1 := wrap_sm (by omega) (by omega)
 obtain ⟨a, ha0, ha1, hpa⟩ := pick_c n ((l.length : Int) + 1) (by omega) (by omega)
 rw [eo]
 simp (maxDischargeDepth := 6) only [hd0, hwr, ruW, putL, Nat.reduceLeDiff, xF, ruU, entryE, Nat.reduceLT, Nat.reduceAdd, Nat.reduceMul, Nat.reduceEqDiff]
 rw [← eo]
 obtain ⟨na, rfl⟩ : ∃ na : Nat, a = na := ⟨a.toNat, by omega⟩
 have hna : na ≤ l.length := by omega
 refine (hpa (ext X [])).to ?_
 simp (maxDischargeDepth := 6) only [hd0, hwr, ruW, putL, Nat.reduceLeDiff, xF, ruU, entryE, Nat.reduceLT, Nat.reduceAdd, Nat.reduceMul, Nat.reduceEqDiff]
 -- the two operations between
 obtain ⟨W, hW⟩ : ∃ W, widG g = W := ⟨_, rfl⟩
 rw [hW] at ok hW1 hW2
 obtain ⟨nv, ofv, sv, cv, ev, opv_, Lv, ev0, hbv, hnv, hlev, hrv⟩ : ∃ n off s c e o L, v = .slice (some ⟨n, off, s⟩) g.length c ∧ rk X n = some ⟨e, o, L⟩ ∧ n < X.next ∧ off + g.length ≤ L.length ∧ ∀ k row, g[k]? = some row → ∃ rv, L[off + k]? = some rv ∧ RowAt X rv row := by
  rcases gX with ⟨h, _⟩ | ⟨_, n, off, s, c, e, o, L, h⟩
  ·exact absurd h hgne
  ·exact ⟨n, off, s, c, e, o, L, h⟩
 obtain ⟨w0, hw0⟩ : ∃ r, g[0]? = some r := ⟨_, List.getElem?_eq_getElem (by omega)⟩
 obtain ⟨u0, hu0, ra0⟩ := hrv 0 w0 hw0
 have hw0l : w0.length = W := by
  rw [← hW, widG, List.getD_eq_getElem?_getD, hw0]; rfl
 obtain ⟨a00, c00, e00⟩ := ra0.sl
 rw [hw0l] at e00
 have iv := grid_ia (n := nv) (off := ofv) (s := sv) (len := g.length) (cap := cv) (i := 0) (k := 0) rfl (by omega)
 have yv := grid_load (e := ev) (o := opv_) hu0
 rw [nX] at hnv
 rw [e00] at yv
 have l1 : b + 1 < b + 2 := by omega
 obtain ⟨kf, kf0, kf1, hkf⟩ := pick_c k.fore 257 (by omega) (by omega)
 obtain ⟨pr, pr0, pr1, hpr⟩ := pick_c p g.length (by omega) (by omega)
 obtain ⟨pc, pc0, pc1, hpc⟩ := pick_c q W (by omega) (by omega)
 refine w_drawB [(21, 20)] [] (by kernel_rfl) (by kernel_rfl) rfl fun ops anc hA hG => ?_
 simp only [all2_cons] at hA
 have k0s := k0
 rw [ev0] at k0s ⊢
 simp (maxDischargeDepth := 6) only [nX, k0s, k1, l0, l1, iv, hbv, hnv, yv, qk_old, ruD, ruW, putL, Nat.reduceLeDiff, xF, ruU, entryE, Nat.reduceLT, Nat.reduceAdd, Nat.reduceMul, Nat.reduceEqDiff]
 refine genV_quiet (v := .int .i64 kf) [] (by simp only [ruU, entryE, Nat.reduceLT, Nat.reduceAdd, Nat.reduceMul, Nat.reduceEqDiff]) (by kernel_rfl) (by decide) (by simp) (fun G _ _ => hkf G) (by simp [Meets]) ?_
 simp (maxDischargeDepth := 6) only [nX, k0s, k1, l0, l1, iv, hbv, hnv, yv, qk_old, ruD, ruW, putL, Nat.reduceLeDiff, xF, ruU, entryE, Nat.reduceLT, Nat.reduceAdd, Nat.reduceMul, Nat.reduceEqDiff]
 refine genV_quiet (v := .int .i64 pr) [] (by simp only [ruU, entryE, Nat.reduceLT, Nat.reduceAdd, Nat.reduceMul, Nat.reduceEqDiff]) (by kernel_rfl) (by decide) (by simp) (fun G _ _ => hpr G) (by simp [Meets]) ?_
 simp (maxDischargeDepth := 6) only [nX, k0s, k1, l0, l1, iv, hbv, hnv, yv, qk_old, ruD, ruW, putL, Nat.reduceLeDiff, xF, ruU, entryE, Nat.reduceLT, Nat.reduceAdd, Nat.reduceMul, Nat.reduceEqDiff]
 refine genV_quiet (v := .int .i64 pc) [] (by simp only [ruU, entryE, Nat.reduceLT, Nat.reduceAdd, Nat.reduceMul, Nat.reduceEqDiff]) (by kernel_rfl) (by decide) (by simp) (fun G _ _ => hpc G) (by simp [Meets]) ?_
 simp (maxDischargeDepth := 6) only [nX, k0s, k1, l0, l1, iv, hbv, hnv, yv, qk_old, ruD, ruW, putL, Nat.reduceLeDiff, xF, ruU, entryE, Nat.reduceLT, Nat.reduceAdd, Nat.reduceMul, Nat.reduceEqDiff]
 refine genV_quiet (v := (mvOp pr pc).val) [] (by simp only [ruU, entryE, Nat.reduceLT, Nat.reduceAdd, Nat.reduceMul, Nat.reduceEqDiff]) (by kernel_rfl) (by decide) (by simp) (fun G _ _ => mv_c G pr pc) (by simp [Meets]) ?_
 simp (maxDischargeDepth := 6) only [nX, mvOp, Op.val, Op.cells, hA, k0s, k1, l0, l1, iv, hbv, hnv, yv, qk_old, ruD, ruW, putL, Nat.reduceLeDiff, xF, ruU, entryE, Nat.reduceLT, Nat.reduceAdd, Nat.reduceMul, Nat.reduceEqDiff]
 rw [← ev0]
 obtain ⟨e1, he1⟩ : ∃ e : Op, e = ⟨2, 0, 0, 0, ⟨kf, 0, k.bold, false, false⟩, .empty⟩ := ⟨_, rfl⟩
 obtain ⟨e2, he2⟩ : ∃ e : Op, e = mvOp pr pc := ⟨_, rfl⟩
 have hex : opsOf [e1, e2] = [.int .i64 2, .int .i64 0, .int .i64 0, .int .i64 0, .int .i64 kf, .int .i64 0, .bool k.bold, .bool false, .bool false, .string ByteArray.empty, .int .i64 1, .int .i64 pr, .int .i64 pc, .int .i64 0, .int .i64 0, .int .i64 0, .bool false, .bool false, .bool false, .string ByteArray.empty] := by rw [he1, he2]; rfl
 rw [← hex]
 obtain ⟨Y, hY⟩ : ∃ Y, ext X [⟨47, false, opsOf [e1, e2]⟩] = Y := ⟨_, rfl⟩
 have mY : Mod [] X Y := hY ▸ Mod.ext okX
 have nY : Y.next = b + 3 := by rw [← hY, ext_next, nX]; rfl
 have kx : bk Y (b + 2) = some ⟨47, false, opsOf [e1, e2]⟩ := by rw [← hY, show b + 2 = b + 2 + 0 from rfl, bk_at nX (by simp)]; rfl
 have okY := mY.ok okX
 have mHY : Mod [] H Y := mX.trans mY
 have exA : OpsAt Y (.slice (some ⟨b + 2, 0, some 0⟩) 2 2) [e1, e2] := .inr ⟨by simp, b + 2, 0, some 0, 2, 47, false, opsOf [e1, e2], rfl, rk_of kx, by omega, by rw [opsOf_len]; simp, by rw [List.drop_zero, List.take_of_length_le (by rw [opsOf_len]; simp)]⟩
 have hlY : OpsArg Y ov l := by
  rcases hl with h | ⟨n, c, h2, h3, h4, h5⟩
  ·exact .inl h
  ·refine .inr ⟨n, c, h2, h3, mHY.lt h4, h5.imp id ?_⟩
   rintro ⟨e, o, L, h6, h7⟩
   exact ⟨e, o, L, (rk_get (mHY.get n h4 (by simp))).trans h6, h7⟩
 obtain ⟨s1, sl1, at1, id1, sc1⟩ := hlY.slice (x := none) (y := some (.int .i64 (na : Int))) (lo := 0) (hi := na) rfl (by simp [bound]) (Nat.zero_le _) hna
 obtain ⟨s2, sl2, at2, id2, sc2⟩ := hlY.slice (x := some (.int .i64 (na : Int))) (y := none) (lo := na) (hi := l.length) (by simp [bound]) rfl hna (Nat.le_refl _)
 rw [List.drop_zero] at at1
 rw [List.take_length] at at2
 have hido : ∀ n ∈ idsV ov, n < b := fun n hn => by
  rw [eo] at hn hos
  cases ao with
  | none => simp [idsV] at hn
  | some a => simp only [idsV, List.mem_singleton] at hn; subst hn; exact blt_lt hos
 rw [hY]
 rw [show Y = ext Y [] from rfl]
 refine w_drawB [(4, 0), (4, 3), (6, 0), (6, 3), (6, 4), (10, 0), (10, 3), (10, 4), (10, 6), (10, 9), (11, 0), (11, 3), (11, 4), (11, 6), (11, 9), (11, 10)] [] (by kernel_rfl) (by kernel_rfl) rfl fun ops anc hA hG => ?_
 simp only [all2_cons] at hA
 simp (maxDischargeDepth := 6) only [nY, hA, ruD, ruW, putL, Nat.reduceLeDiff, xF, ruU, entryE, Nat.reduceLT, Nat.reduceAdd, Nat.reduceMul, Nat.reduceEqDiff]
 refine ⟨.inr fun n hn => .inl (by have := hido n hn; omega), ?_⟩
 rw [wd_slice]
 obtain ⟨Y0, hY0⟩ : ∃ Y0, ext Y [⟨47, false, []⟩] = Y0 := ⟨_, rfl⟩
 have mY0 : Mod [] Y Y0 := hY0 ▸ Mod.ext okY
 have nY0 : Y0.next = b + 4 := by rw [← hY0, ext_next, nY]; rfl
 have kY0 : bk Y0 (b + 3) = some ⟨47, false, []⟩ := by rw [← hY0, show b + 3 = b + 3 + 0 from rfl, bk_at nY (by simp)]; rfl
 have okY0 := mY0.ok okY
 rw [hY0]
 rw [show Y0 = ext Y0 [] from rfl]
 refine genV_sl (v := s1) [] rfl rfl rfl rfl (Nat.le_of_ble_eq_true rfl) (by simp) (fun G _ => by simp only [bnds_none, bnds_some, ruU, entryE, Nat.reduceLT, Nat.reduceAdd, Nat.reduceMul, Nat.reduceEqDiff]; exact sl1 G) (by simp only [all2_cons, all2_nil]; simp [Meets]; exact .inr fun n hn => .inl (by have := hido n (id1 n hn); omega)) ?_
 rw [wd_app (by simp only [ruU, entryE, Nat.reduceLT, Nat.reduceAdd, Nat.reduceMul, Nat.reduceEqDiff])]
 refine genV_appO (Z := ext Y0 []) (m := b + 3) (v := .slice (some ⟨b + 3, 0, some 0⟩) 0 0) (u := s1) (l := []) (l2 := l.take na) (.inl ⟨rfl, rfl, kY0, by show b + 3 < Y0.next; omega⟩) (at1.mod0 mY0) (fun q hq hne => by have := (at1.mod0 mY0).ne hne q hq; exact ⟨this.2, this.1⟩) okY0 (by simp; omega) (Nat.le_of_ble_eq_true rfl) (by simp only [ruU, entryE, Nat.reduceLT, Nat.reduceAdd, Nat.reduceMul, Nat.reduceEqDiff]) (by simp only [List.map_cons, List.map_nil, ruU, entryE, Nat.reduceLT, Nat.reduceAdd, Nat.reduceMul, Nat.reduceEqDiff]) (by simp only [all2_cons, all2_nil, hA, true_or, and_true]) ?_
 intro w1 Z1 D1 F1 m1 hv1 hi1 hD1
 rw [List.nil_append] at hv1
 replace hi1 : ∀ q ∈ idsV w1, b + 3 ≤ q := fun q hq => by
  rcases hi1 q hq with h | h
  ·simp only [idsV, List.mem_singleton] at h; omega
  ·have : Y0.next ≤ q := h; omega
 replace m1 : Mod [b + 3] Y0 Z1 := m1
 have okZ1 := m1.ok okY0
 have mYZ1 : Mod [] Y Z1 := mY0.step m1 okY (fun q hq => .inr (by simp only [List.mem_singleton] at hq; omega))
 have nZ1 : b + 4 ≤ Z1.next := by have := m1.next; omega
 rw [show Z1 = ext Z1 [] from rfl]
 simp (maxDischargeDepth := 6) only [nY0, ext_next, List.length_nil, Nat.add_zero, hA, ruD, ruW, putL, Nat.reduceLeDiff, xF, ruU, entryE, Nat.reduceLT, Nat.reduceAdd, Nat.reduceMul, Nat.reduceEqDiff]
 have hix : ∀ n ∈ idsV (Value.slice (some ⟨b + 2, 0, some 0⟩) 2 2), n < b + 3 := fun n hn => by simp only [idsV, List.mem_singleton] at hn; omega
 refine ⟨⟨fun _ => .inr fun n hn => .inl (by have := hix n hn; omega), .inr fun n hn => .inl (hix n hn)⟩, ?_⟩
 rw [wd_app (by simp only [ruU, entryE, Nat.reduceLT, Nat.reduceAdd, Nat.reduceMul, Nat.reduceEqDiff])]
 refine genV_appO (Z := ext Z1 []) (m := b + 3) (v := w1) (u := .slice (some ⟨b + 2, 0, some 0⟩) 2 2) (l := l.take na) (l2 := [e1, e2]) hv1 (exA.mod0 mYZ1) (fun q hq hne => by have := (exA.mod0 mYZ1).ne hne q hq; exact ⟨this.2, this.1⟩) okZ1 (by simp; omega) (Nat.le_of_ble_eq_true rfl) (by simp only [ruU, entryE, Nat.reduceLT, Nat.reduceAdd, Nat.reduceMul, Nat.reduceEqDiff]) (by simp only [List.map_cons, List.map_nil, ruU, entryE, Nat.reduceLT, Nat.reduceAdd, Nat.reduceMul, Nat.reduceEqDiff]) (by simp only [all2_cons, all2_nil, hA, true_or, and_true]) ?_
 intro w2 Z2 D2 F2 m2 hv2 hi2 hD2
 replace hi2 : ∀ q ∈ idsV w2, b + 3 ≤ q := fun q hq => by
  rcases hi2 q hq with h | h
  ·exact hi1 q h
  ·have : Z1.next ≤ q := h; omega
 replace m2 : Mod (idsV w1) Z1 Z2 := m2
 have okZ2 := m2.ok okZ1
 have mYZ2 : Mod [] Y Z2 := mYZ1.step m2 okY (fun q hq => .inr (by have := hi1 q hq; omega))
 have nZ2 : Z1.next ≤ Z2.next := m2.next
 rw [show Z2 = ext Z2 [] from rfl]
 simp (maxDischargeDepth := 6) only [nY0, ext_next, List.length_nil, Nat.add_zero, hA, ruD, ruW, putL, Nat.reduceLeDiff, xF, ruU, entryE, Nat.reduceLT, Nat.reduceAdd, Nat.reduceMul, Nat.reduceEqDiff]
 refine ⟨⟨fun _ => .inr fun n hn => .inl (by have := hido n hn; omega), fun _ => .inr fun n hn => .inl (by have := hido n hn; omega), .inr fun n hn => .inl (by have := hido n hn; omega)⟩, ?_⟩
 rw [wd_slice]
 have hid2 : ∀ n ∈ idsV s2 ++ ([] : List Bl).flatMap fun x => idsL x.l, n < b := fun n hn => by
  rw [List.flatMap_nil, List.append_nil] at hn
  exact hido n (id2 n hn)
 refine genV_sl (v := s2) [] rfl rfl rfl rfl (Nat.le_of_ble_eq_true rfl) (by simp) (fun G _ => by simp only [bnds_none, bnds_some, ruU, entryE, Nat.reduceLT, Nat.reduceAdd, Nat.reduceMul, Nat.reduceEqDiff]; exact sl2 G) (by simp only [all2_cons, all2_nil, and_true]; exact ⟨meets_ids fun n hn => (by have := hid2 n hn; show n < Z1.next; omega), meets_ids fun n hn => (by have := hid2 n hn; show n < b + 4; omega), meets_ids fun n hn => (by have := hid2 n hn; show n < b + 4; omega), meets_ids fun n hn => (by have := hid2 n hn; show n < b + 3; omega)⟩) ?_
 rw [wd_app (by simp only [ruU, entryE, Nat.reduceLT, Nat.reduceAdd, Nat.reduceMul, Nat.reduceEqDiff])]
 refine genV_appO (Z := ext Z2 []) (m := b + 3) (v := w2) (u := s2) (l := l.take na ++ [e1, e2]) (l2 := l.drop na) hv2 (at2.mod0 mYZ2) (fun q hq hne => by have := (at2.mod0 mYZ2).ne hne q hq; exact ⟨this.2, this.1⟩) okZ2 (by simp; omega) (Nat.le_of_ble_eq_true rfl) (by simp only [ruU, entryE, Nat.reduceLT, Nat.reduceAdd, Nat.reduceMul, Nat.reduceEqDiff]) (by simp only [List.map_cons, List.map_nil, ruU, entryE, Nat.reduceLT, Nat.reduceAdd, Nat.reduceMul, Nat.reduceEqDiff]) (by simp only [all2_cons, all2_nil, hA, true_or, and_true]) ?_
 intro w3 Z3 D3 F3 m3 hv3 hi3 hD3
 replace hi3 : ∀ q ∈ idsV w3, b + 3 ≤ q := fun q hq => by
  rcases hi3 q hq with h | h
  ·exact hi2 q h
  ·have : Z2.next ≤ q := h; omega
 replace m3 : Mod (idsV w2) Z2 Z3 := m3
 have okZ3 := m3.ok okZ2
 have mYZ3 : Mod [] Y Z3 := mYZ2.step m3 okY (fun q hq => .inr (by have := hi2 q hq; omega))
 have nZ3 : Z2.next ≤ Z3.next := m3.next
 rw [show Z3 = ext Z3 [] from rfl]
 simp (maxDischargeDepth := 6) only [nY0, ext_next, List.length_nil, Nat.add_zero, hA, ruD, ruW, putL, Nat.reduceLeDiff, xF, ruU, entryE, Nat.reduceLT, Nat.reduceAdd, Nat.reduceMul, Nat.reduceEqDiff]
 -- Apply of the longer list
 obtain ⟨z3, hz3⟩ : ∃ n, Z3.next = n := ⟨_, rfl⟩
 have hb4 : b + 4 ≤ z3 := by omega
 have mXZ3 : Mod [] X Z3 := mY.trans mYZ3
 have mHZ3 : Mod [] H Z3 := mX.trans mXZ3
 have k0' : bk X b = some ⟨24, false, [v, .int .i64 r, .int .i64 c]⟩ := k0
 have kb3 := (mXZ3.bk (n := b) (by omega) (by simp)).trans k0'
 have lb3 : b < z3 := by omega
 simp (maxDischargeDepth := 6) only [kb3, lb3, hz3, ruW, putL, Nat.reduceLeDiff, xF, ruU, entryE, Nat.reduceLT, Nat.reduceAdd, Nat.reduceMul, Nat.reduceEqDiff]
 obtain ⟨LL, hLL⟩ : ∃ LL, l.take na ++ [e1, e2] ++ l.drop na = LL := ⟨_, rfl⟩
 rw [hLL] at hv3
 have hLl : LL.length = l.length + 2 := by rw [← hLL]; simp; omega
 have hLt : ∀ o ∈ LL, o.text.data.toList.length ≤ 1000 := fun o ho => by
  rw [← hLL] at ho
  simp only [List.mem_append, List.mem_cons, List.not_mem_nil, or_false] at ho
  rcases ho with (ho | rfl | rfl) | ho
  ·exact hlen o (List.mem_of_mem_take ho)
  ·rw [he1]; exact Nat.zero_le _
  ·rw [he2]; exact Nat.zero_le _
  ·exact hlen o (List.mem_of_mem_drop ho)
 have tZ3 : Tab Z3 := t.of (mHZ3.get 0 (by omega) (by simp)) (mHZ3.get 1 h1 (by simp))
 refine (apply_c Z3 v w3 g r c LL (hg.mod0 mHZ3) hv3.at_ tZ3 (by omega) okZ3 (scb_mono (by omega) _ hs') (fun q hq => by have := hgw q hq; omega) (by omega) hLt (by omega)).mono ?_
 intro out4 X4 hap4
 obtain ⟨m4, ua, rva, Na, rfl, hNa, owna⟩ := hap4.val
 obtain ⟨⟨ga, ra, ca, ea, ia⟩, hA1⟩ : ∃ q, appV g r c LL = q := ⟨_, rfl⟩
 obtain ⟨⟨gb, rb, cb, eb, ib⟩, hA2⟩ : ∃ q, appV g r c (l.take na) = q := ⟨_, rfl⟩
 have hgrid := appV_grid (g := g) (r := r) (c := c) (l := LL)
 have hgridb := appV_grid (g := g) (r := r) (c := c) (l := l.take na)
 rw [hA1] at owna hgrid ⊢
 rw [hA2] at hgridb
 simp only at owna hgrid hgridb ⊢
 have hlaw := may_law (g := g) (r := r) (c := c) (l := l.take na) (m := l.drop na) (e1 := e1) (e2 := e2) hck (by rw [he1]) (by rw [he1]; simp only [colr, Bool.and_eq_true, decide_eq_true_eq]; omega) (by rw [he2]; rfl) (by rw [he2]; exact pr0) (by rw [he2]; exact pr1) (by rw [he2]; exact pc0) (by rw [he2, hW]; exact pc1)
 rw [hLL, hA1, hA2] at hlaw
 have ok4 := m4.ok okZ3
 obtain ⟨x4, hx4⟩ : ∃ n, X4.next = n := ⟨_, rfl⟩
 have hb44 : X4.base ≤ x4 := hx4 ▸ ok4
 obtain ⟨aua, cua, eua⟩ := owna.grid.sl
 have hsua : scb x4 ua = true := by
  rcases owna.at_ with ⟨_, h⟩ | ⟨m, s, c', o, e, _, _, hm, _⟩
  ·rw [h]; rfl
  ·rw [e]; exact blt_of (show m < x4 by omega)
 have hsua' := hsua
 rw [show X4 = ext X4 [] from rfl]
 rw [eua] at hsua ⊢
 have hx34 : z3 ≤ x4 := by have := m4.next; omega
 simp (maxDischargeDepth := 6) only [hx4, hb44, hsua, ruW, putL, Nat.reduceLeDiff, xF, ruU, entryE, Nat.reduceLT, Nat.reduceAdd, Nat.reduceMul, Nat.reduceEqDiff]
 rw [← eua]
 -- Apply of the first piece
 obtain ⟨X5, hX5⟩ : ∃ X5, ext X4 [⟨24, false, [ua, .int .i64 ra, .int .i64 ca]⟩] = X5 := ⟨_, rfl⟩
 have m5 : Mod [] X4 X5 := hX5 ▸ Mod.ext ok4
 have nX5 : X5.next = x4 + 1 := by rw [← hX5, ext_next, hx4]; rfl
 have k5 : bk X5 (x4 + 0) = some ⟨24, false, [ua, .int .i64 ra, .int .i64 ca]⟩ := by rw [← hX5, bk_at hx4 (by simp)]; rfl
 have m35 : Mod [] Z3 X5 := m4.trans m5
 have mYX5 : Mod [] Y X5 := mYZ3.trans m35
 have mXX5 : Mod [] X X5 := mXZ3.trans m35
 have mH5 : Mod [] H X5 := mHZ3.trans m35
 have ok5 := mH5.ok hok
 have t5 : Tab X5 := t.of (mH5.get 0 (by omega) (by simp)) (mH5.get 1 h1 (by simp))
 have g5 : GridAt X5 v g := hg.mod0 mH5
 have at15 : OpsAt X5 s1 (l.take na) := at1.mod0 mYX5
 have hbb5 : b + 4 ≤ x4 := by omega
 obtain ⟨Fg, hFg, hFgG⟩ := g5.foot hgne
 obtain ⟨Fo, hFo⟩ : ∃ F, F = if l.take na = [] then [] else idsV s1 := ⟨_, rfl⟩
 have hFo1 : ∀ n ∈ Fo, X5.get n ≠ none ∧ n < X5.next := fun n hn => by
  rw [hFo] at hn
  split at hn
  ·simp at hn
  ·rename_i h2; exact at15.ne h2 n hn
 have hF8 : ∀ n ∈ Fg ++ (0 :: 1 :: Fo), X5.get n ≠ none ∧ n < X5.next := fun n hn => by
  rcases List.mem_append.1 hn with hn | hn
  ·exact hFg n hn
  ·simp only [List.mem_cons] at hn
   obtain ⟨e1, e2, t1, t2⟩ := t5
   rcases hn with rfl | rfl | hn
   ·exact ⟨bk_ne t1, by omega⟩
   ·exact ⟨bk_ne t2, by omega⟩
   ·exact hFo1 n hn
 obtain ⟨F8, hF8e⟩ : ∃ F, F = Fg ++ (0 :: 1 :: Fo) := ⟨_, rfl⟩
 rw [← hF8e] at hF8
 have hrn := restrict_next X5 F8
 have hrg : ∀ n ∈ F8, (X5.restrict F8).get n = X5.get n := fun n hn => by rw [restrict_get, if_pos hn]
 have gR : GridAt (X5.restrict F8) v g := (hFgG (X5.restrict F8) (by rw [hrn.1]; exact Nat.le_refl _) (fun n hn => hrg n (by rw [hF8e]; exact List.mem_append_left _ hn))).1
 have tR : Tab (X5.restrict F8) := t5.of (hrg 0 (by rw [hF8e]; simp)) (hrg 1 (by rw [hF8e]; simp))
 have oR : OpsAt (X5.restrict F8) s1 (l.take na) := by
  by_cases h2 : l.take na = []
  ·obtain ⟨a, c, e⟩ := at15.sl
   rw [h2] at e ⊢
   exact .inl ⟨rfl, a, c, e⟩
  ·exact at15.of (by rw [hrn.1]; exact Nat.le_refl _) fun n hn => hrg n (by rw [hF8e, hFo, if_neg h2]; simp [hn])
 obtain ⟨_, gg, hcc, hap⟩ := apply_c (X5.restrict F8) v s1 g r c (l.take na) gR oR tR (by rw [hrn.1]; omega) (by rw [hrn.1, hrn.2.1]; exact Nat.le_refl _) (by rw [hrn.1, nX5]; exact scb_mono (by omega) _ hs') (fun q hq => by have := hgw q hq; omega) (by omega) (fun o ho => hlen o (List.mem_of_mem_take ho)) (by simp; omega)
 obtain ⟨mg, ub, rvb, Nb, rfl, hNb, ownb⟩ := hap.val
 rw [hA2] at hcc ownb
 simp only at hcc ownb
 rw [hrn.1] at hNb
 have k5b := (mXX5.bk (n := b) (by omega) (by simp)).trans k0'
 have l5b : b < x4 + 1 := by omega
 rw [hX5]
 rw [show X5 = ext X5 [] from rfl]
 refine w_drawB [(4, 0), (4, 3), (5, 4), (6, 4), (7, 4), (8, 4), (10, 0), (10, 3), (10, 4), (10, 9)] [] (by kernel_rfl) (by kernel_rfl) rfl fun ops anc hA hG => ?_
 simp only [all2_cons] at hA
 simp (maxDischargeDepth := 6) only [nX5, k5b, l5b, hA, ruD, ruW, putL, Nat.reduceLeDiff, xF, ruU, entryE, Nat.reduceLT, Nat.reduceAdd, Nat.reduceMul, Nat.reduceEqDiff]
 rw [wd_slice]
 have hid1 : ∀ n ∈ idsV s1 ++ ([] : List Bl).flatMap fun x => idsL x.l, n < b := fun n hn => by
  rw [List.flatMap_nil, List.append_nil] at hn
  exact hido n (id1 n hn)
 refine genV_sl (v := s1) [] rfl rfl rfl rfl (Nat.le_of_ble_eq_true rfl) (by simp) (fun G _ => by simp only [bnds_none, bnds_some, ruU, entryE, Nat.reduceLT, Nat.reduceAdd, Nat.reduceMul, Nat.reduceEqDiff]; exact sl1 G) (by simp only [all2_cons, all2_nil, and_true]; exact meets_ids fun n hn => (by have := hid1 n hn; show n < x4 + 1; omega)) ?_
 simp (maxDischargeDepth := 6) only [nX5, k5b, l5b, hA, ruD, ruW, putL, Nat.reduceLeDiff, xF, ruU, entryE, Nat.reduceLT, Nat.reduceAdd, Nat.reduceMul, Nat.reduceEqDiff]
 refine genV_mod (H := ext X5 []) (W := []) F8 ok5 (by simp only [ruU, entryE, Nat.reduceLT, Nat.reduceAdd, Nat.reduceMul, Nat.reduceEqDiff]) (by kernel_rfl) (fun n hn => (hF8 n hn).1) (fun n hn => (hF8 n hn).2) (fun _ h => by simp at h) (v := .tuple #[.agg #[ub, .int .i64 rb, .int .i64 cb], .int .i64 eb, .int .i64 ib]) (g := gg) (by simp only [ruU, entryE, Nat.reduceLT, Nat.reduceAdd, Nat.reduceMul, Nat.reduceEqDiff]; exact hcc) mg (by simp only [all2_cons, all2_nil, hA, true_or, and_true]) ?_
 intro Z D mZ hFZ hNZ hnZ hDZ
 have hD0 : D = [] := List.eq_nil_iff_forall_not_mem.2 (fun q hq => by simpa using hDZ q hq)
 subst hD0
 replace mZ : Mod [] X5 Z := mZ
 have okZ := mZ.ok ok5
 obtain ⟨z, hz⟩ : ∃ n, Z.next = n := ⟨_, rfl⟩
 have hzb : Z.base ≤ z := hz ▸ okZ
 have hz5 : x4 + 1 ≤ z := by have := mZ.next; omega
 have ownbZ : OwnG Nb Z ub rvb gb := ownb.of (Nat.le_of_eq hnZ.symm) fun n h2 h3 _ => hNZ n (Nat.le_trans hNb h2) h3
 have hsub : scb z ub = true := by
  rcases ownbZ.at_ with ⟨_, h⟩ | ⟨m, s, c', o, e, _, _, hm, _⟩
  ·rw [h]; rfl
  ·rw [e]; exact blt_of (show m < z by omega)
 have hsub' := hsub
 obtain ⟨aub, cub, eub⟩ := ownbZ.grid.sl
 rw [show Z = ext Z [] from rfl]
 rw [eub] at hsub ⊢
 simp (maxDischargeDepth := 6) only [hz, hzb, hsub, hA, ruD, ruW, putL, Nat.reduceLeDiff, xF, ruU, entryE, Nat.reduceLT, Nat.reduceAdd, Nat.reduceMul, Nat.reduceEqDiff]
 refine ⟨.inr fun _ => ⟨.inr (by have := hnZ; rw [hz] at this; omega), fun x hx => by simp [idsV] at hx⟩, ?_⟩
 rw [← eub]
 obtain ⟨X6, hX6⟩ : ∃ X6, ext Z [⟨24, false, [ub, .int .i64 rb, .int .i64 cb]⟩] = X6 := ⟨_, rfl⟩
 have m6 : Mod [] Z X6 := hX6 ▸ Mod.ext okZ
 have nX6 : X6.next = z + 1 := by rw [← hX6, ext_next, hz]; rfl
 have k6 : bk X6 (z + 0) = some ⟨24, false, [ub, .int .i64 rb, .int .i64 cb]⟩ := by rw [← hX6, bk_at hz (by simp)]; rfl
 have m56 : Mod [] X5 X6 := mZ.trans m6
 have mH6 : Mod [] H X6 := mH5.trans m56
 have mXX6 : Mod [] X X6 := mXX5.trans m56
 have mYX6 : Mod [] Y X6 := mYX5.trans m56
 have ok6 := mH6.ok hok
 have k6a := (m56.bk (n := x4 + 0) (by omega) (by simp)).trans k5
 have l6a : x4 + 0 < z + 1 := by omega
 have l6z : z + 0 < z + 1 := by omega
 have k6b := (mXX6.bk (n := b) (by omega) (by simp)).trans k0'
 have l6b : b < z + 1 := by omega
 obtain ⟨aw, cw, ew⟩ := hv3.at_.sl
 rw [hX6]
 rcases hlaw with ⟨hea, hga, hia0, hia1, hib⟩ | ⟨g1, a1, b1, g2, a2, b2, q1, q2, q3, q4, q5, q6⟩
 ·have hd1 : decide (¬ ea = 0) = true := decide_eq_true hea
  simp only at hga hia0 hia1 hib
  subst hga
  rw [List.length_nil] at eua
  have hd2 : decide (0 ≤ ia) = true := decide_eq_true hia0
  have hd3 : decide (ia < (LL.length : Int)) = true := decide_eq_true hia1
  rw [eua] at k6a
  rw [ew]
  have hz00 : decide (((0 : Nat) : Int) = 0) = true := rfl
  rw [show X6 = ext X6 [] from rfl]
  by_cases heb : eb = 0
  ·have hd4 : decide (eb = 0) = true := decide_eq_true heb
   simp (maxDischargeDepth := 6) only [hd1, k6a, l6a, nX6, hd2, hd3, hz00, hd4, Tryd.results9, ruW, putL, Nat.reduceLeDiff, xF, ruU, entryE, Nat.reduceLT, Nat.reduceAdd, Nat.reduceMul, Nat.reduceEqDiff]
   exact ⟨rfl, mH6⟩
  ·have hd4 : decide (eb = 0) = false := decide_eq_false heb
   have hd5 : decide (ib = ia) = true := decide_eq_true (hib.resolve_left heb)
   simp (maxDischargeDepth := 6) only [hd1, k6a, l6a, nX6, hd2, hd3, hz00, hd4, hd5, Tryd.results9, ruW, putL, Nat.reduceLeDiff, xF, ruU, entryE, Nat.reduceLT, Nat.reduceAdd, Nat.reduceMul, Nat.reduceEqDiff]
   exact ⟨rfl, mH6⟩
 simp only [Prod.mk.injEq] at q1 q2
 obtain ⟨rfl, rfl, rfl, rfl, rfl⟩ := q1
 obtain ⟨rfl, rfl, rfl, rfl, rfl⟩ := q2
 have hd1 : decide (¬ (0 : Int) = 0) = false := by simp
 rw [show X6 = ext X6 [] from rfl]
 simp (maxDischargeDepth := 6) only [hd0, hd1, ruW, putL, Nat.reduceLeDiff, xF, ruU, entryE, Nat.reduceLT, Nat.reduceAdd, Nat.reduceMul, Nat.reduceEqDiff]
 refine w_drawB [(3, 1), (7, 1), (7, 3), (7, 6), (8, 0), (8, 1), (8, 3), (8, 6), (8, 7), (9, 1), (9, 3), (9, 7), (9, 8), (10, 1), (10, 3), (10, 7), (10, 8), (14, 0), (14, 1), (14, 3), (14, 6), (14, 7), (14, 8), (14, 13)] [] (by kernel_rfl) (by kernel_rfl) rfl fun ops anc hA hG => ?_
 simp only [all2_cons] at hA
 simp (maxDischargeDepth := 6) only [nX6, k6, l6z, hA, ruD, ruW, putL, Nat.reduceLeDiff, xF, ruU, entryE, Nat.reduceLT, Nat.reduceAdd, Nat.reduceMul, Nat.reduceEqDiff]
 refine ⟨.inr fun n hn => .inl (by have := hix n hn; omega), ?_⟩
 obtain ⟨Y7, hY7⟩ : ∃ Y7, ext X6 [⟨47, false, []⟩] = Y7 := ⟨_, rfl⟩
 have m7 : Mod [] X6 Y7 := hY7 ▸ Mod.ext ok6
 have nY7 : Y7.next = z + 2 := by rw [← hY7, ext_next, nX6]; rfl
 have kY7 : bk Y7 (z + 1) = some ⟨47, false, []⟩ := by rw [← hY7, show z + 1 = z + 1 + 0 from rfl, bk_at nX6 (by simp)]; rfl
 have okY7 := m7.ok ok6
 have mYY7 : Mod [] Y Y7 := mYX6.trans m7
 rw [hY7]
 rw [show Y7 = ext Y7 [] from rfl]
 rw [wd_app (by simp only [ruU, entryE, Nat.reduceLT, Nat.reduceAdd, Nat.reduceMul, Nat.reduceEqDiff])]
 refine genV_appO (Z := ext Y7 []) (m := z + 1) (v := .slice (some ⟨z + 1, 0, some 0⟩) 0 0) (u := .slice (some ⟨b + 2, 0, some 0⟩) 2 2) (l := []) (l2 := [e1, e2]) (.inl ⟨rfl, rfl, kY7, by show z + 1 < Y7.next; omega⟩) (exA.mod0 mYY7) (fun q hq hne => by have := (exA.mod0 mYY7).ne hne q hq; exact ⟨this.2, this.1⟩) okY7 (by simp) (Nat.le_of_ble_eq_true rfl) (by simp only [ruU, entryE, Nat.reduceLT, Nat.reduceAdd, Nat.reduceMul, Nat.reduceEqDiff]) (by simp only [List.map_cons, List.map_nil, ruU, entryE, Nat.reduceLT, Nat.reduceAdd, Nat.reduceMul, Nat.reduceEqDiff]) (by
  simp only [all2_cons, all2_nil, hA, true_or, and_true, true_and]
  refine .inr ⟨Nat.le_refl _, fun h => ?_⟩
  simp only [List.mem_singleton, idsV] at h
  omega) ?_
 intro v1 V1 E1 G1 n1 hw1 hj1 hE1
 rw [List.nil_append] at hw1
 replace hj1 : ∀ q ∈ idsV v1, z + 1 ≤ q := fun q hq => by
  rcases hj1 q hq with h | h
  ·simp only [idsV, List.mem_singleton] at h; omega
  ·have : Y7.next ≤ q := h; omega
 replace n1 : Mod [z + 1] Y7 V1 := n1
 have okV1 := n1.ok okY7
 have mXV1 : Mod [] X6 V1 := m7.step n1 ok6 (fun q hq => .inr (by simp only [List.mem_singleton] at hq; omega))
 have nV1 : z + 2 ≤ V1.next := by have := n1.next; omega
 have mYV1 : Mod [] Y V1 := mYX6.trans mXV1
 rw [show V1 = ext V1 [] from rfl]
 simp (maxDischargeDepth := 6) only [nY7, ext_next, List.length_nil, hA, ruD, ruW, putL, Nat.reduceLeDiff, xF, ruU, entryE, Nat.reduceLT, Nat.reduceAdd, Nat.reduceMul, Nat.reduceEqDiff]
 refine ⟨⟨fun _ => .inr fun n hn => .inl (by have := hido n hn; omega), .inr fun n hn => .inl (by have := hido n hn; omega)⟩, ?_⟩
 rw [wd_slice]
 refine genV_sl (v := s2) [] rfl rfl rfl rfl (Nat.le_of_ble_eq_true rfl) (by simp) (fun G _ => by simp only [bnds_none, bnds_some, ruU, entryE, Nat.reduceLT, Nat.reduceAdd, Nat.reduceMul, Nat.reduceEqDiff]; exact sl2 G) (by simp only [all2_cons, all2_nil, and_true]; exact ⟨meets_ids fun n hn => (by have := hid2 n hn; show n < z + 2; omega), meets_ids fun n hn => (by have := hid2 n hn; show n < z + 1; omega), meets_ids fun n hn => (by have := hid2 n hn; show n < z + 1; omega)⟩) ?_
 rw [wd_app (by simp only [ruU, entryE, Nat.reduceLT, Nat.reduceAdd, Nat.reduceMul, Nat.reduceEqDiff])]
 refine genV_appO (Z := ext V1 []) (m := z + 1) (v := v1) (u := s2) (l := [e1, e2]) (l2 := l.drop na) hw1 (at2.mod0 mYV1) (fun q hq hne => by have := (at2.mod0 mYV1).ne hne q hq; exact ⟨this.2, this.1⟩) okV1 (by simp; omega) (Nat.le_of_ble_eq_true rfl) (by simp only [ruU, entryE, Nat.reduceLT, Nat.reduceAdd, Nat.reduceMul, Nat.reduceEqDiff]) (by simp only [List.map_cons, List.map_nil, ruU, entryE, Nat.reduceLT, Nat.reduceAdd, Nat.reduceMul, Nat.reduceEqDiff]) (by
  simp only [all2_cons, all2_nil, hA, true_or, and_true, true_and]
  refine .inr ⟨Nat.le_refl _, fun h => ?_⟩
  have := hj1 _ h
  omega) ?_
 intro v2 V2 E2 G2 n2 hw2 hj2 hE2
 replace hj2 : ∀ q ∈ idsV v2, z + 1 ≤ q := fun q hq => by
  rcases hj2 q hq with h | h
  ·exact hj1 q h
  ·have : V1.next ≤ q := h; omega
 replace n2 : Mod (idsV v1) V1 V2 := n2
 have okV2 := n2.ok okV1
 have mXV2 : Mod [] X6 V2 := mXV1.step n2 ok6 (fun q hq => .inr (by have := hj1 q hq; omega))
 have mZV2 : Mod [] Z V2 := m6.trans mXV2
 have mHV2 : Mod [] H V2 := mH6.trans mXV2
 have nV2 : V1.next ≤ V2.next := n2.next
 obtain ⟨y2, hy2⟩ : ∃ n, V2.next = n := ⟨_, rfl⟩
 rw [show V2 = ext V2 [] from rfl]
 simp (maxDischargeDepth := 6) only [nY7, ext_next, List.length_nil, hA, hy2, ruD, ruW, putL, Nat.reduceLeDiff, xF, ruU, entryE, Nat.reduceLT, Nat.reduceAdd, Nat.reduceMul, Nat.reduceEqDiff]
 -- Apply of what is left
 have ownbV : OwnG Nb V2 ub rvb gb := ownbZ.of mZV2.next fun n h2 h3 _ => mZV2.get n h3 (by simp)
 have hgbne : gb ≠ [] := fun e => by
  rw [e] at q3
  have h3 : chkR [] rb cb = 3 := rfl
  unfold appV at q3
  rw [if_neg (by rw [h3]; decide)] at q3
  simp only [Prod.mk.injEq] at q3
  rw [h3] at q3
  exact absurd q3.2.2.2.1 (by decide)
 have tV2 : Tab V2 := t.of (mHV2.get 0 (by omega) (by simp)) (mHV2.get 1 h1 (by simp))
 obtain ⟨Fh, hFh, hFhG⟩ := ownbV.grid.foot hgbne
 have hF9 : ∀ n ∈ Fh ++ (0 :: 1 :: idsV v2), V2.get n ≠ none ∧ n < V2.next := fun n hn => by
  rcases List.mem_append.1 hn with hn | hn
  ·exact hFh n hn
  ·simp only [List.mem_cons] at hn
   obtain ⟨e1, e2, t1, t2⟩ := tV2
   rcases hn with rfl | rfl | hn
   ·exact ⟨bk_ne t1, by omega⟩
   ·exact ⟨bk_ne t2, by omega⟩
   ·exact hw2.ne n hn
 obtain ⟨F9, hF9e⟩ : ∃ F, F = Fh ++ (0 :: 1 :: idsV v2) := ⟨_, rfl⟩
 rw [← hF9e] at hF9
 have hrn9 := restrict_next V2 F9
 have hrg9 : ∀ n ∈ F9, (V2.restrict F9).get n = V2.get n := fun n hn => by rw [restrict_get, if_pos hn]
 have gR9 : GridAt (V2.restrict F9) ub gb := (hFhG (V2.restrict F9) (by rw [hrn9.1]; exact Nat.le_refl _) (fun n hn => hrg9 n (by rw [hF9e]; exact List.mem_append_left _ hn))).1
 have tR9 : Tab (V2.restrict F9) := tV2.of (hrg9 0 (by rw [hF9e]; simp)) (hrg9 1 (by rw [hF9e]; simp))
 have oR9 : OpsAt (V2.restrict F9) v2 ([e1, e2] ++ l.drop na) := (hw2.of (by rw [hrn9.1]; exact Nat.le_refl _) fun n hn => hrg9 n (by rw [hF9e]; simp [hn])).at_
 obtain ⟨_, gh, hch, hap9⟩ := apply_c (V2.restrict F9) ub v2 gb rb cb ([e1, e2] ++ l.drop na) gR9 oR9 tR9 (by rw [hrn9.1]; omega) (by rw [hrn9.1, hrn9.2.1]; exact Nat.le_refl _) (by rw [hrn9.1, hy2]; exact scb_mono (by omega) _ hsub') (fun q hq => by have := hgridb.2 q hq; omega) (by omega) (fun o ho => by
  refine hLt o ?_
  rw [← hLL, List.append_assoc]
  exact List.mem_append_right _ ho) (by simp; omega)
 obtain ⟨mh, uc, rvc, Nc, rfl, hNc, ownc⟩ := hap9.val
 rw [q3] at hch ownc
 simp only at hch ownc
 rw [hrn9.1] at hNc
 refine genV_mod (H := ext V2 []) (W := []) F9 okV2 (by simp only [ruU, entryE, Nat.reduceLT, Nat.reduceAdd, Nat.reduceMul, Nat.reduceEqDiff]) (by kernel_rfl) (fun n hn => (hF9 n hn).1) (fun n hn => (hF9 n hn).2) (fun _ h => by simp at h) (v := .tuple #[.agg #[uc, .int .i64 ra, .int .i64 ca], .int .i64 0, .int .i64 0]) (g := gh) (by simp only [ruU, entryE, Nat.reduceLT, Nat.reduceAdd, Nat.reduceMul, Nat.reduceEqDiff]; exact hch) mh (by simp only [all2_cons, all2_nil, hA, true_or, and_true]) ?_
 intro Y8 D8 mY8 hFY8 hNY8 hnY8 hDY8
 have hD8 : D8 = [] := List.eq_nil_iff_forall_not_mem.2 (fun q hq => by simpa using hDY8 q hq)
 subst hD8
 replace mY8 : Mod [] V2 Y8 := mY8
 have okY8 := mY8.ok okV2
 obtain ⟨y8, hy8⟩ : ∃ n, Y8.next = n := ⟨_, rfl⟩
 have hyb8 : Y8.base ≤ y8 := hy8 ▸ okY8
 have hy28 : y2 ≤ y8 := by have := mY8.next; omega
 have ownc8 : OwnG Nc Y8 uc rvc ga := ownc.of (Nat.le_of_eq hnY8.symm) fun n h2 h3 _ => hNY8 n (Nat.le_trans hNc h2) h3
 have hsuc : scb y8 uc = true := by
  rcases ownc8.at_ with ⟨_, h⟩ | ⟨m, s, c', o, e, _, _, hm, _⟩
  ·rw [h]; rfl
  ·rw [e]; exact blt_of (show m < y8 by omega)
 have hsuc' := hsuc
 obtain ⟨auc, cuc, euc⟩ := ownc8.grid.sl
 rw [show Y8 = ext Y8 [] from rfl]
 rw [euc] at hsuc ⊢
 simp (maxDischargeDepth := 6) only [hy8, hyb8, hsuc, hA, ruD, ruW, putL, Nat.reduceLeDiff, xF, ruU, entryE, Nat.reduceLT, Nat.reduceAdd, Nat.reduceMul, Nat.reduceEqDiff]
 have hal : ∀ {lo hi : Nat}, hi ≤ y8 → (y8 + 0 < lo ∨ hi ≤ y8 + 0) ∧ ∀ x, x ∈ idsV (Value.slice none 0 0) ++ [] → x < lo ∨ hi ≤ x := fun h => ⟨.inr (by omega), fun x hx => by simp [idsV] at hx⟩
 refine ⟨⟨.inr fun _ => hal (by omega), .inr fun _ => hal (by omega), .inr fun _ => hal (by omega), .inr (hal (by omega))⟩, ?_⟩
 rw [← euc]
 obtain ⟨X9, hX9⟩ : ∃ X9, ext Y8 [⟨24, false, [uc, .int .i64 ra, .int .i64 ca]⟩] = X9 := ⟨_, rfl⟩
 have m9 : Mod [] Y8 X9 := hX9 ▸ Mod.ext okY8
 have nX9 : X9.next = y8 + 1 := by rw [← hX9, ext_next, hy8]; rfl
 have k9 : bk X9 (y8 + 0) = some ⟨24, false, [uc, .int .i64 ra, .int .i64 ca]⟩ := by rw [← hX9, bk_at hy8 (by simp)]; rfl
 have m69 : Mod [] X6 X9 := (mXV2.trans mY8).trans m9
 have mH9 : Mod [] H X9 := mH6.trans m69
 have mXX9 : Mod [] X X9 := mXX6.trans m69
 have m49 : Mod [] X4 X9 := (m5.trans m56).trans m69
 have ok9 := mH9.ok hok
 have k9a := (m69.bk (n := x4 + 0) (by omega) (by simp)).trans k6a
 have l9a : x4 + 0 < y8 + 1 := by omega
 have k9b := (mXX9.bk (n := b) (by omega) (by simp)).trans k0'
 have l9b : b < y8 + 1 := by omega
 have l9 : y8 + 0 < y8 + 1 := by omega
 have own9a : OwnG Na X9 ua rva ga := owna.of m49.next fun n h2 h3 _ => m49.get n h3 (by simp)
 have own9c : OwnG Nc X9 uc rvc ga := ownc8.of m9.next fun n h2 h3 _ => m9.get n h3 (by simp)
 rw [hX9]
 rw [show X9 = ext X9 [] from rfl]
 refine w_drawB [] [(1, 133), (5, 137), (9, 141), (14, 146), (23, 155), (36, 168)] (by kernel_rfl) rfl (by kernel_rfl) fun ops anc hA hG => ?_
 simp only [all2_cons] at hG
 simp (maxDischargeDepth := 6) only [nX9, k9, k9a, k9b, l9, l9a, l9b, hG, decide_true, ruD, ruW, putL, Nat.reduceLeDiff, xF, ruU, entryE, Nat.reduceLT, Nat.reduceAdd, Nat.reduceMul, Nat.reduceEqDiff]
 have g9a := own9a.grid
 have hgane : ga ≠ [] := fun e => by rw [e] at q5; simp at q5; omega
 obtain ⟨Fa, hFa, hFaG⟩ := g9a.foot hgane
 obtain ⟨Fc, hFc, hFcG⟩ := own9c.grid.foot hgane
 obtain ⟨nu, ofu, su, cu, eu, ou, Lu, eu0, hbu, hnu, hleu, hru⟩ : ∃ n off s c e o L, ua = .slice (some ⟨n, off, s⟩) ga.length c ∧ rk X9 n = some ⟨e, o, L⟩ ∧ n < X9.next ∧ off + ga.length ≤ L.length ∧ ∀ k row, ga[k]? = some row → ∃ rv, L[off + k]? = some rv ∧ RowAt X9 rv row := by
  rcases g9a with ⟨h, _⟩ | ⟨_, n, off, s, c, e, o, L, h⟩
  ·exact absurd h hgane
  ·exact ⟨n, off, s, c, e, o, L, h⟩
 obtain ⟨wa, hwa⟩ : ∃ r, ga[0]? = some r := ⟨_, List.getElem?_eq_getElem (by omega)⟩
 obtain ⟨uw0, huw, raw⟩ := hru 0 wa hwa
 have hwal : wa.length = W := by
  rw [← hW, ← q6, widG, List.getD_eq_getElem?_getD, hwa]; rfl
 obtain ⟨aw0, cw0, ew0⟩ := raw.sl
 rw [hwal] at ew0
 have iu := grid_ia (n := nu) (off := ofu) (s := su) (len := ga.length) (cap := cu) (i := 0) (k := 0) rfl (by omega)
 have yu := grid_load (e := eu) (o := ou) huw
 rw [ew0] at yu
 rw [nX9] at hnu
 have hbv9 := (rk_get (mXX9.get nv (by omega) (by simp))).trans hbv
 have hnv9 : nv < y8 + 1 := by omega
 have c1 : decide ((ga.length : Int) = (g.length : Int)) = true := decide_eq_true (by omega)
 have k9as := k9a
 have k9bs := k9b
 rw [eu0] at k9as
 rw [ev0] at k9bs
 have hsame : decide (ga = ga ∧ ra = ra ∧ ca = ca) = true := decide_eq_true ⟨rfl, rfl, rfl⟩
 refine genV_quiet (v := .int .i64 0) Fa (by simp only [ruU, entryE, Nat.reduceLT, Nat.reduceAdd, Nat.reduceMul, Nat.reduceEqDiff]) (by kernel_rfl) (by decide) (fun n hn => (hFa n hn).1) (fun G hn hg => ?_) (by simp [Meets]) ?_
 ·have := check39_c G ua ga ra ca (hFaG G (Nat.le_of_eq hn.symm) hg).1 (fun q hq => by have := hgrid.2 q hq; omega) (by omega)
  rw [q4] at this
  exact this
 rw [eu0]
 simp (maxDischargeDepth := 6) only [nX9, k9, k9as, k9bs, l9, l9a, l9b, hG, iv, iu, hbv9, hnv9, hbu, hnu, yv, yu, c1, qk_old, decide_true, ruD, ruW, putL, Nat.reduceLeDiff, xF, ruU, entryE, Nat.reduceLT, Nat.reduceAdd, Nat.reduceMul, Nat.reduceEqDiff]
 rw [← eu0]
 refine genV_quiet (v := .bool true) (Fa ++ Fc) (by simp only [ruU, entryE, Nat.reduceLT, Nat.reduceAdd, Nat.reduceMul, Nat.reduceEqDiff]) (by kernel_rfl) (by decide) (fun n hn => (List.mem_append.1 hn).elim (fun h => (hFa n h).1) (fun h => (hFc n h).1)) (fun G hn hg => ?_) (by simp [Meets]) ?_
 ·have := sameScreens_c G ua uc ga ga ra ca ra ca (hFaG G (Nat.le_of_eq hn.symm) fun n h => hg n (List.mem_append_left _ h)).1 (hFcG G (Nat.le_of_eq hn.symm) fun n h => hg n (List.mem_append_right _ h)).1 (by omega) (fun q hq => by have := hgrid.2 q hq; omega)
  rw [hsame] at this
  exact this
 simp (maxDischargeDepth := 6) only [nX9, hG, decide_true, Tryd.results9, ruD, ruW, putL, Nat.reduceLeDiff, xF, ruU, entryE, Nat.reduceLT, Nat.reduceAdd, Nat.reduceMul, Nat.reduceEqDiff]
 exact ⟨rfl, mH9⟩
end Go.Proofs.YtaojjfebkldmnaaDoor
