/- Parts of the proof, one behind the other. -/
import Derived.Test.YtaojjfebkldmnaaDoorM6
import Derived.Test.YtaojjfebkldmnaaDoorM4
import Derived.Test.YtaojjfebkldmnaaDoorM3
set_option linter.all false
set_option maxRecDepth 10000
open Option renaming bind_eq_some_iff → oZ1, bind_eq_bind → oZ2, bind_some → oZ3, map_eq_some_iff → oZ4, map_some → oZ5

/- The reference's scroll. -/
namespace Go.Proofs.YtaojjfebkldmnaaDoor
open Go.Ax
def RefR (T : TypeId) (N p : Nat) (r : Option St) (H : AHeap) (out : Out) (X : AHeap) : Prop :=
 ModN N H X ∧ out = .ok (.bool r.isSome) ∧ ∀ y, r = some y → ∃ v rvs, Slc v ∧ StAt T N X p v rvs y
set_option maxHeartbeats 2000000 in
theorem blanks47_c (H : AHeap) (n : Nat) (hn : n ≤ 1000) (hok : H.base ≤ H.next) : CallA Tryd.prog 47 [.int .i64 (n : Int)] H (fun out X => ∃ u, out = .ok u ∧ VsAt X 55 6 u (csOf (List.replicate n Ce.sp)) n ∧ Mod [] H X ∧ ∀ q ∈ idsV u, H.next ≤ q) := by
 refine callE_fn mixed Tryd.func47 rfl Tryd.ntmps47 (Nat.le_of_ble_eq_true rfl) ?_
 simp (maxDischargeDepth := 6) only [ruW, putL, Nat.reduceLeDiff, xF, ruU, entryE, Nat.reduceLT, Nat.reduceAdd, Nat.reduceMul, Nat.reduceEqDiff]
 refine w_env fun E hE => ?_
 have g0 : E 0 = .int .i64 (n : Int) := by rw [hE]; simp only [ruU, entryE, Nat.reduceLT, Nat.reduceAdd, Nat.reduceMul, Nat.reduceEqDiff]
 have g3 : E 3 = .slice none 0 0 := by rw [hE]; simp only [ruU, entryE, Nat.reduceLT, Nat.reduceAdd, Nat.reduceMul, Nat.reduceEqDiff]
 have g4 : E 4 = .int .i64 ((0 : Nat) : Int) := by rw [hE]; (simp only [ruU, entryE, Nat.reduceLT, Nat.reduceAdd, Nat.reduceMul, Nat.reduceEqDiff] <;> rfl)
 clear hE
 refine blockC_meet (fun E' Y => ∃ u, E' 3 = u ∧ VsAt Y 55 6 u (csOf (List.replicate n Ce.sp)) n ∧ Mod [] H Y ∧ ∀ q ∈ idsV u, H.next ≤ q) ?_ ?_
 ·refine w_loop (fun (q : Nat × Value) E' Y => E' 0 = .int .i64 (n : Int) ∧ E' 3 = q.2 ∧ E' 4 = .int .i64 (q.1 : Int) ∧ q.1 ≤ n ∧ VsAt Y 55 6 q.2 (csOf (List.replicate q.1 Ce.sp)) q.1 ∧ Mod [] H Y ∧ ∀ z ∈ idsV q.2, H.next ≤ z) (fun q => n - q.1) (0, .slice none 0 0)
   ⟨g0, g3, g4, Nat.zero_le _, VsAt.nil, Mod.refl, fun z hz => by simp [idsV] at hz⟩ ?_
  clear g0 g3 g4
  rintro ⟨k, u⟩ E Y ⟨g0, g3, g4, hk, vs, mY, hid⟩
  simp only at g3 g4 hk vs hid
  rw [show Y = ext Y [] from rfl]
  by_cases hkn : k = n
  ·have hc : decide ((k : Int) < (n : Int)) = false := by simp [hkn]
   simp (maxDischargeDepth := 6) only [g0, g4, hc, ruW, putL, Nat.reduceLeDiff, xF, ruU, entryE, Nat.reduceLT, Nat.reduceAdd, Nat.reduceMul, Nat.reduceEqDiff]
   rw [hkn] at vs
   exact joinR_normal ⟨u, by simp only [g3, ruU, entryE, Nat.reduceLT, Nat.reduceAdd, Nat.reduceMul, Nat.reduceEqDiff], vs, mY, hid⟩
  ·have hc : decide ((k : Int) < (n : Int)) = true := decide_eq_true (by omega)
   have okY := mY.ok hok
   obtain ⟨y, hy⟩ : ∃ y, Y.next = y := ⟨_, rfl⟩
   have hyb : Y.base ≤ y := hy ▸ okY
   obtain ⟨Y2, hY2⟩ : ∃ Y2, ext Y [⟨55, false, Ce.sp.cells⟩] = Y2 := ⟨_, rfl⟩
   have mY2 : Mod [] Y Y2 := hY2 ▸ Mod.ext okY
   have nY2 : Y2.next = y + 1 := by rw [← hY2, ext_next, hy]; rfl
   have b1 : bk Y2 (y + 0) = some ⟨55, false, Ce.sp.cells⟩ := by rw [← hY2, bk_at hy (by simp)]; rfl
   have vs2 := vs.of mY2.next (fun q hq => mY2.get q (vs.ne q hq).2 (by simp))
   have hcs : csOf (List.replicate (k + 1) Ce.sp) = csOf (List.replicate k Ce.sp) ++ Ce.sp.cells := by
    rw [List.replicate_succ']
    simp [csOf]
   obtain ⟨Z, hap, hvs, hmd, hzn, _⟩ := vs_app (P := Tryd.prog) (H := Y2) (st := 56) (xt := 56) (e := 55) (sz := 6) (by1 := 32) (z := Ce.zero.val) (n := y + 0) (off := 0) (cnt2 := 1) (cap := 1) (s := some 0) (x := Y2.next) (ws := Ce.sp.cells) (b := ⟨55, false, Ce.sp.cells⟩)
    (by kernel_rfl) (by kernel_rfl) (by kernel_rfl) (by kernel_rfl) rfl (by kernel_rfl) vs2 (rk_of b1) (by simp [Ce.cells]) rfl rfl (by decide) (by simp [small]; omega) rfl (scbL_append (csOf_sc _ _) rfl)
   have mZ := hmd (mY2.ok okY)
   rw [nY2] at hap hvs hzn
   rw [← hcs] at hvs
   simp (maxDischargeDepth := 6) only [g0, g3, g4, hc, hy, hyb, ruW, putL, Nat.reduceLeDiff, xF, ruU, entryE, Nat.reduceLT, Nat.reduceAdd, Nat.reduceMul, Nat.reduceEqDiff]
   simp only [Ce.cells, Ce.sp] at hY2
   rw [hY2]
   simp (maxDischargeDepth := 6) only [hap, g4, wrap_succ (show k < 1000000 by omega), ruW, putL, Nat.reduceLeDiff, xF, ruU, entryE, Nat.reduceLT, Nat.reduceAdd, Nat.reduceMul, Nat.reduceEqDiff]
   refine loopC_next ⟨(k + 1, .slice (some ⟨y + 1, 0, none⟩) (k + 1) (k + 1)), by simp only; omega, ?_, ?_, ?_, by simp only; omega, hvs, (mY.trans mY2).step mZ hok (fun q hq => .inr (hid q hq)), fun z hz => by simp only [idsV, List.mem_singleton] at hz; have := mY.next; omega⟩
   ·simp only [g0, ruU, entryE, Nat.reduceLT, Nat.reduceAdd, Nat.reduceMul, Nat.reduceEqDiff]
   ·simp only [ruU, entryE, Nat.reduceLT, Nat.reduceAdd, Nat.reduceMul, Nat.reduceEqDiff]
   ·simp only [ruU, entryE, Nat.reduceLT, Nat.reduceAdd, Nat.reduceMul, Nat.reduceEqDiff]
 ·rintro E Y ⟨u, g3, vs, mY, hid⟩
  obtain ⟨a, e⟩ := vs.len
  rw [show Y = ext Y [] from rfl]
  simp (maxDischargeDepth := 6) only [g3, Tryd.results47, ruW, putL, Nat.reduceLeDiff, xF, ruU, entryE, Nat.reduceLT, Nat.reduceAdd, Nat.reduceMul, Nat.reduceEqDiff]
  exact ⟨u, rfl, vs, mY, hid⟩
set_option maxHeartbeats 8000000 in
theorem refScroll_c (N : Nat) (H : AHeap) (p W : Nat) (v : Value) (rvs : List Value) (x : St) (o : Op) (up : Bool) (a : StAt 79 N H p v rvs x) (sl : Slc v) (hok : H.base ≤ H.next) (ok : x.Ok W) :
  CallA Tryd.prog 73 [.pointer (some ⟨p, 0, none⟩), .int .i64 o.row, .int .i64 o.col, .int .i64 o.n, .bool up] H (RefR 79 N p (x.roll W o up) H) := by
 obtain ⟨b, hbn⟩ : ∃ b, H.next = b := ⟨_, rfl⟩
 have hpl := a.lt
 rw [hbn] at hpl
 have hcell := a.cell
 simp only [St.cells] at hcell
 obtain ⟨d1, h1⟩ : ∃ d, decide (0 ≤ o.row) = d := ⟨_, rfl⟩
 obtain ⟨d2, h2⟩ : ∃ d, decide (o.row ≤ o.col) = d := ⟨_, rfl⟩
 obtain ⟨d3, h3⟩ : ∃ d, decide (o.col < x.grid.length) = d := ⟨_, rfl⟩
 obtain ⟨d4, h4⟩ : ∃ d, decide (1 ≤ o.n) = d := ⟨_, rfl⟩
 obtain ⟨d5, h5⟩ : ∃ d, decide (o.n ≤ o.col - o.row + 1) = d := ⟨_, rfl⟩
 have e1 : decide (o.row < 0) = !d1 := by rw [← h1, ← decide_not]; exact decide_eq_decide.2 (by omega)
 have e2 : decide (o.col < o.row) = !d2 := by rw [← h2, ← decide_not]; exact decide_eq_decide.2 (by omega)
 have e3 : decide ((x.grid.length : Int) ≤ o.col) = !d3 := by rw [← h3, ← decide_not]; exact decide_eq_decide.2 (by omega)
 have e4 : decide (o.n < 1) = !d4 := by rw [← h4, ← decide_not]; exact decide_eq_decide.2 (by omega)
 have e5 : decide (o.col - o.row + 1 < o.n) = !d5 := by rw [← h5, ← decide_not]; exact decide_eq_decide.2 (by omega)
 obtain ⟨mb, hb', ev⟩ := id sl
 have ehb : hb' = x.grid.length := by
  rcases a.own.at_ with ⟨h, _⟩ | ⟨_, _, _, _, h, _⟩
  ·have := ok.h1; rw [h] at this; simp at this
  ·rw [ev] at h; cases h; rfl
 subst ehb
 have hh := ok.h2
 unfold St.roll
 rw [h1, h2, h3, h4, h5]
 refine callE_fn mixed Tryd.func73 rfl Tryd.ntmps73 (Nat.le_of_ble_eq_true rfl) ?_
 rw [ev] at hcell
 by_cases hall : (d1 && d2 && d3 && d4 && d5) = true
 ·rw [if_pos hall]
  simp only [Bool.and_eq_true] at hall
  obtain ⟨⟨⟨⟨rfl, rfl⟩, rfl⟩, rfl⟩, rfl⟩ := hall
  have i1 := of_decide_eq_true h1
  have i2 := of_decide_eq_true h2
  have i3 := of_decide_eq_true h3
  have i4 := of_decide_eq_true h4
  have i5 := of_decide_eq_true h5
  have hw1 : IntKind.i64.wrap (o.col - o.row) = o.col - o.row := wrap_sm (by omega) (by omega)
  have hw2 : IntKind.i64.wrap (o.col - o.row + 1) = o.col - o.row + 1 := wrap_sm (by omega) (by omega)
  simp (maxDischargeDepth := 6) only [hbn, hpl, hcell, e1, e2, e3, e4, e5, hw1, hw2, ruW, putL, Nat.reduceLeDiff, xF, ruU, entryE, Nat.reduceLT, Nat.reduceAdd, Nat.reduceMul, Nat.reduceEqDiff]
  refine w_env fun E hE => ?_
  obtain ⟨top, htop⟩ : ∃ k : Nat, o.row = k := ⟨o.row.toNat, by omega⟩
  obtain ⟨bot, hbot⟩ : ∃ k : Nat, o.col = k := ⟨o.col.toNat, by omega⟩
  obtain ⟨n, hn'⟩ : ∃ n : Nat, o.n = n := ⟨o.n.toNat, by omega⟩
  have g0 : E 0 = .pointer (some ⟨p, 0, none⟩) := by rw [hE]; simp only [ruU, entryE, Nat.reduceLT, Nat.reduceAdd, Nat.reduceMul, Nat.reduceEqDiff]
  have g1 : E 1 = .int .i64 (top : Int) := by rw [hE]; simp only [htop, ruU, entryE, Nat.reduceLT, Nat.reduceAdd, Nat.reduceMul, Nat.reduceEqDiff]
  have g2 : E 2 = .int .i64 (bot : Int) := by rw [hE]; simp only [hbot, ruU, entryE, Nat.reduceLT, Nat.reduceAdd, Nat.reduceMul, Nat.reduceEqDiff]
  have g3 : E 3 = .int .i64 (n : Int) := by rw [hE]; simp only [hn', ruU, entryE, Nat.reduceLT, Nat.reduceAdd, Nat.reduceMul, Nat.reduceEqDiff]
  have g4 : E 4 = .bool up := by rw [hE]; simp only [ruU, entryE, Nat.reduceLT, Nat.reduceAdd, Nat.reduceMul, Nat.reduceEqDiff]
  have g11 : E 11 = .slice none 0 0 := by rw [hE]; simp only [ruU, entryE, Nat.reduceLT, Nat.reduceAdd, Nat.reduceMul, Nat.reduceEqDiff]
  have g12 : E 12 = .int .i64 ((0 : Nat) : Int) := by rw [hE]; (simp only [ruU, entryE, Nat.reduceLT, Nat.reduceAdd, Nat.reduceMul, Nat.reduceEqDiff] <;> rfl)
  clear hE
  refine blockC_meet (fun E' Y => Mod [] H Y ∧ E' 0 = .pointer (some ⟨p, 0, none⟩) ∧ E' 1 = .int .i64 (top : Int) ∧ E' 2 = .int .i64 (bot : Int) ∧ E' 3 = .int .i64 (n : Int) ∧ E' 4 = .bool up ∧ ∃ u fr, E' 11 = u ∧ Grow b Y u fr (List.replicate n (List.replicate W Ce.sp))) ?_ ?_
  ·refine w_loop (fun (q : Nat × Value × List Value) E' Y => Mod [] H Y ∧ E' 0 = .pointer (some ⟨p, 0, none⟩) ∧ E' 1 = .int .i64 (top : Int) ∧ E' 2 = .int .i64 (bot : Int) ∧ E' 3 = .int .i64 (n : Int) ∧ E' 4 = .bool up ∧ E' 11 = q.2.1 ∧ E' 12 = .int .i64 (q.1 : Int) ∧ q.1 ≤ n ∧ Grow b Y q.2.1 q.2.2 (List.replicate q.1 (List.replicate W Ce.sp))) (fun q => n - q.1) (0, .slice none 0 0, [])
    ⟨Mod.refl, g0, g1, g2, g3, g4, g11, g12, Nat.zero_le _, Grow.nil⟩ ?_
   clear g0 g1 g2 g3 g4 g11 g12
   rintro ⟨k, u, fr⟩ E Y ⟨mY, g0, g1, g2, g3, g4, g11, g12, hk, gr⟩
   simp only at g11 g12 hk gr
   rw [show Y = ext Y [] from rfl]
   by_cases hkn : k = n
   ·have hc : decide ((k : Int) < (n : Int)) = false := by simp [hkn]
    simp (maxDischargeDepth := 6) only [g3, g12, hc, ruW, putL, Nat.reduceLeDiff, xF, ruU, entryE, Nat.reduceLT, Nat.reduceAdd, Nat.reduceMul, Nat.reduceEqDiff]
    rw [hkn] at gr
    exact joinR_normal ⟨mY, by simp only [g0, ruU, entryE, Nat.reduceLT, Nat.reduceAdd, Nat.reduceMul, Nat.reduceEqDiff], by simp only [g1, ruU, entryE, Nat.reduceLT, Nat.reduceAdd, Nat.reduceMul, Nat.reduceEqDiff], by simp only [g2, ruU, entryE, Nat.reduceLT, Nat.reduceAdd, Nat.reduceMul, Nat.reduceEqDiff], by simp only [g3, ruU, entryE, Nat.reduceLT, Nat.reduceAdd, Nat.reduceMul, Nat.reduceEqDiff], by simp only [g4, ruU, entryE, Nat.reduceLT, Nat.reduceAdd, Nat.reduceMul, Nat.reduceEqDiff], u, fr, by simp only [g11, ruU, entryE, Nat.reduceLT, Nat.reduceAdd, Nat.reduceMul, Nat.reduceEqDiff], gr⟩
   ·have hc : decide ((k : Int) < (n : Int)) = true := decide_eq_true (by omega)
    have okY := mY.ok hok
    have aY := a.mod0 mY
    obtain ⟨y, hy⟩ : ∃ y, Y.next = y := ⟨_, rfl⟩
    have hpY : p < y := by have := mY.next; omega
    obtain ⟨m2, s1, c1, o1, n0, s0, c0, e6, hbm, hml, _, _, hrv0⟩ := aY.first ok
    rw [hy] at hml
    rw [ev] at e6
    cases e6
    have kp := aY.cell
    simp only [St.cells] at kp
    rw [ev] at kp
    have i0 := grid_ia (n := mb) (off := 0) (s := none) (cap := x.grid.length) (i := ((0 : Nat) : Int)) (len := x.grid.length) rfl (by have := ok.h1; omega)
    rw [show ((0 : Nat) : Int) = 0 from rfl] at i0
    have q0 : ldB Tryd.prog 56 (0 + 0) (some ⟨56, o1, rvs⟩) = some (.slice (some ⟨n0, 0, s0⟩) W c0) := grid_load (by rw [Nat.zero_add]; exact hrv0)
    rw [Nat.add_zero] at i0 q0
    simp (maxDischargeDepth := 6) only [g0, g3, g11, g12, hc, hy, hpY, kp, hml, hbm, i0, q0, ruW, putL, Nat.reduceLeDiff, xF, ruU, entryE, Nat.reduceLT, Nat.reduceAdd, Nat.reduceMul, Nat.reduceEqDiff]
    refine (blanks47_c (ext Y []) W ok.w2 okY).mono ?_
    rintro _ Y1 ⟨rv, rfl, vr, m1, hid1⟩
    replace m1 : Mod [] Y Y1 := m1
    replace hid1 : ∀ q ∈ idsV rv, y ≤ q := fun q hq => by have := hid1 q hq; rw [ext_next, hy] at this; simpa using this
    have okY1 := m1.ok okY
    obtain ⟨y1, hy1⟩ : ∃ y, Y1.next = y := ⟨_, rfl⟩
    have hyb : Y1.base ≤ y1 := hy1 ▸ okY1
    have hbY1 : b ≤ y := by have := mY.next; omega
    have hyy1 : y ≤ y1 := by have := m1.next; omega
    obtain ⟨qv1, qv2, ⟨hv0, _⟩ | ⟨hv0, nr, er, kbr, hnr⟩⟩ := vr
    ·have := ok.w1; omega
    have hsr : scb y1 rv = true := by rw [er]; exact blt_of (show nr < y1 by omega)
    have hone : one rv = true := by rw [er]; rfl
    have hnr0 := hid1 nr (by rw [er]; simp [idsV])
    obtain ⟨Y2, hY2⟩ : ∃ Y2, ext Y1 [⟨56, false, [rv]⟩] = Y2 := ⟨_, rfl⟩
    have mY2' : Mod [] Y1 Y2 := hY2 ▸ Mod.ext okY1
    have mY2 : Mod [] Y Y2 := m1.trans mY2'
    have nY2 : Y2.next = y1 + 1 := by rw [← hY2, ext_next, hy1]; rfl
    have b2 : bk Y2 (y1 + 0) = some ⟨56, false, [rv]⟩ := by rw [← hY2, bk_at hy1 (by simp)]; rfl
    have b1 : bk Y2 nr = some ⟨55, true, csOf (List.replicate W Ce.sp)⟩ := (mY2'.bk (by omega) (by simp)).trans kbr
    have hlr : (List.replicate k (List.replicate W Ce.sp)).length = k := List.length_replicate
    have vs := gr.at_.of (G := Y2) mY2.next (fun q hq => mY2.get q (gr.at_.ne q hq).2 (by simp))
    rw [hlr] at vs
    have hscr : scbL Y2.next (fr ++ [rv]) = true := scbL_append (scbL_mono mY2.next _ gr.sc) (by simp only [scbL, Bool.and_true]; exact scb_mono (by omega) _ hsr)
    obtain ⟨Z, hap, hvs, hmd, hzn, _⟩ := vs_app (P := Tryd.prog) (H := Y2) (st := 22) (xt := 22) (e := 56) (sz := 1) (by1 := 24) (z := .slice none 0 0) (n := y1 + 0) (off := 0) (cnt2 := 1) (cap := 1) (s := some 0) (x := Y2.next) (ws := [rv]) (b := ⟨56, false, [rv]⟩)
     uRows szCells byCells zr rfl (by kernel_rfl) vs (rk_of b2) (by simp) rfl (by simp [hone]) (by decide) (smallC (by omega)) rfl hscr
    have mZ := hmd (mY2.ok okY)
    rw [nY2] at hap hvs hzn
    have hbz : bk Z (y1 + 1) = some ⟨56, true, fr ++ [rv]⟩ := by
     obtain ⟨_, _, ⟨h0, _⟩ | ⟨_, n, e, hbn, _⟩⟩ := hvs
     ·omega
     ·cases e; exact hbn
    have gr2 := gr.push (rv := rv) (l := List.replicate W Ce.sp) (Y := Y2) (Z := Z) mY2 (by omega) ⟨nr, none, W, true, by rw [er, List.length_replicate], b1, by omega, by omega⟩ (fun q hq => by have := hid1 q hq; omega) hone mZ (by rw [nY2]; exact hbz) (by omega)
    rw [nY2, hlr, show List.replicate k (List.replicate W Ce.sp) ++ [List.replicate W Ce.sp] = List.replicate (k + 1) (List.replicate W Ce.sp) from (List.replicate_succ' ..).symm] at gr2
    rw [show Y1 = ext Y1 [] from rfl]
    rw [er] at hsr
    simp (maxDischargeDepth := 6) only [er, g0, g11, g12, hy1, hyb, hsr, ruW, putL, Nat.reduceLeDiff, xF, ruU, entryE, Nat.reduceLT, Nat.reduceAdd, Nat.reduceMul, Nat.reduceEqDiff]
    rw [er] at hY2
    rw [hY2]
    simp (maxDischargeDepth := 6) only [hap, g12, wrap_succ (show k < 1000000 by omega), ruW, putL, Nat.reduceLeDiff, xF, ruU, entryE, Nat.reduceLT, Nat.reduceAdd, Nat.reduceMul, Nat.reduceEqDiff]
    refine loopC_next ⟨(k + 1, .slice (some ⟨y1 + 1, 0, none⟩) (k + 1) (k + 1), fr ++ [rv]), by simp only; omega, (mY.trans mY2).step mZ hok (fun q hq => .inr (by have := (gr.apart q hq).1; omega)), ?_, ?_, ?_, ?_, ?_, ?_, ?_, by simp only; omega, gr2⟩
    ·simp only [g0, ruU, entryE, Nat.reduceLT, Nat.reduceAdd, Nat.reduceMul, Nat.reduceEqDiff]
    ·simp only [g1, ruU, entryE, Nat.reduceLT, Nat.reduceAdd, Nat.reduceMul, Nat.reduceEqDiff]
    ·simp only [g2, ruU, entryE, Nat.reduceLT, Nat.reduceAdd, Nat.reduceMul, Nat.reduceEqDiff]
    ·simp only [g3, ruU, entryE, Nat.reduceLT, Nat.reduceAdd, Nat.reduceMul, Nat.reduceEqDiff]
    ·simp only [g4, ruU, entryE, Nat.reduceLT, Nat.reduceAdd, Nat.reduceMul, Nat.reduceEqDiff]
    ·simp only [ruU, entryE, Nat.reduceLT, Nat.reduceAdd, Nat.reduceMul, Nat.reduceEqDiff]
    ·simp only [ruU, entryE, Nat.reduceLT, Nat.reduceAdd, Nat.reduceMul, Nat.reduceEqDiff]
  ·clear g0 g1 g2 g3 g4 g11 g12
   rintro E Y ⟨mY, g0, g1, g2, g3, g4, u, fr, g11, gr⟩
   have okY := mY.ok hok
   have aY := a.mod0 mY
   obtain ⟨y, hy⟩ : ∃ y, Y.next = y := ⟨_, rfl⟩
   have hby : b ≤ y := by have := mY.next; omega
   have hpY : p < y := by omega
   have kp := aY.cell
   simp only [St.cells] at kp
   rw [ev] at kp
   obtain ⟨om, hbm, hmy⟩ : ∃ om, bk Y mb = some ⟨56, om, rvs⟩ ∧ mb < y := by
    rcases aY.own.at_ with ⟨h, _⟩ | ⟨m, s, c, om, e, h1, _, h2, _⟩
    ·rw [h] at i3; simp at i3; omega
    ·rw [ev] at e; cases e; exact ⟨om, h1, by omega⟩
   have hmp : mb ≠ p := fun e => a.apart (List.mem_append_left _ (by rw [ev, e]; simp [idsV]))
   have hlr : rvs.length = x.grid.length := a.own.len
   have hvone : rvs.all one = true := List.all_eq_true.2 fun rv hrv => by
    obtain ⟨i, hi⟩ := List.getElem?_of_mem hrv
    obtain ⟨l, _, n, s, c, o', rfl, _⟩ := aY.own.lOf hi
    rfl
   have hvsc : scbL Y.next rvs = true := scbL_iff.2 fun rv hrv => by
    obtain ⟨i, hi⟩ := List.getElem?_of_mem hrv
    obtain ⟨l, _, n, s, c, o', rfl, _, _, h⟩ := aY.own.lOf hi
    exact blt_of h
   have hne : rvs ≠ [] := fun e => by rw [e] at hlr; simp at hlr; omega
   have PV : Part Y v rvs := ⟨some ⟨mb, 0, none⟩, x.grid.length, by rw [ev, hlr], by rw [ev]; exact blt_of (show mb < Y.next by omega), .inr ⟨Nat.le_of_eq hlr, mb, 0, none, _, rfl, .inl rfl, hbm, by omega, by simp, by simp⟩⟩
   obtain ⟨uA, slA, PA, iA⟩ := PV.slice hne (x := none) (y := some (.int .i64 (top : Int))) (lo := 0) (hi := top) rfl (by simp [bound]) (Nat.zero_le _) (by omega)
   obtain ⟨uB, slB, PB, iB⟩ := PV.slice hne (x := some (.int .i64 (top : Int))) (y := some (.int .i64 ((bot + 1 : Nat) : Int))) (lo := top) (hi := bot + 1) (by simp [bound]) (by simp only [bound]; rw [if_pos (by omega)]; simp) (by omega) (by omega)
   obtain ⟨uC, slC, PC, iC⟩ := PV.slice hne (x := some (.int .i64 ((bot + 1 : Nat) : Int))) (y := none) (lo := bot + 1) (hi := rvs.length) (by simp only [bound]; rw [if_pos (by omega)]; simp) rfl (by omega) (Nat.le_refl _)
   rw [List.drop_zero] at PA
   rw [List.take_length] at PC
   rw [show (rvs.take (bot + 1)).drop top = part rvs top bot from rfl] at PB
   have hwb : IntKind.i64.wrap ((bot : Int) + 1) = ((bot + 1 : Nat) : Int) := wrap_succ (by omega)
   rw [ev] at slA slB slC iA iB iC
   have iv : idsV (.slice (some ⟨mb, 0, none⟩) x.grid.length x.grid.length) = [mb] := rfl
   rw [iv] at iA iB iC
   have hgl : (List.replicate n (List.replicate W Ce.sp)).length = n := List.length_replicate
   obtain ⟨hu1, hu2, ⟨hu0, _⟩ | ⟨hu0, nu, eu, kbu, hnu⟩⟩ := gr.at_
   ·omega
   rw [hgl] at eu hu1
   subst eu
   have PU : Part Y (.slice (some ⟨nu, 0, none⟩) n n) fr := ⟨some ⟨nu, 0, none⟩, n, by rw [show fr.length = n by omega], blt_of hnu, .inr ⟨by omega, nu, 0, none, _, rfl, .inl rfl, kbu, hnu, by simp, by simp⟩⟩
   have hplen := part_len (g := rvs) (top := top) (bot := bot) (by omega)
   obtain ⟨lb, hlb⟩ : ∃ lb, (part rvs top bot).length = lb := ⟨_, rfl⟩
   have hfrl : fr.length = n := by omega
   have hsB := slB (ext Y []) (fun _ _ => rfl)
   have hpone : (part rvs top bot).all one = true := one_sub hvone fun z hz => List.mem_of_mem_take (List.mem_of_mem_drop hz)
   have hpsc : scbL Y.next (part rvs top bot) = true := scbL_sub hvsc fun z hz => List.mem_of_mem_take (List.mem_of_mem_drop hz)
   have hpne : part rvs top bot ≠ [] := fun e => by rw [e] at hplen; simp at hplen; omega
   have hmidl : (mid up (part rvs top bot) fr n).length = lb := by rw [mid_len (by omega) (by omega), hlb]
   rw [show Y = ext Y [] from rfl]
   simp (maxDischargeDepth := 6) only [g0, g1, g2, hy, hpY, kp, hwb, hsB, ruW, putL, Nat.reduceLeDiff, xF, ruU, entryE, Nat.reduceLT, Nat.reduceAdd, Nat.reduceMul, Nat.reduceEqDiff]
   rw [g4]
   refine condC_meet (fun E' Z => ∃ w, E' 14 = w ∧ VsAt Z 56 1 w (mid up (part rvs top bot) fr n) lb ∧ Mod [] Y Z ∧ (∀ q ∈ idsV w, y ≤ q) ∧ E' 0 = .pointer (some ⟨p, 0, none⟩) ∧ E' 1 = .int .i64 (top : Int) ∧ E' 2 = .int .i64 (bot : Int)) ?_ ?_
   ·cases up with
    | true =>
     obtain ⟨uD, slD, PD, iD⟩ := PB.slice hpne (x := some (.int .i64 (n : Int))) (y := none) (lo := n) (hi := (part rvs top bot).length) (by simp [bound]) rfl (by omega) (Nat.le_refl _)
     rw [List.take_length] at PD
     have hsD := slD (ext Y []) (fun _ _ => rfl)
     obtain ⟨w1, G1, ha1, hv1, hm1, hi1⟩ := vs_appP (H := ext Y []) VsAt.nil PD okY (one_sub hpone fun z hz => List.mem_of_mem_drop hz) (scbL_sub hpsc fun z hz => List.mem_of_mem_drop hz) rfl (by simp only [List.length_drop]; omega)
     replace hm1 : Mod [] Y G1 := hm1
     have hi1' : ∀ q ∈ idsV w1, y ≤ q := fun q hq => by
      rcases hi1 q hq with h | h
      ·simp [idsV] at h
      ·rw [ext_next, hy] at h; simpa using h
     obtain ⟨w2, G2, ha2, hv2, hm2, hi2⟩ := vs_appP (H := G1) hv1 (PU.of hm1.next fun q hq => hm1.get q (by simp only [idsV, List.mem_singleton] at hq; omega) (by simp)) (hm1.ok okY) hu2 (scbL_mono hm1.next _ gr.sc) (scbL_sub (scbL_mono hm1.next _ hpsc) fun z hz => List.mem_of_mem_drop (by simpa using hz)) (by simp only [List.length_drop]; omega)
     obtain ⟨aw1, ew1⟩ := hv1.len
     simp (maxDischargeDepth := 6) only [g3, g11, hsD, ha1, ha2, ruW, putL, Nat.reduceLeDiff, xF, ruU, entryE, Nat.reduceLT, Nat.reduceAdd, Nat.reduceMul, Nat.reduceEqDiff]
     refine joinR_normal ⟨w2, by simp only [ruU, entryE, Nat.reduceLT, Nat.reduceAdd, Nat.reduceMul, Nat.reduceEqDiff], ?_, hm1.step hm2 okY (fun q hq => .inr (by have := hi1' q hq; omega)), fun q hq => ?_, by simp only [g0, ruU, entryE, Nat.reduceLT, Nat.reduceAdd, Nat.reduceMul, Nat.reduceEqDiff], by simp only [g1, ruU, entryE, Nat.reduceLT, Nat.reduceAdd, Nat.reduceMul, Nat.reduceEqDiff], by simp only [g2, ruU, entryE, Nat.reduceLT, Nat.reduceAdd, Nat.reduceMul, Nat.reduceEqDiff]⟩
     ·rw [List.nil_append] at hv2
      have : 0 + ((part rvs top bot).drop n).length + fr.length = lb := by simp only [List.length_drop]; omega
      rw [this] at hv2
      exact hv2
     ·rcases hi2 q hq with h | h
      ·exact hi1' q h
      ·have := hm1.next; omega
    | false =>
     obtain ⟨uD, slD, PD, iD⟩ := PB.slice hpne (x := none) (y := some (.int .i64 ((lb - n : Nat) : Int))) (lo := 0) (hi := lb - n) rfl (by simp only [bound]; rw [if_pos (by omega)]; simp) (Nat.zero_le _) (by omega)
     rw [List.drop_zero] at PD
     have hwl : IntKind.i64.wrap ((lb : Int) - (n : Int)) = ((lb - n : Nat) : Int) := (wrap_sm (by omega) (by omega)).trans (by omega)
     obtain ⟨aB, cB, eB⟩ := PB.len
     rw [hlb] at eB
     have iBD : ∀ q ∈ idsV uD, q = mb := fun q hq => by have := iB q (iD q hq); simpa using this
     simp (maxDischargeDepth := 6) only [ruW, putL, Nat.reduceLeDiff, xF, ruU, entryE, Nat.reduceLT, Nat.reduceAdd, Nat.reduceMul, Nat.reduceEqDiff]
     refine w_drawB [(9, 2), (9, 8), (10, 9), (10, 8), (10, 2)] [] (by kernel_rfl) (by kernel_rfl) rfl fun ops anc hA hG => ?_
     simp only [all2_cons] at hA
     simp (maxDischargeDepth := 6) only [g3, g11, eB, hwl, wd_slice, hA, ruD, ruW, putL, Nat.reduceLeDiff, xF, ruU, entryE, Nat.reduceLT, Nat.reduceAdd, Nat.reduceMul, Nat.reduceEqDiff]
     rw [wd_app (by simp only [ruU, entryE, Nat.reduceLT, Nat.reduceAdd, Nat.reduceMul, Nat.reduceEqDiff])]
     refine genV_append (Z := ext Y []) (v := nilS) (vs := []) (cnt := 0) (u := .slice (some ⟨nu, 0, none⟩) n n) (L := fr) VsAt.nil PU (fun q hq => by simp only [idsV, List.mem_singleton] at hq; rw [hq]; exact ⟨hnu, bk_ne kbu⟩) okY hu2 gr.sc rfl (by omega) (Nat.le_of_ble_eq_true rfl) rfl (by simp only [ruU, entryE, Nat.reduceLT, Nat.reduceAdd, Nat.reduceMul, Nat.reduceEqDiff]) (by simp) ?_
     intro v1 Z1 D1 m1 hv1 hi1 hD1
     replace m1 : Mod [] Y Z1 := m1
     have hi1' : ∀ q ∈ idsV v1, y ≤ q := fun q hq => by
      rcases hi1 q hq with h | h
      ·simp [idsV] at h
      ·rw [ext_next, hy] at h; simpa using h
     have okZ1 := m1.ok okY
     have gZ1 : Z1.get mb = Y.get mb := m1.get mb (by omega) (by simp)
     have hyz : y ≤ Z1.next := by have := m1.next; omega
     rw [show Z1 = ext Z1 [] from rfl]
     simp (maxDischargeDepth := 6) only [g3, g11, eB, hwl, wd_slice, hA, ruD, ruW, putL, Nat.reduceLeDiff, xF, ruU, entryE, Nat.reduceLT, Nat.reduceAdd, Nat.reduceMul, Nat.reduceEqDiff]
     have hB' : ∀ q ∈ idsV (Value.slice aB lb cB), q < Y.next + 0 ∨ Z1.next + 0 ≤ q := fun q hq => .inl (by rw [← eB] at hq; have := iB q hq; simp only [List.mem_singleton] at this; omega)
     refine ⟨fun _ => .inr hB', fun _ => .inr hB', ?_⟩
     refine genV_sl (v := uD) [mb] rfl rfl rfl rfl (Nat.le_of_ble_eq_true rfl) (fun q hq => by rw [List.mem_singleton.1 hq]; show Z1.get mb ≠ none; rw [gZ1]; exact bk_ne hbm) (fun G hG => by simp only [bnds_none, bnds_some, ruU, entryE, Nat.reduceLT, Nat.reduceAdd, Nat.reduceMul, Nat.reduceEqDiff]; rw [← eB]; exact slD G (fun q hq => by have := iB q hq; simp only [List.mem_singleton] at this; rw [this, hG mb (by simp)]; exact gZ1)) ?_ ?_
     ·intro r hr
      simp only [List.mem_cons, List.not_mem_nil, or_false] at hr
      subst hr
      refine .inr ⟨fun q hq => ?_, fun q _ => by simp, fun _ => ⟨fun q hq => .inl ?_, fun q hq => .inl ?_⟩⟩
      ·have := hD1 q hq; simp [idsV] at this
      ·simp only [List.mem_singleton] at hq; show q < Y.next + 0; omega
      ·simp only [List.flatMap_nil, List.append_nil] at hq; have := iBD q hq; show q < Y.next + 0; omega
     simp (maxDischargeDepth := 6) only [g3, g11, hwl, hA, ruD, ruW, putL, Nat.reduceLeDiff, xF, ruU, entryE, Nat.reduceLT, Nat.reduceAdd, Nat.reduceMul, Nat.reduceEqDiff]
     rw [wd_app (by simp only [ruU, entryE, Nat.reduceLT, Nat.reduceAdd, Nat.reduceMul, Nat.reduceEqDiff])]
     refine genV_append (Z := ext Z1 []) (v := v1) (vs := [] ++ fr) (cnt := 0 + fr.length) (u := uD) (L := (part rvs top bot).take (lb - n)) hv1 (PD.of m1.next fun q hq => by rw [iBD q hq]; exact gZ1) (fun q hq => by rw [iBD q hq]; exact ⟨by rw [ext_next]; simp; omega, by show Z1.get mb ≠ none; rw [gZ1]; exact bk_ne hbm⟩) okZ1 (one_sub hpone fun z hz => List.mem_of_mem_take hz) (scbL_mono m1.next _ (scbL_sub hpsc fun z hz => List.mem_of_mem_take hz)) (scbL_mono m1.next _ gr.sc) (by simp only [List.length_take]; omega) (Nat.le_of_ble_eq_true rfl) rfl (by simp only [ruU, entryE, Nat.reduceLT, Nat.reduceAdd, Nat.reduceMul, Nat.reduceEqDiff]) (by simp only [all2_cons, all2_nil, hA, and_true]) ?_
     intro v2 Z2 D2 m2 hv2 hi2 hD2
     rw [show Z2 = ext Z2 [] from rfl]
     obtain ⟨av2, ev2⟩ := hv2.len
     simp (maxDischargeDepth := 6) only [hA, ruD, ruW, putL, Nat.reduceLeDiff, xF, ruU, entryE, Nat.reduceLT, Nat.reduceAdd, Nat.reduceMul, Nat.reduceEqDiff]
     refine joinR_normal ⟨v2, by simp only [ruU, entryE, Nat.reduceLT, Nat.reduceAdd, Nat.reduceMul, Nat.reduceEqDiff], ?_, m1.step m2 okY (fun q hq => .inr (by have := hi1' q hq; omega)), fun q hq => ?_, by simp only [g0, ruU, entryE, Nat.reduceLT, Nat.reduceAdd, Nat.reduceMul, Nat.reduceEqDiff], by simp only [g1, ruU, entryE, Nat.reduceLT, Nat.reduceAdd, Nat.reduceMul, Nat.reduceEqDiff], by simp only [g2, ruU, entryE, Nat.reduceLT, Nat.reduceAdd, Nat.reduceMul, Nat.reduceEqDiff]⟩
     ·rw [List.nil_append] at hv2
      have : 0 + fr.length + ((part rvs top bot).take (lb - n)).length = lb := by simp only [List.length_take]; omega
      rw [this] at hv2
      rw [show mid false (part rvs top bot) fr n = fr ++ (part rvs top bot).take (lb - n) by rw [mid, hlb]; rfl]
      exact hv2
     ·rcases hi2 q hq with h | h
      ·exact hi1' q h
      ·rw [ext_next] at h; simp at h; omega
   ·rintro E2 Z ⟨w, k14, hvw, mZ, hiw, k0, k1, k2⟩
    rw [show Z = ext Z [] from rfl]
    have okZ := mZ.ok okY
    simp (maxDischargeDepth := 6) only [ruW, putL, Nat.reduceLeDiff, xF, ruU, entryE, Nat.reduceLT, Nat.reduceAdd, Nat.reduceMul, Nat.reduceEqDiff]
    have hyz : y ≤ Z.next := by have := mZ.next; omega
    have gmb : ∀ {Q : AHeap}, Mod [] Y Q → Q.get mb = Y.get mb := fun m => m.get mb (by omega) (by simp)
    have hcat : ((rvs.take top) ++ mid up (part rvs top bot) fr n).length ≤ 1000 := by simp only [List.length_append, List.length_take]; omega
    have hmsc : scbL Y.next (mid up (part rvs top bot) fr n) = true := scbL_iff.2 fun z hz => by
     rcases mid_mem hz with h | h
     ·exact scbL_iff.1 hpsc z h
     ·exact scbL_iff.1 gr.sc z h
    have hAsc : scbL Y.next (rvs.take top) = true := scbL_sub hvsc fun z hz => List.mem_of_mem_take hz
    have kz : bk Z p = _ := (mZ.bk (by omega) (by simp)).trans kp
    obtain ⟨zn, hzn⟩ : ∃ z, Z.next = z := ⟨_, rfl⟩
    have hpz : p < zn := by omega
    refine w_drawB [(8, 7), (8, 5), (10, 8), (10, 7), (10, 5), (20, 19), (20, 18), (20, 15), (20, 10), (20, 8), (20, 7), (20, 5), (19, 18), (19, 15), (19, 10), (19, 8), (19, 7), (19, 5)] [] (by kernel_rfl) (by kernel_rfl) rfl fun ops anc hA hG => ?_
    simp only [all2_cons] at hA
    simp (maxDischargeDepth := 6) only [k0, k1, k2, hzn, hpz, kz, wd_slice, hA, ruD, ruW, putL, Nat.reduceLeDiff, xF, ruU, entryE, Nat.reduceLT, Nat.reduceAdd, Nat.reduceMul, Nat.reduceEqDiff]
    refine genV_sl (v := uA) [mb] rfl rfl rfl rfl (Nat.le_of_ble_eq_true rfl) (fun q hq => by rw [List.mem_singleton.1 hq]; show Z.get mb ≠ none; rw [gmb mZ]; exact bk_ne hbm) (fun G hG => by simp only [bnds_none, bnds_some, ruU, entryE, Nat.reduceLT, Nat.reduceAdd, Nat.reduceMul, Nat.reduceEqDiff]; exact slA G (fun q hq => by simp only [idsV, List.mem_singleton] at hq; rw [hq, hG mb (by simp)]; exact gmb mZ)) (by simp [Meets]) ?_
    simp (maxDischargeDepth := 6) only [k0, k1, k2, hzn, hpz, kz, hA, ruD, ruW, putL, Nat.reduceLeDiff, xF, ruU, entryE, Nat.reduceLT, Nat.reduceAdd, Nat.reduceMul, Nat.reduceEqDiff]
    rw [wd_app (by simp only [ruU, entryE, Nat.reduceLT, Nat.reduceAdd, Nat.reduceMul, Nat.reduceEqDiff])]
    refine genV_append (Z := ext Z []) (v := nilS) (vs := []) (cnt := 0) (u := uA) (L := rvs.take top) VsAt.nil (PA.of mZ.next fun q hq => by rw [List.mem_singleton.1 (iA q hq)]; exact gmb mZ) (fun q hq => by rw [List.mem_singleton.1 (iA q hq)]; exact ⟨by show mb < Z.next; omega, by show Z.get mb ≠ none; rw [gmb mZ]; exact bk_ne hbm⟩) okZ (one_sub hvone fun z hz => List.mem_of_mem_take hz) (scbL_mono mZ.next _ hAsc) rfl (by simp only [List.length_take]; omega) (Nat.le_of_ble_eq_true rfl) rfl (by simp only [ruU, entryE, Nat.reduceLT, Nat.reduceAdd, Nat.reduceMul, Nat.reduceEqDiff]) (by simp only [all2_cons, all2_nil, hA, and_true]) ?_
    intro w1 Z1 D1 m1 hv1 hi1 hD1
    replace m1 : Mod [] Z Z1 := m1
    replace hi1 : ∀ q ∈ idsV w1, zn ≤ q := fun q hq => by
     rcases hi1 q hq with h | h
     ·simp [idsV] at h
     ·rw [ext_next, hzn] at h; simpa using h
    have okZ1 := m1.ok okZ
    have mYZ1 : Mod [] Y Z1 := mZ.trans m1
    have hz1 : zn ≤ Z1.next := by have := m1.next; omega
    have hv1' := hv1
    rw [List.nil_append, show 0 + (rvs.take top).length = top by simp only [List.length_take]; omega] at hv1'
    obtain ⟨aw, ew⟩ := hvw.len
    have hwn : ∀ q ∈ idsV w, q < zn ∧ Z.get q ≠ none := fun q hq => by have := hvw.ne q hq; exact ⟨by omega, this.1⟩
    rw [show Z1 = ext Z1 [] from rfl]
    simp (maxDischargeDepth := 6) only [k0, k1, k2, k14, hA, ruD, ruW, putL, Nat.reduceLeDiff, xF, ruU, entryE, Nat.reduceLT, Nat.reduceAdd, Nat.reduceMul, Nat.reduceEqDiff]
    refine ⟨fun _ => .inr fun q hq => .inl (by have := (hwn q hq).1; omega), ?_⟩
    rw [wd_app (by simp only [ruU, entryE, Nat.reduceLT, Nat.reduceAdd, Nat.reduceMul, Nat.reduceEqDiff])]
    have PW : Part Z w (mid up (part rvs top bot) fr n) := by
     obtain ⟨_, _, ⟨h0, _⟩ | ⟨h0, nw, e, hb, hlt⟩⟩ := hvw
     ·omega
     ·exact ⟨some ⟨nw, 0, none⟩, lb, by rw [e, hmidl], by rw [e]; exact blt_of hlt, .inr ⟨by omega, nw, 0, none, _, rfl, .inl rfl, hb, hlt, by simp, by simp⟩⟩
    refine genV_append (Z := ext Z1 []) (v := w1) (vs := rvs.take top) (cnt := top) (u := w) (L := mid up (part rvs top bot) fr n) hv1' (PW.of m1.next fun q hq => m1.get q (by have := (hwn q hq).1; omega) (by simp)) (fun q hq => ⟨by show q < Z1.next; have := (hwn q hq).1; omega, by show Z1.get q ≠ none; rw [m1.get q (by have := (hwn q hq).1; omega) (by simp)]; exact (hwn q hq).2⟩) okZ1 hvw.2.1 (scbL_mono mYZ1.next _ hmsc) (scbL_mono mYZ1.next _ hAsc) (by omega) (Nat.le_of_ble_eq_true rfl) rfl (by simp only [ruU, entryE, Nat.reduceLT, Nat.reduceAdd, Nat.reduceMul, Nat.reduceEqDiff]) (by simp only [all2_cons, all2_nil, hA, and_true]) ?_
    intro w2 Z2 D2 m2 hv2 hi2 hD2
    replace m2 : Mod (idsV w1) Z1 Z2 := m2
    replace hi2 : ∀ q ∈ idsV w2, zn ≤ q := fun q hq => by
     rcases hi2 q hq with h | h
     ·exact hi1 q h
     ·rw [ext_next] at h; simp at h; omega
    have mYZ2 : Mod [] Y Z2 := mYZ1.step m2 okY (fun q hq => .inr (by have := hi1 q hq; omega))
    have okZ2 := mYZ2.ok okY
    have hz2 : Z1.next ≤ Z2.next := m2.next
    have kz2 : bk Z2 p = _ := (mYZ2.bk (by omega) (by simp)).trans kp
    obtain ⟨z2, hz2n⟩ : ∃ z, Z2.next = z := ⟨_, rfl⟩
    have hpz2 : p < z2 := by omega
    have hD1' : ∀ q, q ∉ D1 := fun q hq => by have := hD1 q hq; simp [idsV] at this
    have hD2' : ∀ q ∈ D2, zn ≤ q := fun q hq => hi1 q (hD2 q hq)
    rw [show Z2 = ext Z2 [] from rfl]
    simp (maxDischargeDepth := 6) only [k0, k1, k2, hz2n, hpz2, kz2, hwb, wd_slice, hA, ruD, ruW, putL, Nat.reduceLeDiff, xF, ruU, entryE, Nat.reduceLT, Nat.reduceAdd, Nat.reduceMul, Nat.reduceEqDiff]
    refine ⟨⟨fun _ => .inr (.inl (by omega)), fun _ => .inr (.inl (by omega))⟩, ⟨fun _ => .inr (.inl (by omega)), fun _ => .inr (.inl (by omega))⟩, ⟨fun _ => .inr (.inl (by omega)), fun _ => .inr (.inl (by omega))⟩, ⟨fun _ => .inr (.inl (by omega)), fun _ => .inr (.inl (by omega))⟩, ⟨.inr ⟨fun q hq e => by have := hD2' q hq; omega, fun _ => ⟨.inl (by omega), fun q hq => .inl (by simp only [idsV, List.mem_singleton] at hq; omega)⟩⟩, .inr ⟨fun q hq e => hD1' q hq, fun _ => ⟨.inl (by omega), fun q hq => .inl (by simp only [idsV, List.mem_singleton] at hq; omega)⟩⟩⟩, ?_⟩
    refine genV_sl (v := uC) [mb] rfl rfl rfl rfl (Nat.le_of_ble_eq_true rfl) (fun q hq => by rw [List.mem_singleton.1 hq]; show Z2.get mb ≠ none; rw [gmb mYZ2]; exact bk_ne hbm) (fun G hG => by simp only [bnds_none, bnds_some, ruU, entryE, Nat.reduceLT, Nat.reduceAdd, Nat.reduceMul, Nat.reduceEqDiff]; exact slC G (fun q hq => by simp only [idsV, List.mem_singleton] at hq; rw [hq, hG mb (by simp)]; exact gmb mYZ2)) ?_ ?_
    ·have hcm : ∀ q, q ∈ idsV uC ++ ([] : List Bl).flatMap (fun x => idsL x.l) → q = mb := fun q hq => by
      simp only [List.flatMap_nil, List.append_nil] at hq
      exact List.mem_singleton.1 (iC q hq)
     intro r hr
     simp only [List.mem_cons, List.not_mem_nil, or_false] at hr
     rcases hr with rfl | rfl | rfl | rfl | rfl
     ·exact .inr ⟨fun q hq => by simp at hq, fun q _ => by simp, fun h => absurd h (Nat.lt_irrefl _)⟩
     ·refine .inr ⟨fun q hq hm => ?_, fun q _ => by simp, fun _ => ⟨fun q hq => .inl ?_, fun q hq => .inl ?_⟩⟩
      ·have := hD2' q hq; simp only [List.mem_singleton] at hm; omega
      ·simp only [List.mem_singleton] at hq; show q < Z1.next + 0; omega
      ·have := hcm q hq; show q < Z1.next + 0; omega
     ·refine .inr ⟨fun q hq hm => hD1' q hq, fun q _ => by simp, fun _ => ⟨fun q hq => .inl ?_, fun q hq => .inl ?_⟩⟩
      ·simp only [List.mem_singleton] at hq; show q < Z.next + 0; omega
      ·have := hcm q hq; show q < Z.next + 0; omega
     ·exact .inr ⟨fun q hq => by simp at hq, fun q _ => by simp, fun h => absurd h (Nat.lt_irrefl _)⟩
     ·exact .inr ⟨fun q hq => by simp at hq, fun q _ => by simp, fun h => absurd h (Nat.lt_irrefl _)⟩
    simp (maxDischargeDepth := 6) only [hz2n, hA, ruD, ruW, putL, Nat.reduceLeDiff, xF, ruU, entryE, Nat.reduceLT, Nat.reduceAdd, Nat.reduceMul, Nat.reduceEqDiff]
    rw [wd_app (by simp only [ruU, entryE, Nat.reduceLT, Nat.reduceAdd, Nat.reduceMul, Nat.reduceEqDiff])]
    refine genV_append (Z := ext Z2 []) (v := w2) (u := uC) (L := rvs.drop (bot + 1)) hv2 (PC.of mYZ2.next fun q hq => by rw [List.mem_singleton.1 (iC q hq)]; exact gmb mYZ2) (fun q hq => by rw [List.mem_singleton.1 (iC q hq)]; exact ⟨by show mb < Z2.next; omega, by show Z2.get mb ≠ none; rw [gmb mYZ2]; exact bk_ne hbm⟩) okZ2 (one_sub hvone fun z hz => List.mem_of_mem_drop hz) (scbL_mono mYZ2.next _ (scbL_sub hvsc fun z hz => List.mem_of_mem_drop hz)) (scbL_mono mYZ2.next _ (scbL_append hAsc hmsc)) (by simp only [List.length_drop]; omega) (Nat.le_of_ble_eq_true rfl) rfl (by simp only [ruU, entryE, Nat.reduceLT, Nat.reduceAdd, Nat.reduceMul, Nat.reduceEqDiff]) (by simp only [all2_cons, all2_nil, hA, and_true]) ?_
    intro w3 Z3 D3 m3 hv3 hi3 hD3
    replace m3 : Mod (idsV w2) Z2 Z3 := m3
    replace hi3 : ∀ q ∈ idsV w3, zn ≤ q := fun q hq => by
     rcases hi3 q hq with h | h
     ·exact hi2 q h
     ·rw [ext_next] at h; simp at h; omega
    have mYZ3 : Mod [] Y Z3 := mYZ2.step m3 okY (fun q hq => .inr (by have := hi2 q hq; omega))
    have okZ3 := mYZ3.ok okY
    have hglu : rvs.take top ++ mid up (part rvs top bot) fr n ++ rvs.drop (bot + 1) = glue up rvs fr top bot n := rfl
    have hgln : (glue up rvs fr top bot n).length = x.grid.length := by rw [glue_len (by omega) (by omega) (by omega) (by omega), hlr]
    obtain ⟨y1, y2, ⟨y0, _⟩ | ⟨y0, nw3, ew3, kw3, hnw3⟩⟩ := hv3
    ·omega
    rw [hglu, Nat.mul_one] at y1
    rw [hglu] at kw3
    have hcnt : top + (mid up (part rvs top bot) fr n).length + (rvs.drop (bot + 1)).length = x.grid.length := by rw [← y1, hgln]
    rw [hcnt] at ew3
    subst ew3
    have hn3 := hi3 nw3 (by simp [idsV])
    have kz3 : bk Z3 p = _ := (mYZ3.bk (by omega) (by simp)).trans kp
    obtain ⟨z3, hz3n⟩ : ∃ z, Z3.next = z := ⟨_, rfl⟩
    have hz23 : z2 ≤ z3 := by have := m3.next; omega
    rw [hz3n] at hnw3
    have hpz3 : p < z3 := by omega
    rw [show Z3 = ext Z3 [] from rfl]
    simp (maxDischargeDepth := 6) only [k0, hz3n, hpz3, kz3, hnw3, hA, Tryd.results73, ruD, ruW, putL, Nat.reduceLeDiff, xF, ruU, entryE, Nat.reduceLT, Nat.reduceAdd, Nat.reduceMul, Nat.reduceEqDiff]
    have og := a.own.glue (gr := hbn.symm ▸ gr) (m := mY) (m2 := mYZ3.mono (by simp)) (N := N) (up := up) (top := top) (bot := bot) (n := n) (y := nw3) (by have := a.lo; omega) (by omega) (by omega) (by omega) hgl kw3 (by omega) (by omega)
    have mW : Mod [p] Z3 (uw Z3 p 0 [Value.slice (some ⟨nw3, 0, none⟩) x.grid.length x.grid.length]) := Mod.uw (by simp)
    have kwp : bk (uw Z3 p 0 [Value.slice (some ⟨nw3, 0, none⟩) x.grid.length x.grid.length]) p = some ⟨79, false, St.cells { x with grid := glue up x.grid (List.replicate n (List.replicate W Ce.sp)) top bot n } (.slice (some ⟨nw3, 0, none⟩) x.grid.length x.grid.length)⟩ := by
     rw [bk_uw_eq, kz3]; rfl
    have hids : ∀ q ∈ (glue up rvs fr top bot n).flatMap idsV, q ≠ p ∧ q < y := fun q hq => by
     obtain ⟨rv, h4, h5⟩ := List.mem_flatMap.1 hq
     rcases glue_mem h4 with h6 | h6
     ·have h7 := List.mem_flatMap.2 ⟨rv, h6, h5⟩
      have := (aY.own.ids q h7).2.1
      exact ⟨fun e => a.apart (List.mem_append_right _ (e ▸ h7)), by omega⟩
     ·have h7 := gr.ids q (List.mem_flatMap.2 ⟨rv, h6, h5⟩)
      exact ⟨by omega, by omega⟩
    rw [htop, hbot, hn', Int.toNat_natCast, Int.toNat_natCast, Int.toNat_natCast, glue_roll]
    refine ⟨(ModN.of (Ws := []) (mY.trans mYZ3) (by simp)).trans (ModN.of mW (aY.mod0 mYZ3).pN), rfl, fun y' hy' => ?_⟩
    obtain rfl := Option.some.inj hy'
    refine ⟨.slice (some ⟨nw3, 0, none⟩) x.grid.length x.grid.length, glue up rvs fr top bot n, ⟨_, _, rfl⟩, kwp, og.of mW.next (fun q hq1 hq2 hq3 => mW.get q hq2 ?_), ?_, by rw [ext_next, uw_next]; simp; omega, a.lo⟩
    ·simp only [List.mem_singleton]
     rcases List.mem_append.1 hq3 with h | h
     ·simp only [idsV, List.mem_singleton] at h; omega
     ·exact (hids q h).1
    ·intro h
     rcases List.mem_append.1 h with h | h
     ·simp only [idsV, List.mem_singleton] at h; omega
     ·exact (hids p h).1 rfl
 ·rw [if_neg hall]
  have fin : RefR 79 N p none H (.ok (.bool false)) (ext H []) := ⟨ModN.refl, rfl, fun y h => by cases h⟩
  have hs : d1 = false ∨ (d1 = true ∧ d2 = false) ∨ (d1 = true ∧ d2 = true ∧ d3 = false) ∨ (d1 = true ∧ d2 = true ∧ d3 = true ∧ d4 = false) ∨ (d1 = true ∧ d2 = true ∧ d3 = true ∧ d4 = true ∧ d5 = false) := by
   cases d1 <;> cases d2 <;> cases d3 <;> cases d4 <;> cases d5 <;> simp_all
  rcases hs with rfl | ⟨rfl, rfl⟩ | ⟨rfl, rfl, rfl⟩ | ⟨rfl, rfl, rfl, rfl⟩ | ⟨rfl, rfl, rfl, rfl, rfl⟩
  ·simp (maxDischargeDepth := 6) only [e1, Tryd.results73, ruW, putL, Nat.reduceLeDiff, xF, ruU, entryE, Nat.reduceLT, Nat.reduceAdd, Nat.reduceMul, Nat.reduceEqDiff]
   exact fin
  ·simp (maxDischargeDepth := 6) only [e1, e2, Tryd.results73, ruW, putL, Nat.reduceLeDiff, xF, ruU, entryE, Nat.reduceLT, Nat.reduceAdd, Nat.reduceMul, Nat.reduceEqDiff]
   exact fin
  ·simp (maxDischargeDepth := 6) only [hbn, hpl, hcell, e1, e2, e3, Tryd.results73, ruW, putL, Nat.reduceLeDiff, xF, ruU, entryE, Nat.reduceLT, Nat.reduceAdd, Nat.reduceMul, Nat.reduceEqDiff]
   exact fin
  ·simp (maxDischargeDepth := 6) only [hbn, hpl, hcell, e1, e2, e3, e4, Tryd.results73, ruW, putL, Nat.reduceLeDiff, xF, ruU, entryE, Nat.reduceLT, Nat.reduceAdd, Nat.reduceMul, Nat.reduceEqDiff]
   exact fin
  ·have i1 := of_decide_eq_true h1
   have i2 := of_decide_eq_true h2
   have i3 := of_decide_eq_true h3
   have hw1 : IntKind.i64.wrap (o.col - o.row) = o.col - o.row := wrap_sm (by omega) (by omega)
   have hw2 : IntKind.i64.wrap (o.col - o.row + 1) = o.col - o.row + 1 := wrap_sm (by omega) (by omega)
   simp (maxDischargeDepth := 6) only [hbn, hpl, hcell, e1, e2, e3, e4, e5, hw1, hw2, Tryd.results73, ruW, putL, Nat.reduceLeDiff, xF, ruU, entryE, Nat.reduceLT, Nat.reduceAdd, Nat.reduceMul, Nat.reduceEqDiff]
   exact fin
end Go.Proofs.YtaojjfebkldmnaaDoor
/- What the reference's desk does with an operation. -/
namespace Go.Proofs.YtaojjfebkldmnaaDoor
open Go.Ax
def St.move (W : Nat) (x : St) (o : Op) : Option St := if (decide (0 ≤ o.row) && decide (o.row < x.grid.length) && decide (0 ≤ o.col) && decide (o.col < W)) = true then some { x with row := o.row, col := o.col } else none
def St.look (x : St) (o : Op) : Option St := if colr o.look = true then some { x with pen := o.look } else none
theorem does_eq (W : Nat) (r : List UInt8 → Option (List Int)) (x : St) (o : Op) : x.does W r o =
  if o.kind = 1 then x.move W o else if o.kind = 2 then x.look o else if o.kind = 3 then x.text W (r o.text.data.toList) else if o.kind = 4 then x.clear W else if o.kind = 5 then x.roll W o true else if o.kind = 6 then x.roll W o false
  else if o.kind = 7 then some { x with shown := true } else if o.kind = 8 then some { x with shown := false } else none := by
 unfold St.does St.move St.look St.text St.clear St.roll
 by_cases h5 : o.kind = 5
 ·simp [h5]
 ·by_cases h6 : o.kind = 6
  ·simp [h6]
  ·simp only [h5, h6, or_self, if_false]
   by_cases h3 : o.kind = 3
   ·simp [h3]
    cases r o.text.data.toList <;> rfl
   ·simp only [h3, if_false]
theorem StAt.refU {T : TypeId} {N p : Nat} {H : AHeap} {v : Value} {rvs : List Value} {x y : St} (a : StAt T N H p v rvs x) (sl : Slc v) (hok : H.base ≤ H.next) {off : Nat} {vs : List Value} {L : List Bl} (hc : putL (x.cells v) off vs = y.cells v) (hg : y.grid = x.grid) (hT : T ≠ 102 := by decide) :
  RefR T N p (some y) H (.ok (.bool true)) (ext (uw H p off vs) L) := by
 obtain ⟨h1, h2⟩ := a.putU hok (L := L) hc hg
 exact ⟨ModN.of h2 (a.pN hT), rfl, fun z hz => by obtain rfl := Option.some.inj hz; exact ⟨v, rvs, sl, h1⟩⟩
theorem StAt.refU2 {T : TypeId} {N p : Nat} {H : AHeap} {v : Value} {rvs : List Value} {x y z : St} (a : StAt T N H p v rvs x) (sl : Slc v) (hok : H.base ≤ H.next) {o1 o2 : Nat} {vs1 vs2 : List Value} {L : List Bl} (hc1 : putL (x.cells v) o1 vs1 = z.cells v) (hg1 : z.grid = x.grid) (hc2 : putL (z.cells v) o2 vs2 = y.cells v) (hg2 : y.grid = z.grid) (hT : T ≠ 102 := by decide) :
  RefR T N p (some y) H (.ok (.bool true)) (ext (uw (uw H p o1 vs1) p o2 vs2) L) := by
 obtain ⟨h1, h2⟩ := a.putU hok (L := []) hc1 hg1
 obtain ⟨h3, h4⟩ := h1.putU (h2.ok hok) (L := L) hc2 hg2
 exact ⟨ModN.of (h2.trans h4) (a.pN hT), rfl, fun z hz => by obtain rfl := Option.some.inj hz; exact ⟨v, rvs, sl, h3⟩⟩
set_option maxHeartbeats 8000000 in
theorem does_c (N : Nat) (H : AHeap) (p W : Nat) (v : Value) (rvs : List Value) (x : St) (o : Op) (a : StAt 79 N H p v rvs x) (sl : Slc v) (hok : H.base ≤ H.next) (ok : x.Ok W) (hlen : o.text.data.toList.length ≤ 1000) :
  CallA Tryd.prog 51 [.pointer (some ⟨p, 0, none⟩), o.val] H (RefR 79 N p (x.does W ptsR o) H) := by
 obtain ⟨b, hbn⟩ : ∃ b, H.next = b := ⟨_, rfl⟩
 have hpl := a.lt
 rw [hbn] at hpl
 have hcell := a.cell
 simp only [St.cells] at hcell
 have m0 : Mod [] H (ext H [⟨47, false, o.cells⟩]) := Mod.ext hok
 have aX := a.mod0 m0
 have m0N : ModN N H (ext H [⟨47, false, o.cells⟩]) := ModN.of (Ws := []) m0 (by simp)
 have okX := m0.ok hok
 obtain ⟨mb, s1, c1, o1, n0, s0, c0, ev, hbm, hml, _, _, hrv0⟩ := a.first ok
 rw [hbn] at hml
 have i0 := grid_ia (n := mb) (off := 0) (s := s1) (cap := c1) (i := ((0 : Nat) : Int)) (len := x.grid.length) rfl (by have := ok.h1; omega)
 rw [show ((0 : Nat) : Int) = 0 from rfl] at i0
 have q0 : ldB Tryd.prog 56 (0 + 0) (some ⟨56, o1, rvs⟩) = some (.slice (some ⟨n0, 0, s0⟩) W c0) := grid_load (by rw [Nat.zero_add]; exact hrv0)
 rw [Nat.add_zero] at i0 q0
 rw [ev] at hcell
 have fin : RefR 79 N p none H (.ok (.bool false)) (ext H [⟨47, false, o.cells⟩]) := ⟨m0N, rfl, fun y h => by cases h⟩
 rw [does_eq]
 refine callE_fn mixed Tryd.func51 rfl Tryd.ntmps51 (Nat.le_of_ble_eq_true rfl) ?_
 simp (maxDischargeDepth := 6) only [Op.val, Op.cells, hbn, hpl, hcell, hml, hbm, i0, q0, ruW, putL, Nat.reduceLeDiff, xF, ruU, entryE, Nat.reduceLT, Nat.reduceAdd, Nat.reduceMul, Nat.reduceEqDiff]
 by_cases k1 : o.kind = 1
 ·rw [if_pos k1]
  unfold St.move
  obtain ⟨d1, h1⟩ : ∃ d, decide (0 ≤ o.row) = d := ⟨_, rfl⟩
  obtain ⟨d2, h2⟩ : ∃ d, decide (o.row < x.grid.length) = d := ⟨_, rfl⟩
  obtain ⟨d3, h3⟩ : ∃ d, decide (0 ≤ o.col) = d := ⟨_, rfl⟩
  obtain ⟨d4, h4⟩ : ∃ d, decide (o.col < W) = d := ⟨_, rfl⟩
  have e1 : decide (o.row < 0) = !d1 := by rw [← h1, ← decide_not]; exact decide_eq_decide.2 (by omega)
  have e2 : decide ((x.grid.length : Int) ≤ o.row) = !d2 := by rw [← h2, ← decide_not]; exact decide_eq_decide.2 (by omega)
  have e3 : decide (o.col < 0) = !d3 := by rw [← h3, ← decide_not]; exact decide_eq_decide.2 (by omega)
  have e4 : decide ((W : Int) ≤ o.col) = !d4 := by rw [← h4, ← decide_not]; exact decide_eq_decide.2 (by omega)
  rw [h1, h2, h3, h4]
  have hd : decide (o.kind = 1) = true := decide_eq_true k1
  simp (maxDischargeDepth := 6) only [hd, ruW, putL, Nat.reduceLeDiff, xF, ruU, entryE, Nat.reduceLT, Nat.reduceAdd, Nat.reduceMul, Nat.reduceEqDiff]
  by_cases hall : (d1 && d2 && d3 && d4) = true
  ·rw [if_pos hall]
   simp only [Bool.and_eq_true] at hall
   obtain ⟨⟨⟨rfl, rfl⟩, rfl⟩, rfl⟩ := hall
   refine w_drawB [] [(3, 22), (14, 33), (19, 38)] (by kernel_rfl) rfl (by kernel_rfl) fun ops anc hA hG => ?_
   simp only [all2_cons] at hG
   simp (maxDischargeDepth := 6) only [hbn, hpl, hcell, e1, e2, e3, e4, Bool.not_true, Bool.not_false, hG, Tryd.results51, ruD, ruW, putL, Nat.reduceLeDiff, xF, ruU, entryE, Nat.reduceLT, Nat.reduceAdd, Nat.reduceMul, Nat.reduceEqDiff]
   refine w_drawB [(8, 3), (11, 8), (11, 3), (11, 5)] [] (by kernel_rfl) (by kernel_rfl) rfl fun ops anc hA hG => ?_
   simp only [all2_cons] at hA
   simp (maxDischargeDepth := 6) only [hbn, hpl, hcell, hA, Tryd.results51, ruD, ruW, putL, Nat.reduceLeDiff, xF, ruU, entryE, Nat.reduceLT, Nat.reduceAdd, Nat.reduceMul, Nat.reduceEqDiff]
   exact a.refU2 sl hok (z := { x with row := o.row }) rfl rfl rfl rfl
  ·rw [if_neg hall]
   have hs : d1 = false ∨ (d1 = true ∧ d2 = false) ∨ (d1 = true ∧ d2 = true ∧ d3 = false) ∨ (d1 = true ∧ d2 = true ∧ d3 = true ∧ d4 = false) := by
    cases d1 <;> cases d2 <;> cases d3 <;> cases d4 <;> simp_all
   rcases hs with rfl | ⟨rfl, rfl⟩ | ⟨rfl, rfl, rfl⟩ | ⟨rfl, rfl, rfl, rfl⟩
   ·refine w_drawB [] [(3, 22), (14, 33), (19, 38)] (by kernel_rfl) rfl (by kernel_rfl) fun ops anc hA hG => ?_
    simp only [all2_cons] at hG
    simp (maxDischargeDepth := 6) only [hbn, hpl, hcell, e1, Bool.not_true, Bool.not_false, hG, Tryd.results51, ruD, ruW, putL, Nat.reduceLeDiff, xF, ruU, entryE, Nat.reduceLT, Nat.reduceAdd, Nat.reduceMul, Nat.reduceEqDiff]
    exact fin
   ·refine w_drawB [] [(3, 22), (14, 33), (19, 38)] (by kernel_rfl) rfl (by kernel_rfl) fun ops anc hA hG => ?_
    simp only [all2_cons] at hG
    simp (maxDischargeDepth := 6) only [hbn, hpl, hcell, e1, e2, Bool.not_true, Bool.not_false, hG, Tryd.results51, ruD, ruW, putL, Nat.reduceLeDiff, xF, ruU, entryE, Nat.reduceLT, Nat.reduceAdd, Nat.reduceMul, Nat.reduceEqDiff]
    exact fin
   ·refine w_drawB [] [(3, 22), (14, 33), (19, 38)] (by kernel_rfl) rfl (by kernel_rfl) fun ops anc hA hG => ?_
    simp only [all2_cons] at hG
    simp (maxDischargeDepth := 6) only [hbn, hpl, hcell, e1, e2, e3, Bool.not_true, Bool.not_false, hG, Tryd.results51, ruD, ruW, putL, Nat.reduceLeDiff, xF, ruU, entryE, Nat.reduceLT, Nat.reduceAdd, Nat.reduceMul, Nat.reduceEqDiff]
    exact fin
   ·refine w_drawB [] [(3, 22), (14, 33), (19, 38)] (by kernel_rfl) rfl (by kernel_rfl) fun ops anc hA hG => ?_
    simp only [all2_cons] at hG
    simp (maxDischargeDepth := 6) only [hbn, hpl, hcell, e1, e2, e3, e4, Bool.not_true, Bool.not_false, hG, Tryd.results51, ruD, ruW, putL, Nat.reduceLeDiff, xF, ruU, entryE, Nat.reduceLT, Nat.reduceAdd, Nat.reduceMul, Nat.reduceEqDiff]
    exact fin
 rw [if_neg k1]
 have hd1 : decide (o.kind = 1) = false := decide_eq_false k1
 by_cases k2 : o.kind = 2
 ·rw [if_pos k2]
  have hd : decide (o.kind = 2) = true := decide_eq_true k2
  unfold St.look
  obtain ⟨d, h1⟩ : ∃ d, colr o.look = d := ⟨_, rfl⟩
  rw [h1]
  have hlk := look39_c (ext H [⟨47, false, o.cells⟩]) o.look
  rw [h1] at hlk
  simp (maxDischargeDepth := 6) only [hd1, hd, hbn, ruW, putL, Nat.reduceLeDiff, xF, ruU, entryE, Nat.reduceLT, Nat.reduceAdd, Nat.reduceMul, Nat.reduceEqDiff]
  refine hlk.to ?_
  cases d with
  | false =>
   simp (maxDischargeDepth := 6) only [Tryd.results51, Bool.not_false, Bool.false_eq_true, if_false, ruW, putL, Nat.reduceLeDiff, xF, ruU, entryE, Nat.reduceLT, Nat.reduceAdd, Nat.reduceMul, Nat.reduceEqDiff]
   exact fin
  | true =>
   simp (maxDischargeDepth := 6) only [hbn, hpl, hcell, Tryd.results51, Bool.not_true, if_true, Op.cells, ruW, putL, Nat.reduceLeDiff, xF, ruU, entryE, Nat.reduceLT, Nat.reduceAdd, Nat.reduceMul, Nat.reduceEqDiff]
   exact a.refU sl hok rfl rfl
 rw [if_neg k2]
 have hd2 : decide (o.kind = 2) = false := decide_eq_false k2
 by_cases k3 : o.kind = 3
 ·rw [if_pos k3]
  have hd : decide (o.kind = 3) = true := decide_eq_true k3
  simp (maxDischargeDepth := 6) only [hd1, hd2, hd, hbn, ruW, putL, Nat.reduceLeDiff, xF, ruU, entryE, Nat.reduceLT, Nat.reduceAdd, Nat.reduceMul, Nat.reduceEqDiff]
  refine (refText_c N (ext H [⟨47, false, o.cells⟩]) p W v rvs x o.text aX okX ok hlen).mono ?_
  rintro _ X ⟨rfl, aY, mY⟩
  rw [show X = ext X [] from rfl]
  simp (maxDischargeDepth := 6) only [Tryd.results51, ruW, putL, Nat.reduceLeDiff, xF, ruU, entryE, Nat.reduceLT, Nat.reduceAdd, Nat.reduceMul, Nat.reduceEqDiff]
  refine ⟨m0N.trans (ModN.of mY (fun q hq => ?_)), rfl, fun y hy => ⟨v, rvs, sl, by rw [hy] at aY; exact aY⟩⟩
  rcases List.mem_cons.1 hq with rfl | hq
  ·exact aX.pN (by decide) _ (List.mem_singleton.2 rfl)
  ·exact aX.rN q hq
 rw [if_neg k3]
 have hd3 : decide (o.kind = 3) = false := decide_eq_false k3
 by_cases k4 : o.kind = 4
 ·rw [if_pos k4]
  have hd : decide (o.kind = 4) = true := decide_eq_true k4
  obtain ⟨i, hi⟩ : ∃ i : Nat, x.row = i := ⟨x.row.toNat, by have := ok.row0; omega⟩
  obtain ⟨k0, hk0⟩ : ∃ k : Nat, x.col = k := ⟨x.col.toNat, by have := ok.col0; omega⟩
  obtain ⟨l0, hl0⟩ : ∃ l0, x.grid[i]? = some l0 := ⟨_, List.getElem?_eq_getElem (by have := ok.row1; omega)⟩
  have hw0 : l0.length = W := ok.wid l0 (List.mem_of_getElem? hl0)
  have hgd : x.grid.getD x.row.toNat [] = l0 := by rw [hi, Int.toNat_natCast, List.getD_eq_getElem?_getD, hl0]; rfl
  have hk0' : x.col.toNat = k0 := by rw [hk0, Int.toNat_natCast]
  have hil : i < x.grid.length := (List.getElem?_eq_some_iff.1 hl0).1
  have hr : x.clear W = if (k0 : Int) < W then some (x.setRow i (clearL l0 k0 (W - k0))) else none := by
   unfold St.clear
   rw [hgd, hk0', hk0, hi, Int.toNat_natCast]
   simp only [St.setRow, hk0, hi]
  rw [hr]
  by_cases hkw : (k0 : Int) < W
  ·have hdk : decide ((W : Int) ≤ (k0 : Int)) = false := decide_eq_false (by omega)
   rw [if_pos hkw]
   simp (maxDischargeDepth := 6) only [hd1, hd2, hd3, hd, hbn, hpl, hcell, hk0, hdk, ruW, putL, Nat.reduceLeDiff, xF, ruU, entryE, Nat.reduceLT, Nat.reduceAdd, Nat.reduceMul, Nat.reduceEqDiff]
   refine w_env fun E hE => ?_
   have g0 : E 0 = .pointer (some ⟨p, 0, none⟩) := by rw [hE]; simp only [ruU, entryE, Nat.reduceLT, Nat.reduceAdd, Nat.reduceMul, Nat.reduceEqDiff]
   have g5 : E 5 = .int .i64 (W : Int) := by rw [hE]; simp only [ruU, entryE, Nat.reduceLT, Nat.reduceAdd, Nat.reduceMul, Nat.reduceEqDiff]
   have g6 : E 6 = .int .i64 (k0 : Int) := by rw [hE]; simp only [ruU, entryE, Nat.reduceLT, Nat.reduceAdd, Nat.reduceMul, Nat.reduceEqDiff]
   clear hE
   obtain ⟨X, hX⟩ : ∃ X, ext H [⟨47, false, o.cells⟩] = X := ⟨_, rfl⟩
   simp only [Op.cells] at hX
   rw [hX]
   rw [show ext H [⟨47, false, o.cells⟩] = X from hX] at aX m0 m0N okX
   rw [show X = ext X [] from rfl]
   obtain ⟨n, s2, cc, f00, hrv, _⟩ := aX.row hl0
   refine w_loop (fun (q : Nat × List Ce) E' Y => Mod [n] X Y ∧ E' 0 = .pointer (some ⟨p, 0, none⟩) ∧ E' 5 = .int .i64 (W : Int) ∧ E' 6 = .int .i64 (q.1 : Int) ∧ q.1 ≤ W ∧ q.2.length = W ∧ StAt 79 N Y p v rvs (x.setRow i q.2) ∧ clearL q.2 q.1 (W - q.1) = clearL l0 k0 (W - k0)) (fun q => W - q.1) (k0, l0)
    ⟨Mod.refl, g0, g5, g6, by simp only; omega, hw0, by simp only; rw [setRow_self hl0]; exact aX, rfl⟩ ?_
   clear g0 g5 g6
   rintro ⟨k, lr⟩ E Y ⟨mY, g0, g5, g6, hk, hlr, aY, hcl⟩
   simp only at g6 hk hlr aY hcl
   rw [show Y = ext Y [] from rfl]
   by_cases hkW : k = W
   ·have hc : decide ((k : Int) < (W : Int)) = false := by simp [hkW]
    simp (maxDischargeDepth := 6) only [g5, g6, hc, Tryd.results51, ruW, putL, Nat.reduceLeDiff, xF, ruU, entryE, Nat.reduceLT, Nat.reduceAdd, Nat.reduceMul, Nat.reduceEqDiff]
    rw [hkW, Nat.sub_self, clearL] at hcl
    refine ⟨m0N.trans (ModN.of mY (fun q hq => ?_)), rfl, fun y hy => ?_⟩
    ·obtain rfl := List.mem_singleton.1 hq
     exact aX.rN q (List.mem_flatMap.2 ⟨_, List.mem_of_getElem? hrv, by simp [idsV]⟩)
    ·obtain rfl := Option.some.inj hy
     rw [← hcl]
     exact ⟨v, rvs, sl, aY⟩
   ·have hc : decide ((k : Int) < (W : Int)) = true := decide_eq_true (by omega)
    have hc1 : clearL lr k (W - k) = clearL (setL lr k Ce.sp) (k + 1) (W - (k + 1)) := by
     rw [show W - k = (W - (k + 1)) + 1 by omega, clearL]
    simp (maxDischargeDepth := 6) only [g0, g5, g6, hc, ruW, putL, Nat.reduceLeDiff, xF, ruU, entryE, Nat.reduceLT, Nat.reduceAdd, Nat.reduceMul, Nat.reduceEqDiff]
    have hset := refSet_c N (ext Y []) p i k n v rvs (x.setRow i lr) lr Ce.sp s2 cc aY (mY.ok okX) hi (setRow_get hil) (by rw [hrv, hw0, hlr]) (by omega) (by have := ok.w2; omega) (by simp only [St.setRow, List.length_set]; exact Nat.le_trans ok.h2 (by decide))
    rw [setRow_set] at hset
    refine hset.mono ?_
    rintro _ Y1 ⟨rfl, a1, m1⟩
    rw [show Y1 = ext Y1 [] from rfl]
    simp (maxDischargeDepth := 6) only [g0, g6, wrap_succ (show k < 1000000 by have := ok.w2; omega), ruW, putL, Nat.reduceLeDiff, xF, ruU, entryE, Nat.reduceLT, Nat.reduceAdd, Nat.reduceMul, Nat.reduceEqDiff]
    refine loopC_next ⟨(k + 1, setL lr k Ce.sp), by simp only; omega, mY.trans m1, ?_, ?_, ?_, by simp only; omega, by simp only [setL_len]; exact hlr, a1, by simp only; rw [← hc1]; exact hcl⟩
    ·simp only [g0, ruU, entryE, Nat.reduceLT, Nat.reduceAdd, Nat.reduceMul, Nat.reduceEqDiff]
    ·simp only [g5, ruU, entryE, Nat.reduceLT, Nat.reduceAdd, Nat.reduceMul, Nat.reduceEqDiff]
    ·simp only [ruU, entryE, Nat.reduceLT, Nat.reduceAdd, Nat.reduceMul, Nat.reduceEqDiff]
  ·have hdk : decide ((W : Int) ≤ (k0 : Int)) = true := decide_eq_true (by omega)
   rw [if_neg hkw]
   simp (maxDischargeDepth := 6) only [hd1, hd2, hd3, hd, hbn, hpl, hcell, hk0, hdk, Tryd.results51, ruW, putL, Nat.reduceLeDiff, xF, ruU, entryE, Nat.reduceLT, Nat.reduceAdd, Nat.reduceMul, Nat.reduceEqDiff]
   exact fin
 rw [if_neg k4]
 have hd4 : decide (o.kind = 4) = false := decide_eq_false k4
 by_cases k5 : o.kind = 5
 ·rw [if_pos k5]
  have hd : decide (o.kind = 5) = true := decide_eq_true k5
  simp (maxDischargeDepth := 6) only [hd1, hd2, hd3, hd4, hd, hbn, ruW, putL, Nat.reduceLeDiff, xF, ruU, entryE, Nat.reduceLT, Nat.reduceAdd, Nat.reduceMul, Nat.reduceEqDiff]
  refine (refScroll_c N (ext H [⟨47, false, o.cells⟩]) p W v rvs x o true aX sl okX ok).mono ?_
  rintro _ X ⟨mY, rfl, aY⟩
  rw [show X = ext X [] from rfl]
  simp (maxDischargeDepth := 6) only [Tryd.results51, ruW, putL, Nat.reduceLeDiff, xF, ruU, entryE, Nat.reduceLT, Nat.reduceAdd, Nat.reduceMul, Nat.reduceEqDiff]
  exact ⟨m0N.trans mY, rfl, aY⟩
 rw [if_neg k5]
 have hd5 : decide (o.kind = 5) = false := decide_eq_false k5
 by_cases k6 : o.kind = 6
 ·rw [if_pos k6]
  have hd : decide (o.kind = 6) = true := decide_eq_true k6
  simp (maxDischargeDepth := 6) only [hd1, hd2, hd3, hd4, hd5, hd, hbn, ruW, putL, Nat.reduceLeDiff, xF, ruU, entryE, Nat.reduceLT, Nat.reduceAdd, Nat.reduceMul, Nat.reduceEqDiff]
  refine (refScroll_c N (ext H [⟨47, false, o.cells⟩]) p W v rvs x o false aX sl okX ok).mono ?_
  rintro _ X ⟨mY, rfl, aY⟩
  rw [show X = ext X [] from rfl]
  simp (maxDischargeDepth := 6) only [Tryd.results51, ruW, putL, Nat.reduceLeDiff, xF, ruU, entryE, Nat.reduceLT, Nat.reduceAdd, Nat.reduceMul, Nat.reduceEqDiff]
  exact ⟨m0N.trans mY, rfl, aY⟩
 rw [if_neg k6]
 have hd6 : decide (o.kind = 6) = false := decide_eq_false k6
 by_cases k7 : o.kind = 7
 ·rw [if_pos k7]
  have hd : decide (o.kind = 7) = true := decide_eq_true k7
  simp (maxDischargeDepth := 6) only [hd1, hd2, hd3, hd4, hd5, hd6, hd, hbn, hpl, hcell, Tryd.results51, ruW, putL, Nat.reduceLeDiff, xF, ruU, entryE, Nat.reduceLT, Nat.reduceAdd, Nat.reduceMul, Nat.reduceEqDiff]
  exact a.refU sl hok rfl rfl
 rw [if_neg k7]
 have hd7 : decide (o.kind = 7) = false := decide_eq_false k7
 by_cases k8 : o.kind = 8
 ·rw [if_pos k8]
  have hd : decide (o.kind = 8) = true := decide_eq_true k8
  simp (maxDischargeDepth := 6) only [hd1, hd2, hd3, hd4, hd5, hd6, hd7, hd, hbn, hpl, hcell, Tryd.results51, ruW, putL, Nat.reduceLeDiff, xF, ruU, entryE, Nat.reduceLT, Nat.reduceAdd, Nat.reduceMul, Nat.reduceEqDiff]
  exact a.refU sl hok rfl rfl
 rw [if_neg k8]
 have hd8 : decide (o.kind = 8) = false := decide_eq_false k8
 simp (maxDischargeDepth := 6) only [hd1, hd2, hd3, hd4, hd5, hd6, hd7, hd8, Tryd.results51, ruW, putL, Nat.reduceLeDiff, xF, ruU, entryE, Nat.reduceLT, Nat.reduceAdd, Nat.reduceMul, Nat.reduceEqDiff]
 exact fin
end Go.Proofs.YtaojjfebkldmnaaDoor
/- What operations keep: rows of one width, the place within them. -/
namespace Go.Proofs.YtaojjfebkldmnaaDoor
open Go.Ax
theorem putAll_len (pen : Lk) : ∀ (cs : List Int) (l : List Ce) (k : Nat), (putAll pen cs l k).1.length = l.length
 | [], _, _ => rfl
 | c :: cs, l, k => by rw [putAll, putAll_len pen cs, putC_len]
theorem putAll_col (pen : Lk) (W : Nat) : ∀ (cs : List Int) (l : List Ce) (k : Nat), St.fits W cs (k : Int) = true → k ≤ W → (putAll pen cs l k).2 ≤ W
 | [], _, _, _, h => h
 | c :: cs, l, k, hf, _ => by
  obtain ⟨_, h2, h3⟩ := fits_cons hf
  rw [putAll]
  refine putAll_col pen W cs _ _ ?_ (by omega)
  rw [show ((k + cellsR c : Nat) : Int) = (k : Int) + (cellsR c : Int) by omega]
  exact h3
theorem clearL_len : ∀ (n : Nat) (l : List Ce) (k : Nat), (clearL l k n).length = l.length
 | 0, _, _ => rfl
 | n + 1, l, k => by rw [clearL, clearL_len n, setL_len]
theorem St.Ok.row {x : St} {W : Nat} (ok : x.Ok W) : (x.grid.getD x.row.toNat []).length = W := by
 have h0 := ok.row0
 have h1 := ok.row1
 have h2 : x.row.toNat < x.grid.length := by omega
 rw [List.getD_eq_getElem?_getD, List.getElem?_eq_getElem h2, Option.getD_some]
 exact ok.wid _ (List.getElem_mem _)
theorem does_ok {W : Nat} {x y : St} {o : Op} {r : List UInt8 → Option (List Int)} (ok : x.Ok W) (h : x.does W r o = some y) : y.Ok W := by
 have setrow : ∀ l : List Ce, l.length = W → ∀ c : Int, 0 ≤ c → c ≤ W → St.Ok { x with grid := x.grid.set x.row.toNat l, col := c } W := fun l hl c c0 c1 => by
  have := ok.setRow (i := x.row.toNat) hl
  exact ⟨this.h1, this.h2, this.w1, this.w2, this.wid, this.row0, this.row1, c0, c1⟩
 rw [does_eq] at h
 split at h
 ·unfold St.move at h
  split at h
  ·rename_i hh
   simp only [Bool.and_eq_true, decide_eq_true_eq] at hh
   obtain rfl := Option.some.inj h
   exact ⟨ok.h1, ok.h2, ok.w1, ok.w2, ok.wid, hh.1.1.1, hh.1.1.2, hh.1.2, by show o.col ≤ W; omega⟩
  ·cases h
 split at h
 ·unfold St.look at h
  split at h
  ·obtain rfl := Option.some.inj h
   exact ⟨ok.h1, ok.h2, ok.w1, ok.w2, ok.wid, ok.row0, ok.row1, ok.col0, ok.col1⟩
  ·cases h
 split at h
 ·unfold St.text at h
  split at h
  ·cases h
  ·rename_i l _
   split at h
   ·rename_i hf
    obtain rfl := Option.some.inj h
    have c0 := ok.col0
    have c1 := ok.col1
    refine setrow _ (by rw [putAll_len]; exact ok.row) _ (by omega) ?_
    have := putAll_col x.pen W l (x.grid.getD x.row.toNat []) x.col.toNat (by rw [show ((x.col.toNat : Nat) : Int) = x.col by omega]; exact hf) (by omega)
    omega
   ·cases h
 split at h
 ·unfold St.clear at h
  split at h
  ·obtain rfl := Option.some.inj h
   exact setrow _ (by rw [clearL_len]; exact ok.row) x.col ok.col0 ok.col1
  ·cases h
 have roll : ∀ up, x.roll W o up = some y → y.Ok W := fun up h => by
  unfold St.roll at h
  split at h
  ·rename_i hh
   simp only [Bool.and_eq_true, decide_eq_true_eq] at hh
   obtain rfl := Option.some.inj h
   rw [glue_roll]
   have hl : (glue up x.grid (List.replicate o.n.toNat (List.replicate W Ce.sp)) o.row.toNat o.col.toNat o.n.toNat).length = x.grid.length := glue_len (by omega) (by omega) (by omega) List.length_replicate
   refine ⟨?_, ?_, ok.w1, ok.w2, fun l hl => ?_, ok.row0, ?_, ok.col0, ok.col1⟩
   ·simp only [hl]; exact ok.h1
   ·simp only [hl]; exact ok.h2
   ·rcases glue_mem hl with h | h
    ·exact ok.wid l h
    ·rw [List.eq_of_mem_replicate h, List.length_replicate]
   ·simp only [hl]; exact ok.row1
  ·cases h
 split at h
 ·exact roll true h
 split at h
 ·exact roll false h
 split at h
 ·obtain rfl := Option.some.inj h
  exact ⟨ok.h1, ok.h2, ok.w1, ok.w2, ok.wid, ok.row0, ok.row1, ok.col0, ok.col1⟩
 split at h
 ·obtain rfl := Option.some.inj h
  exact ⟨ok.h1, ok.h2, ok.w1, ok.w2, ok.wid, ok.row0, ok.row1, ok.col0, ok.col1⟩
 ·cases h
theorem all_drop {W : Nat} {r : List UInt8 → Option (List Int)} : ∀ (l : List Op) (k i : Nat) (x y : St) (o : Op), l[k]? = some o → x.does W r o = some y → St.all W r (l.drop k) i x = St.all W r (l.drop (k + 1)) (i + 1) y := fun l k i x y o ho hd => by
 have hk := (List.getElem?_eq_some_iff.1 ho).1
 rw [List.drop_eq_getElem_cons hk, St.all]
 rw [List.getElem?_eq_getElem hk] at ho
 rw [Option.some.inj ho, hd]
theorem all_stop {W : Nat} {r : List UInt8 → Option (List Int)} : ∀ (l : List Op) (k i : Nat) (x : St) (o : Op), l[k]? = some o → x.does W r o = none → St.all W r (l.drop k) i x = .inr i := fun l k i x o ho hd => by
 have hk := (List.getElem?_eq_some_iff.1 ho).1
 rw [List.drop_eq_getElem_cons hk, St.all]
 rw [List.getElem?_eq_getElem hk] at ho
 rw [Option.some.inj ho, hd]
end Go.Proofs.YtaojjfebkldmnaaDoor
/- The program's execution of operations, one after the other. -/
namespace Go.Ax
section
variable {P : Program} {ro : Option Nat} {H : AHeap} {N : Nat} {E : Env} {ds : List Deferred} {ops : Array Oper} {rest : List Oper} {ty : TypeId} {pos : String} {after : Array Edge} {Q : Exit → AAct → AHeap → Prop}
theorem w_defer {f : FuncId} {args : List Operand} {ts : Array TypeId} (ha : args.all (opOk P N) = true) : wpOps P none ops (⟨none, .defer ⟨.value (.func f), ⟨args⟩, ts⟩, ty, pos, after, none⟩ :: rest) (mkA N E ds) H Q = wpOps P none ops rest (mkA N E (⟨.fn (.func f) #[], ⟨args.map (opv E)⟩⟩ :: ds)) H Q := by
 simp only [wpOps, wantA, aDefer, aevals_opv ha, aeval, oZ2, oZ3, deferV]
 rfl
end
end Go.Ax
namespace Go.Proofs.YtaojjfebkldmnaaDoor
open Go.Ax
def AllR (N p : Nat) (r : St ⊕ Nat) (H : AHeap) (out : Out) (X : AHeap) : Prop :=
 ModN N H X ∧ match r with
  | .inl y => out = .ok (.int .i64 (-1)) ∧ ∃ v rvs, Slc v ∧ StAt 76 N X p v rvs y
  | .inr i => out = .ok (.int .i64 (i : Int))
theorem kindF_body : (kindF.all fun f => hasBody Tryd.prog f) = true := by kernel_rfl
theorem kind_c (N : Nat) (H : AHeap) (p W : Nat) (v : Value) (rvs : List Value) (x : St) (o : Op) (k f : Nat) (hk : o.kind = (k : Int)) (hf : kindF[k]? = some f) (a : StAt 76 N H p v rvs x) (sl : Slc v) (t : Tab H) (hN : 2 ≤ N) (hok : H.base ≤ H.next) (ok : x.Ok W) (hlen : o.text.data.toList.length ≤ 1000) :
  CallA Tryd.prog f [.pointer (some ⟨p, 0, none⟩), o.val] H (StepR 76 N p (x.does W ptsR o) H) := by
 rw [does_eq, hk]
 match k, hf with
 | 0, hf => obtain rfl := Option.some.inj hf; exact nothing_c H hok o 76
 | 1, hf => obtain rfl := Option.some.inj hf; rw [if_pos (by decide)]; exact move_c a sl hok ok o
 | 2, hf => obtain rfl := Option.some.inj hf; rw [if_neg (by decide), if_pos (by decide)]; exact dlook_c a sl hok o
 | 3, hf => obtain rfl := Option.some.inj hf; rw [if_neg (by decide), if_neg (by decide), if_pos (by decide)]; exact text_c N H p W v rvs x o a sl t hN hok ok hlen
 | 4, hf => obtain rfl := Option.some.inj hf; rw [if_neg (by decide), if_neg (by decide), if_neg (by decide), if_pos (by decide)]; exact clear_c N H p W v rvs x o a sl hok ok
 | 5, hf => obtain rfl := Option.some.inj hf; rw [if_neg (by decide), if_neg (by decide), if_neg (by decide), if_neg (by decide), if_pos (by decide)]; exact remove_c N H p W v rvs x o a sl hok ok
 | 6, hf => obtain rfl := Option.some.inj hf; rw [if_neg (by decide), if_neg (by decide), if_neg (by decide), if_neg (by decide), if_neg (by decide), if_pos (by decide)]; exact insert_c N H p W v rvs x o a sl hok ok
 | 7, hf => obtain rfl := Option.some.inj hf; rw [if_neg (by decide), if_neg (by decide), if_neg (by decide), if_neg (by decide), if_neg (by decide), if_neg (by decide), if_pos (by decide)]; exact show_c a sl hok o
 | 8, hf => obtain rfl := Option.some.inj hf; rw [if_neg (by decide), if_neg (by decide), if_neg (by decide), if_neg (by decide), if_neg (by decide), if_neg (by decide), if_neg (by decide), if_pos (by decide)]; exact hide_c a sl hok o
 | k + 9, hf => simp [kindF] at hf
theorem leave_ret {N : Nat} {E : Env} {H : AHeap} {R : Out → AHeap → Prop} (hok : H.base ≤ H.next) (hR : ∀ i, E 4 = i → R (.ok i) (ext H [⟨99, false, []⟩])) (h4 : 4 < N) :
  leaveA Tryd.prog Tryd.f49 (mkA N E [⟨.fn (.func 68) #[], ⟨[]⟩⟩]) [⟨.fn (.func 68) #[], ⟨[]⟩⟩] .returning H R := by
 refine ⟨by kernel_rfl, _, _, _, exec1_ret H hok, ?_⟩
 refine ⟨[E 4], ?_, ?_⟩
 ·show resVal Tryd.prog _ _ [.tmp 4] = _
  rw [rs_tmp h4, rs_nil]
  rfl
 ·rw [tup_one]; exact hR _ rfl
theorem leave_pan {N : Nat} {E : Env} {H : AHeap} {R : Out → AHeap → Prop} (hok : H.base ≤ H.next) (hR : ∀ i, E 4 = i → R (.ok i) (ext H [⟨99, false, []⟩])) (h4 : 4 < N) :
  leaveA Tryd.prog Tryd.f49 (mkA N E [⟨.fn (.func 68) #[], ⟨[]⟩⟩]) [⟨.fn (.func 68) #[], ⟨[]⟩⟩] (.panicking [refusedP]) H R := by
 refine ⟨by kernel_rfl, _, _, _, exec1_pan H hok, ?_⟩
 rw [settle_pan]
 refine ⟨[E 4], ?_, ?_⟩
 ·show resVal Tryd.prog _ _ [.tmp 4] = _
  rw [rs_tmp h4, rs_nil]
  rfl
 ·rw [tup_one]; exact hR _ rfl
set_option maxHeartbeats 8000000 in
theorem executed_c (N : Nat) (H : AHeap) (p W : Nat) (v ov : Value) (rvs : List Value) (x : St) (l : List Op) (hl : OpsAt H ov l) (hov : l ≠ [] → ∀ n ∈ idsV ov, n < N) (a : StAt 76 N H p v rvs x) (sl : Slc v) (t : Tab H) (hN : 2 ≤ N) (hNH : N ≤ H.next) (hok : H.base ≤ H.next) (ok : x.Ok W) (hlen : ∀ o ∈ l, o.text.data.toList.length ≤ 1000) (hll : l.length ≤ 10000) :
  CallA Tryd.prog 49 [.pointer (some ⟨p, 0, none⟩), ov] H (AllR N p (St.all W ptsR l 0 x) H) := by
 obtain ⟨b, hb⟩ : ∃ b, H.next = b := ⟨_, rfl⟩
 have hbb : H.base ≤ b := hb ▸ hok
 obtain ⟨ao, co, eo⟩ := hl.sl
 have hst : ∀ (M : Nat) (l : List Value), l.length = 9 → stB Tryd.prog 102 M 0 (.agg ⟨kindsV⟩) (some ⟨102, false, l⟩) = some ⟨102, false, kindsV⟩ := fun M l h => by
  have hv : (Value.agg ⟨kindsV⟩).cells.toList = kindsV := rfl
  rw [stB_ok (by rw [hv]; kernel_rfl) (by rw [hv, h]; decide) (by rw [hv]; rfl) (by rw [hv]; rfl), hv, putL_head _ _ (by rw [h]; decide), List.drop_eq_nil_of_le (by rw [h]; decide), List.append_nil]
 have hcl : (Value.agg ⟨kindsV⟩).cells.toList = kindsV := rfl
 have hps : putL ([.nilFunc, .nilFunc, .nilFunc, .nilFunc, .nilFunc, .nilFunc, .nilFunc, .nilFunc, .nilFunc] : List Value) 0 kindsV = kindsV := rfl
 refine callE_fn mixed Tryd.func49 rfl Tryd.ntmps49 (Nat.le_of_ble_eq_true rfl) ?_
 rw [eo]
 simp (maxDischargeDepth := 6) only [w_defer, ruW, putL, Nat.reduceLeDiff, xF, ruU, entryE, Nat.reduceLT, Nat.reduceAdd, Nat.reduceMul, Nat.reduceEqDiff]
 refine (kinds_c (ext H [])).to ?_
 simp (maxDischargeDepth := 6) only [hb, hbb, hst, hcl, hps, ruW, putL, Nat.reduceLeDiff, xF, ruU, entryE, Nat.reduceLT, Nat.reduceAdd, Nat.reduceMul, Nat.reduceEqDiff]
 rw [← eo]
 refine w_env fun E hE => ?_
 have g0 : E 0 = .pointer (some ⟨p, 0, none⟩) := by rw [hE]; simp only [ruU, entryE, Nat.reduceLT, Nat.reduceAdd, Nat.reduceMul, Nat.reduceEqDiff]
 have g4 : E 4 = .int .i64 ((0 : Nat) : Int) := by rw [hE]; (simp only [ruU, entryE, Nat.reduceLT, Nat.reduceAdd, Nat.reduceMul, Nat.reduceEqDiff] <;> rfl)
 have g5 : E 5 = .pointer (some ⟨b + 0, 0, none⟩) := by rw [hE]; simp only [ruU, entryE, Nat.reduceLT, Nat.reduceAdd, Nat.reduceMul, Nat.reduceEqDiff]
 have g9 : E 9 = ov := by rw [hE, eo]; simp only [ruU, entryE, Nat.reduceLT, Nat.reduceAdd, Nat.reduceMul, Nat.reduceEqDiff]
 have g10 : E 10 = .int .i64 (l.length : Int) := by rw [hE]; simp only [ruU, entryE, Nat.reduceLT, Nat.reduceAdd, Nat.reduceMul, Nat.reduceEqDiff]
 have g11 : E 11 = .int .i64 ((0 : Nat) : Int) := by rw [hE]; (simp only [ruU, entryE, Nat.reduceLT, Nat.reduceAdd, Nat.reduceMul, Nat.reduceEqDiff] <;> rfl)
 clear hE
 obtain ⟨X, hX⟩ : ∃ X, ext H [⟨102, false, kindsV⟩] = X := ⟨_, rfl⟩
 have mX : Mod [] H X := hX ▸ Mod.ext hok
 have kX : bk X (b + 0) = some ⟨102, false, kindsV⟩ := by rw [← hX, bk_at hb (by simp)]; rfl
 have nX : X.next = b + 1 := by rw [← hX, ext_next, hb]; rfl
 have okX := mX.ok hok
 have aX := a.mod0 mX
 rw [hX]
 rw [show X = ext X [] from rfl]
 have mXN : ModN N H X := ModN.of (Ws := []) mX (by simp)
 have fin : ∀ (Y : AHeap) (E : Env) (i : Nat), ModN N X Y → E 4 = .int .i64 (i : Int) → St.all W ptsR l 0 x = .inr i → leaveA Tryd.prog Tryd.f49 (mkA 34 E [⟨.fn (.func 68) #[], ⟨[]⟩⟩]) [⟨.fn (.func 68) #[], ⟨[]⟩⟩] (.panicking [refusedP]) Y (AllR N p (St.all W ptsR l 0 x) H) := fun Y E i mY e4 hr => by
  refine leave_pan (mY.ok okX) (fun j hj => ?_) (by decide)
  rw [e4] at hj
  subst hj
  rw [hr]
  exact ⟨(mXN.trans mY).trans (ModN.of (Ws := []) (Mod.ext (mY.ok okX)) (by simp)), rfl⟩
 refine blockC_meet (fun E' Y => ModN N X Y ∧ ∃ y v rvs, St.all W ptsR l 0 x = .inl y ∧ Slc v ∧ StAt 76 N Y p v rvs y) ?_ ?_
 ·refine w_loop (fun (q : Nat × St × Value × List Value) E' Y => ModN N X Y ∧ E' 0 = .pointer (some ⟨p, 0, none⟩) ∧ E' 5 = .pointer (some ⟨b + 0, 0, none⟩) ∧ E' 9 = ov ∧ E' 10 = .int .i64 (l.length : Int) ∧ E' 11 = .int .i64 (q.1 : Int) ∧ q.1 ≤ l.length ∧ St.all W ptsR (l.drop q.1) q.1 q.2.1 = St.all W ptsR l 0 x ∧ q.2.1.Ok W ∧ Slc q.2.2.1 ∧ StAt 76 N Y p q.2.2.1 q.2.2.2 q.2.1) (fun q => l.length - q.1) (0, x, v, rvs)
   ⟨ModN.refl, g0, g5, g9, g10, g11, Nat.zero_le _, rfl, ok, sl, aX⟩ ?_
  clear g0 g4 g5 g9 g10 g11
  rintro ⟨k, y, u, us⟩ E Y ⟨mY, g0, g5, g9, g10, g11, hk, hall, oky, slu, aY⟩
  simp only at g11 hk hall oky slu aY
  rw [show Y = ext Y [] from rfl]
  by_cases hkl : k = l.length
  ·have hc : decide ((k : Int) < (l.length : Int)) = false := by simp [hkl]
   simp (maxDischargeDepth := 6) only [g10, g11, hc, ruW, putL, Nat.reduceLeDiff, xF, ruU, entryE, Nat.reduceLT, Nat.reduceAdd, Nat.reduceMul, Nat.reduceEqDiff]
   rw [List.drop_eq_nil_of_le (by omega), St.all] at hall
   exact joinR_normal ⟨mY, y, u, us, hall.symm, slu, aY⟩
  ·have hlt : k < l.length := by omega
   have hc : decide ((k : Int) < (l.length : Int)) = true := decide_eq_true (by omega)
   obtain ⟨o, ho⟩ : ∃ o, l[k]? = some o := ⟨_, List.getElem?_eq_getElem hlt⟩
   have hlo := hlen o (List.mem_of_getElem? ho)
   have okY := mY.ok okX
   obtain ⟨yn, hyn⟩ : ∃ n, Y.next = n := ⟨_, rfl⟩
   have hyb : Y.base ≤ yn := hyn ▸ okY
   have hby : b + 0 < yn := by have := mY.next; omega
   have kY : bk Y (b + 0) = some ⟨102, false, kindsV⟩ := mY.kinds (by omega) kX
   have tY : Tab Y := (t.modN (mXN.trans mY) hN (by omega))
   rcases hl with ⟨h, _⟩ | ⟨hne, no, off, so, co', eo1, oo, L, eov, hrk, hno, hle, hop⟩
   ·rw [h] at hlt; simp at hlt
   have hnoN : no < N := hov hne no (by rw [eov]; simp [idsV])
   have hnoY : rk Y no = some ⟨eo1, oo, L⟩ := by
    obtain ⟨Ws, h1, m1⟩ := mXN.trans mY
    exact (rk_get (m1.get no hno fun h => by have := (h1 no h).1; omega)).trans hrk
   have hnoy : no < yn := by have := (mXN.trans mY).next; omega
   have ia := op_ia (len := l.length) (cap := co') (n := no) (off := off) (s := so) (i := (k : Int)) rfl hlt
   have ld := op_load (e := eo1) (o := oo) ho hle hop
   rw [eov] at g9
   simp (maxDischargeDepth := 6) only [g0, g5, g9, g10, g11, hc, hyn, hyb, hnoy, ia, hnoY, ld, qk_old, Op.val, Op.cells, ruW, putL, Nat.reduceLeDiff, xF, ruU, entryE, Nat.reduceLT, Nat.reduceAdd, Nat.reduceMul, Nat.reduceEqDiff]
   obtain ⟨d1, h1⟩ : ∃ d, decide (0 ≤ o.kind) = d := ⟨_, rfl⟩
   obtain ⟨d2, h2⟩ : ∃ d, decide (o.kind < 9) = d := ⟨_, rfl⟩
   have mB : Mod [] Y (ext Y [⟨47, false, o.cells⟩]) := Mod.ext okY
   have mBN : ModN N X (ext Y [⟨47, false, o.cells⟩]) := mY.trans (ModN.of (Ws := []) mB (by simp))
   by_cases hv : (d1 && d2) = true
   ·simp only [Bool.and_eq_true] at hv
    obtain ⟨rfl, rfl⟩ := hv
    have q1 := of_decide_eq_true h1
    have q2 := of_decide_eq_true h2
    obtain ⟨j, hj⟩ : ∃ j : Nat, o.kind = j := ⟨o.kind.toNat, by omega⟩
    have hj9 : j < 9 := by omega
    obtain ⟨f, hf⟩ : ∃ f, kindF[j]? = some f := ⟨_, List.getElem?_eq_getElem (show j < 9 from hj9)⟩
    have hbf : hasBody Tryd.prog f = true := List.all_eq_true.1 kindF_body f (List.mem_of_getElem? hf)
    simp (maxDischargeDepth := 6) only [h1, h2, hyn, hyb, ruW, putL, Nat.reduceLeDiff, xF, ruU, entryE, Nat.reduceLT, Nat.reduceAdd, Nat.reduceMul, Nat.reduceEqDiff]
    refine CallS.to (needs_t _) ?_
    have ix : aIndexAddr Tryd.prog 102 (.pointer (some ⟨b + 0, 0, none⟩)) (.int .i64 (j : Int)) = some (.pointer (some ⟨b + 0, 0 + j, none⟩)) := by
     have hu : Tryd.prog.underlying 102 = some (.array 9 101) := by kernel_rfl
     have hz : szOf Tryd.prog 101 = some 1 := by kernel_rfl
     simp only [aIndexAddr, hu, hz, oZ2, oZ3]
     rw [if_pos ⟨by omega, by omega⟩]
     simp [Addr.add]
     omega
    have lk : ldB Tryd.prog 101 (0 + j) (some ⟨102, false, kindsV⟩) = some (.func (.func f) ⟨[]⟩ ⟨[]⟩) := by
     rw [ld_one (by kernel_rfl), Nat.zero_add]
     simp only [kindsV, List.getElem?_map, hf, oZ5]
     rfl
    simp (maxDischargeDepth := 6) only [g0, g5, hyn, hj, ruW, putL, Nat.reduceLeDiff, xF, ruU, entryE, Nat.reduceLT, Nat.reduceAdd, Nat.reduceMul, Nat.reduceEqDiff]
    refine w_drawP [] [] (by kernel_rfl) (by kernel_rfl) rfl rfl (fun ops anc hA hG => ?_) (by simp) ⟨rfl, rfl⟩
    simp (maxDischargeDepth := 6) only [dropLast_more, dropLast_one, g0, g5, hyn, hby, kY, ix, lk, ruD, ruW, putL, Nat.reduceLeDiff, xF, ruU, entryE, Nat.reduceLT, Nat.reduceAdd, Nat.reduceMul, Nat.reduceEqDiff]
    simp only [lastO_cons, lastO_one, isDef_call, ff_eq, true_and]
    refine w_callV (f := f) (ca := []) (by simp only [ruU, entryE, Nat.reduceLT, Nat.reduceAdd, Nat.reduceMul, Nat.reduceEqDiff]) (by simp only [ruU, entryE, Nat.reduceLT, Nat.reduceAdd, Nat.reduceMul, Nat.reduceEqDiff]) (by simp only [ruU, entryE, Nat.reduceLT, Nat.reduceAdd, Nat.reduceMul, Nat.reduceEqDiff]) hbf ?_
    simp only [ruU, entryE, Nat.reduceLT, Nat.reduceAdd, Nat.reduceMul, Nat.reduceEqDiff]
    rw [List.append_nil]
    have aB := aY.mod0 mB
    have tB : Tab (ext Y [⟨47, false, o.cells⟩]) := tY.modN (ModN.of (N := N) (Ws := []) mB (by simp)) hN (by omega)
    have key := kind_c N (ext Y [⟨47, false, o.cells⟩]) p W u us y o j f hj hf aB slu tB hN (mB.ok okY) oky hlo
    simp only [Op.val, Op.cells, hj] at key
    refine key.mono ?_
    rintro out Z ⟨mZ, hr⟩
    replace mZ : ModN N (ext Y [⟨47, false, o.cells⟩]) Z := by simp only [Op.cells, hj]; exact mZ
    have mZN := mBN.trans mZ
    cases hd : y.does W ptsR o with
    | none =>
     rw [hd] at hr
     obtain rfl := hr
     have hstop := all_stop (W := W) l k k y o ho hd
     rw [hstop] at hall
     simp only [opC_error, seqC_panic, blockC_panic, loopC_panic, joinR_panic, endA_panic]
     exact fin _ _ k mZN (by simp only [ruU, entryE, Nat.reduceLT, Nat.reduceAdd, Nat.reduceMul, Nat.reduceEqDiff]) hall.symm
    | some y2 =>
     rw [hd] at hr
     obtain ⟨rfl, v2, us2, sl2, a2⟩ := hr
     rw [all_drop l k k y y2 o ho hd] at hall
     rw [show Z = ext Z [] from rfl]
     simp (maxDischargeDepth := 6) only [g11, wrap_succ (show k < 1000000 by omega), ruW, putL, Nat.reduceLeDiff, xF, ruU, entryE, Nat.reduceLT, Nat.reduceAdd, Nat.reduceMul, Nat.reduceEqDiff]
     refine loopC_next ⟨(k + 1, y2, v2, us2), by simp only; omega, mZN, ?_, ?_, ?_, ?_, ?_, by simp only; omega, hall, does_ok oky hd, sl2, a2⟩
     ·simp only [g0, ruU, entryE, Nat.reduceLT, Nat.reduceAdd, Nat.reduceMul, Nat.reduceEqDiff]
     ·simp only [g5, ruU, entryE, Nat.reduceLT, Nat.reduceAdd, Nat.reduceMul, Nat.reduceEqDiff]
     ·simp only [g9, eov, ruU, entryE, Nat.reduceLT, Nat.reduceAdd, Nat.reduceMul, Nat.reduceEqDiff]
     ·simp only [g10, ruU, entryE, Nat.reduceLT, Nat.reduceAdd, Nat.reduceMul, Nat.reduceEqDiff]
     ·simp only [ruU, entryE, Nat.reduceLT, Nat.reduceAdd, Nat.reduceMul, Nat.reduceEqDiff]
   ·have hdn : y.does W ptsR o = none := by
     rw [does_eq]
     have : o.kind < 0 ∨ 9 ≤ o.kind := by
      cases d1 with
      | false => have := of_decide_eq_false h1; omega
      | true =>
       cases d2 with
       | false => have := of_decide_eq_false h2; omega
       | true => exact absurd rfl hv
     rw [if_neg (by omega), if_neg (by omega), if_neg (by omega), if_neg (by omega), if_neg (by omega), if_neg (by omega), if_neg (by omega), if_neg (by omega)]
    have hstop := all_stop (W := W) l k k y o ho hdn
    rw [hstop] at hall
    have hs : d1 = false ∨ (d1 = true ∧ d2 = false) := by cases d1 <;> cases d2 <;> simp_all
    rcases hs with rfl | ⟨rfl, rfl⟩
    ·simp (maxDischargeDepth := 6) only [h1, ruW, putL, Nat.reduceLeDiff, xF, ruU, entryE, Nat.reduceLT, Nat.reduceAdd, Nat.reduceMul, Nat.reduceEqDiff]
     refine CallS.panics (needs_f _) ?_
     simp only [opC_error, seqC_panic, blockC_panic, loopC_panic, joinR_panic, endA_panic]
     exact fin _ _ k mBN (by simp only [ruU, entryE, Nat.reduceLT, Nat.reduceAdd, Nat.reduceMul, Nat.reduceEqDiff]) hall.symm
    ·simp (maxDischargeDepth := 6) only [h1, h2, hyn, hyb, ruW, putL, Nat.reduceLeDiff, xF, ruU, entryE, Nat.reduceLT, Nat.reduceAdd, Nat.reduceMul, Nat.reduceEqDiff]
     refine CallS.panics (needs_f _) ?_
     simp only [opC_error, seqC_panic, blockC_panic, loopC_panic, joinR_panic, endA_panic]
     exact fin _ _ k mBN (by simp only [ruU, entryE, Nat.reduceLT, Nat.reduceAdd, Nat.reduceMul, Nat.reduceEqDiff]) hall.symm
 ·rintro E Y ⟨mY, y, u, us, hall, slu, aY⟩
  rw [show Y = ext Y [] from rfl]
  simp (maxDischargeDepth := 6) only [ruW, putL, Nat.reduceLeDiff, xF, ruU, entryE, Nat.reduceLT, Nat.reduceAdd, Nat.reduceMul, Nat.reduceEqDiff]
  rw [hall]
  refine leave_ret (mY.ok okX) (fun i hi => ?_) (by decide)
  simp only [ruU, entryE, Nat.reduceLT, Nat.reduceAdd, Nat.reduceMul, Nat.reduceEqDiff] at hi
  subst hi
  exact ⟨(mXN.trans mY).trans (ModN.of (Ws := []) (Mod.ext (mY.ok okX)) (by simp)), rfl, u, us, slu, aY.mod0 (Mod.ext (mY.ok okX))⟩
end Go.Proofs.YtaojjfebkldmnaaDoor
/- Valid rows of cells: what diff's and its reference's checks of a row come to. -/
namespace Go.Proofs.YtaojjfebkldmnaaDoor
open Go.Ax
def wholeB : List Ce → Bool
 | [] => true
 | c :: l => if (decide (cellsR c.rune = 0) || !colr c.look) = true then false else
   if cellsR c.rune = 2 then (match l with | [] => false | d :: l' => decide (d = c.look.ce (-1)) && wholeB l') else wholeB l
theorem wholeB_cons (c : Ce) (l : List Ce) : wholeB (c :: l) = if (decide (cellsR c.rune = 0) || !colr c.look) = true then false else
   if cellsR c.rune = 2 then (match l with | [] => false | d :: l' => decide (d = c.look.ce (-1)) && wholeB l') else wholeB l := by
 cases l <;> first | rfl | rw [wholeB]
theorem Lk.ce_look (k : Lk) (r : Int) : (k.ce r).look = k := rfl
set_option maxHeartbeats 4000000 in
theorem whole39_c (H : AHeap) (v : Value) (l : List Ce) (h : RowAt H v l) (hl : l.length < 1000000) : Pure 44 [v] H (.bool (wholeB l)) := by
 obtain ⟨b, hb⟩ : ∃ b, H.next = b := ⟨_, rfl⟩
 obtain ⟨B, hB⟩ : ∃ B, wholeB l = B := ⟨_, rfl⟩
 rw [hB]
 refine callS_fn mixed Tryd.func44 rfl Tryd.ntmps44 (Nat.le_of_ble_eq_true rfl) fun wf hsc => ?_
 obtain ⟨a1, c1, e1⟩ := h.sl
 rw [e1]
 simp (maxDischargeDepth := 6) only [ruW, putL, Nat.reduceLeDiff, xF, ruU, entryE, Nat.reduceLT, Nat.reduceAdd, Nat.reduceMul, Nat.reduceEqDiff]
 rw [← e1]
 refine w_env fun E hE => ?_
 have g0 : E 0 = v := by rw [hE]; simp only [ruU, entryE, Nat.reduceLT, Nat.reduceAdd, Nat.reduceMul, Nat.reduceEqDiff]
 have g3 : E 3 = .int .i64 ((0 : Nat) : Int) := by rw [hE]; (simp only [ruU, entryE, Nat.reduceLT, Nat.reduceAdd, Nat.reduceMul, Nat.reduceEqDiff] <;> rfl)
 clear hE
 refine blockC_meet (fun E' H' => H' = ext H [] ∧ B = true) ?_ ?_
 ·refine w_loop (fun (k : Nat) E' H' => H' = ext H [] ∧ E' 0 = v ∧ E' 3 = .int .i64 (k : Int) ∧ k ≤ l.length ∧ wholeB (l.drop k) = B) (fun k => l.length - k) 0
   ⟨rfl, g0, g3, Nat.zero_le _, hB⟩ ?_
  clear g0 g3
  rintro k E H' ⟨hH, g0, g3, hk, hi⟩
  rw [hH]
  by_cases hkl : k = l.length
  ·have hc : decide ((k : Int) < (l.length : Int)) = false := by simp [hkl]
   rw [e1] at g0
   simp (maxDischargeDepth := 6) only [g0, g3, hc, ruW, putL, Nat.reduceLeDiff, xF, ruU, entryE, Nat.reduceLT, Nat.reduceAdd, Nat.reduceMul, Nat.reduceEqDiff]
   rw [List.drop_eq_nil_of_le (by omega), wholeB] at hi
   exact joinR_normal ⟨rfl, hi.symm⟩
  ·have hlt : k < l.length := by omega
   have hc : decide ((k : Int) < (l.length : Int)) = true := decide_eq_true (by omega)
   rcases h with ⟨h, _⟩ | ⟨_, n1, o1, s1, x1, t1, p1, L1, rfl, b1, n1l, le1, tk1⟩
   ·rw [h] at hlt; simp at hlt
   obtain ⟨r1, hr1⟩ : ∃ r, l[k]? = some r := ⟨_, List.getElem?_eq_getElem hlt⟩
   have i1 := row_ia (n := n1) (off := o1) (s := s1) (cap := x1) (i := (k : Int)) rfl hlt
   have q1 := run_load (e := t1) (o := p1) hr1 le1 tk1
   have q2 := look_load (e := t1) (o := p1) hr1 le1 tk1
   rw [hb] at n1l
   have hdr : l.drop k = r1 :: l.drop (k + 1) := by
    rw [List.drop_eq_getElem_cons hlt]
    rw [List.getElem?_eq_getElem hlt] at hr1
    rw [Option.some.inj hr1]
   rw [hdr, wholeB_cons] at hi
   obtain ⟨m, hm⟩ : ∃ m, cellsR r1.rune = m := ⟨_, rfl⟩
   obtain ⟨cl, hcl⟩ : ∃ x, colr r1.look = x := ⟨_, rfl⟩
   have hm3 := cellsR_cases r1.rune
   have hcs := cellsOf_c (ext H []) r1.rune
   have hco := coloured39_c (ext H []) r1.look
   rw [hm] at hcs hi hm3
   rw [hcl] at hco hi
   have c00 : decide (((0 : Nat) : Int) = 0) = true := by decide
   have c10 : decide (((1 : Nat) : Int) = 0) = false := by decide
   have c12 : decide (((1 : Nat) : Int) = 2) = false := by decide
   have c20 : decide (((2 : Nat) : Int) = 0) = false := by decide
   have c22 : decide (((2 : Nat) : Int) = 2) = true := by decide
   simp (maxDischargeDepth := 6) only [g0, g3, hb, hc, i1, b1, n1l, q1, q2, qk_old, ruW, putL, Nat.reduceLeDiff, xF, ruU, entryE, Nat.reduceLT, Nat.reduceAdd, Nat.reduceMul, Nat.reduceEqDiff]
   refine hcs.to ?_
   rcases hm3 with rfl | rfl | rfl
   ·obtain rfl : false = B := by simpa using hi
    simp (maxDischargeDepth := 6) only [g0, g3, hb, hc, i1, b1, n1l, q1, q2, qk_old, c00, joinR_ret, Tryd.results44, ruW, putL, Nat.reduceLeDiff, xF, ruU, entryE, Nat.reduceLT, Nat.reduceAdd, Nat.reduceMul, Nat.reduceEqDiff]
    exact Fin.pureE rfl rfl
   ·simp (maxDischargeDepth := 6) only [g0, g3, hb, hc, i1, b1, n1l, q1, q2, qk_old, c10, c12, c20, c22, ruW, putL, Nat.reduceLeDiff, xF, ruU, entryE, Nat.reduceLT, Nat.reduceAdd, Nat.reduceMul, Nat.reduceEqDiff]
    refine hco.to ?_
    cases cl with
    | false =>
     obtain rfl : false = B := by simpa using hi
     simp (maxDischargeDepth := 6) only [g0, g3, hb, hc, i1, b1, n1l, q1, q2, qk_old, c10, Bool.not_false, joinR_ret, Tryd.results44, ruW, putL, Nat.reduceLeDiff, xF, ruU, entryE, Nat.reduceLT, Nat.reduceAdd, Nat.reduceMul, Nat.reduceEqDiff]
     exact Fin.pureE rfl rfl
    | true =>
     simp (maxDischargeDepth := 6) only [g0, g3, hb, hc, i1, b1, n1l, q1, q2, qk_old, c10, c12, c20, c22, Bool.not_true, wrap_succ (show k < 1000000 by omega), ruW, putL, Nat.reduceLeDiff, xF, ruU, entryE, Nat.reduceLT, Nat.reduceAdd, Nat.reduceMul, Nat.reduceEqDiff]
     refine loopC_next ⟨k + 1, by omega, rfl, ?_, ?_, by omega, by simpa using hi⟩
     ·simp only [g0, ruU, entryE, Nat.reduceLT, Nat.reduceAdd, Nat.reduceMul, Nat.reduceEqDiff]
     ·simp only [ruU, entryE, Nat.reduceLT, Nat.reduceAdd, Nat.reduceMul, Nat.reduceEqDiff]
   ·simp (maxDischargeDepth := 6) only [g0, g3, hb, hc, i1, b1, n1l, q1, q2, qk_old, c10, c12, c20, c22, ruW, putL, Nat.reduceLeDiff, xF, ruU, entryE, Nat.reduceLT, Nat.reduceAdd, Nat.reduceMul, Nat.reduceEqDiff]
    refine hco.to ?_
    cases cl with
    | false =>
     obtain rfl : false = B := by simpa using hi
     simp (maxDischargeDepth := 6) only [g0, g3, hb, hc, i1, b1, n1l, q1, q2, qk_old, c20, Bool.not_false, joinR_ret, Tryd.results44, ruW, putL, Nat.reduceLeDiff, xF, ruU, entryE, Nat.reduceLT, Nat.reduceAdd, Nat.reduceMul, Nat.reduceEqDiff]
     exact Fin.pureE rfl rfl
    | true =>
     simp (maxDischargeDepth := 6) only [g0, g3, hb, hc, i1, b1, n1l, q1, q2, qk_old, c10, c12, c20, c22, Bool.not_true, wrap_succ (show k < 1000000 by omega), ruW, putL, Nat.reduceLeDiff, xF, ruU, entryE, Nat.reduceLT, Nat.reduceAdd, Nat.reduceMul, Nat.reduceEqDiff]
     have hws : IntKind.i64.wrap (((k + 1 : Nat) : Int) - 1) = (k : Int) := (wrap_sm (n := ((k + 1 : Nat) : Int) - 1) (by omega) (by omega)).trans (by omega)
     by_cases hlt1 : k + 1 < l.length
     ·have hc1 : decide (((k + 1 : Nat) : Int) = (l.length : Int)) = false := decide_eq_false (by omega)
      obtain ⟨r2, hr2⟩ : ∃ r, l[k + 1]? = some r := ⟨_, List.getElem?_eq_getElem hlt1⟩
      have hdr2 : l.drop (k + 1) = r2 :: l.drop (k + 1 + 1) := by
       rw [List.drop_eq_getElem_cons hlt1]
       rw [List.getElem?_eq_getElem hlt1] at hr2
       rw [Option.some.inj hr2]
      rw [hdr2] at hi
      have hi' : (decide (r2 = r1.look.ce (-1)) && wholeB (l.drop (k + 1 + 1))) = B := by simpa using hi
      have i2 := row_ia (n := n1) (off := o1) (s := s1) (cap := x1) (i := ((k + 1 : Nat) : Int)) rfl hlt1
      have q3 := row_load (e := t1) (o := p1) hr2 le1 tk1
      refine w_drawB [] [(4, 36)] (by kernel_rfl) (by kernel_rfl) (by kernel_rfl) fun ops anc hA hG => ?_
      simp only [all2_cons] at hG
      simp (maxDischargeDepth := 6) only [g0, g3, hb, hc1, i1, i2, b1, n1l, q2, q3, qk_old, hws, hG, Lk.val, Ce.val, Ce.cells, ruD, ruW, putL, Nat.reduceLeDiff, xF, ruU, entryE, Nat.reduceLT, Nat.reduceAdd, Nat.reduceMul, Nat.reduceEqDiff]
      obtain ⟨dq, hdq⟩ : ∃ x, decide (r2 = r1.look.ce (-1)) = x := ⟨_, rfl⟩
      rw [hdq] at hi'
      refine wd_eqS (ts := [3, 3, 3, 4, 4, 4]) (xs := r2.cells) (ys := (r1.look.ce (-1)).cells) (r := !dq) fl55 ag55 gd55 (by rw [ce_eqL, hdq]; rfl) (by simp only [ruU, entryE, Nat.reduceLT, Nat.reduceAdd, Nat.reduceMul, Nat.reduceEqDiff]) (by simp only [ruU, entryE, Nat.reduceLT, Nat.reduceAdd, Nat.reduceMul, Nat.reduceEqDiff]) (by decide) (by simp only [ruU, entryE, Nat.reduceLT, Nat.reduceAdd, Nat.reduceMul, Nat.reduceEqDiff]; rfl) (by simp only [ruU, entryE, Nat.reduceLT, Nat.reduceAdd, Nat.reduceMul, Nat.reduceEqDiff]; rfl) (ce_fits _) (ce_fits _) ?_
      cases dq with
      | true =>
       simp (maxDischargeDepth := 6) only [g0, g3, hG, Bool.not_true, wrap_succ (show k + 1 < 1000000 by omega), ruD, ruW, putL, Nat.reduceLeDiff, xF, ruU, entryE, Nat.reduceLT, Nat.reduceAdd, Nat.reduceMul, Nat.reduceEqDiff]
       refine loopC_next ⟨k + 1 + 1, by omega, rfl, ?_, ?_, by omega, by simpa using hi'⟩
       ·simp only [g0, ruU, entryE, Nat.reduceLT, Nat.reduceAdd, Nat.reduceMul, Nat.reduceEqDiff]
       ·simp only [ruU, entryE, Nat.reduceLT, Nat.reduceAdd, Nat.reduceMul, Nat.reduceEqDiff]
      | false =>
       obtain rfl : false = B := by simpa using hi'
       simp (maxDischargeDepth := 6) only [g0, g3, hG, Bool.not_false, joinR_ret, Tryd.results44, ruD, ruW, putL, Nat.reduceLeDiff, xF, ruU, entryE, Nat.reduceLT, Nat.reduceAdd, Nat.reduceMul, Nat.reduceEqDiff]
       exact Fin.pureE rfl rfl
     ·have hc1 : decide (((k + 1 : Nat) : Int) = (l.length : Int)) = true := decide_eq_true (by omega)
      rw [List.drop_eq_nil_of_le (by omega)] at hi
      obtain rfl : false = B := by simpa using hi
      refine w_drawB [] [(4, 36)] (by kernel_rfl) (by kernel_rfl) (by kernel_rfl) fun ops anc hA hG => ?_
      simp only [all2_cons] at hG
      simp (maxDischargeDepth := 6) only [g0, g3, hb, hc1, hG, joinR_ret, Tryd.results44, ruD, ruW, putL, Nat.reduceLeDiff, xF, ruU, entryE, Nat.reduceLT, Nat.reduceAdd, Nat.reduceMul, Nat.reduceEqDiff]
      exact Fin.pureE rfl rfl
 ·rintro E H' ⟨hH, rfl⟩
  rw [hH]
  simp (maxDischargeDepth := 6) only [Tryd.results44, ruW, putL, Nat.reduceLeDiff, xF, ruU, entryE, Nat.reduceLT, Nat.reduceAdd, Nat.reduceMul, Nat.reduceEqDiff]
  exact Fin.pure rfl
end Go.Proofs.YtaojjfebkldmnaaDoor
/- Valid rows of cells: what the reference's check of a row comes to: the same. -/
namespace Go.Proofs.YtaojjfebkldmnaaDoor
open Go.Ax
def Ce.nil : Ce := ⟨0, 0, 0, false, false, false⟩
def rowB : Ce → List Ce → Bool
 | h, [] => !decide (h.rune = -1)
 | h, c :: l => if (!colr c.look || (decide (h.rune = -1) && !decide (c = h)) || (!decide (h.rune = -1) && decide (cellsR c.rune = 0))) = true then false else
   rowB (if (!decide (h.rune = -1) && decide (cellsR c.rune = 2)) = true then c.look.ce (-1) else Ce.nil) l
theorem rowB_whole : ∀ (n : Nat) (l : List Ce), l.length ≤ n → rowB Ce.nil l = wholeB l
 | _, [], _ => rfl
 | n + 1, c :: l, hn => by
  have h0 : decide (Ce.nil.rune = -1) = false := rfl
  rw [rowB, wholeB_cons, h0]
  obtain ⟨m, hm⟩ : ∃ m, cellsR c.rune = m := ⟨_, rfl⟩
  obtain ⟨cl, hcl⟩ : ∃ x, colr c.look = x := ⟨_, rfl⟩
  rw [hm, hcl]
  simp only [Bool.false_and, Bool.not_false, Bool.true_and, Bool.or_false]
  rw [Bool.or_comm]
  by_cases hg : (decide (m = 0) || !cl) = true
  ·rw [if_pos hg, if_pos hg]
  ·rw [if_neg hg, if_neg hg]
   have hcl1 : cl = true := by cases cl <;> simp at hg ⊢
   by_cases h2 : m = 2
   ·rw [if_pos (decide_eq_true h2), if_pos h2]
    cases l with
    | nil => rfl
    | cons d l' =>
     have h1 : decide ((c.look.ce (-1)).rune = -1) = true := rfl
     rw [rowB, h1]
     simp only [Bool.true_and, Bool.not_true, Bool.false_and, Bool.or_false]
     by_cases hd : d = c.look.ce (-1)
     ·have hdl : colr d.look = true := by rw [hd, Lk.ce_look, hcl, hcl1]
      rw [hdl, decide_eq_true hd]
      simp only [Bool.not_true, Bool.or_self, Bool.false_eq_true, if_false, Bool.true_and]
      exact rowB_whole n l' (by simp only [List.length_cons] at hn; omega)
     ·rw [decide_eq_false hd]
      simp
   ·rw [if_neg (by simpa using h2), if_neg h2]
    exact rowB_whole n l (by simp only [List.length_cons] at hn; omega)
set_option maxHeartbeats 4000000 in
theorem row39_c (H : AHeap) (v : Value) (l : List Ce) (h : RowAt H v l) (hl : l.length < 1000000) : Pure 45 [v] H (.bool (wholeB l)) := by
 obtain ⟨b, hb⟩ : ∃ b, H.next = b := ⟨_, rfl⟩
 obtain ⟨B, hB⟩ : ∃ B, wholeB l = B := ⟨_, rfl⟩
 rw [hB]
 rw [← rowB_whole _ l (Nat.le_refl _)] at hB
 refine callS_fn mixed Tryd.func45 rfl Tryd.ntmps45 (Nat.le_of_ble_eq_true rfl) fun wf hsc => ?_
 have hok := wf.base
 have hbase : H.base ≤ b := hb ▸ wf.base
 simp (maxDischargeDepth := 6) only [hb, hbase, ruW, putL, Nat.reduceLeDiff, xF, ruU, entryE, Nat.reduceLT, Nat.reduceAdd, Nat.reduceMul, Nat.reduceEqDiff]
 generalize hX0 : ext H [_] = X0
 have m0 : Mod [] H X0 := hX0 ▸ Mod.ext wf.base
 have n0 : b < X0.next := by rw [← hX0, ext_next, hb]; simp
 have b0 : bk X0 (b + 0) = some ⟨55, false, Ce.nil.cells⟩ := by rw [← hX0, bk_at hb (by simp)]; rfl
 refine w_env fun E hE => ?_
 have g0 : E 0 = v := by rw [hE]; simp only [ruU, entryE, Nat.reduceLT, Nat.reduceAdd, Nat.reduceMul, Nat.reduceEqDiff]
 have g3 : E 3 = .pointer (some ⟨b + 0, 0, none⟩) := by rw [hE]; (simp only [ruU, entryE, Nat.reduceLT, Nat.reduceAdd, Nat.reduceMul, Nat.reduceEqDiff] <;> rfl)
 have g4 : E 4 = .int .i64 ((0 : Nat) : Int) := by rw [hE]; (simp only [ruU, entryE, Nat.reduceLT, Nat.reduceAdd, Nat.reduceMul, Nat.reduceEqDiff] <;> rfl)
 clear hE
 rw [Nat.add_zero] at g3 b0
 refine blockC_meet (fun E' X => Mod [] H X ∧ ∃ hc : Ce, bk X b = some ⟨55, false, hc.cells⟩ ∧ b < X.next ∧ E' 3 = .pointer (some ⟨b, 0, none⟩) ∧ B = !decide (hc.rune = -1)) ?_ ?_
 ·refine w_loop (fun (k : Nat × Ce) E' X => Mod [] H X ∧ bk X b = some ⟨55, false, k.2.cells⟩ ∧ b < X.next ∧ E' 0 = v ∧ E' 3 = .pointer (some ⟨b, 0, none⟩) ∧ E' 4 = .int .i64 (k.1 : Int) ∧ k.1 ≤ l.length ∧ rowB k.2 (l.drop k.1) = B) (fun k => l.length - k.1) (0, Ce.nil)
   ⟨m0, b0, n0, g0, g3, g4, Nat.zero_le _, hB⟩ ?_
  clear g0 g3 g4 E
  rintro ⟨k, hc⟩ E X ⟨mX, bX, bl, g0, g3, g4, hk, hi⟩
  simp only at bX g4 hk hi
  obtain ⟨x, hx⟩ : ∃ x, X.next = x := ⟨_, rfl⟩
  have hxb : X.base ≤ x := hx ▸ mX.ok hok
  have hX : RowAt X v l := h.of mX.next fun n hn => mX.get n (by
   rcases h with ⟨_, a, c, rfl⟩ | ⟨_, n', off, s, c, e, o, L, rfl, _, hlt, _⟩
   ·simp only [scbL, scb, Bool.and_true] at hsc
    cases a with
    | none => simp [idsV] at hn
    | some a => simp only [idsV, List.mem_singleton] at hn; subst hn; exact blt_lt hsc
   ·simp only [idsV, List.mem_singleton] at hn; subst hn; exact hlt) (by simp)
  rw [hx] at bl
  rw [show X = ext X [] from rfl]
  by_cases hkl : k = l.length
  ·have hc' : decide ((k : Int) < (l.length : Int)) = false := by simp [hkl]
   obtain ⟨a1, c1, e1⟩ := h.sl
   rw [e1] at g0
   simp (maxDischargeDepth := 6) only [g0, g3, g4, hc', ruW, putL, Nat.reduceLeDiff, xF, ruU, entryE, Nat.reduceLT, Nat.reduceAdd, Nat.reduceMul, Nat.reduceEqDiff]
   rw [List.drop_eq_nil_of_le (by omega), rowB] at hi
   exact joinR_normal ⟨mX, hc, bX, by rw [ext_next]; simpa [hx] using bl, by simp only [g3, ruU, entryE, Nat.reduceLT, Nat.reduceAdd, Nat.reduceMul, Nat.reduceEqDiff], hi.symm⟩
  ·have hlt : k < l.length := by omega
   have hc' : decide ((k : Int) < (l.length : Int)) = true := decide_eq_true (by omega)
   rcases hX with ⟨h', _⟩ | ⟨_, n1, o1, s1, x1, t1, p1, L1, rfl, b1, n1l, le1, tk1⟩
   ·rw [h'] at hlt; simp at hlt
   obtain ⟨r1, hr1⟩ : ∃ r, l[k]? = some r := ⟨_, List.getElem?_eq_getElem hlt⟩
   have i1 := row_ia (n := n1) (off := o1) (s := s1) (cap := x1) (i := (k : Int)) rfl hlt
   have q1 := row_load (e := t1) (o := p1) hr1 le1 tk1
   rw [hx] at n1l
   have hdr : l.drop k = r1 :: l.drop (k + 1) := by
    rw [List.drop_eq_getElem_cons hlt]
    rw [List.getElem?_eq_getElem hlt] at hr1
    rw [Option.some.inj hr1]
   rw [hdr, rowB] at hi
   obtain ⟨m, hm⟩ : ∃ m, cellsR r1.rune = m := ⟨_, rfl⟩
   obtain ⟨cl, hcl⟩ : ∃ y, colr r1.look = y := ⟨_, rfl⟩
   obtain ⟨hn, hhn⟩ : ∃ y, decide (hc.rune = -1) = y := ⟨_, rfl⟩
   obtain ⟨de, hde⟩ : ∃ y, decide (r1 = hc) = y := ⟨_, rfl⟩
   rw [hm, hcl, hhn, hde] at hi
   have hcell := bX
   simp only [Ce.cells] at hcell
   have fin : ∀ (c : Ce) (L : List Bl), Mod [] H (ext (uw X b 0 c.cells) L) ∧ bk (ext (uw X b 0 c.cells) L) b = some ⟨55, false, c.cells⟩ ∧ b < (ext (uw X b 0 c.cells) L).next := fun c L => by
    have m1 : Mod [] H (uw X b 0 c.cells) := mX.step (Mod.uw (W := [b]) (by simp)) hok (fun n hn => .inr (by simp only [List.mem_singleton] at hn; omega))
    refine ⟨m1.trans (Mod.ext (m1.ok hok)), ?_, ?_⟩
    ·rw [bk_old (by rw [uw_next, hx]; exact bl), bk_uw_eq, bX]
     rfl
    ·rw [ext_next, uw_next, hx]; omega
   simp (maxDischargeDepth := 6) only [g0, g3, g4, hx, hxb, hc', i1, b1, n1l, q1, qk_old, Ce.val, ruW, putL, Nat.reduceLeDiff, xF, ruU, entryE, Nat.reduceLT, Nat.reduceAdd, Nat.reduceMul, Nat.reduceEqDiff]
   have hlk := look39_c (ext X [⟨55, false, r1.cells⟩]) r1.look
   rw [hcl] at hlk
   simp only [Ce.cells] at hlk
   refine hlk.to ?_
   have hn2 : decide (¬ hc.rune = -1) = !hn := by rw [decide_not, hhn]
   have hwi := fun L => wide39_c (ext X L) r1.rune
   rw [hm] at hwi
   cases cl with
   | false =>
    obtain rfl : false = B := by simpa using hi
    simp (maxDischargeDepth := 6) only [Bool.not_false, joinR_ret, Tryd.results45, ruW, putL, Nat.reduceLeDiff, xF, ruU, entryE, Nat.reduceLT, Nat.reduceAdd, Nat.reduceMul, Nat.reduceEqDiff]
    exact Ax.Fin.mod rfl (mX.trans (Mod.ext (mX.ok hok))) rfl
   | true =>
    cases hn with
    | true =>
     simp (maxDischargeDepth := 6) only [hx, hxb, g3, hcell, bl, hhn, Bool.not_true, ruW, putL, Nat.reduceLeDiff, xF, ruU, entryE, Nat.reduceLT, Nat.reduceAdd, Nat.reduceMul, Nat.reduceEqDiff]
     refine w_eqS (ts := [3, 3, 3, 4, 4, 4]) (xs := r1.cells) (ys := hc.cells) (r := !de) fl55 ag55 gd55 (by rw [ce_eqL, hde]; rfl) (by simp only [ruU, entryE, Nat.reduceLT, Nat.reduceAdd, Nat.reduceMul, Nat.reduceEqDiff]) (by simp only [ruU, entryE, Nat.reduceLT, Nat.reduceAdd, Nat.reduceMul, Nat.reduceEqDiff]) (by decide) (by simp only [ruU, entryE, Nat.reduceLT, Nat.reduceAdd, Nat.reduceMul, Nat.reduceEqDiff]; rfl) (by simp only [ruU, entryE, Nat.reduceLT, Nat.reduceAdd, Nat.reduceMul, Nat.reduceEqDiff]; rfl) (ce_fits _) (ce_fits _) ?_
     cases de with
     | false =>
      obtain rfl : false = B := by simpa using hi
      simp (maxDischargeDepth := 6) only [Bool.not_false, joinR_ret, Tryd.results45, ruW, putL, Nat.reduceLeDiff, xF, ruU, entryE, Nat.reduceLT, Nat.reduceAdd, Nat.reduceMul, Nat.reduceEqDiff]
      exact Ax.Fin.mod rfl (mX.trans (Mod.ext (mX.ok hok))) rfl
     | true =>
      simp (maxDischargeDepth := 6) only [hx, hxb, g0, g3, g4, hcell, bl, hn2, Bool.not_true, wrap_succ (show k < 1000000 by omega), ruW, putL, Nat.reduceLeDiff, xF, ruU, entryE, Nat.reduceLT, Nat.reduceAdd, Nat.reduceMul, Nat.reduceEqDiff]
      obtain ⟨f1, f2, f3⟩ := fin Ce.nil [⟨55, false, r1.cells⟩, ⟨55, false, Ce.nil.cells⟩]
      refine loopC_next ⟨(k + 1, Ce.nil), by simp only; omega, f1, f2, f3, ?_, ?_, ?_, by simp only; omega, by simpa using hi⟩
      all_goals simp only [g0, g3, ruU, entryE, Nat.reduceLT, Nat.reduceAdd, Nat.reduceMul, Nat.reduceEqDiff]
    | false =>
     simp (maxDischargeDepth := 6) only [hx, hxb, g0, g3, g4, hcell, bl, hn2, hhn, Bool.not_true, Bool.not_false, ruW, putL, Nat.reduceLeDiff, xF, ruU, entryE, Nat.reduceLT, Nat.reduceAdd, Nat.reduceMul, Nat.reduceEqDiff]
     refine (hwi [⟨55, false, [.int .i64 r1.rune, .int .i64 r1.fore, .int .i64 r1.back, .bool r1.bold, .bool r1.under, .bool r1.inv]⟩]).to ?_
     have c00 : decide (((0 : Nat) : Int) = 0) = true := by decide
     have c10 : decide (((1 : Nat) : Int) = 0) = false := by decide
     have c12 : decide (((1 : Nat) : Int) = 2) = false := by decide
     have c20 : decide (((2 : Nat) : Int) = 0) = false := by decide
     have c22 : decide (((2 : Nat) : Int) = 2) = true := by decide
     rcases (hm ▸ cellsR_cases r1.rune : m = 0 ∨ m = 1 ∨ m = 2) with rfl | rfl | rfl
     ·obtain rfl : false = B := by simpa using hi
      simp (maxDischargeDepth := 6) only [c00, joinR_ret, Tryd.results45, ruW, putL, Nat.reduceLeDiff, xF, ruU, entryE, Nat.reduceLT, Nat.reduceAdd, Nat.reduceMul, Nat.reduceEqDiff]
      exact Ax.Fin.mod rfl (mX.trans (Mod.ext (mX.ok hok))) rfl
     ·simp (maxDischargeDepth := 6) only [c10, hx, hxb, g0, g3, g4, hcell, bl, hn2, hhn, Bool.not_true, Bool.not_false, ruW, putL, Nat.reduceLeDiff, xF, ruU, entryE, Nat.reduceLT, Nat.reduceAdd, Nat.reduceMul, Nat.reduceEqDiff]
      refine (hwi [⟨55, false, [.int .i64 r1.rune, .int .i64 r1.fore, .int .i64 r1.back, .bool r1.bold, .bool r1.under, .bool r1.inv]⟩, ⟨55, false, [.int .i64 0, .int .i64 0, .int .i64 0, .bool false, .bool false, .bool false]⟩]).to ?_
      simp (maxDischargeDepth := 6) only [c12, hx, hxb, g0, g3, g4, hcell, bl, hn2, hhn, Bool.not_true, Bool.not_false, wrap_succ (show k < 1000000 by omega), ruW, putL, Nat.reduceLeDiff, xF, ruU, entryE, Nat.reduceLT, Nat.reduceAdd, Nat.reduceMul, Nat.reduceEqDiff]
      obtain ⟨f1, f2, f3⟩ := fin Ce.nil [⟨55, false, r1.cells⟩, ⟨55, false, Ce.nil.cells⟩]
      refine loopC_next ⟨(k + 1, Ce.nil), by simp only; omega, f1, f2, f3, ?_, ?_, ?_, by simp only; omega, by simpa using hi⟩
      all_goals simp only [g0, g3, ruU, entryE, Nat.reduceLT, Nat.reduceAdd, Nat.reduceMul, Nat.reduceEqDiff]
     ·simp (maxDischargeDepth := 6) only [c20, hx, hxb, g0, g3, g4, hcell, bl, hn2, hhn, Bool.not_true, Bool.not_false, ruW, putL, Nat.reduceLeDiff, xF, ruU, entryE, Nat.reduceLT, Nat.reduceAdd, Nat.reduceMul, Nat.reduceEqDiff]
      refine (hwi [⟨55, false, [.int .i64 r1.rune, .int .i64 r1.fore, .int .i64 r1.back, .bool r1.bold, .bool r1.under, .bool r1.inv]⟩, ⟨55, false, [.int .i64 0, .int .i64 0, .int .i64 0, .bool false, .bool false, .bool false]⟩]).to ?_
      simp (maxDischargeDepth := 6) only [c22, hx, hxb, g0, g3, g4, hcell, bl, hn2, hhn, Bool.not_true, Bool.not_false, wrap_succ (show k < 1000000 by omega), ruW, putL, Nat.reduceLeDiff, xF, ruU, entryE, Nat.reduceLT, Nat.reduceAdd, Nat.reduceMul, Nat.reduceEqDiff]
      obtain ⟨f1, f2, f3⟩ := fin (r1.look.ce (-1)) [⟨55, false, r1.cells⟩, ⟨55, false, (r1.look.ce (-1)).cells⟩]
      refine loopC_next ⟨(k + 1, r1.look.ce (-1)), by simp only; omega, f1, f2, f3, ?_, ?_, ?_, by simp only; omega, by simpa using hi⟩
      all_goals simp only [g0, g3, ruU, entryE, Nat.reduceLT, Nat.reduceAdd, Nat.reduceMul, Nat.reduceEqDiff]
 ·rintro E X ⟨mX, hc, bX, bl, g3, hi⟩
  have hcell := bX
  simp only [Ce.cells] at hcell
  obtain ⟨d, hd⟩ : ∃ d, decide (hc.rune = -1) = d := ⟨_, rfl⟩
  rw [hd] at hi
  have hd2 : decide (¬ hc.rune = -1) = !d := by rw [decide_not, hd]
  rw [show X = ext X [] from rfl]
  simp (maxDischargeDepth := 6) only [g3, hcell, bl, hd2, Tryd.results45, ruW, putL, Nat.reduceLeDiff, xF, ruU, entryE, Nat.reduceLT, Nat.reduceAdd, Nat.reduceMul, Nat.reduceEqDiff]
  exact Ax.Fin.mod (by rw [hi]) mX rfl
end Go.Proofs.YtaojjfebkldmnaaDoor
/- What Check of diff and of its reference comes to: the same. -/
namespace Go.Proofs.YtaojjfebkldmnaaDoor
open Go.Ax
def okRow (W : Nat) (l : List Ce) : Bool := decide (l.length = W) && wholeB l
theorem narrow39_c (H : AHeap) (v : Value) (l : List Ce) (W bw : Nat) (hr : RowAt H v l) (hl : l.length < 1000000) (hb : bk H bw = some ⟨3, false, [.int .i64 (W : Int)]⟩) : Pure 43 [v, .pointer (some ⟨bw, 0, none⟩)] H (.bool (!okRow W l)) := by
 obtain ⟨b, hbn⟩ : ∃ b, H.next = b := ⟨_, rfl⟩
 obtain ⟨a, c, e⟩ := hr.sl
 obtain ⟨B, hB⟩ : ∃ B, wholeB l = B := ⟨_, rfl⟩
 obtain ⟨d, hd⟩ : ∃ d, decide (l.length = W) = d := ⟨_, rfl⟩
 have hd2 : decide (¬ (l.length : Int) = (W : Int)) = !d := by
  rw [← hd, decide_not]
  by_cases h : l.length = W
  ·rw [decide_eq_true h, decide_eq_true (by omega)]
  ·rw [decide_eq_false h, decide_eq_false (by omega)]
 have hwh := whole39_c (ext H []) v l hr hl
 rw [okRow, hB, hd]
 rw [e, hB] at hwh
 rw [e]
 refine callS_fn mixed Tryd.func43 rfl Tryd.ntmps43 (Nat.le_of_ble_eq_true rfl) fun wf hsc => ?_
 have hlt : bw < b := hbn ▸ wf.lt hb
 cases d with
 | false =>
  simp (maxDischargeDepth := 6) only [hbn, hb, hlt, hd2, Bool.not_false, Bool.false_and, Tryd.results43, ruW, putL, Nat.reduceLeDiff, xF, ruU, entryE, Nat.reduceLT, Nat.reduceAdd, Nat.reduceMul, Nat.reduceEqDiff]
  exact Fin.pureE rfl rfl
 | true =>
  simp (maxDischargeDepth := 6) only [hbn, hb, hlt, hd2, Bool.not_true, Bool.true_and, ruW, putL, Nat.reduceLeDiff, xF, ruU, entryE, Nat.reduceLT, Nat.reduceAdd, Nat.reduceMul, Nat.reduceEqDiff]
  refine hwh.to ?_
  simp (maxDischargeDepth := 6) only [Tryd.results43, ruW, putL, Nat.reduceLeDiff, xF, ruU, entryE, Nat.reduceLT, Nat.reduceAdd, Nat.reduceMul, Nat.reduceEqDiff]
  exact Fin.pureE rfl rfl
def badAt (W : Nat) : List (List Ce) → Option Nat
 | [] => none
 | l :: g => if okRow W l = true then (badAt W g).map (· + 1) else some 0
theorem badAt_drop (W : Nat) : ∀ (g : List (List Ce)) (k : Nat), (∀ i l, i < k → g[i]? = some l → okRow W l = true) → badAt W g = (badAt W (g.drop k)).map (· + k)
 | g, 0, _ => by simp
 | [], k + 1, _ => rfl
 | l :: g, k + 1, h => by
  rw [badAt, if_pos (h 0 l (Nat.succ_pos _) rfl), List.drop_succ_cons, badAt_drop W g k fun i l' hi hl => h (i + 1) l' (by omega) hl]
  cases badAt W (g.drop k) with
  | none => rfl
  | some m => simp only [oZ5]; congr 1
def okGrid (W : Nat) (g : List (List Ce)) : Bool := g.all (okRow W)
theorem badAt_ok (W : Nat) : ∀ (g : List (List Ce)), (badAt W g).isNone = okGrid W g
 | [] => rfl
 | l :: g => by
  rw [badAt, okGrid, List.all_cons]
  cases h : okRow W l with
  | false => simp
  | true => rw [if_pos rfl, Option.isNone_map, badAt_ok W g, okGrid, Bool.true_and]
def ixV : Option Nat → Int
 | none => -1
 | some n => n
theorem index39_c (H : AHeap) (v : Value) (g : List (List Ce)) (W bw : Nat) (hg : GridAt H v g) (hw : ∀ l ∈ g, l.length < 1000000) (hgl : g.length < 1000000) (hbw : bk H bw = some ⟨3, false, [.int .i64 (W : Int)]⟩) :
  Pure 61 [v, .func (.func 43) ⟨[]⟩ ⟨[.pointer (some ⟨bw, 0, none⟩)]⟩] H (.int .i64 (ixV (badAt W g))) := by
 obtain ⟨b, hb⟩ : ∃ b, H.next = b := ⟨_, rfl⟩
 refine callS_fn mixed Tryd.func61 rfl Tryd.ntmps61 (Nat.le_of_ble_eq_true rfl) fun wf hsc => ?_
 obtain ⟨a1, c1, e1⟩ := hg.sl
 rw [e1]
 simp (maxDischargeDepth := 6) only [ruW, putL, Nat.reduceLeDiff, xF, ruU, entryE, Nat.reduceLT, Nat.reduceAdd, Nat.reduceMul, Nat.reduceEqDiff]
 rw [← e1]
 refine w_env fun E hE => ?_
 have g0 : E 0 = v := by rw [hE]; simp only [ruU, entryE, Nat.reduceLT, Nat.reduceAdd, Nat.reduceMul, Nat.reduceEqDiff]
 have g1 : E 1 = .func (.func 43) ⟨[]⟩ ⟨[.pointer (some ⟨bw, 0, none⟩)]⟩ := by rw [hE]; simp only [ruU, entryE, Nat.reduceLT, Nat.reduceAdd, Nat.reduceMul, Nat.reduceEqDiff]
 have g7 : E 7 = .int .i64 (g.length : Int) := by rw [hE]; simp only [ruU, entryE, Nat.reduceLT, Nat.reduceAdd, Nat.reduceMul, Nat.reduceEqDiff]
 have g8 : E 8 = .int .i64 ((0 : Nat) : Int) := by rw [hE]; (simp only [ruU, entryE, Nat.reduceLT, Nat.reduceAdd, Nat.reduceMul, Nat.reduceEqDiff] <;> rfl)
 clear hE
 refine blockC_meet (fun E' H' => H' = ext H [] ∧ badAt W g = none) ?_ ?_
 ·refine w_loop (fun (k : Nat) E' H' => H' = ext H [] ∧ E' 0 = v ∧ E' 1 = .func (.func 43) ⟨[]⟩ ⟨[.pointer (some ⟨bw, 0, none⟩)]⟩ ∧ E' 7 = .int .i64 (g.length : Int) ∧ E' 8 = .int .i64 (k : Int) ∧ k ≤ g.length ∧ ∀ i l, i < k → g[i]? = some l → okRow W l = true) (fun k => g.length - k) 0
   ⟨rfl, g0, g1, g7, g8, Nat.zero_le _, fun i l hi => by omega⟩ ?_
  clear g0 g1 g7 g8
  rintro k E H' ⟨hH, g0, g1, g7, g8, hk, hpre⟩
  rw [hH]
  have hbd := badAt_drop W g k hpre
  by_cases hkl : k = g.length
  ·have hc : decide ((k : Int) < (g.length : Int)) = false := by simp [hkl]
   simp (maxDischargeDepth := 6) only [g0, g1, g7, g8, hc, ruW, putL, Nat.reduceLeDiff, xF, ruU, entryE, Nat.reduceLT, Nat.reduceAdd, Nat.reduceMul, Nat.reduceEqDiff]
   rw [List.drop_eq_nil_of_le (by omega)] at hbd
   exact joinR_normal ⟨rfl, hbd⟩
  ·have hlt : k < g.length := by omega
   have hc : decide ((k : Int) < (g.length : Int)) = true := decide_eq_true (by omega)
   rcases hg with ⟨h, _⟩ | ⟨_, n1, o1, s1, x1, t1, p1, L1, rfl, b1, n1l, le1, tk1⟩
   ·rw [h] at hlt; simp at hlt
   obtain ⟨w1, hr1⟩ : ∃ r, g[k]? = some r := ⟨_, List.getElem?_eq_getElem hlt⟩
   obtain ⟨u1, hu1, ra1⟩ := tk1 k w1 hr1
   have i1 := grid_ia (n := n1) (off := o1) (s := s1) (cap := x1) (i := (k : Int)) rfl hlt
   have q1 := grid_load (e := t1) (o := p1) hu1
   rw [hb] at n1l
   have hna := narrow39_c (ext H []) u1 w1 W bw ra1 (hw w1 (List.mem_of_getElem? hr1)) hbw
   obtain ⟨d, hd⟩ : ∃ d, okRow W w1 = d := ⟨_, rfl⟩
   rw [hd] at hna
   have hdr : g.drop k = w1 :: g.drop (k + 1) := by
    rw [List.drop_eq_getElem_cons hlt]
    rw [List.getElem?_eq_getElem hlt] at hr1
    rw [Option.some.inj hr1]
   rw [hdr, badAt, hd] at hbd
   simp (maxDischargeDepth := 6) only [g0, g1, g7, g8, hb, hc, i1, b1, n1l, q1, qk_old, ruW, putL, Nat.reduceLeDiff, xF, ruU, entryE, Nat.reduceLT, Nat.reduceAdd, Nat.reduceMul, Nat.reduceEqDiff]
   refine w_callV (f := 43) (ca := [.pointer (some ⟨bw, 0, none⟩)]) (by simp only [ruU, entryE, Nat.reduceLT, Nat.reduceAdd, Nat.reduceMul, Nat.reduceEqDiff]) (by simp only [g1, ruU, entryE, Nat.reduceLT, Nat.reduceAdd, Nat.reduceMul, Nat.reduceEqDiff]) (by simp only [ruU, entryE, Nat.reduceLT, Nat.reduceAdd, Nat.reduceMul, Nat.reduceEqDiff]) (by kernel_rfl) ?_
   simp only [ruU, entryE, Nat.reduceLT, Nat.reduceAdd, Nat.reduceMul, Nat.reduceEqDiff]
   refine (show CallS Tryd.prog 43 _ (ext H []) _ (ext H []) from hna).to ?_
   cases d with
   | true =>
    simp (maxDischargeDepth := 6) only [g0, g1, g7, g8, Bool.not_true, wrap_succ (show k < 1000000 by omega), ruW, putL, Nat.reduceLeDiff, xF, ruU, entryE, Nat.reduceLT, Nat.reduceAdd, Nat.reduceMul, Nat.reduceEqDiff]
    refine loopC_next ⟨k + 1, by omega, rfl, ?_, ?_, ?_, ?_, by omega, fun i l hi hl => ?_⟩
    ·simp only [g0, ruU, entryE, Nat.reduceLT, Nat.reduceAdd, Nat.reduceMul, Nat.reduceEqDiff]
    ·simp only [g1, ruU, entryE, Nat.reduceLT, Nat.reduceAdd, Nat.reduceMul, Nat.reduceEqDiff]
    ·simp only [g7, ruU, entryE, Nat.reduceLT, Nat.reduceAdd, Nat.reduceMul, Nat.reduceEqDiff]
    ·simp only [g8, ruU, entryE, Nat.reduceLT, Nat.reduceAdd, Nat.reduceMul, Nat.reduceEqDiff]
    ·rcases Nat.lt_or_ge i k with h | h
     ·exact hpre i l h hl
     ·obtain rfl : i = k := by omega
      rw [hr1] at hl
      cases hl
      exact hd
   | false =>
    have hbd' : badAt W g = some k := by simpa using hbd
    simp (maxDischargeDepth := 6) only [g0, g1, g7, g8, Bool.not_false, joinR_ret, Tryd.results61, ruW, putL, Nat.reduceLeDiff, xF, ruU, entryE, Nat.reduceLT, Nat.reduceAdd, Nat.reduceMul, Nat.reduceEqDiff]
    exact Fin.pureE (by rw [hbd']; rfl) rfl
 ·rintro E H' ⟨hH, hbd⟩
  rw [hH]
  simp (maxDischargeDepth := 6) only [Tryd.results61, ruW, putL, Nat.reduceLeDiff, xF, ruU, entryE, Nat.reduceLT, Nat.reduceAdd, Nat.reduceMul, Nat.reduceEqDiff]
  exact Fin.pureE (by rw [hbd]; rfl) rfl
theorem contains39_c (H : AHeap) (v : Value) (g : List (List Ce)) (W bw : Nat) (hg : GridAt H v g) (hw : ∀ l ∈ g, l.length < 1000000) (hgl : g.length < 1000000) (hbw : bk H bw = some ⟨3, false, [.int .i64 (W : Int)]⟩) :
  Pure 42 [v, .func (.func 43) ⟨[]⟩ ⟨[.pointer (some ⟨bw, 0, none⟩)]⟩] H (.bool (!okGrid W g)) := by
 have hi := index39_c (ext H []) v g W bw hg hw hgl hbw
 have hok := badAt_ok W g
 obtain ⟨r, hr⟩ : ∃ r, badAt W g = r := ⟨_, rfl⟩
 rw [hr] at hi hok
 rw [← hok]
 refine callS_fn mixed Tryd.func42 rfl Tryd.ntmps42 (Nat.le_of_ble_eq_true rfl) fun wf hsc => ?_
 simp (maxDischargeDepth := 6) only [ruW, putL, Nat.reduceLeDiff, xF, ruU, entryE, Nat.reduceLT, Nat.reduceAdd, Nat.reduceMul, Nat.reduceEqDiff]
 refine hi.to ?_
 have hd : decide ((0 : Int) ≤ ixV r) = !r.isNone := by
  cases r with
  | none => rfl
  | some n => exact decide_eq_true (Int.natCast_nonneg n)
 simp (maxDischargeDepth := 6) only [hd, Tryd.results42, ruW, putL, Nat.reduceLeDiff, xF, ruU, entryE, Nat.reduceLT, Nat.reduceAdd, Nat.reduceMul, Nat.reduceEqDiff]
 exact Fin.pure rfl
end Go.Proofs.YtaojjfebkldmnaaDoor
/- The walks of Check: diff's and the reference's come to the same. -/
namespace Go.Proofs.YtaojjfebkldmnaaDoor
open Go.Ax
def widG (g : List (List Ce)) : Nat := (g.getD 0 []).length
def chkR (g : List (List Ce)) (r c : Int) : Int :=
 cond (decide ((g.length : Int) < 1) || decide (200 < (g.length : Int))) 3
  (cond (decide ((widG g : Int) < 1) || decide (1000 < (widG g : Int)) || (!(decide (0 ≤ r) && decide (r < (g.length : Int)) && decide (0 ≤ c) && decide (c < (widG g : Int))) && !(decide (r = -1) && decide (c = 0)))) 3
   (cond (okGrid (widG g) g) 0 5))
set_option maxHeartbeats 8000000 in
theorem check39_c (H : AHeap) (v : Value) (g : List (List Ce)) (r c : Int) (hg : GridAt H v g) (hw : ∀ l ∈ g, l.length < 1000000) (hgl : g.length < 1000000) :
  Pure 16 [.agg ⟨[v, .int .i64 r, .int .i64 c]⟩] H (.int .i64 (chkR g r c)) := by
 obtain ⟨b, hb⟩ : ∃ b, H.next = b := ⟨_, rfl⟩
 obtain ⟨h, hh⟩ : ∃ h, g.length = h := ⟨_, rfl⟩
 obtain ⟨W, hW⟩ : ∃ W, widG g = W := ⟨_, rfl⟩
 obtain ⟨dh1, k1⟩ : ∃ d, decide ((h : Int) < 1) = d := ⟨_, rfl⟩
 obtain ⟨dh2, k2⟩ : ∃ d, decide ((200 : Int) < (h : Int)) = d := ⟨_, rfl⟩
 obtain ⟨dW1, k3⟩ : ∃ d, decide ((W : Int) < 1) = d := ⟨_, rfl⟩
 obtain ⟨dW2, k4⟩ : ∃ d, decide ((1000 : Int) < (W : Int)) = d := ⟨_, rfl⟩
 obtain ⟨d1, h1⟩ : ∃ d, decide ((0 : Int) ≤ r) = d := ⟨_, rfl⟩
 obtain ⟨d2, h2⟩ : ∃ d, decide (r < (h : Int)) = d := ⟨_, rfl⟩
 obtain ⟨d3, h3⟩ : ∃ d, decide ((0 : Int) ≤ c) = d := ⟨_, rfl⟩
 obtain ⟨d4, h4⟩ : ∃ d, decide (c < (W : Int)) = d := ⟨_, rfl⟩
 obtain ⟨d5, h5⟩ : ∃ d, decide (r = -1) = d := ⟨_, rfl⟩
 obtain ⟨d6, h6⟩ : ∃ d, decide (c = 0) = d := ⟨_, rfl⟩
 obtain ⟨B, hB⟩ : ∃ B, okGrid W g = B := ⟨_, rfl⟩
 have h5' : decide (¬ r = -1) = !d5 := by rw [decide_not, h5]
 have h6' : decide (¬ c = 0) = !d6 := by rw [decide_not, h6]
 rw [chkR, hh, hW, k1, k2, k3, k4, h1, h2, h3, h4, h5, h6, hB]
 refine callS_fn mixed Tryd.func16 rfl Tryd.ntmps16 (Nat.le_of_ble_eq_true rfl) fun wf hsc => ?_
 have hbase : H.base ≤ b := hb ▸ wf.base
 have hg' := hg
 obtain ⟨a0, c0, e0⟩ := hg.sl
 have hscv : scb b v = true := by
  simp only [scbL, scb, scbA, Bool.and_eq_true, hb] at hsc
  exact hsc.1.1
 rw [e0, hh] at hscv
 cases dh1 with
 | true =>
  rw [e0, hh]
  simp (maxDischargeDepth := 6) only [hb, hbase, hscv, k1, Tryd.results16, ruW, putL, Nat.reduceLeDiff, xF, ruU, entryE, Nat.reduceLT, Nat.reduceAdd, Nat.reduceMul, Nat.reduceEqDiff]
  exact Fin.pureE rfl rfl
 | false =>
  cases dh2 with
  | true =>
   rw [e0, hh]
   simp (maxDischargeDepth := 6) only [hb, hbase, hscv, k1, k2, Tryd.results16, ruW, putL, Nat.reduceLeDiff, xF, ruU, entryE, Nat.reduceLT, Nat.reduceAdd, Nat.reduceMul, Nat.reduceEqDiff]
   exact Fin.pureE rfl rfl
  | false =>
   have hpos : 0 < g.length := by have := of_decide_eq_false k1; omega
   rcases hg with ⟨h', _⟩ | ⟨_, n1, o1, s1, x1, t1, p1, L1, rfl, b1, n1l, le1, tk1⟩
   ·rw [h'] at hpos; simp at hpos
   obtain ⟨r0, hr0⟩ : ∃ q, g[0]? = some q := ⟨_, List.getElem?_eq_getElem hpos⟩
   obtain ⟨u0, hu0, ra0⟩ := tk1 0 r0 hr0
   obtain ⟨a0', k0, e0'⟩ := ra0.sl
   have hl0 : r0.length = W := by rw [← hW, widG, List.getD_eq_getElem?_getD, hr0]; rfl
   rw [hl0] at e0'
   rw [e0'] at hu0
   have i1 := grid_ia (n := n1) (off := o1) (s := s1) (cap := x1) (i := ((0 : Nat) : Int)) rfl hpos
   rw [show ((0 : Nat) : Int) = 0 from rfl] at i1
   have q1 := grid_load (e := t1) (o := p1) hu0
   rw [Nat.add_zero] at q1 i1
   rw [hh] at i1 hg' ⊢
   have hlt := n1l
   rw [hb] at hlt
   have hB1 : ∀ A : Bl, bk (ext H [A, ⟨3, false, [.int .i64 (W : Int)]⟩]) (b + 1) = some ⟨3, false, [.int .i64 (W : Int)]⟩ := fun A => by rw [bk_at hb (by simp)]; rfl
   have hct := contains39_c (ext H [⟨24, false, [.slice (some ⟨n1, o1, s1⟩) h x1, .int .i64 r, .int .i64 c]⟩, ⟨3, false, [.int .i64 (W : Int)]⟩]) _ g W (b + 1) hg'.ext hw hgl (hB1 _)
   rw [hB] at hct
   have hs : (d1 = true ∧ d2 = true ∧ d3 = true ∧ d4 = true) ∨ d1 = false ∨ (d1 = true ∧ d2 = false) ∨ (d1 = true ∧ d2 = true ∧ d3 = false) ∨ (d1 = true ∧ d2 = true ∧ d3 = true ∧ d4 = false) := by
    cases d1 <;> cases d2 <;> cases d3 <;> cases d4 <;> simp
   have hws : dW1 = true ∨ (dW1 = false ∧ dW2 = true) ∨ (dW1 = false ∧ dW2 = false) := by cases dW1 <;> cases dW2 <;> simp
   have hns : d5 = false ∨ (d5 = true ∧ d6 = false) ∨ (d5 = true ∧ d6 = true) := by cases d5 <;> cases d6 <;> simp
   rcases hws with rfl | ⟨rfl, rfl⟩ | ⟨rfl, rfl⟩
   ·rcases hs with ⟨rfl, rfl, rfl, rfl⟩ | rfl | ⟨rfl, rfl⟩ | ⟨rfl, rfl, rfl⟩ | ⟨rfl, rfl, rfl, rfl⟩
    all_goals (simp (maxDischargeDepth := 6) only [hb, hbase, hlt, b1, i1, q1, qk_old, k1, k2, k3, k4, h1, h2, h3, h4, Tryd.results16, ruW, putL, Nat.reduceLeDiff, xF, ruU, entryE, Nat.reduceLT, Nat.reduceAdd, Nat.reduceMul, Nat.reduceEqDiff]; exact Fin.pureE rfl rfl)
   ·rcases hs with ⟨rfl, rfl, rfl, rfl⟩ | rfl | ⟨rfl, rfl⟩ | ⟨rfl, rfl, rfl⟩ | ⟨rfl, rfl, rfl, rfl⟩
    all_goals (simp (maxDischargeDepth := 6) only [hb, hbase, hlt, b1, i1, q1, qk_old, k1, k2, k3, k4, h1, h2, h3, h4, Tryd.results16, ruW, putL, Nat.reduceLeDiff, xF, ruU, entryE, Nat.reduceLT, Nat.reduceAdd, Nat.reduceMul, Nat.reduceEqDiff]; exact Fin.pureE rfl rfl)
   ·rcases hs with ⟨rfl, rfl, rfl, rfl⟩ | hs
    ·simp (maxDischargeDepth := 6) only [hb, hbase, hlt, b1, i1, q1, qk_old, k1, k2, k3, k4, h1, h2, h3, h4, h5', h6', Bool.not_true, Bool.not_false, ruW, putL, Nat.reduceLeDiff, xF, ruU, entryE, Nat.reduceLT, Nat.reduceAdd, Nat.reduceMul, Nat.reduceEqDiff]
     refine hct.to ?_
     cases B with
     | true => simp (maxDischargeDepth := 6) only [Bool.not_true, Tryd.results16, ruW, putL, Nat.reduceLeDiff, xF, ruU, entryE, Nat.reduceLT, Nat.reduceAdd, Nat.reduceMul, Nat.reduceEqDiff]; exact Fin.pureE rfl rfl
     | false => simp (maxDischargeDepth := 6) only [Bool.not_false, Tryd.results16, ruW, putL, Nat.reduceLeDiff, xF, ruU, entryE, Nat.reduceLT, Nat.reduceAdd, Nat.reduceMul, Nat.reduceEqDiff]; exact Fin.pureE rfl rfl
    rcases hs with rfl | ⟨rfl, rfl⟩ | ⟨rfl, rfl, rfl⟩ | ⟨rfl, rfl, rfl, rfl⟩
    all_goals rcases hns with rfl | ⟨rfl, rfl⟩ | ⟨rfl, rfl⟩
    all_goals simp (maxDischargeDepth := 6) only [hb, hbase, hlt, b1, i1, q1, qk_old, k1, k2, k3, k4, h1, h2, h3, h4, h5', h6', Bool.not_true, Bool.not_false, Tryd.results16, ruW, putL, Nat.reduceLeDiff, xF, ruU, entryE, Nat.reduceLT, Nat.reduceAdd, Nat.reduceMul, Nat.reduceEqDiff]
    all_goals first
     | exact Fin.pureE rfl rfl
     | (refine hct.to ?_
        cases B with
        | true => simp (maxDischargeDepth := 6) only [Bool.not_true, Tryd.results16, ruW, putL, Nat.reduceLeDiff, xF, ruU, entryE, Nat.reduceLT, Nat.reduceAdd, Nat.reduceMul, Nat.reduceEqDiff]; exact Fin.pureE rfl rfl
        | false => simp (maxDischargeDepth := 6) only [Bool.not_false, Tryd.results16, ruW, putL, Nat.reduceLeDiff, xF, ruU, entryE, Nat.reduceLT, Nat.reduceAdd, Nat.reduceMul, Nat.reduceEqDiff]; exact Fin.pureE rfl rfl)
end Go.Proofs.YtaojjfebkldmnaaDoor
/- What slices.Clone makes of a row. -/
namespace Go.Proofs.YtaojjfebkldmnaaDoor
open Go.Ax
theorem cloneRow_c (H : AHeap) (v : Value) (l : List Ce) (hr : RowAt H v l) (hne : l ≠ []) (hok : H.base ≤ H.next) (hlen : l.length ≤ 10000) :
  CallA Tryd.prog 67 [v] H (fun out X => ∃ u, out = .ok u ∧ OwnRow H.next X u l ∧ Mod [] H X) := by
 obtain ⟨b, hb⟩ : ∃ b, H.next = b := ⟨_, rfl⟩
 have hbase : H.base ≤ b := hb ▸ hok
 have hk : bk (ext H [⟨55, false, []⟩]) (b + 0) = some ⟨55, false, []⟩ := by rw [bk_at hb (by simp)]; rfl
 obtain ⟨u, G, hap, hu, hm, hid⟩ := row_copy (G := ext H [⟨55, false, []⟩]) hk (by rw [ext_next, hb]; simp) ((Mod.ext (W := []) hok).ok hok) hr.ext hlen
 rcases hr with ⟨h, _⟩ | ⟨_, n, off, s, c, e, o, L, rfl, hbn, hnl, hle, ht⟩
 ·exact absurd h hne
 rw [hb] at hnl
 refine callE_fn mixed Tryd.func67 rfl Tryd.ntmps67 (Nat.le_of_ble_eq_true rfl) ?_
 simp (maxDischargeDepth := 6) only [hb, hbase, hnl, hap, Tryd.results67, ruW, putL, Nat.reduceLeDiff, xF, ruU, entryE, Nat.reduceLT, Nat.reduceAdd, Nat.reduceMul, Nat.reduceEqDiff]
 refine ⟨u, rfl, ?_, ?_⟩
 ·obtain ⟨m, s', c', o', e', h1, h2, h3⟩ := hu
  exact ⟨m, s', c', o', e', h1, by omega, h3⟩
 ·exact (Mod.ext (W := []) hok).step hm hok (fun m hm => by simp only [List.mem_singleton] at hm; exact .inr (by omega))
end Go.Proofs.YtaojjfebkldmnaaDoor
/- What diff's clone of a screen comes to. -/
namespace Go.Proofs.YtaojjfebkldmnaaDoor
open Go.Ax
set_option maxHeartbeats 4000000 in
theorem clone39_c (H : AHeap) (v : Value) (g : List (List Ce)) (r c : Int) (hg : GridAt H v g) (hok : H.base ≤ H.next) (hs : scb H.next v = true) (hne : ∀ l ∈ g, l ≠ []) (hw : ∀ l ∈ g, l.length ≤ 10000) (hgl : g.length ≤ 10000) :
  CallA Tryd.prog 48 [.agg ⟨[v, .int .i64 r, .int .i64 c]⟩] H (fun out X => ∃ u rvs, out = .ok (.agg ⟨[u, .int .i64 r, .int .i64 c]⟩) ∧ Grow H.next X u rvs g ∧ Mod [] H X) := by
 obtain ⟨b, hb⟩ : ∃ b, H.next = b := ⟨_, rfl⟩
 have hbase : H.base ≤ b := hb ▸ hok
 obtain ⟨a0, c0, e0⟩ := hg.sl
 rw [hb] at hs
 have hs' := hs
 rw [e0] at hs
 refine callE_fn mixed Tryd.func48 rfl Tryd.ntmps48 (Nat.le_of_ble_eq_true rfl) ?_
 rw [e0]
 simp (maxDischargeDepth := 6) only [hb, hbase, hs, ruW, putL, Nat.reduceLeDiff, xF, ruU, entryE, Nat.reduceLT, Nat.reduceAdd, Nat.reduceMul, Nat.reduceEqDiff]
 rw [← e0]
 refine w_env fun E hE => ?_
 have g1 : E 1 = .pointer (some ⟨b + 0, 0, none⟩) := by rw [hE]; simp only [ruU, entryE, Nat.reduceLT, Nat.reduceAdd, Nat.reduceMul, Nat.reduceEqDiff]
 have g2 : E 2 = .pointer (some ⟨b + 1, 0, none⟩) := by rw [hE]; simp only [ruU, entryE, Nat.reduceLT, Nat.reduceAdd, Nat.reduceMul, Nat.reduceEqDiff]
 have g9 : E 9 = v := by rw [hE, e0]; simp only [ruU, entryE, Nat.reduceLT, Nat.reduceAdd, Nat.reduceMul, Nat.reduceEqDiff]
 have g10 : E 10 = .int .i64 (g.length : Int) := by rw [hE]; simp only [ruU, entryE, Nat.reduceLT, Nat.reduceAdd, Nat.reduceMul, Nat.reduceEqDiff]
 have g11 : E 11 = .int .i64 ((0 : Nat) : Int) := by rw [hE]; (simp only [ruU, entryE, Nat.reduceLT, Nat.reduceAdd, Nat.reduceMul, Nat.reduceEqDiff] <;> rfl)
 clear hE
 generalize hX0 : ext H _ = X0
 have m0 : Mod [] H X0 := hX0 ▸ Mod.ext hok
 have n0 : X0.next = b + 2 := by rw [← hX0, ext_next, hb]; rfl
 have k0 : bk X0 (b + 0) = some ⟨24, false, [.slice none 0 0, .int .i64 r, .int .i64 c]⟩ := by rw [← hX0, bk_at hb (by simp)]; rfl
 have k1 : bk X0 (b + 1) = some ⟨24, false, [.slice none 0 0, .int .i64 0, .int .i64 0]⟩ := by rw [← hX0, bk_at hb (by simp)]; rfl
 clear hX0
 refine blockC_meet (fun E' X => ∃ u rvs, Mod [] H X ∧ b + 2 ≤ X.next ∧ bk X (b + 1) = some ⟨24, false, [.slice none 0 0, .int .i64 0, .int .i64 0]⟩ ∧ bk X (b + 0) = some ⟨24, false, [u, .int .i64 r, .int .i64 c]⟩ ∧ Grow (b + 2) X u rvs g ∧ E' 1 = .pointer (some ⟨b + 0, 0, none⟩) ∧ E' 2 = .pointer (some ⟨b + 1, 0, none⟩)) ?_ ?_
 ·refine w_loop (fun (k : Nat × Value × List Value) E' X => Mod [] H X ∧ b + 2 ≤ X.next ∧ bk X (b + 1) = some ⟨24, false, [.slice none 0 0, .int .i64 0, .int .i64 0]⟩ ∧ bk X (b + 0) = some ⟨24, false, [k.2.1, .int .i64 r, .int .i64 c]⟩ ∧ Grow (b + 2) X k.2.1 k.2.2 (g.take k.1) ∧ k.1 ≤ g.length ∧ E' 1 = .pointer (some ⟨b + 0, 0, none⟩) ∧ E' 2 = .pointer (some ⟨b + 1, 0, none⟩) ∧ E' 9 = v ∧ E' 10 = .int .i64 (g.length : Int) ∧ E' 11 = .int .i64 (k.1 : Int)) (fun k => g.length - k.1) (0, .slice none 0 0, [])
   ⟨m0, by omega, k1, k0, Grow.nil, Nat.zero_le _, g1, g2, g9, g10, g11⟩ ?_
  clear g1 g2 g9 g10 g11 k0 k1 n0 m0
  rintro ⟨k, u, rvs⟩ E X ⟨mX, xl, k1, k0, gr, hk, g1, g2, g9, g10, g11⟩
  simp only at k0 k1 gr hk g11
  obtain ⟨x, hx⟩ : ∃ x, X.next = x := ⟨_, rfl⟩
  have okX := mX.ok hok
  have hxb : X.base ≤ x := hx ▸ okX
  rw [hx] at xl
  have l0 : b + 0 < x := by omega
  rw [show X = ext X [] from rfl]
  by_cases hkl : k = g.length
  ·have hc : decide ((k : Int) < (g.length : Int)) = false := by simp [hkl]
   simp (maxDischargeDepth := 6) only [g1, g2, g10, g11, hc, ruW, putL, Nat.reduceLeDiff, xF, ruU, entryE, Nat.reduceLT, Nat.reduceAdd, Nat.reduceMul, Nat.reduceEqDiff]
   rw [hkl, List.take_length] at gr
   exact joinR_normal ⟨u, rvs, mX, by rw [ext_next, hx]; simpa using xl, k1, k0, gr, by simp only [g1, ruU, entryE, Nat.reduceLT, Nat.reduceAdd, Nat.reduceMul, Nat.reduceEqDiff], by simp only [g2, ruU, entryE, Nat.reduceLT, Nat.reduceAdd, Nat.reduceMul, Nat.reduceEqDiff]⟩
  ·have hlt : k < g.length := by omega
   have hc : decide ((k : Int) < (g.length : Int)) = true := decide_eq_true (by omega)
   obtain ⟨w1, hr1⟩ : ∃ r, g[k]? = some r := ⟨_, List.getElem?_eq_getElem hlt⟩
   rcases hg with ⟨h, _⟩ | ⟨_, n1, o1, s1, x1, t1, p1, L1, ev, b1, n1l, le1, tk1⟩
   ·rw [h] at hlt; simp at hlt
   subst ev
   obtain ⟨u1, hu1, ra1⟩ := tk1 k w1 hr1
   have hw1 : w1 ≠ [] := hne w1 (List.mem_of_getElem? hr1)
   have i1 := grid_ia (n := n1) (off := o1) (s := s1) (cap := x1) (i := (k : Int)) rfl hlt
   have q1 := grid_load (e := t1) (o := p1) hu1
   have b1X : rk X n1 = some ⟨t1, p1, L1⟩ := (rk_get (mX.get n1 n1l (by simp))).trans b1
   have raX : RowAt X u1 w1 := ra1.of mX.next fun m hm => mX.get m (ra1.ne hw1 m hm).2 (by simp)
   have n1x : n1 < x := by have := mX.next; omega
   obtain ⟨au, eu⟩ := gr.at_.len
   simp (maxDischargeDepth := 6) only [g1, g2, g9, g10, g11, hx, n1x, i1, b1X, q1, qk_old, hc, ruW, putL, Nat.reduceLeDiff, xF, ruU, entryE, Nat.reduceLT, Nat.reduceAdd, Nat.reduceMul, Nat.reduceEqDiff]
   refine w_drawB [(4, 3), (5, 1), (5, 3), (5, 4), (7, 1), (7, 3), (7, 4), (7, 5)] [] (by kernel_rfl) (by kernel_rfl) rfl fun ops anc hA hG => ?_
   simp only [all2_cons] at hA
   simp (maxDischargeDepth := 6) only [g1, g2, g9, g10, g11, hx, hxb, l0, k0, hA, ruD, ruW, putL, Nat.reduceLeDiff, xF, ruU, entryE, Nat.reduceLT, Nat.reduceAdd, Nat.reduceMul, Nat.reduceEqDiff]
   have hFu : ∀ n ∈ idsV u1, X.get n ≠ none ∧ n < X.next := raX.ne hw1
   have hrn := restrict_next X (idsV u1)
   have ra2 : RowAt (X.restrict (idsV u1)) u1 w1 := raX.of (by rw [hrn.1]; exact Nat.le_refl _) fun n hn => by rw [restrict_get, if_pos hn]
   obtain ⟨_, gg, hcc, rv, rfl, hrv, mg⟩ := cloneRow_c (X.restrict (idsV u1)) u1 w1 ra2 hw1 (by rw [hrn.1, hrn.2.1]; exact Nat.le_refl _) (hw w1 (List.mem_of_getElem? hr1))
   rw [hrn.1] at hrv
   refine genV_mod (H := ext X []) (W := []) (idsV u1) okX (by simp only [ruU, entryE, Nat.reduceLT, Nat.reduceAdd, Nat.reduceMul, Nat.reduceEqDiff]) (by kernel_rfl) (fun n hn => (hFu n hn).1) (fun n hn => (hFu n hn).2) (fun _ h => by simp at h) (v := rv) (g := gg) (by simp only [ruU, entryE, Nat.reduceLT, Nat.reduceAdd, Nat.reduceMul, Nat.reduceEqDiff]; exact hcc) mg (by simp [all2_cons, all2_nil]) ?_
   intro Z D mZ hFZ hNZ hnZ hDZ
   have hD0 : D = [] := List.eq_nil_iff_forall_not_mem.2 (fun q hq => by simpa using hDZ q hq)
   subst hD0
   replace mZ : Mod [] X Z := mZ
   replace hNZ : ∀ m, X.next ≤ m → m < gg.next → Z.get m = gg.get m := hNZ
   have okZ := mZ.ok okX
   have hZx := mZ.next
   have hrvZ : OwnRow x Z rv w1 := by
    obtain ⟨n, s, cc, o, e, h1, h2, h3⟩ := hrv
    exact ⟨n, s, cc, o, e, (bk_get (hNZ n h2 h3)).trans h1, by omega, by rw [hnZ]; exact h3⟩
   have hidr : ∀ n ∈ idsV rv, x ≤ n ∧ n < Z.next ∧ Z.get n ≠ none := hrvZ.rng
   obtain ⟨nr, sr, cr, orr, rfl, hb3, hlo3, hlt3⟩ := id hrvZ
   obtain ⟨z, hz⟩ : ∃ z, Z.next = z := ⟨_, rfl⟩
   have hzb : Z.base ≤ z := hz ▸ okZ
   have hlt3' := hlt3
   rw [hz] at hlt3'
   rw [show Z = ext Z [] from rfl]
   simp (maxDischargeDepth := 6) only [g1, g2, g9, g10, g11, hz, hzb, hlt3', hA, ruD, ruW, putL, Nat.reduceLeDiff, xF, ruU, entryE, Nat.reduceLT, Nat.reduceAdd, Nat.reduceMul, Nat.reduceEqDiff]
   obtain ⟨rvV, hrvV⟩ : ∃ q, q = Value.slice (some ⟨nr, 0, sr⟩) w1.length cr := ⟨_, rfl⟩
   have hone1 : one rvV = true := by rw [hrvV]; rfl
   rw [← hrvV] at hrvZ hidr ⊢
   rw [wd_app (by simp only [ruU, entryE, Nat.reduceLT, Nat.reduceAdd, Nat.reduceMul, Nat.reduceEqDiff])]
   generalize hY2 : ext Z _ = Y2
   have mY2 : Mod [] Z Y2 := hY2 ▸ Mod.ext okZ
   have hY2n : Y2.next = z + 1 := by rw [← hY2, ext_next, hz]; rfl
   have hk2 : bk Y2 (z + 0) = some ⟨56, false, [rvV]⟩ := by rw [← hY2, bk_at hz (by simp)]; rfl
   have okY2 := mY2.ok okZ
   have mXY2 : Mod [] X Y2 := mZ.trans mY2
   have hF2 : ∀ n ∈ (z + 0) :: idsV u, Y2.get n ≠ none ∧ n < Y2.next := fun n hn => by
    rcases List.mem_cons.1 hn with rfl | hn
    ·exact ⟨bk_ne hk2, by omega⟩
    ·have := gr.at_.ne n hn
     exact ⟨by rw [mXY2.get n this.2 (by simp)]; exact this.1, Nat.lt_of_lt_of_le this.2 mXY2.next⟩
   have hrn2 := restrict_next Y2 ((z + 0) :: idsV u)
   have hgtk : (g.take k).length = k := by rw [List.length_take]; omega
   have vsY := gr.at_.of (G := Y2.restrict ((z + 0) :: idsV u)) (by rw [hrn2.1]; exact mXY2.next) (fun n hn => by rw [restrict_get, if_pos (by simp [hn]), mXY2.get n (gr.at_.ne n hn).2 (by simp)])
   have hrvY2 : OwnRow (b + 2) Y2 rvV w1 := by
    obtain ⟨n, s, c', o, e, h1, h2, h3⟩ := hrvZ.of mY2.next (fun n hn => mY2.get n (hidr n hn).2.1 (by simp))
    exact ⟨n, s, c', o, e, h1, by omega, h3⟩
   have hscr : scbL Y2.next (rvs ++ [rvV]) = true := scbL_append (scbL_mono mXY2.next _ gr.sc) (by rw [hrvV]; simp only [scbL, scb, Bool.and_true]; exact blt_of (by omega))
   obtain ⟨G2, hap2, hvs2, hmd2, hgn2, _⟩ := vs_app (P := Tryd.prog) (H := Y2.restrict ((z + 0) :: idsV u)) (st := 22) (xt := 22) (e := 56) (sz := 1) (by1 := 24) (z := .slice none 0 0) (n := z + 0) (off := 0) (cnt2 := 1) (cap := 1) (s := some 0) (x := Y2.next) (ws := [rvV]) (b := ⟨56, false, [rvV]⟩)
    (by kernel_rfl) (by kernel_rfl) (by kernel_rfl) (by kernel_rfl) rfl (by kernel_rfl) vsY (rk_of ((bk_get (by rw [restrict_get, if_pos (by simp)])).trans hk2)) (by simp) rfl (by simp [hone1]) (by decide) (by simp only [small, Bool.and_eq_true, Nat.ble_eq]; omega) hrn2.1 (by rw [hrn2.1]; exact hscr)
   refine genV_modO (H := Y2) (W := idsV u) ((z + 0) :: idsV u) okY2 (fun n hn => (hF2 n hn).1) (fun n hn => (hF2 n hn).2) (fun n hn => by simp [hn]) (app_op (v := _) (G := G2) (by simp only [ruU, entryE, Nat.reduceLT, Nat.reduceAdd, Nat.reduceMul, Nat.reduceEqDiff]) (by simp only [ruU, entryE, Nat.reduceLT, Nat.reduceAdd, Nat.reduceMul, Nat.reduceEqDiff]; exact hap2)) (hmd2 (by rw [hrn2.1, hrn2.2.1]; exact Nat.le_refl _)) (by simp only [all2_cons, all2_nil, hA, true_or, and_true]) ?_
   intro Z3 D3 mZ3 hFZ3 hNZ3 hnZ3 hDZ3
   rw [hgn2] at hnZ3 hNZ3
   have hb4 : bk Z3 Y2.next = some ⟨56, true, rvs ++ [rvV]⟩ := by
    obtain ⟨_, _, ⟨h0, _⟩ | ⟨_, n, e, hbn, _⟩⟩ := hvs2
    ·omega
    ·cases e
     exact (bk_get (hNZ3 _ (Nat.le_refl _) (by omega))).trans hbn
   have gr3 := gr.push mXY2 (by omega) hrvY2 (fun n hn => by rw [hx]; exact (hidr n hn).1) hone1 mZ3 hb4 (by omega)
   have nbu : ∀ j, j < b + 2 → j ∉ idsV u := fun j hj h => by have := (gr.apart j h).1; omega
   have keep : ∀ j, j < b + 2 → bk Z3 j = bk X j := fun j hj => (mZ3.bk (by omega) (nbu j hj)).trans (mXY2.bk (by omega) (by simp))
   have k0' := (keep (b + 0) (by omega)).trans k0
   have k1' := (keep (b + 1) (by omega)).trans k1
   obtain ⟨z3, hz3⟩ : ∃ z3, Z3.next = z3 := ⟨_, rfl⟩
   have l3 : b + 0 < z3 := by omega
   have l4 : Y2.next < z3 := by omega
   rw [hgtk] at gr3 ⊢
   rw [show Z3 = ext Z3 [] from rfl]
   simp (maxDischargeDepth := 6) only [g1, g2, g9, g10, g11, hz3, k0', l3, l4, hA, wrap_succ (show k < 1000000 by omega), ruD, ruW, putL, Nat.reduceLeDiff, xF, ruU, entryE, Nat.reduceLT, Nat.reduceAdd, Nat.reduceMul, Nat.reduceEqDiff]
   refine ⟨⟨fun _ => .inr (.inl (by omega)), .inr (.inl (by omega)), fun _ => .inr (.inl (by omega))⟩, ?_⟩
   generalize hU : uw Z3 (b + 0) 0 _ = U
   have mU : Mod [b + 0] Z3 U := hU ▸ Mod.uw (by simp)
   have hU2 : bk U (b + 0) = some ⟨24, false, [.slice (some ⟨Y2.next, 0, none⟩) (k + 1) (k + 1), .int .i64 r, .int .i64 c]⟩ := by rw [← hU, bk_uw_eq, k0']; rfl
   have mXU : Mod ((b + 0) :: idsV u) X U := ((mXY2.mono (by simp)).trans (mZ3.mono (fun n hn => List.mem_cons_of_mem _ hn))).trans (mU.mono (by simp))
   have hUn := mU.next
   refine loopC_next ⟨(k + 1, .slice (some ⟨Y2.next, 0, none⟩) (k + 1) (k + 1), rvs ++ [rvV]), by simp only; omega, mX.step mXU hok (fun n hn => ?_), by rw [ext_next]; simp only [List.length_nil]; omega, ?_, hU2, ?_, by simp only; omega, ?_, ?_, ?_, ?_, ?_⟩
   ·rcases List.mem_cons.1 hn with rfl | hn
    ·exact .inr (by omega)
    ·have := (gr.apart n hn).1; exact .inr (by omega)
   ·exact (mU.bk (by omega) (by simp)).trans k1'
   ·simp only
    rw [show g.take (k + 1) = g.take k ++ [w1] from by rw [List.take_add_one, hr1]; rfl]
    refine gr3.of mU.next fun n hn hm => mU.get n hn ?_
    simp only [List.mem_singleton]
    rintro rfl
    rcases List.mem_append.1 hm with hm | hm
    ·have := (gr3.apart _ hm).1; omega
    ·have := (gr3.ids _ hm).1; omega
   ·simp only [g1, ruU, entryE, Nat.reduceLT, Nat.reduceAdd, Nat.reduceMul, Nat.reduceEqDiff]
   ·simp only [g2, ruU, entryE, Nat.reduceLT, Nat.reduceAdd, Nat.reduceMul, Nat.reduceEqDiff]
   ·simp only [g9, ruU, entryE, Nat.reduceLT, Nat.reduceAdd, Nat.reduceMul, Nat.reduceEqDiff]
   ·simp only [g10, ruU, entryE, Nat.reduceLT, Nat.reduceAdd, Nat.reduceMul, Nat.reduceEqDiff]
   ·simp only [ruU, entryE, Nat.reduceLT, Nat.reduceAdd, Nat.reduceMul, Nat.reduceEqDiff]
 ·clear g1 g2 g9 g10 g11 k0 k1 n0 m0
  rintro E X ⟨u, rvs, mX, xl, k1, k0, gr, g1, g2⟩
  obtain ⟨au, eu⟩ := gr.at_.len
  obtain ⟨x, hx⟩ : ∃ x, X.next = x := ⟨_, rfl⟩
  rw [hx] at xl
  have l1 : b + 1 < x := by omega
  have l0 : b + 0 < x := by omega
  have hsu : scb x (.slice au g.length g.length) = true := by
   rw [← eu]
   obtain ⟨_, _, ⟨_, rfl⟩ | ⟨_, n, rfl, _, h⟩⟩ := gr.at_
   ·rfl
   ·exact blt_of (by rw [← hx]; exact h)
  rw [eu] at k0
  rw [show X = ext X [] from rfl]
  simp (maxDischargeDepth := 6) only [g1, g2, hx, k0, k1, l0, l1, hsu, Tryd.results48, ruW, putL, Nat.reduceLeDiff, xF, ruU, entryE, Nat.reduceLT, Nat.reduceAdd, Nat.reduceMul, Nat.reduceEqDiff]
  generalize hU : uw X (b + 1) 0 _ = U
  have mU : Mod [b + 1] X U := hU ▸ Mod.uw (by simp)
  refine ⟨u, rvs, by rw [eu], ?_, mX.step mU hok (fun n hn => by simp only [List.mem_singleton] at hn; exact .inr (by omega))⟩
  have gU := gr.of (Y := U) mU.next fun n hn hm => mU.get n hn (by
   simp only [List.mem_singleton]
   rintro rfl
   rcases List.mem_append.1 hm with hm | hm
   ·have := (gr.apart _ hm).1; omega
   ·have := (gr.ids _ hm).1; omega)
  exact ⟨gU.at_, fun i rv l h1 h2 => by
   obtain ⟨n, s, c', o, e, h3, h4, h5⟩ := gU.row i rv l h1 h2
   exact ⟨n, s, c', o, e, h3, by omega, h5⟩, gU.nd, fun n hn => ⟨by have := (gU.apart n hn).1; omega, (gU.apart n hn).2⟩, gU.sc⟩
end Go.Proofs.YtaojjfebkldmnaaDoor
/- What CopyScreen comes to. -/
namespace Go.Proofs.YtaojjfebkldmnaaDoor
open Go.Ax
def GridSc (H : AHeap) (v : Value) : Prop := ∀ n off s len c b, v = .slice (some ⟨n, off, s⟩) len c → rk H n = some b → scbL H.next b.l = true
set_option maxHeartbeats 4000000 in
theorem copyScreen_c (H : AHeap) (v : Value) (g : List (List Ce)) (r c : Int) (hg : GridAt H v g) (hok : H.base ≤ H.next) (hs : scb H.next v = true) (hsg : GridSc H v) (hw : ∀ l ∈ g, l.length ≤ 10000) (hgl : g.length ≤ 10000) :
  CallA Tryd.prog 12 [.agg ⟨[v, .int .i64 r, .int .i64 c]⟩] H (fun out X => ∃ u rvs, out = .ok (.agg ⟨[u, .int .i64 r, .int .i64 c]⟩) ∧ Grow H.next X u rvs g ∧ Mod [] H X) := by
 obtain ⟨b, hb⟩ : ∃ b, H.next = b := ⟨_, rfl⟩
 have hbase : H.base ≤ b := hb ▸ hok
 obtain ⟨a0, c0, e0⟩ := hg.sl
 rw [hb] at hs
 have hs' := hs
 rw [e0] at hs
 refine callE_fn mixed Tryd.func12 rfl Tryd.ntmps12 (Nat.le_of_ble_eq_true rfl) ?_
 rw [e0]
 simp (maxDischargeDepth := 6) only [hb, hbase, hs, ruW, putL, Nat.reduceLeDiff, xF, ruU, entryE, Nat.reduceLT, Nat.reduceAdd, Nat.reduceMul, Nat.reduceEqDiff]
 rw [← e0]
 refine w_env fun E hE => ?_
 have g1 : E 1 = .pointer (some ⟨b + 0, 0, none⟩) := by rw [hE]; simp only [ruU, entryE, Nat.reduceLT, Nat.reduceAdd, Nat.reduceMul, Nat.reduceEqDiff]
 have g2 : E 2 = .pointer (some ⟨b + 1, 0, none⟩) := by rw [hE]; simp only [ruU, entryE, Nat.reduceLT, Nat.reduceAdd, Nat.reduceMul, Nat.reduceEqDiff]
 have g3 : E 3 = .pointer (some ⟨b + 2, 0, none⟩) := by rw [hE]; simp only [ruU, entryE, Nat.reduceLT, Nat.reduceAdd, Nat.reduceMul, Nat.reduceEqDiff]
 have g4 : E 4 = .int .i64 ((0 : Nat) : Int) := by rw [hE]; (simp only [ruU, entryE, Nat.reduceLT, Nat.reduceAdd, Nat.reduceMul, Nat.reduceEqDiff] <;> rfl)
 clear hE
 generalize hX0 : ext H (_ :: _) = X0
 have m0 : Mod [] H X0 := hX0 ▸ Mod.ext hok
 have n0 : X0.next = b + 3 := by rw [← hX0, ext_next, hb]; rfl
 have k0 : bk X0 (b + 0) = some ⟨24, false, [v, .int .i64 r, .int .i64 c]⟩ := by rw [← hX0, bk_at hb (by simp)]; rfl
 have k1 : bk X0 (b + 1) = some ⟨24, false, [.slice none 0 0, .int .i64 0, .int .i64 0]⟩ := by rw [← hX0, bk_at hb (by simp)]; rfl
 have k2 : bk X0 (b + 2) = some ⟨24, false, [.slice none 0 0, .int .i64 r, .int .i64 c]⟩ := by rw [← hX0, bk_at hb (by simp)]; rfl
 clear hX0
 refine blockC_meet (fun E' X => ∃ u rvs, Mod [] H X ∧ b + 3 ≤ X.next ∧ bk X (b + 1) = some ⟨24, false, [.slice none 0 0, .int .i64 0, .int .i64 0]⟩ ∧ bk X (b + 2) = some ⟨24, false, [u, .int .i64 r, .int .i64 c]⟩ ∧ Grow (b + 3) X u rvs g ∧ E' 2 = .pointer (some ⟨b + 1, 0, none⟩) ∧ E' 3 = .pointer (some ⟨b + 2, 0, none⟩)) ?_ ?_
 ·refine w_loop (fun (k : Nat × Value × List Value) E' X => Mod [] H X ∧ b + 3 ≤ X.next ∧ bk X (b + 0) = some ⟨24, false, [v, .int .i64 r, .int .i64 c]⟩ ∧ bk X (b + 1) = some ⟨24, false, [.slice none 0 0, .int .i64 0, .int .i64 0]⟩ ∧ bk X (b + 2) = some ⟨24, false, [k.2.1, .int .i64 r, .int .i64 c]⟩ ∧ Grow (b + 3) X k.2.1 k.2.2 (g.take k.1) ∧ k.1 ≤ g.length ∧ E' 1 = .pointer (some ⟨b + 0, 0, none⟩) ∧ E' 2 = .pointer (some ⟨b + 1, 0, none⟩) ∧ E' 3 = .pointer (some ⟨b + 2, 0, none⟩) ∧ E' 4 = .int .i64 (k.1 : Int)) (fun k => g.length - k.1) (0, .slice none 0 0, [])
   ⟨m0, by omega, k0, k1, k2, Grow.nil, Nat.zero_le _, g1, g2, g3, g4⟩ ?_
  clear g1 g2 g3 g4 k0 k1 k2 n0 m0
  rintro ⟨k, u, rvs⟩ E X ⟨mX, xl, k0, k1, k2, gr, hk, g1, g2, g3, g4⟩
  simp only at k0 k1 k2 gr hk g4
  obtain ⟨x, hx⟩ : ∃ x, X.next = x := ⟨_, rfl⟩
  have okX := mX.ok hok
  have hxb : X.base ≤ x := hx ▸ okX
  rw [hx] at xl
  have l0 : b + 0 < x := by omega
  have l1 : b + 1 < x := by omega
  have l2 : b + 2 < x := by omega
  rw [show X = ext X [] from rfl]
  have hgX : GridAt X v g := by
   rcases hg with ⟨h, a, c, e⟩ | ⟨hl, n, off, s, c, e, o, L, e1, hbn, hlt, hle, ht⟩
   ·exact .inl ⟨h, a, c, e⟩
   ·exact .inr ⟨hl, n, off, s, c, e, o, L, e1, (rk_get (mX.get n hlt (by simp))).trans hbn, by have := mX.next; omega, hle, fun j row hj => by
     obtain ⟨rv, h1, h2⟩ := ht j row hj
     refine ⟨rv, h1, ?_⟩
     by_cases hr0 : row = []
     ·obtain ⟨a', c', e'⟩ := h2.sl
      exact .inl ⟨hr0, a', c', by rw [hr0] at e'; exact e'⟩
     ·exact h2.of mX.next fun m hm => mX.get m (h2.ne hr0 m hm).2 (by simp)⟩
  by_cases hkl : k = g.length
  ·have hc : decide ((k : Int) < (g.length : Int)) = false := by simp [hkl]
   rw [e0] at k0
   simp (maxDischargeDepth := 6) only [g1, g2, g3, g4, hx, l0, k0, hc, ruW, putL, Nat.reduceLeDiff, xF, ruU, entryE, Nat.reduceLT, Nat.reduceAdd, Nat.reduceMul, Nat.reduceEqDiff]
   rw [hkl, List.take_length] at gr
   exact joinR_normal ⟨u, rvs, mX, by rw [ext_next, hx]; simpa using xl, k1, k2, gr, by simp only [g2, ruU, entryE, Nat.reduceLT, Nat.reduceAdd, Nat.reduceMul, Nat.reduceEqDiff], by simp only [g3, ruU, entryE, Nat.reduceLT, Nat.reduceAdd, Nat.reduceMul, Nat.reduceEqDiff]⟩
  ·have hlt : k < g.length := by omega
   have hc : decide ((k : Int) < (g.length : Int)) = true := decide_eq_true (by omega)
   obtain ⟨w1, hr1⟩ : ∃ r, g[k]? = some r := ⟨_, List.getElem?_eq_getElem hlt⟩
   rcases hgX with ⟨h, _⟩ | ⟨_, n1, o1, s1, x1, t1, p1, L1, ev, b1, n1l, le1, tk1⟩
   ·rw [h] at hlt; simp at hlt
   subst ev
   obtain ⟨u1, hu1, ra1⟩ := tk1 k w1 hr1
   have i1 := grid_ia (n := n1) (off := o1) (s := s1) (cap := x1) (i := (k : Int)) rfl hlt
   have q1 := grid_load (e := t1) (o := p1) hu1
   rw [hx] at n1l
   obtain ⟨au, eu⟩ := gr.at_.len
   simp (maxDischargeDepth := 6) only [g1, g2, g3, g4, hx, l0, k0, hc, ruW, putL, Nat.reduceLeDiff, xF, ruU, entryE, Nat.reduceLT, Nat.reduceAdd, Nat.reduceMul, Nat.reduceEqDiff]
   refine w_drawB [(8, 2), (8, 4), (8, 7), (9, 2), (9, 8), (10, 1), (10, 2), (10, 4), (10, 7), (10, 8), (10, 9), (12, 1), (12, 2), (12, 4), (12, 7), (12, 8), (12, 9), (12, 10)] [] (by kernel_rfl) (by kernel_rfl) rfl fun ops anc hA hG => ?_
   simp only [all2_cons] at hA
   simp (maxDischargeDepth := 6) only [g1, g2, g3, g4, hx, hxb, l0, l2, k0, k2, i1, b1, n1l, q1, qk_old, hA, ruD, ruW, putL, Nat.reduceLeDiff, xF, ruU, entryE, Nat.reduceLT, Nat.reduceAdd, Nat.reduceMul, Nat.reduceEqDiff]
   have hu1x : ∀ n ∈ idsV u1, n < b := by
    have h1 : scbL H.next L1 = true := by
     have hn1 : n1 < H.next := by rw [hb]; exact blt_lt hs'
     exact hsg n1 o1 s1 _ _ ⟨t1, p1, L1⟩ rfl (by rw [← b1]; exact (rk_get (mX.get n1 hn1 (by simp))).symm)
    have h2 := scbL_iff.1 h1 u1 (List.mem_of_getElem? hu1)
    obtain ⟨a', c', e'⟩ := ra1.sl
    rw [e'] at h2 ⊢
    intro n hn
    cases a' with
    | none => simp [idsV] at hn
    | some a' =>
     simp only [idsV, List.mem_singleton] at hn
     subst hn
     rw [hb] at h2
     exact blt_lt h2
   have hn1b : n1 < b := blt_lt hs'
   refine ⟨.inr fun n hn => .inl ?_, .inr fun n hn => .inl ?_, ?_⟩
   ·simp only [idsV, List.mem_singleton] at hn; omega
   ·have := hu1x n hn; omega
   rw [wd_app (by simp only [ruU, entryE, Nat.reduceLT, Nat.reduceAdd, Nat.reduceMul, Nat.reduceEqDiff])]
   generalize hY : ext X _ = Y
   have mY : Mod [] X Y := hY ▸ Mod.ext okX
   have okY := mY.ok okX
   have hYn : Y.next = x + 1 := by rw [← hY, ext_next, hx]; rfl
   have hY0 : bk Y (x + 0) = some ⟨55, false, []⟩ := by rw [← hY, bk_at hx (by simp)]; rfl
   have hF1 : ∀ n ∈ rowF w1 u1, X.get n ≠ none ∧ n < X.next := fun n hn => by
    unfold rowF at hn
    split at hn
    ·simp at hn
    ·rename_i hne; exact ra1.ne hne n hn
   have hF : ∀ n ∈ (x + 0) :: rowF w1 u1, Y.get n ≠ none ∧ n < Y.next := fun n hn => by
    rcases List.mem_cons.1 hn with rfl | hn
    ·exact ⟨bk_ne hY0, by omega⟩
    ·have := hF1 n hn
     exact ⟨by rw [mY.get n this.2 (by simp)]; exact this.1, by omega⟩
   have hrn := restrict_next Y ((x + 0) :: rowF w1 u1)
   have ra2 : RowAt (Y.restrict ((x + 0) :: rowF w1 u1)) u1 w1 := ra1.ofF (by rw [hrn.1]; exact mY.next) fun n hn => by
    rw [restrict_get, if_pos (by simp [hn]), mY.get n (hF1 n hn).2 (by simp)]
   obtain ⟨rv, gg, hap, hrv, hmd, hid⟩ := row_copy (G := Y.restrict ((x + 0) :: rowF w1 u1)) (m := x + 0) ((bk_get (by rw [restrict_get, if_pos (by simp)])).trans hY0) (by rw [hrn.1]; omega) (by rw [hrn.1, hrn.2.1]; exact Nat.le_refl _) ra2 (hw w1 (List.mem_of_getElem? hr1))
   rw [hrn.1] at hid
   refine genV_modO (H := Y) (W := [x + 0]) ((x + 0) :: rowF w1 u1) okY (fun n hn => (hF n hn).1) (fun n hn => (hF n hn).2) (fun n hn => by simp only [List.mem_singleton] at hn; simp [hn]) (app_op (v := rv) (G := gg) (by simp only [ruU, entryE, Nat.reduceLT, Nat.reduceAdd, Nat.reduceMul, Nat.reduceEqDiff]) (by simp only [ruU, entryE, Nat.reduceLT, Nat.reduceAdd, Nat.reduceMul, Nat.reduceEqDiff]; exact hap)) hmd ?_ ?_
   ·simp only [all2_cons, all2_nil, hA, true_or, and_true, true_and]
    refine .inr ⟨Nat.le_refl _, fun hn => ?_⟩
    simp only [List.mem_singleton] at hn
    omega
   intro Z D mZ hFZ hNZ hnZ hDZ
   have hZx : Y.next ≤ Z.next := mZ.next
   have okZ := mZ.ok okY
   have hrvZ : OwnRow x Z rv w1 := by
    obtain ⟨n, s, cc, o, e, h1, h2, h3⟩ := hrv
    subst e
    refine ⟨n, s, cc, o, rfl, ?_, by omega, by rw [hnZ]; exact h3⟩
    rcases hid n (by simp [idsV]) with h4 | h4
    ·exact (bk_get (hFZ n (by simp [h4]))).trans h1
    ·exact (bk_get (hNZ n h4 h3)).trans h1
   have hidr : ∀ n ∈ idsV rv, x ≤ n ∧ n < Z.next ∧ Z.get n ≠ none := hrvZ.rng
   obtain ⟨nr, sr, cr, orr, rfl, hb3, hlo3, hlt3⟩ := id hrvZ
   obtain ⟨z, hz⟩ : ∃ z, Z.next = z := ⟨_, rfl⟩
   have hzb : Z.base ≤ z := hz ▸ okZ
   have hlt3' := hlt3
   rw [hz] at hlt3'
   rw [show Z = ext Z [] from rfl]
   simp (maxDischargeDepth := 6) only [g1, g2, g3, g4, hz, hzb, hlt3', hA, ruD, ruW, putL, Nat.reduceLeDiff, xF, ruU, entryE, Nat.reduceLT, Nat.reduceAdd, Nat.reduceMul, Nat.reduceEqDiff]
   obtain ⟨rvV, hrvV⟩ : ∃ q, q = Value.slice (some ⟨nr, 0, sr⟩) w1.length cr := ⟨_, rfl⟩
   have hone1 : one rvV = true := by rw [hrvV]; rfl
   rw [← hrvV] at hrvZ hidr ⊢
   rw [wd_app (by simp only [ruU, entryE, Nat.reduceLT, Nat.reduceAdd, Nat.reduceMul, Nat.reduceEqDiff])]
   generalize hY2 : ext Z _ = Y2
   have mY2 : Mod [] Z Y2 := hY2 ▸ Mod.ext okZ
   have hY2n : Y2.next = z + 1 := by rw [← hY2, ext_next, hz]; rfl
   have hk2 : bk Y2 (z + 0) = some ⟨56, false, [rvV]⟩ := by rw [← hY2, bk_at hz (by simp)]; rfl
   have okY2 := mY2.ok okZ
   have mXY2 : Mod [] X Y2 := (mY.step mZ okX (fun n hn => by simp only [List.mem_singleton] at hn; exact .inr (by omega))).trans mY2
   have hF2 : ∀ n ∈ (z + 0) :: idsV u, Y2.get n ≠ none ∧ n < Y2.next := fun n hn => by
    rcases List.mem_cons.1 hn with rfl | hn
    ·exact ⟨bk_ne hk2, by omega⟩
    ·have := gr.at_.ne n hn
     exact ⟨by rw [mXY2.get n this.2 (by simp)]; exact this.1, Nat.lt_of_lt_of_le this.2 mXY2.next⟩
   have hrn2 := restrict_next Y2 ((z + 0) :: idsV u)
   have hgtk : (g.take k).length = k := by rw [List.length_take]; omega
   have vsY := gr.at_.of (G := Y2.restrict ((z + 0) :: idsV u)) (by rw [hrn2.1]; exact mXY2.next) (fun n hn => by rw [restrict_get, if_pos (by simp [hn]), mXY2.get n (gr.at_.ne n hn).2 (by simp)])
   have hrvY2 : OwnRow (b + 3) Y2 rvV w1 := by
    obtain ⟨n, s, c', o, e, h1, h2, h3⟩ := hrvZ.of mY2.next (fun n hn => mY2.get n (hidr n hn).2.1 (by simp))
    exact ⟨n, s, c', o, e, h1, by omega, h3⟩
   have hscr : scbL Y2.next (rvs ++ [rvV]) = true := scbL_append (scbL_mono mXY2.next _ gr.sc) (by rw [hrvV]; simp only [scbL, scb, Bool.and_true]; exact blt_of (by omega))
   obtain ⟨G2, hap2, hvs2, hmd2, hgn2, _⟩ := vs_app (P := Tryd.prog) (H := Y2.restrict ((z + 0) :: idsV u)) (st := 22) (xt := 22) (e := 56) (sz := 1) (by1 := 24) (z := .slice none 0 0) (n := z + 0) (off := 0) (cnt2 := 1) (cap := 1) (s := some 0) (x := Y2.next) (ws := [rvV]) (b := ⟨56, false, [rvV]⟩)
    (by kernel_rfl) (by kernel_rfl) (by kernel_rfl) (by kernel_rfl) rfl (by kernel_rfl) vsY (rk_of ((bk_get (by rw [restrict_get, if_pos (by simp)])).trans hk2)) (by simp) rfl (by simp [hone1]) (by decide) (by simp only [small, Bool.and_eq_true, Nat.ble_eq]; omega) hrn2.1 (by rw [hrn2.1]; exact hscr)
   refine genV_modO (H := Y2) (W := idsV u) ((z + 0) :: idsV u) okY2 (fun n hn => (hF2 n hn).1) (fun n hn => (hF2 n hn).2) (fun n hn => by simp [hn]) (app_op (v := _) (G := G2) (by simp only [ruU, entryE, Nat.reduceLT, Nat.reduceAdd, Nat.reduceMul, Nat.reduceEqDiff]) (by simp only [ruU, entryE, Nat.reduceLT, Nat.reduceAdd, Nat.reduceMul, Nat.reduceEqDiff]; exact hap2)) (hmd2 (by rw [hrn2.1, hrn2.2.1]; exact Nat.le_refl _)) (by simp only [all2_cons, all2_nil, hA, true_or, and_true]) ?_
   intro Z3 D3 mZ3 hFZ3 hNZ3 hnZ3 hDZ3
   rw [hgn2] at hnZ3 hNZ3
   have hb4 : bk Z3 Y2.next = some ⟨56, true, rvs ++ [rvV]⟩ := by
    obtain ⟨_, _, ⟨h0, _⟩ | ⟨_, n, e, hbn, _⟩⟩ := hvs2
    ·omega
    ·cases e
     exact (bk_get (hNZ3 _ (Nat.le_refl _) (by omega))).trans hbn
   have gr3 := gr.push mXY2 (by omega) hrvY2 (fun n hn => by rw [hx]; exact (hidr n hn).1) hone1 mZ3 hb4 (by omega)
   have nbu : ∀ j, j < b + 3 → j ∉ idsV u := fun j hj h => by have := (gr.apart j h).1; omega
   have keep : ∀ j, j < b + 3 → bk Z3 j = bk X j := fun j hj => (mZ3.bk (by omega) (nbu j hj)).trans (mXY2.bk (by omega) (by simp))
   have k0' := (keep (b + 0) (by omega)).trans k0
   have k1' := (keep (b + 1) (by omega)).trans k1
   have k2' := (keep (b + 2) (by omega)).trans k2
   obtain ⟨z3, hz3⟩ : ∃ z3, Z3.next = z3 := ⟨_, rfl⟩
   have l3 : b + 2 < z3 := by omega
   have l4 : Y2.next < z3 := by omega
   rw [hgtk] at gr3 ⊢
   rw [show Z3 = ext Z3 [] from rfl]
   simp (maxDischargeDepth := 6) only [g1, g2, g3, g4, hz3, k2', l3, l4, hA, wrap_succ (show k < 1000000 by omega), ruD, ruW, putL, Nat.reduceLeDiff, xF, ruU, entryE, Nat.reduceLT, Nat.reduceAdd, Nat.reduceMul, Nat.reduceEqDiff]
   refine ⟨⟨fun _ => .inr (.inl (by omega)), .inr (.inl (by omega)), fun _ => .inr (.inl (by omega)), .inr (.inl (by omega))⟩, ?_⟩
   generalize hU : uw Z3 (b + 2) 0 _ = U
   have mU : Mod [b + 2] Z3 U := hU ▸ Mod.uw (by simp)
   have hU2 : bk U (b + 2) = some ⟨24, false, [.slice (some ⟨Y2.next, 0, none⟩) (k + 1) (k + 1), .int .i64 r, .int .i64 c]⟩ := by rw [← hU, bk_uw_eq, k2']; rfl
   have mXU : Mod ((b + 2) :: idsV u) X U := ((mXY2.mono (by simp)).trans (mZ3.mono (fun n hn => List.mem_cons_of_mem _ hn))).trans (mU.mono (by simp))
   have hUn := mU.next
   refine loopC_next ⟨(k + 1, .slice (some ⟨Y2.next, 0, none⟩) (k + 1) (k + 1), rvs ++ [rvV]), by simp only; omega, mX.step mXU hok (fun n hn => ?_), by rw [ext_next]; simp only [List.length_nil]; omega, ?_, ?_, hU2, ?_, by simp only; omega, ?_, ?_, ?_, ?_⟩
   ·rcases List.mem_cons.1 hn with rfl | hn
    ·exact .inr (by omega)
    ·have := (gr.apart n hn).1; exact .inr (by omega)
   ·exact (mU.bk (by omega) (by simp)).trans k0'
   ·exact (mU.bk (by omega) (by simp)).trans k1'
   ·simp only
    rw [show g.take (k + 1) = g.take k ++ [w1] from by rw [List.take_add_one, hr1]; rfl]
    refine gr3.of mU.next fun n hn hm => mU.get n hn ?_
    simp only [List.mem_singleton]
    rintro rfl
    rcases List.mem_append.1 hm with hm | hm
    ·have := (gr3.apart _ hm).1; omega
    ·have := (gr3.ids _ hm).1; omega
   ·simp only [g1, ruU, entryE, Nat.reduceLT, Nat.reduceAdd, Nat.reduceMul, Nat.reduceEqDiff]
   ·simp only [g2, ruU, entryE, Nat.reduceLT, Nat.reduceAdd, Nat.reduceMul, Nat.reduceEqDiff]
   ·simp only [g3, ruU, entryE, Nat.reduceLT, Nat.reduceAdd, Nat.reduceMul, Nat.reduceEqDiff]
   ·simp only [ruU, entryE, Nat.reduceLT, Nat.reduceAdd, Nat.reduceMul, Nat.reduceEqDiff]
 ·clear g1 g2 g3 g4 k0 k1 k2 n0 m0
  rintro E X ⟨u, rvs, mX, xl, k1, k2, gr, g2, g3⟩
  obtain ⟨au, eu⟩ := gr.at_.len
  obtain ⟨x, hx⟩ : ∃ x, X.next = x := ⟨_, rfl⟩
  rw [hx] at xl
  have l1 : b + 1 < x := by omega
  have l2 : b + 2 < x := by omega
  have hsu : scb x (.slice au g.length g.length) = true := by
   rw [← eu]
   obtain ⟨_, _, ⟨_, rfl⟩ | ⟨_, n, rfl, _, h⟩⟩ := gr.at_
   ·rfl
   ·exact blt_of (by rw [← hx]; exact h)
  rw [eu] at k2
  rw [show X = ext X [] from rfl]
  simp (maxDischargeDepth := 6) only [g2, g3, hx, k1, k2, l1, l2, hsu, Tryd.results12, ruW, putL, Nat.reduceLeDiff, xF, ruU, entryE, Nat.reduceLT, Nat.reduceAdd, Nat.reduceMul, Nat.reduceEqDiff]
  generalize hU : uw X (b + 1) 0 _ = U
  have mU : Mod [b + 1] X U := hU ▸ Mod.uw (by simp)
  refine ⟨u, rvs, by rw [eu], ?_, mX.step mU hok (fun n hn => by simp only [List.mem_singleton] at hn; exact .inr (by omega))⟩
  have gU := gr.of (Y := U) mU.next fun n hn hm => mU.get n hn (by
   simp only [List.mem_singleton]
   rintro rfl
   rcases List.mem_append.1 hm with hm | hm
   ·have := (gr.apart _ hm).1; omega
   ·have := (gr.ids _ hm).1; omega)
  exact ⟨gU.at_, fun i rv l h1 h2 => by
   obtain ⟨n, s, c', o, e, h3, h4, h5⟩ := gU.row i rv l h1 h2
   exact ⟨n, s, c', o, e, h3, by omega, h5⟩, gU.nd, fun n hn => ⟨by have := (gU.apart n hn).1; omega, (gU.apart n hn).2⟩, gU.sc⟩
end Go.Proofs.YtaojjfebkldmnaaDoor
/- What the program's Apply comes to. -/
namespace Go.Proofs.YtaojjfebkldmnaaDoor
open Go.Ax
theorem GridAt.foot {H : AHeap} {v : Value} {g : List (List Ce)} (h : GridAt H v g) (hne : g ≠ []) : ∃ F : List Nat, (∀ n ∈ F, H.get n ≠ none ∧ n < H.next) ∧ ∀ G : AHeap, H.next ≤ G.next → (∀ n ∈ F, G.get n = H.get n) → GridAt G v g ∧ (GridSc H v → GridSc G v) := by
 rcases h with ⟨h, _⟩ | ⟨_, n, off, s, c, e, o, L, rfl, hb, hlt, hle, ht⟩
 ·exact absurd h hne
 refine ⟨n :: (List.range g.length).flatMap fun k => rowF (g.getD k []) (L.getD (off + k) (.slice none 0 0)), fun m hm => ?_, fun G hn hg => ⟨.inr ⟨hne, n, off, s, c, e, o, L, rfl, (rk_get (hg n (by simp))).trans hb, by omega, hle, fun k row hk => ?_⟩, fun hs n' off' s' len' c' b' e' hb' => ?_⟩⟩
 ·rcases List.mem_cons.1 hm with rfl | hm
  ·exact ⟨rk_ne hb, hlt⟩
  ·obtain ⟨k, hk, hm⟩ := List.mem_flatMap.1 hm
   have hk := List.mem_range.1 hk
   obtain ⟨row, hrow⟩ : ∃ row, g[k]? = some row := ⟨_, List.getElem?_eq_getElem hk⟩
   obtain ⟨rv, hrv, hr⟩ := ht k row hrow
   rw [List.getD_eq_getElem?_getD, hrow, List.getD_eq_getElem?_getD, hrv] at hm
   simp only [Option.getD_some] at hm
   unfold rowF at hm
   split at hm
   ·cases hm
   ·rename_i hl; exact hr.ne hl m hm
 ·obtain ⟨rv, hrv, hr⟩ := ht k row hk
  refine ⟨rv, hrv, hr.ofF hn fun m hm => hg m (List.mem_cons_of_mem _ (List.mem_flatMap.2 ⟨k, List.mem_range.2 (List.getElem?_eq_some_iff.1 hk).1, ?_⟩))⟩
  rw [List.getD_eq_getElem?_getD, hk, List.getD_eq_getElem?_getD, hrv]
  exact hm
 ·cases e'
  rw [rk_get (hg n (by simp))] at hb'
  exact scbL_mono hn _ (hs n off s _ _ b' rfl hb')
theorem OpsAt.mod0 {H G : AHeap} {v : Value} {l : List Op} (h : OpsAt H v l) (m : Mod [] H G) : OpsAt G v l := by
 rcases h with ⟨rfl, a, c, rfl⟩ | ⟨hl, n, off, s, c, e, o, L, rfl, hb, hlt, hle, ht⟩
 ·exact .inl ⟨rfl, a, c, rfl⟩
 ·exact .inr ⟨hl, n, off, s, c, e, o, L, rfl, (rk_get (m.get n hlt (by simp))).trans hb, m.lt hlt, hle, ht⟩
theorem OpsAt.old {H : AHeap} {v : Value} {l : List Op} (h : OpsAt H v l) (hl : l ≠ []) : ∀ n ∈ idsV v, n < H.next := by
 rcases h with ⟨rfl, _⟩ | ⟨_, n, off, s, c, e, o, L, rfl, hb, hlt, _⟩
 ·exact absurd rfl hl
 ·intro m hm; simp only [idsV, List.mem_singleton] at hm; omega
def St.start (g : List (List Ce)) (r c : Int) : St := ⟨g, r, c, ⟨0, 0, false, false, false⟩, max r 0, c, decide (0 ≤ r)⟩
def St.atR (y : St) : Int := if y.shown = true then y.row else -1
def St.atC (W : Nat) (y : St) : Int := if y.shown = true then min y.col ((W : Int) - 1) else 0
theorem chk_ok {g : List (List Ce)} {r c : Int} (h : chkR g r c = 0) : (St.start g r c).Ok (widG g) ∧ (∀ l ∈ g, l ≠ []) ∧ g ≠ [] := by
 unfold chkR at h
 cases h1 : (decide ((g.length : Int) < 1) || decide (200 < (g.length : Int))) with
 | true => rw [h1, cond_true] at h; omega
 | false =>
  rw [h1, cond_false] at h
  simp only [Bool.or_eq_false_iff, decide_eq_false_iff_not] at h1
  obtain ⟨W, hW⟩ : ∃ W, widG g = W := ⟨_, rfl⟩
  rw [hW] at h ⊢
  cases h2 : (decide ((W : Int) < 1) || decide (1000 < (W : Int)) || (!(decide (0 ≤ r) && decide (r < (g.length : Int)) && decide (0 ≤ c) && decide (c < (W : Int))) && !(decide (r = -1) && decide (c = 0)))) with
  | true => rw [h2, cond_true] at h; omega
  | false =>
   rw [h2, cond_false] at h
   cases h3 : okGrid W g with
   | false => rw [h3, cond_false] at h; omega
   | true =>
    have hw : ∀ l ∈ g, l.length = W := fun l hl => by
     have := List.all_eq_true.1 h3 l hl
     unfold okRow at this
     simp only [Bool.and_eq_true, decide_eq_true_eq] at this
     exact this.1
    simp only [Bool.or_eq_false_iff, decide_eq_false_iff_not] at h2
    obtain ⟨⟨w1, w2⟩, hp⟩ := h2
    have hpos : (0 ≤ r ∧ r < (g.length : Int) ∧ 0 ≤ c ∧ c < (W : Int)) ∨ (r = -1 ∧ c = 0) := by
     by_cases q : (r = -1 ∧ c = 0)
     ·exact .inr q
     ·left
      have : (decide (r = -1) && decide (c = 0)) = false := by
       by_cases q1 : r = -1 <;> by_cases q2 : c = 0 <;> simp_all
      rw [this] at hp
      simp only [Bool.not_false, Bool.and_true, Bool.not_eq_false', Bool.and_eq_true, decide_eq_true_eq] at hp
      exact ⟨hp.1.1.1, hp.1.1.2, hp.1.2, hp.2⟩
    refine ⟨⟨by show 1 ≤ g.length; omega, by show g.length ≤ 200; omega, by omega, by omega, hw, by show 0 ≤ max r 0; omega, by show max r 0 < g.length; omega, by show 0 ≤ c; omega, by show c ≤ W; omega⟩, fun l hl e => ?_, fun e => ?_⟩
    ·have := hw l hl; rw [e] at this; simp at this; omega
    ·rw [e] at h1; simp at h1
theorem all_ok {W : Nat} {r : List UInt8 → Option (List Int)} : ∀ (l : List Op) (i : Nat) (x y : St), x.Ok W → St.all W r l i x = .inl y → y.Ok W
 | [], _, x, y, ok, h => by rw [St.all] at h; cases h; exact ok
 | o :: l, i, x, y, ok, h => by
  rw [St.all] at h
  cases hd : x.does W r o with
  | none => rw [hd] at h; cases h
  | some z => rw [hd] at h; exact all_ok l (i + 1) z y (does_ok ok hd) h
def AppR (H : AHeap) (g : List (List Ce)) (r c : Int) (l : List Op) (out : Out) (X : AHeap) : Prop :=
 Mod [] H X ∧ if chkR g r c = 0 then (match St.all (widG g) ptsR l 0 (St.start g r c) with
  | .inr i => out = .ok (.tuple #[.agg #[.slice none 0 0, .int .i64 0, .int .i64 0], .int .i64 5, .int .i64 (i : Int)])
  | .inl y => ∃ u rvs N, out = .ok (.tuple #[.agg #[u, .int .i64 y.atR, .int .i64 (y.atC (widG g))], .int .i64 0, .int .i64 0]) ∧ H.next ≤ N ∧ OwnG N X u rvs y.grid)
 else out = .ok (.tuple #[.agg #[.slice none 0 0, .int .i64 0, .int .i64 0], .int .i64 (chkR g r c), .int .i64 0])
set_option maxHeartbeats 8000000 in
theorem apply_c (H : AHeap) (v ov : Value) (g : List (List Ce)) (r c : Int) (l : List Op) (hg : GridAt H v g) (hl : OpsAt H ov l) (t : Tab H) (h2 : 2 ≤ H.next) (hok : H.base ≤ H.next) (hs : scb H.next v = true) (hw : ∀ l ∈ g, l.length ≤ 10000) (hgl : g.length ≤ 10000)
  (hlen : ∀ o ∈ l, o.text.data.toList.length ≤ 1000) (hll : l.length ≤ 10000) :
  CallA Tryd.prog 22 [.agg ⟨[v, .int .i64 r, .int .i64 c]⟩, ov] H (AppR H g r c l) := by
 obtain ⟨b, hb⟩ : ∃ b, H.next = b := ⟨_, rfl⟩
 have hbb : H.base ≤ b := hb ▸ hok
 obtain ⟨a0, c0, e0⟩ := hg.sl
 rw [hb] at hs
 have hs' := hs
 rw [e0] at hs
 obtain ⟨k, hk⟩ : ∃ k, chkR g r c = k := ⟨_, rfl⟩
 refine callE_fn mixed Tryd.func22 rfl Tryd.ntmps22 (Nat.le_of_ble_eq_true rfl) ?_
 rw [e0]
 simp (maxDischargeDepth := 6) only [hb, hbb, hs, ruW, putL, Nat.reduceLeDiff, xF, ruU, entryE, Nat.reduceLT, Nat.reduceAdd, Nat.reduceMul, Nat.reduceEqDiff]
 rw [← e0]
 obtain ⟨X, hX⟩ : ∃ X, ext H [⟨24, false, [v, .int .i64 r, .int .i64 c]⟩, ⟨24, false, [.slice none 0 0, .int .i64 0, .int .i64 0]⟩] = X := ⟨_, rfl⟩
 have mX : Mod [] H X := hX ▸ Mod.ext hok
 have nX : X.next = b + 2 := by rw [← hX, ext_next, hb]; rfl
 have k0 : bk X (b + 0) = some ⟨24, false, [v, .int .i64 r, .int .i64 c]⟩ := by rw [← hX, bk_at hb (by simp)]; rfl
 have k1 : bk X (b + 1) = some ⟨24, false, [.slice none 0 0, .int .i64 0, .int .i64 0]⟩ := by rw [← hX, bk_at hb (by simp)]; rfl
 have okX := mX.ok hok
 have gX : GridAt X v g := hX ▸ hg.ext
 rw [hX]
 have hck := check39_c X v g r c gX (fun l hl => by have := hw l hl; omega) (by omega)
 rw [hk] at hck
 rw [show X = ext X [] from rfl]
 refine hck.to ?_
 rw [show X = ext X [] from rfl]
 have l0 : b + 0 < b + 2 := by omega
 have l1 : b + 1 < b + 2 := by omega
 by_cases hk0 : k = 0
 ·have hd : decide (¬ k = 0) = false := by simp [hk0]
  rw [hk0] at hk
  obtain ⟨ok, hne, hgne⟩ := chk_ok hk
  obtain ⟨W, hW⟩ : ∃ W, widG g = W := ⟨_, rfl⟩
  rw [hW] at ok
  obtain ⟨F, hF, hFG⟩ := gX.foot hgne
  have hrn := restrict_next X F
  obtain ⟨gR, _⟩ := hFG (X.restrict F) (by rw [hrn.1]; exact Nat.le_refl _) (fun n hn => by rw [restrict_get, if_pos hn])
  obtain ⟨_, gg, hcc, u, rvs, rfl, gr, mg⟩ := clone39_c (X.restrict F) v g r c gR (by rw [hrn.1, hrn.2.1]; exact Nat.le_refl _) (by rw [hrn.1, nX]; exact scb_mono (by omega) _ hs') hne hw hgl
  rw [hrn.1] at gr
  simp (maxDischargeDepth := 6) only [hd, ruW, putL, Nat.reduceLeDiff, xF, ruU, entryE, Nat.reduceLT, Nat.reduceAdd, Nat.reduceMul, Nat.reduceEqDiff]
  refine w_drawB [(10, 1), (11, 10), (11, 1), (12, 11), (12, 1)] [] (by kernel_rfl) (by kernel_rfl) rfl fun ops anc hA hG => ?_
  simp only [all2_cons] at hA
  simp (maxDischargeDepth := 6) only [nX, k0, l0, hA, ruD, ruW, putL, Nat.reduceLeDiff, xF, ruU, entryE, Nat.reduceLT, Nat.reduceAdd, Nat.reduceMul, Nat.reduceEqDiff]
  refine genV_mod (H := ext X []) (W := []) F okX (by simp only [ruU, entryE, Nat.reduceLT, Nat.reduceAdd, Nat.reduceMul, Nat.reduceEqDiff]) (by kernel_rfl) (fun n hn => (hF n hn).1) (fun n hn => (hF n hn).2) (fun _ h => by simp at h) (v := .agg ⟨[u, .int .i64 r, .int .i64 c]⟩) (g := gg) (by simp only [ruU, entryE, Nat.reduceLT, Nat.reduceAdd, Nat.reduceMul, Nat.reduceEqDiff]; exact hcc) mg (by simp only [all2_cons, all2_nil, hA, true_or, and_true]; simp) ?_
  intro Z D mZ hFZ hNZ hnZ hDZ
  have hD0 : D = [] := List.eq_nil_iff_forall_not_mem.2 (fun q hq => by simpa using hDZ q hq)
  subst hD0
  replace mZ : Mod [] X Z := mZ
  replace hNZ : ∀ m, X.next ≤ m → m < gg.next → Z.get m = gg.get m := hNZ
  have grZ : Grow (b + 2) Z u rvs g := by
   have := gr.of (Y := Z) (by omega) (fun n hn hm => hNZ n (by
    rcases List.mem_append.1 hm with hm | hm
    ·exact (gr.apart n hm).1
    ·exact (gr.ids n hm).1) hn)
   rw [nX] at this
   exact this
  obtain ⟨au, eu⟩ := grZ.at_.len
  have hsu := grZ.at_.sc
  have slu : Slc u := by
   obtain ⟨_, _, ⟨h0, _⟩ | ⟨_, n, e, _⟩⟩ := grZ.at_
   ·exact absurd (List.length_eq_zero_iff.1 h0) hgne
   ·exact ⟨n, _, e⟩
  have okZ := mZ.ok okX
  obtain ⟨zn, hzn⟩ : ∃ z, Z.next = z := ⟨_, rfl⟩
  have hzb : Z.base ≤ zn := hzn ▸ okZ
  have hz2 : b + 2 ≤ zn := by have := mZ.next; omega
  have kz0 : bk Z (b + 0) = _ := (mZ.bk (by omega) (by simp)).trans k0
  have kz1 : bk Z (b + 1) = _ := (mZ.bk (by omega) (by simp)).trans k1
  have hg2 : gg.next = zn := by omega
  have l0z : b + 0 < zn := by omega
  rw [hzn] at hsu
  rw [eu] at hsu
  rw [show Z = ext Z [] from rfl, eu]
  simp (maxDischargeDepth := 6) only [hzn, hzb, kz0, l0z, hg2, hsu, nX, hA, ruD, ruW, putL, Nat.reduceLeDiff, xF, ruU, entryE, Nat.reduceLT, Nat.reduceAdd, Nat.reduceMul, Nat.reduceEqDiff]
  rw [← eu]
  obtain ⟨Y1, hY1⟩ : ∃ Y1, ext Z [⟨76, false, (St.start g r c).cells u⟩] = Y1 := ⟨_, rfl⟩
  have mY1 : Mod [] Z Y1 := hY1 ▸ Mod.ext okZ
  have nY1 : Y1.next = zn + 1 := by rw [← hY1, ext_next, hzn]; rfl
  have kp : bk Y1 (zn + 0) = some ⟨76, false, (St.start g r c).cells u⟩ := by rw [← hY1, bk_at hzn (by simp)]; rfl
  have mHZ : Mod [] H Z := mX.trans mZ
  have mHY : Mod [] H Y1 := mHZ.trans mY1
  have aY1 : StAt 76 (b + 2) Y1 (zn + 0) u rvs (St.start g r c) := by
   have own := grZ.own
   refine ⟨kp, own.of mY1.next fun n h1 h2 h3 => mY1.get n h2 (by simp), fun h => ?_, by omega, by omega⟩
   rcases List.mem_append.1 h with h | h
   ·have := (own.idv _ h).2.1; omega
   ·have := (own.ids _ h).2.1; omega
  have tY1 : Tab Y1 := t.of (mHY.get 0 (by omega) (by simp)) (mHY.get 1 (by omega) (by simp))
  have key := executed_c (b + 2) Y1 (zn + 0) W u ov rvs (St.start g r c) l (hl.mod0 mHY) (fun h n hn => by have := hl.old h n hn; omega) aY1 slu tY1 (by omega) (by omega) (mY1.ok okZ) ok hlen hll
  simp only [St.start, St.cells] at hY1
  rw [hY1]
  refine key.mono ?_
  rintro out Y ⟨mY, hr⟩
  have keep : ∀ n, n < b + 2 → bk Y n = bk Y1 n := fun n hn => by
   obtain ⟨Ws, h1, m1⟩ := mY
   exact m1.bk (by omega) fun h => by have := (h1 n h).1; omega
  have ky1 := (keep (b + 1) (by omega)).trans ((mY1.bk (by omega) (by simp)).trans kz1)
  have mHYf : Mod [] H Y := mY.mod mHY hok (by omega)
  have okY := mY.ok (mY1.ok okZ)
  obtain ⟨yn, hyn⟩ : ∃ n, Y.next = n := ⟨_, rfl⟩
  have hyb : Y.base ≤ yn := hyn ▸ okY
  have hzy : zn + 1 ≤ yn := by have := mY.next; omega
  have l1y : b + 1 < yn := by omega
  rw [show Y = ext Y [] from rfl]
  cases hall : St.all W ptsR l 0 (St.start g r c) with
  | inr i =>
   rw [hall] at hr
   obtain rfl := hr
   have hdi : decide ((0 : Int) ≤ (i : Int)) = true := decide_eq_true (by omega)
   simp (maxDischargeDepth := 6) only [hyn, ky1, l1y, hdi, Tryd.results22, ruW, putL, Nat.reduceLeDiff, xF, ruU, entryE, Nat.reduceLT, Nat.reduceAdd, Nat.reduceMul, Nat.reduceEqDiff]
   have mU : Mod [b + 1] Y (uw Y (b + 1) 0 [.slice none 0 0, .int .i64 0, .int .i64 0]) := Mod.uw (by simp)
   refine ⟨mHYf.step mU hok (fun n hn => .inr (by simp only [List.mem_singleton] at hn; omega)), ?_⟩
   rw [if_pos hk, hW, hall]
  | inl y =>
   rw [hall] at hr
   obtain ⟨rfl, u2, rvs2, sl2, a2⟩ := hr
   have hdi : decide ((0 : Int) ≤ -1) = false := by decide
   have kpy := a2.cell
   simp only [St.cells] at kpy
   have lpy : zn + 0 < yn := by omega
   have oky := all_ok l 0 _ y ok hall
   simp (maxDischargeDepth := 6) only [hyn, lpy, kpy, hdi, ruW, putL, Nat.reduceLeDiff, xF, ruU, entryE, Nat.reduceLT, Nat.reduceAdd, Nat.reduceMul, Nat.reduceEqDiff]
   obtain ⟨a3, m3⟩ := a2.putU (y := { y with sr := -1 }) okY (off := 1) (vs := [.int .i64 (-1)]) (L := []) rfl rfl
   obtain ⟨a4, m4⟩ := a3.putU (y := { y with sr := -1, sc := 0 }) (m3.ok okY) (off := 2) (vs := [.int .i64 0]) (L := []) rfl rfl
   have ok4 := m4.ok (m3.ok okY)
   have m34 : Mod [zn + 0] Y (ext (uw (uw Y (zn + 0) 1 [.int .i64 (-1)]) (zn + 0) 2 [.int .i64 0]) []) := m3.trans m4
   generalize hY4 : ext (uw (uw Y (zn + 0) 1 [.int .i64 (-1)]) (zn + 0) 2 [.int .i64 0]) [] = Y4 at a4 ok4 m34 ⊢
   replace a4 : StAt 76 (b + 2) Y4 (zn + 0) u2 rvs2 { y with sr := -1, sc := 0 } := hY4 ▸ a4
   replace ok4 : Y4.base ≤ Y4.next := hY4 ▸ ok4
   rw [show Y4 = ext Y4 [] from rfl]
   refine condC_meet (fun E' Z2 => Mod [zn + 0] Y Z2 ∧ E' 4 = .pointer (some ⟨b + 1, 0, none⟩) ∧ E' 8 = .pointer (some ⟨zn + 0, 0, none⟩) ∧ StAt 76 (b + 2) Z2 (zn + 0) u2 rvs2 { y with sr := y.atR, sc := y.atC W }) ?_ ?_
   ·have oky4 : St.Ok { y with sr := -1, sc := 0 } W := ⟨oky.h1, oky.h2, oky.w1, oky.w2, oky.wid, oky.row0, oky.row1, oky.col0, oky.col1⟩
    obtain ⟨m, hml, hmp, ⟨_, _, _, hmb⟩, hwd⟩ := dwidth_c a4 oky4
    have hFn : ∀ n ∈ [zn + 0, m], (ext Y4 []).get n ≠ none := fun n hn => by
     simp only [List.mem_cons, List.not_mem_nil, or_false] at hn
     rcases hn with rfl | rfl
     ·exact bk_ne a4.cell
     ·exact bk_ne hmb
    have n4 : Y4.next = yn := by rw [← hY4, ext_next, uw_next, uw_next, hyn]; rfl
    have k4 := a4.cell
    simp only [St.cells] at k4
    cases hsh : y.shown with
    | false =>
     have e1 : y.atR = -1 := by simp [St.atR, hsh]
     have e2 : y.atC W = 0 := by simp [St.atC, hsh]
     rw [e1, e2]
     simp (maxDischargeDepth := 6) only [ruW, putL, Nat.reduceLeDiff, xF, ruU, entryE, Nat.reduceLT, Nat.reduceAdd, Nat.reduceMul, Nat.reduceEqDiff]
     rw [hsh] at a4
     exact joinR_normal ⟨m34, by simp only [ruU, entryE, Nat.reduceLT, Nat.reduceAdd, Nat.reduceMul, Nat.reduceEqDiff], by simp only [ruU, entryE, Nat.reduceLT, Nat.reduceAdd, Nat.reduceMul, Nat.reduceEqDiff], a4⟩
    | true =>
     have e1 : y.atR = y.row := by simp [St.atR, hsh]
     have e2 : y.atC W = min y.col ((W : Int) - 1) := by simp [St.atC, hsh]
     have hw1 : IntKind.i64.wrap ((W : Int) - 1) = (W : Int) - 1 := wrap_sm (by have := oky.w1; omega) (by have := oky.w2; omega)
     rw [e1, e2]
     simp (maxDischargeDepth := 6) only [ruW, putL, Nat.reduceLeDiff, xF, ruU, entryE, Nat.reduceLT, Nat.reduceAdd, Nat.reduceMul, Nat.reduceEqDiff]
     refine w_drawB [(17, 5), (17, 9), (17, 11), (21, 17), (21, 5), (21, 9), (21, 11)] [] (by kernel_rfl) (by kernel_rfl) rfl fun ops anc hA hG => ?_
     simp only [all2_cons] at hA
     simp (maxDischargeDepth := 6) only [n4, lpy, k4, hA, ruD, ruW, putL, Nat.reduceLeDiff, xF, ruU, entryE, Nat.reduceLT, Nat.reduceAdd, Nat.reduceMul, Nat.reduceEqDiff]
     refine genV_quiet (v := .int .i64 W) [zn + 0, m] rfl (by kernel_rfl) (Nat.le_of_ble_eq_true rfl) hFn (fun G hn hg => hwd G hn hg) (by simp [Meets]) ?_
     simp (maxDischargeDepth := 6) only [n4, lpy, k4, hw1, hA, ruD, ruW, putL, Nat.reduceLeDiff, xF, ruU, entryE, Nat.reduceLT, Nat.reduceAdd, Nat.reduceMul, Nat.reduceEqDiff]
     obtain ⟨a5, m5⟩ := a4.putU (y := { y with sr := y.row, sc := 0 }) ok4 (off := 1) (vs := [.int .i64 y.row]) (L := []) rfl rfl
     obtain ⟨a6, m6⟩ := a5.putU (y := { y with sr := y.row, sc := min y.col ((W : Int) - 1) }) (m5.ok ok4) (off := 2) (vs := [.int .i64 (min y.col ((W : Int) - 1))]) (L := []) rfl rfl
     rw [hsh] at a6
     exact joinR_normal ⟨m34.trans (m5.trans m6), by simp only [ruU, entryE, Nat.reduceLT, Nat.reduceAdd, Nat.reduceMul, Nat.reduceEqDiff], by simp only [ruU, entryE, Nat.reduceLT, Nat.reduceAdd, Nat.reduceMul, Nat.reduceEqDiff], a6⟩
   ·rintro E Z2 ⟨m2, e4, e8, a7⟩
    have okZ2 := m2.ok okY
    obtain ⟨z2, hz2n⟩ : ∃ n, Z2.next = n := ⟨_, rfl⟩
    have hyz2 : yn ≤ z2 := by have := m2.next; omega
    have k7 := a7.cell
    simp only [St.cells] at k7
    have l7 : zn + 0 < z2 := by omega
    have l8 : b + 1 < z2 := by omega
    have k8 := (m2.bk (n := b + 1) (by omega) (by simp only [List.mem_singleton]; omega)).trans ky1
    obtain ⟨nu, hu, eu2⟩ := sl2
    have hnu : nu < z2 := by
     have := (a7.own.idv nu (by rw [eu2]; simp [idsV])).2.1
     omega
    have hsu2 : scb z2 u2 = true := by rw [eu2]; exact blt_of hnu
    rw [show Z2 = ext Z2 [] from rfl]
    rw [eu2] at k7 hsu2
    simp (maxDischargeDepth := 6) only [e4, e8, hz2n, l7, l8, k7, k8, hsu2, Tryd.results22, ruW, putL, Nat.reduceLeDiff, xF, ruU, entryE, Nat.reduceLT, Nat.reduceAdd, Nat.reduceMul, Nat.reduceEqDiff]
    rw [← eu2]
    have mU : Mod [b + 1] Z2 (uw Z2 (b + 1) 0 [u2, .int .i64 y.atR, .int .i64 (y.atC W)]) := Mod.uw (by simp)
    have mHZ2 : Mod [] H Z2 := mHYf.step m2 hok (fun n hn => .inr (by simp only [List.mem_singleton] at hn; omega))
    refine ⟨mHZ2.step mU hok (fun n hn => .inr (by simp only [List.mem_singleton] at hn; omega)), ?_⟩
    rw [if_pos hk, hW, hall]
    refine ⟨u2, rvs2, b + 2, rfl, by omega, a7.own.of mU.next fun n h1 h2 h3 => mU.get n h2 (by simp only [List.mem_singleton]; omega)⟩
 ·have hd : decide (¬ k = 0) = true := by simp [hk0]
  simp (maxDischargeDepth := 6) only [hd, nX, k0, k1, l0, l1, Tryd.results22, ruW, putL, Nat.reduceLeDiff, xF, ruU, entryE, Nat.reduceLT, Nat.reduceAdd, Nat.reduceMul, Nat.reduceEqDiff]
  have mU : Mod [b + 1] X (uw X (b + 1) 0 [.slice none 0 0, .int .i64 0, .int .i64 0]) := Mod.uw (by simp)
  refine ⟨mX.step mU hok (fun n hn => .inr (by simp only [List.mem_singleton] at hn; omega)), ?_⟩
  rw [if_neg (by rw [hk]; exact hk0), hk]
end Go.Proofs.YtaojjfebkldmnaaDoor
/- The walk of the reference's Check. -/
namespace Go.Proofs.YtaojjfebkldmnaaDoor
open Go.Ax
set_option maxHeartbeats 8000000 in
theorem refCheck39_c (H : AHeap) (v : Value) (g : List (List Ce)) (r c : Int) (hg : GridAt H v g) (hw : ∀ l ∈ g, l.length < 1000000) (hgl : g.length < 1000000) :
  Pure 17 [.agg ⟨[v, .int .i64 r, .int .i64 c]⟩] H (.int .i64 (chkR g r c)) := by
 obtain ⟨b, hb⟩ : ∃ b, H.next = b := ⟨_, rfl⟩
 obtain ⟨h, hh⟩ : ∃ h, g.length = h := ⟨_, rfl⟩
 obtain ⟨W, hW⟩ : ∃ W, widG g = W := ⟨_, rfl⟩
 obtain ⟨dh1, k1⟩ : ∃ d, decide ((h : Int) < 1) = d := ⟨_, rfl⟩
 obtain ⟨dh2, k2⟩ : ∃ d, decide ((200 : Int) < (h : Int)) = d := ⟨_, rfl⟩
 obtain ⟨dW1, k3⟩ : ∃ d, decide ((W : Int) < 1) = d := ⟨_, rfl⟩
 obtain ⟨dW2, k4⟩ : ∃ d, decide ((1000 : Int) < (W : Int)) = d := ⟨_, rfl⟩
 obtain ⟨d1, h1⟩ : ∃ d, decide ((0 : Int) ≤ r) = d := ⟨_, rfl⟩
 obtain ⟨d2, h2⟩ : ∃ d, decide (r < (h : Int)) = d := ⟨_, rfl⟩
 obtain ⟨d3, h3⟩ : ∃ d, decide ((0 : Int) ≤ c) = d := ⟨_, rfl⟩
 obtain ⟨d4, h4⟩ : ∃ d, decide (c < (W : Int)) = d := ⟨_, rfl⟩
 obtain ⟨d5, h5⟩ : ∃ d, decide (r = -1) = d := ⟨_, rfl⟩
 obtain ⟨d6, h6⟩ : ∃ d, decide (c = 0) = d := ⟨_, rfl⟩
 obtain ⟨R, hR⟩ : ∃ R, chkR g r c = R := ⟨_, rfl⟩
 have n1 : decide (r < 0) = !d1 := by rw [← h1, ← decide_not]; exact decide_eq_decide.2 (by omega)
 have n2 : decide ((h : Int) ≤ r) = !d2 := by rw [← h2, ← decide_not]; exact decide_eq_decide.2 (by omega)
 have n3 : decide (c < 0) = !d3 := by rw [← h3, ← decide_not]; exact decide_eq_decide.2 (by omega)
 have n4 : decide ((W : Int) ≤ c) = !d4 := by rw [← h4, ← decide_not]; exact decide_eq_decide.2 (by omega)
 rw [hR]
 rw [chkR, hh, hW, k1, k2, k3, k4, h1, h2, h3, h4, h5, h6] at hR
 refine callS_fn mixed Tryd.func17 rfl Tryd.ntmps17 (Nat.le_of_ble_eq_true rfl) fun wf hsc => ?_
 have hbase : H.base ≤ b := hb ▸ wf.base
 have hg' := hg
 obtain ⟨a0, c0, e0⟩ := hg.sl
 have hscv : scb b v = true := by
  simp only [scbL, scb, scbA, Bool.and_eq_true, hb] at hsc
  exact hsc.1.1
 rw [e0, hh] at hscv
 cases dh1 with
 | true =>
  obtain rfl : 3 = R := by simpa using hR
  rw [e0, hh]
  simp (maxDischargeDepth := 6) only [hb, hbase, hscv, k1, Tryd.results17, ruW, putL, Nat.reduceLeDiff, xF, ruU, entryE, Nat.reduceLT, Nat.reduceAdd, Nat.reduceMul, Nat.reduceEqDiff]
  exact Fin.pureE rfl rfl
 | false =>
  cases dh2 with
  | true =>
   obtain rfl : 3 = R := by simpa using hR
   rw [e0, hh]
   simp (maxDischargeDepth := 6) only [hb, hbase, hscv, k1, k2, Tryd.results17, ruW, putL, Nat.reduceLeDiff, xF, ruU, entryE, Nat.reduceLT, Nat.reduceAdd, Nat.reduceMul, Nat.reduceEqDiff]
   exact Fin.pureE rfl rfl
  | false =>
   have hpos : 0 < g.length := by have := of_decide_eq_false k1; omega
   rcases hg with ⟨h', _⟩ | ⟨_, n1', o1, s1, x1, t1, p1, L1, rfl, b1, n1l, le1, tk1⟩
   ·rw [h'] at hpos; simp at hpos
   obtain ⟨r0, hr0⟩ : ∃ q, g[0]? = some q := ⟨_, List.getElem?_eq_getElem hpos⟩
   obtain ⟨u0, hu0, ra0⟩ := tk1 0 r0 hr0
   obtain ⟨a0', k0, e0'⟩ := ra0.sl
   have hl0 : r0.length = W := by rw [← hW, widG, List.getD_eq_getElem?_getD, hr0]; rfl
   rw [hl0] at e0'
   rw [e0'] at hu0
   have i1 := grid_ia (n := n1') (off := o1) (s := s1) (cap := x1) (i := ((0 : Nat) : Int)) rfl hpos
   rw [show ((0 : Nat) : Int) = 0 from rfl] at i1
   have q1 := grid_load (e := t1) (o := p1) hu0
   rw [Nat.add_zero] at q1 i1
   rw [hh] at i1 hg' ⊢
   have hlt := n1l
   rw [hb] at hlt
   have hws : dW1 = true ∨ (dW1 = false ∧ dW2 = true) ∨ (dW1 = false ∧ dW2 = false) := by cases dW1 <;> cases dW2 <;> simp
   have hns : d5 = false ∨ (d5 = true ∧ d6 = false) ∨ (d5 = true ∧ d6 = true) := by cases d5 <;> cases d6 <;> simp
   have hs : (d1 = true ∧ d2 = true ∧ d3 = true ∧ d4 = true) ∨ d1 = false ∨ (d1 = true ∧ d2 = false) ∨ (d1 = true ∧ d2 = true ∧ d3 = false) ∨ (d1 = true ∧ d2 = true ∧ d3 = true ∧ d4 = false) := by
    cases d1 <;> cases d2 <;> cases d3 <;> cases d4 <;> simp
   by_cases hbad : dW1 = true ∨ dW2 = true ∨ ((d5 = false ∨ d6 = false) ∧ (d1 = false ∨ d2 = false ∨ d3 = false ∨ d4 = false))
   ·have hR3 : 3 = R := by
     rcases hbad with rfl | rfl | ⟨ha, hb'⟩
     ·simpa using hR
     ·cases dW1 <;> simpa using hR
     ·rcases ha with rfl | rfl <;> rcases hb' with rfl | rfl | rfl | rfl <;> cases dW1 <;> cases dW2 <;> simpa using hR
    subst hR3
    rcases hws with rfl | ⟨rfl, rfl⟩ | ⟨rfl, rfl⟩
    ·rcases hns with rfl | ⟨rfl, rfl⟩ | ⟨rfl, rfl⟩
     all_goals (simp (maxDischargeDepth := 6) only [hb, hbase, hlt, b1, i1, q1, qk_old, k1, k2, k3, k4, h5, h6, Tryd.results17, ruW, putL, Nat.reduceLeDiff, xF, ruU, entryE, Nat.reduceLT, Nat.reduceAdd, Nat.reduceMul, Nat.reduceEqDiff]; exact Fin.pureE rfl rfl)
    ·rcases hns with rfl | ⟨rfl, rfl⟩ | ⟨rfl, rfl⟩
     all_goals (simp (maxDischargeDepth := 6) only [hb, hbase, hlt, b1, i1, q1, qk_old, k1, k2, k3, k4, h5, h6, Tryd.results17, ruW, putL, Nat.reduceLeDiff, xF, ruU, entryE, Nat.reduceLT, Nat.reduceAdd, Nat.reduceMul, Nat.reduceEqDiff]; exact Fin.pureE rfl rfl)
    ·rcases hns with rfl | ⟨rfl, rfl⟩ | ⟨rfl, rfl⟩
     ·rcases hs with ⟨rfl, rfl, rfl, rfl⟩ | rfl | ⟨rfl, rfl⟩ | ⟨rfl, rfl, rfl⟩ | ⟨rfl, rfl, rfl, rfl⟩
      ·simp at hbad
      all_goals (simp (maxDischargeDepth := 6) only [hb, hbase, hlt, b1, i1, q1, qk_old, k1, k2, k3, k4, h5, h6, n1, n2, n3, n4, Bool.not_true, Bool.not_false, Tryd.results17, ruW, putL, Nat.reduceLeDiff, xF, ruU, entryE, Nat.reduceLT, Nat.reduceAdd, Nat.reduceMul, Nat.reduceEqDiff]; exact Fin.pureE rfl rfl)
     ·rcases hs with ⟨rfl, rfl, rfl, rfl⟩ | rfl | ⟨rfl, rfl⟩ | ⟨rfl, rfl, rfl⟩ | ⟨rfl, rfl, rfl, rfl⟩
      ·simp at hbad
      all_goals (simp (maxDischargeDepth := 6) only [hb, hbase, hlt, b1, i1, q1, qk_old, k1, k2, k3, k4, h5, h6, n1, n2, n3, n4, Bool.not_true, Bool.not_false, Tryd.results17, ruW, putL, Nat.reduceLeDiff, xF, ruU, entryE, Nat.reduceLT, Nat.reduceAdd, Nat.reduceMul, Nat.reduceEqDiff]; exact Fin.pureE rfl rfl)
     ·simp at hbad
   ·obtain ⟨rfl, rfl, hgood⟩ : dW1 = false ∧ dW2 = false ∧ ((d5 = true ∧ d6 = true) ∨ (d1 = true ∧ d2 = true ∧ d3 = true ∧ d4 = true)) := by
     cases dW1 <;> cases dW2 <;> cases d1 <;> cases d2 <;> cases d3 <;> cases d4 <;> cases d5 <;> cases d6 <;> simp at hbad ⊢
    have hRB : R = cond (okGrid W g) 0 5 := by
     rw [← hR]
     rcases hgood with ⟨rfl, rfl⟩ | ⟨rfl, rfl, rfl, rfl⟩ <;> simp
    clear hR hbad hws
    have hgood3 : (d5 = false ∧ d1 = true ∧ d2 = true ∧ d3 = true ∧ d4 = true) ∨ (d5 = true ∧ d6 = false ∧ d1 = true ∧ d2 = true ∧ d3 = true ∧ d4 = true) ∨ (d5 = true ∧ d6 = true) := by
     rcases hns with rfl | ⟨rfl, rfl⟩ | ⟨rfl, rfl⟩
     ·exact .inl ⟨rfl, by simpa using hgood⟩
     ·exact .inr (.inl ⟨rfl, rfl, by simpa using hgood⟩)
     ·exact .inr (.inr ⟨rfl, rfl⟩)
    clear hns hgood hs
    obtain ⟨X, hX⟩ : ∃ X, X = ext H [⟨24, false, [.slice (some ⟨n1', o1, s1⟩) h x1, .int .i64 r, .int .i64 c]⟩] := ⟨_, rfl⟩
    rcases hgood3 with ⟨rfl, rfl, rfl, rfl, rfl⟩ | ⟨rfl, rfl, rfl, rfl, rfl, rfl⟩ | ⟨rfl, rfl⟩
    all_goals
     simp (maxDischargeDepth := 6) only [hb, hbase, hlt, b1, i1, q1, qk_old, k1, k2, k3, k4, h5, h6, n1, n2, n3, n4, Bool.not_true, Bool.not_false, ruW, putL, Nat.reduceLeDiff, xF, ruU, entryE, Nat.reduceLT, Nat.reduceAdd, Nat.reduceMul, Nat.reduceEqDiff]
     refine w_env fun E hE => ?_
     have g1 : E 1 = .pointer (some ⟨b + 0, 0, none⟩) := by rw [hE]; simp only [ruU, entryE, Nat.reduceLT, Nat.reduceAdd, Nat.reduceMul, Nat.reduceEqDiff]
     have g3 : E 3 = .int .i64 (h : Int) := by rw [hE]; simp only [ruU, entryE, Nat.reduceLT, Nat.reduceAdd, Nat.reduceMul, Nat.reduceEqDiff]
     have g4 : E 4 = .int .i64 (W : Int) := by rw [hE]; simp only [ruU, entryE, Nat.reduceLT, Nat.reduceAdd, Nat.reduceMul, Nat.reduceEqDiff]
     have g6 : E 6 = .int .i64 ((0 : Nat) : Int) := by rw [hE]; (simp only [ruU, entryE, Nat.reduceLT, Nat.reduceAdd, Nat.reduceMul, Nat.reduceEqDiff] <;> rfl)
     clear hE
     refine blockC_meet (fun E' H' => H' = X ∧ okGrid W g = true) ?_ ?_
     ·refine w_loop (fun (k : Nat) E' H' => H' = X ∧ E' 1 = .pointer (some ⟨b + 0, 0, none⟩) ∧ E' 3 = .int .i64 (h : Int) ∧ E' 4 = .int .i64 (W : Int) ∧ E' 6 = .int .i64 (k : Int) ∧ k ≤ h ∧ ∀ i l, i < k → g[i]? = some l → okRow W l = true) (fun k => h - k) 0
       ⟨hX.symm, g1, g3, g4, g6, Nat.zero_le _, fun i l hi => by omega⟩ ?_
      clear g1 g3 g4 g6
      rintro k E H' ⟨hH, g1, g3, g4, g6, hk, hpre⟩
      rw [hH]
      by_cases hkl : k = h
      ·have hc : decide ((k : Int) < (h : Int)) = false := by simp [hkl]
       simp (maxDischargeDepth := 6) only [g1, g3, g4, g6, hc, ruW, putL, Nat.reduceLeDiff, xF, ruU, entryE, Nat.reduceLT, Nat.reduceAdd, Nat.reduceMul, Nat.reduceEqDiff]
       refine joinR_normal ⟨rfl, ?_⟩
       rw [okGrid, List.all_eq_true]
       intro l hl
       obtain ⟨i, hi⟩ := List.getElem?_of_mem hl
       exact hpre i l (by have := (List.getElem?_eq_some_iff.1 hi).1; omega) hi
      ·have hlk : k < h := by omega
       have hc : decide ((k : Int) < (h : Int)) = true := decide_eq_true (by omega)
       obtain ⟨w1, hr1⟩ : ∃ r, g[k]? = some r := ⟨_, List.getElem?_eq_getElem (by omega)⟩
       obtain ⟨u1, hu1, ra1⟩ := tk1 k w1 hr1
       obtain ⟨a1, c1, e1⟩ := ra1.sl
       rw [e1] at hu1 ra1
       have i2 := grid_ia (n := n1') (off := o1) (s := s1) (cap := x1) (i := (k : Int)) (len := h) rfl hlk
       have q2 := grid_load (e := t1) (o := p1) hu1
       have hra := row39_c X _ w1 (hX ▸ ra1.ext) (hw w1 (List.mem_of_getElem? hr1))
       obtain ⟨d, hd⟩ : ∃ d, wholeB w1 = d := ⟨_, rfl⟩
       obtain ⟨dl, hdl⟩ : ∃ d, decide (w1.length = W) = d := ⟨_, rfl⟩
       have hd2 : decide (¬ (w1.length : Int) = (W : Int)) = !dl := by
        rw [← hdl, decide_not]
        exact congrArg _ (decide_eq_decide.2 (by omega))
       have hor : okRow W w1 = (dl && d) := by rw [okRow, hd, hdl]
       rw [hd, hX] at hra
       rw [hX]
       have hbadR : (dl && d) = false → 5 = R := fun he => by
        rw [hRB, okGrid, List.all_eq_false.2 ⟨w1, List.mem_of_getElem? hr1, by rw [hor, he]; simp⟩]
        rfl
       cases dl with
       | false =>
        obtain rfl : 5 = R := hbadR rfl
        simp (maxDischargeDepth := 6) only [g1, g3, g4, g6, hb, hbase, hlt, b1, i2, q2, qk_old, hc, hd2, Bool.not_false, joinR_ret, Tryd.results17, ruW, putL, Nat.reduceLeDiff, xF, ruU, entryE, Nat.reduceLT, Nat.reduceAdd, Nat.reduceMul, Nat.reduceEqDiff]
        exact Fin.pureE rfl rfl
       | true =>
        simp (maxDischargeDepth := 6) only [g1, g3, g4, g6, hb, hbase, hlt, b1, i2, q2, qk_old, hc, hd2, Bool.not_true, ruW, putL, Nat.reduceLeDiff, xF, ruU, entryE, Nat.reduceLT, Nat.reduceAdd, Nat.reduceMul, Nat.reduceEqDiff]
        refine hra.to ?_
        cases d with
        | false =>
         obtain rfl : 5 = R := hbadR rfl
         simp (maxDischargeDepth := 6) only [Bool.not_false, joinR_ret, Tryd.results17, ruW, putL, Nat.reduceLeDiff, xF, ruU, entryE, Nat.reduceLT, Nat.reduceAdd, Nat.reduceMul, Nat.reduceEqDiff]
         exact Fin.pureE rfl rfl
        | true =>
         simp (maxDischargeDepth := 6) only [g1, g3, g4, g6, Bool.not_true, wrap_succ (show k < 1000000 by omega), ruW, putL, Nat.reduceLeDiff, xF, ruU, entryE, Nat.reduceLT, Nat.reduceAdd, Nat.reduceMul, Nat.reduceEqDiff]
         refine loopC_next ⟨k + 1, by omega, rfl, ?_, ?_, ?_, ?_, by omega, fun i l hi hl => ?_⟩
         ·simp only [g1, ruU, entryE, Nat.reduceLT, Nat.reduceAdd, Nat.reduceMul, Nat.reduceEqDiff]
         ·simp only [g3, ruU, entryE, Nat.reduceLT, Nat.reduceAdd, Nat.reduceMul, Nat.reduceEqDiff]
         ·simp only [g4, ruU, entryE, Nat.reduceLT, Nat.reduceAdd, Nat.reduceMul, Nat.reduceEqDiff]
         ·simp only [g6, ruU, entryE, Nat.reduceLT, Nat.reduceAdd, Nat.reduceMul, Nat.reduceEqDiff]
         ·rcases Nat.lt_or_ge i k with h' | h'
          ·exact hpre i l h' hl
          ·obtain rfl : i = k := by omega
           rw [hr1] at hl
           cases hl
           rw [hor]
           rfl
     ·rintro E H' ⟨hH, hall⟩
      obtain rfl : 0 = R := by rw [hRB, hall]; rfl
      rw [hH, hX]
      simp (maxDischargeDepth := 6) only [Tryd.results17, ruW, putL, Nat.reduceLeDiff, xF, ruU, entryE, Nat.reduceLT, Nat.reduceAdd, Nat.reduceMul, Nat.reduceEqDiff]
      exact Fin.pureE rfl rfl
end Go.Proofs.YtaojjfebkldmnaaDoor
/- What the reference's Apply comes to. -/
namespace Go.Proofs.YtaojjfebkldmnaaDoor
open Go.Ax
set_option maxHeartbeats 8000000 in
theorem refApply_c (H : AHeap) (v ov : Value) (g : List (List Ce)) (r c : Int) (l : List Op) (hg : GridAt H v g) (hsg : GridSc H v) (hl : OpsAt H ov l) (hok : H.base ≤ H.next) (hs : scb H.next v = true) (hw : ∀ l ∈ g, l.length ≤ 10000) (hgl : g.length ≤ 10000)
  (hlen : ∀ o ∈ l, o.text.data.toList.length ≤ 1000) (hll : l.length ≤ 10000) :
  CallA Tryd.prog 23 [.agg ⟨[v, .int .i64 r, .int .i64 c]⟩, ov] H (AppR H g r c l) := by
 obtain ⟨b, hb⟩ : ∃ b, H.next = b := ⟨_, rfl⟩
 have hbb : H.base ≤ b := hb ▸ hok
 obtain ⟨a0, c0, e0⟩ := hg.sl
 rw [hb] at hs
 have hs' := hs
 rw [e0] at hs
 obtain ⟨k, hk⟩ : ∃ k, chkR g r c = k := ⟨_, rfl⟩
 refine callE_fn mixed Tryd.func23 rfl Tryd.ntmps23 (Nat.le_of_ble_eq_true rfl) ?_
 rw [e0]
 simp (maxDischargeDepth := 6) only [hb, hbb, hs, ruW, putL, Nat.reduceLeDiff, xF, ruU, entryE, Nat.reduceLT, Nat.reduceAdd, Nat.reduceMul, Nat.reduceEqDiff]
 rw [← e0]
 obtain ⟨X, hX⟩ : ∃ X, ext H [⟨24, false, [v, .int .i64 r, .int .i64 c]⟩, ⟨24, false, [.slice none 0 0, .int .i64 0, .int .i64 0]⟩] = X := ⟨_, rfl⟩
 have mX : Mod [] H X := hX ▸ Mod.ext hok
 have nX : X.next = b + 2 := by rw [← hX, ext_next, hb]; rfl
 have k0 : bk X (b + 0) = some ⟨24, false, [v, .int .i64 r, .int .i64 c]⟩ := by rw [← hX, bk_at hb (by simp)]; rfl
 have k1 : bk X (b + 1) = some ⟨24, false, [.slice none 0 0, .int .i64 0, .int .i64 0]⟩ := by rw [← hX, bk_at hb (by simp)]; rfl
 have okX := mX.ok hok
 have gX : GridAt X v g := hX ▸ hg.ext
 have sX : GridSc X v := fun n off s len c' b' e' hb' => by
  have hn : n < H.next := by rw [e'] at hs'; have := hs'; simp only [scb] at this; rw [hb]; exact Nat.lt_of_succ_le (Nat.le_of_ble_eq_true this)
  rw [← hX, rk_old hn] at hb'
  exact scbL_mono mX.next _ (hsg n off s len c' b' e' hb')
 rw [hX]
 have hck := refCheck39_c X v g r c gX (fun l hl => by have := hw l hl; omega) (by omega)
 rw [hk] at hck
 rw [show X = ext X [] from rfl]
 refine hck.to ?_
 rw [show X = ext X [] from rfl]
 have l0 : b + 0 < b + 2 := by omega
 have l1 : b + 1 < b + 2 := by omega
 by_cases hk0 : k = 0
 ·have hd : decide (¬ k = 0) = false := by simp [hk0]
  rw [hk0] at hk
  obtain ⟨ok, hne, hgne⟩ := chk_ok hk
  obtain ⟨W, hW⟩ : ∃ W, widG g = W := ⟨_, rfl⟩
  rw [hW] at ok
  obtain ⟨F, hF, hFG⟩ := gX.foot hgne
  have hrn := restrict_next X F
  obtain ⟨gR, sR⟩ := hFG (X.restrict F) (by rw [hrn.1]; exact Nat.le_refl _) (fun n hn => by rw [restrict_get, if_pos hn])
  obtain ⟨_, gg, hcc, u, rvs, rfl, gr, mg⟩ := copyScreen_c (X.restrict F) v g r c gR (by rw [hrn.1, hrn.2.1]; exact Nat.le_refl _) (by rw [hrn.1, nX]; exact scb_mono (by omega) _ hs') (sR sX) hw hgl
  rw [hrn.1] at gr
  simp (maxDischargeDepth := 6) only [hd, ruW, putL, Nat.reduceLeDiff, xF, ruU, entryE, Nat.reduceLT, Nat.reduceAdd, Nat.reduceMul, Nat.reduceEqDiff]
  refine w_drawB [(10, 1), (12, 11), (12, 10), (12, 1)] [] (by kernel_rfl) (by kernel_rfl) rfl fun ops anc hA hG => ?_
  simp only [all2_cons] at hA
  simp (maxDischargeDepth := 6) only [nX, k0, l0, hA, ruD, ruW, putL, Nat.reduceLeDiff, xF, ruU, entryE, Nat.reduceLT, Nat.reduceAdd, Nat.reduceMul, Nat.reduceEqDiff]
  refine genV_mod (H := ext X []) (W := []) F okX (by simp only [ruU, entryE, Nat.reduceLT, Nat.reduceAdd, Nat.reduceMul, Nat.reduceEqDiff]) (by kernel_rfl) (fun n hn => (hF n hn).1) (fun n hn => (hF n hn).2) (fun _ h => by simp at h) (v := .agg ⟨[u, .int .i64 r, .int .i64 c]⟩) (g := gg) (by simp only [ruU, entryE, Nat.reduceLT, Nat.reduceAdd, Nat.reduceMul, Nat.reduceEqDiff]; exact hcc) mg (by simp only [all2_cons, all2_nil, hA, true_or, and_true]; simp) ?_
  intro Z D mZ hFZ hNZ hnZ hDZ
  have hD0 : D = [] := List.eq_nil_iff_forall_not_mem.2 (fun q hq => by simpa using hDZ q hq)
  subst hD0
  replace mZ : Mod [] X Z := mZ
  replace hNZ : ∀ m, X.next ≤ m → m < gg.next → Z.get m = gg.get m := hNZ
  have grZ : Grow (b + 2) Z u rvs g := by
   have := gr.of (Y := Z) (by omega) (fun n hn hm => hNZ n (by
    rcases List.mem_append.1 hm with hm | hm
    ·exact (gr.apart n hm).1
    ·exact (gr.ids n hm).1) hn)
   rw [nX] at this
   exact this
  obtain ⟨au, eu⟩ := grZ.at_.len
  have hsu := grZ.at_.sc
  have slu : Slc u := by
   obtain ⟨_, _, ⟨h0, _⟩ | ⟨_, n, e, _⟩⟩ := grZ.at_
   ·exact absurd (List.length_eq_zero_iff.1 h0) hgne
   ·exact ⟨n, _, e⟩
  have okZ := mZ.ok okX
  obtain ⟨zn, hzn⟩ : ∃ z, Z.next = z := ⟨_, rfl⟩
  have hzb : Z.base ≤ zn := hzn ▸ okZ
  have hz2 : b + 2 ≤ zn := by have := mZ.next; omega
  have kz0 : bk Z (b + 0) = _ := (mZ.bk (by omega) (by simp)).trans k0
  have kz1 : bk Z (b + 1) = _ := (mZ.bk (by omega) (by simp)).trans k1
  have hg2 : gg.next = zn := by omega
  have l0z : b + 0 < zn := by omega
  rw [hzn] at hsu
  rw [eu] at hsu
  rw [show Z = ext Z [] from rfl, eu]
  simp (maxDischargeDepth := 6) only [hzn, hzb, kz0, l0z, hg2, hsu, nX, hA, ruD, ruW, putL, Nat.reduceLeDiff, xF, ruU, entryE, Nat.reduceLT, Nat.reduceAdd, Nat.reduceMul, Nat.reduceEqDiff]
  rw [← eu]
  obtain ⟨Y1, hY1⟩ : ∃ Y1, ext Z [⟨79, false, (St.start g r c).cells u⟩] = Y1 := ⟨_, rfl⟩
  have mY1 : Mod [] Z Y1 := hY1 ▸ Mod.ext okZ
  have nY1 : Y1.next = zn + 1 := by rw [← hY1, ext_next, hzn]; rfl
  have kp : bk Y1 (zn + 0) = some ⟨79, false, (St.start g r c).cells u⟩ := by rw [← hY1, bk_at hzn (by simp)]; rfl
  have mHZ : Mod [] H Z := mX.trans mZ
  have mHY : Mod [] H Y1 := mHZ.trans mY1
  have aY1 : StAt 79 (b + 2) Y1 (zn + 0) u rvs (St.start g r c) := by
   have own := grZ.own
   refine ⟨kp, own.of mY1.next fun n h1 h2 h3 => mY1.get n h2 (by simp), fun h => ?_, by omega, by omega⟩
   rcases List.mem_append.1 h with h | h
   ·have := (own.idv _ h).2.1; omega
   ·have := (own.ids _ h).2.1; omega
  refine ⟨.inr fun _ => ⟨.inr (by omega), by simp [idsV]⟩, ?_⟩
  obtain ⟨Y1, hY1⟩ : ∃ Y1, ext Z [⟨79, false, (St.start g r c).cells u⟩] = Y1 := ⟨_, rfl⟩
  have mY1 : Mod [] Z Y1 := hY1 ▸ Mod.ext okZ
  have nY1 : Y1.next = zn + 1 := by rw [← hY1, ext_next, hzn]; rfl
  have kp : bk Y1 (zn + 0) = some ⟨79, false, (St.start g r c).cells u⟩ := by rw [← hY1, bk_at hzn (by simp)]; rfl
  have mHZ : Mod [] H Z := mX.trans mZ
  have mHY : Mod [] H Y1 := mHZ.trans mY1
  have okY1 := mY1.ok okZ
  have aY1 : StAt 79 (b + 2) Y1 (zn + 0) u rvs (St.start g r c) := by
   have own := grZ.own
   refine ⟨kp, own.of mY1.next fun n h1 h2 h3 => mY1.get n h2 (by simp), fun h => ?_, by omega, by omega⟩
   rcases List.mem_append.1 h with h | h
   ·have := (own.idv _ h).2.1; omega
   ·have := (own.ids _ h).2.1; omega
  simp only [St.start, St.cells] at hY1
  rw [hY1]
  refine w_env fun E hE => ?_
  have g1 : E 1 = ov := by rw [hE]; simp only [ruU, entryE, Nat.reduceLT, Nat.reduceAdd, Nat.reduceMul, Nat.reduceEqDiff]
  have g4 : E 4 = .pointer (some ⟨b + 1, 0, none⟩) := by rw [hE]; simp only [ruU, entryE, Nat.reduceLT, Nat.reduceAdd, Nat.reduceMul, Nat.reduceEqDiff]
  have g8 : E 8 = .pointer (some ⟨zn + 0, 0, none⟩) := by rw [hE]; simp only [ruU, entryE, Nat.reduceLT, Nat.reduceAdd, Nat.reduceMul, Nat.reduceEqDiff]
  have g9 : E 9 = .int .i64 ((0 : Nat) : Int) := by rw [hE]; (simp only [ruU, entryE, Nat.reduceLT, Nat.reduceAdd, Nat.reduceMul, Nat.reduceEqDiff] <;> rfl)
  clear hE
  have keep : ∀ Y, ModN (b + 2) Y1 Y → bk Y (b + 1) = some ⟨24, false, [.slice none 0 0, .int .i64 0, .int .i64 0]⟩ := fun Y mY => by
   obtain ⟨Ws, h1, m1⟩ := mY
   exact (m1.bk (by omega) fun h => by have := (h1 _ h).1; omega).trans ((mY1.bk (by omega) (by simp)).trans kz1)
  obtain ⟨ao, co, eo⟩ := hl.sl
  refine blockC_meet (fun E' Y => ModN (b + 2) Y1 Y ∧ E' 4 = .pointer (some ⟨b + 1, 0, none⟩) ∧ E' 8 = .pointer (some ⟨zn + 0, 0, none⟩) ∧ ∃ y u2 rvs2, St.all W ptsR l 0 (St.start g r c) = .inl y ∧ Slc u2 ∧ StAt 79 (b + 2) Y (zn + 0) u2 rvs2 y) ?_ ?_
  ·refine w_loop (fun (q : Nat × St × Value × List Value) E' Y => ModN (b + 2) Y1 Y ∧ E' 1 = ov ∧ E' 4 = .pointer (some ⟨b + 1, 0, none⟩) ∧ E' 8 = .pointer (some ⟨zn + 0, 0, none⟩) ∧ E' 9 = .int .i64 (q.1 : Int) ∧ q.1 ≤ l.length ∧ St.all W ptsR (l.drop q.1) q.1 q.2.1 = St.all W ptsR l 0 (St.start g r c) ∧ q.2.1.Ok W ∧ Slc q.2.2.1 ∧ StAt 79 (b + 2) Y (zn + 0) q.2.2.1 q.2.2.2 q.2.1) (fun q => l.length - q.1) (0, St.start g r c, u, rvs)
    ⟨ModN.refl, g1, g4, g8, g9, Nat.zero_le _, rfl, ok, slu, aY1⟩ ?_
   clear g1 g4 g8 g9
   rintro ⟨k', y, u', us⟩ E Y ⟨mY, g1, g4, g8, g9, hk', hall, oky, slu', aY⟩
   simp only at g9 hk' hall oky slu' aY
   rw [show Y = ext Y [] from rfl]
   have g1' := g1
   rw [eo] at g1'
   by_cases hkl : k' = l.length
   ·have hc : decide ((k' : Int) < (l.length : Int)) = false := by simp [hkl]
    simp (maxDischargeDepth := 6) only [g1', g9, hc, ruW, putL, Nat.reduceLeDiff, xF, ruU, entryE, Nat.reduceLT, Nat.reduceAdd, Nat.reduceMul, Nat.reduceEqDiff]
    rw [List.drop_eq_nil_of_le (by omega), St.all] at hall
    exact joinR_normal ⟨mY, by simp only [g4, ruU, entryE, Nat.reduceLT, Nat.reduceAdd, Nat.reduceMul, Nat.reduceEqDiff], by simp only [g8, ruU, entryE, Nat.reduceLT, Nat.reduceAdd, Nat.reduceMul, Nat.reduceEqDiff], y, u', us, hall.symm, slu', aY⟩
   ·have hlt : k' < l.length := by omega
    have hc : decide ((k' : Int) < (l.length : Int)) = true := decide_eq_true (by omega)
    obtain ⟨o, ho⟩ : ∃ o, l[k']? = some o := ⟨_, List.getElem?_eq_getElem hlt⟩
    have hlo := hlen o (List.mem_of_getElem? ho)
    have okY := mY.ok okY1
    obtain ⟨yn, hyn⟩ : ∃ n, Y.next = n := ⟨_, rfl⟩
    have hyz : zn + 1 ≤ yn := by have := mY.next; omega
    have mHYf : Mod [] H Y := mY.mod mHY hok (by omega)
    have hlY := hl.mod0 mHYf
    rcases hlY with ⟨h, _⟩ | ⟨hne', no, off, so, co', eo1, oo, L, eov, hrk, hno, hle, hop⟩
    ·rw [h] at hlt; simp at hlt
    have hnoy : no < yn := by omega
    have ia := op_ia (len := l.length) (cap := co') (n := no) (off := off) (s := so) (i := (k' : Int)) rfl hlt
    have ld := op_load (e := eo1) (o := oo) ho hle hop
    rw [eov] at g1
    simp (maxDischargeDepth := 6) only [g1, g8, g9, hc, hyn, hnoy, ia, hrk, ld, qk_old, ruW, putL, Nat.reduceLeDiff, xF, ruU, entryE, Nat.reduceLT, Nat.reduceAdd, Nat.reduceMul, Nat.reduceEqDiff]
    refine (does_c (b + 2) (ext Y []) (zn + 0) W u' us y o aY slu' okY oky hlo).mono ?_
    rintro _ Y2 ⟨mY2, rfl, hsome⟩
    have mYY := mY.trans mY2
    have okY2 := mY2.ok okY
    obtain ⟨y2n, hy2n⟩ : ∃ n, Y2.next = n := ⟨_, rfl⟩
    have hyz2 : zn + 1 ≤ y2n := by have := mYY.next; omega
    have k9 := keep Y2 mYY
    have l9 : b + 1 < y2n := by omega
    rw [show Y2 = ext Y2 [] from rfl]
    cases hd : y.does W ptsR o with
    | none =>
     have hstop := all_stop (W := W) l k' k' y o ho hd
     rw [hstop] at hall
     simp (maxDischargeDepth := 6) only [g4, g9, hy2n, k9, l9, Option.isSome_none, Bool.not_false, joinR_ret, Tryd.results23, ruW, putL, Nat.reduceLeDiff, xF, ruU, entryE, Nat.reduceLT, Nat.reduceAdd, Nat.reduceMul, Nat.reduceEqDiff]
     have mU : Mod [b + 1] Y2 (uw Y2 (b + 1) 0 [.slice none 0 0, .int .i64 0, .int .i64 0]) := Mod.uw (by simp)
     refine ⟨(mYY.mod mHY hok (by omega)).step mU hok (fun n hn => .inr (by simp only [List.mem_singleton] at hn; omega)), ?_⟩
     rw [if_pos hk, hW, ← hall]
    | some y2 =>
     rw [all_drop l k' k' y y2 o ho hd] at hall
     obtain ⟨v2, us2, sl2, a2⟩ := hsome y2 hd
     simp (maxDischargeDepth := 6) only [g9, Option.isSome_some, Bool.not_true, wrap_succ (show k' < 1000000 by omega), ruW, putL, Nat.reduceLeDiff, xF, ruU, entryE, Nat.reduceLT, Nat.reduceAdd, Nat.reduceMul, Nat.reduceEqDiff]
     refine loopC_next ⟨(k' + 1, y2, v2, us2), by simp only; omega, mYY, ?_, ?_, ?_, ?_, by simp only; omega, hall, does_ok oky hd, sl2, a2⟩
     ·simp only [g1, eov, ruU, entryE, Nat.reduceLT, Nat.reduceAdd, Nat.reduceMul, Nat.reduceEqDiff]
     ·simp only [g4, ruU, entryE, Nat.reduceLT, Nat.reduceAdd, Nat.reduceMul, Nat.reduceEqDiff]
     ·simp only [g8, ruU, entryE, Nat.reduceLT, Nat.reduceAdd, Nat.reduceMul, Nat.reduceEqDiff]
     ·simp only [ruU, entryE, Nat.reduceLT, Nat.reduceAdd, Nat.reduceMul, Nat.reduceEqDiff]
  ·rintro E Y ⟨mY, e4, e8, y, u2, rvs2, hall, sl2, a2⟩
   rw [show Y = ext Y [] from rfl]
   have oky := all_ok l 0 _ y ok hall
   have okY := mY.ok okY1
   have mHYf : Mod [] H Y := mY.mod mHY hok (by omega)
   obtain ⟨yn, hyn⟩ : ∃ n, Y.next = n := ⟨_, rfl⟩
   have hzy : zn + 1 ≤ yn := by have := mY.next; omega
   have l1y : b + 1 < yn := by omega
   have ky1 := keep Y mY
   have kpy := a2.cell
   simp only [St.cells] at kpy
   have lpy : zn + 0 < yn := by omega
   simp (maxDischargeDepth := 6) only [e8, hyn, lpy, kpy, ruW, putL, Nat.reduceLeDiff, xF, ruU, entryE, Nat.reduceLT, Nat.reduceAdd, Nat.reduceMul, Nat.reduceEqDiff]
   obtain ⟨a3, m3⟩ := a2.putU (y := { y with sr := -1 }) okY (off := 1) (vs := [.int .i64 (-1)]) (L := []) rfl rfl
   obtain ⟨a4, m4⟩ := a3.putU (y := { y with sr := -1, sc := 0 }) (m3.ok okY) (off := 2) (vs := [.int .i64 0]) (L := []) rfl rfl
   have ok4 := m4.ok (m3.ok okY)
   have m34 : Mod [zn + 0] Y (ext (uw (uw Y (zn + 0) 1 [.int .i64 (-1)]) (zn + 0) 2 [.int .i64 0]) []) := m3.trans m4
   generalize hY4 : ext (uw (uw Y (zn + 0) 1 [.int .i64 (-1)]) (zn + 0) 2 [.int .i64 0]) [] = Y4 at a4 ok4 m34 ⊢
   replace a4 : StAt 79 (b + 2) Y4 (zn + 0) u2 rvs2 { y with sr := -1, sc := 0 } := hY4 ▸ a4
   replace ok4 : Y4.base ≤ Y4.next := hY4 ▸ ok4
   rw [show Y4 = ext Y4 [] from rfl]
   refine condC_meet (fun E' Z2 => Mod [zn + 0] Y Z2 ∧ E' 4 = .pointer (some ⟨b + 1, 0, none⟩) ∧ E' 8 = .pointer (some ⟨zn + 0, 0, none⟩) ∧ StAt 79 (b + 2) Z2 (zn + 0) u2 rvs2 { y with sr := y.atR, sc := y.atC W }) ?_ ?_
   ·have oky4 : St.Ok { y with sr := -1, sc := 0 } W := ⟨oky.h1, oky.h2, oky.w1, oky.w2, oky.wid, oky.row0, oky.row1, oky.col0, oky.col1⟩
    obtain ⟨m, s1, c1, o1, n0, s0, c0', eu4, hmb, hml, _, hmp, hrv⟩ := a4.first oky4
    have i0 := grid_ia (n := m) (off := 0) (s := s1) (cap := c1) (i := ((0 : Nat) : Int)) (len := y.grid.length) rfl (by have := oky.h1; omega)
    rw [show ((0 : Nat) : Int) = 0 from rfl] at i0
    have q0 : ldB Tryd.prog 56 (0 + 0) (some ⟨56, o1, rvs2⟩) = some (.slice (some ⟨n0, 0, s0⟩) W c0') := grid_load (by rw [Nat.zero_add]; exact hrv)
    rw [Nat.add_zero] at i0 q0
    have n4 : Y4.next = yn := by rw [← hY4, ext_next, uw_next, uw_next, hyn]; rfl
    have k4 := a4.cell
    simp only [St.cells] at k4
    rw [eu4] at k4
    have hml4 : m < yn := by omega
    cases hsh : y.shown with
    | false =>
     have e1 : y.atR = -1 := by simp [St.atR, hsh]
     have e2 : y.atC W = 0 := by simp [St.atC, hsh]
     rw [e1, e2]
     simp (maxDischargeDepth := 6) only [ruW, putL, Nat.reduceLeDiff, xF, ruU, entryE, Nat.reduceLT, Nat.reduceAdd, Nat.reduceMul, Nat.reduceEqDiff]
     rw [hsh] at a4
     exact joinR_normal ⟨m34, by simp only [e4, ruU, entryE, Nat.reduceLT, Nat.reduceAdd, Nat.reduceMul, Nat.reduceEqDiff], by simp only [e8, ruU, entryE, Nat.reduceLT, Nat.reduceAdd, Nat.reduceMul, Nat.reduceEqDiff], a4⟩
    | true =>
     have e1 : y.atR = y.row := by simp [St.atR, hsh]
     have e2 : y.atC W = min y.col ((W : Int) - 1) := by simp [St.atC, hsh]
     have hw1 : IntKind.i64.wrap ((W : Int) - 1) = (W : Int) - 1 := wrap_sm (by have := oky.w1; omega) (by have := oky.w2; omega)
     rw [e1, e2]
     simp (maxDischargeDepth := 6) only [ruW, putL, Nat.reduceLeDiff, xF, ruU, entryE, Nat.reduceLT, Nat.reduceAdd, Nat.reduceMul, Nat.reduceEqDiff]
     refine w_drawB [(14, 1), (14, 3), (14, 6), (14, 8), (17, 14), (17, 1), (17, 3), (17, 6), (17, 8)] [] (by kernel_rfl) (by kernel_rfl) rfl fun ops anc hA hG => ?_
     simp only [all2_cons] at hA
     simp (maxDischargeDepth := 6) only [e8, n4, lpy, k4, hml4, hmb, i0, q0, hw1, hA, ruD, ruW, putL, Nat.reduceLeDiff, xF, ruU, entryE, Nat.reduceLT, Nat.reduceAdd, Nat.reduceMul, Nat.reduceEqDiff]
     obtain ⟨a5, m5⟩ := a4.putU (y := { y with sr := y.row, sc := 0 }) ok4 (off := 1) (vs := [.int .i64 y.row]) (L := []) rfl rfl
     obtain ⟨a6, m6⟩ := a5.putU (y := { y with sr := y.row, sc := min y.col ((W : Int) - 1) }) (m5.ok ok4) (off := 2) (vs := [.int .i64 (min y.col ((W : Int) - 1))]) (L := []) rfl rfl
     rw [hsh] at a6
     exact joinR_normal ⟨m34.trans (m5.trans m6), by simp only [e4, ruU, entryE, Nat.reduceLT, Nat.reduceAdd, Nat.reduceMul, Nat.reduceEqDiff], by simp only [e8, ruU, entryE, Nat.reduceLT, Nat.reduceAdd, Nat.reduceMul, Nat.reduceEqDiff], a6⟩
   ·rintro E Z2 ⟨m2, e4, e8, a7⟩
    have okZ2 := m2.ok okY
    obtain ⟨z2, hz2n⟩ : ∃ n, Z2.next = n := ⟨_, rfl⟩
    have hyz2 : yn ≤ z2 := by have := m2.next; omega
    have k7 := a7.cell
    simp only [St.cells] at k7
    have l7 : zn + 0 < z2 := by omega
    have l8 : b + 1 < z2 := by omega
    have k8 := (m2.bk (n := b + 1) (by omega) (by simp only [List.mem_singleton]; omega)).trans ky1
    obtain ⟨nu, hu, eu2⟩ := sl2
    have hnu : nu < z2 := by
     have := (a7.own.idv nu (by rw [eu2]; simp [idsV])).2.1
     omega
    have hsu2 : scb z2 u2 = true := by rw [eu2]; exact blt_of hnu
    rw [show Z2 = ext Z2 [] from rfl]
    rw [eu2] at k7 hsu2
    simp (maxDischargeDepth := 6) only [e4, e8, hz2n, l7, l8, k7, k8, hsu2, Tryd.results23, ruW, putL, Nat.reduceLeDiff, xF, ruU, entryE, Nat.reduceLT, Nat.reduceAdd, Nat.reduceMul, Nat.reduceEqDiff]
    rw [← eu2]
    have mU : Mod [b + 1] Z2 (uw Z2 (b + 1) 0 [u2, .int .i64 y.atR, .int .i64 (y.atC W)]) := Mod.uw (by simp)
    have mHZ2 : Mod [] H Z2 := mHYf.step m2 hok (fun n hn => .inr (by simp only [List.mem_singleton] at hn; omega))
    refine ⟨mHZ2.step mU hok (fun n hn => .inr (by simp only [List.mem_singleton] at hn; omega)), ?_⟩
    rw [if_pos hk, hW, hall]
    refine ⟨u2, rvs2, b + 2, rfl, by omega, a7.own.of mU.next fun n h1 h2 h3 => mU.get n h2 (by simp only [List.mem_singleton]; omega)⟩
 ·have hd : decide (¬ k = 0) = true := by simp [hk0]
  simp (maxDischargeDepth := 6) only [hd, nX, k0, k1, l0, l1, Tryd.results23, ruW, putL, Nat.reduceLeDiff, xF, ruU, entryE, Nat.reduceLT, Nat.reduceAdd, Nat.reduceMul, Nat.reduceEqDiff]
  have mU : Mod [b + 1] X (uw X (b + 1) 0 [.slice none 0 0, .int .i64 0, .int .i64 0]) := Mod.uw (by simp)
  refine ⟨mX.step mU hok (fun n hn => .inr (by simp only [List.mem_singleton] at hn; omega)), ?_⟩
  rw [if_neg (by rw [hk]; exact hk0), hk]
end Go.Proofs.YtaojjfebkldmnaaDoor
/- What OverScreen comes to: the screen's rows are written, nothing else. -/
namespace Go.Proofs.YtaojjfebkldmnaaDoor
open Go.Ax
set_option maxHeartbeats 2000000 in
theorem over_c (N : Nat) (H : AHeap) (v : Value) (rvs : List Value) (g : List (List Ce)) (r c : Int) (o : OwnG N H v rvs g) (hok : H.base ≤ H.next) (hw : ∀ l ∈ g, l.length ≤ 10000) (hgl : g.length ≤ 10000) :
  CallA Tryd.prog 26 [.agg ⟨[v, .int .i64 r, .int .i64 c]⟩] H (fun out X => out = .ok (.tuple ⟨[]⟩) ∧ Mod (rvs.flatMap idsV) H X) := by
 obtain ⟨b, hb⟩ : ∃ b, H.next = b := ⟨_, rfl⟩
 have hbase : H.base ≤ b := hb ▸ hok
 have hs : scb b v = true := by
  rcases o.at_ with ⟨_, rfl⟩ | ⟨m, s, c', o', rfl, _, _, h, _⟩
  ·rfl
  ·exact blt_of (hb ▸ h)
 obtain ⟨a0, c0, e0⟩ := o.grid.sl
 have hs' := hs
 rw [e0] at hs
 refine callE_fn mixed Tryd.func26 rfl Tryd.ntmps26 (Nat.le_of_ble_eq_true rfl) ?_
 rw [e0]
 simp (maxDischargeDepth := 6) only [hb, hbase, hs, ruW, putL, Nat.reduceLeDiff, xF, ruU, entryE, Nat.reduceLT, Nat.reduceAdd, Nat.reduceMul, Nat.reduceEqDiff]
 rw [← e0]
 refine w_env fun E hE => ?_
 have g1 : E 1 = .pointer (some ⟨b + 0, 0, none⟩) := by rw [hE]; simp only [ruU, entryE, Nat.reduceLT, Nat.reduceAdd, Nat.reduceMul, Nat.reduceEqDiff]
 have g2 : E 2 = .int .i64 ((0 : Nat) : Int) := by rw [hE]; (simp only [ruU, entryE, Nat.reduceLT, Nat.reduceAdd, Nat.reduceMul, Nat.reduceEqDiff] <;> rfl)
 clear hE
 generalize hX0 : ext H _ = X0
 have m0 : Mod (rvs.flatMap idsV) H X0 := hX0 ▸ Mod.ext hok
 have n0 : X0.next = b + 1 := by rw [← hX0, ext_next, hb]; rfl
 have k0 : bk X0 (b + 0) = some ⟨24, false, [v, .int .i64 r, .int .i64 c]⟩ := by rw [← hX0, bk_at hb (by simp)]; rfl
 have o0 : OwnG N X0 v rvs g := o.of (by rw [n0]; omega) fun n _ hn _ => by rw [← hX0]; exact ext_get_old hn
 clear hX0
 have hidb : ∀ n ∈ rvs.flatMap idsV, n < b := fun n hn => hb ▸ (o.ids n hn).2.1
 refine w_loop (fun (k : Nat × List (List Ce)) E' X => Mod (rvs.flatMap idsV) H X ∧ b + 1 ≤ X.next ∧ bk X (b + 0) = some ⟨24, false, [v, .int .i64 r, .int .i64 c]⟩ ∧ OwnG N X v rvs k.2 ∧ k.2.length = g.length ∧ (∀ l ∈ k.2, l.length ≤ 10000) ∧ k.1 ≤ g.length ∧ E' 1 = .pointer (some ⟨b + 0, 0, none⟩) ∧ E' 2 = .int .i64 (k.1 : Int)) (fun k => g.length - k.1) (0, g)
  ⟨m0, by omega, k0, o0, rfl, hw, Nat.zero_le _, g1, g2⟩ ?_
 clear g1 g2 k0 n0 m0 o0
 rintro ⟨i, q⟩ E X ⟨mX, xl, k0, oX, hq, hqw, hi, g1, g2⟩
 simp only at oX hq hqw hi g2
 obtain ⟨x, hx⟩ : ∃ x, X.next = x := ⟨_, rfl⟩
 rw [hx] at xl
 have l0 : b + 0 < x := by omega
 rw [show X = ext X [] from rfl]
 by_cases hig : i = g.length
 ·have hc : decide ((i : Int) < (g.length : Int)) = false := by simp [hig]
  rw [e0] at k0
  simp (maxDischargeDepth := 6) only [g1, g2, hx, l0, k0, hc, ruW, putL, Nat.reduceLeDiff, xF, ruU, entryE, Nat.reduceLT, Nat.reduceAdd, Nat.reduceMul, Nat.reduceEqDiff]
  simp (maxDischargeDepth := 6) only [Tryd.results26, ruW, putL, Nat.reduceLeDiff, xF, ruU, entryE, Nat.reduceLT, Nat.reduceAdd, Nat.reduceMul, Nat.reduceEqDiff]
  exact ⟨trivial, mX⟩
 ·have hlt : i < g.length := by omega
  have hc : decide ((i : Int) < (g.length : Int)) = true := decide_eq_true (by omega)
  obtain ⟨w1, hr1⟩ : ∃ r, q[i]? = some r := ⟨_, List.getElem?_eq_getElem (by omega)⟩
  obtain ⟨rv, hrv, hor⟩ := oX.rvOf hr1
  obtain ⟨n, s, cc, f, erv, hbn, hNn, hnl⟩ := hor
  rcases oX.at_ with ⟨h, _⟩ | ⟨m, s1, c1, o1, ev, hbm, hNm, hml, hmn⟩
  ·rw [h] at hq; simp at hq; omega
  have hnin : n ∈ rvs.flatMap idsV := List.mem_flatMap.2 ⟨rv, List.mem_of_getElem? hrv, by rw [erv]; simp [idsV]⟩
  have i1 := grid_ia (n := m) (off := 0) (s := s1) (cap := c1) (i := (i : Int)) (len := g.length) rfl hlt
  have q1 : ∀ e, ldB Tryd.prog 56 (0 + i) (some ⟨e, o1, rvs⟩) = some rv := fun e => grid_load (by rw [Nat.zero_add]; exact hrv)
  rw [hq] at ev
  subst ev
  simp (maxDischargeDepth := 6) only [g1, g2, hx, l0, k0, hc, ruW, putL, Nat.reduceLeDiff, xF, ruU, entryE, Nat.reduceLT, Nat.reduceAdd, Nat.reduceMul, Nat.reduceEqDiff]
  have hw1 : w1.length ≤ 10000 := hqw w1 (List.mem_of_getElem? hr1)
  refine w_env fun E hE => ?_
  have h1 : E 1 = .pointer (some ⟨b + 0, 0, none⟩) := by rw [hE]; simp only [g1, ruU, entryE, Nat.reduceLT, Nat.reduceAdd, Nat.reduceMul, Nat.reduceEqDiff]
  have h2 : E 2 = .int .i64 (i : Int) := by rw [hE]; simp only [g2, ruU, entryE, Nat.reduceLT, Nat.reduceAdd, Nat.reduceMul, Nat.reduceEqDiff]
  have h3 : E 3 = .int .i64 ((0 : Nat) : Int) := by rw [hE]; (simp only [ruU, entryE, Nat.reduceLT, Nat.reduceAdd, Nat.reduceMul, Nat.reduceEqDiff] <;> rfl)
  clear hE g1 g2
  refine w_loop (fun (t : Nat × List (List Ce)) E' Y => Mod (rvs.flatMap idsV) H Y ∧ b + 1 ≤ Y.next ∧ bk Y (b + 0) = some ⟨24, false, [.slice (some ⟨m, 0, s1⟩) g.length c1, .int .i64 r, .int .i64 c]⟩ ∧ OwnG N Y (.slice (some ⟨m, 0, s1⟩) g.length c1) rvs t.2 ∧ t.2.length = g.length ∧ (∀ l ∈ t.2, l.length ≤ 10000) ∧ (∃ l', t.2[i]? = some l' ∧ l'.length = w1.length) ∧ t.1 ≤ w1.length ∧ E' 1 = .pointer (some ⟨b + 0, 0, none⟩) ∧ E' 2 = .int .i64 (i : Int) ∧ E' 3 = .int .i64 (t.1 : Int)) (fun t => w1.length - t.1) (0, q)
   ⟨mX, by rw [ext_next, hx]; simpa using xl, k0, oX, hq, hqw, ⟨w1, hr1, rfl⟩, Nat.zero_le _, h1, h2, h3⟩ ?_
  clear h1 h2 h3 k0 oX mX hx xl l0 hbn hnl hbm hml
  rintro ⟨j, q'⟩ E Y ⟨mY, yl, k0, oY, hq', hqw', ⟨l', hl', hll⟩, hj, g1, g2, g3⟩
  simp only at oY hq' hqw' hl' hj g3
  obtain ⟨y, hy⟩ : ∃ y, Y.next = y := ⟨_, rfl⟩
  rw [hy] at yl
  have l0 : b + 0 < y := by omega
  obtain ⟨rv2, hrv2, hor⟩ := oY.rvOf hl'
  rw [hrv] at hrv2
  cases hrv2
  obtain ⟨n2, s2, cc2, f2, erv2, hbn, _, hnl⟩ := hor
  rw [erv, hll] at erv2
  cases erv2
  obtain ⟨o2, hbm, hml⟩ : ∃ o2, bk Y m = some ⟨56, o2, rvs⟩ ∧ m < Y.next := by
   rcases oY.at_ with ⟨_, h⟩ | ⟨m', s', c', o', e, h1, _, h2, _⟩
   ·cases h
   ·rw [hq'] at e; cases e; exact ⟨o', h1, h2⟩
  rw [hy] at hml hnl
  have q2 : ldB Tryd.prog 56 (0 + i) (some ⟨56, o2, rvs⟩) = some (.slice (some ⟨n, 0, s⟩) w1.length cc) := grid_load (by rw [Nat.zero_add, hrv, erv])
  rw [show Y = ext Y [] from rfl]
  by_cases hjw : j = w1.length
  ·have hc2 : decide ((j : Int) < (w1.length : Int)) = false := by simp [hjw]
   simp (maxDischargeDepth := 6) only [g1, g2, g3, hy, l0, k0, hml, hbm, i1, q2, hc2, wrap_succ (show i < 1000000 by omega), ruW, putL, Nat.reduceLeDiff, xF, ruU, entryE, Nat.reduceLT, Nat.reduceAdd, Nat.reduceMul, Nat.reduceEqDiff]
   refine loopC_next ⟨(i + 1, q'), by simp only; omega, mY, by rw [ext_next, hy]; simpa using yl, k0, oY, hq', hqw', by simp only; omega, by simp only [g1, ruU, entryE, Nat.reduceLT, Nat.reduceAdd, Nat.reduceMul, Nat.reduceEqDiff], by simp only [ruU, entryE, Nat.reduceLT, Nat.reduceAdd, Nat.reduceMul, Nat.reduceEqDiff]⟩
  ·have hlj : j < w1.length := by omega
   have hc2 : decide ((j : Int) < (w1.length : Int)) = true := decide_eq_true (by omega)
   have i2 := row_ia (n := n) (off := 0) (s := s) (cap := cc) (i := (j : Int)) (len := w1.length) rfl hlj
   have hst : ∀ M, stB Tryd.prog 55 M (0 + j * 6) (.agg ⟨[.int .i64 (-77), .int .i64 0, .int .i64 0, .bool false, .bool false, .bool false]⟩) (some ⟨55, f2, csOf l'⟩) = some ⟨55, f2, csOf (l'.set j ⟨-77, 0, 0, false, false, false⟩)⟩ := fun M => by
    rw [Nat.zero_add]
    exact stB_cell (c := ⟨-77, 0, 0, false, false, false⟩) (by omega)
   simp (maxDischargeDepth := 6) only [g1, g2, g3, hy, l0, k0, hml, hbm, hnl, hbn, i1, i2, q2, hc2, hst, wrap_succ (show j < 1000000 by omega), ruW, putL, Nat.reduceLeDiff, xF, ruU, entryE, Nat.reduceLT, Nat.reduceAdd, Nat.reduceMul, Nat.reduceEqDiff]
   generalize hU : uw Y n _ _ = U
   have mU : Mod [n] Y U := hU ▸ Mod.uw (by simp)
   have hUb : bk U n = some ⟨55, f2, csOf (l'.set j ⟨-77, 0, 0, false, false, false⟩)⟩ := by
    rw [← hU, bk_uw_eq, hbn, ← csOf_set l' j _ (by omega), Nat.zero_add]
    rfl
   have oU := oY.set (k := i) (n := n) (s := s) (c := cc) (by rw [hrv, erv, hll]) hl' (by simp) hUb mU
   have hnb : b + 0 ∉ [n] := by have := hidb n hnin; simp only [List.mem_singleton]; omega
   refine loopC_next ⟨(j + 1, q'.set i (l'.set j ⟨-77, 0, 0, false, false, false⟩)), by simp only; omega, mY.step mU hok (fun p hp => by simp only [List.mem_singleton] at hp; subst hp; exact .inl hnin), by have := mU.next; rw [ext_next]; simp only [List.length_nil]; omega, (mU.bk (by omega) hnb).trans k0, oU, by rw [List.length_set]; exact hq', fun l hl => ?_, ⟨l'.set j ⟨-77, 0, 0, false, false, false⟩, ?_, by rw [List.length_set]; exact hll⟩, by simp only; omega, ?_, ?_, ?_⟩
   ·rcases List.mem_or_eq_of_mem_set hl with h | rfl
    ·exact hqw' l h
    ·rw [List.length_set]; omega
   ·simp only
    rw [List.getElem?_set_self (List.getElem?_eq_some_iff.1 hl').1]
   ·simp only [g1, ruU, entryE, Nat.reduceLT, Nat.reduceAdd, Nat.reduceMul, Nat.reduceEqDiff]
   ·simp only [g2, ruU, entryE, Nat.reduceLT, Nat.reduceAdd, Nat.reduceMul, Nat.reduceEqDiff]
   ·simp only [ruU, entryE, Nat.reduceLT, Nat.reduceAdd, Nat.reduceMul, Nat.reduceEqDiff]
end Go.Proofs.YtaojjfebkldmnaaDoor
/- What large and many come to; operations in memory. -/
namespace Go.Proofs.YtaojjfebkldmnaaDoor
open Go.Ax
def largeR (g : List (List Ce)) : Bool := (g.take 13).any (fun l => decide (60 < l.length)) || decide (12 < g.length)
theorem largeR_false {g : List (List Ce)} (h : largeR g = false) : g.length ≤ 12 ∧ ∀ l ∈ g, l.length ≤ 60 := by
 rw [largeR, Bool.or_eq_false_iff] at h
 have h2 := of_decide_eq_false h.2
 refine ⟨by omega, fun l hl => ?_⟩
 have h1 := h.1
 rw [List.take_of_length_le (by omega), List.any_eq_false] at h1
 have := h1 l hl
 simpa using this
theorem large_c (H : AHeap) (v : Value) (g : List (List Ce)) (r c : Int) (hg : GridAt H v g) : Pure 10 [.agg ⟨[v, .int .i64 r, .int .i64 c]⟩] H (.bool (largeR g)) := by
 obtain ⟨b, hb⟩ : ∃ b, H.next = b := ⟨_, rfl⟩
 refine callS_fn mixed Tryd.func10 rfl Tryd.ntmps10 (Nat.le_of_ble_eq_true rfl) fun wf hsc => ?_
 have hbase : H.base ≤ b := hb ▸ wf.base
 have hg' := hg
 obtain ⟨a0, c0, e0⟩ := hg.sl
 have hscv : scb b v = true := by
  simp only [scbL, scb, scbA, Bool.and_eq_true, hb] at hsc
  exact hsc.1.1
 obtain ⟨B, hB⟩ : ∃ B, largeR g = B := ⟨_, rfl⟩
 rw [hB]
 obtain ⟨X, hX⟩ : ∃ X, X = ext H [⟨24, false, [v, .int .i64 r, .int .i64 c]⟩] := ⟨_, rfl⟩
 rw [e0] at hscv hX ⊢
 simp (maxDischargeDepth := 6) only [hb, hbase, hscv, ruW, putL, Nat.reduceLeDiff, xF, ruU, entryE, Nat.reduceLT, Nat.reduceAdd, Nat.reduceMul, Nat.reduceEqDiff]
 refine w_env fun E hE => ?_
 have g1 : E 1 = .pointer (some ⟨b + 0, 0, none⟩) := by rw [hE]; simp only [ruU, entryE, Nat.reduceLT, Nat.reduceAdd, Nat.reduceMul, Nat.reduceEqDiff]
 have g3 : E 3 = .int .i64 ((0 : Nat) : Int) := by rw [hE]; (simp only [ruU, entryE, Nat.reduceLT, Nat.reduceAdd, Nat.reduceMul, Nat.reduceEqDiff] <;> rfl)
 clear hE
 refine blockC_meet (fun E' H' => H' = X ∧ E' 1 = .pointer (some ⟨b + 0, 0, none⟩) ∧ B = decide (12 < g.length)) ?_ ?_
 ·refine w_loop (fun (k : Nat) E' H' => H' = X ∧ E' 1 = .pointer (some ⟨b + 0, 0, none⟩) ∧ E' 3 = .int .i64 (k : Int) ∧ k ≤ g.length ∧ k ≤ 13 ∧ ∀ i l, i < k → g[i]? = some l → l.length ≤ 60) (fun k => g.length - k) 0
   ⟨hX.symm, g1, g3, Nat.zero_le _, by omega, fun i l hi => by omega⟩ ?_
  clear g1 g3
  rintro k E H' ⟨hH, g1, g3, hk, hk13, hpre⟩
  rw [hH, hX]
  have fin : (∀ i l, i < 13 → g[i]? = some l → l.length ≤ 60) → B = decide (12 < g.length) := fun hall => by
   rw [← hB, largeR]
   have : (g.take 13).any (fun l => decide (60 < l.length)) = false := by
    rw [List.any_eq_false]
    intro l hl
    obtain ⟨i, hi⟩ := List.getElem?_of_mem hl
    have hi13 : i < 13 := by
     have := (List.getElem?_eq_some_iff.1 hi).1
     rw [List.length_take] at this
     omega
    rw [List.getElem?_take, if_pos hi13] at hi
    have := hall i l hi13 hi
    simp; omega
   rw [this, Bool.false_or]
  by_cases hkl : k = g.length
  ·have hc : decide ((k : Int) < (g.length : Int)) = false := by simp [hkl]
   simp (maxDischargeDepth := 6) only [g1, g3, hb, hbase, hc, ruW, putL, Nat.reduceLeDiff, xF, ruU, entryE, Nat.reduceLT, Nat.reduceAdd, Nat.reduceMul, Nat.reduceEqDiff]
   refine joinR_normal ⟨rfl, by simp only [g1, ruU, entryE, Nat.reduceLT, Nat.reduceAdd, Nat.reduceMul, Nat.reduceEqDiff], fin fun i l hi hl => hpre i l (by have := (List.getElem?_eq_some_iff.1 hl).1; omega) hl⟩
  ·have hlk : k < g.length := by omega
   have hc : decide ((k : Int) < (g.length : Int)) = true := decide_eq_true (by omega)
   by_cases hk3 : k = 13
   ·have hc2 : decide ((k : Int) < 13) = false := by simp [hk3]
    simp (maxDischargeDepth := 6) only [g1, g3, hb, hbase, hc, hc2, ruW, putL, Nat.reduceLeDiff, xF, ruU, entryE, Nat.reduceLT, Nat.reduceAdd, Nat.reduceMul, Nat.reduceEqDiff]
    refine joinR_normal ⟨rfl, by simp only [g1, ruU, entryE, Nat.reduceLT, Nat.reduceAdd, Nat.reduceMul, Nat.reduceEqDiff], fin fun i l hi hl => hpre i l (by omega) hl⟩
   ·have hc2 : decide ((k : Int) < 13) = true := decide_eq_true (by omega)
    rcases hg with ⟨h', _⟩ | ⟨_, n1, o1, s1, x1, t1, p1, L1, ev, b1, n1l, le1, tk1⟩
    ·rw [h'] at hlk; simp at hlk
    rw [ev] at e0
    cases e0
    obtain ⟨w1, hr1⟩ : ∃ r, g[k]? = some r := ⟨_, List.getElem?_eq_getElem hlk⟩
    obtain ⟨u1, hu1, ra1⟩ := tk1 k w1 hr1
    obtain ⟨a1, c1, e1⟩ := ra1.sl
    rw [e1] at hu1
    have i1 := grid_ia (n := n1) (off := o1) (s := s1) (cap := c0) (i := (k : Int)) rfl hlk
    have q1 := grid_load (e := t1) (o := p1) hu1
    rw [hb] at n1l
    obtain ⟨d, hd⟩ : ∃ d, decide ((60 : Int) < (w1.length : Int)) = d := ⟨_, rfl⟩
    cases d with
    | true =>
     obtain rfl : true = B := by
      rw [← hB, largeR, List.any_eq_true.2 ⟨w1, ?_, ?_⟩, Bool.true_or]
      ·refine List.mem_of_getElem? (i := k) ?_
       rw [List.getElem?_take, if_pos (by omega), hr1]
      ·have := of_decide_eq_true hd
       exact decide_eq_true (by omega)
     simp (maxDischargeDepth := 6) only [g1, g3, hb, hbase, hc, hc2, i1, b1, n1l, q1, qk_old, hd, joinR_ret, Tryd.results10, ruW, putL, Nat.reduceLeDiff, xF, ruU, entryE, Nat.reduceLT, Nat.reduceAdd, Nat.reduceMul, Nat.reduceEqDiff]
     exact Fin.pureE rfl rfl
    | false =>
     simp (maxDischargeDepth := 6) only [g1, g3, hb, hbase, hc, hc2, i1, b1, n1l, q1, qk_old, hd, wrap_succ (show k < 1000000 by omega), ruW, putL, Nat.reduceLeDiff, xF, ruU, entryE, Nat.reduceLT, Nat.reduceAdd, Nat.reduceMul, Nat.reduceEqDiff]
     refine loopC_next ⟨k + 1, by omega, rfl, ?_, ?_, by omega, by omega, fun i l hi hl => ?_⟩
     ·simp only [g1, ruU, entryE, Nat.reduceLT, Nat.reduceAdd, Nat.reduceMul, Nat.reduceEqDiff]
     ·simp only [ruU, entryE, Nat.reduceLT, Nat.reduceAdd, Nat.reduceMul, Nat.reduceEqDiff]
     ·rcases Nat.lt_or_ge i k with h' | h'
      ·exact hpre i l h' hl
      ·obtain rfl : i = k := by omega
       rw [hr1] at hl
       cases hl
       have := of_decide_eq_false hd
       omega
 ·rintro E H' ⟨hH, g1, hBe⟩
  rw [hH, hX]
  have hd : decide ((12 : Int) < (g.length : Int)) = B := by rw [hBe]; exact decide_eq_decide.2 (by omega)
  simp (maxDischargeDepth := 6) only [g1, hb, hbase, hd, Tryd.results10, ruW, putL, Nat.reduceLeDiff, xF, ruU, entryE, Nat.reduceLT, Nat.reduceAdd, Nat.reduceMul, Nat.reduceEqDiff]
  exact Fin.pureE rfl rfl
end Go.Proofs.YtaojjfebkldmnaaDoor
/- What many comes to. -/
namespace Go.Proofs.YtaojjfebkldmnaaDoor
open Go.Ax
def manyR (g : List Op) : Bool := (g.take 61).any (fun l => decide (200 < l.text.size)) || decide (60 < g.length)
theorem manyR_false {g : List Op} (h : manyR g = false) : g.length ≤ 60 ∧ ∀ l ∈ g, l.text.size ≤ 200 := by
 rw [manyR, Bool.or_eq_false_iff] at h
 have h2 := of_decide_eq_false h.2
 refine ⟨by omega, fun l hl => ?_⟩
 have h1 := h.1
 rw [List.take_of_length_le (by omega), List.any_eq_false] at h1
 have := h1 l hl
 simpa using this
theorem ag9 : aggT Tryd.prog 9 = some false := by kernel_rfl
theorem many_c (H : AHeap) (v : Value) (g : List Op) (hg : OpsAt H v g) : Pure 21 [v] H (.bool (manyR g)) := by
 obtain ⟨b, hb⟩ : ∃ b, H.next = b := ⟨_, rfl⟩
 refine callS_fn mixed Tryd.func21 rfl Tryd.ntmps21 (Nat.le_of_ble_eq_true rfl) fun wf hsc => ?_
 obtain ⟨a0, c0, e0⟩ := hg.sl
 obtain ⟨B, hB⟩ : ∃ B, manyR g = B := ⟨_, rfl⟩
 rw [hB]
 obtain ⟨X, hX⟩ : ∃ X, X = ext H [] := ⟨_, rfl⟩
 rw [e0]
 simp (maxDischargeDepth := 6) only [ruW, putL, Nat.reduceLeDiff, xF, ruU, entryE, Nat.reduceLT, Nat.reduceAdd, Nat.reduceMul, Nat.reduceEqDiff]
 refine w_env fun E hE => ?_
 have g0 : E 0 = .slice a0 g.length c0 := by rw [hE]; simp only [ruU, entryE, Nat.reduceLT, Nat.reduceAdd, Nat.reduceMul, Nat.reduceEqDiff]
 have g3 : E 3 = .int .i64 ((0 : Nat) : Int) := by rw [hE]; (simp only [ruU, entryE, Nat.reduceLT, Nat.reduceAdd, Nat.reduceMul, Nat.reduceEqDiff] <;> rfl)
 clear hE
 refine blockC_meet (fun E' H' => H' = X ∧ E' 0 = .slice a0 g.length c0 ∧ B = decide (60 < g.length)) ?_ ?_
 ·refine w_loop (fun (k : Nat) E' H' => H' = X ∧ E' 0 = .slice a0 g.length c0 ∧ E' 3 = .int .i64 (k : Int) ∧ k ≤ g.length ∧ k ≤ 61 ∧ ∀ i l, i < k → g[i]? = some l → l.text.size ≤ 200) (fun k => g.length - k) 0
   ⟨hX.symm, g0, g3, Nat.zero_le _, by omega, fun i l hi => by omega⟩ ?_
  clear g0 g3
  rintro k E H' ⟨hH, g0, g3, hk, hk13, hpre⟩
  rw [hH, hX]
  have fin : (∀ i l, i < 61 → g[i]? = some l → l.text.size ≤ 200) → B = decide (60 < g.length) := fun hall => by
   rw [← hB, manyR]
   have : (g.take 61).any (fun l => decide (200 < l.text.size)) = false := by
    rw [List.any_eq_false]
    intro l hl
    obtain ⟨i, hi⟩ := List.getElem?_of_mem hl
    have hi13 : i < 61 := by
     have := (List.getElem?_eq_some_iff.1 hi).1
     rw [List.length_take] at this
     omega
    rw [List.getElem?_take, if_pos hi13] at hi
    have := hall i l hi13 hi
    simp; omega
   rw [this, Bool.false_or]
  by_cases hkl : k = g.length
  ·have hc : decide ((k : Int) < (g.length : Int)) = false := by simp [hkl]
   simp (maxDischargeDepth := 6) only [g0, g3, hb, hc, ruW, putL, Nat.reduceLeDiff, xF, ruU, entryE, Nat.reduceLT, Nat.reduceAdd, Nat.reduceMul, Nat.reduceEqDiff]
   refine joinR_normal ⟨rfl, by simp only [g0, ruU, entryE, Nat.reduceLT, Nat.reduceAdd, Nat.reduceMul, Nat.reduceEqDiff], fin fun i l hi hl => hpre i l (by have := (List.getElem?_eq_some_iff.1 hl).1; omega) hl⟩
  ·have hlk : k < g.length := by omega
   have hc : decide ((k : Int) < (g.length : Int)) = true := decide_eq_true (by omega)
   by_cases hk3 : k = 61
   ·have hc2 : decide ((k : Int) < 61) = false := by simp [hk3]
    simp (maxDischargeDepth := 6) only [g0, g3, hb, hc, hc2, ruW, putL, Nat.reduceLeDiff, xF, ruU, entryE, Nat.reduceLT, Nat.reduceAdd, Nat.reduceMul, Nat.reduceEqDiff]
    refine joinR_normal ⟨rfl, by simp only [g0, ruU, entryE, Nat.reduceLT, Nat.reduceAdd, Nat.reduceMul, Nat.reduceEqDiff], fin fun i l hi hl => hpre i l (by omega) hl⟩
   ·have hc2 : decide ((k : Int) < 61) = true := decide_eq_true (by omega)
    rcases hg with ⟨h', _⟩ | ⟨_, n1, o1, s1, x1, t1, p1, L1, ev, b1, n1l, le1, tk1⟩
    ·rw [h'] at hlk; simp at hlk
    rw [ev] at e0
    cases e0
    obtain ⟨w1, hr1⟩ : ∃ r, g[k]? = some r := ⟨_, List.getElem?_eq_getElem hlk⟩
    have i1 := op_ia (n := n1) (off := o1) (s := s1) (cap := c0) (i := (k : Int)) rfl hlk
    have q1 := op_cell (t := 9) (e := t1) (o := p1) (j := 9) ag9 hr1 rfl tk1
    rw [Nat.add_assoc] at q1
    rw [hb] at n1l
    obtain ⟨d, hd⟩ : ∃ d, decide ((200 : Int) < (w1.text.size : Int)) = d := ⟨_, rfl⟩
    cases d with
    | true =>
     obtain rfl : true = B := by
      rw [← hB, manyR, List.any_eq_true.2 ⟨w1, ?_, ?_⟩, Bool.true_or]
      ·refine List.mem_of_getElem? (i := k) ?_
       rw [List.getElem?_take, if_pos (by omega), hr1]
      ·have := of_decide_eq_true hd
       exact decide_eq_true (by omega)
     simp (maxDischargeDepth := 6) only [g0, g3, hb, hc, hc2, i1, b1, n1l, q1, qk_old, bt_lenStr u9, hd, joinR_ret, Tryd.results21, ruW, putL, Nat.reduceLeDiff, xF, ruU, entryE, Nat.reduceLT, Nat.reduceAdd, Nat.reduceMul, Nat.reduceEqDiff]
     exact Fin.pureE rfl rfl
    | false =>
     simp (maxDischargeDepth := 6) only [g0, g3, hb, hc, hc2, i1, b1, n1l, q1, qk_old, bt_lenStr u9, hd, wrap_succ (show k < 1000000 by omega), ruW, putL, Nat.reduceLeDiff, xF, ruU, entryE, Nat.reduceLT, Nat.reduceAdd, Nat.reduceMul, Nat.reduceEqDiff]
     refine loopC_next ⟨k + 1, by omega, rfl, ?_, ?_, by omega, by omega, fun i l hi hl => ?_⟩
     ·simp only [g0, ruU, entryE, Nat.reduceLT, Nat.reduceAdd, Nat.reduceMul, Nat.reduceEqDiff]
     ·simp only [ruU, entryE, Nat.reduceLT, Nat.reduceAdd, Nat.reduceMul, Nat.reduceEqDiff]
     ·rcases Nat.lt_or_ge i k with h' | h'
      ·exact hpre i l h' hl
      ·obtain rfl : i = k := by omega
       rw [hr1] at hl
       cases hl
       have := of_decide_eq_false hd
       omega
 ·rintro E H' ⟨hH, g0, hBe⟩
  rw [hH, hX]
  have hd : decide ((60 : Int) < (g.length : Int)) = B := by rw [hBe]; exact decide_eq_decide.2 (by omega)
  simp (maxDischargeDepth := 6) only [g0, hb, hd, Tryd.results21, ruW, putL, Nat.reduceLeDiff, xF, ruU, entryE, Nat.reduceLT, Nat.reduceAdd, Nat.reduceMul, Nat.reduceEqDiff]
  exact Fin.pureE rfl rfl
end Go.Proofs.YtaojjfebkldmnaaDoor
/- The number of characters of a string, by the reference. -/
namespace Go.Proofs.YtaojjfebkldmnaaDoor
open Go.Ax
def lenR (l : List UInt8) : Int := match ptsR l with
 | none => 0
 | some r => r.length
theorem refLen_c (H : AHeap) (s : ByteArray) (hlen : s.data.toList.length ≤ 100000) : Pure 53 [.string s] H (.int .i64 (lenR s.data.toList)) := by
 obtain ⟨n, hn⟩ : ∃ n, lenR s.data.toList = n := ⟨_, rfl⟩
 rw [hn]
 unfold lenR at hn
 refine callS_fn mixed Tryd.func53 rfl Tryd.ntmps53 (Nat.le_of_ble_eq_true rfl) fun wf hsc => ?_
 simp (maxDischargeDepth := 6) only [ruW, putL, Nat.reduceLeDiff, xF, ruU, entryE, Nat.reduceLT, Nat.reduceAdd, Nat.reduceMul, Nat.reduceEqDiff]
 refine (refList_c (ext H []) s hlen wf.base).mono ?_
 rintro out X ⟨m, ho⟩
 rw [show X = ext X [] from rfl]
 cases hp : ptsR s.data.toList with
 | none =>
  rw [hp] at ho hn
  simp only [LsOut] at ho hn
  subst ho hn
  simp (maxDischargeDepth := 6) only [Tryd.results53, ruW, putL, Nat.reduceLeDiff, xF, ruU, entryE, Nat.reduceLT, Nat.reduceAdd, Nat.reduceMul, Nat.reduceEqDiff]
  exact Ax.Fin.mod rfl m rfl
 | some l =>
  rw [hp] at ho hn
  obtain ⟨v, rfl, hv, hid⟩ := ho
  simp only at hn
  subst hn
  obtain ⟨a, e⟩ := hv.len
  rw [e]
  simp (maxDischargeDepth := 6) only [Tryd.results53, ruW, putL, Nat.reduceLeDiff, xF, ruU, entryE, Nat.reduceLT, Nat.reduceAdd, Nat.reduceMul, Nat.reduceEqDiff]
  exact Ax.Fin.mod rfl m rfl
end Go.Proofs.YtaojjfebkldmnaaDoor
/- The number of characters of a string, by the program: the reference's. -/
namespace Go.Proofs.YtaojjfebkldmnaaDoor
open Go.Ax
set_option maxHeartbeats 1000000 in
theorem count_c (H : AHeap) (s : ByteArray) (r : List Int) (hr : ptsR s.data.toList = some r) (hlen : s.data.toList.length ≤ 100000) : Pure 75 [.string s] H (.int .i64 (r.length : Int)) := by
 refine callS_fn mixed Tryd.func75 rfl Tryd.ntmps75 (Nat.le_of_ble_eq_true rfl) fun wf hsc => ?_
 have hok := wf.base
 have e1 := range_str (H := ext H []) (s := s) u9
 simp (maxDischargeDepth := 6) only [w_rangeS, e1, ruW, putL, Nat.reduceLeDiff, xF, ruU, entryE, Nat.reduceLT, Nat.reduceAdd, Nat.reduceMul, Nat.reduceEqDiff]
 refine w_env fun E hE => ?_
 have g2 : E 2 = .int .i64 ((0 : Nat) : Int) := by rw [hE]; (simp only [ruU, entryE, Nat.reduceLT, Nat.reduceAdd, Nat.reduceMul, Nat.reduceEqDiff] <;> rfl)
 have g4 : E 4 = .pointer (some ⟨H.next, 0, none⟩) := by rw [hE]; (simp only [ruU, entryE, Nat.reduceLT, Nat.reduceAdd, Nat.reduceMul, Nat.reduceEqDiff] <;> rfl)
 clear hE
 refine blockC_meet (fun E' X => Mod [] H X ∧ E' 2 = .int .i64 (r.length : Int)) ?_ ?_
 ·refine w_loop (fun (q : Nat × Nat) E' X => Mod [] H X ∧ X.get H.next = some (itO s q.1) ∧ H.next < X.next ∧ some r.length = (ptsR (s.data.toList.drop q.1)).map (fun l => q.2 + l.length) ∧ q.2 ≤ q.1 ∧ q.1 ≤ s.data.toList.length ∧ E' 4 = .pointer (some ⟨H.next, 0, none⟩) ∧ E' 2 = .int .i64 (q.2 : Int)) (fun q => s.data.toList.length - q.1) (0, 0)
   ⟨Mod.new hok, by rw [AHeap.get_new, if_pos (show H.next = (ext H []).next from rfl)], Nat.lt_succ_self _, by rw [List.drop_zero, hr]; simp, Nat.le_refl _, Nat.zero_le _, g4, g2⟩ ?_
  clear g2 g4 E
  rintro ⟨p, k⟩ E X ⟨m, hit, hlt, hrr, hlp, hps, g4, g2⟩
  simp only at hit hrr hlp hps g2
  rw [show X = ext X [] from rfl]
  by_cases h0 : p < s.data.toList.length
  ·have hl0 : 0 < (s.data.toList.drop p).length := by rw [List.length_drop]; omega
   have hpt := ptR_len _ hl0
   have hdec := pt_dec _ hl0
   rw [Go.Lib.decodeL_drop] at hdec
   rw [ptsR_step _ hl0] at hrr
   obtain ⟨c, n, hcn⟩ : ∃ c n, ptR (s.data.toList.drop p) = (c, n) := ⟨_, _, rfl⟩
   rw [hcn] at hpt hdec hrr
   simp only at hpt hdec hrr
   by_cases hn : n = 0
   ·rw [if_pos hn] at hrr
    cases hrr
   rw [if_neg hn] at hrr
   obtain ⟨h1, h2, h3, h4⟩ := hdec.resolve_left (fun h => hn h.1)
   have hnx := next_str (H := ext X []) (n := H.next) (p := p) (s := s) hit (by rw [size_len]; exact h0)
   obtain ⟨Y, hY⟩ : ∃ Y, X.upd H.next (some (itO s (p + (Utf8.decode s p).2))) = Y := ⟨_, rfl⟩
   have mY : Mod [H.next] X Y := hY ▸ Mod.upd (by simp)
   have hYn : Y.next = X.next := by rw [← hY]; rfl
   have hYit : Y.get H.next = some (itO s (p + (Utf8.decode s p).2)) := by rw [← hY, AHeap.get_upd, if_pos rfl]
   rw [show (ext X []).upd H.next (some (itO s (p + (Utf8.decode s p).2))) = ext Y [] from hY, ← h2] at hnx
   simp (maxDischargeDepth := 6) only [g2, g4, w_nextS, hnx, ruW, putL, Nat.reduceLeDiff, xF, ruU, entryE, Nat.reduceLT, Nat.reduceAdd, Nat.reduceMul, Nat.reduceEqDiff]
   simp (maxDischargeDepth := 6) only [g2, g4, wrap_succ (show k < 1000000 by omega), ruW, putL, Nat.reduceLeDiff, xF, ruU, entryE, Nat.reduceLT, Nat.reduceAdd, Nat.reduceMul, Nat.reduceEqDiff]
   refine loopC_next ⟨(p + n.toNat, k + 1), ?_, ?_, ?_, ?_, ?_, ?_, ?_, ?_, ?_⟩
   ·simp only; omega
   ·exact m.step mY hok (fun q hq => .inr (by simp only [List.mem_singleton] at hq; omega))
   ·rw [show (ext Y []).get H.next = Y.get H.next from rfl, hYit]
    rw [show (Utf8.decode s p).2 = n.toNat by omega]
   ·rw [show (ext Y []).next = Y.next from rfl, hYn]; exact hlt
   ·rw [hrr, Option.map_map, List.drop_drop]
    congr 1
    funext y
    simp only [Function.comp, List.length_cons]
    omega
   ·simp only; omega
   ·rw [List.length_drop] at hpt; simp only; omega
   ·simp only [g4, ruU, entryE, Nat.reduceLT, Nat.reduceAdd, Nat.reduceMul, Nat.reduceEqDiff]
   ·simp only [ruU, entryE, Nat.reduceLT, Nat.reduceAdd, Nat.reduceMul, Nat.reduceEqDiff]
  ·have hnx := next_end (H := ext X []) (n := H.next) (p := p) (s := s) hit (by rw [size_len]; exact h0)
   rw [List.drop_eq_nil_of_le (by omega), ptsR_nil] at hrr
   have hk : r.length = k := by simpa using hrr
   simp (maxDischargeDepth := 6) only [g2, g4, w_nextS, hnx, ruW, putL, Nat.reduceLeDiff, xF, ruU, entryE, Nat.reduceLT, Nat.reduceAdd, Nat.reduceMul, Nat.reduceEqDiff]
   exact joinR_normal ⟨m, by simp only [g2, hk, ruU, entryE, Nat.reduceLT, Nat.reduceAdd, Nat.reduceMul, Nat.reduceEqDiff]⟩
 ·clear g2 g4
  rintro E X ⟨m, g2⟩
  rw [show X = ext X [] from rfl]
  simp (maxDischargeDepth := 6) only [g2, Tryd.results75, ruW, putL, Nat.reduceLeDiff, xF, ruU, entryE, Nat.reduceLT, Nat.reduceAdd, Nat.reduceMul, Nat.reduceEqDiff]
  exact Ax.Fin.mod rfl m rfl
theorem len_c (H : AHeap) (t : Tab H) (s : ByteArray) (hlen : s.data.toList.length ≤ 100000) : Pure 52 [.string s] H (.int .i64 (lenR s.data.toList)) := by
 obtain ⟨n, hn⟩ : ∃ n, lenR s.data.toList = n := ⟨_, rfl⟩
 have hv := valid_c (ext H []) t s (by rw [size_len]; omega)
 rw [valid_pts _ _ (Nat.le_refl _)] at hv
 rw [hn]
 unfold lenR at hn
 cases hp : ptsR s.data.toList with
 | none =>
  rw [hp] at hv hn
  simp only at hn
  subst hn
  refine callS_fn mixed Tryd.func52 rfl Tryd.ntmps52 (Nat.le_of_ble_eq_true rfl) fun wf hsc => ?_
  simp (maxDischargeDepth := 6) only [ruW, putL, Nat.reduceLeDiff, xF, ruU, entryE, Nat.reduceLT, Nat.reduceAdd, Nat.reduceMul, Nat.reduceEqDiff]
  refine hv.to ?_
  simp (maxDischargeDepth := 6) only [Option.isSome_none, Bool.not_false, Tryd.results52, ruW, putL, Nat.reduceLeDiff, xF, ruU, entryE, Nat.reduceLT, Nat.reduceAdd, Nat.reduceMul, Nat.reduceEqDiff]
  exact Fin.pureE rfl rfl
 | some r =>
  rw [hp] at hv hn
  simp only at hn
  subst hn
  have hc := count_c (ext H []) s r hp hlen
  refine callS_fn mixed Tryd.func52 rfl Tryd.ntmps52 (Nat.le_of_ble_eq_true rfl) fun wf hsc => ?_
  simp (maxDischargeDepth := 6) only [ruW, putL, Nat.reduceLeDiff, xF, ruU, entryE, Nat.reduceLT, Nat.reduceAdd, Nat.reduceMul, Nat.reduceEqDiff]
  refine hv.to ?_
  simp (maxDischargeDepth := 6) only [Option.isSome_some, Bool.not_true, ruW, putL, Nat.reduceLeDiff, xF, ruU, entryE, Nat.reduceLT, Nat.reduceAdd, Nat.reduceMul, Nat.reduceEqDiff]
  refine hc.to ?_
  simp (maxDischargeDepth := 6) only [Tryd.results52, ruW, putL, Nat.reduceLeDiff, xF, ruU, entryE, Nat.reduceLT, Nat.reduceAdd, Nat.reduceMul, Nat.reduceEqDiff]
  exact Fin.pureE rfl rfl
end Go.Proofs.YtaojjfebkldmnaaDoor
