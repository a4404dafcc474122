/- Parts of the proof, one behind the other. -/
import Derived.Test.YtaojjfebkldmnaaDoorM7
import Derived.Test.YtaojjfebkldmnaaDoorM8
import Derived.Test.YtaojjfebkldmnaaDoorM10
import Derived.Test.YtaojjfebkldmnaaDoorM4
import Derived.ChangeArms
import Derived.Test.YtaojjfebkldmnaaDoorRows
import Derived.ProofKit
import Derived.Carry
import Derived.OpenShut
import Derived.LaidMore
import Derived.Lay
set_option linter.all false
set_option maxRecDepth 10000
open Option renaming bind_eq_some_iff → oZ1, bind_eq_bind → oZ2, bind_some → oZ3, map_eq_some_iff → oZ4, map_some → oZ5

/- Operations copied; what both Apply come to. -/
namespace Go.Proofs.YtaojjfebkldmnaaDoor
open Go.Ax
theorem awake_c (H : AHeap) : Pure 11 [] H (.bool true) := callS_ans mixed known9 rfl awake_true H
theorem RowAt.mod0 {H G : AHeap} {v : Value} {l : List Ce} (h : RowAt H v l) (m : Mod [] H G) : RowAt G v l := by
 by_cases hl : l = []
 ·obtain ⟨a, c, e⟩ := h.sl
  subst hl
  exact .inl ⟨rfl, a, c, e⟩
 ·exact h.of m.next fun n hn => m.get n (h.ne hl n hn).2 (by simp)
theorem GridAt.mod0 {H G : AHeap} {v : Value} {g : List (List Ce)} (h : GridAt H v g) (m : Mod [] H G) : GridAt G v g := by
 rcases h with h | ⟨hg, n, off, s, c, e, o, L, rfl, hb, hlt, hle, hr⟩
 ·exact .inl h
 ·refine .inr ⟨hg, n, off, s, c, e, o, L, rfl, (rk_get (m.get n hlt (by simp))).trans hb, m.lt hlt, hle, fun k row hk => ?_⟩
  obtain ⟨rv, h1, h2⟩ := hr k row hk
  exact ⟨rv, h1, h2.mod0 m⟩
theorem GridSc.mod0 {H G : AHeap} {v : Value} (h : GridSc H v) (hs : scb H.next v = true) (m : Mod [] H G) : GridSc G v := fun n off s len c b e hb => by
 subst e
 have hn : n < H.next := by simp only [scb] at hs; exact Nat.lt_of_succ_le (Nat.le_of_ble_eq_true hs)
 rw [rk_get (m.get n hn (by simp))] at hb
 exact scbL_mono m.next _ (h n off s len c b rfl hb)
theorem ops_one (l : List Op) : (opsOf l).all one = true := by
 induction l with
 | nil => rfl
 | cons x l ih => rw [opsOf, List.flatMap_cons, List.all_append, Bool.and_eq_true]; exact ⟨rfl, ih⟩
theorem ops_sc (N : Nat) (l : List Op) : scbL N (opsOf l) = true := by
 induction l with
 | nil => rfl
 | cons x l ih => rw [opsOf, List.flatMap_cons]; exact scbL_append rfl ih
theorem ops_copy {G : AHeap} {m : Nat} {ov : Value} {l : List Op} (hm : bk G m = some ⟨47, false, []⟩) (hlt : m < G.next) (hok : G.base ≤ G.next) (hr : OpsAt G ov l) (hlen : l.length ≤ 10000) :
  ∃ u G', aBuiltin Tryd.prog G .append ⟨[28, 28]⟩ [.slice (some ⟨m, 0, some 0⟩) 0 0, ov] = some (u, G') ∧ OwnOps G' u (idsV u) l ∧ Mod [m] G G' ∧ (∀ n ∈ idsV u, n = m ∨ G.next ≤ n) ∧ scb G'.next u = true := by
 have a1 : Tryd.prog.underlying 28 = some (.slice 47) := by kernel_rfl
 have a2 : szOf Tryd.prog 47 = some 10 := by kernel_rfl
 have a3 : bytesOf Tryd.prog 47 = some 72 := by kernel_rfl
 have a4 : zeroOf Tryd.prog 47 = some (.agg #[.int .i64 0, .int .i64 0, .int .i64 0, .int .i64 0, .int .i64 0, .int .i64 0, .bool false, .bool false, .bool false, .string ⟨#[]⟩]) := by kernel_rfl
 have a5 : intTy Tryd.prog 28 = some false := by kernel_rfl
 rcases hr with ⟨rfl, a, c, rfl⟩ | ⟨hl, n, off, s, c, e, o, L, rfl, hb, hnl, hle, ht⟩
 ·have hw := write_old (H := G) (L := []) (off := 0) (vs := []) hlt hm (by simp) rfl rfl
  rw [ext_nil, ext_nil] at hw
  have hf : firstC G 10 0 (.slice a 0 c) = some [] := by
   cases a with
   | none => rfl
   | some a => simp only [firstC, if_true]
  refine ⟨.slice (some ⟨m, 0, some 0⟩) 0 0, uw G m 0 [], ?_, .inl ⟨rfl, _, _, rfl⟩, Mod.uw (by simp), fun n hn => by simp only [idsV, List.mem_singleton] at hn; exact .inl hn, blt_of (by rw [uw_next]; exact hlt)⟩
  simp only [aBuiltin, aAppend, a1, a2, a3, a4, a5, lenV, hf, oZ2, oZ3]
  rw [if_pos ⟨by simp, by decide, rfl⟩]
  simp only [aAppend2]
  rw [if_pos (by omega)]
  simp only [Nat.zero_mul, Nat.add_zero, hw, oZ2, oZ3]
 ·have hpos : 0 < l.length := List.length_pos_iff.2 hl
  have happ := app_exactP (P := Tryd.prog) (H := G) (st := 28) (xt := 28) (e := 47) (sz := 10) (by1 := 72) (m := m) (k := 0) (n := n) (off := off) (cnt := l.length) (cap := c) (s := s) (b := ⟨e, o, L⟩) (bm := ⟨47, false, []⟩)
   a1 a2 a3 a4 rfl a5 hm (by simp) rfl hb hle (by rw [ht]; exact ops_one l) hpos (by simp only [small, Bool.and_eq_true, Nat.ble_eq]; omega)
  have hn := new_ext (H := G) (L := []) (e := 47) (l := opsOf l) (o := true) (ops_sc _ _)
  simp only [ht, Nat.zero_mul, List.take_zero, List.nil_append] at happ
  rw [show G = ext G [] from rfl, hn, oZ5] at happ
  simp only [Nat.zero_add] at happ
  refine ⟨_, _, happ, .inr ⟨hl, G.next + 0, none, l.length, true, rfl, by rw [List.nil_append, bk_at rfl (by simp)]; rfl, by rw [ext_next]; simp, List.mem_singleton.2 rfl⟩, Mod.ext hok, fun n hn => by simp only [idsV, List.mem_singleton] at hn; exact .inr (by rw [hn]; exact Nat.le_refl _), blt_of (show G.next < (ext G ([] ++ [⟨47, true, opsOf l⟩])).next by rw [ext_next]; exact Nat.lt_succ_self _)⟩
def appV (g : List (List Ce)) (r c : Int) (l : List Op) : List (List Ce) × Int × Int × Int × Int :=
 if chkR g r c = 0 then (match St.all (widG g) ptsR l 0 (St.start g r c) with
  | .inr i => ([], 0, 0, 5, (i : Int))
  | .inl y => (y.grid, y.atR, y.atC (widG g), 0, 0))
 else ([], 0, 0, chkR g r c, 0)
theorem OwnG.none {N : Nat} {X : AHeap} : OwnG N X (.slice none 0 0) [] [] := ⟨rfl, .inl ⟨rfl, rfl⟩, fun i rv l h => by simp at h, by simp⟩
theorem AppR.val {H X : AHeap} {g : List (List Ce)} {r c : Int} {l : List Op} {out : Out} (h : AppR H g r c l out X) : Mod [] H X ∧ ∃ u rvs N, out = .ok (.tuple #[.agg #[u, .int .i64 (appV g r c l).2.1, .int .i64 (appV g r c l).2.2.1], .int .i64 (appV g r c l).2.2.2.1, .int .i64 (appV g r c l).2.2.2.2]) ∧ H.next ≤ N ∧ OwnG N X u rvs (appV g r c l).1 := by
 obtain ⟨m, h⟩ := h
 refine ⟨m, ?_⟩
 unfold appV
 split at h
 ·rename_i hc
  rw [if_pos hc]
  split at h
  ·rename_i i hi
   rw [hi]
   exact ⟨_, [], H.next, h, Nat.le_refl _, OwnG.none⟩
  ·rename_i y hy
   rw [hy]
   exact h
 ·rename_i hc
  rw [if_neg hc]
  exact ⟨_, [], H.next, h, Nat.le_refl _, OwnG.none⟩
theorem appV_grid {g : List (List Ce)} {r c : Int} {l : List Op} : (appV g r c l).1.length ≤ 200 ∧ ∀ q ∈ (appV g r c l).1, q.length ≤ 1000 := by
 unfold appV
 split
 ·rename_i hc
  obtain ⟨ok, _⟩ := chk_ok hc
  split
  ·simp
  ·rename_i y hy
   have oky := all_ok l 0 _ y ok hy
   exact ⟨oky.h2, fun q hq => by rw [oky.wid q hq]; exact oky.w2⟩
 ·simp
end Go.Proofs.YtaojjfebkldmnaaDoor
/- The walk of DiffApply. -/
namespace Go.Proofs.YtaojjfebkldmnaaDoor
open Go.Ax
abbrev True1 (H : AHeap) (out : Out) (H1 : AHeap) : Prop := out = .ok (.bool true) ∧ Mod [] H H1
set_option maxHeartbeats 8000000 in
theorem law5_c (H : AHeap) (v ov : Value) (g : List (List Ce)) (r c : Int) (l : List Op) (hg : GridAt H v g) (hsg : GridSc H v) (hl : OpsAt H ov l) (t : Tab H) (h1 : 1 < H.next) (hok : H.base ≤ H.next) (hs : scb H.next v = true) (hos : scb H.next ov = true) :
  CallA Tryd.prog 5 [.agg ⟨[v, .int .i64 r, .int .i64 c]⟩, ov] H (True1 H) := by
 obtain ⟨b, hb⟩ : ∃ b, H.next = b := ⟨_, rfl⟩
 have hbb : H.base ≤ b := hb ▸ hok
 obtain ⟨a0, c0, e0⟩ := hg.sl
 obtain ⟨ao, co, eo⟩ := hl.sl
 have hs0 := hs
 have hos0 := hos
 rw [hb] at hs hos
 have hs' := hs
 rw [e0] at hs
 refine callE_fn mixed Tryd.func5 rfl Tryd.ntmps5 (Nat.le_of_ble_eq_true rfl) ?_
 rw [e0]
 simp (maxDischargeDepth := 6) only [hb, hbb, hs, ruW, putL, Nat.reduceLeDiff, xF, ruU, entryE, Nat.reduceLT, Nat.reduceAdd, Nat.reduceMul, Nat.reduceEqDiff]
 rw [← e0]
 obtain ⟨X, hX⟩ : ∃ X, ext H [⟨24, false, [v, .int .i64 r, .int .i64 c]⟩] = X := ⟨_, rfl⟩
 have mX : Mod [] H X := hX ▸ Mod.ext hok
 have nX : X.next = b + 1 := by rw [← hX, ext_next, hb]; rfl
 have k0 : bk X (b + 0) = some ⟨24, false, [v, .int .i64 r, .int .i64 c]⟩ := by rw [← hX, bk_at hb (by simp)]; rfl
 have okX := mX.ok hok
 have gX := hg.mod0 mX
 have lX := hl.mod0 mX
 rw [hX]
 rw [show X = ext X [] from rfl]
 refine (large_c (ext X []) v g r c gX).to ?_
 cases hlg : largeR g with
 | true =>
  simp (maxDischargeDepth := 6) only [ruW, putL, Nat.reduceLeDiff, xF, ruU, entryE, Nat.reduceLT, Nat.reduceAdd, Nat.reduceMul, Nat.reduceEqDiff]
  refine (awake_c (ext X [])).to ?_
  simp (maxDischargeDepth := 6) only [Tryd.results5, ruW, putL, Nat.reduceLeDiff, xF, ruU, entryE, Nat.reduceLT, Nat.reduceAdd, Nat.reduceMul, Nat.reduceEqDiff]
  exact ⟨rfl, mX⟩
 | false =>
 rw [eo]
 simp (maxDischargeDepth := 6) only [ruW, putL, Nat.reduceLeDiff, xF, ruU, entryE, Nat.reduceLT, Nat.reduceAdd, Nat.reduceMul, Nat.reduceEqDiff]
 rw [← eo]
 refine (many_c (ext X []) ov l lX).to ?_
 cases hmn : manyR l with
 | true =>
  simp (maxDischargeDepth := 6) only [ruW, putL, Nat.reduceLeDiff, xF, ruU, entryE, Nat.reduceLT, Nat.reduceAdd, Nat.reduceMul, Nat.reduceEqDiff]
  refine (awake_c (ext X [])).to ?_
  simp (maxDischargeDepth := 6) only [Tryd.results5, ruW, putL, Nat.reduceLeDiff, xF, ruU, entryE, Nat.reduceLT, Nat.reduceAdd, Nat.reduceMul, Nat.reduceEqDiff]
  exact ⟨rfl, mX⟩
 | false =>
 obtain ⟨hgl, hgw⟩ := largeR_false hlg
 obtain ⟨hol, how⟩ := manyR_false hmn
 have l0 : b + 0 < b + 1 := by omega
 have hlen : ∀ o ∈ l, o.text.data.toList.length ≤ 1000 := fun o ho => by have := how o ho; rw [size_len] at this; omega
 simp (maxDischargeDepth := 6) only [nX, k0, l0, ruW, putL, Nat.reduceLeDiff, xF, ruU, entryE, Nat.reduceLT, Nat.reduceAdd, Nat.reduceMul, Nat.reduceEqDiff]
 refine (copyScreen_c (ext X []) v g r c gX okX (by show scb X.next v = true; rw [nX]; exact scb_mono (by omega) _ hs') (hsg.mod0 hs0 mX) (fun q hq => by have := hgw q hq; omega) (by omega)).mono ?_
 rintro _ X1 ⟨u1, rv1, rfl, gr1, m1⟩
 replace m1 : Mod [] X X1 := m1
 replace gr1 : Grow X.next X1 u1 rv1 g := gr1
 have ok1 := m1.ok okX
 obtain ⟨x1, hx1⟩ : ∃ n, X1.next = n := ⟨_, rfl⟩
 have hb1 : X1.base ≤ x1 := hx1 ▸ ok1
 obtain ⟨Y1, hY1⟩ : ∃ Y1, ext X1 [⟨47, false, []⟩] = Y1 := ⟨_, rfl⟩
 have mY1 : Mod [] X1 Y1 := hY1 ▸ Mod.ext ok1
 have nY1 : Y1.next = x1 + 1 := by rw [← hY1, ext_next, hx1]; rfl
 have kY1 : bk Y1 (x1 + 0) = some ⟨47, false, []⟩ := by rw [← hY1, bk_at hx1 (by simp)]; rfl
 have mHY1 : Mod [] H Y1 := (mX.trans m1).trans mY1
 obtain ⟨u2, X2, hap, own2, m2, hi2, hs2⟩ := ops_copy kY1 (by omega) (mY1.ok ok1) (hl.mod0 mHY1) (by omega)
 have m12 : Mod [] X1 X2 := mY1.step m2 ok1 (fun n hn => .inr (by simp only [List.mem_singleton] at hn; omega))
 have hi2' : ∀ n ∈ idsV u2, x1 ≤ n := fun n hn => by rcases hi2 n hn with h | h <;> omega
 have ok2 := m12.ok ok1
 obtain ⟨x2, hx2⟩ : ∃ n, X2.next = n := ⟨_, rfl⟩
 have hb2 : X2.base ≤ x2 := hx2 ▸ ok2
 obtain ⟨au1, eu1⟩ := gr1.at_.len
 have hsu1 : scb x2 u1 = true := by
  have := gr1.at_.sc
  rw [hx1] at this
  exact scb_mono (by have := m12.next; omega) _ this
 rw [show X1 = ext X1 [] from rfl]
 rw [eo] at hap
 replace hap : aBuiltin Tryd.prog Y1 .append ⟨[28, 28]⟩ [.slice (some ⟨x1 + 0, 0, some 0⟩) 0 0, .slice ao l.length co] = some (u2, ext X2 []) := hap
 simp (maxDischargeDepth := 6) only [hx1, hb1, ruW, putL, Nat.reduceLeDiff, xF, ruU, entryE, Nat.reduceLT, Nat.reduceAdd, Nat.reduceMul, Nat.reduceEqDiff]
 rw [hY1, eo]
 have hsu1' := hsu1
 rw [eu1] at hsu1
 rw [eu1]
 simp (maxDischargeDepth := 6) only [hap, hx2, hb2, hsu1, ruW, putL, Nat.reduceLeDiff, xF, ruU, entryE, Nat.reduceLT, Nat.reduceAdd, Nat.reduceMul, Nat.reduceEqDiff]
 rw [← eu1, ← eo]
 have hx1b : b + 1 ≤ x1 := by have := m1.next; omega
 have hx12 : x1 ≤ x2 := by have := m12.next; omega
 -- the program's Apply
 obtain ⟨X3, hX3⟩ : ∃ X3, ext X2 [⟨24, false, [u1, .int .i64 r, .int .i64 c]⟩] = X3 := ⟨_, rfl⟩
 have m3 : Mod [] X2 X3 := hX3 ▸ Mod.ext ok2
 have nX3 : X3.next = x2 + 1 := by rw [← hX3, ext_next, hx2]; rfl
 have k3 : bk X3 (x2 + 0) = some ⟨24, false, [u1, .int .i64 r, .int .i64 c]⟩ := by rw [← hX3, bk_at hx2 (by simp)]; rfl
 have m13 : Mod [] X1 X3 := m12.trans m3
 have mX3 : Mod [] X X3 := m1.trans m13
 have mH3 : Mod [] H X3 := mX.trans mX3
 have ok3 := mH3.ok hok
 have g1at : GridAt X3 u1 g := (gr1.own.of m13.next fun n h2 h3 _ => m13.get n h3 (by simp)).grid
 have o2at : OpsAt X3 u2 l := by
  have := own2.at_
  exact this.mod0 m3
 have t3 : Tab X3 := t.of (mH3.get 0 (by omega) (by simp)) (mH3.get 1 h1 (by simp))
 rw [hX3]
 rw [show X3 = ext X3 [] from rfl]
 refine (apply_c X3 u1 u2 g r c l g1at o2at t3 (by omega) ok3 (by rw [nX3]; exact scb_mono (by omega) _ hsu1') (fun q hq => by have := hgw q hq; omega) (by omega) hlen (by omega)).mono ?_
 intro out4 X4 hap4
 obtain ⟨m4, ua, rva, Na, rfl, hNa, owna⟩ := hap4.val
 obtain ⟨⟨ga, ra, ca, ea, ia⟩, hA⟩ : ∃ q, appV g r c l = q := ⟨_, rfl⟩
 have hgrid := appV_grid (g := g) (r := r) (c := c) (l := l)
 rw [hA] at owna hgrid ⊢
 simp only at owna hgrid ⊢
 have ok4 := m4.ok ok3
 obtain ⟨x4, hx4⟩ : ∃ n, X4.next = n := ⟨_, rfl⟩
 have hb4 : X4.base ≤ x4 := hx4 ▸ ok4
 obtain ⟨aua, cua, eua⟩ := owna.grid.sl
 have hsua : scb x4 ua = true := by
  rcases owna.at_ with ⟨_, h⟩ | ⟨m, s, c', o, e, _, _, hm, _⟩
  ·rw [h]; rfl
  ·rw [e]; exact blt_of (show m < x4 by omega)
 rw [show X4 = ext X4 [] from rfl]
 have hsua' := hsua
 rw [eua] at hsua ⊢
 have hx24 : x2 + 1 ≤ x4 := by have := m4.next; omega
 have mX4 : Mod [] X X4 := mX3.trans m4
 have kb4 := (mX4.bk (n := b + 0) (by omega) (by simp)).trans k0
 have lb4 : b + 0 < x4 := by omega
 simp (maxDischargeDepth := 6) only [hx4, hb4, hsua, kb4, lb4, ruW, putL, Nat.reduceLeDiff, xF, ruU, entryE, Nat.reduceLT, Nat.reduceAdd, Nat.reduceMul, Nat.reduceEqDiff]
 rw [← eua]
 -- the reference's Apply
 obtain ⟨X5, hX5⟩ : ∃ X5, ext X4 [⟨24, false, [ua, .int .i64 ra, .int .i64 ca]⟩] = X5 := ⟨_, rfl⟩
 have m5 : Mod [] X4 X5 := hX5 ▸ Mod.ext ok4
 have nX5 : X5.next = x4 + 1 := by rw [← hX5, ext_next, hx4]; rfl
 have k5 : bk X5 (x4 + 0) = some ⟨24, false, [ua, .int .i64 ra, .int .i64 ca]⟩ := by rw [← hX5, bk_at hx4 (by simp)]; rfl
 have mX5 : Mod [] X X5 := mX4.trans m5
 have mH5 : Mod [] H X5 := mX.trans mX5
 have ok5 := mH5.ok hok
 rw [hX5]
 rw [show X5 = ext X5 [] from rfl]
 refine (refApply_c X5 v ov g r c l (hg.mod0 mH5) (hsg.mod0 hs0 mH5) (hl.mod0 mH5) ok5 (by rw [nX5]; exact scb_mono (by omega) _ hs') (fun q hq => by have := hgw q hq; omega) (by omega) hlen (by omega)).mono ?_
 intro out6 X6 hap6
 obtain ⟨m6, ub, rvb, Nb, rfl, hNb, ownb⟩ := hap6.val
 rw [hA] at ownb ⊢
 simp only at ownb ⊢
 have mH6 : Mod [] H X6 := mH5.trans m6
 have ok6 := mH6.ok hok
 obtain ⟨x6, hx6⟩ : ∃ n, X6.next = n := ⟨_, rfl⟩
 have hb6 : X6.base ≤ x6 := hx6 ▸ ok6
 obtain ⟨aub, cub, eub⟩ := ownb.grid.sl
 have hsub : scb x6 ub = true := by
  rcases ownb.at_ with ⟨_, h⟩ | ⟨m, s, c', o, e, _, _, hm, _⟩
  ·rw [h]; rfl
  ·rw [e]; exact blt_of (show m < x6 by omega)
 have hx46 : x4 + 1 ≤ x6 := by have := m6.next; omega
 have k6a := (m6.bk (n := x4 + 0) (by omega) (by simp)).trans k5
 have l6a : x4 + 0 < x6 := by omega
 have own6 : OwnG Na X6 ua rva ga := by
  have q := owna.of m5.next fun n h2 h3 _ => m5.get n h3 (by simp)
  exact q.of m6.next fun n h2 h3 _ => m6.get n h3 (by simp)
 rw [show X6 = ext X6 [] from rfl]
 rw [eub] at hsub ⊢
 simp (maxDischargeDepth := 6) only [hx6, hb6, hsub, k6a, l6a, ruW, putL, Nat.reduceLeDiff, xF, ruU, entryE, Nat.reduceLT, Nat.reduceAdd, Nat.reduceMul, Nat.reduceEqDiff]
 rw [← eub]
 obtain ⟨X7, hX7⟩ : ∃ X7, ext X6 [⟨24, false, [ub, .int .i64 ra, .int .i64 ca]⟩] = X7 := ⟨_, rfl⟩
 have m7 : Mod [] X6 X7 := hX7 ▸ Mod.ext ok6
 have nX7 : X7.next = x6 + 1 := by rw [← hX7, ext_next, hx6]; rfl
 have mH7 : Mod [] H X7 := mH6.trans m7
 have ok7 := mH7.ok hok
 have own7a : OwnG Na X7 ua rva ga := own6.of m7.next fun n h2 h3 _ => m7.get n h3 (by simp)
 have own7b : OwnG Nb X7 ub rvb ga := ownb.of m7.next fun n h2 h3 _ => m7.get n h3 (by simp)
 have k7a := (m7.bk (n := x4 + 0) (by omega) (by simp)).trans k6a
 have m37 : Mod [] X3 X7 := (m4.trans (m5.trans m6)).trans m7
 have k7c := (m37.bk (n := x2 + 0) (by omega) (by simp)).trans k3
 have mX7 : Mod [] X X7 := mX3.trans m37
 have k7b := (mX7.bk (n := b + 0) (by omega) (by simp)).trans k0
 have t7 : Tab X7 := t.of (mH7.get 0 (by omega) (by simp)) (mH7.get 1 h1 (by simp))
 have hsame : decide (ga = ga ∧ ra = ra ∧ ca = ca) = true := decide_eq_true ⟨rfl, rfl, rfl⟩
 have hee : decide (ea = ea) = true := decide_eq_true rfl
 have hii : decide (ia = ia) = true := decide_eq_true rfl
 have hcc : decide (costR l = costR l) = true := decide_eq_true rfl
 rw [hX7]
 rw [show X7 = ext X7 [] from rfl]
 refine (sameScreens_c (ext X7 []) ua ub ga ga ra ca ra ca own7a.grid own7b.grid (by omega) (fun q hq => by have := hgrid.2 q hq; omega)).to ?_
 rw [hsame]
 simp (maxDischargeDepth := 6) only [hee, hii, decide_true, ruW, putL, Nat.reduceLeDiff, xF, ruU, entryE, Nat.reduceLT, Nat.reduceAdd, Nat.reduceMul, Nat.reduceEqDiff]
 refine (cost_c (ext X7 []) t7 (by show 1 < X7.next; omega) u2 l (o2at.mod0 m37) hol how).to ?_
 simp (maxDischargeDepth := 6) only [ruW, putL, Nat.reduceLeDiff, xF, ruU, entryE, Nat.reduceLT, Nat.reduceAdd, Nat.reduceMul, Nat.reduceEqDiff]
 refine (refCost_c (ext X7 []) ov l (hl.mod0 mH7) hol how).to ?_
 have l7a : x4 + 0 < x6 + 1 := by omega
 simp (maxDischargeDepth := 6) only [hcc, nX7, k7a, l7a, decide_true, ruW, putL, Nat.reduceLeDiff, xF, ruU, entryE, Nat.reduceLT, Nat.reduceAdd, Nat.reduceMul, Nat.reduceEqDiff]
 refine (over_c Na (ext X7 []) ua rva ga ra ca own7a ok7 (fun q hq => by have := hgrid.2 q hq; omega) (by omega)).mono ?_
 rintro _ X8 ⟨rfl, m8⟩
 replace m8 : Mod (rva.flatMap idsV) X7 X8 := m8
 have hr8 : ∀ n ∈ rva.flatMap idsV, x2 + 1 ≤ n := fun n hn => by have := (own7a.ids n hn).1; omega
 have ok8 := m8.ok ok7
 have mH8 : Mod [] H X8 := mH7.step m8 hok (fun n hn => .inr (by have := hr8 n hn; omega))
 have m18 : Mod [] X1 X8 := (m13.trans m37).step m8 ok1 (fun n hn => .inr (by have := hr8 n hn; omega))
 have m28 : Mod [] X2 X8 := (m3.trans m37).step m8 ok2 (fun n hn => .inr (by have := hr8 n hn; omega))
 obtain ⟨x8, hx8⟩ : ∃ n, X8.next = n := ⟨_, rfl⟩
 have hx68 : x6 + 1 ≤ x8 := by have := m8.next; omega
 have k8c := (m8.bk (n := x2 + 0) (by omega) (fun h => by have := hr8 _ h; omega)).trans k7c
 have k8b := (m8.bk (n := b + 0) (by omega) (fun h => by have := hr8 _ h; omega)).trans k7b
 have l8c : x2 + 0 < x8 := by omega
 have l8b : b + 0 < x8 := by omega
 have hsame2 : decide (g = g ∧ r = r ∧ c = c) = true := decide_eq_true ⟨rfl, rfl, rfl⟩
 have g8 : GridAt X8 u1 g := (gr1.own.of m18.next fun n h2 h3 _ => m18.get n h3 (by simp)).grid
 rw [show X8 = ext X8 [] from rfl]
 simp (maxDischargeDepth := 6) only [hx8, k8c, k8b, l8c, l8b, ruW, putL, Nat.reduceLeDiff, xF, ruU, entryE, Nat.reduceLT, Nat.reduceAdd, Nat.reduceMul, Nat.reduceEqDiff]
 refine (sameScreens_c (ext X8 []) u1 v g g r c r c g8 (hg.mod0 mH8) (by omega) (fun q hq => by have := hgw q hq; omega)).to ?_
 rw [hsame2]
 simp (maxDischargeDepth := 6) only [ruW, putL, Nat.reduceLeDiff, xF, ruU, entryE, Nat.reduceLT, Nat.reduceAdd, Nat.reduceMul, Nat.reduceEqDiff]
 have own8 : OwnOps X8 u2 (idsV u2) l := by
  rcases own2 with h | ⟨hl', n, s', c', o', e, h2, h3, h4⟩
  ·exact .inl h
  ·exact .inr ⟨hl', n, s', c', o', e, (m28.bk h3 (by simp)).trans h2, m28.lt h3, h4⟩
 refine (same_c (ext X8 []) u2 ov (idsV u2) l own8 (hl.mod0 mH8) ok8 (by omega)).mono ?_
 rintro _ X9 ⟨rfl, m9⟩
 replace m9 : Mod (idsV u2) X8 X9 := m9
 have mH9 : Mod [] H X9 := mH8.step m9 hok (fun n hn => .inr (by have := hi2' n hn; omega))
 rw [show X9 = ext X9 [] from rfl]
 simp (maxDischargeDepth := 6) only [ruW, putL, Nat.reduceLeDiff, xF, ruU, entryE, Nat.reduceLT, Nat.reduceAdd, Nat.reduceMul, Nat.reduceEqDiff]
 refine (awake_c (ext X9 [])).to ?_
 simp (maxDischargeDepth := 6) only [Tryd.results5, ruW, putL, Nat.reduceLeDiff, xF, ruU, entryE, Nat.reduceLT, Nat.reduceAdd, Nat.reduceMul, Nat.reduceEqDiff]
 exact ⟨rfl, mH9⟩
end Go.Proofs.YtaojjfebkldmnaaDoor
/- Arguments that hold slices, of slices too: an abstract heap with one block for each slice, for reading only (such blocks may lie where others lie). -/
namespace Go.Ax
open Go.ChangeShapes
section
variable {P : Program} {ρ : Ren} {H : AHeap} {w : World}
def roObj (e : TypeId) (vs : List Value) : AObj := ⟨.cells #[] e (1, 0), true, RV.ofList vs⟩
theorem roObj_fz {e : TypeId} {vs : List Value} : Fz (some (roObj e vs)) := ⟨_, rfl, rfl⟩
def roH (H : AHeap) (e : TypeId) (vs : List Value) : AHeap := ⟨rootPut H.root H.next (some (roObj e vs)), H.next + 1, H.next + 1, H.dirty⟩
theorem roH_get {e : TypeId} {vs : List Value} (m : Nat) : (roH H e vs).get m = if m = H.next then some (roObj e vs) else H.get m := rootPut_get _ _ _ _
theorem roH_rk {e : TypeId} {vs : List Value} : rk (roH H e vs) H.next = some ⟨e, true, vs⟩ := by
 rw [rk_eq]
 simp only [cellsR, roH_get, if_true, roObj, oZ5, RV.n_ofList, RV.gets_ofList]
def isU8 : Value → Bool
 | .int .u8 _ => true
 | _ => false
structure Ro (P : Program) (ρ : Ren) (H : AHeap) (w : World) : Prop where
 rel : Rel P ρ H w
 base : H.base = H.next
 dirty : H.dirty = []
 al : ∀ n, H.get n ≠ none → Fz (H.get n) ∨ n < P.globals.size ∧ ∃ c e, w.heap[n]? = some (.cells c e (0, 0)) ∧ ∀ v ∈ c.toList, isU8 v = true
structure Gro (H H1 : AHeap) : Prop where
 next : H.next ≤ H1.next
 get : ∀ n, n < H.next → H1.get n = H.get n
theorem Gro.refl : Gro H H := ⟨Nat.le_refl _, fun _ _ => rfl⟩
theorem Gro.trans {H1 H2 : AHeap} (a : Gro H H1) (b : Gro H1 H2) : Gro H H2 := ⟨Nat.le_trans a.next b.next, fun n hn => (b.get n (Nat.lt_of_lt_of_le hn a.next)).trans (a.get n hn)⟩
theorem Ro.add (R : Ro P ρ H w) {b off : Nat} {e : TypeId} {c : Array Value} {fz : Nat × Nat} {vs : List Value} (hb : w.heap[b]? = some (.cells c e fz)) (hc : ∀ i, i < vs.length → c[off + i]? = some (ρ.val (vs.getD i undef)))
  (hs : scbL H.next vs = true) (h0 : ∃ i, i < vs.length ∧ isU8 (ρ.val (vs.getD i undef)) = false) : Ro P (ρ.at H.next b off 0) (roH H e vs) w ∧ Ext H.next ρ (ρ.at H.next b off 0) ∧ Gro H (roH H e vs) := by
 have ex := Ren.at_ext ρ H.next b off 0
 have r := R.rel
 have hal : ∀ n, H.get n ≠ none → ρ.blk n = b → Fz (H.get n) := fun n hn he => by
  rcases R.al n hn with h | ⟨hg, c', e', h1, h2⟩
  ·exact h
  ·rw [(r.glob.2 n hg).1] at he
   subst he
   rw [hb] at h1
   simp only [Option.some.injEq, Obj.cells.injEq] at h1
   obtain ⟨i, hi, hu⟩ := h0
   have h3 := hc i hi
   rw [h1.1] at h3
   have := h2 _ (Array.mem_toList_iff.2 (Array.mem_of_getElem? h3))
   rw [hu] at this
   cases this
 have hgr : Gro H (roH H e vs) := ⟨Nat.le_succ _, fun n hn => by rw [roH_get, if_neg (by omega)]⟩
 refine ⟨⟨⟨Nat.le_refl _, ⟨Nat.le_succ_of_le r.glob.1, fun g hg => ?_⟩, fun m n hm hn he => ?_, fun n o hn => ?_, fun n o hn => ?_⟩, rfl, R.dirty, fun n hn => ?_⟩, ex, hgr⟩
 ·have := r.glob.1
  rw [ex.blk g (by omega), ex.sh g (by omega)]; exact r.glob.2 g hg
 ·rw [roH_get] at hm hn ⊢
  rw [roH_get]
  by_cases h1 : m = H.next <;> by_cases h2 : n = H.next
  ·exact .inl (h1.trans h2.symm)
  ·rw [if_neg h2] at hn
   rw [if_pos h1, if_neg h2]
   subst h1
   rw [Ren.at_blk, ex.blk n (r.lt hn)] at he
   exact .inr ⟨roObj_fz, hal n hn he.symm⟩
  ·rw [if_neg h1] at hm
   rw [if_neg h1, if_pos h2]
   subst h2
   rw [Ren.at_blk, ex.blk m (r.lt hm)] at he
   exact .inr ⟨hal m hm he, roObj_fz⟩
  ·rw [if_neg h1] at hm
   rw [if_neg h2] at hn
   rw [if_neg h1, if_neg h2]
   rw [ex.blk m (r.lt hm), ex.blk n (r.lt hn)] at he
   exact r.inj m n hm hn he
 ·rw [roH_get] at hn
  by_cases h : n = H.next
  ·rw [if_pos h] at hn
   cases hn
   subst h
   refine ⟨Nat.lt_succ_self _, ?_⟩
   simp only [sco, roObj, RV.n_ofList, RV.get_ofList]
   intro i hi
   exact scb_mono (Nat.le_succ _) _ (scbL_iff.1 hs _ (by simp [List.getD, hi]))
  ·rw [if_neg h] at hn
   have := r.dom n o hn
   exact ⟨Nat.lt_succ_of_lt this.1, this.2.mono (Nat.le_succ _)⟩
 ·rw [roH_get] at hn
  by_cases h : n = H.next
  ·rw [if_pos h] at hn
   cases hn
   subst h
   refine ⟨_, by rw [Ren.at_blk]; exact hb, ?_⟩
   simp only [Fits, roObj]
   refine ⟨c, fz, rfl, fun i hi => ?_, fun h => (by cases h), fun _ h => (by cases h)⟩
   simp only [RV.n_ofList] at hi
   rw [RV.get_ofList, Ren.at_sh, val_ext ex _ (scbL_iff.1 hs _ (by simp [List.getD, hi])), Nat.add_comm]
   exact hc i hi
  ·rw [if_neg h] at hn
   obtain ⟨o', h1, h2⟩ := r.obj n o hn
   have hd := r.dom n o hn
   exact ⟨o', by rw [ex.blk n hd.1]; exact h1, h2.ext hd.1 hd.2 ex⟩
 ·rw [roH_get] at hn ⊢
  by_cases h : n = H.next
  ·rw [if_pos h]; exact .inl roObj_fz
  ·rw [if_neg h] at hn ⊢
   exact R.al n hn
theorem Ro.skipE (R : Ro P ρ H w) {ρ' : Ren} (ex : Ext H.next ρ ρ') : Ro P ρ' ⟨H.root, H.next + 1, H.next + 1, H.dirty⟩ w ∧ Gro H ⟨H.root, H.next + 1, H.next + 1, H.dirty⟩ := by
 have r := R.rel
 have hg : ∀ n, (⟨H.root, H.next + 1, H.next + 1, H.dirty⟩ : AHeap).get n = H.get n := fun n => rfl
 refine ⟨⟨⟨Nat.le_refl _, ⟨Nat.le_succ_of_le r.glob.1, fun g hg => ?_⟩, fun m n hm hn he => ?_, fun n o hn => ?_, fun n o hn => ?_⟩, rfl, R.dirty, fun n hn => R.al n hn⟩, Nat.le_succ _, fun n _ => rfl⟩
 ·have := r.glob.1
  rw [ex.blk g (by omega), ex.sh g (by omega)]; exact r.glob.2 g hg
 ·rw [hg] at hm hn
  rw [ex.blk m (r.lt hm), ex.blk n (r.lt hn)] at he
  exact r.inj m n hm hn he
 ·have := r.dom n o hn
  exact ⟨Nat.lt_succ_of_lt this.1, this.2.mono (Nat.le_succ _)⟩
 ·obtain ⟨o', h1, h2⟩ := r.obj n o hn
  have hd := r.dom n o hn
  exact ⟨o', by rw [ex.blk n hd.1]; exact h1, h2.ext hd.1 hd.2 ex⟩
theorem Ro.skip (R : Ro P ρ H w) (b off : Nat) : Ro P (ρ.at H.next b off 0) ⟨H.root, H.next + 1, H.next + 1, H.dirty⟩ w ∧ Ext H.next ρ (ρ.at H.next b off 0) ∧ Gro H ⟨H.root, H.next + 1, H.next + 1, H.dirty⟩ :=
 ⟨(R.skipE (Ren.at_ext ρ H.next b off 0)).1, Ren.at_ext ρ H.next b off 0, (R.skipE (Ren.at_ext ρ H.next b off 0)).2⟩
def Ren.atJ (ρ : Ren) (n b s j : Nat) : Ren := ⟨fun m => if m = n then b else ρ.blk m, fun m => if m = n then s else ρ.sh m, fun m => if m = n then 0 else ρ.ex m, fun m => if m = n then .int .i64 j else ρ.op m, fun m => by
 by_cases h : m = n
 ·simp only [h, if_true]; rfl
 ·simp only [h, if_false]; exact ρ.op1 m⟩
theorem Ren.atJ_ext (ρ : Ren) (n b s j : Nat) : Ext n ρ (ρ.atJ n b s j) :=
 ⟨fun m h => if_neg (Nat.ne_of_lt h), fun m h => if_neg (Nat.ne_of_lt h), fun m h => if_neg (Nat.ne_of_lt h), fun m h => if_neg (Nat.ne_of_lt h)⟩
theorem val_slJ {N b off j : Nat} : (ρ.atJ N b off j).val (.slice (some ⟨N, 0, some 1⟩) 0 0) = .slice (some ⟨b, off, some j⟩) 0 0 := by
 simp [Ren.val, Ren.atJ, Ren.offS, Ren.spS, Ren.capS, spO]
def SlAt (H : AHeap) (sz : Nat) (u : Value) (vs : List Value) (len : Nat) : Prop :=
 vs.length = len * sz ∧ ∃ a cap, u = .slice a len cap ∧ (len = 0 ∨ ∃ n e, a = some ⟨n, 0, some 0⟩ ∧ n < H.next ∧ rk H n = some ⟨e, true, vs⟩)
theorem SlAt.gro {H1 : AHeap} {sz : Nat} {u : Value} {vs : List Value} {len : Nat} (h : SlAt H sz u vs len) (g : Gro H H1) : SlAt H1 sz u vs len := by
 obtain ⟨h1, a, cap, h2, h3⟩ := h
 refine ⟨h1, a, cap, h2, h3.imp id ?_⟩
 rintro ⟨n, e, h4, h5, h6⟩
 exact ⟨n, e, h4, Nat.lt_of_lt_of_le h5 g.next, (rk_get (g.get n h5)).trans h6⟩
theorem val_sl {N b off len cap : Nat} : (ρ.at N b off 0).val (.slice (some ⟨N, 0, some 0⟩) len cap) = .slice (some ⟨b, off, none⟩) len cap := by
 simp [Ren.val, Ren.at_blk, Ren.at_sh]
theorem Ro.sl (R : Ro P ρ H w) {sz len cap b off : Nat} {sp : Option Nat} (hspot : sp = none ∨ len = 0 ∧ cap = 0) {vs : List Value} (hlen : vs.length = len * sz)
  (hcell : len = 0 ∨ ∃ c e fz, w.heap[b]? = some (.cells c e fz) ∧ ∀ i, i < vs.length → c[off + i]? = some (ρ.val (vs.getD i undef))) (hs : scbL H.next vs = true) (h0 : len = 0 ∨ ∃ i, i < vs.length ∧ isU8 (ρ.val (vs.getD i undef)) = false) :
  ∃ ρ1 H1 u, Ro P ρ1 H1 w ∧ Ext H.next ρ ρ1 ∧ Gro H H1 ∧ ρ1.val u = .slice (some ⟨b, off, sp⟩) len cap ∧ scb H1.next u = true ∧ SlAt H1 sz u vs len := by
 by_cases hz : len = 0
 ·cases sp with
  | none =>
   obtain ⟨k1, k2, k3⟩ := R.skip b off
   exact ⟨_, _, .slice (some ⟨H.next, 0, some 0⟩) len cap, k1, k2, k3, val_sl, blt_of (Nat.lt_succ_self _), hlen, _, _, rfl, .inl hz⟩
  | some j =>
   have hc : cap = 0 := by
    rcases hspot with h | h
    ·cases h
    ·exact h.2
   subst hc hz
   obtain ⟨k1, k3⟩ := R.skipE (ρ.atJ_ext H.next b off j)
   exact ⟨_, _, .slice (some ⟨H.next, 0, some 1⟩) 0 0, k1, ρ.atJ_ext H.next b off j, k3, val_slJ, blt_of (Nat.lt_succ_self _), hlen, _, _, rfl, .inl rfl⟩
 ·obtain rfl : sp = none := by
   rcases hspot with h | h
   ·exact h
   ·exact absurd h.1 hz
  obtain ⟨c, e, fz, hb, hc⟩ := hcell.resolve_left hz
  obtain ⟨k1, k2, k3⟩ := R.add hb hc hs (h0.resolve_left hz)
  exact ⟨_, _, .slice (some ⟨H.next, 0, some 0⟩) len cap, k1, k2, k3, val_sl, blt_of (Nat.lt_succ_self _), hlen, _, _, rfl, .inr ⟨H.next, e, rfl, Nat.lt_succ_self _, roH_rk⟩⟩
variable {K : Type} {enc : TypeId × Value → K} {spare : Nat → Bool} {held : Bool} {fuel : Nat}
theorem sl_spot {t e : TypeId} {sz len cap : Nat} {a : Addr} {x : DataW K × List MemPlace} (hsp : ∀ b, spare b = true) (ht : P.underlying t = some (.slice e)) (hsz : szOf P e = some (sz + 1)) (h : DataW.trod enc P w 0 spare held fuel t [.slice (some a) len cap] = some x) : a.spot = none ∨ len = 0 ∧ cap = 0 := by
 have none_at : ∀ y, (w.cells? 0 (a.add 0) (sz + 1)).bind y = (none : Option (DataW K × List MemPlace)) ∨ a.spot = none := fun y => by
  cases hs : a.spot with
  | none => exact .inr rfl
  | some j =>
   left
   cases hc : w.cells? 0 (a.add 0) (sz + 1) with
   | none => rfl
   | some cs =>
    unfold World.cells? at hc
    rw [if_pos (Nat.zero_le _)] at hc
    obtain ⟨v, hv⟩ := Go.Ax.mapM_each hc 0 (by simp)
    simp only [Addr.add, if_true, World.cell?, hs, Option.isSome_some] at hv
    split at hv <;> cases hv
 rcases DataW.trod_slice ht h with ⟨h1, _⟩ | ⟨a', len', cap', elems, rest, n, _, h1, _, _, hle, _, hel, hcells, hrest, _⟩
 ·simp at h1
 ·simp only [List.cons.injEq, Value.slice.injEq, Option.some.injEq, and_true] at h1
  obtain ⟨rfl, rfl, rfl⟩ := h1
  rw [cellsOf_szOf hsz] at hcells hrest
  rcases Nat.eq_zero_or_pos len with h0 | h0
  ·subst h0
   rcases Nat.eq_zero_or_pos cap with hc | hc
   ·exact .inr ⟨rfl, hc⟩
   ·obtain ⟨hl, hr⟩ := hrest (hsp _)
    have := hr 0 (by omega)
    rw [Nat.zero_add, Nat.zero_mul] at this
    rcases none_at (DataW.trod enc P w 0 spare held n e) with h2 | h2
    ·rw [h2, List.getElem?_eq_getElem (by omega)] at this
     cases this
    ·exact .inl h2
  ·have := hcells 0 h0
   rw [Nat.zero_mul] at this
   rcases none_at (DataW.trod enc P w 0 spare held n e) with h2 | h2
   ·rw [h2, List.getElem?_eq_getElem (by omega)] at this
    cases this
   ·exact .inl h2
theorem sl_cells {t e : TypeId} {sz b off len cap : Nat} {x : DataW K × List MemPlace} (ht : P.underlying t = some (.slice e)) (hsz : szOf P e = some sz) (h : DataW.trod enc P w 0 spare held fuel t [.slice (some ⟨b, off, none⟩) len cap] = some x) :
  ∃ (vs : List Value) (n : Nat), vs.length = len * sz ∧ (len * sz = 0 ∨ ∃ c e' fz, w.heap[b]? = some (.cells c e' fz) ∧ ∀ i, i < vs.length → c[off + i]? = some (vs.getD i undef)) ∧
   ∀ i, i < len → ∃ y, DataW.trod enc P w 0 spare held n e ((vs.drop (i * sz)).take sz) = some y := by
 rcases DataW.trod_slice ht h with ⟨h1, _⟩ | ⟨a, len', cap', elems, rest, n, _, h1, _, _, _, _, hel, hcells, _, _⟩
 ·simp at h1
 ·simp only [List.cons.injEq, Value.slice.injEq, Option.some.injEq, and_true] at h1
  obtain ⟨rfl, rfl, rfl⟩ := h1
  rw [cellsOf_szOf hsz] at hcells
  have each : ∀ i, i < len → ∃ cs y, w.cells? 0 ((⟨b, off, none⟩ : Addr).add (i * sz)) sz = some cs ∧ DataW.trod enc P w 0 spare held n e cs = some y := fun i hi => by
   have := hcells i hi
   rw [List.getElem?_eq_getElem (by omega)] at this
   obtain ⟨cs, h1, h2⟩ := Option.bind_eq_some_iff.1 this
   exact ⟨cs, _, h1, h2⟩
  by_cases h0 : len * sz = 0
  ·refine ⟨[], n, by simp [h0], .inl h0, fun i hi => ?_⟩
   obtain ⟨cs, y, h1, h2⟩ := each i hi
   have hsz0 : sz = 0 := by
    rcases Nat.eq_zero_or_pos sz with h | h
    ·exact h
    ·have := Nat.mul_pos (show 0 < len by omega) h; omega
   subst hsz0
   unfold World.cells? at h1
   rw [if_pos (Nat.zero_le _)] at h1
   simp at h1
   subst h1
   exact ⟨y, by simpa using h2⟩
  ·have hp : 0 < sz := Nat.pos_of_ne_zero fun h => h0 (by rw [h, Nat.mul_zero])
   have cell : ∀ i, i < len * sz → ∃ v, w.cell? ⟨b, off + i, none⟩ = some v := fun i hi => by
    have hq : i / sz < len := (Nat.div_lt_iff_lt_mul hp).2 hi
    obtain ⟨cs, y, hcs, _⟩ := each _ hq
    unfold World.cells? at hcs
    rw [if_pos (Nat.zero_le _)] at hcs
    obtain ⟨v, hv⟩ := mapM_each hcs (i % sz) (by simpa using Nat.mod_lt _ hp)
    rw [addr_add, addr_add] at hv
    have : off + i / sz * sz + i % sz = off + i := by rw [Nat.add_assoc, Nat.mul_comm, Nat.div_add_mod]
    rw [this] at hv
    exact ⟨v, hv⟩
   obtain ⟨v0, hv0⟩ := cell 0 (by omega)
   unfold World.cell? at hv0
   cases hb : w.heap[b]? with
   | none => simp [hb] at hv0
   | some o =>
    cases o with
    | cells c e' fz =>
     have cell' : ∀ i, i < len * sz → ∃ v, c[off + i]? = some v := fun i hi => by
      obtain ⟨v, hv⟩ := cell i hi
      simp only [World.cell?, hb] at hv
      exact ⟨v, by simpa using hv⟩
     obtain ⟨vs, hvs⟩ : ∃ vs : List Value, vs = (List.range (len * sz)).map fun i => (c[off + i]?).getD undef := ⟨_, rfl⟩
     have hvl : vs.length = len * sz := by simp [hvs]
     have hvg : ∀ i, i < vs.length → c[off + i]? = some (vs.getD i undef) := fun i hi => by
      rw [hvl] at hi
      obtain ⟨v, hv⟩ := cell' i hi
      simp [hvs, hi, hv, List.getD_eq_getElem?_getD]
     refine ⟨vs, n, hvl, .inr ⟨c, e', fz, rfl, hvg⟩, fun i hi => ?_⟩
     obtain ⟨cs, y, hcs, hy⟩ := each i hi
     have hcs' : (vs.drop (i * sz)).take sz = cs := by
      unfold World.cells? at hcs
      rw [if_pos (Nat.zero_le _)] at hcs
      have hin : i * sz + sz ≤ len * sz := by rw [← Nat.succ_mul]; exact Nat.mul_le_mul_right _ hi
      have hr := mapM_range_of (f := fun j => w.cell? (((⟨b, off, none⟩ : Addr).add (i * sz)).add j)) (g := fun j => vs.getD (i * sz + j) undef) sz (fun j hj => by
       have h3 := hvg (i * sz + j) (by rw [hvl]; omega)
       rw [addr_add, addr_add, Nat.add_assoc]
       simp [World.cell?, hb, h3])
      rw [hr] at hcs
      cases hcs
      apply List.ext_getElem?
      intro j
      by_cases hj : j < sz
      ·rw [List.getElem?_take, if_pos hj, List.getElem?_drop, List.getElem?_map, List.getElem?_range hj, List.getElem?_eq_getElem (by rw [hvl]; omega)]
       simp only [oZ5, List.getD_eq_getElem?_getD]
       rw [List.getElem?_eq_getElem (by rw [hvl]; omega)]
       rfl
      ·rw [List.getElem?_eq_none (by simp; omega), List.getElem?_eq_none (by simp; omega)]
     rw [hcs']
     exact ⟨y, hy⟩
    | _ => simp [hb] at hv0
end
end Go.Ax
/- Arguments that hold rows of structs of numbers, truth values and strings: what the abstract heap holds. -/
namespace Go.Ax
open Go.ChangeShapes
section
variable {P : Program} {ρ : Ren} {H : AHeap} {w : World}
variable {K : Type} {enc : TypeId × Value → K} {spare : Nat → Bool} {held : Bool}
theorem fit1_af {t : TypeId} {v : Value} (h : fit1 P t v = true) : af v = true := by
 unfold fit1 at h
 split at h <;> first | rfl | cases h
theorem fits_afm : ∀ {ts : List TypeId} {cs : List Value}, fits P ts cs = true → ∀ v ∈ cs, af v = true
 | [], [], _, v, hv => by cases hv
 | t :: ts, c :: cs, h, v, hv => by
  simp only [fits, Bool.and_eq_true] at h
  rcases List.mem_cons.1 hv with rfl | hv
  ·exact fit1_af h.1
  ·exact fits_afm h.2 v hv
 | [], _ :: _, h, _, _ => by cases h
 | _ :: _, [], h, _, _ => by cases h
def nu8 (P : Program) (t : TypeId) : Bool :=
 match P.underlying t with
 | some (.int .u8) => false
 | _ => true
theorem nu8_val {t : TypeId} {v : Value} (hn : nu8 P t = true) (h : fit1 P t v = true) : isU8 v = false := by
 unfold isU8
 split
 ·unfold fit1 at h
  unfold nu8 at hn
  split at h
  ·rename_i hv; cases hv
  ·rename_i k k' n hu hv
   cases hv
   have : k = .u8 := by simpa using h
   subst this
   rw [hu] at hn
   cases hn
  ·rename_i hv; cases hv
  ·cases h
 ·rfl
def chunkd (P : Program) (ts : List TypeId) (vs : List Value) (len : Nat) : Prop := ∀ i, i < len → fits P ts ((vs.drop (i * ts.length)).take ts.length) = true
theorem chunkd_af {ts : List TypeId} {vs : List Value} {len : Nat} (hl : vs.length = len * ts.length) (h : chunkd P ts vs len) : ∀ v ∈ vs, af v = true := by
 intro v hv
 rw [cut_flat len vs hl] at hv
 obtain ⟨l, hl2, hv⟩ := List.mem_flatten.1 hv
 obtain ⟨i, hi, rfl⟩ := List.mem_map.1 hl2
 exact fits_afm (h i (List.mem_range.1 hi)) v hv
theorem map_val_af {vs : List Value} (h : ∀ v ∈ vs, af v = true) (i : Nat) (hi : i < vs.length) : ρ.val (vs.getD i undef) = vs.getD i undef :=
 val_af ρ _ (h _ (by simp [List.getD, hi]))
theorem Ro.slF (R : Ro P ρ H w) {t e t0 : TypeId} {ts : List TypeId} {D fuel : Nat} {v : Value} {x : DataW K × List MemPlace} (ht : P.underlying t = some (.slice e)) (hsz : szOf P e = some (t0 :: ts).length) (hfl : flat P D e = some (t0 :: ts)) (hu : nu8 P t0 = true)
  (hall : ∀ b, spare b = true) (h : DataW.trod enc P w 0 spare held fuel t [v] = some x) :
  ∃ ρ1 H1 u vs len, Ro P ρ1 H1 w ∧ Ext H.next ρ ρ1 ∧ Gro H H1 ∧ ρ1.val u = v ∧ scb H1.next u = true ∧ SlAt H1 (t0 :: ts).length u vs len ∧ chunkd P (t0 :: ts) vs len := by
 rcases DataW.trod_slice ht h with ⟨h1, _⟩ | ⟨a, len, cap, _, _, _, _, h1, _⟩
 ·simp only [List.cons.injEq, and_true] at h1
  subst h1
  exact ⟨ρ, H, .slice none 0 0, [], 0, R, Ext.refl _ _, Gro.refl, by rw [Ren.val], rfl, ⟨by simp, none, 0, rfl, .inl rfl⟩, fun i hi => absurd hi (by omega)⟩
 ·simp only [List.cons.injEq, and_true] at h1
  subst h1
  have hs0 := sl_spot hall ht hsz h
  obtain ⟨b, off, s⟩ := a
  simp only at hs0
  rcases hs0 with hs0 | ⟨rfl, rfl⟩
  case inr =>
   obtain ⟨ρ1, H1, u, q1, q2, q3, q4, q5, q6⟩ := R.sl (sz := (t0 :: ts).length) (len := 0) (cap := 0) (b := b) (off := off) (sp := s) (vs := []) (.inr ⟨rfl, rfl⟩) (by simp) (.inl rfl) rfl (.inl rfl)
   exact ⟨ρ1, H1, u, [], 0, q1, q2, q3, q4, q5, q6, fun i hi => absurd hi (by omega)⟩
  subst hs0
  obtain ⟨vs, n, k1, k2, k3⟩ := sl_cells ht hsz h
  have hch : chunkd P (t0 :: ts) vs len := fun i hi => by
   obtain ⟨y, hy⟩ := k3 i hi
   exact trod_fits n D e (t0 :: ts) _ y hfl hsz hy
  have haf := chunkd_af k1 hch
  have hsc : scbL H.next vs = true := scbL_of_af _ (afL_of haf)
  have h0 : len = 0 ∨ ∃ i, i < vs.length ∧ isU8 (ρ.val (vs.getD i undef)) = false := by
   rcases Nat.eq_zero_or_pos len with h | h
   ·exact .inl h
   ·right
    have hp : 0 < vs.length := by rw [k1]; exact Nat.mul_pos h (by simp)
    refine ⟨0, hp, ?_⟩
    rw [map_val_af haf 0 hp]
    have hc := hch 0 h
    rw [Nat.zero_mul, List.drop_zero] at hc
    cases vs with
    | nil => simp at hp
    | cons y ys =>
     simp only [List.length_cons, List.take_succ_cons, fits, Bool.and_eq_true] at hc
     exact nu8_val hu hc.1
  have hcell : len = 0 ∨ ∃ c e fz, w.heap[b]? = some (.cells c e fz) ∧ ∀ i, i < vs.length → c[off + i]? = some (ρ.val (vs.getD i undef)) := by
   rcases k2 with h | ⟨c, e', fz, h1, h2⟩
   ·left
    exact (Nat.mul_eq_zero.1 h).resolve_right (by simp)
   ·exact .inr ⟨c, e', fz, h1, fun i hi => by rw [map_val_af haf i hi]; exact h2 i hi⟩
  obtain ⟨ρ1, H1, u, q1, q2, q3, q4, q5, q6⟩ := R.sl (cap := cap) (.inl rfl) k1 hcell hsc h0
  exact ⟨ρ1, H1, u, vs, len, q1, q2, q3, q4, q5, q6, hch⟩
theorem Ro.rows {t e t0 : TypeId} {ts : List TypeId} {D : Nat} (ht : P.underlying t = some (.slice e)) (hsz : szOf P e = some (t0 :: ts).length) (hfl : flat P D e = some (t0 :: ts)) (hu : nu8 P t0 = true) (hall : ∀ b, spare b = true) :
  ∀ (hs : List Value) {ρ : Ren} {H : AHeap}, (∀ v ∈ hs, ∃ (n : Nat) (x : DataW K × List MemPlace), DataW.trod enc P w 0 spare held n t [v] = some x) → Ro P ρ H w →
   ∃ ρ1 H1 us, Ro P ρ1 H1 w ∧ Ext H.next ρ ρ1 ∧ Gro H H1 ∧ us.map ρ1.val = hs ∧ scbL H1.next us = true ∧ ∀ u ∈ us, ∃ vs len, SlAt H1 (t0 :: ts).length u vs len ∧ chunkd P (t0 :: ts) vs len
 | [], ρ, H, _, R => ⟨ρ, H, [], R, Ext.refl _ _, Gro.refl, rfl, rfl, fun u hu => by cases hu⟩
 | v :: hs, ρ, H, hh, R => by
  obtain ⟨n, x, hx⟩ := hh v (by simp)
  obtain ⟨ρ1, H1, u, vs, len, a1, a2, a3, a4, a5, a6, a7⟩ := R.slF ht hsz hfl hu hall hx
  obtain ⟨ρ2, H2, us, b1, b2, b3, b4, b5, b6⟩ := Ro.rows ht hsz hfl hu hall hs (fun v hv => hh v (by simp [hv])) a1
  refine ⟨ρ2, H2, u :: us, b1, a2.trans b2 a3.next, a3.trans b3, ?_, ?_, ?_⟩
  ·rw [List.map_cons, b4, val_ext b2 u a5, a4]
  ·simp only [scbL, scb_mono b3.next u a5, b5, Bool.and_self]
  ·intro y hy
   rcases List.mem_cons.1 hy with rfl | hy
   ·exact ⟨vs, len, a6.gro b3, a7⟩
   ·exact b6 y hy
theorem trod_nu8 {t e : TypeId} {n : Nat} {v : Value} {x : DataW K × List MemPlace} (ht : P.underlying t = some (.slice e)) (h : DataW.trod enc P w 0 spare held n t [v] = some x) : isU8 v = false := by
 rcases DataW.trod_slice ht h with ⟨h1, _⟩ | ⟨a, len, cap, _, _, _, _, h1, _⟩
 ·simp only [List.cons.injEq, and_true] at h1
  subst h1
  rfl
 ·simp only [List.cons.injEq, and_true] at h1
  subst h1
  rfl
theorem Ro.grid (R : Ro P ρ H w) {t2 t e t0 : TypeId} {ts : List TypeId} {D fuel : Nat} {v : Value} {x : DataW K × List MemPlace} (ht2 : P.underlying t2 = some (.slice t)) (hs1 : szOf P t = some 1) (ht : P.underlying t = some (.slice e)) (hsz : szOf P e = some (t0 :: ts).length) (hfl : flat P D e = some (t0 :: ts)) (hu : nu8 P t0 = true)
  (hall : ∀ b, spare b = true) (h : DataW.trod enc P w 0 spare held fuel t2 [v] = some x) :
  ∃ ρ1 H1 u us, Ro P ρ1 H1 w ∧ Ext H.next ρ ρ1 ∧ Gro H H1 ∧ ρ1.val u = v ∧ scb H1.next u = true ∧ SlAt H1 1 u us us.length ∧ ∀ y ∈ us, ∃ vs len, SlAt H1 (t0 :: ts).length y vs len ∧ chunkd P (t0 :: ts) vs len := by
 rcases DataW.trod_slice ht2 h with ⟨h1, _⟩ | ⟨a, len, cap, _, _, _, _, h1, _⟩
 ·simp only [List.cons.injEq, and_true] at h1
  subst h1
  exact ⟨ρ, H, .slice none 0 0, [], R, Ext.refl _ _, Gro.refl, by rw [Ren.val], rfl, ⟨by simp, none, 0, rfl, .inl rfl⟩, fun y hy => by cases hy⟩
 ·simp only [List.cons.injEq, and_true] at h1
  subst h1
  have hs0 := sl_spot hall ht2 hs1 h
  obtain ⟨b, off, s⟩ := a
  simp only at hs0
  rcases hs0 with hs0 | ⟨rfl, rfl⟩
  case inr =>
   obtain ⟨ρ1, H1, u, q1, q2, q3, q4, q5, q6⟩ := R.sl (sz := 1) (len := 0) (cap := 0) (b := b) (off := off) (sp := s) (vs := []) (.inr ⟨rfl, rfl⟩) (by simp) (.inl rfl) rfl (.inl rfl)
   exact ⟨ρ1, H1, u, [], q1, q2, q3, q4, q5, q6, fun y hy => by cases hy⟩
  subst hs0
  obtain ⟨vs, n, k1, k2, k3⟩ := sl_cells ht2 hs1 h
  rw [Nat.mul_one] at k1
  have hmem : ∀ v ∈ vs, ∃ (n : Nat) (x : DataW K × List MemPlace), DataW.trod enc P w 0 spare held n t [v] = some x := fun v hv => by
   obtain ⟨i, hi, rfl⟩ := List.getElem_of_mem hv
   obtain ⟨y, hy⟩ := k3 i (by omega)
   have e1 : (vs.drop (i * 1)).take 1 = [vs[i]] := by
    rw [Nat.mul_one, List.drop_eq_getElem_cons hi]
    rfl
   rw [e1] at hy
   exact ⟨n, y, hy⟩
  obtain ⟨ρ1, H1, us, b1, b2, b3, b4, b5, b6⟩ := Ro.rows ht hsz hfl hu hall vs hmem R
  have hlen : us.length = vs.length := by rw [← b4, List.length_map]
  have hval : ∀ i, i < us.length → ρ1.val (us.getD i undef) = vs.getD i undef := fun i hi => by
   rw [← b4]
   simp [List.getD, hi]
  have hcell : len = 0 ∨ ∃ c e fz, w.heap[b]? = some (.cells c e fz) ∧ ∀ i, i < us.length → c[off + i]? = some (ρ1.val (us.getD i undef)) := by
   rcases k2 with h | ⟨c, e', fz, h1, h2⟩
   ·exact .inl (by omega)
   ·exact .inr ⟨c, e', fz, h1, fun i hi => by rw [hval i hi]; exact h2 i (by omega)⟩
  have h0 : len = 0 ∨ ∃ i, i < us.length ∧ isU8 (ρ1.val (us.getD i undef)) = false := by
   rcases Nat.eq_zero_or_pos len with h | h
   ·exact .inl h
   ·refine .inr ⟨0, by omega, ?_⟩
    rw [hval 0 (by omega)]
    have hv : vs.getD 0 undef ∈ vs := by
     have h0 : 0 < vs.length := by omega
     simp [List.getD, h0]
    obtain ⟨n, y, hy⟩ := hmem _ hv
    exact trod_nu8 ht hy
  obtain ⟨ρ2, H2, u, q1, q2, q3, q4, q5, q6⟩ := b1.sl (sp := none) (.inl rfl) (sz := 1) (vs := us) (len := len) (cap := cap) (b := b) (off := off) (by omega) hcell b5 h0
  refine ⟨ρ2, H2, u, us, q1, b2.trans q2 b3.next, b3.trans q3, q4, q5, ?_, fun y hy => ?_⟩
  ·rw [show us.length = len by omega]; exact q6
  ·obtain ⟨vs', l', j1, j2⟩ := b6 y hy
   exact ⟨vs', l', j1.gro q3, j2⟩
end
end Go.Ax
/- Structs in readable arguments; rows of cells as lists of what they stand for. -/
namespace Go.Ax
open Go.ChangeShapes
section
variable {P : Program} {ρ : Ren} {H : AHeap} {w : World}
variable {K : Type} {enc : TypeId × Value → K} {spare : Nat → Bool} {held : Bool}
def flds (P : Program) (t : TypeId) : Option (List (TypeId × Nat)) :=
 match P.underlying t with
 | some (.struct fs) => some (fs.toList.map fun f => (f.type, f.offset))
 | _ => none
theorem trod_flds {t : TypeId} {l : List (TypeId × Nat)} {fuel base : Nat} {cs : List Value} {x : DataW K × List MemPlace} (h : flds P t = some l) (hx : DataW.trod enc P w base spare held fuel t cs = some x) :
  cs.length = P.cellsOf t ∧ ∃ n : Nat, ∀ (i : Nat) (ty : TypeId) (off : Nat), l[i]? = some (ty, off) → ∃ y, DataW.trod enc P w base spare held n ty ((cs.drop off).take (P.cellsOf ty)) = some y := by
 unfold flds at h
 split at h
 ·rename_i fs hu
  simp only [Option.some.injEq] at h
  subst h
  obtain ⟨xs, n, _, _, hl, hxs, hf⟩ := DataW.trod_struct hu hx
  refine ⟨hl, n, fun i ty off hi => ?_⟩
  rw [List.getElem?_map, oZ4] at hi
  obtain ⟨f, hfi, he⟩ := hi
  simp only [Prod.mk.injEq] at he
  obtain ⟨rfl, rfl⟩ := he
  have hfi' : fs[i]? = some f := by simpa using hfi
  have hlt : i < fs.size := (Array.getElem?_eq_some_iff.1 hfi').1
  have := hf i f hfi'
  rw [List.getElem?_eq_getElem (by omega)] at this
  exact ⟨_, this⟩
 ·cases h
theorem chunk_of {α : Type} {ts : List TypeId} {f : α → List Value} (hf : ∀ cs, fits P ts cs = true → ∃ a, cs = f a) : ∀ (len : Nat) (vs : List Value), vs.length = len * ts.length → chunkd P ts vs len → ∃ l : List α, l.length = len ∧ vs = l.flatMap f
 | 0, vs, hl, _ => ⟨[], rfl, by simpa using hl⟩
 | len + 1, vs, hl, h => by
  have h0 := h 0 (by omega)
  rw [Nat.zero_mul, List.drop_zero] at h0
  obtain ⟨a, ha⟩ := hf _ h0
  have hlen : ts.length ≤ vs.length := by rw [hl, Nat.succ_mul]; omega
  obtain ⟨l, h1, h2⟩ := chunk_of hf len (vs.drop ts.length) (by rw [List.length_drop, hl, Nat.succ_mul]; omega) (fun i hi => by
   have := h (i + 1) (by omega)
   rw [List.drop_drop]
   rw [Nat.succ_mul, Nat.add_comm] at this
   exact this)
  refine ⟨a :: l, by simp [h1], ?_⟩
  rw [List.flatMap_cons, ← h2, ← ha, List.take_append_drop]
theorem Rel.rk_sc (r : Rel P ρ H w) {n : Nat} {b : Bl} (h : rk H n = some b) : scbL H.next b.l = true := by
 rw [rk_eq] at h
 unfold cellsR at h
 split at h
 ·rename_i a e q o v hg
  simp only [oZ5, Option.some.injEq] at h
  subst h
  have := (r.dom _ _ hg).2
  simp only [sco] at this
  exact gets_sc this (by omega)
 ·cases h
end
end Go.Ax
/- From what a walk shows to the given statements: screens and operations as arguments, beside the two listed tables. -/
namespace Go.Proofs.YtaojjfebkldmnaaDoor
open Go.ChangeShapes Go.WideShapes Go.ChangeAt Go.RowKit Go.Ax
theorem trodAll_carry {K : Type} {enc : TypeId × Value → K} {P : Program} (hl : laidOutB P = true) {W W' : World} (hb : Below W.heap.size W W') : ∀ {ts : List TypeId} {vs : List Value} {ds : List (DataW K)} {ps : List MemPlace},
  (ts.all fun t => P.readableRec t && Nat.blt t P.types.size) = true → DataW.TrodAll enc P W 0 (fun _ => true) true ts vs ds ps → (∀ x ∈ ps, x.block < W.heap.size) → DataW.TrodAll enc P W' 0 (fun b => decide (b < W.heap.size)) true ts vs ds ps
 | [], [], [], ps, _, h, _ => h
 | t :: ts, v :: vs, d :: ds, ps, ht, h, hp => by
  obtain ⟨p, q, h1, h2, rfl⟩ := h
  simp only [List.all_cons, Bool.and_eq_true] at ht
  exact ⟨p, q, Below.trod hl ht.1.1 (blt_lt ht.1.2) h1 hb (fun x hx => hp x (by simp [hx])), trodAll_carry hl hb (by simpa using ht.2) h2 (fun x hx => hp x (by simp [hx])), rfl⟩
theorem Tryd.own : ownKnob Tryd.prog.godebug = none := by kernel_rfl
theorem Tryd.laidOut : laidOutB Tryd.prog = true := by kernel_rfl
theorem la_u3 : Tryd.prog.underlying 3 = some (.int .i64) := by kernel_rfl
theorem la_u4 : Tryd.prog.underlying 4 = some .bool := by kernel_rfl
theorem la_u9 : Tryd.prog.underlying 9 = some .string := by kernel_rfl
theorem la_f24 : flds Tryd.prog 24 = some [(22, 0), (3, 1), (3, 2)] := by kernel_rfl
theorem RowAt.gro {H G : AHeap} {v : Value} {l : List Ce} (h : RowAt H v l) (y : Gro H G) : RowAt G v l := by
 rcases h with ⟨rfl, a, c, rfl⟩ | ⟨hl, n, off, s, c, e, o, L, rfl, hb, hlt, hle, ht⟩
 ·exact .inl ⟨rfl, a, c, rfl⟩
 ·exact .inr ⟨hl, n, off, s, c, e, o, L, rfl, (rk_get (y.get n hlt)).trans hb, Nat.lt_of_lt_of_le hlt y.next, hle, ht⟩
theorem GridAt.gro {H G : AHeap} {v : Value} {g : List (List Ce)} (h : GridAt H v g) (y : Gro H G) : GridAt G v g := by
 rcases h with ⟨rfl, a, c, rfl⟩ | ⟨hl, n, off, s, c, e, o, L, rfl, hb, hlt, hle, ht⟩
 ·exact .inl ⟨rfl, a, c, rfl⟩
 ·exact .inr ⟨hl, n, off, s, c, e, o, L, rfl, (rk_get (y.get n hlt)).trans hb, Nat.lt_of_lt_of_le hlt y.next, hle, fun k row hk => by
   obtain ⟨rv, h1, h2⟩ := ht k row hk
   exact ⟨rv, h1, h2.gro y⟩⟩
def Laid (w : World) (e1 e2 : TypeId) : Prop := (∃ c, w.heap[0]? = some (.cells c e1 (0, 0)) ∧ c.toList = dc fstD) ∧ ∃ c, w.heap[1]? = some (.cells c e2 (0, 0)) ∧ c.toList = dc accD
theorem tabs_laid {w : World} (h : laidMet Tryd.prog Rows.diffApplyRow.laid w) : ∃ e1 e2, Laid w e1 e2 := by
 obtain ⟨c1, t1, a1, b1⟩ := laid_tab h (name := "unicode/utf8.first") (d := fstD) (.tail _ (.head _)) (g := 0) (t := 142) (e := 5) (ts := [5]) (D := 1000) (n := 256) (by kernel_rfl) (by kernel_rfl) (by kernel_rfl) (by kernel_rfl) (by kernel_rfl) (by kernel_rfl) (by kernel_rfl) (blt_lt (by kernel_rfl))
 obtain ⟨c2, t2, a2, b2⟩ := laid_tab h (name := "unicode/utf8.acceptRanges") (d := accD) (.head _) (g := 1) (t := 145) (e := 144) (ts := [5, 5]) (D := 1000) (n := 16) (by kernel_rfl) (by kernel_rfl) (by kernel_rfl) (by kernel_rfl) (by kernel_rfl) (by kernel_rfl) (by kernel_rfl) (blt_lt (by kernel_rfl))
 exact ⟨t1, t2, ⟨c1, a1, b1⟩, c2, a2, b2⟩
theorem bk_put_eq {H : AHeap} {g : Nat} {e : TypeId} {vs : List Value} : bk (H.put g (some (tabO e vs))) g = some ⟨e, false, vs⟩ := by
 refine blk_bk ⟨RV.ofList vs, ?_, RV.n_ofList _, fun i hi => ?_⟩
 ·simp only [cellsAt, AHeap.get_put, if_true, tabO]
 ·rw [RV.get_ofList]
theorem Laid.ro {W : World} {e1 e2 : TypeId} (hl : Laid W e1 e2) : ∃ ρ H, Ro Tryd.prog ρ H W ∧ Tab H ∧ 1 < H.next := by
 have h2 : 2 ≤ Tryd.prog.globals.size := Nat.le_of_ble_eq_true (by kernel_rfl)
 obtain ⟨N, hN⟩ : ∃ N, Tryd.prog.globals.size = N := ⟨_, rfl⟩
 rw [hN] at h2
 have r : Rel Tryd.prog (enR N 0 0) (AHeap.none (N + 1)) W := ⟨Nat.le_refl _, ⟨by rw [hN]; exact Nat.le_succ N, fun g hg => by
   have : g ≠ N := by omega
   exact ⟨if_neg this, if_neg this⟩⟩, fun m _ hm => absurd (none_get _ m) hm, fun n o ho => (by rw [none_get] at ho; cases ho), fun n o ho => (by rw [none_get] at ho; cases ho)⟩
 obtain ⟨⟨c1, a1, b1⟩, c2, a2, b2⟩ := hl
 have r1 := rel_tab r (g := 0) (by omega) rfl (fun n h1 h2 => absurd (none_get _ n) h1) a1 b1 (by kernel_rfl)
 have r2 := rel_tab r1 (g := 1) (by omega) rfl (fun n h1 h3 => by
  rw [AHeap.get_put] at h1
  by_cases e : n = 0
  ·subst e
   rw [show (enR N 0 0).blk 0 = 0 from if_neg (by omega)] at h3
   exact absurd h3 (by decide)
  ·rw [if_neg e] at h1; exact absurd (none_get _ n) h1) a2 b2 (by kernel_rfl)
 refine ⟨_, _, ⟨r2, rfl, rfl, fun n hn => .inr ?_⟩, ⟨e1, e2, ?_, bk_put_eq⟩, by show 1 < N + 1; omega⟩
 ·rw [AHeap.get_put, AHeap.get_put] at hn
  by_cases h1 : n = 1
  ·subst h1
   refine ⟨by omega, c2, e2, a2, fun v hv => ?_⟩
   rw [b2] at hv
   exact List.all_eq_true.1 (show (dc accD).all isU8 = true by kernel_rfl) v hv
  ·rw [if_neg h1] at hn
   by_cases h0 : n = 0
   ·subst h0
    refine ⟨by omega, c1, e1, a1, fun v hv => ?_⟩
    rw [b1] at hv
    exact List.all_eq_true.1 (show (dc fstD).all isU8 = true by kernel_rfl) v hv
   ·rw [if_neg h0] at hn
    exact absurd (none_get _ n) hn
 ·rw [bk_get (G := (AHeap.none (N + 1)).put 0 (some (tabO e1 (dc fstD)))) (by rw [AHeap.get_put, if_neg (by decide)])]
  exact bk_put_eq
theorem ce_of : ∀ cs, fits Tryd.prog [3, 3, 3, 4, 4, 4] cs = true → ∃ c : Ce, cs = c.cells := fun cs h => by
 have hl := fits_length h
 match cs, hl, h with
 | [a, b, c, d, e, f], _, h =>
  simp only [fits, Bool.and_eq_true, Bool.and_true] at h
  obtain ⟨h1, h2, h3, h4, h5, h6⟩ := h
  unfold fit1 at h1 h2 h3 h4 h5 h6
  rw [la_u3] at h1 h2 h3
  rw [la_u4] at h4 h5 h6
  cases a <;> simp at h1
  cases b <;> simp at h2
  cases c <;> simp at h3
  cases d <;> simp at h4
  cases e <;> simp at h5
  cases f <;> simp at h6
  subst h1 h2 h3
  exact ⟨⟨_, _, _, _, _, _⟩, rfl⟩
theorem op_of : ∀ cs, fits Tryd.prog [3, 3, 3, 3, 3, 3, 4, 4, 4, 9] cs = true → ∃ c : Op, cs = c.cells := fun cs h => by
 have hl := fits_length h
 match cs, hl, h with
 | [a, b, c, d, e, f, g, h0, i, j], _, h =>
  simp only [fits, Bool.and_eq_true, Bool.and_true] at h
  obtain ⟨h1, h2, h3, h4, h5, h6, h7, h8, h9, h10⟩ := h
  unfold fit1 at h1 h2 h3 h4 h5 h6 h7 h8 h9 h10
  rw [la_u3] at h1 h2 h3 h4 h5 h6
  rw [la_u4] at h7 h8 h9
  rw [la_u9] at h10
  cases a <;> simp at h1
  cases b <;> simp at h2
  cases c <;> simp at h3
  cases d <;> simp at h4
  cases e <;> simp at h5
  cases f <;> simp at h6
  cases g <;> simp at h7
  cases h0 <;> simp at h8
  cases i <;> simp at h9
  cases j <;> simp at h10
  subst h1 h2 h3 h4 h5 h6
  exact ⟨⟨_, _, _, _, ⟨_, _, _, _, _⟩, _⟩, rfl⟩
theorem slAt_row {H : AHeap} {u : Value} {vs : List Value} {len : Nat} (h : SlAt H 6 u vs len) (hc : chunkd Tryd.prog [3, 3, 3, 4, 4, 4] vs len) : ∃ row, RowAt H u row := by
 obtain ⟨h1, a, cap, rfl, h3⟩ := h
 obtain ⟨l, hl, rfl⟩ := chunk_of ce_of len vs h1 hc
 by_cases h0 : l = []
 ·subst h0
  subst hl
  exact ⟨[], .inl ⟨rfl, a, cap, rfl⟩⟩
 ·have hne : len ≠ 0 := fun h => h0 (List.eq_nil_of_length_eq_zero (by omega))
  obtain ⟨n, e, rfl, h4, h5⟩ := h3.resolve_left hne
  refine ⟨l, .inr ⟨h0, n, 0, some 0, cap, e, true, _, by rw [hl], h5, h4, by rw [h1, hl]; omega, ?_⟩⟩
  rw [List.drop_zero, List.take_of_length_le (by rw [h1, hl]; exact Nat.le_refl _)]
  rfl
theorem rows_of {H : AHeap} : ∀ {us : List Value}, (∀ y ∈ us, ∃ row, RowAt H y row) → ∃ g : List (List Ce), g.length = us.length ∧ ∀ (k : Nat) row, g[k]? = some row → ∃ rv, us[k]? = some rv ∧ RowAt H rv row
 | [], _ => ⟨[], rfl, fun k row h => by simp at h⟩
 | u :: us, h => by
  obtain ⟨row, hr⟩ := h u (by simp)
  obtain ⟨g, h1, h2⟩ := rows_of (us := us) (fun y hy => h y (by simp [hy]))
  refine ⟨row :: g, by simp [h1], fun k r hk => ?_⟩
  cases k with
  | zero =>
   simp only [List.getElem?_cons_zero, Option.some.injEq] at hk
   subst hk
   exact ⟨u, rfl, hr⟩
  | succ k => exact h2 k r (by simpa using hk)
section
variable {K : Type} {enc : TypeId × Value → K} {held : Bool} {W : World} {ρ : Ren} {H : AHeap}
theorem ro_screen (R : Ro Tryd.prog ρ H W) {v : Value} {d : DataW K} {p : List MemPlace} (h : DataW.Trod enc Tryd.prog W 0 (fun _ => true) held 24 v d p) :
  ∃ ρ1 H1 u g r c, Ro Tryd.prog ρ1 H1 W ∧ Ext H.next ρ ρ1 ∧ Gro H H1 ∧ ρ1.val (.agg ⟨[u, .int .i64 r, .int .i64 c]⟩) = v ∧ scb H1.next u = true ∧ GridAt H1 u g ∧ GridSc H1 u := by
 obtain ⟨fuel, hf⟩ := h
 obtain ⟨hl, n, hs⟩ := trod_flds la_f24 hf
 rw [cellsOf_szOf (n := 3) (by kernel_rfl)] at hl
 have c22 : Tryd.prog.cellsOf 22 = 1 := cellsOf_szOf (by kernel_rfl)
 have c3 : Tryd.prog.cellsOf 3 = 1 := cellsOf_szOf (by kernel_rfl)
 cases v with
 | agg cs =>
  obtain ⟨cs⟩ := cs
  simp only [Value.cells] at hl hs
  match cs, hl, hs with
  | [a, b, c], _, hs =>
   obtain ⟨y0, h0⟩ := hs 0 22 0 rfl
   obtain ⟨y1, h1⟩ := hs 1 3 1 rfl
   obtain ⟨y2, h2⟩ := hs 2 3 2 rfl
   rw [c22] at h0
   rw [c3] at h1 h2
   obtain ⟨r, e1, _⟩ := DataW.trod_int la_u3 h1
   obtain ⟨q, e2, _⟩ := DataW.trod_int la_u3 h2
   simp only [List.drop_succ_cons, List.drop_zero, List.take_succ_cons, List.take_zero, List.cons.injEq, and_true] at e1 e2 h0
   subst e1 e2
   obtain ⟨ρ1, H1, u, us, k1, k2, k3, k4, k5, k6, k7⟩ := R.grid (t2 := 22) (t := 56) (e := 55) (t0 := 3) (ts := [3, 3, 4, 4, 4]) (D := 1000) (by kernel_rfl) (by kernel_rfl) (by kernel_rfl) (by kernel_rfl) (by kernel_rfl) (by kernel_rfl) (fun _ => rfl) h0
   obtain ⟨g, hg1, hg2⟩ := rows_of (H := H1) (us := us) (fun y hy => by
    obtain ⟨vs, len, j1, j2⟩ := k7 y hy
    exact slAt_row j1 j2)
   refine ⟨ρ1, H1, u, g, r, q, k1, k2, k3, ?_, k5, ?_, fun n off s len c b _ hb => k1.rel.rk_sc hb⟩
   ·simp [Ren.val, Ren.valA, Ren.valL, k4]
   ·obtain ⟨j1, a, cap, rfl, j3⟩ := k6
    by_cases h0 : g = []
    ·subst h0
     have : us.length = 0 := by simpa using hg1.symm
     rw [this]
     exact .inl ⟨rfl, a, cap, rfl⟩
    ·have hne : us.length ≠ 0 := fun h => h0 (List.eq_nil_of_length_eq_zero (by omega))
     obtain ⟨n, e, rfl, h4, h5⟩ := j3.resolve_left hne
     refine .inr ⟨h0, n, 0, some 0, cap, e, true, us, by rw [hg1], h5, h4, by rw [hg1]; omega, fun k row hk => ?_⟩
     rw [Nat.zero_add]
     exact hg2 k row hk
 | _ => simp [Value.cells] at hl
theorem ro_ops (R : Ro Tryd.prog ρ H W) {v : Value} {d : DataW K} {p : List MemPlace} (h : DataW.Trod enc Tryd.prog W 0 (fun _ => true) held 28 v d p) (hv : v.cells.toList = [v]) :
  ∃ ρ1 H1 u l, Ro Tryd.prog ρ1 H1 W ∧ Ext H.next ρ ρ1 ∧ Gro H H1 ∧ ρ1.val u = v ∧ scb H1.next u = true ∧ OpsAt H1 u l := by
 obtain ⟨fuel, hf⟩ := h
 rw [hv] at hf
 obtain ⟨ρ1, H1, u, vs, len, k1, k2, k3, k4, k5, k6, k7⟩ := R.slF (t := 28) (e := 47) (t0 := 3) (ts := [3, 3, 3, 3, 3, 4, 4, 4, 9]) (D := 1000) (by kernel_rfl) (by kernel_rfl) (by kernel_rfl) (by kernel_rfl) (fun _ => rfl) hf
 obtain ⟨h1, a, cap, rfl, h3⟩ := k6
 obtain ⟨l, hl, rfl⟩ := chunk_of op_of len vs h1 k7
 refine ⟨ρ1, H1, _, l, k1, k2, k3, k4, k5, ?_⟩
 by_cases h0 : l = []
 ·subst h0
  subst hl
  exact .inl ⟨rfl, a, cap, rfl⟩
 ·have hne : len ≠ 0 := fun h => h0 (List.eq_nil_of_length_eq_zero (by omega))
  obtain ⟨n, e, rfl, h4, h5⟩ := h3.resolve_left hne
  refine .inr ⟨h0, n, 0, some 0, cap, e, true, _, by rw [hl], h5, h4, by rw [h1, hl]; simp, ?_⟩
  rw [List.drop_zero, List.take_of_length_le (by rw [h1, hl]; simp)]
  rfl
end
end Go.Proofs.YtaojjfebkldmnaaDoor
