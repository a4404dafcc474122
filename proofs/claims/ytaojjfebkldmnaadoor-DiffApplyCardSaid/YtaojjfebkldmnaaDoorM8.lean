/- Parts of the proof, one behind the other. -/
import Derived.Test.YtaojjfebkldmnaaDoorM7
import Derived.Test.YtaojjfebkldmnaaDoorM4
set_option linter.all false
set_option maxRecDepth 10000
open Option renaming bind_eq_some_iff → oZ1, bind_eq_bind → oZ2, bind_some → oZ3, map_eq_some_iff → oZ4, map_some → oZ5

/- What Cost comes to, in the program and in the reference. -/
namespace Go.Proofs.YtaojjfebkldmnaaDoor
open Go.Ax
def costR : List Op → Int
 | [] => 0
 | x :: l => (if x.kind = 3 then lenR x.text.data.toList else 0) + costR l
theorem lenR_le (l : List UInt8) : 0 ≤ lenR l ∧ lenR l ≤ l.length := by
 unfold lenR
 cases h : ptsR l with
 | none => exact ⟨Int.le_refl _, by simp⟩
 | some r => exact ⟨by simp, by have := ptsR_len _ _ _ (Nat.le_refl _) h; simp only; omega⟩
set_option maxHeartbeats 1000000 in
theorem refCost_c (H : AHeap) (v : Value) (g : List Op) (hg : OpsAt H v g) (hgl : g.length ≤ 60) (hw : ∀ x ∈ g, x.text.size ≤ 200) : Pure 25 [v] H (.int .i64 (costR g)) := by
 obtain ⟨b, hb⟩ : ∃ b, H.next = b := ⟨_, rfl⟩
 obtain ⟨C, hC⟩ : ∃ C, costR g = C := ⟨_, rfl⟩
 rw [hC]
 obtain ⟨a0, c0, e0⟩ := hg.sl
 refine callS_fn mixed Tryd.func25 rfl Tryd.ntmps25 (Nat.le_of_ble_eq_true rfl) fun wf hsc => ?_
 rw [e0]
 simp (maxDischargeDepth := 6) only [ruW, putL, Nat.reduceLeDiff, xF, ruU, entryE, Nat.reduceLT, Nat.reduceAdd, Nat.reduceMul, Nat.reduceEqDiff]
 refine w_env fun E hE => ?_
 have g0 : E 0 = .slice a0 g.length c0 := by rw [hE]; simp only [ruU, entryE, Nat.reduceLT, Nat.reduceAdd, Nat.reduceMul, Nat.reduceEqDiff]
 have g3 : E 3 = .int .i64 (0 : Int) := by rw [hE]; (simp only [ruU, entryE, Nat.reduceLT, Nat.reduceAdd, Nat.reduceMul, Nat.reduceEqDiff] <;> rfl)
 have g4 : E 4 = .int .i64 ((0 : Nat) : Int) := by rw [hE]; (simp only [ruU, entryE, Nat.reduceLT, Nat.reduceAdd, Nat.reduceMul, Nat.reduceEqDiff] <;> rfl)
 clear hE
 refine blockC_meet (fun E' H' => H' = ext H [] ∧ E' 3 = .int .i64 C) ?_ ?_
 ·refine w_loop (fun (k : Nat × Int) E' H' => H' = ext H [] ∧ E' 0 = .slice a0 g.length c0 ∧ E' 3 = .int .i64 k.2 ∧ E' 4 = .int .i64 (k.1 : Int) ∧ k.1 ≤ g.length ∧ k.2 + costR (g.drop k.1) = C ∧ 0 ≤ k.2 ∧ k.2 ≤ 200 * k.1) (fun k => g.length - k.1) (0, 0)
   ⟨rfl, g0, g3, g4, Nat.zero_le _, by simpa using hC, Int.le_refl _, by simp⟩ ?_
  clear g0 g3 g4
  rintro ⟨k, n⟩ E H' ⟨hH, g0, g3, g4, hk, hn, hn0, hn1⟩
  simp only at g3 g4 hk hn hn0 hn1
  rw [hH]
  by_cases hkl : k = g.length
  ·have hc : decide ((k : Int) < (g.length : Int)) = false := by simp [hkl]
   simp (maxDischargeDepth := 6) only [g0, g3, g4, hc, ruW, putL, Nat.reduceLeDiff, xF, ruU, entryE, Nat.reduceLT, Nat.reduceAdd, Nat.reduceMul, Nat.reduceEqDiff]
   rw [List.drop_eq_nil_of_le (by omega), costR, Int.add_zero] at hn
   exact joinR_normal ⟨rfl, by simp only [g3, hn, ruU, entryE, Nat.reduceLT, Nat.reduceAdd, Nat.reduceMul, Nat.reduceEqDiff]⟩
  ·have hlk : k < g.length := by omega
   have hc : decide ((k : Int) < (g.length : Int)) = true := decide_eq_true (by omega)
   rcases hg with ⟨h', _⟩ | ⟨_, n1, o1, s1, x1, t1, p1, L1, ev, b1, n1l, le1, tk1⟩
   ·rw [h'] at hlk; simp at hlk
   rw [ev] at e0
   cases e0
   obtain ⟨w1, hr1⟩ : ∃ r, g[k]? = some r := ⟨_, List.getElem?_eq_getElem hlk⟩
   have i1 := op_ia (n := n1) (off := o1) (s := s1) (cap := c0) (i := (k : Int)) rfl hlk
   have q1 := op_cell (t := 9) (e := t1) (o := p1) (j := 9) ag9 hr1 rfl tk1
   have q0 := op_cell (t := 3) (e := t1) (o := p1) (j := 0) (by kernel_rfl) hr1 rfl tk1
   rw [Nat.add_assoc] at q1
   rw [Nat.add_zero] at q0
   rw [hb] at n1l
   have hdr : g.drop k = w1 :: g.drop (k + 1) := by
    rw [List.drop_eq_getElem_cons hlk]
    rw [List.getElem?_eq_getElem hlk] at hr1
    rw [Option.some.inj hr1]
   rw [hdr, costR] at hn
   have hws := hw w1 (List.mem_of_getElem? hr1)
   have hll := lenR_le w1.text.data.toList
   have hwl : w1.text.data.toList.length ≤ 200 := hws
   obtain ⟨d, hd⟩ : ∃ d, decide (w1.kind = 3) = d := ⟨_, rfl⟩
   cases d with
   | true =>
    rw [if_pos (of_decide_eq_true hd)] at hn
    have hlen := refLen_c (ext H []) w1.text (by omega)
    obtain ⟨m, hm⟩ : ∃ m, lenR w1.text.data.toList = m := ⟨_, rfl⟩
    rw [hm] at hlen hll hn
    simp (maxDischargeDepth := 6) only [g0, g3, g4, hb, hc, i1, b1, n1l, q0, q1, qk_old, hd, ruW, putL, Nat.reduceLeDiff, xF, ruU, entryE, Nat.reduceLT, Nat.reduceAdd, Nat.reduceMul, Nat.reduceEqDiff]
    refine hlen.to ?_
    have hw2 : IntKind.i64.wrap (n + m) = n + m := wrap_sm (by omega) (by omega)
    simp (maxDischargeDepth := 6) only [g0, g3, g4, hw2, wrap_succ (show k < 1000000 by omega), ruW, putL, Nat.reduceLeDiff, xF, ruU, entryE, Nat.reduceLT, Nat.reduceAdd, Nat.reduceMul, Nat.reduceEqDiff]
    refine loopC_next ⟨(k + 1, n + m), by simp only; omega, rfl, ?_, ?_, ?_, by simp only; omega, by simp only; omega, by simp only; omega, by simp only; omega⟩ <;> simp only [g0, g3, ruU, entryE, Nat.reduceLT, Nat.reduceAdd, Nat.reduceMul, Nat.reduceEqDiff]
   | false =>
    rw [if_neg (of_decide_eq_false hd), Int.zero_add] at hn
    simp (maxDischargeDepth := 6) only [g0, g3, g4, hb, hc, i1, b1, n1l, q0, q1, qk_old, hd, wrap_succ (show k < 1000000 by omega), ruW, putL, Nat.reduceLeDiff, xF, ruU, entryE, Nat.reduceLT, Nat.reduceAdd, Nat.reduceMul, Nat.reduceEqDiff]
    refine loopC_next ⟨(k + 1, n), by simp only; omega, rfl, ?_, ?_, ?_, by simp only; omega, by simp only; omega, by simp only; omega, by simp only; omega⟩ <;> simp only [g0, g3, ruU, entryE, Nat.reduceLT, Nat.reduceAdd, Nat.reduceMul, Nat.reduceEqDiff]
 ·rintro E H' ⟨hH, g3⟩
  rw [hH]
  simp (maxDischargeDepth := 6) only [g3, Tryd.results25, ruW, putL, Nat.reduceLeDiff, xF, ruU, entryE, Nat.reduceLT, Nat.reduceAdd, Nat.reduceMul, Nat.reduceEqDiff]
  exact Fin.pureE rfl rfl
theorem opsAt_mod {H X : AHeap} {v : Value} {l : List Op} (h : OpsAt H v l) (m : Mod [] H X) : OpsAt X v l := by
 rcases h with ⟨rfl, a, c, rfl⟩ | ⟨hl, n, off, s, c, e, o, L, rfl, hb, hlt, hle, ht⟩
 ·exact .inl ⟨rfl, a, c, rfl⟩
 ·exact .inr ⟨hl, n, off, s, c, e, o, L, rfl, (rk_get (m.get n hlt (by simp))).trans hb, Nat.lt_of_lt_of_le hlt m.next, hle, ht⟩
set_option maxHeartbeats 1000000 in
theorem cost_c (H : AHeap) (t : Tab H) (h01 : 1 < H.next) (v : Value) (g : List Op) (hg : OpsAt H v g) (hgl : g.length ≤ 60) (hw : ∀ x ∈ g, x.text.size ≤ 200) : Pure 24 [v] H (.int .i64 (costR g)) := by
 obtain ⟨C, hC⟩ : ∃ C, costR g = C := ⟨_, rfl⟩
 rw [hC]
 obtain ⟨a0, c0, e0⟩ := hg.sl
 refine callS_fn mixed Tryd.func24 rfl Tryd.ntmps24 (Nat.le_of_ble_eq_true rfl) fun wf hsc => ?_
 have hok := wf.base
 rw [e0]
 simp (maxDischargeDepth := 6) only [ruW, putL, Nat.reduceLeDiff, xF, ruU, entryE, Nat.reduceLT, Nat.reduceAdd, Nat.reduceMul, Nat.reduceEqDiff]
 refine w_env fun E hE => ?_
 have g3 : E 3 = .int .i64 (0 : Int) := by rw [hE]; (simp only [ruU, entryE, Nat.reduceLT, Nat.reduceAdd, Nat.reduceMul, Nat.reduceEqDiff] <;> rfl)
 have g6 : E 6 = .slice a0 g.length c0 := by rw [hE]; simp only [ruU, entryE, Nat.reduceLT, Nat.reduceAdd, Nat.reduceMul, Nat.reduceEqDiff]
 have g7 : E 7 = .int .i64 (g.length : Int) := by rw [hE]; simp only [ruU, entryE, Nat.reduceLT, Nat.reduceAdd, Nat.reduceMul, Nat.reduceEqDiff]
 have g8 : E 8 = .int .i64 ((0 : Nat) : Int) := by rw [hE]; (simp only [ruU, entryE, Nat.reduceLT, Nat.reduceAdd, Nat.reduceMul, Nat.reduceEqDiff] <;> rfl)
 clear hE
 refine blockC_meet (fun E' X => Mod [] H X ∧ E' 3 = .int .i64 C) ?_ ?_
 ·refine w_loop (fun (k : Nat × Int) E' X => Mod [] H X ∧ E' 3 = .int .i64 k.2 ∧ E' 6 = .slice a0 g.length c0 ∧ E' 7 = .int .i64 (g.length : Int) ∧ E' 8 = .int .i64 (k.1 : Int) ∧ k.1 ≤ g.length ∧ k.2 + costR (g.drop k.1) = C ∧ 0 ≤ k.2 ∧ k.2 ≤ 200 * k.1) (fun k => g.length - k.1) (0, 0)
   ⟨Mod.refl, g3, g6, g7, g8, Nat.zero_le _, by simpa using hC, Int.le_refl _, by simp⟩ ?_
  clear g3 g6 g7 g8
  rintro ⟨k, n⟩ E X ⟨mX, g3, g6, g7, g8, hk, hn, hn0, hn1⟩
  simp only at g3 g8 hk hn hn0 hn1
  obtain ⟨x, hx⟩ : ∃ x, X.next = x := ⟨_, rfl⟩
  have okX := mX.ok hok
  have hxb : X.base ≤ x := hx ▸ okX
  have hgX := opsAt_mod hg mX
  have tX : Tab X := t.of (mX.get 0 (by omega) (by simp)) (mX.get 1 (by omega) (by simp))
  rw [show X = ext X [] from rfl]
  by_cases hkl : k = g.length
  ·have hc : decide ((k : Int) < (g.length : Int)) = false := by simp [hkl]
   simp (maxDischargeDepth := 6) only [g3, g6, g7, g8, hc, ruW, putL, Nat.reduceLeDiff, xF, ruU, entryE, Nat.reduceLT, Nat.reduceAdd, Nat.reduceMul, Nat.reduceEqDiff]
   rw [List.drop_eq_nil_of_le (by omega), costR, Int.add_zero] at hn
   exact joinR_normal ⟨mX, by simp only [g3, hn, ruU, entryE, Nat.reduceLT, Nat.reduceAdd, Nat.reduceMul, Nat.reduceEqDiff]⟩
  ·have hlk : k < g.length := by omega
   have hc : decide ((k : Int) < (g.length : Int)) = true := decide_eq_true (by omega)
   rcases hgX with ⟨h', _⟩ | ⟨_, n1, o1, s1, x1, t1, p1, L1, ev, b1, n1l, le1, tk1⟩
   ·rw [h'] at hlk; simp at hlk
   rw [ev] at e0
   cases e0
   obtain ⟨w1, hr1⟩ : ∃ r, g[k]? = some r := ⟨_, List.getElem?_eq_getElem hlk⟩
   have i1 := op_ia (n := n1) (off := o1) (s := s1) (cap := c0) (i := (k : Int)) rfl hlk
   have q1 := op_load (e := t1) (o := p1) hr1 le1 tk1
   rw [hx] at n1l
   have hdr : g.drop k = w1 :: g.drop (k + 1) := by
    rw [List.drop_eq_getElem_cons hlk]
    rw [List.getElem?_eq_getElem hlk] at hr1
    rw [Option.some.inj hr1]
   rw [hdr, costR] at hn
   have hws := hw w1 (List.mem_of_getElem? hr1)
   have hll := lenR_le w1.text.data.toList
   have hwl : w1.text.data.toList.length ≤ 200 := hws
   obtain ⟨d, hd⟩ : ∃ d, decide (w1.kind = 3) = d := ⟨_, rfl⟩
   cases d with
   | true =>
    rw [if_pos (of_decide_eq_true hd)] at hn
    obtain ⟨m, hm⟩ : ∃ m, lenR w1.text.data.toList = m := ⟨_, rfl⟩
    have hlen : ∀ L, Pure 52 [.string w1.text] (ext X L) (.int .i64 m) := fun L => by
     rw [← hm]
     exact len_c (ext X L) (tX.of (ext_get_old (by have := mX.next; omega)) (ext_get_old (by have := mX.next; omega))) w1.text (by omega)
    rw [hm] at hll hn
    simp (maxDischargeDepth := 6) only [g3, g6, g7, g8, hx, hxb, hc, i1, b1, n1l, q1, qk_old, hd, Op.val, Op.cells, ruW, putL, Nat.reduceLeDiff, xF, ruU, entryE, Nat.reduceLT, Nat.reduceAdd, Nat.reduceMul, Nat.reduceEqDiff]
    refine (hlen _).to ?_
    have hw2 : IntKind.i64.wrap (n + m) = n + m := wrap_sm (by omega) (by omega)
    simp (maxDischargeDepth := 6) only [g3, g6, g7, g8, hw2, wrap_succ (show k < 1000000 by omega), ruW, putL, Nat.reduceLeDiff, xF, ruU, entryE, Nat.reduceLT, Nat.reduceAdd, Nat.reduceMul, Nat.reduceEqDiff]
    refine loopC_next ⟨(k + 1, n + m), by simp only; omega, mX.trans (Mod.ext okX), ?_, ?_, ?_, ?_, by simp only; omega, by simp only; omega, by simp only; omega, by simp only; omega⟩ <;> simp only [g3, g6, g7, ruU, entryE, Nat.reduceLT, Nat.reduceAdd, Nat.reduceMul, Nat.reduceEqDiff]
   | false =>
    rw [if_neg (of_decide_eq_false hd), Int.zero_add] at hn
    simp (maxDischargeDepth := 6) only [g3, g6, g7, g8, hx, hxb, hc, i1, b1, n1l, q1, qk_old, hd, Op.val, Op.cells, wrap_succ (show k < 1000000 by omega), ruW, putL, Nat.reduceLeDiff, xF, ruU, entryE, Nat.reduceLT, Nat.reduceAdd, Nat.reduceMul, Nat.reduceEqDiff]
    refine loopC_next ⟨(k + 1, n), by simp only; omega, mX.trans (Mod.ext okX), ?_, ?_, ?_, ?_, by simp only; omega, by simp only; omega, by simp only; omega, by simp only; omega⟩ <;> simp only [g3, g6, g7, ruU, entryE, Nat.reduceLT, Nat.reduceAdd, Nat.reduceMul, Nat.reduceEqDiff]
 ·rintro E X ⟨mX, g3⟩
  rw [show X = ext X [] from rfl]
  simp (maxDischargeDepth := 6) only [g3, Tryd.results24, ruW, putL, Nat.reduceLeDiff, xF, ruU, entryE, Nat.reduceLT, Nat.reduceAdd, Nat.reduceMul, Nat.reduceEqDiff]
  exact Ax.Fin.mod rfl mX rfl
end Go.Proofs.YtaojjfebkldmnaaDoor
/- What same comes to on equal lists of operations: true; the first list is written. -/
namespace Go.Proofs.YtaojjfebkldmnaaDoor
open Go.Ax
theorem op_eqL (x : Op) : eqL x.cells x.cells = true := by
 have h : (x.text == x.text) = true := by
  show x.text.beq x.text = true
  simp [ByteArray.beq]
 simp [Op.cells, eqL, eq1, h]
theorem fl47 : flat Tryd.prog 10000 47 = some [3, 3, 3, 3, 3, 3, 4, 4, 4, 9] := by kernel_rfl
theorem ag47 : aggT Tryd.prog 47 = some true := by kernel_rfl
theorem gd47 : Tryd.prog.eqGuardType Tryd.prog.depth 47 = false := by kernel_rfl
theorem op_fits (x : Op) : fits Tryd.prog [3, 3, 3, 3, 3, 3, 4, 4, 4, 9] x.cells = true := by
 have h3 : ∀ n, fit1 Tryd.prog 3 (.int .i64 n) = true := fun n => by kernel_rfl
 have h4 : ∀ n, fit1 Tryd.prog 4 (.bool n) = true := fun n => by kernel_rfl
 have h9 : ∀ n, fit1 Tryd.prog 9 (.string n) = true := fun n => by kernel_rfl
 simp only [Op.cells, fits, h3, h4, h9, Bool.and_self]
def OwnOps (H : AHeap) (v : Value) (W : List Nat) (l : List Op) : Prop :=
 (l = [] ∧ ∃ a c, v = .slice a 0 c) ∨ (l ≠ [] ∧ ∃ n s c o, v = .slice (some ⟨n, 0, s⟩) l.length c ∧ bk H n = some ⟨47, o, opsOf l⟩ ∧ n < H.next ∧ n ∈ W)
theorem opsOf_len (l : List Op) : (opsOf l).length = l.length * 10 := flat_len _ _ op_len l
theorem OwnOps.at_ {H : AHeap} {v : Value} {W : List Nat} {l : List Op} (h : OwnOps H v W l) : OpsAt H v l := by
 rcases h with h | ⟨hl, n, s, c, o, rfl, hb, hlt, _⟩
 ·exact .inl h
 ·exact .inr ⟨hl, n, 0, s, c, 47, o, opsOf l, rfl, rk_of hb, hlt, by rw [opsOf_len]; omega, by rw [List.drop_zero, List.take_of_length_le (by rw [opsOf_len]; exact Nat.le_refl _)]⟩
set_option maxHeartbeats 2000000 in
theorem same_c (H : AHeap) (va vb : Value) (W : List Nat) (l : List Op) (ha : OwnOps H va W l) (hb : OpsAt H vb l) (hok : H.base ≤ H.next) (hl : l.length < 1000000) :
  CallA Tryd.prog 15 [va, vb] H (fun out X => out = .ok (.bool true) ∧ Mod W H X) := by
 obtain ⟨b, hbn⟩ : ∃ b, H.next = b := ⟨_, rfl⟩
 have haO := ha.at_
 obtain ⟨a1, c1, e1⟩ := haO.sl
 obtain ⟨a2, c2, e2⟩ := hb.sl
 refine callE_fn mixed Tryd.func15 rfl Tryd.ntmps15 (Nat.le_of_ble_eq_true rfl) ?_
 rw [e1, e2]
 have hdl : decide ((l.length : Int) = (l.length : Int)) = true := decide_eq_true rfl
 simp (maxDischargeDepth := 6) only [hdl, decide_true, ruW, putL, Nat.reduceLeDiff, xF, ruU, entryE, Nat.reduceLT, Nat.reduceAdd, Nat.reduceMul, Nat.reduceEqDiff]
 refine w_env fun E hE => ?_
 have g0 : E 0 = .slice a1 l.length c1 := by rw [hE]; simp only [ruU, entryE, Nat.reduceLT, Nat.reduceAdd, Nat.reduceMul, Nat.reduceEqDiff]
 have g1 : E 1 = .slice a2 l.length c2 := by rw [hE]; simp only [ruU, entryE, Nat.reduceLT, Nat.reduceAdd, Nat.reduceMul, Nat.reduceEqDiff]
 have g5 : E 5 = .bool true := by rw [hE]; (simp only [ruU, entryE, Nat.reduceLT, Nat.reduceAdd, Nat.reduceMul, Nat.reduceEqDiff] <;> rfl)
 have g6 : E 6 = .int .i64 ((0 : Nat) : Int) := by rw [hE]; (simp only [ruU, entryE, Nat.reduceLT, Nat.reduceAdd, Nat.reduceMul, Nat.reduceEqDiff] <;> rfl)
 clear hE
 refine blockC_meet (fun E' X => X = ext H [] ∧ E' 0 = .slice a1 l.length c1 ∧ E' 5 = .bool true) ?_ ?_
 ·refine w_loop (fun (k : Nat) E' X => X = ext H [] ∧ E' 0 = .slice a1 l.length c1 ∧ E' 1 = .slice a2 l.length c2 ∧ E' 5 = .bool true ∧ E' 6 = .int .i64 (k : Int) ∧ k ≤ l.length) (fun k => l.length - k) 0
   ⟨rfl, g0, g1, g5, g6, Nat.zero_le _⟩ ?_
  clear g0 g1 g5 g6
  rintro k E X ⟨hX, g0, g1, g5, g6, hk⟩
  rw [hX]
  by_cases hkl : k = l.length
  ·have hc : decide ((k : Int) < (l.length : Int)) = false := by simp [hkl]
   simp (maxDischargeDepth := 6) only [g0, g1, g5, g6, hc, ruW, putL, Nat.reduceLeDiff, xF, ruU, entryE, Nat.reduceLT, Nat.reduceAdd, Nat.reduceMul, Nat.reduceEqDiff]
   exact joinR_normal ⟨rfl, by simp only [g0, ruU, entryE, Nat.reduceLT, Nat.reduceAdd, Nat.reduceMul, Nat.reduceEqDiff], by simp only [g5, ruU, entryE, Nat.reduceLT, Nat.reduceAdd, Nat.reduceMul, Nat.reduceEqDiff]⟩
  ·have hlk : k < l.length := by omega
   have hc : decide ((k : Int) < (l.length : Int)) = true := decide_eq_true (by omega)
   rcases haO with ⟨h', _⟩ | ⟨_, n1, o1, s1, x1, t1, p1, L1, ev, b1, n1l, le1, tk1⟩
   ·rw [h'] at hlk; simp at hlk
   rcases hb with ⟨h', _⟩ | ⟨_, n2, o2, s2, x2, t2, p2, L2, ev2, b2, n2l, le2, tk2⟩
   ·rw [h'] at hlk; simp at hlk
   rw [ev] at e1
   rw [ev2] at e2
   cases e1
   cases e2
   obtain ⟨w1, hr1⟩ : ∃ r, l[k]? = some r := ⟨_, List.getElem?_eq_getElem hlk⟩
   have i1 := op_ia (n := n1) (off := o1) (s := s1) (cap := c1) (i := (k : Int)) rfl hlk
   have i2 := op_ia (n := n2) (off := o2) (s := s2) (cap := c2) (i := (k : Int)) rfl hlk
   have q1 := op_load (e := t1) (o := p1) hr1 le1 tk1
   have q2 := op_load (e := t2) (o := p2) hr1 le2 tk2
   rw [hbn] at n1l n2l
   simp (maxDischargeDepth := 6) only [g0, g1, g5, g6, hc, ruW, putL, Nat.reduceLeDiff, xF, ruU, entryE, Nat.reduceLT, Nat.reduceAdd, Nat.reduceMul, Nat.reduceEqDiff]
   refine w_drawB [] [] (by kernel_rfl) rfl rfl fun ops anc hA hG => ?_
   simp (maxDischargeDepth := 6) only [g0, g1, g5, g6, hbn, i1, i2, b1, b2, n1l, n2l, q1, q2, qk_old, Op.val, ruD, ruW, putL, Nat.reduceLeDiff, xF, ruU, entryE, Nat.reduceLT, Nat.reduceAdd, Nat.reduceMul, Nat.reduceEqDiff]
   refine wd_eqS (ts := [3, 3, 3, 3, 3, 3, 4, 4, 4, 9]) (xs := w1.cells) (ys := w1.cells) (r := true) fl47 ag47 gd47 (by rw [op_eqL]; rfl) (by simp only [ruU, entryE, Nat.reduceLT, Nat.reduceAdd, Nat.reduceMul, Nat.reduceEqDiff]) (by simp only [ruU, entryE, Nat.reduceLT, Nat.reduceAdd, Nat.reduceMul, Nat.reduceEqDiff]) (by decide) (by (simp only [ruU, entryE, Nat.reduceLT, Nat.reduceAdd, Nat.reduceMul, Nat.reduceEqDiff] <;> rfl)) (by (simp only [ruU, entryE, Nat.reduceLT, Nat.reduceAdd, Nat.reduceMul, Nat.reduceEqDiff] <;> rfl)) (op_fits _) (op_fits _) ?_
   simp (maxDischargeDepth := 6) only [g0, g1, g5, g6, wrap_succ (show k < 1000000 by omega), ruD, ruW, putL, Nat.reduceLeDiff, xF, ruU, entryE, Nat.reduceLT, Nat.reduceAdd, Nat.reduceMul, Nat.reduceEqDiff]
   refine loopC_next ⟨k + 1, by omega, rfl, ?_, ?_, ?_, ?_, by omega⟩ <;> simp only [g0, g1, ruU, entryE, Nat.reduceLT, Nat.reduceAdd, Nat.reduceMul, Nat.reduceEqDiff]
 ·clear g0 g1 g5 g6
  rintro E X ⟨hX, g0, g5⟩
  rw [hX]
  simp (maxDischargeDepth := 6) only [g0, g5, ruW, putL, Nat.reduceLeDiff, xF, ruU, entryE, Nat.reduceLT, Nat.reduceAdd, Nat.reduceMul, Nat.reduceEqDiff]
  refine w_env fun E2 hE => ?_
  have h0 : E2 0 = .slice a1 l.length c1 := by rw [hE]; simp only [g0, ruU, entryE, Nat.reduceLT, Nat.reduceAdd, Nat.reduceMul, Nat.reduceEqDiff]
  have h5 : E2 5 = .bool true := by rw [hE]; simp only [g5, ruU, entryE, Nat.reduceLT, Nat.reduceAdd, Nat.reduceMul, Nat.reduceEqDiff]
  have h7 : E2 7 = .int .i64 ((0 : Nat) : Int) := by rw [hE]; (simp only [ruU, entryE, Nat.reduceLT, Nat.reduceAdd, Nat.reduceMul, Nat.reduceEqDiff] <;> rfl)
  clear hE g0 g5
  refine blockC_meet (fun E' X => Mod W H X ∧ E' 5 = .bool true) ?_ ?_
  ·refine w_loop (fun (k : Nat) E' X => Mod W H X ∧ (∀ n s c, va = .slice (some ⟨n, 0, s⟩) l.length c → 0 < l.length → ∃ o L, bk X n = some ⟨47, o, L⟩ ∧ L.length = l.length * 10 ∧ n < X.next) ∧ E' 0 = .slice a1 l.length c1 ∧ E' 5 = .bool true ∧ E' 7 = .int .i64 (k : Int) ∧ k ≤ l.length) (fun k => l.length - k) 0
    ⟨Mod.refl, fun n s c e hpos => ?_, h0, h5, h7, Nat.zero_le _⟩ ?_
   ·rcases ha with ⟨h', _⟩ | ⟨_, n', s', c', o, e', hbb, hlt, _⟩
    ·rw [h'] at hpos; simp at hpos
    ·rw [e] at e'; cases e'; exact ⟨o, _, hbb, opsOf_len l, hlt⟩
   clear h0 h5 h7
   rintro k E X ⟨mX, hbl, g0, g5, g7, hk⟩
   obtain ⟨x, hx⟩ : ∃ x, X.next = x := ⟨_, rfl⟩
   rw [show X = ext X [] from rfl]
   by_cases hkl : k = l.length
   ·have hc : decide ((k : Int) < (l.length : Int)) = false := by simp [hkl]
    simp (maxDischargeDepth := 6) only [g0, g5, g7, hc, ruW, putL, Nat.reduceLeDiff, xF, ruU, entryE, Nat.reduceLT, Nat.reduceAdd, Nat.reduceMul, Nat.reduceEqDiff]
    exact joinR_normal ⟨mX, by simp only [g5, ruU, entryE, Nat.reduceLT, Nat.reduceAdd, Nat.reduceMul, Nat.reduceEqDiff]⟩
   ·have hlk : k < l.length := by omega
    have hc : decide ((k : Int) < (l.length : Int)) = true := decide_eq_true (by omega)
    rcases ha with ⟨h', _⟩ | ⟨_, n, s, c, o', ev, _, _, hnW⟩
    ·rw [h'] at hlk; simp at hlk
    obtain ⟨o, L, hbb, hLl, hnl⟩ := hbl n s c ev (by omega)
    rw [ev] at e1
    cases e1
    rw [hx] at hnl
    have i1 := op_ia (n := n) (off := 0) (s := s) (cap := c1) (i := (k : Int)) rfl hlk
    have hst : ∀ M, stB Tryd.prog 47 M (0 + k * 10) (.agg ⟨[.int .i64 (-77), .int .i64 0, .int .i64 0, .int .i64 0, .int .i64 0, .int .i64 0, .bool false, .bool false, .bool false, .string .empty]⟩) (some ⟨47, o, L⟩) = some ⟨47, o, putL L (0 + k * 10) [.int .i64 (-77), .int .i64 0, .int .i64 0, .int .i64 0, .int .i64 0, .int .i64 0, .bool false, .bool false, .bool false, .string .empty]⟩ := fun M => by
     exact stB_ok (v := .agg ⟨[.int .i64 (-77), .int .i64 0, .int .i64 0, .int .i64 0, .int .i64 0, .int .i64 0, .bool false, .bool false, .bool false, .string .empty]⟩) (by kernel_rfl) (by simp [Value.cells]; omega) (by rfl) (by rfl)
    simp (maxDischargeDepth := 6) only [g0, g5, g7, hx, hnl, hbb, i1, hst, hc, wrap_succ (show k < 1000000 by omega), ruW, putL, Nat.reduceLeDiff, xF, ruU, entryE, Nat.reduceLT, Nat.reduceAdd, Nat.reduceMul, Nat.reduceEqDiff]
    generalize hU : uw X n _ _ = U
    have mU : Mod [n] X U := hU ▸ Mod.uw (by simp)
    have hUb : ∃ L2, bk U n = some ⟨47, o, L2⟩ ∧ L2.length = l.length * 10 := by
     rw [← hU, bk_uw_eq, hbb]
     exact ⟨_, rfl, by rw [putL_length]; exact hLl⟩
    refine loopC_next ⟨k + 1, by omega, mX.step mU hok (fun p hp => by simp only [List.mem_singleton] at hp; subst hp; exact .inl hnW), fun n' s' c' e _ => ?_, ?_, ?_, ?_, by omega⟩
    ·rw [ev] at e
     cases e
     obtain ⟨L2, h1, h2⟩ := hUb
     exact ⟨o, L2, h1, h2, mU.lt (by omega)⟩
    ·simp only [g0, ruU, entryE, Nat.reduceLT, Nat.reduceAdd, Nat.reduceMul, Nat.reduceEqDiff]
    ·simp only [g5, ruU, entryE, Nat.reduceLT, Nat.reduceAdd, Nat.reduceMul, Nat.reduceEqDiff]
    ·simp only [ruU, entryE, Nat.reduceLT, Nat.reduceAdd, Nat.reduceMul, Nat.reduceEqDiff]
  ·rintro E X ⟨mX, g5⟩
   rw [show X = ext X [] from rfl]
   simp (maxDischargeDepth := 6) only [g5, Tryd.results15, ruW, putL, Nat.reduceLeDiff, xF, ruU, entryE, Nat.reduceLT, Nat.reduceAdd, Nat.reduceMul, Nat.reduceEqDiff]
   exact ⟨trivial, mX⟩
end Go.Proofs.YtaojjfebkldmnaaDoor
