/- Parts of the proof, one behind the other. -/
import Derived.Test.YtpohjcacnkhnkaaDoorM9
set_option linter.all false

/- What Check asks of a row. -/
namespace Go.Proofs.YtpohjcacnkhnkaaDoor
open Go.Ax
set_option linter.unusedSimpArgs false
set_option maxRecDepth 10000

theorem cellsOf_c (H : AHeap) (c : Int) : Pure 38 [.int .i64 c] H (.int .i64 (cellsR c : Int)) := by
  obtain ⟨d1, h1⟩ : ∃ d, decide (c < 32) = d := ⟨_, rfl⟩
  obtain ⟨d2, h2⟩ : ∃ d, decide (c = 127) = d := ⟨_, rfl⟩
  obtain ⟨d3, h3⟩ : ∃ d, isR c = d := ⟨_, rfl⟩
  have his := is_c (ext H []) c
  rw [h3] at his
  have hwd := width46_c (ext H []) c
  have key : cellsR c = cond (d1 || d2) 0 (cond d3 (widthR c) 0) := by
    unfold cellsR
    rw [← h1, ← h2, ← h3]
    by_cases q1 : c < 32
    · simp [q1]
    · by_cases q2 : c = 127
      · simp [q2]
      · simp only [q1, q2, or_self, if_false, decide_false, Bool.or_self, cond_false]
        cases q3 : isR c with
        | true => rfl
        | false => rw [cond_false]; unfold widthR; simp [q3]
  rw [key]
  refine callS_fn mixed Tryd.func38 rfl Tryd.ntmps38 (Nat.le_of_ble_eq_true rfl) fun wf hsc => ?_
  cases d1 with
  | true => simp (maxDischargeDepth := 6) only [h1, Bool.true_or, cond_true, Tryd.results38, ruW, putL, Nat.reduceLeDiff, xF, ruU, entryE, Nat.reduceLT, Nat.reduceAdd, Nat.reduceMul, Nat.reduceEqDiff]; exact Fin.pureE rfl rfl
  | false =>
    cases d2 with
    | true => simp (maxDischargeDepth := 6) only [h1, h2, Bool.or_true, cond_true, Tryd.results38, ruW, putL, Nat.reduceLeDiff, xF, ruU, entryE, Nat.reduceLT, Nat.reduceAdd, Nat.reduceMul, Nat.reduceEqDiff]; exact Fin.pureE rfl rfl
    | false =>
      simp (maxDischargeDepth := 6) only [h1, h2, Bool.or_false, cond_false, ruW, putL, Nat.reduceLeDiff, xF, ruU, entryE, Nat.reduceLT, Nat.reduceAdd, Nat.reduceMul, Nat.reduceEqDiff]
      refine his.to ?_
      cases d3 with
      | false => simp (maxDischargeDepth := 6) only [Bool.not_false, cond_false, Tryd.results38, ruW, putL, Nat.reduceLeDiff, xF, ruU, entryE, Nat.reduceLT, Nat.reduceAdd, Nat.reduceMul, Nat.reduceEqDiff]; exact Fin.pureE rfl rfl
      | true =>
        simp (maxDischargeDepth := 6) only [Bool.not_true, cond_true, ruW, putL, Nat.reduceLeDiff, xF, ruU, entryE, Nat.reduceLT, Nat.reduceAdd, Nat.reduceMul, Nat.reduceEqDiff]
        refine hwd.to ?_
        simp (maxDischargeDepth := 6) only [Tryd.results38, ruW, putL, Nat.reduceLeDiff, xF, ruU, entryE, Nat.reduceLT, Nat.reduceAdd, Nat.reduceMul, Nat.reduceEqDiff]
        exact Fin.pureE rfl rfl

abbrev Lk.val (l : Lk) : Value := .agg ⟨[.int .i64 l.fore, .int .i64 l.back, .bool l.bold, .bool l.under, .bool l.inv]⟩
theorem coloured_c (H : AHeap) (l : Lk) (o : l.Ok) : Pure 39 [l.val] H (.bool true) := by
  obtain ⟨b, hb⟩ : ∃ b, H.next = b := ⟨_, rfl⟩
  have h1 : decide ((0 : Int) ≤ l.fore) = true := decide_eq_true o.f0
  have h2 : decide (l.fore ≤ 256) = true := decide_eq_true o.f1
  have h3 : decide ((0 : Int) ≤ l.back) = true := decide_eq_true o.b0
  have h4 : decide (l.back ≤ 256) = true := decide_eq_true o.b1
  refine callS_fn mixed Tryd.func39 rfl Tryd.ntmps39 (Nat.le_of_ble_eq_true rfl) fun wf hsc => ?_
  have hbase : H.base ≤ b := hb ▸ wf.base
  simp (maxDischargeDepth := 6) only [hb, hbase, h1, h2, h3, h4, Tryd.results39, ruW, putL, Nat.reduceLeDiff, xF, ruU, entryE, Nat.reduceLT, Nat.reduceAdd, Nat.reduceMul, Nat.reduceEqDiff]
  exact Fin.pureE rfl rfl

theorem run_load {l : List Ce} {k : Nat} {c : Ce} {e : TypeId} {o : Bool} {L : List Value} {off : Nat} (hk : l[k]? = some c) (hle : off + l.length * 6 ≤ L.length) (h : (L.drop off).take (l.length * 6) = csOf l) : ldB Tryd.prog 3 (off + k * 6) (some ⟨e, o, L⟩) = some (.int .i64 c.rune) := by
  have h1 : aggT Tryd.prog 3 = some false := by kernel_rfl
  have h2 := take_get2 l k c L off hk h
  have h3 : ((L.drop (off + k * 6)).take 6)[0]? = some (.int .i64 c.rune) := by rw [h2]; rfl
  rw [ld_one h1]
  simpa using h3
theorem look_load {l : List Ce} {k : Nat} {c : Ce} {e : TypeId} {o : Bool} {L : List Value} {off : Nat} (hk : l[k]? = some c) (hle : off + l.length * 6 ≤ L.length) (h : (L.drop off).take (l.length * 6) = csOf l) : ldB Tryd.prog 39 (off + (k * 6 + 1)) (some ⟨e, o, L⟩) = some c.look.val := by
  rw [show off + (k * 6 + 1) = off + k * 6 + 1 from (Nat.add_assoc _ _ _).symm]
  have hlt : k < l.length := (List.getElem?_eq_some_iff.1 hk).1
  have h1 : aggT Tryd.prog 39 = some true := by kernel_rfl
  have h2 : szOf Tryd.prog 39 = some 5 := by kernel_rfl
  have h3 := take_get2 l k c L off hk h
  have h4 : (L.drop (off + k * 6 + 1)).take 5 = ((L.drop (off + k * 6)).take 6).drop 1 := by
    rw [List.drop_take, List.drop_drop]
  rw [ld_agg h1, h2, Option.bind_some, if_pos (by omega), h4, h3]
  rfl

set_option maxHeartbeats 4000000 in
theorem whole_c (H : AHeap) (v : Value) (l : List Ce) (h : RowAt H v l) (w : Whole l) (hl : l.length < 1000000) : Pure 29 [v] H (.bool true) := by
  obtain ⟨b, hb⟩ : ∃ b, H.next = b := ⟨_, rfl⟩
  refine callS_fn mixed Tryd.func29 rfl Tryd.ntmps29 (Nat.le_of_ble_eq_true rfl) fun wf hsc => ?_
  obtain ⟨a1, c1, e1⟩ := h.sl
  rw [e1]
  simp (maxDischargeDepth := 6) only [ruW, putL, Nat.reduceLeDiff, xF, ruU, entryE, Nat.reduceLT, Nat.reduceAdd, Nat.reduceMul, Nat.reduceEqDiff]
  rw [← e1]
  refine w_env fun E hE => ?_
  have g0 : E 0 = v := by rw [hE]; simp only [ruU, entryE, Nat.reduceLT, Nat.reduceAdd, Nat.reduceMul, Nat.reduceEqDiff]
  have g3 : E 3 = .int .i64 ((0 : Nat) : Int) := by rw [hE]; (simp only [ruU, entryE, Nat.reduceLT, Nat.reduceAdd, Nat.reduceMul, Nat.reduceEqDiff] <;> rfl)
  clear hE
  refine blockC_meet (fun E' H' => H' = ext H []) ?_ ?_
  · refine w_loop (fun (k : Nat) E' H' => H' = ext H [] ∧ E' 0 = v ∧ E' 3 = .int .i64 (k : Int) ∧ k ≤ l.length ∧ ∀ c, l[k]? = some c → c.rune ≠ -1) (fun k => l.length - k) 0
      ⟨rfl, g0, g3, Nat.zero_le _, fun c hc hr => by obtain ⟨j, q, e, _⟩ := w.half hc hr; omega⟩ ?_
    clear g0 g3
    rintro k E H' ⟨hH, g0, g3, hk, hhead⟩
    rw [hH]
    by_cases hkl : k = l.length
    · have hc : decide ((k : Int) < (l.length : Int)) = false := by simp [hkl]
      rw [e1] at g0
      simp (maxDischargeDepth := 6) only [g0, g3, hc, ruW, putL, Nat.reduceLeDiff, xF, ruU, entryE, Nat.reduceLT, Nat.reduceAdd, Nat.reduceMul, Nat.reduceEqDiff]
      exact joinR_normal rfl
    · have hlt : k < l.length := by omega
      have hc : decide ((k : Int) < (l.length : Int)) = true := decide_eq_true (by omega)
      rcases h with ⟨h, _⟩ | ⟨_, n1, o1, s1, x1, t1, p1, L1, rfl, b1, n1l, le1, tk1⟩
      · rw [h] at hlt; simp at hlt
      obtain ⟨r1, hr1⟩ : ∃ r, l[k]? = some r := ⟨_, List.getElem?_eq_getElem hlt⟩
      have i1 := rowo_ia (n := n1) (off := o1) (s := s1) (cap := x1) (i := (k : Int)) rfl hlt
      have q1 := run_load (e := t1) (o := p1) hr1 le1 tk1
      have q2 := look_load (e := t1) (o := p1) hr1 le1 tk1
      rw [hb] at n1l
      obtain ⟨ok1, hw1⟩ := w k r1 hr1
      have c10 : decide (((1 : Nat) : Int) = 0) = false := by decide
      have c12 : decide (((1 : Nat) : Int) = 2) = false := by decide
      have c20 : decide (((2 : Nat) : Int) = 0) = false := by decide
      have c22 : decide (((2 : Nat) : Int) = 2) = true := by decide
      obtain ⟨m, hm⟩ : ∃ m, cellsR r1.rune = m := ⟨_, rfl⟩
      have hcl := cellsOf_c (ext H []) r1.rune
      have hco := coloured_c (ext H []) r1.look ok1
      rw [hm] at hcl
      simp (maxDischargeDepth := 6) only [g0, g3, hb, hc, i1, b1, n1l, q1, q2, ruW, putL, Nat.reduceLeDiff, xF, ruU, entryE, Nat.reduceLT, Nat.reduceAdd, Nat.reduceMul, Nat.reduceEqDiff]
      refine hcl.to ?_
      rcases hw1 with h1 | ⟨h2, hn⟩ | ⟨h3, _⟩
      · obtain rfl : m = 1 := hm.symm.trans h1
        simp (maxDischargeDepth := 6) only [g0, g3, hb, hc, i1, b1, n1l, q1, q2, c10, c12, c20, c22, ruW, putL, Nat.reduceLeDiff, xF, ruU, entryE, Nat.reduceLT, Nat.reduceAdd, Nat.reduceMul, Nat.reduceEqDiff]
        refine hco.to ?_
        simp (maxDischargeDepth := 6) only [g0, g3, hb, hc, i1, b1, n1l, q1, q2, c10, c12, c20, c22, wrap_succ (show k < 1000000 by omega), ruW, putL, Nat.reduceLeDiff, xF, ruU, entryE, Nat.reduceLT, Nat.reduceAdd, Nat.reduceMul, Nat.reduceEqDiff]
        refine loopC_next ⟨k + 1, by omega, rfl, ?_, ?_, by omega, fun c hc' hr => ?_⟩
        · simp only [g0, ruU, entryE, Nat.reduceLT, Nat.reduceAdd, Nat.reduceMul, Nat.reduceEqDiff]
        · simp only [ruU, entryE, Nat.reduceLT, Nat.reduceAdd, Nat.reduceMul, Nat.reduceEqDiff]
        · obtain ⟨j, q, e, hq, hq2, _⟩ := w.half hc' hr
          obtain rfl : j = k := by omega
          rw [hr1] at hq
          cases hq
          rw [hm] at hq2
          cases hq2
      · obtain rfl : m = 2 := hm.symm.trans h2
        simp (maxDischargeDepth := 6) only [g0, g3, hb, hc, i1, b1, n1l, q1, q2, c10, c12, c20, c22, ruW, putL, Nat.reduceLeDiff, xF, ruU, entryE, Nat.reduceLT, Nat.reduceAdd, Nat.reduceMul, Nat.reduceEqDiff]
        refine hco.to ?_
        simp (maxDischargeDepth := 6) only [g0, g3, hb, hc, i1, b1, n1l, q1, q2, c10, c12, c20, c22, wrap_succ (show k < 1000000 by omega), ruW, putL, Nat.reduceLeDiff, xF, ruU, entryE, Nat.reduceLT, Nat.reduceAdd, Nat.reduceMul, Nat.reduceEqDiff]
        have hlt1 : k + 1 < l.length := (List.getElem?_eq_some_iff.1 hn).1
        have hc1 : decide (((k + 1 : Nat) : Int) = (l.length : Int)) = false := decide_eq_false (by omega)
        have i2 := rowo_ia (n := n1) (off := o1) (s := s1) (cap := x1) (i := ((k + 1 : Nat) : Int)) rfl hlt1
        have q3 := row_load (e := t1) (o := p1) hn le1 tk1
        have hws : IntKind.i64.wrap (((k + 1 : Nat) : Int) - 1) = (k : Int) := (wrap_sm (n := ((k + 1 : Nat) : Int) - 1) (by omega) (by omega)).trans (by omega)
        refine w_drawB [] [(4, 36)] (by kernel_rfl) (by kernel_rfl) (by kernel_rfl) fun ops anc hA hG => ?_
        simp only [all2_cons] at hG
        simp (maxDischargeDepth := 6) only [g0, g3, hb, hc1, i1, i2, b1, n1l, q2, q3, hws, hG, Ce.val, Ce.cells, ruD, ruW, putL, Nat.reduceLeDiff, xF, ruU, entryE, Nat.reduceLT, Nat.reduceAdd, Nat.reduceMul, Nat.reduceEqDiff]
        refine wd_eqS (ts := [3, 3, 3, 4, 4, 4]) (xs := (⟨-1, r1.look⟩ : Ce).cells) (ys := (⟨-1, r1.look⟩ : Ce).cells) (r := false) fl56 ag56 gd56 (by rw [ce_eqL, decide_eq_true rfl]; rfl) (by simp only [ruU, entryE, Nat.reduceLT, Nat.reduceAdd, Nat.reduceMul, Nat.reduceEqDiff]) (by simp only [ruU, entryE, Nat.reduceLT, Nat.reduceAdd, Nat.reduceMul, Nat.reduceEqDiff]) (by decide) (by simp only [ruU, entryE, Nat.reduceLT, Nat.reduceAdd, Nat.reduceMul, Nat.reduceEqDiff]; rfl) (by simp only [ruU, entryE, Nat.reduceLT, Nat.reduceAdd, Nat.reduceMul, Nat.reduceEqDiff]; rfl) (ce_fits _) (ce_fits _) ?_
        simp (maxDischargeDepth := 6) only [g0, g3, hG, wrap_succ (show k + 1 < 1000000 by omega), ruD, ruW, putL, Nat.reduceLeDiff, xF, ruU, entryE, Nat.reduceLT, Nat.reduceAdd, Nat.reduceMul, Nat.reduceEqDiff]
        refine loopC_next ⟨k + 2, by omega, rfl, ?_, ?_, by omega, fun c hc' hr => ?_⟩
        · simp only [g0, ruU, entryE, Nat.reduceLT, Nat.reduceAdd, Nat.reduceMul, Nat.reduceEqDiff]
        · simp only [ruU, entryE, Nat.reduceLT, Nat.reduceAdd, Nat.reduceMul, Nat.reduceEqDiff]
        · obtain ⟨j, q, e, hq, hq2, _⟩ := w.half hc' hr
          obtain rfl : j = k + 1 := by omega
          rw [hn] at hq
          cases hq
          rw [cells_m1] at hq2
          cases hq2
      · exact absurd h3 (hhead r1 hr1)
  · rintro E H' hH
    rw [hH]
    simp (maxDischargeDepth := 6) only [Tryd.results29, ruW, putL, Nat.reduceLeDiff, xF, ruU, entryE, Nat.reduceLT, Nat.reduceAdd, Nat.reduceMul, Nat.reduceEqDiff]
    exact Fin.pure rfl

end Go.Proofs.YtpohjcacnkhnkaaDoor

/- The walk of Check. -/
namespace Go.Proofs.YtpohjcacnkhnkaaDoor
open Go.Ax
set_option linter.unusedSimpArgs false
set_option maxRecDepth 10000

theorem narrow_c (H : AHeap) (v : Value) (l : List Ce) (W bw : Nat) (hr : RowAt H v l) (w : Whole l) (hl : l.length = W) (hW : W < 1000000) (hb : bk H bw = some ⟨3, false, [.int .i64 (W : Int)]⟩) : Pure 28 [v, .pointer (some ⟨bw, 0, none⟩)] H (.bool false) := by
  obtain ⟨b, hbn⟩ : ∃ b, H.next = b := ⟨_, rfl⟩
  obtain ⟨a, c, e⟩ := hr.sl
  have hwh := whole_c (ext H []) v l hr w (by omega)
  rw [e, hl] at hwh
  rw [e, hl]
  refine callS_fn mixed Tryd.func28 rfl Tryd.ntmps28 (Nat.le_of_ble_eq_true rfl) fun wf hsc => ?_
  have hlt : bw < b := hbn ▸ wf.lt hb
  simp (maxDischargeDepth := 6) only [hbn, hb, hlt, ne_eq, not_true_eq_false, decide_false, decide_true, Bool.not_true, ruW, putL, Nat.reduceLeDiff, xF, ruU, entryE, Nat.reduceLT, Nat.reduceAdd, Nat.reduceMul, Nat.reduceEqDiff]
  refine hwh.to ?_
  simp (maxDischargeDepth := 6) only [Tryd.results28, not_true_eq_false, decide_false, Bool.not_true, ruW, putL, Nat.reduceLeDiff, xF, ruU, entryE, Nat.reduceLT, Nat.reduceAdd, Nat.reduceMul, Nat.reduceEqDiff]
  exact Fin.pureE rfl rfl

theorem GridAt.ext {H : AHeap} {v : Value} {g : List (List Ce)} {B : List Bl} (h : GridAt H v g) : GridAt (Go.Ax.ext H B) v g := by
  rcases h with ⟨rfl, a, c, rfl⟩ | ⟨hl, n, off, s, c, e, o, L, rfl, hb, hlt, hle, ht⟩
  · exact .inl ⟨rfl, a, c, rfl⟩
  · exact .inr ⟨hl, n, off, s, c, e, o, L, rfl, (bk_old hlt).trans hb, by rw [ext_next]; omega, hle, fun k row hk => by
      obtain ⟨rv, h1, h2⟩ := ht k row hk
      exact ⟨rv, h1, h2.ext⟩⟩

theorem index_c (H : AHeap) (v : Value) (g : List (List Ce)) (W bw : Nat) (hg : GridAt H v g) (hw : ∀ l ∈ g, Whole l ∧ l.length = W) (hW : W < 1000000) (hgl : g.length < 1000000) (hbw : bk H bw = some ⟨3, false, [.int .i64 (W : Int)]⟩) :
    Pure 37 [v, .func (.func 28) ⟨[]⟩ ⟨[.pointer (some ⟨bw, 0, none⟩)]⟩] H (.int .i64 (-1)) := by
  obtain ⟨b, hb⟩ : ∃ b, H.next = b := ⟨_, rfl⟩
  refine callS_fn mixed Tryd.func37 rfl Tryd.ntmps37 (Nat.le_of_ble_eq_true rfl) fun wf hsc => ?_
  obtain ⟨a1, c1, e1⟩ := hg.sl
  rw [e1]
  simp (maxDischargeDepth := 6) only [ruW, putL, Nat.reduceLeDiff, xF, ruU, entryE, Nat.reduceLT, Nat.reduceAdd, Nat.reduceMul, Nat.reduceEqDiff]
  rw [← e1]
  refine w_env fun E hE => ?_
  have g0 : E 0 = v := by rw [hE]; simp only [ruU, entryE, Nat.reduceLT, Nat.reduceAdd, Nat.reduceMul, Nat.reduceEqDiff]
  have g1 : E 1 = .func (.func 28) ⟨[]⟩ ⟨[.pointer (some ⟨bw, 0, none⟩)]⟩ := by rw [hE]; simp only [ruU, entryE, Nat.reduceLT, Nat.reduceAdd, Nat.reduceMul, Nat.reduceEqDiff]
  have g7 : E 7 = .int .i64 (g.length : Int) := by rw [hE]; simp only [ruU, entryE, Nat.reduceLT, Nat.reduceAdd, Nat.reduceMul, Nat.reduceEqDiff]
  have g8 : E 8 = .int .i64 ((0 : Nat) : Int) := by rw [hE]; (simp only [ruU, entryE, Nat.reduceLT, Nat.reduceAdd, Nat.reduceMul, Nat.reduceEqDiff] <;> rfl)
  clear hE
  refine blockC_meet (fun E' H' => H' = ext H []) ?_ ?_
  · refine w_loop (fun (k : Nat) E' H' => H' = ext H [] ∧ E' 0 = v ∧ E' 1 = .func (.func 28) ⟨[]⟩ ⟨[.pointer (some ⟨bw, 0, none⟩)]⟩ ∧ E' 7 = .int .i64 (g.length : Int) ∧ E' 8 = .int .i64 (k : Int) ∧ k ≤ g.length) (fun k => g.length - k) 0
      ⟨rfl, g0, g1, g7, g8, Nat.zero_le _⟩ ?_
    clear g0 g1 g7 g8
    rintro k E H' ⟨hH, g0, g1, g7, g8, hk⟩
    rw [hH]
    by_cases hkl : k = g.length
    · have hc : decide ((k : Int) < (g.length : Int)) = false := by simp [hkl]
      simp (maxDischargeDepth := 6) only [g0, g1, g7, g8, hc, ruW, putL, Nat.reduceLeDiff, xF, ruU, entryE, Nat.reduceLT, Nat.reduceAdd, Nat.reduceMul, Nat.reduceEqDiff]
      exact joinR_normal rfl
    · have hlt : k < g.length := by omega
      have hc : decide ((k : Int) < (g.length : Int)) = true := decide_eq_true (by omega)
      rcases hg with ⟨h, _⟩ | ⟨_, n1, o1, s1, x1, t1, p1, L1, rfl, b1, n1l, le1, tk1⟩
      · rw [h] at hlt; simp at hlt
      obtain ⟨w1, hr1⟩ : ∃ r, g[k]? = some r := ⟨_, List.getElem?_eq_getElem hlt⟩
      obtain ⟨u1, hu1, ra1⟩ := tk1 k w1 hr1
      have i1 := grid_ia (n := n1) (off := o1) (s := s1) (cap := x1) (i := (k : Int)) rfl hlt
      have q1 := grid_load (e := t1) (o := p1) hu1
      rw [hb] at n1l
      obtain ⟨hwh, hwl⟩ := hw w1 (List.mem_of_getElem? hr1)
      have hna := narrow_c (ext H []) u1 w1 W bw ra1 hwh hwl hW hbw
      simp (maxDischargeDepth := 6) only [g0, g1, g7, g8, hb, hc, i1, b1, n1l, q1, ruW, putL, Nat.reduceLeDiff, xF, ruU, entryE, Nat.reduceLT, Nat.reduceAdd, Nat.reduceMul, Nat.reduceEqDiff]
      refine w_callV (f := 28) (ca := [.pointer (some ⟨bw, 0, none⟩)]) (by simp only [ruU, entryE, Nat.reduceLT, Nat.reduceAdd, Nat.reduceMul, Nat.reduceEqDiff]) (by simp only [g1, ruU, entryE, Nat.reduceLT, Nat.reduceAdd, Nat.reduceMul, Nat.reduceEqDiff]) (by simp only [ruU, entryE, Nat.reduceLT, Nat.reduceAdd, Nat.reduceMul, Nat.reduceEqDiff]) (by kernel_rfl) ?_
      simp only [ruU, entryE, Nat.reduceLT, Nat.reduceAdd, Nat.reduceMul, Nat.reduceEqDiff]
      refine (show CallS Tryd.prog 28 _ (ext H []) _ (ext H []) from hna).to ?_
      simp (maxDischargeDepth := 6) only [g0, g1, g7, g8, wrap_succ (show k < 1000000 by omega), ruW, putL, Nat.reduceLeDiff, xF, ruU, entryE, Nat.reduceLT, Nat.reduceAdd, Nat.reduceMul, Nat.reduceEqDiff]
      refine loopC_next ⟨k + 1, by omega, rfl, ?_, ?_, ?_, ?_, by omega⟩ <;> simp only [g0, g1, g7, g8, ruU, entryE, Nat.reduceLT, Nat.reduceAdd, Nat.reduceMul, Nat.reduceEqDiff]
  · rintro E H' hH
    rw [hH]
    simp (maxDischargeDepth := 6) only [Tryd.results37, ruW, putL, Nat.reduceLeDiff, xF, ruU, entryE, Nat.reduceLT, Nat.reduceAdd, Nat.reduceMul, Nat.reduceEqDiff]
    exact Fin.pure rfl

theorem contains_c (H : AHeap) (v : Value) (g : List (List Ce)) (W bw : Nat) (hg : GridAt H v g) (hw : ∀ l ∈ g, Whole l ∧ l.length = W) (hW : W < 1000000) (hgl : g.length < 1000000) (hbw : bk H bw = some ⟨3, false, [.int .i64 (W : Int)]⟩) :
    Pure 27 [v, .func (.func 28) ⟨[]⟩ ⟨[.pointer (some ⟨bw, 0, none⟩)]⟩] H (.bool false) := by
  have hi := index_c (ext H []) v g W bw hg hw hW hgl hbw
  refine callS_fn mixed Tryd.func27 rfl Tryd.ntmps27 (Nat.le_of_ble_eq_true rfl) fun wf hsc => ?_
  simp (maxDischargeDepth := 6) only [ruW, putL, Nat.reduceLeDiff, xF, ruU, entryE, Nat.reduceLT, Nat.reduceAdd, Nat.reduceMul, Nat.reduceEqDiff]
  refine hi.to ?_
  have hd : decide ((0 : Int) ≤ -1) = false := by decide
  simp (maxDischargeDepth := 6) only [hd, Tryd.results27, ruW, putL, Nat.reduceLeDiff, xF, ruU, entryE, Nat.reduceLT, Nat.reduceAdd, Nat.reduceMul, Nat.reduceEqDiff]
  exact Fin.pure rfl

set_option maxHeartbeats 2000000 in
theorem check_c (H : AHeap) (v : Value) (g : List (List Ce)) (W : Nat) (r c : Int) (hg : GridAt H v g) (hw : ∀ l ∈ g, Whole l ∧ l.length = W) (h1 : 1 ≤ g.length) (h2 : g.length ≤ 200) (w1 : 1 ≤ W) (w2 : W ≤ 1000) (hcur : (0 ≤ r ∧ r < g.length ∧ 0 ≤ c ∧ c < W) ∨ (r = -1 ∧ c = 0)) :
    Pure 14 [.agg ⟨[v, .int .i64 r, .int .i64 c]⟩] H (.int .i64 0) := by
  obtain ⟨b, hb⟩ : ∃ b, H.next = b := ⟨_, rfl⟩
  obtain ⟨h, hh⟩ : ∃ h, g.length = h := ⟨_, rfl⟩
  refine callS_fn mixed Tryd.func14 rfl Tryd.ntmps14 (Nat.le_of_ble_eq_true rfl) fun wf hsc => ?_
  have hbase : H.base ≤ b := hb ▸ wf.base
  have hg' := hg
  rcases hg with ⟨h', _⟩ | ⟨_, n1, o1, s1, x1, t1, p1, L1, rfl, b1, n1l, le1, tk1⟩
  · rw [h'] at h1; simp at h1
  obtain ⟨r0, hr0⟩ : ∃ q, g[0]? = some q := ⟨_, List.getElem?_eq_getElem (by omega)⟩
  obtain ⟨u0, hu0, ra0⟩ := tk1 0 r0 hr0
  obtain ⟨a0, k0, e0⟩ := ra0.sl
  have hl0 := (hw r0 (List.mem_of_getElem? hr0)).2
  rw [hl0] at e0
  rw [e0] at hu0
  have i1 := grid_ia (n := n1) (off := o1) (s := s1) (cap := x1) (i := ((0 : Nat) : Int)) rfl (show 0 < g.length by omega)
  rw [show ((0 : Nat) : Int) = 0 from rfl] at i1
  have q1 := grid_load (e := t1) (o := p1) hu0
  rw [Nat.add_zero] at q1 i1
  rw [hh] at i1 hg' ⊢
  have hlt := n1l
  rw [hb] at hlt
  have k1 : decide ((h : Int) < 1) = false := decide_eq_false (by omega)
  have k2 : decide ((200 : Int) < (h : Int)) = false := decide_eq_false (by omega)
  have k3 : decide ((W : Int) < 1) = false := decide_eq_false (by omega)
  have k4 : decide ((1000 : Int) < (W : Int)) = false := decide_eq_false (by omega)
  have hB1 : ∀ A : Bl, bk (ext H [A, ⟨3, false, [.int .i64 (W : Int)]⟩]) (b + 1) = some ⟨3, false, [.int .i64 (W : Int)]⟩ := fun A => by rw [bk_at hb (by simp)]; rfl
  rcases hcur with ⟨c1, c2, c3, c4⟩ | ⟨rfl, rfl⟩
  · have d1 : decide ((0 : Int) ≤ r) = true := decide_eq_true c1
    have d2 : decide (r < (h : Int)) = true := decide_eq_true (by omega)
    have d3 : decide ((0 : Int) ≤ c) = true := decide_eq_true c3
    have d4 : decide (c < (W : Int)) = true := decide_eq_true c4
    simp (maxDischargeDepth := 6) only [hb, hbase, hlt, b1, i1, q1, k1, k2, k3, k4, d1, d2, d3, d4, ruW, putL, Nat.reduceLeDiff, xF, ruU, entryE, Nat.reduceLT, Nat.reduceAdd, Nat.reduceMul, Nat.reduceEqDiff]
    refine (contains_c (ext H [⟨35, false, [.slice (some ⟨n1, o1, s1⟩) h x1, .int .i64 r, .int .i64 c]⟩, ⟨3, false, [.int .i64 (W : Int)]⟩]) _ g W (b + 1) hg'.ext hw (by omega) (by omega) (hB1 _)).to ?_
    simp (maxDischargeDepth := 6) only [Tryd.results14, ruW, putL, Nat.reduceLeDiff, xF, ruU, entryE, Nat.reduceLT, Nat.reduceAdd, Nat.reduceMul, Nat.reduceEqDiff]
    exact Fin.pureE rfl rfl
  · have d1 : decide ((0 : Int) ≤ -1) = false := by decide
    simp (maxDischargeDepth := 6) only [hb, hbase, hlt, b1, i1, q1, k1, k2, k3, k4, d1, Int.reduceEq, decide_true, not_true_eq_false, decide_false, ruW, putL, Nat.reduceLeDiff, xF, ruU, entryE, Nat.reduceLT, Nat.reduceAdd, Nat.reduceMul, Nat.reduceEqDiff]
    refine (contains_c (ext H [⟨35, false, [.slice (some ⟨n1, o1, s1⟩) h x1, .int .i64 (-1), .int .i64 0]⟩, ⟨3, false, [.int .i64 (W : Int)]⟩]) _ g W (b + 1) hg'.ext hw (by omega) (by omega) (hB1 _)).to ?_
    simp (maxDischargeDepth := 6) only [Tryd.results14, ruW, putL, Nat.reduceLeDiff, xF, ruU, entryE, Nat.reduceLT, Nat.reduceAdd, Nat.reduceMul, Nat.reduceEqDiff]
    exact Fin.pureE rfl rfl

end Go.Proofs.YtpohjcacnkhnkaaDoor

/- A byte keeps the screen's measures. -/
namespace Go.Proofs.YtpohjcacnkhnkaaDoor
open Go.Ax
set_option linter.unusedSimpArgs false

def Dm (x y : Tm) : Prop := y.h = x.h ∧ y.w = x.w
theorem Dm.rfl {x : Tm} : Dm x x := ⟨Eq.refl _, Eq.refl _⟩
theorem Dm.trans {x y z : Tm} (a : Dm x y) (b : Dm y z) : Dm x z := ⟨b.1.trans a.1, b.2.trans a.2⟩
theorem Dm.of {x y : Tm} (h : y.grid = x.grid) : Dm x y := by simp only [Dm, Tm.h, Tm.w, h, and_self]
theorem Dm.set {x y z : Tm} (a : Dm x y) (h : z.grid = y.grid) : Dm x z := a.trans (Dm.of h)

theorem roll_dm {x : Tm} (s : x.Sz) {top bot n : Nat} (up : Bool) (h1 : top ≤ bot) (h2 : bot < x.h) : Dm x (x.roll top bot n up) := by
  obtain ⟨e1, e2, _⟩ := roll_hw (n := n) s up h1 h2
  exact ⟨e1, e2⟩
theorem control_dm {x : Tm} (s : x.Sz) (c : Int) : Dm x (x.control c) := by
  unfold Tm.control
  split
  · exact Dm.of rfl
  · split
    · exact Dm.of rfl
    · split
      · split
        · obtain ⟨t, ht⟩ : ∃ r : Nat, x.top = r := ⟨x.top.toNat, by have := s.t1; omega⟩
          obtain ⟨b, hb⟩ : ∃ b : Nat, x.bottom = b := ⟨x.bottom.toNat, by have := s.t1; have := s.t2; omega⟩
          rw [ht, hb]
          exact roll_dm s (n := 1) true (by have := s.t2; omega) (by have := s.t3; omega)
        · exact Dm.of rfl
      · split
        · exact Dm.of rfl
        · exact Dm.rfl
theorem written_dm {x : Tm} (s : x.Sz) {r c n : Nat} {ch : Int} (hr : r < x.h) (hcn : c + n ≤ x.w) (hch : ch ≠ -1) : Dm x (x.written r c n ch) := by
  have s1 := s.blank hr (show c ≤ c + n by omega) hcn
  have h1 := blank_hw s hr (show c ≤ c + n by omega) hcn
  have s2 := s1.put (i := c) (c := ⟨ch, x.pen⟩) (by rw [h1.1]; exact hr) (.inl hch)
  have h2 := put_hw s1 (i := c) (c := ⟨ch, x.pen⟩) (by rw [h1.1]; exact hr)
  have a : Dm x ((x.blank r c (c + n : Nat)).put r c ⟨ch, x.pen⟩) := Dm.trans ⟨h1.1, h1.2⟩ ⟨h2.1, h2.2⟩
  unfold Tm.written
  simp only
  split
  · have h3 := put_hw s2 (i := c + 1) (c := ⟨-1, x.pen⟩) (by rw [h2.1, h1.1]; exact hr)
    exact (a.trans ⟨h3.1, h3.2⟩).set rfl
  · exact a.set rfl
theorem character_dm {u : Uni} {x : Tm} (s : x.Sz) (ch : Int) : Dm x (x.character u ch) := by
  unfold Tm.character
  split
  · exact control_dm s ch
  · rename_i hc
    obtain ⟨r, hr⟩ : ∃ r : Nat, x.row = r := ⟨x.row.toNat, by have := s.r1; omega⟩
    obtain ⟨c, hc'⟩ : ∃ c : Nat, x.col = c := ⟨x.col.toNat, by have := s.c1; omega⟩
    rw [tm_write u x ch r c hr hc']
    split
    · exact Dm.rfl
    · rename_i h
      exact written_dm s (by have := s.r2; omega) (by omega) (by omega)
theorem eraseRows_dm (l : List Int) : ∀ (k i : Nat) {x : Tm}, x.Sz → i + k ≤ x.h → Dm x (Tm.eraseRows l i k x)
  | 0, _, _, _, _ => Dm.rfl
  | k + 1, i, x, s, h => by
    rw [eraseRows_step]
    obtain ⟨a, b, c, _⟩ := s.eraseOne l (i := i) (by omega)
    exact Dm.trans ⟨b, c⟩ (eraseRows_dm l k (i + 1) a (by omega))
theorem eraseAll_dm {x : Tm} (s : x.Sz) (l : List Int) : Dm x (x.eraseAll l) := by
  obtain ⟨a, b, c, _⟩ := s.eraseRow l
  exact Dm.trans ⟨b, c⟩ (eraseRows_dm l _ _ a (by rw [b]; simp [Tm.h]))
theorem lines_dm {x : Tm} (s : x.Sz) (n : Nat) (up : Bool) : Dm x (x.lines n up) := by
  unfold Tm.lines
  split
  · rename_i h
    obtain ⟨r, hr⟩ : ∃ r : Nat, x.row = r := ⟨x.row.toNat, by have := s.r1; omega⟩
    obtain ⟨b, hb⟩ : ∃ b : Nat, x.bottom = b := ⟨x.bottom.toNat, by have := s.t1; have := s.t2; omega⟩
    rw [hr, hb]
    have := s.t3
    exact roll_dm s up (by omega) (by omega)
  · exact Dm.rfl
theorem doFinal_dm {x : Tm} (s : x.Sz) (f : UInt8) (l : List Int) (hl : 1 ≤ count l) : Dm x (x.doFinal f l) := by
  obtain ⟨n, hn⟩ : ∃ n : Nat, count l = n := ⟨(count l).toNat, by omega⟩
  unfold Tm.doFinal
  by_cases h0 : f = 65
  · rw [if_pos h0]; exact Dm.of rfl
  rw [if_neg h0]
  by_cases h1 : f = 66
  · rw [if_pos h1]; exact Dm.of rfl
  rw [if_neg h1]
  by_cases h2 : f = 67
  · rw [if_pos h2]; exact Dm.of rfl
  rw [if_neg h2]
  by_cases h3 : f = 68
  · rw [if_pos h3]; exact Dm.of rfl
  rw [if_neg h3]
  by_cases h4 : f = 71
  · rw [if_pos h4]; exact Dm.of rfl
  rw [if_neg h4]
  by_cases h5 : f = 100
  · rw [if_pos h5]; exact Dm.of rfl
  rw [if_neg h5]
  by_cases h6 : f = 72 ∨ f = 102
  · rw [if_pos h6]; exact Dm.of rfl
  rw [if_neg h6]
  by_cases h7 : f = 74
  · rw [if_pos h7]; exact eraseAll_dm s l
  rw [if_neg h7]
  by_cases h8 : f = 75
  · rw [if_pos h8]; exact ⟨(s.eraseRow l).2.1, (s.eraseRow l).2.2.1⟩
  rw [if_neg h8]
  by_cases h9 : f = 76
  · rw [if_pos h9]; rw [hn]; exact lines_dm s _ _
  rw [if_neg h9]
  by_cases h10 : f = 77
  · rw [if_pos h10]; rw [hn]; exact lines_dm s _ _
  rw [if_neg h10]
  by_cases h11 : f = 109
  · rw [if_pos h11]; exact Dm.of rfl
  rw [if_neg h11]
  by_cases h12 : f = 114
  · rw [if_pos h12, tm_region]
    split
    · exact Dm.of rfl
    · exact Dm.rfl
  rw [if_neg h12]
  exact Dm.rfl
theorem execute_dm {x : Tm} (s : x.Sz) (f : UInt8) : Dm x (x.execute f) := by
  unfold Tm.execute
  split
  · exact Dm.of rfl
  · split
    · exact doFinal_dm s f _ (count_pos _)
    · exact Dm.rfl
theorem parameter_dm {x : Tm} (s : x.Sz) (c : UInt8) : Dm x (x.parameter c).1 := by
  unfold Tm.parameter
  by_cases h1 : c = 27
  · rw [if_pos h1]; exact Dm.rfl
  rw [if_neg h1]
  by_cases h2 : 64 ≤ c ∧ c ≤ 126
  · rw [if_pos h2]
    simp only
    split
    · exact execute_dm s c
    · exact Dm.rfl
  rw [if_neg h2]
  by_cases h3 : c < 32 ∨ c > 126 ∨ (c ≥ 48 ∧ x.middle = true)
  · rw [if_pos h3]; exact Dm.rfl
  rw [if_neg h3]
  simp only
  split
  · exact Dm.of rfl
  · exact Dm.of rfl
theorem second_dm {x : Tm} (s : x.Sz) (c : UInt8) : Dm x (x.second c).1 := by
  unfold Tm.second
  by_cases h1 : c = 91
  · rw [if_pos h1]; exact Dm.of rfl
  rw [if_neg h1]
  by_cases h2 : c = 93
  · rw [if_pos h2]; exact Dm.of rfl
  rw [if_neg h2]
  by_cases h3 : c = 27
  · rw [if_pos h3]; exact Dm.rfl
  rw [if_neg h3]
  by_cases h4 : 32 ≤ c ∧ c < 48
  · rw [if_pos h4]; exact Dm.rfl
  rw [if_neg h4]
  by_cases h5 : c = 55
  · rw [if_pos h5]; exact Dm.of rfl
  rw [if_neg h5]
  by_cases h6 : c = 56
  · rw [if_pos h6]; exact Dm.of rfl
  rw [if_neg h6]
  by_cases h7 : c = 99
  · rw [if_pos h7]; exact ⟨new_h x.h x.w, new_w x.w s.h1⟩
  rw [if_neg h7]
  by_cases h8 : c = 77 ∧ x.row = x.top
  · rw [if_pos h8]
    obtain ⟨t, ht⟩ : ∃ r : Nat, x.top = r := ⟨x.top.toNat, by have := s.t1; omega⟩
    obtain ⟨b, hb⟩ : ∃ b : Nat, x.bottom = b := ⟨x.bottom.toNat, by have := s.t1; have := s.t2; omega⟩
    simp only [ht, hb]
    exact roll_dm s (n := 1) false (by have := s.t2; omega) (by have := s.t3; omega)
  rw [if_neg h8]
  by_cases h9 : c = 77
  · rw [if_pos h9]; exact Dm.of rfl
  rw [if_neg h9]; exact Dm.rfl
theorem drain_dm : ∀ (k : Nat) (x : Tm), x.Sz → Dm x (Tm.drain uni k x).1
  | 0, x, _ => Dm.rfl
  | k + 1, x, s => by
    rw [Tm.drain]
    by_cases h : x.rest ≠ [] ∧ uni.full x.rest = true
    · rw [if_pos h]
      by_cases h2 : x.rest.headD 0 = 27
      · rw [if_pos h2]
        exact Dm.of rfl
      · rw [if_neg h2]
        obtain ⟨r, n, e⟩ : ∃ r n, uni.dec x.rest = (r, n) := ⟨_, _, rfl⟩
        simp only [e]
        obtain ⟨y, hy⟩ : ∃ y, (if r ≠ 65533 ∨ n > 1 then x.character uni r else x) = y := ⟨_, rfl⟩
        rw [hy]
        have sy : y.Sz ∧ Dm x y := by
          rw [← hy]
          split
          · exact ⟨s.character r, character_dm s r⟩
          · exact ⟨s, Dm.rfl⟩
        have a : Dm x (y.withRest (y.rest.drop n)) := sy.2.set rfl
        exact a.trans (drain_dm k (y.withRest (y.rest.drop n)) (sy.1.withRest _))
    · rw [if_neg h]
      exact Dm.rfl
theorem byte_dm {x : Tm} (s : x.Sz) (c : UInt8) : Dm x (x.byte c).1 := by
  unfold Tm.byte
  split
  · have a : Dm x (x.withRest (x.rest ++ [c])) := Dm.of rfl
    exact a.trans (drain_dm (x.rest.length + 2) (x.withRest (x.rest ++ [c])) (s.withRest _))
  · exact second_dm s c
  · exact Dm.rfl
  · exact parameter_dm s c
  · unfold Tm.ignore
    split
    · exact Dm.rfl
    · exact Dm.of rfl
theorem feed_dm {x : Tm} (s : x.Sz) (hp : x.params.length ≤ 65) : ∀ (bs : List UInt8), Dm x (x.feed uni bs)
  | [] => Dm.rfl
  | c :: bs => by
    obtain ⟨a, b, d, e⟩ := byte_sz s hp c
    have h := feed_dm (x := (x.byte c).1.withMode (x.byte c).2) (a.withMode b) d bs
    rw [← step_eq] at h
    have h0 : Dm x (x.step uni c) := by rw [step_eq]; exact (byte_dm s c).set rfl
    exact h0.trans h

end Go.Proofs.YtpohjcacnkhnkaaDoor

/- The walk of TermValid. -/
namespace Go.Proofs.YtpohjcacnkhnkaaDoor
open Go.Ax
set_option linter.unusedSimpArgs false
set_option maxRecDepth 10000

set_option maxHeartbeats 4000000 in
theorem valid_c (H : AHeap) (h w : Int) (s : ByteArray) (ok : H.base ≤ H.next) (tab : Tab H) (tb : Tabs H) :
    CallA Tryd.prog 4 [.int .i64 h, .int .i64 w, .string s] H fun out H1 => out = .ok (.bool true) ∧ Mod [] H H1 := by
  obtain ⟨T, hT⟩ : ∃ T, s.size = T := ⟨_, rfl⟩
  have hTl : (bsOf s).length = T := by rw [← bs_size, hT]
  have hls : ∀ (Y : AHeap), aBuiltin Tryd.prog Y .len ⟨[9]⟩ [.string s] = some (.int .i64 (T : Int), Y) := fun Y => by
    have h2 : Tryd.prog.underlying 9 = some .string := by kernel_rfl
    rw [← hT]
    simp only [aBuiltin, aLen, h2, Option.map_some, goInt]
  obtain ⟨d600, hd600⟩ : ∃ d, decide ((600 : Int) < (T : Int)) = d := ⟨_, rfl⟩
  obtain ⟨d40, hd40⟩ : ∃ d, decide ((40 : Int) < h) = d := ⟨_, rfl⟩
  obtain ⟨d100, hd100⟩ : ∃ d, decide ((100 : Int) < w) = d := ⟨_, rfl⟩
  refine callE_fn mixed Tryd.func4 rfl Tryd.ntmps4 (Nat.le_of_ble_eq_true rfl) ?_
  simp (maxDischargeDepth := 6) only [ruW, putL, Nat.reduceLeDiff, xF, ruU, entryE, Nat.reduceLT, Nat.reduceAdd, Nat.reduceMul, Nat.reduceEqDiff]
  refine (lives_c (ext H []) tab).to ?_
  cases hbig : (d600 || (d40 || d100)) with
  | true =>
    cases d600 <;> cases d40 <;> cases d100 <;> first
      | (exfalso; revert hbig; decide)
      | (simp (maxDischargeDepth := 6) only [hls, hd600, hd40, hd100, Tryd.results4, ruW, putL, Nat.reduceLeDiff, xF, ruU, entryE, Nat.reduceLT, Nat.reduceAdd, Nat.reduceMul, Nat.reduceEqDiff]
         exact ⟨trivial, Mod.refl⟩)
  | false =>
  have hd6 : d600 = false := by cases d600 <;> first | rfl | (exfalso; revert hbig; cases d40 <;> cases d100 <;> decide)
  have hd4 : d40 = false := by cases d40 <;> first | rfl | (exfalso; revert hbig; cases d600 <;> cases d100 <;> decide)
  have hd1 : d100 = false := by cases d100 <;> first | rfl | (exfalso; revert hbig; cases d600 <;> cases d40 <;> decide)
  rw [hd6] at hd600
  rw [hd4] at hd40
  rw [hd1] at hd100
  have hT6 : T ≤ 600 := by have := of_decide_eq_false hd600; omega
  have hh4 : h ≤ 40 := by have := of_decide_eq_false hd40; omega
  have hw1 : w ≤ 100 := by have := of_decide_eq_false hd100; omega
  by_cases hbad : h < 1 ∨ w < 1
  · simp (maxDischargeDepth := 6) only [hls, hd600, hd40, hd100, ruW, putL, Nat.reduceLeDiff, xF, ruU, entryE, Nat.reduceLT, Nat.reduceAdd, Nat.reduceMul, Nat.reduceEqDiff]
    refine (new_err (ext H []) h w hbad hh4).to ?_
    simp (maxDischargeDepth := 6) only [Int.reduceEq, ne_eq, not_false_eq_true, decide_true, decide_false, not_true_eq_false, Tryd.results4, ruW, putL, Nat.reduceLeDiff, xF, ruU, entryE, Nat.reduceLT, Nat.reduceAdd, Nat.reduceMul, Nat.reduceEqDiff]
    exact ⟨trivial, Mod.refl⟩
  obtain ⟨hn, rfl⟩ : ∃ n : Nat, h = n := ⟨h.toNat, by omega⟩
  obtain ⟨wn, rfl⟩ : ∃ n : Nat, w = n := ⟨w.toNat, by omega⟩
  obtain ⟨X0, hX0⟩ : ∃ X, Tm.new hn wn = X := ⟨_, rfl⟩
  have hrest0 : X0.rest.length = 0 := by rw [← hX0]; simp [Tm.new]
  simp (maxDischargeDepth := 6) only [hls, hd600, hd40, hd100, ruW, putL, Nat.reduceLeDiff, xF, ruU, entryE, Nat.reduceLT, Nat.reduceAdd, Nat.reduceMul, Nat.reduceEqDiff]
  refine (new_live ok tb (by omega) (by omega) (by omega) (by omega)).mono ?_
  rintro _ H1 ⟨pt, rfl, lt1, m1, n1⟩
  rw [hX0] at lt1
  have ok1 := m1.ok ok
  rw [show H1 = ext H1 [] from rfl]
  simp (maxDischargeDepth := 6) only [Int.reduceEq, ne_eq, not_false_eq_true, decide_true, decide_false, not_true_eq_false, w_convert, str_bytes, ruW, putL, Nat.reduceLeDiff, xF, ruU, entryE, Nat.reduceLT, Nat.reduceAdd, Nat.reduceMul, Nat.reduceEqDiff]
  refine (feedStr_c H1 pt X0 s lt1 ok1 (by omega)).mono ?_
  rintro _ H4 ⟨rfl, pt', st4⟩
  have ok4 := st4.ok ok1
  have lt4 := lt1.step st4
  have mH4 : Mod [] H H4 := m1.step st4.mod ok (fun n hn' => .inr (n1 n hn'))
  obtain ⟨F, hF⟩ : ∃ F, X0.feed uni (bsOf s) = F := ⟨_, rfl⟩
  have hFhw : F.h = hn ∧ F.w = wn := by
    have hd := feed_dm lt1.sz (by rw [← hX0]; simp [Tm.new]) (bsOf s)
    rw [hF] at hd
    refine ⟨hd.1.trans ?_, hd.2.trans ?_⟩ <;> rw [← hX0]
    · exact new_h hn wn
    · exact new_w wn (by omega)
  have hFv : ∀ l ∈ F.grid, Whole l := by
    rw [← hF, ← hX0]
    exact fed_whole (by omega) (by omega) (by omega) (by omega) _
  rw [hF] at lt4
  rw [show H4 = ext H4 [] from rfl]
  simp (maxDischargeDepth := 6) only [ruW, putL, Nat.reduceLeDiff, xF, ruU, entryE, Nat.reduceLT, Nat.reduceAdd, Nat.reduceMul, Nat.reduceEqDiff]
  have hsc := screen_c H4 pt' F lt4.at_ lt4.sz ok4
  rw [show pt'.t = pt.t from st4.same] at hsc
  refine hsc.mono ?_
  rintro _ H10 ⟨rs, n, rfl, hrl, ho, m10⟩
  have ok10 := m10.ok ok4
  have mH10 := mH4.trans m10
  have hFg : F.grid.length = F.h := rfl
  have hF1 := lt4.sz.h1
  have hFw1 := lt4.sz.w1
  have hFws := lt4.sz.ws
  obtain ⟨y, hy⟩ : ∃ y, H10.next = y := ⟨_, rfl⟩
  have hyb : H10.base ≤ y := hy ▸ ok10
  have hnb := own_ne ho hFg hrl hF1
  have hny : n < y := hy ▸ (hnb n (by simp)).2.2
  have hgr := own_grid (K := H10) ho hFg hrl hF1 hFw1 hFws rfl (fun _ _ => rfl)
  rw [show H10 = ext H10 [] from rfl]
  obtain ⟨e1, e2⟩ := hFhw
  have hgr0 := hgr
  rcases hgr0 with ⟨h', _⟩ | ⟨_, n1, o1, s1, x1, t1, p1, L1, hv1, b1, n1l, le1, tk1⟩
  · rw [h'] at hFg; simp at hFg; omega
  simp only [Value.slice.injEq, Option.some.injEq, Addr.mk.injEq] at hv1
  obtain ⟨⟨rfl, rfl, rfl⟩, _, rfl⟩ := hv1
  obtain ⟨r0, hr0⟩ : ∃ q, F.grid[0]? = some q := ⟨_, List.getElem?_eq_getElem (by omega)⟩
  obtain ⟨u0, hu0, ra0⟩ := tk1 0 r0 hr0
  obtain ⟨a0, k0, e0⟩ := ra0.sl
  rw [hFws r0 (List.mem_of_getElem? hr0)] at e0
  rw [e0] at hu0
  have i1 := grid_ia (n := n) (off := 0) (s := none) (cap := F.h) (len := F.h) (i := ((0 : Nat) : Int)) rfl (by omega)
  rw [show ((0 : Nat) : Int) = 0 from rfl] at i1
  have q1 := grid_load (e := t1) (o := p1) hu0
  rw [Nat.add_zero] at q1 i1
  have hi := inside_rg lt4.sz
  have hcur : (0 ≤ F.curRow ∧ F.curRow < F.grid.length ∧ 0 ≤ F.curCol ∧ F.curCol < F.w) ∨ (F.curRow = -1 ∧ F.curCol = 0) := by
    have := lt4.sz.r1
    have := lt4.sz.r2
    unfold Tm.curRow Tm.curCol
    cases F.shown
    · exact .inr ⟨rfl, rfl⟩
    · simp only [cond_true]
      exact .inl ⟨by omega, by omega, by omega, by omega⟩
  have hck := check_c (ext H10 [⟨35, false, [.slice (some ⟨n, 0, none⟩) F.h F.h, .int .i64 F.curRow, .int .i64 F.curCol]⟩]) _ F.grid F.w F.curRow F.curCol hgr.ext (fun l hl => ⟨hFv l hl, hFws l hl⟩) (by omega) (by omega) hFw1 (by omega) hcur
  have d1 : decide ((F.h : Int) = (hn : Int)) = true := decide_eq_true (by omega)
  have d2 : decide ((F.w : Int) = (wn : Int)) = true := decide_eq_true (by omega)
  simp (maxDischargeDepth := 6) only [hy, hyb, hny, b1, i1, q1, d1, d2, ruW, putL, Nat.reduceLeDiff, xF, ruU, entryE, Nat.reduceLT, Nat.reduceAdd, Nat.reduceMul, Nat.reduceEqDiff]
  refine hck.to ?_
  simp (maxDischargeDepth := 6) only [hy, hyb, hny, Tryd.results4, ruW, putL, Nat.reduceLeDiff, xF, ruU, entryE, Nat.reduceLT, Nat.reduceAdd, Nat.reduceMul, Nat.reduceEqDiff]
  exact ⟨by rw [decide_true], mH10.trans (Mod.ext ok10)⟩

end Go.Proofs.YtpohjcacnkhnkaaDoor
