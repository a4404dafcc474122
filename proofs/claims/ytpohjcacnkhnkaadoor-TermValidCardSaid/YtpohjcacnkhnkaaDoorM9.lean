/- Parts of the proof, one behind the other. -/
import Derived.Test.YtpohjcacnkhnkaaDoorM8
import Derived.Test.YtpohjcacnkhnkaaDoorRows
import Derived.ProofKit
import Derived.Carry
import Derived.OpenShut
import Derived.LaidMore
import Derived.Lay
set_option linter.all false

/- What second comes to. -/
namespace Go.Proofs.YtpohjcacnkhnkaaDoor
open Go.Ax
set_option linter.unusedSimpArgs false
set_option maxRecDepth 10000

theorem Tm.Sz.saved {x : Tm} (s : x.Sz) : Tm.Sz { x with srow := x.row, scol := x.col, spen := x.pen } :=
  ⟨s.h1, s.h2, s.w1, s.w2, s.ws, s.r1, s.r2, s.c1, s.c2, s.r1, s.r2, s.c1, s.c2, s.t1, s.t2, s.t3, s.md, s.hd⟩
theorem Tm.Sz.restored {x : Tm} (s : x.Sz) : Tm.Sz { x with row := x.srow, col := x.scol, pen := x.spen } :=
  ⟨s.h1, s.h2, s.w1, s.w2, s.ws, s.sr1, s.sr2, s.sc1, s.sc2, s.sr1, s.sr2, s.sc1, s.sc2, s.t1, s.t2, s.t3, s.md, s.hd⟩
theorem Tm.Sz.withLast {x : Tm} (s : x.Sz) (c : UInt8) : Tm.Sz { x with last := c } :=
  ⟨s.h1, s.h2, s.w1, s.w2, s.ws, s.r1, s.r2, s.c1, s.c2, s.sr1, s.sr2, s.sc1, s.sc2, s.t1, s.t2, s.t3, s.md, s.hd⟩

theorem TmAt.fresh {H V : AHeap} {p p1 : Rp} {x y : Tm} (g : TmAt H p x) (g1 : TmAt V p1 y) (mV : Mod [] H V) (hn : ∀ n ∈ p1.blks, H.next ≤ n) (hrv : p1.rv = .slice none 0 0) (hpv : p1.pv = .slice none 0 0) :
    Step H p (ext (uw V p.t 0 (cellsT p1 y)) []) { p1 with t := p.t } y := by
  have hT := g.lt p.t (by simp [Rp.blks])
  have hTV : bk V p.t = some ⟨49, false, cellsT p x⟩ := (mV.bk hT (by simp)).trans g.cell
  have hge : ∀ n ∈ p1.rb :: (p1.rs.map (·.1) ++ idsV p1.rv ++ idsV p1.pv), H.next ≤ n ∧ n < V.next := fun n hn' => ⟨hn n (by simp only [Rp.blks, List.mem_cons]; exact .inr (List.mem_cons.1 hn')), g1.lt n (by simp only [Rp.blks, List.mem_cons]; exact .inr (List.mem_cons.1 hn'))⟩
  have hget : ∀ n ∈ p1.rb :: (p1.rs.map (·.1) ++ idsV p1.rv ++ idsV p1.pv), (ext (uw V p.t 0 (cellsT p1 y)) []).get n = V.get n := fun n hn' => by
    rw [ext_nil]; exact uw_get (by have := (hge n hn').1; omega)
  have hnd := List.nodup_cons.1 g1.nd
  refine ⟨⟨?_, ?_, g1.len, ?_, ?_, ?_, ?_, ?_⟩, ?_, rfl, ?_⟩
  · rw [ext_nil, bk_uw_eq, hTV]
    refine congrArg (fun l => some (Bl.mk 49 false l)) ?_
    simp only [cellsT, putL]
  · rw [bk_get (hget _ (by simp))]; exact g1.rows
  · intro i q l hq hl
    rw [bk_get (hget q.1 (by simp only [List.mem_cons, List.mem_append, List.mem_map]; exact .inr (.inl (.inl ⟨q, List.mem_of_getElem? hq, rfl⟩))))]
    exact g1.row i q l hq hl
  · exact g1.rest.of fun n hn' => hget n (by simp [hn'])
  · exact g1.par.of fun n hn' => hget n (by simp [hn'])
  · simp only [Rp.blks] at hnd ⊢
    exact List.nodup_cons.2 ⟨fun hm => by have := (hge _ hm).1; omega, hnd.2⟩
  · intro n hn'
    rw [ext_nil, uw_next]
    simp only [Rp.blks] at hn'
    rcases List.mem_cons.1 hn' with rfl | h
    · exact mV.lt hT
    · exact (hge n h).2
  · refine (mV.mono (by simp)).trans (Mod.uw (by simp [Rp.blks]))
  · intro n hn'
    simp only [Rp.blks] at hn'
    rcases List.mem_cons.1 hn' with rfl | h
    · exact .inl (by simp [Rp.blks])
    · exact .inr (hge n h).1

theorem Tm.Sz.second {x : Tm} (s : x.Sz) (c : UInt8) : (x.second c).1.Sz := by
  unfold Tm.second
  by_cases h1 : c = 91
  · rw [if_pos h1]; exact s.withPar _ _
  rw [if_neg h1]
  by_cases h2 : c = 93
  · rw [if_pos h2]; exact s.withLast _
  rw [if_neg h2]
  by_cases h3 : c = 27
  · rw [if_pos h3]; exact s
  rw [if_neg h3]
  by_cases h4 : 32 ≤ c ∧ c < 48
  · rw [if_pos h4]; exact s
  rw [if_neg h4]
  by_cases h5 : c = 55
  · rw [if_pos h5]; exact s.saved
  rw [if_neg h5]
  by_cases h6 : c = 56
  · rw [if_pos h6]; exact s.restored
  rw [if_neg h6]
  by_cases h7 : c = 99
  · rw [if_pos h7]; exact new_sz s.h1 s.h2 s.w1 s.w2
  rw [if_neg h7]
  by_cases h8 : c = 77 ∧ x.row = x.top
  · rw [if_pos h8]
    obtain ⟨t, ht⟩ : ∃ r : Nat, x.top = r := ⟨x.top.toNat, by have := s.t1; omega⟩
    obtain ⟨b, hb⟩ : ∃ b : Nat, x.bottom = b := ⟨x.bottom.toNat, by have := s.t1; have := s.t2; omega⟩
    simp only [ht, hb]
    exact s.roll (n := 1) false (by have := s.t2; omega) (by have := s.t3; omega)
  rw [if_neg h8]
  by_cases h9 : c = 77
  · rw [if_pos h9]; exact s.atRow _ (by omega) (by have := s.r1; have := s.r2; omega)
  rw [if_neg h9]; exact s

set_option maxHeartbeats 4000000 in
theorem second2_c (H : AHeap) (p : Rp) (x : Tm) (c : UInt8) (g : TmAt H p x) (s : x.Sz) (ok : H.base ≤ H.next) : Does 19 [u8v c] H p (.int .i64 ((x.second c).2 : Int)) (x.second c).1 := by
  obtain ⟨b, hb⟩ : ∃ b, H.next = b := ⟨_, rfl⟩
  have hT : p.t < b := hb ▸ g.lt p.t (by simp [Rp.blks])
  have h1 := g.cell
  simp only [cellsT] at h1
  have q27 := u8_dec (c := c) (n := 27) (by omega)
  have q91 := u8_dec (c := c) (n := 91) (by omega)
  have q93 := u8_dec (c := c) (n := 93) (by omega)
  have q55 := u8_dec (c := c) (n := 55) (by omega)
  have q56 := u8_dec (c := c) (n := 56) (by omega)
  have q99 := u8_dec (c := c) (n := 99) (by omega)
  have q77 := u8_dec (c := c) (n := 77) (by omega)
  have q32 := u8_le (c := c) (n := 32) (by omega)
  have q48 := u8_lt (c := c) (n := 48) (by omega)
  simp only [Int.cast_ofNat_Int] at q27 q91 q93 q55 q56 q99 q77 q32 q48
  refine callE_fn mixed Tryd.func19 rfl Tryd.ntmps19 (Nat.le_of_ble_eq_true rfl) ?_
  by_cases h91 : c = 91
  · have hk : x.second c = ({ x with params := [], middle := false }, 3) := by unfold Tm.second; rw [if_pos h91]
    have t91 : decide ((c.toNat : Int) = 91) = true := by rw [q91]; exact decide_eq_true h91
    rw [hk]
    simp (maxDischargeDepth := 6) only [hb, hT, h1, t91, Tryd.results19, ruW, putL, Nat.reduceLeDiff, xF, ruU, entryE, Nat.reduceLT, Nat.reduceAdd, Nat.reduceMul, Nat.reduceEqDiff]
    refine ⟨rfl, _, g.rebytes (y := { x with params := [], middle := false }) p.rv (.slice none 0 0) (((Mod.uw (by simp)).trans (Mod.uw (by simp))) : Mod _ H (ext (uw (uw H p.t 20 [.slice none 0 0]) p.t 21 [.bool false]) [])) ?_ rfl ?_ (.inl ⟨rfl, rfl⟩) ?_ ?_⟩
    · rw [ext_nil, bk_uw_eq, bk_uw_eq, g.cell]; rfl
    · refine g.rest.of fun n hn => ?_
      have hne : n ≠ p.t := fun e => (List.nodup_cons.1 g.nd).1 (by rw [← e]; simp [hn])
      rw [ext_nil, uw_get hne, uw_get hne]
    · intro n hn
      simp only [idsV, List.append_nil] at hn
      exact .inl (by simp [hn])
    · simp only [idsV, List.append_nil]
      have hnd := (List.nodup_cons.1 (List.nodup_cons.1 g.nd).2).2
      rw [List.append_assoc] at hnd
      exact (List.nodup_append.1 (List.nodup_append.1 hnd).2.1).1
  have f91 : decide ((c.toNat : Int) = 91) = false := by rw [q91]; exact decide_eq_false h91
  by_cases h93 : c = 93
  · have hk : x.second c = ({ x with last := 0 }, 4) := by unfold Tm.second; rw [if_neg h91, if_pos h93]
    have t93 : decide ((c.toNat : Int) = 93) = true := by rw [q93]; exact decide_eq_true h93
    rw [hk]
    simp (maxDischargeDepth := 6) only [hb, hT, h1, f91, t93, Tryd.results19, ruW, putL, Nat.reduceLeDiff, xF, ruU, entryE, Nat.reduceLT, Nat.reduceAdd, Nat.reduceMul, Nat.reduceEqDiff]
    exact ⟨rfl, p, g.one (y := { x with last := 0 }) rfl rfl rfl rfl⟩
  have f93 : decide ((c.toNat : Int) = 93) = false := by rw [q93]; exact decide_eq_false h93
  by_cases h27 : c = 27
  · have hk : x.second c = (x, 1) := by unfold Tm.second; rw [if_neg h91, if_neg h93, if_pos h27]
    have t27 : decide ((c.toNat : Int) = 27) = true := by rw [q27]; exact decide_eq_true h27
    rw [hk]
    simp (maxDischargeDepth := 6) only [hb, hT, f91, f93, t27, Tryd.results19, ruW, putL, Nat.reduceLeDiff, xF, ruU, entryE, Nat.reduceLT, Nat.reduceAdd, Nat.reduceMul, Nat.reduceEqDiff]
    exact ⟨rfl, p, Step.refl g⟩
  have f27 : decide ((c.toNat : Int) = 27) = false := by rw [q27]; exact decide_eq_false h27
  by_cases h32 : 32 ≤ c ∧ c < 48
  · have hk : x.second c = (x, 2) := by unfold Tm.second; rw [if_neg h91, if_neg h93, if_neg h27, if_pos h32]
    have t32 : decide ((32 : Int) ≤ (c.toNat : Int)) = true := by rw [q32]; exact decide_eq_true h32.1
    have t48 : decide ((c.toNat : Int) < 48) = true := by rw [q48]; exact decide_eq_true h32.2
    rw [hk]
    simp (maxDischargeDepth := 6) only [hb, hT, f91, f93, f27, t32, t48, Tryd.results19, ruW, putL, Nat.reduceLeDiff, xF, ruU, entryE, Nat.reduceLT, Nat.reduceAdd, Nat.reduceMul, Nat.reduceEqDiff]
    exact ⟨rfl, p, Step.refl g⟩
  obtain ⟨d32, hd32⟩ : ∃ d, decide ((32 : Int) ≤ (c.toNat : Int)) = d := ⟨_, rfl⟩
  obtain ⟨d48, hd48⟩ : ∃ d, decide ((c.toNat : Int) < 48) = d := ⟨_, rfl⟩
  have hno : ¬ (d32 = true ∧ d48 = true) := fun h => h32 ⟨of_decide_eq_true (q32.symm.trans (hd32.trans h.1)), of_decide_eq_true (q48.symm.trans (hd48.trans h.2))⟩
  refine w_meet (fun E' H' => H' = H ∧ E' 0 = .pointer (some ⟨p.t, 0, none⟩) ∧ E' 1 = u8v c) ?_ ?_
  · simp (maxDischargeDepth := 6) only [ruW, putL, Nat.reduceLeDiff, xF, ruU, entryE, Nat.reduceLT, Nat.reduceAdd, Nat.reduceMul, Nat.reduceEqDiff]
    refine joinR_normal ⟨rfl, ?_, ?_⟩ <;> simp only [ruU, entryE, Nat.reduceLT, Nat.reduceAdd, Nat.reduceMul, Nat.reduceEqDiff]
  rintro E X ⟨hX, g0, g1⟩
  rw [hX, show H = ext H [] from rfl]
  by_cases h55 : c = 55
  · have hk : x.second c = ({ x with srow := x.row, scol := x.col, spen := x.pen }, 0) := by unfold Tm.second; rw [if_neg h91, if_neg h93, if_neg h27, if_neg h32, if_pos h55]
    have t55 : decide ((c.toNat : Int) = 55) = true := by rw [q55]; exact decide_eq_true h55
    rw [hk]
    cases d32 <;> cases d48 <;> first
      | exact absurd ⟨rfl, rfl⟩ hno
      | (simp (maxDischargeDepth := 6) only [g0, g1, hb, hT, h1, f91, f93, f27, hd32, hd48, t55, Tryd.results19, ruW, putL, Nat.reduceLeDiff, xF, ruU, entryE, Nat.reduceLT, Nat.reduceAdd, Nat.reduceMul, Nat.reduceEqDiff]
         exact ⟨rfl, p, g.one (y := { x with srow := x.row, scol := x.col, spen := x.pen }) rfl rfl rfl rfl⟩)
  have f55 : decide ((c.toNat : Int) = 55) = false := by rw [q55]; exact decide_eq_false h55
  by_cases h56 : c = 56
  · have hk : x.second c = ({ x with row := x.srow, col := x.scol, pen := x.spen }, 0) := by unfold Tm.second; rw [if_neg h91, if_neg h93, if_neg h27, if_neg h32, if_neg h55, if_pos h56]
    have t56 : decide ((c.toNat : Int) = 56) = true := by rw [q56]; exact decide_eq_true h56
    rw [hk]
    cases d32 <;> cases d48 <;> first
      | exact absurd ⟨rfl, rfl⟩ hno
      | (simp (maxDischargeDepth := 6) only [g0, g1, hb, hT, h1, f91, f93, f27, hd32, hd48, f55, t56, Tryd.results19, ruW, putL, Nat.reduceLeDiff, xF, ruU, entryE, Nat.reduceLT, Nat.reduceAdd, Nat.reduceMul, Nat.reduceEqDiff]
         exact ⟨rfl, p, g.one (y := { x with row := x.srow, col := x.scol, pen := x.spen }) rfl rfl rfl rfl⟩)
  have f56 : decide ((c.toNat : Int) = 56) = false := by rw [q56]; exact decide_eq_false h56
  by_cases h99 : c = 99
  · have hk : x.second c = (Tm.new x.h x.w, 0) := by unfold Tm.second; rw [if_neg h91, if_neg h93, if_neg h27, if_neg h32, if_neg h55, if_neg h56, if_pos h99]; rfl
    have t99 : decide ((c.toNat : Int) = 99) = true := by rw [q99]; exact decide_eq_true h99
    rw [hk]
    cases d32 <;> cases d48 <;> first
      | exact absurd ⟨rfl, rfl⟩ hno
      | skip
    all_goals
      simp (maxDischargeDepth := 6) only [g0, g1, hb, hT, h1, f91, f93, f27, hd32, hd48, f55, f56, t99, ruW, putL, Nat.reduceLeDiff, xF, ruU, entryE, Nat.reduceLT, Nat.reduceAdd, Nat.reduceMul, Nat.reduceEqDiff]
      refine w_drawB [(7, 3), (7, 6), (8, 7), (9, 7), (10, 7), (11, 7), (12, 7)] [] (by kernel_rfl) (by kernel_rfl) rfl fun ops anc hA hG => ?_
      simp only [all2_cons] at hA
      simp (maxDischargeDepth := 6) only [g0, g1, hb, hT, h1, hA, ruD, ruW, putL, Nat.reduceLeDiff, xF, ruU, entryE, Nat.reduceLT, Nat.reduceAdd, Nat.reduceMul, Nat.reduceEqDiff]
      refine genV_quiet (v := .int .i64 (x.w : Int)) p.blks (by simp (maxDischargeDepth := 6) only [ruU, entryE, Nat.reduceLT, Nat.reduceAdd, Nat.reduceMul, Nat.reduceEqDiff]) (by kernel_rfl) (by decide) g.ne (fun K hn hg => ?_) (by simp (maxDischargeDepth := 6) only [ruD, ruW, putL, Nat.reduceLeDiff, xF, ruU, entryE, Nat.reduceLT, Nat.reduceAdd, Nat.reduceMul, Nat.reduceEqDiff]) ?_
      · simp only [g0, ruU, entryE, Nat.reduceLT, Nat.reduceAdd, Nat.reduceMul, Nat.reduceEqDiff]
        exact width_c K p x (g.of (by rw [hn]; exact Nat.le_refl _) hg) s
      simp (maxDischargeDepth := 6) only [g0, g1, hb, hT, h1, hA, ruD, ruW, putL, Nat.reduceLeDiff, xF, ruU, entryE, Nat.reduceLT, Nat.reduceAdd, Nat.reduceMul, Nat.reduceEqDiff]
      have hrn := restrict_next H []
      obtain ⟨_, gg, hc, p1, rfl, t1, m1, n1, rv1, pv1⟩ := new_c (H.restrict []) x.h x.w (by rw [hrn.1, hrn.2.1]; exact Nat.le_refl _) s.h1 s.h2 s.w1 s.w2
      rw [hrn.1] at n1
      refine genV_mod (H := ext H []) (W := []) [] ok (by simp only [ruU, entryE, Nat.reduceLT, Nat.reduceAdd, Nat.reduceMul, Nat.reduceEqDiff]) (by kernel_rfl) (fun n hn => by simp at hn) (fun n hn => by simp at hn) (fun _ h => h) (v := .tuple ⟨[.pointer (some ⟨p1.t, 0, none⟩), .int .i64 0]⟩) (g := gg) (by simp only [ruU, entryE, Nat.reduceLT, Nat.reduceAdd, Nat.reduceMul, Nat.reduceEqDiff]; exact hc) m1 (by simp only [all2_cons, all2_nil, hA, true_or, and_true]) ?_
      intro H1 D mH1 hF hN hx hD
      have ht1 : TmAt H1 p1 (Tm.new x.h x.w) := t1.of (by rw [hx]; exact Nat.le_refl _) fun n hn => hN n (n1 n hn) (t1.lt n hn)
      have hT1 : p1.t < H1.next := ht1.lt p1.t (by simp [Rp.blks])
      have hTx : p.t < H1.next := mH1.lt (g.lt p.t (by simp [Rp.blks]))
      have hRx : p1.rb < H1.next := ht1.lt p1.rb (by simp [Rp.blks])
      obtain ⟨L, hL⟩ : ∃ L, cellsT p1 (Tm.new x.h x.w) = L := ⟨_, rfl⟩
      have hLl : L.length = 23 := by rw [← hL]; rfl
      have hL1 : L.all one = true := by rw [← hL]; simp only [cellsT, rv1, pv1]; rfl
      have hLs : ∀ N, H1.next ≤ N → scbL N L = true := fun N hN => by
        rw [← hL]
        simp only [cellsT, rv1, pv1, scbL, scb, Bool.true_and, Bool.and_true]
        exact blt_of (by omega)
      have hld : ldB Tryd.prog 49 0 (bk (ext H1 []) p1.t) = some (.agg ⟨L⟩) := by
        rw [ext_nil, ht1.cell, hL, ld_agg (by kernel_rfl), show szOf Tryd.prog 49 = some 23 from by kernel_rfl, Option.bind_some, if_pos (by omega), List.drop_zero, List.take_of_length_le (by omega)]
      have hcx : bk H1 p.t = some ⟨49, false, cellsT p x⟩ := (mH1.bk (g.lt p.t (by simp [Rp.blks])) (by simp)).trans g.cell
      have hst : ∀ N, H1.next ≤ N → stB Tryd.prog 49 N 0 (.agg ⟨L⟩) (bk H1 p.t) = some ⟨49, false, putL (cellsT p x) 0 L⟩ := fun N hN => by
        rw [hcx]
        exact stB_ok (v := .agg ⟨L⟩) (by rw [cells_agg, hLl]; kernel_rfl) (by rw [cells_agg, hLl]; exact Nat.le_refl _) (by rw [cells_agg]; exact hL1) (by rw [cells_agg]; exact hLs N hN)
      have hst' := hst (H1.next + 0) (Nat.le_refl _)
      have hfr := g.fresh ht1 mH1 n1 rv1 pv1
      rw [hL] at hfr
      rw [show H1 = ext H1 [] from rfl]
      simp (maxDischargeDepth := 6) only [g0, g1, hA, hld, hTx, hst', Tryd.results19, ruD, ruW, putL, Nat.reduceLeDiff, xF, ruU, entryE, Nat.reduceLT, Nat.reduceAdd, Nat.reduceMul, Nat.reduceEqDiff]
      exact ⟨rfl, _, hfr⟩
  have f99 : decide ((c.toNat : Int) = 99) = false := by rw [q99]; exact decide_eq_false h99
  have s3 := s.r1
  have s4 := s.r2
  have s5 := s.h2
  obtain ⟨to, hto⟩ : ∃ r : Nat, x.top = r := ⟨x.top.toNat, by have := s.t1; omega⟩
  obtain ⟨bo, hbo⟩ : ∃ b : Nat, x.bottom = b := ⟨x.bottom.toNat, by have := s.t1; have := s.t2; omega⟩
  have hwr : IntKind.i64.wrap (x.row - 1) = x.row - 1 := wrap_sm (by omega) (by omega)
  by_cases h77 : c = 77
  · have t77 : decide ((c.toNat : Int) = 77) = true := by rw [q77]; exact decide_eq_true h77
    by_cases htop : x.row = x.top
    · have hk : x.second c = (x.roll to bo (1 : Nat) false, 0) := by
        unfold Tm.second; rw [if_neg h91, if_neg h93, if_neg h27, if_neg h32, if_neg h55, if_neg h56, if_neg h99, if_pos ⟨h77, htop⟩, hto, hbo]; rfl
      have dt : decide (x.row = x.top) = true := decide_eq_true htop
      rw [hk]
      cases d32 <;> cases d48 <;> first
        | exact absurd ⟨rfl, rfl⟩ hno
        | skip
      all_goals
        simp (maxDischargeDepth := 6) only [g0, g1, hb, hT, h1, f91, f93, f27, hd32, hd48, f55, f56, f99, t77, ruW, putL, Nat.reduceLeDiff, xF, ruU, entryE, Nat.reduceLT, Nat.reduceAdd, Nat.reduceMul, Nat.reduceEqDiff]
        refine w_drawB [] [(2, 74)] (by kernel_rfl) rfl (by kernel_rfl) fun ops anc hA hG => ?_
        simp only [all2_cons] at hG
        simp (maxDischargeDepth := 6) only [g0, g1, hb, hT, h1, hG, t77, dt, ruD, ruW, putL, Nat.reduceLeDiff, xF, ruU, entryE, Nat.reduceLT, Nat.reduceAdd, Nat.reduceMul, Nat.reduceEqDiff]
        refine w_drawB [(9, 4), (9, 8)] [] (by kernel_rfl) (by kernel_rfl) rfl fun ops anc hA hG => ?_
        simp only [all2_cons] at hA
        simp (maxDischargeDepth := 6) only [g0, g1, hb, hT, h1, hA, ruD, ruW, putL, Nat.reduceLeDiff, xF, ruU, entryE, Nat.reduceLT, Nat.reduceAdd, Nat.reduceMul, Nat.reduceEqDiff]
        refine genV_last (as' := [.int .i64 x.top, .int .i64 x.bottom, .int .i64 ((1 : Nat) : Int), .bool false]) g ok (by simp only [ruU, entryE, Nat.reduceLT, Nat.reduceAdd, Nat.reduceMul, Nat.reduceEqDiff]) (by kernel_rfl) (by decide) (by simp only [ruU, entryE, Nat.reduceLT, Nat.reduceAdd, Nat.reduceMul, Nat.reduceEqDiff] <;> rfl) (by simp only [all2_cons, all2_nil, hA, true_or, and_true]) (fun G gG okG => by rw [hto, hbo]; exact roll_c G p x to bo 1 false gG s okG (by have := s.t2; omega) (by have := s.t3; omega) (by omega) (by omega)) fun H1 p1 st => ?_
        rw [show H1 = ext H1 [] from rfl]
        simp (maxDischargeDepth := 6) only [Tryd.results19, ruD, ruW, putL, Nat.reduceLeDiff, xF, ruU, entryE, Nat.reduceLT, Nat.reduceAdd, Nat.reduceMul, Nat.reduceEqDiff]
        exact ⟨rfl, p1, st⟩
    · have hk : x.second c = ({ x with row := max 0 (x.row - 1) }, 0) := by
        unfold Tm.second; rw [if_neg h91, if_neg h93, if_neg h27, if_neg h32, if_neg h55, if_neg h56, if_neg h99, if_neg (fun h => htop h.2), if_pos h77]
      have dt : decide (x.row = x.top) = false := decide_eq_false htop
      rw [hk]
      cases d32 <;> cases d48 <;> first
        | exact absurd ⟨rfl, rfl⟩ hno
        | skip
      all_goals
        simp (maxDischargeDepth := 6) only [g0, g1, hb, hT, h1, f91, f93, f27, hd32, hd48, f55, f56, f99, t77, ruW, putL, Nat.reduceLeDiff, xF, ruU, entryE, Nat.reduceLT, Nat.reduceAdd, Nat.reduceMul, Nat.reduceEqDiff]
        refine w_drawB [] [(2, 74)] (by kernel_rfl) rfl (by kernel_rfl) fun ops anc hA hG => ?_
        simp only [all2_cons] at hG
        simp (maxDischargeDepth := 6) only [g0, g1, hb, hT, h1, hG, t77, dt, hwr, Tryd.results19, ruD, ruW, putL, Nat.reduceLeDiff, xF, ruU, entryE, Nat.reduceLT, Nat.reduceAdd, Nat.reduceMul, Nat.reduceEqDiff]
        exact ⟨rfl, p, g.one (y := { x with row := max 0 (x.row - 1) }) rfl rfl rfl rfl⟩
  have f77 : decide ((c.toNat : Int) = 77) = false := by rw [q77]; exact decide_eq_false h77
  have hk : x.second c = (x, 0) := by unfold Tm.second; rw [if_neg h91, if_neg h93, if_neg h27, if_neg h32, if_neg h55, if_neg h56, if_neg h99, if_neg (fun h => h77 h.1), if_neg h77]
  rw [hk]
  cases d32 <;> cases d48 <;> first
    | exact absurd ⟨rfl, rfl⟩ hno
    | skip
  all_goals
    simp (maxDischargeDepth := 6) only [g0, g1, hb, hT, h1, f91, f93, f27, hd32, hd48, f55, f56, f99, f77, ruW, putL, Nat.reduceLeDiff, xF, ruU, entryE, Nat.reduceLT, Nat.reduceAdd, Nat.reduceMul, Nat.reduceEqDiff]
    refine w_drawB [] [(2, 74)] (by kernel_rfl) rfl (by kernel_rfl) fun ops anc hA hG => ?_
    simp only [all2_cons] at hG
    simp (maxDischargeDepth := 6) only [g0, g1, hb, hT, h1, hG, f77, Tryd.results19, ruD, ruW, putL, Nat.reduceLeDiff, xF, ruU, entryE, Nat.reduceLT, Nat.reduceAdd, Nat.reduceMul, Nat.reduceEqDiff]
    exact ⟨rfl, p, Step.refl g⟩

end Go.Proofs.YtpohjcacnkhnkaaDoor

/- Unicode's bytes: FullRune. -/
namespace Go.Proofs.YtpohjcacnkhnkaaDoor
open Go.Ax
set_option linter.unusedSimpArgs false
set_option maxRecDepth 10000

theorem ia_arr {P : Program} {t e : TypeId} {sz len n off : Nat} {k : IntKind} {i : Int} (hu : P.underlying t = some (.array len e)) (hsz : szOf P e = some sz) (h0 : 0 ≤ i) (h1 : i < len) : aIndexAddr P t (.pointer (some ⟨n, off, none⟩)) (.int k i) = some (.pointer (some ⟨n, off + i.toNat * sz, none⟩)) := by
  simp only [aIndexAddr, hu, hsz, Option.bind_eq_bind, Option.bind_some]
  rw [if_pos ⟨h0, h1⟩, addr_add]

def fstAt (a : Nat) : Int := match (dc fstD)[a]? with
  | some (.int .u8 n) => n
  | _ => 0
def accAt (a : Nat) : Int := match (dc accD)[a]? with
  | some (.int .u8 n) => n
  | _ => 0
def fstChk (a : Nat) : Bool := match (dc fstD)[a]? with
  | some (.int .u8 n) => decide (0 ≤ n) && decide (n < 256) && (decide (240 ≤ n) || (decide (2 ≤ bAnd .u8 n 7) && decide (bAnd .u8 n 7 ≤ 4))) && decide (0 ≤ bAnd .u8 n 7) && decide (bAnd .u8 n 7 < 8) && decide (0 ≤ bShr .u8 n 4) && decide (bShr .u8 n 4 < 16)
  | _ => false
theorem fst_all : ((List.range 256).all fstChk) = true := by kernel_rfl
def accChk (a : Nat) : Bool := match (dc accD)[a]? with
  | some (.int .u8 n) => decide (0 ≤ n) && decide (n < 256)
  | _ => false
theorem acc_all : ((List.range 32).all accChk) = true := by kernel_rfl

structure FstOk (a : Nat) : Prop where
  get : (dc fstD)[a]? = some (.int .u8 (fstAt a))
  lo : 0 ≤ fstAt a
  hi : fstAt a < 256
  sz : 240 ≤ fstAt a ∨ (2 ≤ bAnd .u8 (fstAt a) 7 ∧ bAnd .u8 (fstAt a) 7 ≤ 4)
  s0 : 0 ≤ bAnd .u8 (fstAt a) 7
  s8 : bAnd .u8 (fstAt a) 7 < 8
  i0 : 0 ≤ bShr .u8 (fstAt a) 4
  i1 : bShr .u8 (fstAt a) 4 < 16
theorem fst_ok {a : Nat} (h : a < 256) : FstOk a := by
  have hc := List.all_eq_true.1 fst_all a (List.mem_range.2 h)
  unfold fstChk at hc
  split at hc
  · rename_i n hn
    have e : fstAt a = n := by simp only [fstAt, hn]
    simp only [Bool.and_eq_true, Bool.or_eq_true, decide_eq_true_eq] at hc
    obtain ⟨⟨⟨⟨⟨⟨h1, h2⟩, h3⟩, h4⟩, h5⟩, h6⟩, h7⟩ := hc
    exact ⟨by rw [e]; exact hn, by rw [e]; exact h1, by rw [e]; exact h2, by rw [e]; exact h3, by rw [e]; exact h4, by rw [e]; exact h5, by rw [e]; exact h6, by rw [e]; exact h7⟩
  · cases hc
theorem acc_ok {a : Nat} (h : a < 32) : (dc accD)[a]? = some (.int .u8 (accAt a)) ∧ 0 ≤ accAt a ∧ accAt a < 256 := by
  have hc := List.all_eq_true.1 acc_all a (List.mem_range.2 h)
  unfold accChk at hc
  split at hc
  · rename_i n hn
    have e : accAt a = n := by simp only [accAt, hn]
    simp only [Bool.and_eq_true, decide_eq_true_eq] at hc
    exact ⟨by rw [e]; exact hn, by rw [e]; exact hc.1, by rw [e]; exact hc.2⟩
  · cases hc

structure Tabs (H : AHeap) : Prop where
  f : ∀ a, a < 256 → ldB Tryd.prog 5 a (bk H 0) = some (.int .u8 (fstAt a))
  a : ∀ i, i < 16 → ldB Tryd.prog 77 (i * 2) (bk H 1) = some (.agg ⟨[.int .u8 (accAt (i * 2)), .int .u8 (accAt (i * 2 + 1))]⟩)
  l0 : 0 < H.next
  l1 : 1 < H.next
theorem acc_len : (dc accD).length = 32 := by kernel_rfl
theorem tabs_of {H : AHeap} (h : Tab H) (h0 : 0 < H.next) (h1 : 1 < H.next) : Tabs H := by
  obtain ⟨e1, e2, b1, b2⟩ := h
  refine ⟨fun a ha => ?_, fun i hi => ?_, h0, h1⟩
  · rw [b1, ld_one (by kernel_rfl), (fst_ok ha).get]
  · rw [b2, ld_agg (by kernel_rfl), show szOf Tryd.prog 77 = some 2 from by kernel_rfl, Option.bind_some, if_pos (by rw [acc_len]; omega)]
    have g1 := (acc_ok (show i * 2 < 32 by omega)).1
    have g2 := (acc_ok (show i * 2 + 1 < 32 by omega)).1
    have hd : ((dc accD).drop (i * 2)).take 2 = [.int .u8 (accAt (i * 2)), .int .u8 (accAt (i * 2 + 1))] := by
      apply List.ext_getElem?
      intro j
      rw [List.getElem?_take]
      split
      · rw [List.getElem?_drop]
        match j, ‹j < 2› with
        | 0, _ => rw [Nat.add_zero, g1]; rfl
        | 1, _ => rw [g2]; rfl
      · rw [List.getElem?_eq_none (by simp; omega)]
    rw [hd]

def fullT (lo hi : Int) : List UInt8 → Bool
  | [] => false
  | b :: [] => cond (decide ((b.toNat : Int) < lo) || decide (hi < (b.toNat : Int))) true false
  | b :: c :: _ => cond (decide ((b.toNat : Int) < lo) || decide (hi < (b.toNat : Int))) true (decide ((c.toNat : Int) < 128) || decide (191 < (c.toNat : Int)))
def fullR : List UInt8 → Bool
  | [] => false
  | a :: r => cond (decide (IntKind.i64.wrap (bAnd .u8 (fstAt a.toNat) 7) ≤ ((r.length + 1 : Nat) : Int))) true (fullT (accAt ((bShr .u8 (fstAt a.toNat) 4).toNat * 2)) (accAt ((bShr .u8 (fstAt a.toNat) 4).toNat * 2 + 1)) r)

theorem idx0 {a : UInt8} : aIndexAddr Tryd.prog 75 (.pointer (some ⟨0, 0, none⟩)) (.int .u8 (a.toNat : Int)) = some (.pointer (some ⟨0, a.toNat, none⟩)) := by
  have := ia_arr (P := Tryd.prog) (t := 75) (e := 5) (sz := 1) (len := 256) (n := 0) (off := 0) (k := .u8) (i := (a.toNat : Int)) (by kernel_rfl) (by kernel_rfl) (by omega) (by have := a.toNat_lt; omega)
  simpa using this
theorem idx1 {i : Int} (h0 : 0 ≤ i) (h1 : i < 16) : aIndexAddr Tryd.prog 78 (.pointer (some ⟨1, 0, none⟩)) (.int .u8 i) = some (.pointer (some ⟨1, i.toNat * 2, none⟩)) := by
  have := ia_arr (P := Tryd.prog) (t := 78) (e := 77) (sz := 2) (len := 16) (n := 1) (off := 0) (k := .u8) (i := i) (by kernel_rfl) (by kernel_rfl) h0 h1
  simpa using this

set_option maxHeartbeats 2000000 in
theorem full_c (H : AHeap) (v : Value) (l : List UInt8) (h : BytesAt H v l) (hlt : ∀ n ∈ idsV v, n < H.next) (ht : Tabs H) (hl : l ≠ []) (hlen : l.length < 1000000) : Pure 31 [v] H (.bool (fullR l)) := by
  obtain ⟨b, hb⟩ : ∃ b, H.next = b := ⟨_, rfl⟩
  obtain ⟨av, e⟩ := h.sl
  obtain ⟨a, r, rfl⟩ : ∃ a r, l = a :: r := by cases l with | nil => exact absurd rfl hl | cons a r => exact ⟨a, r, rfl⟩
  obtain ⟨L, hL⟩ : ∃ L, (a :: r).length = L := ⟨_, rfl⟩
  have hLr : L = r.length + 1 := by rw [← hL]; rfl
  rw [hL] at e
  obtain ⟨n0, o0, i0, m0, ld0⟩ := h.get (k := 0) (c := a) rfl
  rw [e, show ((0 : Nat) : Int) = 0 from rfl] at i0
  have t0 : n0 < b := hb ▸ hlt n0 m0
  have fo := fst_ok a.toNat_lt
  have hf0 := ht.f a.toNat a.toNat_lt
  have l0 : 0 < b := hb ▸ ht.l0
  have l1 : 1 < b := hb ▸ ht.l1
  have hx0 := idx0 (a := a)
  have hx1 := idx1 fo.i0 fo.i1
  have hacc := ht.a (bShr .u8 (fstAt a.toNat) 4).toNat (by have := fo.i0; have := fo.i1; omega)
  have hcv : ∀ (X : AHeap) (k : IntKind) (m : Int), aConvert Tryd.prog X 5 3 (.int k m) = some (.int .i64 (IntKind.i64.wrap m), X) := fun X k m => cv_int (u := .int .u8) (by kernel_rfl) (by kernel_rfl)
  have dz : decide ((L : Int) = 0) = false := decide_eq_false (by omega)
  obtain ⟨d1, hd1⟩ : ∃ d, decide (IntKind.i64.wrap (bAnd .u8 (fstAt a.toNat) 7) ≤ (L : Int)) = d := ⟨_, rfl⟩
  obtain ⟨lo, hlo⟩ : ∃ lo, accAt ((bShr .u8 (fstAt a.toNat) 4).toNat * 2) = lo := ⟨_, rfl⟩
  obtain ⟨hi, hhi⟩ : ∃ hi, accAt ((bShr .u8 (fstAt a.toNat) 4).toNat * 2 + 1) = hi := ⟨_, rfl⟩
  rw [hlo, hhi] at hacc
  have key : fullR (a :: r) = cond d1 true (fullT lo hi r) := by
    simp only [fullR, ← hLr, hd1, hlo, hhi]
  rw [key]
  refine callS_fn mixed Tryd.func31 rfl Tryd.ntmps31 (Nat.le_of_ble_eq_true rfl) fun wf hsc => ?_
  have hbase : H.base ≤ b := hb ▸ wf.base
  rw [e]
  cases d1 with
  | true =>
    simp (maxDischargeDepth := 6) only [hb, dz, i0, t0, ld0, hx0, l0, hf0, w_and, bit_and, w_convert, hcv, hd1, cond_true, Tryd.results31, ruW, putL, Nat.reduceLeDiff, xF, ruU, entryE, Nat.reduceLT, Nat.reduceAdd, Nat.reduceMul, Nat.reduceEqDiff]
    exact Fin.pure rfl
  | false =>
    simp (maxDischargeDepth := 6) only [hb, hbase, dz, i0, t0, ld0, hx0, l0, l1, hf0, w_and, bit_and, w_shr, bit_shr, w_convert, hcv, hd1, cond_false, hx1, hacc, Int.reduceLE, Int.reduceToNat, ruW, putL, Nat.reduceLeDiff, xF, ruU, entryE, Nat.reduceLT, Nat.reduceAdd, Nat.reduceMul, Nat.reduceEqDiff]
    refine w_drawB [] [(2, 26), (9, 33)] (by kernel_rfl) rfl (by kernel_rfl) fun ops anc hA hG => ?_
    simp only [all2_cons] at hG
    match r, h, hl, hlen, hL, hLr, key with
    | [], h, hl, hlen, hL, hLr, key =>
      have g1 : decide ((1 : Int) < (L : Int)) = false := decide_eq_false (by rw [hLr]; simp)
      have g2 : decide ((2 : Int) < (L : Int)) = false := decide_eq_false (by rw [hLr]; simp)
      simp (maxDischargeDepth := 6) only [hb, hG, g1, g2, fullT, Tryd.results31, ruD, ruW, putL, Nat.reduceLeDiff, xF, ruU, entryE, Nat.reduceLT, Nat.reduceAdd, Nat.reduceMul, Nat.reduceEqDiff]
      exact Fin.pure rfl
    | b1 :: [], h, hl, hlen, hL, hLr, key =>
      have g1 : decide ((1 : Int) < (L : Int)) = true := decide_eq_true (by rw [hLr]; simp)
      have g2 : decide ((2 : Int) < (L : Int)) = false := decide_eq_false (by rw [hLr]; simp)
      obtain ⟨n1, o1, i1, m1, ld1⟩ := h.get (k := 1) (c := b1) rfl
      rw [e, show ((1 : Nat) : Int) = 1 from rfl] at i1
      have t1 : n1 < b := hb ▸ hlt n1 m1
      obtain ⟨dA, hdA⟩ : ∃ d, decide ((b1.toNat : Int) < lo) = d := ⟨_, rfl⟩
      obtain ⟨dB, hdB⟩ : ∃ d, decide (hi < (b1.toNat : Int)) = d := ⟨_, rfl⟩
      simp only [fullT, hdA, hdB]
      cases dA with
      | true =>
        simp (maxDischargeDepth := 6) only [hb, hG, g1, g2, i1, t1, ld1, hdA, Bool.true_or, cond_true, Tryd.results31, ruD, ruW, putL, Nat.reduceLeDiff, xF, ruU, entryE, Nat.reduceLT, Nat.reduceAdd, Nat.reduceMul, Nat.reduceEqDiff]
        exact Fin.pure rfl
      | false =>
        cases dB with
        | true =>
          simp (maxDischargeDepth := 6) only [hb, hG, g1, g2, i1, t1, ld1, hdA, hdB, Bool.or_true, cond_true, Tryd.results31, ruD, ruW, putL, Nat.reduceLeDiff, xF, ruU, entryE, Nat.reduceLT, Nat.reduceAdd, Nat.reduceMul, Nat.reduceEqDiff]
          exact Fin.pure rfl
        | false =>
          simp (maxDischargeDepth := 6) only [hb, hG, g1, g2, i1, t1, ld1, hdA, hdB, Bool.or_false, cond_false, Tryd.results31, ruD, ruW, putL, Nat.reduceLeDiff, xF, ruU, entryE, Nat.reduceLT, Nat.reduceAdd, Nat.reduceMul, Nat.reduceEqDiff]
          exact Fin.pure rfl
    | b1 :: c1 :: r3, h, hl, hlen, hL, hLr, key =>
      have g1 : decide ((1 : Int) < (L : Int)) = true := decide_eq_true (by rw [hLr]; simp only [List.length_cons]; omega)
      have g2 : decide ((2 : Int) < (L : Int)) = true := decide_eq_true (by rw [hLr]; simp only [List.length_cons]; omega)
      obtain ⟨n1, o1, i1, m1, ld1⟩ := h.get (k := 1) (c := b1) rfl
      obtain ⟨n2, o2, i2, m2, ld2⟩ := h.get (k := 2) (c := c1) rfl
      rw [e, show ((1 : Nat) : Int) = 1 from rfl] at i1
      rw [e, show ((2 : Nat) : Int) = 2 from rfl] at i2
      have t1 : n1 < b := hb ▸ hlt n1 m1
      have t2 : n2 < b := hb ▸ hlt n2 m2
      obtain ⟨dA, hdA⟩ : ∃ d, decide ((b1.toNat : Int) < lo) = d := ⟨_, rfl⟩
      obtain ⟨dB, hdB⟩ : ∃ d, decide (hi < (b1.toNat : Int)) = d := ⟨_, rfl⟩
      obtain ⟨dC, hdC⟩ : ∃ d, decide ((c1.toNat : Int) < 128) = d := ⟨_, rfl⟩
      obtain ⟨dD, hdD⟩ : ∃ d, decide (191 < (c1.toNat : Int)) = d := ⟨_, rfl⟩
      simp only [fullT, hdA, hdB, hdC, hdD]
      cases dA with
      | true =>
        simp (maxDischargeDepth := 6) only [hb, hG, g1, g2, i1, t1, ld1, hdA, Bool.true_or, cond_true, Tryd.results31, ruD, ruW, putL, Nat.reduceLeDiff, xF, ruU, entryE, Nat.reduceLT, Nat.reduceAdd, Nat.reduceMul, Nat.reduceEqDiff]
        exact Fin.pure rfl
      | false =>
        cases dB with
        | true =>
          simp (maxDischargeDepth := 6) only [hb, hG, g1, g2, i1, t1, ld1, hdA, hdB, Bool.or_true, cond_true, Tryd.results31, ruD, ruW, putL, Nat.reduceLeDiff, xF, ruU, entryE, Nat.reduceLT, Nat.reduceAdd, Nat.reduceMul, Nat.reduceEqDiff]
          exact Fin.pure rfl
        | false =>
          cases dC <;> cases dD <;>
            (simp (maxDischargeDepth := 6) only [hb, hG, g1, g2, i1, t1, ld1, i2, t2, ld2, hdA, hdB, hdC, hdD, Bool.or_true, Bool.true_or, Bool.or_false, cond_true, cond_false, Tryd.results31, ruD, ruW, putL, Nat.reduceLeDiff, xF, ruU, entryE, Nat.reduceLT, Nat.reduceAdd, Nat.reduceMul, Nat.reduceEqDiff]
             exact Fin.pure rfl)

end Go.Proofs.YtpohjcacnkhnkaaDoor

/- Unicode's bytes: DecodeRune. -/
namespace Go.Proofs.YtpohjcacnkhnkaaDoor
open Go.Ax
set_option linter.unusedSimpArgs false
set_option maxRecDepth 10000

abbrev c32 (n : Int) : Int := IntKind.i32.wrap n
def szOf1 (a : UInt8) : Int := IntKind.i64.wrap (bAnd .u8 (fstAt a.toNat) 7)
def mask1 (a : UInt8) : Int := bShr .i32 (bShl .i32 (c32 (fstAt a.toNat)) 31) 31
def out1 (a : UInt8) : Int := bOr .i32 (bNot .i32 (c32 (a.toNat : Int)) (mask1 a)) (bAnd .i32 65533 (mask1 a))
def out2 (a b : UInt8) : Int := bOr .i32 (bShl .i32 (c32 (bAnd .u8 (a.toNat : Int) 31)) 6) (c32 (bAnd .u8 (b.toNat : Int) 63))
def out3 (a b c : UInt8) : Int := bOr .i32 (bOr .i32 (bShl .i32 (c32 (bAnd .u8 (a.toNat : Int) 15)) 12) (bShl .i32 (c32 (bAnd .u8 (b.toNat : Int) 63)) 6)) (c32 (bAnd .u8 (c.toNat : Int) 63))
def out4 (a b c d : UInt8) : Int := bOr .i32 (bOr .i32 (bOr .i32 (bShl .i32 (c32 (bAnd .u8 (a.toNat : Int) 7)) 18) (bShl .i32 (c32 (bAnd .u8 (b.toNat : Int) 63)) 12)) (bShl .i32 (c32 (bAnd .u8 (c.toNat : Int) 63)) 6)) (c32 (bAnd .u8 (d.toNat : Int) 63))
def no2 (a b : UInt8) : Bool := decide ((b.toNat : Int) < accAt ((bShr .u8 (fstAt a.toNat) 4).toNat * 2)) || decide (accAt ((bShr .u8 (fstAt a.toNat) 4).toNat * 2 + 1) < (b.toNat : Int))
def noC (c : UInt8) : Bool := decide ((c.toNat : Int) < 128) || decide (191 < (c.toNat : Int))

def decB4 (a b c : UInt8) : List UInt8 → Int × Nat
  | [] => (65533, 1)
  | d :: _ => cond (noC d) (65533, 1) (out4 a b c d, 4)
def decB3 (a b : UInt8) : List UInt8 → Int × Nat
  | [] => (65533, 1)
  | c :: r => cond (noC c) (65533, 1) (cond (decide (szOf1 a ≤ 3)) (out3 a b c, 3) (decB4 a b c r))
def decB2 (a : UInt8) : List UInt8 → Int × Nat
  | [] => (65533, 1)
  | b :: r => cond (no2 a b) (65533, 1) (cond (decide (szOf1 a ≤ 2)) (out2 a b, 2) (decB3 a b r))
def decSlow : List UInt8 → Int × Nat
  | [] => (65533, 0)
  | a :: r => cond (decide (240 ≤ fstAt a.toNat)) (out1 a, 1) (cond (decide (((r.length + 1 : Nat) : Int) < szOf1 a)) (65533, 1) (decB2 a r))
def decR : List UInt8 → Int × Nat
  | [] => (65533, 0)
  | a :: r => cond (decide ((a.toNat : Int) < 128)) ((a.toNat : Int), 1) (decSlow (a :: r))

theorem sz1_ok {a : UInt8} (h : ¬ 240 ≤ fstAt a.toNat) : 2 ≤ szOf1 a ∧ szOf1 a ≤ 4 := by
  have fo := fst_ok a.toNat_lt
  rcases fo.sz with h' | ⟨h1, h2⟩
  · exact absurd h' h
  · have := wrap_sm (n := bAnd .u8 (fstAt a.toNat) 7) (by omega) (by omega)
    unfold szOf1
    rw [show IntKind.i64.wrap (bAnd .u8 (fstAt a.toNat) 7) = _ from this]
    exact ⟨h1, h2⟩

theorem decB4_n (a b c : UInt8) (r : List UInt8) : 1 ≤ (decB4 a b c r).2 ∧ (decB4 a b c r).2 ≤ r.length + 3 := by
  cases r with
  | nil => simp [decB4]
  | cons d r => simp only [decB4, List.length_cons]; cases noC d <;> simp <;> omega
theorem decB3_n (a b : UInt8) (r : List UInt8) : 1 ≤ (decB3 a b r).2 ∧ (decB3 a b r).2 ≤ r.length + 2 := by
  cases r with
  | nil => simp [decB3]
  | cons c r =>
    have := decB4_n a b c r
    simp only [decB3, List.length_cons]
    cases noC c <;> cases decide (szOf1 a ≤ 3) <;> simp <;> omega
theorem decB2_n (a : UInt8) (r : List UInt8) : 1 ≤ (decB2 a r).2 ∧ (decB2 a r).2 ≤ r.length + 1 := by
  cases r with
  | nil => simp [decB2]
  | cons b r =>
    have := decB3_n a b r
    simp only [decB2, List.length_cons]
    cases no2 a b <;> cases decide (szOf1 a ≤ 2) <;> simp <;> omega
theorem decR_n (l : List UInt8) (h : l ≠ []) : 1 ≤ (decR l).2 ∧ (decR l).2 ≤ l.length := by
  cases l with
  | nil => exact absurd rfl h
  | cons a r =>
    have := decB2_n a r
    simp only [decR, decSlow, List.length_cons]
    cases decide ((a.toNat : Int) < 128) <;> cases decide (240 ≤ fstAt a.toNat) <;> cases decide (((r.length + 1 : Nat) : Int) < szOf1 a) <;> simp <;> omega

def I32 (n : Int) : Prop := -2147483648 ≤ n ∧ n ≤ 2147483647
theorem wrap32 (n : Int) : I32 (IntKind.i32.wrap n) := by
  simp only [I32, IntKind.wrap, IntKind.signed, IntKind.bits]
  simp
  omega
theorem bOr32 (a b : Int) : I32 (bOr .i32 a b) := wrap32 _
theorem decR_32 (l : List UInt8) : I32 (decR l).1 := by
  have hE : I32 65533 := ⟨by decide, by decide⟩
  have h4 : ∀ a b c r, I32 (decB4 a b c r).1 := fun a b c r => by
    cases r with
    | nil => exact hE
    | cons d r => simp only [decB4]; cases noC d; exact bOr32 _ _; exact hE
  have h3 : ∀ a b r, I32 (decB3 a b r).1 := fun a b r => by
    cases r with
    | nil => exact hE
    | cons c r => simp only [decB3]; cases noC c; cases decide (szOf1 a ≤ 3); exact h4 a b c r; exact bOr32 _ _; exact hE
  have h2 : ∀ a r, I32 (decB2 a r).1 := fun a r => by
    cases r with
    | nil => exact hE
    | cons b r => simp only [decB2]; cases no2 a b; cases decide (szOf1 a ≤ 2); exact h3 a b r; exact bOr32 _ _; exact hE
  cases l with
  | nil => exact hE
  | cons a r =>
    simp only [decR, decSlow]
    cases decide ((a.toNat : Int) < 128)
    · cases decide (240 ≤ fstAt a.toNat)
      · cases decide (((r.length + 1 : Nat) : Int) < szOf1 a)
        · exact h2 a r
        · exact hE
      · exact bOr32 _ _
    · have := a.toNat_lt
      exact ⟨by simp only [cond_true]; omega, by simp only [cond_true]; omega⟩

set_option maxHeartbeats 4000000 in
theorem slow_c (H : AHeap) (v : Value) (l : List UInt8) (h : BytesAt H v l) (hlt : ∀ n ∈ idsV v, n < H.next) (ht : Tabs H) (hl : l ≠ []) (hlen : l.length < 1000000) : Pure 41 [v] H (.tuple ⟨[.int .i32 (decSlow l).1, .int .i64 ((decSlow l).2 : Int)]⟩) := by
  obtain ⟨b, hb⟩ : ∃ b, H.next = b := ⟨_, rfl⟩
  obtain ⟨av, e⟩ := h.sl
  obtain ⟨a, r, rfl⟩ : ∃ a r, l = a :: r := by cases l with | nil => exact absurd rfl hl | cons a r => exact ⟨a, r, rfl⟩
  obtain ⟨L, hL⟩ : ∃ L, (a :: r).length = L := ⟨_, rfl⟩
  have hLr : L = r.length + 1 := by rw [← hL]; rfl
  rw [hL] at e
  obtain ⟨n0, o0, i0, m0, ld0⟩ := h.get (k := 0) (c := a) rfl
  rw [e, show ((0 : Nat) : Int) = 0 from rfl] at i0
  have t0 : n0 < b := hb ▸ hlt n0 m0
  have fo := fst_ok a.toNat_lt
  have hf0 := ht.f a.toNat a.toNat_lt
  have l0 : 0 < b := hb ▸ ht.l0
  have l1 : 1 < b := hb ▸ ht.l1
  have hx0 := idx0 (a := a)
  have hx1 := idx1 fo.i0 fo.i1
  have hacc := ht.a (bShr .u8 (fstAt a.toNat) 4).toNat (by have := fo.i0; have := fo.i1; omega)
  have hcv : ∀ (X : AHeap) (k : IntKind) (m : Int), aConvert Tryd.prog X 5 3 (.int k m) = some (.int .i64 (IntKind.i64.wrap m), X) := fun X k m => cv_int (u := .int .u8) (by kernel_rfl) (by kernel_rfl)
  have hcv2 : ∀ (X : AHeap) (k : IntKind) (m : Int), aConvert Tryd.prog X 5 21 (.int k m) = some (.int .i32 (IntKind.i32.wrap m), X) := fun X k m => cv_int (u := .int .u8) (by kernel_rfl) (by kernel_rfl)
  have dz : decide ((L : Int) < 1) = false := decide_eq_false (by omega)
  obtain ⟨d240, hd240⟩ : ∃ d, decide (240 ≤ fstAt a.toNat) = d := ⟨_, rfl⟩
  obtain ⟨dn, hdn⟩ : ∃ d, decide ((L : Int) < szOf1 a) = d := ⟨_, rfl⟩
  have hdn' := hdn
  unfold szOf1 at hdn'
  have key : decSlow (a :: r) = cond d240 (out1 a, 1) (cond dn (65533, 1) (decB2 a r)) := by simp only [decSlow, hd240, ← hLr, hdn]
  rw [key]
  refine callS_fn mixed Tryd.func41 rfl Tryd.ntmps41 (Nat.le_of_ble_eq_true rfl) fun wf hsc => ?_
  have hbase : H.base ≤ b := hb ▸ wf.base
  rw [e]
  cases d240 with
  | true =>
    simp (maxDischargeDepth := 6) only [hb, dz, i0, t0, ld0, hx0, l0, hf0, hd240, w_and, bit_and, w_or, bit_or, w_andNot, bit_andNot, w_shl, bit_shl, w_shr, bit_shr, w_convert, hcv2, Int.reduceLE, Int.reduceToNat, cond_true, Tryd.results41, ruW, putL, Nat.reduceLeDiff, xF, ruU, entryE, Nat.reduceLT, Nat.reduceAdd, Nat.reduceMul, Nat.reduceEqDiff]
    exact Fin.pureE rfl rfl
  | false =>
    have hsz := sz1_ok (a := a) (fun h => by have := hd240.symm.trans (decide_eq_true h); simp at this)
    cases dn with
    | true =>
      simp (maxDischargeDepth := 6) only [hb, hbase, dz, i0, t0, ld0, hx0, l0, l1, hf0, hd240, hdn', w_and, bit_and, w_shr, bit_shr, w_convert, hcv, hx1, hacc, Int.reduceLE, Int.reduceToNat, cond_true, cond_false, Tryd.results41, ruW, putL, Nat.reduceLeDiff, xF, ruU, entryE, Nat.reduceLT, Nat.reduceAdd, Nat.reduceMul, Nat.reduceEqDiff]
      exact Fin.pureE rfl rfl
    | false =>
      have hLn : szOf1 a ≤ (L : Int) := by have := of_decide_eq_false hdn; omega
      match r, h, hl, hlen, hL, hLr with
      | [], h, hl, hlen, hL, hLr => simp at hLr; omega
      | b1 :: r1, h, hl, hlen, hL, hLr =>
        obtain ⟨n1, o1, i1, m1, ld1⟩ := h.get (k := 1) (c := b1) rfl
        rw [e, show ((1 : Nat) : Int) = 1 from rfl] at i1
        have t1 : n1 < b := hb ▸ hlt n1 m1
        obtain ⟨dA, hdA⟩ : ∃ d, decide ((b1.toNat : Int) < accAt ((bShr .u8 (fstAt a.toNat) 4).toNat * 2)) = d := ⟨_, rfl⟩
        obtain ⟨dB, hdB⟩ : ∃ d, decide (accAt ((bShr .u8 (fstAt a.toNat) 4).toNat * 2 + 1) < (b1.toNat : Int)) = d := ⟨_, rfl⟩
        obtain ⟨s2, hs2⟩ : ∃ d, decide (szOf1 a ≤ 2) = d := ⟨_, rfl⟩
        have hs2' := hs2
        unfold szOf1 at hs2'
        simp only [decB2, no2, hdA, hdB, hs2]
        cases dA with
        | true =>
          simp (maxDischargeDepth := 6) only [hb, hbase, dz, i0, t0, ld0, hx0, l0, l1, hf0, hd240, hdn', w_and, bit_and, w_or, bit_or, w_shl, bit_shl, w_shr, bit_shr, w_convert, hcv, hcv2, hx1, hacc, Int.reduceLE, Int.reduceToNat, cond_true, cond_false, i1, t1, ld1, hdA, Bool.true_or, Tryd.results41, ruW, putL, Nat.reduceLeDiff, xF, ruU, entryE, Nat.reduceLT, Nat.reduceAdd, Nat.reduceMul, Nat.reduceEqDiff]
          exact Fin.pureE rfl rfl
        | false =>
        cases dB with
        | true =>
          simp (maxDischargeDepth := 6) only [hb, hbase, dz, i0, t0, ld0, hx0, l0, l1, hf0, hd240, hdn', w_and, bit_and, w_or, bit_or, w_shl, bit_shl, w_shr, bit_shr, w_convert, hcv, hcv2, hx1, hacc, Int.reduceLE, Int.reduceToNat, cond_true, cond_false, i1, t1, ld1, hdA, hdB, Bool.or_true, Tryd.results41, ruW, putL, Nat.reduceLeDiff, xF, ruU, entryE, Nat.reduceLT, Nat.reduceAdd, Nat.reduceMul, Nat.reduceEqDiff]
          exact Fin.pureE rfl rfl
        | false =>
        cases s2 with
        | true =>
          simp (maxDischargeDepth := 6) only [hb, hbase, dz, i0, t0, ld0, hx0, l0, l1, hf0, hd240, hdn', w_and, bit_and, w_or, bit_or, w_shl, bit_shl, w_shr, bit_shr, w_convert, hcv, hcv2, hx1, hacc, Int.reduceLE, Int.reduceToNat, cond_true, cond_false, i1, t1, ld1, hdA, hdB, hs2', Bool.or_false, Tryd.results41, ruW, putL, Nat.reduceLeDiff, xF, ruU, entryE, Nat.reduceLT, Nat.reduceAdd, Nat.reduceMul, Nat.reduceEqDiff]
          exact Fin.pureE rfl rfl
        | false =>
        have hs3 : 3 ≤ szOf1 a := by have := of_decide_eq_false hs2; omega
        match r1, h, hl, hlen, hL, hLr with
        | [], h, hl, hlen, hL, hLr => simp at hLr; omega
        | b2 :: r2, h, hl, hlen, hL, hLr =>
          obtain ⟨n2, o2, i2, m2, ld2⟩ := h.get (k := 2) (c := b2) rfl
          rw [e, show ((2 : Nat) : Int) = 2 from rfl] at i2
          have t2 : n2 < b := hb ▸ hlt n2 m2
          obtain ⟨dC, hdC⟩ : ∃ d, decide ((b2.toNat : Int) < 128) = d := ⟨_, rfl⟩
          obtain ⟨dD, hdD⟩ : ∃ d, decide (191 < (b2.toNat : Int)) = d := ⟨_, rfl⟩
          obtain ⟨s3, hs3'⟩ : ∃ d, decide (szOf1 a ≤ 3) = d := ⟨_, rfl⟩
          have hs3'' := hs3'
          unfold szOf1 at hs3''
          simp only [decB3, noC, hdC, hdD, hs3', Bool.or_false, cond_false]
          cases dC with
          | true =>
            simp (maxDischargeDepth := 6) only [hb, hbase, dz, i0, t0, ld0, hx0, l0, l1, hf0, hd240, hdn', w_and, bit_and, w_or, bit_or, w_shl, bit_shl, w_shr, bit_shr, w_convert, hcv, hcv2, hx1, hacc, Int.reduceLE, Int.reduceToNat, cond_true, cond_false, i1, t1, ld1, hdA, hdB, hs2', i2, t2, ld2, hdC, Bool.true_or, Tryd.results41, ruW, putL, Nat.reduceLeDiff, xF, ruU, entryE, Nat.reduceLT, Nat.reduceAdd, Nat.reduceMul, Nat.reduceEqDiff]
            exact Fin.pureE rfl rfl
          | false =>
          cases dD with
          | true =>
            simp (maxDischargeDepth := 6) only [hb, hbase, dz, i0, t0, ld0, hx0, l0, l1, hf0, hd240, hdn', w_and, bit_and, w_or, bit_or, w_shl, bit_shl, w_shr, bit_shr, w_convert, hcv, hcv2, hx1, hacc, Int.reduceLE, Int.reduceToNat, cond_true, cond_false, i1, t1, ld1, hdA, hdB, hs2', i2, t2, ld2, hdC, hdD, Bool.or_true, Tryd.results41, ruW, putL, Nat.reduceLeDiff, xF, ruU, entryE, Nat.reduceLT, Nat.reduceAdd, Nat.reduceMul, Nat.reduceEqDiff]
            exact Fin.pureE rfl rfl
          | false =>
          cases s3 with
          | true =>
            simp (maxDischargeDepth := 6) only [hb, hbase, dz, i0, t0, ld0, hx0, l0, l1, hf0, hd240, hdn', w_and, bit_and, w_or, bit_or, w_shl, bit_shl, w_shr, bit_shr, w_convert, hcv, hcv2, hx1, hacc, Int.reduceLE, Int.reduceToNat, cond_true, cond_false, i1, t1, ld1, hdA, hdB, hs2', i2, t2, ld2, hdC, hdD, hs3'', Bool.or_false, Tryd.results41, ruW, putL, Nat.reduceLeDiff, xF, ruU, entryE, Nat.reduceLT, Nat.reduceAdd, Nat.reduceMul, Nat.reduceEqDiff]
            exact Fin.pureE rfl rfl
          | false =>
          have hs4 : 4 ≤ szOf1 a := by have := of_decide_eq_false hs3'; omega
          match r2, h, hl, hlen, hL, hLr with
          | [], h, hl, hlen, hL, hLr => simp at hLr; omega
          | b3 :: r3, h, hl, hlen, hL, hLr =>
            obtain ⟨n3, o3, i3, m3, ld3⟩ := h.get (k := 3) (c := b3) rfl
            rw [e, show ((3 : Nat) : Int) = 3 from rfl] at i3
            have t3 : n3 < b := hb ▸ hlt n3 m3
            obtain ⟨dE, hdE⟩ : ∃ d, decide ((b3.toNat : Int) < 128) = d := ⟨_, rfl⟩
            obtain ⟨dF, hdF⟩ : ∃ d, decide (191 < (b3.toNat : Int)) = d := ⟨_, rfl⟩
            simp only [decB4, noC, hdE, hdF, Bool.or_false, cond_false]
            cases dE <;> cases dF <;>
              (simp (maxDischargeDepth := 6) only [hb, hbase, dz, i0, t0, ld0, hx0, l0, l1, hf0, hd240, hdn', w_and, bit_and, w_or, bit_or, w_shl, bit_shl, w_shr, bit_shr, w_convert, hcv, hcv2, hx1, hacc, Int.reduceLE, Int.reduceToNat, cond_true, cond_false, i1, t1, ld1, hdA, hdB, hs2', i2, t2, ld2, hdC, hdD, hs3'', i3, t3, ld3, hdE, hdF, Bool.or_true, Bool.true_or, Bool.or_false, Tryd.results41, ruW, putL, Nat.reduceLeDiff, xF, ruU, entryE, Nat.reduceLT, Nat.reduceAdd, Nat.reduceMul, Nat.reduceEqDiff]
               exact Fin.pureE rfl rfl)

end Go.Proofs.YtpohjcacnkhnkaaDoor

/- Unicode's bytes: DecodeRune, the whole. -/
namespace Go.Proofs.YtpohjcacnkhnkaaDoor
open Go.Ax
set_option linter.unusedSimpArgs false
set_option maxRecDepth 10000

theorem dec_c (H : AHeap) (v : Value) (l : List UInt8) (h : BytesAt H v l) (hlt : ∀ n ∈ idsV v, n < H.next) (ht : Tabs H) (hl : l ≠ []) (hlen : l.length < 1000000) : Pure 32 [v] H (.tuple ⟨[.int .i32 (decR l).1, .int .i64 ((decR l).2 : Int)]⟩) := by
  obtain ⟨b, hb⟩ : ∃ b, H.next = b := ⟨_, rfl⟩
  obtain ⟨av, e⟩ := h.sl
  obtain ⟨a, r, rfl⟩ : ∃ a r, l = a :: r := by cases l with | nil => exact absurd rfl hl | cons a r => exact ⟨a, r, rfl⟩
  obtain ⟨L, hL⟩ : ∃ L, (a :: r).length = L := ⟨_, rfl⟩
  have hLr : L = r.length + 1 := by rw [← hL]; rfl
  rw [hL] at e
  obtain ⟨n0, o0, i0, m0, ld0⟩ := h.get (k := 0) (c := a) rfl
  rw [e, show ((0 : Nat) : Int) = 0 from rfl] at i0
  have t0 : n0 < b := hb ▸ hlt n0 m0
  have hcv2 : ∀ (X : AHeap) (k : IntKind) (m : Int), aConvert Tryd.prog X 5 21 (.int k m) = some (.int .i32 (IntKind.i32.wrap m), X) := fun X k m => cv_int (u := .int .u8) (by kernel_rfl) (by kernel_rfl)
  have hw32 : IntKind.i32.wrap (a.toNat : Int) = (a.toNat : Int) := by
    have := a.toNat_lt
    simp only [IntKind.wrap, IntKind.signed, IntKind.bits]
    simp
    omega
  have d0 : decide ((0 : Int) < (L : Int)) = true := decide_eq_true (by omega)
  obtain ⟨d1, hd1⟩ : ∃ d, decide ((a.toNat : Int) < 128) = d := ⟨_, rfl⟩
  have key : decR (a :: r) = cond d1 ((a.toNat : Int), 1) (decSlow (a :: r)) := by simp only [decR, hd1]
  rw [key]
  refine callS_fn mixed Tryd.func32 rfl Tryd.ntmps32 (Nat.le_of_ble_eq_true rfl) fun wf hsc => ?_
  have hsl := slow_c H v (a :: r) h hlt ht hl hlen
  rw [e] at hsl ⊢
  simp (maxDischargeDepth := 6) only [ruW, putL, Nat.reduceLeDiff, xF, ruU, entryE, Nat.reduceLT, Nat.reduceAdd, Nat.reduceMul, Nat.reduceEqDiff]
  refine w_env fun E hE => ?_
  have g0 : E 0 = .slice av L L := by rw [hE]; simp only [ruU, entryE, Nat.reduceLT, Nat.reduceAdd, Nat.reduceMul, Nat.reduceEqDiff]
  have g6 : E 6 = .slice av L L := by rw [hE]; simp only [ruU, entryE, Nat.reduceLT, Nat.reduceAdd, Nat.reduceMul, Nat.reduceEqDiff]
  have g7 : E 7 = .int .i64 (L : Int) := by rw [hE]; simp only [ruU, entryE, Nat.reduceLT, Nat.reduceAdd, Nat.reduceMul, Nat.reduceEqDiff]
  have g8 : E 8 = .int .i64 0 := by rw [hE]; simp only [ruU, entryE, Nat.reduceLT, Nat.reduceAdd, Nat.reduceMul, Nat.reduceEqDiff]
  clear hE
  obtain ⟨P0, hP0⟩ : ∃ P0 : Prop, P0 = (d1 = false) := ⟨_, rfl⟩
  refine blockC_meet (fun E' H' => H' = H ∧ P0 ∧ E' 0 = .slice av L L) ?_ ?_
  · refine w_loop (fun (q : Unit) E' H' => H' = H ∧ E' 0 = .slice av L L ∧ E' 6 = .slice av L L ∧ E' 7 = .int .i64 (L : Int) ∧ E' 8 = .int .i64 0) (fun _ => 0) () ⟨rfl, g0, g6, g7, g8⟩ ?_
    clear g0 g6 g7 g8 E
    rintro _ E X ⟨hX, g0, g6, g7, g8⟩
    rw [hX, show H = ext H [] from rfl]
    cases d1 with
    | true =>
      simp (maxDischargeDepth := 6) only [g0, g6, g7, g8, hb, d0, i0, t0, ld0, hd1, w_convert, hcv2, hw32, joinR_ret, cond_true, Tryd.results32, ruW, putL, Nat.reduceLeDiff, xF, ruU, entryE, Nat.reduceLT, Nat.reduceAdd, Nat.reduceMul, Nat.reduceEqDiff]
      exact Fin.pureE rfl rfl
    | false =>
      simp (maxDischargeDepth := 6) only [g0, g6, g7, g8, hb, d0, i0, t0, ld0, hd1, ruW, putL, Nat.reduceLeDiff, xF, ruU, entryE, Nat.reduceLT, Nat.reduceAdd, Nat.reduceMul, Nat.reduceEqDiff]
      rw [blockC_other (by decide), seqC_exit, loopC_exit, blockC_exit]
      refine joinR_normal ⟨rfl, hP0.mpr rfl, ?_⟩
      simp only [g0, ruU, entryE, Nat.reduceLT, Nat.reduceAdd, Nat.reduceMul, Nat.reduceEqDiff]
  clear g0 g6 g7 g8 E
  rintro E X ⟨hX, hdd, g0⟩
  rw [hX, hP0.mp hdd, cond_false, show H = ext H [] from rfl]
  simp (maxDischargeDepth := 6) only [g0, ruW, putL, Nat.reduceLeDiff, xF, ruU, entryE, Nat.reduceLT, Nat.reduceAdd, Nat.reduceMul, Nat.reduceEqDiff]
  refine (show CallS Tryd.prog 41 [.slice av L L] (ext H []) _ (ext H []) from hsl).to ?_
  simp (maxDischargeDepth := 6) only [g0, Tryd.results32, ruW, putL, Nat.reduceLeDiff, xF, ruU, entryE, Nat.reduceLT, Nat.reduceAdd, Nat.reduceMul, Nat.reduceEqDiff]
  exact Fin.pureE rfl rfl

end Go.Proofs.YtpohjcacnkhnkaaDoor

/- The width of a character. -/
namespace Go.Proofs.YtpohjcacnkhnkaaDoor
open Go.Ax
set_option linter.unusedSimpArgs false
set_option maxRecDepth 10000

def isR (c : Int) : Bool := decide (0 ≤ c) && decide (c ≤ 1114111) && !(decide (55296 ≤ c) && decide (c ≤ 57343))
theorem is_c (H : AHeap) (c : Int) : Pure 45 [.int .i64 c] H (.bool (isR c)) := by
  obtain ⟨d1, h1⟩ : ∃ d, decide (0 ≤ c) = d := ⟨_, rfl⟩
  obtain ⟨d2, h2⟩ : ∃ d, decide (c ≤ 1114111) = d := ⟨_, rfl⟩
  obtain ⟨d3, h3⟩ : ∃ d, decide (55296 ≤ c) = d := ⟨_, rfl⟩
  obtain ⟨d4, h4⟩ : ∃ d, decide (c ≤ 57343) = d := ⟨_, rfl⟩
  simp only [isR, h1, h2, h3, h4]
  refine callS_fn mixed Tryd.func45 rfl Tryd.ntmps45 (Nat.le_of_ble_eq_true rfl) fun wf hsc => ?_
  cases d1 <;> cases d2 <;> cases d3 <;> cases d4 <;> (simp (maxDischargeDepth := 6) only [h1, h2, h3, h4, Tryd.results45, ruW, putL, Nat.reduceLeDiff, xF, ruU, entryE, Nat.reduceLT, Nat.reduceAdd, Nat.reduceMul, Nat.reduceEqDiff]; exact Fin.pureE rfl rfl)

def srch (f : Nat → Bool) : Nat → Nat → Nat → Nat
  | 0, i, _ => i
  | k + 1, i, j => if i < j then (cond (f ((i + j) / 2)) (srch f k i ((i + j) / 2)) (srch f k ((i + j) / 2 + 1) j)) else i
theorem srch_done (f : Nat → Bool) (k i j : Nat) (h : ¬ i < j) : srch f k i j = i := by
  cases k with
  | zero => rfl
  | succ k => rw [srch, if_neg h]

def spV (l : List (Int × Int)) : List Value := l.flatMap fun q => [.int .i64 q.1, .int .i64 q.2]
theorem spV_len (l : List (Int × Int)) : (spV l).length = l.length * 2 := by
  induction l with
  | nil => rfl
  | cons a l ih => simp only [spV, List.flatMap_cons, List.length_append, List.length_cons, List.length_nil] at ih ⊢; omega
theorem spV_get (l : List (Int × Int)) (k : Nat) (q : Int × Int) (h : l[k]? = some q) : (spV l)[k * 2]? = some (.int .i64 q.1) ∧ (spV l)[k * 2 + 1]? = some (.int .i64 q.2) := by
  induction l generalizing k with
  | nil => simp at h
  | cons a l ih =>
    cases k with
    | zero =>
      simp only [List.getElem?_cons_zero, Option.some.injEq] at h
      subst h
      exact ⟨rfl, rfl⟩
    | succ k =>
      have := ih k (by simpa using h)
      rw [show (k + 1) * 2 = k * 2 + 2 by omega]
      exact this
theorem sp_ia {len cap n : Nat} {s : Option Nat} {k : Nat} (hk : k < len) : aIndexAddr Tryd.prog 97 (.slice (some ⟨n, 0, s⟩) len cap) (.int .i64 (k : Int)) = some (.pointer (some ⟨n, k * 2, none⟩)) := by
  rw [ia_slice (e := 93) (sz := 2) (by kernel_rfl) (by kernel_rfl) (by omega) (by omega)]
  simp

structure Clo (H : AHeap) (bs bc m : Nat) (c : Int) (sp : List (Int × Int)) : Prop where
  s : bk H bs = some ⟨97, false, [.slice (some ⟨m, 0, some 0⟩) sp.length sp.length]⟩
  c : bk H bc = some ⟨3, false, [.int .i64 c]⟩
  m : ∃ e, bk H m = some ⟨e, false, spV sp⟩

def toGe (c : Int) (sp : List (Int × Int)) (i : Nat) : Bool := decide (c ≤ (sp.getD i (0, 0)).2)

theorem pred_c (H : AHeap) (bs bc m : Nat) (c : Int) (sp : List (Int × Int)) (h : Clo H bs bc m c sp) (i : Nat) (hi : i < sp.length) : Pure 70 [.int .i64 (i : Int), .pointer (some ⟨bs, 0, none⟩), .pointer (some ⟨bc, 0, none⟩)] H (.bool (toGe c sp i)) := by
  obtain ⟨b, hb⟩ : ∃ b, H.next = b := ⟨_, rfl⟩
  obtain ⟨h1, h2, e, h3⟩ := h
  obtain ⟨q, hq⟩ : ∃ q, sp[i]? = some q := ⟨_, List.getElem?_eq_getElem hi⟩
  have hg := (spV_get sp i q hq).2
  have hd : sp.getD i (0, 0) = q := by rw [List.getD, hq]; rfl
  have hia := sp_ia (len := sp.length) (cap := sp.length) (n := m) (s := some 0) hi
  refine callS_fn mixed Tryd.func70 rfl Tryd.ntmps70 (Nat.le_of_ble_eq_true rfl) fun wf hsc => ?_
  have l1 : bs < b := hb ▸ wf.lt h1
  have l2 : bc < b := hb ▸ wf.lt h2
  have l3 : m < b := hb ▸ wf.lt h3
  simp (maxDischargeDepth := 6) only [ruW, putL, Nat.reduceLeDiff, xF, ruU, entryE, Nat.reduceLT, Nat.reduceAdd, Nat.reduceMul, Nat.reduceEqDiff]
  refine w_drawB [] [] (by kernel_rfl) rfl rfl fun ops anc hA hG => ?_
  simp (maxDischargeDepth := 6) only [hb, h1, h2, h3, l1, l2, l3, hia, hg, toGe, hd, Tryd.results70, ruD, ruW, putL, Nat.reduceLeDiff, xF, ruU, entryE, Nat.reduceLT, Nat.reduceAdd, Nat.reduceMul, Nat.reduceEqDiff]
  exact Fin.pureE rfl rfl

theorem half_wrap {i j : Nat} (h : i + j < 1000000) : IntKind.i64.wrap (bShr .u64 (IntKind.u64.wrap (IntKind.i64.wrap ((i : Int) + (j : Int)))) 1) = (((i + j) / 2 : Nat) : Int) := by
  have h1 := wrap_sm (n := (i : Int) + (j : Int)) (by omega) (by omega)
  rw [show IntKind.i64.wrap ((i : Int) + (j : Int)) = _ from h1]
  have h2 : IntKind.u64.wrap ((i : Int) + (j : Int)) = (i : Int) + (j : Int) := by
    simp only [IntKind.wrap, IntKind.signed, IntKind.bits]
    simp
    omega
  rw [h2]
  have h3 : bShr .u64 ((i : Int) + (j : Int)) 1 = (((i + j) / 2 : Nat) : Int) := by
    simp only [bShr, IntKind.bits]
    rw [Int.fdiv_eq_ediv_of_nonneg _ (by decide)]
    simp
  rw [h3]
  exact wrap_sm (by omega) (by omega)

set_option maxHeartbeats 1000000 in
theorem search_c (H : AHeap) (bs bc m : Nat) (c : Int) (sp : List (Int × Int)) (h : Clo H bs bc m c sp) (hlen : sp.length ≤ 1000) : Pure 69 [.int .i64 (sp.length : Int), .func (.func 70) ⟨[]⟩ ⟨[.pointer (some ⟨bs, 0, none⟩), .pointer (some ⟨bc, 0, none⟩)]⟩] H (.int .i64 (srch (toGe c sp) sp.length 0 sp.length : Int)) := by
  obtain ⟨b, hb⟩ : ∃ b, H.next = b := ⟨_, rfl⟩
  have hcv : ∀ (X : AHeap) (k : IntKind) (m : Int), aConvert Tryd.prog X 3 72 (.int k m) = some (.int .u64 (IntKind.u64.wrap m), X) := fun X k m => cv_int (u := .int .i64) (by kernel_rfl) (by kernel_rfl)
  have hcv2 : ∀ (X : AHeap) (k : IntKind) (m : Int), aConvert Tryd.prog X 72 3 (.int k m) = some (.int .i64 (IntKind.i64.wrap m), X) := fun X k m => cv_int (u := .int .u64) (by kernel_rfl) (by kernel_rfl)
  refine callS_fn mixed Tryd.func69 rfl Tryd.ntmps69 (Nat.le_of_ble_eq_true rfl) fun wf hsc => ?_
  simp (maxDischargeDepth := 6) only [ruW, putL, Nat.reduceLeDiff, xF, ruU, entryE, Nat.reduceLT, Nat.reduceAdd, Nat.reduceMul, Nat.reduceEqDiff]
  refine w_env fun E hE => ?_
  have g1 : E 1 = .func (.func 70) ⟨[]⟩ ⟨[.pointer (some ⟨bs, 0, none⟩), .pointer (some ⟨bc, 0, none⟩)]⟩ := by rw [hE]; simp only [ruU, entryE, Nat.reduceLT, Nat.reduceAdd, Nat.reduceMul, Nat.reduceEqDiff]
  have g5 : E 5 = .int .i64 ((0 : Nat) : Int) := by rw [hE]; (simp only [ruU, entryE, Nat.reduceLT, Nat.reduceAdd, Nat.reduceMul, Nat.reduceEqDiff] <;> rfl)
  have g6 : E 6 = .int .i64 (sp.length : Int) := by rw [hE]; simp only [ruU, entryE, Nat.reduceLT, Nat.reduceAdd, Nat.reduceMul, Nat.reduceEqDiff]
  clear hE
  refine blockC_meet (fun E' H' => H' = H ∧ E' 5 = .int .i64 (srch (toGe c sp) sp.length 0 sp.length : Int)) ?_ ?_
  · refine w_loop (fun (q : Nat × Nat × Nat) E' H' => H' = H ∧ q.2.1 - q.1 ≤ q.2.2 ∧ q.2.1 ≤ sp.length ∧ srch (toGe c sp) q.2.2 q.1 q.2.1 = srch (toGe c sp) sp.length 0 sp.length ∧ E' 1 = .func (.func 70) ⟨[]⟩ ⟨[.pointer (some ⟨bs, 0, none⟩), .pointer (some ⟨bc, 0, none⟩)]⟩ ∧ E' 5 = .int .i64 (q.1 : Int) ∧ E' 6 = .int .i64 (q.2.1 : Int)) (fun q => q.2.1 - q.1) (0, sp.length, sp.length)
      ⟨rfl, by simp, Nat.le_refl _, rfl, g1, g5, g6⟩ ?_
    clear g1 g5 g6 E
    rintro ⟨i, j, k⟩ E X ⟨hX, hk, hj, hs, g1, g5, g6⟩
    simp only at hk hj hs g5 g6
    rw [hX, show H = ext H [] from rfl]
    by_cases hij : i < j
    · have hd : decide ((i : Int) < (j : Int)) = true := decide_eq_true (by omega)
      obtain ⟨k', rfl⟩ : ∃ k', k = k' + 1 := ⟨k - 1, by omega⟩
      rw [srch, if_pos hij] at hs
      have hhalf := half_wrap (i := i) (j := j) (by omega)
      obtain ⟨md, hmd⟩ : ∃ md, (i + j) / 2 = md := ⟨_, rfl⟩
      rw [hmd] at hhalf hs
      have hm1 : i ≤ md ∧ md < j := by omega
      have hws := wrap_succ (show md < 1000000 by omega)
      have hp := pred_c H bs bc m c sp h md (by omega)
      simp (maxDischargeDepth := 6) only [g1, g5, g6, hb, hd, w_convert, hcv, hcv2, w_shr, bit_shr, hhalf, Int.reduceLE, Int.reduceToNat, ruW, putL, Nat.reduceLeDiff, xF, ruU, entryE, Nat.reduceLT, Nat.reduceAdd, Nat.reduceMul, Nat.reduceEqDiff]
      refine w_callV (f := 70) (ca := [.pointer (some ⟨bs, 0, none⟩), .pointer (some ⟨bc, 0, none⟩)]) (by simp only [ruU, entryE, Nat.reduceLT, Nat.reduceAdd, Nat.reduceMul, Nat.reduceEqDiff]) (by simp only [g1, ruU, entryE, Nat.reduceLT, Nat.reduceAdd, Nat.reduceMul, Nat.reduceEqDiff]) (by simp only [ruU, entryE, Nat.reduceLT, Nat.reduceAdd, Nat.reduceMul, Nat.reduceEqDiff]) (by kernel_rfl) ?_
      simp only [ruU, entryE, Nat.reduceLT, Nat.reduceAdd, Nat.reduceMul, Nat.reduceEqDiff]
      refine (show CallS Tryd.prog 70 _ (ext H []) _ (ext H []) from hp).to ?_
      cases hf : toGe c sp md with
      | true =>
        rw [hf, cond_true] at hs
        simp (maxDischargeDepth := 6) only [g1, g5, g6, hf, ruW, putL, Nat.reduceLeDiff, xF, ruU, entryE, Nat.reduceLT, Nat.reduceAdd, Nat.reduceMul, Nat.reduceEqDiff]
        refine loopC_next ⟨(i, md, k'), by simp only; omega, rfl, by simp only; omega, by simp only; omega, hs, ?_, ?_, ?_⟩ <;> simp only [g1, g5, g6, ruU, entryE, Nat.reduceLT, Nat.reduceAdd, Nat.reduceMul, Nat.reduceEqDiff]
      | false =>
        rw [hf, cond_false] at hs
        simp (maxDischargeDepth := 6) only [g1, g5, g6, hf, hws, ruW, putL, Nat.reduceLeDiff, xF, ruU, entryE, Nat.reduceLT, Nat.reduceAdd, Nat.reduceMul, Nat.reduceEqDiff]
        refine loopC_next ⟨(md + 1, j, k'), by simp only; omega, rfl, by simp only; omega, by simp only; omega, hs, ?_, ?_, ?_⟩ <;> simp only [g1, g5, g6, ruU, entryE, Nat.reduceLT, Nat.reduceAdd, Nat.reduceMul, Nat.reduceEqDiff]
    · have hd : decide ((i : Int) < (j : Int)) = false := decide_eq_false (by omega)
      rw [srch_done _ _ _ _ hij] at hs
      simp (maxDischargeDepth := 6) only [g1, g5, g6, hd, ruW, putL, Nat.reduceLeDiff, xF, ruU, entryE, Nat.reduceLT, Nat.reduceAdd, Nat.reduceMul, Nat.reduceEqDiff]
      refine joinR_normal ⟨rfl, ?_⟩
      simp only [g5, hs, ruU, entryE, Nat.reduceLT, Nat.reduceAdd, Nat.reduceMul, Nat.reduceEqDiff]
  clear g1 g5 g6 E
  rintro E X ⟨hX, g5⟩
  rw [hX, show H = ext H [] from rfl]
  simp (maxDischargeDepth := 6) only [g5, Tryd.results69, ruW, putL, Nat.reduceLeDiff, xF, ruU, entryE, Nat.reduceLT, Nat.reduceAdd, Nat.reduceMul, Nat.reduceEqDiff]
  exact Fin.pure rfl

def inR (c : Int) (sp : List (Int × Int)) : Bool :=
  decide (srch (toGe c sp) sp.length 0 sp.length < sp.length) && decide ((sp.getD (srch (toGe c sp) sp.length 0 sp.length) (0, 0)).1 ≤ c)

theorem in_c (H : AHeap) (m : Nat) (c : Int) (sp : List (Int × Int)) (h : ∃ e, bk H m = some ⟨e, false, spV sp⟩) (hlen : sp.length ≤ 1000) : Pure 63 [.int .i64 c, .slice (some ⟨m, 0, some 0⟩) sp.length sp.length] H (.bool (inR c sp)) := by
  obtain ⟨b, hb⟩ : ∃ b, H.next = b := ⟨_, rfl⟩
  obtain ⟨e, h3⟩ := h
  obtain ⟨k, hk⟩ : ∃ k, sp.length = k := ⟨_, rfl⟩
  obtain ⟨i, hi⟩ : ∃ i, srch (toGe c sp) sp.length 0 sp.length = i := ⟨_, rfl⟩
  obtain ⟨d1, hd1⟩ : ∃ d, decide (i < k) = d := ⟨_, rfl⟩
  have hd1' : decide ((i : Int) < (k : Int)) = d1 := by
    rw [← hd1]
    by_cases h : i < k
    · rw [decide_eq_true h, decide_eq_true (by omega)]
    · rw [decide_eq_false h, decide_eq_false (by omega)]
  refine callS_fn mixed Tryd.func63 rfl Tryd.ntmps63 (Nat.le_of_ble_eq_true rfl) fun wf hsc => ?_
  have hbase : H.base ≤ b := hb ▸ wf.base
  have l3 : m < b := hb ▸ wf.lt h3
  have hclo : Clo (ext H [⟨3, false, [.int .i64 c]⟩, ⟨97, false, [.slice (some ⟨m, 0, some 0⟩) sp.length sp.length]⟩]) (b + 1) (b + 0) m c sp :=
    ⟨by rw [bk_at hb (by simp)]; rfl, by rw [bk_at hb (by simp)]; rfl, e, by rw [bk_old (by omega)]; exact h3⟩
  have hse := search_c _ (b + 1) (b + 0) m c sp hclo hlen
  unfold inR
  rw [hi] at hse ⊢
  rw [hk] at hse ⊢
  rw [hd1]
  simp (maxDischargeDepth := 6) only [hb, hbase, l3, ruW, putL, Nat.reduceLeDiff, xF, ruU, entryE, Nat.reduceLT, Nat.reduceAdd, Nat.reduceMul, Nat.reduceEqDiff]
  refine hse.to ?_
  simp (maxDischargeDepth := 6) only [hb, hbase, l3, ruW, putL, Nat.reduceLeDiff, xF, ruU, entryE, Nat.reduceLT, Nat.reduceAdd, Nat.reduceMul, Nat.reduceEqDiff]
  refine w_drawB [] [(4, 14)] (by kernel_rfl) rfl (by kernel_rfl) fun ops anc hA hG => ?_
  simp only [all2_cons] at hG
  cases d1 with
  | false =>
    simp (maxDischargeDepth := 6) only [hb, hbase, l3, hG, hd1', Bool.false_and, Tryd.results63, ruD, ruW, putL, Nat.reduceLeDiff, xF, ruU, entryE, Nat.reduceLT, Nat.reduceAdd, Nat.reduceMul, Nat.reduceEqDiff]
    exact Fin.pureE rfl rfl
  | true =>
    have hik : i < sp.length := by rw [hk]; exact of_decide_eq_true hd1
    obtain ⟨q, hq⟩ : ∃ q, sp[i]? = some q := ⟨_, List.getElem?_eq_getElem hik⟩
    have hg := (spV_get sp i q hq).1
    have hd : sp.getD i (0, 0) = q := by rw [List.getD, hq]; rfl
    have hia := sp_ia (len := k) (cap := k) (n := m) (s := some 0) (k := i) (by omega)
    rw [hd]
    simp (maxDischargeDepth := 6) only [hb, hbase, l3, h3, hG, hd1', hia, hg, Bool.true_and, Tryd.results63, ruD, ruW, putL, Nat.reduceLeDiff, xF, ruU, entryE, Nat.reduceLT, Nat.reduceAdd, Nat.reduceMul, Nat.reduceEqDiff]
    exact Fin.pureE rfl rfl

def zeroSp : List (Int × Int) := [(768, 879), (1155, 1161), (1425, 1469), (8203, 8207), (8400, 8447), (65024, 65039), (65056, 65071)]
def twoSp : List (Int × Int) := [(0, 8), (10, 31), (127, 127), (4352, 4447), (11904, 12350), (12353, 42191), (44032, 55203), (63744, 64255), (65072, 65135), (65280, 65376), (65504, 65510), (127744, 128591), (129280, 129535), (131072, 262141)]
def widthR (c : Int) : Nat := if (!isR c || inR c zeroSp) = true then 0 else if inR c twoSp = true then 2 else 1

set_option maxHeartbeats 4000000 in
theorem width46_c (H : AHeap) (c : Int) : Pure 46 [.int .i64 c] H (.int .i64 (widthR c : Int)) := by
  obtain ⟨b, hb⟩ : ∃ b, H.next = b := ⟨_, rfl⟩
  refine callS_fn mixed Tryd.func46 rfl Tryd.ntmps46 (Nat.le_of_ble_eq_true rfl) fun wf hsc => ?_
  have hbase : H.base ≤ b := hb ▸ wf.base
  have u94 : Tryd.prog.underlying 94 = some (.array 7 93) := by kernel_rfl
  have u95 : Tryd.prog.underlying 95 = some (.array 14 93) := by kernel_rfl
  have z93 : szOf Tryd.prog 93 = some 2 := by kernel_rfl
  have sl94 : ∀ (X : AHeap) (n : Nat), aSlice Tryd.prog X 94 (.pointer (some ⟨n, 0, none⟩)) none none none = some (.slice (some ⟨n, 0, some 0⟩) 7 7, X) := fun X n => by
    simp only [aSlice, u94, bound, z93, Option.bind_eq_bind, Option.bind_some]
    rfl
  have sl95 : ∀ (X : AHeap) (n : Nat), aSlice Tryd.prog X 95 (.pointer (some ⟨n, 0, none⟩)) none none none = some (.slice (some ⟨n, 0, some 0⟩) 14 14, X) := fun X n => by
    simp only [aSlice, u95, bound, z93, Option.bind_eq_bind, Option.bind_some]
    rfl
  obtain ⟨d0, hd0⟩ : ∃ d, isR c = d := ⟨_, rfl⟩
  obtain ⟨d1, hd1⟩ : ∃ d, inR c zeroSp = d := ⟨_, rfl⟩
  obtain ⟨d2, hd2⟩ : ∃ d, inR c twoSp = d := ⟨_, rfl⟩
  have his := is_c (ext H [⟨94, false, spV zeroSp⟩, ⟨95, false, spV twoSp⟩]) c
  have hin0 := in_c (ext H [⟨94, false, spV zeroSp⟩, ⟨95, false, spV twoSp⟩]) (b + 0) c zeroSp ⟨94, by rw [bk_at hb (by simp)]; rfl⟩ (by decide)
  have hin1 := in_c (ext H [⟨94, false, spV zeroSp⟩, ⟨95, false, spV twoSp⟩]) (b + 1) c twoSp ⟨95, by rw [bk_at hb (by simp)]; rfl⟩ (by decide)
  rw [hd0] at his
  rw [hd1] at hin0
  rw [hd2] at hin1
  have hl0 : zeroSp.length = 7 := rfl
  have hl1 : twoSp.length = 14 := rfl
  rw [hl0] at hin0
  rw [hl1] at hin1
  have key : widthR c = cond (!d0 || d1) 0 (cond d2 2 1) := by
    unfold widthR
    rw [hd0, hd1, hd2]
    cases d0 <;> cases d1 <;> cases d2 <;> rfl
  rw [key]
  simp (maxDischargeDepth := 6) only [hb, hbase, ruW, putL, Nat.reduceLeDiff, xF, ruU, entryE, Nat.reduceLT, Nat.reduceAdd, Nat.reduceMul, Nat.reduceEqDiff]
  refine his.to ?_
  cases d0 with
  | false =>
    simp (maxDischargeDepth := 6) only [hb, hbase, Bool.not_false, Bool.true_or, cond_true, Tryd.results46, ruW, putL, Nat.reduceLeDiff, xF, ruU, entryE, Nat.reduceLT, Nat.reduceAdd, Nat.reduceMul, Nat.reduceEqDiff]
    exact Fin.pureE rfl rfl
  | true =>
    simp (maxDischargeDepth := 6) only [hb, hbase, sl94, sl95, ruW, putL, Nat.reduceLeDiff, xF, ruU, entryE, Nat.reduceLT, Nat.reduceAdd, Nat.reduceMul, Nat.reduceEqDiff]
    refine hin0.to ?_
    cases d1 with
    | true =>
      simp (maxDischargeDepth := 6) only [hb, hbase, Bool.or_true, cond_true, Tryd.results46, ruW, putL, Nat.reduceLeDiff, xF, ruU, entryE, Nat.reduceLT, Nat.reduceAdd, Nat.reduceMul, Nat.reduceEqDiff]
      exact Fin.pureE rfl rfl
    | false =>
      simp (maxDischargeDepth := 6) only [hb, hbase, sl94, sl95, ruW, putL, Nat.reduceLeDiff, xF, ruU, entryE, Nat.reduceLT, Nat.reduceAdd, Nat.reduceMul, Nat.reduceEqDiff]
      refine hin1.to ?_
      cases d2 <;> (simp (maxDischargeDepth := 6) only [hb, hbase, Bool.not_true, Bool.or_false, cond_true, cond_false, Tryd.results46, ruW, putL, Nat.reduceLeDiff, xF, ruU, entryE, Nat.reduceLT, Nat.reduceAdd, Nat.reduceMul, Nat.reduceEqDiff]; exact Fin.pureE rfl rfl)

theorem wd_real : Wd widthR where
  call := fun c H _ _ => width46_c H c
  le := fun c => by unfold widthR; split <;> (try split) <;> omega
theorem width_is {c : Int} (h : widthR c ≠ 0) : isR c = true := by
  unfold widthR at h
  cases hi : isR c with
  | true => rfl
  | false => rw [hi] at h; simp at h
def uni : Uni := ⟨widthR, fullR, decR⟩

end Go.Proofs.YtpohjcacnkhnkaaDoor

/- What plain comes to. -/
namespace Go.Proofs.YtpohjcacnkhnkaaDoor
open Go.Ax
set_option linter.unusedSimpArgs false
set_option maxRecDepth 10000

theorem Tabs.step {H H1 : AHeap} {p p1 : Rp} {y : Tm} (t : Tabs H) (s : Step H p H1 p1 y) (h0 : 0 ∉ p.blks) (h1 : 1 ∉ p.blks) : Tabs H1 ∧ 0 ∉ p1.blks ∧ 1 ∉ p1.blks := by
  have b0 := s.mod.bk t.l0 h0
  have b1 := s.mod.bk t.l1 h1
  refine ⟨⟨fun a ha => by rw [b0]; exact t.f a ha, fun i hi => by rw [b1]; exact t.a i hi, s.mod.lt t.l0, s.mod.lt t.l1⟩, fun h => ?_, fun h => ?_⟩
  · rcases s.new _ h with h | h
    · exact h0 h
    · have := t.l0; omega
  · rcases s.new _ h with h | h
    · exact h1 h
    · have := t.l1; omega

theorem BytesAt.drop {H : AHeap} {v : Value} {l : List UInt8} (h : BytesAt H v l) (hl : l ≠ []) {k : Nat} (hk : k ≤ l.length) : ∃ a, aSlice Tryd.prog (ext H []) 29 v (some (.int .i64 (k : Int))) none none = some (.slice a (l.length - k) (l.length - k), ext H []) ∧ BytesAt H (.slice a (l.length - k) (l.length - k)) (l.drop k) ∧ idsV (.slice a (l.length - k) (l.length - k)) = idsV v := by
  have hu : Tryd.prog.underlying 29 = some (.slice 5) := by kernel_rfl
  have hsz : szOf Tryd.prog 5 = some 1 := by kernel_rfl
  have hpos : 0 < l.length := List.length_pos_iff.2 hl
  rcases h with ⟨rfl, rfl⟩ | ⟨_, n, pre, rfl, hb⟩ | ⟨rfl, n, off, j, L, rfl, hb, hle⟩ | ⟨rfl, n, rfl, hb⟩
  · exact absurd rfl hl
  · rw [ext_nil]
    by_cases hkl : k < l.length
    · refine ⟨some ⟨n, pre.length + k * 1, none⟩, sl_opn hu hsz bound_nat rfl (Nat.le_refl _) hk hkl hb rfl, .inr (.inl ⟨?_, n, pre ++ l.take k, ?_, ?_⟩), by simp [idsV]⟩
      · intro e
        have := congrArg List.length e
        simp at this
        omega
      · have e : (pre ++ l.take k).length = pre.length + k * 1 := by simp; omega
        rw [e, List.length_drop]
      · rw [hb, List.append_assoc, List.take_append_drop]
    · have hke : k = l.length := by omega
      have hs := sl_end (P := Tryd.prog) (H := H) (t := 29) (e := 5) (sz := 1) (n := n) (off := pre.length) (len := l.length) (cap := l.length) (lo := some (.int .i64 (k : Int))) (hi := none) hu hsz bound_nat rfl rfl hke hpos hb rfl
      have hz : l.length - k = 0 := by omega
      rw [hz]
      refine ⟨some ⟨n, pre.length + k * 1, some (pre.length + 1)⟩, hs, .inr (.inr (.inl ⟨List.drop_eq_nil_of_le (by omega), n, _, _, _, rfl, hb, ?_⟩)), by simp [idsV]⟩
      rw [bytesV_length, List.length_append]; omega
  · exact absurd rfl hl
  · exact absurd rfl hl

theorem control_rest (x : Tm) (c : Int) : (x.control c).rest = x.rest ∧ (x.control c).params = x.params := by
  unfold Tm.control
  repeat' split
  all_goals exact ⟨rfl, rfl⟩
theorem write_rest (u : Uni) (x : Tm) (c : Int) : (x.write u c).rest = x.rest ∧ (x.write u c).params = x.params := by
  unfold Tm.write
  simp only
  split
  · exact ⟨rfl, rfl⟩
  · split <;> exact ⟨rfl, rfl⟩
theorem character_rest (u : Uni) (x : Tm) (c : Int) : (x.character u c).rest = x.rest ∧ (x.character u c).params = x.params := by
  unfold Tm.character
  split
  · exact control_rest x c
  · exact write_rest u x c

def Tm.withRest (x : Tm) (l : List UInt8) : Tm := { x with rest := l }
theorem Tm.Sz.withRest {x : Tm} (s : x.Sz) (l : List UInt8) : (x.withRest l).Sz :=
  ⟨s.h1, s.h2, s.w1, s.w2, s.ws, s.r1, s.r2, s.c1, s.c2, s.sr1, s.sr2, s.sc1, s.sc2, s.t1, s.t2, s.t3, s.md, s.hd⟩

theorem TmAt.putRest {H H1 : AHeap} {p : Rp} {x : Tm} (g : TmAt H p x) (v : Value) (l : List UInt8) (m : Mod (idsV p.rv) H H1) (hv : BytesAt H1 v l) (hi : ∀ n ∈ idsV v, n ∈ idsV p.rv ∨ (H.next ≤ n ∧ n < H1.next)) (hnd : (idsV v).Nodup) : Step H p (ext (uw H1 p.t 19 [v]) []) { p with rv := v, pv := p.pv } (x.withRest l) := by
  have hnd0 := (List.nodup_cons.1 (List.nodup_cons.1 g.nd).2).2
  rw [List.append_assoc] at hnd0
  have hnd1 := List.nodup_append.1 (List.nodup_append.1 hnd0).2.1
  have hT := g.lt p.t (by simp [Rp.blks])
  have htv : p.t ∉ idsV p.rv := fun h => (List.nodup_cons.1 g.nd).1 (by simp [h])
  have hbT : bk H1 p.t = some ⟨49, false, cellsT p x⟩ := (m.bk hT htv).trans g.cell
  have hvt : ∀ n ∈ idsV v, n ≠ p.t := fun n hn e => by
    rcases hi n hn with h | ⟨h, _⟩
    · exact htv (e ▸ h)
    · omega
  have mU : Mod [p.t] H1 (ext (uw H1 p.t 19 [v]) []) := Mod.uw (by simp)
  refine g.rebytes v p.pv ((m.mono (by intro n hn; simp [hn])).trans (mU.mono (by intro n hn; simp at hn; simp [hn]))) ?_ rfl ?_ ?_ ?_ ?_
  · rw [ext_nil, bk_uw_eq, hbT]; rfl
  · exact hv.of fun n hn => by rw [ext_nil]; exact uw_get (hvt n hn)
  · refine g.par.of fun n hn => ?_
    rw [ext_nil, uw_get (fun e => (List.nodup_cons.1 g.nd).1 (by rw [← e]; simp [hn]))]
    exact m.get n (g.lt n (by simp [Rp.blks, hn])) (fun h => hnd1.2.2 n h n hn rfl)
  · intro n hn
    rcases List.mem_append.1 hn with h | h
    · rcases hi n h with h | h
      · exact .inl (by simp [h])
      · exact .inr ⟨h.1, by rw [ext_nil, uw_next]; exact h.2⟩
    · exact .inl (by simp [h])
  · refine List.nodup_append.2 ⟨hnd, hnd1.2.1, fun a ha b hb e => ?_⟩
    rcases hi a ha with h | ⟨h, _⟩
    · exact hnd1.2.2 a h b hb e
    · have := g.lt b (by simp [Rp.blks, hb]); omega

set_option maxHeartbeats 4000000 in
theorem plain_c (H : AHeap) (p : Rp) (x : Tm) (c : UInt8) (g : TmAt H p x) (s : x.Sz) (ok : H.base ≤ H.next) (tb : Tabs H) (p0 : 0 ∉ p.blks) (p1 : 1 ∉ p.blks) (hrl : x.rest.length ≤ 900) :
    Does 18 [u8v c] H p (.int .i64 ((x.plain uni c).2 : Int)) (x.plain uni c).1 := by
  obtain ⟨b, hb⟩ : ∃ b, H.next = b := ⟨_, rfl⟩
  have hbb : H.base ≤ b := hb ▸ ok
  have hT : p.t < b := hb ▸ g.lt p.t (by simp [Rp.blks])
  have h1 := g.cell
  simp only [cellsT] at h1
  obtain ⟨arv, hrv⟩ := g.rest.sl
  have h2 := h1
  rw [hrv] at h2
  obtain ⟨G, happ, hwG, mG, hn2⟩ := bytes_app (c := c) g.rest (fun n hn => g.lt n (by simp [Rp.blks, hn])) hb (by omega) ok
  obtain ⟨nw, hnw⟩ : ∃ nw, b + 1 = nw := ⟨_, rfl⟩
  rw [hnw] at happ hwG hn2
  have okG := mG.ok ok
  have st0 := g.putRest _ _ mG hwG (fun n hn => by simp only [idsV, List.mem_singleton] at hn; subst hn; exact .inr ⟨by omega, hn2⟩) (by simp [idsV])
  obtain ⟨gn, hgn⟩ : ∃ gn, G.next = gn := ⟨_, rfl⟩
  have hTG : p.t < gn := by rw [← hgn]; exact mG.lt (g.lt p.t (by simp [Rp.blks]))
  have hnwg : nw < gn := hgn ▸ hn2
  have hbG := st0.at_.cell
  have htv : p.t ∉ idsV p.rv := fun h => (List.nodup_cons.1 g.nd).1 (by simp [h])
  have hcG : bk G p.t = some ⟨49, false, cellsT p x⟩ := (mG.bk (g.lt p.t (by simp [Rp.blks])) htv).trans g.cell
  simp only [cellsT] at hcG
  rw [hrv] at happ
  refine callE_fn mixed Tryd.func18 rfl Tryd.ntmps18 (Nat.le_of_ble_eq_true rfl) ?_
  simp (maxDischargeDepth := 6) only [hb, hbb, hT, h2, happ, hgn, hTG, hnwg, hcG, ruW, putL, Nat.reduceLeDiff, xF, ruU, entryE, Nat.reduceLT, Nat.reduceAdd, Nat.reduceMul, Nat.reduceEqDiff]
  generalize hV : uw G p.t 19 _ = V at st0 ⊢
  rw [ext_nil] at st0
  refine w_env fun E hE => ?_
  have g0 : E 0 = .pointer (some ⟨p.t, 0, none⟩) := by rw [hE]; simp only [ruU, entryE, Nat.reduceLT, Nat.reduceAdd, Nat.reduceMul, Nat.reduceEqDiff]
  clear hE
  have hcv : ∀ (X : AHeap) (m : Int), aConvert Tryd.prog X 21 3 (.int .i32 m) = some (.int .i64 (IntKind.i64.wrap m), X) := fun X m => cv_int (u := .int .i32) (by kernel_rfl) (by kernel_rfl)
  refine blockC_meet (fun E' H' => ∃ y p2, Step H p H' p2 y ∧ x.plain uni c = (y, 0) ∧ E' 0 = .pointer (some ⟨p.t, 0, none⟩)) ?_ ?_
  · refine w_loop (fun (q : Nat × Tm × Rp) E' H' => Step H p H' q.2.2 q.2.1 ∧ q.2.1.Sz ∧ q.2.1.rest.length < q.1 ∧ q.2.1.rest.length ≤ 901 ∧ Tm.drain uni q.1 q.2.1 = x.plain uni c ∧ E' 0 = .pointer (some ⟨p.t, 0, none⟩)) (fun q => q.2.1.rest.length) (x.rest.length + 2, x.withRest (x.rest ++ [c]), { p with rv := .slice (some ⟨nw, 0, none⟩) (x.rest.length + 1) (x.rest.length + 1), pv := p.pv })
      ⟨st0, s.withRest _, by simp [Tm.withRest], by simp [Tm.withRest]; omega, rfl, g0⟩ ?_
    clear g0 E hV st0 hbG V
    rintro ⟨k, y, p2⟩ E X ⟨st, sy, hk, hlen, hdr, g0⟩
    simp only at st sy hk hlen hdr
    rw [show X = ext X [] from rfl]
    have okX := st.ok ok
    obtain ⟨xb, hxb⟩ : ∃ xb, X.next = xb := ⟨_, rfl⟩
    have hT : p.t < xb := hxb ▸ st.same ▸ st.at_.lt p2.t (by simp [Rp.blks])
    have h1 := st.at_.cell
    rw [st.same] at h1
    simp only [cellsT] at h1
    obtain ⟨ar, hrv⟩ := st.at_.rest.sl
    obtain ⟨R, hR⟩ : ∃ R, y.rest.length = R := ⟨_, rfl⟩
    rw [hR] at hrv
    rw [hrv] at h1
    obtain ⟨tX, q0, q1⟩ := tb.step st p0 p1
    obtain ⟨k', rfl⟩ : ∃ k', k = k' + 1 := ⟨k - 1, by omega⟩
    by_cases hnil : y.rest = []
    · have hR0 : R = 0 := by rw [← hR, hnil]; rfl
      have hd : decide ((0 : Int) < (R : Int)) = false := decide_eq_false (by omega)
      simp (maxDischargeDepth := 6) only [g0, hxb, hT, h1, hd, ruW, putL, Nat.reduceLeDiff, xF, ruU, entryE, Nat.reduceLT, Nat.reduceAdd, Nat.reduceMul, Nat.reduceEqDiff]
      refine joinR_normal ⟨y, p2, st, ?_, ?_⟩
      · rw [← hdr, Tm.drain, if_neg (fun h => h.1 hnil)]
      · simp only [g0, ruU, entryE, Nat.reduceLT, Nat.reduceAdd, Nat.reduceMul, Nat.reduceEqDiff]
    have hRp : 0 < R := by rw [← hR]; exact List.length_pos_iff.2 hnil
    have hd : decide ((0 : Int) < (R : Int)) = true := decide_eq_true (by omega)
    have hfu := full_c X p2.rv y.rest st.at_.rest (fun n hn => st.at_.lt n (by simp [Rp.blks, hn])) tX hnil (by omega)
    rw [hrv] at hfu
    cases hf : fullR y.rest with
    | false =>
      rw [hf] at hfu
      simp (maxDischargeDepth := 6) only [g0, hxb, hT, h1, hd, ruW, putL, Nat.reduceLeDiff, xF, ruU, entryE, Nat.reduceLT, Nat.reduceAdd, Nat.reduceMul, Nat.reduceEqDiff]
      refine (show CallS Tryd.prog 31 _ (ext X []) _ (ext X []) from hfu).to ?_
      simp (maxDischargeDepth := 6) only [g0, ruW, putL, Nat.reduceLeDiff, xF, ruU, entryE, Nat.reduceLT, Nat.reduceAdd, Nat.reduceMul, Nat.reduceEqDiff]
      refine joinR_normal ⟨y, p2, st, ?_, ?_⟩
      · rw [← hdr, Tm.drain, if_neg (fun h => by have := h.2; rw [show uni.full y.rest = fullR y.rest from rfl, hf] at this; cases this)]
      · simp only [g0, ruU, entryE, Nat.reduceLT, Nat.reduceAdd, Nat.reduceMul, Nat.reduceEqDiff]
    | true =>
    rw [hf] at hfu
    have hcond : y.rest ≠ [] ∧ uni.full y.rest = true := ⟨hnil, hf⟩
    obtain ⟨a, r, har⟩ : ∃ a r, y.rest = a :: r := by cases hy : y.rest with | nil => exact absurd hy hnil | cons a r => exact ⟨a, r, rfl⟩
    have hga := st.at_.rest.get (k := 0) (c := a) (by rw [har]; rfl)
    obtain ⟨n0, o0, i0, m0, ld0⟩ := hga
    rw [hrv, show ((0 : Nat) : Int) = 0 from rfl] at i0
    have t0 : n0 < xb := hxb ▸ st.at_.lt n0 (by simp [Rp.blks, m0])
    have q27 := u8_dec (c := a) (n := 27) (by omega)
    simp only [Int.cast_ofNat_Int] at q27
    by_cases h27 : a = 27
    · have t27 : decide ((a.toNat : Int) = 27) = true := by rw [q27]; exact decide_eq_true h27
      have hpl : x.plain uni c = (y.withRest [], 1) := by
        have hh : y.rest.headD 0 = 27 := by rw [har]; exact h27
        rw [← hdr, Tm.drain, if_pos hcond, if_pos hh]
        rfl
      rw [hpl]
      have stN := st.at_.putRest (.slice none 0 0) [] Mod.refl (.inl ⟨rfl, rfl⟩) (by simp [idsV]) (by simp [idsV])
      rw [st.same] at stN
      simp (maxDischargeDepth := 6) only [g0, hxb, hT, h1, hd, ruW, putL, Nat.reduceLeDiff, xF, ruU, entryE, Nat.reduceLT, Nat.reduceAdd, Nat.reduceMul, Nat.reduceEqDiff]
      refine (show CallS Tryd.prog 31 _ (ext X []) _ (ext X []) from hfu).to ?_
      simp (maxDischargeDepth := 6) only [g0, hxb, hT, h1, i0, t0, ld0, t27, joinR_ret, Tryd.results18, ruW, putL, Nat.reduceLeDiff, xF, ruU, entryE, Nat.reduceLT, Nat.reduceAdd, Nat.reduceMul, Nat.reduceEqDiff]
      exact ⟨rfl, _, st.trans ok stN⟩
    have f27 : decide ((a.toNat : Int) = 27) = false := by rw [q27]; exact decide_eq_false h27
    have hde := dec_c X p2.rv y.rest st.at_.rest (fun n hn => st.at_.lt n (by simp [Rp.blks, hn])) tX hnil (by omega)
    rw [hrv] at hde
    obtain ⟨hn1, hn2⟩ := decR_n y.rest hnil
    have h32 := decR_32 y.rest
    obtain ⟨cr, n, hcr⟩ : ∃ cr n, decR y.rest = (cr, n) := ⟨_, _, rfl⟩
    rw [hcr] at hde hn1 hn2 h32
    simp only at hde hn1 hn2 h32
    obtain ⟨y2, hy2⟩ : ∃ y2, (if cr ≠ 65533 ∨ n > 1 then y.character uni cr else y) = y2 := ⟨_, rfl⟩
    have hdr2 : Tm.drain uni k' (y2.withRest (y2.rest.drop n)) = x.plain uni c := by
      rw [← hdr, Tm.drain, if_pos hcond]
      have : ¬ (y.rest.headD 0 = 27) := by rw [har]; exact h27
      rw [if_neg this]
      simp only [show uni.dec y.rest = (cr, n) from hcr]
      rw [hy2]
      rfl
    have hy2r : y2.rest = y.rest := by
      rw [← hy2]
      split
      · exact (character_rest uni y cr).1
      · rfl
    have sy2 : y2.Sz := by
      rw [← hy2]
      split
      · exact sy.character cr
      · exact sy
    have hwc : IntKind.i64.wrap cr = cr := wrap_sm (by have := h32.1; omega) (by have := h32.2; omega)
    -- what comes behind the character
    have tail : ∀ (Z : AHeap) (p3 : Rp) (E' : Env), Step X p2 Z p3 y2 → ∃ a' p4, aSlice Tryd.prog (ext Z []) 29 p3.rv (some (.int .i64 (n : Int))) none none = some (.slice a' (R - n) (R - n), ext Z []) ∧ Step H p (ext (uw Z p.t 19 [.slice a' (R - n) (R - n)]) []) p4 (y2.withRest (y2.rest.drop n)) := by
      intro Z p3 E' st2
      have hne2 : y2.rest ≠ [] := by rw [hy2r]; exact hnil
      obtain ⟨a', hs, hb', hid⟩ := st2.at_.rest.drop hne2 (k := n) (by rw [hy2r]; exact hn2)
      rw [hy2r, hR] at hs hb' hid
      refine ⟨a', ⟨p.t, p3.rb, p3.rs, .slice a' (R - n) (R - n), p3.pv⟩, hs, ?_⟩
      have hnd3 := (List.nodup_cons.1 (List.nodup_cons.1 st2.at_.nd).2).2
      rw [List.append_assoc] at hnd3
      have stN := st2.at_.putRest (.slice a' (R - n) (R - n)) (y2.rest.drop n) Mod.refl (by rw [hy2r]; exact hb') (fun q hq => .inl (hid ▸ hq)) (by rw [hid]; exact (List.nodup_append.1 (List.nodup_append.1 hnd3).2.1).1)
      have stF := (st.trans ok st2).trans ok stN
      rw [show p3.t = p.t from st2.same.trans st.same] at stF
      exact stF
    have hnat : ∀ m : Nat, decide ((1 : Int) < (n : Int)) = decide (n > 1) := fun _ => by
      by_cases h : n > 1
      · rw [decide_eq_true h, decide_eq_true (by omega)]
      · rw [decide_eq_false h, decide_eq_false (by omega)]
    obtain ⟨e1, he1⟩ : ∃ e, decide (cr = 65533) = e := ⟨_, rfl⟩
    have he1' : decide (¬ cr = 65533) = !e1 := by rw [← he1]; simp
    obtain ⟨e2, he2⟩ : ∃ e, decide ((1 : Int) < (n : Int)) = e := ⟨_, rfl⟩
    simp (maxDischargeDepth := 6) only [g0, hxb, hT, h1, hd, ruW, putL, Nat.reduceLeDiff, xF, ruU, entryE, Nat.reduceLT, Nat.reduceAdd, Nat.reduceMul, Nat.reduceEqDiff]
    refine (show CallS Tryd.prog 31 _ (ext X []) _ (ext X []) from hfu).to ?_
    simp (maxDischargeDepth := 6) only [g0, hxb, hT, h1, i0, t0, ld0, f27, ruW, putL, Nat.reduceLeDiff, xF, ruU, entryE, Nat.reduceLT, Nat.reduceAdd, Nat.reduceMul, Nat.reduceEqDiff]
    refine (show CallS Tryd.prog 32 _ (ext X []) _ (ext X []) from hde).to ?_
    have next : ∀ (Z : AHeap) (p3 : Rp), Step X p2 Z p3 y2 → ∃ a' p4, bk Z p.t = some ⟨49, false, cellsT p3 y2⟩ ∧ p.t < Z.next ∧ aSlice Tryd.prog (ext Z []) 29 p3.rv (some (.int .i64 (n : Int))) none none = some (.slice a' (R - n) (R - n), ext Z []) ∧ (∀ q ∈ idsV (.slice a' (R - n) (R - n)), q < Z.next) ∧ Step H p (ext (uw Z p.t 19 [.slice a' (R - n) (R - n)]) []) p4 (y2.withRest (y2.rest.drop n)) := by
      intro Z p3 st2
      obtain ⟨a', p4, t1, t2⟩ := tail Z p3 (fun _ => undef) st2
      have hcz := st2.at_.cell
      have htz := st2.at_.lt p3.t (by simp [Rp.blks])
      rw [show p3.t = p.t from st2.same.trans st.same] at hcz htz
      have hsub : idsV (.slice a' (R - n) (R - n)) = idsV p3.rv := by
        obtain ⟨a2, hs2, _, hid2⟩ := st2.at_.rest.drop (by rw [hy2r]; exact hnil) (k := n) (by rw [hy2r]; exact hn2)
        rw [hy2r, hR, t1] at hs2
        have := Option.some.inj hs2
        rw [hy2r, hR] at hid2
        rw [(Prod.mk.inj this).1]
        exact hid2
      exact ⟨a', p4, hcz, htz, t1, fun q hq => st2.at_.lt q (by rw [hsub] at hq; simp [Rp.blks, hq]), t2⟩
    have fin : ∀ (Z : AHeap) (p3 : Rp), Step X p2 Z p3 y2 → ∃ a' p4, Step H p (ext (uw Z p.t 19 [.slice a' (R - n) (R - n)]) []) p4 (y2.withRest (y2.rest.drop n)) := fun Z p3 h => by
      obtain ⟨a', p4, _, _, _, _, h⟩ := next Z p3 h
      exact ⟨a', p4, h⟩
    have hlen2 : (y2.rest.drop n).length = R - n := by rw [List.length_drop, hy2r, hR]
    cases hb2 : (!e1 || e2) with
    | true =>
      have hyc : y2 = y.character uni cr := by
        rw [← hy2, if_pos]
        cases e1 with
        | false => exact .inl (of_decide_eq_false he1)
        | true =>
          simp only [Bool.not_true, Bool.false_or] at hb2
          exact .inr (by have := of_decide_eq_true (he2.trans hb2); omega)
      have hch := character_c uni wd_real X p2 y cr st.at_ sy okX h32.1 h32.2
      unfold Does at hch
      rw [st.same, ← hyc] at hch
      cases e1 <;> cases e2 <;> first
        | (exfalso; revert hb2; decide)
        | (simp (maxDischargeDepth := 6) only [g0, hxb, hT, h1, he1, he1', he2, w_convert, hcv, hwc, Bool.not_true, Bool.not_false, ruW, putL, Nat.reduceLeDiff, xF, ruU, entryE, Nat.reduceLT, Nat.reduceAdd, Nat.reduceMul, Nat.reduceEqDiff]
           refine (show CallA Tryd.prog 33 _ (ext X []) _ from hch).mono ?_
           rintro _ Z ⟨rfl, p3, st2⟩
           obtain ⟨a', p4, hcz, htz, hslz, hidz, hstz⟩ := next Z p3 st2
           obtain ⟨zn, hzn⟩ : ∃ zn, Z.next = zn := ⟨_, rfl⟩
           rw [hzn] at htz hidz
           simp only [cellsT] at hcz
           rw [show Z = ext Z [] from rfl]
           cases a' with
           | none =>
             simp (maxDischargeDepth := 6) only [g0, hzn, htz, hcz, hslz, ruW, putL, Nat.reduceLeDiff, xF, ruU, entryE, Nat.reduceLT, Nat.reduceAdd, Nat.reduceMul, Nat.reduceEqDiff]
             refine loopC_next ⟨(k', y2.withRest (y2.rest.drop n), p4), by simp only [Tm.withRest]; omega, hstz, sy2.withRest _, by simp only [Tm.withRest]; omega, by simp only [Tm.withRest]; omega, hdr2, ?_⟩
             simp only [g0, ruU, entryE, Nat.reduceLT, Nat.reduceAdd, Nat.reduceMul, Nat.reduceEqDiff]
           | some a3 =>
             obtain ⟨ab, ao, asp⟩ := a3
             have habl : ab < zn := hidz ab (by simp [idsV])
             simp (maxDischargeDepth := 6) only [g0, hzn, htz, hcz, hslz, habl, ruW, putL, Nat.reduceLeDiff, xF, ruU, entryE, Nat.reduceLT, Nat.reduceAdd, Nat.reduceMul, Nat.reduceEqDiff]
             refine loopC_next ⟨(k', y2.withRest (y2.rest.drop n), p4), by simp only [Tm.withRest]; omega, hstz, sy2.withRest _, by simp only [Tm.withRest]; omega, by simp only [Tm.withRest]; omega, hdr2, ?_⟩
             simp only [g0, ruU, entryE, Nat.reduceLT, Nat.reduceAdd, Nat.reduceMul, Nat.reduceEqDiff])
    | false =>
      have hyc : y2 = y := by
        rw [← hy2, if_neg]
        cases e1 with
        | false => simp at hb2
        | true =>
          simp only [Bool.not_true, Bool.false_or] at hb2
          rintro (h | h)
          · exact h (of_decide_eq_true he1)
          · have := of_decide_eq_false (he2.trans hb2); omega
      obtain ⟨a', p4, hcz, htz, hslz, hidz, hstz⟩ := next X p2 (by rw [hyc]; exact Step.refl st.at_)
      rw [hxb] at htz hidz
      rw [hrv] at hslz
      cases e1 <;> cases e2 <;> first
        | (exfalso; revert hb2; decide)
        | (cases a' with
           | none =>
             simp (maxDischargeDepth := 6) only [g0, hxb, hT, h1, he1, he1', he2, hslz, Bool.not_true, Bool.not_false, ruW, putL, Nat.reduceLeDiff, xF, ruU, entryE, Nat.reduceLT, Nat.reduceAdd, Nat.reduceMul, Nat.reduceEqDiff]
             refine loopC_next ⟨(k', y2.withRest (y2.rest.drop n), p4), by simp only [Tm.withRest]; omega, hstz, sy2.withRest _, by simp only [Tm.withRest]; omega, by simp only [Tm.withRest]; omega, hdr2, ?_⟩
             simp only [g0, ruU, entryE, Nat.reduceLT, Nat.reduceAdd, Nat.reduceMul, Nat.reduceEqDiff]
           | some a3 =>
             obtain ⟨ab, ao, asp⟩ := a3
             have habl : ab < xb := hidz ab (by simp [idsV])
             simp (maxDischargeDepth := 6) only [g0, hxb, hT, h1, he1, he1', he2, hslz, habl, Bool.not_true, Bool.not_false, ruW, putL, Nat.reduceLeDiff, xF, ruU, entryE, Nat.reduceLT, Nat.reduceAdd, Nat.reduceMul, Nat.reduceEqDiff]
             refine loopC_next ⟨(k', y2.withRest (y2.rest.drop n), p4), by simp only [Tm.withRest]; omega, hstz, sy2.withRest _, by simp only [Tm.withRest]; omega, by simp only [Tm.withRest]; omega, hdr2, ?_⟩
             simp only [g0, ruU, entryE, Nat.reduceLT, Nat.reduceAdd, Nat.reduceMul, Nat.reduceEqDiff])
  · clear g0 E
    rintro E X ⟨y, p2, st, hpl, g0⟩
    rw [show X = ext X [] from rfl, hpl]
    simp (maxDischargeDepth := 6) only [g0, Tryd.results18, ruW, putL, Nat.reduceLeDiff, xF, ruU, entryE, Nat.reduceLT, Nat.reduceAdd, Nat.reduceMul, Nat.reduceEqDiff]
    exact ⟨rfl, p2, st⟩

end Go.Proofs.YtpohjcacnkhnkaaDoor

/- What Feed comes to. -/
namespace Go.Ax
section
variable {P : Program} {ro : Option Nat} {H : AHeap} {N : Nat} {E : Env} {ds : List Deferred}
theorem w_callB {f : FuncId} {x : Operand} {args : List Operand} {ts : Array TypeId} {dst : Option Nat} {ops : Array Oper} {rest : List Oper} {ty : TypeId} {pos : String} {after : Array Edge} {Q : Exit → AAct → AHeap → Prop} {fs ca : List Value} (hx : opOk P N x = true) (hv : opv E x = .func (.func f) ⟨fs⟩ ⟨ca⟩) (ha : args.all (opOk P N) = true) (hb : hasBody P f = true)
    (h : CallA P f (fs ++ args.map (opv E) ++ ca) H (opC P ro ops rest (mkA N E ds) dst Q)) :
    wpOps P ro ops (⟨dst, .call ⟨.value x, ⟨args⟩, ts⟩, ty, pos, after, none⟩ :: rest) (mkA N E ds) H Q := by
  rw [w_op rfl rfl]
  simp only [opA, aop, xCall, aevals_opv ha, aeval_opv hx, hv, Option.bind_eq_bind, Option.bind_some, callV, aInvoke, enterN, hb, if_true, Option.map_some, nextA]
  exact h
end
end Go.Ax
namespace Go.Proofs.YtpohjcacnkhnkaaDoor
open Go.Ax
set_option linter.unusedSimpArgs false
set_option maxRecDepth 10000

def BytesIn (H : AHeap) (v : Value) (l : List UInt8) : Prop :=
  (∃ a, v = .slice a l.length l.length) ∧ ∀ (k : Nat) (c : UInt8), l[k]? = some c → ∃ n off, aIndexAddr Tryd.prog 29 v (.int .i64 (k : Int)) = some (.pointer (some ⟨n, off, none⟩)) ∧ n ∈ idsV v ∧ ldB Tryd.prog 5 off (bk H n) = some (u8v c)
theorem BytesAt.in_ {H : AHeap} {v : Value} {l : List UInt8} (h : BytesAt H v l) : BytesIn H v l := ⟨h.sl, fun _ _ hk => h.get hk⟩
theorem BytesIn.of {H G : AHeap} {v : Value} {l : List UInt8} (h : BytesIn H v l) (hg : ∀ n ∈ idsV v, G.get n = H.get n) : BytesIn G v l :=
  ⟨h.1, fun k c hk => by
    obtain ⟨n, off, h1, h2, h3⟩ := h.2 k c hk
    exact ⟨n, off, h1, h2, by rw [bk_get (hg n h2)]; exact h3⟩⟩
theorem bytes_in {H : AHeap} {n : Nat} {o : Bool} {sp : Option Nat} {l : List UInt8} (h : bk H n = some ⟨5, o, bytesV l⟩) : BytesIn H (.slice (some ⟨n, 0, sp⟩) l.length l.length) l :=
  ⟨⟨_, rfl⟩, fun k c hk => by
    have hlt : k < l.length := by
      rcases Nat.lt_or_ge k l.length with h' | h'
      · exact h'
      · rw [List.getElem?_eq_none h'] at hk; cases hk
    refine ⟨n, 0 + k, byte_ia rfl hlt, by simp [idsV], ?_⟩
    rw [h, ld_one (by kernel_rfl), Nat.zero_add, bytesV_get, hk]
    rfl⟩
theorem str_bytes (X : AHeap) (s : ByteArray) : aConvert Tryd.prog (ext X []) 9 29 (.string s) = some (.slice (some ⟨X.next, 0, none⟩) s.data.toList.length s.data.toList.length, ext X [⟨5, true, bytesV s.data.toList⟩]) := by
  have h1 : Tryd.prog.underlying 29 = some (.slice 5) := by kernel_rfl
  have h2 : Tryd.prog.underlying 9 = some .string := by kernel_rfl
  have h3 : Tryd.prog.underlying 5 = some (.int .u8) := by kernel_rfl
  have h4 : szOf Tryd.prog 5 = some 1 := by kernel_rfl
  have hn := new_ext (H := X) (L := []) (e := 5) (l := bytesV s.data.toList) (o := true) (bytesV_sc _ _)
  have hs : s.size = s.data.toList.length := by rw [Array.length_toList]; rfl
  simp only [aConvert, h1, h2, h3, h4, Option.bind_eq_bind, Option.bind_some, hn, hs]
  rfl

def Tm.byte (t : Tm) (c : UInt8) : Tm × Nat := match t.mode with
  | 0 => t.plain uni c
  | 1 => t.second c
  | 2 => (t, 0)
  | 3 => t.parameter c
  | _ => t.ignore c
def Tm.withMode (t : Tm) (m : Nat) : Tm := { t with mode := m }
theorem step_eq (t : Tm) (c : UInt8) : t.step uni c = (t.byte c).1.withMode (t.byte c).2 := by
  unfold Tm.step Tm.byte
  match t.mode with
  | 0 => rfl
  | 1 => rfl
  | 2 => rfl
  | 3 => rfl
  | _ + 4 => rfl
theorem Tm.Sz.withMode {x : Tm} (s : x.Sz) {m : Nat} (h : m < 5) : (x.withMode m).Sz :=
  ⟨s.h1, s.h2, s.w1, s.w2, s.ws, s.r1, s.r2, s.c1, s.c2, s.sr1, s.sr2, s.sc1, s.sc2, s.t1, s.t2, s.t3, h, s.hd⟩

theorem drain_sz : ∀ (k : Nat) (x : Tm), x.Sz → (Tm.drain uni k x).1.Sz ∧ (Tm.drain uni k x).2 < 5 ∧ (Tm.drain uni k x).1.params = x.params ∧ (Tm.drain uni k x).1.rest.length ≤ x.rest.length
  | 0, x, s => ⟨s, by simp [Tm.drain], rfl, Nat.le_refl _⟩
  | k + 1, x, s => by
    rw [Tm.drain]
    by_cases h : x.rest ≠ [] ∧ uni.full x.rest = true
    · rw [if_pos h]
      by_cases h2 : x.rest.headD 0 = 27
      · rw [if_pos h2]
        exact ⟨s.withRest [], by simp, rfl, by simp⟩
      · rw [if_neg h2]
        obtain ⟨r, n, e⟩ : ∃ r n, uni.dec x.rest = (r, n) := ⟨_, _, rfl⟩
        simp only [e]
        obtain ⟨y, hy⟩ : ∃ y, (if r ≠ 65533 ∨ n > 1 then x.character uni r else x) = y := ⟨_, rfl⟩
        rw [hy]
        have sy : y.Sz ∧ y.params = x.params ∧ y.rest = x.rest := by
          rw [← hy]
          split
          · exact ⟨s.character r, (character_rest uni x r).2, (character_rest uni x r).1⟩
          · exact ⟨s, rfl, rfl⟩
        obtain ⟨q1, q2, q3, q4⟩ := drain_sz k (y.withRest (y.rest.drop n)) (sy.1.withRest _)
        refine ⟨q1, q2, q3.trans sy.2.1, Nat.le_trans q4 ?_⟩
        simp only [Tm.withRest, List.length_drop, sy.2.2]
        omega
    · rw [if_neg h]
      exact ⟨s, by simp, rfl, Nat.le_refl _⟩

theorem eraseRow_pr (x : Tm) (l : List Int) : (x.eraseRow l).params = x.params ∧ (x.eraseRow l).rest = x.rest := by
  unfold Tm.eraseRow
  split
  · exact ⟨rfl, rfl⟩
  · split
    · exact ⟨rfl, rfl⟩
    · split <;> exact ⟨rfl, rfl⟩
theorem eraseRows_pr (l : List Int) : ∀ (k i : Nat) (x : Tm), (Tm.eraseRows l i k x).params = x.params ∧ (Tm.eraseRows l i k x).rest = x.rest
  | 0, _, _ => ⟨rfl, rfl⟩
  | k + 1, i, x => by
    rw [eraseRows_step]
    obtain ⟨a, b⟩ := eraseRows_pr l k (i + 1) (x.eraseOne l i)
    rw [a, b]
    unfold Tm.eraseOne
    split <;> exact ⟨rfl, rfl⟩
theorem doFinal_pr (x : Tm) (f : UInt8) (l : List Int) : (x.doFinal f l).params = x.params ∧ (x.doFinal f l).rest = x.rest := by
  cases hf : finNum f.toNat with
  | none => rw [final_none hf]; exact ⟨rfl, rfl⟩
  | some g =>
    unfold Tm.doFinal
    by_cases h0 : f = 65
    · rw [if_pos h0]; exact ⟨rfl, rfl⟩
    rw [if_neg h0]
    by_cases h1 : f = 66
    · rw [if_pos h1]; exact ⟨rfl, rfl⟩
    rw [if_neg h1]
    by_cases h2 : f = 67
    · rw [if_pos h2]; exact ⟨rfl, rfl⟩
    rw [if_neg h2]
    by_cases h3 : f = 68
    · rw [if_pos h3]; exact ⟨rfl, rfl⟩
    rw [if_neg h3]
    by_cases h4 : f = 71
    · rw [if_pos h4]; exact ⟨rfl, rfl⟩
    rw [if_neg h4]
    by_cases h5 : f = 100
    · rw [if_pos h5]; exact ⟨rfl, rfl⟩
    rw [if_neg h5]
    by_cases h6 : f = 72 ∨ f = 102
    · rw [if_pos h6]; exact ⟨rfl, rfl⟩
    rw [if_neg h6]
    by_cases h7 : f = 74
    · rw [if_pos h7]
      obtain ⟨a, b⟩ := eraseRows_pr l x.grid.length 0 (x.eraseRow l)
      exact ⟨a.trans (eraseRow_pr x l).1, b.trans (eraseRow_pr x l).2⟩
    rw [if_neg h7]
    by_cases h8 : f = 75
    · rw [if_pos h8]; exact eraseRow_pr x l
    rw [if_neg h8]
    by_cases h9 : f = 76
    · rw [if_pos h9]; unfold Tm.lines; split <;> exact ⟨rfl, rfl⟩
    rw [if_neg h9]
    by_cases h10 : f = 77
    · rw [if_pos h10]; unfold Tm.lines; split <;> exact ⟨rfl, rfl⟩
    rw [if_neg h10]
    by_cases h11 : f = 109
    · rw [if_pos h11]; exact ⟨rfl, rfl⟩
    rw [if_neg h11]
    by_cases h12 : f = 114
    · rw [if_pos h12, tm_region]; split <;> exact ⟨rfl, rfl⟩
    rw [if_neg h12]; exact ⟨rfl, rfl⟩
theorem execute_pr (x : Tm) (f : UInt8) : (x.execute f).params = x.params ∧ (x.execute f).rest = x.rest := by
  unfold Tm.execute
  split
  · exact ⟨rfl, rfl⟩
  · split
    · exact doFinal_pr x f _
    · exact ⟨rfl, rfl⟩

theorem byte_sz {x : Tm} (s : x.Sz) (hp : x.params.length ≤ 65) (c : UInt8) : (x.byte c).1.Sz ∧ (x.byte c).2 < 5 ∧ (x.byte c).1.params.length ≤ 65 ∧ (x.byte c).1.rest.length ≤ x.rest.length + 1 := by
  unfold Tm.byte
  split
  · obtain ⟨a, b, d, e⟩ := drain_sz (x.rest.length + 2) (x.withRest (x.rest ++ [c])) (s.withRest _)
    refine ⟨a, b, ?_, ?_⟩
    · show (Tm.drain uni (x.rest.length + 2) (x.withRest (x.rest ++ [c]))).1.params.length ≤ 65
      rw [d]; exact hp
    · refine Nat.le_trans e ?_
      simp [Tm.withRest]
  · refine ⟨s.second c, ?_⟩
    unfold Tm.second
    by_cases h1 : c = 91
    · rw [if_pos h1]; exact ⟨by simp, by simp, by simp⟩
    rw [if_neg h1]
    by_cases h2 : c = 93
    · rw [if_pos h2]; exact ⟨by simp, hp, by simp⟩
    rw [if_neg h2]
    by_cases h3 : c = 27
    · rw [if_pos h3]; exact ⟨by simp, hp, by simp⟩
    rw [if_neg h3]
    by_cases h4 : 32 ≤ c ∧ c < 48
    · rw [if_pos h4]; exact ⟨by simp, hp, by simp⟩
    rw [if_neg h4]
    by_cases h5 : c = 55
    · rw [if_pos h5]; exact ⟨by simp, hp, by simp⟩
    rw [if_neg h5]
    by_cases h6 : c = 56
    · rw [if_pos h6]; exact ⟨by simp, hp, by simp⟩
    rw [if_neg h6]
    by_cases h7 : c = 99
    · rw [if_pos h7]; exact ⟨by simp, by simp [Tm.new], by simp [Tm.new]⟩
    rw [if_neg h7]
    by_cases h8 : c = 77 ∧ x.row = x.top
    · rw [if_pos h8]; exact ⟨by simp, hp, by simp [Tm.roll]⟩
    rw [if_neg h8]
    by_cases h9 : c = 77
    · rw [if_pos h9]; exact ⟨by simp, hp, by simp⟩
    rw [if_neg h9]; exact ⟨by simp, hp, by simp⟩
  · exact ⟨s, by simp, hp, by simp⟩
  · refine ⟨s.parameter c, ?_⟩
    unfold Tm.parameter
    by_cases h1 : c = 27
    · rw [if_pos h1]; exact ⟨by simp, hp, by simp⟩
    rw [if_neg h1]
    by_cases h2 : 64 ≤ c ∧ c ≤ 126
    · rw [if_pos h2]
      simp only
      split
      · obtain ⟨a, b⟩ := execute_pr x c
        rw [a, b]
        exact ⟨by omega, hp, by omega⟩
      · exact ⟨by simp, hp, by simp⟩
    rw [if_neg h2]
    by_cases h3 : c < 32 ∨ c > 126 ∨ (c ≥ 48 ∧ x.middle = true)
    · rw [if_pos h3]; exact ⟨by simp, hp, by simp⟩
    rw [if_neg h3]
    simp only
    split
    · rename_i h
      exact ⟨by simp, by simp only [List.length_append, List.length_cons, List.length_nil] at h ⊢; omega, by simp⟩
    · exact ⟨by simp, hp, by simp⟩
  · unfold Tm.ignore
    split
    · exact ⟨s, by simp, hp, by simp⟩
    · exact ⟨s.withLast c, by simp, hp, by simp⟩

theorem byte_c (H : AHeap) (p : Rp) (x : Tm) (c : UInt8) (g : TmAt H p x) (s : x.Sz) (ok : H.base ≤ H.next) (tb : Tabs H) (p0 : 0 ∉ p.blks) (p1 : 1 ∉ p.blks) (hrl : x.rest.length ≤ 900) (hpl : x.params.length ≤ 65) :
    Does (18 + x.mode) [u8v c] H p (.int .i64 ((x.byte c).2 : Int)) (x.byte c).1 := by
  have hm := s.md
  have hq : x.mode = 0 ∨ x.mode = 1 ∨ x.mode = 2 ∨ x.mode = 3 ∨ x.mode = 4 := by omega
  unfold Tm.byte
  rcases hq with h | h | h | h | h <;> rw [h]
  · exact plain_c H p x c g s ok tb p0 p1 hrl
  · exact second2_c H p x c g s ok
  · exact (skip_c H p x c).to ⟨rfl, p, Step.refl g⟩
  · exact parameter_c H p x c g s ok hpl
  · exact ignore_c H p x c g ok

end Go.Proofs.YtpohjcacnkhnkaaDoor

/- The walk of Feed. -/
namespace Go.Proofs.YtpohjcacnkhnkaaDoor
open Go.Ax
set_option linter.unusedSimpArgs false
set_option maxRecDepth 10000

theorem feed_snoc (x : Tm) (l : List UInt8) (c : UInt8) : x.feed uni (l ++ [c]) = (x.feed uni l).step uni c := by
  simp [Tm.feed]

set_option maxHeartbeats 4000000 in
theorem feed_c (H : AHeap) (p : Rp) (x : Tm) (v : Value) (bs : List UInt8) (g : TmAt H p x) (s : x.Sz) (ok : H.base ≤ H.next) (tb : Tabs H) (p0 : 0 ∉ p.blks) (p1 : 1 ∉ p.blks) (hb : BytesIn H v bs) (hvlt : ∀ n ∈ idsV v, n < H.next) (hv : ∀ n ∈ idsV v, n ∉ p.blks) (hrl : x.rest.length + bs.length ≤ 900) (hpl : x.params.length ≤ 65) :
    CallA Tryd.prog 7 [.pointer (some ⟨p.t, 0, none⟩), v] H fun out H1 => out = .ok (.int .i64 0) ∧ (∃ p', Step H p H1 p' (x.feed uni bs)) := by
  obtain ⟨b, hn⟩ : ∃ b, H.next = b := ⟨_, rfl⟩
  have hbb : H.base ≤ b := hn ▸ ok
  have hT : p.t < b := hn ▸ g.lt p.t (by simp [Rp.blks])
  obtain ⟨av, hve⟩ := hb.1
  obtain ⟨L, hL⟩ : ∃ L, bs.length = L := ⟨_, rfl⟩
  rw [hL] at hve hrl
  refine callE_fn mixed Tryd.func7 rfl Tryd.ntmps7 (Nat.le_of_ble_eq_true rfl) ?_
  rw [hve]
  simp (maxDischargeDepth := 6) only [ruW, putL, Nat.reduceLeDiff, xF, ruU, entryE, Nat.reduceLT, Nat.reduceAdd, Nat.reduceMul, Nat.reduceEqDiff]
  refine (made_c (ext H []) p x g s).to ?_
  simp (maxDischargeDepth := 6) only [hn, hbb, hT, ruW, putL, Nat.reduceLeDiff, xF, ruU, entryE, Nat.reduceLT, Nat.reduceAdd, Nat.reduceMul, Nat.reduceEqDiff]
  generalize hH0 : ext H [_] = H0
  have mH : Mod [] H H0 := hH0 ▸ Mod.ext ok
  have ok0 := mH.ok ok
  have g0' : TmAt H0 p x := g.of mH.next fun n hn' => mH.get n (g.lt n hn') (by simp)
  have tb0 : Tabs H0 := by
    have b0 := mH.bk tb.l0 (by simp)
    have b1 := mH.bk tb.l1 (by simp)
    exact ⟨fun a ha => by rw [b0]; exact tb.f a ha, fun i hi => by rw [b1]; exact tb.a i hi, mH.lt tb.l0, mH.lt tb.l1⟩
  have hH0n : H0.next = b + 1 := by rw [← hH0, ext_next, hn]; rfl
  have hfun : ∀ m : Nat, m < 5 → ldB Tryd.prog 51 m (bk H0 (b + 0)) = some (.func (.func (18 + m)) ⟨[.pointer (some ⟨p.t, 0, none⟩)]⟩ ⟨[]⟩) := by
    intro m hm
    rw [← hH0, bk_at hn (by simp), ]
    have : m = 0 ∨ m = 1 ∨ m = 2 ∨ m = 3 ∨ m = 4 := by omega
    rcases this with rfl | rfl | rfl | rfl | rfl <;> exact ld_one (by kernel_rfl)
  have hb0 : BytesIn H0 v bs := hb.of fun n hn' => mH.get n (hvlt n hn') (by simp)
  have hv0 : ∀ n ∈ idsV v, n < H0.next := fun n hn' => mH.lt (hvlt n hn')
  have hp0n : b + 0 ∉ p.blks := fun h => by have := g.lt _ h; omega
  refine w_env fun E hE => ?_
  have f0 : E 0 = .pointer (some ⟨p.t, 0, none⟩) := by rw [hE]; simp only [ruU, entryE, Nat.reduceLT, Nat.reduceAdd, Nat.reduceMul, Nat.reduceEqDiff]
  have f5 : E 5 = .pointer (some ⟨b + 0, 0, none⟩) := by rw [hE]; simp only [ruU, entryE, Nat.reduceLT, Nat.reduceAdd, Nat.reduceMul, Nat.reduceEqDiff]
  have f22 : E 22 = .slice av L L := by rw [hE]; simp only [ruU, entryE, Nat.reduceLT, Nat.reduceAdd, Nat.reduceMul, Nat.reduceEqDiff]
  have f23 : E 23 = .int .i64 (L : Int) := by rw [hE]; simp only [ruU, entryE, Nat.reduceLT, Nat.reduceAdd, Nat.reduceMul, Nat.reduceEqDiff]
  have f24 : E 24 = .int .i64 ((0 : Nat) : Int) := by rw [hE]; (simp only [ruU, entryE, Nat.reduceLT, Nat.reduceAdd, Nat.reduceMul, Nat.reduceEqDiff] <;> rfl)
  clear hE
  have hbody : ∀ m : Nat, m < 5 → hasBody Tryd.prog (18 + m) = true := by
    intro m hm
    have : m = 0 ∨ m = 1 ∨ m = 2 ∨ m = 3 ∨ m = 4 := by omega
    have hall : ([18, 19, 20, 21, 22].all (hasBody Tryd.prog)) = true := by kernel_rfl
    have hget := List.all_eq_true.1 hall
    rcases this with rfl | rfl | rfl | rfl | rfl <;> exact hget _ (by simp)
  refine blockC_meet (fun E' H' => ∃ p', Step H0 p H' p' (x.feed uni bs)) ?_ ?_
  · refine w_loop (fun (q : Nat × Tm × Rp) E' H' => Step H0 p H' q.2.2 q.2.1 ∧ q.2.1.Sz ∧ q.1 ≤ L ∧ q.2.1 = x.feed uni (bs.take q.1) ∧ q.2.1.params.length ≤ 65 ∧ q.2.1.rest.length ≤ x.rest.length + q.1 ∧ E' 0 = .pointer (some ⟨p.t, 0, none⟩) ∧ E' 5 = .pointer (some ⟨b + 0, 0, none⟩) ∧ E' 22 = .slice av L L ∧ E' 23 = .int .i64 (L : Int) ∧ E' 24 = .int .i64 (q.1 : Int)) (fun q => L - q.1) (0, x, p)
      ⟨Step.refl g0', s, Nat.zero_le _, by simp [Tm.feed], hpl, by simp, f0, f5, f22, f23, f24⟩ ?_
    clear f0 f5 f22 f23 f24 E
    rintro ⟨i, y, p2⟩ E X ⟨st, sy, hi, hy, hpy, hry, f0, f5, f22, f23, f24⟩
    simp only at st sy hi hy hpy hry f24
    rw [show X = ext X [] from rfl]
    have okX := st.ok ok0
    by_cases hie : i = L
    · have hd : decide ((i : Int) < (L : Int)) = false := decide_eq_false (by omega)
      simp (maxDischargeDepth := 6) only [f0, f5, f22, f23, f24, hd, ruW, putL, Nat.reduceLeDiff, xF, ruU, entryE, Nat.reduceLT, Nat.reduceAdd, Nat.reduceMul, Nat.reduceEqDiff]
      rw [hie, ← hL, List.take_length] at hy
      rw [hy] at st
      exact joinR_normal ⟨p2, st⟩
    · have hd : decide ((i : Int) < (L : Int)) = true := decide_eq_true (by omega)
      obtain ⟨c, hc⟩ : ∃ c, bs[i]? = some c := ⟨_, List.getElem?_eq_getElem (by omega)⟩
      obtain ⟨n1, o1, i1, m1, ld1⟩ := hb0.2 i c hc
      rw [hve] at i1
      obtain ⟨xb, hxb⟩ : ∃ xb, X.next = xb := ⟨_, rfl⟩
      have t1 : n1 < xb := hxb ▸ st.mod.lt (hv0 n1 m1)
      have ld1' : ldB Tryd.prog 5 o1 (bk X n1) = some (u8v c) := by rw [st.mod.bk (hv0 n1 m1) (hv n1 m1)]; exact ld1
      have hTx : p.t < xb := hxb ▸ st.same ▸ st.at_.lt p2.t (by simp [Rp.blks])
      have hcell := st.at_.cell
      rw [st.same] at hcell
      simp only [cellsT] at hcell
      have hmd := sy.md
      have hfx : ldB Tryd.prog 51 y.mode (bk X (b + 0)) = some (.func (.func (18 + y.mode)) ⟨[.pointer (some ⟨p.t, 0, none⟩)]⟩ ⟨[]⟩) := by
        rw [st.mod.bk (by omega) hp0n]; exact hfun y.mode hmd
      have hb0x : b + 0 < xb := by have := st.mod.next; omega
      have hia : aIndexAddr Tryd.prog 52 (.pointer (some ⟨b + 0, 0, none⟩)) (.int .i64 (y.mode : Int)) = some (.pointer (some ⟨b + 0, y.mode, none⟩)) := by
        have := ia_arr (P := Tryd.prog) (t := 52) (e := 51) (sz := 1) (len := 5) (n := b + 0) (off := 0) (k := .i64) (i := (y.mode : Int)) (by kernel_rfl) (by kernel_rfl) (by omega) (by omega)
        simpa using this
      obtain ⟨tX, q0, q1⟩ := tb0.step st p0 p1
      have hby := byte_c X p2 y c st.at_ sy okX tX q0 q1 (by omega) hpy
      unfold Does at hby
      rw [st.same] at hby
      obtain ⟨z1, z2, z3, z4⟩ := byte_sz sy hpy c
      have hws := wrap_succ (show i < 1000000 by omega)
      simp (maxDischargeDepth := 6) only [f0, f5, f22, f23, f24, hd, hxb, i1, t1, ld1', hTx, hcell, hb0x, hia, hfx, ruW, putL, Nat.reduceLeDiff, xF, ruU, entryE, Nat.reduceLT, Nat.reduceAdd, Nat.reduceMul, Nat.reduceEqDiff]
      refine w_callB (f := 18 + y.mode) (fs := [.pointer (some ⟨p.t, 0, none⟩)]) (ca := []) (by simp only [ruU, entryE, Nat.reduceLT, Nat.reduceAdd, Nat.reduceMul, Nat.reduceEqDiff]) (by simp only [ruU, entryE, Nat.reduceLT, Nat.reduceAdd, Nat.reduceMul, Nat.reduceEqDiff]) (by simp only [ruU, entryE, Nat.reduceLT, Nat.reduceAdd, Nat.reduceMul, Nat.reduceEqDiff]) (hbody y.mode hmd) ?_
      simp only [ruU, entryE, Nat.reduceLT, Nat.reduceAdd, Nat.reduceMul, Nat.reduceEqDiff]
      refine CallA.mono (show CallA Tryd.prog (18 + y.mode) [.pointer (some ⟨p.t, 0, none⟩), u8v c] (ext X []) _ from hby) ?_
      rintro _ Z ⟨rfl, p3, st2⟩
      have st3 := st.trans ok0 st2
      have okZ := st3.ok ok0
      obtain ⟨zb, hzb⟩ : ∃ zb, Z.next = zb := ⟨_, rfl⟩
      have hTz : p.t < zb := hzb ▸ st3.same ▸ st3.at_.lt p3.t (by simp [Rp.blks])
      have hcz := st3.at_.cell
      rw [st3.same] at hcz
      simp only [cellsT] at hcz
      have st4 := st3.trans ok0 (st3.at_.one (off := 18) (vs := [.int .i64 (((y.byte c).2 : Nat) : Int)]) (y := (y.byte c).1.withMode (y.byte c).2) rfl rfl rfl rfl)
      rw [st3.same] at st4
      rw [show Z = ext Z [] from rfl]
      simp (maxDischargeDepth := 6) only [f0, f5, f22, f23, f24, hzb, hTz, hcz, hws, ruW, putL, Nat.reduceLeDiff, xF, ruU, entryE, Nat.reduceLT, Nat.reduceAdd, Nat.reduceMul, Nat.reduceEqDiff]
      refine loopC_next ⟨(i + 1, (y.byte c).1.withMode (y.byte c).2, p3), by simp only; omega, st4, z1.withMode z2, by simp only; omega, ?_, z3, ?_, ?_, ?_, ?_, ?_, ?_⟩ <;> try simp only [f0, f5, f22, f23, f24, ruU, entryE, Nat.reduceLT, Nat.reduceAdd, Nat.reduceMul, Nat.reduceEqDiff]
      · have htk : bs.take (i + 1) = bs.take i ++ [c] := by
          rw [List.take_add_one, hc]; rfl
        rw [htk, feed_snoc, ← hy, step_eq]
      · show (y.byte c).1.rest.length ≤ _
        omega
  · clear f0 f5 f22 f23 f24 E
    rintro E X ⟨p', st⟩
    rw [show X = ext X [] from rfl]
    simp (maxDischargeDepth := 6) only [Tryd.results7, ruW, putL, Nat.reduceLeDiff, xF, ruU, entryE, Nat.reduceLT, Nat.reduceAdd, Nat.reduceMul, Nat.reduceEqDiff]
    exact ⟨trivial, p', (Step.quiet g mH).trans ok st⟩

end Go.Proofs.YtpohjcacnkhnkaaDoor

/- What slices.Clone comes to. -/
namespace Go.Proofs.YtpohjcacnkhnkaaDoor
open Go.Ax
set_option linter.unusedSimpArgs false
set_option maxRecDepth 10000

theorem clone24_c (H : AHeap) (w : Nat) (hw : 1 ≤ w) (hw2 : w ≤ 300) (q : Nat × Bool) (l : List Ce) (hl : l.length = w) (hb : bk H q.1 = some ⟨56, q.2, csOf l⟩) : CallS Tryd.prog 24 [rowV w q] H (.ok (.slice (some ⟨H.next, 0, none⟩) w w)) (ext H [⟨56, true, csOf l⟩]) := by
  refine callS_one (fun wf hsc => ?_) (fun _ _ => csOf_sc _ _)
  obtain ⟨b, hn⟩ : ∃ b, H.next = b := ⟨_, rfl⟩
  have hbb : H.base ≤ b := hn ▸ wf.base
  have hq : q.1 < b := hn ▸ wf.lt hb
  have a1 : Tryd.prog.underlying 42 = some (.slice 56) := by kernel_rfl
  have a3 : bytesOf Tryd.prog 56 = some 32 := by kernel_rfl
  have a4 : zeroOf Tryd.prog 56 = some (Ce.zero.val) := by kernel_rfl
  have a5 : intTy Tryd.prog 42 = some false := by kernel_rfl
  have hsm : small (0 + w) 32 = true := by simp only [small, Bool.and_eq_true, Nat.ble_eq]; omega
  have hk : bk (ext H [⟨56, false, []⟩]) (b + 0) = some ⟨56, false, []⟩ := by rw [bk_at hn (by simp)]; rfl
  have hbX : bk (ext H [⟨56, false, []⟩]) q.1 = some ⟨56, q.2, csOf l⟩ := (bk_old (by omega)).trans hb
  have happ := app_exact (P := Tryd.prog) (H := ext H [⟨56, false, []⟩]) (st := 42) (xt := 42) (e := 56) (sz := 6) (by1 := 32) (z := Ce.zero.val) (m := b + 0) (k := 0) (n := q.1) (off := 0) (cnt := w) (cap := w) (s := if q.2 = true then none else some 0) a1 sz56 a3 a4 rfl a5 hk (by simp) rfl hbX (by rw [csOf_length, hl]; omega) (csOf_one l) (by omega) hsm
  have ht : ([] : List Value).take (0 * 6) ++ ((csOf l).drop 0).take (w * 6) = csOf l := by
    have h2 : (csOf l).take (w * 6) = csOf l := List.take_of_length_le (by rw [csOf_length, hl]; omega)
    rw [List.drop_zero, h2]; simp
  have hnw := new_ext (H := H) (L := [⟨56, false, []⟩]) (e := 56) (l := csOf l) (o := true) (csOf_sc _ _)
  simp only [ht] at happ
  rw [hnw, Option.map_some, ext_next, hn, Nat.zero_add] at happ
  refine callE_fn mixed Tryd.func24 rfl Tryd.ntmps24 (Nat.le_of_ble_eq_true rfl) ?_
  simp (maxDischargeDepth := 6) only [hn, hbb, hq, rowV, happ, Tryd.results24, ruW, putL, Nat.reduceLeDiff, xF, ruU, entryE, Nat.reduceLT, Nat.reduceAdd, Nat.reduceMul, Nat.reduceEqDiff]
  exact ⟨_, rfl, by omega, by rw [bk_at hn (by simp)]; rfl, Mod.ext wf.base⟩

theorem clone23_c (H : AHeap) (v : Value) (l : List UInt8) (h : BytesAt H v l) (hlt : ∀ n ∈ idsV v, n < H.next) (ok : H.base ≤ H.next) (hlen : l.length ≤ 1000) :
    CallA Tryd.prog 23 [v] H fun out H1 => ∃ v', out = .ok v' ∧ BytesAt H1 v' l ∧ Mod [] H H1 ∧ (∀ n ∈ idsV v', H.next ≤ n ∧ n < H1.next) ∧ (idsV v').Nodup ∧ (∃ a, v' = .slice a l.length l.length) := by
  obtain ⟨b, hn⟩ : ∃ b, H.next = b := ⟨_, rfl⟩
  have hbb : H.base ≤ b := hn ▸ ok
  have a1 : Tryd.prog.underlying 29 = some (.slice 5) := by kernel_rfl
  have a2 : szOf Tryd.prog 5 = some 1 := by kernel_rfl
  have a3 : bytesOf Tryd.prog 5 = some 1 := by kernel_rfl
  have a4 : zeroOf Tryd.prog 5 = some (.int .u8 0) := by kernel_rfl
  have a5 : intTy Tryd.prog 29 = some false := by kernel_rfl
  have hk : bk (ext H [⟨5, false, []⟩]) (b + 0) = some ⟨5, false, []⟩ := by rw [bk_at hn (by simp)]; rfl
  have hz : ∀ n off sp (bl : Bl), bk H n = some bl → n < b → off ≤ bl.l.length → aBuiltin Tryd.prog (ext H [⟨5, false, []⟩]) .append ⟨[29, 29]⟩ [.slice (some ⟨b + 0, 0, some 0⟩) 0 0, .slice (some ⟨n, off, sp⟩) 0 0] = some (.slice (some ⟨b + 0, 0, some 0⟩) 0 0, ext H [⟨5, false, []⟩]) := by
    intro n off sp bl hb hnb hoff
    have hbX : bk (ext H [⟨5, false, []⟩]) n = some bl := (bk_old (by omega)).trans hb
    have happ := app_in (P := Tryd.prog) (H := ext H [⟨5, false, []⟩]) (st := 29) (xt := 29) (e := 5) (sz := 1) (by1 := 1) (m := b + 0) (off := 0) (k := 0) (cap := 0) (n := 0) (sp := some 0) (z := .int .u8 0) (x := .slice (some ⟨n, off, sp⟩) 0 0) (new := []) a1 a2 a3 a4 rfl a5 rfl (by
      have := first_bk (sz := 1) (cnt := 0) (n := n) (off := off) (len := 0) (cap := 0) (s := sp) hbX (by omega)
      simpa using this) rfl (Nat.le_refl _) rfl
    have hw := write_new (H := H) (L := [⟨5, false, []⟩]) (b := b) (i := 0) (off := 0) (vs := []) (e := 5) (o := false) (l := []) hn (by omega) rfl (by simp) rfl rfl
    rw [show 0 + 0 * 1 = 0 from rfl, hw, Option.map_some] at happ
    exact happ
  rcases h with ⟨rfl, rfl⟩ | ⟨hne, n, pre, rfl, hb⟩ | ⟨rfl, n, off, j, L, rfl, hb, hle⟩ | ⟨rfl, n, rfl, hb⟩
  · refine callE_fn mixed Tryd.func23 rfl Tryd.ntmps23 (Nat.le_of_ble_eq_true rfl) ?_
    simp (maxDischargeDepth := 6) only [hn, hbb, Tryd.results23, ruW, putL, Nat.reduceLeDiff, xF, ruU, entryE, Nat.reduceLT, Nat.reduceAdd, Nat.reduceMul, Nat.reduceEqDiff]
    exact ⟨_, rfl, .inl ⟨rfl, rfl⟩, Mod.refl, by simp [idsV], by simp [idsV], none, rfl⟩
  · have hnb : n < b := hn ▸ hlt n (by simp [idsV])
    have hbX : bk (ext H [⟨5, false, []⟩]) n = some ⟨5, true, bytesV (pre ++ l)⟩ := (bk_old (by omega)).trans hb
    have hpos : 0 < l.length := List.length_pos_iff.2 hne
    have hsm : small (0 + l.length) 1 = true := by simp only [small, Bool.and_eq_true, Nat.ble_eq]; omega
    have happ := app_exact (P := Tryd.prog) (H := ext H [⟨5, false, []⟩]) (st := 29) (xt := 29) (m := b + 0) (k := 0) (n := n) (off := pre.length) (cnt := l.length) (cap := l.length) (s := none) a1 a2 a3 a4 rfl a5 hk (by simp) rfl hbX (by rw [bytesV_length, List.length_append]; omega) (bytesV_one _) hpos hsm
    have ht : ([] : List Value).take (0 * 1) ++ ((bytesV (pre ++ l)).drop pre.length).take (l.length * 1) = bytesV l := by
      have h2 : ((bytesV (pre ++ l)).drop pre.length).take (l.length * 1) = bytesV l := by
        rw [Nat.mul_one, bytesV_append, ← bytesV_length pre, List.drop_left, List.take_of_length_le (by rw [bytesV_length]; exact Nat.le_refl _)]
      rw [h2]; simp
    have hnw := new_ext (H := H) (L := [⟨5, false, []⟩]) (e := 5) (l := bytesV l) (o := true) (bytesV_sc _ _)
    simp only [ht] at happ
    rw [hnw, Option.map_some, ext_next, hn, Nat.zero_add] at happ
    refine callE_fn mixed Tryd.func23 rfl Tryd.ntmps23 (Nat.le_of_ble_eq_true rfl) ?_
    simp (maxDischargeDepth := 6) only [hn, hbb, hnb, happ, Tryd.results23, ruW, putL, Nat.reduceLeDiff, xF, ruU, entryE, Nat.reduceLT, Nat.reduceAdd, Nat.reduceMul, Nat.reduceEqDiff]
    refine ⟨_, rfl, .inr (.inl ⟨hne, b + 1, [], rfl, ?_⟩), Mod.ext ok, fun q hq => ?_, by simp [idsV], _, rfl⟩
    · rw [bk_at hn (by simp)]; rfl
    · simp only [idsV, List.mem_singleton, List.length_cons, List.length_nil] at hq
      omega
  · have hnb : n < b := hn ▸ hlt n (by simp [idsV])
    have happ := hz n off (some (j + 1)) _ hb hnb hle
    refine callE_fn mixed Tryd.func23 rfl Tryd.ntmps23 (Nat.le_of_ble_eq_true rfl) ?_
    simp (maxDischargeDepth := 6) only [hn, hbb, hnb, happ, Tryd.results23, ruW, putL, Nat.reduceLeDiff, xF, ruU, entryE, Nat.reduceLT, Nat.reduceAdd, Nat.reduceMul, Nat.reduceEqDiff]
    refine ⟨_, rfl, .inr (.inr (.inr ⟨rfl, b + 0, rfl, hk⟩)), Mod.ext ok, fun q hq => ?_, by simp [idsV], _, rfl⟩
    simp only [idsV, List.mem_singleton] at hq
    omega
  · have hnb : n < b := hn ▸ hlt n (by simp [idsV])
    have happ := hz n 0 (some 0) _ hb hnb (by simp)
    refine callE_fn mixed Tryd.func23 rfl Tryd.ntmps23 (Nat.le_of_ble_eq_true rfl) ?_
    simp (maxDischargeDepth := 6) only [hn, hbb, hnb, happ, Tryd.results23, ruW, putL, Nat.reduceLeDiff, xF, ruU, entryE, Nat.reduceLT, Nat.reduceAdd, Nat.reduceMul, Nat.reduceEqDiff]
    refine ⟨_, rfl, .inr (.inr (.inr ⟨rfl, b + 0, rfl, hk⟩)), Mod.ext ok, fun q hq => ?_, by simp [idsV], _, rfl⟩
    simp only [idsV, List.mem_singleton] at hq
    omega

theorem pen_c (H : AHeap) (p : Rp) (x : Tm) (g : TmAt H p x) (s : x.Sz) : Pure 13 [.pointer (some ⟨p.t, 0, none⟩)] H (.agg ⟨[.int .i64 x.pen.fore, .int .i64 x.pen.back, .bool x.pen.bold, .bool x.pen.under, .bool x.pen.inv]⟩) := by
  obtain ⟨b, hb⟩ : ∃ b, H.next = b := ⟨_, rfl⟩
  have hT : p.t < b := hb ▸ g.lt p.t (by simp [Rp.blks])
  have h1 := g.cell
  simp only [cellsT] at h1
  refine callS_fn mixed Tryd.func13 rfl Tryd.ntmps13 (Nat.le_of_ble_eq_true rfl) fun wf hsc => ?_
  have hbb : H.base ≤ b := hb ▸ wf.base
  simp (maxDischargeDepth := 6) only [hb, hbb, hT, h1, ruW, putL, Nat.reduceLeDiff, xF, ruU, entryE, Nat.reduceLT, Nat.reduceAdd, Nat.reduceMul, Nat.reduceEqDiff]
  refine (made_c (ext H [_]) p x (g.of (by rw [ext_next]; omega) fun n hn => ext_get_old (g.lt n hn)) s).to ?_
  simp (maxDischargeDepth := 6) only [hb, hbb, hT, h1, Tryd.results13, ruW, putL, Nat.reduceLeDiff, xF, ruU, entryE, Nat.reduceLT, Nat.reduceAdd, Nat.reduceMul, Nat.reduceEqDiff]
  exact Fin.pureE rfl rfl

theorem pick_c (H : AHeap) (x n : Int) (hn : 1 ≤ n) (h2 : n ≤ 1000000) : ∃ r : Int, 0 ≤ r ∧ r < n ∧ Pure 9 [.int .i64 x, .int .i64 n] H (.int .i64 r) := by
  have hd : decide (n ≤ 0) = false := decide_eq_false (by omega)
  have hnz : n ≠ 0 := by omega
  have h3 := Int.lt_tmod_of_pos x (show 0 < n by omega)
  have h4 := Int.tmod_lt_of_pos x (show 0 < n by omega)
  by_cases hneg : x.tmod n < 0
  · have hd2 : decide (x.tmod n < 0) = true := decide_eq_true hneg
    have hw : IntKind.i64.wrap (x.tmod n + n) = x.tmod n + n := wrap_sm (by omega) (by omega)
    refine ⟨x.tmod n + n, by omega, by omega, ?_⟩
    refine callS_fn mixed Tryd.func9 rfl Tryd.ntmps9 (Nat.le_of_ble_eq_true rfl) fun wf hsc => ?_
    simp (maxDischargeDepth := 6) only [hd, hnz, hd2, hw, Tryd.results9, ruW, putL, Nat.reduceLeDiff, xF, ruU, entryE, Nat.reduceLT, Nat.reduceAdd, Nat.reduceMul, Nat.reduceEqDiff]
    exact Fin.pureE rfl rfl
  · have hd2 : decide (x.tmod n < 0) = false := decide_eq_false hneg
    refine ⟨x.tmod n, by omega, by omega, ?_⟩
    refine callS_fn mixed Tryd.func9 rfl Tryd.ntmps9 (Nat.le_of_ble_eq_true rfl) fun wf hsc => ?_
    simp (maxDischargeDepth := 6) only [hd, hnz, hd2, Tryd.results9, ruW, putL, Nat.reduceLeDiff, xF, ruU, entryE, Nat.reduceLT, Nat.reduceAdd, Nat.reduceMul, Nat.reduceEqDiff]
    exact Fin.pureE rfl rfl

end Go.Proofs.YtpohjcacnkhnkaaDoor

/- What Screen returns. -/
namespace Go.Proofs.YtpohjcacnkhnkaaDoor
open Go.Ax
set_option linter.unusedSimpArgs false
set_option maxRecDepth 10000

structure Own (N : Nat) (H : AHeap) (v : Value) (w : Nat) (rs : List (Nat × Bool)) (g : List (List Ce)) : Prop where
  at_ : RowsAt H v w rs
  row : ∀ (i : Nat) (q : Nat × Bool) (l : List Ce), rs[i]? = some q → g[i]? = some l → bk H q.1 = some ⟨56, q.2, csOf l⟩
  rng : ∀ q ∈ rs, N ≤ q.1 ∧ q.1 < H.next
  nd : (rs.map (·.1)).Nodup
  blk : ∀ n ∈ idsV v, N ≤ n ∧ n < H.next ∧ n ∉ rs.map (·.1)
theorem Own.of {N : Nat} {H G : AHeap} {v : Value} {w : Nat} {rs : List (Nat × Bool)} {g : List (List Ce)} (o : Own N H v w rs g) (hlen : rs.length ≤ g.length) (hn : H.next ≤ G.next) (hg : ∀ n, N ≤ n → n < H.next → G.get n = H.get n) : Own N G v w rs g where
  at_ := o.at_.of fun n hn' => hg n (o.blk n hn').1 (o.blk n hn').2.1
  row := fun i q l h1 h2 => by
    have := o.rng q (List.mem_of_getElem? h1)
    rw [bk_get (hg q.1 this.1 this.2)]
    exact o.row i q l h1 h2
  rng := fun q hq => ⟨(o.rng q hq).1, Nat.lt_of_lt_of_le (o.rng q hq).2 hn⟩
  nd := o.nd
  blk := fun n hn' => ⟨(o.blk n hn').1, Nat.lt_of_lt_of_le (o.blk n hn').2.1 hn, (o.blk n hn').2.2⟩

def Tm.curRow (x : Tm) : Int := cond x.shown x.row (-1)
def Tm.curCol (x : Tm) : Int := cond x.shown x.inside 0

set_option maxHeartbeats 4000000 in
theorem screen_c (H : AHeap) (p : Rp) (x : Tm) (g : TmAt H p x) (s : x.Sz) (ok : H.base ≤ H.next) :
    CallA Tryd.prog 11 [.pointer (some ⟨p.t, 0, none⟩)] H fun out H1 => ∃ rs n, out = .ok (.agg ⟨[.slice (some ⟨n, 0, none⟩) x.h x.h, .int .i64 x.curRow, .int .i64 x.curCol]⟩) ∧ rs.length = x.h ∧ Own H.next H1 (.slice (some ⟨n, 0, none⟩) x.h x.h) x.w rs x.grid ∧ Mod [] H H1 := by
  obtain ⟨b, hb⟩ : ∃ b, H.next = b := ⟨_, rfl⟩
  have hbb : H.base ≤ b := hb ▸ ok
  have hT : p.t < b := hb ▸ g.lt p.t (by simp [Rp.blks])
  have hR : p.rb < b := hb ▸ g.lt p.rb (by simp [Rp.blks])
  have h1 := g.cell
  simp only [cellsT] at h1
  have s1 := s.h1
  have s2 := s.h2
  have s3 := s.w1
  have s4 := s.w2
  have hgl : x.grid.length = x.h := rfl
  refine callE_fn mixed Tryd.func11 rfl Tryd.ntmps11 (Nat.le_of_ble_eq_true rfl) ?_
  simp (maxDischargeDepth := 6) only [hb, hbb, hT, h1, ruW, putL, Nat.reduceLeDiff, xF, ruU, entryE, Nat.reduceLT, Nat.reduceAdd, Nat.reduceMul, Nat.reduceEqDiff]
  refine (made_c (ext H [_]) p x (g.of (by rw [ext_next]; omega) fun n hn => ext_get_old (g.lt n hn)) s).to ?_
  simp (maxDischargeDepth := 6) only [hb, hbb, hT, h1, ruW, putL, Nat.reduceLeDiff, xF, ruU, entryE, Nat.reduceLT, Nat.reduceAdd, Nat.reduceMul, Nat.reduceEqDiff]
  refine w_env fun E hE => ?_
  have f0 : E 0 = .pointer (some ⟨p.t, 0, none⟩) := by rw [hE]; simp only [ruU, entryE, Nat.reduceLT, Nat.reduceAdd, Nat.reduceMul, Nat.reduceEqDiff]
  have f2 : E 2 = .pointer (some ⟨b + 0, 0, none⟩) := by rw [hE]; simp only [ruU, entryE, Nat.reduceLT, Nat.reduceAdd, Nat.reduceMul, Nat.reduceEqDiff]
  have f3 : E 3 = .pointer (some ⟨b + 1, 0, none⟩) := by rw [hE]; simp only [ruU, entryE, Nat.reduceLT, Nat.reduceAdd, Nat.reduceMul, Nat.reduceEqDiff]
  have f14 : E 14 = .slice (some ⟨p.rb, 0, none⟩) x.h x.h := by rw [hE]; simp only [ruU, entryE, Nat.reduceLT, Nat.reduceAdd, Nat.reduceMul, Nat.reduceEqDiff]
  have f15 : E 15 = .int .i64 (x.h : Int) := by rw [hE]; simp only [ruU, entryE, Nat.reduceLT, Nat.reduceAdd, Nat.reduceMul, Nat.reduceEqDiff]
  have f16 : E 16 = .int .i64 ((0 : Nat) : Int) := by rw [hE]; (simp only [ruU, entryE, Nat.reduceLT, Nat.reduceAdd, Nat.reduceMul, Nat.reduceEqDiff] <;> rfl)
  clear hE
  refine blockC_meet (fun E' H' => ∃ rs v, rs.length = x.h ∧ Mod [] H H' ∧ b + 1 < H'.next ∧ bk H' (b + 0) = some ⟨35, false, [.slice none 0 0, .int .i64 0, .int .i64 0]⟩ ∧ bk H' (b + 1) = some ⟨35, false, [v, .int .i64 (-1), .int .i64 0]⟩ ∧ Own (b + 2) H' v x.w rs x.grid ∧ E' 0 = .pointer (some ⟨p.t, 0, none⟩) ∧ E' 2 = .pointer (some ⟨b + 0, 0, none⟩) ∧ E' 3 = .pointer (some ⟨b + 1, 0, none⟩)) ?_ ?_
  · refine w_loop (fun (q : List (Nat × Bool) × Value) E' H' => q.1.length ≤ x.h ∧ Mod [] H H' ∧ b + 1 < H'.next ∧ bk H' (b + 0) = some ⟨35, false, [.slice none 0 0, .int .i64 0, .int .i64 0]⟩ ∧ bk H' (b + 1) = some ⟨35, false, [q.2, .int .i64 (-1), .int .i64 0]⟩ ∧ Own (b + 2) H' q.2 x.w q.1 x.grid ∧ E' 0 = .pointer (some ⟨p.t, 0, none⟩) ∧ E' 2 = .pointer (some ⟨b + 0, 0, none⟩) ∧ E' 3 = .pointer (some ⟨b + 1, 0, none⟩) ∧ E' 14 = .slice (some ⟨p.rb, 0, none⟩) x.h x.h ∧ E' 15 = .int .i64 (x.h : Int) ∧ E' 16 = .int .i64 (q.1.length : Int)) (fun q => x.h - q.1.length) ([], .slice none 0 0)
      ⟨Nat.zero_le _, Mod.ext ok, by rw [ext_next, hb]; simp, by rw [bk_at hb (by simp)]; rfl, by rw [bk_at hb (by simp)]; rfl, ⟨.inl ⟨rfl, rfl⟩, by simp, by simp, by simp, by simp [idsV]⟩, f0, f2, f3, f14, f15, f16⟩ ?_
    clear f0 f2 f3 f14 f15 f16 E
    rintro ⟨rs, v⟩ E X ⟨hl, mX, hbX, hc0, hc1, ho, f0, f2, f3, f14, f15, f16⟩
    simp only at hl hc1 ho f16
    rw [show X = ext X [] from rfl]
    have okX := mX.ok ok
    by_cases hlh : rs.length = x.h
    · have hd : decide ((rs.length : Int) < (x.h : Int)) = false := decide_eq_false (by omega)
      simp (maxDischargeDepth := 6) only [f0, f2, f3, f14, f15, f16, hd, ruW, putL, Nat.reduceLeDiff, xF, ruU, entryE, Nat.reduceLT, Nat.reduceAdd, Nat.reduceMul, Nat.reduceEqDiff]
      refine joinR_normal ⟨rs, v, hlh, mX, hbX, hc0, hc1, ho, ?_, ?_, ?_⟩ <;> simp only [f0, f2, f3, ruU, entryE, Nat.reduceLT, Nat.reduceAdd, Nat.reduceMul, Nat.reduceEqDiff]
    · have hd : decide ((rs.length : Int) < (x.h : Int)) = true := decide_eq_true (by omega)
      obtain ⟨xn, hx⟩ : ∃ xn, X.next = xn := ⟨_, rfl⟩
      have hxb : X.base ≤ xn := hx ▸ okX
      have hbx : b + 1 < xn := hx ▸ hbX
      have hRx : p.rb < xn := by omega
      have hTx : p.t < xn := by omega
      have gX : TmAt X p x := g.of mX.next fun n hn => mX.get n (g.lt n hn) (by simp)
      obtain ⟨l, hlr, _, hlw, _⟩ := s.rowAt (k := rs.length) (by omega)
      obtain ⟨q, hq, hqm, hqb⟩ := gX.rowOf hlr
      have hqx : q.1 < xn := hx ▸ gX.lt q.1 hqm
      have hqlt : q.1 < b := hb ▸ g.lt q.1 hqm
      have hrows := gX.rows
      have hqr : (p.rs.map (rowV x.w))[rs.length]? = some (rowV x.w q) := by rw [List.getElem?_map, hq]; rfl
      have hri := rows_ia (len := x.h) (cap := x.h) (n := p.rb) (s := none) (i := (rs.length : Int)) (k := rs.length) rfl (by omega)
      have hws := wrap_succ (show rs.length < 1000000 by omega)
      have hvx : ∀ n ∈ idsV v, n < xn := fun n hn => hx ▸ (ho.blk n hn).2.1
      simp (maxDischargeDepth := 6) only [f0, f2, f3, f14, f15, f16, hd, hx, hRx, hrows, hri, hqr, ruW, putL, Nat.reduceLeDiff, xF, ruU, entryE, Nat.reduceLT, Nat.reduceAdd, Nat.reduceMul, Nat.reduceEqDiff]
      refine w_drawB [(4, 3), (5, 1), (5, 3), (5, 4), (7, 1), (7, 3), (7, 4), (7, 5)] [] (by kernel_rfl) (by kernel_rfl) rfl fun ops anc hA hG => ?_
      simp only [all2_cons] at hA
      simp (maxDischargeDepth := 6) only [f0, f3, hx, hbx, hc1, hA, rowV, ruD, ruW, putL, Nat.reduceLeDiff, xF, ruU, entryE, Nat.reduceLT, Nat.reduceAdd, Nat.reduceMul, Nat.reduceEqDiff]
      refine genV_ext (v := .slice (some ⟨xn + 0, 0, none⟩) x.w x.w) (M := [⟨56, true, csOf l⟩]) [q.1] (by simp (maxDischargeDepth := 6) only [ruU, entryE, Nat.reduceLT, Nat.reduceAdd, Nat.reduceMul, Nat.reduceEqDiff]) (by kernel_rfl) (by decide) (fun n hn => by simp (maxDischargeDepth := 6) only [List.mem_singleton] at hn; subst hn; exact bk_ne hqb) (fun K hn hg => ?_) (by simp (maxDischargeDepth := 6) only [ruD, ruW, putL, Nat.reduceLeDiff, xF, ruU, entryE, Nat.reduceLT, Nat.reduceAdd, Nat.reduceMul, Nat.reduceEqDiff]) ?_
      · simp only [ruU, entryE, Nat.reduceLT, Nat.reduceAdd, Nat.reduceMul, Nat.reduceEqDiff]
        have := clone24_c K x.w s3 s4 q l hlw ((bk_get (hg q.1 (by simp))).trans (by rw [ext_nil]; exact hqb))
        rw [hn, ext_nil, hx] at this
        exact this
      simp (maxDischargeDepth := 6) only [f0, f3, hx, hxb, hbx, hc1, hA, List.length_cons, List.length_nil, ruD, ruW, putL, Nat.reduceLeDiff, xF, ruU, entryE, Nat.reduceLT, Nat.reduceAdd, Nat.reduceMul, Nat.reduceEqDiff]
      rw [wd_append (by simp only [ruU, entryE, Nat.reduceLT, Nat.reduceAdd, Nat.reduceMul, Nat.reduceEqDiff])]
      obtain ⟨Z, hZ⟩ : ∃ Z, ext X [⟨56, true, csOf l⟩, ⟨42, false, [.slice (some ⟨xn + 0, 0, none⟩) x.w x.w]⟩] = Z := ⟨_, rfl⟩
      have mZ : Mod [] X Z := hZ ▸ Mod.ext okX
      have okZ := mZ.ok okX
      have hZn : Z.next = xn + 2 := by rw [← hZ, ext_next, hx]; rfl
      have hZ1 : bk Z (xn + 1) = some ⟨42, false, [rowV x.w (xn + 0, true)]⟩ := by rw [← hZ, bk_at hx (by simp)]; rfl
      have hZ0 : bk Z (xn + 0) = some ⟨56, true, csOf l⟩ := by rw [← hZ, bk_at hx (by simp)]; rfl
      have hZo : ∀ n, n < xn → Z.get n = X.get n := fun n hn => mZ.get n (by omega) (by simp)
      rw [hZ]
      have hrn := restrict_next Z (idsV v ++ [xn + 1])
      have hRr : ∀ n ∈ idsV v ++ [xn + 1], (Z.restrict (idsV v ++ [xn + 1])).get n = Z.get n := fun n hn => by rw [restrict_get, if_pos hn]
      have hrsZ : RowsAt Z v x.w rs := ho.at_.of fun n hn => hZo n (hvx n hn)
      obtain ⟨G, happ, hrsG, mG, hGn⟩ := rows_app (x := xn + 2) (k := xn + 1) (q := (xn + 0, true)) (hrsZ.of fun n hn => hRr n (by simp [hn])) (by rw [hrn.1, hZn]) ((bk_get (hRr (xn + 1) (by simp))).trans hZ1) (by omega) (fun r hr => by
        rw [hrn.1, hZn]
        rcases List.mem_append.1 hr with h | h
        · have := (ho.rng r h).2; omega
        · simp only [List.mem_singleton] at h; subst h; simp only; omega)
      have mG := mG (by rw [hrn.1, hrn.2.1]; exact Nat.le_refl _)
      have hneZ : ∀ n ∈ idsV v ++ [xn + 1], Z.get n ≠ none := fun n hn => by
        rcases List.mem_append.1 hn with h | h
        · exact hrsZ.ne n h
        · simp only [List.mem_singleton] at h; subst h; exact bk_ne hZ1
      refine genV_modO (W := idsV v) (idsV v ++ [xn + 1]) okZ hneZ (fun n hn => by
          rcases List.mem_append.1 hn with h | h
          · have := hvx n h; omega
          · simp only [List.mem_singleton] at h; omega) (fun n hn => by simp [hn])
        (builtin_op (v := .slice (some ⟨xn + 2, 0, none⟩) (rs.length + 1) (rs.length + 1)) (by simp only [ruU, entryE, Nat.reduceLT, Nat.reduceAdd, Nat.reduceMul, Nat.reduceEqDiff]) (by simp only [ruU, entryE, Nat.reduceLT, Nat.reduceAdd, Nat.reduceMul, Nat.reduceEqDiff]; exact happ)) mG (by simp only [all2_cons, all2_nil, hA, true_or, and_true]) ?_
      intro H1 D mH1 hF1 hN1 hnx hD1
      have hnx : H1.next = xn + 3 := by rw [hnx, hGn]
      have hvn : ∀ n, n < b + 2 → n ∉ idsV v := fun n hn hh => by have := (ho.blk n hh).1; omega
      have hT1 : bk H1 (b + 1) = some ⟨35, false, [v, .int .i64 (-1), .int .i64 0]⟩ := by
        rw [mH1.bk (by omega) (hvn _ (by omega)), bk_get (hZo _ hbx)]; exact hc1
      have hTn : b + 1 < xn + 3 := by omega
      rw [show H1 = ext H1 [] from rfl]
      simp (maxDischargeDepth := 6) only [f0, f3, hnx, hTn, hT1, hA, hws, implies_true, ruD, ruW, putL, Nat.reduceLeDiff, xF, ruU, entryE, Nat.reduceLT, Nat.reduceAdd, Nat.reduceMul, Nat.reduceEqDiff]
      refine ⟨⟨fun _ => .inr (.inl (by omega)), .inr (.inl (by omega)), .inr (.inl (by omega))⟩, ?_⟩
      simp (maxDischargeDepth := 6) only [f0, f2, f3, f14, f15, f16, hws, ruW, putL, Nat.reduceLeDiff, xF, ruU, entryE, Nat.reduceLT, Nat.reduceAdd, Nat.reduceMul, Nat.reduceEqDiff]
      have mU : Mod [b + 1] H1 (uw H1 (b + 1) 0 [.slice (some ⟨xn + 2, 0, none⟩) (rs.length + 1) (rs.length + 1)]) := Mod.uw (by simp)
      have hnewB : bk H1 (xn + 2) = some ⟨42, true, (rs ++ [(xn + 0, true)]).map (rowV x.w)⟩ := by
        rw [bk_get (hN1 (xn + 2) (by omega) (by omega))]
        rcases hrsG with ⟨h, _⟩ | ⟨_, n, e, hb'⟩
        · simp at h
        · simp only [Value.slice.injEq, Option.some.injEq, Addr.mk.injEq, and_true] at e
          rw [e.1]; exact hb'
      have hget : ∀ n, n < xn + 2 → n ≠ b + 1 → n ∉ idsV v → (uw H1 (b + 1) 0 [.slice (some ⟨xn + 2, 0, none⟩) (rs.length + 1) (rs.length + 1)]).get n = Z.get n := fun n h1' h2' h3' => by
        rw [uw_get h2', mH1.get n (by omega) h3']
      refine loopC_next ⟨(rs ++ [(xn + 0, true)], .slice (some ⟨xn + 2, 0, none⟩) (rs.length + 1) (rs.length + 1)), by simp only [List.length_append, List.length_cons, List.length_nil]; omega, by simp only [List.length_append, List.length_cons, List.length_nil]; omega, ?_, ?_, ?_, ?_, ?_, ?_, ?_, ?_, ?_, ?_, ?_⟩
      · have m1 : Mod (idsV v) X H1 := (mZ.mono (by simp)).trans mH1
        exact (mX.step m1 ok (fun n hn => .inr (by have := (ho.blk n hn).1; omega))).step mU ok (fun n hn => .inr (by simp only [List.mem_singleton] at hn; omega))
      · rw [ext_nil, uw_next, hnx]; omega
      · rw [ext_nil, bk_get (hget (b + 0) (by omega) (by omega) (hvn _ (by omega))), bk_get (hZo (b + 0) (by omega))]; exact hc0
      · rw [ext_nil, bk_uw_eq, hT1]; rfl
      · refine ⟨.inr ⟨by simp, xn + 2, by simp, ?_⟩, ?_, ?_, ?_, ?_⟩
        · rw [ext_nil, bk_uw_ne (by omega)]
          exact hnewB
        · intro i q' l' h1' h2'
          by_cases hi : i < rs.length
          · rw [List.getElem?_append_left hi] at h1'
            have hr := ho.rng q' (List.mem_of_getElem? h1')
            have hm : q'.1 ∉ idsV v := fun hh => (ho.blk _ hh).2.2 (List.mem_map.2 ⟨q', List.mem_of_getElem? h1', rfl⟩)
            rw [ext_nil, bk_get (hget q'.1 (by omega) (by omega) hm), bk_get (hZo q'.1 (by omega))]
            exact ho.row i q' l' h1' h2'
          · rw [List.getElem?_append_right (by omega)] at h1'
            have hi2 : i = rs.length := by
              rcases Nat.lt_or_ge (i - rs.length) 1 with h | h
              · omega
              · rw [List.getElem?_eq_none (by simpa using h)] at h1'; cases h1'
            subst hi2
            rw [Nat.sub_self] at h1'
            simp only [List.getElem?_cons_zero, Option.some.injEq] at h1'
            subst h1'
            rw [hlr] at h2'
            cases h2'
            rw [ext_nil, bk_get (hget (xn + 0) (by omega) (by omega) (fun hh => by have := hvx _ hh; omega))]
            exact hZ0
        · intro r hr
          rw [ext_nil, uw_next, hnx]
          rcases List.mem_append.1 hr with h | h
          · have := ho.rng r h; omega
          · simp only [List.mem_singleton] at h
            subst h
            simp only; omega
        · rw [List.map_append]
          refine List.nodup_append.2 ⟨ho.nd, by simp, fun a ha b' hb' e => ?_⟩
          obtain ⟨r, hr, rfl⟩ := List.mem_map.1 ha
          simp only [List.map_cons, List.map_nil, List.mem_singleton] at hb'
          have := (ho.rng r hr).2
          omega
        · intro n hn
          simp only [idsV, List.mem_singleton] at hn
          subst hn
          refine ⟨by omega, by rw [ext_nil, uw_next, hnx]; omega, fun hm => ?_⟩
          obtain ⟨r, hr, e⟩ := List.mem_map.1 hm
          rcases List.mem_append.1 hr with h | h
          · have := (ho.rng r h).2; omega
          · simp only [List.mem_singleton] at h
            subst h
            simp only at e
            omega
      · simp only [f0, ruU, entryE, Nat.reduceLT, Nat.reduceAdd, Nat.reduceMul, Nat.reduceEqDiff]
      · simp only [f2, ruU, entryE, Nat.reduceLT, Nat.reduceAdd, Nat.reduceMul, Nat.reduceEqDiff]
      · simp only [f3, ruU, entryE, Nat.reduceLT, Nat.reduceAdd, Nat.reduceMul, Nat.reduceEqDiff]
      · simp only [f14, ruU, entryE, Nat.reduceLT, Nat.reduceAdd, Nat.reduceMul, Nat.reduceEqDiff]
      · simp only [f15, ruU, entryE, Nat.reduceLT, Nat.reduceAdd, Nat.reduceMul, Nat.reduceEqDiff]
      · simp only [f16, List.length_append, List.length_cons, List.length_nil, ruU, entryE, Nat.reduceLT, Nat.reduceAdd, Nat.reduceMul, Nat.reduceEqDiff]
  · clear f0 f2 f3 f14 f15 f16 E
    rintro E X ⟨rs, v, hl, mX, hbX, hc0, hc1, ho, f0, f2, f3⟩
    rw [show X = ext X [] from rfl]
    have okX := mX.ok ok
    obtain ⟨xn, hx⟩ : ∃ xn, X.next = xn := ⟨_, rfl⟩
    have hb1x : b + 1 < xn := hx ▸ hbX
    have hb0x : b + 0 < xn := by omega
    have hTx : p.t < xn := by omega
    have gX : TmAt X p x := g.of mX.next fun n hn => mX.get n (g.lt n hn) (by simp)
    have h1X := gX.cell
    simp only [cellsT] at h1X
    rcases ho.at_ with ⟨h, _⟩ | ⟨_, n, rfl, hbn⟩
    · rw [h] at hl; simp at hl; omega
    rw [hl] at ho hc1
    have hnx := ho.blk n (by simp [idsV])
    have hnn : n < xn := hx ▸ hnx.2.1
    have hfinal : ∀ (Y : AHeap), Mod [b + 0, b + 1] X Y → Own H.next Y (.slice (some ⟨n, 0, none⟩) x.h x.h) x.w rs x.grid ∧ Mod [] H Y := fun Y mY => by
      refine ⟨?_, mX.step mY ok (fun n hn => .inr (by simp only [List.mem_cons, List.not_mem_nil, or_false] at hn; omega))⟩
      have o2 : Own (b + 2) Y (.slice (some ⟨n, 0, none⟩) x.h x.h) x.w rs x.grid := ho.of (by omega) mY.next (fun n h1' h2' => mY.get n h2' (by simp only [List.mem_cons, List.not_mem_nil, or_false]; omega))
      exact ⟨o2.at_, o2.row, fun q hq => ⟨by have := (o2.rng q hq).1; omega, (o2.rng q hq).2⟩, o2.nd, fun m hm => ⟨by have := (o2.blk m hm).1; omega, (o2.blk m hm).2⟩⟩
    obtain ⟨ds, hds⟩ : ∃ d, x.shown = d := ⟨_, rfl⟩
    cases ds with
    | true =>
      simp (maxDischargeDepth := 6) only [f0, f2, f3, hx, hTx, h1X, hds, ruW, putL, Nat.reduceLeDiff, xF, ruU, entryE, Nat.reduceLT, Nat.reduceAdd, Nat.reduceMul, Nat.reduceEqDiff]
      refine w_drawB [(8, 4), (8, 6), (10, 4), (10, 6), (10, 8)] [] (by kernel_rfl) (by kernel_rfl) rfl fun ops anc hA hG => ?_
      simp only [all2_cons] at hA
      simp (maxDischargeDepth := 6) only [f0, f3, hx, hTx, h1X, hA, ruD, ruW, putL, Nat.reduceLeDiff, xF, ruU, entryE, Nat.reduceLT, Nat.reduceAdd, Nat.reduceMul, Nat.reduceEqDiff]
      refine genV_quiet (v := .int .i64 x.inside) p.blks (by simp (maxDischargeDepth := 6) only [ruU, entryE, Nat.reduceLT, Nat.reduceAdd, Nat.reduceMul, Nat.reduceEqDiff]) (by kernel_rfl) (by decide) gX.ne (fun K hn hg => ?_) (by simp (maxDischargeDepth := 6) only [ruD, ruW, putL, Nat.reduceLeDiff, xF, ruU, entryE, Nat.reduceLT, Nat.reduceAdd, Nat.reduceMul, Nat.reduceEqDiff]) ?_
      · simp only [f0, ruU, entryE, Nat.reduceLT, Nat.reduceAdd, Nat.reduceMul, Nat.reduceEqDiff]
        exact inside_c K p x (gX.of (by rw [hn]; exact Nat.le_refl _) hg) s
      simp (maxDischargeDepth := 6) only [f0, f2, f3, hx, hb1x, hb0x, hnn, h1X, hc0, hc1, hA, Tryd.results11, ruD, ruW, putL, Nat.reduceLeDiff, xF, ruU, entryE, Nat.reduceLT, Nat.reduceAdd, Nat.reduceMul, Nat.reduceEqDiff]
      obtain ⟨o1, o2⟩ := hfinal _ (((Mod.uw (by simp)).trans (Mod.uw (by simp))).trans (Mod.uw (by simp)) : Mod [b + 0, b + 1] X (ext (uw (uw (uw X (b + 1) 1 [.int .i64 x.row]) (b + 1) 2 [.int .i64 x.inside]) (b + 0) 0 [.slice (some ⟨n, 0, none⟩) x.h x.h, .int .i64 x.row, .int .i64 x.inside]) []))
      rw [hb] at o1
      exact ⟨rs, n, by simp only [Tm.curRow, Tm.curCol, hds, cond_true], hl, o1, o2⟩
    | false =>
      simp (maxDischargeDepth := 6) only [f0, f2, f3, hx, hTx, hb0x, hb1x, hnn, h1X, hds, hc0, hc1, Tryd.results11, ruW, putL, Nat.reduceLeDiff, xF, ruU, entryE, Nat.reduceLT, Nat.reduceAdd, Nat.reduceMul, Nat.reduceEqDiff]
      obtain ⟨o1, o2⟩ := hfinal _ (Mod.uw (by simp) : Mod [b + 0, b + 1] X (ext (uw X (b + 0) 0 [.slice (some ⟨n, 0, none⟩) x.h x.h, .int .i64 (-1), .int .i64 0]) []))
      rw [hb] at o1
      exact ⟨rs, n, by simp only [Tm.curRow, Tm.curCol, hds, cond_false], hl, o1, o2⟩

end Go.Proofs.YtpohjcacnkhnkaaDoor

/- What Copy returns. -/
namespace Go.Proofs.YtpohjcacnkhnkaaDoor
open Go.Ax
set_option linter.unusedSimpArgs false
set_option maxRecDepth 10000

theorem BytesAt.sc {H : AHeap} {v : Value} {l : List UInt8} (h : BytesAt H v l) {N : Nat} (hlt : ∀ n ∈ idsV v, n < N) : scb N v = true ∧ one v = true := by
  rcases h with ⟨rfl, rfl⟩ | ⟨_, n, pre, rfl, _⟩ | ⟨rfl, n, off, k, L, rfl, _⟩ | ⟨rfl, n, rfl, _⟩
  · exact ⟨rfl, rfl⟩
  all_goals exact ⟨blt_of (hlt n (by simp [idsV])), rfl⟩

theorem cellsT_len (p : Rp) (x : Tm) : (cellsT p x).length = 23 := rfl
theorem cellsT_one {p : Rp} {x : Tm} (h1 : one p.rv = true) (h2 : one p.pv = true) : (cellsT p x).all one = true := by
  simp only [cellsT, List.all_cons, List.all_nil, h1, h2]
  rfl
theorem cellsT_sc {p : Rp} {x : Tm} {N : Nat} (h1 : scb N p.rv = true) (h2 : scb N p.pv = true) (h3 : p.rb < N) : scbL N (cellsT p x) = true := by
  simp only [cellsT, scbL, scb, h1, h2, Bool.and_self, Bool.true_and, Bool.and_true]
  exact blt_of h3

set_option maxHeartbeats 4000000 in
theorem copy_c (H : AHeap) (p : Rp) (x : Tm) (g : TmAt H p x) (s : x.Sz) (ok : H.base ≤ H.next) (hrl : x.rest.length ≤ 1000) (hpl : x.params.length ≤ 1000) :
    CallA Tryd.prog 10 [.pointer (some ⟨p.t, 0, none⟩)] H fun out H1 => ∃ p1, out = .ok (.pointer (some ⟨p1.t, 0, none⟩)) ∧ TmAt H1 p1 x ∧ Mod [] H H1 ∧ ∀ n ∈ p1.blks, H.next ≤ n := by
  obtain ⟨b, hb⟩ : ∃ b, H.next = b := ⟨_, rfl⟩
  have hbb : H.base ≤ b := hb ▸ ok
  have hT : p.t < b := hb ▸ g.lt p.t (by simp [Rp.blks])
  have hrvl : ∀ n ∈ idsV p.rv, n < b := fun n hn => hb ▸ g.lt n (by simp [Rp.blks, hn])
  have hpvl : ∀ n ∈ idsV p.pv, n < b := fun n hn => hb ▸ g.lt n (by simp [Rp.blks, hn])
  have hrs := g.rest.sc (N := b) hrvl
  have hps := g.par.sc (N := b) hpvl
  have h1 := g.cell
  obtain ⟨L, hL⟩ : ∃ L, cellsT p x = L := ⟨_, rfl⟩
  rw [hL] at h1
  have hLl : L.length = 23 := hL ▸ cellsT_len p x
  have hL1 : L.all one = true := hL ▸ cellsT_one hrs.2 hps.2
  have hLs : ∀ N, b ≤ N → scbL N L = true := fun N hN => scbL_mono hN _ (hL ▸ cellsT_sc hrs.1 hps.1 (hb ▸ g.lt p.rb (by simp [Rp.blks])))
  have hld : ldB Tryd.prog 49 0 (bk H p.t) = some (.agg ⟨L⟩) := by
    rw [h1, ld_agg (by kernel_rfl), show szOf Tryd.prog 49 = some 23 from by kernel_rfl, Option.bind_some, if_pos (by omega), List.drop_zero, List.take_of_length_le (by omega)]
  have hst : ∀ N l, b ≤ N → l.length = 23 → stB Tryd.prog 49 N 0 (.agg ⟨L⟩) (some ⟨49, false, l⟩) = some ⟨49, false, putL l 0 L⟩ := fun N l hN hl =>
    stB_ok (v := .agg ⟨L⟩) (by rw [cells_agg, hLl]; kernel_rfl) (by rw [cells_agg, hLl, hl]; exact Nat.le_refl _) (by rw [cells_agg]; exact hL1) (by rw [cells_agg]; exact hLs N hN)
  refine callE_fn mixed Tryd.func10 rfl Tryd.ntmps10 (Nat.le_of_ble_eq_true rfl) ?_
  simp (maxDischargeDepth := 6) only [ruW, putL, Nat.reduceLeDiff, xF, ruU, entryE, Nat.reduceLT, Nat.reduceAdd, Nat.reduceMul, Nat.reduceEqDiff]
  refine (made_c (ext H []) p x g s).to ?_
  have hst' := fun l (hl : List.length l = 23) => hst (b + 1) l (Nat.le_succ _) hl
  simp (maxDischargeDepth := 6) only [hb, hbb, hT, hld, hst', ruW, putL, Nat.reduceLeDiff, xF, ruU, entryE, Nat.reduceLT, Nat.reduceAdd, Nat.reduceMul, Nat.reduceEqDiff]
  generalize hH0 : ext H [_] = H0
  have mH : Mod [] H H0 := hH0 ▸ Mod.ext ok
  have ok0 := mH.ok ok
  have hH0n : H0.next = b + 1 := by rw [← hH0, ext_next, hb]; rfl
  have hH0b : bk H0 (b + 0) = some ⟨49, false, cellsT p x⟩ := by rw [← hH0, bk_at hb (by simp), ← hL]; rfl
  have g0 : TmAt H0 p x := g.of mH.next fun n hn => mH.get n (g.lt n hn) (by simp)
  refine (screen_c H0 p x g0 s ok0).mono ?_
  rintro _ H1 ⟨rs, n, rfl, hrsl, ho, m1⟩
  have mH1 := mH.trans m1
  have ok1 := mH1.ok ok
  have g1 : TmAt H1 p x := g.of mH1.next fun n hn => mH1.get n (g.lt n hn) (by simp)
  have hb1 : bk H1 (b + 0) = some ⟨49, false, cellsT p x⟩ := (m1.bk (by omega) (by simp)).trans hH0b
  have hno := ho.blk n (by simp [idsV])
  rw [hH0n] at hno
  obtain ⟨hn1, hn2, hn3⟩ := hno
  obtain ⟨xn, hx⟩ : ∃ xn, H1.next = xn := ⟨_, rfl⟩
  rw [hx] at hn2
  have hbx : b + 0 < xn := by have := m1.next; omega
  have hTx : p.t < xn := by omega
  have hc1 := hb1
  simp only [cellsT] at hc1
  rw [show H1 = ext H1 [] from rfl]
  simp (maxDischargeDepth := 6) only [hx, hbx, hn2, hc1, ruW, putL, Nat.reduceLeDiff, xF, ruU, entryE, Nat.reduceLT, Nat.reduceAdd, Nat.reduceMul, Nat.reduceEqDiff]
  generalize hV : uw H1 (b + 0) 14 _ = V
  have mV : Mod [b + 0] H1 V := hV ▸ Mod.uw (by simp)
  have okV := mV.ok ok1
  have hVn : V.next = xn := by rw [← hV, uw_next, hx]
  have hVb : bk V (b + 0) = some ⟨49, false, cellsT { p with rb := n } x⟩ := by rw [← hV, bk_uw_eq, hb1]; rfl
  have gV : TmAt V p x := g1.of mV.next fun m hm => mV.get m (g1.lt m hm) (by simp only [List.mem_singleton]; have := g.lt m hm; omega)
  have hcV := gV.cell
  simp only [cellsT] at hcV
  refine w_drawB [(4, 3), (9, 3), (9, 4), (9, 8), (11, 3), (11, 4), (11, 8), (11, 9), (13, 3), (13, 4), (13, 8), (13, 9), (13, 11), (10, 4), (10, 9), (12, 4), (12, 9)] [] (by kernel_rfl) (by kernel_rfl) rfl fun ops anc hA hG => ?_
  simp only [all2_cons] at hA
  simp (maxDischargeDepth := 6) only [hVn, hTx, hcV, hA, ruD, ruW, putL, Nat.reduceLeDiff, xF, ruU, entryE, Nat.reduceLT, Nat.reduceAdd, Nat.reduceMul, Nat.reduceEqDiff]
  have hrn := restrict_next V (idsV p.rv)
  obtain ⟨_, gg, hc, v1, rfl, hv1, mg, hid1, hnd1, a1, hsl1⟩ := clone23_c (V.restrict (idsV p.rv)) p.rv x.rest (gV.rest.of fun m hm => by rw [restrict_get, if_pos hm]) (fun m hm => by rw [hrn.1]; exact gV.lt m (by simp [Rp.blks, hm])) (by rw [hrn.1, hrn.2.1]; exact Nat.le_refl _) hrl
  rw [hrn.1, hVn] at hid1
  refine genV_mod (H := ext V []) (W := []) (idsV p.rv) okV (by simp only [ruU, entryE, Nat.reduceLT, Nat.reduceAdd, Nat.reduceMul, Nat.reduceEqDiff]) (by kernel_rfl) gV.rest.ne (fun m hm => gV.lt m (by simp [Rp.blks, hm])) (fun _ h => by simp at h) (v := v1) (g := gg) (by simp only [ruU, entryE, Nat.reduceLT, Nat.reduceAdd, Nat.reduceMul, Nat.reduceEqDiff]; exact hc) mg (by simp only [all2_cons, all2_nil, hA, true_or, and_true]) ?_
  intro Y D mY hFY hNY hnY hDY
  have hD0 : D = [] := List.eq_nil_iff_forall_not_mem.2 (fun q hq => by simpa using hDY q hq)
  subst hD0
  replace mY : Mod [] V Y := mY
  replace hNY : ∀ m, V.next ≤ m → m < gg.next → Y.get m = gg.get m := hNY
  obtain ⟨gn, hgn⟩ : ∃ gn, gg.next = gn := ⟨_, rfl⟩
  have hYn : Y.next = gn := by rw [hnY, hgn]
  have hgx : xn ≤ gn := by have := mg.next; rw [hrn.1, hVn] at this; omega
  have okY := mY.ok okV
  have gY : TmAt Y p x := gV.of mY.next fun m hm => mY.get m (gV.lt m hm) (by simp)
  have hv1Y : BytesAt Y v1 x.rest := hv1.of fun m hm => hNY m (by rw [hVn]; exact (hid1 m hm).1) (hid1 m hm).2
  have hcY := gY.cell
  simp only [cellsT] at hcY
  have hTy : p.t < gn := by omega
  have hids : ∀ (q : Nat) (D2 : List Nat), Meets q [p.t] [] D2 ⟨3, [p.t], [], xn, xn⟩ := fun q D2 => by simp [Meets]
  rw [show Y = ext Y [] from rfl]
  simp (maxDischargeDepth := 6) only [hYn, hTy, hcY, hA, ext_next, hVn, ruD, ruW, putL, Nat.reduceLeDiff, xF, ruU, entryE, Nat.reduceLT, Nat.reduceAdd, Nat.reduceMul, Nat.reduceEqDiff]
  refine ⟨fun _ => .inr (.inl (by omega)), fun _ => .inr (.inl (by omega)), fun _ => .inr (.inl (by omega)), .inr ?_, ?_⟩
  · exact fun _ => ⟨.inl (by omega), fun m hm => .inl (by have := hpvl m hm; omega)⟩
  have hrn2 := restrict_next Y (idsV p.pv)
  obtain ⟨_, g2, hc2, v2, rfl, hv2, mg2, hid2, hnd2, a2, hsl2⟩ := clone23_c (Y.restrict (idsV p.pv)) p.pv x.params (gY.par.of fun m hm => by rw [restrict_get, if_pos hm]) (fun m hm => by rw [hrn2.1]; exact gY.lt m (by simp [Rp.blks, hm])) (by rw [hrn2.1, hrn2.2.1]; exact Nat.le_refl _) hpl
  rw [hrn2.1, hYn] at hid2
  refine genV_mod (H := ext Y []) (W := []) (idsV p.pv) okY (by simp only [ruU, entryE, Nat.reduceLT, Nat.reduceAdd, Nat.reduceMul, Nat.reduceEqDiff]) (by kernel_rfl) gY.par.ne (fun m hm => gY.lt m (by simp [Rp.blks, hm])) (fun _ h => by simp at h) (v := v2) (g := g2) (by simp only [ruU, entryE, Nat.reduceLT, Nat.reduceAdd, Nat.reduceMul, Nat.reduceEqDiff]; exact hc2) mg2 (by simp only [all2_cons, all2_nil, hA, true_or, and_true]) ?_
  intro Z D2 mZ hFZ hNZ hnZ hDZ
  have hD20 : D2 = [] := List.eq_nil_iff_forall_not_mem.2 (fun q hq => by simpa using hDZ q hq)
  subst hD20
  replace mZ : Mod [] Y Z := mZ
  replace hNZ : ∀ m, Y.next ≤ m → m < g2.next → Z.get m = g2.get m := hNZ
  obtain ⟨zn, hzn⟩ : ∃ zn, g2.next = zn := ⟨_, rfl⟩
  have hZn : Z.next = zn := by rw [hnZ, hzn]
  have hgz : gn ≤ zn := by have := mg2.next; rw [hrn2.1, hYn] at this; omega
  rw [hgn] at hid1
  rw [hzn] at hid2
  have hv2Z : BytesAt Z v2 x.params := hv2.of fun m hm => hNZ m (by rw [hYn]; exact (hid2 m hm).1) (by rw [hzn]; exact (hid2 m hm).2)
  have hv1Z : BytesAt Z v1 x.rest := hv1Y.of fun m hm => mZ.get m (by rw [hYn]; exact (hid1 m hm).2) (by simp)
  have hbY : bk Y (b + 0) = bk V (b + 0) := mY.bk (by omega) (by simp)
  have hbZ : bk Z (b + 0) = some ⟨49, false, cellsT { p with rb := n } x⟩ := (mZ.bk (by omega) (by simp)).trans (hbY.trans hVb)
  have hbZ2 := hbZ
  simp only [cellsT] at hbZ2
  have hbz : b + 0 < zn := by omega
  have hs1 := hv1Z.sc (N := zn) (fun m hm => by have := (hid1 m hm).2; omega)
  have hs2 := hv2Z.sc (N := zn) (fun m hm => (hid2 m hm).2)
  have hst1 : ∀ N off v l, zn ≤ N → scb zn v = true → one v = true → off + 1 ≤ l.length → stB Tryd.prog 29 N off v (some ⟨49, false, l⟩) = some ⟨49, false, putL l off [v]⟩ := fun N off v l hN h1 h2 h3 => by
    have hcl : v.cells.toList = [v] := cells_sg h2
    have := stB_ok (P := Tryd.prog) (t := 29) (e := 49) (o := false) (l := l) (N := N) (off := off) (v := v) (by rw [hcl]; kernel_rfl) (by rw [hcl]; exact h3) (by rw [hcl]; simp [h2]) (by rw [hcl]; simp [scbL, scb_mono hN _ h1])
    rw [this, hcl]
  have q1 := hst1 (zn + 0) 19 v1 _ (Nat.le_refl _) hs1.1 hs1.2 (show 19 + 1 ≤ (cellsT { p with rb := n } x).length by rw [cellsT_len]; decide)
  simp only [cellsT] at q1
  have q2 := hst1 (zn + 0) 20 v2 (putL (cellsT { p with rb := n } x) 19 [v1]) (Nat.le_refl _) hs2.1 hs2.2 (by rw [putL_length, cellsT_len]; decide)
  simp only [cellsT, putL] at q2
  have hcl1 : v1.cells.toList = [v1] := cells_sg hs1.2
  have hcl2 : v2.cells.toList = [v2] := cells_sg hs2.2
  rw [show Z = ext Z [] from rfl]
  simp (maxDischargeDepth := 6) only [hZn, hbz, hbZ2, hA, ext_next, hYn, hVn, hcl1, hcl2, q1, q2, Tryd.results10, ruD, ruW, putL, Nat.reduceLeDiff, xF, ruU, entryE, Nat.reduceLT, Nat.reduceAdd, Nat.reduceMul, Nat.reduceEqDiff]
  have hgo : ∀ m, b + 1 ≤ m → m < xn → (ext (uw (uw Z (b + 0) 19 [v1]) (b + 0) 20 [v2]) []).get m = H1.get m := fun m hm1 hm2 => by
    rw [ext_nil, uw_get (by omega), uw_get (by omega), mZ.get m (by omega) (by simp), mY.get m (by omega) (by simp), mV.get m (by omega) (by simp only [List.mem_singleton]; omega)]
  have hgz' : ∀ m, xn ≤ m → (ext (uw (uw Z (b + 0) 19 [v1]) (b + 0) 20 [v2]) []).get m = Z.get m := fun m hm1 => by
    rw [ext_nil, uw_get (by omega), uw_get (by omega)]
  have hWn : (ext (uw (uw Z (b + 0) 19 [v1]) (b + 0) 20 [v2]) []).next = zn := by rw [ext_nil, uw_next, uw_next, hZn]
  have hrows : bk H1 n = some ⟨42, true, rs.map (rowV x.w)⟩ := by
    rcases ho.at_ with ⟨h, _⟩ | ⟨_, n', e, hb'⟩
    · have := s.h1; rw [h] at hrsl; simp at hrsl; omega
    · simp only [Value.slice.injEq, Option.some.injEq, Addr.mk.injEq, and_true] at e
      rw [e.1]; exact hb'
  have hrng : ∀ q ∈ rs, b + 1 ≤ q.1 ∧ q.1 < xn := fun q hq => by
    have := ho.rng q hq
    rw [hH0n, hx] at this
    exact this
  refine ⟨⟨b + 0, n, rs, v1, v2⟩, rfl, ⟨?_, ?_, hrsl, ?_, ?_, ?_, ?_, ?_⟩, ?_, ?_⟩
  · rw [ext_nil, bk_uw_eq, bk_uw_eq, hbZ]; rfl
  · rw [bk_get (hgo n hn1 hn2)]; exact hrows
  · intro i q l h1' h2'
    have := hrng q (List.mem_of_getElem? h1')
    rw [bk_get (hgo q.1 this.1 this.2)]
    exact ho.row i q l h1' h2'
  · exact hv1Z.of fun m hm => hgz' m (hid1 m hm).1
  · exact hv2Z.of fun m hm => hgz' m (by have := (hid2 m hm).1; omega)
  · simp only [Rp.blks]
    refine List.nodup_cons.2 ⟨?_, List.nodup_cons.2 ⟨?_, ?_⟩⟩
    · simp only [List.mem_cons, List.mem_append, List.mem_map, not_or, not_exists, not_and]
      refine ⟨by omega, ⟨fun q hq => by have := (hrng q hq).1; omega, fun h => by have := (hid1 _ h).1; omega⟩, fun h => by have := (hid2 _ h).1; omega⟩
    · simp only [List.mem_append, List.mem_map, not_or]
      refine ⟨⟨fun ⟨q, hq, e⟩ => hn3 (List.mem_map.2 ⟨q, hq, e⟩), fun h => by have := (hid1 _ h).1; omega⟩, fun h => by have := (hid2 _ h).1; omega⟩
    · refine List.nodup_append.2 ⟨List.nodup_append.2 ⟨ho.nd, hnd1, fun a ha b' hb' e => ?_⟩, hnd2, fun a ha b' hb' e => ?_⟩
      · obtain ⟨q, hq, rfl⟩ := List.mem_map.1 ha
        have := (hrng q hq).2
        have := (hid1 b' hb').1
        omega
      · have h2' := (hid2 b' hb').1
        rcases List.mem_append.1 ha with h | h
        · obtain ⟨q, hq, rfl⟩ := List.mem_map.1 h
          have := (hrng q hq).2
          omega
        · have := (hid1 a h).2
          omega
  · intro m hm
    rw [hWn]
    simp only [Rp.blks, List.mem_cons, List.mem_append, List.mem_map] at hm
    rcases hm with rfl | rfl | (⟨q, hq, rfl⟩ | hm) | hm
    · exact hbz
    · omega
    · have := (hrng q hq).2; omega
    · have := (hid1 m hm).2; omega
    · exact (hid2 m hm).2
  · have mE : Mod [b + 0] Z (ext (uw (uw Z (b + 0) 19 [v1]) (b + 0) 20 [v2]) []) := (Mod.uw (by simp)).trans (Mod.uw (by simp))
    have m3 := (mV.trans (mY.mono (by simp))).trans (mZ.mono (by simp))
    exact mH1.step (m3.trans mE) ok (fun m hm => .inr (by simp only [List.mem_singleton] at hm; omega))
  · intro m hm
    simp only [Rp.blks, List.mem_cons, List.mem_append, List.mem_map] at hm
    rcases hm with rfl | rfl | (⟨q, hq, rfl⟩ | hm) | hm
    · omega
    · omega
    · have := (hrng q hq).1; omega
    · have := (hid1 m hm).1; omega
    · have := (hid2 m hm).1; omega

end Go.Proofs.YtpohjcacnkhnkaaDoor

/- Rows of cells compared. -/
namespace Go.Proofs.YtpohjcacnkhnkaaDoor
open Go.Ax
set_option linter.unusedSimpArgs false
set_option maxRecDepth 10000

def RowAt (H : AHeap) (v : Value) (l : List Ce) : Prop :=
  (l = [] ∧ ∃ a c, v = .slice a 0 c) ∨ (l ≠ [] ∧ ∃ n off s c e o L, v = .slice (some ⟨n, off, s⟩) l.length c ∧ bk H n = some ⟨e, o, L⟩ ∧ n < H.next ∧ off + l.length * 6 ≤ L.length ∧ (L.drop off).take (l.length * 6) = csOf l)

theorem RowAt.sl {H : AHeap} {v : Value} {l : List Ce} (h : RowAt H v l) : ∃ a c, v = .slice a l.length c := by
  rcases h with ⟨rfl, a, c, rfl⟩ | ⟨_, n, off, s, c, e, o, L, rfl, _⟩
  · exact ⟨a, c, rfl⟩
  · exact ⟨_, _, rfl⟩

theorem RowAt.of {H G : AHeap} {v : Value} {l : List Ce} (h : RowAt H v l) (hn : H.next ≤ G.next) (hg : ∀ n ∈ idsV v, G.get n = H.get n) : RowAt G v l := by
  rcases h with ⟨rfl, a, c, rfl⟩ | ⟨hl, n, off, s, c, e, o, L, rfl, hb, hlt, hle, ht⟩
  · exact .inl ⟨rfl, a, c, rfl⟩
  · exact .inr ⟨hl, n, off, s, c, e, o, L, rfl, (bk_get (hg n (by simp [idsV]))).trans hb, by omega, hle, ht⟩

theorem take_get2 : ∀ (l : List Ce) (k : Nat) (c : Ce) (L : List Value) (off : Nat), l[k]? = some c → (L.drop off).take (l.length * 6) = csOf l → (L.drop (off + k * 6)).take 6 = c.cells := by
  intro l k c L off hk h
  have hlt : k < l.length := by
    rcases Nat.lt_or_ge k l.length with h' | h'
    · exact h'
    · rw [List.getElem?_eq_none h'] at hk; cases hk
  have key : ∀ (l : List Ce) (k : Nat), l[k]? = some c → ((csOf l).drop (k * 6)).take 6 = c.cells := by
    intro l
    induction l with
    | nil => intro k h; simp at h
    | cons q ps ih =>
      intro k h
      cases k with
      | zero =>
        simp only [List.getElem?_cons_zero, Option.some.injEq] at h
        subst h
        simp [csOf, Ce.cells]
      | succ k =>
        have ih := ih k (by simpa using h)
        rw [csOf_cons, show (k + 1) * 6 = q.cells.length + k * 6 by simp [Ce.cells]; omega, List.drop_append, List.drop_eq_nil_of_le (by omega), List.nil_append, Nat.add_sub_cancel_left]
        exact ih
  have h2 := key l k hk
  rw [← h, List.drop_take, List.drop_drop, List.take_take, Nat.min_eq_left (by omega)] at h2
  exact h2

theorem row_load {l : List Ce} {k : Nat} {c : Ce} {e : TypeId} {o : Bool} {L : List Value} {off : Nat} (hk : l[k]? = some c) (hle : off + l.length * 6 ≤ L.length) (h : (L.drop off).take (l.length * 6) = csOf l) : ldB Tryd.prog 56 (off + k * 6) (some ⟨e, o, L⟩) = some c.val := by
  have hlt : k < l.length := by
    rcases Nat.lt_or_ge k l.length with h' | h'
    · exact h'
    · rw [List.getElem?_eq_none h'] at hk; cases hk
  have h1 : aggT Tryd.prog 56 = some true := by kernel_rfl
  have h2 : szOf Tryd.prog 56 = some 6 := by kernel_rfl
  simp only [ldB, h1, h2, Option.bind_some, take_get2 l k c L off hk h]
  rw [if_pos (by omega)]
  rfl

theorem rowo_ia {len cap n off : Nat} {s : Option Nat} {i : Int} {k : Nat} (hi : i = k) (hk : k < len) : aIndexAddr Tryd.prog 42 (.slice (some ⟨n, off, s⟩) len cap) (.int .i64 i) = some (.pointer (some ⟨n, off + k * 6, none⟩)) := by
  subst hi
  rw [ia_slice (e := 56) (sz := 6) (by kernel_rfl) (by kernel_rfl) (by omega) (by omega)]
  simp

theorem ce_eqL (r s : Ce) : eqL r.cells s.cells = decide (r = s) := by
  obtain ⟨a, ⟨b, c, d, e, f⟩⟩ := r
  obtain ⟨a', ⟨b', c', d', e', f'⟩⟩ := s
  simp only [Ce.cells, eqL, eq1, Bool.and_true, Ce.mk.injEq, Lk.mk.injEq]
  by_cases h1 : a = a' <;> by_cases h2 : b = b' <;> by_cases h3 : c = c' <;> by_cases h4 : d = d' <;> by_cases h5 : e = e' <;> by_cases h6 : f = f' <;> simp [h1, h2, h3, h4, h5, h6]
theorem fl56 : flat Tryd.prog 10000 56 = some [3, 3, 3, 4, 4, 4] := by kernel_rfl
theorem gd56 : Tryd.prog.eqGuardType Tryd.prog.depth 56 = false := by kernel_rfl
theorem ce_fits (r : Ce) : fits Tryd.prog [3, 3, 3, 4, 4, 4] r.cells = true := by
  have h3 : ∀ n, fit1 Tryd.prog 3 (.int .i64 n) = true := fun n => by kernel_rfl
  have h4 : ∀ n, fit1 Tryd.prog 4 (.bool n) = true := fun n => by kernel_rfl
  simp only [Ce.cells, fits, h3, h4, Bool.and_self]

theorem sameCells_c (H : AHeap) (v1 v2 : Value) (l1 l2 : List Ce) (h1 : RowAt H v1 l1) (h2 : RowAt H v2 l2) (hl : l1.length < 1000000) : Pure 26 [v1, v2] H (.bool (decide (l1 = l2))) := by
  obtain ⟨b, hb⟩ : ∃ b, H.next = b := ⟨_, rfl⟩
  refine callS_fn mixed Tryd.func26 rfl Tryd.ntmps26 (Nat.le_of_ble_eq_true rfl) fun wf hsc => ?_
  obtain ⟨a1, c1, e1⟩ := h1.sl
  obtain ⟨a2, c2, e2⟩ := h2.sl
  rw [e1, e2]
  simp (maxDischargeDepth := 6) only [ruW, putL, Nat.reduceLeDiff, xF, ruU, entryE, Nat.reduceLT, Nat.reduceAdd, Nat.reduceMul, Nat.reduceEqDiff]
  rw [← e1, ← e2]
  refine w_env fun E hE => ?_
  have g0 : E 0 = v1 := by rw [hE]; simp only [ruU, entryE, Nat.reduceLT, Nat.reduceAdd, Nat.reduceMul, Nat.reduceEqDiff]
  have g1 : E 1 = v2 := by rw [hE]; simp only [ruU, entryE, Nat.reduceLT, Nat.reduceAdd, Nat.reduceMul, Nat.reduceEqDiff]
  have g5 : E 5 = .bool (decide ((l1.length : Int) = (l2.length : Int))) := by rw [hE]; simp only [ruU, entryE, Nat.reduceLT, Nat.reduceAdd, Nat.reduceMul, Nat.reduceEqDiff]
  have g6 : E 6 = .int .i64 0 := by rw [hE]; simp only [ruU, entryE, Nat.reduceLT, Nat.reduceAdd, Nat.reduceMul, Nat.reduceEqDiff]
  clear hE
  have hfin : ∀ s : Bool, (s = true → l1 = l2) → (s = false → l1 ≠ l2) → s = decide (l1 = l2) := fun s h1 h2 => by
    cases s
    · rw [decide_eq_false (h2 rfl)]
    · rw [decide_eq_true (h1 rfl)]
  refine blockC_meet (fun E' H' => H' = ext H [] ∧ E' 5 = .bool (decide (l1 = l2))) ?_ ?_
  · refine w_loop (fun (k : Nat × Bool) E' H' => H' = ext H [] ∧ E' 0 = v1 ∧ E' 1 = v2 ∧ E' 5 = .bool k.2 ∧ E' 6 = .int .i64 (k.1 : Int) ∧ k.1 ≤ l1.length ∧ (k.2 = true → l1.length = l2.length ∧ l1.take k.1 = l2.take k.1) ∧ (k.2 = false → l1 ≠ l2)) (fun k => l1.length - k.1) (0, decide ((l1.length : Int) = (l2.length : Int)))
      ⟨rfl, g0, g1, g5, g6, Nat.zero_le _, fun h => ⟨by have := of_decide_eq_true h; omega, rfl⟩, fun h e => by rw [e] at h; simp at h⟩ ?_
    clear g0 g1 g5 g6
    rintro ⟨k, s⟩ E H' ⟨hH, g0, g1, g5, g6, hk, hs1, hs2⟩
    simp only at g5 g6 hk hs1 hs2
    rw [hH]
    cases s with
    | false =>
      simp (maxDischargeDepth := 6) only [g0, g1, g5, g6, ruW, putL, Nat.reduceLeDiff, xF, ruU, entryE, Nat.reduceLT, Nat.reduceAdd, Nat.reduceMul, Nat.reduceEqDiff]
      refine joinR_normal ⟨rfl, ?_⟩
      simp only [g5, ruU, entryE, Nat.reduceLT, Nat.reduceAdd, Nat.reduceMul, Nat.reduceEqDiff]
      rw [decide_eq_false (hs2 rfl)]
    | true =>
      obtain ⟨hlen, hpre⟩ := hs1 rfl
      by_cases hkl : k = l1.length
      · have hc : decide ((k : Int) < (l1.length : Int)) = false := by simp [hkl]
        rw [e1] at g0
        simp (maxDischargeDepth := 6) only [g0, g1, g5, g6, hc, ruW, putL, Nat.reduceLeDiff, xF, ruU, entryE, Nat.reduceLT, Nat.reduceAdd, Nat.reduceMul, Nat.reduceEqDiff]
        refine joinR_normal ⟨rfl, ?_⟩
        simp only [g5, ruU, entryE, Nat.reduceLT, Nat.reduceAdd, Nat.reduceMul, Nat.reduceEqDiff]
        have : l1 = l2 := by
          have e3 := hpre
          rw [hkl, List.take_length, hlen, List.take_length] at e3
          exact e3
        rw [decide_eq_true this]
      · have hlt : k < l1.length := by omega
        have hc : decide ((k : Int) < (l1.length : Int)) = true := decide_eq_true (by omega)
        rcases h1 with ⟨h, _⟩ | ⟨_, n1, o1, s1, c1, t1, p1, L1, rfl, b1, n1l, le1, tk1⟩
        · rw [h] at hlt; simp at hlt
        rcases h2 with ⟨h, _⟩ | ⟨_, n2, o2, s2, c2, t2, p2, L2, rfl, b2, n2l, le2, tk2⟩
        · rw [h] at hlen; simp at hlen; simp [hlen] at hlt
        obtain ⟨r1, hr1⟩ : ∃ r, l1[k]? = some r := ⟨_, List.getElem?_eq_getElem hlt⟩
        obtain ⟨r2, hr2⟩ : ∃ r, l2[k]? = some r := ⟨_, List.getElem?_eq_getElem (by omega)⟩
        have i1 := rowo_ia (n := n1) (off := o1) (s := s1) (cap := c1) (i := (k : Int)) rfl hlt
        have i2 := rowo_ia (n := n2) (off := o2) (s := s2) (cap := c2) (i := (k : Int)) (len := l2.length) rfl (by omega)
        have q1 := row_load (e := t1) (o := p1) hr1 le1 tk1
        have q2 := row_load (e := t2) (o := p2) hr2 le2 tk2
        rw [hb] at n1l n2l
        simp (maxDischargeDepth := 6) only [g0, g1, g5, g6, hc, ruW, putL, Nat.reduceLeDiff, xF, ruU, entryE, Nat.reduceLT, Nat.reduceAdd, Nat.reduceMul, Nat.reduceEqDiff]
        refine w_drawB [] [] (by kernel_rfl) rfl rfl fun ops anc hA hG => ?_
        simp (maxDischargeDepth := 6) only [g0, g1, g5, g6, hb, i1, i2, b1, b2, n1l, n2l, q1, q2, Ce.val, ruD, ruW, putL, Nat.reduceLeDiff, xF, ruU, entryE, Nat.reduceLT, Nat.reduceAdd, Nat.reduceMul, Nat.reduceEqDiff]
        refine wd_eqS (ts := [3, 3, 3, 4, 4, 4]) (xs := r1.cells) (ys := r2.cells) (r := decide (r1 = r2)) fl56 ag56 gd56 (by rw [ce_eqL]; rfl) (by simp only [ruU, entryE, Nat.reduceLT, Nat.reduceAdd, Nat.reduceMul, Nat.reduceEqDiff]) (by simp only [ruU, entryE, Nat.reduceLT, Nat.reduceAdd, Nat.reduceMul, Nat.reduceEqDiff]) (by decide) (by simp only [ruU, entryE, Nat.reduceLT, Nat.reduceAdd, Nat.reduceMul, Nat.reduceEqDiff]; rfl) (by simp only [ruU, entryE, Nat.reduceLT, Nat.reduceAdd, Nat.reduceMul, Nat.reduceEqDiff]; rfl) (ce_fits _) (ce_fits _) ?_
        simp (maxDischargeDepth := 6) only [g0, g1, g5, g6, wrap_succ (show k < 1000000 by omega), ruD, ruW, putL, Nat.reduceLeDiff, xF, ruU, entryE, Nat.reduceLT, Nat.reduceAdd, Nat.reduceMul, Nat.reduceEqDiff]
        refine loopC_next ⟨(k + 1, decide (r1 = r2)), by simp only; omega, rfl, ?_, ?_, ?_, ?_, by simp only; omega, fun h => ⟨hlen, ?_⟩, fun h e => ?_⟩ <;> try simp only [g0, g1, g5, g6, ruU, entryE, Nat.reduceLT, Nat.reduceAdd, Nat.reduceMul, Nat.reduceEqDiff]
        · have h := of_decide_eq_true h
          rw [List.take_add_one, List.take_add_one, hr1, hr2, hpre, h]
        · have h := of_decide_eq_false h
          rw [e] at hr1
          rw [hr1] at hr2
          exact h (Option.some.inj hr2)
  · rintro E H' ⟨hH, g5⟩
    rw [hH]
    simp (maxDischargeDepth := 6) only [g5, Tryd.results26, ruW, putL, Nat.reduceLeDiff, xF, ruU, entryE, Nat.reduceLT, Nat.reduceAdd, Nat.reduceMul, Nat.reduceEqDiff]
    exact Fin.pure rfl

def GridAt (H : AHeap) (v : Value) (g : List (List Ce)) : Prop :=
  (g = [] ∧ ∃ a c, v = .slice a 0 c) ∨ (g ≠ [] ∧ ∃ n off s c e o L, v = .slice (some ⟨n, off, s⟩) g.length c ∧ bk H n = some ⟨e, o, L⟩ ∧ n < H.next ∧ off + g.length ≤ L.length ∧ ∀ k row, g[k]? = some row → ∃ rv, L[off + k]? = some rv ∧ RowAt H rv row)

theorem GridAt.sl {H : AHeap} {v : Value} {g : List (List Ce)} (h : GridAt H v g) : ∃ a c, v = .slice a g.length c := by
  rcases h with ⟨rfl, a, c, rfl⟩ | ⟨_, n, off, s, c, e, o, L, rfl, _⟩
  · exact ⟨a, c, rfl⟩
  · exact ⟨_, _, rfl⟩

theorem RowAt.ext {H : AHeap} {v : Value} {l : List Ce} {B : List Bl} (h : RowAt H v l) : RowAt (Go.Ax.ext H B) v l := by
  rcases h with ⟨rfl, a, c, rfl⟩ | ⟨hl, n, off, s, c, e, o, L, rfl, hb, hlt, hle, ht⟩
  · exact .inl ⟨rfl, a, c, rfl⟩
  · exact .inr ⟨hl, n, off, s, c, e, o, L, rfl, (bk_old hlt).trans hb, by rw [ext_next]; omega, hle, ht⟩
theorem RowAt.ne {H : AHeap} {v : Value} {l : List Ce} (h : RowAt H v l) (hl : l ≠ []) : ∀ n ∈ idsV v, H.get n ≠ none ∧ n < H.next := by
  rcases h with ⟨rfl, _⟩ | ⟨_, n, off, s, c, e, o, L, rfl, hb, hlt, _⟩
  · exact absurd rfl hl
  · intro m hm
    simp only [idsV, List.mem_singleton] at hm
    subst hm
    exact ⟨bk_ne hb, hlt⟩

theorem grid_ia {len cap n off : Nat} {s : Option Nat} {i : Int} {k : Nat} (hi : i = k) (hk : k < len) : aIndexAddr Tryd.prog 33 (.slice (some ⟨n, off, s⟩) len cap) (.int .i64 i) = some (.pointer (some ⟨n, off + k, none⟩)) := by
  subst hi
  rw [ia_slice (e := 42) (sz := 1) (by kernel_rfl) (by kernel_rfl) (by omega) (by omega)]
  simp
theorem ag42 : aggT Tryd.prog 42 = some false := by kernel_rfl
theorem grid_load {k off : Nat} {e : TypeId} {o : Bool} {L : List Value} {rv : Value} (h : L[off + k]? = some rv) : ldB Tryd.prog 42 (off + k) (some ⟨e, o, L⟩) = some rv := by
  simp only [ldB, ag42, h]

def rowF (l : List Ce) (v : Value) : List Nat := if l = [] then [] else idsV v
theorem RowAt.f {H : AHeap} {v : Value} {l : List Ce} (h : RowAt H v l) : ∀ n ∈ rowF l v, H.get n ≠ none := by
  unfold rowF
  split
  · intro n hn; cases hn
  · rename_i hl; exact fun n hn => (h.ne hl n hn).1
theorem RowAt.ofF {H G : AHeap} {v : Value} {l : List Ce} (h : RowAt H v l) (hn : H.next ≤ G.next) (hg : ∀ n ∈ rowF l v, G.get n = H.get n) : RowAt G v l := by
  by_cases hl : l = []
  · obtain ⟨a, c, e⟩ := h.sl
    subst hl
    exact .inl ⟨rfl, a, c, e⟩
  · rw [rowF, if_neg hl] at hg
    exact h.of hn hg

theorem sameScreens_c (H : AHeap) (v1 v2 : Value) (g1 g2 : List (List Ce)) (r1 c1 r2 c2 : Int) (h1 : GridAt H v1 g1) (h2 : GridAt H v2 g2) (hl : g1.length < 1000000) (hw : ∀ l ∈ g1, l.length < 1000000) :
    Pure 12 [.agg #[v1, .int .i64 r1, .int .i64 c1], .agg #[v2, .int .i64 r2, .int .i64 c2]] H (.bool (decide (g1 = g2 ∧ r1 = r2 ∧ c1 = c2))) := by
  obtain ⟨b, hb⟩ : ∃ b, H.next = b := ⟨_, rfl⟩
  refine callS_fn mixed Tryd.func12 rfl Tryd.ntmps12 (Nat.le_of_ble_eq_true rfl) fun wf hsc => ?_
  have hbase : H.base ≤ b := hb ▸ wf.base
  obtain ⟨a1, k1, e1⟩ := h1.sl
  obtain ⟨a2, k2, e2⟩ := h2.sl
  have hsc1 : scb b v1 = true ∧ scb b v2 = true := by
    simp only [scbL, scb, scbA, Bool.and_eq_true, hb] at hsc
    exact ⟨hsc.1.1, hsc.2.1.1⟩
  rw [e1, e2] at hsc1
  have hfin : ∀ s : Bool, (s = true → g1 = g2 ∧ r1 = r2 ∧ c1 = c2) → (s = false → ¬ (g1 = g2 ∧ r1 = r2 ∧ c1 = c2)) → s = decide (g1 = g2 ∧ r1 = r2 ∧ c1 = c2) := fun s h1 h2 => by
    cases s
    · rw [decide_eq_false (h2 rfl)]
    · rw [decide_eq_true (h1 rfl)]
  obtain ⟨d1, hd1⟩ : ∃ d, decide ((g1.length : Int) = (g2.length : Int)) = d := ⟨_, rfl⟩
  obtain ⟨d2, hd2⟩ : ∃ d, decide (r1 = r2) = d := ⟨_, rfl⟩
  obtain ⟨d3, hd3⟩ : ∃ d, decide (c1 = c2) = d := ⟨_, rfl⟩
  have hd1' : g1.length = g2.length ↔ d1 = true := by rw [← hd1, decide_eq_true_iff]; omega
  have hd2' : r1 = r2 ↔ d2 = true := by rw [← hd2, decide_eq_true_iff]
  have hd3' : c1 = c2 ↔ d3 = true := by rw [← hd3, decide_eq_true_iff]
  rw [e1, e2]
  simp (maxDischargeDepth := 6) only [hb, hbase, hsc1.1, hsc1.2, hd1, ruW, putL, Nat.reduceLeDiff, xF, ruU, entryE, Nat.reduceLT, Nat.reduceAdd, Nat.reduceMul, Nat.reduceEqDiff]
  cases d1 <;> simp (maxDischargeDepth := 6) only [hb, hbase, hsc1.1, hsc1.2, hd2, ruW, putL, Nat.reduceLeDiff, xF, ruU, entryE, Nat.reduceLT, Nat.reduceAdd, Nat.reduceMul, Nat.reduceEqDiff] <;> cases d2 <;> (try simp (maxDischargeDepth := 6) only [hb, hbase, hsc1.1, hsc1.2, hd3, ruW, putL, Nat.reduceLeDiff, xF, ruU, entryE, Nat.reduceLT, Nat.reduceAdd, Nat.reduceMul, Nat.reduceEqDiff]) <;> cases d3 <;> (try simp (maxDischargeDepth := 6) only [ruW, putL, Nat.reduceLeDiff, xF, ruU, entryE, Nat.reduceLT, Nat.reduceAdd, Nat.reduceMul, Nat.reduceEqDiff]) <;>
  (refine w_env fun E hE => ?_
   obtain ⟨s0, g5, hs⟩ : ∃ s0 : Bool, E 5 = .bool s0 ∧ (s0 = true ↔ (g1.length = g2.length ∧ r1 = r2 ∧ c1 = c2)) := by
     refine ⟨_, by rw [hE]; (simp only [ruU, entryE, Nat.reduceLT, Nat.reduceAdd, Nat.reduceMul, Nat.reduceEqDiff] <;> rfl), ?_⟩
     rw [hd1', hd2', hd3']
     decide
   have q2 : E 2 = .pointer (some ⟨b + 0, 0, none⟩) := by rw [hE]; simp only [ruU, entryE, Nat.reduceLT, Nat.reduceAdd, Nat.reduceMul, Nat.reduceEqDiff]
   have q3 : E 3 = .pointer (some ⟨b + 1, 0, none⟩) := by rw [hE]; simp only [ruU, entryE, Nat.reduceLT, Nat.reduceAdd, Nat.reduceMul, Nat.reduceEqDiff]
   have q6 : E 6 = .int .i64 0 := by rw [hE]; simp only [ruU, entryE, Nat.reduceLT, Nat.reduceAdd, Nat.reduceMul, Nat.reduceEqDiff]
   clear hE hd1 hd2 hd3 hd1' hd2' hd3'
   have hB0 : ∀ A B, bk (ext H [A, B]) (b + 0) = some A := fun A B => by rw [bk_at hb (by simp)]; rfl
   have hB1 : ∀ A B, bk (ext H [A, B]) (b + 1) = some B := fun A B => by rw [bk_at hb (by simp)]; rfl
   refine blockC_meet (fun E' H' => H' = ext H [⟨35, false, [v1, .int .i64 r1, .int .i64 c1]⟩, ⟨35, false, [v2, .int .i64 r2, .int .i64 c2]⟩] ∧ E' 5 = .bool (decide (g1 = g2 ∧ r1 = r2 ∧ c1 = c2))) ?_ ?_
   · refine w_loop (fun (k : Nat × Bool) E' H' => H' = ext H [⟨35, false, [v1, .int .i64 r1, .int .i64 c1]⟩, ⟨35, false, [v2, .int .i64 r2, .int .i64 c2]⟩] ∧ E' 2 = .pointer (some ⟨b + 0, 0, none⟩) ∧ E' 3 = .pointer (some ⟨b + 1, 0, none⟩) ∧ E' 5 = .bool k.2 ∧ E' 6 = .int .i64 (k.1 : Int) ∧ k.1 ≤ g1.length ∧ (k.2 = true → g1.length = g2.length ∧ g1.take k.1 = g2.take k.1 ∧ r1 = r2 ∧ c1 = c2) ∧ (k.2 = false → ¬ (g1 = g2 ∧ r1 = r2 ∧ c1 = c2))) (fun k => g1.length - k.1) (0, s0)
       ⟨by rw [e1, e2], q2, q3, g5, q6, Nat.zero_le _, fun h => ⟨(hs.1 h).1, rfl, (hs.1 h).2⟩, fun h e => by simp only at h; rw [h] at hs; exact absurd (hs.2 ⟨by rw [e.1], e.2⟩) (by decide)⟩ ?_
     clear q2 q3 g5 q6 hs
     rintro ⟨k, s⟩ E H' ⟨hH, q2, q3, g5, q6, hk, hs1, hs2⟩
     simp only at g5 q6 hk hs1 hs2
     rw [hH]
     cases s with
     | false =>
       simp (maxDischargeDepth := 6) only [q2, q3, g5, q6, hb, ruW, putL, Nat.reduceLeDiff, xF, ruU, entryE, Nat.reduceLT, Nat.reduceAdd, Nat.reduceMul, Nat.reduceEqDiff]
       refine joinR_normal ⟨rfl, ?_⟩
       simp only [g5, ruU, entryE, Nat.reduceLT, Nat.reduceAdd, Nat.reduceMul, Nat.reduceEqDiff]
       rw [decide_eq_false (hs2 rfl)]
     | true =>
       obtain ⟨hlen, hpre, hr, hc⟩ := hs1 rfl
       by_cases hkl : k = g1.length
       · have hcd : decide ((k : Int) < (g1.length : Int)) = false := by simp [hkl]
         rw [e1]
         simp (maxDischargeDepth := 6) only [q2, q3, g5, q6, hb, hcd, ruW, putL, Nat.reduceLeDiff, xF, ruU, entryE, Nat.reduceLT, Nat.reduceAdd, Nat.reduceMul, Nat.reduceEqDiff]
         refine joinR_normal ⟨rfl, ?_⟩
         simp only [g5, ruU, entryE, Nat.reduceLT, Nat.reduceAdd, Nat.reduceMul, Nat.reduceEqDiff]
         have : g1 = g2 := by
           have e3 := hpre
           rw [hkl, List.take_length, hlen, List.take_length] at e3
           exact e3
         rw [decide_eq_true ⟨this, hr, hc⟩]
       · have hlt : k < g1.length := by omega
         have hcd : decide ((k : Int) < (g1.length : Int)) = true := decide_eq_true (by omega)
         rcases h1 with ⟨h, _⟩ | ⟨_, n1, o1, s1, x1, t1, p1, L1, rfl, b1, n1l, le1, tk1⟩
         · rw [h] at hlt; simp at hlt
         rcases h2 with ⟨h, _⟩ | ⟨_, n2, o2, s2, x2, t2, p2, L2, rfl, b2, n2l, le2, tk2⟩
         · rw [h] at hlen; simp at hlen; simp [hlen] at hlt
         obtain ⟨w1, hr1⟩ : ∃ r, g1[k]? = some r := ⟨_, List.getElem?_eq_getElem hlt⟩
         obtain ⟨w2, hr2⟩ : ∃ r, g2[k]? = some r := ⟨_, List.getElem?_eq_getElem (by omega)⟩
         obtain ⟨u1, hu1, ra1⟩ := tk1 k w1 hr1
         obtain ⟨u2, hu2, ra2⟩ := tk2 k w2 hr2
         have i1 := grid_ia (n := n1) (off := o1) (s := s1) (cap := x1) (i := (k : Int)) rfl hlt
         have i2 := grid_ia (n := n2) (off := o2) (s := s2) (cap := x2) (i := (k : Int)) (len := g2.length) rfl (by omega)
         have y1 := grid_load (e := t1) (o := p1) hu1
         have y2 := grid_load (e := t2) (o := p2) hu2
         rw [hb] at n1l n2l
         have hww : w1.length < 1000000 := hw w1 (List.mem_of_getElem? hr1)
         simp (maxDischargeDepth := 6) only [q2, q3, g5, q6, hb, hcd, ruW, putL, Nat.reduceLeDiff, xF, ruU, entryE, Nat.reduceLT, Nat.reduceAdd, Nat.reduceMul, Nat.reduceEqDiff]
         refine w_drawB [] [] (by kernel_rfl) rfl rfl fun ops anc hA hG => ?_
         simp (maxDischargeDepth := 6) only [q2, q3, g5, q6, hb, i1, i2, b1, b2, n1l, n2l, y1, y2, ruD, ruW, putL, Nat.reduceLeDiff, xF, ruU, entryE, Nat.reduceLT, Nat.reduceAdd, Nat.reduceMul, Nat.reduceEqDiff]
         refine genV_quiet (v := .bool (decide (w1 = w2))) (rowF w1 u1 ++ rowF w2 u2) (by simp (maxDischargeDepth := 6) only [ruU, entryE, Nat.reduceLT, Nat.reduceAdd, Nat.reduceMul, Nat.reduceEqDiff]) (by kernel_rfl) (by decide) (fun m hm => ?_) (fun G hn hg => ?_) (by simp (maxDischargeDepth := 6) only [ruD, ruW, putL, Nat.reduceLeDiff, xF, ruU, entryE, Nat.reduceLT, Nat.reduceAdd, Nat.reduceMul, Nat.reduceEqDiff]) ?_
         · rcases List.mem_append.1 hm with hm | hm
           · exact ra1.ext.f m hm
           · exact ra2.ext.f m hm
         · simp only [ruU, entryE, Nat.reduceLT, Nat.reduceAdd, Nat.reduceMul, Nat.reduceEqDiff]
           exact sameCells_c G u1 u2 w1 w2 (ra1.ext.ofF (Nat.le_of_eq hn.symm) fun m hm => hg m (List.mem_append_left _ hm)) (ra2.ext.ofF (Nat.le_of_eq hn.symm) fun m hm => hg m (List.mem_append_right _ hm)) hww
         simp (maxDischargeDepth := 6) only [q2, q3, g5, q6, hb, wrap_succ (show k < 1000000 by omega), ruD, ruW, putL, Nat.reduceLeDiff, xF, ruU, entryE, Nat.reduceLT, Nat.reduceAdd, Nat.reduceMul, Nat.reduceEqDiff]
         refine loopC_next ⟨(k + 1, decide (w1 = w2)), by simp only; omega, rfl, ?_, ?_, ?_, ?_, by simp only; omega, fun h => ⟨hlen, ?_, hr, hc⟩, fun h e => ?_⟩ <;> try simp only [q2, q3, g5, q6, ruU, entryE, Nat.reduceLT, Nat.reduceAdd, Nat.reduceMul, Nat.reduceEqDiff]
         · have h := of_decide_eq_true h
           rw [List.take_add_one, List.take_add_one, hr1, hr2, hpre, h]
         · have h := of_decide_eq_false h
           rw [e.1] at hr1
           rw [hr1] at hr2
           exact h (Option.some.inj hr2)
   · rintro E H' ⟨hH, g5⟩
     rw [hH]
     simp (maxDischargeDepth := 6) only [g5, Tryd.results12, ruW, putL, Nat.reduceLeDiff, xF, ruU, entryE, Nat.reduceLT, Nat.reduceAdd, Nat.reduceMul, Nat.reduceEqDiff]
     exact Fin.pure rfl)

end Go.Proofs.YtpohjcacnkhnkaaDoor

/- The law's own feed: bytes fed in pieces. -/
namespace Go.Proofs.YtpohjcacnkhnkaaDoor
open Go.Ax
set_option linter.unusedSimpArgs false
set_option maxRecDepth 10000

def SizesIn (H : AHeap) (v : Value) (l : List Int) : Prop :=
  (∃ a c, v = .slice a l.length c) ∧ ∀ (k : Nat) (c : Int), l[k]? = some c → ∃ n off, aIndexAddr Tryd.prog 22 v (.int .i64 (k : Int)) = some (.pointer (some ⟨n, off, none⟩)) ∧ n ∈ idsV v ∧ ldB Tryd.prog 3 off (bk H n) = some (.int .i64 c)
theorem SizesIn.of {H G : AHeap} {v : Value} {l : List Int} (h : SizesIn H v l) (hg : ∀ n ∈ idsV v, bk G n = bk H n) : SizesIn G v l :=
  ⟨h.1, fun k c hk => by
    obtain ⟨n, off, h1, h2, h3⟩ := h.2 k c hk
    exact ⟨n, off, h1, h2, by rw [hg n h2]; exact h3⟩⟩

abbrev bsOf (s : ByteArray) : List UInt8 := s.data.toList
theorem bs_size (s : ByteArray) : s.size = (bsOf s).length := by rw [Array.length_toList]; rfl
theorem bs_take (s : ByteArray) (n : Nat) (h : n ≤ s.size) : bsOf (s.extract 0 n) = (bsOf s).take n := by
  simp [bsOf, ByteArray.data_extract]
theorem bs_drop (s : ByteArray) (n : Nat) (h : n ≤ s.size) : bsOf (s.extract n s.size) = (bsOf s).drop n := by
  have := bs_size s
  simp only [bsOf, ByteArray.data_extract, Array.toList_extract] at *
  simp only [List.extract_eq_take_drop]
  rw [List.take_of_length_le]
  rw [List.length_drop, ← this]
  exact Nat.le_refl _

theorem ss_pre (X : AHeap) (s : ByteArray) (n : Nat) (h : n ≤ s.size) : aSlice Tryd.prog X 9 (.string s) none (some (.int .i64 (n : Int))) none = some (.string (s.extract 0 n), X) := by
  have h2 : Tryd.prog.underlying 9 = some .string := by kernel_rfl
  have hb : bound s.size (some (.int .i64 (n : Int))) = some n := bound_nat
  simp only [aSlice, h2, bound, Option.bind_eq_bind, Option.bind_some] at *
  rw [hb]
  simp [h]
theorem ss_post (X : AHeap) (s : ByteArray) (n : Nat) (h : n ≤ s.size) : aSlice Tryd.prog X 9 (.string s) (some (.int .i64 (n : Int))) none none = some (.string (s.extract n s.size), X) := by
  have h2 : Tryd.prog.underlying 9 = some .string := by kernel_rfl
  have hb : bound 0 (some (.int .i64 (n : Int))) = some n := bound_nat
  simp only [aSlice, h2, Option.bind_eq_bind, hb, Option.bind_some]
  simp [bound, h]

structure Live (H : AHeap) (p : Rp) (x : Tm) : Prop where
  at_ : TmAt H p x
  sz : x.Sz
  tb : Tabs H
  p0 : 0 ∉ p.blks
  p1 : 1 ∉ p.blks
  pl : x.params.length ≤ 65

theorem feed_keep {x : Tm} (s : x.Sz) (hp : x.params.length ≤ 65) : ∀ (bs : List UInt8), (x.feed uni bs).Sz ∧ (x.feed uni bs).params.length ≤ 65 ∧ (x.feed uni bs).rest.length ≤ x.rest.length + bs.length
  | [] => ⟨s, hp, Nat.le_refl _⟩
  | c :: bs => by
    obtain ⟨a, b, d, e⟩ := byte_sz s hp c
    have hs : x.feed uni (c :: bs) = (x.step uni c).feed uni bs := rfl
    rw [hs, step_eq]
    obtain ⟨f1, f2, f3⟩ := feed_keep (a.withMode b) d bs
    refine ⟨f1, f2, Nat.le_trans f3 ?_⟩
    show (x.byte c).1.rest.length + bs.length ≤ _
    simp only [List.length_cons]
    omega

theorem Live.step {H H1 : AHeap} {p p1 : Rp} {x : Tm} (l : Live H p x) {bs : List UInt8} (s : Step H p H1 p1 (x.feed uni bs)) : Live H1 p1 (x.feed uni bs) := by
  obtain ⟨t, a, b⟩ := l.tb.step s l.p0 l.p1
  obtain ⟨k1, k2, _⟩ := feed_keep l.sz l.pl bs
  exact ⟨s.at_, k1, t, a, b, k2⟩

theorem feedStr_c (H : AHeap) (p : Rp) (x : Tm) (s : ByteArray) (l : Live H p x) (ok : H.base ≤ H.next) (hr : x.rest.length + (bsOf s).length ≤ 900) :
    CallA Tryd.prog 7 [.pointer (some ⟨p.t, 0, none⟩), .slice (some ⟨H.next, 0, none⟩) (bsOf s).length (bsOf s).length] (ext H [⟨5, true, bytesV (bsOf s)⟩]) fun out H1 => out = .ok (.int .i64 0) ∧ ∃ p1, Step H p H1 p1 (x.feed uni (bsOf s)) := by
  have m : Mod [] H (ext H [⟨5, true, bytesV (bsOf s)⟩]) := Mod.ext ok
  have ok1 := m.ok ok
  have g1 : TmAt (ext H [⟨5, true, bytesV (bsOf s)⟩]) p x := l.at_.of m.next fun n hn => m.get n (l.at_.lt n hn) (by simp)
  obtain ⟨t1, _, _⟩ := l.tb.step (Step.quiet l.at_ m) l.p0 l.p1
  refine (feed_c _ p x _ (bsOf s) g1 l.sz ok1 t1 l.p0 l.p1 (bytes_in (n := H.next) (o := true) (sp := none) (by rw [show H.next = H.next + 0 from rfl, bk_at rfl (by simp)]; rfl)) (fun n hn => ?_) (fun n hn h => ?_) hr l.pl).mono ?_
  · simp only [idsV, List.mem_singleton] at hn
    rw [ext_next]; simp; omega
  · simp only [idsV, List.mem_singleton] at hn
    have := l.at_.lt n h
    omega
  · rintro out H1 ⟨rfl, p1, st⟩
    exact ⟨rfl, p1, (Step.quiet l.at_ m).trans ok st⟩

theorem nat_tmod (i L : Nat) : (i : Int).tmod (L : Int) = ((i % L : Nat) : Int) := by
  rw [Int.tmod_eq_emod_of_nonneg (by omega)]
  exact (Int.natCast_emod i L).symm

set_option maxHeartbeats 4000000 in
theorem feed8_c (H : AHeap) (p : Rp) (x : Tm) (s : ByteArray) (v : Value) (sz : List Int) (l : Live H p x) (ok : H.base ≤ H.next) (hr : x.rest.length + (bsOf s).length ≤ 900) (hv : SizesIn H v sz) (hvl : ∀ n ∈ idsV v, n < H.next) (hvp : ∀ n ∈ idsV v, n ∉ p.blks) :
    CallA Tryd.prog 8 [.pointer (some ⟨p.t, 0, none⟩), .string s, v] H fun out H1 => out = .ok (.tuple #[]) ∧ ∃ p1, Step H p H1 p1 (x.feed uni (bsOf s)) := by
  obtain ⟨av, cv, hve⟩ := hv.1
  obtain ⟨L, hL⟩ : ∃ L, sz.length = L := ⟨_, rfl⟩
  rw [hL] at hve
  refine callE_fn mixed Tryd.func8 rfl Tryd.ntmps8 (Nat.le_of_ble_eq_true rfl) ?_
  rw [hve]
  simp (maxDischargeDepth := 6) only [ruW, putL, Nat.reduceLeDiff, xF, ruU, entryE, Nat.reduceLT, Nat.reduceAdd, Nat.reduceMul, Nat.reduceEqDiff]
  refine w_env fun E hE => ?_
  have f0 : E 0 = .pointer (some ⟨p.t, 0, none⟩) := by rw [hE]; simp only [ruU, entryE, Nat.reduceLT, Nat.reduceAdd, Nat.reduceMul, Nat.reduceEqDiff]
  have f1 : E 1 = .string s := by rw [hE]; simp only [ruU, entryE, Nat.reduceLT, Nat.reduceAdd, Nat.reduceMul, Nat.reduceEqDiff]
  have f2 : E 2 = .slice av L cv := by rw [hE]; simp only [ruU, entryE, Nat.reduceLT, Nat.reduceAdd, Nat.reduceMul, Nat.reduceEqDiff]
  have f6 : E 6 = .int .i64 ((0 : Nat) : Int) := by rw [hE]; (simp only [ruU, entryE, Nat.reduceLT, Nat.reduceAdd, Nat.reduceMul, Nat.reduceEqDiff] <;> rfl)
  clear hE
  refine w_loop (fun (q : Nat × ByteArray × Tm × Rp) E' H' => Step H p H' q.2.2.2 q.2.2.1 ∧ Live H' q.2.2.2 q.2.2.1 ∧ q.2.2.1.feed uni (bsOf q.2.1) = x.feed uni (bsOf s) ∧ q.2.2.1.rest.length + (bsOf q.2.1).length ≤ 900 ∧ q.1 ≤ 1000 ∧ q.1 + (bsOf q.2.1).length ≤ 900 ∧ E' 0 = .pointer (some ⟨p.t, 0, none⟩) ∧ E' 1 = .string q.2.1 ∧ E' 2 = .slice av L cv ∧ E' 6 = .int .i64 (q.1 : Int)) (fun q => (bsOf q.2.1).length) (0, s, x, p)
    ⟨Step.refl l.at_, l, rfl, hr, by simp, by simp only; omega, f0, f1, f2, f6⟩ ?_
  clear f0 f1 f2 f6 E
  rintro ⟨i, t, y, p2⟩ E X ⟨st, ly, hfe, hlen, hi, hi2, f0, f1, f2, f6⟩
  simp only at st ly hfe hlen hi hi2 f1 f6
  rw [show X = ext X [] from rfl]
  have okX := st.ok ok
  obtain ⟨T, hT⟩ : ∃ T, t.size = T := ⟨_, rfl⟩
  have hTl : (bsOf t).length = T := by rw [← bs_size, hT]
  have hls : ∀ (Y : AHeap), aBuiltin Tryd.prog Y .len ⟨[9]⟩ [.string t] = some (.int .i64 (T : Int), Y) := fun Y => by
    have h2 : Tryd.prog.underlying 9 = some .string := by kernel_rfl
    rw [← hT]
    simp only [aBuiltin, aLen, h2, Option.map_some, goInt]
  by_cases hT0 : T = 0
  · have hd : decide ((0 : Int) < (T : Int)) = false := decide_eq_false (by omega)
    have hnil : bsOf t = [] := List.eq_nil_of_length_eq_zero (by omega)
    rw [hnil] at hfe
    simp (maxDischargeDepth := 6) only [f0, f1, f2, f6, hls, hd, Tryd.results8, ruW, putL, Nat.reduceLeDiff, xF, ruU, entryE, Nat.reduceLT, Nat.reduceAdd, Nat.reduceMul, Nat.reduceEqDiff]
    rw [← hfe]
    exact ⟨trivial, p2, st⟩
  · have hd : decide ((0 : Int) < (T : Int)) = true := decide_eq_true (by omega)
    have hws := wrap_succ (show i < 1000000 by omega)
    by_cases hL0 : L = 0
    · have hdL : decide ((0 : Int) < (L : Int)) = false := decide_eq_false (by omega)
      have hn1 : 1 ≤ T := by omega
      have hnt : T ≤ t.size := by omega
      have hsp := ss_pre (ext X []) t T hnt
      have hso := fun Y => ss_post Y t T hnt
      have hcvt := str_bytes X (t.extract 0 T)
      have hbl : bsOf (t.extract 0 T) = (bsOf t).take T := bs_take t T hnt
      have hbd : bsOf (t.extract T t.size) = (bsOf t).drop T := bs_drop t T hnt
      have hfc := feedStr_c X p2 y (t.extract 0 T) ly okX (by rw [hbl, List.length_take]; omega)
      rw [st.same] at hfc
      · simp (maxDischargeDepth := 6) only [f0, f1, f2, f6, hls, hd, hdL, hsp, w_convert, hcvt, ruW, putL, Nat.reduceLeDiff, xF, ruU, entryE, Nat.reduceLT, Nat.reduceAdd, Nat.reduceMul, Nat.reduceEqDiff]
        refine hfc.mono ?_
        rintro _ Z ⟨rfl, p3, st2⟩
        rw [show Z = ext Z [] from rfl]
        simp (maxDischargeDepth := 6) only [f0, f1, f2, f6, hso, hws, ruW, putL, Nat.reduceLeDiff, xF, ruU, entryE, Nat.reduceLT, Nat.reduceAdd, Nat.reduceMul, Nat.reduceEqDiff]
        refine loopC_next ⟨(i + 1, t.extract T t.size, y.feed uni (bsOf (t.extract 0 T)), p3), ?_, st.trans ok st2, ly.step st2, ?_, ?_, ?_, ?_, ?_, ?_, ?_, ?_⟩ <;> try simp only [f0, f1, f2, f6, hso, ruU, entryE, Nat.reduceLT, Nat.reduceAdd, Nat.reduceMul, Nat.reduceEqDiff]
        · simp only [hbd, List.length_drop]; omega
        · rw [← hfe, hbl, hbd, ← Tm.feed_append, List.take_append_drop]
        · have hk := (feed_keep ly.sz ly.pl (bsOf (t.extract 0 T))).2.2
          simp only [hbd, hbl, List.length_drop, List.length_take] at hk ⊢
          omega
        · omega
        · simp only [hbd, List.length_drop]; omega
    · have hdL : decide ((0 : Int) < (L : Int)) = true := decide_eq_true (by omega)
      have hLz : (L : Int) ≠ 0 := by omega
      have hmod := nat_tmod i L
      have hml : i % L < sz.length := by rw [hL]; exact Nat.mod_lt _ (by omega)
      obtain ⟨z, hz⟩ : ∃ z, sz[i % L]? = some z := ⟨_, List.getElem?_eq_getElem hml⟩
      obtain ⟨nz, oz, iz, mz, ldz⟩ := hv.2 (i % L) z hz
      rw [hve] at iz
      obtain ⟨xb, hxb⟩ : ∃ xb, X.next = xb := ⟨_, rfl⟩
      have hnz : nz < xb := hxb ▸ st.mod.lt (hvl nz mz)
      have ldz' : ldB Tryd.prog 3 oz (bk X nz) = some (.int .i64 z) := by rw [st.mod.bk (hvl nz mz) (hvp nz mz)]; exact ldz
      obtain ⟨r, hr0, hr1, hpick⟩ := pick_c X z (T : Int) (by omega) (by omega)
      obtain ⟨n, hn⟩ : ∃ n : Nat, 1 + r = n := ⟨(1 + r).toNat, by omega⟩
      have hwn : IntKind.i64.wrap (1 + r) = (n : Int) := by
        have := wrap_sm (n := 1 + r) (by omega) (by omega)
        rw [show IntKind.i64.wrap (1 + r) = _ from this]; exact hn
      have hnt : n ≤ t.size := by omega
      have hsp := ss_pre (ext X []) t n hnt
      have hso := fun Y => ss_post Y t n hnt
      have hcvt := str_bytes X (t.extract 0 n)
      have hbl : bsOf (t.extract 0 n) = (bsOf t).take n := bs_take t n hnt
      have hbd : bsOf (t.extract n t.size) = (bsOf t).drop n := bs_drop t n hnt
      have hfc := feedStr_c X p2 y (t.extract 0 n) ly okX (by rw [hbl, List.length_take]; omega)
      rw [st.same] at hfc
      · simp (maxDischargeDepth := 6) only [f0, f1, f2, f6, hls, hd, hdL, hLz, hmod, hxb, hnz, iz, ldz', ruW, putL, Nat.reduceLeDiff, xF, ruU, entryE, Nat.reduceLT, Nat.reduceAdd, Nat.reduceMul, Nat.reduceEqDiff]
        refine (show CallS Tryd.prog 9 _ (ext X []) _ (ext X []) from hpick).to ?_
        rw [hxb] at hcvt hfc
        simp (maxDischargeDepth := 6) only [f0, f1, f2, f6, hwn, hsp, hxb, w_convert, hcvt, ruW, putL, Nat.reduceLeDiff, xF, ruU, entryE, Nat.reduceLT, Nat.reduceAdd, Nat.reduceMul, Nat.reduceEqDiff]
        refine hfc.mono ?_
        rintro _ Z ⟨rfl, p3, st2⟩
        rw [show Z = ext Z [] from rfl]
        simp (maxDischargeDepth := 6) only [f0, f1, f2, f6, hso, hws, ruW, putL, Nat.reduceLeDiff, xF, ruU, entryE, Nat.reduceLT, Nat.reduceAdd, Nat.reduceMul, Nat.reduceEqDiff]
        refine loopC_next ⟨(i + 1, t.extract n t.size, y.feed uni (bsOf (t.extract 0 n)), p3), ?_, st.trans ok st2, ly.step st2, ?_, ?_, ?_, ?_, ?_, ?_, ?_, ?_⟩ <;> try simp only [f0, f1, f2, f6, hso, ruU, entryE, Nat.reduceLT, Nat.reduceAdd, Nat.reduceMul, Nat.reduceEqDiff]
        · simp only [hbd, List.length_drop]; omega
        · rw [← hfe, hbl, hbd, ← Tm.feed_append, List.take_append_drop]
        · have hk := (feed_keep ly.sz ly.pl (bsOf (t.extract 0 n))).2.2
          simp only [hbd, hbl, List.length_drop, List.length_take] at hk ⊢
          omega
        · omega
        · simp only [hbd, List.length_drop]; omega

end Go.Proofs.YtpohjcacnkhnkaaDoor

/- From what a walk shows to the given statements: arguments beside the two listed tables. -/
namespace Go.Proofs.YtpohjcacnkhnkaaDoor
open Go.ChangeShapes Go.WideShapes Go.ChangeAt Go.RowKit Go.Ax
set_option maxRecDepth 10000

section
variable {P : Program} {w : World} {r : Reach} {base : Nat}
theorem ok_int {t : TypeId} {v : Value} (ht : P.underlying t = some (.int .i64)) (h : Value.okWide P w r base t v) : ∃ n, v = .int .i64 n := by
  unfold Value.okWide at h
  rw [ht] at h
  unfold Cell.okWide Cell.ok at h
  cases v <;> simp [ht] at h
  exact ⟨_, by rw [h.1]⟩
theorem ok_string {t : TypeId} {v : Value} (ht : P.underlying t = some .string) (h : Value.okWide P w r base t v) : ∃ s, v = .string s := by
  unfold Value.okWide at h
  rw [ht] at h
  unfold Cell.okWide Cell.ok at h
  cases v <;> simp [ht] at h
  exact ⟨_, rfl⟩
theorem ok_slice {t e : TypeId} {v : Value} (ht : P.underlying t = some (.slice e)) (h : Value.okWide P w r base t v) : v = .slice none 0 0 ∨ ∃ b off len cap, v = .slice (some ⟨b, off, none⟩) len cap := by
  unfold Value.okWide at h
  rw [ht] at h
  unfold Cell.okWide Cell.ok at h
  cases v with
  | slice a len cap =>
    cases a with
    | none =>
      simp only [ht] at h
      left
      cases len <;> cases cap <;> first | rfl | (simp at h)
    | some a =>
      simp only [ht] at h
      have hs := h.2.2.2.1
      obtain ⟨b, off, s⟩ := a
      simp only at hs
      subst hs
      exact .inr ⟨b, off, len, cap, rfl⟩
  | _ => simp [ht] at h
end

theorem trodAll_carry {K : Type} {enc : TypeId × Value → K} {P : Program} (hl : laidOutB P = true) {W W' : World} (hb : Below W.heap.size W W') : ∀ {ts : List TypeId} {vs : List Value} {ds : List (DataW K)} {ps : List MemPlace},
    (ts.all fun t => P.readableRec t && Nat.blt t P.types.size) = true → DataW.TrodAll enc P W 0 (fun _ => true) true ts vs ds ps → (∀ x ∈ ps, x.block < W.heap.size) → DataW.TrodAll enc P W' 0 (fun b => decide (b < W.heap.size)) true ts vs ds ps
  | [], [], [], ps, _, h, _ => h
  | t :: ts, v :: vs, d :: ds, ps, ht, h, hp => by
    obtain ⟨p, q, h1, h2, rfl⟩ := h
    simp only [List.all_cons, Bool.and_eq_true] at ht
    exact ⟨p, q, Below.trod hl ht.1.1 (blt_lt ht.1.2) h1 hb (fun x hx => hp x (by simp [hx])), trodAll_carry hl hb (by simpa using ht.2) h2 (fun x hx => hp x (by simp [hx])), rfl⟩

theorem Tryd.own : ownKnob Tryd.prog.godebug = none := by kernel_rfl
theorem Tryd.laidOut : laidOutB Tryd.prog = true := by kernel_rfl
theorem u3 : Tryd.prog.underlying 3 = some (.int .i64) := by kernel_rfl
theorem u9 : Tryd.prog.underlying 9 = some .string := by kernel_rfl
theorem u22 : Tryd.prog.underlying 22 = some (.slice 3) := by kernel_rfl
theorem fl3 : flat Tryd.prog 10000 3 = some [3] := by kernel_rfl

def Laid (w : World) (e1 e2 : TypeId) : Prop := (∃ c, w.heap[0]? = some (.cells c e1 (0, 0)) ∧ c.toList = dc fstD) ∧ ∃ c, w.heap[1]? = some (.cells c e2 (0, 0)) ∧ c.toList = dc accD
theorem tabs_laid {w : World} (h : laidMet Tryd.prog Rows.termPiecesRow.laid w) : ∃ e1 e2, Laid w e1 e2 := by
  obtain ⟨c1, t1, a1, b1⟩ := laid_tab h (name := "unicode/utf8.first") (d := fstD) (.tail _ (.head _)) (g := 0) (t := 75) (e := 5) (ts := [5]) (D := 1000) (n := 256) (by kernel_rfl) (by kernel_rfl) (by kernel_rfl) (by kernel_rfl) (by kernel_rfl) (by kernel_rfl) (by kernel_rfl) (blt_lt (by kernel_rfl))
  obtain ⟨c2, t2, a2, b2⟩ := laid_tab h (name := "unicode/utf8.acceptRanges") (d := accD) (.head _) (g := 1) (t := 78) (e := 77) (ts := [5, 5]) (D := 1000) (n := 16) (by kernel_rfl) (by kernel_rfl) (by kernel_rfl) (by kernel_rfl) (by kernel_rfl) (by kernel_rfl) (by kernel_rfl) (blt_lt (by kernel_rfl))
  exact ⟨t1, t2, ⟨c1, a1, b1⟩, c2, a2, b2⟩

theorem bk_put_eq {H : AHeap} {g : Nat} {e : TypeId} {vs : List Value} : bk (H.put g (some (tabO e vs))) g = some ⟨e, false, vs⟩ := by
  refine blk_bk ⟨RV.ofList vs, ?_, RV.n_ofList _, fun i hi => ?_⟩
  · simp only [cellsAt, AHeap.get_put, if_true, tabO]

  · rw [RV.get_ofList]

theorem add_tabs {ρ : Ren} {H : AHeap} {W : World} {e1 e2 : TypeId} (r : Rel Tryd.prog ρ H W) (hl : Laid W e1 e2) (hex : ∀ g, ρ.ex g = 0) (h0 : ρ.blk 0 = 0) (hi : ∀ n g, g < 2 → H.get n ≠ none → ρ.blk n = g → n = g) :
    ∃ H1, Rel Tryd.prog ρ H1 W ∧ H1.next = H.next ∧ H1.base = H.base ∧ H1.dirty = H.dirty ∧ Tab H1 ∧ ∀ n, 2 ≤ n → H1.get n = H.get n := by
  obtain ⟨⟨c1, a1, b1⟩, c2, a2, b2⟩ := hl
  have r1 := rel_tab r (g := 0) (show 0 < Tryd.prog.globals.size by decide +kernel) (hex 0) (fun n h1 h2 => hi n 0 (by decide) h1 h2) a1 b1 (by kernel_rfl)
  have r2 := rel_tab r1 (g := 1) (show 1 < Tryd.prog.globals.size by decide +kernel) (hex 1) (fun n h1 h2 => by
    rw [AHeap.get_put] at h1
    by_cases e : n = 0
    · subst e; rw [h0] at h2; exact absurd h2 (by decide)
    · rw [if_neg e] at h1; exact hi n 1 (by decide) h1 h2) a2 b2 (by kernel_rfl)
  refine ⟨_, r2, rfl, rfl, rfl, ⟨e1, e2, ?_, bk_put_eq⟩, fun n hn => ?_⟩
  · rw [bk_get (G := H.put 0 (some (tabO e1 (dc fstD)))) (by rw [AHeap.get_put, if_neg (by decide)])]
    exact bk_put_eq
  · rw [AHeap.get_put, if_neg (by omega), AHeap.get_put, if_neg (by omega)]

theorem ints_of : ∀ (vs : List Value), (∀ i, i < vs.length → fits Tryd.prog [3] ((vs.drop (i * 1)).take 1) = true) → ∃ l : List Int, vs = l.map (Value.int .i64)
  | [], _ => ⟨[], rfl⟩
  | v :: vs, hf => by
    have h0 := hf 0 (by simp)
    simp only [Nat.zero_mul, List.drop_zero, List.take_succ_cons, List.take_zero, fits, Bool.and_true] at h0
    obtain ⟨l, rfl⟩ := ints_of vs fun i hi => by
      have := hf (i + 1) (by simp only [List.length_cons]; omega)
      rw [Nat.mul_one, List.drop_succ_cons] at this
      rw [Nat.mul_one]
      exact this
    unfold fit1 at h0
    rw [u3] at h0
    cases v <;> simp at h0
    subst h0
    exact ⟨_ :: l, rfl⟩

theorem tab_int {c : Array Value} {i : Nat} {z : Int} {d : List Value} (hd : (d.all fun v => match v with | .int .u8 _ => true | _ => false) = true) (hc : c.toList = d) (h : c[i]? = some (.int .i64 z)) : False := by
  have : Value.int .i64 z ∈ d := by
    rw [← hc, Array.mem_toList_iff]
    exact Array.mem_of_getElem? h
  have := List.all_eq_true.1 hd _ this
  simp at this

theorem nomem (W : World) {e1 e2 : TypeId} (hl : Laid W e1 e2) (N b off cap : Nat) (hN : Tryd.prog.globals.size ≤ N) : ∃ H : AHeap, Rel Tryd.prog (enR N b off) H W ∧ H.base = H.next ∧ H.dirty = [] ∧ H.next = N + 1 ∧ Tab H := by
  have h2 : 2 ≤ N := Nat.le_trans (Nat.le_of_ble_eq_true (by kernel_rfl)) hN
  have r : Rel Tryd.prog (enR N b off) (AHeap.none (N + 1)) W := ⟨Nat.le_refl _, ⟨Nat.le_succ_of_le hN, fun g hg => by
      have : g ≠ N := by omega
      exact ⟨if_neg this, if_neg this⟩⟩, fun m _ hm => absurd (none_get _ m) hm, fun n o ho => (by rw [none_get] at ho; cases ho), fun n o ho => (by rw [none_get] at ho; cases ho)⟩
  obtain ⟨H1, k1, k2, k3, k4, k5, _⟩ := add_tabs r hl (fun _ => rfl) (if_neg (by omega)) (fun n g _ h => absurd (none_get _ n) h)
  exact ⟨H1, k1, by rw [k3, k2]; rfl, by rw [k4]; rfl, by rw [k2]; rfl, k5⟩

theorem sizes_none {H : AHeap} {a : Option Addr} {cap : Nat} : SizesIn H (.slice a 0 cap) [] := ⟨⟨a, cap, rfl⟩, fun k c h => by simp at h⟩

theorem entry {K : Type} {enc : TypeId × Value → K} {W : World} {v : Value} {d : DataW K} {p : List MemPlace} {base : Nat} {e1 e2 : TypeId} (hl : Laid W e1 e2) (hok : Value.okWide Tryd.prog W .any base 22 v) (h : DataW.Trod enc Tryd.prog W 0 (fun _ => true) true 22 v d p) (hnf : W.noneFrozen p) :
    ∃ (ρ : Ren) (H : AHeap) (u : Value) (l : List Int), Rel Tryd.prog ρ H W ∧ H.base = H.next ∧ H.dirty = [] ∧ ρ.val u = v ∧ scb H.next u = true ∧ SizesIn H u l ∧ (∀ n ∈ idsV u, n < H.next) ∧ Tab H ∧ 1 < H.next := by
  obtain ⟨N, hN⟩ : ∃ N, Tryd.prog.globals.size ≤ N := ⟨_, Nat.le_refl _⟩
  have h2 : 2 ≤ N := Nat.le_trans (Nat.le_of_ble_eq_true (by kernel_rfl)) hN
  rcases ok_slice u22 hok with rfl | ⟨b, off, len, cap, rfl⟩
  · obtain ⟨H, k1, k2, k3, k4, k5⟩ := nomem W hl N 0 0 0 hN
    exact ⟨_, H, .slice none 0 0, [], k1, k2, k3, by rw [Ren.val], rfl, sizes_none, fun n hn => by simp [idsV] at hn, k5, by omega⟩
  · obtain ⟨fuel, hf⟩ := h
    obtain ⟨hlc, hh⟩ := trod_slice (ts := [3]) u22 (by kernel_rfl) fl3 hf hnf
    have hval : ∀ N, (enR N b off).val (.slice (some ⟨N, 0, some 0⟩) len cap) = .slice (some ⟨b, off, none⟩) len cap := fun N => by
      simp [Ren.val, enR]
    have hempty : len = 0 → ∃ (ρ : Ren) (H : AHeap) (u : Value) (l : List Int), Rel Tryd.prog ρ H W ∧ H.base = H.next ∧ H.dirty = [] ∧ ρ.val u = .slice (some ⟨b, off, none⟩) len cap ∧ scb H.next u = true ∧ SizesIn H u l ∧ (∀ n ∈ idsV u, n < H.next) ∧ Tab H ∧ 1 < H.next := fun h0 => by
      subst h0
      obtain ⟨H, k1, k2, k3, k4, k5⟩ := nomem W hl N b off cap hN
      exact ⟨_, H, .slice (some ⟨N, 0, some 0⟩) 0 cap, [], k1, k2, k3, hval _, blt_of (by rw [k4]; exact Nat.lt_succ_self _), sizes_none, fun n hn => by simp only [idsV, List.mem_singleton] at hn; omega, k5, by omega⟩
    rcases hh with h0 | ⟨c, e', fz, vs, hb, hvl, hcv, hfit, hfz⟩
    · exact hempty (by simpa using h0)
    · simp only [List.length_cons, List.length_nil, Nat.zero_add, Nat.mul_one] at hvl hfit hfz
      obtain ⟨l, rfl⟩ := ints_of vs (fun i hi => by rw [Nat.mul_one]; exact hfit i (by omega))
      rw [List.length_map] at hvl
      by_cases hpos : 0 < l.length
      · have haf : afL (l.map (Value.int .i64)) = true := by
          clear hvl hfit hfz hcv hpos
          induction l with
          | nil => rfl
          | cons a l ih => simp only [List.map_cons, afL, af, ih, Bool.and_self]
        obtain ⟨z, zs, rfl⟩ : ∃ z zs, l = z :: zs := by cases l with | nil => simp at hpos | cons z zs => exact ⟨z, zs, rfl⟩
        have hr := rel_en (w := W) (e := e') (b := b) (off := off) hN hb hcv (by simp) haf (fun i h1 h2 => hfz i h1 (by rw [List.length_map, hvl] at h2; exact h2))
        have hc0 : c[off]? = some (.int .i64 z) := by
          have := hcv 0 (by simp)
          simpa using this
        obtain ⟨⟨c1, a1, b1⟩, c2, a2, b2⟩ := id hl
        have hb0 : b ≠ 0 := fun e => by
          rw [e, a1] at hb
          simp only [Option.some.injEq, Obj.cells.injEq] at hb
          rw [← hb.1] at hc0
          exact tab_int (by kernel_rfl) b1 hc0
        have hb1 : b ≠ 1 := fun e => by
          rw [e, a2] at hb
          simp only [Option.some.injEq, Obj.cells.injEq] at hb
          rw [← hb.1] at hc0
          exact tab_int (by kernel_rfl) b2 hc0
        obtain ⟨H1, k1, k2, k3, k4, k5, k6⟩ := add_tabs hr hl (fun _ => rfl) (if_neg (by omega)) (fun n g hg hn he => by
          by_cases e : n = N
          · subst e
            rw [show (enR n b off).blk n = b from if_pos rfl] at he
            omega
          · rw [enH_get e] at hn
            exact absurd rfl hn)
        have hbN : bk H1 N = some ⟨e', true, (z :: zs).map (Value.int .i64)⟩ := (bk_get (k6 N h2)).trans enH_bk
        subst hvl
        refine ⟨_, H1, .slice (some ⟨N, 0, some 0⟩) (z :: zs).length cap, z :: zs, k1, by rw [k3, k2]; rfl, by rw [k4]; rfl, hval N, blt_of (by rw [k2, enH_next]; exact Nat.lt_succ_self _), ⟨⟨_, _, rfl⟩, fun k q hk => ⟨N, 0 + k * 1, ?_, by simp [idsV], ?_⟩⟩, fun n hn => ?_, k5, by rw [k2, enH_next]; omega⟩
        · exact ia_slice u22 (by kernel_rfl) (by omega) (by have := (List.getElem?_eq_some_iff.1 hk).1; omega)
        · rw [hbN, ld_one (by kernel_rfl), Nat.zero_add, Nat.mul_one, List.getElem?_map, hk]
          rfl
        · simp only [idsV, List.mem_singleton] at hn
          rw [k2, enH_next]
          omega
      · exact hempty (by omega)

theorem law_calls {K : Type} {enc : TypeId × Value → K} {f : FuncId} {W : World} {v : Value} {d : DataW K} {p : List MemPlace} {e1 e2 : TypeId} (hl : Laid W e1 e2) (pre post : List Value) (h1 : pre.all af = true) (h2 : post.all af = true) {base : Nat} (hok : Value.okWide Tryd.prog W .any base 22 v) (h : DataW.Trod enc Tryd.prog W 0 (fun _ => true) true 22 v d p) (hnf : W.noneFrozen p)
    (walk : ∀ (u : Value) (l : List Int) (H : AHeap), H.base ≤ H.next → Tab H → Tabs H → SizesIn H u l → (∀ n ∈ idsV u, n < H.next) → CallA Tryd.prog f (pre ++ u :: post) H fun out H1 => out = .ok (.bool true) ∧ Mod [] H H1) :
    Calls Tryd.prog f (pre ++ v :: post).toArray W (fun e w' => e = .returned (.bool true) ∧ RowKit.Below W.heap.size W w') := by
  obtain ⟨ρ, H, u, l, hr, hb, hd, rfl, hs, hsz, hlt, ht, hn⟩ := entry hl hok h hnf
  have e1 : ∀ l : List Value, l.all af = true → l.map ρ.val = l := fun l hl => map_af ρ l (fun x hx => List.all_eq_true.1 hl x hx)
  have s1 : ∀ l : List Value, l.all af = true → scbL H.next l = true := fun l hl => scbL_of_af _ (afL_of fun x hx => List.all_eq_true.1 hl x hx)
  have := rel_calls hr (args := pre ++ u :: post) (scbL_append (s1 _ h1) (by simp only [scbL, hs, s1 _ h2, Bool.and_self])) hb hd (walk u l H (Nat.le_of_eq hb) ht (tabs_of ht (by omega) hn) hsz hlt)
  rw [List.map_append, List.map_cons, e1 _ h1, e1 _ h2] at this
  exact this

theorem law_calls0 {f : FuncId} {W : World} {e1 e2 : TypeId} (hl : Laid W e1 e2) (args : List Value) (h1 : args.all af = true)
    (walk : ∀ (H : AHeap), H.base ≤ H.next → Tab H → Tabs H → CallA Tryd.prog f args H fun out H1 => out = .ok (.bool true) ∧ Mod [] H H1) :
    Calls Tryd.prog f args.toArray W (fun e w' => e = .returned (.bool true) ∧ RowKit.Below W.heap.size W w') := by
  obtain ⟨H, hr, hb, hd, hn, ht⟩ := nomem W hl Tryd.prog.globals.size 0 0 0 (Nat.le_refl _)
  have h2 : 2 ≤ Tryd.prog.globals.size := Nat.le_of_ble_eq_true (by kernel_rfl)
  have := rel_calls hr (args := args) (scbL_of_af _ (afL_of fun x hx => List.all_eq_true.1 h1 x hx)) hb hd (walk H (Nat.le_of_eq hb) ht (tabs_of ht (by omega) (by omega)))
  rw [map_af _ args (fun x hx => List.all_eq_true.1 h1 x hx)] at this
  exact this

end Go.Proofs.YtpohjcacnkhnkaaDoor

/- The walk of TermPieces: the terminals. -/
namespace Go.Proofs.YtpohjcacnkhnkaaDoor
open Go.Ax
set_option linter.unusedSimpArgs false
set_option maxRecDepth 10000

theorem Live.quiet {H H1 : AHeap} {p : Rp} {x : Tm} (l : Live H p x) (m : Mod [] H H1) : Live H1 p x := by
  obtain ⟨t, a, b⟩ := l.tb.step (Step.quiet l.at_ m) l.p0 l.p1
  exact ⟨(Step.quiet l.at_ m).at_, l.sz, t, l.p0, l.p1, l.pl⟩
def Disj (p q : Rp) : Prop := ∀ n ∈ p.blks, n ∉ q.blks
theorem Live.other {H H1 : AHeap} {p q q1 : Rp} {x y : Tm} (l : Live H p x) (s : Step H q H1 q1 y) (q0 : 0 ∉ q.blks) (q1' : 1 ∉ q.blks) (d : Disj p q) : Live H1 p x ∧ Disj p q1 := by
  have g1 : TmAt H1 p x := l.at_.of s.mod.next fun n hn => s.mod.get n (l.at_.lt n hn) (d n hn)
  obtain ⟨t, _, _⟩ := l.tb.step s q0 q1'
  refine ⟨⟨g1, l.sz, t, l.p0, l.p1, l.pl⟩, fun n hn hn' => ?_⟩
  rcases s.new n hn' with h | h
  · exact d n hn h
  · have := l.at_.lt n hn; omega
theorem Disj.symm {p q : Rp} (d : Disj p q) : Disj q p := fun n hn h => d n h hn

theorem new_live {H : AHeap} {h w : Nat} (ok : H.base ≤ H.next) (tb : Tabs H) (h1 : 1 ≤ h) (h2 : h ≤ 40) (w1 : 1 ≤ w) (w2 : w ≤ 100) :
    CallA Tryd.prog 6 [.int .i64 (h : Int), .int .i64 (w : Int)] H fun out H1 => ∃ p, out = .ok (.tuple ⟨[.pointer (some ⟨p.t, 0, none⟩), .int .i64 0]⟩) ∧ Live H1 p (Tm.new h w) ∧ Mod [] H H1 ∧ ∀ n ∈ p.blks, H.next ≤ n := by
  refine (new_c H h w ok h1 (by omega) w1 (by omega)).mono ?_
  rintro out H1 ⟨p, rfl, t, m, hn, _, _⟩
  have b0 := m.bk tb.l0 (by simp)
  have b1 := m.bk tb.l1 (by simp)
  refine ⟨p, rfl, ⟨t, new_sz h1 (by omega) w1 (by omega), ⟨fun a ha => by rw [b0]; exact tb.f a ha, fun i hi => by rw [b1]; exact tb.a i hi, m.lt tb.l0, m.lt tb.l1⟩, fun hm => ?_, fun hm => ?_, by simp [Tm.new]⟩, m, hn⟩
  · have := hn 0 hm; have := tb.l0; omega
  · have := hn 1 hm; have := tb.l1; omega

theorem new_err (H : AHeap) (h w : Int) (hb : h < 1 ∨ w < 1) (h2 : h ≤ 40) : Pure 6 [.int .i64 h, .int .i64 w] H (.tuple ⟨[.pointer none, .int .i64 3]⟩) := by
  obtain ⟨d1, e1⟩ : ∃ d, decide (h < 1) = d := ⟨_, rfl⟩
  have e2 : decide ((200 : Int) < h) = false := decide_eq_false (by omega)
  obtain ⟨d3, e3⟩ : ∃ d, decide (w < 1) = d := ⟨_, rfl⟩
  have hor : ¬ (d1 = false ∧ d3 = false) := fun ⟨a, b⟩ => by
    have := of_decide_eq_false (e1.trans a)
    have := of_decide_eq_false (e3.trans b)
    omega
  refine callS_fn mixed Tryd.func6 rfl Tryd.ntmps6 (Nat.le_of_ble_eq_true rfl) fun wf hsc => ?_
  cases d1 <;> cases d3 <;> first
    | exact absurd ⟨rfl, rfl⟩ hor
    | (simp (maxDischargeDepth := 6) only [e1, e2, e3, Tryd.results6, ruW, putL, Nat.reduceLeDiff, xF, ruU, entryE, Nat.reduceLT, Nat.reduceAdd, Nat.reduceMul, Nat.reduceEqDiff]; exact Fin.pureE rfl rfl)

theorem lives_c (H : AHeap) (t : Tab H) : CallS Tryd.prog 5 [] H (.ok (.bool true)) H := by
  obtain ⟨e1, e2, b1, b2⟩ := t
  refine callS_tab mixed (known_nil _) rfl (live_true e1 e2) (fun x hx => ?_)
  simp only [tabT, List.mem_cons, List.not_mem_nil, or_false] at hx
  rcases hx with rfl | rfl
  · exact ⟨show 0 < Tryd.prog.globals.size by decide +kernel, by kernel_rfl, b1⟩
  · exact ⟨show 1 < Tryd.prog.globals.size by decide +kernel, by kernel_rfl, b2⟩

theorem open_conv (X : AHeap) (l : List Value) (n x : Nat) (hb : X.base ≤ X.next) (hx : X.next = x) : aConvert Tryd.prog (ext X [⟨5, false, l⟩]) 29 29 (.slice (some ⟨x + 0, 0, some 0⟩) n n) = some (.slice (some ⟨x + 0, 0, some 0⟩) n n, ext X [⟨5, true, l⟩]) := by
  subst hx
  have h1 : Tryd.prog.underlying 29 = some (.slice 5) := by kernel_rfl
  have h3 : Tryd.prog.underlying 5 = some (.int .u8) := by kernel_rfl
  have hg := ext_get_new (H := X) (L := [⟨5, false, l⟩]) (i := 0) (by simp)
  simp only [List.getElem?_cons_zero, Option.map_some, Bl.obj] at hg
  have hu := ext_upd_new (H := X) (L := [⟨5, false, l⟩]) (i := 0) (b := ⟨5, true, l⟩) hb (by simp)
  simp only [Bl.obj, List.set_cons_zero] at hu
  have e1 : Nat.beq 29 29 = true := rfl
  have e2 : Nat.beq ((some 0 : Option Nat).getD 0) 0 = true := rfl
  simp only [aConvert, h1, h3, Option.bind_eq_bind, Option.bind_some, hg, e1, e2, Bool.and_self, if_true]
  rw [hu]

end Go.Proofs.YtpohjcacnkhnkaaDoor

/- A screen that is nobody else's, as SameScreens reads it. -/
namespace Go.Proofs.YtpohjcacnkhnkaaDoor
open Go.Ax
set_option linter.unusedSimpArgs false
set_option maxRecDepth 10000

theorem own_grid {N : Nat} {H K : AHeap} {n w h : Nat} {rs : List (Nat × Bool)} {g : List (List Ce)} (o : Own N H (.slice (some ⟨n, 0, none⟩) h h) w rs g) (hg : g.length = h) (hl : rs.length = h) (h1 : 1 ≤ h) (w1 : 1 ≤ w) (hw : ∀ l ∈ g, l.length = w) (hn : K.next = H.next) (hK : ∀ m ∈ n :: rs.map (·.1), K.get m = H.get m) : GridAt K (.slice (some ⟨n, 0, none⟩) h h) g := by
  have hb : bk H n = some ⟨42, true, rs.map (rowV w)⟩ := by
    rcases o.at_ with ⟨e, _⟩ | ⟨_, n', e, hb'⟩
    · rw [e] at hl; simp at hl; omega
    · simp only [Value.slice.injEq, Option.some.injEq, Addr.mk.injEq, and_true] at e
      rw [e.1]; exact hb'
  have hlt := o.blk n (by simp [idsV])
  refine .inr ⟨fun e => by rw [e] at hg; simp at hg; omega, n, 0, none, h, 42, true, rs.map (rowV w), by rw [hg], (bk_get (hK n (by simp))).trans hb, by rw [hn]; exact hlt.2.1, by simp; omega, fun k row hk => ?_⟩
  have hkl : k < rs.length := by
    rcases Nat.lt_or_ge k g.length with h' | h'
    · omega
    · rw [List.getElem?_eq_none h'] at hk; cases hk
  have hq := List.getElem?_eq_getElem hkl
  refine ⟨rowV w rs[k], by rw [Nat.zero_add, List.getElem?_map, hq]; rfl, ?_⟩
  have hrow := o.row k _ row hq hk
  have hrl := hw row (List.mem_of_getElem? hk)
  have hrng := o.rng _ (List.getElem_mem hkl)
  refine .inr ⟨fun e => by rw [e] at hrl; simp at hrl; omega, rs[k].1, 0, _, w, 56, rs[k].2, csOf row, by rw [hrl]; rfl, (bk_get (hK _ (List.mem_cons_of_mem _ (List.mem_map.2 ⟨_, List.getElem_mem hkl, rfl⟩)))).trans hrow, by rw [hn]; exact hrng.2, by rw [csOf_length]; omega, ?_⟩
  rw [List.drop_zero, List.take_of_length_le (by rw [csOf_length]; exact Nat.le_refl _)]

theorem own_ne {N : Nat} {H : AHeap} {n w h : Nat} {rs : List (Nat × Bool)} {g : List (List Ce)} (o : Own N H (.slice (some ⟨n, 0, none⟩) h h) w rs g) (hg : g.length = h) (hl : rs.length = h) (h1 : 1 ≤ h) : ∀ m ∈ n :: rs.map (·.1), H.get m ≠ none ∧ N ≤ m ∧ m < H.next := by
  intro m hm
  rcases List.mem_cons.1 hm with rfl | hm
  · have := o.blk m (by simp [idsV])
    exact ⟨o.at_.ne m (by simp [idsV]), this.1, this.2.1⟩
  · obtain ⟨q, hq, rfl⟩ := List.mem_map.1 hm
    obtain ⟨i, hi, rfl⟩ := List.mem_iff_getElem.1 hq
    have h2 := List.getElem?_eq_getElem hi
    have hi2 : i < g.length := by omega
    exact ⟨bk_ne (o.row i _ _ h2 (List.getElem?_eq_getElem hi2)), o.rng _ hq⟩

end Go.Proofs.YtpohjcacnkhnkaaDoor

/- Whole rows: what Check asks of a screen, and that the terminal keeps it. -/
namespace Go.Proofs.YtpohjcacnkhnkaaDoor
open Go.Ax
set_option linter.unusedSimpArgs false

def cellsR (c : Int) : Nat := if c < 32 ∨ c = 127 then 0 else widthR c
theorem cells_m1 : cellsR (-1) = 0 := by simp [cellsR]
theorem cells_sp : cellsR 32 = 1 := by kernel_rfl
structure Lk.Ok (l : Lk) : Prop where
  f0 : 0 ≤ l.fore
  f1 : l.fore ≤ 256
  b0 : 0 ≤ l.back
  b1 : l.back ≤ 256
theorem Lk.ok_no : Lk.no.Ok := ⟨by decide, by decide, by decide, by decide⟩

def Whole (l : List Ce) : Prop := ∀ i c, l[i]? = some c → c.look.Ok ∧ (cellsR c.rune = 1 ∨ (cellsR c.rune = 2 ∧ l[i + 1]? = some ⟨-1, c.look⟩) ∨ (c.rune = -1 ∧ ∃ j q, i = j + 1 ∧ l[j]? = some q ∧ cellsR q.rune = 2 ∧ q.look = c.look))

theorem whole_new (w : Nat) : Whole (List.replicate w sp) := fun i c h => by
  have := List.mem_of_getElem? h
  rw [List.eq_of_mem_replicate this]
  exact ⟨Lk.ok_no, .inl cells_sp⟩

theorem fillL_get (l : List Ce) (a b k : Nat) (hab : a ≤ b) (hb : b ≤ l.length) : (fillL l a b)[k]? = if a ≤ k ∧ k < b then some sp else l[k]? := by
  unfold fillL
  have e1 : (l.take a).length = a := by simp; omega
  by_cases h1 : k < a
  · rw [if_neg (by omega), List.append_assoc, List.getElem?_append_left (by omega), List.getElem?_take, if_pos h1]
  · by_cases h2 : k < b
    · rw [if_pos ⟨by omega, h2⟩, List.append_assoc, List.getElem?_append_right (by omega), List.getElem?_append_left (by simp; omega), List.getElem?_replicate, if_pos (by omega)]
    · rw [if_neg (by omega), List.getElem?_append_right (by simp; omega), List.getElem?_drop]
      congr 1
      simp
      omega

theorem blankL_get (l : List Ce) (a b k : Nat) (hab : a < b) (hb : b ≤ l.length) : (blankL l a b)[k]? = if a ≤ k ∧ k < b then some sp else if (k + 1 = a ∧ (l.getD a sp).rune = -1) ∨ (k = b ∧ (l.getD b sp).rune = -1) then some sp else l[k]? := by
  rw [blankL_eq l a b (by omega), fillL_get _ a b k (by omega) (by rw [halfB_len, halfA_len]; exact hb)]
  by_cases h : a ≤ k ∧ k < b
  · rw [if_pos h, if_pos h]
  rw [if_neg h, if_neg h]
  have e : (halfA l a b).getD b sp = l.getD b sp := by
    unfold halfA
    split
    · simp only [List.getD_eq_getElem?_getD, List.getElem?_set]
      rw [if_neg (by omega)]
    · rfl
  have hA : (halfA l a b)[k]? = if k + 1 = a ∧ (l.getD a sp).rune = -1 then some sp else l[k]? := by
    unfold halfA
    by_cases q : (l.getD a sp).rune = -1
    · rw [if_pos ⟨hab, q⟩, List.getElem?_set]
      by_cases e : k + 1 = a
      · rw [if_pos (by omega), if_pos (by omega), if_pos ⟨e, q⟩]
      · rw [if_neg (show ¬ (k + 1 = a ∧ (l.getD a sp).rune = -1) from fun h => e h.1)]
        by_cases e2 : a - 1 = k
        · exact absurd (show a = 0 ∧ k = 0 by omega) (fun h' => h ⟨by omega, by omega⟩)
        · rw [if_neg e2]
    · rw [if_neg (fun h => q h.2), if_neg (fun h => q h.2)]
  unfold halfB
  rw [e, halfA_len]
  by_cases q : b < l.length ∧ (l.getD b sp).rune = -1
  · rw [if_pos ⟨hab, q⟩, List.getElem?_set]
    by_cases e2 : b = k
    · rw [if_pos e2, if_pos (by rw [halfA_len]; omega), if_pos (.inr ⟨e2.symm, q.2⟩)]
    · rw [if_neg e2, hA]
      by_cases q2 : k + 1 = a ∧ (l.getD a sp).rune = -1
      · rw [if_pos q2, if_pos (.inl q2)]
      · rw [if_neg q2, if_neg (fun h => h.elim q2 fun h => e2 h.1.symm)]
  · rw [if_neg (fun h => q h.2), hA]
    by_cases q2 : k + 1 = a ∧ (l.getD a sp).rune = -1
    · rw [if_pos q2, if_pos (.inl q2)]
    · rw [if_neg q2]
      by_cases q3 : k = b ∧ (l.getD b sp).rune = -1
      · exfalso
        refine q ⟨?_, q3.2⟩
        have h3 := q3.2
        rw [List.getD_eq_getElem?_getD] at h3
        by_cases hl : b < l.length
        · exact hl
        · rw [List.getElem?_eq_none (by omega)] at h3
          simp [sp] at h3
      · rw [if_neg (fun h => h.elim q2 q3)]

theorem getD_some {l : List Ce} {i : Nat} {c : Ce} (h : l[i]? = some c) : l.getD i sp = c := by simp [List.getD_eq_getElem?_getD, h]
theorem getD_half {l : List Ce} {i : Nat} (h : (l.getD i sp).rune = -1) : ∃ c, l[i]? = some c ∧ c.rune = -1 := by
  rw [List.getD_eq_getElem?_getD] at h
  cases e : l[i]? with
  | none => rw [e] at h; simp [sp] at h
  | some c => rw [e] at h; exact ⟨c, rfl, h⟩
theorem Whole.half {l : List Ce} (w : Whole l) {i : Nat} {c : Ce} (h : l[i]? = some c) (hr : c.rune = -1) : ∃ j q, i = j + 1 ∧ l[j]? = some q ∧ cellsR q.rune = 2 ∧ q.look = c.look := by
  rcases (w i c h).2 with h1 | ⟨h1, _⟩ | ⟨_, h1⟩
  · rw [hr, cells_m1] at h1; cases h1
  · rw [hr, cells_m1] at h1; cases h1
  · exact h1

theorem Whole.blank {l : List Ce} (w : Whole l) {a b : Nat} (hab : a < b) (hb : b ≤ l.length) : Whole (blankL l a b) := by
  intro i c hc
  rw [blankL_get l a b i hab hb] at hc
  by_cases h1 : a ≤ i ∧ i < b
  · rw [if_pos h1] at hc
    cases hc
    exact ⟨Lk.ok_no, .inl cells_sp⟩
  rw [if_neg h1] at hc
  by_cases h2 : (i + 1 = a ∧ (l.getD a sp).rune = -1) ∨ (i = b ∧ (l.getD b sp).rune = -1)
  · rw [if_pos h2] at hc
    cases hc
    exact ⟨Lk.ok_no, .inl cells_sp⟩
  rw [if_neg h2] at hc
  obtain ⟨ok, h⟩ := w i c hc
  refine ⟨ok, ?_⟩
  rcases h with h | ⟨h, hn⟩ | ⟨h, j, q, rfl, hq, hq2, hq3⟩
  · exact .inl h
  · refine .inr (.inl ⟨h, ?_⟩)
    rw [blankL_get l a b _ hab hb, if_neg, if_neg]
    · exact hn
    · rintro (⟨e, hr⟩ | ⟨e, hr⟩)
      · obtain ⟨d, hd, hdr⟩ := getD_half hr
        obtain ⟨j, q, e2, hq, hq2, _⟩ := w.half hd hdr
        obtain rfl : j = i + 1 := by omega
        rw [hn] at hq
        cases hq
        rw [cells_m1] at hq2
        cases hq2
      · omega
    · intro h3
      have e : i + 1 = a := by omega
      exact h2 (.inl ⟨e, by rw [← e, getD_some hn]⟩)
  · refine .inr (.inr ⟨h, j, q, rfl, ?_, hq2, hq3⟩)
    rw [blankL_get l a b _ hab hb, if_neg, if_neg]
    · exact hq
    · rintro (⟨e, hr⟩ | ⟨e, hr⟩)
      · omega
      · rw [← e, getD_some hq] at hr
        rw [hr, cells_m1] at hq2
        cases hq2
    · intro h3
      have e : j + 1 = b := by omega
      exact h2 (.inr ⟨e, by rw [← e, getD_some hc]; exact h⟩)

theorem Whole.put1 {l : List Ce} (w : Whole l) {k : Nat} {c : Ce} (hk : l[k]? = some sp) (hc : cellsR c.rune = 1) (ok : c.look.Ok) : Whole (l.set k c) := by
  have hkl := (List.getElem?_eq_some_iff.1 hk).1
  intro i d hd
  rw [List.getElem?_set] at hd
  by_cases e : k = i
  · rw [if_pos e, if_pos hkl] at hd
    cases hd
    exact ⟨ok, .inl hc⟩
  rw [if_neg e] at hd
  obtain ⟨ok, h⟩ := w i d hd
  refine ⟨ok, ?_⟩
  rcases h with h | ⟨h, hn⟩ | ⟨h, j, q, rfl, hq, hq2, hq3⟩
  · exact .inl h
  · refine .inr (.inl ⟨h, ?_⟩)
    rw [List.getElem?_set, if_neg]
    · exact hn
    · rintro rfl
      rw [hk] at hn
      simp [sp] at hn
  · refine .inr (.inr ⟨h, j, q, rfl, ?_, hq2, hq3⟩)
    rw [List.getElem?_set, if_neg]
    · exact hq
    · rintro rfl
      rw [hk] at hq
      cases hq
      rw [show sp.rune = 32 from rfl, cells_sp] at hq2
      cases hq2

theorem Whole.put2 {l : List Ce} (w : Whole l) {k : Nat} {c : Int} {lk : Lk} (hk : l[k]? = some sp) (hk1 : l[k + 1]? = some sp) (hc : cellsR c = 2) (ok : lk.Ok) : Whole ((l.set k ⟨c, lk⟩).set (k + 1) ⟨-1, lk⟩) := by
  have hkl := (List.getElem?_eq_some_iff.1 hk).1
  have hkl1 := (List.getElem?_eq_some_iff.1 hk1).1
  have hg : ∀ i, ((l.set k ⟨c, lk⟩).set (k + 1) ⟨-1, lk⟩)[i]? = if k + 1 = i then some ⟨-1, lk⟩ else if k = i then some ⟨c, lk⟩ else l[i]? := fun i => by
    rw [List.getElem?_set]
    by_cases e : k + 1 = i
    · rw [if_pos e, if_pos e, if_pos (by simpa using hkl1)]
    · rw [if_neg e, if_neg e, List.getElem?_set]
      by_cases e2 : k = i
      · rw [if_pos e2, if_pos e2, if_pos hkl]
      · rw [if_neg e2, if_neg e2]
  intro i d hd
  rw [hg] at hd
  by_cases e1 : k + 1 = i
  · rw [if_pos e1] at hd
    cases hd
    refine ⟨ok, .inr (.inr ⟨rfl, k, ⟨c, lk⟩, e1.symm, ?_, hc, rfl⟩)⟩
    rw [hg, if_neg (by omega), if_pos rfl]
  rw [if_neg e1] at hd
  by_cases e2 : k = i
  · rw [if_pos e2] at hd
    cases hd
    refine ⟨ok, .inr (.inl ⟨hc, ?_⟩)⟩
    rw [hg, if_pos (by omega)]
  rw [if_neg e2] at hd
  obtain ⟨ok, h⟩ := w i d hd
  refine ⟨ok, ?_⟩
  have hne : ∀ {j : Nat} {q : Ce}, l[j]? = some q → (q.rune = -1 ∨ cellsR q.rune = 2) → k ≠ j ∧ k + 1 ≠ j := fun {j q} hq hr => by
    have : ∀ {m : Nat}, l[m]? = some sp → m ≠ j := fun {m} hm e => by
      rw [e, hq] at hm
      cases hm
      rcases hr with hr | hr
      · exact absurd hr (by decide)
      · rw [show sp.rune = 32 from rfl, cells_sp] at hr
        cases hr
    exact ⟨this hk, this hk1⟩
  rcases h with h | ⟨h, hn⟩ | ⟨h, j, q, rfl, hq, hq2, hq3⟩
  · exact .inl h
  · obtain ⟨a, b⟩ := hne hn (.inl rfl)
    exact .inr (.inl ⟨h, by rw [hg, if_neg b, if_neg a]; exact hn⟩)
  · obtain ⟨a, b⟩ := hne hq (.inr hq2)
    exact .inr (.inr ⟨h, j, q, rfl, by rw [hg, if_neg b, if_neg a]; exact hq, hq2, hq3⟩)

structure Tm.Val (x : Tm) : Prop where
  rows : ∀ l ∈ x.grid, Whole l
  pen : x.pen.Ok
  spen : x.spen.Ok

theorem new_val (h w : Nat) : (Tm.new h w).Val := ⟨fun l hl => by
  simp only [Tm.new] at hl
  rw [List.eq_of_mem_replicate hl]
  exact whole_new w, Lk.ok_no, Lk.ok_no⟩
theorem Tm.Val.setRow {x : Tm} (v : x.Val) {k : Nat} {l : List Ce} (h : Whole l) : (x.setRow k l).Val :=
  ⟨fun r hr => (List.mem_or_eq_of_mem_set hr).elim (v.rows r) (fun e => e ▸ h), v.pen, v.spen⟩
theorem Tm.Val.rowAt {x : Tm} (v : x.Val) {k : Nat} {l : List Ce} (h : x.grid[k]? = some l) : Whole l := v.rows l (List.mem_of_getElem? h)
theorem Tm.Val.blank {x : Tm} (v : x.Val) (s : x.Sz) {k a b : Nat} (hk : k < x.h) (h1 : a < b) (h2 : b ≤ x.w) : (x.blank k a b).Val := by
  obtain ⟨l, hg, e, hl, _⟩ := s.rowAt hk
  rw [tm_blank, e]
  exact v.setRow ((v.rowAt hg).blank h1 (by omega))
theorem Tm.Val.move {x : Tm} (v : x.Val) (r c : Int) : Tm.Val { x with row := r, col := c } := ⟨v.rows, v.pen, v.spen⟩
theorem Tm.Val.moveTo {x : Tm} (v : x.Val) (r c : Int) : (x.moveTo r c).Val := v.move _ _

theorem Tm.Val.written {x : Tm} (v : x.Val) (s : x.Sz) {r c n : Nat} {ch : Int} (hr : r < x.h) (hcn : c + n ≤ x.w) (hn : cellsR ch = n) (h0 : n = 1 ∨ n = 2) : (x.written r c n ch).Val := by
  obtain ⟨l, hg, e, hl, _⟩ := s.rowAt hr
  have hrl : r < x.grid.length := hr
  have wB := (v.rowAt hg).blank (a := c) (b := c + n) (by omega) (by omega)
  have hB : (x.blank r c (c + n : Nat)) = x.setRow r (blankL l c (c + n)) := by rw [tm_blank, e]; rfl
  have hget : ∀ L : List Ce, (x.grid.set r L).getD r [] = L := fun L => by simp [List.getD_eq_getElem?_getD, List.getElem?_set, hrl]
  rcases h0 with rfl | rfl
  · have hb := blankL_get l c (c + 1) c (by omega) (by omega)
    rw [if_pos ⟨Nat.le_refl _, by omega⟩] at hb
    have wR := wB.put1 (c := ⟨ch, x.pen⟩) hb hn v.pen
    unfold Tm.written
    rw [hB]
    simp only [Tm.put, Tm.setRow, hget, List.set_set]
    exact ⟨fun r hr => (List.mem_or_eq_of_mem_set hr).elim (v.rows r) (fun e => e ▸ wR), v.pen, v.spen⟩
  · have hb := blankL_get l c (c + 2) c (by omega) (by omega)
    rw [if_pos ⟨Nat.le_refl _, by omega⟩] at hb
    have hb1 := blankL_get l c (c + 2) (c + 1) (by omega) (by omega)
    rw [if_pos ⟨by omega, by omega⟩] at hb1
    have wR := wB.put2 (lk := x.pen) hb hb1 hn v.pen
    unfold Tm.written
    rw [hB]
    simp only [Tm.put, Tm.setRow, hget, List.set_set, if_true]
    exact ⟨fun r hr => (List.mem_or_eq_of_mem_set hr).elim (v.rows r) (fun e => e ▸ wR), v.pen, v.spen⟩

end Go.Proofs.YtpohjcacnkhnkaaDoor

/- Whole rows, kept by every byte. -/
namespace Go.Proofs.YtpohjcacnkhnkaaDoor
open Go.Ax
set_option linter.unusedSimpArgs false

theorem rollG_mem {w : Nat} {g : List (List Ce)} {top bot n : Nat} {up : Bool} {l : List Ce} (h : l ∈ rollG w g top bot n up) : l ∈ g ∨ l = List.replicate w sp := by
  simp only [rollG, List.mem_append] at h
  rcases h with (h | h) | h
  · exact .inl (List.mem_of_mem_take h)
  · cases up
    · simp only [Bool.false_eq_true, if_false, List.mem_append] at h
      rcases h with h | h
      · exact .inr (List.eq_of_mem_replicate h)
      · exact .inl (List.mem_of_mem_drop (List.mem_of_mem_take (List.mem_of_mem_take h)))
    · simp only [if_true, List.mem_append] at h
      rcases h with h | h
      · exact .inl (List.mem_of_mem_drop (List.mem_of_mem_take (List.mem_of_mem_drop h)))
      · exact .inr (List.eq_of_mem_replicate h)
  · exact .inl (List.mem_of_mem_drop h)
theorem Tm.Val.roll {x : Tm} (v : x.Val) (top bot n : Int) (up : Bool) : (x.roll top bot n up).Val :=
  ⟨fun l hl => (rollG_mem hl).elim (v.rows l) (fun e => e ▸ whole_new _), v.pen, v.spen⟩

theorem Tm.Val.control {x : Tm} (v : x.Val) (c : Int) : (x.control c).Val := by
  unfold Tm.control
  split
  · exact v.move x.row _
  · split
    · exact v.move x.row _
    · split
      · split
        · exact v.roll _ _ _ _
        · exact v.move _ x.col
      · split
        · exact v.move x.row _
        · exact v

theorem width_le (c : Int) : widthR c ≤ 2 := by
  unfold widthR
  split
  · omega
  · split <;> omega
theorem Tm.Val.write {x : Tm} (v : x.Val) (s : x.Sz) {ch : Int} (h1 : ¬ (ch < 32 ∨ ch = 127)) : (x.write uni ch).Val := by
  obtain ⟨r, hr⟩ : ∃ r : Nat, x.row = r := ⟨x.row.toNat, by have := s.r1; omega⟩
  obtain ⟨c, hc⟩ : ∃ c : Nat, x.col = c := ⟨x.col.toNat, by have := s.c1; omega⟩
  rw [tm_write uni x ch r c hr hc]
  split
  · exact v
  · rename_i h
    have := width_le ch
    have hw : uni.wd ch = widthR ch := rfl
    exact v.written s (by have := s.r2; omega) (by omega) (by unfold cellsR; rw [if_neg h1]; exact hw.symm) (by omega)
theorem Tm.Val.character {x : Tm} (v : x.Val) (s : x.Sz) (ch : Int) : (x.character uni ch).Val := by
  unfold Tm.character
  split
  · exact v.control ch
  · rename_i h
    exact v.write s h

theorem Tm.Val.eraseRow {x : Tm} (v : x.Val) (s : x.Sz) (l : List Int) : (x.eraseRow l).Val := by
  obtain ⟨r, hr⟩ : ∃ r : Nat, x.row = r := ⟨x.row.toNat, by have := s.r1; omega⟩
  have hi := inside_rg s
  have w1 := s.w1
  obtain ⟨i, hie⟩ : ∃ i : Nat, x.inside = i := ⟨x.inside.toNat, by omega⟩
  have hrh : r < x.h := by have := s.r2; omega
  unfold Tm.eraseRow
  rw [tm_width]
  split
  · rw [hr, hie]
    exact v.blank s hrh (by omega) (by omega)
  · split
    · rw [hr, hie, show ((i : Nat) : Int) + 1 = ((i + 1 : Nat) : Int) from by omega, show (0 : Int) = ((0 : Nat) : Int) from rfl]
      exact v.blank s hrh (by omega) (by omega)
    · split
      · rw [hr, show (0 : Int) = ((0 : Nat) : Int) from rfl]
        exact v.blank s hrh (by omega) (by omega)
      · exact v
theorem Tm.Val.eraseOne {x : Tm} (v : x.Val) (s : x.Sz) (l : List Int) {i : Nat} (hi : i < x.h) : (x.eraseOne l i).Val := by
  unfold Tm.eraseOne
  split
  · exact v.blank s hi s.w1 (Nat.le_refl _)
  · exact v
theorem Tm.Val.eraseRows (l : List Int) : ∀ (k i : Nat) {x : Tm}, x.Val → x.Sz → i + k ≤ x.h → (Tm.eraseRows l i k x).Val
  | 0, _, _, v, _, _ => v
  | k + 1, i, x, v, s, h => by
    rw [eraseRows_step]
    obtain ⟨a, b, _, _⟩ := s.eraseOne l (i := i) (by omega)
    exact Tm.Val.eraseRows l k (i + 1) (v.eraseOne s l (by omega)) a (by omega)
theorem Tm.Val.eraseAll {x : Tm} (v : x.Val) (s : x.Sz) (l : List Int) : (x.eraseAll l).Val := by
  obtain ⟨a, b, _, _⟩ := s.eraseRow l
  exact Tm.Val.eraseRows l _ _ (v.eraseRow s l) a (by rw [b]; simp [Tm.h])
theorem Tm.Val.lines {x : Tm} (v : x.Val) (n : Int) (up : Bool) : (x.lines n up).Val := by
  unfold Tm.lines
  split
  · exact v.roll _ _ _ _
  · exact v
theorem Tm.Val.region {x : Tm} (v : x.Val) (l : List Int) : (x.region l).Val := by
  rw [tm_region]
  split
  · exact Tm.Val.moveTo (x := { x with top := count l - 1, bottom := regB x l }) ⟨v.rows, v.pen, v.spen⟩ 0 0
  · exact v

theorem Lk.Ok.attribute {l : Lk} (o : l.Ok) (n : Int) : (l.attribute n).Ok := by
  unfold Lk.attribute
  split
  · exact Lk.ok_no
  split
  · exact ⟨o.f0, o.f1, o.b0, o.b1⟩
  split
  · exact ⟨o.f0, o.f1, o.b0, o.b1⟩
  split
  · exact ⟨o.f0, o.f1, o.b0, o.b1⟩
  split
  · exact ⟨by simp, by simp, o.b0, o.b1⟩
  split
  · exact ⟨o.f0, o.f1, by simp, by simp⟩
  · exact o
theorem attributes_ok : ∀ (k : Nat) (p : List Int) (l : Lk), p.length ≤ k → (∀ n ∈ p, 0 ≤ n) → l.Ok → (Lk.attributes p l).Ok
  | _, [], l, _, _, o => by rw [Lk.attributes]; exact o
  | 0, _ :: _, _, h, _, _ => by simp at h
  | k + 1, n :: p, l, h, hn, o => by
    simp only [List.length_cons] at h
    have hp : ∀ m ∈ p, 0 ≤ m := fun m hm => hn m (by simp [hm])
    rw [Lk.attributes.eq_def]
    dsimp only
    split
    · match p, h, hp with
      | [], _, _ => exact o
      | [_], _, _ => exact o
      | a :: b :: r, h, hp =>
        try simp only
        split
        · exact o
        · rename_i hb
          have hb0 := hp b (by simp)
          have hr := attributes_ok k r
          split
          · exact hr _ (by simp only [List.length_cons] at h; omega) (fun m hm => hp m (by simp [hm])) ⟨by simp only; omega, by simp only; omega, o.b0, o.b1⟩
          · exact hr _ (by simp only [List.length_cons] at h; omega) (fun m hm => hp m (by simp [hm])) ⟨o.f0, o.f1, by simp only; omega, by simp only; omega⟩
    · split
      · exact attributes_ok k p _ (by omega) hp ⟨by simp only; omega, by simp only; omega, o.b0, o.b1⟩
      · split
        · exact attributes_ok k p _ (by omega) hp ⟨o.f0, o.f1, by simp only; omega, by simp only; omega⟩
        · exact attributes_ok k p _ (by omega) hp (o.attribute n)

theorem numbers_nn : ∀ (l : List UInt8) (d : List Int) (n : Int) (p : List Int), (∀ m ∈ d, 0 ≤ m) → 0 ≤ n → numbers l d n = some p → ∀ m ∈ p, 0 ≤ m
  | [], d, n, p, hd, hn, h => by
    simp only [numbers, Option.some.injEq] at h
    subst h
    intro m hm
    rcases List.mem_append.1 hm with hm | hm
    · exact hd m hm
    · rw [List.mem_singleton.1 hm]; exact hn
  | c :: r, d, n, p, hd, hn, h => by
    rw [numbers] at h
    split at h
    · refine numbers_nn r _ 0 p (fun m hm => ?_) (Int.le_refl _) h
      rcases List.mem_append.1 hm with hm | hm
      · exact hd m hm
      · rw [List.mem_singleton.1 hm]; exact hn
    · split at h
      · rename_i hc
        have : (48 : Int) ≤ (c.toNat : Int) := by
          have := UInt8.le_iff_toNat_le.1 hc.1
          have e : (48 : UInt8).toNat = 48 := rfl
          omega
        exact numbers_nn r d _ p hd (by omega) h
      · cases h

theorem Tm.Val.doFinal {x : Tm} (v : x.Val) (s : x.Sz) (f : UInt8) (l : List Int) (hl : ∀ m ∈ l, 0 ≤ m) : (x.doFinal f l).Val := by
  unfold Tm.doFinal
  by_cases h0 : f = 65
  · rw [if_pos h0]; exact v.moveTo _ _
  rw [if_neg h0]
  by_cases h1 : f = 66
  · rw [if_pos h1]; exact v.moveTo _ _
  rw [if_neg h1]
  by_cases h2 : f = 67
  · rw [if_pos h2]; exact v.moveTo _ _
  rw [if_neg h2]
  by_cases h3 : f = 68
  · rw [if_pos h3]; exact v.moveTo _ _
  rw [if_neg h3]
  by_cases h4 : f = 71
  · rw [if_pos h4]; exact v.moveTo _ _
  rw [if_neg h4]
  by_cases h5 : f = 100
  · rw [if_pos h5]; exact v.moveTo _ _
  rw [if_neg h5]
  by_cases h6 : f = 72 ∨ f = 102
  · rw [if_pos h6]; exact v.moveTo _ _
  rw [if_neg h6]
  by_cases h7 : f = 74
  · rw [if_pos h7]; exact v.eraseAll s l
  rw [if_neg h7]
  by_cases h8 : f = 75
  · rw [if_pos h8]; exact v.eraseRow s l
  rw [if_neg h8]
  by_cases h9 : f = 76
  · rw [if_pos h9]; exact v.lines _ _
  rw [if_neg h9]
  by_cases h10 : f = 77
  · rw [if_pos h10]; exact v.lines _ _
  rw [if_neg h10]
  by_cases h11 : f = 109
  · rw [if_pos h11]; exact ⟨v.rows, attributes_ok _ l _ (Nat.le_refl _) hl v.pen, v.spen⟩
  rw [if_neg h11]
  by_cases h12 : f = 114
  · rw [if_pos h12]; exact v.region l
  rw [if_neg h12]
  exact v
theorem Tm.Val.execute {x : Tm} (v : x.Val) (s : x.Sz) (f : UInt8) : (x.execute f).Val := by
  unfold Tm.execute
  split
  · exact ⟨v.rows, v.pen, v.spen⟩
  · split
    · rename_i p hp
      exact v.doFinal s f _ (numbers_nn _ _ _ _ (by simp) (Int.le_refl _) hp)
    · exact v
theorem Tm.Val.parameter {x : Tm} (v : x.Val) (s : x.Sz) (c : UInt8) : (x.parameter c).1.Val := by
  unfold Tm.parameter
  by_cases h1 : c = 27
  · rw [if_pos h1]; exact v
  rw [if_neg h1]
  by_cases h2 : 64 ≤ c ∧ c ≤ 126
  · rw [if_pos h2]
    simp only
    split
    · exact v.execute s c
    · exact v
  rw [if_neg h2]
  by_cases h3 : c < 32 ∨ c > 126 ∨ (c ≥ 48 ∧ x.middle = true)
  · rw [if_pos h3]; exact v
  rw [if_neg h3]
  simp only
  split
  · exact ⟨v.rows, v.pen, v.spen⟩
  · exact ⟨v.rows, v.pen, v.spen⟩
theorem Tm.Val.second {x : Tm} (v : x.Val) (c : UInt8) : (x.second c).1.Val := by
  unfold Tm.second
  by_cases h1 : c = 91
  · rw [if_pos h1]; exact ⟨v.rows, v.pen, v.spen⟩
  rw [if_neg h1]
  by_cases h2 : c = 93
  · rw [if_pos h2]; exact ⟨v.rows, v.pen, v.spen⟩
  rw [if_neg h2]
  by_cases h3 : c = 27
  · rw [if_pos h3]; exact v
  rw [if_neg h3]
  by_cases h4 : 32 ≤ c ∧ c < 48
  · rw [if_pos h4]; exact v
  rw [if_neg h4]
  by_cases h5 : c = 55
  · rw [if_pos h5]; exact ⟨v.rows, v.pen, v.pen⟩
  rw [if_neg h5]
  by_cases h6 : c = 56
  · rw [if_pos h6]; exact ⟨v.rows, v.spen, v.spen⟩
  rw [if_neg h6]
  by_cases h7 : c = 99
  · rw [if_pos h7]; exact new_val _ _
  rw [if_neg h7]
  by_cases h8 : c = 77 ∧ x.row = x.top
  · rw [if_pos h8]; exact v.roll _ _ _ _
  rw [if_neg h8]
  by_cases h9 : c = 77
  · rw [if_pos h9]; exact ⟨v.rows, v.pen, v.spen⟩
  rw [if_neg h9]; exact v

theorem drain_val : ∀ (k : Nat) (x : Tm), x.Val → x.Sz → (Tm.drain uni k x).1.Val
  | 0, x, v, _ => v
  | k + 1, x, v, s => by
    rw [Tm.drain]
    by_cases h : x.rest ≠ [] ∧ uni.full x.rest = true
    · rw [if_pos h]
      by_cases h2 : x.rest.headD 0 = 27
      · rw [if_pos h2]
        exact ⟨v.rows, v.pen, v.spen⟩
      · rw [if_neg h2]
        obtain ⟨r, n, e⟩ : ∃ r n, uni.dec x.rest = (r, n) := ⟨_, _, rfl⟩
        simp only [e]
        obtain ⟨y, hy⟩ : ∃ y, (if r ≠ 65533 ∨ n > 1 then x.character uni r else x) = y := ⟨_, rfl⟩
        rw [hy]
        have sy : y.Sz ∧ y.Val := by
          rw [← hy]
          split
          · exact ⟨s.character r, v.character s r⟩
          · exact ⟨s, v⟩
        have vr : (y.withRest (y.rest.drop n)).Val := ⟨sy.2.rows, sy.2.pen, sy.2.spen⟩
        exact drain_val k (y.withRest (y.rest.drop n)) vr (sy.1.withRest _)
    · rw [if_neg h]
      exact v
theorem byte_val {x : Tm} (v : x.Val) (s : x.Sz) (c : UInt8) : (x.byte c).1.Val := by
  unfold Tm.byte
  split
  · have vr : (x.withRest (x.rest ++ [c])).Val := ⟨v.rows, v.pen, v.spen⟩
    exact drain_val (x.rest.length + 2) (x.withRest (x.rest ++ [c])) vr (s.withRest _)
  · exact v.second c
  · exact v
  · exact v.parameter s c
  · unfold Tm.ignore
    split
    · exact v
    · exact ⟨v.rows, v.pen, v.spen⟩

theorem feed_val {x : Tm} (v : x.Val) (s : x.Sz) (hp : x.params.length ≤ 65) : ∀ (bs : List UInt8), (x.feed uni bs).Val
  | [] => v
  | c :: bs => by
    have hv := byte_val v s c
    obtain ⟨a, b, d, e⟩ := byte_sz s hp c
    have := feed_val (x := (x.byte c).1.withMode (x.byte c).2) ⟨hv.rows, hv.pen, hv.spen⟩ (a.withMode b) d bs
    rw [← step_eq] at this
    exact this

theorem fed_whole {h w : Nat} (h1 : 1 ≤ h) (h2 : h ≤ 200) (w1 : 1 ≤ w) (w2 : w ≤ 300) (bs : List UInt8) : ∀ l ∈ ((Tm.new h w).feed uni bs).grid, Whole l :=
  (feed_val (new_val h w) (new_sz h1 h2 w1 w2) (by simp [Tm.new]) bs).rows

end Go.Proofs.YtpohjcacnkhnkaaDoor
