/- Parts of the proof, one behind the other. -/
import Derived.Test.YtfpckllenkifkaaDoorM5
import Derived.Test.YtfpckllenkifkaaDoorM6
import Derived.Test.YtfpckllenkifkaaDoorRows
import Derived.ProofKit
import Derived.Carry
import Derived.OpenShut
import Derived.LaidMore
import Derived.Lay
set_option linter.all false

/- The walk of FrameFit: true, whatever the string, the width and the look. -/
namespace Go.Proofs.YtfpckllenkifkaaDoor
open Go.Ax
set_option linter.unusedSimpArgs false
set_option maxRecDepth 10000

theorem awake_c (H : AHeap) : Pure 7 [] H (.bool true) := callS_ans mixed kno7 rfl awakeK_true H

theorem vs_row {H : AHeap} {v : Value} {l : List Ce} (h : VsAt H 68 6 v (csOf l) l.length) : RowAt H v l := by
  obtain ⟨_, _, ⟨h0, rfl⟩ | ⟨h0, n, rfl, hb, hlt⟩⟩ := h
  · exact .inl ⟨List.length_eq_zero_iff.1 h0, _, _, rfl⟩
  · exact .inr ⟨fun e => by subst e; exact absurd h0 (by simp), n, 0, none, _, 68, true, csOf l, rfl, rk_of hb, hlt, by rw [csOf_length]; omega, by rw [List.drop_zero, csOf_take]; simp⟩

theorem FitOut.see {H H1 : AHeap} {r : Option (List Int)} {width : Int} {k : Lk} {out : Out} (h : FitOut H H1 r width k out) :
    ∃ v l e, out = .ok (.tuple #[v, .int .i64 e]) ∧ VsAt H1 68 6 v (csOf l) l.length ∧ (∀ n ∈ idsV v, H.next ≤ n) ∧ l.length ≤ 1000 ∧
      ∀ H2 H3 out2, FitOut H2 H3 r width k out2 → ∃ v2, out2 = .ok (.tuple #[v2, .int .i64 e]) ∧ VsAt H3 68 6 v2 (csOf l) l.length ∧ ∀ n ∈ idsV v2, H2.next ≤ n := by
  cases r with
  | none => exact ⟨_, [], 5, h, VsAt.nil, fun n hn => by simp [idsV] at hn, by simp, fun H2 H3 out2 h2 => ⟨_, h2, VsAt.nil, fun n hn => by simp [idsV] at hn⟩⟩
  | some l =>
    simp only [FitOut] at h ⊢
    by_cases hc : (decide (width < 0) || decide (1000 < width) || !colr k) = true
    · simp only [if_pos hc] at h ⊢
      exact ⟨_, [], 3, h, VsAt.nil, fun n hn => by simp [idsV] at hn, by simp, fun H2 H3 out2 h2 => ⟨_, h2, VsAt.nil, fun n hn => by simp [idsV] at hn⟩⟩
    · simp only [if_neg hc] at h ⊢
      obtain ⟨v, h1, h2, h3⟩ := h
      have hw : width.toNat ≤ 1000 := by
        simp only [Bool.or_eq_true, decide_eq_true_eq, not_or] at hc
        omega
      have hlen : (fitR width.toNat k l).length ≤ 1000 := by
        have := grd_len width.toNat k l [] (Nat.zero_le _)
        rw [fitR, List.length_append, List.length_replicate]
        omega
      exact ⟨v, _, 0, h1, h2, h3, hlen, fun H2 H3 out2 h4 => h4⟩

set_option maxHeartbeats 2000000 in
theorem law_c (H : AHeap) (s : ByteArray) (width : Int) (k : Lk) (hok : H.base ≤ H.next) (t : Tab H) (h01 : 1 < H.next) :
    CallA Tryd.prog 4 [.string s, .int .i64 width, k.val] H (fun out H1 => out = .ok (.bool true) ∧ Mod [] H H1) := by
  obtain ⟨b, hb⟩ : ∃ b, H.next = b := ⟨_, rfl⟩
  have hbase : H.base ≤ b := hb ▸ hok
  refine callE_fn mixed Tryd.func4 rfl Tryd.ntmps4 (Nat.le_of_ble_eq_true rfl) ?_
  by_cases hs : 300 < s.size
  · have hd : decide ((300 : Int) < (s.size : Int)) = true := decide_eq_true (by omega)
    simp (maxDischargeDepth := 6) only [hb, hbase, hd, bt_lenStr u9, Lk.val, ruW, putL, Nat.reduceLeDiff, xF, ruU, entryE, Nat.reduceLT, Nat.reduceAdd, Nat.reduceMul, Nat.reduceEqDiff]
    refine (awake_c (ext H _)).to ?_
    simp (maxDischargeDepth := 6) only [Tryd.results4, ruW, putL, Nat.reduceLeDiff, xF, ruU, entryE, Nat.reduceLT, Nat.reduceAdd, Nat.reduceMul, Nat.reduceEqDiff]
    exact ⟨trivial, Mod.ext hok⟩
  · have hd : decide ((300 : Int) < (s.size : Int)) = false := decide_eq_false (by omega)
    simp (maxDischargeDepth := 6) only [hb, hbase, hd, bt_lenStr u9, Lk.val, ruW, putL, Nat.reduceLeDiff, xF, ruU, entryE, Nat.reduceLT, Nat.reduceAdd, Nat.reduceMul, Nat.reduceEqDiff]
    generalize hX0 : ext H [_] = X0
    have m0 : Mod [] H X0 := hX0 ▸ Mod.ext hok
    have n0 : X0.next = b + 1 := by rw [← hX0, ext_next, hb]; rfl
    have box0 : bk X0 (b + 0) = some ⟨38, false, lkc k⟩ := by rw [← hX0, bk_at hb (by simp)]; rfl
    have t0 : Tab X0 := t.of (m0.get 0 (by omega) (by simp)) (m0.get 1 (by omega) (by simp))
    obtain ⟨q, hq⟩ : ∃ q, b + 0 = q := ⟨_, rfl⟩
    rw [hq] at box0 ⊢
    have ql : q < b + 1 := by omega
    have hsz : s.data.toList.length ≤ 300 := by
      have : s.data.toList.length = s.size := rfl
      omega
    refine (fit_c X0 t0 (by omega) s width k hsz (m0.ok hok)).mono ?_
    rintro out X ⟨m1, ho⟩
    obtain ⟨v, l, e, rfl, hv, hid, hl, hsee⟩ := ho.see
    have mX := m0.trans m1
    have okX := mX.ok hok
    have boxX : bk X q = some ⟨38, false, lkc k⟩ := (m1.bk (by omega) (by simp)).trans box0
    obtain ⟨x, hx⟩ : ∃ x, X.next = x := ⟨_, rfl⟩
    have qlx : q < x := by have := m1.next; omega
    rw [show X = ext X [] from rfl]
    simp (maxDischargeDepth := 6) only [hx, boxX, qlx, lkc, ruW, putL, Nat.reduceLeDiff, xF, ruU, entryE, Nat.reduceLT, Nat.reduceAdd, Nat.reduceMul, Nat.reduceEqDiff]
    refine (refFit_c X (t0.of (m1.get 0 (by omega) (by simp)) (m1.get 1 (by omega) (by simp))) (by omega) s width k hsz okX).mono ?_
    rintro out Y ⟨m2, ho2⟩
    obtain ⟨v2, rfl, hv2, hid2⟩ := hsee _ _ _ ho2
    have hvY : VsAt Y 68 6 v (csOf l) l.length := hv.of m2.next fun n hn => m2.get n (hv.ne n hn).2 (by simp)
    have hsame := sameCells_c (ext Y []) v v2 l l (vs_row hvY) (vs_row hv2) (by omega)
    rw [decide_eq_true rfl] at hsame
    rw [show Y = ext Y [] from rfl]
    simp (maxDischargeDepth := 6) only [ruW, putL, Nat.reduceLeDiff, xF, ruU, entryE, Nat.reduceLT, Nat.reduceAdd, Nat.reduceMul, Nat.reduceEqDiff]
    refine hsame.to ?_
    simp (maxDischargeDepth := 6) only [decide_true, ruW, putL, Nat.reduceLeDiff, xF, ruU, entryE, Nat.reduceLT, Nat.reduceAdd, Nat.reduceMul, Nat.reduceEqDiff]
    refine (awake_c (ext Y [])).to ?_
    simp (maxDischargeDepth := 6) only [Tryd.results4, ruW, putL, Nat.reduceLeDiff, xF, ruU, entryE, Nat.reduceLT, Nat.reduceAdd, Nat.reduceMul, Nat.reduceEqDiff]
    exact ⟨trivial, mX.trans m2⟩

end Go.Proofs.YtfpckllenkifkaaDoor

/- From what a walk shows to the given statements: arguments beside the two listed tables. -/
namespace Go.Proofs.YtfpckllenkifkaaDoor
open Go.ChangeShapes Go.WideShapes Go.ChangeAt Go.RowKit Go.Ax
set_option maxRecDepth 10000

section
variable {P : Program} {w : World} {r : Reach} {base : Nat}
theorem ok_int {t : TypeId} {v : Value} (ht : P.underlying t = some (.int .i64)) (h : Value.okWide P w r base t v) : ∃ n, v = .int .i64 n := by
  unfold Value.okWide at h
  rw [ht] at h
  unfold Cell.okWide Cell.ok at h
  cases v <;> simp [ht] at h
  exact ⟨_, by rw [h.1]⟩
theorem ok_string {t : TypeId} {v : Value} (ht : P.underlying t = some .string) (h : Value.okWide P w r base t v) : ∃ s, v = .string s := by
  unfold Value.okWide at h
  rw [ht] at h
  unfold Cell.okWide Cell.ok at h
  cases v <;> simp [ht] at h
  exact ⟨_, rfl⟩
end

theorem trodAll_carry {K : Type} {enc : TypeId × Value → K} {P : Program} (hl : laidOutB P = true) {W W' : World} (hb : Below W.heap.size W W') : ∀ {ts : List TypeId} {vs : List Value} {ds : List (DataW K)} {ps : List MemPlace},
    (ts.all fun t => P.readableRec t && Nat.blt t P.types.size) = true → DataW.TrodAll enc P W 0 (fun _ => true) true ts vs ds ps → (∀ x ∈ ps, x.block < W.heap.size) → DataW.TrodAll enc P W' 0 (fun b => decide (b < W.heap.size)) true ts vs ds ps
  | [], [], [], ps, _, h, _ => h
  | t :: ts, v :: vs, d :: ds, ps, ht, h, hp => by
    obtain ⟨p, q, h1, h2, rfl⟩ := h
    simp only [List.all_cons, Bool.and_eq_true] at ht
    exact ⟨p, q, Below.trod hl ht.1.1 (blt_lt ht.1.2) h1 hb (fun x hx => hp x (by simp [hx])), trodAll_carry hl hb (by simpa using ht.2) h2 (fun x hx => hp x (by simp [hx])), rfl⟩

theorem Tryd.own : ownKnob Tryd.prog.godebug = none := by kernel_rfl
theorem Tryd.laidOut : laidOutB Tryd.prog = true := by kernel_rfl
theorem u3 : Tryd.prog.underlying 3 = some (.int .i64) := by kernel_rfl
theorem u9s : Tryd.prog.underlying 9 = some .string := by kernel_rfl
theorem u4b : Tryd.prog.underlying 4 = some .bool := by kernel_rfl

theorem ok_look {K : Type} {enc : TypeId × Value → K} {W : World} {v : Value} {d : DataW K} {p : List MemPlace} (h : DataW.Trod enc Tryd.prog W 0 (fun _ => true) true 38 v d p) : ∃ k : Lk, v = k.val := by
  obtain ⟨fuel, hf⟩ := h
  have := trod_fits fuel 10000 38 [3, 3, 4, 4, 4] _ _ (by kernel_rfl) (by kernel_rfl) hf
  have hl := fits_length this
  cases v with
  | agg cs =>
    obtain ⟨cs⟩ := cs
    simp only [Value.cells] at this hl
    match cs, this, hl with
    | [a, b, c, d, e], this, _ =>
      simp only [fits, Bool.and_eq_true, Bool.and_true] at this
      obtain ⟨h1, h2, h3, h4, h5⟩ := this
      unfold fit1 at h1 h2 h3 h4 h5
      rw [u3] at h1 h2
      rw [u4b] at h3 h4 h5
      cases a <;> simp at h1
      cases b <;> simp at h2
      cases c <;> simp at h3
      cases d <;> simp at h4
      cases e <;> simp at h5
      subst h1 h2
      exact ⟨⟨_, _, _, _, _⟩, rfl⟩
  | _ => simp [Value.cells] at hl

def Laid (w : World) (e1 e2 : TypeId) : Prop := (∃ c, w.heap[0]? = some (.cells c e1 (0, 0)) ∧ c.toList = dc fstD) ∧ ∃ c, w.heap[1]? = some (.cells c e2 (0, 0)) ∧ c.toList = dc accD
theorem tabs_laid {w : World} (h : laidMet Tryd.prog Rows.frameFitRow.laid w) : ∃ e1 e2, Laid w e1 e2 := by
  obtain ⟨c1, t1, a1, b1⟩ := laid_tab h (name := "unicode/utf8.first") (d := fstD) (.tail _ (.tail _ (.tail _ (.tail _ (.head _))))) (g := 0) (t := 138) (e := 5) (ts := [5]) (D := 1000) (n := 256) (by kernel_rfl) (by kernel_rfl) (by kernel_rfl) (by kernel_rfl) (by kernel_rfl) (by kernel_rfl) (by kernel_rfl) (blt_lt (by kernel_rfl))
  obtain ⟨c2, t2, a2, b2⟩ := laid_tab h (name := "unicode/utf8.acceptRanges") (d := accD) (.tail _ (.tail _ (.tail _ (.head _)))) (g := 1) (t := 141) (e := 140) (ts := [5, 5]) (D := 1000) (n := 16) (by kernel_rfl) (by kernel_rfl) (by kernel_rfl) (by kernel_rfl) (by kernel_rfl) (by kernel_rfl) (by kernel_rfl) (blt_lt (by kernel_rfl))
  exact ⟨t1, t2, ⟨c1, a1, b1⟩, c2, a2, b2⟩

theorem bk_put_eq {H : AHeap} {g : Nat} {e : TypeId} {vs : List Value} : bk (H.put g (some (tabO e vs))) g = some ⟨e, false, vs⟩ := by
  refine blk_bk ⟨RV.ofList vs, ?_, RV.n_ofList _, fun i hi => ?_⟩
  · simp only [cellsAt, AHeap.get_put, if_true, tabO]

  · rw [RV.get_ofList]

theorem add_tabs {ρ : Ren} {H : AHeap} {W : World} {e1 e2 : TypeId} (r : Rel Tryd.prog ρ H W) (hl : Laid W e1 e2) (hex : ∀ g, ρ.ex g = 0) (h0 : ρ.blk 0 = 0) (hi : ∀ n g, g < 2 → H.get n ≠ none → ρ.blk n = g → n = g) :
    ∃ H1, Rel Tryd.prog ρ H1 W ∧ H1.next = H.next ∧ H1.base = H.base ∧ H1.dirty = H.dirty ∧ Tab H1 ∧ ∀ n, 2 ≤ n → H1.get n = H.get n := by
  obtain ⟨⟨c1, a1, b1⟩, c2, a2, b2⟩ := hl
  have r1 := rel_tab r (g := 0) (show 0 < Tryd.prog.globals.size by decide +kernel) (hex 0) (fun n h1 h2 => hi n 0 (by decide) h1 h2) a1 b1 (by kernel_rfl)
  have r2 := rel_tab r1 (g := 1) (show 1 < Tryd.prog.globals.size by decide +kernel) (hex 1) (fun n h1 h2 => by
    rw [AHeap.get_put] at h1
    by_cases e : n = 0
    · subst e; rw [h0] at h2; exact absurd h2 (by decide)
    · rw [if_neg e] at h1; exact hi n 1 (by decide) h1 h2) a2 b2 (by kernel_rfl)
  refine ⟨_, r2, rfl, rfl, rfl, ⟨e1, e2, ?_, bk_put_eq⟩, fun n hn => ?_⟩
  · rw [bk_get (G := H.put 0 (some (tabO e1 (dc fstD)))) (by rw [AHeap.get_put, if_neg (by decide)])]
    exact bk_put_eq
  · rw [AHeap.get_put, if_neg (by omega), AHeap.get_put, if_neg (by omega)]

theorem nomem (W : World) {e1 e2 : TypeId} (hl : Laid W e1 e2) (N b off cap : Nat) (hN : Tryd.prog.globals.size ≤ N) : ∃ H : AHeap, Rel Tryd.prog (enR N b off) H W ∧ H.base = H.next ∧ H.dirty = [] ∧ H.next = N + 1 ∧ Tab H := by
  have h2 : 2 ≤ N := Nat.le_trans (Nat.le_of_ble_eq_true (by kernel_rfl)) hN
  have r : Rel Tryd.prog (enR N b off) (AHeap.none (N + 1)) W := ⟨Nat.le_refl _, ⟨Nat.le_succ_of_le hN, fun g hg => by
      have : g ≠ N := by omega
      exact ⟨if_neg this, if_neg this⟩⟩, fun m _ hm => absurd (none_get _ m) hm, fun n o ho => (by rw [none_get] at ho; cases ho), fun n o ho => (by rw [none_get] at ho; cases ho)⟩
  obtain ⟨H1, k1, k2, k3, k4, k5, _⟩ := add_tabs r hl (fun _ => rfl) (if_neg (by omega)) (fun n g _ h => absurd (none_get _ n) h)
  exact ⟨H1, k1, by rw [k3, k2]; rfl, by rw [k4]; rfl, by rw [k2]; rfl, k5⟩

theorem law_calls0 {f : FuncId} {W : World} {e1 e2 : TypeId} (hl : Laid W e1 e2) (args : List Value) (h1 : args.all af = true)
    (walk : ∀ (H : AHeap), H.base ≤ H.next → Tab H → 1 < H.next → CallA Tryd.prog f args H fun out H1 => out = .ok (.bool true) ∧ Mod [] H H1) :
    Calls Tryd.prog f args.toArray W (fun e w' => e = .returned (.bool true) ∧ RowKit.Below W.heap.size W w') := by
  obtain ⟨H, hr, hb, hd, hn, ht⟩ := nomem W hl Tryd.prog.globals.size 0 0 0 (Nat.le_refl _)
  have h2 : 2 ≤ Tryd.prog.globals.size := Nat.le_of_ble_eq_true (by kernel_rfl)
  have := rel_calls hr (args := args) (scbL_of_af _ (afL_of fun x hx => List.all_eq_true.1 h1 x hx)) hb hd (walk H (Nat.le_of_eq hb) ht (by omega))
  rw [map_af _ args (fun x hx => List.all_eq_true.1 h1 x hx)] at this
  exact this

end Go.Proofs.YtfpckllenkifkaaDoor
