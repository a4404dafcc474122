/- Parts of the proof, one behind the other. -/
import Derived.Test.YtpohjcacnkhnkaaDoorM6
import Derived.Test.YtpohjcacnkhnkaaDoorM7
import Derived.Test.YtpohjcacnkhnkaaDoorM4
import Derived.Laws.Strings
set_option linter.all false

/- What slices.Repeat and blanks come to. -/
namespace Go.Proofs.YtpohjcacnkhnkaaDoor
open Go.Ax
set_option linter.unusedSimpArgs false
set_option maxRecDepth 10000

abbrev Ce.zero : Ce := ⟨0, Lk.no⟩
theorem zeros_cs (n : Nat) : zerosL Ce.zero.cells n = csOf (List.replicate n Ce.zero) := by
  induction n with
  | zero => rfl
  | succ n ih => rw [zerosL, ih, List.replicate_succ, csOf_cons]

theorem mk42 {X : AHeap} {w : Nat} (h : w ≤ 1000) : aMakeSlice Tryd.prog X 42 (.int .i64 (w : Int)) (.int .i64 (w : Int)) = (aNew X 56 (csOf (List.replicate w Ce.zero)) false).map fun g => (.slice (some ⟨X.next, 0, some 0⟩) w w, g) := by
  rw [mk_slice (e := 56) (sz := 6) (by1 := 32) (z := Ce.zero.val) (by kernel_rfl) (by kernel_rfl) (by kernel_rfl) (by kernel_rfl) rfl (by simp only [small, Bool.and_eq_true, Nat.ble_eq]; omega)]
  rw [show Ce.zero.val.cells.toList = Ce.zero.cells from rfl, zeros_cs]

theorem wrap_u64 {n : Nat} (h : n < 100000) : IntKind.u64.wrap (n : Int) = n := by
  simp only [IntKind.wrap, IntKind.signed, IntKind.bits]
  simp
  omega
theorem cp42 {G : AHeap} {q off dl dc n off2 sl sc : Nat} {s2 : Option Nat} {b bq : Bl} (hq : bk G q = some bq) (hlt : q < G.next) (hb : bk G n = some b) {l : List Ce} (hle : off2 + Nat.min sl dl * 6 ≤ b.l.length) (hl : (b.l.drop off2).take (Nat.min sl dl * 6) = csOf l) (hw : off + Nat.min sl dl * 6 ≤ bq.l.length) (hll : l.length = Nat.min sl dl) :
    aBuiltin Tryd.prog G .copy ⟨[42, 42]⟩ [.slice (some ⟨q, off, some 0⟩) dl dc, .slice (some ⟨n, off2, s2⟩) sl sc] = some (goInt (Nat.min sl dl), uw G q off (csOf l)) := by
  rw [cp_slice (e := 56) (sz := 6) (by kernel_rfl) (by kernel_rfl) rfl hb hle, hl]
  have := write_old (H := G) (L := []) (vs := csOf l) hlt hq (by rw [csOf_length, hll]; exact hw) (csOf_one l) (csOf_sc l _)
  rw [ext_nil, ext_nil] at this
  rw [this]
  rfl

set_option maxHeartbeats 1000000 in
theorem repeat_c (w : Nat) (h1 : 1 ≤ w) (hw : w ≤ 300) (c : Ce) (n : Nat) (s : Option Nat) (H : AHeap) (hn : bk H n = some ⟨56, false, c.cells⟩) :
    CallS Tryd.prog 30 [.slice (some ⟨n, 0, s⟩) 1 1, .int .i64 (w : Int)] H (.ok (.slice (some ⟨H.next, 0, some 0⟩) w w)) (ext H [⟨56, false, csOf (List.replicate w c)⟩]) := by
  refine callS_one (fun wf hsc => ?_) (fun _ _ => csOf_sc _ _)
  obtain ⟨b, hb⟩ : ∃ b, H.next = b := ⟨_, rfl⟩
  have hbase : H.base ≤ b := hb ▸ wf.base
  have hnb : n < b := hb ▸ wf.lt hn
  have hneg : decide ((w : Int) < 0) = false := decide_eq_false (by omega)
  have hcv : ∀ (X : AHeap) (k : IntKind) (m : Int), aConvert Tryd.prog X 3 72 (.int k m) = some (.int .u64 (IntKind.u64.wrap m), X) := fun X k m => cv_int (u := .int .i64) (by kernel_rfl) (by kernel_rfl)
  have hcv2 : ∀ (X : AHeap) (k : IntKind) (m : Int), aConvert Tryd.prog X 72 3 (.int k m) = some (.int .i64 (IntKind.i64.wrap m), X) := fun X k m => cv_int (u := .int .u64) (by kernel_rfl) (by kernel_rfl)
  have u1 : IntKind.u64.wrap ((1 : Nat) : Int) = 1 := by decide
  have huw : IntKind.u64.wrap (w : Int) = w := wrap_u64 (by omega)
  have iw : IntKind.i64.wrap (w : Int) = w := wrap_sm (by omega) (by omega)
  have z1 : decide ((0 : Int) > 0) = false := by decide
  have z2 : decide ((w : Int) > 9223372036854775807) = false := decide_eq_false (by omega)
  refine callE_fn mixed Tryd.func30 rfl Tryd.ntmps30 (Nat.le_of_ble_eq_true rfl) ?_
  simp (maxDischargeDepth := 6) only [hneg, w_convert, hcv, u1, huw, ruW, putL, Nat.reduceLeDiff, xF, ruU, entryE, Nat.reduceLT, Nat.reduceAdd, Nat.reduceMul, Nat.reduceEqDiff]
  refine (mul_c (w := w) (by omega) (ext H [])).to ?_
  simp (maxDischargeDepth := 6) only [w_convert, hcv2, iw, z1, z2, mk42 (show w ≤ 1000 by omega), csOf_sc, hb, ruW, putL, Nat.reduceLeDiff, xF, ruU, entryE, Nat.reduceLT, Nat.reduceAdd, Nat.reduceMul, Nat.reduceEqDiff]
  generalize hG : ext H [_] = G
  have mG : Mod [] H G := hG ▸ Mod.ext wf.base
  have hGn : G.next = b + 1 := by rw [← hG, ext_next, hb]; rfl
  have hq : bk G (b + 0) = some ⟨56, false, csOf (List.replicate w Ce.zero)⟩ := by rw [← hG, bk_at hb (by simp)]; rfl
  have hnG := (mG.bk (hb ▸ hnb) (by simp)).trans hn
  have m1 : Nat.min 1 w = 1 := Nat.min_eq_left h1
  have hcp := cp42 (G := G) (q := b + 0) (off := 0) (dl := w) (dc := w) (n := n) (off2 := 0) (sl := 1) (sc := 1) (s2 := s) (l := [c]) hq (by omega) hnG (by rw [m1]; simp [Ce.cells]) (by rw [m1]; rfl) (by rw [m1, csOf_length, List.length_replicate]; omega) (by rw [m1]; rfl)
  rw [m1] at hcp
  simp (maxDischargeDepth := 6) only [hcp, ruW, putL, Nat.reduceLeDiff, xF, ruU, entryE, Nat.reduceLT, Nat.reduceAdd, Nat.reduceMul, Nat.reduceEqDiff]
  generalize hK : uw G (b + 0) 0 _ = K
  have mK : Mod [b + 0] G K := hK ▸ Mod.uw (by simp)
  have okK := mK.ok (mG.ok wf.base)
  have hKn : K.next = b + 1 := by rw [← hK, uw_next, hGn]
  have hKq : bk K (b + 0) = some ⟨56, false, csOf (List.replicate 1 c ++ List.replicate (w - 1) Ce.zero)⟩ := by
    rw [← hK, bk_uw_eq, hq]
    have := csOf_put [] [c] (List.replicate w Ce.zero) (by simp; omega)
    simp only [List.nil_append, List.length_nil, Nat.zero_mul, List.length_cons, List.drop_replicate] at this
    show some (Bl.mk 56 false (putL (csOf (List.replicate w Ce.zero)) 0 (csOf [c]))) = _
    rw [this]
    rfl
  have mHK : Mod [] H K := mG.step mK wf.base (fun k hk => .inr (by simp only [List.mem_singleton] at hk; omega))
  refine w_env fun E hE => ?_
  have g7 : E 7 = .slice (some ⟨b + 0, 0, some 0⟩) w w := by rw [hE]; simp only [ruU, entryE, Nat.reduceLT, Nat.reduceAdd, Nat.reduceMul, Nat.reduceEqDiff]
  have g8 : E 8 = .int .i64 ((1 : Nat) : Int) := by rw [hE]; (simp only [ruU, entryE, Nat.reduceLT, Nat.reduceAdd, Nat.reduceMul, Nat.reduceEqDiff] <;> rfl)
  clear hE
  refine blockC_meet (fun E' H' => Mod [] H H' ∧ bk H' (b + 0) = some ⟨56, false, csOf (List.replicate w c)⟩ ∧ E' 7 = .slice (some ⟨b + 0, 0, some 0⟩) w w) ?_ ?_
  · refine w_loop (fun (m : Nat) E' H' => Mod [] H H' ∧ b + 0 < H'.next ∧ 1 ≤ m ∧ m ≤ w ∧ bk H' (b + 0) = some ⟨56, false, csOf (List.replicate m c ++ List.replicate (w - m) Ce.zero)⟩ ∧ E' 7 = .slice (some ⟨b + 0, 0, some 0⟩) w w ∧ E' 8 = .int .i64 (m : Int)) (fun m => w - m) 1
      ⟨mHK, by omega, Nat.le_refl _, h1, hKq, g7, g8⟩ ?_
    clear g7 g8
    rintro m E X ⟨mX, lX, hm1, hmw, hqX, g7, g8⟩
    rw [show X = ext X [] from rfl]
    by_cases hme : m = w
    · have hc : decide ((m : Int) < (w : Int)) = false := by simp [hme]
      simp (maxDischargeDepth := 6) only [g7, g8, hc, ruW, putL, Nat.reduceLeDiff, xF, ruU, entryE, Nat.reduceLT, Nat.reduceAdd, Nat.reduceMul, Nat.reduceEqDiff]
      refine joinR_normal ⟨mX, ?_, ?_⟩
      · rw [ext_nil, hqX, hme, Nat.sub_self]; simp
      · simp only [g7, ruU, entryE, Nat.reduceLT, Nat.reduceAdd, Nat.reduceMul, Nat.reduceEqDiff]
    · have hlt : m < w := by omega
      have hc : decide ((m : Int) < (w : Int)) = true := decide_eq_true (by omega)
      have okX := mX.ok wf.base
      simp (maxDischargeDepth := 6) only [g7, g8, hc, ruW, putL, Nat.reduceLeDiff, xF, ruU, entryE, Nat.reduceLT, Nat.reduceAdd, Nat.reduceMul, Nat.reduceEqDiff]
      refine w_drawB [(7, 3), (7, 6), (9, 7)] [] (by kernel_rfl) (by kernel_rfl) rfl fun ops anc hA hG2 => ?_
      simp only [all2_cons] at hA
      simp (maxDischargeDepth := 6) only [g7, g8, ruD, ruW, putL, Nat.reduceLeDiff, xF, ruU, entryE, Nat.reduceLT, Nat.reduceAdd, Nat.reduceMul, Nat.reduceEqDiff]
      have hbm : bound 0 (some (.int .i64 (m : Int))) = some m := by simp [bound]
      have hbm2 : bound w (some (.int .i64 (m : Int))) = some m := by simp [bound]
      rw [wd_slice]
      refine genV_val (v := .slice (some ⟨b + 0, 0 + m * 6, some 0⟩) (w - m) (w - m)) rfl (by decide) (fun G => slice_aop (by simp (maxDischargeDepth := 6) only [ruU, entryE, Nat.reduceLT, Nat.reduceAdd, Nat.reduceMul, Nat.reduceEqDiff]) (by simp (maxDischargeDepth := 6) only [ruU, entryE, Nat.reduceLT, Nat.reduceAdd, Nat.reduceMul, Nat.reduceEqDiff, bndsOk_some]) rfl rfl ?_) (by simp (maxDischargeDepth := 6) only [ruD, ruW, putL, Nat.reduceLeDiff, xF, ruU, entryE, Nat.reduceLT, Nat.reduceAdd, Nat.reduceMul, Nat.reduceEqDiff]) ?_
      · simp only [g7, g8, bnds_some, bnds_none, ruU, entryE, Nat.reduceLT, Nat.reduceAdd, Nat.reduceMul, Nat.reduceEqDiff]
        exact sl_exact (e := 56) (sz := 6) (by kernel_rfl) (by kernel_rfl) hbm rfl (Nat.le_refl _) hmw hlt
      simp (maxDischargeDepth := 6) only [g7, g8, ruD, ruW, putL, Nat.reduceLeDiff, xF, ruU, entryE, Nat.reduceLT, Nat.reduceAdd, Nat.reduceMul, Nat.reduceEqDiff]
      rw [wd_slice]
      refine genV_val (v := .slice (some ⟨b + 0, 0 + 0 * 6, some 0⟩) (m - 0) (w - 0)) rfl (by decide) (fun G => slice_aop (by simp (maxDischargeDepth := 6) only [ruU, entryE, Nat.reduceLT, Nat.reduceAdd, Nat.reduceMul, Nat.reduceEqDiff]) rfl (by simp (maxDischargeDepth := 6) only [ruU, entryE, Nat.reduceLT, Nat.reduceAdd, Nat.reduceMul, Nat.reduceEqDiff, bndsOk_some]) rfl ?_) (by simp (maxDischargeDepth := 6) only [ruD, ruW, putL, Nat.reduceLeDiff, xF, ruU, entryE, Nat.reduceLT, Nat.reduceAdd, Nat.reduceMul, Nat.reduceEqDiff]) ?_
      · simp only [g7, g8, bnds_some, bnds_none, ruU, entryE, Nat.reduceLT, Nat.reduceAdd, Nat.reduceMul, Nat.reduceEqDiff]
        exact sl_exact (e := 56) (sz := 6) (by kernel_rfl) (by kernel_rfl) rfl hbm2 hmw (Nat.zero_le _) (by omega)
      simp (maxDischargeDepth := 6) only [g7, g8, ruD, ruW, putL, Nat.reduceLeDiff, xF, ruU, entryE, Nat.reduceLT, Nat.reduceAdd, Nat.reduceMul, Nat.reduceEqDiff]
      rw [wd_copy (by simp only [ruU, entryE, Nat.reduceLT, Nat.reduceAdd, Nat.reduceMul, Nat.reduceEqDiff])]
      have hrn := restrict_next X [b + 0]
      have hqR : bk (X.restrict [b + 0]) (b + 0) = some ⟨56, false, csOf (List.replicate m c ++ List.replicate (w - m) Ce.zero)⟩ := (bk_get (by rw [restrict_get, if_pos (by simp)])).trans hqX
      obtain ⟨j, hj⟩ : ∃ j, Nat.min m (w - m) = j := ⟨_, rfl⟩
      have hjm : j ≤ m ∧ j ≤ w - m ∧ 0 < j := by rw [← hj]; exact ⟨Nat.min_le_left _ _, Nat.min_le_right _ _, Nat.lt_min.2 ⟨by omega, by omega⟩⟩
      have hcl : (csOf (List.replicate m c ++ List.replicate (w - m) Ce.zero)).length = w * 6 := by rw [csOf_length]; simp; omega
      have hcp2 := cp42 (G := X.restrict [b + 0]) (q := b + 0) (off := 0 + m * 6) (dl := w - m) (dc := w - m) (n := b + 0) (off2 := 0 + 0 * 6) (sl := m - 0) (sc := w - 0) (s2 := some 0) (l := List.replicate j c) hqR (by rw [hrn.1]; exact lX) hqR
        (by rw [Nat.sub_zero, hj, hcl]; omega) (by rw [Nat.sub_zero, hj, Nat.zero_mul, Nat.zero_add, List.drop_zero, csOf_take, List.take_append, List.take_replicate, List.length_replicate, show j - m = 0 by omega, Nat.min_eq_left hjm.1]; simp) (by rw [Nat.sub_zero, hj, hcl]; omega) (by rw [Nat.sub_zero, hj, List.length_replicate])
      rw [Nat.sub_zero, hj] at hcp2
      refine genV_modO (W := [b + 0]) [b + 0] okX (fun k hk => by simp only [List.mem_singleton] at hk; subst hk; exact bk_ne hqX) (fun k hk => by simp only [List.mem_singleton] at hk; subst hk; exact lX) (fun _ h => h)
        (builtin_op (v := goInt j) (by simp only [ruU, entryE, Nat.reduceLT, Nat.reduceAdd, Nat.reduceMul, Nat.reduceEqDiff]) (by simp only [ruU, entryE, Nat.reduceLT, Nat.reduceAdd, Nat.reduceMul, Nat.reduceEqDiff]; rw [Nat.sub_zero]; exact hcp2)) (Mod.uw (by simp)) (by simp only [all2_cons, all2_nil, hA, true_or, and_true]) ?_
      intro H1 D mH1 hF1 _ _ _
      have hw8 : IntKind.i64.wrap ((m : Int) + (j : Int)) = ((m + j : Nat) : Int) := by
        have := wrap_sm (n := (m : Int) + (j : Int)) (by omega) (by omega)
        rw [show IntKind.i64.wrap ((m : Int) + (j : Int)) = _ from this]; omega
      rw [show H1 = ext H1 [] from rfl]
      simp (maxDischargeDepth := 6) only [g7, g8, goInt, hA, hw8, implies_true, ruD, ruW, putL, Nat.reduceLeDiff, xF, ruU, entryE, Nat.reduceLT, Nat.reduceAdd, Nat.reduceMul, Nat.reduceEqDiff]
      have hq1 : bk H1 (b + 0) = some ⟨56, false, csOf (List.replicate (m + j) c ++ List.replicate (w - (m + j)) Ce.zero)⟩ := by
        rw [bk_get (hF1 (b + 0) (by simp)), bk_uw_eq, show bk ((ext X []).restrict [b + 0]) (b + 0) = _ from hqR]
        have := csOf_put (List.replicate m c) (List.replicate j c) (List.replicate (w - m) Ce.zero) (by simp; omega)
        rw [List.length_replicate, List.length_replicate, List.drop_replicate] at this
        show some (Bl.mk 56 false (putL (csOf _) (0 + m * 6) (csOf (List.replicate j c)))) = _
        rw [Nat.zero_add, this, ← List.append_assoc, List.replicate_append_replicate, show w - m - j = w - (m + j) by omega]
      refine loopC_next ⟨m + j, by omega, (mX.step mH1 wf.base (fun k hk => .inr (by simp only [List.mem_singleton] at hk; omega))), mH1.lt lX, by omega, by omega, hq1, ?_, ?_⟩ <;> simp only [g7, g8, ruU, entryE, Nat.reduceLT, Nat.reduceAdd, Nat.reduceMul, Nat.reduceEqDiff]
  · clear g7 g8
    rintro E X ⟨mX, hqX, g7⟩
    rw [show X = ext X [] from rfl]
    simp (maxDischargeDepth := 6) only [g7, Tryd.results30, ruW, putL, Nat.reduceLeDiff, xF, ruU, entryE, Nat.reduceLT, Nat.reduceAdd, Nat.reduceMul, Nat.reduceEqDiff]
    exact ⟨b + 0, rfl, by omega, hqX, mX⟩

theorem blanks_c (w : Nat) (h1 : 1 ≤ w) (hw : w ≤ 300) (H : AHeap) : CallS Tryd.prog 16 [.int .i64 (w : Int)] H (.ok (.slice (some ⟨H.next, 0, some 0⟩) w w)) (ext H [⟨56, false, csOf (List.replicate w sp)⟩]) := by
  refine callS_one (fun wf hsc => ?_) (fun _ _ => csOf_sc _ _)
  obtain ⟨b, hb⟩ : ∃ b, H.next = b := ⟨_, rfl⟩
  have hbase : H.base ≤ b := hb ▸ wf.base
  refine callE_fn mixed Tryd.func16 rfl Tryd.ntmps16 (Nat.le_of_ble_eq_true rfl) ?_
  simp (maxDischargeDepth := 6) only [hb, hbase, ruW, putL, Nat.reduceLeDiff, xF, ruU, entryE, Nat.reduceLT, Nat.reduceAdd, Nat.reduceMul, Nat.reduceEqDiff]
  refine (repeat_c w h1 hw sp (b + 0) (some 0) (ext H (_ :: _)) (by rw [bk_at hb (by simp)]; rfl)).to ?_
  simp (maxDischargeDepth := 6) only [hb, hbase, List.length_cons, List.length_nil, Tryd.results16, ruW, putL, Nat.reduceLeDiff, xF, ruU, entryE, Nat.reduceLT, Nat.reduceAdd, Nat.reduceMul, Nat.reduceEqDiff]
  exact ⟨_, rfl, by omega, by rw [bk_at hb (by simp)]; rfl, Mod.ext wf.base⟩

end Go.Proofs.YtpohjcacnkhnkaaDoor

/- Slices of open slices, copies between them. -/
namespace Go.Proofs.YtpohjcacnkhnkaaDoor
open Go.Ax
set_option linter.unusedSimpArgs false
set_option maxRecDepth 10000

section
variable {P : Program} {H : AHeap}
theorem sl_opn {t e : TypeId} {sz n off len cap : Nat} {lo hi : Option Value} {l h : Nat} {b : Bl} (hu : P.underlying t = some (.slice e)) (hsz : szOf P e = some sz) (hl : bound 0 lo = some l) (hh : bound len hi = some h) (h1 : h ≤ cap) (h2 : l ≤ h) (h3 : l < cap) (hb : bk H n = some b) (ho : b.o = true) :
    aSlice P H t (.slice (some ⟨n, off, none⟩) len cap) lo hi none = some (.slice (some ⟨n, off + l * sz, none⟩) (h - l) (cap - l), H) := by
  simp only [aSlice, hu, hsz, aSlice2, hl, hh, Option.bind_eq_bind, Option.bind_some, exactAt, isOpen_bk hb, ho, Option.map_some, Bool.not_true]
  rw [if_pos ⟨h1, h2⟩]
  by_cases h0 : l = 0
  · subst h0
    simp
  · rw [if_neg h0, if_pos h3]
theorem sl_end {t e : TypeId} {sz n off len cap : Nat} {lo hi : Option Value} {l h : Nat} {b : Bl} (hu : P.underlying t = some (.slice e)) (hsz : szOf P e = some sz) (hl : bound 0 lo = some l) (hh : bound len hi = some h) (h1 : h = cap) (h2 : l = cap) (h3 : 0 < cap) (hb : bk H n = some b) (ho : b.o = true) :
    aSlice P H t (.slice (some ⟨n, off, none⟩) len cap) lo hi none = some (.slice (some ⟨n, off + l * sz, some (off + 1)⟩) 0 0, H) := by
  simp only [aSlice, hu, hsz, aSlice2, hl, hh, Option.bind_eq_bind, Option.bind_some, exactAt, isOpen_bk hb, ho, Option.map_some, Bool.not_true]
  rw [if_pos ⟨by omega, by omega⟩, if_neg (by omega), if_neg (by omega)]
theorem cp_end {dt st e : TypeId} {sz m off k n off2 sl sc : Nat} {s2 : Option Nat} {b : Bl} (hu : P.underlying dt = some (.slice e)) (hsz : szOf P e = some sz) (hb : bk H n = some b) (hle : off2 ≤ b.l.length) :
    aBuiltin P H .copy ⟨[dt, st]⟩ [.slice (some ⟨m, off, some (k + 1)⟩) 0 0, .slice (some ⟨n, off2, s2⟩) sl sc] = some (goInt 0, H) := by
  have hm0 : Nat.min sl 0 = 0 := Nat.min_eq_right (Nat.zero_le _)
  have hf := first_bk (sz := sz) (cnt := 0) (off := off2) (len := sl) (cap := sc) (s := s2) hb (by omega)
  simp only [aBuiltin, aCopy, hu, hsz, Option.bind_eq_bind, Option.bind_some, lenV, hm0, hf]
  rw [if_neg (by simp)]
end

theorem bound_nat {d k : Nat} : bound d (some (.int .i64 (k : Int))) = some k := by simp [bound]

theorem rows_one (w : Nat) (l : List (Nat × Bool)) : (l.map (rowV w)).all one = true := by
  rw [List.all_eq_true]
  intro v hv
  obtain ⟨q, _, rfl⟩ := List.mem_map.1 hv
  rfl

theorem roll_up {X : AHeap} {rb top n m h : Nat} {w : Nat} {A S Z : List (Nat × Bool)} (hlt : rb < X.next) (hb : bk X rb = some ⟨42, true, (A ++ S ++ Z).map (rowV w)⟩) (hA : A.length = top) (hS : S.length = m) (hh : h = top + m + Z.length) (hn : n ≤ m) (hn1 : 1 ≤ n) (hsc : ∀ q ∈ A ++ S ++ Z, q.1 < X.next) :
    ∃ sv Y, aSlice Tryd.prog X 33 (.slice (some ⟨rb, top, none⟩) m (h - top)) (some (.int .i64 (n : Int))) none none = some (sv, X) ∧ aBuiltin Tryd.prog X .copy ⟨[33, 33]⟩ [.slice (some ⟨rb, top, none⟩) m (h - top), sv] = some (goInt ((m - n : Nat)), Y) ∧ Mod [rb] X Y ∧ Y.next = X.next ∧ bk Y rb = some ⟨42, true, (A ++ S.drop n ++ S.drop (m - n) ++ Z).map (rowV w)⟩ := by
  have hu : Tryd.prog.underlying 33 = some (.slice 42) := by kernel_rfl
  have hsz : szOf Tryd.prog 42 = some 1 := by kernel_rfl
  have hsl : ∃ s2 sc, aSlice Tryd.prog X 33 (.slice (some ⟨rb, top, none⟩) m (h - top)) (some (.int .i64 (n : Int))) none none = some (.slice (some ⟨rb, top + n * 1, s2⟩) (m - n) sc, X) := by
    by_cases hc : n < h - top
    · exact ⟨none, _, sl_opn hu hsz bound_nat rfl (by omega) hn hc hb rfl⟩
    · have e : m - n = 0 := by omega
      rw [e]
      exact ⟨some (top + 1), 0, sl_end hu hsz bound_nat rfl (by omega) (by omega) (by omega) hb rfl⟩
  obtain ⟨s2, sc, hsl⟩ := hsl
  have hlen : ((A ++ S ++ Z).map (rowV w)).length = top + m + Z.length := by simp [hA, hS]; omega
  have hmin : Nat.min (m - n) m = m - n := Nat.min_eq_left (by omega)
  have hcp := cp_slice (P := Tryd.prog) (H := X) (dt := 33) (st := 33) (e := 42) (sz := 1) (m := rb) (off := top) (dl := m) (dc := h - top) (n := rb) (off2 := top + n * 1) (sl := m - n) (sc := sc) (s := none) (s2 := s2) hu hsz rfl hb (by rw [hmin, hlen]; omega)
  have hcs : (((A ++ S ++ Z).map (rowV w)).drop (top + n * 1)).take ((m - n) * 1) = (S.drop n).map (rowV w) := by
    rw [Nat.mul_one, Nat.mul_one, ← List.map_drop, ← List.map_take, List.append_assoc, List.drop_append, List.drop_eq_nil_of_le (by omega), List.nil_append, show top + n - A.length = n by omega, List.drop_append, List.take_append, List.take_of_length_le (by simp; omega)]
    simp [hS]
  have hone : ((S.drop n).map (rowV w)).all one = true := rows_one w _
  have hscb : scbL (X.next + 0) ((S.drop n).map (rowV w)) = true := by
    rw [Nat.add_zero]
    refine scbL_iff.2 fun v hv => ?_
    obtain ⟨q, hq, rfl⟩ := List.mem_map.1 hv
    exact blt_of (hsc q (by simp [List.mem_of_mem_drop hq]))
  have hwr := write_old (H := X) (L := []) (n := rb) (off := top) (vs := (S.drop n).map (rowV w)) hlt hb (by rw [hlen]; simp; omega) hone hscb
  rw [ext_nil, ext_nil] at hwr
  rw [hmin, hcs, hwr] at hcp
  refine ⟨_, _, hsl, hcp, Mod.uw (by simp), by rw [uw_next], ?_⟩
  rw [bk_uw_eq, hb]
  refine congrArg (fun l => some (Bl.mk 42 true l)) ?_
  have e : ((A ++ S ++ Z).map (rowV w)) = A.map (rowV w) ++ (S ++ Z).map (rowV w) := by simp
  show putL ((A ++ S ++ Z).map (rowV w)) top _ = _
  have e2 : top = (A.map (rowV w)).length := by simp [hA]
  rw [e, e2, putL_at _ _ _ (by simp [hS]; omega)]
  have e3 : ((S ++ Z).map (rowV w)).drop ((S.drop n).map (rowV w)).length = (S.drop (m - n) ++ Z).map (rowV w) := by
    rw [← List.map_drop, List.length_map, List.length_drop, hS, List.drop_append, show m - n - S.length = 0 by omega, List.drop_zero]
  rw [e3]
  simp

theorem roll_down {X : AHeap} {rb top n m h : Nat} {w : Nat} {A S Z : List (Nat × Bool)} (hlt : rb < X.next) (hb : bk X rb = some ⟨42, true, (A ++ S ++ Z).map (rowV w)⟩) (hA : A.length = top) (hS : S.length = m) (hh : h = top + m + Z.length) (hn : n ≤ m) (hn1 : 1 ≤ n) (hsc : ∀ q ∈ A ++ S ++ Z, q.1 < X.next) :
    ∃ sv Y, aSlice Tryd.prog X 33 (.slice (some ⟨rb, top, none⟩) m (h - top)) (some (.int .i64 (n : Int))) none none = some (sv, X) ∧ (∃ k, aBuiltin Tryd.prog X .copy ⟨[33, 33]⟩ [sv, .slice (some ⟨rb, top, none⟩) m (h - top)] = some (k, Y)) ∧ Mod [rb] X Y ∧ Y.next = X.next ∧ bk Y rb = some ⟨42, true, (A ++ S.take n ++ S.take (m - n) ++ Z).map (rowV w)⟩ := by
  have hu : Tryd.prog.underlying 33 = some (.slice 42) := by kernel_rfl
  have hsz : szOf Tryd.prog 42 = some 1 := by kernel_rfl
  have hlen : ((A ++ S ++ Z).map (rowV w)).length = top + m + Z.length := by simp [hA, hS]; omega
  by_cases hc : n < h - top
  · have hsl := sl_opn (P := Tryd.prog) (H := X) (t := 33) (e := 42) (sz := 1) (n := rb) (off := top) (len := m) (cap := h - top) (lo := some (.int .i64 (n : Int))) (hi := none) (l := n) (h := m) hu hsz bound_nat rfl (by omega) hn hc hb rfl
    have hmin : Nat.min m (m - n) = m - n := Nat.min_eq_right (by omega)
    have hcp := cp_slice (P := Tryd.prog) (H := X) (dt := 33) (st := 33) (e := 42) (sz := 1) (m := rb) (off := top + n * 1) (dl := m - n) (dc := h - top - n) (n := rb) (off2 := top) (sl := m) (sc := h - top) (s := none) (s2 := none) hu hsz rfl hb (by rw [hmin, hlen]; omega)
    have hcs : (((A ++ S ++ Z).map (rowV w)).drop top).take ((m - n) * 1) = (S.take (m - n)).map (rowV w) := by
      rw [Nat.mul_one, ← List.map_drop, ← List.map_take, List.append_assoc, List.drop_append, List.drop_eq_nil_of_le (by omega), List.nil_append, show top - A.length = 0 by omega, List.drop_zero, List.take_append, show m - n - S.length = 0 by omega, List.take_zero, List.append_nil]
    have hone : ((S.take (m - n)).map (rowV w)).all one = true := rows_one w _
    have hscb : scbL (X.next + 0) ((S.take (m - n)).map (rowV w)) = true := by
      rw [Nat.add_zero]
      refine scbL_iff.2 fun v hv => ?_
      obtain ⟨q, hq, rfl⟩ := List.mem_map.1 hv
      exact blt_of (hsc q (by simp [List.mem_of_mem_take hq]))
    have hwr := write_old (H := X) (L := []) (n := rb) (off := top + n * 1) (vs := (S.take (m - n)).map (rowV w)) hlt hb (by rw [hlen]; simp; omega) hone hscb
    rw [ext_nil, ext_nil] at hwr
    rw [hmin, hcs, hwr] at hcp
    refine ⟨_, _, hsl, ⟨_, hcp⟩, Mod.uw (by simp), by rw [uw_next], ?_⟩
    rw [bk_uw_eq, hb]
    refine congrArg (fun l => some (Bl.mk 42 true l)) ?_
    have e : ((A ++ S ++ Z).map (rowV w)) = (A ++ S.take n).map (rowV w) ++ (S.drop n ++ Z).map (rowV w) := by
      rw [← List.map_append, List.append_assoc, List.append_assoc]
      congr 2
      rw [← List.append_assoc, List.take_append_drop]
    show putL ((A ++ S ++ Z).map (rowV w)) (top + n * 1) _ = _
    have e2 : top + n * 1 = ((A ++ S.take n).map (rowV w)).length := by simp [hA, hS]; omega
    rw [e, e2, putL_at _ _ _ (by simp [hS])]
    have e3 : ((S.drop n ++ Z).map (rowV w)).drop ((S.take (m - n)).map (rowV w)).length = Z.map (rowV w) := by
      rw [← List.map_drop, List.length_map, List.length_take, hS, Nat.min_eq_left (by omega), List.drop_append, List.drop_eq_nil_of_le (by simp [hS]), List.nil_append, show m - n - (S.drop n).length = 0 by simp [hS], List.drop_zero]
    rw [e3]
    simp
  · have e : m - n = 0 := by omega
    have hsl := sl_end (P := Tryd.prog) (H := X) (t := 33) (e := 42) (sz := 1) (n := rb) (off := top) (len := m) (cap := h - top) (lo := some (.int .i64 (n : Int))) (hi := none) (l := n) (h := m) hu hsz bound_nat rfl (by omega) (by omega) (by omega) hb rfl
    have hcp := cp_end (P := Tryd.prog) (H := X) (dt := 33) (st := 33) (e := 42) (sz := 1) (m := rb) (off := top + n * 1) (k := top) (n := rb) (off2 := top) (sl := m) (sc := h - top) (s2 := none) hu hsz hb (by rw [hlen]; omega)
    refine ⟨_, _, hsl, ⟨_, hcp⟩, Mod.refl, rfl, ?_⟩
    rw [hb, e, List.take_of_length_le (show S.length ≤ n by omega)]
    simp

end Go.Proofs.YtpohjcacnkhnkaaDoor

/- What roll does. -/
namespace Go.Proofs.YtpohjcacnkhnkaaDoor
open Go.Ax
set_option linter.unusedSimpArgs false
set_option maxRecDepth 10000

theorem width_m (H : AHeap) (p : Rp) (x : Tm) (rs : List (Nat × Bool)) (h1 : bk H p.t = some ⟨49, false, cellsT p x⟩) (h2 : bk H p.rb = some ⟨42, true, rs.map (rowV x.w)⟩) (hx : 1 ≤ x.h) (hr : rs ≠ []) : Pure 34 [.pointer (some ⟨p.t, 0, none⟩)] H (.int .i64 (x.w : Int)) := by
  obtain ⟨b, hb⟩ : ∃ b, H.next = b := ⟨_, rfl⟩
  have g1 := h1
  simp only [cellsT] at h1
  obtain ⟨q, hq⟩ : ∃ q, rs[0]? = some q := by cases rs with | nil => exact absurd rfl hr | cons a r => exact ⟨a, rfl⟩
  have hq2 : (rs.map (rowV x.w))[0]? = some (rowV x.w q) := by rw [List.getElem?_map, hq]; rfl
  have hi := rows_ia (len := x.h) (cap := x.h) (n := p.rb) (s := none) (i := 0) (k := 0) rfl hx
  refine callS_fn mixed Tryd.func34 rfl Tryd.ntmps34 (Nat.le_of_ble_eq_true rfl) fun wf hsc => ?_
  have hT : p.t < b := hb ▸ wf.lt g1
  have hR : p.rb < b := hb ▸ wf.lt h2
  simp (maxDischargeDepth := 6) only [hb, hT, hR, h1, h2, hi, hq2, rowV, Tryd.results34, ruW, putL, Nat.reduceLeDiff, xF, ruU, entryE, Nat.reduceLT, Nat.reduceAdd, Nat.reduceMul, Nat.reduceEqDiff]
  exact Fin.pure rfl

theorem zip_get {α β : Type} {l : List α} {m : List β} {z : α × β} : z ∈ l.zip m ↔ ∃ i : Nat, l[i]? = some z.1 ∧ m[i]? = some z.2 := by
  rw [List.mem_iff_getElem?]
  constructor
  · rintro ⟨i, hi⟩
    refine ⟨i, ?_⟩
    rw [List.getElem?_zip_eq_some] at hi
    exact hi
  · rintro ⟨i, h1, h2⟩
    exact ⟨i, List.getElem?_zip_eq_some.2 ⟨h1, h2⟩⟩

theorem TmAt.rerow {H Y : AHeap} {p : Rp} {x : Tm} (g : TmAt H p x) (m : Mod [p.rb] H Y) (rs : List (Nat × Bool)) (gr : List (List Ce)) (hb : bk Y p.rb = some ⟨42, true, rs.map (rowV x.w)⟩) (hl1 : rs.length = x.h) (hl2 : gr.length = x.h)
    (hrow : ∀ z ∈ rs.zip gr, z ∈ p.rs.zip x.grid ∨ (H.next ≤ z.1.1 ∧ bk Y z.1.1 = some ⟨56, z.1.2, csOf z.2⟩)) (hnd : (rs.map (·.1)).Nodup) (hin : ∀ q ∈ rs, q ∈ p.rs ∨ (H.next ≤ q.1 ∧ q.1 < Y.next)) (hw : Tm.w { x with grid := gr } = x.w) :
    Step H p Y { p with rs := rs } { x with grid := gr } := by
  have hnd0 := g.nd
  simp only [Rp.blks] at hnd0
  have n1 := List.nodup_cons.1 hnd0
  have n2 := List.nodup_cons.1 n1.2
  have hb0 : ∀ n ∈ p.blks, n < H.next := g.lt
  have hget : ∀ n, n < H.next → n ≠ p.rb → Y.get n = H.get n := fun n hn hne => m.get n hn (by simp only [List.mem_singleton]; exact hne)
  have hrs : ∀ q ∈ p.rs, q.1 ∈ p.blks ∧ q.1 ≠ p.rb := fun q hq => by
    have hm : q.1 ∈ p.rs.map (·.1) := List.mem_map.2 ⟨q, hq, rfl⟩
    exact ⟨by simp only [Rp.blks, List.mem_cons, List.mem_append]; exact .inr (.inr (.inl (.inl hm))), fun e => n2.1 (e ▸ (by simp only [List.mem_append]; exact .inl (.inl hm)))⟩
  have hold : ∀ n, n ∈ idsV p.rv ++ idsV p.pv → n ∈ p.blks ∧ n ≠ p.rb ∧ n ≠ p.t ∧ n ∉ p.rs.map (·.1) := fun n hn => by
    have n3 := n2.2
    rw [List.append_assoc] at n3
    refine ⟨?_, fun e => n2.1 (e ▸ ?_), fun e => n1.1 (e ▸ ?_), fun e => (List.nodup_append.1 n3).2.2 n e n hn rfl⟩ <;> simp only [Rp.blks, List.mem_cons, List.mem_append] at hn ⊢
    · rcases hn with h | h
      · exact .inr (.inr (.inl (.inr h)))
      · exact .inr (.inr (.inr h))
    · rcases hn with h | h
      · exact .inl (.inr h)
      · exact .inr h
    · rcases hn with h | h
      · exact .inr (.inl (.inr h))
      · exact .inr (.inr h)
  have htb : p.t ∈ p.blks ∧ p.t ≠ p.rb := ⟨by simp [Rp.blks], fun e => n1.1 (by rw [e]; simp)⟩
  have htr : p.t ∉ p.rs.map (·.1) := fun h => n1.1 (by simp only [List.mem_cons, List.mem_append]; exact .inr (.inl (.inl h)))
  have hrr : p.rb ∉ p.rs.map (·.1) := fun h => n2.1 (by simp only [List.mem_append]; exact .inl (.inl h))
  have hrbl : p.rb ∈ p.blks := by simp [Rp.blks]
  have hnot : ∀ n, n ∈ p.blks → n ∉ p.rs.map (·.1) → n ∉ rs.map (·.1) := fun n hn hnr hm => by
    obtain ⟨q, hq, rfl⟩ := List.mem_map.1 hm
    rcases hin q hq with h | ⟨h, _⟩
    · exact hnr (List.mem_map.2 ⟨q, h, rfl⟩)
    · have := hb0 _ hn; omega
  have hnew : ∀ n ∈ ({ p with rs := rs } : Rp).blks, n ∈ p.blks ∨ (H.next ≤ n ∧ n < Y.next) := by
    intro n hn
    simp only [Rp.blks, List.mem_cons, List.mem_append, List.mem_map] at hn
    rcases hn with rfl | rfl | (⟨q, hq, rfl⟩ | hn) | hn
    · exact .inl htb.1
    · exact .inl hrbl
    · rcases hin q hq with h | h
      · exact .inl (hrs q h).1
      · exact .inr h
    · exact .inl (hold n (by simp [hn])).1
    · exact .inl (hold n (by simp [hn])).1
  refine ⟨⟨?_, ?_, ?_, ?_, ?_, ?_, ?_, fun n hn => ?_⟩, m.mono (by intro n hn; simp only [List.mem_singleton] at hn; subst hn; exact hrbl), rfl, fun n hn => (hnew n hn).imp id (fun h => h.1)⟩
  · rw [bk_get (hget _ (hb0 _ htb.1) htb.2), g.cell]
    have : Tm.h { x with grid := gr } = x.h := hl2
    simp only [cellsT, this]
  · rw [hw]; exact hb
  · exact hl1.trans hl2.symm
  · intro i q l hq hl
    rcases hrow (q, l) (zip_get.2 ⟨i, hq, hl⟩) with h | ⟨_, h⟩
    · obtain ⟨j, h1, h2⟩ := zip_get.1 h
      simp only at h1 h2
      obtain ⟨h3, h4⟩ := hrs q (List.mem_of_getElem? h1)
      rw [bk_get (hget _ (hb0 _ h3) h4)]
      exact g.row j q l h1 h2
    · exact h
  · exact g.rest.of fun n hn => hget n (hb0 n (hold n (by simp [hn])).1) (hold n (by simp [hn])).2.1
  · exact g.par.of fun n hn => hget n (hb0 n (hold n (by simp [hn])).1) (hold n (by simp [hn])).2.1
  · have n3 := n2.2
    rw [List.append_assoc] at n3
    have n4 := List.nodup_append.1 n3
    simp only [Rp.blks]
    refine List.nodup_cons.2 ⟨?_, List.nodup_cons.2 ⟨?_, ?_⟩⟩
    · simp only [List.mem_cons, List.mem_append, not_or]
      refine ⟨htb.2, ⟨hnot _ htb.1 htr, fun h => (hold p.t (by simp [h])).2.2.1 rfl⟩, fun h => (hold p.t (by simp [h])).2.2.1 rfl⟩
    · simp only [List.mem_append, not_or]
      refine ⟨⟨hnot _ hrbl hrr, fun h => (hold p.rb (by simp [h])).2.1 rfl⟩, fun h => (hold p.rb (by simp [h])).2.1 rfl⟩
    · rw [List.append_assoc]
      exact List.nodup_append.2 ⟨hnd, n4.2.1, fun a ha b hb e => hnot b (hold b hb).1 (hold b hb).2.2.2 (e ▸ ha)⟩
  · rcases hnew n hn with h | h
    · exact m.lt (hb0 n h)
    · exact h.2

theorem nodup_mid {α : Type} {A N Z : List α} (h : (A ++ Z).Nodup) (hn : N.Nodup) (hd : ∀ a ∈ N, a ∉ A ++ Z) : (A ++ N ++ Z).Nodup := by
  have h1 := List.nodup_append.1 h
  refine List.nodup_append.2 ⟨List.nodup_append.2 ⟨h1.1, hn, fun a ha b hb e => hd b hb (by simp [← e, ha])⟩, h1.2.1, fun a ha b hb e => ?_⟩
  rcases List.mem_append.1 ha with h' | h'
  · exact h1.2.2 a h' b hb e
  · exact hd a h' (by simp [e, hb])

theorem rows_off {len cap n off : Nat} {s : Option Nat} {i : Int} {k : Nat} (hi : i = k) (hk : k < len) : aIndexAddr Tryd.prog 33 (.slice (some ⟨n, off, s⟩) len cap) (.int .i64 i) = some (.pointer (some ⟨n, off + k, none⟩)) := by
  subst hi
  rw [ia_slice (e := 42) (sz := 1) (by kernel_rfl) (by kernel_rfl) (by omega) (by omega)]
  simp

abbrev blankRow (w : Nat) : List Ce := List.replicate w sp

def rollA {α : Type} (l : List α) (top m k : Nat) (up : Bool) : List α := l.take top ++ cond up (((l.drop top).take m).drop k) []
def rollZ {α : Type} (l : List α) (top m k : Nat) (up : Bool) : List α := cond up [] (((l.drop top).take m).take (m - k)) ++ l.drop (top + m)
theorem rollA_len {α : Type} (l : List α) {top m k : Nat} (up : Bool) (h : top + m ≤ l.length) (hk : k ≤ m) : (rollA l top m k up).length = top + cond up (m - k) 0 := by
  cases up <;> simp [rollA] <;> omega
theorem rollZ_len {α : Type} (l : List α) {top m k : Nat} (up : Bool) (h : top + m ≤ l.length) (hk : k ≤ m) : (rollZ l top m k up).length = cond up 0 (m - k) + (l.length - (top + m)) := by
  cases up <;> simp [rollZ] <;> omega
theorem roll_split {α : Type} (l : List α) (top m : Nat) : l = l.take top ++ (l.drop top).take m ++ l.drop (top + m) := by
  rw [List.append_assoc, ← List.drop_drop, List.take_append_drop, List.take_append_drop]
theorem roll_sub {α : Type} (l : List α) (top m k : Nat) (up : Bool) : (rollA l top m k up ++ rollZ l top m k up).Sublist l := by
  have h := roll_split l top m
  conv => rhs; rw [h]
  cases up
  · simp only [rollA, rollZ, cond_false, List.append_nil]
    rw [← List.append_assoc]
    exact ((List.Sublist.refl _).append (List.take_sublist _ _)).append (List.Sublist.refl _)
  · simp only [rollA, rollZ, cond_true, List.nil_append]
    exact ((List.Sublist.refl _).append (List.drop_sublist _ _)).append (List.Sublist.refl _)
theorem tk_zip {α β : Type} (l : List α) (g : List β) (n : Nat) : (l.zip g).take n = (l.take n).zip (g.take n) := by simp only [List.zip, List.take_zipWith]
theorem dr_zip {α β : Type} (l : List α) (g : List β) (n : Nat) : (l.zip g).drop n = (l.drop n).zip (g.drop n) := by simp only [List.zip, List.drop_zipWith]
theorem rollA_zip {α β : Type} (l : List α) (g : List β) (top m k : Nat) (up : Bool) (h : l.length = g.length) : (rollA l top m k up).zip (rollA g top m k up) = rollA (l.zip g) top m k up := by
  cases up
  · simp [rollA, tk_zip]
  · simp only [rollA, cond_true]
    rw [List.zip_append (by simp [h])]
    simp [tk_zip, dr_zip]
theorem rollZ_zip {α β : Type} (l : List α) (g : List β) (top m k : Nat) (up : Bool) (h : l.length = g.length) : (rollZ l top m k up).zip (rollZ g top m k up) = rollZ (l.zip g) top m k up := by
  cases up
  · simp only [rollZ, cond_false]
    rw [List.zip_append (by simp [h])]
    simp [tk_zip, dr_zip]
  · simp [rollZ, dr_zip]
theorem rollG_eq (w : Nat) (g : List (List Ce)) (top bot n : Nat) (up : Bool) : rollG w g top bot n up = rollA g top (bot + 1 - top) (min n (bot + 1 - top)) up ++ List.replicate (min n (bot + 1 - top)) (blankRow w) ++ rollZ g top (bot + 1 - top) (min n (bot + 1 - top)) up := by
  cases up <;> simp [rollG, rollA, rollZ]

end Go.Proofs.YtpohjcacnkhnkaaDoor

/- The walk of roll. -/
namespace Go.Proofs.YtpohjcacnkhnkaaDoor
open Go.Ax
set_option linter.unusedSimpArgs false
set_option maxRecDepth 10000

theorem tm_roll (x : Tm) (top bot n : Nat) (up : Bool) : x.roll top bot n up = { x with grid := rollG x.w x.grid top bot n up } := rfl

set_option maxHeartbeats 1000000 in
theorem roll_c (H : AHeap) (p : Rp) (x : Tm) (top bot n : Nat) (up : Bool) (g : TmAt H p x) (s : x.Sz) (ok : H.base ≤ H.next) (htb : top ≤ bot) (hbh : bot < x.h) (hn1 : 1 ≤ n) (hn2 : n ≤ 10000) :
    Does 35 [.int .i64 (top : Int), .int .i64 (bot : Int), .int .i64 (n : Int), .bool up] H p (.tuple #[]) (x.roll top bot n up) := by
  obtain ⟨b, hb⟩ : ∃ b, H.next = b := ⟨_, rfl⟩
  have hT : p.t < b := hb ▸ g.lt p.t (by simp [Rp.blks])
  have hR : p.rb < H.next := g.lt p.rb (by simp [Rp.blks])
  have h1 := g.cell
  simp only [cellsT] at h1
  have s1 := s.h2
  have s2 := s.w2
  have s3 := s.w1
  obtain ⟨m, hm⟩ : ∃ m, bot + 1 - top = m := ⟨_, rfl⟩
  obtain ⟨k, hk⟩ : ∃ k, min n m = k := ⟨_, rfl⟩
  have hkm : k ≤ m := by omega
  have hk1 : 1 ≤ k := by omega
  have htm : top + m ≤ x.h := by omega
  have hrl := g.len
  have hwb : IntKind.i64.wrap ((bot : Int) + 1) = ((bot + 1 : Nat) : Int) := wrap_succ (by omega)
  have hmin : min (n : Int) (m : Int) = (k : Int) := by omega
  have hwk : IntKind.i64.wrap ((m : Int) - (k : Int)) = ((m - k : Nat) : Int) := by
    have := wrap_sm (n := (m : Int) - (k : Int)) (by omega) (by omega)
    rw [show IntKind.i64.wrap ((m : Int) - (k : Int)) = _ from this]; omega
  have hrs := roll_split p.rs top m
  have hrow := g.rows
  rw [hrs] at hrow
  have hA : (p.rs.take top).length = top := by simp; omega
  have hS : ((p.rs.drop top).take m).length = m := by simp; omega
  have hZ : x.h = top + m + (p.rs.drop (top + m)).length := by simp; omega
  have hsc : ∀ q ∈ p.rs.take top ++ (p.rs.drop top).take m ++ p.rs.drop (top + m), q.1 < H.next := by
    rw [← hrs]
    intro q hq
    exact g.lt q.1 (by simp only [Rp.blks, List.mem_cons, List.mem_append, List.mem_map]; exact .inr (.inr (.inl (.inl ⟨q, hq, rfl⟩))))
  have hu : Tryd.prog.underlying 33 = some (.slice 42) := by kernel_rfl
  have hsz : szOf Tryd.prog 42 = some 1 := by kernel_rfl
  have hsl0 : aSlice Tryd.prog (ext H []) 33 (.slice (some ⟨p.rb, 0, none⟩) x.h x.h) (some (.int .i64 (top : Int))) (some (.int .i64 ((bot + 1 : Nat) : Int))) none = some (.slice (some ⟨p.rb, top, none⟩) m (x.h - top), ext H []) := by
    have := sl_opn (P := Tryd.prog) (H := H) (n := p.rb) (off := 0) (len := x.h) (cap := x.h) hu hsz (bound_nat (d := 0) (k := top)) (bound_nat (d := x.h) (k := bot + 1)) (by omega) (by omega) (by omega) hrow rfl
    rw [hm, Nat.zero_add, Nat.mul_one] at this
    exact this
  refine callE_fn mixed Tryd.func35 rfl Tryd.ntmps35 (Nat.le_of_ble_eq_true rfl) ?_
  refine w_meet (fun E' H' => H' = H ∧ E' 0 = .pointer (some ⟨p.t, 0, none⟩) ∧ E' 3 = .int .i64 (n : Int) ∧ E' 4 = .bool up ∧ E' 10 = .slice (some ⟨p.rb, top, none⟩) m (x.h - top)) ?_ ?_
  · simp (maxDischargeDepth := 6) only [hb, hT, h1, hwb, hsl0, ruW, putL, Nat.reduceLeDiff, xF, ruU, entryE, Nat.reduceLT, Nat.reduceAdd, Nat.reduceMul, Nat.reduceEqDiff]
    refine joinR_normal ⟨rfl, ?_, ?_, ?_, ?_⟩ <;> simp only [ruU, entryE, Nat.reduceLT, Nat.reduceAdd, Nat.reduceMul, Nat.reduceEqDiff]
  rintro E X ⟨rfl, g0, g3, g4, g10⟩
  refine w_meet (fun E' H' => H' = X ∧ E' 0 = .pointer (some ⟨p.t, 0, none⟩) ∧ E' 3 = .int .i64 (k : Int) ∧ E' 4 = .bool up ∧ E' 10 = .slice (some ⟨p.rb, top, none⟩) m (x.h - top)) ?_ ?_
  · simp (maxDischargeDepth := 6) only [g0, g3, g4, g10, hmin, ruW, putL, Nat.reduceLeDiff, xF, ruU, entryE, Nat.reduceLT, Nat.reduceAdd, Nat.reduceMul, Nat.reduceEqDiff]
    refine joinR_normal ⟨rfl, ?_, ?_, ?_, ?_⟩ <;> simp only [g0, g3, g4, g10, hmin, ruU, entryE, Nat.reduceLT, Nat.reduceAdd, Nat.reduceMul, Nat.reduceEqDiff]
  clear g0 g3 g4 g10 E
  rintro E Y ⟨rfl, g0, g3, g4, g10⟩
  refine w_meet (fun E' H' => ∃ D c, Mod [p.rb] Y H' ∧ H'.next = Y.next ∧ List.length D = k ∧ bk H' p.rb = some ⟨42, true, (rollA p.rs top m k up ++ D ++ rollZ p.rs top m k up).map (rowV x.w)⟩ ∧ E' 0 = .pointer (some ⟨p.t, 0, none⟩) ∧ E' 10 = .slice (some ⟨p.rb, (rollA p.rs top m k up).length, none⟩) k c) ?_ ?_
  · rw [rollA_len p.rs up (by omega) hkm]
    cases up with
    | true =>
      obtain ⟨sv, V, e1, e2, e3, e4, e5⟩ := roll_up (X := Y) (n := k) (h := x.h) hR hrow hA hS hZ hkm hk1 hsc
      rw [show Y = ext Y [] from rfl] at e1
      rw [show V = ext V [] from rfl, show aBuiltin Tryd.prog Y = aBuiltin Tryd.prog (ext Y []) from rfl] at e2
      have e6 := sl_opn (P := Tryd.prog) (H := V) (n := p.rb) (off := top) (len := m) (cap := x.h - top) (hi := none) hu hsz (bound_nat (d := 0) (k := m - k)) rfl (by omega) (by omega) (by omega) e5 rfl
      rw [show V = ext V [] from rfl] at e6
      rw [show Y = ext Y [] from rfl]
      simp (maxDischargeDepth := 6) only [g0, g3, g4, g10, e1, e2, e6, hwk, ruW, putL, Nat.reduceLeDiff, xF, ruU, entryE, Nat.reduceLT, Nat.reduceAdd, Nat.reduceMul, Nat.reduceEqDiff]
      refine joinR_normal ⟨((p.rs.drop top).take m).drop (m - k), x.h - top - (m - k), e3, e4, by simp; omega, ?_, ?_, ?_⟩
      · rw [ext_nil, e5]; simp [rollA, rollZ]
      · simp only [g0, ruU, entryE, Nat.reduceLT, Nat.reduceAdd, Nat.reduceMul, Nat.reduceEqDiff]
      · simp only [ruU, entryE, Nat.reduceLT, Nat.reduceAdd, Nat.reduceMul, Nat.reduceEqDiff]
        rw [show m - (m - k) = k by omega, Nat.mul_one]
        rfl
    | false =>
      obtain ⟨sv, V, e1, ⟨kv, e2⟩, e3, e4, e5⟩ := roll_down (X := Y) (n := k) (h := x.h) hR hrow hA hS hZ hkm hk1 hsc
      rw [show Y = ext Y [] from rfl] at e1
      rw [show V = ext V [] from rfl, show aBuiltin Tryd.prog Y = aBuiltin Tryd.prog (ext Y []) from rfl] at e2
      have e6 := sl_opn (P := Tryd.prog) (H := V) (n := p.rb) (off := top) (len := m) (cap := x.h - top) (lo := none) hu hsz rfl (bound_nat (d := m) (k := k)) (by omega) (by omega) (by omega) e5 rfl
      rw [show V = ext V [] from rfl] at e6
      rw [show Y = ext Y [] from rfl]
      simp (maxDischargeDepth := 6) only [g0, g3, g4, g10, e1, e2, e6, hwk, ruW, putL, Nat.reduceLeDiff, xF, ruU, entryE, Nat.reduceLT, Nat.reduceAdd, Nat.reduceMul, Nat.reduceEqDiff]
      refine joinR_normal ⟨((p.rs.drop top).take m).take k, x.h - top - 0, e3, e4, by simp; omega, ?_, ?_, ?_⟩
      · rw [ext_nil, e5]; simp [rollA, rollZ]
      · simp only [g0, ruU, entryE, Nat.reduceLT, Nat.reduceAdd, Nat.reduceMul, Nat.reduceEqDiff]
      · simp only [ruU, entryE, Nat.reduceLT, Nat.reduceAdd, Nat.reduceMul, Nat.reduceEqDiff]
        rfl
  clear g0 g3 g4 g10 E
  rintro E X ⟨D, c, mX, nX, hD, hbX, g0, g10⟩
  have hRA : (rollA p.rs top m k up).length + k + (rollZ p.rs top m k up).length = x.h := by
    rw [rollA_len p.rs up (by omega) hkm, rollZ_len p.rs up (by omega) hkm]
    cases up <;> simp <;> omega
  have hgl : x.grid.length = x.h := rfl
  have htne : p.t ≠ p.rb := fun e => (List.nodup_cons.1 g.nd).1 (by rw [e]; simp)
  rw [show X = ext X [] from rfl]
  simp (maxDischargeDepth := 6) only [g0, g10, ruW, putL, Nat.reduceLeDiff, xF, ruU, entryE, Nat.reduceLT, Nat.reduceAdd, Nat.reduceMul, Nat.reduceEqDiff]
  refine w_env fun E' hE => ?_
  have f0 : E' 0 = .pointer (some ⟨p.t, 0, none⟩) := by rw [hE]; simp only [g0, ruU, entryE, Nat.reduceLT, Nat.reduceAdd, Nat.reduceMul, Nat.reduceEqDiff]
  have f10 : E' 10 = .slice (some ⟨p.rb, (rollA p.rs top m k up).length, none⟩) k c := by rw [hE]; simp only [g10, ruU, entryE, Nat.reduceLT, Nat.reduceAdd, Nat.reduceMul, Nat.reduceEqDiff]
  have f45 : E' 45 = .int .i64 (k : Int) := by rw [hE]; simp only [ruU, entryE, Nat.reduceLT, Nat.reduceAdd, Nat.reduceMul, Nat.reduceEqDiff]
  have f46 : E' 46 = .int .i64 ((0 : Nat) : Int) := by rw [hE]; (simp only [ruU, entryE, Nat.reduceLT, Nat.reduceAdd, Nat.reduceMul, Nat.reduceEqDiff] <;> rfl)
  clear hE g0 g10 E
  refine w_loop (fun (N : List (Nat × Bool)) E' H' => Mod [p.rb] Y H' ∧ N.length ≤ k ∧ bk H' p.rb = some ⟨42, true, (rollA p.rs top m k up ++ N ++ D.drop N.length ++ rollZ p.rs top m k up).map (rowV x.w)⟩ ∧ (∀ q ∈ N, Y.next ≤ q.1 ∧ q.1 < H'.next ∧ bk H' q.1 = some ⟨56, q.2, csOf (blankRow x.w)⟩) ∧ (N.map (·.1)).Nodup ∧ E' 0 = .pointer (some ⟨p.t, 0, none⟩) ∧ E' 10 = .slice (some ⟨p.rb, (rollA p.rs top m k up).length, none⟩) k c ∧ E' 45 = .int .i64 (k : Int) ∧ E' 46 = .int .i64 (N.length : Int)) (fun N => k - N.length) []
    ⟨mX, Nat.zero_le _, by rw [ext_nil]; simpa using hbX, by simp, by simp, f0, f10, f45, f46⟩ ?_
  clear f0 f10 f45 f46 mX nX hbX X E'
  rintro N E X ⟨mX, hN, hbX, hq, hnd, f0, f10, f45, f46⟩
  rw [show X = ext X [] from rfl]
  by_cases hNk : N.length = k
  · have hd : decide ((N.length : Int) < (k : Int)) = false := decide_eq_false (by omega)
    simp (maxDischargeDepth := 6) only [f0, f10, f45, f46, hd, Tryd.results35, ruW, putL, Nat.reduceLeDiff, xF, ruU, entryE, Nat.reduceLT, Nat.reduceAdd, Nat.reduceMul, Nat.reduceEqDiff]
    rw [show D.drop N.length = [] from List.drop_eq_nil_of_le (by omega), List.append_nil] at hbX
    refine ⟨trivial, { p with rs := rollA p.rs top m k up ++ N ++ rollZ p.rs top m k up }, ?_⟩
    have hG := rollG_eq x.w x.grid top bot n up
    rw [hm, hk] at hG
    rw [tm_roll, hG]
    have hrN : (List.replicate k (blankRow x.w)).length = N.length := by simp [hNk]
    have hlA : (rollA p.rs top m k up).length = (rollA x.grid top m k up).length := by
      rw [rollA_len p.rs up (by omega) hkm, rollA_len x.grid up (by omega) hkm]
    have hzip : (rollA p.rs top m k up ++ N ++ rollZ p.rs top m k up).zip (rollA x.grid top m k up ++ List.replicate k (blankRow x.w) ++ rollZ x.grid top m k up) = rollA (p.rs.zip x.grid) top m k up ++ N.zip (List.replicate k (blankRow x.w)) ++ rollZ (p.rs.zip x.grid) top m k up := by
      rw [List.zip_append (by simp only [List.length_append]; omega), List.zip_append hlA, rollA_zip _ _ _ _ _ _ (by omega), rollZ_zip _ _ _ _ _ _ (by omega)]
    have hsub := roll_sub (p.rs.zip x.grid) top m k up
    have hsub2 := roll_sub p.rs top m k up
    have hndr : (p.rs.map (·.1)).Nodup := by
      have hnd0 := g.nd
      simp only [Rp.blks] at hnd0
      exact (List.nodup_append.1 (List.nodup_append.1 (List.nodup_cons.1 (List.nodup_cons.1 hnd0).2).2).1).1
    have hold : ∀ q ∈ p.rs, q.1 < Y.next := fun q hq' => g.lt q.1 (by simp only [Rp.blks, List.mem_cons, List.mem_append, List.mem_map]; exact .inr (.inr (.inl (.inl ⟨q, hq', rfl⟩))))
    refine g.rerow (Y := ext X []) mX (rollA p.rs top m k up ++ N ++ rollZ p.rs top m k up) _ hbX ?_ ?_ ?_ ?_ ?_ ?_
    · simp only [List.length_append]; omega
    · simp only [List.length_append, List.length_replicate]
      rw [rollA_len x.grid up (by omega) hkm, rollZ_len x.grid up (by omega) hkm]
      cases up <;> simp <;> omega
    · intro z hz
      rw [hzip] at hz
      simp only [List.mem_append] at hz
      rcases hz with (hz | hz) | hz
      · exact .inl (hsub.mem (by simp [hz]))
      · have h2 := zip_get.1 hz
        obtain ⟨i, h3, h4⟩ := h2
        have h5 := hq z.1 (List.mem_of_getElem? h3)
        have h6 : z.2 = blankRow x.w := by
          have := List.mem_of_getElem? h4
          exact List.eq_of_mem_replicate this
        exact .inr ⟨h5.1, by rw [h6]; exact h5.2.2⟩
      · exact .inl (hsub.mem (by simp [hz]))
    · rw [List.map_append, List.map_append]
      refine nodup_mid ?_ hnd ?_
      · rw [← List.map_append]
        exact (hsub2.map _).nodup hndr
      · intro a ha hb'
        obtain ⟨q, hq', rfl⟩ := List.mem_map.1 ha
        rw [← List.map_append] at hb'
        obtain ⟨q2, hq2, e⟩ := List.mem_map.1 hb'
        have h7 := hold q2 (hsub2.mem hq2)
        have h8 := (hq q hq').1
        omega
    · intro q hq'
      simp only [List.mem_append] at hq'
      rcases hq' with (h | h) | h
      · exact .inl (hsub2.mem (by simp [h]))
      · exact .inr ⟨(hq q h).1, (hq q h).2.1⟩
      · exact .inl (hsub2.mem (by simp [h]))
    · have hne : 0 < (rollA x.grid top m k up ++ List.replicate k (blankRow x.w) ++ rollZ x.grid top m k up).length := by simp; omega
      have hall : ∀ l ∈ rollA x.grid top m k up ++ List.replicate k (blankRow x.w) ++ rollZ x.grid top m k up, l.length = x.w := by
        have hsub3 := roll_sub x.grid top m k up
        intro l hl
        simp only [List.mem_append] at hl
        rcases hl with (h | h) | h
        · exact s.ws l (hsub3.mem (by simp [h]))
        · rw [List.eq_of_mem_replicate h]; simp
        · exact s.ws l (hsub3.mem (by simp [h]))
      show ((rollA x.grid top m k up ++ List.replicate k (blankRow x.w) ++ rollZ x.grid top m k up).headD []).length = x.w
      generalize rollA x.grid top m k up ++ List.replicate k (blankRow x.w) ++ rollZ x.grid top m k up = L at hne hall
      cases L with
      | nil => simp at hne
      | cons a r => exact hall a (by simp)
  · have hlt : N.length < k := by omega
    have hd : decide ((N.length : Int) < (k : Int)) = true := decide_eq_true (by omega)
    have okX := mX.ok ok
    obtain ⟨xn, hxn⟩ : ∃ xn, X.next = xn := ⟨_, rfl⟩
    have hxb : X.base ≤ xn := hxn ▸ okX
    have hRx : p.rb < xn := hxn ▸ mX.lt hR
    have h1X : bk X p.t = some ⟨49, false, cellsT p x⟩ := (mX.bk (g.lt p.t (by simp [Rp.blks])) (by simp only [List.mem_singleton]; exact htne)).trans g.cell
    have hw := width_m X p x _ h1X hbX s.h1 (by intro e; have := congrArg List.length e; simp only [List.length_append, List.length_drop, List.length_nil] at this; omega)
    obtain ⟨d, hdd⟩ : ∃ d, D.drop N.length = d :: D.drop (N.length + 1) := ⟨_, List.drop_eq_getElem_cons (by omega)⟩
    have hia := rows_off (len := k) (cap := c) (n := p.rb) (off := (rollA p.rs top m k up).length) (s := none) (i := (N.length : Int)) (k := N.length) rfl hlt
    have hput : putL ((rollA p.rs top m k up ++ N ++ D.drop N.length ++ rollZ p.rs top m k up).map (rowV x.w)) ((rollA p.rs top m k up).length + N.length) [.slice (some ⟨xn + 0, 0, some 0⟩) x.w x.w] = (rollA p.rs top m k up ++ (N ++ [(xn + 0, false)]) ++ D.drop (N ++ [(xn + 0, false)]).length ++ rollZ p.rs top m k up).map (rowV x.w) := by
      have e1 : (rollA p.rs top m k up ++ N ++ D.drop N.length ++ rollZ p.rs top m k up).map (rowV x.w) = (rollA p.rs top m k up ++ N).map (rowV x.w) ++ (rowV x.w d :: (D.drop (N.length + 1) ++ rollZ p.rs top m k up).map (rowV x.w)) := by
        rw [hdd]; simp
      have e2 : (rollA p.rs top m k up).length + N.length = ((rollA p.rs top m k up ++ N).map (rowV x.w)).length := by simp
      rw [e1, e2, putL_at _ _ _ (by simp)]
      simp [rowV]
    have hst : ∀ v, v = .slice (some ⟨xn + 0, 0, some 0⟩) x.w x.w → stB Tryd.prog 42 (xn + 1) ((rollA p.rs top m k up).length + N.length) v (some ⟨42, true, (rollA p.rs top m k up ++ N ++ D.drop N.length ++ rollZ p.rs top m k up).map (rowV x.w)⟩) = some ⟨42, true, putL ((rollA p.rs top m k up ++ N ++ D.drop N.length ++ rollZ p.rs top m k up).map (rowV x.w)) ((rollA p.rs top m k up).length + N.length) [v]⟩ := by
      rintro v rfl
      exact stB_ok (v := .slice (some ⟨xn + 0, 0, some 0⟩) x.w x.w) (by exact hsz) (by simp only [List.length_map, List.length_append, List.length_drop, List.length_cons, List.length_nil, Value.cells]; omega) rfl (by simp only [Value.cells, scbL, scb, Bool.and_true]; exact blt_of (by omega))
    have hws := wrap_succ (show N.length < 1000000 by omega)
    simp (maxDischargeDepth := 6) only [f0, f10, f45, f46, hd, ruW, putL, Nat.reduceLeDiff, xF, ruU, entryE, Nat.reduceLT, Nat.reduceAdd, Nat.reduceMul, Nat.reduceEqDiff]
    refine (show CallS Tryd.prog 34 _ (ext X []) _ _ from hw).to ?_
    simp (maxDischargeDepth := 6) only [f0, f10, f45, f46, hd, ruW, putL, Nat.reduceLeDiff, xF, ruU, entryE, Nat.reduceLT, Nat.reduceAdd, Nat.reduceMul, Nat.reduceEqDiff]
    refine (blanks_c x.w s3 s2 (ext X [])).to ?_
    simp (maxDischargeDepth := 6) only [f0, f10, f45, f46, hd, hxn, hxb, hRx, hbX, hia, hst _ rfl, hws, ruW, putL, Nat.reduceLeDiff, xF, ruU, entryE, Nat.reduceLT, Nat.reduceAdd, Nat.reduceMul, Nat.reduceEqDiff]
    have mU : Mod [p.rb] X (uw X p.rb ((rollA p.rs top m k up).length + N.length) [.slice (some ⟨xn + 0, 0, some 0⟩) x.w x.w]) := Mod.uw (by simp)
    have hUn : (uw X p.rb ((rollA p.rs top m k up).length + N.length) [.slice (some ⟨xn + 0, 0, some 0⟩) x.w x.w]).next = xn := by rw [uw_next, hxn]
    refine loopC_next ⟨N ++ [(xn + 0, false)], by simp only [List.length_append, List.length_cons, List.length_nil]; omega, (mX.trans mU).trans (Mod.ext (mU.ok okX)), by simp only [List.length_append, List.length_cons, List.length_nil]; omega, ?_, ?_, ?_, ?_, ?_, ?_, ?_⟩
    · rw [bk_old (by rw [hUn]; exact hRx), bk_uw_eq, hbX, Option.map_some, putB_eq, hput]
    · intro q hq'
      rcases List.mem_append.1 hq' with h | h
      · obtain ⟨q1, q2, q3⟩ := hq q h
        refine ⟨q1, by rw [ext_next, hUn]; omega, ?_⟩
        rw [bk_old (by rw [hUn]; omega), bk_uw_ne (by have := hR; omega)]
        exact q3
      · simp only [List.mem_singleton] at h
        subst h
        refine ⟨by have := mX.next; omega, by rw [ext_next, hUn]; simp, ?_⟩
        rw [bk_at hUn (by simp)]
        rfl
    · rw [List.map_append]
      refine List.nodup_append.2 ⟨hnd, by simp, fun a ha b' hb' e => ?_⟩
      obtain ⟨q, hq', rfl⟩ := List.mem_map.1 ha
      simp only [List.map_cons, List.map_nil, List.mem_singleton] at hb'
      have := (hq q hq').2.1
      omega
    · simp only [f0, f10, f45, f46, ruU, entryE, Nat.reduceLT, Nat.reduceAdd, Nat.reduceMul, Nat.reduceEqDiff]
    · simp only [f0, f10, f45, f46, ruU, entryE, Nat.reduceLT, Nat.reduceAdd, Nat.reduceMul, Nat.reduceEqDiff]
    · simp only [f0, f10, f45, f46, ruU, entryE, Nat.reduceLT, Nat.reduceAdd, Nat.reduceMul, Nat.reduceEqDiff]
    · simp only [f0, f10, f45, f46, ruU, entryE, Nat.reduceLT, Nat.reduceAdd, Nat.reduceMul, Nat.reduceEqDiff, List.length_append, List.length_cons, List.length_nil]

end Go.Proofs.YtpohjcacnkhnkaaDoor

/- What eraseRow and eraseAll come to. -/
namespace Go.Proofs.YtpohjcacnkhnkaaDoor
open Go.Ax
set_option linter.unusedSimpArgs false
set_option maxRecDepth 10000

theorem int_dec {a b : Int} {d : Bool} (h : decide (a = b) = d) : a = b ↔ d = true := by rw [← h, decide_eq_true_iff]

theorem tm_width (x : Tm) : x.width = (x.w : Int) := rfl
theorem tm_height (x : Tm) : x.height = (x.h : Int) := rfl

theorem Tm.Sz.eraseRow {x : Tm} (s : x.Sz) (l : List Int) : (x.eraseRow l).Sz ∧ (x.eraseRow l).h = x.h ∧ (x.eraseRow l).w = x.w ∧ (x.eraseRow l).row = x.row := by
  obtain ⟨r, hr⟩ : ∃ r : Nat, x.row = r := ⟨x.row.toNat, by have := s.r1; omega⟩
  have hi := inside_rg s
  obtain ⟨i, hie⟩ : ∃ i : Nat, x.inside = i := ⟨x.inside.toNat, by omega⟩
  have hrh : r < x.h := by have := s.r2; omega
  unfold Tm.eraseRow
  rw [tm_width]
  split
  · rw [hr, hie]
    exact ⟨s.blank hrh (by omega) (by omega), (blank_hw s hrh (by omega) (by omega)).1, (blank_hw s hrh (by omega) (by omega)).2, hr⟩
  · split
    · rw [hr, hie, show ((i : Nat) : Int) + 1 = ((i + 1 : Nat) : Int) from by omega, show (0 : Int) = ((0 : Nat) : Int) from rfl]
      exact ⟨s.blank hrh (by omega) (by omega), (blank_hw s hrh (by omega) (by omega)).1, (blank_hw s hrh (by omega) (by omega)).2, hr⟩
    · split
      · rw [hr, show (0 : Int) = ((0 : Nat) : Int) from rfl]
        exact ⟨s.blank hrh (by omega) (by omega), (blank_hw s hrh (by omega) (by omega)).1, (blank_hw s hrh (by omega) (by omega)).2, hr⟩
      · exact ⟨s, rfl, rfl, rfl⟩

theorem eraseRow_c (H : AHeap) (p : Rp) (x : Tm) (v : Value) (l : List Int) (g : TmAt H p x) (s : x.Sz) (ok : H.base ≤ H.next) (hp : Pars H v l) : Does 58 [v] H p (.tuple #[]) (x.eraseRow l) := by
  obtain ⟨b, hb⟩ : ∃ b, H.next = b := ⟨_, rfl⟩
  have hT : p.t < b := hb ▸ g.lt p.t (by simp [Rp.blks])
  have h1 := g.cell
  simp only [cellsT] at h1
  have s1 := s.h2
  have s2 := s.w2
  obtain ⟨r, hr⟩ : ∃ r : Nat, x.row = r := ⟨x.row.toNat, by have := s.r1; omega⟩
  have hi := inside_rg s
  obtain ⟨i, hie⟩ : ∃ i : Nat, x.inside = i := ⟨x.inside.toNat, by omega⟩
  have hrh : r < x.h := by have := s.r2; omega
  obtain ⟨a, r', rfl⟩ : ∃ a r, l = a :: r := by cases l with | nil => exact absurd rfl hp.ne | cons a r => exact ⟨a, r, rfl⟩
  obtain ⟨n, off, hia, hnv, hne, hld⟩ := hp.at_.get (k := 0) (c := a) rfl
  rw [show ((0 : Nat) : Int) = 0 from rfl] at hia
  obtain ⟨d0, hd0⟩ : ∃ d, decide (a = 0) = d := ⟨_, rfl⟩
  obtain ⟨d1, hd1⟩ : ∃ d, decide (a = 1) = d := ⟨_, rfl⟩
  obtain ⟨d2, hd2⟩ : ∃ d, decide (a = 2) = d := ⟨_, rfl⟩
  have e0 := int_dec hd0
  have e1 := int_dec hd1
  have e2 := int_dec hd2
  have hw1 : IntKind.i64.wrap (x.inside + 1) = ((i + 1 : Nat) : Int) := by
    have := wrap_sm (n := x.inside + 1) (by omega) (by omega)
    rw [show IntKind.i64.wrap (x.inside + 1) = _ from this]; omega
  have hnb : n < b := hb ▸ hp.lt n hnv
  have key : x.eraseRow (a :: r') = cond d0 (x.blank r i x.w) (cond d1 (x.blank r (0 : Nat) (i + 1 : Nat)) (cond d2 (x.blank r (0 : Nat) x.w) x)) := by
    unfold Tm.eraseRow
    simp only [List.headD_cons, e0, e1, e2, hr, hie, tm_width]
    cases d0 <;> cases d1 <;> cases d2 <;> rfl
  rw [key]
  have hin : ∀ K, TmAt K p x → Pure 25 [.pointer (some ⟨p.t, 0, none⟩)] K (.int .i64 x.inside) := fun K gK => inside_c K p x gK s
  refine callE_fn mixed Tryd.func58 rfl Tryd.ntmps58 (Nat.le_of_ble_eq_true rfl) ?_
  cases d0 with
  | true =>
    simp (maxDischargeDepth := 6) only [hb, hia, hnb, hld, hd0, cond_true, ruW, putL, Nat.reduceLeDiff, xF, ruU, entryE, Nat.reduceLT, Nat.reduceAdd, Nat.reduceMul, Nat.reduceEqDiff]
    refine w_drawB [(10, 5), (10, 7), (10, 9)] [] (by kernel_rfl) (by kernel_rfl) rfl fun ops anc hA hG => ?_
    simp only [all2_cons] at hA
    simp (maxDischargeDepth := 6) only [hb, hT, h1, hA, ruD, ruW, putL, Nat.reduceLeDiff, xF, ruU, entryE, Nat.reduceLT, Nat.reduceAdd, Nat.reduceMul, Nat.reduceEqDiff]
    refine genV_quiet (v := .int .i64 x.inside) p.blks (by simp (maxDischargeDepth := 6) only [ruU, entryE, Nat.reduceLT, Nat.reduceAdd, Nat.reduceMul, Nat.reduceEqDiff]) (by kernel_rfl) (by decide) g.ne (fun K hn hg => ?_) (by simp (maxDischargeDepth := 6) only [ruD, ruW, putL, Nat.reduceLeDiff, xF, ruU, entryE, Nat.reduceLT, Nat.reduceAdd, Nat.reduceMul, Nat.reduceEqDiff]) ?_
    · simp only [ruU, entryE, Nat.reduceLT, Nat.reduceAdd, Nat.reduceMul, Nat.reduceEqDiff]
      exact hin K (g.of (by rw [hn]; exact Nat.le_refl _) hg)
    simp (maxDischargeDepth := 6) only [hb, hT, h1, hA, ruD, ruW, putL, Nat.reduceLeDiff, xF, ruU, entryE, Nat.reduceLT, Nat.reduceAdd, Nat.reduceMul, Nat.reduceEqDiff]
    refine genV_quiet (v := .int .i64 (x.w : Int)) p.blks (by simp (maxDischargeDepth := 6) only [ruU, entryE, Nat.reduceLT, Nat.reduceAdd, Nat.reduceMul, Nat.reduceEqDiff]) (by kernel_rfl) (by decide) g.ne (fun K hn hg => ?_) (by simp (maxDischargeDepth := 6) only [ruD, ruW, putL, Nat.reduceLeDiff, xF, ruU, entryE, Nat.reduceLT, Nat.reduceAdd, Nat.reduceMul, Nat.reduceEqDiff]) ?_
    · simp only [ruU, entryE, Nat.reduceLT, Nat.reduceAdd, Nat.reduceMul, Nat.reduceEqDiff]
      exact width_c K p x (g.of (by rw [hn]; exact Nat.le_refl _) hg) s
    simp (maxDischargeDepth := 6) only [hb, hT, h1, hA, ruD, ruW, putL, Nat.reduceLeDiff, xF, ruU, entryE, Nat.reduceLT, Nat.reduceAdd, Nat.reduceMul, Nat.reduceEqDiff]
    refine genV_last (as' := [.int .i64 x.row, .int .i64 x.inside, .int .i64 (x.w : Int)]) g ok (by simp only [ruU, entryE, Nat.reduceLT, Nat.reduceAdd, Nat.reduceMul, Nat.reduceEqDiff]) (by kernel_rfl) (by decide) (by simp only [ruU, entryE, Nat.reduceLT, Nat.reduceAdd, Nat.reduceMul, Nat.reduceEqDiff]) (by simp only [all2_cons, all2_nil, hA, true_or, and_true]) (fun G gG okG => by rw [hr, hie]; exact blank_g gG s okG hrh (by omega) (Nat.le_refl _)) fun H1 p1 st => ?_
    rw [show H1 = ext H1 [] from rfl]
    simp (maxDischargeDepth := 6) only [Tryd.results58, ruD, ruW, putL, Nat.reduceLeDiff, xF, ruU, entryE, Nat.reduceLT, Nat.reduceAdd, Nat.reduceMul, Nat.reduceEqDiff]
    exact ⟨p1, st⟩
  | false =>
    cases d1 with
    | true =>
      simp (maxDischargeDepth := 6) only [hb, hia, hnb, hld, hd0, hd1, cond_true, cond_false, ruW, putL, Nat.reduceLeDiff, xF, ruU, entryE, Nat.reduceLT, Nat.reduceAdd, Nat.reduceMul, Nat.reduceEqDiff]
      refine w_drawB [(9, 5), (9, 7)] [] (by kernel_rfl) (by kernel_rfl) rfl fun ops anc hA hG => ?_
      simp only [all2_cons] at hA
      simp (maxDischargeDepth := 6) only [hb, hT, h1, hA, ruD, ruW, putL, Nat.reduceLeDiff, xF, ruU, entryE, Nat.reduceLT, Nat.reduceAdd, Nat.reduceMul, Nat.reduceEqDiff]
      refine genV_quiet (v := .int .i64 x.inside) p.blks (by simp (maxDischargeDepth := 6) only [ruU, entryE, Nat.reduceLT, Nat.reduceAdd, Nat.reduceMul, Nat.reduceEqDiff]) (by kernel_rfl) (by decide) g.ne (fun K hn hg => ?_) (by simp (maxDischargeDepth := 6) only [ruD, ruW, putL, Nat.reduceLeDiff, xF, ruU, entryE, Nat.reduceLT, Nat.reduceAdd, Nat.reduceMul, Nat.reduceEqDiff]) ?_
      · simp only [ruU, entryE, Nat.reduceLT, Nat.reduceAdd, Nat.reduceMul, Nat.reduceEqDiff]
        exact hin K (g.of (by rw [hn]; exact Nat.le_refl _) hg)
      simp (maxDischargeDepth := 6) only [hb, hT, h1, hA, hw1, ruD, ruW, putL, Nat.reduceLeDiff, xF, ruU, entryE, Nat.reduceLT, Nat.reduceAdd, Nat.reduceMul, Nat.reduceEqDiff]
      refine genV_last (as' := [.int .i64 x.row, .int .i64 ((0 : Nat) : Int), .int .i64 ((i + 1 : Nat) : Int)]) g ok (by simp only [ruU, entryE, Nat.reduceLT, Nat.reduceAdd, Nat.reduceMul, Nat.reduceEqDiff]) (by kernel_rfl) (by decide) (by simp only [ruU, entryE, Nat.reduceLT, Nat.reduceAdd, Nat.reduceMul, Nat.reduceEqDiff] <;> rfl) (by simp only [all2_cons, all2_nil, hA, true_or, and_true]) (fun G gG okG => by rw [hr]; exact blank_g gG s okG hrh (by omega) (by omega)) fun H1 p1 st => ?_
      rw [show H1 = ext H1 [] from rfl]
      simp (maxDischargeDepth := 6) only [Tryd.results58, ruD, ruW, putL, Nat.reduceLeDiff, xF, ruU, entryE, Nat.reduceLT, Nat.reduceAdd, Nat.reduceMul, Nat.reduceEqDiff]
      exact ⟨p1, st⟩
    | false =>
      cases d2 with
      | true =>
        simp (maxDischargeDepth := 6) only [hb, hia, hnb, hld, hd0, hd1, hd2, cond_true, cond_false, ruW, putL, Nat.reduceLeDiff, xF, ruU, entryE, Nat.reduceLT, Nat.reduceAdd, Nat.reduceMul, Nat.reduceEqDiff]
        refine w_drawB [(8, 5), (8, 7)] [] (by kernel_rfl) (by kernel_rfl) rfl fun ops anc hA hG => ?_
        simp only [all2_cons] at hA
        simp (maxDischargeDepth := 6) only [hb, hT, h1, hA, ruD, ruW, putL, Nat.reduceLeDiff, xF, ruU, entryE, Nat.reduceLT, Nat.reduceAdd, Nat.reduceMul, Nat.reduceEqDiff]
        refine genV_quiet (v := .int .i64 (x.w : Int)) p.blks (by simp (maxDischargeDepth := 6) only [ruU, entryE, Nat.reduceLT, Nat.reduceAdd, Nat.reduceMul, Nat.reduceEqDiff]) (by kernel_rfl) (by decide) g.ne (fun K hn hg => ?_) (by simp (maxDischargeDepth := 6) only [ruD, ruW, putL, Nat.reduceLeDiff, xF, ruU, entryE, Nat.reduceLT, Nat.reduceAdd, Nat.reduceMul, Nat.reduceEqDiff]) ?_
        · simp only [ruU, entryE, Nat.reduceLT, Nat.reduceAdd, Nat.reduceMul, Nat.reduceEqDiff]
          exact width_c K p x (g.of (by rw [hn]; exact Nat.le_refl _) hg) s
        simp (maxDischargeDepth := 6) only [hb, hT, h1, hA, ruD, ruW, putL, Nat.reduceLeDiff, xF, ruU, entryE, Nat.reduceLT, Nat.reduceAdd, Nat.reduceMul, Nat.reduceEqDiff]
        refine genV_last (as' := [.int .i64 x.row, .int .i64 ((0 : Nat) : Int), .int .i64 (x.w : Int)]) g ok (by simp only [ruU, entryE, Nat.reduceLT, Nat.reduceAdd, Nat.reduceMul, Nat.reduceEqDiff]) (by kernel_rfl) (by decide) (by simp only [ruU, entryE, Nat.reduceLT, Nat.reduceAdd, Nat.reduceMul, Nat.reduceEqDiff] <;> rfl) (by simp only [all2_cons, all2_nil, hA, true_or, and_true]) (fun G gG okG => by rw [hr]; exact blank_g gG s okG hrh (by omega) (Nat.le_refl _)) fun H1 p1 st => ?_
        rw [show H1 = ext H1 [] from rfl]
        simp (maxDischargeDepth := 6) only [Tryd.results58, ruD, ruW, putL, Nat.reduceLeDiff, xF, ruU, entryE, Nat.reduceLT, Nat.reduceAdd, Nat.reduceMul, Nat.reduceEqDiff]
        exact ⟨p1, st⟩
      | false =>
        simp (maxDischargeDepth := 6) only [hb, hia, hnb, hld, hd0, hd1, hd2, cond_true, cond_false, Tryd.results58, ruW, putL, Nat.reduceLeDiff, xF, ruU, entryE, Nat.reduceLT, Nat.reduceAdd, Nat.reduceMul, Nat.reduceEqDiff]
        exact ⟨trivial, p, Step.refl g⟩

end Go.Proofs.YtpohjcacnkhnkaaDoor

/- What eraseAll comes to. -/
namespace Go.Proofs.YtpohjcacnkhnkaaDoor
open Go.Ax
set_option linter.unusedSimpArgs false
set_option maxRecDepth 10000

def Tm.eraseOne (l : List Int) (i : Nat) (t : Tm) : Tm :=
  if (i < t.row ∧ (l.headD 0 = 1 ∨ l.headD 0 = 2)) ∨ (i > t.row ∧ (l.headD 0 = 0 ∨ l.headD 0 = 2)) then t.blank i (0 : Nat) t.w else t
theorem eraseRows_step (l : List Int) (i k : Nat) (t : Tm) : Tm.eraseRows l i (k + 1) t = Tm.eraseRows l (i + 1) k (t.eraseOne l i) := rfl
theorem Tm.Sz.eraseOne {x : Tm} (s : x.Sz) (l : List Int) {i : Nat} (hi : i < x.h) : (x.eraseOne l i).Sz ∧ (x.eraseOne l i).h = x.h ∧ (x.eraseOne l i).w = x.w ∧ (x.eraseOne l i).row = x.row := by
  unfold Tm.eraseOne
  split
  · exact ⟨s.blank hi (Nat.zero_le _) (Nat.le_refl _), (blank_hw s hi (Nat.zero_le _) (Nat.le_refl _)).1, (blank_hw s hi (Nat.zero_le _) (Nat.le_refl _)).2, rfl⟩
  · exact ⟨s, rfl, rfl, rfl⟩
theorem Tm.Sz.eraseRows (l : List Int) : ∀ (k i : Nat) {x : Tm}, x.Sz → i + k ≤ x.h → (Tm.eraseRows l i k x).Sz
  | 0, _, _, s, _ => s
  | k + 1, i, x, s, h => by
    rw [eraseRows_step]
    obtain ⟨a, b, _, _⟩ := s.eraseOne l (i := i) (by omega)
    exact Tm.Sz.eraseRows l k (i + 1) a (by omega)
theorem Tm.Sz.eraseAll {x : Tm} (s : x.Sz) (l : List Int) : (x.eraseAll l).Sz := by
  obtain ⟨a, b, _, _⟩ := s.eraseRow l
  exact Tm.Sz.eraseRows l _ _ a (by rw [b]; simp [Tm.h])

set_option maxHeartbeats 2000000 in
theorem eraseAll_c (H : AHeap) (p : Rp) (x : Tm) (v : Value) (l : List Int) (g : TmAt H p x) (s : x.Sz) (ok : H.base ≤ H.next) (hp : Pars H v l) (hv : ∀ n ∈ idsV v, n ∉ p.blks) : Does 57 [v] H p (.tuple #[]) (x.eraseAll l) := by
  have s1 := s.h2
  have s2 := s.w2
  obtain ⟨a, r', rfl⟩ : ∃ a r, l = a :: r := by cases l with | nil => exact absurd rfl hp.ne | cons a r => exact ⟨a, r, rfl⟩
  obtain ⟨n, off, hia, hnv, hne, hld⟩ := hp.at_.get (k := 0) (c := a) rfl
  rw [show ((0 : Nat) : Int) = 0 from rfl] at hia
  obtain ⟨d0, hd0⟩ : ∃ d, decide (a = 0) = d := ⟨_, rfl⟩
  obtain ⟨d1, hd1⟩ : ∃ d, decide (a = 1) = d := ⟨_, rfl⟩
  obtain ⟨d2, hd2⟩ : ∃ d, decide (a = 2) = d := ⟨_, rfl⟩
  have e0 := int_dec hd0
  have e1 := int_dec hd1
  have e2 := int_dec hd2
  obtain ⟨sA, hA, wA, rA⟩ := s.eraseRow (a :: r')
  refine callE_fn mixed Tryd.func57 rfl Tryd.ntmps57 (Nat.le_of_ble_eq_true rfl) ?_
  simp (maxDischargeDepth := 6) only [ruW, putL, Nat.reduceLeDiff, xF, ruU, entryE, Nat.reduceLT, Nat.reduceAdd, Nat.reduceMul, Nat.reduceEqDiff]
  refine (eraseRow_c (ext H []) p x v (a :: r') g s ok hp).mono ?_
  rintro _ H1 ⟨rfl, p1, st⟩
  rw [ext_nil] at st
  rw [show H1 = ext H1 [] from rfl]
  have hT1 : p.t < H1.next := st.same ▸ st.at_.lt p1.t (by simp [Rp.blks])
  have h1 := st.at_.cell
  rw [st.same] at h1
  simp only [cellsT, hA] at h1
  simp (maxDischargeDepth := 6) only [hT1, h1, ruW, putL, Nat.reduceLeDiff, xF, ruU, entryE, Nat.reduceLT, Nat.reduceAdd, Nat.reduceMul, Nat.reduceEqDiff]
  refine w_env fun E hE => ?_
  have g0 : E 0 = .pointer (some ⟨p.t, 0, none⟩) := by rw [hE]; simp only [ruU, entryE, Nat.reduceLT, Nat.reduceAdd, Nat.reduceMul, Nat.reduceEqDiff]
  have g1 : E 1 = v := by rw [hE]; simp only [ruU, entryE, Nat.reduceLT, Nat.reduceAdd, Nat.reduceMul, Nat.reduceEqDiff]
  have g12 : E 12 = .int .i64 (x.h : Int) := by rw [hE]; simp only [ruU, entryE, Nat.reduceLT, Nat.reduceAdd, Nat.reduceMul, Nat.reduceEqDiff]
  have g13 : E 13 = .int .i64 ((0 : Nat) : Int) := by rw [hE]; (simp only [ruU, entryE, Nat.reduceLT, Nat.reduceAdd, Nat.reduceMul, Nat.reduceEqDiff] <;> rfl)
  clear hE h1 hT1
  refine w_loop (fun (q : Nat × Tm × Rp) E' H' => Step H p H' q.2.2 q.2.1 ∧ q.2.1.Sz ∧ q.2.1.h = x.h ∧ q.2.1.w = x.w ∧ q.2.1.row = x.row ∧ q.1 ≤ x.h ∧ Tm.eraseRows (a :: r') q.1 (x.h - q.1) q.2.1 = x.eraseAll (a :: r') ∧ E' 0 = .pointer (some ⟨p.t, 0, none⟩) ∧ E' 1 = v ∧ E' 12 = .int .i64 (x.h : Int) ∧ E' 13 = .int .i64 (q.1 : Int)) (fun q => x.h - q.1) (0, x.eraseRow (a :: r'), p1)
    ⟨st, sA, hA, wA, rA, Nat.zero_le _, rfl, g0, g1, g12, g13⟩ ?_
  clear g0 g1 g12 g13 st sA hA wA rA p1 H1 E
  rintro ⟨i, y, p1⟩ E X ⟨st, sy, hy, wy, ry, hi, hfin, g0, g1, g12, g13⟩
  simp only at st sy hy wy ry hi hfin g13
  have okX := st.ok ok
  rw [show X = ext X [] from rfl]
  by_cases hih : i = x.h
  · have hd : decide ((i : Int) < (x.h : Int)) = false := decide_eq_false (by omega)
    simp (maxDischargeDepth := 6) only [g12, g13, hd, Tryd.results57, ruW, putL, Nat.reduceLeDiff, xF, ruU, entryE, Nat.reduceLT, Nat.reduceAdd, Nat.reduceMul, Nat.reduceEqDiff]
    rw [hih, Nat.sub_self] at hfin
    rw [← hfin]
    exact ⟨trivial, p1, st⟩
  · have hd : decide ((i : Int) < (x.h : Int)) = true := decide_eq_true (by omega)
    have hilt : i < x.h := by omega
    obtain ⟨b, hb⟩ : ∃ b, X.next = b := ⟨_, rfl⟩
    have hT : p.t < b := hb ▸ st.same ▸ st.at_.lt p1.t (by simp [Rp.blks])
    have hnb : n < b := hb ▸ Nat.lt_of_lt_of_le (hp.lt n hnv) st.mod.next
    have hldX : ldB Tryd.prog 3 off (bk X n) = some (.int .i64 a) := by rw [st.mod.bk (hp.lt n hnv) (hv n hnv)]; exact hld
    have h1 := st.at_.cell
    rw [st.same] at h1
    simp only [cellsT] at h1
    obtain ⟨dl, hdl⟩ : ∃ d, decide ((i : Int) < y.row) = d := ⟨_, rfl⟩
    obtain ⟨dg, hdg⟩ : ∃ d, decide (y.row < (i : Int)) = d := ⟨_, rfl⟩
    have el : (i : Int) < y.row ↔ dl = true := by rw [← hdl, decide_eq_true_iff]
    have eg : y.row < (i : Int) ↔ dg = true := by rw [← hdg, decide_eq_true_iff]
    have hone : y.eraseOne (a :: r') i = cond ((dl && (d1 || d2)) || (dg && (d0 || d2))) (y.blank i (0 : Nat) y.w) y := by
      unfold Tm.eraseOne
      simp only [List.headD_cons, gt_iff_lt, el, eg, e0, e1, e2]
      cases dl <;> cases dg <;> cases d0 <;> cases d1 <;> cases d2 <;> rfl
    obtain ⟨sO, hO, wO, rO⟩ := sy.eraseOne (a :: r') (i := i) (by omega)
    have hstep : Tm.eraseRows (a :: r') (i + 1) (x.h - (i + 1)) (y.eraseOne (a :: r') i) = x.eraseAll (a :: r') := by
      rw [← hfin, show x.h - i = (x.h - (i + 1)) + 1 by omega, eraseRows_step]
    have hW : CallS Tryd.prog 34 [.pointer (some ⟨p.t, 0, none⟩)] (ext X []) (.ok (.int .i64 (y.w : Int))) (ext X []) := by
      rw [← st.same]; exact width_c X p1 y st.at_ sy
    have hB : CallA Tryd.prog 49 [.pointer (some ⟨p.t, 0, none⟩), .int .i64 (i : Int), .int .i64 0, .int .i64 (y.w : Int)] (ext X []) (fun out H1 => out = .ok (.tuple #[]) ∧ ∃ p2, Step X p1 H1 p2 (y.blank i (0 : Nat) y.w)) := by
      rw [← st.same]; exact blank_g st.at_ sy okX (by omega) (Nat.zero_le _) (Nat.le_refl _)
    have hws := wrap_succ (show i < 1000000 by omega)
    cases dl <;> cases dg <;> cases d0 <;> cases d1 <;> cases d2 <;> first
      | (exfalso; first | (have q1 := el.2 rfl; have q2 := eg.2 rfl; omega) | (have q1 := e0.2 rfl; have q2 := e1.2 rfl; omega) | (have q1 := e0.2 rfl; have q2 := e2.2 rfl; omega) | (have q1 := e1.2 rfl; have q2 := e2.2 rfl; omega))
      | (simp (maxDischargeDepth := 6) only [g0, g1, g12, g13, hd, hws, hb, hT, h1, hia, hnb, hldX, hdl, hdg, hd0, hd1, hd2, ruW, putL, Nat.reduceLeDiff, xF, ruU, entryE, Nat.reduceLT, Nat.reduceAdd, Nat.reduceMul, Nat.reduceEqDiff]
         refine loopC_next ⟨(i + 1, y.eraseOne (a :: r') i, p1), by simp only; omega, by rw [hone]; exact st, sO, hO.trans hy, wO.trans wy, rO.trans ry, by simp only; omega, hstep, ?_, ?_, ?_, ?_⟩ <;> simp only [g0, g1, g12, g13, ruU, entryE, Nat.reduceLT, Nat.reduceAdd, Nat.reduceMul, Nat.reduceEqDiff])
      | (simp (maxDischargeDepth := 6) only [g0, g1, g12, g13, hd, hws, hb, hT, h1, hia, hnb, hldX, hdl, hdg, hd0, hd1, hd2, ruW, putL, Nat.reduceLeDiff, xF, ruU, entryE, Nat.reduceLT, Nat.reduceAdd, Nat.reduceMul, Nat.reduceEqDiff]
         refine hW.to ?_
         simp (maxDischargeDepth := 6) only [g0, g1, g12, g13, hd, hws, hb, hT, h1, hia, hnb, hldX, hdl, hdg, hd0, hd1, hd2, ruW, putL, Nat.reduceLeDiff, xF, ruU, entryE, Nat.reduceLT, Nat.reduceAdd, Nat.reduceMul, Nat.reduceEqDiff]
         refine hB.mono ?_
         rintro _ Y ⟨rfl, p2, st2⟩
         rw [show Y = ext Y [] from rfl]
         simp (maxDischargeDepth := 6) only [g0, g1, g12, g13, hws, ruW, putL, Nat.reduceLeDiff, xF, ruU, entryE, Nat.reduceLT, Nat.reduceAdd, Nat.reduceMul, Nat.reduceEqDiff]
         refine loopC_next ⟨(i + 1, y.eraseOne (a :: r') i, p2), by simp only; omega, by rw [hone]; exact st.trans ok st2, sO, hO.trans hy, wO.trans wy, rO.trans ry, by simp only; omega, hstep, ?_, ?_, ?_, ?_⟩ <;> simp only [g0, g1, g12, g13, ruU, entryE, Nat.reduceLT, Nat.reduceAdd, Nat.reduceMul, Nat.reduceEqDiff])

end Go.Proofs.YtpohjcacnkhnkaaDoor

/- Lines inserted and removed, the scrolling region, the control characters. -/
namespace Go.Proofs.YtpohjcacnkhnkaaDoor
open Go.Ax
set_option linter.unusedSimpArgs false
set_option maxRecDepth 10000

theorem roll_hw {x : Tm} (s : x.Sz) {top bot n : Nat} (up : Bool) (h1 : top ≤ bot) (h2 : bot < x.h) : (x.roll top bot n up).h = x.h ∧ (x.roll top bot n up).w = x.w ∧ (∀ l ∈ (x.roll top bot n up).grid, l.length = x.w ∧ (l.getD 0 sp).rune ≠ -1) := by
  have hgl : x.grid.length = x.h := rfl
  have hall : ∀ l ∈ (x.roll top bot n up).grid, l.length = x.w ∧ (l.getD 0 sp).rune ≠ -1 := by
    have hsub := roll_sub x.grid top (bot + 1 - top) (min n (bot + 1 - top)) up
    rw [tm_roll, rollG_eq]
    intro l hl
    simp only [List.mem_append] at hl
    rcases hl with (h | h) | h
    · have := hsub.mem (a := l) (by simp [h]); exact ⟨s.ws l this, s.hd l this⟩
    · rw [List.eq_of_mem_replicate h]
      refine ⟨by simp, ?_⟩
      have := s.w1
      obtain ⟨w, hw⟩ : ∃ w, x.w = w + 1 := ⟨x.w - 1, by omega⟩
      rw [hw]
      simp [List.replicate_succ, sp_rune]
    · have := hsub.mem (a := l) (by simp [h]); exact ⟨s.ws l this, s.hd l this⟩
  have hlen : (x.roll top bot n up).grid.length = x.h := by
    rw [tm_roll, rollG_eq]
    simp only [List.length_append, List.length_replicate]
    rw [rollA_len x.grid up (by omega) (by omega), rollZ_len x.grid up (by omega) (by omega)]
    cases up <;> simp <;> omega
  refine ⟨hlen, ?_, hall⟩
  have h1 := s.h1
  show ((x.roll top bot n up).grid.headD []).length = x.w
  generalize (x.roll top bot n up).grid = L at hall hlen
  cases L with
  | nil => simp at hlen; omega
  | cons a r => exact (hall a (by simp)).1
theorem Tm.Sz.roll {x : Tm} (s : x.Sz) {top bot n : Nat} (up : Bool) (h1 : top ≤ bot) (h2 : bot < x.h) : (x.roll top bot n up).Sz := by
  obtain ⟨e1, e2, e3⟩ := roll_hw (n := n) s up h1 h2
  exact ⟨by rw [e1]; exact s.h1, by rw [e1]; exact s.h2, by rw [e2]; exact s.w1, by rw [e2]; exact s.w2, fun r hr => by rw [e2]; exact (e3 r hr).1, s.r1, by rw [e1]; exact s.r2, s.c1, by rw [e2]; exact s.c2, s.sr1, by rw [e1]; exact s.sr2, s.sc1, by rw [e2]; exact s.sc2, s.t1, s.t2, by rw [e1]; exact s.t3, s.md, fun r hr => (e3 r hr).2⟩
theorem Tm.Sz.lines {x : Tm} (s : x.Sz) (n : Nat) (up : Bool) : (x.lines n up).Sz := by
  unfold Tm.lines
  split
  · rename_i h
    obtain ⟨r, hr⟩ : ∃ r : Nat, x.row = r := ⟨x.row.toNat, by have := s.r1; omega⟩
    obtain ⟨b, hb⟩ : ∃ b : Nat, x.bottom = b := ⟨x.bottom.toNat, by have := s.t1; have := s.t2; omega⟩
    rw [hr, hb]
    have := s.t3
    exact s.roll up (by omega) (by omega)
  · exact s

theorem lines_c (H : AHeap) (p : Rp) (x : Tm) (n : Nat) (up : Bool) (g : TmAt H p x) (s : x.Sz) (ok : H.base ≤ H.next) (hn1 : 1 ≤ n) (hn2 : n ≤ 10000) : Does 67 [.int .i64 (n : Int), .bool up] H p (.tuple #[]) (x.lines n up) := by
  obtain ⟨b, hb⟩ : ∃ b, H.next = b := ⟨_, rfl⟩
  have hT : p.t < b := hb ▸ g.lt p.t (by simp [Rp.blks])
  have h1 := g.cell
  simp only [cellsT] at h1
  obtain ⟨r, hr⟩ : ∃ r : Nat, x.row = r := ⟨x.row.toNat, by have := s.r1; omega⟩
  obtain ⟨bo, hbo⟩ : ∃ b : Nat, x.bottom = b := ⟨x.bottom.toNat, by have := s.t1; have := s.t2; omega⟩
  obtain ⟨d1, hd1⟩ : ∃ d, decide (x.top ≤ x.row) = d := ⟨_, rfl⟩
  obtain ⟨d2, hd2⟩ : ∃ d, decide (x.row ≤ x.bottom) = d := ⟨_, rfl⟩
  have e1 : x.row ≥ x.top ↔ d1 = true := by rw [← hd1, decide_eq_true_iff]
  have e2 : x.row ≤ x.bottom ↔ d2 = true := by rw [← hd2, decide_eq_true_iff]
  have key : x.lines n up = cond (d1 && d2) (x.roll r bo n up) x := by
    unfold Tm.lines
    simp only [e1, e2]
    rw [hr, hbo]
    cases d1 <;> cases d2 <;> rfl
  rw [key]
  refine callE_fn mixed Tryd.func67 rfl Tryd.ntmps67 (Nat.le_of_ble_eq_true rfl) ?_
  simp (maxDischargeDepth := 6) only [ruW, putL, Nat.reduceLeDiff, xF, ruU, entryE, Nat.reduceLT, Nat.reduceAdd, Nat.reduceMul, Nat.reduceEqDiff]
  refine w_drawB [] [(10, 16)] (by kernel_rfl) rfl (by kernel_rfl) fun ops anc hA hG => ?_
  simp only [all2_cons] at hG
  cases d1 with
  | false =>
    simp (maxDischargeDepth := 6) only [hb, hT, h1, hd1, hG, Bool.false_and, cond_false, Tryd.results67, ruD, ruW, putL, Nat.reduceLeDiff, xF, ruU, entryE, Nat.reduceLT, Nat.reduceAdd, Nat.reduceMul, Nat.reduceEqDiff]
    exact ⟨p, Step.refl g⟩
  | true =>
    cases d2 with
    | false =>
      simp (maxDischargeDepth := 6) only [hb, hT, h1, hd1, hd2, hG, Bool.true_and, cond_false, Tryd.results67, ruD, ruW, putL, Nat.reduceLeDiff, xF, ruU, entryE, Nat.reduceLT, Nat.reduceAdd, Nat.reduceMul, Nat.reduceEqDiff]
      exact ⟨p, Step.refl g⟩
    | true =>
      simp (maxDischargeDepth := 6) only [hb, hT, h1, hd1, hd2, hG, Bool.true_and, cond_true, ruD, ruW, putL, Nat.reduceLeDiff, xF, ruU, entryE, Nat.reduceLT, Nat.reduceAdd, Nat.reduceMul, Nat.reduceEqDiff]
      refine w_drawB [(12, 5), (12, 9)] [] (by kernel_rfl) (by kernel_rfl) rfl fun ops anc hA hG => ?_
      simp only [all2_cons] at hA
      simp (maxDischargeDepth := 6) only [hb, hT, h1, hA, ruD, ruW, putL, Nat.reduceLeDiff, xF, ruU, entryE, Nat.reduceLT, Nat.reduceAdd, Nat.reduceMul, Nat.reduceEqDiff]
      refine genV_last (as' := [.int .i64 x.row, .int .i64 x.bottom, .int .i64 (n : Int), .bool up]) g ok (by simp only [ruU, entryE, Nat.reduceLT, Nat.reduceAdd, Nat.reduceMul, Nat.reduceEqDiff]) (by kernel_rfl) (by decide) (by simp only [ruU, entryE, Nat.reduceLT, Nat.reduceAdd, Nat.reduceMul, Nat.reduceEqDiff]) (by simp only [all2_cons, all2_nil, hA, true_or, and_true]) (fun G gG okG => by rw [hr, hbo]; exact roll_c G p x r bo n up gG s okG (by have := e2.2 rfl; omega) (by have := s.t3; omega) hn1 hn2) fun H1 p1 st => ?_
      rw [show H1 = ext H1 [] from rfl]
      simp (maxDischargeDepth := 6) only [Tryd.results67, ruD, ruW, putL, Nat.reduceLeDiff, xF, ruU, entryE, Nat.reduceLT, Nat.reduceAdd, Nat.reduceMul, Nat.reduceEqDiff]
      exact ⟨p1, st⟩

theorem insert_c (H : AHeap) (p : Rp) (x : Tm) (v : Value) (l : List Int) (g : TmAt H p x) (s : x.Sz) (ok : H.base ≤ H.next) (hp : Pars H v l) : Does 59 [v] H p (.tuple #[]) (x.lines (count l) false) := by
  have hc := hp.count
  obtain ⟨n, hn⟩ : ∃ n : Nat, count l = n := ⟨(count l).toNat, by omega⟩
  refine callE_fn mixed Tryd.func59 rfl Tryd.ntmps59 (Nat.le_of_ble_eq_true rfl) ?_
  simp (maxDischargeDepth := 6) only [ruW, putL, Nat.reduceLeDiff, xF, ruU, entryE, Nat.reduceLT, Nat.reduceAdd, Nat.reduceMul, Nat.reduceEqDiff]
  refine (count_c (ext H []) v l hp.at_ hp.ne).to ?_
  rw [hn]
  simp (maxDischargeDepth := 6) only [ruW, putL, Nat.reduceLeDiff, xF, ruU, entryE, Nat.reduceLT, Nat.reduceAdd, Nat.reduceMul, Nat.reduceEqDiff]
  refine (lines_c (ext H []) p x n false g s ok (by omega) (by omega)).mono ?_
  rintro _ H1 ⟨rfl, p1, st⟩
  rw [show H1 = ext H1 [] from rfl]
  simp (maxDischargeDepth := 6) only [Tryd.results59, ruW, putL, Nat.reduceLeDiff, xF, ruU, entryE, Nat.reduceLT, Nat.reduceAdd, Nat.reduceMul, Nat.reduceEqDiff]
  exact ⟨trivial, p1, st⟩
theorem remove_c (H : AHeap) (p : Rp) (x : Tm) (v : Value) (l : List Int) (g : TmAt H p x) (s : x.Sz) (ok : H.base ≤ H.next) (hp : Pars H v l) : Does 60 [v] H p (.tuple #[]) (x.lines (count l) true) := by
  have hc := hp.count
  obtain ⟨n, hn⟩ : ∃ n : Nat, count l = n := ⟨(count l).toNat, by omega⟩
  refine callE_fn mixed Tryd.func60 rfl Tryd.ntmps60 (Nat.le_of_ble_eq_true rfl) ?_
  simp (maxDischargeDepth := 6) only [ruW, putL, Nat.reduceLeDiff, xF, ruU, entryE, Nat.reduceLT, Nat.reduceAdd, Nat.reduceMul, Nat.reduceEqDiff]
  refine (count_c (ext H []) v l hp.at_ hp.ne).to ?_
  rw [hn]
  simp (maxDischargeDepth := 6) only [ruW, putL, Nat.reduceLeDiff, xF, ruU, entryE, Nat.reduceLT, Nat.reduceAdd, Nat.reduceMul, Nat.reduceEqDiff]
  refine (lines_c (ext H []) p x n true g s ok (by omega) (by omega)).mono ?_
  rintro _ H1 ⟨rfl, p1, st⟩
  rw [show H1 = ext H1 [] from rfl]
  simp (maxDischargeDepth := 6) only [Tryd.results60, ruW, putL, Nat.reduceLeDiff, xF, ruU, entryE, Nat.reduceLT, Nat.reduceAdd, Nat.reduceMul, Nat.reduceEqDiff]
  exact ⟨trivial, p1, st⟩

theorem Tm.Sz.reg {x : Tm} (s : x.Sz) (a b : Int) (h1 : 0 ≤ a) (h2 : a ≤ b) (h3 : b < x.h) : Tm.Sz { x with top := a, bottom := b } :=
  ⟨s.h1, s.h2, s.w1, s.w2, s.ws, s.r1, s.r2, s.c1, s.c2, s.sr1, s.sr2, s.sc1, s.sc2, h1, h2, h3, s.md, s.hd⟩
def regB (x : Tm) (l : List Int) : Int := if snd l - 1 < 0 ∨ snd l - 1 ≥ x.height then x.height - 1 else snd l - 1
theorem regB_lt {x : Tm} (s : x.Sz) (l : List Int) : regB x l < x.h := by
  unfold regB
  rw [tm_height]
  split
  · omega
  · rename_i h; omega
theorem tm_region (x : Tm) (l : List Int) : x.region l = if count l - 1 ≤ regB x l then Tm.moveTo { x with top := count l - 1, bottom := regB x l } 0 0 else x := rfl
theorem Tm.Sz.region {x : Tm} (s : x.Sz) (l : List Int) : (x.region l).Sz := by
  rw [tm_region]
  split
  · rename_i h
    refine (s.reg _ _ ?_ h (regB_lt s l)).moveTo 0 0
    simp only [count]; omega
  · exact s

theorem region_c (H : AHeap) (p : Rp) (x : Tm) (v : Value) (l : List Int) (g : TmAt H p x) (s : x.Sz) (ok : H.base ≤ H.next) (hp : Pars H v l) : Does 62 [v] H p (.tuple #[]) (x.region l) := by
  obtain ⟨b, hb⟩ : ∃ b, H.next = b := ⟨_, rfl⟩
  have hT : p.t < b := hb ▸ g.lt p.t (by simp [Rp.blks])
  have h1 := g.cell
  simp only [cellsT] at h1
  have hc := hp.count
  have hsn := hp.snd
  have s1 := s.h2
  have s0 := s.h1
  have hw1 : IntKind.i64.wrap (count l - 1) = count l - 1 := wrap_sm (by omega) (by omega)
  have hw2 : IntKind.i64.wrap (snd l - 1) = snd l - 1 := wrap_sm (by omega) (by omega)
  have hw3 : IntKind.i64.wrap ((x.h : Int) - 1) = (x.h : Int) - 1 := wrap_sm (by omega) (by omega)
  obtain ⟨d1, hd1⟩ : ∃ d, decide (snd l - 1 < 0) = d := ⟨_, rfl⟩
  obtain ⟨d2, hd2⟩ : ∃ d, decide ((x.h : Int) ≤ snd l - 1) = d := ⟨_, rfl⟩
  have e1 : snd l - 1 < 0 ↔ d1 = true := by rw [← hd1, decide_eq_true_iff]
  have e2 : snd l - 1 ≥ (x.h : Int) ↔ d2 = true := by rw [← hd2, decide_eq_true_iff]
  have hB : regB x l = cond (d1 || d2) ((x.h : Int) - 1) (snd l - 1) := by
    unfold regB
    simp only [tm_height, e1, e2]
    cases d1 <;> cases d2 <;> rfl
  obtain ⟨B, hBe⟩ : ∃ B, regB x l = B := ⟨_, rfl⟩
  have hBl := regB_lt s l
  obtain ⟨d3, hd3⟩ : ∃ d, decide (count l - 1 ≤ B) = d := ⟨_, rfl⟩
  have e3 : count l - 1 ≤ B ↔ d3 = true := by rw [← hd3, decide_eq_true_iff]
  rw [tm_region]
  rw [hBe] at hB hBl ⊢
  have key : (if count l - 1 ≤ B then Tm.moveTo { x with top := count l - 1, bottom := B } 0 0 else x) = cond d3 (Tm.moveTo { x with top := count l - 1, bottom := B } 0 0) x := by
    simp only [e3]
    cases d3 <;> rfl
  rw [key]
  refine callE_fn mixed Tryd.func62 rfl Tryd.ntmps62 (Nat.le_of_ble_eq_true rfl) ?_
  refine w_meet (fun E' H' => H' = H ∧ E' 0 = .pointer (some ⟨p.t, 0, none⟩) ∧ E' 4 = .int .i64 (count l - 1) ∧ E' 5 = .int .i64 (snd l - 1)) ?_ ?_
  · simp (maxDischargeDepth := 6) only [ruW, putL, Nat.reduceLeDiff, xF, ruU, entryE, Nat.reduceLT, Nat.reduceAdd, Nat.reduceMul, Nat.reduceEqDiff]
    refine (count_c (ext H []) v l hp.at_ hp.ne).to ?_
    simp (maxDischargeDepth := 6) only [hw1, ruW, putL, Nat.reduceLeDiff, xF, ruU, entryE, Nat.reduceLT, Nat.reduceAdd, Nat.reduceMul, Nat.reduceEqDiff]
    refine (second_c (ext H []) v l hp.at_).to ?_
    simp (maxDischargeDepth := 6) only [hw1, hw2, ruW, putL, Nat.reduceLeDiff, xF, ruU, entryE, Nat.reduceLT, Nat.reduceAdd, Nat.reduceMul, Nat.reduceEqDiff]
    refine joinR_normal ⟨rfl, ?_, ?_, ?_⟩ <;> simp only [ruU, entryE, Nat.reduceLT, Nat.reduceAdd, Nat.reduceMul, Nat.reduceEqDiff]
  rintro E X ⟨hX, g0, g4, g5⟩
  rw [hX]
  refine w_meet (fun E' H' => H' = H ∧ E' 0 = .pointer (some ⟨p.t, 0, none⟩) ∧ E' 4 = .int .i64 (count l - 1) ∧ E' 5 = .int .i64 B) ?_ ?_
  · rw [show H = ext H [] from rfl]
    cases d1 <;> cases d2 <;> (simp (maxDischargeDepth := 6) only [Bool.or_true, Bool.true_or, Bool.or_false, cond_true, cond_false] at hB; simp (maxDischargeDepth := 6) only [g0, g4, g5, hb, hT, h1, hd1, hd2, hw3, ruW, putL, Nat.reduceLeDiff, xF, ruU, entryE, Nat.reduceLT, Nat.reduceAdd, Nat.reduceMul, Nat.reduceEqDiff]; refine joinR_normal ⟨rfl, ?_, ?_, ?_⟩ <;> simp (maxDischargeDepth := 6) only [g0, g4, g5, hB, ruU, entryE, Nat.reduceLT, Nat.reduceAdd, Nat.reduceMul, Nat.reduceEqDiff])
  clear hX g0 g4 g5 E X
  rintro E X ⟨hX, g0, g4, g5⟩
  rw [hX]
  cases d3 with
  | false =>
    simp (maxDischargeDepth := 6) only [g0, g4, g5, hd3, cond_false, Tryd.results62, ruW, putL, Nat.reduceLeDiff, xF, ruU, entryE, Nat.reduceLT, Nat.reduceAdd, Nat.reduceMul, Nat.reduceEqDiff]
    exact ⟨trivial, p, Step.refl g⟩
  | true =>
    have hle := e3.2 rfl
    rw [show H = ext H [] from rfl]
    simp (maxDischargeDepth := 6) only [g0, g4, g5, hb, hT, h1, hd3, cond_true, ruW, putL, Nat.reduceLeDiff, xF, ruU, entryE, Nat.reduceLT, Nat.reduceAdd, Nat.reduceMul, Nat.reduceEqDiff]
    generalize hV : uw (uw H p.t 16 _) p.t 17 _ = V
    have st : Step H p V p { x with top := count l - 1, bottom := B } := by
      rw [← hV]
      exact g.two (off := 16) (off2 := 17) (vs := [.int .i64 (count l - 1)]) (vs2 := [.int .i64 B]) (y := { x with top := count l - 1, bottom := B }) rfl rfl rfl rfl
    refine (moveTo_c (ext V []) p _ 0 0 st.at_ (s.reg _ _ (by omega) hle hBl) (st.ok ok)).mono ?_
    rintro _ H1 ⟨rfl, p1, st2⟩
    rw [show H1 = ext H1 [] from rfl]
    simp (maxDischargeDepth := 6) only [Tryd.results62, ruW, putL, Nat.reduceLeDiff, xF, ruU, entryE, Nat.reduceLT, Nat.reduceAdd, Nat.reduceMul, Nat.reduceEqDiff]
    exact ⟨trivial, p1, st.trans ok st2⟩

end Go.Proofs.YtpohjcacnkhnkaaDoor

/- The control characters. -/
namespace Go.Proofs.YtpohjcacnkhnkaaDoor
open Go.Ax
set_option linter.unusedSimpArgs false
set_option maxRecDepth 10000

theorem Tm.Sz.atCol {x : Tm} (s : x.Sz) (c : Int) (c1 : 0 ≤ c) (c2 : c ≤ x.w) : Tm.Sz { x with col := c } := s.move x.row c s.r1 s.r2 c1 c2
theorem Tm.Sz.atRow {x : Tm} (s : x.Sz) (r : Int) (c1 : 0 ≤ r) (c2 : r < x.h) : Tm.Sz { x with row := r } := s.move r x.col c1 c2 s.c1 s.c2
theorem tmod8 {a : Int} (h : 0 ≤ a) : a.tmod 8 = a % 8 := Int.tmod_eq_emod_of_nonneg h

theorem Tm.Sz.control {x : Tm} (s : x.Sz) (c : Int) : (x.control c).Sz := by
  have hi := inside_rg s
  have h1 := s.h1
  have w1 := s.w1
  have c1 := s.c1
  have c2 := s.c2
  unfold Tm.control
  rw [tm_width, tm_height]
  split
  · exact s.atCol _ (by omega) (by omega)
  · split
    · exact s.atCol _ (by omega) (by omega)
    · split
      · split
        · obtain ⟨t, ht⟩ : ∃ r : Nat, x.top = r := ⟨x.top.toNat, by have := s.t1; omega⟩
          obtain ⟨b, hb⟩ : ∃ b : Nat, x.bottom = b := ⟨x.bottom.toNat, by have := s.t1; have := s.t2; omega⟩
          rw [ht, hb]
          exact s.roll (n := 1) true (by have := s.t2; omega) (by have := s.t3; omega)
        · exact s.atRow _ (by have := s.r1; omega) (by omega)
      · split
        · exact s.atCol _ (by omega) (by omega)
        · exact s

set_option maxHeartbeats 1000000 in
theorem control_c (H : AHeap) (p : Rp) (x : Tm) (c : Int) (g : TmAt H p x) (s : x.Sz) (ok : H.base ≤ H.next) : Does 42 [.int .i64 c] H p (.tuple #[]) (x.control c) := by
  obtain ⟨b, hb⟩ : ∃ b, H.next = b := ⟨_, rfl⟩
  have hT : p.t < b := hb ▸ g.lt p.t (by simp [Rp.blks])
  have h1 := g.cell
  simp only [cellsT] at h1
  have hi := inside_rg s
  have s1 := s.h2
  have s2 := s.w2
  have s3 := s.c1
  have s4 := s.c2
  have s5 := s.r1
  have s6 := s.r2
  obtain ⟨to, hto⟩ : ∃ r : Nat, x.top = r := ⟨x.top.toNat, by have := s.t1; omega⟩
  obtain ⟨bo, hbo⟩ : ∃ b : Nat, x.bottom = b := ⟨x.bottom.toNat, by have := s.t1; have := s.t2; omega⟩
  obtain ⟨d8, hd8⟩ : ∃ d, decide (c = 8) = d := ⟨_, rfl⟩
  obtain ⟨d9, hd9⟩ : ∃ d, decide (c = 9) = d := ⟨_, rfl⟩
  obtain ⟨d10, hd10⟩ : ∃ d, decide (c = 10) = d := ⟨_, rfl⟩
  obtain ⟨d13, hd13⟩ : ∃ d, decide (c = 13) = d := ⟨_, rfl⟩
  obtain ⟨db, hdb⟩ : ∃ d, decide (x.row = x.bottom) = d := ⟨_, rfl⟩
  have e8 := int_dec hd8
  have e9 := int_dec hd9
  have e10 := int_dec hd10
  have e13 := int_dec hd13
  have eb := int_dec hdb
  have hw1 : IntKind.i64.wrap (x.inside - 1) = x.inside - 1 := wrap_sm (by omega) (by omega)
  have hw2 : IntKind.i64.wrap ((x.w : Int) - 1) = (x.w : Int) - 1 := wrap_sm (by omega) (by omega)
  have hm8 := tmod8 s3
  have hw3 : IntKind.i64.wrap (x.col - x.col % 8) = x.col - x.col % 8 := wrap_sm (by omega) (by omega)
  have hw4 : IntKind.i64.wrap (x.col - x.col % 8 + 8) = x.col - x.col % 8 + 8 := wrap_sm (by omega) (by omega)
  have hw5 : IntKind.i64.wrap (x.row + 1) = x.row + 1 := wrap_sm (by omega) (by omega)
  have hw6 : IntKind.i64.wrap ((x.h : Int) - 1) = (x.h : Int) - 1 := wrap_sm (by omega) (by omega)
  have key : x.control c = cond d8 { x with col := max 0 (x.inside - 1) } (cond d9 { x with col := min ((x.w : Int) - 1) (x.col - x.col % 8 + 8) } (cond d10 (cond db (x.roll to bo (1 : Nat) true) { x with row := min (x.row + 1) ((x.h : Int) - 1) }) (cond d13 { x with col := 0 } x))) := by
    unfold Tm.control
    simp only [e8, e9, e10, e13, eb]
    rw [tm_width, tm_height, hto, hbo]
    cases d8 <;> cases d9 <;> cases d10 <;> cases d13 <;> cases db <;> rfl
  rw [key]
  refine callE_fn mixed Tryd.func42 rfl Tryd.ntmps42 (Nat.le_of_ble_eq_true rfl) ?_
  cases d8 with
  | true =>
    simp (maxDischargeDepth := 6) only [hb, hT, h1, hd8, cond_true, ruW, putL, Nat.reduceLeDiff, xF, ruU, entryE, Nat.reduceLT, Nat.reduceAdd, Nat.reduceMul, Nat.reduceEqDiff]
    refine (inside_c (ext H []) p x g s).to ?_
    simp (maxDischargeDepth := 6) only [hb, hT, h1, hw1, Tryd.results42, ruW, putL, Nat.reduceLeDiff, xF, ruU, entryE, Nat.reduceLT, Nat.reduceAdd, Nat.reduceMul, Nat.reduceEqDiff]
    exact ⟨trivial, p, g.one (y := { x with col := max 0 (x.inside - 1) }) rfl rfl rfl rfl⟩
  | false =>
    cases d9 with
    | true =>
      simp (maxDischargeDepth := 6) only [hb, hT, h1, hd8, hd9, cond_true, cond_false, ruW, putL, Nat.reduceLeDiff, xF, ruU, entryE, Nat.reduceLT, Nat.reduceAdd, Nat.reduceMul, Nat.reduceEqDiff]
      refine w_drawB [(21, 2), (21, 8), (21, 13)] [] (by kernel_rfl) (by kernel_rfl) rfl fun ops anc hA hG => ?_
      simp only [all2_cons] at hA
      simp (maxDischargeDepth := 6) only [hb, hT, h1, hA, ruD, ruW, putL, Nat.reduceLeDiff, xF, ruU, entryE, Nat.reduceLT, Nat.reduceAdd, Nat.reduceMul, Nat.reduceEqDiff]
      refine genV_quiet (v := .int .i64 (x.w : Int)) p.blks (by simp (maxDischargeDepth := 6) only [ruU, entryE, Nat.reduceLT, Nat.reduceAdd, Nat.reduceMul, Nat.reduceEqDiff]) (by kernel_rfl) (by decide) g.ne (fun K hn hg => ?_) (by simp (maxDischargeDepth := 6) only [ruD, ruW, putL, Nat.reduceLeDiff, xF, ruU, entryE, Nat.reduceLT, Nat.reduceAdd, Nat.reduceMul, Nat.reduceEqDiff]) ?_
      · simp only [ruU, entryE, Nat.reduceLT, Nat.reduceAdd, Nat.reduceMul, Nat.reduceEqDiff]
        exact width_c K p x (g.of (by rw [hn]; exact Nat.le_refl _) hg) s
      simp (maxDischargeDepth := 6) only [hb, hT, h1, hA, hw2, hm8, hw3, hw4, Int.reduceEq, Tryd.results42, ruD, ruW, putL, Nat.reduceLeDiff, xF, ruU, entryE, Nat.reduceLT, Nat.reduceAdd, Nat.reduceMul, Nat.reduceEqDiff]
      exact ⟨p, g.one (y := { x with col := min ((x.w : Int) - 1) (x.col - x.col % 8 + 8) }) rfl rfl rfl rfl⟩
    | false =>
      cases d10 with
      | true =>
        simp (maxDischargeDepth := 6) only [hb, hT, h1, hd8, hd9, hd10, cond_true, cond_false, ruW, putL, Nat.reduceLeDiff, xF, ruU, entryE, Nat.reduceLT, Nat.reduceAdd, Nat.reduceMul, Nat.reduceEqDiff]
        refine w_drawB [] [] (by kernel_rfl) rfl rfl fun ops anc hA hG => ?_
        simp (maxDischargeDepth := 6) only [hb, hT, h1, ruD, ruW, putL, Nat.reduceLeDiff, xF, ruU, entryE, Nat.reduceLT, Nat.reduceAdd, Nat.reduceMul, Nat.reduceEqDiff]
        cases db with
        | true =>
          simp (maxDischargeDepth := 6) only [hb, hT, h1, hdb, cond_true, ruD, ruW, putL, Nat.reduceLeDiff, xF, ruU, entryE, Nat.reduceLT, Nat.reduceAdd, Nat.reduceMul, Nat.reduceEqDiff]
          refine w_drawB [(9, 4), (9, 8)] [] (by kernel_rfl) (by kernel_rfl) rfl fun ops anc hA hG => ?_
          simp only [all2_cons] at hA
          simp (maxDischargeDepth := 6) only [hb, hT, h1, hA, ruD, ruW, putL, Nat.reduceLeDiff, xF, ruU, entryE, Nat.reduceLT, Nat.reduceAdd, Nat.reduceMul, Nat.reduceEqDiff]
          refine genV_last (as' := [.int .i64 x.top, .int .i64 x.bottom, .int .i64 ((1 : Nat) : Int), .bool true]) g ok (by simp only [ruU, entryE, Nat.reduceLT, Nat.reduceAdd, Nat.reduceMul, Nat.reduceEqDiff]) (by kernel_rfl) (by decide) (by simp only [ruU, entryE, Nat.reduceLT, Nat.reduceAdd, Nat.reduceMul, Nat.reduceEqDiff] <;> rfl) (by simp only [all2_cons, all2_nil, hA, true_or, and_true]) (fun G gG okG => by rw [hto, hbo]; exact roll_c G p x to bo 1 true gG s okG (by have := s.t2; omega) (by have := s.t3; omega) (by omega) (by omega)) fun H1 p1 st => ?_
          rw [show H1 = ext H1 [] from rfl]
          simp (maxDischargeDepth := 6) only [Tryd.results42, ruD, ruW, putL, Nat.reduceLeDiff, xF, ruU, entryE, Nat.reduceLT, Nat.reduceAdd, Nat.reduceMul, Nat.reduceEqDiff]
          exact ⟨p1, st⟩
        | false =>
          simp (maxDischargeDepth := 6) only [hb, hT, h1, hdb, cond_false, ruD, ruW, putL, Nat.reduceLeDiff, xF, ruU, entryE, Nat.reduceLT, Nat.reduceAdd, Nat.reduceMul, Nat.reduceEqDiff]
          refine w_drawB [(17, 5), (17, 10)] [] (by kernel_rfl) (by kernel_rfl) rfl fun ops anc hA hG => ?_
          simp only [all2_cons] at hA
          simp (maxDischargeDepth := 6) only [hb, hT, h1, hA, hw5, hw6, Tryd.results42, ruD, ruW, putL, Nat.reduceLeDiff, xF, ruU, entryE, Nat.reduceLT, Nat.reduceAdd, Nat.reduceMul, Nat.reduceEqDiff]
          exact ⟨p, g.one (y := { x with row := min (x.row + 1) ((x.h : Int) - 1) }) rfl rfl rfl rfl⟩
      | false =>
        cases d13 with
        | true =>
          simp (maxDischargeDepth := 6) only [hb, hT, h1, hd8, hd9, hd10, hd13, cond_true, cond_false, Tryd.results42, ruW, putL, Nat.reduceLeDiff, xF, ruU, entryE, Nat.reduceLT, Nat.reduceAdd, Nat.reduceMul, Nat.reduceEqDiff]
          exact ⟨trivial, p, g.one (y := { x with col := 0 }) rfl rfl rfl rfl⟩
        | false =>
          simp (maxDischargeDepth := 6) only [hb, hT, h1, hd8, hd9, hd10, hd13, cond_true, cond_false, Tryd.results42, ruW, putL, Nat.reduceLeDiff, xF, ruU, entryE, Nat.reduceLT, Nat.reduceAdd, Nat.reduceMul, Nat.reduceEqDiff]
          exact ⟨trivial, p, Step.refl g⟩

end Go.Proofs.YtpohjcacnkhnkaaDoor

/- A character written. -/
namespace Go.Proofs.YtpohjcacnkhnkaaDoor
open Go.Ax
set_option linter.unusedSimpArgs false
set_option maxRecDepth 10000

structure Wd (wd : Int → Nat) : Prop where
  call : ∀ (c : Int) (H : AHeap), -2147483648 ≤ c → c ≤ 2147483647 → Pure 46 [.int .i64 c] H (.int .i64 (wd c : Int))
  le : ∀ c, wd c ≤ 2

def Tm.put (x : Tm) (k i : Nat) (c : Ce) : Tm := x.setRow k ((x.grid.getD k []).set i c)
theorem Tm.Sz.put {x : Tm} (s : x.Sz) {k i : Nat} {c : Ce} (hk : k < x.h) (hc : c.rune ≠ -1 ∨ i ≠ 0) : (x.put k i c).Sz := by
  obtain ⟨l, _, e, hl, hd⟩ := s.rowAt hk
  unfold Tm.put
  rw [e]
  exact s.setRow (by simp [hl]) (set_hd l i c hc hd)
theorem put_hw {x : Tm} (s : x.Sz) {k i : Nat} {c : Ce} (hk : k < x.h) : (x.put k i c).h = x.h ∧ (x.put k i c).w = x.w := by
  obtain ⟨l, _, e, hl, hd⟩ := s.rowAt hk
  unfold Tm.put
  rw [e]
  exact ⟨setRow_h x k _, setRow_w s k _ (by simp [hl])⟩

def Tm.written (x : Tm) (r c n : Nat) (ch : Int) : Tm :=
  let t := x.blank r c (c + n : Nat)
  let t := t.put r c ⟨ch, x.pen⟩
  let t := if n = 2 then t.put r (c + 1) ⟨-1, x.pen⟩ else t
  { t with col := x.col + n }

theorem tm_write (u : Uni) (x : Tm) (ch : Int) (r c : Nat) (hr : x.row = r) (hc : x.col = c) : x.write u ch = if u.wd ch = 0 ∨ x.col + u.wd ch > (x.w : Int) then x else x.written r c (u.wd ch) ch := by
  obtain ⟨row, col, pen, srow, scol, spen, grid, shown, top, bottom, mode, rest, params, middle, last⟩ := x
  simp only at hr hc
  subst hr
  subst hc
  unfold Tm.write Tm.written
  generalize u.wd ch = n
  simp only [tm_width]
  split
  · rfl
  · split <;> rfl

theorem Tm.Sz.written {x : Tm} (s : x.Sz) {r c n : Nat} {ch : Int} (hr : r < x.h) (hc : x.col = c) (hcn : c + n ≤ x.w) (hch : ch ≠ -1) : (x.written r c n ch).Sz := by
  have s1 := s.blank hr (show c ≤ c + n by omega) hcn
  have h1 := blank_hw s hr (show c ≤ c + n by omega) hcn
  have s2 := s1.put (i := c) (c := ⟨ch, x.pen⟩) (by rw [h1.1]; exact hr) (.inl hch)
  have h2 := put_hw s1 (i := c) (c := ⟨ch, x.pen⟩) (by rw [h1.1]; exact hr)
  unfold Tm.written
  simp only
  split
  · have s3 := s2.put (i := c + 1) (c := ⟨-1, x.pen⟩) (by rw [h2.1, h1.1]; exact hr) (.inr (by omega))
    have h3 := put_hw s2 (i := c + 1) (c := ⟨-1, x.pen⟩) (by rw [h2.1, h1.1]; exact hr)
    exact s3.atCol _ (by omega) (by rw [h3.2, h2.2, h1.2]; omega)
  · exact s2.atCol _ (by omega) (by rw [h2.2, h1.2]; omega)

theorem TmAt.put1 {H : AHeap} {p : Rp} {x : Tm} (g : TmAt H p x) (s : x.Sz) {k i : Nat} {q : Nat × Bool} (hk : k < x.h) (hq : p.rs[k]? = some q) (hi : i < x.w) (c : Ce) : Step H p (ext (uw H q.1 (i * 6) c.cells) []) p (x.put k i c) := by
  obtain ⟨l, e1, e, hl, _⟩ := s.rowAt hk
  unfold Tm.put
  rw [e]
  exact g.putRow hq e1 (Mod.uw (by simp)) (bk_cell (g.row k q l hq e1) (by omega)) (by simp)

set_option maxHeartbeats 2000000 in
theorem write_c (u : Uni) (hu : Wd u.wd) (H : AHeap) (p : Rp) (x : Tm) (ch : Int) (g : TmAt H p x) (s : x.Sz) (ok : H.base ≤ H.next) (hc1 : -2147483648 ≤ ch) (hc2 : ch ≤ 2147483647) (hch : ch ≠ -1) : Does 43 [.int .i64 ch] H p (.tuple #[]) (x.write u ch) := by
  obtain ⟨b, hb⟩ : ∃ b, H.next = b := ⟨_, rfl⟩
  have hT : p.t < b := hb ▸ g.lt p.t (by simp [Rp.blks])
  have h1 := g.cell
  simp only [cellsT] at h1
  have s1 := s.h2
  have s2 := s.w2
  obtain ⟨r, hr⟩ : ∃ r : Nat, x.row = r := ⟨x.row.toNat, by have := s.r1; omega⟩
  obtain ⟨c, hc⟩ : ∃ c : Nat, x.col = c := ⟨x.col.toNat, by have := s.c1; omega⟩
  have hrh : r < x.h := by have := s.r2; omega
  rw [tm_write u x ch r c hr hc]
  have hn2 := hu.le ch
  have hwd := hu.call ch (ext H []) hc1 hc2
  generalize hn : u.wd ch = n at hn2 hwd
  obtain ⟨d0, hd0⟩ : ∃ d, decide ((n : Int) = 0) = d := ⟨_, rfl⟩
  obtain ⟨d1, hd1⟩ : ∃ d, decide ((x.w : Int) < x.col + n) = d := ⟨_, rfl⟩
  have e0 : n = 0 ↔ d0 = true := by rw [← hd0, decide_eq_true_iff]; omega
  have e1 : x.col + (n : Int) > (x.w : Int) ↔ d1 = true := by rw [← hd1, decide_eq_true_iff]
  have hw1 : IntKind.i64.wrap (x.col + (n : Int)) = x.col + (n : Int) := wrap_sm (by have := s.c2; omega) (by have := s.c2; omega)
  have key : (if n = 0 ∨ x.col + (n : Int) > (x.w : Int) then x else x.written r c n ch) = cond (d0 || d1) x (x.written r c n ch) := by
    simp only [e0, e1]
    cases d0 <;> cases d1 <;> rfl
  rw [key]
  refine callE_fn mixed Tryd.func43 rfl Tryd.ntmps43 (Nat.le_of_ble_eq_true rfl) ?_
  simp (maxDischargeDepth := 6) only [ruW, putL, Nat.reduceLeDiff, xF, ruU, entryE, Nat.reduceLT, Nat.reduceAdd, Nat.reduceMul, Nat.reduceEqDiff]
  refine hwd.to ?_
  simp (maxDischargeDepth := 6) only [ruW, putL, Nat.reduceLeDiff, xF, ruU, entryE, Nat.reduceLT, Nat.reduceAdd, Nat.reduceMul, Nat.reduceEqDiff]
  refine w_drawB [] [(2, 10)] (by kernel_rfl) rfl (by kernel_rfl) fun ops anc hA hG => ?_
  simp only [all2_cons] at hG
  cases d0 with
  | true =>
    simp (maxDischargeDepth := 6) only [hb, hT, h1, hd0, hG, Bool.true_or, cond_true, Tryd.results43, ruD, ruW, putL, Nat.reduceLeDiff, xF, ruU, entryE, Nat.reduceLT, Nat.reduceAdd, Nat.reduceMul, Nat.reduceEqDiff]
    exact ⟨p, Step.refl g⟩
  | false =>
    simp (maxDischargeDepth := 6) only [hb, hT, h1, hd0, hG, hw1, ruD, ruW, putL, Nat.reduceLeDiff, xF, ruU, entryE, Nat.reduceLT, Nat.reduceAdd, Nat.reduceMul, Nat.reduceEqDiff]
    refine genV_quiet (v := .int .i64 (x.w : Int)) p.blks (by simp (maxDischargeDepth := 6) only [ruU, entryE, Nat.reduceLT, Nat.reduceAdd, Nat.reduceMul, Nat.reduceEqDiff]) (by kernel_rfl) (by decide) g.ne (fun K hn hg => ?_) (by simp (maxDischargeDepth := 6) only [ruD, ruW, putL, Nat.reduceLeDiff, xF, ruU, entryE, Nat.reduceLT, Nat.reduceAdd, Nat.reduceMul, Nat.reduceEqDiff]) ?_
    · simp only [ruU, entryE, Nat.reduceLT, Nat.reduceAdd, Nat.reduceMul, Nat.reduceEqDiff]
      exact width_c K p x (g.of (by rw [hn]; exact Nat.le_refl _) hg) s
    cases d1 with
    | true =>
      simp (maxDischargeDepth := 6) only [hb, hT, h1, hd0, hd1, hG, Bool.or_true, cond_true, Tryd.results43, ruD, ruW, putL, Nat.reduceLeDiff, xF, ruU, entryE, Nat.reduceLT, Nat.reduceAdd, Nat.reduceMul, Nat.reduceEqDiff]
      exact ⟨p, Step.refl g⟩
    | false =>
      simp (maxDischargeDepth := 6) only [hb, hT, h1, hd0, hd1, hG, Bool.or_false, cond_false, ruD, ruW, putL, Nat.reduceLeDiff, xF, ruU, entryE, Nat.reduceLT, Nat.reduceAdd, Nat.reduceMul, Nat.reduceEqDiff]
      have hcn : c + n ≤ x.w := by
        have : ¬ (x.col + (n : Int) > (x.w : Int)) := fun h => by have := e1.1 h; simp at this
        omega
      have hn1 : 1 ≤ n := by
        have : ¬ n = 0 := fun h => by have := e0.1 h; simp at this
        omega
      have hcw : c < x.w := by omega
      refine w_drawB [(18, 5), (18, 10), (18, 15)] [] (by kernel_rfl) (by kernel_rfl) rfl fun ops anc hA hG => ?_
      simp only [all2_cons] at hA
      simp (maxDischargeDepth := 6) only [hb, hT, h1, hA, hw1, ruD, ruW, putL, Nat.reduceLeDiff, xF, ruU, entryE, Nat.reduceLT, Nat.reduceAdd, Nat.reduceMul, Nat.reduceEqDiff]
      refine genV_last (as' := [.int .i64 x.row, .int .i64 x.col, .int .i64 (x.col + (n : Int))]) g ok (by simp only [ruU, entryE, Nat.reduceLT, Nat.reduceAdd, Nat.reduceMul, Nat.reduceEqDiff]) (by kernel_rfl) (by decide) (by simp only [ruU, entryE, Nat.reduceLT, Nat.reduceAdd, Nat.reduceMul, Nat.reduceEqDiff]) (by simp only [all2_cons, all2_nil, hA, true_or, and_true]) (fun G gG okG => by rw [hr, hc]; exact blank_g gG s okG hrh (show c ≤ c + n by omega) hcn) fun V p1 st => ?_
      have sz1 := s.blank hrh (show c ≤ c + n by omega) hcn
      have hw2 := blank_hw s hrh (show c ≤ c + n by omega) hcn
      have okV := st.ok ok
      have hT1 : p.t < V.next := st.same ▸ st.at_.lt p1.t (by simp [Rp.blks])
      have hR1 : p1.rb < V.next := st.at_.lt p1.rb (by simp [Rp.blks])
      have v1 := st.at_.cell
      rw [st.same] at v1
      simp only [cellsT, hw2.1] at v1
      have v2 := st.at_.rows
      rw [hw2.2] at v2
      obtain ⟨l, el, _⟩ := sz1.rowAt (k := r) (by rw [hw2.1]; exact hrh)
      obtain ⟨q, hq, hqm, hqb⟩ := st.at_.rowOf el
      have hqr : (p1.rs.map (rowV x.w))[r]? = some (rowV x.w q) := by rw [List.getElem?_map, hq]; rfl
      have hQ : q.1 < V.next := st.at_.lt q.1 hqm
      obtain ⟨_, hqt, hqrb⟩ := st.at_.rowIn hq
      rw [st.same] at hqt
      have hri := rows_ia (len := x.h) (cap := x.h) (n := p1.rb) (s := none) (i := x.row) (k := r) hr hrh
      have hci := row_ia (len := x.w) (cap := x.w) (n := q.1) (s := if q.2 = true then none else some 0) (i := x.col) (k := c) hc hcw
      obtain ⟨vb, hvb⟩ : ∃ vb, V.next = vb := ⟨_, rfl⟩
      rw [hvb] at hT1 hR1 hQ
      have hrow1 : (x.blank (↑r) (↑c) (↑(c + n))).row = x.row := rfl
      have hcol1 : (x.blank (↑r) (↑c) (↑(c + n))).col = x.col := rfl
      have hpen1 : (x.blank (↑r) (↑c) (↑(c + n))).pen = x.pen := rfl
      rw [show V = ext V [] from rfl]
      simp (maxDischargeDepth := 6) only [hvb, hT1, hR1, v1, v2, hrow1, hcol1, hpen1, hqr, hri, ruD, ruW, putL, Nat.reduceLeDiff, xF, ruU, entryE, Nat.reduceLT, Nat.reduceAdd, Nat.reduceMul, Nat.reduceEqDiff]
      refine w_drawB [] [] (by kernel_rfl) rfl rfl fun ops anc hA hG => ?_
      simp (maxDischargeDepth := 6) only [hvb, hT1, hR1, v1, v2, hrow1, hcol1, hpen1, hqr, hri, rowV, ruD, ruW, putL, Nat.reduceLeDiff, xF, ruU, entryE, Nat.reduceLT, Nat.reduceAdd, Nat.reduceMul, Nat.reduceEqDiff]
      have hlw : l.length = x.w := by rw [sz1.ws l (List.mem_of_getElem? el), hw2.2]
      have hst : ∀ N, stB Tryd.prog 56 N (c * 6) (.agg ⟨[.int .i64 ch, .int .i64 x.pen.fore, .int .i64 x.pen.back, .bool x.pen.bold, .bool x.pen.under, .bool x.pen.inv]⟩) (some ⟨56, q.2, csOf l⟩) = some ⟨56, q.2, csOf (l.set c ⟨ch, x.pen⟩)⟩ := fun N => stB_cell (c := ⟨ch, x.pen⟩) (by omega)
      refine w_drawB [(14, 5), (14, 11)] [] (by kernel_rfl) (by kernel_rfl) rfl fun ops anc hA hG => ?_
      simp only [all2_cons] at hA
      simp (maxDischargeDepth := 6) only [hvb, hT1, hR1, hQ, v1, hrow1, hcol1, hpen1, hci, hqb, hst, hA, ruD, ruW, putL, Nat.reduceLeDiff, xF, ruU, entryE, Nat.reduceLT, Nat.reduceAdd, Nat.reduceMul, Nat.reduceEqDiff]
      have st2 := st.trans ok (st.at_.put1 sz1 (by rw [hw2.1]; exact hrh) hq (by rw [hw2.2]; exact hcw) ⟨ch, x.pen⟩)
      have sz2 := sz1.put (k := r) (i := c) (c := ⟨ch, x.pen⟩) (by rw [hw2.1]; exact hrh) (.inl hch)
      have hw3 := put_hw sz1 (k := r) (i := c) (c := ⟨ch, x.pen⟩) (by rw [hw2.1]; exact hrh)
      obtain ⟨d2, hd2⟩ : ∃ d, decide ((n : Int) = 2) = d := ⟨_, rfl⟩
      have e2 : n = 2 ↔ d2 = true := by rw [← hd2, decide_eq_true_iff]; omega
      have hwr : x.written r c n ch = { cond d2 (((x.blank r c (c + n : Nat)).put r c ⟨ch, x.pen⟩).put r (c + 1) ⟨-1, x.pen⟩) ((x.blank r c (c + n : Nat)).put r c ⟨ch, x.pen⟩) with col := x.col + n } := by
        unfold Tm.written
        simp only [e2]
        cases d2 <;> rfl
      rw [hwr]
      simp only [Ce.cells] at st2
      generalize hW : uw V q.1 (c * 6) _ = W at st2 ⊢
      have hWn : W.next = vb := by rw [← hW, uw_next, hvb]
      have hT2 : p.t < vb := hT1
      rw [ext_nil] at st2
      cases d2 with
      | false =>
        have v3 := st2.at_.cell
        rw [st.same] at v3
        simp only [cellsT] at v3
        have hcol2 : ((x.blank (↑r) (↑c) (↑(c + n))).put r c ⟨ch, x.pen⟩).col = x.col := rfl
        simp (maxDischargeDepth := 6) only [hWn, hT1, v3, hcol2, hw1, hd2, cond_false, Tryd.results43, ruD, ruW, putL, Nat.reduceLeDiff, xF, ruU, entryE, Nat.reduceLT, Nat.reduceAdd, Nat.reduceMul, Nat.reduceEqDiff]
        refine ⟨p1, ?_⟩
        have st3 := st2.trans ok (st2.at_.one (off := 1) (vs := [.int .i64 (x.col + n)]) (y := { (x.blank r c (c + n : Nat)).put r c ⟨ch, x.pen⟩ with col := x.col + n }) rfl rfl rfl rfl)
        rw [st.same] at st3
        exact st3
      | true =>
        have hn2' := e2.2 rfl
        have v3 := st2.at_.cell
        rw [st.same] at v3
        simp only [cellsT] at v3
        have hcol2 : ((x.blank (↑r) (↑c) (↑(c + n))).put r c ⟨ch, x.pen⟩).col = x.col := rfl
        have hpen2 : ((x.blank (↑r) (↑c) (↑(c + n))).put r c ⟨ch, x.pen⟩).pen = x.pen := rfl
        obtain ⟨l2, el2, _⟩ := sz2.rowAt (k := r) (by rw [hw3.1, hw2.1]; exact hrh)
        have hqb2 := st2.at_.row r q l2 hq el2
        have hl2w : l2.length = x.w := by rw [sz2.ws l2 (List.mem_of_getElem? el2), hw3.2, hw2.2]
        have hci2 := row_ia (len := x.w) (cap := x.w) (n := q.1) (s := if q.2 = true then none else some 0) (i := x.col + 1) (k := c + 1) (by omega) (by omega)
        have hw4 : IntKind.i64.wrap (x.col + 1) = x.col + 1 := wrap_sm (by omega) (by omega)
        have hst2 : ∀ N, stB Tryd.prog 56 N ((c + 1) * 6) (.agg ⟨[.int .i64 (-1), .int .i64 x.pen.fore, .int .i64 x.pen.back, .bool x.pen.bold, .bool x.pen.under, .bool x.pen.inv]⟩) (some ⟨56, q.2, csOf l2⟩) = some ⟨56, q.2, csOf (l2.set (c + 1) ⟨-1, x.pen⟩)⟩ := fun N => stB_cell (c := ⟨-1, x.pen⟩) (by omega)
        simp (maxDischargeDepth := 6) only [hd2, cond_true, ruD, ruW, putL, Nat.reduceLeDiff, xF, ruU, entryE, Nat.reduceLT, Nat.reduceAdd, Nat.reduceMul, Nat.reduceEqDiff]
        refine w_drawB [(14, 5), (14, 11)] [] (by kernel_rfl) (by kernel_rfl) rfl fun ops anc hA hG => ?_
        simp only [all2_cons] at hA
        simp (maxDischargeDepth := 6) only [hWn, hT1, hQ, v3, hcol2, hpen2, hw4, hci2, hqb2, hst2, hA, ruD, ruW, putL, Nat.reduceLeDiff, xF, ruU, entryE, Nat.reduceLT, Nat.reduceAdd, Nat.reduceMul, Nat.reduceEqDiff]
        have st3 := st2.trans ok (st2.at_.put1 (i := c + 1) sz2 (by rw [hw3.1, hw2.1]; exact hrh) hq (by rw [hw3.2, hw2.2]; omega) ⟨-1, x.pen⟩)
        simp only [Ce.cells] at st3
        generalize hZ : uw W q.1 ((c + 1) * 6) _ = Z at st3 ⊢
        have hZn : Z.next = vb := by rw [← hZ, uw_next, hWn]
        rw [ext_nil] at st3
        have v4 := st3.at_.cell
        rw [st.same] at v4
        simp only [cellsT] at v4
        have hcol3 : (((x.blank (↑r) (↑c) (↑(c + n))).put r c ⟨ch, x.pen⟩).put r (c + 1) ⟨-1, x.pen⟩).col = x.col := rfl
        simp (maxDischargeDepth := 6) only [hZn, hT1, v4, hcol3, hw1, cond_true, Tryd.results43, ruD, ruW, putL, Nat.reduceLeDiff, xF, ruU, entryE, Nat.reduceLT, Nat.reduceAdd, Nat.reduceMul, Nat.reduceEqDiff]
        refine ⟨p1, ?_⟩
        have st4 := st3.trans ok (st3.at_.one (off := 1) (vs := [.int .i64 (x.col + n)]) (y := { ((x.blank r c (c + n : Nat)).put r c ⟨ch, x.pen⟩).put r (c + 1) ⟨-1, x.pen⟩ with col := x.col + n }) rfl rfl rfl rfl)
        rw [st.same] at st4
        exact st4

theorem Tm.Sz.write {u : Uni} {x : Tm} (s : x.Sz) {ch : Int} (hch : ch ≠ -1) : (x.write u ch).Sz := by
  obtain ⟨r, hr⟩ : ∃ r : Nat, x.row = r := ⟨x.row.toNat, by have := s.r1; omega⟩
  obtain ⟨c, hc⟩ : ∃ c : Nat, x.col = c := ⟨x.col.toNat, by have := s.c1; omega⟩
  rw [tm_write u x ch r c hr hc]
  split
  · exact s
  · rename_i h
    exact s.written (by have := s.r2; omega) hc (by omega) hch
theorem Tm.Sz.character {u : Uni} {x : Tm} (s : x.Sz) (ch : Int) : (x.character u ch).Sz := by
  unfold Tm.character
  split
  · exact s.control ch
  · exact s.write (by omega)

theorem character_c (u : Uni) (hu : Wd u.wd) (H : AHeap) (p : Rp) (x : Tm) (ch : Int) (g : TmAt H p x) (s : x.Sz) (ok : H.base ≤ H.next) (hc1 : -2147483648 ≤ ch) (hc2 : ch ≤ 2147483647) : Does 33 [.int .i64 ch] H p (.tuple #[]) (x.character u ch) := by
  obtain ⟨d1, hd1⟩ : ∃ d, decide (ch < 32) = d := ⟨_, rfl⟩
  obtain ⟨d2, hd2⟩ : ∃ d, decide (ch = 127) = d := ⟨_, rfl⟩
  have e1 : ch < 32 ↔ d1 = true := by rw [← hd1, decide_eq_true_iff]
  have e2 := int_dec hd2
  have key : x.character u ch = cond (d1 || d2) (x.control ch) (x.write u ch) := by
    unfold Tm.character
    simp only [e1, e2]
    cases d1 <;> cases d2 <;> rfl
  rw [key]
  refine callE_fn mixed Tryd.func33 rfl Tryd.ntmps33 (Nat.le_of_ble_eq_true rfl) ?_
  have hne : d1 = false → ch ≠ -1 := fun h e => by
    have := e1.1 (by omega)
    rw [h] at this
    cases this
  have hfin : ∀ y f, Does f [.int .i64 ch] H p (.tuple #[]) y → CallA Tryd.prog f [.pointer (some ⟨p.t, 0, none⟩), .int .i64 ch] (ext H []) (fun out H1 => out = .ok (.tuple #[]) ∧ ∃ p1, Step H p H1 p1 y) := fun y f h => h
  cases d1 <;> cases d2 <;> simp (maxDischargeDepth := 6) only [hd1, hd2, Bool.or_true, Bool.true_or, Bool.or_false, cond_true, cond_false, ruW, putL, Nat.reduceLeDiff, xF, ruU, entryE, Nat.reduceLT, Nat.reduceAdd, Nat.reduceMul, Nat.reduceEqDiff]
  · refine (hfin _ _ (write_c u hu H p x ch g s ok hc1 hc2 (hne rfl))).mono ?_
    rintro _ H1 ⟨rfl, p1, st⟩
    rw [show H1 = ext H1 [] from rfl]
    simp (maxDischargeDepth := 6) only [Tryd.results33, ruW, putL, Nat.reduceLeDiff, xF, ruU, entryE, Nat.reduceLT, Nat.reduceAdd, Nat.reduceMul, Nat.reduceEqDiff]
    exact ⟨trivial, p1, st⟩
  all_goals
    refine (hfin _ _ (control_c H p x ch g s ok)).mono ?_
    rintro _ H1 ⟨rfl, p1, st⟩
    rw [show H1 = ext H1 [] from rfl]
    simp (maxDischargeDepth := 6) only [Tryd.results33, ruW, putL, Nat.reduceLeDiff, xF, ruU, entryE, Nat.reduceLT, Nat.reduceAdd, Nat.reduceMul, Nat.reduceEqDiff]
    exact ⟨trivial, p1, st⟩

end Go.Proofs.YtpohjcacnkhnkaaDoor

/- The pen's attributes. -/
namespace Go.Proofs.YtpohjcacnkhnkaaDoor
open Go.Ax
set_option linter.unusedSimpArgs false
set_option maxRecDepth 10000

def Tm.withPen (x : Tm) (l : Lk) : Tm := { x with pen := l }
theorem Tm.Sz.withPen {x : Tm} (s : x.Sz) (l : Lk) : (x.withPen l).Sz :=
  ⟨s.h1, s.h2, s.w1, s.w2, s.ws, s.r1, s.r2, s.c1, s.c2, s.sr1, s.sr2, s.sc1, s.sc2, s.t1, s.t2, s.t3, s.md, s.hd⟩

theorem attribute_c (H : AHeap) (p : Rp) (x : Tm) (n : Int) (g : TmAt H p x) : Does 68 [.int .i64 n] H p (.tuple #[]) (x.withPen (x.pen.attribute n)) := by
  obtain ⟨b, hb⟩ : ∃ b, H.next = b := ⟨_, rfl⟩
  have hT : p.t < b := hb ▸ g.lt p.t (by simp [Rp.blks])
  have h1 := g.cell
  simp only [cellsT] at h1
  refine callE_fn mixed Tryd.func68 rfl Tryd.ntmps68 (Nat.le_of_ble_eq_true rfl) ?_
  by_cases h0 : n = 0
  · subst h0
    simp (maxDischargeDepth := 6) only [hb, hT, h1, Int.reduceEq, decide_true, decide_false, Tryd.results68, ruW, putL, Nat.reduceLeDiff, xF, ruU, entryE, Nat.reduceLT, Nat.reduceAdd, Nat.reduceMul, Nat.reduceEqDiff]
    exact ⟨trivial, p, g.one (y := x.withPen .no) rfl rfl rfl rfl⟩
  by_cases h1' : n = 1
  · subst h1'
    simp (maxDischargeDepth := 6) only [hb, hT, h1, Int.reduceEq, decide_true, decide_false, Tryd.results68, ruW, putL, Nat.reduceLeDiff, xF, ruU, entryE, Nat.reduceLT, Nat.reduceAdd, Nat.reduceMul, Nat.reduceEqDiff]
    exact ⟨trivial, p, g.one (y := x.withPen { x.pen with bold := true }) rfl rfl rfl rfl⟩
  by_cases h22 : n = 22
  · subst h22
    simp (maxDischargeDepth := 6) only [hb, hT, h1, Int.reduceEq, decide_true, decide_false, Tryd.results68, ruW, putL, Nat.reduceLeDiff, xF, ruU, entryE, Nat.reduceLT, Nat.reduceAdd, Nat.reduceMul, Nat.reduceEqDiff]
    exact ⟨trivial, p, g.one (y := x.withPen { x.pen with bold := false }) rfl rfl rfl rfl⟩
  by_cases h4 : n = 4
  · subst h4
    simp (maxDischargeDepth := 6) only [hb, hT, h1, Int.reduceEq, decide_true, decide_false, Tryd.results68, ruW, putL, Nat.reduceLeDiff, xF, ruU, entryE, Nat.reduceLT, Nat.reduceAdd, Nat.reduceMul, Nat.reduceEqDiff]
    exact ⟨trivial, p, g.one (y := x.withPen { x.pen with under := true }) rfl rfl rfl rfl⟩
  by_cases h24 : n = 24
  · subst h24
    simp (maxDischargeDepth := 6) only [hb, hT, h1, Int.reduceEq, decide_true, decide_false, Tryd.results68, ruW, putL, Nat.reduceLeDiff, xF, ruU, entryE, Nat.reduceLT, Nat.reduceAdd, Nat.reduceMul, Nat.reduceEqDiff]
    exact ⟨trivial, p, g.one (y := x.withPen { x.pen with under := false }) rfl rfl rfl rfl⟩
  by_cases h7 : n = 7
  · subst h7
    simp (maxDischargeDepth := 6) only [hb, hT, h1, Int.reduceEq, decide_true, decide_false, Tryd.results68, ruW, putL, Nat.reduceLeDiff, xF, ruU, entryE, Nat.reduceLT, Nat.reduceAdd, Nat.reduceMul, Nat.reduceEqDiff]
    exact ⟨trivial, p, g.one (y := x.withPen { x.pen with inv := true }) rfl rfl rfl rfl⟩
  by_cases h27 : n = 27
  · subst h27
    simp (maxDischargeDepth := 6) only [hb, hT, h1, Int.reduceEq, decide_true, decide_false, Tryd.results68, ruW, putL, Nat.reduceLeDiff, xF, ruU, entryE, Nat.reduceLT, Nat.reduceAdd, Nat.reduceMul, Nat.reduceEqDiff]
    exact ⟨trivial, p, g.one (y := x.withPen { x.pen with inv := false }) rfl rfl rfl rfl⟩
  by_cases h39 : n = 39
  · subst h39
    simp (maxDischargeDepth := 6) only [hb, hT, h1, Int.reduceEq, decide_true, decide_false, Tryd.results68, ruW, putL, Nat.reduceLeDiff, xF, ruU, entryE, Nat.reduceLT, Nat.reduceAdd, Nat.reduceMul, Nat.reduceEqDiff]
    exact ⟨trivial, p, g.one (y := x.withPen { x.pen with fore := 0 }) rfl rfl rfl rfl⟩
  by_cases h49 : n = 49
  · subst h49
    simp (maxDischargeDepth := 6) only [hb, hT, h1, Int.reduceEq, decide_true, decide_false, Tryd.results68, ruW, putL, Nat.reduceLeDiff, xF, ruU, entryE, Nat.reduceLT, Nat.reduceAdd, Nat.reduceMul, Nat.reduceEqDiff]
    exact ⟨trivial, p, g.one (y := x.withPen { x.pen with back := 0 }) rfl rfl rfl rfl⟩
  have key : x.withPen (x.pen.attribute n) = x := by
    simp only [Lk.attribute, h0, h1', h22, h4, h24, h7, h27, h39, h49, or_self, if_false, Tm.withPen]
  rw [key]
  simp (maxDischargeDepth := 6) only [h0, h1', h22, h4, h24, h7, h27, h39, h49, decide_false, Tryd.results68, ruW, putL, Nat.reduceLeDiff, xF, ruU, entryE, Nat.reduceLT, Nat.reduceAdd, Nat.reduceMul, Nat.reduceEqDiff]
  exact ⟨trivial, p, Step.refl g⟩

theorem IntsAt.drop {H : AHeap} {v : Value} {l : List Int} (h : IntsAt H v l) (hl : l ≠ []) {k : Nat} (hk : k ≤ l.length) : ∃ v', aSlice Tryd.prog (ext H []) 22 v (some (.int .i64 (k : Int))) none none = some (v', ext H []) ∧ IntsAt H v' (l.drop k) ∧ idsV v' = idsV v := by
  have hu : Tryd.prog.underlying 22 = some (.slice 3) := by kernel_rfl
  have hsz : szOf Tryd.prog 3 = some 1 := by kernel_rfl
  rcases h with ⟨h, _⟩ | ⟨_, n, pre, o, rfl, hb⟩
  · exact absurd h hl
  rw [ext_nil]
  have hpos : 0 < l.length := List.length_pos_iff.2 hl
  by_cases hkl : k < l.length
  · refine ⟨.slice (some ⟨n, (pre ++ l.take k).length, if o = true then none else some 0⟩) (l.drop k).length (l.drop k).length, ?_, .inr ⟨?_, n, pre ++ l.take k, o, rfl, ?_⟩, by simp [idsV]⟩
    · have e : (pre ++ l.take k).length = pre.length + k * 1 := by simp; omega
      rw [e, List.length_drop]
      cases o with
      | true => exact sl_opn hu hsz bound_nat rfl (Nat.le_refl _) hk hkl hb rfl
      | false => exact sl_exact hu hsz bound_nat rfl (Nat.le_refl _) hk hkl
    · intro e
      have := congrArg List.length e
      simp at this
      omega
    · rw [hb, List.append_assoc, List.take_append_drop]
  · have hke : k = l.length := by omega
    cases o with
    | true => exact ⟨_, sl_end hu hsz bound_nat rfl rfl hke hpos hb rfl, .inl ⟨List.drop_eq_nil_of_le (by omega), _, _, rfl⟩, by simp [idsV]⟩
    | false =>
      refine ⟨.slice (some ⟨n, pre.length, some 0⟩) 0 0, ?_, .inl ⟨List.drop_eq_nil_of_le (by omega), _, _, rfl⟩, by simp [idsV]⟩
      have hbn : bound 0 (some (.int .i64 (k : Int))) = some k := bound_nat
      simp only [aSlice, hu, hsz, aSlice2, hbn, Option.bind_eq_bind, Option.bind_some, exactAt]
      rw [hke]
      simp [bound]

end Go.Proofs.YtpohjcacnkhnkaaDoor

/- The pen's attributes, all of a control sequence. -/
namespace Go.Proofs.YtpohjcacnkhnkaaDoor
open Go.Ax
set_option linter.unusedSimpArgs false
set_option maxRecDepth 10000

theorem attrs_nil (k : Lk) : Lk.attributes [] k = k := by rw [Lk.attributes]
theorem attrs_short {n : Int} {r : List Int} (k : Lk) (h : n = 38 ∨ n = 48) (hr : r.length < 2) : Lk.attributes (n :: r) k = k := by
  match r, hr with
  | [], _ => simp only [Lk.attributes, h, if_true]
  | [_], _ => simp only [Lk.attributes, h, if_true]
theorem attrs_long {n a b : Int} {r : List Int} (k : Lk) (h : n = 38 ∨ n = 48) : Lk.attributes (n :: a :: b :: r) k = if a ≠ 5 ∨ b > 255 then k else Lk.attributes r (if n = 38 then { k with fore := b + 1 } else { k with back := b + 1 }) := by
  rw [Lk.attributes, if_pos h]
theorem attrs_fore {n : Int} {r : List Int} (k : Lk) (h : ¬ (n = 38 ∨ n = 48)) (h2 : 30 ≤ n ∧ n ≤ 37) : Lk.attributes (n :: r) k = Lk.attributes r { k with fore := n - 29 } := by
  match r with
  | [] => simp only [Lk.attributes, h, h2, if_true, if_false, and_self]
  | [_] => simp only [Lk.attributes, h, h2, if_true, if_false, and_self]
  | _ :: _ :: _ => rw [Lk.attributes, if_neg h, if_pos h2]
theorem attrs_back {n : Int} {r : List Int} (k : Lk) (h : ¬ (n = 38 ∨ n = 48)) (h2 : ¬ (30 ≤ n ∧ n ≤ 37)) (h3 : 40 ≤ n ∧ n ≤ 47) : Lk.attributes (n :: r) k = Lk.attributes r { k with back := n - 39 } := by
  match r with
  | [] => simp only [Lk.attributes, h, h2, h3, if_true, if_false, and_self]
  | [_] => simp only [Lk.attributes, h, h2, h3, if_true, if_false, and_self]
  | _ :: _ :: _ => rw [Lk.attributes, if_neg h, if_neg h2, if_pos h3]
theorem attrs_other {n : Int} {r : List Int} (k : Lk) (h : ¬ (n = 38 ∨ n = 48)) (h2 : ¬ (30 ≤ n ∧ n ≤ 37)) (h3 : ¬ (40 ≤ n ∧ n ≤ 47)) : Lk.attributes (n :: r) k = Lk.attributes r (k.attribute n) := by
  match r with
  | [] => simp only [Lk.attributes, h, h2, h3, if_false]
  | [_] => simp only [Lk.attributes, h, h2, h3, if_false]
  | _ :: _ :: _ => rw [Lk.attributes, if_neg h, if_neg h2, if_neg h3]

set_option maxHeartbeats 4000000 in
theorem attributes_c (H : AHeap) (p : Rp) (x : Tm) (v : Value) (l : List Int) (g : TmAt H p x) (ok : H.base ≤ H.next) (hp : Pars H v l) (hv : ∀ n ∈ idsV v, n ∉ p.blks) : Does 61 [v] H p (.tuple #[]) (x.withPen (Lk.attributes l x.pen)) := by
  refine callE_fn mixed Tryd.func61 rfl Tryd.ntmps61 (Nat.le_of_ble_eq_true rfl) ?_
  simp (maxDischargeDepth := 6) only [ruW, putL, Nat.reduceLeDiff, xF, ruU, entryE, Nat.reduceLT, Nat.reduceAdd, Nat.reduceMul, Nat.reduceEqDiff]
  refine w_env fun E hE => ?_
  have g0 : E 0 = .pointer (some ⟨p.t, 0, none⟩) := by rw [hE]; simp only [ruU, entryE, Nat.reduceLT, Nat.reduceAdd, Nat.reduceMul, Nat.reduceEqDiff]
  have g1 : E 1 = v := by rw [hE]; simp only [ruU, entryE, Nat.reduceLT, Nat.reduceAdd, Nat.reduceMul, Nat.reduceEqDiff]
  clear hE
  refine w_loop (fun (q : List Int × Lk × Value × Rp) E' H' => Step H p H' q.2.2.2 (x.withPen q.2.1) ∧ IntsAt H' q.2.2.1 q.1 ∧ idsV q.2.2.1 = idsV v ∧ (∀ n ∈ q.1, 0 ≤ n) ∧ Lk.attributes q.1 q.2.1 = Lk.attributes l x.pen ∧ E' 0 = .pointer (some ⟨p.t, 0, none⟩) ∧ E' 1 = q.2.2.1) (fun q => q.1.length) (l, x.pen, v, p)
    ⟨Step.refl g, hp.at_, rfl, fun n hn => (hp.rg n hn).1, rfl, g0, g1⟩ ?_
  clear g0 g1 E
  rintro ⟨m, k, w, p1⟩ E X ⟨st, hm, hw, hrg, hfin, g0, g1⟩
  simp only at st hm hw hrg hfin g1
  rw [show X = ext X [] from rfl]
  have okX := st.ok ok
  cases m with
  | nil =>
    obtain ⟨a, c, e⟩ := hm.sl
    rw [e] at g1
    have hd' : decide ((0 : Int) < ((0 : Nat) : Int)) = false := by decide
    simp (maxDischargeDepth := 6) only [g0, g1, hd', Tryd.results61, ruW, putL, Nat.reduceLeDiff, xF, ruU, entryE, Nat.reduceLT, Nat.reduceAdd, Nat.reduceMul, Nat.reduceEqDiff]
    rw [attrs_nil] at hfin
    rw [← hfin]
    exact ⟨trivial, p1, st⟩
  | cons n r =>
    obtain ⟨a, c, e⟩ := hm.sl
    obtain ⟨L, hL⟩ : ∃ L, (n :: r).length = L := ⟨_, rfl⟩
    rw [hL] at e
    obtain ⟨b, hb⟩ : ∃ b, X.next = b := ⟨_, rfl⟩
    have hT : p.t < b := hb ▸ st.same ▸ st.at_.lt p1.t (by simp [Rp.blks])
    have h1 := st.at_.cell
    rw [st.same] at h1
    simp only [cellsT] at h1
    have hlt : ∀ q ∈ idsV v, q < b := fun q hq => hb ▸ Nat.lt_of_lt_of_le (hp.lt q hq) st.mod.next
    obtain ⟨n1, o1, i1, m1, _, ld1⟩ := hm.get (k := 0) (c := n) rfl
    have t1 := hlt n1 (hw ▸ m1)
    obtain ⟨w1, sl1, hm1, hw1⟩ := hm.drop (by simp) (k := 1) (by simp)
    rw [List.drop_one, List.tail_cons] at hm1
    obtain ⟨a1, c1, e1⟩ := hm1.sl
    obtain ⟨L1, hL1⟩ : ∃ L, r.length = L := ⟨_, rfl⟩
    rw [hL1] at e1
    have hd' : decide ((0 : Int) < (L : Int)) = true := decide_eq_true (by rw [List.length_cons] at hL; omega)
    rw [show ((0 : Nat) : Int) = 0 from rfl] at i1
    rw [show ((1 : Nat) : Int) = 1 from rfl] at sl1
    rw [e] at g1 i1 sl1
    by_cases h38 : n = 38 ∨ n = 48
    · have hsel : ∃ d, decide (n = 38) = d ∧ (d = false → decide (n = 48) = true) ∧ (d = true ↔ n = 38) := ⟨_, rfl, fun h => decide_eq_true (by have := of_decide_eq_false h; omega), by simp⟩
      obtain ⟨d38, hd38, hd48, ed38⟩ := hsel
      by_cases hr : r.length < 2
      · have hd2 : decide ((L1 : Int) < 2) = true := decide_eq_true (by omega)
        rw [attrs_short k h38 hr] at hfin
        cases d38 with
        | true =>
          simp (maxDischargeDepth := 6) only [g0, g1, hb, i1, t1, ld1, sl1, e1, hd', hd38, hd2, Tryd.results61, ruW, putL, Nat.reduceLeDiff, xF, ruU, entryE, Nat.reduceLT, Nat.reduceAdd, Nat.reduceMul, Nat.reduceEqDiff]
          rw [← hfin]
          exact ⟨trivial, p1, st⟩
        | false =>
          simp (maxDischargeDepth := 6) only [g0, g1, hb, i1, t1, ld1, sl1, e1, hd', hd38, hd48 rfl, hd2, Tryd.results61, ruW, putL, Nat.reduceLeDiff, xF, ruU, entryE, Nat.reduceLT, Nat.reduceAdd, Nat.reduceMul, Nat.reduceEqDiff]
          rw [← hfin]
          exact ⟨trivial, p1, st⟩
      · match r, hr, hm, hm1, hfin, hrg, hL, hL1 with
        | [], hr, _, _, _, _, _, _ => simp at hr
        | [_], hr, _, _, _, _, _, _ => simp at hr
        | a2 :: b2 :: r2, hr, hm, hm1, hfin, hrg, hL, hL1 =>
          rw [attrs_long k h38] at hfin
          have hd2 : decide ((L1 : Int) < 2) = false := decide_eq_false (by simp only [List.length_cons] at hL1; omega)
          obtain ⟨n2, o2, i2, m2, _, ld2⟩ := hm1.get (k := 0) (c := a2) rfl
          obtain ⟨n3, o3, i3, m3, _, ld3⟩ := hm1.get (k := 1) (c := b2) rfl
          have t2 := hlt n2 (hw ▸ hw1 ▸ m2)
          have t3 := hlt n3 (hw ▸ hw1 ▸ m3)
          rw [show ((0 : Nat) : Int) = 0 from rfl] at i2
          rw [show ((1 : Nat) : Int) = 1 from rfl] at i3
          rw [e1] at i2 i3 sl1
          obtain ⟨d5, hd5⟩ : ∃ d, decide (a2 = 5) = d := ⟨_, rfl⟩
          obtain ⟨dB, hdB⟩ : ∃ d, decide ((255 : Int) < b2) = d := ⟨_, rfl⟩
          have hd5' : decide (¬ a2 = 5) = !d5 := by rw [← hd5]; simp
          have e5 : a2 = 5 ↔ d5 = true := int_dec hd5
          have eB : b2 > 255 ↔ dB = true := by rw [← hdB, decide_eq_true_iff]
          have hb2 := hrg b2 (by simp)
          have hwb : b2 ≤ 255 → IntKind.i64.wrap (b2 + 1) = b2 + 1 := fun h => wrap_sm (by omega) (by omega)
          have hkey : Lk.attributes l x.pen = cond (!d5 || dB) k (Lk.attributes r2 (cond d38 { k with fore := b2 + 1 } { k with back := b2 + 1 })) := by
            rw [← hfin]
            simp only [ne_eq, e5, eB, ← ed38]
            cases d5 <;> cases dB <;> cases d38 <;> rfl
          have hdis1 : ∀ q ∈ idsV w1, q ≠ p.t := fun q hq e => hv q (hw ▸ hw1 ▸ hq) (e ▸ by simp [Rp.blks])
          cases d5 with
          | false =>
            rw [hkey]
            cases d38 with
            | true =>
              simp (maxDischargeDepth := 6) only [g0, g1, hb, i1, i2, t1, t2, ld1, ld2, sl1, hd', hd38, hd2, hd5, hd5', Bool.not_false, Bool.true_or, cond_true, Tryd.results61, ruW, putL, Nat.reduceLeDiff, xF, ruU, entryE, Nat.reduceLT, Nat.reduceAdd, Nat.reduceMul, Nat.reduceEqDiff]
              exact ⟨trivial, p1, st⟩
            | false =>
              simp (maxDischargeDepth := 6) only [g0, g1, hb, i1, i2, t1, t2, ld1, ld2, sl1, hd', hd38, hd48 rfl, hd2, hd5, hd5', Bool.not_false, Bool.true_or, cond_true, Tryd.results61, ruW, putL, Nat.reduceLeDiff, xF, ruU, entryE, Nat.reduceLT, Nat.reduceAdd, Nat.reduceMul, Nat.reduceEqDiff]
              exact ⟨trivial, p1, st⟩
          | true =>
            cases dB with
            | true =>
              rw [hkey]
              cases d38 with
              | true =>
                simp (maxDischargeDepth := 6) only [g0, g1, hb, i1, i2, i3, t1, t2, t3, ld1, ld2, ld3, sl1, hd', hd38, hd2, hd5, hd5', hdB, Bool.not_true, Bool.false_or, cond_true, Tryd.results61, ruW, putL, Nat.reduceLeDiff, xF, ruU, entryE, Nat.reduceLT, Nat.reduceAdd, Nat.reduceMul, Nat.reduceEqDiff]
                exact ⟨trivial, p1, st⟩
              | false =>
                simp (maxDischargeDepth := 6) only [g0, g1, hb, i1, i2, i3, t1, t2, t3, ld1, ld2, ld3, sl1, hd', hd38, hd48 rfl, hd2, hd5, hd5', hdB, Bool.not_true, Bool.false_or, cond_true, Tryd.results61, ruW, putL, Nat.reduceLeDiff, xF, ruU, entryE, Nat.reduceLT, Nat.reduceAdd, Nat.reduceMul, Nat.reduceEqDiff]
                exact ⟨trivial, p1, st⟩
            | false =>
              have hle : b2 ≤ 255 := by
                have : ¬ b2 > 255 := fun h => by have := eB.1 h; simp at this
                omega
              simp only [Bool.not_true, Bool.false_or, cond_false] at hkey
              cases d38 with
              | true =>
                have st2 := st.trans ok (st.at_.one (off := 2) (vs := [.int .i64 (b2 + 1)]) (y := x.withPen { k with fore := b2 + 1 }) rfl rfl rfl rfl)
                rw [st.same] at st2
                simp (maxDischargeDepth := 6) only [g0, g1, hb, hT, h1, i1, i2, i3, t1, t2, t3, ld1, ld2, ld3, sl1, hd', hd38, hd2, hd5, hd5', hdB, hwb hle, ruW, putL, Nat.reduceLeDiff, xF, ruU, entryE, Nat.reduceLT, Nat.reduceAdd, Nat.reduceMul, Nat.reduceEqDiff]
                generalize hV : uw X p.t 2 _ = V at st2 ⊢
                rw [ext_nil] at st2
                have hmV : IntsAt V w1 (a2 :: b2 :: r2) := hm1.of fun q hq => by rw [← hV]; exact uw_get (hdis1 q hq)
                obtain ⟨w2, sl2, hm2, hw2⟩ := hmV.drop (by simp) (k := 2) (by simp)
                rw [show (a2 :: b2 :: r2).drop 2 = r2 from rfl] at hm2
                rw [show ((2 : Nat) : Int) = 2 from rfl, e1] at sl2
                simp (maxDischargeDepth := 6) only [g0, sl2, ruW, putL, Nat.reduceLeDiff, xF, ruU, entryE, Nat.reduceLT, Nat.reduceAdd, Nat.reduceMul, Nat.reduceEqDiff]
                refine loopC_next ⟨(r2, { k with fore := b2 + 1 }, w2, p1), by simp only [List.length_cons]; omega, st2, hm2, hw2.trans (hw1.trans hw), fun q hq => hrg q (by simp [hq]), by rw [hkey]; rfl, ?_, ?_⟩ <;> simp only [g0, ruU, entryE, Nat.reduceLT, Nat.reduceAdd, Nat.reduceMul, Nat.reduceEqDiff]
              | false =>
                have st2 := st.trans ok (st.at_.one (off := 3) (vs := [.int .i64 (b2 + 1)]) (y := x.withPen { k with back := b2 + 1 }) rfl rfl rfl rfl)
                rw [st.same] at st2
                simp (maxDischargeDepth := 6) only [g0, g1, hb, hT, h1, i1, i2, i3, t1, t2, t3, ld1, ld2, ld3, sl1, hd', hd38, hd48 rfl, hd2, hd5, hd5', hdB, hwb hle, ruW, putL, Nat.reduceLeDiff, xF, ruU, entryE, Nat.reduceLT, Nat.reduceAdd, Nat.reduceMul, Nat.reduceEqDiff]
                generalize hV : uw X p.t 3 _ = V at st2 ⊢
                rw [ext_nil] at st2
                have hmV : IntsAt V w1 (a2 :: b2 :: r2) := hm1.of fun q hq => by rw [← hV]; exact uw_get (hdis1 q hq)
                obtain ⟨w2, sl2, hm2, hw2⟩ := hmV.drop (by simp) (k := 2) (by simp)
                rw [show (a2 :: b2 :: r2).drop 2 = r2 from rfl] at hm2
                rw [show ((2 : Nat) : Int) = 2 from rfl, e1] at sl2
                simp (maxDischargeDepth := 6) only [g0, sl2, ruW, putL, Nat.reduceLeDiff, xF, ruU, entryE, Nat.reduceLT, Nat.reduceAdd, Nat.reduceMul, Nat.reduceEqDiff]
                refine loopC_next ⟨(r2, { k with back := b2 + 1 }, w2, p1), by simp only [List.length_cons]; omega, st2, hm2, hw2.trans (hw1.trans hw), fun q hq => hrg q (by simp [hq]), by rw [hkey]; rfl, ?_, ?_⟩ <;> simp only [g0, ruU, entryE, Nat.reduceLT, Nat.reduceAdd, Nat.reduceMul, Nat.reduceEqDiff]
    · have f38 : decide (n = 38) = false := decide_eq_false (fun e => h38 (.inl e))
      have f48 : decide (n = 48) = false := decide_eq_false (fun e => h38 (.inr e))
      have hdis1 : ∀ q ∈ idsV w1, q ≠ p.t := fun q hq e => hv q (hw ▸ hw1 ▸ hq) (e ▸ by simp [Rp.blks])
      have hrg2 : ∀ q ∈ r, 0 ≤ q := fun q hq => hrg q (by simp [hq])
      by_cases h30 : 30 ≤ n ∧ n ≤ 37
      · have q1 : decide (30 ≤ n) = true := decide_eq_true h30.1
        have q2 : decide (n ≤ 37) = true := decide_eq_true h30.2
        have hwn : IntKind.i64.wrap (n - 29) = n - 29 := wrap_sm (by omega) (by omega)
        rw [attrs_fore k h38 h30] at hfin
        have st2 := st.trans ok (st.at_.one (off := 2) (vs := [.int .i64 (n - 29)]) (y := x.withPen { k with fore := n - 29 }) rfl rfl rfl rfl)
        rw [st.same] at st2
        simp (maxDischargeDepth := 6) only [g0, g1, hb, hT, h1, i1, t1, ld1, sl1, hd', f38, f48, q1, q2, hwn, ruW, putL, Nat.reduceLeDiff, xF, ruU, entryE, Nat.reduceLT, Nat.reduceAdd, Nat.reduceMul, Nat.reduceEqDiff]
        generalize hV : uw X p.t 2 _ = V at st2 ⊢
        rw [ext_nil] at st2
        have hmV : IntsAt V w1 r := hm1.of fun q hq => by rw [← hV]; exact uw_get (hdis1 q hq)
        refine loopC_next ⟨(r, { k with fore := n - 29 }, w1, p1), by simp only [List.length_cons]; omega, st2, hmV, hw1.trans hw, hrg2, hfin, ?_, ?_⟩ <;> simp only [g0, ruU, entryE, Nat.reduceLT, Nat.reduceAdd, Nat.reduceMul, Nat.reduceEqDiff]
      · obtain ⟨d1, hd1⟩ : ∃ d, decide (30 ≤ n) = d := ⟨_, rfl⟩
        by_cases h40 : 40 ≤ n ∧ n ≤ 47
        · have q0 : decide (30 ≤ n) = true := decide_eq_true (by omega)
          have q00 : decide (n ≤ 37) = false := decide_eq_false (by omega)
          have q1 : decide (40 ≤ n) = true := decide_eq_true h40.1
          have q2 : decide (n ≤ 47) = true := decide_eq_true h40.2
          have hwn : IntKind.i64.wrap (n - 39) = n - 39 := wrap_sm (by omega) (by omega)
          rw [attrs_back k h38 h30 h40] at hfin
          have st2 := st.trans ok (st.at_.one (off := 3) (vs := [.int .i64 (n - 39)]) (y := x.withPen { k with back := n - 39 }) rfl rfl rfl rfl)
          rw [st.same] at st2
          simp (maxDischargeDepth := 6) only [g0, g1, hb, hT, h1, i1, t1, ld1, sl1, hd', f38, f48, q0, q00, q1, q2, hwn, ruW, putL, Nat.reduceLeDiff, xF, ruU, entryE, Nat.reduceLT, Nat.reduceAdd, Nat.reduceMul, Nat.reduceEqDiff]
          generalize hV : uw X p.t 3 _ = V at st2 ⊢
          rw [ext_nil] at st2
          have hmV : IntsAt V w1 r := hm1.of fun q hq => by rw [← hV]; exact uw_get (hdis1 q hq)
          refine loopC_next ⟨(r, { k with back := n - 39 }, w1, p1), by simp only [List.length_cons]; omega, st2, hmV, hw1.trans hw, hrg2, hfin, ?_, ?_⟩ <;> simp only [g0, ruU, entryE, Nat.reduceLT, Nat.reduceAdd, Nat.reduceMul, Nat.reduceEqDiff]
        · rw [attrs_other k h38 h30 h40] at hfin
          have hat := attribute_c (ext X []) p1 (x.withPen k) n st.at_
          unfold Does at hat
          rw [st.same] at hat
          have hgo : ∀ s3 : Bool, True := fun _ => trivial
          obtain ⟨d2, hd2⟩ : ∃ d, decide (n ≤ 37) = d := ⟨_, rfl⟩
          obtain ⟨d3, hd3⟩ : ∃ d, decide (40 ≤ n) = d := ⟨_, rfl⟩
          obtain ⟨d4, hd4⟩ : ∃ d, decide (n ≤ 47) = d := ⟨_, rfl⟩
          have c1 : ¬ (d1 = true ∧ d2 = true) := fun h => h30 ⟨of_decide_eq_true (hd1.trans h.1), of_decide_eq_true (hd2.trans h.2)⟩
          have c2 : ¬ (d3 = true ∧ d4 = true) := fun h => h40 ⟨of_decide_eq_true (hd3.trans h.1), of_decide_eq_true (hd4.trans h.2)⟩
          cases d1 <;> cases d2 <;> cases d3 <;> cases d4 <;> first
            | exact absurd ⟨rfl, rfl⟩ c1
            | exact absurd ⟨rfl, rfl⟩ c2
            | (simp (maxDischargeDepth := 6) only [g0, g1, hb, i1, t1, ld1, sl1, hd', f38, f48, hd1, hd2, hd3, hd4, ruW, putL, Nat.reduceLeDiff, xF, ruU, entryE, Nat.reduceLT, Nat.reduceAdd, Nat.reduceMul, Nat.reduceEqDiff]
               refine hat.mono ?_
               rintro _ V ⟨rfl, p2, stv⟩
               have st2 := st.trans ok stv
               have hmV : IntsAt V w1 r := hm1.of fun q hq => stv.mod.get q (by rw [ext_nil]; exact hb ▸ hlt q (hw ▸ hw1 ▸ hq)) (fun hin => by
                 rcases st.new q hin with h | h
                 · exact hv q (hw ▸ hw1 ▸ hq) h
                 · have := hp.lt q (hw ▸ hw1 ▸ hq); omega)
               rw [show V = ext V [] from rfl]
               simp (maxDischargeDepth := 6) only [g0, ruW, putL, Nat.reduceLeDiff, xF, ruU, entryE, Nat.reduceLT, Nat.reduceAdd, Nat.reduceMul, Nat.reduceEqDiff]
               refine loopC_next ⟨(r, k.attribute n, w1, p2), by simp only [List.length_cons]; omega, st2, hmV, hw1.trans hw, hrg2, hfin, ?_, ?_⟩ <;> simp only [g0, ruU, entryE, Nat.reduceLT, Nat.reduceAdd, Nat.reduceMul, Nat.reduceEqDiff])

end Go.Proofs.YtpohjcacnkhnkaaDoor

/- Walk rules: operations on bits, comparisons of strings, maps that are new, function values. -/
namespace Go.Ax
set_option linter.unusedSimpArgs false

section
variable {P : Program} {ro : Option Nat} {H : AHeap} {N : Nat} {E : Env} {ds : List Deferred} {ops : Array Oper} {rest : List Oper} {d : Nat} {ty : TypeId} {pos : String} {after : Array Edge} {Q : Exit → AAct → AHeap → Prop}

theorem w_plain {op : BinOp} {t u : TypeId} {x y : Operand} {p q v : Value} (hx : opOk P N x = true) (hy : opOk P N y = true) (hp : opv E x = p) (hq : opv E y = q) (hd : d < N) (h0 : aBin P H op t p q = none) (h1 : af p = true) (h2 : af q = true) (h : peval P (do eqGuard op t x y p q; binOp op t p q) = some v) (h3 : af v = true) :
    wpOps P ro ops (⟨some d, .binOp op t x y u, ty, pos, after, none⟩ :: rest) (mkA N E ds) H Q = wpOps P ro ops rest (mkA N (upd E d v) ds) H Q :=
  (w_rv (x := some v) rfl (by simp only [aop, xBin, aeval_opv hx, aeval_opv hy, hp, hq, Option.bind_eq_bind, Option.bind_some, binV, h0, h1, h2, aPlain, h, h3, Bool.and_self, if_true, Option.map_some]; rfl) hd).trans valC_some

def bAnd (k : IntKind) (x y : Int) : Int := k.wrap ((BitVec.ofInt k.bits x &&& BitVec.ofInt k.bits y).toNat : Int)
def bOr (k : IntKind) (x y : Int) : Int := k.wrap ((BitVec.ofInt k.bits x ||| BitVec.ofInt k.bits y).toNat : Int)
def bNot (k : IntKind) (x y : Int) : Int := k.wrap ((BitVec.ofInt k.bits x &&& ~~~BitVec.ofInt k.bits y).toNat : Int)
def bShl (k : IntKind) (x : Int) (n : Nat) : Int := k.wrap (x * 2 ^ (min n k.bits))
def bShr (k : IntKind) (x : Int) (n : Nat) : Int := x.fdiv (2 ^ (min n k.bits))

def bitV (op : BinOp) : Value → Value → Option Value
  | .int k a, .int k' b => (match op with
    | .and => if k = k' then some (.int k (bAnd k a b)) else none
    | .or => if k = k' then some (.int k (bOr k a b)) else none
    | .andNot => if k = k' then some (.int k (bNot k a b)) else none
    | .shl => if 0 ≤ b then some (.int k (bShl k a b.toNat)) else none
    | .shr => if 0 ≤ b then some (.int k (bShr k a b.toNat)) else none
    | _ => none)
  | .string a, .string b => (match op with
    | .eql => some (.bool (a.toList == b.toList))
    | _ => none)
  | _, _ => none

theorem w_bits {op : BinOp} {t u : TypeId} {x y : Operand} {p q v : Value} (hx : opOk P N x = true) (hy : opOk P N y = true) (hp : opv E x = p) (hq : opv E y = q) (hd : d < N) (h : bitV op p q = some v) (h0 : aBin P H op t p q = none) :
    wpOps P ro ops (⟨some d, .binOp op t x y u, ty, pos, after, none⟩ :: rest) (mkA N E ds) H Q = wpOps P ro ops rest (mkA N (upd E d v) ds) H Q := by
  unfold bitV at h
  split at h
  · rename_i k a k' b
    split at h <;> try split at h
    · rename_i hk
      subst hk
      simp only [Option.some.injEq] at h
      subst h
      exact w_plain hx hy hp hq hd h0 rfl rfl (by simp [eqGuard, binOp, peval, Op.intBits, bAnd, pure, bind, Sem.bind]) rfl
    · cases h
    · rename_i hk
      subst hk
      simp only [Option.some.injEq] at h
      subst h
      exact w_plain hx hy hp hq hd h0 rfl rfl (by simp [eqGuard, binOp, peval, Op.intBits, bOr, pure, bind, Sem.bind]) rfl
    · cases h
    · rename_i hk
      subst hk
      simp only [Option.some.injEq] at h
      subst h
      exact w_plain hx hy hp hq hd h0 rfl rfl (by simp [eqGuard, binOp, peval, Op.intBits, bNot, pure, bind, Sem.bind]) rfl
    · cases h
    · rename_i hb
      simp only [Option.some.injEq] at h
      subst h
      exact w_plain hx hy hp hq hd h0 rfl rfl (by simp [eqGuard, binOp, peval, Op.shift, bShl, pure, bind, Sem.bind, show ¬ b < 0 by omega]) rfl
    · cases h
    · rename_i hb
      simp only [Option.some.injEq] at h
      subst h
      exact w_plain hx hy hp hq hd h0 rfl rfl (by simp [eqGuard, binOp, peval, Op.shift, bShr, pure, bind, Sem.bind, show ¬ b < 0 by omega]) rfl
    · cases h
    all_goals cases h
  · rename_i a b
    split at h
    · simp only [Option.some.injEq] at h
      subst h
      exact w_plain hx hy hp hq hd h0 rfl rfl (by simp [eqGuard, binOp, peval, Op.stringOp, pure, bind, Sem.bind]) rfl
    · cases h
  · cases h

theorem bin_nobit {op : BinOp} {t : TypeId} {p q v : Value} (hop : op = .and ∨ op = .or ∨ op = .andNot ∨ op = .shl ∨ op = .shr) (h : bitV op p q = some v) : aBin P H op t p q = none := by
  unfold bitV at h
  split at h
  · rename_i k a k' b
    simp only [aBin]
    split
    · rcases hop with rfl | rfl | rfl | rfl | rfl <;> rfl
    · rfl
  · rcases hop with rfl | rfl | rfl | rfl | rfl <;> cases h
  · cases h
theorem w_bit {op : BinOp} {t u : TypeId} {x y : Operand} (hop : op = .and ∨ op = .or ∨ op = .andNot ∨ op = .shl ∨ op = .shr) (hx : opOk P N x = true) (hy : opOk P N y = true) (hd : d < N) (h : (bitV op (opv E x) (opv E y)).isSome = true) :
    wpOps P ro ops (⟨some d, .binOp op t x y u, ty, pos, after, none⟩ :: rest) (mkA N E ds) H Q = valC P ro ops rest N E ds d H Q (bitV op (opv E x) (opv E y)) := by
  cases hv : bitV op (opv E x) (opv E y) with
  | none => rw [hv] at h; cases h
  | some v => exact (w_bits hx hy rfl rfl hd hv (bin_nobit hop hv)).trans valC_some.symm
theorem w_and {t u : TypeId} {x y : Operand} (hx : opOk P N x = true) (hy : opOk P N y = true) (hd : d < N) (h : (bitV .and (opv E x) (opv E y)).isSome = true) : wpOps P ro ops (⟨some d, .binOp .and t x y u, ty, pos, after, none⟩ :: rest) (mkA N E ds) H Q = valC P ro ops rest N E ds d H Q (bitV .and (opv E x) (opv E y)) := w_bit (by simp) hx hy hd h
theorem w_or {t u : TypeId} {x y : Operand} (hx : opOk P N x = true) (hy : opOk P N y = true) (hd : d < N) (h : (bitV .or (opv E x) (opv E y)).isSome = true) : wpOps P ro ops (⟨some d, .binOp .or t x y u, ty, pos, after, none⟩ :: rest) (mkA N E ds) H Q = valC P ro ops rest N E ds d H Q (bitV .or (opv E x) (opv E y)) := w_bit (by simp) hx hy hd h
theorem w_andNot {t u : TypeId} {x y : Operand} (hx : opOk P N x = true) (hy : opOk P N y = true) (hd : d < N) (h : (bitV .andNot (opv E x) (opv E y)).isSome = true) : wpOps P ro ops (⟨some d, .binOp .andNot t x y u, ty, pos, after, none⟩ :: rest) (mkA N E ds) H Q = valC P ro ops rest N E ds d H Q (bitV .andNot (opv E x) (opv E y)) := w_bit (by simp) hx hy hd h
theorem w_shl {t u : TypeId} {x y : Operand} (hx : opOk P N x = true) (hy : opOk P N y = true) (hd : d < N) (h : (bitV .shl (opv E x) (opv E y)).isSome = true) : wpOps P ro ops (⟨some d, .binOp .shl t x y u, ty, pos, after, none⟩ :: rest) (mkA N E ds) H Q = valC P ro ops rest N E ds d H Q (bitV .shl (opv E x) (opv E y)) := w_bit (by simp) hx hy hd h
theorem w_shr {t u : TypeId} {x y : Operand} (hx : opOk P N x = true) (hy : opOk P N y = true) (hd : d < N) (h : (bitV .shr (opv E x) (opv E y)).isSome = true) : wpOps P ro ops (⟨some d, .binOp .shr t x y u, ty, pos, after, none⟩ :: rest) (mkA N E ds) H Q = valC P ro ops rest N E ds d H Q (bitV .shr (opv E x) (opv E y)) := w_bit (by simp) hx hy hd h
theorem bit_and {k : IntKind} {a b : Int} : bitV .and (.int k a) (.int k b) = some (.int k (bAnd k a b)) := by simp only [bitV, if_true]
theorem bit_or {k : IntKind} {a b : Int} : bitV .or (.int k a) (.int k b) = some (.int k (bOr k a b)) := by simp only [bitV, if_true]
theorem bit_andNot {k : IntKind} {a b : Int} : bitV .andNot (.int k a) (.int k b) = some (.int k (bNot k a b)) := by simp only [bitV, if_true]
theorem bit_shl {k k' : IntKind} {a b : Int} (h : 0 ≤ b) : bitV .shl (.int k a) (.int k' b) = some (.int k (bShl k a b.toNat)) := by simp only [bitV, h, if_true]
theorem bit_shr {k k' : IntKind} {a b : Int} (h : 0 ≤ b) : bitV .shr (.int k a) (.int k' b) = some (.int k (bShr k a b.toNat)) := by simp only [bitV, h, if_true]
theorem w_eqStr {t u : TypeId} {x y : Operand} {a b : ByteArray} (hx : opOk P N x = true) (hy : opOk P N y = true) (hp : opv E x = .string a) (hq : opv E y = .string b) (hd : d < N) (h0 : aBin P H .eql t (.string a) (.string b) = none) : wpOps P ro ops (⟨some d, .binOp .eql t x y u, ty, pos, after, none⟩ :: rest) (mkA N E ds) H Q = wpOps P ro ops rest (mkA N (upd E d (.bool (a.toList == b.toList))) ds) H Q :=
  w_bits hx hy hp hq hd rfl h0

def mapO (es : List MapEntry) (c : Nat) : AObj := ⟨.map ⟨es⟩ c, false, ⟨[], 0⟩⟩
theorem w_mkmap {t : TypeId} (hd : d < N) : wpOps P ro ops (⟨some d, .makeMap t none, ty, pos, after, none⟩ :: rest) (mkA N E ds) H Q = wpOps P ro ops rest (mkA N (upd E d (.map (some H.next))) ds) (H.new (mapO [] 0)) Q := by
  rw [w_op rfl rfl]
  simp only [opA, aop, xMakeMap, mapNew, nextA, opC, put_some N E ds d _ hd]
  rfl
theorem w_ins {t : TypeId} {x k y : Operand} (hx : opOk P N x = true) (hk : opOk P N k = true) (hy : opOk P N y = true) : wpOps P ro ops (⟨none, .insert t x k y, ty, pos, after, none⟩ :: rest) (mkA N E ds) H Q = storeC P ro ops rest (mkA N E ds) Q (aMapUpdate P H t (opv E x) (opv E k) (opv E y)) := by
  rw [w_op rfl rfl]
  simp only [opA, aop, xMapUpdate, aeval_opv hx, aeval_opv hk, aeval_opv hy, ruh, Option.bind_eq_bind, Option.bind_some]
  cases aMapUpdate P H t (opv E x) (opv E k) (opv E y) with
  | none => rfl
  | some H1 => simp only [Option.map_some, nextA, opC, put_none, storeC]
theorem w_lookup {t : TypeId} {x k : Operand} {ok : Bool} (hx : opOk P N x = true) (hk : opOk P N k = true) (hd : d < N) : wpOps P ro ops (⟨some d, .lookup t x k ok, ty, pos, after, none⟩ :: rest) (mkA N E ds) H Q = valC P ro ops rest N E ds d H Q (aLookup P H t (opv E x) (opv E k) ok) :=
  w_rv rfl (by simp only [aop, xLookup, aeval_opv hx, aeval_opv hk, Option.bind_eq_bind, Option.bind_some]) hd

theorem upd_newMap {t key el : TypeId} {kd : TypeDesc} {k v : Value} {es : List MapEntry} {c m : Nat} (hm : H.next = m) (hok : H.base ≤ H.next) (hu : P.underlying t = some (.map key el)) (hk : P.underlying key = some kd) (h1 : (keyOk k && keyKind kd) = true) (h2 : scb (H.next + 1) v = true) (hf : Instr.findNow kd k es 0 = some none) :
    aMapUpdate P (H.new (mapO es c)) t (.map (some m)) k v = some (H.new (mapO (es ++ [{ key := k, val := v, born := c }]) (c + 1))) := by
  subst hm
  have hg : (H.new (mapO es c)).get H.next = some ⟨.map ⟨es⟩ c, false, ⟨[], 0⟩⟩ := by rw [AHeap.get_new, if_pos rfl]; rfl
  have h3 : (keyOk k && keyKind kd && scb (H.new (mapO es c)).next v) = true := by rw [h1, Bool.true_and]; exact h2
  have e := new_upd (H := H) (x := mapO es c) (o := mapO (es ++ [{ key := k, val := v, born := c }]) (c + 1)) hok
  unfold aMapUpdate
  rw [hu]
  simp only [hg, hk, Option.bind_eq_bind, Option.bind_some, h3, if_true, hf]
  rw [← e]
  simp [mapO]
end

end Go.Ax

/- The functions that end control sequences. -/
namespace Go.Proofs.YtpohjcacnkhnkaaDoor
open Go.Ax
set_option linter.unusedSimpArgs false
set_option maxRecDepth 10000

def ent (i : Nat) (k : Int) (f : Nat) : MapEntry := { key := .int .u8 k, val := .func (.func f) #[] #[], born := i }
def ents0 : List MapEntry := []
def ents1 : List MapEntry := ents0 ++ [ent 0 65 50]
def ents2 : List MapEntry := ents1 ++ [ent 1 66 51]
def ents3 : List MapEntry := ents2 ++ [ent 2 67 52]
def ents4 : List MapEntry := ents3 ++ [ent 3 68 53]
def ents5 : List MapEntry := ents4 ++ [ent 4 71 54]
def ents6 : List MapEntry := ents5 ++ [ent 5 100 55]
def ents7 : List MapEntry := ents6 ++ [ent 6 72 56]
def ents8 : List MapEntry := ents7 ++ [ent 7 102 56]
def ents9 : List MapEntry := ents8 ++ [ent 8 74 57]
def ents10 : List MapEntry := ents9 ++ [ent 9 75 58]
def ents11 : List MapEntry := ents10 ++ [ent 10 76 59]
def ents12 : List MapEntry := ents11 ++ [ent 11 77 60]
def ents13 : List MapEntry := ents12 ++ [ent 12 109 61]
def ents14 : List MapEntry := ents13 ++ [ent 13 114 62]

def finO : AObj := mapO ents14 14

theorem finals_c (H : AHeap) (ok : H.base ≤ H.next) : CallA Tryd.prog 44 [] (ext H []) fun out H1 => out = .ok (.map (some H.next)) ∧ H1 = H.new finO := by
  obtain ⟨b, hb⟩ : ∃ b, H.next = b := ⟨_, rfl⟩
  have hu : Tryd.prog.underlying 81 = some (.map 5 80) := by kernel_rfl
  have hk : Tryd.prog.underlying 5 = some (.int .u8) := by kernel_rfl
  have U : ∀ (es : List MapEntry) (c : Nat) (k : Int) (f : Nat), Instr.findNow (.int .u8) (.int .u8 k) es 0 = some none → aMapUpdate Tryd.prog ((ext H []).new (mapO es c)) 81 (.map (some (b + 0))) (.int .u8 k) (.func (.func f) #[] #[]) = some ((ext H []).new (mapO (es ++ [ent c k f]) (c + 1))) := fun es c k f hf => upd_newMap (H := ext H []) hb ok hu hk rfl rfl hf
  have u0 : aMapUpdate Tryd.prog ((ext H []).new (mapO [] 0)) 81 (.map (some (b + 0))) (.int .u8 65) (.func (.func 50) #[] #[]) = some ((ext H []).new (mapO ents1 1)) := U [] 0 65 50 rfl
  have u1 : aMapUpdate Tryd.prog ((ext H []).new (mapO ents1 1)) 81 (.map (some (b + 0))) (.int .u8 66) (.func (.func 51) #[] #[]) = some ((ext H []).new (mapO ents2 2)) := U ents1 1 66 51 rfl
  have u2 : aMapUpdate Tryd.prog ((ext H []).new (mapO ents2 2)) 81 (.map (some (b + 0))) (.int .u8 67) (.func (.func 52) #[] #[]) = some ((ext H []).new (mapO ents3 3)) := U ents2 2 67 52 rfl
  have u3 : aMapUpdate Tryd.prog ((ext H []).new (mapO ents3 3)) 81 (.map (some (b + 0))) (.int .u8 68) (.func (.func 53) #[] #[]) = some ((ext H []).new (mapO ents4 4)) := U ents3 3 68 53 rfl
  have u4 : aMapUpdate Tryd.prog ((ext H []).new (mapO ents4 4)) 81 (.map (some (b + 0))) (.int .u8 71) (.func (.func 54) #[] #[]) = some ((ext H []).new (mapO ents5 5)) := U ents4 4 71 54 rfl
  have u5 : aMapUpdate Tryd.prog ((ext H []).new (mapO ents5 5)) 81 (.map (some (b + 0))) (.int .u8 100) (.func (.func 55) #[] #[]) = some ((ext H []).new (mapO ents6 6)) := U ents5 5 100 55 rfl
  have u6 : aMapUpdate Tryd.prog ((ext H []).new (mapO ents6 6)) 81 (.map (some (b + 0))) (.int .u8 72) (.func (.func 56) #[] #[]) = some ((ext H []).new (mapO ents7 7)) := U ents6 6 72 56 rfl
  have u7 : aMapUpdate Tryd.prog ((ext H []).new (mapO ents7 7)) 81 (.map (some (b + 0))) (.int .u8 102) (.func (.func 56) #[] #[]) = some ((ext H []).new (mapO ents8 8)) := U ents7 7 102 56 rfl
  have u8 : aMapUpdate Tryd.prog ((ext H []).new (mapO ents8 8)) 81 (.map (some (b + 0))) (.int .u8 74) (.func (.func 57) #[] #[]) = some ((ext H []).new (mapO ents9 9)) := U ents8 8 74 57 rfl
  have u9 : aMapUpdate Tryd.prog ((ext H []).new (mapO ents9 9)) 81 (.map (some (b + 0))) (.int .u8 75) (.func (.func 58) #[] #[]) = some ((ext H []).new (mapO ents10 10)) := U ents9 9 75 58 rfl
  have u10 : aMapUpdate Tryd.prog ((ext H []).new (mapO ents10 10)) 81 (.map (some (b + 0))) (.int .u8 76) (.func (.func 59) #[] #[]) = some ((ext H []).new (mapO ents11 11)) := U ents10 10 76 59 rfl
  have u11 : aMapUpdate Tryd.prog ((ext H []).new (mapO ents11 11)) 81 (.map (some (b + 0))) (.int .u8 77) (.func (.func 60) #[] #[]) = some ((ext H []).new (mapO ents12 12)) := U ents11 11 77 60 rfl
  have u12 : aMapUpdate Tryd.prog ((ext H []).new (mapO ents12 12)) 81 (.map (some (b + 0))) (.int .u8 109) (.func (.func 61) #[] #[]) = some ((ext H []).new (mapO ents13 13)) := U ents12 12 109 61 rfl
  have u13 : aMapUpdate Tryd.prog ((ext H []).new (mapO ents13 13)) 81 (.map (some (b + 0))) (.int .u8 114) (.func (.func 62) #[] #[]) = some ((ext H []).new (mapO ents14 14)) := U ents13 13 114 62 rfl
  refine callE_fn mixed Tryd.func44 rfl Tryd.ntmps44 (Nat.le_of_ble_eq_true rfl) ?_
  simp (maxDischargeDepth := 6) only [hb, w_mkmap, w_ins, ext_next, u0, u1, u2, u3, u4, u5, u6, u7, u8, u9, u10, u11, u12, u13, Tryd.results44, ruW, putL, Nat.reduceLeDiff, xF, ruU, entryE, Nat.reduceLT, Nat.reduceAdd, Nat.reduceMul, Nat.reduceEqDiff]
  exact ⟨rfl, rfl⟩

end Go.Proofs.YtpohjcacnkhnkaaDoor

/- The numbers of a control sequence in memory. -/
namespace Go.Proofs.YtpohjcacnkhnkaaDoor
open Go.Ax
set_option linter.unusedSimpArgs false
set_option maxRecDepth 10000

theorem Step.quiet {H H1 : AHeap} {p : Rp} {x : Tm} (g : TmAt H p x) (m : Mod [] H H1) : Step H p H1 p x :=
  ⟨g.of m.next fun n hn => m.get n (g.lt n hn) (by simp), m.mono (by simp), rfl, fun _ h => .inl h⟩

theorem intsV_one (l : List Int) : (intsV l).all one = true := by simp [intsV, one]
theorem intsV_sc (l : List Int) (n : Nat) : scbL n (intsV l) = true := by
  induction l with
  | nil => rfl
  | cons a l ih => simp only [intsV, List.map_cons, scbL, scb, Bool.true_and]; exact ih

def Nums (H : AHeap) (w : Value) (l : List Int) : Prop := l ≠ [] ∧ ∃ n o, w = .slice (some ⟨n, 0, if o then none else some 0⟩) l.length l.length ∧ bk H n = some ⟨3, o, intsV l⟩ ∧ n < H.next
theorem Nums.at_ {H : AHeap} {w : Value} {l : List Int} (h : Nums H w l) : IntsAt H w l := by
  obtain ⟨h1, n, o, rfl, hb, _⟩ := h
  exact .inr ⟨h1, n, [], o, rfl, hb⟩

theorem nums_app {X : AHeap} {w : Value} {l : List Int} {k : Nat} (h : Nums X w l) (hk : X.next = k) (hlen : l.length ≤ 200) (hok : X.base ≤ X.next) :
    ∃ w' G, aBuiltin Tryd.prog (ext X [⟨3, false, [.int .i64 0]⟩]) .append ⟨[22, 22]⟩ [w, .slice (some ⟨k + 0, 0, some 0⟩) 1 1] = some (w', ext G []) ∧ Nums G w' (l ++ [0]) ∧ Mod (idsV w) X G ∧ (∀ n ∈ idsV w', X.next ≤ n) := by
  obtain ⟨hne, n, o, rfl, hb, hlt⟩ := h
  have hkb : bk (ext X [⟨3, false, [.int .i64 0]⟩]) (k + 0) = some ⟨3, false, [.int .i64 0]⟩ := by rw [bk_at hk (by simp)]; rfl
  have hbX : bk (ext X [⟨3, false, [.int .i64 0]⟩]) n = some ⟨3, o, intsV l⟩ := (bk_old hlt).trans hb
  have hsm : small (l.length + 1) 8 = true := by simp only [small, Bool.and_eq_true, Nat.ble_eq]; omega
  have hpos : l.length ≠ 0 := fun e => hne (List.eq_nil_of_length_eq_zero e)
  have hcs : intsV l ++ [.int .i64 0] = intsV (l ++ [0]) := by simp [intsV]
  cases o with
  | false =>
    have happ := app_exact (P := Tryd.prog) (H := ext X [⟨3, false, [.int .i64 0]⟩]) (st := 22) (xt := 22) (e := 3) (sz := 1) (by1 := 8) (z := .int .i64 0) (m := n) (k := l.length) (n := k + 0) (off := 0) (cnt := 1) (cap := 1) (s := some 0)
      (by kernel_rfl) (by kernel_rfl) (by kernel_rfl) (by kernel_rfl) rfl (by kernel_rfl) hbX (by rw [intsV_length]; omega) (intsV_one l) hkb (by simp) rfl (by decide) hsm
    have ht : (intsV l).take (l.length * 1) = intsV l := List.take_of_length_le (by rw [intsV_length]; omega)
    simp only [ht] at happ
    have ht2 : ([Value.int .i64 0].drop 0).take (1 * 1) = [.int .i64 0] := rfl
    rw [ht2, hcs] at happ
    have hn := new_ext (H := X) (L := [⟨3, false, [.int .i64 0]⟩]) (e := 3) (l := intsV (l ++ [0])) (o := true) (intsV_sc _ _)
    rw [hn, Option.map_some] at happ
    refine ⟨_, ext X [⟨3, false, [.int .i64 0]⟩, ⟨3, true, intsV (l ++ [0])⟩], happ, ⟨by simp, k + 1, true, ?_, ?_, ?_⟩, Mod.ext hok, fun q hq => ?_⟩
    · rw [ext_next, hk]; simp
    · rw [bk_at hk (by simp)]; rfl
    · rw [ext_next, hk]; simp
    · simp only [idsV, List.mem_singleton, ext_next] at hq; omega
  | true =>
    have happ := app_open (P := Tryd.prog) (H := ext X [⟨3, false, [.int .i64 0]⟩]) (st := 22) (xt := 22) (e := 3) (sz := 1) (by1 := 8) (z := .int .i64 0) (m := n) (k := l.length) (old := intsV l) (n := k + 0) (off := 0) (cnt := 1) (cap := 1) (s := some 0)
      (by kernel_rfl) (by kernel_rfl) (by kernel_rfl) (by kernel_rfl) rfl (by kernel_rfl) hbX (by rw [intsV_length]; omega) (intsV_one l) hkb (by simp) rfl (by decide) hsm
    have ht2 : ([Value.int .i64 0].drop 0).take (1 * 1) = [.int .i64 0] := rfl
    simp only [ht2, hcs] at happ
    rw [ext_dp hlt] at happ
    have hn := new_ext (H := dp X n) (L := [⟨3, false, [.int .i64 0]⟩]) (e := 3) (l := intsV (l ++ [0])) (o := true) (intsV_sc _ _)
    rw [hn, Option.map_some] at happ
    have mD : Mod (idsV (.slice (some ⟨n, 0, none⟩) l.length l.length)) X (dp X n) := Mod.upd (by simp [idsV])
    refine ⟨_, ext (dp X n) [⟨3, false, [.int .i64 0]⟩, ⟨3, true, intsV (l ++ [0])⟩], happ, ⟨by simp, k + 1, true, ?_, ?_, ?_⟩, mD.trans (Mod.ext (mD.ok hok)), fun q hq => ?_⟩
    · rw [ext_next, hk]; simp
    · rw [bk_at (show (dp X n).next = k from hk) (by simp)]; rfl
    · rw [ext_next, dp_next, hk]; simp
    · simp only [idsV, List.mem_singleton, ext_next] at hq; omega

theorem nums_set {X : AHeap} {w : Value} {d : List Int} {a c : Int} (h : Nums X w (d ++ [a])) (n : Nat) (hn : idsV w = [n]) : Nums (uw X n d.length [.int .i64 c]) w (d ++ [c]) := by
  obtain ⟨_, m, o, rfl, hb, hlt⟩ := h
  simp only [idsV, List.cons.injEq, and_true] at hn
  subst hn
  refine ⟨by simp, m, o, by simp, ?_, by rw [uw_next]; exact hlt⟩
  rw [bk_uw_eq, hb]
  refine congrArg (fun l => some (Bl.mk 3 o l)) ?_
  show putL (intsV (d ++ [a])) d.length [.int .i64 c] = _
  rw [intsV_append, show d.length = (intsV d).length from (intsV_length d).symm, putL_at _ _ _ (by simp [intsV])]
  simp [intsV]

theorem u8_sub {c : UInt8} (h : 48 ≤ c) : IntKind.u8.wrap ((c.toNat : Int) - 48) = (c.toNat : Int) - 48 := by
  have h1 := c.toNat_lt
  have h2 : 48 ≤ c.toNat := h
  simp only [IntKind.wrap, IntKind.signed, IntKind.bits]
  simp
  omega

end Go.Proofs.YtpohjcacnkhnkaaDoor

/- A control sequence executed: its numbers. -/
namespace Go.Proofs.YtpohjcacnkhnkaaDoor
open Go.Ax
set_option linter.unusedSimpArgs false
set_option maxRecDepth 10000

theorem bytesOf_V (l : List UInt8) : bytesOfCells (bytesV l) = some l := by
  induction l with
  | nil => rfl
  | cons c l ih =>
    rw [bytesV_cons, bytesOfCells, ih]
    simp
theorem BytesAt.str {H : AHeap} {v : Value} {l : List UInt8} (h : BytesAt H v l) : aConvert Tryd.prog (ext H []) 29 9 v = some (.string ⟨l.toArray⟩, ext H []) := by
  have h1 : Tryd.prog.underlying 29 = some (.slice 5) := by kernel_rfl
  have h2 : Tryd.prog.underlying 9 = some .string := by kernel_rfl
  have h3 : Tryd.prog.underlying 5 = some (.int .u8) := by kernel_rfl
  have key : ∀ a, v = .slice a l.length l.length → firstC H 1 l.length (.slice a l.length l.length) = some (bytesV l) → aConvert Tryd.prog (ext H []) 29 9 v = some (.string ⟨l.toArray⟩, ext H []) := by
    rintro a rfl hf
    rw [ext_nil]
    simp only [aConvert, h1, h2, hf, Option.bind_eq_bind, Option.bind_some, h3, bytesOf_V, Option.map_some]
  rcases h with ⟨rfl, rfl⟩ | ⟨h, n, pre, rfl, hb⟩ | ⟨rfl, n, off, k, L, rfl, hb, hle⟩ | ⟨rfl, n, rfl, hb⟩
  · exact key _ rfl rfl
  · refine key _ rfl ?_
    rw [first_bk hb (by simp [bytesV_length])]
    simp only [Nat.mul_one, bytesV_append]
    rw [← bytesV_length pre, List.drop_left, List.take_of_length_le (by simp [bytesV_length])]
  · refine key _ rfl ?_
    have := first_bk (sz := 1) (cnt := 0) (n := n) (off := off) (len := 0) (cap := 0) (s := some (k + 1)) hb (by simp; exact hle)
    simpa [bytesV] using this
  · refine key _ rfl ?_
    have := first_bk (sz := 1) (cnt := 0) (n := n) (off := 0) (len := 0) (cap := 0) (s := some 0) hb (by simp)
    simpa [bytesV] using this

theorem str_eq (l : List UInt8) (m : List UInt8) : ((⟨l.toArray⟩ : ByteArray).toList == (⟨m.toArray⟩ : ByteArray).toList) = decide (l = m) := by
  rw [ByteArray.toList_eq, ByteArray.toList_eq]
  by_cases h : l = m
  · subst h; simp
  · simp [h]

theorem doFinal_other {x : Tm} {f : UInt8} {l : List Int} (h : f ≠ 65 ∧ f ≠ 66 ∧ f ≠ 67 ∧ f ≠ 68 ∧ f ≠ 71 ∧ f ≠ 100 ∧ f ≠ 72 ∧ f ≠ 102 ∧ f ≠ 74 ∧ f ≠ 75 ∧ f ≠ 76 ∧ f ≠ 77 ∧ f ≠ 109 ∧ f ≠ 114) : x.doFinal f l = x := by
  obtain ⟨h1, h2, h3, h4, h5, h6, h7, h8, h9, h10, h11, h12, h13, h14⟩ := h
  rw [Tm.doFinal, if_neg h1, if_neg h2, if_neg h3, if_neg h4, if_neg h5, if_neg h6, if_neg (fun h => h.elim h7 h8), if_neg h9, if_neg h10, if_neg h11, if_neg h12, if_neg h13, if_neg h14]

theorem Tm.Sz.doFinal {x : Tm} (s : x.Sz) (f : UInt8) (l : List Int) (hl : 1 ≤ count l) : (x.doFinal f l).Sz := by
  obtain ⟨n, hn⟩ : ∃ n : Nat, count l = n := ⟨(count l).toNat, by omega⟩
  unfold Tm.doFinal
  by_cases h0 : f = 65
  · rw [if_pos h0]; exact s.moveTo _ _
  rw [if_neg h0]
  by_cases h1 : f = 66
  · rw [if_pos h1]; exact s.moveTo _ _
  rw [if_neg h1]
  by_cases h2 : f = 67
  · rw [if_pos h2]; exact s.moveTo _ _
  rw [if_neg h2]
  by_cases h3 : f = 68
  · rw [if_pos h3]; exact s.moveTo _ _
  rw [if_neg h3]
  by_cases h4 : f = 71
  · rw [if_pos h4]; exact s.moveTo _ _
  rw [if_neg h4]
  by_cases h5 : f = 100
  · rw [if_pos h5]; exact s.moveTo _ _
  rw [if_neg h5]
  by_cases h6 : f = 72 ∨ f = 102
  · rw [if_pos h6]; exact s.moveTo _ _
  rw [if_neg h6]
  by_cases h7 : f = 74
  · rw [if_pos h7]; exact s.eraseAll l
  rw [if_neg h7]
  by_cases h8 : f = 75
  · rw [if_pos h8]; exact (s.eraseRow l).1
  rw [if_neg h8]
  by_cases h9 : f = 76
  · rw [if_pos h9]; rw [hn]; exact s.lines _ _
  rw [if_neg h9]
  by_cases h10 : f = 77
  · rw [if_pos h10]; rw [hn]; exact s.lines _ _
  rw [if_neg h10]
  by_cases h11 : f = 109
  · rw [if_pos h11]; exact s.withPen _
  rw [if_neg h11]
  by_cases h12 : f = 114
  · rw [if_pos h12]; exact s.region l
  rw [if_neg h12]
  exact s
theorem count_pos (l : List Int) : 1 ≤ count l := by simp only [count]; omega
theorem Tm.Sz.withShown {x : Tm} (s : x.Sz) (b : Bool) : Tm.Sz { x with shown := b } :=
  ⟨s.h1, s.h2, s.w1, s.w2, s.ws, s.r1, s.r2, s.c1, s.c2, s.sr1, s.sr2, s.sc1, s.sc2, s.t1, s.t2, s.t3, s.md, s.hd⟩
theorem Tm.Sz.execute {x : Tm} (s : x.Sz) (f : UInt8) : (x.execute f).Sz := by
  unfold Tm.execute
  split
  · exact s.withShown _
  · split
    · exact s.doFinal f _ (count_pos _)
    · exact s

theorem u8_dec {c : UInt8} {n : Nat} (hn : n < 256) : decide ((c.toNat : Int) = (n : Int)) = decide (c = UInt8.ofNat n) := by
  have : (c.toNat : Int) = (n : Int) ↔ c = UInt8.ofNat n := by
    rw [← UInt8.toNat_inj, UInt8.toNat_ofNat_of_lt' hn]
    omega
  simp only [this]

def finTab : List (Nat × Nat) := [(65, 50), (66, 51), (67, 52), (68, 53), (71, 54), (100, 55), (72, 56), (102, 56), (74, 57), (75, 58), (76, 59), (77, 60), (109, 61), (114, 62)]
def finNum (n : Nat) : Option Nat := (finTab.find? fun q => Nat.beq q.1 n).map (·.2)
def finV : Option Nat → Value
  | some f => .func (.func f) #[] #[]
  | none => .nilFunc
def finChk (n : Nat) : Bool := match Instr.findNow (.int .u8) (.int .u8 (n : Int)) ents14 0, finNum n with
  | some (some (_, .func (.func f) ⟨[]⟩ ⟨[]⟩)), some g => Nat.beq f g
  | some none, none => true
  | _, _ => false
theorem finChk_all : ((List.range 256).all finChk) = true := by kernel_rfl
theorem lookup_c {X : AHeap} (c : UInt8) : aLookup Tryd.prog (X.new finO) 81 (.map (some X.next)) (.int .u8 (c.toNat : Int)) false = some (finV (finNum c.toNat)) := by
  have hu : Tryd.prog.underlying 81 = some (.map 5 80) := by kernel_rfl
  have hk : Tryd.prog.underlying 5 = some (.int .u8) := by kernel_rfl
  have hz : zeroOf Tryd.prog 80 = some .nilFunc := by kernel_rfl
  have hm : mapAt (X.new finO) (some X.next) = some ⟨ents14⟩ := by
    simp only [mapAt, AHeap.get_new, if_true]
    rfl
  have hc := List.all_eq_true.1 finChk_all c.toNat (List.mem_range.2 c.toNat_lt)
  unfold finChk at hc
  simp only [aLookup, hu, hm, hk, Option.bind_eq_bind, Option.bind_some, keyOk, keyKind, Bool.and_self, if_true, hz]
  split at hc
  · rename_i i f g h1 h2
    rw [h1, h2, Nat.eq_of_beq_eq_true hc]
    rfl
  · rename_i h1 h2
    rw [h1, h2]
    rfl
  · cases hc

theorem final_c (H : AHeap) (p : Rp) (x : Tm) (v : Value) (l : List Int) (c : UInt8) (f : Nat) (g : TmAt H p x) (s : x.Sz) (ok : H.base ≤ H.next) (hp : Pars H v l) (hv : ∀ n ∈ idsV v, n ∉ p.blks) (hf : finNum c.toNat = some f) : Does f [v] H p (.tuple #[]) (x.doFinal c l) := by
  have hmem : (c.toNat, f) ∈ finTab := by
    unfold finNum at hf
    simp only [Option.map_eq_some_iff] at hf
    obtain ⟨q, h1, h2⟩ := hf
    have h3 := List.find?_some h1
    have h4 : q.1 = c.toNat := Nat.eq_of_beq_eq_true h3
    rw [← h4, ← h2]
    exact List.mem_of_find?_eq_some h1
  have hcn : ∀ n : UInt8, c.toNat = n.toNat → c = n := fun n h => UInt8.toNat_inj.1 h
  simp only [finTab, List.mem_cons, Prod.mk.injEq, List.not_mem_nil, or_false] at hmem
  rcases hmem with ⟨h, rfl⟩ | ⟨h, rfl⟩ | ⟨h, rfl⟩ | ⟨h, rfl⟩ | ⟨h, rfl⟩ | ⟨h, rfl⟩ | ⟨h, rfl⟩ | ⟨h, rfl⟩ | ⟨h, rfl⟩ | ⟨h, rfl⟩ | ⟨h, rfl⟩ | ⟨h, rfl⟩ | ⟨h, rfl⟩ | ⟨h, rfl⟩
  · have := hcn 65 h; subst this; exact up_c H p x v l g s ok hp
  · have := hcn 66 h; subst this; exact down_c H p x v l g s ok hp
  · have := hcn 67 h; subst this; exact right_c H p x v l g s ok hp
  · have := hcn 68 h; subst this; exact left_c H p x v l g s ok hp
  · have := hcn 71 h; subst this; exact toCol_c H p x v l g s ok hp
  · have := hcn 100 h; subst this; exact toRow_c H p x v l g s ok hp
  · have := hcn 72 h; subst this; exact toBoth_c H p x v l g s ok hp
  · have := hcn 102 h; subst this; exact toBoth_c H p x v l g s ok hp
  · have := hcn 74 h; subst this; exact eraseAll_c H p x v l g s ok hp hv
  · have := hcn 75 h; subst this; exact eraseRow_c H p x v l g s ok hp
  · have := hcn 76 h; subst this; exact insert_c H p x v l g s ok hp
  · have := hcn 77 h; subst this; exact remove_c H p x v l g s ok hp
  · have := hcn 109 h; subst this; exact attributes_c H p x v l g ok hp hv
  · have := hcn 114 h; subst this; exact region_c H p x v l g s ok hp
theorem final_none {x : Tm} {l : List Int} {c : UInt8} (hf : finNum c.toNat = none) : x.doFinal c l = x := by
  have hn : ∀ n : UInt8, finNum n.toNat ≠ none → c ≠ n := fun n h e => h (e ▸ hf)
  refine doFinal_other ⟨hn 65 (by decide), hn 66 (by decide), hn 67 (by decide), hn 68 (by decide), hn 71 (by decide), hn 100 (by decide), hn 72 (by decide), hn 102 (by decide), hn 74 (by decide), hn 75 (by decide), hn 76 (by decide), hn 77 (by decide), hn 109 (by decide), hn 114 (by decide)⟩

end Go.Proofs.YtpohjcacnkhnkaaDoor

/- The walk of execute. -/
namespace Go.Proofs.YtpohjcacnkhnkaaDoor
open Go.Ax
set_option linter.unusedSimpArgs false
set_option maxRecDepth 10000

theorem numbers_len : ∀ (b : List UInt8) (d : List Int) (a : Int) (l : List Int), numbers b d a = some l → l ≠ [] ∧ l.length ≤ b.length + d.length + 1 ∧ ((∀ n ∈ d, 0 ≤ n ∧ n ≤ 9999) → 0 ≤ a ∧ a ≤ 9999 → ∀ n ∈ l, 0 ≤ n ∧ n ≤ 9999)
  | [], d, a, l, h => by
    simp only [numbers, Option.some.injEq] at h
    subst h
    refine ⟨by simp, by simp, fun h1 h2 n hn => ?_⟩
    simp only [List.mem_append, List.mem_singleton] at hn
    rcases hn with hn | rfl
    · exact h1 n hn
    · exact h2
  | c :: r, d, a, l, h => by
    unfold numbers at h
    by_cases h1 : c = 59
    · rw [if_pos h1] at h
      obtain ⟨q1, q2, q3⟩ := numbers_len r _ _ l h
      refine ⟨q1, by simp only [List.length_append, List.length_cons, List.length_nil] at q2 ⊢; omega, fun h2 h3 => q3 (fun n hn => ?_) ⟨by omega, by omega⟩⟩
      simp only [List.mem_append, List.mem_singleton] at hn
      rcases hn with hn | rfl
      · exact h2 n hn
      · exact h3
    · rw [if_neg h1] at h
      by_cases h2 : 48 ≤ c ∧ c ≤ 57
      · rw [if_pos h2] at h
        obtain ⟨q1, q2, q3⟩ := numbers_len r _ _ l h
        refine ⟨q1, by simp only [List.length_cons]; omega, fun h3 h4 => q3 h3 ?_⟩
        have h5 : 48 ≤ c.toNat := h2.1
        omega
      · rw [if_neg h2] at h; cases h

set_option maxHeartbeats 4000000 in
theorem execute_c (H : AHeap) (p : Rp) (x : Tm) (c : UInt8) (g : TmAt H p x) (s : x.Sz) (ok : H.base ≤ H.next) (hpl : x.params.length ≤ 64) : Does 36 [u8v c] H p (.tuple #[]) (x.execute c) := by
  obtain ⟨b, hb⟩ : ∃ b, H.next = b := ⟨_, rfl⟩
  have hT : p.t < b := hb ▸ g.lt p.t (by simp [Rp.blks])
  have h1 := g.cell
  simp only [cellsT] at h1
  have hstr := g.par.str
  have hsq : (((⟨x.params.toArray⟩ : ByteArray).toList == (⟨#[63, 50, 53]⟩ : ByteArray).toList)) = decide (x.params = [63, 50, 53]) := str_eq x.params [63, 50, 53]
  obtain ⟨dq, hdq⟩ : ∃ d, decide (x.params = [63, 50, 53]) = d := ⟨_, rfl⟩
  rw [hdq] at hsq
  have eq1 : x.params = [63, 50, 53] ↔ dq = true := by rw [← hdq, decide_eq_true_iff]
  have q104 := u8_dec (c := c) (n := 104) (by omega)
  have q108 := u8_dec (c := c) (n := 108) (by omega)
  rw [show (UInt8.ofNat 104) = 104 from rfl, show ((104 : Nat) : Int) = 104 from rfl] at q104
  rw [show (UInt8.ofNat 108) = 108 from rfl, show ((108 : Nat) : Int) = 108 from rfl] at q108
  obtain ⟨dh, hdh⟩ : ∃ d, decide (c = 104) = d := ⟨_, rfl⟩
  obtain ⟨dl, hdl⟩ : ∃ d, decide (c = 108) = d := ⟨_, rfl⟩
  have eh : c = 104 ↔ dh = true := by rw [← hdh, decide_eq_true_iff]
  have el : c = 108 ↔ dl = true := by rw [← hdl, decide_eq_true_iff]
  rw [hdh] at q104
  rw [hdl] at q108
  have key : x.execute c = cond (dq && (dh || dl)) { x with shown := dh } (match numbers x.params [] 0 with
    | some l => x.doFinal c l
    | none => x) := by
    unfold Tm.execute
    simp only [eq1, eh, el]
    cases dq <;> cases dh <;> cases dl <;> rfl
  rw [key]
  refine callE_fn mixed Tryd.func36 rfl Tryd.ntmps36 (Nat.le_of_ble_eq_true rfl) ?_
  have hnoS : ∀ a b : ByteArray, aBin Tryd.prog (ext H []) .eql 9 (.string a) (.string b) = none := fun a b => by kernel_rfl
  cases hD : (dq && (dh || dl)) with
  | true =>
    simp (maxDischargeDepth := 6) only [hb, hT, h1, w_convert, hstr, cond_true, ruW, putL, Nat.reduceLeDiff, xF, ruU, entryE, Nat.reduceLT, Nat.reduceAdd, Nat.reduceMul, Nat.reduceEqDiff]
    refine (w_eqStr (by simp only [ruU, entryE, Nat.reduceLT, Nat.reduceAdd, Nat.reduceMul, Nat.reduceEqDiff]) (by simp only [ruU, entryE, Nat.reduceLT, Nat.reduceAdd, Nat.reduceMul, Nat.reduceEqDiff]) (by simp only [ruU, entryE, Nat.reduceLT, Nat.reduceAdd, Nat.reduceMul, Nat.reduceEqDiff]; rfl) (by simp only [ruU, entryE, Nat.reduceLT, Nat.reduceAdd, Nat.reduceMul, Nat.reduceEqDiff]; rfl) (by decide) (hnoS _ _)).mpr ?_
    cases dq <;> cases dh <;> cases dl <;> first
      | (exfalso; revert hD; decide)
      | (simp (maxDischargeDepth := 6) only [hb, hT, h1, hsq, q104, q108, Tryd.results36, ruW, putL, Nat.reduceLeDiff, xF, ruU, entryE, Nat.reduceLT, Nat.reduceAdd, Nat.reduceMul, Nat.reduceEqDiff]
         exact ⟨trivial, p, g.one (y := { x with shown := true }) rfl rfl rfl rfl⟩)
      | (simp (maxDischargeDepth := 6) only [hb, hT, h1, hsq, q104, q108, Tryd.results36, ruW, putL, Nat.reduceLeDiff, xF, ruU, entryE, Nat.reduceLT, Nat.reduceAdd, Nat.reduceMul, Nat.reduceEqDiff]
         exact ⟨trivial, p, g.one (y := { x with shown := false }) rfl rfl rfl rfl⟩)
  | false =>
  rw [cond_false]
  refine w_meet (fun E' H' => H' = H ∧ E' 0 = .pointer (some ⟨p.t, 0, none⟩) ∧ E' 1 = u8v c) ?_ ?_
  · simp (maxDischargeDepth := 6) only [hb, hT, h1, w_convert, hstr, ruW, putL, Nat.reduceLeDiff, xF, ruU, entryE, Nat.reduceLT, Nat.reduceAdd, Nat.reduceMul, Nat.reduceEqDiff]
    refine (w_eqStr (by simp only [ruU, entryE, Nat.reduceLT, Nat.reduceAdd, Nat.reduceMul, Nat.reduceEqDiff]) (by simp only [ruU, entryE, Nat.reduceLT, Nat.reduceAdd, Nat.reduceMul, Nat.reduceEqDiff]) (by simp only [ruU, entryE, Nat.reduceLT, Nat.reduceAdd, Nat.reduceMul, Nat.reduceEqDiff]; rfl) (by simp only [ruU, entryE, Nat.reduceLT, Nat.reduceAdd, Nat.reduceMul, Nat.reduceEqDiff]; rfl) (by decide) (hnoS _ _)).mpr ?_
    cases dq <;> cases dh <;> cases dl <;> first
      | (exfalso; revert hD; decide)
      | (simp (maxDischargeDepth := 6) only [hb, hT, h1, hsq, q104, q108, ruW, putL, Nat.reduceLeDiff, xF, ruU, entryE, Nat.reduceLT, Nat.reduceAdd, Nat.reduceMul, Nat.reduceEqDiff]
         refine joinR_normal ⟨rfl, ?_, ?_⟩ <;> simp only [ruU, entryE, Nat.reduceLT, Nat.reduceAdd, Nat.reduceMul, Nat.reduceEqDiff])
  rintro E X ⟨hX, g0, g1⟩
  rw [hX]
  clear hX X
  obtain ⟨apv, hpv⟩ := g.par.sl
  have h2 := h1
  rw [hpv] at h2
  -- the first number
  have hw0 : Nums (ext H [⟨3, false, [.int .i64 0]⟩]) (.slice (some ⟨b + 0, 0, some 0⟩) 1 1) [0] := ⟨by simp, b + 0, false, rfl, by rw [bk_at hb (by simp)]; rfl, by rw [ext_next, hb]; simp⟩
  rw [show H = ext H [] from rfl]
  simp (maxDischargeDepth := 6) only [g0, g1, hb, hT, h2, ruW, putL, Nat.reduceLeDiff, xF, ruU, entryE, Nat.reduceLT, Nat.reduceAdd, Nat.reduceMul, Nat.reduceEqDiff]
  refine w_env fun E' hE => ?_
  have f0 : E' 0 = .pointer (some ⟨p.t, 0, none⟩) := by rw [hE]; simp only [g0, ruU, entryE, Nat.reduceLT, Nat.reduceAdd, Nat.reduceMul, Nat.reduceEqDiff]
  have f1 : E' 1 = u8v c := by rw [hE]; simp only [g1, ruU, entryE, Nat.reduceLT, Nat.reduceAdd, Nat.reduceMul, Nat.reduceEqDiff]
  have f4 : E' 4 = .slice (some ⟨b + 0, 0, some 0⟩) 1 1 := by rw [hE]; simp only [ruU, entryE, Nat.reduceLT, Nat.reduceAdd, Nat.reduceMul, Nat.reduceEqDiff]
  have f32 : E' 32 = .slice apv x.params.length x.params.length := by rw [hE]; simp only [ruU, entryE, Nat.reduceLT, Nat.reduceAdd, Nat.reduceMul, Nat.reduceEqDiff]
  have f33 : E' 33 = .int .i64 (x.params.length : Int) := by rw [hE]; simp only [ruU, entryE, Nat.reduceLT, Nat.reduceAdd, Nat.reduceMul, Nat.reduceEqDiff]
  have f34 : E' 34 = .int .i64 ((0 : Nat) : Int) := by rw [hE]; (simp only [ruU, entryE, Nat.reduceLT, Nat.reduceAdd, Nat.reduceMul, Nat.reduceEqDiff] <;> rfl)
  clear hE g0 g1 E
  refine blockC_meet (fun E' H' => ∃ l w, Mod [] H H' ∧ numbers x.params [] 0 = some l ∧ Nums H' w l ∧ (∀ n ∈ idsV w, H.next ≤ n) ∧ E' 0 = .pointer (some ⟨p.t, 0, none⟩) ∧ E' 1 = u8v c ∧ E' 4 = w) ?_ ?_
  · refine w_loop (fun (q : Nat × List Int × Int × Value) E' H' => Mod [] H H' ∧ q.1 ≤ x.params.length ∧ numbers (x.params.drop q.1) q.2.1 q.2.2.1 = numbers x.params [] 0 ∧ q.2.1.length ≤ q.1 ∧ 0 ≤ q.2.2.1 ∧ q.2.2.1 ≤ 9999 ∧ Nums H' q.2.2.2 (q.2.1 ++ [q.2.2.1]) ∧ (∀ n ∈ idsV q.2.2.2, H.next ≤ n) ∧ E' 0 = .pointer (some ⟨p.t, 0, none⟩) ∧ E' 1 = u8v c ∧ E' 4 = q.2.2.2 ∧ E' 32 = .slice apv x.params.length x.params.length ∧ E' 33 = .int .i64 (x.params.length : Int) ∧ E' 34 = .int .i64 (q.1 : Int)) (fun q => x.params.length - q.1) (0, [], 0, .slice (some ⟨b + 0, 0, some 0⟩) 1 1)
      ⟨Mod.ext ok, Nat.zero_le _, rfl, Nat.le_refl _, Int.le_refl _, by simp only; omega, hw0, fun n hn => by simp only [idsV, List.mem_singleton] at hn; omega, f0, f1, f4, f32, f33, f34⟩ ?_
    clear f0 f1 f4 f32 f33 f34 hw0 E'
    rintro ⟨i, d, a, w⟩ E X ⟨mX, hi, hnum, hdl', ha0, ha9, hw, hwn, f0, f1, f4, f32, f33, f34⟩
    simp only at mX hi hnum hdl' ha0 ha9 hw hwn f4 f34
    rw [show X = ext X [] from rfl]
    have okX := mX.ok ok
    by_cases hie : i = x.params.length
    · have hd : decide ((i : Int) < (x.params.length : Int)) = false := decide_eq_false (by omega)
      simp (maxDischargeDepth := 6) only [f0, f1, f4, f32, f33, f34, hd, ruW, putL, Nat.reduceLeDiff, xF, ruU, entryE, Nat.reduceLT, Nat.reduceAdd, Nat.reduceMul, Nat.reduceEqDiff]
      rw [hie, List.drop_length] at hnum
      refine joinR_normal ⟨_, w, mX, ?_, hw, hwn, ?_, ?_, ?_⟩ <;> try simp only [f0, f1, f4, ruU, entryE, Nat.reduceLT, Nat.reduceAdd, Nat.reduceMul, Nat.reduceEqDiff]
      rw [← hnum]; rfl
    · have hlt : i < x.params.length := by omega
      have hd : decide ((i : Int) < (x.params.length : Int)) = true := decide_eq_true (by omega)
      obtain ⟨xb, hxb⟩ : ∃ xb, X.next = xb := ⟨_, rfl⟩
      have hxbb : X.base ≤ xb := hxb ▸ okX
      obtain ⟨ch, hch⟩ : ∃ ch, x.params[i]? = some ch := ⟨_, List.getElem?_eq_getElem hlt⟩
      obtain ⟨n1, o1, i1, m1, ld1⟩ := g.par.get hch
      have hn1 : n1 < H.next := g.lt n1 (by simp [Rp.blks, m1])
      have ld1' : ldB Tryd.prog 5 o1 (bk X n1) = some (u8v ch) := by rw [mX.bk hn1 (by simp)]; exact ld1
      have hn1x : n1 < xb := hxb ▸ mX.lt hn1
      rw [hpv] at i1
      have hdrop : x.params.drop i = ch :: x.params.drop (i + 1) := by
        rw [List.drop_eq_getElem_cons hlt]
        congr 1
        rw [List.getElem?_eq_getElem hlt] at hch
        exact Option.some.inj hch
      rw [hdrop] at hnum
      have hw' := hw
      obtain ⟨_, nw, o, hwe, hwb, hwlt⟩ := hw'
      have hlen : (d ++ [a]).length = d.length + 1 := by simp
      rw [hlen] at hwe
      have hwi : aIndexAddr Tryd.prog 22 (.slice (some ⟨nw, 0, if o = true then none else some 0⟩) (d.length + 1) (d.length + 1)) (.int .i64 (d.length : Int)) = some (.pointer (some ⟨nw, d.length, none⟩)) := by
        have := int_ia (len := d.length + 1) (cap := d.length + 1) (n := nw) (off := 0) (s := if o = true then none else some 0) (i := (d.length : Int)) (k := d.length) rfl (by omega)
        rw [Nat.zero_add] at this
        exact this
      have hwl : IntKind.i64.wrap (((d.length + 1 : Nat) : Int) - 1) = (d.length : Int) := by
        have := wrap_sm (n := ((d.length + 1 : Nat) : Int) - 1) (by omega) (by omega)
        rw [show IntKind.i64.wrap (((d.length + 1 : Nat) : Int) - 1) = _ from this]; omega
      have hws := wrap_succ (show i < 1000000 by omega)
      have q59 := u8_dec (c := ch) (n := 59) (by omega)
      rw [show (UInt8.ofNat 59) = 59 from rfl, show ((59 : Nat) : Int) = 59 from rfl] at q59
      have hwx : nw < xb := hxb ▸ hwlt
      obtain ⟨L, hL⟩ : ∃ L, d.length + 1 = L := ⟨_, rfl⟩
      rw [hL] at hwe hwi hwl
      rw [hwe] at f4
      by_cases h59 : ch = 59
      · have hd59 : decide ((ch.toNat : Int) = 59) = true := by rw [q59]; exact decide_eq_true h59
        obtain ⟨w', G, happ, hwG, mG, hGn⟩ := nums_app hw hxb (by simp; omega) okX
        rw [hwe] at happ
        simp (maxDischargeDepth := 6) only [f0, f1, f4, f32, f33, f34, hd, hxb, hxbb, hn1x, i1, ld1', hwl, hwi, hd59, happ, hws, ruW, putL, Nat.reduceLeDiff, xF, ruU, entryE, Nat.reduceLT, Nat.reduceAdd, Nat.reduceMul, Nat.reduceEqDiff]
        refine loopC_next ⟨(i + 1, d ++ [a], 0, w'), by simp only; omega, mX.step mG ok (fun n hn => .inr (hwn n hn)), by simp only; omega, ?_, by simp; omega, Int.le_refl _, by simp only; omega, hwG, fun n hn => ?_, ?_, ?_, ?_, ?_, ?_, ?_⟩ <;> try simp only [f0, f1, f4, f32, f33, f34, ruU, entryE, Nat.reduceLT, Nat.reduceAdd, Nat.reduceMul, Nat.reduceEqDiff]
        · rw [← hnum]
          conv => rhs; rw [numbers, if_pos h59]
        · have := hGn n hn
          have := mX.next
          omega
      · have hd59 : decide ((ch.toNat : Int) = 59) = false := by rw [q59]; exact decide_eq_false h59
        by_cases hdig : 48 ≤ ch ∧ ch ≤ 57
        · have c1 : 48 ≤ ch.toNat := hdig.1
          have c2 : ch.toNat ≤ 57 := hdig.2
          have p1 : decide ((48 : Int) ≤ (ch.toNat : Int)) = true := decide_eq_true (by omega)
          have p2 : decide ((ch.toNat : Int) ≤ 57) = true := decide_eq_true (by omega)
          have ldl : (intsV (d ++ [a]))[d.length]? = some (.int .i64 a) := by
            rw [intsV_get]
            simp
          have hs8 := u8_sub hdig.1
          have hcv : ∀ (Y : AHeap) (m : Int), aConvert Tryd.prog Y 5 3 (.int .u8 m) = some (.int .i64 (IntKind.i64.wrap m), Y) := fun Y m => cv_int (u := .int .u8) (by kernel_rfl) (by kernel_rfl)
          have hw8 : IntKind.i64.wrap ((ch.toNat : Int) - 48) = (ch.toNat : Int) - 48 := wrap_sm (by omega) (by omega)
          have hw10 : IntKind.i64.wrap (a * 10) = a * 10 := wrap_sm (by omega) (by omega)
          have hw11 : IntKind.i64.wrap (a * 10 + ((ch.toNat : Int) - 48)) = a * 10 + ((ch.toNat : Int) - 48) := wrap_sm (by omega) (by omega)
          have hst : ∀ N v, stB Tryd.prog 3 N d.length (.int .i64 v) (some ⟨3, o, intsV (d ++ [a])⟩) = some ⟨3, o, putL (intsV (d ++ [a])) d.length [.int .i64 v]⟩ := fun N v => stB_ok (v := .int .i64 v) (by kernel_rfl) (by simp only [Value.cells, intsV_length, List.length_append, List.length_cons, List.length_nil]; omega) rfl rfl
          have hset := nums_set (c := min 9999 (a * 10 + ((ch.toNat : Int) - 48))) hw nw (by rw [hwe]; simp [idsV])
          simp (maxDischargeDepth := 6) only [f0, f1, f4, f32, f33, f34, hd, hxb, hxbb, hn1x, i1, ld1', hwl, hwi, hd59, p1, p2, hwx, ldl, hs8, w_convert, hcv, hw8, hw10, hw11, hwb, hst, hws, ruW, putL, Nat.reduceLeDiff, xF, ruU, entryE, Nat.reduceLT, Nat.reduceAdd, Nat.reduceMul, Nat.reduceEqDiff]
          refine loopC_next ⟨(i + 1, d, min 9999 (a * 10 + ((ch.toNat : Int) - 48)), w), by simp only; omega, mX.step (W' := [nw]) (Mod.uw (by simp)) ok (fun n hn => .inr (hwn n (by rw [hwe]; simpa [idsV] using hn))), by simp only; omega, ?_, by simp only; omega, by simp only; omega, by simp only; omega, hset, hwn, ?_, ?_, ?_, ?_, ?_, ?_⟩ <;> try simp only [f0, f1, f4, f32, f33, f34, ruU, entryE, Nat.reduceLT, Nat.reduceAdd, Nat.reduceMul, Nat.reduceEqDiff]
          · rw [← hnum]
            conv => rhs; rw [numbers, if_neg h59, if_pos hdig]
          · exact hwe.symm
        · have hnone : numbers x.params [] 0 = none := by
            rw [← hnum, numbers, if_neg h59, if_neg hdig]
          rw [hnone]
          obtain ⟨e1, he1⟩ : ∃ e, decide ((48 : Int) ≤ (ch.toNat : Int)) = e := ⟨_, rfl⟩
          obtain ⟨e2, he2⟩ : ∃ e, decide ((ch.toNat : Int) ≤ 57) = e := ⟨_, rfl⟩
          have hno : ¬ (e1 = true ∧ e2 = true) := fun h => by
            have t1 := of_decide_eq_true (he1.trans h.1)
            have t2 := of_decide_eq_true (he2.trans h.2)
            exact hdig (And.intro (show 48 ≤ ch.toNat by omega) (show ch.toNat ≤ 57 by omega))
          cases e1 <;> cases e2 <;> first
            | exact absurd ⟨rfl, rfl⟩ hno
            | (simp (maxDischargeDepth := 6) only [f0, f1, f4, f32, f33, f34, hd, hxb, hxbb, hn1x, i1, ld1', hwl, hwi, hd59, he1, he2, joinR_ret, Tryd.results36, ruW, putL, Nat.reduceLeDiff, xF, ruU, entryE, Nat.reduceLT, Nat.reduceAdd, Nat.reduceMul, Nat.reduceEqDiff]
               exact ⟨trivial, p, Step.quiet g mX⟩)
  clear f0 f1 f4 f32 f33 f34 E'
  rintro E X ⟨l, w, mX, hnum, hw, hwn, f0, f1, f4⟩
  rw [hnum]
  have okX := mX.ok ok
  have gX : TmAt X p x := g.of mX.next fun n hn => mX.get n (g.lt n hn) (by simp)
  obtain ⟨q1, q2, q3⟩ := numbers_len _ _ _ _ hnum
  rw [show X = ext X [] from rfl]
  simp (maxDischargeDepth := 6) only [f0, f1, f4, ruW, putL, Nat.reduceLeDiff, xF, ruU, entryE, Nat.reduceLT, Nat.reduceAdd, Nat.reduceMul, Nat.reduceEqDiff]
  refine (finals_c X okX).mono ?_
  rintro _ Y ⟨rfl, rfl⟩
  have mY : Mod [] X (X.new finO) := Mod.new okX
  have okY := mY.ok okX
  have gY : TmAt (X.new finO) p x := gX.of mY.next fun n hn => mY.get n (gX.lt n hn) (by simp)
  have hlk := lookup_c (X := X) c
  rw [show X.new finO = ext (X.new finO) [] from rfl] at hlk
  have hwY : IntsAt (X.new finO) w l := hw.at_.of fun n hn => by
    obtain ⟨_, nw, o, hwe, _, hlt⟩ := hw
    rw [hwe] at hn
    simp only [idsV, List.mem_singleton] at hn
    exact mY.get n (by omega) (by simp)
  have hpY : Pars (X.new finO) w l := ⟨hwY, q1, q3 (by simp) ⟨Int.le_refl _, by omega⟩, by simp only [List.length_nil] at q2; omega, fun n hn => by
    obtain ⟨_, nw, o, hwe, _, hlt⟩ := hw
    rw [hwe] at hn
    simp only [idsV, List.mem_singleton] at hn
    have := mY.next
    omega⟩
  have hvY : ∀ n ∈ idsV w, n ∉ p.blks := fun n hn hb' => by
    have := hwn n hn
    have := g.lt n hb'
    omega
  rw [show X.new finO = ext (X.new finO) [] from rfl]
  cases hf : finNum c.toNat with
  | none =>
    rw [hf] at hlk
    rw [final_none hf]
    simp (maxDischargeDepth := 6) only [f0, f1, f4, w_lookup, hlk, finV, ruW, putL, Nat.reduceLeDiff, xF, ruU, entryE, Nat.reduceLT, Nat.reduceAdd, Nat.reduceMul, Nat.reduceEqDiff]
    refine (w_plain (p := .nilFunc) (q := .nilFunc) (v := .bool false) (by simp only [ruU, entryE, Nat.reduceLT, Nat.reduceAdd, Nat.reduceMul, Nat.reduceEqDiff]) (by simp only [ruU, entryE, Nat.reduceLT, Nat.reduceAdd, Nat.reduceMul, Nat.reduceEqDiff]) (by simp only [ruU, entryE, Nat.reduceLT, Nat.reduceAdd, Nat.reduceMul, Nat.reduceEqDiff]) (by simp only [ruU, entryE, Nat.reduceLT, Nat.reduceAdd, Nat.reduceMul, Nat.reduceEqDiff]) (by decide) (by kernel_rfl) rfl rfl (by kernel_rfl) rfl).mpr ?_
    simp (maxDischargeDepth := 6) only [f0, f1, f4, Tryd.results36, ruW, putL, Nat.reduceLeDiff, xF, ruU, entryE, Nat.reduceLT, Nat.reduceAdd, Nat.reduceMul, Nat.reduceEqDiff]
    exact ⟨trivial, p, Step.quiet g (mX.trans mY)⟩
  | some f =>
    rw [hf] at hlk
    have hfin := final_c (X.new finO) p x w l c f gY s okY hpY hvY hf
    simp (maxDischargeDepth := 6) only [f0, f1, f4, w_lookup, hlk, finV, ruW, putL, Nat.reduceLeDiff, xF, ruU, entryE, Nat.reduceLT, Nat.reduceAdd, Nat.reduceMul, Nat.reduceEqDiff]
    have hbody : hasBody Tryd.prog f = true := by
      have hmem : f ∈ finTab.map (·.2) := by
        unfold finNum at hf
        simp only [Option.map_eq_some_iff] at hf
        obtain ⟨q, h1, h2⟩ := hf
        exact List.mem_map.2 ⟨q, List.mem_of_find?_eq_some h1, h2⟩
      have hall : (finTab.map (·.2)).all (hasBody Tryd.prog) = true := by kernel_rfl
      exact List.all_eq_true.1 hall f hmem
    refine w_callV (f := f) (ca := []) (by simp only [ruU, entryE, Nat.reduceLT, Nat.reduceAdd, Nat.reduceMul, Nat.reduceEqDiff]) (by simp only [ruU, entryE, Nat.reduceLT, Nat.reduceAdd, Nat.reduceMul, Nat.reduceEqDiff]) (by simp only [ruU, entryE, Nat.reduceLT, Nat.reduceAdd, Nat.reduceMul, Nat.reduceEqDiff]) hbody ?_
    simp only [ruU, entryE, Nat.reduceLT, Nat.reduceAdd, Nat.reduceMul, Nat.reduceEqDiff]
    refine CallA.mono (show CallA Tryd.prog f [.pointer (some ⟨p.t, 0, none⟩), w] (ext (X.new finO) []) _ from hfin) ?_
    rintro _ Z ⟨rfl, p1, st⟩
    rw [show Z = ext Z [] from rfl]
    simp (maxDischargeDepth := 6) only [Tryd.results36, ruW, putL, Nat.reduceLeDiff, xF, ruU, entryE, Nat.reduceLT, Nat.reduceAdd, Nat.reduceMul, Nat.reduceEqDiff]
    exact ⟨trivial, p1, (Step.quiet g (mX.trans mY)).trans ok st⟩

end Go.Proofs.YtpohjcacnkhnkaaDoor

/- Bytes appended to those that the terminal keeps. -/
namespace Go.Proofs.YtpohjcacnkhnkaaDoor
open Go.Ax
set_option linter.unusedSimpArgs false
set_option maxRecDepth 10000

theorem cells_of_bk {H : AHeap} {n : Nat} {b : Bl} (h : bk H n = some b) : ∃ rv, cellsAt H n = some (rv, b.e, b.o) ∧ rv.n = b.l.length := by
  obtain ⟨rv, h1, h2, h3⟩ := bk_blk h
  exact ⟨rv, h1, h2⟩

theorem app_opn {P : Program} {H : AHeap} {st xt e : TypeId} {sz by1 m off k n off2 cnt cap : Nat} {sp s : Option Nat} {z : Value} {b bm : Bl} (hu : P.underlying st = some (.slice e)) (hsz : szOf P e = some sz) (hby : bytesOf P e = some by1) (hz : zeroOf P e = some z) (hzl : z.cells.toList.length = sz) (hi : intTy P xt = some false)
    (hm : bk H m = some bm) (he : bm.e = e) (ho : bm.o = true) (hle : off + k * sz ≤ bm.l.length) (hone : ((bm.l.drop off).take (k * sz)).all one = true) (hsp : sp = none ∨ (∃ j, sp = some (j + 1)) ∧ k = 0)
    (hb : bk H n = some b) (hle2 : off2 + cnt * sz ≤ b.l.length) (hone2 : b.l.all one = true) (hc : 0 < cnt) (hsm : small (k + cnt) by1 = true) :
    aBuiltin P H .append ⟨[st, xt]⟩ [.slice (some ⟨m, off, sp⟩) k k, .slice (some ⟨n, off2, s⟩) cnt cap] = (aNew (H.upd m none) e ((bm.l.drop off).take (k * sz) ++ (b.l.drop off2).take (cnt * sz)) true).map fun g => (.slice (some ⟨H.next, 0, none⟩) (k + cnt) (k + cnt), g) := by
  have hl : ((b.l.drop off2).take (cnt * sz)).length = cnt * sz := by simp; omega
  have hl2 : ((bm.l.drop off).take (k * sz)).length = k * sz := by simp; omega
  obtain ⟨rv, hcm, hrn⟩ := cells_of_bk hm
  have hop := isOpen_bk hm
  rw [ho] at hop
  have hf := first_bk (sz := sz) (cnt := k) (off := off) (len := k) (cap := k) (s := sp) hm hle
  have hex : exactAp H ⟨m, off, sp⟩ k k = some false := by
    rcases hsp with rfl | ⟨⟨j, rfl⟩, rfl⟩
    · simp only [exactAp, exactAt, hop, Option.map_some, Bool.not_true]
    · simp only [exactAp, hop]
      rfl
  simp only [aBuiltin, aAppend, hu, hsz, hby, hz, hi, Option.bind_eq_bind, Option.bind_some, lenV, first_bk hb hle2, hl, hzl, hsm, and_self, if_true, aAppend2]
  rw [if_neg (by omega)]
  simp only [hf, Option.bind_some, hl2, hone, all_sub hone2, decide_true, Bool.and_self, if_true, hex, hcm]
  rw [if_pos ⟨he, by rw [Nat.ble_eq, hrn]; omega⟩]
  cases aNew (H.upd m none) e ((bm.l.drop off).take (k * sz) ++ (b.l.drop off2).take (cnt * sz)) true <;> rfl

theorem bytes_app {X : AHeap} {v : Value} {l : List UInt8} {k : Nat} {c : UInt8} (h : BytesAt X v l) (hlt : ∀ n ∈ idsV v, n < X.next) (hk : X.next = k) (hlen : l.length ≤ 1000) (hok : X.base ≤ X.next) :
    ∃ G, aBuiltin Tryd.prog (ext X [⟨5, false, [u8v c]⟩]) .append ⟨[29, 29]⟩ [v, .slice (some ⟨k + 0, 0, some 0⟩) 1 1] = some (.slice (some ⟨k + 1, 0, none⟩) (l.length + 1) (l.length + 1), ext G []) ∧ BytesAt G (.slice (some ⟨k + 1, 0, none⟩) (l.length + 1) (l.length + 1)) (l ++ [c]) ∧ Mod (idsV v) X G ∧ k + 1 < G.next := by
  have hkb : bk (ext X [⟨5, false, [u8v c]⟩]) (k + 0) = some ⟨5, false, [u8v c]⟩ := by rw [bk_at hk (by simp)]; rfl
  have hsm : ∀ j, j ≤ 1001 → small j 1 = true := fun j hj => by simp only [small, Bool.and_eq_true, Nat.ble_eq]; omega
  have ht2 : ([u8v c].drop 0).take (1 * 1) = [u8v c] := rfl
  have hcs : bytesV l ++ [u8v c] = bytesV (l ++ [c]) := by simp [bytesV]
  have a1 : Tryd.prog.underlying 29 = some (.slice 5) := by kernel_rfl
  have a2 : szOf Tryd.prog 5 = some 1 := by kernel_rfl
  have a3 : bytesOf Tryd.prog 5 = some 1 := by kernel_rfl
  have a4 : zeroOf Tryd.prog 5 = some (.int .u8 0) := by kernel_rfl
  have a5 : intTy Tryd.prog 29 = some false := by kernel_rfl
  -- the result, if nothing is dropped
  have fin1 : ∀ (L : List Value), L = bytesV (l ++ [c]) → (aNew (ext X [⟨5, false, [u8v c]⟩]) 5 L true) = some (ext X [⟨5, false, [u8v c]⟩, ⟨5, true, bytesV (l ++ [c])⟩]) := by
    rintro L rfl
    exact new_ext (H := X) (L := [⟨5, false, [u8v c]⟩]) (bytesV_sc _ _)
  have res1 : BytesAt (ext X [⟨5, false, [u8v c]⟩, ⟨5, true, bytesV (l ++ [c])⟩]) (.slice (some ⟨k + 1, 0, none⟩) (l.length + 1) (l.length + 1)) (l ++ [c]) := by
    refine .inr (.inl ⟨by simp, k + 1, [], by simp, ?_⟩)
    rw [bk_at hk (by simp)]; rfl
  have id1 : k + 1 < (ext X [⟨5, false, [u8v c]⟩, ⟨5, true, bytesV (l ++ [c])⟩]).next := by rw [ext_next]; simp; omega
  have open1 : ∀ m off sp, m < X.next → (aNew ((ext X [⟨5, false, [u8v c]⟩]).upd m none) 5 (bytesV (l ++ [c])) true) = some (ext (dp X m) [⟨5, false, [u8v c]⟩, ⟨5, true, bytesV (l ++ [c])⟩]) ∧ BytesAt (ext (dp X m) [⟨5, false, [u8v c]⟩, ⟨5, true, bytesV (l ++ [c])⟩]) (.slice (some ⟨k + 1, 0, none⟩) (l.length + 1) (l.length + 1)) (l ++ [c]) ∧ Mod (idsV (.slice (some ⟨m, off, sp⟩) l.length l.length)) X (ext (dp X m) [⟨5, false, [u8v c]⟩, ⟨5, true, bytesV (l ++ [c])⟩]) ∧ k + 1 < (ext (dp X m) [⟨5, false, [u8v c]⟩, ⟨5, true, bytesV (l ++ [c])⟩]).next := by
    intro m off sp hm
    have hk2 : (dp X m).next = k := hk
    refine ⟨?_, ?_, ?_, by rw [ext_next, dp_next]; simp; omega⟩
    · rw [ext_dp hm]
      exact new_ext (H := dp X m) (L := [⟨5, false, [u8v c]⟩]) (bytesV_sc _ _)
    · refine .inr (.inl ⟨by simp, k + 1, [], by simp, ?_⟩)
      rw [bk_at hk2 (by simp)]; rfl
    · have mD : Mod (idsV (.slice (some ⟨m, off, sp⟩) l.length l.length)) X (dp X m) := Mod.upd (by simp [idsV])
      exact mD.trans (Mod.ext (mD.ok hok))
  rcases h with ⟨rfl, rfl⟩ | ⟨hne, n, pre, rfl, hb⟩ | ⟨rfl, n, off, j, L, rfl, hb, hle⟩ | ⟨rfl, n, rfl, hb⟩
  · have happ := app_nil (P := Tryd.prog) (H := ext X [⟨5, false, [u8v c]⟩]) (st := 29) (xt := 29) (n := k + 0) (off := 0) (cnt := 1) (cap := 1) (s := some 0) a1 a2 a3 a4 rfl a5 hkb (by simp) rfl (by decide) (hsm 1 (by omega))
    rw [ht2, fin1 [u8v c] rfl, Option.map_some, ext_next, hk] at happ
    exact ⟨ext X [⟨5, false, [u8v c]⟩, ⟨5, true, bytesV [c]⟩], happ, res1, Mod.ext hok, id1⟩
  · have hn := hlt n (by simp [idsV])
    have hbX := (bk_old (L := [⟨5, false, [u8v c]⟩]) hn).trans hb
    have happ := app_opn (P := Tryd.prog) (H := ext X [⟨5, false, [u8v c]⟩]) (st := 29) (xt := 29) (m := n) (off := pre.length) (k := l.length) (n := k + 0) (off2 := 0) (cnt := 1) (cap := 1) (s := some 0) a1 a2 a3 a4 rfl a5 hbX rfl rfl (by simp [bytesV_length]) (all_sub (bytesV_one _) _ _) (.inl rfl) hkb (by simp) rfl (by decide) (hsm _ (by omega))
    have hdr : ((bytesV (pre ++ l)).drop pre.length).take (l.length * 1) = bytesV l := by
      rw [Nat.mul_one, bytesV_append, ← bytesV_length pre, List.drop_left, List.take_of_length_le (by rw [bytesV_length]; exact Nat.le_refl _)]
    simp only [hdr, ht2, hcs] at happ
    obtain ⟨o1, o2, o3, o4⟩ := open1 n pre.length none hn
    rw [o1, Option.map_some, ext_next, hk] at happ
    exact ⟨ext (dp X n) [⟨5, false, [u8v c]⟩, ⟨5, true, bytesV (l ++ [c])⟩], happ, o2, o3, o4⟩
  · have hn := hlt n (by simp [idsV])
    have hbX := (bk_old (L := [⟨5, false, [u8v c]⟩]) hn).trans hb
    have happ := app_opn (P := Tryd.prog) (H := ext X [⟨5, false, [u8v c]⟩]) (st := 29) (xt := 29) (m := n) (off := off) (k := 0) (sp := some (j + 1)) (n := k + 0) (off2 := 0) (cnt := 1) (cap := 1) (s := some 0) a1 a2 a3 a4 rfl a5 hbX rfl rfl (by simp only [Nat.zero_mul, Nat.add_zero]; exact hle) (by simp) (.inr ⟨⟨j, rfl⟩, rfl⟩) hkb (by simp) rfl (by decide) (hsm _ (by omega))
    have hdr : (L.drop off).take (0 * 1) ++ [u8v c] = bytesV ([] ++ [c]) := by simp [bytesV]
    simp only [ht2, hdr] at happ
    obtain ⟨o1, o2, o3, o4⟩ := open1 n off (some (j + 1)) hn
    rw [o1, Option.map_some, ext_next, hk] at happ
    exact ⟨ext (dp X n) [⟨5, false, [u8v c]⟩, ⟨5, true, bytesV [c]⟩], happ, o2, o3, o4⟩
  · have hn := hlt n (by simp [idsV])
    have hbX := (bk_old (L := [⟨5, false, [u8v c]⟩]) hn).trans hb
    have happ := app_exact (P := Tryd.prog) (H := ext X [⟨5, false, [u8v c]⟩]) (st := 29) (xt := 29) (m := n) (k := 0) (n := k + 0) (off := 0) (cnt := 1) (cap := 1) (s := some 0) a1 a2 a3 a4 rfl a5 hbX (by simp) rfl hkb (by simp) rfl (by decide) (hsm _ (by omega))
    rw [ht2] at happ
    rw [show (Bl.mk 5 false []).l.take (0 * 1) ++ [u8v c] = bytesV ([] ++ [c]) from rfl, fin1 _ rfl, Option.map_some, ext_next, hk] at happ
    exact ⟨ext X [⟨5, false, [u8v c]⟩, ⟨5, true, bytesV [c]⟩], happ, res1, Mod.ext hok, id1⟩

end Go.Proofs.YtpohjcacnkhnkaaDoor

/- What parameter comes to. -/
namespace Go.Proofs.YtpohjcacnkhnkaaDoor
open Go.Ax
set_option linter.unusedSimpArgs false
set_option maxRecDepth 10000

theorem TmAt.rebytes {H H1 : AHeap} {p : Rp} {x y : Tm} (g : TmAt H p x) (rv pv : Value) (m : Mod (p.t :: (idsV p.rv ++ idsV p.pv)) H H1) (hc : bk H1 p.t = some ⟨49, false, cellsT { p with rv := rv, pv := pv } y⟩) (h1 : y.grid = x.grid) (hr : BytesAt H1 rv y.rest) (hp : BytesAt H1 pv y.params)
    (hi : ∀ n ∈ idsV rv ++ idsV pv, n ∈ idsV p.rv ++ idsV p.pv ∨ (H.next ≤ n ∧ n < H1.next)) (hnd : (idsV rv ++ idsV pv).Nodup) : Step H p H1 { p with rv := rv, pv := pv } y := by
  have hnd0 := g.nd
  simp only [Rp.blks] at hnd0
  have n1 := List.nodup_cons.1 hnd0
  have n2 := List.nodup_cons.1 n1.2
  have n3 := n2.2
  rw [List.append_assoc] at n3
  have n4 := List.nodup_append.1 n3
  have hin : ∀ n ∈ idsV p.rv ++ idsV p.pv, n ∈ p.blks := fun n hn => by simp only [Rp.blks, List.mem_cons, List.mem_append] at hn ⊢; rcases hn with h | h <;> simp [h]
  have hrs : ∀ q ∈ p.rs, q.1 ∈ p.blks := fun q hq => by simp only [Rp.blks, List.mem_cons, List.mem_append, List.mem_map]; exact .inr (.inr (.inl (.inl ⟨q, hq, rfl⟩)))
  have hrsW : ∀ q ∈ p.rs, q.1 ∉ p.t :: (idsV p.rv ++ idsV p.pv) := fun q hq hm => by
    have hqm : q.1 ∈ p.rs.map (·.1) := List.mem_map.2 ⟨q, hq, rfl⟩
    rcases List.mem_cons.1 hm with e | h
    · exact n1.1 (e ▸ (by simp only [List.mem_cons, List.mem_append]; exact .inr (.inl (.inl hqm))))
    · exact n4.2.2 q.1 hqm q.1 h rfl
  have hrbW : p.rb ∉ p.t :: (idsV p.rv ++ idsV p.pv) := fun hm => by
    rcases List.mem_cons.1 hm with e | h
    · exact n1.1 (by rw [e]; simp)
    · rcases List.mem_append.1 h with h | h
      · exact n2.1 (by simp [h])
      · exact n2.1 (by simp [h])
  have hout : ∀ n ∈ idsV rv ++ idsV pv, n ≠ p.t ∧ n ≠ p.rb ∧ n ∉ p.rs.map (·.1) := fun n hn => by
    rcases hi n hn with h | ⟨h, _⟩
    · refine ⟨fun e => n1.1 (e ▸ ?_), fun e => n2.1 (e ▸ ?_), fun e => n4.2.2 n e n h rfl⟩ <;> rcases List.mem_append.1 h with h | h <;> simp [h]
    · refine ⟨fun e => ?_, fun e => ?_, fun e => ?_⟩
      · have := g.lt p.t (by simp [Rp.blks]); omega
      · have := g.lt p.rb (by simp [Rp.blks]); omega
      · obtain ⟨q, hq, rfl⟩ := List.mem_map.1 e
        have := g.lt q.1 (hrs q hq); omega
  have hnew : ∀ n ∈ ({ p with rv := rv, pv := pv } : Rp).blks, n ∈ p.blks ∨ (H.next ≤ n ∧ n < H1.next) := by
    intro n hn
    simp only [Rp.blks, List.mem_cons, List.append_assoc] at hn
    rcases hn with rfl | rfl | hn
    · exact .inl (by simp [Rp.blks])
    · exact .inl (by simp [Rp.blks])
    · rcases List.mem_append.1 hn with h | h
      · obtain ⟨q, hq, rfl⟩ := List.mem_map.1 h
        exact .inl (hrs q hq)
      · exact (hi n h).imp (hin n) id
  have hw : y.w = x.w := by simp only [Tm.w, h1]
  have hh : y.h = x.h := by simp only [Tm.h, h1]
  refine ⟨⟨hc, ?_, ?_, ?_, hr, hp, ?_, fun n hn => ?_⟩, m.mono ?_, rfl, fun n hn => (hnew n hn).imp id (fun h => h.1)⟩
  · rw [m.bk (g.lt _ (by simp [Rp.blks])) hrbW, g.rows, hw]
  · rw [hh]; exact g.len
  · intro i q l hq hl
    rw [h1] at hl
    have hqm := List.mem_of_getElem? hq
    rw [m.bk (g.lt _ (hrs q hqm)) (hrsW q hqm)]
    exact g.row i q l hq hl
  · simp only [Rp.blks, List.append_assoc]
    refine List.nodup_cons.2 ⟨?_, List.nodup_cons.2 ⟨?_, List.nodup_append.2 ⟨n4.1, hnd, fun a ha b hb e => (hout b hb).2.2 (e ▸ ha)⟩⟩⟩
    · intro hm
      rcases List.mem_cons.1 hm with e | hm
      · exact n1.1 (by rw [e]; simp)
      · rcases List.mem_append.1 hm with h | h
        · exact n1.1 (by simp only [List.mem_cons, List.mem_append]; exact .inr (.inl (.inl h)))
        · exact (hout _ h).1 rfl
    · intro hm
      rcases List.mem_append.1 hm with h | h
      · exact n2.1 (by simp only [List.mem_append]; exact .inl (.inl h))
      · exact (hout _ h).2.1 rfl
  · rcases hnew n hn with h | h
    · exact m.lt (g.lt n h)
    · exact h.2
  · intro n hn
    rcases List.mem_cons.1 hn with rfl | h
    · simp [Rp.blks]
    · exact hin n h

theorem u8_le {c : UInt8} {n : Nat} (hn : n < 256) : decide ((n : Int) ≤ (c.toNat : Int)) = decide (UInt8.ofNat n ≤ c) := by
  have : (n : Int) ≤ (c.toNat : Int) ↔ UInt8.ofNat n ≤ c := by
    rw [UInt8.le_iff_toNat_le, UInt8.toNat_ofNat_of_lt' hn]
    omega
  simp only [this]
theorem u8_ge {c : UInt8} {n : Nat} (hn : n < 256) : decide ((c.toNat : Int) ≤ (n : Int)) = decide (c ≤ UInt8.ofNat n) := by
  have : (c.toNat : Int) ≤ (n : Int) ↔ c ≤ UInt8.ofNat n := by
    rw [UInt8.le_iff_toNat_le, UInt8.toNat_ofNat_of_lt' hn]
    omega
  simp only [this]
theorem u8_lt {c : UInt8} {n : Nat} (hn : n < 256) : decide ((c.toNat : Int) < (n : Int)) = decide (c < UInt8.ofNat n) := by
  have : (c.toNat : Int) < (n : Int) ↔ c < UInt8.ofNat n := by
    rw [UInt8.lt_iff_toNat_lt, UInt8.toNat_ofNat_of_lt' hn]
    omega
  simp only [this]
theorem u8_gt {c : UInt8} {n : Nat} (hn : n < 256) : decide ((n : Int) < (c.toNat : Int)) = decide (UInt8.ofNat n < c) := by
  have : (n : Int) < (c.toNat : Int) ↔ UInt8.ofNat n < c := by
    rw [UInt8.lt_iff_toNat_lt, UInt8.toNat_ofNat_of_lt' hn]
    omega
  simp only [this]

theorem Tm.Sz.withPar {x : Tm} (s : x.Sz) (m : Bool) (l : List UInt8) : Tm.Sz { x with middle := m, params := l } :=
  ⟨s.h1, s.h2, s.w1, s.w2, s.ws, s.r1, s.r2, s.c1, s.c2, s.sr1, s.sr2, s.sc1, s.sc2, s.t1, s.t2, s.t3, s.md, s.hd⟩
theorem Tm.Sz.parameter {x : Tm} (s : x.Sz) (c : UInt8) : (x.parameter c).1.Sz := by
  unfold Tm.parameter
  by_cases h1 : c = 27
  · rw [if_pos h1]; exact s
  rw [if_neg h1]
  by_cases h2 : 64 ≤ c ∧ c ≤ 126
  · rw [if_pos h2]
    simp only
    split
    · exact s.execute c
    · exact s
  rw [if_neg h2]
  by_cases h3 : c < 32 ∨ c > 126 ∨ (c ≥ 48 ∧ x.middle = true)
  · rw [if_pos h3]; exact s
  rw [if_neg h3]
  simp only
  split
  · exact s.withPar _ _
  · exact s.withPar _ x.params

set_option maxHeartbeats 4000000 in
theorem parameter_c (H : AHeap) (p : Rp) (x : Tm) (c : UInt8) (g : TmAt H p x) (s : x.Sz) (ok : H.base ≤ H.next) (hpl : x.params.length ≤ 65) : Does 21 [u8v c] H p (.int .i64 ((x.parameter c).2 : Int)) (x.parameter c).1 := by
  obtain ⟨b, hb⟩ : ∃ b, H.next = b := ⟨_, rfl⟩
  have hT : p.t < b := hb ▸ g.lt p.t (by simp [Rp.blks])
  have h1 := g.cell
  simp only [cellsT] at h1
  obtain ⟨apv, hpv⟩ := g.par.sl
  have h2 := h1
  rw [hpv] at h2
  obtain ⟨d27, hd27⟩ : ∃ d, decide (c = 27) = d := ⟨_, rfl⟩
  obtain ⟨d64, hd64⟩ : ∃ d, decide (64 ≤ c) = d := ⟨_, rfl⟩
  obtain ⟨d126, hd126⟩ : ∃ d, decide (c ≤ 126) = d := ⟨_, rfl⟩
  obtain ⟨d32, hd32⟩ : ∃ d, decide (c < 32) = d := ⟨_, rfl⟩
  obtain ⟨d127, hd127⟩ : ∃ d, decide (126 < c) = d := ⟨_, rfl⟩
  obtain ⟨d48, hd48⟩ : ∃ d, decide (48 ≤ c) = d := ⟨_, rfl⟩
  obtain ⟨dl48, hdl48⟩ : ∃ d, decide (c < 48) = d := ⟨_, rfl⟩
  obtain ⟨dm, hdm⟩ : ∃ d, x.middle = d := ⟨_, rfl⟩
  obtain ⟨dp, hdp⟩ : ∃ d, decide (x.params.length ≤ 64) = d := ⟨_, rfl⟩
  have e27 : c = 27 ↔ d27 = true := by rw [← hd27, decide_eq_true_iff]
  have e64 : 64 ≤ c ↔ d64 = true := by rw [← hd64, decide_eq_true_iff]
  have e126 : c ≤ 126 ↔ d126 = true := by rw [← hd126, decide_eq_true_iff]
  have e32 : c < 32 ↔ d32 = true := by rw [← hd32, decide_eq_true_iff]
  have e127 : 126 < c ↔ d127 = true := by rw [← hd127, decide_eq_true_iff]
  have e48 : 48 ≤ c ↔ d48 = true := by rw [← hd48, decide_eq_true_iff]
  have ep : x.params.length ≤ 64 ↔ dp = true := by rw [← hdp, decide_eq_true_iff]
  have q27 : decide ((c.toNat : Int) = 27) = d27 := (u8_dec (n := 27) (by omega)).trans hd27
  have q64 : decide ((64 : Int) ≤ (c.toNat : Int)) = d64 := (u8_le (n := 64) (by omega)).trans hd64
  have q126 : decide ((c.toNat : Int) ≤ 126) = d126 := (u8_ge (n := 126) (by omega)).trans hd126
  have q32 : decide ((c.toNat : Int) < 32) = d32 := (u8_lt (n := 32) (by omega)).trans hd32
  have q127 : decide ((126 : Int) < (c.toNat : Int)) = d127 := (u8_gt (n := 126) (by omega)).trans hd127
  have q48 : decide ((48 : Int) ≤ (c.toNat : Int)) = d48 := (u8_le (n := 48) (by omega)).trans hd48
  have ql48 : decide ((c.toNat : Int) < 48) = dl48 := (u8_lt (n := 48) (by omega)).trans hdl48
  have qp : decide ((x.params.length : Int) ≤ 64) = dp := by
    rw [← hdp]
    by_cases h : x.params.length ≤ 64
    · rw [decide_eq_true h, decide_eq_true (by omega)]
    · rw [decide_eq_false h, decide_eq_false (by omega)]
  have key : x.parameter c = cond d27 (x, 1) (cond (d64 && d126) (cond dp (x.execute c) x, 0) (cond (d32 || (d127 || (d48 && dm))) (x, 0) (cond dp { x with middle := dm || dl48, params := x.params ++ [c] } { x with middle := dm || dl48 }, 3))) := by
    unfold Tm.parameter
    simp only [e27, e64, e126, e32, gt_iff_lt, ge_iff_le, e127, e48, hdm, hdl48, ep]
    cases d27 <;> cases d64 <;> cases d126 <;> cases d32 <;> cases d127 <;> cases d48 <;> cases dm <;> cases dp <;> rfl
  rw [key]
  refine callE_fn mixed Tryd.func21 rfl Tryd.ntmps21 (Nat.le_of_ble_eq_true rfl) ?_
  cases d27 with
  | true =>
    simp (maxDischargeDepth := 6) only [hb, hT, q27, cond_true, Tryd.results21, ruW, putL, Nat.reduceLeDiff, xF, ruU, entryE, Nat.reduceLT, Nat.reduceAdd, Nat.reduceMul, Nat.reduceEqDiff]
    exact ⟨rfl, p, Step.refl g⟩
  | false =>
  rw [cond_false]
  cases hA : (d64 && d126) with
  | true =>
    rw [cond_true]
    cases d64 <;> cases d126 <;> first
      | (exfalso; revert hA; decide)
      | skip
    cases dp with
    | true =>
      simp (maxDischargeDepth := 6) only [hb, hT, h2, q27, q64, q126, qp, cond_true, ruW, putL, Nat.reduceLeDiff, xF, ruU, entryE, Nat.reduceLT, Nat.reduceAdd, Nat.reduceMul, Nat.reduceEqDiff]
      refine (execute_c (ext H []) p x c g s ok (ep.2 rfl)).mono ?_
      rintro _ H1 ⟨rfl, p1, st⟩
      rw [show H1 = ext H1 [] from rfl]
      simp (maxDischargeDepth := 6) only [Tryd.results21, ruW, putL, Nat.reduceLeDiff, xF, ruU, entryE, Nat.reduceLT, Nat.reduceAdd, Nat.reduceMul, Nat.reduceEqDiff]
      exact ⟨rfl, p1, st⟩
    | false =>
      simp (maxDischargeDepth := 6) only [hb, hT, h2, q27, q64, q126, qp, cond_false, Tryd.results21, ruW, putL, Nat.reduceLeDiff, xF, ruU, entryE, Nat.reduceLT, Nat.reduceAdd, Nat.reduceMul, Nat.reduceEqDiff]
      exact ⟨rfl, p, Step.refl g⟩
  | false =>
  rw [cond_false]
  cases hB : (d32 || (d127 || (d48 && dm))) with
  | true =>
    rw [cond_true]
    cases d64 <;> cases d126 <;> cases d32 <;> cases d127 <;> cases d48 <;> cases dm <;> first
      | (exfalso; revert hA; decide)
      | (exfalso; revert hB; decide)
      | (simp (maxDischargeDepth := 6) only [hb, hT, h1, hdm, q27, q64, q126, q32, q127, q48, Tryd.results21, ruW, putL, Nat.reduceLeDiff, xF, ruU, entryE, Nat.reduceLT, Nat.reduceAdd, Nat.reduceMul, Nat.reduceEqDiff]
         exact ⟨rfl, p, Step.refl g⟩)
  | false =>
  rw [cond_false]
  refine w_meet (fun E' H' => H' = H ∧ E' 0 = .pointer (some ⟨p.t, 0, none⟩) ∧ E' 1 = u8v c) ?_ ?_
  · simp (maxDischargeDepth := 6) only [ruW, putL, Nat.reduceLeDiff, xF, ruU, entryE, Nat.reduceLT, Nat.reduceAdd, Nat.reduceMul, Nat.reduceEqDiff]
    refine joinR_normal ⟨rfl, ?_, ?_⟩ <;> simp only [ruU, entryE, Nat.reduceLT, Nat.reduceAdd, Nat.reduceMul, Nat.reduceEqDiff]
  rintro E X ⟨hX, g0, g1⟩
  rw [hX, w_seq, w_block]
  refine blockC_meet (fun E' H' => H' = H ∧ E' 0 = .pointer (some ⟨p.t, 0, none⟩) ∧ E' 1 = u8v c) ?_ ?_
  · rw [show H = ext H [] from rfl]
    cases d64 <;> cases d126 <;> cases d32 <;> cases d127 <;> cases d48 <;> cases dm <;> first
      | (exfalso; revert hA; decide)
      | (exfalso; revert hB; decide)
      | (simp (maxDischargeDepth := 6) only [g0, g1, hb, hT, h1, hdm, q27, q64, q126, q32, q127, q48, ruW, putL, Nat.reduceLeDiff, xF, ruU, entryE, Nat.reduceLT, Nat.reduceAdd, Nat.reduceMul, Nat.reduceEqDiff]
         refine joinR_normal ⟨rfl, ?_, ?_⟩ <;> simp only [g0, g1, ruU, entryE, Nat.reduceLT, Nat.reduceAdd, Nat.reduceMul, Nat.reduceEqDiff])
  clear hX g0 g1 E X
  rintro E X ⟨hX, g0, g1⟩
  rw [hX, show H = ext H [] from rfl]
  have st1 : Step H p (ext (uw H p.t 21 [.bool (dm || dl48)]) []) p { x with middle := dm || dl48 } := g.one rfl rfl rfl rfl
  have okV := st1.ok ok
  rw [ext_nil] at st1 okV
  have hc1 := st1.at_.cell
  simp only [cellsT] at hc1
  have hc2 := hc1
  rw [hpv] at hc2
  obtain ⟨V, hV⟩ : ∃ V, uw H p.t 21 [.bool (dm || dl48)] = V := ⟨_, rfl⟩
  rw [hV] at st1 okV hc1 hc2
  have hVn : V.next = b := by rw [← hV, uw_next, hb]
  have hVb : V.base ≤ b := hVn ▸ okV
  have hst : ∀ d, d = (dm || dl48) → uw H p.t 21 [.bool d] = V := fun d h => h ▸ hV
  have hwl : ∀ (D : Bool) (Q : Prop), True := fun _ _ => trivial
  cases dp with
  | false =>
    rw [cond_false]
    cases dm <;> cases dl48 <;>
      (have hst1 := hst _ rfl
       simp only [Bool.or_true, Bool.true_or, Bool.or_false] at hst1 hc2 st1
       simp (maxDischargeDepth := 6) only [g0, g1, hb, hT, h1, hdm, ql48, hst1, hVn, hc2, qp, Tryd.results21, ruW, putL, Nat.reduceLeDiff, xF, ruU, entryE, Nat.reduceLT, Nat.reduceAdd, Nat.reduceMul, Nat.reduceEqDiff]
       exact ⟨rfl, p, st1⟩)
  | true =>
    rw [cond_true]
    have hle := ep.2 rfl
    obtain ⟨G, happ, hwG, mG, hn2⟩ := bytes_app (c := c) st1.at_.par (fun n hn => st1.at_.lt n (by simp [Rp.blks, hn])) hVn (by simp only; omega) okV
    obtain ⟨nw, hnw⟩ : ∃ nw, b + 1 = nw := ⟨_, rfl⟩
    have hn1 : V.next ≤ nw := by omega
    rw [hnw] at happ hwG hn2
    simp only at happ hwG
    obtain ⟨w', hw'⟩ : ∃ w' : Value, .slice (some ⟨nw, 0, none⟩) (x.params.length + 1) (x.params.length + 1) = w' := ⟨_, rfl⟩
    rw [hw'] at hwG
    have hid : idsV w' = [nw] := by rw [← hw']; simp [idsV]
    have hTv : p.t ∉ idsV p.pv := fun h => (List.nodup_cons.1 g.nd).1 (by simp [h])
    have hbG : bk G p.t = some ⟨49, false, cellsT p { x with middle := dm || dl48 }⟩ := by rw [mG.bk (st1.at_.lt p.t (by simp [Rp.blks])) hTv]; exact st1.at_.cell
    have hbG2 := hbG
    simp only [cellsT] at hbG2
    have okG := mG.ok okV
    obtain ⟨gn, hgn⟩ : ∃ gn, G.next = gn := ⟨_, rfl⟩
    have hTG : p.t < gn := by rw [← hgn]; exact mG.lt (st1.at_.lt p.t (by simp [Rp.blks]))
    have hnwg : nw < gn := hgn ▸ hn2
    have mU : Mod [p.t] G (uw G p.t 20 [w']) := Mod.uw (by simp)
    have hrvn : nw ∉ idsV p.rv := fun h => by have := st1.at_.lt nw (by simp [Rp.blks, h]); omega
    have stF : Step V p (uw G p.t 20 [w']) { p with rv := p.rv, pv := w' } { x with middle := dm || dl48, params := x.params ++ [c] } := by
      refine st1.at_.rebytes p.rv w' ((mG.mono (by intro n hn; simp [hn])).trans (mU.mono (by intro n hn; simp at hn; simp [hn]))) ?_ rfl ?_ ?_ ?_ ?_
      · rw [bk_uw_eq, hbG]; rfl
      · refine st1.at_.rest.of fun n hn => ?_
        rw [uw_get (fun e => (List.nodup_cons.1 g.nd).1 (by rw [← e]; simp [hn]))]
        refine mG.get n (st1.at_.lt n (by simp [Rp.blks, hn])) (fun h => ?_)
        have hnd := (List.nodup_cons.1 (List.nodup_cons.1 g.nd).2).2
        exact (List.nodup_append.1 hnd).2.2 n (by simp [hn]) n h rfl
      · refine hwG.of fun n hn => ?_
        rw [hid] at hn
        simp only [List.mem_singleton] at hn
        exact uw_get (by have := st1.at_.lt p.t (by simp [Rp.blks]); omega)
      · intro n hn
        rcases List.mem_append.1 hn with h | h
        · exact .inl (by simp [h])
        · rw [hid] at h
          simp only [List.mem_singleton] at h
          exact .inr ⟨by omega, by rw [uw_next]; omega⟩
      · rw [hid]
        have hnd := (List.nodup_cons.1 (List.nodup_cons.1 g.nd).2).2
        rw [List.append_assoc] at hnd
        have hnd2 := (List.nodup_append.1 (List.nodup_append.1 hnd).2.1).1
        exact List.nodup_append.2 ⟨hnd2, by simp, fun a ha b' hb' e => by simp only [List.mem_singleton] at hb'; exact hrvn (hb' ▸ e ▸ ha)⟩
    rw [← hw'] at stF
    rw [hpv] at happ
    cases dm <;> cases dl48 <;>
      (have hst1 := hst _ rfl
       simp only [Bool.or_true, Bool.true_or, Bool.or_false] at hst1 hc2 st1 stF hbG2
       simp (maxDischargeDepth := 6) only [g0, g1, hb, hT, h1, hdm, ql48, hst1, hVn, hVb, hc2, qp, happ, hgn, hTG, hnwg, hbG2, Tryd.results21, ruW, putL, Nat.reduceLeDiff, xF, ruU, entryE, Nat.reduceLT, Nat.reduceAdd, Nat.reduceMul, Nat.reduceEqDiff]
       exact ⟨rfl, _, st1.trans ok stF⟩)

end Go.Proofs.YtpohjcacnkhnkaaDoor

/- Rows appended to a slice of rows. -/
namespace Go.Ax
section
variable {P : Program} {N : Nat} {E : Env} {ds : List Deferred} {ops : Array Oper} {rest : List Oper} {ty : TypeId} {pos : String} {after : Array Edge} {H : AHeap}
theorem wd_append {Q : AAct → AHeap → Prop} {i : Nat} {fps : List Fp} {anc : List Nat} {args : List Operand} {ts : Array TypeId} {dst : Option Nat} (ha : args.all (opOk P N) = true) :
    wkD P ops anc (⟨dst, .call ⟨.builtin .append, ⟨args⟩, ts⟩, ty, pos, after, none⟩ :: rest) i fps (mkA N E ds) H Q = genV P ops anc ⟨dst, .call ⟨.builtin .append, ⟨args⟩, ts⟩, ty, pos, after, none⟩ rest i fps (mkA N E ds) H Q := by
  simp only [wkD, wantA, stepD, pureOp, restD, newOp, genV, aevals_opv ha, btD, regBt]
end
end Go.Ax
namespace Go.Proofs.YtpohjcacnkhnkaaDoor
open Go.Ax
set_option linter.unusedSimpArgs false
set_option maxRecDepth 10000

def RowsAt (H : AHeap) (v : Value) (w : Nat) (rs : List (Nat × Bool)) : Prop :=
  (rs = [] ∧ v = .slice none 0 0) ∨ (rs ≠ [] ∧ ∃ n, v = .slice (some ⟨n, 0, none⟩) rs.length rs.length ∧ bk H n = some ⟨42, true, rs.map (rowV w)⟩)
theorem RowsAt.of {H G : AHeap} {v : Value} {w : Nat} {rs : List (Nat × Bool)} (h : RowsAt H v w rs) (hg : ∀ n ∈ idsV v, G.get n = H.get n) : RowsAt G v w rs := by
  rcases h with ⟨rfl, rfl⟩ | ⟨h, n, rfl, hb⟩
  · exact .inl ⟨rfl, rfl⟩
  · exact .inr ⟨h, n, rfl, (bk_get (hg n (by simp [idsV]))).trans hb⟩
theorem RowsAt.ne {H : AHeap} {v : Value} {w : Nat} {rs : List (Nat × Bool)} (h : RowsAt H v w rs) : ∀ n ∈ idsV v, H.get n ≠ none := by
  rcases h with ⟨rfl, rfl⟩ | ⟨h, n, rfl, hb⟩ <;> intro m hm <;> simp only [idsV, List.mem_singleton, List.not_mem_nil] at hm
  subst hm; exact bk_ne hb
theorem RowsAt.one {H : AHeap} {v : Value} {w : Nat} {rs : List (Nat × Bool)} (h : RowsAt H v w rs) : one v = true := by
  rcases h with ⟨rfl, rfl⟩ | ⟨h, n, rfl, hb⟩ <;> rfl

theorem rows_app {X : AHeap} {v : Value} {w : Nat} {rs : List (Nat × Bool)} {q : Nat × Bool} {k x : Nat} (h : RowsAt X v w rs) (hx : X.next = x) (hk : bk X k = some ⟨42, false, [rowV w q]⟩) (hlen : rs.length ≤ 1000) (hsc : ∀ r ∈ rs ++ [q], r.1 < X.next) :
    ∃ G, aBuiltin Tryd.prog X .append ⟨[33, 33]⟩ [v, .slice (some ⟨k, 0, some 0⟩) 1 1] = some (.slice (some ⟨x, 0, none⟩) (rs.length + 1) (rs.length + 1), G) ∧ RowsAt G (.slice (some ⟨x, 0, none⟩) (rs.length + 1) (rs.length + 1)) w (rs ++ [q]) ∧ (X.base ≤ X.next → Mod (idsV v) X G) ∧ G.next = x + 1 := by
  have a1 : Tryd.prog.underlying 33 = some (.slice 42) := by kernel_rfl
  have a2 : szOf Tryd.prog 42 = some 1 := by kernel_rfl
  have a3 : bytesOf Tryd.prog 42 = some 24 := by kernel_rfl
  have a4 : zeroOf Tryd.prog 42 = some (.slice none 0 0) := by kernel_rfl
  have a5 : intTy Tryd.prog 33 = some false := by kernel_rfl
  have hsm : ∀ j, j ≤ 1001 → small j 24 = true := fun j hj => by simp only [small, Bool.and_eq_true, Nat.ble_eq]; omega
  have ht2 : ([rowV w q].drop 0).take (1 * 1) = [rowV w q] := rfl
  have hone1 : [rowV w q].all one = true := rows_one w [q]
  have hscL : ∀ M : AHeap, X.next ≤ M.next → scbL (M.next + 0) ((rs ++ [q]).map (rowV w)) = true := fun M hM => by
    rw [Nat.add_zero]
    refine scbL_iff.2 fun v hv => ?_
    obtain ⟨r, hr, rfl⟩ := List.mem_map.1 hv
    exact blt_of (Nat.lt_of_lt_of_le (hsc r hr) hM)
  rcases h with ⟨rfl, rfl⟩ | ⟨hne, n, rfl, hb⟩
  · have happ := app_nil (P := Tryd.prog) (H := X) (st := 33) (xt := 33) (n := k) (off := 0) (cnt := 1) (cap := 1) (s := some 0) a1 a2 a3 a4 rfl a5 hk (by simp) hone1 (by decide) (hsm 1 (by omega))
    have hn := new_ext (H := X) (L := []) (e := 42) (l := [rowV w q]) (o := true) (hscL X (Nat.le_refl _))
    rw [ht2, show X = ext X [] from rfl, hn, Option.map_some] at happ
    refine ⟨ext X [⟨42, true, [rowV w q]⟩], ?_, .inr ⟨by simp, x, rfl, ?_⟩, fun hok => Mod.ext hok, by rw [ext_next, hx]; rfl⟩
    · rw [show (ext X []).next = x from hx] at happ; exact happ
    · rw [show x = x + 0 from rfl, bk_at hx (by simp)]; rfl
  · have happ := app_opn (P := Tryd.prog) (H := X) (st := 33) (xt := 33) (m := n) (off := 0) (k := rs.length) (sp := none) (n := k) (off2 := 0) (cnt := 1) (cap := 1) (s := some 0) a1 a2 a3 a4 rfl a5 hb rfl rfl (by simp) (all_sub (rows_one w rs) _ _) (.inl rfl) hk (by simp) hone1 (by decide) (hsm _ (by omega))
    have hdr : ((rs.map (rowV w)).drop 0).take (rs.length * 1) = rs.map (rowV w) := by rw [List.drop_zero]; exact List.take_of_length_le (by simp)
    simp only [hdr, ht2] at happ
    have hcs : rs.map (rowV w) ++ [rowV w q] = (rs ++ [q]).map (rowV w) := by simp
    have hn := new_ext (H := dp X n) (L := []) (e := 42) (l := (rs ++ [q]).map (rowV w)) (o := true) (hscL (dp X n) (Nat.le_refl _))
    rw [hcs, show X.upd n none = ext (dp X n) [] from rfl, hn, Option.map_some] at happ
    refine ⟨ext (dp X n) [⟨42, true, (rs ++ [q]).map (rowV w)⟩], ?_, .inr ⟨by simp, x, by simp, ?_⟩, fun hok => ?_, by rw [ext_next, dp_next, hx]; rfl⟩
    · rw [hx] at happ; exact happ
    · rw [show x = x + 0 from rfl, bk_at (show (dp X n).next = x from hx) (by simp)]; rfl
    · have mD : Mod (idsV (.slice (some ⟨n, 0, none⟩) rs.length rs.length)) X (dp X n) := Mod.upd (by simp [idsV])
      exact mD.trans (Mod.ext (mD.ok hok))

end Go.Proofs.YtpohjcacnkhnkaaDoor

/- What New returns. -/
namespace Go.Proofs.YtpohjcacnkhnkaaDoor
open Go.Ax
set_option linter.unusedSimpArgs false
set_option maxRecDepth 10000

def cellsN (v : Value) (b : Int) : List Value := [.int .i64 0, .int .i64 0, .int .i64 0, .int .i64 0, .bool false, .bool false, .bool false, .int .i64 0, .int .i64 0, .int .i64 0, .int .i64 0, .bool false, .bool false, .bool false, v, .bool false, .int .i64 0, .int .i64 b, .int .i64 0, .slice none 0 0, .slice none 0 0, .bool false, .int .u8 0]

theorem new_h (h w : Nat) : (Tm.new h w).h = h := by simp [Tm.new, Tm.h]
theorem new_w {h : Nat} (w : Nat) (hh : 1 ≤ h) : (Tm.new h w).w = w := by
  obtain ⟨k, rfl⟩ : ∃ k, h = k + 1 := ⟨h - 1, by omega⟩
  simp [Tm.new, Tm.w, List.replicate_succ]
theorem new_sz {h w : Nat} (h1 : 1 ≤ h) (h2 : h ≤ 200) (w1 : 1 ≤ w) (w2 : w ≤ 300) : (Tm.new h w).Sz := by
  have e1 := new_h h w
  have e2 := new_w w h1
  refine ⟨by omega, by omega, by omega, by omega, fun l hl => ?_, Int.le_refl _, ?_, Int.le_refl _, ?_, Int.le_refl _, ?_, Int.le_refl _, ?_, Int.le_refl _, ?_, ?_, by simp [Tm.new], fun l hl => ?_⟩
  · rw [e2]; simp only [Tm.new] at hl; rw [List.eq_of_mem_replicate hl]; simp
  · rw [e1]; simp only [Tm.new]; omega
  · rw [e2]; simp only [Tm.new]; omega
  · rw [e1]; simp only [Tm.new]; omega
  · rw [e2]; simp only [Tm.new]; omega
  · simp only [Tm.new]; omega
  · rw [e1]; simp only [Tm.new]; omega
  · simp only [Tm.new] at hl
    rw [List.eq_of_mem_replicate hl]
    obtain ⟨k, rfl⟩ : ∃ k, w = k + 1 := ⟨w - 1, by omega⟩
    simp [List.replicate_succ, sp_rune]

set_option maxHeartbeats 4000000 in
theorem new_c (H : AHeap) (h w : Nat) (ok : H.base ≤ H.next) (h1 : 1 ≤ h) (h2 : h ≤ 200) (w1 : 1 ≤ w) (w2 : w ≤ 300) :
    CallA Tryd.prog 6 [.int .i64 (h : Int), .int .i64 (w : Int)] H fun out H1 => ∃ p, out = .ok (.tuple ⟨[.pointer (some ⟨p.t, 0, none⟩), .int .i64 0]⟩) ∧ TmAt H1 p (Tm.new h w) ∧ Mod [] H H1 ∧ (∀ n ∈ p.blks, H.next ≤ n) ∧ p.rv = .slice none 0 0 ∧ p.pv = .slice none 0 0 := by
  obtain ⟨b, hb⟩ : ∃ b, H.next = b := ⟨_, rfl⟩
  have hbb : H.base ≤ b := hb ▸ ok
  have d1 : decide ((h : Int) < 1) = false := decide_eq_false (by omega)
  have d2 : decide ((200 : Int) < (h : Int)) = false := decide_eq_false (by omega)
  have d3 : decide ((w : Int) < 1) = false := decide_eq_false (by omega)
  have d4 : decide ((1000 : Int) < (w : Int)) = false := decide_eq_false (by omega)
  have hw1 : IntKind.i64.wrap ((h : Int) - 1) = (h : Int) - 1 := wrap_sm (by omega) (by omega)
  refine callE_fn mixed Tryd.func6 rfl Tryd.ntmps6 (Nat.le_of_ble_eq_true rfl) ?_
  simp (maxDischargeDepth := 6) only [hb, hbb, d1, d2, d3, d4, hw1, ruW, putL, Nat.reduceLeDiff, xF, ruU, entryE, Nat.reduceLT, Nat.reduceAdd, Nat.reduceMul, Nat.reduceEqDiff]
  refine w_env fun E hE => ?_
  have f1 : E 1 = .int .i64 (w : Int) := by rw [hE]; simp only [ruU, entryE, Nat.reduceLT, Nat.reduceAdd, Nat.reduceMul, Nat.reduceEqDiff]
  have f6 : E 6 = .pointer (some ⟨b + 0, 0, none⟩) := by rw [hE]; simp only [ruU, entryE, Nat.reduceLT, Nat.reduceAdd, Nat.reduceMul, Nat.reduceEqDiff]
  have f25 : E 25 = .int .i64 (h : Int) := by rw [hE]; simp only [ruU, entryE, Nat.reduceLT, Nat.reduceAdd, Nat.reduceMul, Nat.reduceEqDiff]
  have f26 : E 26 = .int .i64 ((0 : Nat) : Int) := by rw [hE]; (simp only [ruU, entryE, Nat.reduceLT, Nat.reduceAdd, Nat.reduceMul, Nat.reduceEqDiff] <;> rfl)
  clear hE
  refine blockC_meet (fun E' H' => ∃ rs v, rs.length = h ∧ Mod [] H H' ∧ bk H' (b + 0) = some ⟨49, false, cellsN v ((h : Int) - 1)⟩ ∧ RowsAt H' v w rs ∧ (∀ q ∈ rs, b + 0 < q.1 ∧ q.1 < H'.next ∧ bk H' q.1 = some ⟨56, q.2, csOf (blankRow w)⟩) ∧ (rs.map (·.1)).Nodup ∧ (∀ n ∈ idsV v, b + 0 < n ∧ n < H'.next ∧ n ∉ rs.map (·.1)) ∧ E' 6 = .pointer (some ⟨b + 0, 0, none⟩)) ?_ ?_
  · refine w_loop (fun (q : List (Nat × Bool) × Value) E' H' => q.1.length ≤ h ∧ Mod [] H H' ∧ b + 0 < H'.next ∧ bk H' (b + 0) = some ⟨49, false, cellsN q.2 ((h : Int) - 1)⟩ ∧ RowsAt H' q.2 w q.1 ∧ (∀ r ∈ q.1, b + 0 < r.1 ∧ r.1 < H'.next ∧ bk H' r.1 = some ⟨56, r.2, csOf (blankRow w)⟩) ∧ (q.1.map (·.1)).Nodup ∧ (∀ n ∈ idsV q.2, b + 0 < n ∧ n < H'.next ∧ n ∉ q.1.map (·.1)) ∧ E' 1 = .int .i64 (w : Int) ∧ E' 6 = .pointer (some ⟨b + 0, 0, none⟩) ∧ E' 25 = .int .i64 (h : Int) ∧ E' 26 = .int .i64 (q.1.length : Int)) (fun q => h - q.1.length) ([], .slice none 0 0)
      ⟨Nat.zero_le _, Mod.ext ok, by rw [ext_next, hb]; simp, by rw [bk_at hb (by simp)]; rfl, .inl ⟨rfl, rfl⟩, by simp, by simp, by simp [idsV], f1, f6, f25, f26⟩ ?_
    clear f1 f6 f25 f26 E
    rintro ⟨rs, v⟩ E X ⟨hl, mX, hbX, hc, hrs, hrow, hnd, hv, f1, f6, f25, f26⟩
    simp only at hl hc hrs hrow hnd hv f26
    rw [show X = ext X [] from rfl]
    have okX := mX.ok ok
    by_cases hlh : rs.length = h
    · have hd : decide ((rs.length : Int) < (h : Int)) = false := decide_eq_false (by omega)
      simp (maxDischargeDepth := 6) only [f1, f6, f25, f26, hd, ruW, putL, Nat.reduceLeDiff, xF, ruU, entryE, Nat.reduceLT, Nat.reduceAdd, Nat.reduceMul, Nat.reduceEqDiff]
      refine joinR_normal ⟨rs, v, hlh, mX, hc, hrs, hrow, hnd, hv, ?_⟩
      simp only [f6, ruU, entryE, Nat.reduceLT, Nat.reduceAdd, Nat.reduceMul, Nat.reduceEqDiff]
    · have hd : decide ((rs.length : Int) < (h : Int)) = true := decide_eq_true (by omega)
      obtain ⟨x, hx⟩ : ∃ x, X.next = x := ⟨_, rfl⟩
      have hxb : X.base ≤ x := hx ▸ okX
      have hbx : b + 0 < x := hx ▸ hbX
      have hvx : ∀ n ∈ idsV v, n < x := fun n hn => hx ▸ (hv n hn).2.1
      have hc2 := hc
      simp only [cellsN] at hc2
      have hws := wrap_succ (show rs.length < 1000000 by omega)
      simp (maxDischargeDepth := 6) only [f1, f6, f25, f26, hd, ruW, putL, Nat.reduceLeDiff, xF, ruU, entryE, Nat.reduceLT, Nat.reduceAdd, Nat.reduceMul, Nat.reduceEqDiff]
      refine w_drawB [(7, 6), (8, 4), (8, 6), (8, 7), (11, 4), (11, 6), (11, 7), (11, 8)] [] (by kernel_rfl) (by kernel_rfl) rfl fun ops anc hA hG => ?_
      simp only [all2_cons] at hA
      simp (maxDischargeDepth := 6) only [f1, f6, hx, hbx, hc2, hA, ruD, ruW, putL, Nat.reduceLeDiff, xF, ruU, entryE, Nat.reduceLT, Nat.reduceAdd, Nat.reduceMul, Nat.reduceEqDiff]
      refine genV_ext (v := .slice (some ⟨x + 0, 0, some 0⟩) w w) (M := [⟨56, false, csOf (List.replicate w sp)⟩]) [] (by simp (maxDischargeDepth := 6) only [ruU, entryE, Nat.reduceLT, Nat.reduceAdd, Nat.reduceMul, Nat.reduceEqDiff]) (by kernel_rfl) (by decide) (fun n hn => by simp at hn) (fun K hn hg => ?_) (by simp (maxDischargeDepth := 6) only [ruD, ruW, putL, Nat.reduceLeDiff, xF, ruU, entryE, Nat.reduceLT, Nat.reduceAdd, Nat.reduceMul, Nat.reduceEqDiff]) ?_
      · simp only [f1, ruU, entryE, Nat.reduceLT, Nat.reduceAdd, Nat.reduceMul, Nat.reduceEqDiff]
        have := blanks_c w w1 w2 K
        rw [hn, ext_nil, hx] at this
        exact this
      simp (maxDischargeDepth := 6) only [f1, f6, hx, hxb, hbx, hc2, hA, List.length_cons, List.length_nil, ruD, ruW, putL, Nat.reduceLeDiff, xF, ruU, entryE, Nat.reduceLT, Nat.reduceAdd, Nat.reduceMul, Nat.reduceEqDiff]
      rw [wd_append (by simp only [ruU, entryE, Nat.reduceLT, Nat.reduceAdd, Nat.reduceMul, Nat.reduceEqDiff])]
      obtain ⟨Z, hZ⟩ : ∃ Z, ext X [⟨56, false, csOf (List.replicate w sp)⟩, ⟨42, false, [.slice (some ⟨x + 0, 0, some 0⟩) w w]⟩] = Z := ⟨_, rfl⟩
      have mZ : Mod [] X Z := hZ ▸ Mod.ext okX
      have okZ := mZ.ok okX
      have hZn : Z.next = x + 2 := by rw [← hZ, ext_next, hx]; rfl
      have hZ1 : bk Z (x + 1) = some ⟨42, false, [rowV w (x + 0, false)]⟩ := by rw [← hZ, bk_at hx (by simp)]; rfl
      have hZ0 : bk Z (x + 0) = some ⟨56, false, csOf (blankRow w)⟩ := by rw [← hZ, bk_at hx (by simp)]; rfl
      have hZo : ∀ n, n < x → Z.get n = X.get n := fun n hn => mZ.get n (by omega) (by simp)
      rw [hZ]
      have hrn := restrict_next Z (idsV v ++ [x + 1])
      have hR : ∀ n ∈ idsV v ++ [x + 1], (Z.restrict (idsV v ++ [x + 1])).get n = Z.get n := fun n hn => by rw [restrict_get, if_pos hn]
      have hrsZ : RowsAt Z v w rs := hrs.of fun n hn => hZo n (hvx n hn)
      obtain ⟨G, happ, hrsG, mG, hGn⟩ := rows_app (x := x + 2) (k := x + 1) (q := (x + 0, false)) (hrsZ.of fun n hn => hR n (by simp [hn])) (by rw [hrn.1, hZn]) ((bk_get (hR (x + 1) (by simp))).trans hZ1) (by omega) (fun r hr => by
        rw [hrn.1, hZn]
        rcases List.mem_append.1 hr with h | h
        · have := (hrow r h).2.1; omega
        · simp only [List.mem_singleton] at h; subst h; simp only; omega)
      have mG := mG (by rw [hrn.1, hrn.2.1]; exact Nat.le_refl _)
      have hneZ : ∀ n ∈ idsV v ++ [x + 1], Z.get n ≠ none := fun n hn => by
        rcases List.mem_append.1 hn with h | h
        · exact hrsZ.ne n h
        · simp only [List.mem_singleton] at h; subst h; exact bk_ne hZ1
      refine genV_modO (W := idsV v) (idsV v ++ [x + 1]) okZ hneZ (fun n hn => by
          rcases List.mem_append.1 hn with h | h
          · have := hvx n h; omega
          · simp only [List.mem_singleton] at h; omega) (fun n hn => by simp [hn])
        (builtin_op (v := .slice (some ⟨x + 2, 0, none⟩) (rs.length + 1) (rs.length + 1)) (by simp only [ruU, entryE, Nat.reduceLT, Nat.reduceAdd, Nat.reduceMul, Nat.reduceEqDiff]) (by simp only [ruU, entryE, Nat.reduceLT, Nat.reduceAdd, Nat.reduceMul, Nat.reduceEqDiff]; exact happ)) mG (by simp only [all2_cons, all2_nil, hA, true_or, and_true]) ?_
      intro H1 D mH1 hF1 hN1 hnx hD1
      have hnx : H1.next = x + 3 := by rw [hnx, hGn]
      have hT1 : bk H1 (b + 0) = some ⟨49, false, cellsN v ((h : Int) - 1)⟩ := by
        rw [mH1.bk (by omega) (fun hh => by have := (hv _ hh).1; omega), bk_get (hZo _ hbx)]; exact hc
      have hT2 := hT1
      simp only [cellsN] at hT2
      have hTn : b + 0 < x + 3 := by omega
      rw [show H1 = ext H1 [] from rfl]
      simp (maxDischargeDepth := 6) only [f1, f6, hnx, hTn, hT2, hA, hws, implies_true, ruD, ruW, putL, Nat.reduceLeDiff, xF, ruU, entryE, Nat.reduceLT, Nat.reduceAdd, Nat.reduceMul, Nat.reduceEqDiff]
      refine ⟨⟨fun _ => .inr (.inl (by omega)), .inr (.inl (by omega)), .inr (.inl (by omega))⟩, ⟨fun _ => .inr (.inl (by omega)), .inr (.inl (by omega)), .inr (.inl (by omega))⟩, ?_⟩
      simp (maxDischargeDepth := 6) only [f1, f6, f26, hws, ruW, putL, Nat.reduceLeDiff, xF, ruU, entryE, Nat.reduceLT, Nat.reduceAdd, Nat.reduceMul, Nat.reduceEqDiff]
      have mU : Mod [b + 0] H1 (uw H1 (b + 0) 14 [.slice (some ⟨x + 2, 0, none⟩) (rs.length + 1) (rs.length + 1)]) := Mod.uw (by simp)
      have hnewB : bk H1 (x + 2) = some ⟨42, true, (rs ++ [(x + 0, false)]).map (rowV w)⟩ := by
        rw [bk_get (hN1 (x + 2) (by omega) (by omega))]
        rcases hrsG with ⟨h, _⟩ | ⟨_, n, e, hb'⟩
        · simp at h
        · simp only [Value.slice.injEq, Option.some.injEq, Addr.mk.injEq, and_true] at e
          rw [e.1]; exact hb'
      have hget : ∀ n, n < x + 2 → n ≠ b + 0 → n ∉ idsV v → (uw H1 (b + 0) 14 [.slice (some ⟨x + 2, 0, none⟩) (rs.length + 1) (rs.length + 1)]).get n = Z.get n := fun n h1' h2' h3' => by
        rw [uw_get h2', mH1.get n (by omega) h3']
      refine loopC_next ⟨(rs ++ [(x + 0, false)], .slice (some ⟨x + 2, 0, none⟩) (rs.length + 1) (rs.length + 1)), by simp only [List.length_append, List.length_cons, List.length_nil]; omega, by simp only [List.length_append, List.length_cons, List.length_nil]; omega, ?_, ?_, ?_, ?_, ?_, ?_, ?_, ?_, ?_, ?_, ?_⟩
      · have m1 : Mod (idsV v) X H1 := (mZ.mono (by simp)).trans mH1
        exact (mX.step m1 ok (fun n hn => .inr (by have := (hv n hn).1; omega))).step mU ok (fun n hn => .inr (by simp only [List.mem_singleton] at hn; omega))
      · rw [ext_nil, uw_next, hnx]; omega
      · rw [ext_nil, bk_uw_eq, hT1]; rfl
      · refine .inr ⟨by simp, x + 2, by simp, ?_⟩
        rw [ext_nil, bk_uw_ne (by omega)]
        exact hnewB
      · intro r hr
        rcases List.mem_append.1 hr with h | h
        · obtain ⟨q1, q2, q3⟩ := hrow r h
          refine ⟨q1, by rw [ext_nil, uw_next, hnx]; omega, ?_⟩
          rw [ext_nil, bk_get (hget r.1 (by omega) (by omega) (fun hh => (hv _ hh).2.2 (List.mem_map.2 ⟨r, h, rfl⟩))), bk_get (hZo r.1 (by omega))]
          exact q3
        · simp only [List.mem_singleton] at h
          subst h
          refine ⟨by simp only; omega, by rw [ext_nil, uw_next, hnx]; simp only; omega, ?_⟩
          rw [ext_nil, bk_get (hget (x + 0) (by omega) (by omega) (fun hh => by have := hvx _ hh; omega))]
          exact hZ0
      · rw [List.map_append]
        refine List.nodup_append.2 ⟨hnd, by simp, fun a ha b' hb' e => ?_⟩
        obtain ⟨r, hr, rfl⟩ := List.mem_map.1 ha
        simp only [List.map_cons, List.map_nil, List.mem_singleton] at hb'
        have := (hrow r hr).2.1
        omega
      · intro n hn
        simp only [idsV, List.mem_singleton] at hn
        subst hn
        refine ⟨by omega, by rw [ext_nil, uw_next, hnx]; omega, fun hm => ?_⟩
        obtain ⟨r, hr, e⟩ := List.mem_map.1 hm
        rcases List.mem_append.1 hr with h | h
        · have := (hrow r h).2.1; omega
        · simp only [List.mem_singleton] at h
          subst h
          simp only at e
          omega
      · simp only [f1, ruU, entryE, Nat.reduceLT, Nat.reduceAdd, Nat.reduceMul, Nat.reduceEqDiff]
      · simp only [f6, ruU, entryE, Nat.reduceLT, Nat.reduceAdd, Nat.reduceMul, Nat.reduceEqDiff]
      · simp only [f25, ruU, entryE, Nat.reduceLT, Nat.reduceAdd, Nat.reduceMul, Nat.reduceEqDiff]
      · simp only [f26, List.length_append, List.length_cons, List.length_nil, ruU, entryE, Nat.reduceLT, Nat.reduceAdd, Nat.reduceMul, Nat.reduceEqDiff]
  · clear f1 f6 f25 f26 E
    rintro E X ⟨rs, v, hl, mX, hc, hrs, hrow, hnd, hv, f6⟩
    rw [show X = ext X [] from rfl]
    simp (maxDischargeDepth := 6) only [f6, Tryd.results6, ruW, putL, Nat.reduceLeDiff, xF, ruU, entryE, Nat.reduceLT, Nat.reduceAdd, Nat.reduceMul, Nat.reduceEqDiff]
    rcases hrs with ⟨h, _⟩ | ⟨_, n, rfl, hbn⟩
    · rw [h] at hl; simp at hl; omega
    have hn := hv n (by simp [idsV])
    refine ⟨⟨b + 0, n, rs, .slice none 0 0, .slice none 0 0⟩, rfl, ?_, mX, ?_, rfl, rfl⟩
    · refine ⟨?_, ?_, ?_, ?_, .inl ⟨rfl, rfl⟩, .inl ⟨rfl, rfl⟩, ?_, ?_⟩
      · rw [ext_nil, hc, hl]
        simp only [cellsN, cellsT, new_h]
        rfl
      · rw [ext_nil, new_w w h1]; exact hbn
      · rw [new_h]; exact hl
      · intro i q l hq hl'
        have : l = blankRow w := by
          have := List.mem_of_getElem? hl'
          simp only [Tm.new] at this
          exact List.eq_of_mem_replicate this
        rw [this]
        exact (hrow q (List.mem_of_getElem? hq)).2.2
      · simp only [Rp.blks, idsV, List.append_nil]
        refine List.nodup_cons.2 ⟨?_, List.nodup_cons.2 ⟨hn.2.2, hnd⟩⟩
        intro hm
        rcases List.mem_cons.1 hm with e | hm
        · omega
        · obtain ⟨r, hr, e⟩ := List.mem_map.1 hm
          have := (hrow r hr).1
          omega
      · intro m hm
        simp only [Rp.blks, idsV, List.append_nil, List.mem_cons, List.mem_map] at hm
        rcases hm with rfl | rfl | ⟨r, hr, rfl⟩
        · have := hn.1; have := hn.2.1; rw [ext_nil]; omega
        · exact hn.2.1
        · exact (hrow r hr).2.1
    · intro m hm
      simp only [Rp.blks, idsV, List.append_nil, List.mem_cons, List.mem_map] at hm
      rcases hm with rfl | rfl | ⟨r, hr, rfl⟩
      · omega
      · have := hn.1; omega
      · have := (hrow r hr).1; omega

end Go.Proofs.YtpohjcacnkhnkaaDoor
