/- Parts of the proof, one behind the other. -/
import Derived.Test.YtaojjfebkldmnaaDoorM4
import Derived.Test.YtaojjfebkldmnaaDoorM5
set_option linter.all false

/- Walks over abstract heaps: conversions of numbers, copy, slices of exact slices. -/
namespace Go.Ax
section
variable {P : Program} {H : AHeap} {N : Nat} {E : Env} {ds : List Deferred} {ro : Option Nat} {ops : Array Oper} {rest : List Oper} {d : Nat} {ty : TypeId} {pos : String} {after : Array Edge}

theorem w_convert {Q : Exit → AAct → AHeap → Prop} {x : Operand} {s t : TypeId} (hx : opOk N x = true) : wpOps P ro ops (⟨some d, .convert s t x, ty, pos, after, none⟩ :: rest) (mkA N E ds) H Q = heapC P ro ops rest N E ds (some d) Q (aConvert P H s t (opv E x)) :=
  w_rvh rfl (by simp only [aop, xConvert, aeval_opv hx, Option.bind_eq_bind, Option.bind_some])

theorem cv_int {s t : TypeId} {u : TypeDesc} {k k0 : IntKind} {n : Int} (hs : P.underlying s = some u) (ht : P.underlying t = some (.int k)) : aConvert P H s t (.int k0 n) = some (.int k (k.wrap n), H) := by
  simp only [aConvert, hs, ht]

theorem mk_slice {t e : TypeId} {sz by1 n : Nat} {z : Value} (hu : P.underlying t = some (.slice e)) (hsz : szOf P e = some sz) (hby : bytesOf P e = some by1) (hz : zeroOf P e = some z) (hzl : z.cells.toList.length = sz) (hsm : small n by1 = true) :
    aMakeSlice P H t (.int .i64 (n : Int)) (.int .i64 (n : Int)) = (aNew H e (zerosL z.cells.toList n) false).map fun g => (.slice (some ⟨H.next, 0, some 0⟩) n n, g) := by
  simp only [aMakeSlice, hu, hsz, hby, hz, Option.bind_eq_bind, Option.bind_some, Int.toNat_natCast]
  rw [if_pos ⟨by omega, Int.le_refl _, hsm, hzl⟩]
  cases aNew H e (zerosL z.cells.toList n) false <;> rfl

theorem cp_slice {dt st e : TypeId} {sz m off dl dc n off2 sl sc : Nat} {s s2 : Option Nat} {b : Bl} (hu : P.underlying dt = some (.slice e)) (hsz : szOf P e = some sz) (hs : s.getD 0 = 0) (hb : bk H n = some b) (hle : off2 + Nat.min sl dl * sz ≤ b.l.length) :
    aBuiltin P H .copy ⟨[dt, st]⟩ [.slice (some ⟨m, off, s⟩) dl dc, .slice (some ⟨n, off2, s2⟩) sl sc] = (aWrite H m off ((b.l.drop off2).take (Nat.min sl dl * sz))).map fun g => (goInt (Nat.min sl dl), g) := by
  simp only [aBuiltin, aCopy, hu, hsz, Option.bind_eq_bind, Option.bind_some, lenV, first_bk hb hle]
  rw [if_pos (.inl hs)]
  cases aWrite H m off ((b.l.drop off2).take (Nat.min sl dl * sz)) <;> rfl

theorem sl_exact {t e : TypeId} {sz n off len cap : Nat} {lo hi : Option Value} {l h : Nat} (hu : P.underlying t = some (.slice e)) (hsz : szOf P e = some sz) (hl : bound 0 lo = some l) (hh : bound len hi = some h) (h1 : h ≤ cap) (h2 : l ≤ h) (h3 : l < cap) :
    aSlice P H t (.slice (some ⟨n, off, some 0⟩) len cap) lo hi none = some (.slice (some ⟨n, off + l * sz, some 0⟩) (h - l) (cap - l), H) := by
  simp only [aSlice, hu, hsz, aSlice2, hl, hh, Option.bind_eq_bind, Option.bind_some, exactAt]
  rw [if_pos ⟨h1, h2⟩, if_neg (by omega)]

theorem wd_slice {Q : AAct → AHeap → Prop} {i : Nat} {fps : List Fp} {anc : List Nat} {t : TypeId} {x : Operand} {lo hi mx : Option Operand} {dst : Option Nat} :
    wkD P ops anc (⟨dst, .slice t x lo hi mx, ty, pos, after, none⟩ :: rest) i fps (mkA N E ds) H Q = genV P ops anc ⟨dst, .slice t x lo hi mx, ty, pos, after, none⟩ rest i fps (mkA N E ds) H Q := by
  simp only [wkD, wantA, stepD, pureOp, restD, newOp, genV]
theorem wd_copy {Q : AAct → AHeap → Prop} {i : Nat} {fps : List Fp} {anc : List Nat} {args : List Operand} {ts : Array TypeId} {dst : Option Nat} (ha : args.all (opOk N) = true) :
    wkD P ops anc (⟨dst, .call ⟨.builtin .copy, ⟨args⟩, ts⟩, ty, pos, after, none⟩ :: rest) i fps (mkA N E ds) H Q = genV P ops anc ⟨dst, .call ⟨.builtin .copy, ⟨args⟩, ts⟩, ty, pos, after, none⟩ rest i fps (mkA N E ds) H Q := by
  simp only [wkD, wantA, stepD, pureOp, restD, newOp, genV, aevals_opv ha, btD, regBt]

theorem genV_val {o : Oper} {Q : AAct → AHeap → Prop} {i : Nat} {fps : List Fp} {anc : List Nat} {v : Value} (hdst : o.dst = some d) (hd : d < N) (hop : ∀ G, aop o.op P (mkA N E ds) G = some (.value v, G)) (hm : ∀ r ∈ fps, Meets (anc.getD i 0) [] [] (idsV v ++ ([] : List Bl).flatMap fun x => idsL x.l) r)
    (h : wkD P ops anc rest (i + 1) (⟨i, [], [], H.next, H.next + 0⟩ :: fps) (mkA N (upd E d v) ds) H Q) : genV P ops anc o rest i fps (mkA N E ds) H Q :=
  genV_extO (v := v) (M := []) [] hdst hd (fun _ h => by cases h) (fun G _ _ => opS_of (x := .value v) (g := G) (hop G) ⟨rfl, rfl⟩) hm h

theorem slice_aop {t : TypeId} {x : Operand} {lo hi mx : Option Operand} {v : Value} {G : AHeap} (hx : opOk N x = true) (h1 : bndsOk N lo = true) (h2 : bndsOk N hi = true) (h3 : bndsOk N mx = true) (h : aSlice P G t (opv E x) (bnds E lo) (bnds E hi) (bnds E mx) = some (v, G)) :
    aop (.slice t x lo hi mx) P (mkA N E ds) G = some (.value v, G) := by
  simp only [aop, xSlice, aeval_opv hx, optEval_b h1, optEval_b h2, optEval_b h3, Option.bind_eq_bind, Option.bind_some, h, rvh, Option.map_some]
theorem builtin_op {args : List Operand} {b : Builtin} {ts : Array TypeId} {dst : Option Nat} {v : Value} {G : AHeap} (ha : args.all (opOk N) = true) (h : aBuiltin P H b ts (args.map (opv E)) = some (v, G)) : OpS P (mkA N E ds) H ⟨dst, .call ⟨.builtin b, ⟨args⟩, ts⟩, ty, pos, after, none⟩ (.ok v) G :=
  opS_of (x := .value v) (g := G) (by simp only [aop, xCall, aevals_opv ha, Option.bind_eq_bind, Option.bind_some, h, rvh, Option.map_some]) ⟨rfl, rfl⟩

end
end Go.Ax

/- What slices.Repeat, blank and blanks come to. -/
namespace Go.Proofs.YtaojjfebkldmnaaDoor
open Go.Ax
set_option linter.unusedSimpArgs false
set_option maxRecDepth 10000

abbrev Ce.zero : Ce := ⟨0, 0, 0, false, false, false⟩
abbrev Ce.blank : Ce := ⟨32, 0, 0, false, false, false⟩
theorem zeros_cs (n : Nat) : zerosL Ce.zero.cells n = csOf (List.replicate n Ce.zero) := by
  induction n with
  | zero => rfl
  | succ n ih => rw [zerosL, ih, List.replicate_succ, csOf_cons]

theorem mk56 {X : AHeap} {w : Nat} (h : w ≤ 1000) : aMakeSlice Tryd.prog X 56 (.int .i64 (w : Int)) (.int .i64 (w : Int)) = (aNew X 55 (csOf (List.replicate w Ce.zero)) false).map fun g => (.slice (some ⟨X.next, 0, some 0⟩) w w, g) := by
  rw [mk_slice (e := 55) (sz := 6) (by1 := 32) (z := Ce.zero.val) (by kernel_rfl) (by kernel_rfl) (by kernel_rfl) (by kernel_rfl) rfl (by simp only [small, Bool.and_eq_true, Nat.ble_eq]; omega)]
  rw [show Ce.zero.val.cells.toList = Ce.zero.cells from rfl, zeros_cs]

theorem wrap_u64 {n : Nat} (h : n < 100000) : IntKind.u64.wrap (n : Int) = n := by
  simp only [IntKind.wrap, IntKind.signed, IntKind.bits]
  simp
  omega
theorem csOf_take (l : List Ce) (k : Nat) : (csOf l).take (k * 6) = csOf (l.take k) := by
  induction l generalizing k with
  | nil => simp [csOf]
  | cons c l ih =>
    cases k with
    | zero => simp [csOf]
    | succ k => rw [csOf_cons, List.take_succ_cons, csOf_cons, show (k + 1) * 6 = c.cells.length + k * 6 by simp [Ce.cells]; omega, List.take_append, List.take_of_length_le (by omega), Nat.add_sub_cancel_left, ih]
theorem csOf_drop (l : List Ce) (k : Nat) : (csOf l).drop (k * 6) = csOf (l.drop k) := by
  induction l generalizing k with
  | nil => simp [csOf]
  | cons c l ih =>
    cases k with
    | zero => simp [csOf]
    | succ k => rw [csOf_cons, List.drop_succ_cons, show (k + 1) * 6 = c.cells.length + k * 6 by simp [Ce.cells]; omega, List.drop_append, List.drop_eq_nil_of_le (by omega), List.nil_append, Nat.add_sub_cancel_left, ih]
theorem csOf_put (pre new old : List Ce) (h : new.length ≤ old.length) : putL (csOf (pre ++ old)) (pre.length * 6) (csOf new) = csOf (pre ++ (new ++ old.drop new.length)) := by
  have e : pre.length * 6 = (csOf pre).length := (csOf_length pre).symm
  rw [csOf_append, e, putL_at _ _ _ (by rw [csOf_length, csOf_length]; omega), csOf_length, csOf_drop, csOf_append, csOf_append]

theorem cp56 {G : AHeap} {q off dl dc n off2 sl sc : Nat} {s2 : Option Nat} {b bq : Bl} (hq : bk G q = some bq) (hlt : q < G.next) (hb : bk G n = some b) {l : List Ce} (hle : off2 + Nat.min sl dl * 6 ≤ b.l.length) (hl : (b.l.drop off2).take (Nat.min sl dl * 6) = csOf l) (hw : off + Nat.min sl dl * 6 ≤ bq.l.length) (hll : l.length = Nat.min sl dl) :
    aBuiltin Tryd.prog G .copy ⟨[56, 56]⟩ [.slice (some ⟨q, off, some 0⟩) dl dc, .slice (some ⟨n, off2, s2⟩) sl sc] = some (goInt (Nat.min sl dl), uw G q off (csOf l)) := by
  rw [cp_slice (e := 55) (sz := 6) (by kernel_rfl) (by kernel_rfl) rfl hb hle, hl]
  have := write_old (H := G) (L := []) (vs := csOf l) hlt hq (by rw [csOf_length, hll]; exact hw) (csOf_one l) (csOf_sc l _)
  rw [ext_nil, ext_nil] at this
  rw [this]
  rfl

set_option maxHeartbeats 1000000 in
theorem repeat_c (w : Nat) (h1 : 1 ≤ w) (hw : w ≤ 300) (c : Ce) (n : Nat) (s : Option Nat) (H : AHeap) (hn : bk H n = some ⟨55, false, c.cells⟩) :
    CallS Tryd.prog 66 [.slice (some ⟨n, 0, s⟩) 1 1, .int .i64 (w : Int)] H (.ok (.slice (some ⟨H.next, 0, some 0⟩) w w)) (ext H [⟨55, false, csOf (List.replicate w c)⟩]) := by
  refine callS_one (fun wf hsc => ?_) (fun _ _ => csOf_sc _ _)
  obtain ⟨b, hb⟩ : ∃ b, H.next = b := ⟨_, rfl⟩
  have hbase : H.base ≤ b := hb ▸ wf.base
  have hnb : n < b := hb ▸ wf.lt hn
  have hneg : decide ((w : Int) < 0) = false := decide_eq_false (by omega)
  have hcv : ∀ (X : AHeap) (k : IntKind) (m : Int), aConvert Tryd.prog X 3 118 (.int k m) = some (.int .u64 (IntKind.u64.wrap m), X) := fun X k m => cv_int (u := .int .i64) (by kernel_rfl) (by kernel_rfl)
  have hcv2 : ∀ (X : AHeap) (k : IntKind) (m : Int), aConvert Tryd.prog X 118 3 (.int k m) = some (.int .i64 (IntKind.i64.wrap m), X) := fun X k m => cv_int (u := .int .u64) (by kernel_rfl) (by kernel_rfl)
  have u1 : IntKind.u64.wrap ((1 : Nat) : Int) = 1 := by decide
  have huw : IntKind.u64.wrap (w : Int) = w := wrap_u64 (by omega)
  have iw : IntKind.i64.wrap (w : Int) = w := wrap_sm (by omega) (by omega)
  have z1 : decide ((0 : Int) > 0) = false := by decide
  have z2 : decide ((w : Int) > 9223372036854775807) = false := decide_eq_false (by omega)
  refine callE_fn mixed Tryd.func66 rfl Tryd.ntmps66 (Nat.le_of_ble_eq_true rfl) ?_
  simp (maxDischargeDepth := 6) only [hneg, w_convert, hcv, u1, huw, ruW, putL, Nat.reduceLeDiff, xF, ruU, entryE, Nat.reduceLT, Nat.reduceAdd, Nat.reduceMul, Nat.reduceEqDiff]
  refine (mul_c (w := w) (by omega) (ext H [])).to ?_
  simp (maxDischargeDepth := 6) only [w_convert, hcv2, iw, z1, z2, mk56 (show w ≤ 1000 by omega), csOf_sc, hb, ruW, putL, Nat.reduceLeDiff, xF, ruU, entryE, Nat.reduceLT, Nat.reduceAdd, Nat.reduceMul, Nat.reduceEqDiff]
  generalize hG : ext H [_] = G
  have mG : Mod [] H G := hG ▸ Mod.ext wf.base
  have hGn : G.next = b + 1 := by rw [← hG, ext_next, hb]; rfl
  have hq : bk G (b + 0) = some ⟨55, false, csOf (List.replicate w Ce.zero)⟩ := by rw [← hG, bk_at hb (by simp)]; rfl
  have hnG := (mG.bk (hb ▸ hnb) (by simp)).trans hn
  have m1 : Nat.min 1 w = 1 := Nat.min_eq_left h1
  have hcp := cp56 (G := G) (q := b + 0) (off := 0) (dl := w) (dc := w) (n := n) (off2 := 0) (sl := 1) (sc := 1) (s2 := s) (l := [c]) hq (by omega) hnG (by rw [m1]; simp [Ce.cells]) (by rw [m1]; rfl) (by rw [m1, csOf_length, List.length_replicate]; omega) (by rw [m1]; rfl)
  rw [m1] at hcp
  simp (maxDischargeDepth := 6) only [hcp, ruW, putL, Nat.reduceLeDiff, xF, ruU, entryE, Nat.reduceLT, Nat.reduceAdd, Nat.reduceMul, Nat.reduceEqDiff]
  generalize hK : uw G (b + 0) 0 _ = K
  have mK : Mod [b + 0] G K := hK ▸ Mod.uw (by simp)
  have okK := mK.ok (mG.ok wf.base)
  have hKn : K.next = b + 1 := by rw [← hK, uw_next, hGn]
  have hKq : bk K (b + 0) = some ⟨55, false, csOf (List.replicate 1 c ++ List.replicate (w - 1) Ce.zero)⟩ := by
    rw [← hK, bk_uw_eq, hq]
    have := csOf_put [] [c] (List.replicate w Ce.zero) (by simp; omega)
    simp only [List.nil_append, List.length_nil, Nat.zero_mul, List.length_cons, List.drop_replicate] at this
    show some (Bl.mk 55 false (putL (csOf (List.replicate w Ce.zero)) 0 (csOf [c]))) = _
    rw [this]
    rfl
  have mHK : Mod [] H K := mG.step mK wf.base (fun k hk => .inr (by simp only [List.mem_singleton] at hk; omega))
  refine w_env fun E hE => ?_
  have g7 : E 7 = .slice (some ⟨b + 0, 0, some 0⟩) w w := by rw [hE]; simp only [ruU, entryE, Nat.reduceLT, Nat.reduceAdd, Nat.reduceMul, Nat.reduceEqDiff]
  have g8 : E 8 = .int .i64 ((1 : Nat) : Int) := by rw [hE]; (simp only [ruU, entryE, Nat.reduceLT, Nat.reduceAdd, Nat.reduceMul, Nat.reduceEqDiff] <;> rfl)
  clear hE
  refine blockC_meet (fun E' H' => Mod [] H H' ∧ bk H' (b + 0) = some ⟨55, false, csOf (List.replicate w c)⟩ ∧ E' 7 = .slice (some ⟨b + 0, 0, some 0⟩) w w) ?_ ?_
  · refine w_loop (fun (m : Nat) E' H' => Mod [] H H' ∧ b + 0 < H'.next ∧ 1 ≤ m ∧ m ≤ w ∧ bk H' (b + 0) = some ⟨55, false, csOf (List.replicate m c ++ List.replicate (w - m) Ce.zero)⟩ ∧ E' 7 = .slice (some ⟨b + 0, 0, some 0⟩) w w ∧ E' 8 = .int .i64 (m : Int)) (fun m => w - m) 1
      ⟨mHK, by omega, Nat.le_refl _, h1, hKq, g7, g8⟩ ?_
    clear g7 g8
    rintro m E X ⟨mX, lX, hm1, hmw, hqX, g7, g8⟩
    rw [show X = ext X [] from rfl]
    by_cases hme : m = w
    · have hc : decide ((m : Int) < (w : Int)) = false := by simp [hme]
      simp (maxDischargeDepth := 6) only [g7, g8, hc, ruW, putL, Nat.reduceLeDiff, xF, ruU, entryE, Nat.reduceLT, Nat.reduceAdd, Nat.reduceMul, Nat.reduceEqDiff]
      refine joinR_normal ⟨mX, ?_, ?_⟩
      · rw [ext_nil, hqX, hme, Nat.sub_self]; simp
      · simp only [g7, ruU, entryE, Nat.reduceLT, Nat.reduceAdd, Nat.reduceMul, Nat.reduceEqDiff]
    · have hlt : m < w := by omega
      have hc : decide ((m : Int) < (w : Int)) = true := decide_eq_true (by omega)
      have okX := mX.ok wf.base
      simp (maxDischargeDepth := 6) only [g7, g8, hc, ruW, putL, Nat.reduceLeDiff, xF, ruU, entryE, Nat.reduceLT, Nat.reduceAdd, Nat.reduceMul, Nat.reduceEqDiff]
      refine w_drawB [(7, 3), (7, 6), (9, 7)] [] (by kernel_rfl) (by kernel_rfl) rfl fun ops anc hA hG2 => ?_
      simp only [all2_cons] at hA
      simp (maxDischargeDepth := 6) only [g7, g8, ruD, ruW, putL, Nat.reduceLeDiff, xF, ruU, entryE, Nat.reduceLT, Nat.reduceAdd, Nat.reduceMul, Nat.reduceEqDiff]
      have hbm : bound 0 (some (.int .i64 (m : Int))) = some m := by simp [bound]
      have hbm2 : bound w (some (.int .i64 (m : Int))) = some m := by simp [bound]
      rw [wd_slice]
      refine genV_val (v := .slice (some ⟨b + 0, 0 + m * 6, some 0⟩) (w - m) (w - m)) rfl (by decide) (fun G => slice_aop (by simp (maxDischargeDepth := 6) only [ruU, entryE, Nat.reduceLT, Nat.reduceAdd, Nat.reduceMul, Nat.reduceEqDiff]) (by simp (maxDischargeDepth := 6) only [ruU, entryE, Nat.reduceLT, Nat.reduceAdd, Nat.reduceMul, Nat.reduceEqDiff, bndsOk_some]) rfl rfl ?_) (by simp (maxDischargeDepth := 6) only [ruD, ruW, putL, Nat.reduceLeDiff, xF, ruU, entryE, Nat.reduceLT, Nat.reduceAdd, Nat.reduceMul, Nat.reduceEqDiff]) ?_
      · simp only [g7, g8, bnds_some, bnds_none, ruU, entryE, Nat.reduceLT, Nat.reduceAdd, Nat.reduceMul, Nat.reduceEqDiff]
        exact sl_exact (e := 55) (sz := 6) (by kernel_rfl) (by kernel_rfl) hbm rfl (Nat.le_refl _) hmw hlt
      simp (maxDischargeDepth := 6) only [g7, g8, ruD, ruW, putL, Nat.reduceLeDiff, xF, ruU, entryE, Nat.reduceLT, Nat.reduceAdd, Nat.reduceMul, Nat.reduceEqDiff]
      rw [wd_slice]
      refine genV_val (v := .slice (some ⟨b + 0, 0 + 0 * 6, some 0⟩) (m - 0) (w - 0)) rfl (by decide) (fun G => slice_aop (by simp (maxDischargeDepth := 6) only [ruU, entryE, Nat.reduceLT, Nat.reduceAdd, Nat.reduceMul, Nat.reduceEqDiff]) rfl (by simp (maxDischargeDepth := 6) only [ruU, entryE, Nat.reduceLT, Nat.reduceAdd, Nat.reduceMul, Nat.reduceEqDiff, bndsOk_some]) rfl ?_) (by simp (maxDischargeDepth := 6) only [ruD, ruW, putL, Nat.reduceLeDiff, xF, ruU, entryE, Nat.reduceLT, Nat.reduceAdd, Nat.reduceMul, Nat.reduceEqDiff]) ?_
      · simp only [g7, g8, bnds_some, bnds_none, ruU, entryE, Nat.reduceLT, Nat.reduceAdd, Nat.reduceMul, Nat.reduceEqDiff]
        exact sl_exact (e := 55) (sz := 6) (by kernel_rfl) (by kernel_rfl) rfl hbm2 hmw (Nat.zero_le _) (by omega)
      simp (maxDischargeDepth := 6) only [g7, g8, ruD, ruW, putL, Nat.reduceLeDiff, xF, ruU, entryE, Nat.reduceLT, Nat.reduceAdd, Nat.reduceMul, Nat.reduceEqDiff]
      rw [wd_copy (by simp only [ruU, entryE, Nat.reduceLT, Nat.reduceAdd, Nat.reduceMul, Nat.reduceEqDiff])]
      have hrn := restrict_next X [b + 0]
      have hqR : bk (X.restrict [b + 0]) (b + 0) = some ⟨55, false, csOf (List.replicate m c ++ List.replicate (w - m) Ce.zero)⟩ := (bk_get (by rw [restrict_get, if_pos (by simp)])).trans hqX
      obtain ⟨j, hj⟩ : ∃ j, Nat.min m (w - m) = j := ⟨_, rfl⟩
      have hjm : j ≤ m ∧ j ≤ w - m ∧ 0 < j := by rw [← hj]; exact ⟨Nat.min_le_left _ _, Nat.min_le_right _ _, Nat.lt_min.2 ⟨by omega, by omega⟩⟩
      have hcl : (csOf (List.replicate m c ++ List.replicate (w - m) Ce.zero)).length = w * 6 := by rw [csOf_length]; simp; omega
      have hcp2 := cp56 (G := X.restrict [b + 0]) (q := b + 0) (off := 0 + m * 6) (dl := w - m) (dc := w - m) (n := b + 0) (off2 := 0 + 0 * 6) (sl := m - 0) (sc := w - 0) (s2 := some 0) (l := List.replicate j c) hqR (by rw [hrn.1]; exact lX) hqR
        (by rw [Nat.sub_zero, hj, hcl]; omega) (by rw [Nat.sub_zero, hj, Nat.zero_mul, Nat.zero_add, List.drop_zero, csOf_take, List.take_append, List.take_replicate, List.length_replicate, show j - m = 0 by omega, Nat.min_eq_left hjm.1]; simp) (by rw [Nat.sub_zero, hj, hcl]; omega) (by rw [Nat.sub_zero, hj, List.length_replicate])
      rw [Nat.sub_zero, hj] at hcp2
      refine genV_modO (W := [b + 0]) [b + 0] okX (fun k hk => by simp only [List.mem_singleton] at hk; subst hk; exact bk_ne hqX) (fun k hk => by simp only [List.mem_singleton] at hk; subst hk; exact lX) (fun _ h => h)
        (builtin_op (v := goInt j) (by simp only [ruU, entryE, Nat.reduceLT, Nat.reduceAdd, Nat.reduceMul, Nat.reduceEqDiff]) (by simp only [ruU, entryE, Nat.reduceLT, Nat.reduceAdd, Nat.reduceMul, Nat.reduceEqDiff]; rw [Nat.sub_zero]; exact hcp2)) (Mod.uw (by simp)) (by simp only [all2_cons, all2_nil, hA, true_or, and_true]) ?_
      intro H1 D mH1 hF1 _ _ _
      have hw8 : IntKind.i64.wrap ((m : Int) + (j : Int)) = ((m + j : Nat) : Int) := by
        have := wrap_sm (n := (m : Int) + (j : Int)) (by omega) (by omega)
        rw [show IntKind.i64.wrap ((m : Int) + (j : Int)) = _ from this]; omega
      rw [show H1 = ext H1 [] from rfl]
      simp (maxDischargeDepth := 6) only [g7, g8, goInt, hA, hw8, implies_true, ruD, ruW, putL, Nat.reduceLeDiff, xF, ruU, entryE, Nat.reduceLT, Nat.reduceAdd, Nat.reduceMul, Nat.reduceEqDiff]
      have hq1 : bk H1 (b + 0) = some ⟨55, false, csOf (List.replicate (m + j) c ++ List.replicate (w - (m + j)) Ce.zero)⟩ := by
        rw [bk_get (hF1 (b + 0) (by simp)), bk_uw_eq, show bk ((ext X []).restrict [b + 0]) (b + 0) = _ from hqR]
        have := csOf_put (List.replicate m c) (List.replicate j c) (List.replicate (w - m) Ce.zero) (by simp; omega)
        rw [List.length_replicate, List.length_replicate, List.drop_replicate] at this
        show some (Bl.mk 55 false (putL (csOf _) (0 + m * 6) (csOf (List.replicate j c)))) = _
        rw [Nat.zero_add, this, ← List.append_assoc, List.replicate_append_replicate, show w - m - j = w - (m + j) by omega]
      refine loopC_next ⟨m + j, by omega, (mX.step mH1 wf.base (fun k hk => .inr (by simp only [List.mem_singleton] at hk; omega))), mH1.lt lX, by omega, by omega, hq1, ?_, ?_⟩ <;> simp only [g7, g8, ruU, entryE, Nat.reduceLT, Nat.reduceAdd, Nat.reduceMul, Nat.reduceEqDiff]
  · clear g7 g8
    rintro E X ⟨mX, hqX, g7⟩
    rw [show X = ext X [] from rfl]
    simp (maxDischargeDepth := 6) only [g7, Tryd.results66, ruW, putL, Nat.reduceLeDiff, xF, ruU, entryE, Nat.reduceLT, Nat.reduceAdd, Nat.reduceMul, Nat.reduceEqDiff]
    exact ⟨b + 0, rfl, by omega, hqX, mX⟩

theorem blank_c (w : Nat) (h1 : 1 ≤ w) (hw : w ≤ 300) (H : AHeap) : CallS Tryd.prog 46 [.int .i64 (w : Int)] H (.ok (.slice (some ⟨H.next, 0, some 0⟩) w w)) (ext H [⟨55, false, csOf (List.replicate w Ce.blank)⟩]) := by
  refine callS_one (fun wf hsc => ?_) (fun _ _ => csOf_sc _ _)
  obtain ⟨b, hb⟩ : ∃ b, H.next = b := ⟨_, rfl⟩
  have hbase : H.base ≤ b := hb ▸ wf.base
  refine callE_fn mixed Tryd.func46 rfl Tryd.ntmps46 (Nat.le_of_ble_eq_true rfl) ?_
  simp (maxDischargeDepth := 6) only [hb, hbase, ruW, putL, Nat.reduceLeDiff, xF, ruU, entryE, Nat.reduceLT, Nat.reduceAdd, Nat.reduceMul, Nat.reduceEqDiff]
  refine (repeat_c w h1 hw Ce.blank (b + 0) (some 0) (ext H (_ :: _)) (by rw [bk_at hb (by simp)]; rfl)).to ?_
  simp (maxDischargeDepth := 6) only [hb, hbase, List.length_cons, List.length_nil, Tryd.results46, ruW, putL, Nat.reduceLeDiff, xF, ruU, entryE, Nat.reduceLT, Nat.reduceAdd, Nat.reduceMul, Nat.reduceEqDiff]
  exact ⟨_, rfl, by omega, by rw [bk_at hb (by simp)]; rfl, Mod.ext wf.base⟩

def ApCe (H : AHeap) (v : Value) (l : List Ce) : Prop :=
  (l = [] ∧ v = .slice none 0 0) ∨ (∃ m, l ≠ [] ∧ m < H.next ∧ v = .slice (some ⟨m, 0, none⟩) l.length l.length ∧ bk H m = some ⟨55, true, csOf l⟩)

theorem ce_app {H : AHeap} {v : Value} {l : List Ce} {c : Ce} {k : Nat} {s : Option Nat} (h : ApCe H v l) (hk : bk H k = some ⟨55, false, c.cells⟩) (hcap : l.length < 10000) :
    ∃ v' H', aBuiltin Tryd.prog H .append ⟨[56, 56]⟩ [v, .slice (some ⟨k, 0, s⟩) 1 1] = some (v', H') ∧ one v' = true ∧ ApCe H' v' (l ++ [c]) ∧ (H.base ≤ H.next → Mod (idsV v) H H') ∧ (∀ n ∈ idsV v', H.next ≤ n) := by
  rcases h with ⟨rfl, rfl⟩ | ⟨m, h1, h2, rfl, hb⟩
  · have happ := app_nil (P := Tryd.prog) (H := H) (st := 56) (xt := 56) (e := 55) (sz := 6) (by1 := 32) (z := Ce.zero.val) (n := k) (off := 0) (cnt := 1) (cap := 1) (s := s) (b := ⟨55, false, c.cells⟩) (by kernel_rfl) (by kernel_rfl) (by kernel_rfl) (by kernel_rfl) rfl (by kernel_rfl) hk (by simp [Ce.cells]) rfl (by decide) (by decide)
    have hn := new_ext (H := H) (L := []) (e := 55) (l := c.cells) (o := true) rfl
    have ht : (c.cells.drop 0).take (1 * 6) = c.cells := rfl
    rw [ht, show H = ext H [] from rfl, hn, Option.map_some] at happ
    refine ⟨_, _, happ, rfl, .inr ⟨H.next, by simp, by rw [ext_next]; simp, rfl, ?_⟩, fun hok => Mod.ext hok, fun n hn => ?_⟩
    · rw [show H.next = H.next + 0 from rfl, bk_at rfl (by simp)]
      simp [csOf]
    · simp only [idsV, List.mem_singleton] at hn
      subst hn; exact Nat.le_refl _
  · have happ := app_open (P := Tryd.prog) (H := H) (st := 56) (xt := 56) (e := 55) (sz := 6) (by1 := 32) (z := Ce.zero.val) (m := m) (k := l.length) (old := csOf l) (n := k) (off := 0) (cnt := 1) (cap := 1) (s := s) (b := ⟨55, false, c.cells⟩)
      (by kernel_rfl) (by kernel_rfl) (by kernel_rfl) (by kernel_rfl) rfl (by kernel_rfl) hb (csOf_length l) (csOf_one l) hk (by simp [Ce.cells]) rfl (by decide)
      (by simp only [small, Bool.and_eq_true, Nat.ble_eq]; omega)
    have hsr : scbL ((dp H m).next + 0) (csOf l ++ c.cells) = true := by
      have := csOf_sc (l ++ [c]) ((dp H m).next + 0)
      simpa [csOf] using this
    have hn := new_ext (H := dp H m) (L := []) (e := 55) (l := csOf l ++ c.cells) (o := true) hsr
    have ht : (c.cells.drop 0).take (1 * 6) = c.cells := rfl
    rw [ht, show H.upd m none = ext (dp H m) [] from rfl, hn, Option.map_some] at happ
    refine ⟨_, _, happ, rfl, .inr ⟨H.next, by simp, by rw [ext_next, dp_next]; simp, ?_, ?_⟩, fun hok => ?_, fun n hn => ?_⟩
    · simp
    · rw [show H.next = (dp H m).next + 0 from rfl, bk_at rfl (by simp)]
      simp [csOf]
    · have mD : Mod (idsV (.slice (some ⟨m, 0, none⟩) l.length l.length)) H (dp H m) := Mod.upd (by simp [idsV])
      exact mD.trans (Mod.ext (mD.ok hok))
    · simp only [idsV, List.mem_singleton] at hn
      subst hn; exact Nat.le_refl _

theorem blanks_c (w : Nat) (h1 : 1 ≤ w) (hw : w ≤ 300) (H : AHeap) : CallS Tryd.prog 47 [.int .i64 (w : Int)] H (.ok (.slice (some ⟨H.next, 0, none⟩) w w)) (ext H [⟨55, true, csOf (List.replicate w Ce.blank)⟩]) := by
  refine callS_one (fun wf hsc => ?_) (fun _ _ => csOf_sc _ _)
  refine callE_fn mixed Tryd.func47 rfl Tryd.ntmps47 (Nat.le_of_ble_eq_true rfl) ?_
  simp (maxDischargeDepth := 6) only [ruW, putL, Nat.reduceLeDiff, xF, ruU, entryE, Nat.reduceLT, Nat.reduceAdd, Nat.reduceMul, Nat.reduceEqDiff]
  refine w_env fun E hE => ?_
  have g0 : E 0 = .int .i64 (w : Int) := by rw [hE]; simp only [ruU, entryE, Nat.reduceLT, Nat.reduceAdd, Nat.reduceMul, Nat.reduceEqDiff]
  have g3 : E 3 = .slice none 0 0 := by rw [hE]; simp only [ruU, entryE, Nat.reduceLT, Nat.reduceAdd, Nat.reduceMul, Nat.reduceEqDiff]
  have g4 : E 4 = .int .i64 ((0 : Nat) : Int) := by rw [hE]; (simp only [ruU, entryE, Nat.reduceLT, Nat.reduceAdd, Nat.reduceMul, Nat.reduceEqDiff] <;> rfl)
  clear hE
  refine blockC_meet (fun E' H' => Mod [] H H' ∧ ∃ v, E' 3 = v ∧ ApCe H' v (List.replicate w Ce.blank) ∧ ∀ n ∈ idsV v, H.next ≤ n) ?_ ?_
  · refine w_loop (fun (m : Nat) E' H' => Mod [] H H' ∧ m ≤ w ∧ E' 0 = .int .i64 (w : Int) ∧ E' 4 = .int .i64 (m : Int) ∧ ∃ v, E' 3 = v ∧ ApCe H' v (List.replicate m Ce.blank) ∧ ∀ n ∈ idsV v, H.next ≤ n) (fun m => w - m) 0
      ⟨Mod.refl, Nat.zero_le _, g0, g4, _, g3, .inl ⟨rfl, rfl⟩, by simp [idsV]⟩ ?_
    clear g0 g3 g4
    rintro m E X ⟨mX, hm, g0, g4, v, g3, ha, hv⟩
    rw [show X = ext X [] from rfl]
    by_cases hme : m = w
    · have hc : decide ((m : Int) < (w : Int)) = false := by simp [hme]
      simp (maxDischargeDepth := 6) only [g0, g3, g4, hc, ruW, putL, Nat.reduceLeDiff, xF, ruU, entryE, Nat.reduceLT, Nat.reduceAdd, Nat.reduceMul, Nat.reduceEqDiff]
      refine joinR_normal ⟨mX, v, ?_, hme ▸ ha, hv⟩
      simp only [g3, ruU, entryE, Nat.reduceLT, Nat.reduceAdd, Nat.reduceMul, Nat.reduceEqDiff]
    · have hc : decide ((m : Int) < (w : Int)) = true := decide_eq_true (by omega)
      have okX := mX.ok wf.base
      obtain ⟨x, hx⟩ : ∃ x, X.next = x := ⟨_, rfl⟩
      have hxb : X.base ≤ x := hx ▸ okX
      have haE : ApCe (ext X [⟨55, false, Ce.blank.cells⟩]) v (List.replicate m Ce.blank) := by
        rcases ha with ⟨h1, h2⟩ | ⟨q, h1, h2, h3, h4⟩
        · exact .inl ⟨h1, h2⟩
        · exact .inr ⟨q, h1, by rw [ext_next]; omega, h3, (bk_old h2).trans h4⟩
      obtain ⟨v', H', hap, hone, ha', hmd, hge⟩ := ce_app (k := x + 0) (s := some 0) (c := Ce.blank) haE (by rw [bk_at hx (by simp)]; rfl) (by rw [List.length_replicate]; omega)
      simp only [Ce.cells] at hap
      rw [show H' = ext H' [] from rfl] at hap
      simp (maxDischargeDepth := 6) only [g0, g3, g4, hc, hx, hxb, hap, wrap_succ (show m < 1000000 by omega), ruW, putL, Nat.reduceLeDiff, xF, ruU, entryE, Nat.reduceLT, Nat.reduceAdd, Nat.reduceMul, Nat.reduceEqDiff]
      have mE : Mod (idsV v) X (ext X [⟨55, false, Ce.blank.cells⟩]) := Mod.ext okX
      have mT : Mod (idsV v) X H' := mE.trans (hmd (mE.ok okX))
      refine loopC_next ⟨m + 1, by omega, mX.step mT wf.base (fun k hk => .inr (hv k hk)), by omega, ?_, ?_, v', ?_, ?_, fun k hk => ?_⟩ <;> try simp only [g0, g3, g4, ruU, entryE, Nat.reduceLT, Nat.reduceAdd, Nat.reduceMul, Nat.reduceEqDiff]
      · rw [List.replicate_succ']; exact ha'
      · have := hge k hk
        rw [ext_next] at this
        have := mX.next
        omega
  · clear g0 g3 g4
    rintro E X ⟨mX, v, g3, ha, hv⟩
    rw [show X = ext X [] from rfl]
    simp (maxDischargeDepth := 6) only [g3, Tryd.results47, ruW, putL, Nat.reduceLeDiff, xF, ruU, entryE, Nat.reduceLT, Nat.reduceAdd, Nat.reduceMul, Nat.reduceEqDiff]
    rcases ha with ⟨h, _⟩ | ⟨m, h, h2, rfl, hb⟩
    · have := congrArg List.length h
      simp at this
      omega
    · rw [List.length_replicate]
      exact ⟨m, rfl, hv m (by simp [idsV]), hb, mX⟩

end Go.Proofs.YtaojjfebkldmnaaDoor

/- What Blank comes to, in the program and in the reference. -/
namespace Go.Proofs.YtaojjfebkldmnaaDoor
open Go.Ax
set_option linter.unusedSimpArgs false
set_option maxRecDepth 10000

def RowsAp (H : AHeap) (v : Value) (rvs : List Value) : Prop :=
  (rvs = [] ∧ v = .slice none 0 0) ∨ (∃ m, rvs ≠ [] ∧ m < H.next ∧ v = .slice (some ⟨m, 0, none⟩) rvs.length rvs.length ∧ bk H m = some ⟨56, true, rvs⟩)
theorem RowsAp.ext {H : AHeap} {v : Value} {rvs : List Value} {B : List Bl} (h : RowsAp H v rvs) : RowsAp (Go.Ax.ext H B) v rvs := by
  rcases h with h | ⟨m, h1, h2, h3, h4⟩
  · exact .inl h
  · exact .inr ⟨m, h1, by rw [ext_next]; omega, h3, (bk_old h2).trans h4⟩
theorem RowsAp.of {H G : AHeap} {v : Value} {rvs : List Value} (h : RowsAp H v rvs) (hn : H.next ≤ G.next) (hg : ∀ n ∈ idsV v, G.get n = H.get n) : RowsAp G v rvs := by
  rcases h with h | ⟨m, h1, h2, rfl, h4⟩
  · exact .inl h
  · exact .inr ⟨m, h1, by omega, rfl, (bk_get (hg m (by simp [idsV]))).trans h4⟩
theorem RowsAp.ne {H : AHeap} {v : Value} {rvs : List Value} (h : RowsAp H v rvs) : ∀ n ∈ idsV v, H.get n ≠ none ∧ n < H.next := by
  rcases h with ⟨_, rfl⟩ | ⟨m, h1, h2, rfl, h4⟩
  · intro n hn; simp [idsV] at hn
  · intro n hn
    simp only [idsV, List.mem_singleton] at hn
    subst hn
    exact ⟨bk_ne h4, h2⟩

theorem rows_app {H : AHeap} {v : Value} {rvs : List Value} {rv : Value} {k : Nat} {s : Option Nat} (h : RowsAp H v rvs) (hk : bk H k = some ⟨56, false, [rv]⟩) (hone : rvs.all one = true) (h1 : one rv = true) (hsc : scbL H.next (rvs ++ [rv]) = true) (hcap : rvs.length < 10000) :
    ∃ v' H', aBuiltin Tryd.prog H .append ⟨[22, 22]⟩ [v, .slice (some ⟨k, 0, s⟩) 1 1] = some (v', H') ∧ one v' = true ∧ RowsAp H' v' (rvs ++ [rv]) ∧ (H.base ≤ H.next → Mod (idsV v) H H') ∧ (∀ n ∈ idsV v', H.next ≤ n) := by
  have hal : [rv].all one = true := by simp [h1]
  rcases h with ⟨rfl, rfl⟩ | ⟨m, h2, h3, rfl, hb⟩
  · have happ := app_nil (P := Tryd.prog) (H := H) (st := 22) (xt := 22) (e := 56) (sz := 1) (by1 := 24) (z := .slice none 0 0) (n := k) (off := 0) (cnt := 1) (cap := 1) (s := s) (b := ⟨56, false, [rv]⟩) (by kernel_rfl) (by kernel_rfl) (by kernel_rfl) (by kernel_rfl) rfl (by kernel_rfl) hk (by simp) hal (by decide) (by decide)
    have hn := new_ext (H := H) (L := []) (e := 56) (l := [rv]) (o := true) hsc
    have ht : ([rv].drop 0).take (1 * 1) = [rv] := rfl
    rw [ht, show H = ext H [] from rfl, hn, Option.map_some] at happ
    refine ⟨_, _, happ, rfl, .inr ⟨H.next, by simp, by rw [ext_next]; simp, rfl, ?_⟩, fun hok => Mod.ext hok, fun n hn => ?_⟩
    · rw [show H.next = H.next + 0 from rfl, bk_at rfl (by simp)]
      simp
    · simp only [idsV, List.mem_singleton] at hn
      subst hn; exact Nat.le_refl _
  · have happ := app_open (P := Tryd.prog) (H := H) (st := 22) (xt := 22) (e := 56) (sz := 1) (by1 := 24) (z := .slice none 0 0) (m := m) (k := rvs.length) (old := rvs) (n := k) (off := 0) (cnt := 1) (cap := 1) (s := s) (b := ⟨56, false, [rv]⟩)
      (by kernel_rfl) (by kernel_rfl) (by kernel_rfl) (by kernel_rfl) rfl (by kernel_rfl) hb (by omega) hone hk (by simp) hal (by decide)
      (by simp only [small, Bool.and_eq_true, Nat.ble_eq]; omega)
    have hn := new_ext (H := dp H m) (L := []) (e := 56) (l := rvs ++ [rv]) (o := true) hsc
    have ht : ([rv].drop 0).take (1 * 1) = [rv] := rfl
    rw [ht, show H.upd m none = ext (dp H m) [] from rfl, hn, Option.map_some] at happ
    refine ⟨_, _, happ, rfl, .inr ⟨H.next, by simp, by rw [ext_next, dp_next]; simp, ?_, ?_⟩, fun hok => ?_, fun n hn => ?_⟩
    · simp
    · rw [show H.next = (dp H m).next + 0 from rfl, bk_at rfl (by simp)]
      simp
    · have mD : Mod (idsV (.slice (some ⟨m, 0, none⟩) rvs.length rvs.length)) H (dp H m) := Mod.upd (by simp [idsV])
      exact mD.trans (Mod.ext (mD.ok hok))
    · simp only [idsV, List.mem_singleton] at hn
      subst hn; exact Nat.le_refl _

def blankG (h w : Nat) : List (List Ce) := List.replicate h (List.replicate w Ce.blank)
def BlankPost (H : AHeap) (h w : Nat) (out : Out) (H1 : AHeap) : Prop := ∃ q, out = .ok (.tuple #[.agg #[.slice (some ⟨q, 0, none⟩) h h, .int .i64 (-1), .int .i64 0], .int .i64 0]) ∧ q < H1.next ∧ GridAt H1 (.slice (some ⟨q, 0, none⟩) h h) (blankG h w) ∧ Mod [] H H1
def blankOk (h w : Int) : Bool := decide (1 ≤ h) && decide (h ≤ 200) && decide (1 ≤ w) && decide (w ≤ 1000)

structure Way (H X : AHeap) (b w m : Nat) (v : Value) (rvs : List Value) : Prop where
  mod : Mod [] H X
  lt : b + 1 < X.next
  c0 : bk X (b + 0) = some ⟨24, false, [.slice none 0 0, .int .i64 0, .int .i64 0]⟩
  c1 : bk X (b + 1) = some ⟨24, false, [v, .int .i64 (-1), .int .i64 0]⟩
  ap : RowsAp X v rvs
  len : rvs.length = m
  one : rvs.all one = true
  onev : Go.Ax.one v = true
  sc : scbL X.next rvs = true
  scv : scb X.next v = true
  row : ∀ rv ∈ rvs, RowAt X rv (List.replicate w Ce.blank) ∧ ∀ n ∈ idsV rv, b + 2 ≤ n ∧ n ∉ idsV v
  idv : ∀ n ∈ idsV v, b + 2 ≤ n

theorem grid_of {X : AHeap} {w m : Nat} {v : Value} {rvs : List Value} (ap : RowsAp X v rvs) (len : rvs.length = m) (row : ∀ rv ∈ rvs, RowAt X rv (List.replicate w Ce.blank)) : GridAt X v (blankG m w) := by
  have hl : (blankG m w).length = m := by simp [blankG]
  rcases ap with ⟨rfl, rfl⟩ | ⟨q, h1, h2, rfl, h4⟩
  · have := len
    simp at this
    subst this
    exact .inl ⟨rfl, _, _, rfl⟩
  · have hm := len
    refine .inr ⟨fun h => h1 (List.eq_nil_of_length_eq_zero (by rw [h] at hl; simp at hl; omega)), q, 0, none, rvs.length, 56, true, rvs, by rw [hl, hm], h4, h2, by omega, fun k rw' hk => ?_⟩
    have hkm : k < m := by
      rcases Nat.lt_or_ge k m with h | h
      · exact h
      · rw [List.getElem?_eq_none (by omega)] at hk; cases hk
    have hr : rw' = List.replicate w Ce.blank := by
      rw [blankG, List.getElem?_replicate, if_pos hkm] at hk
      exact (Option.some.inj hk).symm
    subst hr
    refine ⟨rvs[k]'(by omega), by rw [Nat.zero_add, List.getElem?_eq_getElem (by omega)], row _ (List.getElem_mem _)⟩

set_option maxHeartbeats 2000000 in
theorem blank19_ok (h w : Nat) (h1 : 1 ≤ h) (h2 : h ≤ 200) (w1 : 1 ≤ w) (w2 : w ≤ 300) (H : AHeap) (hok : H.base ≤ H.next) : CallA Tryd.prog 19 [.int .i64 (h : Int), .int .i64 (w : Int)] H (BlankPost H h w) := by
  obtain ⟨b, hb⟩ : ∃ b, H.next = b := ⟨_, rfl⟩
  have hbase : H.base ≤ b := hb ▸ hok
  have c1 : decide ((h : Int) < 1) = false := decide_eq_false (by omega)
  have c2 : decide ((200 : Int) < (h : Int)) = false := decide_eq_false (by omega)
  have c3 : decide ((w : Int) < 1) = false := decide_eq_false (by omega)
  have c4 : decide ((1000 : Int) < (w : Int)) = false := decide_eq_false (by omega)
  refine callE_fn mixed Tryd.func19 rfl Tryd.ntmps19 (Nat.le_of_ble_eq_true rfl) ?_
  simp (maxDischargeDepth := 6) only [hb, hbase, c1, c2, c3, c4, ruW, putL, Nat.reduceLeDiff, xF, ruU, entryE, Nat.reduceLT, Nat.reduceAdd, Nat.reduceMul, Nat.reduceEqDiff]
  refine w_env fun E hE => ?_
  have g1 : E 1 = .int .i64 (w : Int) := by rw [hE]; simp only [ruU, entryE, Nat.reduceLT, Nat.reduceAdd, Nat.reduceMul, Nat.reduceEqDiff]
  have g4 : E 4 = .pointer (some ⟨b + 0, 0, none⟩) := by rw [hE]; simp only [ruU, entryE, Nat.reduceLT, Nat.reduceAdd, Nat.reduceMul, Nat.reduceEqDiff]
  have g6 : E 6 = .pointer (some ⟨b + 1, 0, none⟩) := by rw [hE]; simp only [ruU, entryE, Nat.reduceLT, Nat.reduceAdd, Nat.reduceMul, Nat.reduceEqDiff]
  have gB : E 23 = .int .i64 (h : Int) := by rw [hE]; simp only [ruU, entryE, Nat.reduceLT, Nat.reduceAdd, Nat.reduceMul, Nat.reduceEqDiff]
  have gC : E 24 = .int .i64 ((0 : Nat) : Int) := by rw [hE]; (simp only [ruU, entryE, Nat.reduceLT, Nat.reduceAdd, Nat.reduceMul, Nat.reduceEqDiff] <;> rfl)
  clear hE
  generalize hX0 : ext H (_ :: _) = X0
  have m0 : Mod [] H X0 := hX0 ▸ Mod.ext hok
  have y0 : Way H X0 b w 0 (.slice none 0 0) [] := by
    refine ⟨m0, by rw [← hX0, ext_next, hb]; simp, by rw [← hX0, bk_at hb (by simp)]; rfl, by rw [← hX0, bk_at hb (by simp)]; rfl, .inl ⟨rfl, rfl⟩, rfl, rfl, rfl, rfl, rfl, fun _ h => (by cases h), fun n hn => by simp [idsV] at hn⟩
  clear hX0
  refine blockC_meet (fun E' H' => ∃ v rvs, Way H H' b w h v rvs ∧ E' 4 = .pointer (some ⟨b + 0, 0, none⟩) ∧ E' 6 = .pointer (some ⟨b + 1, 0, none⟩)) ?_ ?_
  · refine w_loop (fun (m : Nat) E' H' => ∃ v rvs, Way H H' b w m v rvs ∧ m ≤ h ∧ E' 1 = .int .i64 (w : Int) ∧ E' 4 = .pointer (some ⟨b + 0, 0, none⟩) ∧ E' 6 = .pointer (some ⟨b + 1, 0, none⟩) ∧ E' 23 = .int .i64 (h : Int) ∧ E' 24 = .int .i64 (m : Int)) (fun m => h - m) 0 ⟨_, _, y0, Nat.zero_le _, g1, g4, g6, gB, gC⟩ ?_
    clear g1 g4 g6 gB gC y0 m0
    rintro m E X ⟨v, rvs, y, hm, g1, g4, g6, gB, gC⟩
    rw [show X = ext X [] from rfl]
    by_cases hme : m = h
    · have hc : decide ((m : Int) < (h : Int)) = false := by simp [hme]
      simp (maxDischargeDepth := 6) only [g1, g4, g6, gB, gC, hc, ruW, putL, Nat.reduceLeDiff, xF, ruU, entryE, Nat.reduceLT, Nat.reduceAdd, Nat.reduceMul, Nat.reduceEqDiff]
      refine joinR_normal ⟨v, rvs, hme ▸ y, ?_, ?_⟩ <;> simp only [g4, g6, ruU, entryE, Nat.reduceLT, Nat.reduceAdd, Nat.reduceMul, Nat.reduceEqDiff]
    · have hc : decide ((m : Int) < (h : Int)) = true := decide_eq_true (by omega)
      have okX := y.mod.ok hok
      obtain ⟨z, hz⟩ : ∃ z, X.next = z := ⟨_, rfl⟩
      have hzb : X.base ≤ z := hz ▸ okX
      have lc1 := y.lt
      have kc1 := y.c1
      have hbX : b ≤ X.next := by omega
      simp (maxDischargeDepth := 6) only [g1, g4, g6, gB, gC, hc, ruW, putL, Nat.reduceLeDiff, xF, ruU, entryE, Nat.reduceLT, Nat.reduceAdd, Nat.reduceMul, Nat.reduceEqDiff]
      refine w_drawB [(4, 3), (5, 1), (5, 3), (5, 4), (6, 3), (6, 4), (6, 5), (7, 1), (7, 3), (7, 4), (7, 5)] [] (by kernel_rfl) (by kernel_rfl) rfl fun ops anc hA hG => ?_
      simp only [all2_cons] at hA
      simp (maxDischargeDepth := 6) only [g1, g4, g6, gB, gC, lc1, kc1, y.scv, y.onev, hA, ruD, ruW, putL, Nat.reduceLeDiff, xF, ruU, entryE, Nat.reduceLT, Nat.reduceAdd, Nat.reduceMul, Nat.reduceEqDiff]
      refine genV_ext (H := ext X []) (v := .slice (some ⟨z + 0, 0, some 0⟩) w w) (M := [⟨55, false, csOf (List.replicate w Ce.blank)⟩]) [] (by simp (maxDischargeDepth := 6) only [ruU, entryE, Nat.reduceLT, Nat.reduceAdd, Nat.reduceMul, Nat.reduceEqDiff]) (by kernel_rfl) (by decide) (fun _ h => by cases h) (fun G hn _ => ?_) (by simp (maxDischargeDepth := 6) only [ruD, ruW, putL, Nat.reduceLeDiff, xF, ruU, entryE, Nat.reduceLT, Nat.reduceAdd, Nat.reduceMul, Nat.reduceEqDiff]) ?_
      · simp only [g1, ruU, entryE, Nat.reduceLT, Nat.reduceAdd, Nat.reduceMul, Nat.reduceEqDiff]
        have := blank_c w w1 w2 G
        rw [hn, ext_nil, hz] at this
        exact this
      simp (maxDischargeDepth := 6) only [g1, g4, g6, gB, gC, hz, hzb, hA, List.length_cons, List.length_nil, ruD, ruW, putL, Nat.reduceLeDiff, xF, ruU, entryE, Nat.reduceLT, Nat.reduceAdd, Nat.reduceMul, Nat.reduceEqDiff]
      rw [wd_app (by simp only [ruU, entryE, Nat.reduceLT, Nat.reduceAdd, Nat.reduceMul, Nat.reduceEqDiff])]
      generalize hY : ext X _ = Y
      have mY : Mod [] X Y := hY ▸ Mod.ext okX
      have okY := mY.ok okX
      have hYn : Y.next = z + 2 := by rw [← hY, ext_next, hz]; rfl
      have hY0 : bk Y (z + 0) = some ⟨55, false, csOf (List.replicate w Ce.blank)⟩ := by rw [← hY, bk_at hz (by simp)]; rfl
      have hY1 : bk Y (z + 1) = some ⟨56, false, [.slice (some ⟨z + 0, 0, some 0⟩) w w]⟩ := by rw [← hY, bk_at hz (by simp)]; rfl
      have apY : RowsAp Y v rvs := y.ap.of mY.next fun n hn => mY.get n (y.ap.ne n hn).2 (by simp)
      have hF : ∀ k ∈ (z + 1) :: idsV v, Y.get k ≠ none ∧ k < Y.next := fun k hk => by
        rcases List.mem_cons.1 hk with rfl | hk
        · exact ⟨bk_ne hY1, by omega⟩
        · exact apY.ne k hk
      have hrn := restrict_next Y ((z + 1) :: idsV v)
      have scr : scbL Y.next (rvs ++ [.slice (some ⟨z + 0, 0, some 0⟩) w w]) = true := scbL_append (scbL_iff.2 fun q hq => scb_mono (by have := mY.next; omega) q (scbL_iff.1 y.sc q hq)) (by simp only [scbL, scb, Bool.and_true]; exact blt_of (by omega))
      obtain ⟨v', g, hap, honev, hav, hmd, hge⟩ := rows_app (H := Y.restrict ((z + 1) :: idsV v)) (v := v) (rvs := rvs) (rv := .slice (some ⟨z + 0, 0, some 0⟩) w w) (k := z + 1) (s := some 0)
        (apY.of (by rw [hrn.1]; exact Nat.le_refl _) fun k hk => by rw [restrict_get, if_pos (by simp [hk])]) ((bk_get (by rw [restrict_get, if_pos (by simp)])).trans hY1) y.one rfl (by rw [hrn.1]; exact scr) (by rw [y.len]; omega)
      refine genV_modO (W := idsV v) ((z + 1) :: idsV v) okY (fun k hk => (hF k hk).1) (fun k hk => (hF k hk).2) (fun k hk => by simp [hk]) (app_op (v := v') (G := g) (by simp only [ruU, entryE, Nat.reduceLT, Nat.reduceAdd, Nat.reduceMul, Nat.reduceEqDiff]) (by simp only [ruU, entryE, Nat.reduceLT, Nat.reduceAdd, Nat.reduceMul, Nat.reduceEqDiff]; exact hap)) (hmd (by rw [hrn.1, hrn.2.1]; exact Nat.le_refl _)) (by simp only [all2_cons, all2_nil, hA, true_or, and_true]) ?_
      intro H1 D mH1 hF1 hN1 hx1 _
      have hge' : ∀ k ∈ idsV v', Y.next ≤ k := fun k hk => by have := hge k hk; rwa [hrn.1] at this
      have n1v : b + 1 ∉ idsV v := fun h => by have := y.idv _ h; omega
      have n0v : b + 0 ∉ idsV v := fun h => by have := y.idv _ h; omega
      have l1Y : b + 1 < Y.next := by omega
      have k1 : bk H1 (b + 1) = some ⟨24, false, [v, .int .i64 (-1), .int .i64 0]⟩ := (mH1.bk l1Y n1v).trans ((mY.bk lc1 (by simp)).trans kc1)
      have k0 : bk H1 (b + 0) = some ⟨24, false, [.slice none 0 0, .int .i64 0, .int .i64 0]⟩ := (mH1.bk (by omega) n0v).trans ((mY.bk (by omega) (by simp)).trans y.c0)
      have l1 : b + 1 < H1.next := mH1.lt l1Y
      have av1 : RowsAp H1 v' (rvs ++ [.slice (some ⟨z + 0, 0, some 0⟩) w w]) := hav.of (Nat.le_of_eq hx1.symm) fun k hk => hN1 k (hge' k hk) (hav.ne k hk).2
      have scv' : scb H1.next v' = true := by
        rcases av1 with ⟨h, _⟩ | ⟨q, _, hq, rfl, _⟩
        · simp at h
        · exact blt_of hq
      obtain ⟨q, hql, hqv⟩ : ∃ q, q < H1.next ∧ v' = .slice (some ⟨q, 0, none⟩) (rvs ++ [Value.slice (some ⟨z + 0, 0, some 0⟩) w w]).length (rvs ++ [Value.slice (some ⟨z + 0, 0, some 0⟩) w w]).length := by
        rcases av1 with ⟨h, _⟩ | ⟨q, _, hq, h, _⟩
        · simp at h
        · exact ⟨q, hq, h⟩
      generalize (rvs ++ [Value.slice (some ⟨z + 0, 0, some 0⟩) w w]).length = nn at hqv
      subst hqv
      rw [show H1 = ext H1 [] from rfl]
      simp (maxDischargeDepth := 6) only [g1, g4, g6, gB, gC, l1, k1, hql, hA, implies_true, wrap_succ (show m < 1000000 by omega), ruD, ruW, putL, Nat.reduceLeDiff, xF, ruU, entryE, Nat.reduceLT, Nat.reduceAdd, Nat.reduceMul, Nat.reduceEqDiff]
      generalize hU : uw H1 (b + 1) 0 [.slice (some ⟨q, 0, none⟩) nn nn] = U
      have mU : Mod [b + 1] H1 U := hU ▸ Mod.uw (by simp)
      have hU1 : bk U (b + 1) = some ⟨24, false, [.slice (some ⟨q, 0, none⟩) nn nn, .int .i64 (-1), .int .i64 0]⟩ := by rw [← hU, bk_uw_eq, k1]; rfl
      have mT : Mod ((b + 1) :: idsV v) X U := ((mY.mono (by simp)).trans (mH1.mono (fun k hk => List.mem_cons_of_mem _ hk))).trans (mU.mono (by simp))
      have hUn : U.next = H1.next := by rw [← hU, uw_next]
      have hvne : ∀ k ∈ idsV (.slice (some ⟨q, 0, none⟩) nn nn), k ≠ b + 1 := fun k hk => by have := hge' k hk; omega
      rw [show ext U [] = U from rfl]
      refine loopC_next ⟨m + 1, by omega, .slice (some ⟨q, 0, none⟩) nn nn, _, ⟨y.mod.step mT hok (fun k hk => ?_), by omega, ?_, hU1, av1.of (by omega) (fun k hk => mU.get k (av1.ne k hk).2 (by simpa using hvne k hk)), by rw [List.length_append, y.len]; rfl, by rw [List.all_append, y.one]; rfl, honev, ?_, ?_, fun rv hrv => ?_, fun k hk => by have := hge' k hk; omega⟩, by omega, ?_, ?_, ?_, ?_, ?_⟩ <;> try simp only [g1, g4, g6, gB, gC, ruU, entryE, Nat.reduceLT, Nat.reduceAdd, Nat.reduceMul, Nat.reduceEqDiff]
      · rcases List.mem_cons.1 hk with rfl | hk
        · exact .inr (by omega)
        · have := y.idv k hk; exact .inr (by omega)
      · exact (mU.bk (by omega) (by simp)).trans k0
      · exact scbL_iff.2 fun q hq => scb_mono (by have := mH1.next; omega) q (scbL_iff.1 scr q hq)
      · rw [hUn]; exact scv'
      · rcases List.mem_append.1 hrv with hrv | hrv
        · obtain ⟨r1, r2⟩ := y.row rv hrv
          refine ⟨r1.of mT.next fun k hk => mT.get k ?_ ?_, fun k hk => ⟨(r2 k hk).1, fun h => ?_⟩⟩
          · exact (r1.ne (by intro h; have := congrArg List.length h; simp at this; omega) k hk).2
          · intro h
            rcases List.mem_cons.1 h with rfl | h
            · have := (r2 _ hk).1; omega
            · exact (r2 k hk).2 h
          · have := hge' k h
            have := (r1.ne (by intro h; have := congrArg List.length h; simp at this; omega) k hk).2
            omega
        · simp only [List.mem_singleton] at hrv
          subst hrv
          have hz0 : z + 0 ∉ idsV v := fun h => by have := (y.ap.ne _ h).2; omega
          have hlw : (List.replicate w Ce.blank).length = w := by simp
          refine ⟨.inr ⟨by intro h; have := congrArg List.length h; simp at this; omega, z + 0, 0, some 0, w, 55, false, csOf (List.replicate w Ce.blank), by rw [hlw], ?_, by rw [hUn]; have := mH1.next; omega, by rw [hlw, csOf_length, hlw]; omega, by rw [List.drop_zero, hlw, List.take_of_length_le (by rw [csOf_length, hlw]; omega)]⟩, fun k hk => ?_⟩
          · rw [mU.bk (by have := mH1.next; omega) (by simp; omega), mH1.bk (by omega) hz0, hY0]
          · simp only [idsV, List.mem_singleton] at hk
            subst hk
            refine ⟨by omega, fun h => ?_⟩
            have := hge' _ h; omega
  · clear g1 g4 g6 gB gC y0 m0
    rintro E X ⟨v, rvs, y, g4, g6⟩
    rw [show X = ext X [] from rfl]
    have l0 : b + 0 < X.next := by have := y.lt; omega
    have l1 := y.lt
    have k0 := y.c0
    have k1 := y.c1
    have ov := y.onev
    have sv := y.scv
    simp (maxDischargeDepth := 6) only [g4, g6, l0, l1, k0, k1, ov, sv, Tryd.results19, ruW, putL, Nat.reduceLeDiff, xF, ruU, entryE, Nat.reduceLT, Nat.reduceAdd, Nat.reduceMul, Nat.reduceEqDiff]
    generalize hU : uw X (b + 0) 0 _ = U
    have mU : Mod [b + 0] X U := hU ▸ Mod.uw (by simp)
    obtain ⟨q, hql, rfl⟩ : ∃ q, q < X.next ∧ v = .slice (some ⟨q, 0, none⟩) h h := by
      rcases y.ap with ⟨h0, _⟩ | ⟨q, _, hq, h0, _⟩
      · have := y.len
        rw [h0] at this
        simp at this
        omega
      · rw [y.len] at h0; exact ⟨q, hq, h0⟩
    refine ⟨q, rfl, mU.lt hql, ?_, y.mod.step mU hok (fun k hk => .inr (by simp only [List.mem_singleton] at hk; omega))⟩
    have hn0 : b + 0 ∉ idsV (Value.slice (some ⟨q, 0, none⟩) h h) := fun h => by have := y.idv _ h; omega
    refine grid_of (y.ap.of mU.next fun k hk => mU.get k (y.ap.ne k hk).2 (by simp only [List.mem_singleton]; rintro rfl; exact hn0 hk)) y.len fun rv hrv => ?_
    obtain ⟨r1, r2⟩ := y.row rv hrv
    refine r1.of mU.next fun k hk => mU.get k (r1.ne (by intro h; have := congrArg List.length h; simp at this; omega) k hk).2 ?_
    simp only [List.mem_singleton]
    have := (r2 k hk).1
    omega

set_option maxHeartbeats 2000000 in
theorem blank20_ok (h w : Nat) (h1 : 1 ≤ h) (h2 : h ≤ 200) (w1 : 1 ≤ w) (w2 : w ≤ 300) (H : AHeap) (hok : H.base ≤ H.next) : CallA Tryd.prog 20 [.int .i64 (h : Int), .int .i64 (w : Int)] H (BlankPost H h w) := by
  obtain ⟨b, hb⟩ : ∃ b, H.next = b := ⟨_, rfl⟩
  have hbase : H.base ≤ b := hb ▸ hok
  have c1 : decide ((h : Int) < 1) = false := decide_eq_false (by omega)
  have c2 : decide ((200 : Int) < (h : Int)) = false := decide_eq_false (by omega)
  have c3 : decide ((w : Int) < 1) = false := decide_eq_false (by omega)
  have c4 : decide ((1000 : Int) < (w : Int)) = false := decide_eq_false (by omega)
  refine callE_fn mixed Tryd.func20 rfl Tryd.ntmps20 (Nat.le_of_ble_eq_true rfl) ?_
  simp (maxDischargeDepth := 6) only [hb, hbase, c1, c2, c3, c4, ruW, putL, Nat.reduceLeDiff, xF, ruU, entryE, Nat.reduceLT, Nat.reduceAdd, Nat.reduceMul, Nat.reduceEqDiff]
  refine w_env fun E hE => ?_
  have g1 : E 1 = .int .i64 (w : Int) := by rw [hE]; simp only [ruU, entryE, Nat.reduceLT, Nat.reduceAdd, Nat.reduceMul, Nat.reduceEqDiff]
  have g4 : E 4 = .pointer (some ⟨b + 0, 0, none⟩) := by rw [hE]; simp only [ruU, entryE, Nat.reduceLT, Nat.reduceAdd, Nat.reduceMul, Nat.reduceEqDiff]
  have g6 : E 6 = .pointer (some ⟨b + 1, 0, none⟩) := by rw [hE]; simp only [ruU, entryE, Nat.reduceLT, Nat.reduceAdd, Nat.reduceMul, Nat.reduceEqDiff]
  have gB : E 0 = .int .i64 (h : Int) := by rw [hE]; simp only [ruU, entryE, Nat.reduceLT, Nat.reduceAdd, Nat.reduceMul, Nat.reduceEqDiff]
  have gC : E 7 = .int .i64 ((0 : Nat) : Int) := by rw [hE]; (simp only [ruU, entryE, Nat.reduceLT, Nat.reduceAdd, Nat.reduceMul, Nat.reduceEqDiff] <;> rfl)
  clear hE
  generalize hX0 : ext H (_ :: _) = X0
  have m0 : Mod [] H X0 := hX0 ▸ Mod.ext hok
  have y0 : Way H X0 b w 0 (.slice none 0 0) [] := by
    refine ⟨m0, by rw [← hX0, ext_next, hb]; simp, by rw [← hX0, bk_at hb (by simp)]; rfl, by rw [← hX0, bk_at hb (by simp)]; rfl, .inl ⟨rfl, rfl⟩, rfl, rfl, rfl, rfl, rfl, fun _ h => (by cases h), fun n hn => by simp [idsV] at hn⟩
  clear hX0
  refine blockC_meet (fun E' H' => ∃ v rvs, Way H H' b w h v rvs ∧ E' 4 = .pointer (some ⟨b + 0, 0, none⟩) ∧ E' 6 = .pointer (some ⟨b + 1, 0, none⟩)) ?_ ?_
  · refine w_loop (fun (m : Nat) E' H' => ∃ v rvs, Way H H' b w m v rvs ∧ m ≤ h ∧ E' 1 = .int .i64 (w : Int) ∧ E' 4 = .pointer (some ⟨b + 0, 0, none⟩) ∧ E' 6 = .pointer (some ⟨b + 1, 0, none⟩) ∧ E' 0 = .int .i64 (h : Int) ∧ E' 7 = .int .i64 (m : Int)) (fun m => h - m) 0 ⟨_, _, y0, Nat.zero_le _, g1, g4, g6, gB, gC⟩ ?_
    clear g1 g4 g6 gB gC y0 m0
    rintro m E X ⟨v, rvs, y, hm, g1, g4, g6, gB, gC⟩
    rw [show X = ext X [] from rfl]
    by_cases hme : m = h
    · have hc : decide ((m : Int) < (h : Int)) = false := by simp [hme]
      simp (maxDischargeDepth := 6) only [g1, g4, g6, gB, gC, hc, ruW, putL, Nat.reduceLeDiff, xF, ruU, entryE, Nat.reduceLT, Nat.reduceAdd, Nat.reduceMul, Nat.reduceEqDiff]
      refine joinR_normal ⟨v, rvs, hme ▸ y, ?_, ?_⟩ <;> simp only [g4, g6, ruU, entryE, Nat.reduceLT, Nat.reduceAdd, Nat.reduceMul, Nat.reduceEqDiff]
    · have hc : decide ((m : Int) < (h : Int)) = true := decide_eq_true (by omega)
      have okX := y.mod.ok hok
      obtain ⟨z, hz⟩ : ∃ z, X.next = z := ⟨_, rfl⟩
      have hzb : X.base ≤ z := hz ▸ okX
      have lc1 := y.lt
      have kc1 := y.c1
      have hbX : b ≤ X.next := by omega
      simp (maxDischargeDepth := 6) only [g1, g4, g6, gB, gC, hc, ruW, putL, Nat.reduceLeDiff, xF, ruU, entryE, Nat.reduceLT, Nat.reduceAdd, Nat.reduceMul, Nat.reduceEqDiff]
      refine w_drawB [(4, 3), (5, 1), (5, 3), (5, 4), (6, 3), (6, 4), (6, 5), (7, 1), (7, 3), (7, 4), (7, 5)] [] (by kernel_rfl) (by kernel_rfl) rfl fun ops anc hA hG => ?_
      simp only [all2_cons] at hA
      simp (maxDischargeDepth := 6) only [g1, g4, g6, gB, gC, lc1, kc1, y.scv, y.onev, hA, ruD, ruW, putL, Nat.reduceLeDiff, xF, ruU, entryE, Nat.reduceLT, Nat.reduceAdd, Nat.reduceMul, Nat.reduceEqDiff]
      refine genV_ext (H := ext X []) (v := .slice (some ⟨z + 0, 0, none⟩) w w) (M := [⟨55, true, csOf (List.replicate w Ce.blank)⟩]) [] (by simp (maxDischargeDepth := 6) only [ruU, entryE, Nat.reduceLT, Nat.reduceAdd, Nat.reduceMul, Nat.reduceEqDiff]) (by kernel_rfl) (by decide) (fun _ h => by cases h) (fun G hn _ => ?_) (by simp (maxDischargeDepth := 6) only [ruD, ruW, putL, Nat.reduceLeDiff, xF, ruU, entryE, Nat.reduceLT, Nat.reduceAdd, Nat.reduceMul, Nat.reduceEqDiff]) ?_
      · simp only [g1, ruU, entryE, Nat.reduceLT, Nat.reduceAdd, Nat.reduceMul, Nat.reduceEqDiff]
        have := blanks_c w w1 w2 G
        rw [hn, ext_nil, hz] at this
        exact this
      simp (maxDischargeDepth := 6) only [g1, g4, g6, gB, gC, hz, hzb, hA, List.length_cons, List.length_nil, ruD, ruW, putL, Nat.reduceLeDiff, xF, ruU, entryE, Nat.reduceLT, Nat.reduceAdd, Nat.reduceMul, Nat.reduceEqDiff]
      rw [wd_app (by simp only [ruU, entryE, Nat.reduceLT, Nat.reduceAdd, Nat.reduceMul, Nat.reduceEqDiff])]
      generalize hY : ext X _ = Y
      have mY : Mod [] X Y := hY ▸ Mod.ext okX
      have okY := mY.ok okX
      have hYn : Y.next = z + 2 := by rw [← hY, ext_next, hz]; rfl
      have hY0 : bk Y (z + 0) = some ⟨55, true, csOf (List.replicate w Ce.blank)⟩ := by rw [← hY, bk_at hz (by simp)]; rfl
      have hY1 : bk Y (z + 1) = some ⟨56, false, [.slice (some ⟨z + 0, 0, none⟩) w w]⟩ := by rw [← hY, bk_at hz (by simp)]; rfl
      have apY : RowsAp Y v rvs := y.ap.of mY.next fun n hn => mY.get n (y.ap.ne n hn).2 (by simp)
      have hF : ∀ k ∈ (z + 1) :: idsV v, Y.get k ≠ none ∧ k < Y.next := fun k hk => by
        rcases List.mem_cons.1 hk with rfl | hk
        · exact ⟨bk_ne hY1, by omega⟩
        · exact apY.ne k hk
      have hrn := restrict_next Y ((z + 1) :: idsV v)
      have scr : scbL Y.next (rvs ++ [.slice (some ⟨z + 0, 0, none⟩) w w]) = true := scbL_append (scbL_iff.2 fun q hq => scb_mono (by have := mY.next; omega) q (scbL_iff.1 y.sc q hq)) (by simp only [scbL, scb, Bool.and_true]; exact blt_of (by omega))
      obtain ⟨v', g, hap, honev, hav, hmd, hge⟩ := rows_app (H := Y.restrict ((z + 1) :: idsV v)) (v := v) (rvs := rvs) (rv := .slice (some ⟨z + 0, 0, none⟩) w w) (k := z + 1) (s := some 0)
        (apY.of (by rw [hrn.1]; exact Nat.le_refl _) fun k hk => by rw [restrict_get, if_pos (by simp [hk])]) ((bk_get (by rw [restrict_get, if_pos (by simp)])).trans hY1) y.one rfl (by rw [hrn.1]; exact scr) (by rw [y.len]; omega)
      refine genV_modO (W := idsV v) ((z + 1) :: idsV v) okY (fun k hk => (hF k hk).1) (fun k hk => (hF k hk).2) (fun k hk => by simp [hk]) (app_op (v := v') (G := g) (by simp only [ruU, entryE, Nat.reduceLT, Nat.reduceAdd, Nat.reduceMul, Nat.reduceEqDiff]) (by simp only [ruU, entryE, Nat.reduceLT, Nat.reduceAdd, Nat.reduceMul, Nat.reduceEqDiff]; exact hap)) (hmd (by rw [hrn.1, hrn.2.1]; exact Nat.le_refl _)) (by simp only [all2_cons, all2_nil, hA, true_or, and_true]) ?_
      intro H1 D mH1 hF1 hN1 hx1 _
      have hge' : ∀ k ∈ idsV v', Y.next ≤ k := fun k hk => by have := hge k hk; rwa [hrn.1] at this
      have n1v : b + 1 ∉ idsV v := fun h => by have := y.idv _ h; omega
      have n0v : b + 0 ∉ idsV v := fun h => by have := y.idv _ h; omega
      have l1Y : b + 1 < Y.next := by omega
      have k1 : bk H1 (b + 1) = some ⟨24, false, [v, .int .i64 (-1), .int .i64 0]⟩ := (mH1.bk l1Y n1v).trans ((mY.bk lc1 (by simp)).trans kc1)
      have k0 : bk H1 (b + 0) = some ⟨24, false, [.slice none 0 0, .int .i64 0, .int .i64 0]⟩ := (mH1.bk (by omega) n0v).trans ((mY.bk (by omega) (by simp)).trans y.c0)
      have l1 : b + 1 < H1.next := mH1.lt l1Y
      have av1 : RowsAp H1 v' (rvs ++ [.slice (some ⟨z + 0, 0, none⟩) w w]) := hav.of (Nat.le_of_eq hx1.symm) fun k hk => hN1 k (hge' k hk) (hav.ne k hk).2
      have scv' : scb H1.next v' = true := by
        rcases av1 with ⟨h, _⟩ | ⟨q, _, hq, rfl, _⟩
        · simp at h
        · exact blt_of hq
      obtain ⟨q, hql, hqv⟩ : ∃ q, q < H1.next ∧ v' = .slice (some ⟨q, 0, none⟩) (rvs ++ [Value.slice (some ⟨z + 0, 0, none⟩) w w]).length (rvs ++ [Value.slice (some ⟨z + 0, 0, none⟩) w w]).length := by
        rcases av1 with ⟨h, _⟩ | ⟨q, _, hq, h, _⟩
        · simp at h
        · exact ⟨q, hq, h⟩
      generalize (rvs ++ [Value.slice (some ⟨z + 0, 0, none⟩) w w]).length = nn at hqv
      subst hqv
      rw [show H1 = ext H1 [] from rfl]
      simp (maxDischargeDepth := 6) only [g1, g4, g6, gB, gC, l1, k1, hql, hA, implies_true, wrap_succ (show m < 1000000 by omega), ruD, ruW, putL, Nat.reduceLeDiff, xF, ruU, entryE, Nat.reduceLT, Nat.reduceAdd, Nat.reduceMul, Nat.reduceEqDiff]
      generalize hU : uw H1 (b + 1) 0 [.slice (some ⟨q, 0, none⟩) nn nn] = U
      have mU : Mod [b + 1] H1 U := hU ▸ Mod.uw (by simp)
      have hU1 : bk U (b + 1) = some ⟨24, false, [.slice (some ⟨q, 0, none⟩) nn nn, .int .i64 (-1), .int .i64 0]⟩ := by rw [← hU, bk_uw_eq, k1]; rfl
      have mT : Mod ((b + 1) :: idsV v) X U := ((mY.mono (by simp)).trans (mH1.mono (fun k hk => List.mem_cons_of_mem _ hk))).trans (mU.mono (by simp))
      have hUn : U.next = H1.next := by rw [← hU, uw_next]
      have hvne : ∀ k ∈ idsV (.slice (some ⟨q, 0, none⟩) nn nn), k ≠ b + 1 := fun k hk => by have := hge' k hk; omega
      rw [show ext U [] = U from rfl]
      refine loopC_next ⟨m + 1, by omega, .slice (some ⟨q, 0, none⟩) nn nn, _, ⟨y.mod.step mT hok (fun k hk => ?_), by omega, ?_, hU1, av1.of (by omega) (fun k hk => mU.get k (av1.ne k hk).2 (by simpa using hvne k hk)), by rw [List.length_append, y.len]; rfl, by rw [List.all_append, y.one]; rfl, honev, ?_, ?_, fun rv hrv => ?_, fun k hk => by have := hge' k hk; omega⟩, by omega, ?_, ?_, ?_, ?_, ?_⟩ <;> try simp only [g1, g4, g6, gB, gC, ruU, entryE, Nat.reduceLT, Nat.reduceAdd, Nat.reduceMul, Nat.reduceEqDiff]
      · rcases List.mem_cons.1 hk with rfl | hk
        · exact .inr (by omega)
        · have := y.idv k hk; exact .inr (by omega)
      · exact (mU.bk (by omega) (by simp)).trans k0
      · exact scbL_iff.2 fun q hq => scb_mono (by have := mH1.next; omega) q (scbL_iff.1 scr q hq)
      · rw [hUn]; exact scv'
      · rcases List.mem_append.1 hrv with hrv | hrv
        · obtain ⟨r1, r2⟩ := y.row rv hrv
          refine ⟨r1.of mT.next fun k hk => mT.get k ?_ ?_, fun k hk => ⟨(r2 k hk).1, fun h => ?_⟩⟩
          · exact (r1.ne (by intro h; have := congrArg List.length h; simp at this; omega) k hk).2
          · intro h
            rcases List.mem_cons.1 h with rfl | h
            · have := (r2 _ hk).1; omega
            · exact (r2 k hk).2 h
          · have := hge' k h
            have := (r1.ne (by intro h; have := congrArg List.length h; simp at this; omega) k hk).2
            omega
        · simp only [List.mem_singleton] at hrv
          subst hrv
          have hz0 : z + 0 ∉ idsV v := fun h => by have := (y.ap.ne _ h).2; omega
          have hlw : (List.replicate w Ce.blank).length = w := by simp
          refine ⟨.inr ⟨by intro h; have := congrArg List.length h; simp at this; omega, z + 0, 0, none, w, 55, true, csOf (List.replicate w Ce.blank), by rw [hlw], ?_, by rw [hUn]; have := mH1.next; omega, by rw [hlw, csOf_length, hlw]; omega, by rw [List.drop_zero, hlw, List.take_of_length_le (by rw [csOf_length, hlw]; omega)]⟩, fun k hk => ?_⟩
          · rw [mU.bk (by have := mH1.next; omega) (by simp; omega), mH1.bk (by omega) hz0, hY0]
          · simp only [idsV, List.mem_singleton] at hk
            subst hk
            refine ⟨by omega, fun h => ?_⟩
            have := hge' _ h; omega
  · clear g1 g4 g6 gB gC y0 m0
    rintro E X ⟨v, rvs, y, g4, g6⟩
    rw [show X = ext X [] from rfl]
    have l0 : b + 0 < X.next := by have := y.lt; omega
    have l1 := y.lt
    have k0 := y.c0
    have k1 := y.c1
    have ov := y.onev
    have sv := y.scv
    simp (maxDischargeDepth := 6) only [g4, g6, l0, l1, k0, k1, ov, sv, Tryd.results20, ruW, putL, Nat.reduceLeDiff, xF, ruU, entryE, Nat.reduceLT, Nat.reduceAdd, Nat.reduceMul, Nat.reduceEqDiff]
    generalize hU : uw X (b + 0) 0 _ = U
    have mU : Mod [b + 0] X U := hU ▸ Mod.uw (by simp)
    obtain ⟨q, hql, rfl⟩ : ∃ q, q < X.next ∧ v = .slice (some ⟨q, 0, none⟩) h h := by
      rcases y.ap with ⟨h0, _⟩ | ⟨q, _, hq, h0, _⟩
      · have := y.len
        rw [h0] at this
        simp at this
        omega
      · rw [y.len] at h0; exact ⟨q, hq, h0⟩
    refine ⟨q, rfl, mU.lt hql, ?_, y.mod.step mU hok (fun k hk => .inr (by simp only [List.mem_singleton] at hk; omega))⟩
    have hn0 : b + 0 ∉ idsV (Value.slice (some ⟨q, 0, none⟩) h h) := fun h => by have := y.idv _ h; omega
    refine grid_of (y.ap.of mU.next fun k hk => mU.get k (y.ap.ne k hk).2 (by simp only [List.mem_singleton]; rintro rfl; exact hn0 hk)) y.len fun rv hrv => ?_
    obtain ⟨r1, r2⟩ := y.row rv hrv
    refine r1.of mU.next fun k hk => mU.get k (r1.ne (by intro h; have := congrArg List.length h; simp at this; omega) k hk).2 ?_
    simp only [List.mem_singleton]
    have := (r2 k hk).1
    omega

theorem blank19_no (h w : Int) (H : AHeap) (hno : blankOk h w = false) : CallS Tryd.prog 19 [.int .i64 h, .int .i64 w] H (.ok (.tuple #[.agg #[.slice none 0 0, .int .i64 0, .int .i64 0], .int .i64 3])) H := by
  obtain ⟨b, hb⟩ : ∃ b, H.next = b := ⟨_, rfl⟩
  refine callS_fn mixed Tryd.func19 rfl Tryd.ntmps19 (Nat.le_of_ble_eq_true rfl) fun wf hsc => ?_
  have hbase : H.base ≤ b := hb ▸ wf.base
  by_cases a1 : h < 1
  · simp (maxDischargeDepth := 6) only [hb, hbase, a1, decide_true, Tryd.results19, ruW, putL, Nat.reduceLeDiff, xF, ruU, entryE, Nat.reduceLT, Nat.reduceAdd, Nat.reduceMul, Nat.reduceEqDiff]
    exact Fin.pure rfl
  by_cases a2 : 200 < h
  · simp (maxDischargeDepth := 6) only [hb, hbase, a1, a2, decide_true, decide_false, Tryd.results19, ruW, putL, Nat.reduceLeDiff, xF, ruU, entryE, Nat.reduceLT, Nat.reduceAdd, Nat.reduceMul, Nat.reduceEqDiff]
    exact Fin.pure rfl
  by_cases a3 : w < 1
  · simp (maxDischargeDepth := 6) only [hb, hbase, a1, a2, a3, decide_true, decide_false, Tryd.results19, ruW, putL, Nat.reduceLeDiff, xF, ruU, entryE, Nat.reduceLT, Nat.reduceAdd, Nat.reduceMul, Nat.reduceEqDiff]
    exact Fin.pure rfl
  by_cases a4 : 1000 < w
  · simp (maxDischargeDepth := 6) only [hb, hbase, a1, a2, a3, a4, decide_true, decide_false, Tryd.results19, ruW, putL, Nat.reduceLeDiff, xF, ruU, entryE, Nat.reduceLT, Nat.reduceAdd, Nat.reduceMul, Nat.reduceEqDiff]
    exact Fin.pure rfl
  exfalso
  unfold blankOk at hno
  simp only [Bool.and_eq_false_iff, decide_eq_false_iff_not] at hno
  omega

theorem blank20_no (h w : Int) (H : AHeap) (hno : blankOk h w = false) : CallS Tryd.prog 20 [.int .i64 h, .int .i64 w] H (.ok (.tuple #[.agg #[.slice none 0 0, .int .i64 0, .int .i64 0], .int .i64 3])) H := by
  obtain ⟨b, hb⟩ : ∃ b, H.next = b := ⟨_, rfl⟩
  refine callS_fn mixed Tryd.func20 rfl Tryd.ntmps20 (Nat.le_of_ble_eq_true rfl) fun wf hsc => ?_
  have hbase : H.base ≤ b := hb ▸ wf.base
  by_cases a1 : h < 1
  · simp (maxDischargeDepth := 6) only [hb, hbase, a1, decide_true, Tryd.results20, ruW, putL, Nat.reduceLeDiff, xF, ruU, entryE, Nat.reduceLT, Nat.reduceAdd, Nat.reduceMul, Nat.reduceEqDiff]
    exact Fin.pure rfl
  by_cases a2 : 200 < h
  · simp (maxDischargeDepth := 6) only [hb, hbase, a1, a2, decide_true, decide_false, Tryd.results20, ruW, putL, Nat.reduceLeDiff, xF, ruU, entryE, Nat.reduceLT, Nat.reduceAdd, Nat.reduceMul, Nat.reduceEqDiff]
    exact Fin.pure rfl
  by_cases a3 : w < 1
  · simp (maxDischargeDepth := 6) only [hb, hbase, a1, a2, a3, decide_true, decide_false, Tryd.results20, ruW, putL, Nat.reduceLeDiff, xF, ruU, entryE, Nat.reduceLT, Nat.reduceAdd, Nat.reduceMul, Nat.reduceEqDiff]
    exact Fin.pure rfl
  by_cases a4 : 1000 < w
  · simp (maxDischargeDepth := 6) only [hb, hbase, a1, a2, a3, a4, decide_true, decide_false, Tryd.results20, ruW, putL, Nat.reduceLeDiff, xF, ruU, entryE, Nat.reduceLT, Nat.reduceAdd, Nat.reduceMul, Nat.reduceEqDiff]
    exact Fin.pure rfl
  exfalso
  unfold blankOk at hno
  simp only [Bool.and_eq_false_iff, decide_eq_false_iff_not] at hno
  omega

end Go.Proofs.YtaojjfebkldmnaaDoor
