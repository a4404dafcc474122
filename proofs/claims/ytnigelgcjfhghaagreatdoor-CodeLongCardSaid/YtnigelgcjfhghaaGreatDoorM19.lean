/- Parts of the proof, one behind the other. -/
import Derived.Test.YtnigelgcjfhghaaGreatDoorM5
import Derived.Test.YtnigelgcjfhghaaGreatDoorM6
import Derived.Test.YtnigelgcjfhghaaGreatDoorM18
import Derived.Test.YtnigelgcjfhghaaGreatDoorM4
set_option linter.all false

/- The walk of CodeLong. -/
namespace Go.Proofs.YtnigelgcjfhghaaGreatDoor
open Go.Ax
set_option linter.unusedSimpArgs false
set_option maxRecDepth 100000

theorem zer_sc {N : Nat} {l : List Value} (h : scbL N l = true) : ∀ n, scbL N (zerosL l n) = true
  | 0 => rfl
  | n + 1 => scbL_append h (zer_sc h n)
theorem zer_len (l : List Value) : ∀ n, (zerosL l n).length = n * l.length
  | 0 => by simp [zerosL]
  | n + 1 => by rw [zerosL, List.length_append, zer_len l n, Nat.succ_mul]; omega
theorem mk_c {t e : TypeId} {by1 sz n b : Nat} {z : Value} {H : AHeap} {L : List Bl} (hb : H.next = b) (hu : Tryz.prog.underlying t = some (.slice e)) (hy : bytesOf Tryz.prog e = some by1) (hs : szOf Tryz.prog e = some sz) (hz : zeroOf Tryz.prog e = some z) (hl : z.cells.toList.length = sz) (hsm : small n by1 = true) (hsc : ∀ N, scbL N z.cells.toList = true) :
    aMakeSlice Tryz.prog (ext H L) t (.int .i64 (n : Int)) (.int .i64 (n : Int)) = some (.slice (some ⟨b + L.length, 0, some 0⟩) n n, ext H (L ++ [⟨e, false, zerosL z.cells.toList n⟩])) := by
  simp only [aMakeSlice, hu, hy, hs, hz, Option.bind_eq_bind, Option.bind_some, Int.toNat_natCast, hsm, hl]
  rw [if_pos (by simp), new_ext (zer_sc (hsc _) _), Option.bind_some, ext_next, hb]

def c0 : List Value := [.int .i64 0, .int .i64 0, .slice none 0 0]
def c3 : List Value := [.int .i64 0, .int .i64 3, .slice none 0 0]
def insL (n j : Nat) : List Value := (List.replicate j c3 ++ List.replicate (n - j) c0).flatten
theorem insL_zero (n : Nat) : zerosL c0 n = insL n 0 := by
  have h : ∀ n, zerosL c0 n = (List.replicate n c0).flatten := fun n => by
    induction n with
    | zero => rfl
    | succ n ih => rw [zerosL, ih, List.replicate_succ, List.flatten_cons]
  rw [h, insL]
  rfl
theorem rep_flat (l : List Value) (j : Nat) : (List.replicate j l).flatten.length = j * l.length := by
  induction j with
  | zero => simp
  | succ j ih => rw [List.replicate_succ, List.flatten_cons, List.length_append, ih, Nat.succ_mul]; omega
theorem insL_len {n j : Nat} (h : j ≤ n) : (insL n j).length = n * 3 := by
  rw [insL, List.flatten_append, List.length_append, rep_flat, rep_flat]
  show j * 3 + (n - j) * 3 = _
  omega
theorem putL_ap : ∀ (A L : List Value) (n : Nat) (v : List Value), putL (A ++ L) (A.length + n) v = A ++ putL L n v
  | [], L, n, v => by simp
  | x :: A, L, n, v => by
    rw [List.length_cons, show A.length + 1 + n = (A.length + n) + 1 by omega]
    show x :: putL (A ++ L) (A.length + n) v = _
    rw [putL_ap A L n v]
    rfl
theorem insL_put {n j : Nat} (h : j < n) : putL (insL n j) (j * 3 + 1) [.int .i64 3] = insL n (j + 1) := by
  have e : insL n j = (List.replicate j c3).flatten ++ (c0 ++ (List.replicate (n - j - 1) c0).flatten) := by
    rw [insL, List.flatten_append, show n - j = (n - j - 1) + 1 by omega, List.replicate_succ, List.flatten_cons]
    rfl
  have hl : (List.replicate j c3).flatten.length = j * 3 := rep_flat c3 j
  rw [e, ← hl, putL_ap]
  rw [insL, List.replicate_succ', List.flatten_append, List.flatten_append, List.append_assoc, show n - (j + 1) = n - j - 1 by omega]
  simp only [c0, c3, putL, List.flatten_cons, List.flatten_nil, List.append_nil, List.cons_append, List.nil_append]

def i3 : Iv := (⟨0, 3, []⟩, .slice none 0 0)
theorem insL_all (n : Nat) : insL n n = insC (List.replicate n i3) := by
  rw [insL, Nat.sub_self, List.replicate_zero, List.append_nil, insC, List.flatMap_replicate]
  rfl

theorem fl26 : flat Tryz.prog 10000 26 = some [24, 3] := by kernel_rfl
theorem ag26 : aggT Tryz.prog 26 = some true := by kernel_rfl
theorem gd26 : Tryz.prog.eqGuardType Tryz.prog.depth 26 = false := by kernel_rfl
theorem ff26 (e a : Int) : fits Tryz.prog [24, 3] [.int .i64 e, .int .i64 a] = true := by kernel_rfl
theorem eq26 (e a : Int) : eqOp .eql (eqL [.int .i64 e, .int .i64 a] [.int .i64 e, .int .i64 a]) = some (.bool true) := by
  simp [eqL, eqOp, eq1]

theorem rx_mem : ∀ (m : Nat), ∀ x ∈ repB [120] m, x = 120
  | 0, x, h => by simp [repB, Go.Lib.repeatL] at h
  | m + 1, x, h => by
    simp only [repB, Go.Lib.repeatL, List.cons_append, List.nil_append, List.mem_cons] at h
    rcases h with rfl | h
    · rfl
    · exact rx_mem m x h
theorem ib_none : ∀ (l : List UInt8), (10 : UInt8) ∉ l → Go.Lib.indexByte l 10 = -1
  | [], _ => rfl
  | c :: r, h => by
    have h1 : (c == 10) = false := by
      simp only [List.mem_cons, not_or] at h
      simpa using fun e => h.1 e.symm
    have h2 := ib_none r fun e => h (List.mem_cons_of_mem _ e)
    unfold Go.Lib.indexByte
    rw [h1, h2]
    rfl
theorem hs_none (l : List UInt8) (h : (10 : UInt8) ∉ l) : Go.Lib.hasSuffix l [10] = false := by
  cases hh : Go.Lib.hasSuffix l [10] with
  | false => rfl
  | true =>
    have : ([10] : List UInt8) <:+ l := List.isSuffixOf_iff_suffix.1 hh
    exact absurd (this.subset (by simp)) h

set_option maxHeartbeats 8000000 in
theorem law6_c (H : AHeap) (x y : Int) (hok : H.base ≤ H.next) : CallA Tryz.prog 6 [.int .i64 x, .int .i64 y] H (fun out X => out = .ok (.bool true) ∧ Mod [] H X) := by
  obtain ⟨b, hb⟩ : ∃ b, H.next = b := ⟨_, rfl⟩
  have hbase : H.base ≤ b := hb ▸ hok
  obtain ⟨r, r0, r1, hpick⟩ := pick_c x 5 (by omega) (by omega)
  obtain ⟨k, rfl⟩ : ∃ k : Nat, r = k := ⟨r.toNat, by omega⟩
  obtain ⟨n, hn⟩ : ∃ n, 60001 + k = n := ⟨_, rfl⟩
  have hw : IntKind.i64.wrap (60001 + (k : Int)) = (n : Int) := (wrap_sm (by omega) (by omega)).trans (by omega)
  have mk23 : ∀ (H : AHeap) (b : Nat) (L : List Bl), H.next = b → aMakeSlice Tryz.prog (ext H L) 23 (.int .i64 (n : Int)) (.int .i64 (n : Int)) = some (.slice (some ⟨b + L.length, 0, some 0⟩) n n, ext H (L ++ [⟨5, false, zerosL [.int .u8 0] n⟩])) := fun H b L hb => mk_c (by1 := 1) (sz := 1) (z := .int .u8 0) hb u23 (by kernel_rfl) s5 (by kernel_rfl) rfl (by simp only [small, Bool.and_eq_true, Nat.ble_eq]; omega) (fun _ => rfl)
  have mk42 : ∀ (H : AHeap) (b : Nat) (L : List Bl), H.next = b → aMakeSlice Tryz.prog (ext H L) 42 (.int .i64 (n : Int)) (.int .i64 (n : Int)) = some (.slice (some ⟨b + L.length, 0, some 0⟩) n n, ext H (L ++ [⟨59, false, zerosL c0 n⟩])) := fun H b L hb => mk_c (by1 := 40) (sz := 3) (z := .agg #[.int .i64 0, .int .i64 0, .slice none 0 0]) hb u42 (by kernel_rfl) s59 (by kernel_rfl) rfl (by simp only [small, Bool.and_eq_true, Nat.ble_eq]; omega) (fun _ => rfl)
  refine callE_fn mixed Tryz.func6 rfl Tryz.ntmps6 (Nat.le_of_ble_eq_true rfl) ?_
  simp (maxDischargeDepth := 6) only [ruW, putL, Nat.reduceLeDiff, xF, ruU, entryE, Nat.reduceLT, Nat.reduceAdd, Nat.reduceMul, Nat.reduceEqDiff]
  refine (hpick _).to ?_
  have m2 := mk42 H b [⟨5, false, zerosL [.int .u8 0] n⟩] hb
  simp only [List.length_singleton, List.cons_append, List.nil_append] at m2
  simp (maxDischargeDepth := 6) only [hw, hb, hbase, w_makeSlice, mk23 H b [] hb, m2, ruW, putL, Nat.reduceLeDiff, xF, ruU, entryE, Nat.reduceLT, Nat.reduceAdd, Nat.reduceMul, Nat.reduceEqDiff]
  refine w_env fun E hE => ?_
  have g5 : E 5 = .int .i64 (k : Int) := by rw [hE]; simp only [ruU, entryE, Nat.reduceLT, Nat.reduceAdd, Nat.reduceMul, Nat.reduceEqDiff]
  have g6 : E 6 = .slice (some ⟨b + 0, 0, some 0⟩) n n := by rw [hE]; simp only [ruU, entryE, Nat.reduceLT, Nat.reduceAdd, Nat.reduceMul, Nat.reduceEqDiff]
  have g7 : E 7 = .slice (some ⟨b + 1, 0, some 0⟩) n n := by rw [hE]; simp only [ruU, entryE, Nat.reduceLT, Nat.reduceAdd, Nat.reduceMul, Nat.reduceEqDiff]
  have g8 : E 8 = .int .i64 ((0 : Nat) : Int) := by rw [hE]; (simp only [ruU, entryE, Nat.reduceLT, Nat.reduceAdd, Nat.reduceMul, Nat.reduceEqDiff] <;> rfl)
  clear hE
  generalize hX : ext H _ = X
  have mX : Mod [] H X := hX ▸ Mod.ext hok
  have nX : X.next = b + 2 := by rw [← hX, ext_next, hb]; rfl
  have k0 : bk X (b + 0) = some ⟨5, false, zerosL [.int .u8 0] n⟩ := by rw [← hX, bk_at hb (by simp)]; rfl
  have k1 : bk X (b + 1) = some ⟨59, false, insL n 0⟩ := by rw [← hX, bk_at hb (by simp), ← insL_zero]; rfl
  clear hX m2
  refine blockC_meet (fun E' X => Mod [] H X ∧ X.next = b + 2 ∧ (∃ L, bk X (b + 0) = some ⟨5, false, L⟩ ∧ L.length = n) ∧ bk X (b + 1) = some ⟨59, false, insL n n⟩ ∧ E' 5 = .int .i64 (k : Int) ∧ E' 6 = .slice (some ⟨b + 0, 0, some 0⟩) n n ∧ E' 7 = .slice (some ⟨b + 1, 0, some 0⟩) n n) ?_ ?_
  · refine w_loop (fun (j : Nat) E' X => Mod [] H X ∧ X.next = b + 2 ∧ (∃ L, bk X (b + 0) = some ⟨5, false, L⟩ ∧ L.length = n) ∧ bk X (b + 1) = some ⟨59, false, insL n j⟩ ∧ j ≤ n ∧ E' 5 = .int .i64 (k : Int) ∧ E' 6 = .slice (some ⟨b + 0, 0, some 0⟩) n n ∧ E' 7 = .slice (some ⟨b + 1, 0, some 0⟩) n n ∧ E' 8 = .int .i64 (j : Int)) (fun j => n - j) 0 ⟨mX, nX, ⟨_, k0, by rw [zer_len]; simp⟩, k1, Nat.zero_le _, g5, g6, g7, g8⟩ ?_
    clear g5 g6 g7 g8 mX nX k0 k1 X E
    rintro j E X ⟨mX, nX, ⟨L, k0, hL⟩, k1, hj, g5, g6, g7, g8⟩
    rw [show X = ext X [] from rfl]
    by_cases hje : j = n
    · have hd : decide ((j : Int) < (n : Int)) = false := decide_eq_false (by omega)
      simp (maxDischargeDepth := 6) only [g5, g6, g7, g8, hd, ruW, putL, Nat.reduceLeDiff, xF, ruU, entryE, Nat.reduceLT, Nat.reduceAdd, Nat.reduceMul, Nat.reduceEqDiff]
      rw [hje] at k1
      refine joinR_normal ⟨mX, nX, ⟨L, k0, hL⟩, k1, ?_, ?_, ?_⟩ <;> simp only [g5, g6, g7, ruU, entryE, Nat.reduceLT, Nat.reduceAdd, Nat.reduceMul, Nat.reduceEqDiff]
    · have hjl : j < n := by omega
      have hd : decide ((j : Int) < (n : Int)) = true := decide_eq_true (by omega)
      have hwj : IntKind.i64.wrap ((j : Int) + 1) = ((j + 1 : Nat) : Int) := wrap_succ (by omega)
      have i0 := ia_of (P := Tryz.prog) (k := .i64) (i := j) (n := b + 0) (off := 0) (len := n) (cap := n) (s := some 0) u23 s5 hjl
      have i1 := ia_of (P := Tryz.prog) (k := .i64) (i := j) (n := b + 1) (off := 0) (len := n) (cap := n) (s := some 0) u42 s59 hjl
      rw [Nat.zero_add] at i0 i1
      rw [Nat.mul_one] at i0
      have t0 : ∀ N, stB Tryz.prog 5 N j (.int .u8 3) (some ⟨5, false, L⟩) = some ⟨5, false, putL L j [.int .u8 3]⟩ := fun N => stB_ok (by kernel_rfl) (by simp [Value.cells]; omega) rfl rfl
      have t1 : ∀ N, stB Tryz.prog 3 N (j * 3 + 1) (.int .i64 3) (some ⟨59, false, insL n j⟩) = some ⟨59, false, putL (insL n j) (j * 3 + 1) [.int .i64 3]⟩ := fun N => stB_ok (by kernel_rfl) (by simp only [Value.cells, insL_len hj]; simp; omega) rfl rfl
      have l0 : b + 0 < b + 2 := by omega
      have l1 : b + 1 < b + 2 := by omega
      have d01 : b + 1 ≠ b + 0 := by omega
      have kk : ∀ vs, bk (uw X (b + 0) j vs) (b + 1) = some ⟨59, false, insL n j⟩ := fun vs => by rw [bk_uw_ne d01, k1]
      simp (maxDischargeDepth := 6) only [g5, g6, g7, g8, hd, i0, i1, t0, t1, k0, kk, nX, uw_next, l0, l1, hwj, ruW, putL, Nat.reduceLeDiff, xF, ruU, entryE, Nat.reduceLT, Nat.reduceAdd, Nat.reduceMul, Nat.reduceEqDiff]
      have mU : ∀ vs ws, Mod [] H (uw (uw X (b + 0) j vs) (b + 1) (j * 3 + 1) ws) := fun vs ws => mX.step (W' := [b + 0, b + 1]) ((Mod.uw (by simp)).trans (Mod.uw (by simp))) hok fun n hn => by simp only [List.mem_cons, List.not_mem_nil, or_false] at hn; exact .inr (by omega)
      refine loopC_next ⟨j + 1, by omega, mU _ _, by rw [ext_nil, uw_next, uw_next, nX], ⟨putL L j [.int .u8 3], ?_, by rw [putL_length, hL]⟩, ?_, by omega, ?_, ?_, ?_, ?_⟩
      · rw [ext_nil, bk_uw_ne (by omega), bk_uw_eq, k0]; rfl
      · rw [ext_nil, bk_uw_eq, kk, ← insL_put hjl]; rfl
      all_goals simp only [g5, g6, g7, g8, hwj, ruU, entryE, Nat.reduceLT, Nat.reduceAdd, Nat.reduceMul, Nat.reduceEqDiff]
  · clear g5 g6 g7 g8 mX nX k0 k1 X E
    rintro E X ⟨mX, nX, ⟨L, k0, hL⟩, k1, g5, g6, g7⟩
    obtain ⟨p, hp⟩ : ∃ p, b + 2 = p := ⟨_, rfl⟩
    rw [hp] at nX
    have okX := mX.ok hok
    have xb : X.base ≤ p := nX ▸ okX
    rw [show X = ext X [] from rfl]
    simp (maxDischargeDepth := 6) only [g5, g6, g7, ruW, putL, Nat.reduceLeDiff, xF, ruU, entryE, Nat.reduceLT, Nat.reduceAdd, Nat.reduceMul, Nat.reduceEqDiff]
    refine (decodeLong_c (ext X []) (some ⟨b + 0, 0, some 0⟩) n n (by omega)).to ?_
    simp (maxDischargeDepth := 6) only [fltV, g5, g6, g7, nX, xb, ruW, putL, Nat.reduceLeDiff, xF, ruU, entryE, Nat.reduceLT, Nat.reduceAdd, Nat.reduceMul, Nat.reduceEqDiff]
    generalize hY : ext X _ = Y
    have mY : Mod [] X Y := hY ▸ Mod.ext okX
    have nY : Y.next = p + 1 := by rw [← hY, ext_next, nX]; rfl
    have y2 : bk Y (p + 0) = some ⟨26, false, [.int .i64 4, .int .i64 60000]⟩ := by
      have := bk_at (H := X) (L := [⟨26, false, [.int .i64 4, .int .i64 60000]⟩]) (i := 0) nX (by simp)
      rw [← hY]
      exact this
    have y1 := (mY.bk (by omega) (by simp)).trans k1
    have okY := mY.ok okX
    clear hY
    have hrep : ∀ x : Iv, x ∈ List.replicate n i3 → x = i3 := fun x hx => List.eq_of_mem_replicate hx
    have hri : InsRd Y (.slice (some ⟨b + 1, 0, some 0⟩) n n) (List.replicate n i3) := by
      refine ⟨⟨insC_len _, .inr ⟨by rw [List.length_replicate]; omega, b + 1, 0, some 0, n, 59, false, insL n n, by rw [List.length_replicate], rk_of y1, by omega, by rw [List.length_replicate, insL_len (Nat.le_refl _)]; omega, ?_⟩⟩, fun x hx => ?_, fun x hx => ?_⟩
      · rw [List.drop_zero, ← insL_all]
        exact List.take_of_length_le (by rw [insL_len (Nat.le_refl _), List.length_replicate]; exact Nat.le_refl _)
      · rw [hrep x hx]
        exact RdAt.nil
      · rw [hrep x hx]
        rfl
    have hmap : (List.replicate n i3).map (·.1) = List.replicate n i3.1 := List.map_replicate
    have hel : (encL (List.replicate n i3.1)).length = n := by
      have h : ∀ n, encL (List.replicate n i3.1) = List.replicate n 3 := fun n => by
        induction n with
        | zero => rfl
        | succ n ih => rw [List.replicate_succ, encL, List.flatMap_cons, ← encL, ih]; rfl
      rw [h, List.length_replicate]
    refine (encode_c Y _ (List.replicate n i3) hri okY (by rw [List.length_replicate]; omega) (fun x hx => by rw [hrep x hx]; simp [i3]) (by rw [hmap, hel]; omega)).mono ?_
    rintro out Z ⟨hout, mZ⟩
    rw [hmap] at hout
    have hbad : encBad 0 (List.replicate n i3.1) = none := encBad_at fun i x hx => by
      have : x = i3.1 := List.eq_of_mem_replicate (List.mem_of_getElem? hx)
      rw [this]
      rfl
    simp only [EncOut, hbad] at hout
    rw [if_pos (by rw [hel]; omega), List.length_replicate] at hout
    subst hout
    clear y1 hri hrep hmap hel hbad
    obtain ⟨z, hz⟩ : ∃ z, Z.next = z := ⟨_, rfl⟩
    have okZ := mZ.ok okY
    have zb : Z.base ≤ z := hz ▸ okZ
    have z2 := (mZ.bk (by omega) (by simp)).trans y2
    have lz2 : p + 0 < z := by have := mZ.next; omega
    have mm := (mX.trans mY).trans mZ
    clear mX mY mZ k0 k1 y2 nX nY xb okX okY
    rw [show Z = ext Z [] from rfl]
    have hw2 : IntKind.i64.wrap (1000001 + (k : Int)) = ((1000001 + k : Nat) : Int) := (wrap_sm (by omega) (by omega)).trans (by omega)
    simp (maxDischargeDepth := 6) only [fltV, g5, g6, g7, hz, zb, ruW, putL, Nat.reduceLeDiff, xF, ruU, entryE, Nat.reduceLT, Nat.reduceAdd, Nat.reduceMul, Nat.reduceEqDiff]
    refine (textLong_c (ext Z _) (some ⟨b + 0, 0, some 0⟩) n n (by omega)).to ?_
    simp (maxDischargeDepth := 6) only [fltV, g5, g6, g7, hz, zb, hw2, ruW, putL, Nat.reduceLeDiff, xF, ruU, entryE, Nat.reduceLT, Nat.reduceAdd, Nat.reduceMul, Nat.reduceEqDiff]
    have ht := times_c (ext Z [⟨26, false, [.int .i64 4, .int .i64 (n : Int)]⟩, ⟨26, false, [.int .i64 4, .int .i64 60000]⟩]) [120] (1000001 + k) (by simp only [List.length_singleton]; omega) (by omega)
    refine ht.to ?_
    clear ht
    simp (maxDischargeDepth := 6) only [fltV, g5, g6, g7, hz, zb, hw2, ruW, putL, Nat.reduceLeDiff, xF, ruU, entryE, Nat.reduceLT, Nat.reduceAdd, Nat.reduceMul, Nat.reduceEqDiff]
    have h10 : (10 : UInt8) ∉ repB [120] (1000001 + k) := fun h => by have := rx_mem _ _ h; revert this; decide
    have hrl : (repB [120] (1000001 + k)).length = 1000001 + k := by rw [rep_len]; simp
    refine (parseLong_c (ext Z _) (repB [120] (1000001 + k)) (by omega) (by omega) (ib_none _ h10) (hs_none _ h10)).to ?_
    have hw3 : IntKind.i64.wrap (65537 + (k : Int)) = ((65537 + k : Nat) : Int) := (wrap_sm (by omega) (by omega)).trans (by omega)
    have m31 := mk_c (t := 31) (e := 83) (by1 := 16) (sz := 2) (n := 65537 + k) (z := .agg #[.int .i64 0, .int .i64 0]) (L := [⟨26, false, [.int .i64 4, .int .i64 (n : Int)]⟩, ⟨26, false, [.int .i64 4, .int .i64 60000]⟩, ⟨26, false, [.int .i64 4, .int .i64 0]⟩]) hz (by kernel_rfl) (by kernel_rfl) (by kernel_rfl) (by kernel_rfl) rfl (by simp only [small, Bool.and_eq_true, Nat.ble_eq]; omega) (fun _ => rfl)
    simp only [List.length_cons, List.length_nil, List.cons_append, List.nil_append] at m31
    simp (maxDischargeDepth := 6) only [fltV, g5, g6, g7, hz, zb, hw3, w_makeSlice, m31, z2, lz2, qk_old, ruW, putL, Nat.reduceLeDiff, xF, ruU, entryE, Nat.reduceLT, Nat.reduceAdd, Nat.reduceMul, Nat.reduceEqDiff]
    refine w_eqS fl26 ag26 gd26 (eq26 4 60000) (by simp only [ruU, entryE, Nat.reduceLT, Nat.reduceAdd, Nat.reduceMul, Nat.reduceEqDiff]) (by simp only [ruU, entryE, Nat.reduceLT, Nat.reduceAdd, Nat.reduceMul, Nat.reduceEqDiff]) (by decide) (by simp only [ruU, entryE, Nat.reduceLT, Nat.reduceAdd, Nat.reduceMul, Nat.reduceEqDiff]) (by simp only [ruU, entryE, Nat.reduceLT, Nat.reduceAdd, Nat.reduceMul, Nat.reduceEqDiff]) (ff26 _ _) (ff26 _ _) ?_
    simp (maxDischargeDepth := 6) only [fltV, g5, g6, g7, hz, zb, z2, lz2, qk_old, ruW, putL, Nat.reduceLeDiff, xF, ruU, entryE, Nat.reduceLT, Nat.reduceAdd, Nat.reduceMul, Nat.reduceEqDiff]
    refine w_eqS fl26 ag26 gd26 (eq26 4 60000) (by simp only [ruU, entryE, Nat.reduceLT, Nat.reduceAdd, Nat.reduceMul, Nat.reduceEqDiff]) (by simp only [ruU, entryE, Nat.reduceLT, Nat.reduceAdd, Nat.reduceMul, Nat.reduceEqDiff]) (by decide) (by simp only [ruU, entryE, Nat.reduceLT, Nat.reduceAdd, Nat.reduceMul, Nat.reduceEqDiff]) (by simp only [ruU, entryE, Nat.reduceLT, Nat.reduceAdd, Nat.reduceMul, Nat.reduceEqDiff]) (ff26 _ _) (ff26 _ _) ?_
    simp (maxDischargeDepth := 6) only [fltV, g5, g6, g7, hz, zb, z2, lz2, qk_old, ruW, putL, Nat.reduceLeDiff, xF, ruU, entryE, Nat.reduceLT, Nat.reduceAdd, Nat.reduceMul, Nat.reduceEqDiff]
    refine w_eqS fl26 ag26 gd26 (eq26 4 n) (by simp only [ruU, entryE, Nat.reduceLT, Nat.reduceAdd, Nat.reduceMul, Nat.reduceEqDiff]) (by simp only [ruU, entryE, Nat.reduceLT, Nat.reduceAdd, Nat.reduceMul, Nat.reduceEqDiff]) (by decide) (by simp only [ruU, entryE, Nat.reduceLT, Nat.reduceAdd, Nat.reduceMul, Nat.reduceEqDiff]) (by simp only [g7, ruU, entryE, Nat.reduceLT, Nat.reduceAdd, Nat.reduceMul, Nat.reduceEqDiff]) (ff26 _ _) (ff26 _ _) ?_
    simp (maxDischargeDepth := 6) only [fltV, g5, g6, g7, hz, zb, z2, lz2, qk_old, ruW, putL, Nat.reduceLeDiff, xF, ruU, entryE, Nat.reduceLT, Nat.reduceAdd, Nat.reduceMul, Nat.reduceEqDiff]
    refine w_eqS fl26 ag26 gd26 (eq26 4 0) (by simp only [ruU, entryE, Nat.reduceLT, Nat.reduceAdd, Nat.reduceMul, Nat.reduceEqDiff]) (by simp only [ruU, entryE, Nat.reduceLT, Nat.reduceAdd, Nat.reduceMul, Nat.reduceEqDiff]) (by decide) (by simp only [ruU, entryE, Nat.reduceLT, Nat.reduceAdd, Nat.reduceMul, Nat.reduceEqDiff]) (by simp only [ruU, entryE, Nat.reduceLT, Nat.reduceAdd, Nat.reduceMul, Nat.reduceEqDiff]) (ff26 _ _) (ff26 _ _) ?_
    simp (maxDischargeDepth := 6) only [fltV, g5, g6, g7, hz, zb, z2, lz2, qk_old, ruW, putL, Nat.reduceLeDiff, xF, ruU, entryE, Nat.reduceLT, Nat.reduceAdd, Nat.reduceMul, Nat.reduceEqDiff]
    refine (checkLong_c (ext Z _) (some ⟨z + 3, 0, some 0⟩) (65537 + k) (65537 + k) (by omega)).to ?_
    simp (maxDischargeDepth := 6) only [fltV, g5, g6, g7, hz, zb, z2, lz2, qk_old, ruW, putL, Nat.reduceLeDiff, xF, ruU, entryE, Nat.reduceLT, Nat.reduceAdd, Nat.reduceMul, Nat.reduceEqDiff]
    refine w_eqS fl26 ag26 gd26 (eq26 3 0) (by simp only [ruU, entryE, Nat.reduceLT, Nat.reduceAdd, Nat.reduceMul, Nat.reduceEqDiff]) (by simp only [ruU, entryE, Nat.reduceLT, Nat.reduceAdd, Nat.reduceMul, Nat.reduceEqDiff]) (by decide) (by simp only [ruU, entryE, Nat.reduceLT, Nat.reduceAdd, Nat.reduceMul, Nat.reduceEqDiff]) (by simp only [ruU, entryE, Nat.reduceLT, Nat.reduceAdd, Nat.reduceMul, Nat.reduceEqDiff]) (ff26 _ _) (ff26 _ _) ?_
    simp (maxDischargeDepth := 6) only [fltV, g5, g6, g7, hz, zb, z2, lz2, qk_old, ruW, putL, Nat.reduceLeDiff, xF, ruU, entryE, Nat.reduceLT, Nat.reduceAdd, Nat.reduceMul, Nat.reduceEqDiff]
    refine (awake_c (ext Z _)).to ?_
    simp (maxDischargeDepth := 6) only [g5, g6, g7, Tryz.results6, ruW, putL, Nat.reduceLeDiff, xF, ruU, entryE, Nat.reduceLT, Nat.reduceAdd, Nat.reduceMul, Nat.reduceEqDiff]
    exact ⟨trivial, mm.trans (Mod.ext (by rw [hz]; exact zb))⟩
end Go.Proofs.YtnigelgcjfhghaaGreatDoor
