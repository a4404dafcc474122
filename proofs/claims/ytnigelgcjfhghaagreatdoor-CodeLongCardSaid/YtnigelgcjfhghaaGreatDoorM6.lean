/- Parts of the proof, one behind the other. -/
import Derived.Test.YtnigelgcjfhghaaGreatDoorM5
set_option linter.all false

/- The walk of encodable. -/
namespace Go.Proofs.YtnigelgcjfhghaaGreatDoor
open Go.Ax
set_option linter.unusedSimpArgs false
set_option maxRecDepth 100000

def encA (op : Int) (args : List Int) : Int :=
  if op < 0 ∨ 28 ≤ op then 5 else
  if args.length < (kindsR op.toNat []).length then 5 else
  if (op = 17 ∧ opndR (args.getD 0 0) = false) ∨ (op = 24 ∧ opndR (args.getD 1 0) = false) then 3 else
  if args.length ≠ (kindsR op.toNat args).length then 5 else
  if args.all opndR then 0 else 3

theorem ix114 {b op : Nat} {nm kv : Value} (h : op < 28) (h1 : (shV b)[2 * op]? = some nm) (h2 : (shV b)[2 * op + 1]? = some kv) : aIndex Tryz.prog 114 (.agg ⟨shV b⟩) (.int .i64 (op : Int)) = some (.agg ⟨[nm, kv]⟩) := by
  have hu : Tryz.prog.underlying 114 = some (.array 28 113) := by kernel_rfl
  have hs : szOf Tryz.prog 113 = some 2 := by kernel_rfl
  have ht : aggT Tryz.prog 113 = some true := by kernel_rfl
  have e : ((shV b).drop (2 * op)).take 2 = [nm, kv] := by
    apply List.ext_getElem?
    intro i
    rw [List.getElem?_take]
    split
    · rw [List.getElem?_drop]
      match i with
      | 0 => exact h1
      | 1 => exact h2
      | i + 2 => omega
    · rw [List.getElem?_eq_none (by simp; omega)]
  simp only [aIndex, hu, hs, Option.bind_eq_bind, Option.bind_some, aPart, ht, Int.toNat_natCast]
  rw [if_pos ⟨by omega, by omega⟩, Nat.mul_comm op 2, e]
theorem sc_agg3 {b : Nat} {i j : Int} {v : Value} (h : scb b (.agg ⟨[.int .i64 i, .int .i64 j, v]⟩) = true) : scb b v = true := by
  have : (true && (true && (scb b v && true))) = true := h
  simpa using this
theorem sh_len (b : Nat) : (shV b).length = 56 := by simp [shV]

theorem encodable_bad (H : AHeap) (pos op : Int) (a : Option Addr) (n c : Nat) (h : op < 0 ∨ 28 ≤ op) : Pure 58 [.agg ⟨[.int .i64 pos, .int .i64 op, .slice a n c]⟩] H (.int .i64 5) := by
  obtain ⟨b, hb⟩ : ∃ b, H.next = b := ⟨_, rfl⟩
  refine callS_fn mixed Tryz.func58 rfl Tryz.ntmps58 (Nat.le_of_ble_eq_true rfl) fun wf hsc => ?_
  have hbase : H.base ≤ b := hb ▸ wf.base
  rw [scbL_iff] at hsc
  have hsc0 := hsc _ (List.mem_singleton.2 rfl)
  rw [hb] at hsc0
  replace hsc0 : scb b (.slice a n c) = true := sc_agg3 hsc0
  by_cases h0 : op < 0
  · have hd : decide (op < 0) = true := decide_eq_true h0
    simp (maxDischargeDepth := 6) only [hb, hbase, hd, hsc0, Tryz.results58, ruW, putL, Nat.reduceLeDiff, xF, ruU, entryE, Nat.reduceLT, Nat.reduceAdd, Nat.reduceMul, Nat.reduceEqDiff]
    exact Fin.pureE rfl rfl
  · have hd : decide (op < 0) = false := decide_eq_false h0
    have hd2 : decide (28 ≤ op) = true := decide_eq_true (by omega)
    simp (maxDischargeDepth := 6) only [hb, hbase, hd, hd2, hsc0, Tryz.results58, ruW, putL, Nat.reduceLeDiff, xF, ruU, entryE, Nat.reduceLT, Nat.reduceAdd, Nat.reduceMul, Nat.reduceEqDiff]
    exact Fin.pureE rfl rfl

set_option maxHeartbeats 8000000 in
theorem encodable_ok (H : AHeap) (pos : Int) (op : Nat) (av : Value) (args : List Int) (hop : op < 28) (ha : RdAt H 1 av (iv args) args.length) (hlen : args.length ≤ 1000000) : Pure 58 [.agg ⟨[.int .i64 pos, .int .i64 (op : Int), av]⟩] H (.int .i64 (encA op args)) := by
  obtain ⟨b, hb⟩ : ∃ b, H.next = b := ⟨_, rfl⟩
  obtain ⟨a0, c0, e0⟩ := ha.sl
  refine callS_fn mixed Tryz.func58 rfl Tryz.ntmps58 (Nat.le_of_ble_eq_true rfl) fun wf hsc => ?_
  have hbase : H.base ≤ b := hb ▸ wf.base
  rw [scbL_iff] at hsc
  have hsc0 := hsc _ (List.mem_singleton.2 rfl)
  rw [hb] at hsc0
  have hd : decide ((op : Int) < 0) = false := decide_eq_false (by omega)
  have hd2 : decide (28 ≤ (op : Int)) = false := decide_eq_false (by omega)
  obtain ⟨f, ca, Fk, hkv, hkb, hkF, hkc⟩ := kinds_c (b + 1) op hop
  obtain ⟨nm, hnm⟩ : ∃ nm, (shV (b + 1))[2 * op]? = some nm := ⟨_, List.getElem?_eq_getElem (by rw [sh_len]; omega)⟩
  have hix := ix114 hop hnm hkv
  rw [e0] at hsc0
  replace hsc0 : scb b (.slice a0 args.length c0) = true := sc_agg3 hsc0
  rw [e0]
  simp (maxDischargeDepth := 6) only [hb, hbase, hd, hd2, hsc0, ruW, putL, Nat.reduceLeDiff, xF, ruU, entryE, Nat.reduceLT, Nat.reduceAdd, Nat.reduceMul, Nat.reduceEqDiff]
  refine w_drawB [(3, 0), (4, 0), (5, 0)] [] (by kernel_rfl) (by kernel_rfl) rfl fun ops anc hA hG => ?_
  simp only [all2_cons] at hA
  simp (maxDischargeDepth := 6) only [hb, hbase, hA, ruD, ruW, putL, Nat.reduceLeDiff, xF, ruU, entryE, Nat.reduceLT, Nat.reduceAdd, Nat.reduceMul, Nat.reduceEqDiff]
  refine genV_ext (v := .agg ⟨shV (b + 1)⟩) (M := shB (b + 1)) [] (by simp only [ruU, entryE, Nat.reduceLT, Nat.reduceAdd, Nat.reduceMul, Nat.reduceEqDiff]) (by kernel_rfl) (by decide) (by simp) (fun G hG _ => ?_) (by simp [Meets]) ?_
  · have := shapes_c G
    rw [hG, ext_next, hb] at this
    simp only [ruU, entryE, Nat.reduceLT, Nat.reduceAdd, Nat.reduceMul, Nat.reduceEqDiff]
    exact this
  generalize hX : ext (ext H _) _ = X
  have mX : Mod [] H X := by
    rw [← hX]
    exact (Mod.ext (by rw [hb]; exact hbase)).trans (Mod.ext (by rw [ext_base, ext_next, hb]; omega))
  have nX : X.next = b + 28 := by rw [← hX, ext_next, ext_next, hb]; rfl
  have kX : bk X (b + 0) = some ⟨59, false, [.int .i64 pos, .int .i64 (op : Int), .slice a0 args.length c0]⟩ := by
    rw [← hX, bk_old (by rw [ext_next, hb]; simp), bk_at hb (by simp)]
    rfl
  have sX : ShAt X (b + 1) := by
    have := ShAt.new (H := ext H [⟨59, false, [.int .i64 pos, .int .i64 (op : Int), .slice a0 args.length c0]⟩]) (L := [])
    rw [ext_nil, ext_next, hb] at this
    rw [← hX]
    exact this
  have haX := ha.mod0 mX
  clear hX
  rw [show X = ext X [] from rfl, ext_next, hb, List.length_singleton]
  have hbx : b + 0 < b + 28 := by omega
  have hmt : b + 0 < b + 1 := by omega
  simp (maxDischargeDepth := 6) only [nX, kX, hbx, hmt, hix, hA, qk_old, ruD, ruW, putL, Nat.reduceLeDiff, xF, ruU, entryE, Nat.reduceLT, Nat.reduceAdd, Nat.reduceMul, Nat.reduceEqDiff]
  have okX := mX.ok (by rw [hb]; exact hbase)
  have hka : ∀ (av : Value) (args : List Int), RdAt X 1 av (iv args) args.length → cntR op args ≤ 1000000 → Pure f (av :: ca) X (.string ⟨(kindsR op args).toArray⟩) := fun av args h1 h2 => hkc X av args (fun i b' h3 _ => sX i b' h3) h1 h2
  have hk0 : cntR op [] ≤ 1000000 := by unfold cntR; split <;> (try split) <;> simp
  refine w_callV (f := f) (ca := ca) (by simp only [ruU, entryE, Nat.reduceLT, Nat.reduceAdd, Nat.reduceMul, Nat.reduceEqDiff]) (by simp only [ruU, entryE, Nat.reduceLT, Nat.reduceAdd, Nat.reduceMul, Nat.reduceEqDiff]) (by simp only [ruU, entryE, Nat.reduceLT, Nat.reduceAdd, Nat.reduceMul, Nat.reduceEqDiff]) hkb ?_
  refine (hka _ [] RdAt.nil hk0).to ?_
  obtain ⟨k0, hk⟩ : ∃ k0, kindsR op [] = k0 := ⟨_, rfl⟩
  obtain ⟨d1, hd1⟩ : ∃ d1, decide ((args.length : Int) < (k0.length : Int)) = d1 := ⟨_, rfl⟩
  have e1 : ¬ ((op : Int) < 0 ∨ 28 ≤ (op : Int)) := by omega
  cases d1 with
  | true =>
    have h1 := of_decide_eq_true hd1
    simp (maxDischargeDepth := 6) only [hk, nX, kX, hbx, rb_lenStr u9, bt_lenStr u9, bytes_size, hd1, qk_old, Tryz.results58, ruW, putL, Nat.reduceLeDiff, xF, ruU, entryE, Nat.reduceLT, Nat.reduceAdd, Nat.reduceMul, Nat.reduceEqDiff]
    have : encA op args = 5 := by rw [encA, if_neg e1, Int.toNat_natCast, hk, if_pos (by omega)]
    rw [this]
    exact Ax.Fin.mod rfl mX rfl
  | false =>
    have h1 := of_decide_eq_false hd1
    simp (maxDischargeDepth := 6) only [hk, nX, kX, hbx, rb_lenStr u9, bt_lenStr u9, bytes_size, hd1, qk_old, ruW, putL, Nat.reduceLeDiff, xF, ruU, entryE, Nat.reduceLT, Nat.reduceAdd, Nat.reduceMul, Nat.reduceEqDiff]
    refine w_callV (f := f) (ca := ca) (by simp only [ruU, entryE, Nat.reduceLT, Nat.reduceAdd, Nat.reduceMul, Nat.reduceEqDiff]) (by simp only [ruU, entryE, Nat.reduceLT, Nat.reduceAdd, Nat.reduceMul, Nat.reduceEqDiff]) (by simp only [ruU, entryE, Nat.reduceLT, Nat.reduceAdd, Nat.reduceMul, Nat.reduceEqDiff]) hkb ?_
    refine (hka _ [] RdAt.nil hk0).to ?_
    simp (maxDischargeDepth := 6) only [hk, nX, kX, hbx, qk_old, ruW, putL, Nat.reduceLeDiff, xF, ruU, entryE, Nat.reduceLT, Nat.reduceAdd, Nat.reduceMul, Nat.reduceEqDiff]
    refine (indexByte_c (ext X []) ⟨k0.toArray⟩ 110 (by decide)).to ?_
    obtain ⟨i0, hi0⟩ : ∃ i0, Go.Lib.indexByte (⟨k0.toArray⟩ : ByteArray).data.toList (110 : Nat).toUInt8 = i0 := ⟨_, rfl⟩
    rw [hi0]
    have hi0' : Go.Lib.indexByte k0 110 = i0 := by rw [← hi0]; simp
    have hsp : (op = 17 ∧ i0 = 0 ∧ k0.length = 1) ∨ (op = 24 ∧ i0 = 1 ∧ k0.length = 2) ∨ (op ≠ 17 ∧ op ≠ 24) := by
      by_cases h17 : op = 17
      · subst h17
        have : k0 = [110] := hk.symm
        subst this
        exact .inl ⟨rfl, hi0'.symm, rfl⟩
      · by_cases h24 : op = 24
        · subst h24
          have : k0 = [107, 110] := hk.symm
          subst this
          exact .inr (.inl ⟨rfl, hi0'.symm, rfl⟩)
        · exact .inr (.inr ⟨h17, h24⟩)
    have hla : k0.length ≤ args.length := by omega
    obtain ⟨d2, hd2⟩ : ∃ d2, decide (0 ≤ i0) = d2 := ⟨_, rfl⟩
    obtain ⟨d3, hd3⟩ : ∃ d3, decide ((op : Int) = 17) = d3 := ⟨_, rfl⟩
    obtain ⟨d4, hd4⟩ : ∃ d4, decide ((op : Int) = 24) = d4 := ⟨_, rfl⟩
    have enc3 : ((op : Int) = 17 ∧ opndR (args.getD 0 0) = false) ∨ ((op : Int) = 24 ∧ opndR (args.getD 1 0) = false) → encA op args = 3 := fun h => by
      rw [encA, if_neg e1, Int.toNat_natCast, hk, if_neg (by omega), if_pos h]
    have hop : ∀ x, opndR x = true → x ≤ 65535 := fun x h => by simp only [opndR, Bool.and_eq_true, decide_eq_true_eq] at h; exact h.2
    have hnx : ¬ (((op : Int) = 17 ∧ opndR (args.getD 0 0) = false) ∨ ((op : Int) = 24 ∧ opndR (args.getD 1 0) = false)) → cntR op args ≤ 1000000 := fun h => by
      unfold cntR
      split
      · rename_i h17
        have : opndR (args.getD 0 0) = true := by
          cases hh : opndR (args.getD 0 0) with
          | true => rfl
          | false => exact absurd (.inl ⟨by omega, hh⟩) h
        have := hop _ this
        omega
      · split
        · rename_i h24
          have : opndR (args.getD 1 0) = true := by
            cases hh : opndR (args.getD 1 0) with
            | true => rfl
            | false => exact absurd (.inr ⟨by omega, hh⟩) h
          have := hop _ this
          omega
        · omega
    rcases hsp with ⟨h17, rfl, hl⟩ | ⟨h24, rfl, hl⟩ | ⟨h17, h24⟩
    ( have h0 : 0 < args.length := by omega
      obtain ⟨n, off, s, c, e, o, M, e2, n1, r1, m1⟩ := haX.one h0
      rw [e0] at e2
      cases e2
      rw [iv_get, List.getElem?_eq_getElem h0, Option.map_some] at m1
      have hg : args.getD 0 0 = args[0] := by rw [List.getD_eq_getElem?_getD, List.getElem?_eq_getElem h0]; rfl
      have i1 : aIndexAddr Tryz.prog 35 (.slice (some ⟨n, off, s⟩) args.length c0) (.int .i64 0) = some (.pointer (some ⟨n, off + 0, none⟩)) := ia_of (i := 0) u35 s3 h0
      have q2 : decide ((0 : Int) ≤ 0) = true := by decide
      have q3 : decide ((op : Int) = 17) = true := decide_eq_true (by omega)
      rw [nX] at n1
      simp (maxDischargeDepth := 6) only [nX, kX, hbx, q2, q3, i1, r1, n1, m1, qk_old, ruW, putL, Nat.reduceLeDiff, xF, ruU, entryE, Nat.reduceLT, Nat.reduceAdd, Nat.reduceMul, Nat.reduceEqDiff]
      refine (operand_c (ext X []) args[0]).to ?_
      obtain ⟨d5, hd5⟩ : ∃ d5, opndR args[0] = d5 := ⟨_, rfl⟩
      cases d5
      · simp (maxDischargeDepth := 6) only [hd5, Bool.not_false, Tryz.results58, ruW, putL, Nat.reduceLeDiff, xF, ruU, entryE, Nat.reduceLT, Nat.reduceAdd, Nat.reduceMul, Nat.reduceEqDiff]
        rw [enc3 (.inl ⟨by omega, by rw [hg, hd5]⟩)]
        exact Ax.Fin.mod rfl mX rfl
      have hbad : ¬ (((op : Int) = 17 ∧ opndR (args.getD 0 0) = false) ∨ ((op : Int) = 24 ∧ opndR (args.getD 1 0) = false)) := by
        rw [hg, hd5]
        rintro (⟨_, h⟩ | ⟨h, _⟩)
        · cases h
        · omega
      simp (maxDischargeDepth := 6) only [hd5, Bool.not_true, ruW, putL, Nat.reduceLeDiff, xF, ruU, entryE, Nat.reduceLT, Nat.reduceAdd, Nat.reduceMul, Nat.reduceEqDiff])
    rotate_left
    ( have h0 : 1 < args.length := by omega
      obtain ⟨n, off, s, c, e, o, M, e2, n1, r1, m1⟩ := haX.one h0
      rw [e0] at e2
      cases e2
      rw [iv_get, List.getElem?_eq_getElem h0, Option.map_some] at m1
      have hg : args.getD 1 0 = args[1] := by rw [List.getD_eq_getElem?_getD, List.getElem?_eq_getElem h0]; rfl
      have i1 : aIndexAddr Tryz.prog 35 (.slice (some ⟨n, off, s⟩) args.length c0) (.int .i64 1) = some (.pointer (some ⟨n, off + 1, none⟩)) := ia_of (i := 1) u35 s3 h0
      have q2 : decide ((0 : Int) ≤ 1) = true := by decide
      have q3 : decide ((op : Int) = 17) = false := decide_eq_false (by omega)
      have q4 : decide ((op : Int) = 24) = true := decide_eq_true (by omega)
      rw [nX] at n1
      simp (maxDischargeDepth := 6) only [nX, kX, hbx, q2, q3, q4, i1, r1, n1, m1, qk_old, ruW, putL, Nat.reduceLeDiff, xF, ruU, entryE, Nat.reduceLT, Nat.reduceAdd, Nat.reduceMul, Nat.reduceEqDiff]
      refine (operand_c (ext X []) args[1]).to ?_
      obtain ⟨d5, hd5⟩ : ∃ d5, opndR args[1] = d5 := ⟨_, rfl⟩
      cases d5
      · simp (maxDischargeDepth := 6) only [hd5, Bool.not_false, Tryz.results58, ruW, putL, Nat.reduceLeDiff, xF, ruU, entryE, Nat.reduceLT, Nat.reduceAdd, Nat.reduceMul, Nat.reduceEqDiff]
        rw [enc3 (.inr ⟨by omega, by rw [hg, hd5]⟩)]
        exact Ax.Fin.mod rfl mX rfl
      have hbad : ¬ (((op : Int) = 17 ∧ opndR (args.getD 0 0) = false) ∨ ((op : Int) = 24 ∧ opndR (args.getD 1 0) = false)) := by
        rw [hg, hd5]
        rintro (⟨h, _⟩ | ⟨_, h⟩)
        · omega
        · cases h
      simp (maxDischargeDepth := 6) only [hd5, Bool.not_true, ruW, putL, Nat.reduceLeDiff, xF, ruU, entryE, Nat.reduceLT, Nat.reduceAdd, Nat.reduceMul, Nat.reduceEqDiff])
    rotate_left
    ( have q3 : decide ((op : Int) = 17) = false := decide_eq_false (by omega)
      have q4 : decide ((op : Int) = 24) = false := decide_eq_false (by omega)
      have hbad : ¬ (((op : Int) = 17 ∧ opndR (args.getD 0 0) = false) ∨ ((op : Int) = 24 ∧ opndR (args.getD 1 0) = false)) := by omega
      cases d2 <;> simp (maxDischargeDepth := 6) only [nX, kX, hbx, hd2, q3, q4, qk_old, ruW, putL, Nat.reduceLeDiff, xF, ruU, entryE, Nat.reduceLT, Nat.reduceAdd, Nat.reduceMul, Nat.reduceEqDiff])
    all_goals
      have hcnt := hnx hbad
      refine w_env fun E hE => ?_
      have g1 : E 1 = .pointer (some ⟨b + 0, 0, none⟩) := by rw [hE]; simp only [ruU, entryE, Nat.reduceLT, Nat.reduceAdd, Nat.reduceMul, Nat.reduceEqDiff]
      have g3 : E 3 = .func (.func f) ⟨[]⟩ ⟨ca⟩ := by rw [hE]; simp only [ruU, entryE, Nat.reduceLT, Nat.reduceAdd, Nat.reduceMul, Nat.reduceEqDiff]
      clear hE
      have hFr : ∀ k ∈ rdF av args.length ++ Fk, (ext X []).get k ≠ none := fun k hk => by
        rcases List.mem_append.1 hk with hk | hk
        · exact (haX.ne k hk).1
        · have hkk := hkF k hk
          obtain ⟨j, rfl⟩ : ∃ j, k = b + 1 + j := ⟨k - (b + 1), by omega⟩
          exact bk_ne (sX j _ (List.getElem?_eq_getElem (by simp [shB]; omega))).1
      have hcall : ∀ G : AHeap, G.next = (ext X []).next → (∀ k ∈ rdF av args.length ++ Fk, G.get k = (ext X []).get k) → CallS Tryz.prog f (av :: ca) G (.ok (.string ⟨(kindsR op args).toArray⟩)) G := fun G hG hg =>
        hkc G av args (fun i' b' h1 h2 => by
          obtain ⟨h3, h4⟩ := sX i' b' h1
          exact ⟨(bk_get (hg _ (List.mem_append_right _ h2))).trans h3, by rw [hG]; exact h4⟩) (haX.of (Nat.le_of_eq hG.symm) fun k hk => hg k (List.mem_append_left _ hk)) hcnt
      rw [e0] at hcall hFr
      obtain ⟨ks, hks⟩ : ∃ ks, kindsR op args = ks := ⟨_, rfl⟩
      rw [hks] at hcall
      obtain ⟨d6, hd6⟩ : ∃ d6, decide (¬ (args.length : Int) = (ks.length : Int)) = d6 := ⟨_, rfl⟩
      refine w_drawB [] [] (by kernel_rfl) (by kernel_rfl) rfl fun ops anc hA hG => ?_
      simp (maxDischargeDepth := 6) only [g1, g3, nX, kX, hbx, ruD, ruW, putL, Nat.reduceLeDiff, xF, ruU, entryE, Nat.reduceLT, Nat.reduceAdd, Nat.reduceMul, Nat.reduceEqDiff]
      refine genV_quietV (v := .string ⟨ks.toArray⟩) (ca := ca) (rdF (.slice _ args.length _) args.length ++ Fk) (by simp only [ruU, entryE, Nat.reduceLT, Nat.reduceAdd, Nat.reduceMul, Nat.reduceEqDiff]) (by simp only [g3, ruU, entryE, Nat.reduceLT, Nat.reduceAdd, Nat.reduceMul, Nat.reduceEqDiff]) (by simp only [ruU, entryE, Nat.reduceLT, Nat.reduceAdd, Nat.reduceMul, Nat.reduceEqDiff]) hkb (by decide) hFr (fun G hG hg => by simp only [ruU, entryE, Nat.reduceLT, Nat.reduceAdd, Nat.reduceMul, Nat.reduceEqDiff]; exact hcall G hG hg) (by simp [Meets]) ?_
      simp (maxDischargeDepth := 6) only [g1, g3, nX, kX, hbx, rb_lenStr u9, bytes_size, hd6, ruD, ruW, putL, Nat.reduceLeDiff, xF, ruU, entryE, Nat.reduceLT, Nat.reduceAdd, Nat.reduceMul, Nat.reduceEqDiff]
      cases d6 with
      | true =>
        have h6 := of_decide_eq_true hd6
        simp (maxDischargeDepth := 6) only [g1, g3, Tryz.results58, ruW, putL, Nat.reduceLeDiff, xF, ruU, entryE, Nat.reduceLT, Nat.reduceAdd, Nat.reduceMul, Nat.reduceEqDiff]
        have : encA op args = 5 := by rw [encA, if_neg e1, Int.toNat_natCast, hk, if_neg (by omega), if_neg hbad, if_pos (by rw [hks]; omega)]
        rw [this]
        exact Ax.Fin.mod rfl mX rfl
      | false =>
        have h6 : args.length = ks.length := by have := of_decide_eq_false hd6; omega
        have henc : encA op args = if args.all opndR then 0 else 3 := by rw [encA, if_neg e1, Int.toNat_natCast, hk, if_neg (by omega), if_neg hbad, if_neg (by rw [hks]; omega)]
        simp (maxDischargeDepth := 6) only [g1, g3, nX, kX, hbx, qk_old, ruW, putL, Nat.reduceLeDiff, xF, ruU, entryE, Nat.reduceLT, Nat.reduceAdd, Nat.reduceMul, Nat.reduceEqDiff]
        refine w_env fun E2 hE => ?_
        have g63 : E2 63 = av := by rw [hE, e0]; simp only [ruU, entryE, Nat.reduceLT, Nat.reduceAdd, Nat.reduceMul, Nat.reduceEqDiff]
        have g64 : E2 64 = .int .i64 (args.length : Int) := by rw [hE]; simp only [ruU, entryE, Nat.reduceLT, Nat.reduceAdd, Nat.reduceMul, Nat.reduceEqDiff]
        have g65 : E2 65 = .int .i64 ((0 : Nat) : Int) := by rw [hE]; (simp only [ruU, entryE, Nat.reduceLT, Nat.reduceAdd, Nat.reduceMul, Nat.reduceEqDiff] <;> rfl)
        clear hE g1 g3 E
        refine w_loop (fun (j : Nat) E' H' => H' = ext X [] ∧ j ≤ args.length ∧ (∀ i, i < j → ∀ y, args[i]? = some y → opndR y = true) ∧ E' 63 = av ∧ E' 64 = .int .i64 (args.length : Int) ∧ E' 65 = .int .i64 (j : Int)) (fun j => args.length - j) 0 ⟨rfl, Nat.zero_le _, fun i hi => absurd hi (by omega), g63, g64, g65⟩ ?_
        clear g63 g64 g65 E2
        rintro j E H' ⟨hH, hj, hall, g63, g64, g65⟩
        rw [hH]
        by_cases hje : j = args.length
        · have hdj : decide ((j : Int) < (args.length : Int)) = false := decide_eq_false (by omega)
          simp (maxDischargeDepth := 6) only [g63, g64, g65, hdj, Tryz.results58, ruW, putL, Nat.reduceLeDiff, xF, ruU, entryE, Nat.reduceLT, Nat.reduceAdd, Nat.reduceMul, Nat.reduceEqDiff]
          have : encA op args = 0 := by
            rw [henc, if_pos]
            rw [List.all_eq_true]
            intro y hy
            obtain ⟨i, hi, he⟩ := List.mem_iff_getElem.1 hy
            exact hall i (by omega) y (by rw [List.getElem?_eq_getElem hi, he])
          rw [this]
          exact Ax.Fin.mod rfl mX rfl
        · have hjl : j < args.length := by omega
          have hdj : decide ((j : Int) < (args.length : Int)) = true := decide_eq_true (by omega)
          obtain ⟨n', off', s', c', e', o', M', e3, n3, r3, m3⟩ := haX.one hjl
          rw [e3] at g63
          rw [iv_get, List.getElem?_eq_getElem hjl, Option.map_some] at m3
          have i3 := ia_of (P := Tryz.prog) (k := .i64) (i := j) (n := n') (off := off') (len := args.length) (cap := c') (s := s') u35 s3 hjl
          rw [Nat.mul_one] at i3
          rw [nX] at n3
          have hw : IntKind.i64.wrap ((j : Int) + 1) = ((j + 1 : Nat) : Int) := wrap_succ (by omega)
          simp (maxDischargeDepth := 6) only [g63, g64, g65, nX, hdj, i3, n3, r3, m3, qk_old, ruW, putL, Nat.reduceLeDiff, xF, ruU, entryE, Nat.reduceLT, Nat.reduceAdd, Nat.reduceMul, Nat.reduceEqDiff]
          refine (operand_c (ext X []) args[j]).to ?_
          obtain ⟨d7, hd7⟩ : ∃ d7, opndR args[j] = d7 := ⟨_, rfl⟩
          cases d7
          · simp (maxDischargeDepth := 6) only [g63, g64, g65, hd7, Bool.not_false, Tryz.results58, ruW, putL, Nat.reduceLeDiff, xF, ruU, entryE, Nat.reduceLT, Nat.reduceAdd, Nat.reduceMul, Nat.reduceEqDiff]
            have : encA op args = 3 := by
              rw [henc, if_neg]
              intro h
              rw [List.all_eq_true] at h
              rw [h _ (List.getElem_mem hjl)] at hd7
              cases hd7
            rw [this]
            exact Ax.Fin.mod rfl mX rfl
          · simp (maxDischargeDepth := 6) only [g63, g64, g65, hd7, hw, Bool.not_true, ruW, putL, Nat.reduceLeDiff, xF, ruU, entryE, Nat.reduceLT, Nat.reduceAdd, Nat.reduceMul, Nat.reduceEqDiff]
            refine loopC_next ⟨j + 1, by omega, rfl, by omega, fun i hi y hy => ?_, ?_, ?_, ?_⟩
            · by_cases hij : i = j
              · subst hij
                rw [List.getElem?_eq_getElem hjl] at hy
                cases hy
                exact hd7
              · exact hall i (by omega) y hy
            · rw [e3]; simp only [g63, g64, g65, ruU, entryE, Nat.reduceLT, Nat.reduceAdd, Nat.reduceMul, Nat.reduceEqDiff]
            all_goals simp only [g63, g64, g65, hw, ruU, entryE, Nat.reduceLT, Nat.reduceAdd, Nat.reduceMul, Nat.reduceEqDiff]
end Go.Proofs.YtnigelgcjfhghaaGreatDoor

/- Instructions that may be read; bytes appended; what Encode makes of instructions, plainly. -/
namespace Go.Proofs.YtnigelgcjfhghaaGreatDoor
open Go.Ax
set_option linter.unusedSimpArgs false
set_option maxRecDepth 100000

abbrev Iv := Ins × Value
def ivC (x : Iv) : List Value := [.int .i64 x.1.pos, .int .i64 x.1.op, x.2]
def ivV (x : Iv) : Value := .agg ⟨ivC x⟩
def insC (ls : List Iv) : List Value := ls.flatMap ivC
theorem insC_len (ls : List Iv) : (insC ls).length = ls.length * 3 := by
  induction ls with
  | nil => rfl
  | cons x r ih => simp only [insC, List.flatMap_cons, List.length_append, List.length_cons] at ih ⊢; rw [ih]; simp only [ivC, List.length_cons, List.length_nil]; omega
theorem insC_at : ∀ {ls : List Iv} {i : Nat} {x : Iv}, ls[i]? = some x → ((insC ls).drop (i * 3)).take 3 = ivC x
  | y :: r, 0, x, h => by
    simp only [List.getElem?_cons_zero, Option.some.injEq] at h
    subst h
    rfl
  | y :: r, i + 1, x, h => by
    rw [List.getElem?_cons_succ] at h
    rw [show (i + 1) * 3 = 3 + i * 3 by omega, insC, List.flatMap_cons, List.drop_append, List.drop_eq_nil_of_le (by simp [ivC])]
    simp only [ivC, List.length_cons, List.length_nil, List.nil_append]
    rw [show 3 + i * 3 - (0 + 1 + 1 + 1) = i * 3 by omega]
    exact insC_at h
theorem insC_append (a b : List Iv) : insC (a ++ b) = insC a ++ insC b := by simp [insC]

structure InsRd (H : AHeap) (v : Value) (ls : List Iv) : Prop where
  rd : RdAt H 3 v (insC ls) ls.length
  av : ∀ x ∈ ls, RdAt H 1 x.2 (iv x.1.args) x.1.args.length
  sc : ∀ x ∈ ls, scb H.next x.2 = true
section
variable {H G : AHeap} {v : Value} {ls : List Iv}
theorem InsRd.mod0 (h : InsRd H v ls) (m : Mod [] H G) : InsRd G v ls := ⟨h.rd.mod0 m, fun x hx => (h.av x hx).mod0 m, fun x hx => scb_mono m.next _ (h.sc x hx)⟩
theorem InsRd.one (h : InsRd H v ls) {i : Nat} {x : Iv} (hi : ls[i]? = some x) : ∃ n off s c e o M, v = .slice (some ⟨n, off, s⟩) ls.length c ∧ n < H.next ∧ rk H n = some ⟨e, o, M⟩ ∧ aIndexAddr Tryz.prog 42 v (.int .i64 (i : Int)) = some (.pointer (some ⟨n, off + i * 3, none⟩)) ∧ ldB Tryz.prog 59 (off + i * 3) (some ⟨e, o, M⟩) = some (ivV x) := by
  have hl := (List.getElem?_eq_some_iff.1 hi).1
  obtain ⟨n, off, s, c, e, o, M, rfl, h2, h3, h4, h5⟩ := h.rd.at_ hl
  rw [insC_at hi] at h5
  refine ⟨n, off, s, c, e, o, M, rfl, h2, h3, ia_of u42 s59 hl, ?_⟩
  have h1 : aggT Tryz.prog 59 = some true := by kernel_rfl
  rw [ld_agg h1, s59, Option.bind_some, if_pos (by omega), h5]
  rfl
end

theorem byte_app {X : AHeap} {v : Value} {l ws : List UInt8} {x : Nat} (h : VsAt X 5 1 v (bv l) l.length) (hx : X.next = x) (hb : X.base ≤ X.next) (hw : 0 < ws.length) (hlen : l.length + ws.length ≤ 1000000000) :
    ∃ G, aBuiltin Tryz.prog (ext X [⟨5, false, bv ws⟩]) .append ⟨[23, 23]⟩ [v, .slice (some ⟨x + 0, 0, some 0⟩) ws.length ws.length] = some (.slice (some ⟨x + 1, 0, none⟩) (l.length + ws.length) (l.length + ws.length), ext G []) ∧ VsAt G 5 1 (.slice (some ⟨x + 1, 0, none⟩) (l.length + ws.length) (l.length + ws.length)) (bv (l ++ ws)) (l ++ ws).length ∧ Mod (idsV v) X G ∧ G.next = x + 2 := by
  have h2 : VsAt (ext X [⟨5, false, bv ws⟩]) 5 1 v (bv l) l.length := h.of (by rw [ext_next]; omega) (fun n hn => ext_get_old (h.ne n hn).2)
  have hk : bk (ext X [⟨5, false, bv ws⟩]) (x + 0) = some ⟨5, false, bv ws⟩ := by rw [bk_at hx (by simp)]; rfl
  have hsm : small (l.length + ws.length) 1 = true := by simp only [small, Bool.and_eq_true, Nat.ble_eq]; omega
  have hbl : (bv ws).length = ws.length := by simp [bv]
  have hone : ∀ ws : List UInt8, (bv ws).all one = true := fun ws => by simp [bv, one]
  have hsc : ∀ n, ∀ ws : List UInt8, scbL n (bv ws) = true := fun n ws => by
    rw [scbL_iff]
    intro v' hv'
    obtain ⟨w', _, rfl⟩ := List.mem_map.1 hv'
    rfl
  obtain ⟨G, k1, k2, k3, k4, _⟩ := vs_app (P := Tryz.prog) (H := ext X [⟨5, false, bv ws⟩]) (st := 23) (xt := 23) (e := 5) (sz := 1) (by1 := 1) (z := .int .u8 0) (n := x + 0) (off := 0) (cnt2 := ws.length) (cap := ws.length) (s := some 0) (x := x + 1) (ws := bv ws) (b := ⟨5, false, bv ws⟩)
    u23 s5 (by kernel_rfl) (by kernel_rfl) rfl (by kernel_rfl) h2 (rk_of hk) (by simp only; omega) (by rw [List.drop_zero]; exact List.take_of_length_le (by simp only; omega)) (hone ws) hw hsm (by rw [ext_next, hx]; rfl) (scbL_append (hsc _ _) (hsc _ _))
  have e1 : bv l ++ bv ws = bv (l ++ ws) := by simp [bv]
  rw [e1] at k2
  refine ⟨G, k1, by rw [List.length_append]; exact k2, (Mod.ext hb).trans (k3 ((Mod.ext (W := []) hb).ok hb)), k4⟩

def encB (x : Ins) : List UInt8 := x.op.toNat.toUInt8 :: x.args.flatMap fun a => [a.toNat.toUInt8, (a.toNat / 256).toUInt8]
def encBad : Nat → List Ins → Option (Int × Int)
  | _, [] => none
  | i, x :: r => if encA x.op x.args ≠ 0 then some (encA x.op x.args, (i : Int)) else encBad (i + 1) r
theorem encBad_at : ∀ {ls : List Ins} {k : Nat}, (∀ (i : Nat) (x : Ins), ls[i]? = some x → encA x.op x.args = 0) → encBad k ls = none
  | [], _, _ => rfl
  | x :: r, k, h => by
    rw [encBad, if_neg (by rw [h 0 x rfl]; simp)]
    exact encBad_at fun i y hy => h (i + 1) y (by simpa using hy)
theorem encBad_some : ∀ {ls : List Ins} {k j : Nat} {x : Ins}, (∀ i, i < j → ∀ x : Ins, ls[i]? = some x → encA x.op x.args = 0) → ls[j]? = some x → encA x.op x.args ≠ 0 → encBad k ls = some (encA x.op x.args, ((k + j : Nat) : Int))
  | y :: r, k, 0, x, _, hx, hb => by
    simp only [List.getElem?_cons_zero, Option.some.injEq] at hx
    subst hx
    rw [encBad, if_pos hb]
    rfl
  | y :: r, k, j + 1, x, h, hx, hb => by
    rw [encBad, if_neg (by rw [h 0 (by omega) y rfl]; simp), encBad_some (j := j) (fun i hi z hz => h (i + 1) (by omega) z (by simpa using hz)) (by simpa using hx) hb]
    congr 2
    omega
theorem byte_val {n : Int} (h0 : 0 ≤ n) (h1 : n ≤ 65535) : IntKind.u8.wrap n = ((n.toNat.toUInt8).toNat : Int) := by
  obtain ⟨k, rfl⟩ : ∃ k : Nat, n = k := ⟨n.toNat, by omega⟩
  rw [Int.toNat_natCast, show k.toUInt8.toNat = k % 256 from UInt8.toNat_ofNat' ..]
  simp only [IntKind.wrap, IntKind.signed, IntKind.bits]
  simp
theorem shr8 {n : Int} (h0 : 0 ≤ n) (h1 : n ≤ 65535) : bShr .i64 n 8 = ((n.toNat / 256 : Nat) : Int) := by
  obtain ⟨k, rfl⟩ : ∃ k : Nat, n = k := ⟨n.toNat, by omega⟩
  rw [Int.toNat_natCast]
  simp only [bShr, IntKind.bits]
  rw [Int.fdiv_eq_ediv_of_nonneg _ (by decide)]
  simp
theorem encA_ok {op : Int} {args : List Int} (h : encA op args = 0) : 0 ≤ op ∧ op < 28 ∧ args.length = (kindsR op.toNat args).length ∧ ∀ y ∈ args, 0 ≤ y ∧ y ≤ 65535 := by
  unfold encA at h
  split at h
  · cases h
  · split at h
    · cases h
    · split at h
      · cases h
      · split at h
        · cases h
        · split at h
          · rename_i h1 _ _ h4 h5
            rw [List.all_eq_true] at h5
            refine ⟨by omega, by omega, by omega, fun y hy => ?_⟩
            have := h5 y hy
            simp only [opndR, Bool.and_eq_true, decide_eq_true_eq] at this
            exact this
          · cases h
end Go.Proofs.YtnigelgcjfhghaaGreatDoor

/- The walk of Encode. -/
namespace Go.Proofs.YtnigelgcjfhghaaGreatDoor
open Go.Ax
set_option linter.unusedSimpArgs false
set_option maxRecDepth 100000

def encL (ls : List Ins) : List UInt8 := ls.flatMap encB
theorem encL_append (a b : List Ins) : encL (a ++ b) = encL a ++ encL b := by simp [encL]
def EncOut (H : AHeap) (ls : List Ins) (out : Out) (X : AHeap) : Prop :=
  match encBad 0 ls with
  | some (e, i) => out = .ok (.tuple #[.slice none 0 0, fltV e i])
  | none => if 60000 < (encL ls).length then out = .ok (.tuple #[.slice none 0 0, fltV 4 (ls.length : Int)]) else ∃ bs, out = .ok (.tuple #[bs, fltV 0 0]) ∧ VsAt X 5 1 bs (bv (encL ls)) (encL ls).length ∧ ∀ n ∈ idsV bs, H.next ≤ n

theorem encL_take {ls : List Ins} {i : Nat} {x : Ins} (h : ls[i]? = some x) : encL (ls.take (i + 1)) = encL (ls.take i) ++ encB x := by
  rw [List.take_add_one, h]
  simp [encL]
theorem encL_mono {ls : List Ins} (i : Nat) : (encL (ls.take i)).length ≤ (encL ls).length := by
  have : encL ls = encL (ls.take i) ++ encL (ls.drop i) := by rw [← encL_append, List.take_append_drop]
  rw [this, List.length_append]
  omega

theorem encodable_c (H : AHeap) (pos op : Int) (av : Value) (args : List Int) (ha : RdAt H 1 av (iv args) args.length) (hlen : args.length ≤ 1000000) : Pure 58 [.agg ⟨[.int .i64 pos, .int .i64 op, av]⟩] H (.int .i64 (encA op args)) := by
  by_cases h : op < 0 ∨ 28 ≤ op
  · obtain ⟨a, c, rfl⟩ := ha.sl
    rw [encA, if_pos h]
    exact encodable_bad H pos op a args.length c h
  · obtain ⟨k, rfl⟩ : ∃ k : Nat, op = k := ⟨op.toNat, by omega⟩
    exact encodable_ok H pos k av args (by omega) ha hlen

set_option maxHeartbeats 8000000 in
theorem encode_c (H : AHeap) (v : Value) (ls : List Iv) (hi : InsRd H v ls) (hok : H.base ≤ H.next) (hl : ls.length ≤ 1000000) (hn : ∀ x ∈ ls, x.1.args.length ≤ 1000000) (hb : (encL (ls.map (·.1))).length ≤ 100000000) :
    CallA Tryz.prog 30 [v] H (fun out X => EncOut H (ls.map (·.1)) out X ∧ Mod [] H X) := by
  obtain ⟨a0, c0, e0⟩ := hi.rd.sl
  obtain ⟨b, hbn⟩ : ∃ b, H.next = b := ⟨_, rfl⟩
  have hbase : H.base ≤ b := hbn ▸ hok
  refine callE_fn mixed Tryz.func30 rfl Tryz.ntmps30 (Nat.le_of_ble_eq_true rfl) ?_
  rw [e0]
  simp (maxDischargeDepth := 6) only [hbn, hbase, ruW, putL, Nat.reduceLeDiff, xF, ruU, entryE, Nat.reduceLT, Nat.reduceAdd, Nat.reduceMul, Nat.reduceEqDiff]
  rw [← e0]
  refine w_env fun E hE => ?_
  have g0 : E 0 = v := by rw [hE, e0]; simp only [ruU, entryE, Nat.reduceLT, Nat.reduceAdd, Nat.reduceMul, Nat.reduceEqDiff]
  have g2 : E 2 = .slice none 0 0 := by rw [hE]; simp only [ruU, entryE, Nat.reduceLT, Nat.reduceAdd, Nat.reduceMul, Nat.reduceEqDiff]
  have g3 : E 3 = .pointer (some ⟨b + 0, 0, none⟩) := by rw [hE]; simp only [ruU, entryE, Nat.reduceLT, Nat.reduceAdd, Nat.reduceMul, Nat.reduceEqDiff]
  have g4 : E 4 = .slice none 0 0 := by rw [hE]; simp only [ruU, entryE, Nat.reduceLT, Nat.reduceAdd, Nat.reduceMul, Nat.reduceEqDiff]
  have g10 : E 10 = v := by rw [hE, e0]; simp only [ruU, entryE, Nat.reduceLT, Nat.reduceAdd, Nat.reduceMul, Nat.reduceEqDiff]
  have g11 : E 11 = .int .i64 (ls.length : Int) := by rw [hE]; simp only [ruU, entryE, Nat.reduceLT, Nat.reduceAdd, Nat.reduceMul, Nat.reduceEqDiff]
  have g12 : E 12 = .int .i64 ((0 : Nat) : Int) := by rw [hE]; (simp only [ruU, entryE, Nat.reduceLT, Nat.reduceAdd, Nat.reduceMul, Nat.reduceEqDiff] <;> rfl)
  clear hE
  generalize hX0 : ext H _ = X0
  have m0 : Mod [] H X0 := hX0 ▸ Mod.ext hok
  have n0 : b + 1 ≤ X0.next := by rw [← hX0, ext_next, hbn]; simp
  have k0 : bk X0 (b + 0) = some ⟨26, false, [.int .i64 0, .int .i64 0]⟩ := by rw [← hX0, bk_at hbn (by simp)]; rfl
  clear hX0
  refine w_loop (fun (z : Nat × Value) E' X => Mod [] H X ∧ b + 1 ≤ X.next ∧ bk X (b + 0) = some ⟨26, false, [.int .i64 0, .int .i64 0]⟩ ∧ VsAt X 5 1 z.2 (bv (encL ((ls.map (·.1)).take z.1))) (encL ((ls.map (·.1)).take z.1)).length ∧ (∀ n ∈ idsV z.2, b + 1 ≤ n) ∧ z.1 ≤ ls.length ∧ (∀ i, i < z.1 → ∀ x : Ins, (ls.map (·.1))[i]? = some x → encA x.op x.args = 0) ∧ E' 0 = v ∧ E' 2 = .slice none 0 0 ∧ E' 3 = .pointer (some ⟨b + 0, 0, none⟩) ∧ E' 4 = z.2 ∧ E' 10 = v ∧ E' 11 = .int .i64 (ls.length : Int) ∧ E' 12 = .int .i64 (z.1 : Int)) (fun z => ls.length - z.1) (0, .slice none 0 0)
    ⟨m0, n0, k0, VsAt.nil, fun n hn => by simp [idsV] at hn, Nat.zero_le _, fun i hi => absurd hi (by simp), g0, g2, g3, g4, g10, g11, g12⟩ ?_
  clear g0 g2 g3 g4 g10 g11 g12 m0 n0 k0 X0 E
  rintro ⟨i, ov⟩ E X ⟨m, nx, k, ho, hoi, hil, hgood, g0, g2, g3, g4, g10, g11, g12⟩
  simp only at ho hoi hil hgood g4 g12
  obtain ⟨x, hx⟩ : ∃ x, X.next = x := ⟨_, rfl⟩
  have hxb : X.base ≤ x := hx ▸ m.ok hok
  rw [hx] at nx
  have hbx : b + 0 < x := by omega
  obtain ⟨oa, eo⟩ := ho.len
  rw [show X = ext X [] from rfl]
  by_cases hie : i = ls.length
  · have hd : decide ((i : Int) < (ls.length : Int)) = false := decide_eq_false (by omega)
    have htk : (ls.map (·.1)).take i = ls.map (·.1) := List.take_of_length_le (by rw [List.length_map]; omega)
    rw [htk] at ho eo
    have hnone : encBad 0 (ls.map (·.1)) = none := encBad_at fun j y hy => hgood j (by have := (List.getElem?_eq_some_iff.1 hy).1; rw [List.length_map] at this; omega) y hy
    obtain ⟨d, hd2⟩ : ∃ d, decide ((60000 : Int) < ((encL (ls.map (·.1))).length : Int)) = d := ⟨_, rfl⟩
    rw [eo] at g4
    rw [e0] at g0
    have mU : ∀ vs, Mod [] H (uw X (b + 0) 0 vs) := fun vs => m.step (W' := [b + 0]) (Mod.uw (by simp)) hok fun n hn => by simp only [List.mem_singleton] at hn; exact .inr (by omega)
    cases d with
    | true =>
      have := of_decide_eq_true hd2
      simp (maxDischargeDepth := 6) only [g0, g2, g3, g4, g10, g11, g12, hd, hd2, hx, hxb, hbx, k, Tryz.results30, ruW, putL, Nat.reduceLeDiff, xF, ruU, entryE, Nat.reduceLT, Nat.reduceAdd, Nat.reduceMul, Nat.reduceEqDiff]
      refine ⟨?_, mU _⟩
      simp only [EncOut, hnone]
      rw [if_pos (by omega), List.length_map]
    | false =>
      have := of_decide_eq_false hd2
      simp (maxDischargeDepth := 6) only [g0, g2, g3, g4, g10, g11, g12, hd, hd2, hx, hxb, hbx, k, Tryz.results30, ruW, putL, Nat.reduceLeDiff, xF, ruU, entryE, Nat.reduceLT, Nat.reduceAdd, Nat.reduceMul, Nat.reduceEqDiff]
      refine ⟨?_, mU _⟩
      simp only [EncOut, hnone]
      rw [if_neg (by omega)]
      rw [← eo]
      refine ⟨_, rfl, ?_, fun n hn => by have := hoi n hn; omega⟩
      rw [ext_nil]
      exact ho.of (by rw [uw_next]; exact Nat.le_refl _) fun n hn => uw_get (by have := hoi n hn; omega)
  · have hil' : i < ls.length := by omega
    have hd : decide ((i : Int) < (ls.length : Int)) = true := decide_eq_true (by omega)
    obtain ⟨y, hy⟩ : ∃ y, ls[i]? = some y := ⟨_, List.getElem?_eq_getElem hil'⟩
    have hym : y ∈ ls := List.mem_of_getElem? hy
    obtain ⟨n, off, s, c, e, o, M, e1, n1, r1, ia, ld⟩ := (hi.mod0 m).one hy
    have hyr := (hi.mod0 m).av y hym
    have hys := (hi.mod0 m).sc y hym
    have hyn := hn y hym
    obtain ⟨⟨pos, op, args⟩, av⟩ := y
    obtain ⟨aa, ac, ea⟩ := hyr.sl
    simp only at hyr hys hyn ea
    rw [hx] at n1 hys
    simp only [ivV, ivC] at ld
    rw [ea] at ld hys
    simp (maxDischargeDepth := 6) only [g0, g2, g3, g4, g10, g11, g12, hd, hx, hxb, hbx, ia, r1, n1, ld, hys, qk_old, ruW, putL, Nat.reduceLeDiff, xF, ruU, entryE, Nat.reduceLT, Nat.reduceAdd, Nat.reduceMul, Nat.reduceEqDiff]
    generalize hX1 : ext X _ = X1
    have m1 : Mod [] X X1 := hX1 ▸ Mod.ext (by rw [hx]; exact hxb)
    have nx1 : X1.next = x + 1 := by rw [← hX1, ext_next, hx]; rfl
    have kx1 : bk X1 (x + 0) = some ⟨59, false, [.int .i64 pos, .int .i64 op, .slice aa args.length ac]⟩ := by rw [← hX1, bk_at hx (by simp)]; rfl
    clear hX1
    have kf1 : bk X1 (b + 0) = some ⟨26, false, [.int .i64 0, .int .i64 0]⟩ := (m1.bk (by omega) (by simp)).trans k
    have mm1 := m.trans m1
    have ho1 := ho.of (G := X1) m1.next fun n hn => m1.get n (ho.ne n hn).2 (by simp)
    have hyr1 := hyr.mod0 m1
    have xb1 : X1.base ≤ x + 1 := nx1 ▸ mm1.ok hok
    rw [ea] at hyr1
    rw [show X1 = ext X1 [] from rfl]
    refine (encodable_c (ext X1 []) pos op _ args hyr1 hyn).to ?_
    have hgx : (ls.map (·.1))[i]? = some ⟨pos, op, args⟩ := by rw [List.getElem?_map, hy]; rfl
    by_cases hen : encA op args = 0
    · have hdz : decide (¬ encA op args = 0) = false := decide_eq_false (by simp [hen])
      obtain ⟨q0, q1, q2, q3⟩ := encA_ok hen
      have hxx : x + 0 < x + 1 := by omega
      have hbx1 : b + 0 < x + 1 := by omega
      have hcv : ∀ G : AHeap, aConvert Tryz.prog G 3 5 (.int .i64 op) = some (.int .u8 ((op.toNat.toUInt8).toNat : Int), G) := fun G => by
        rw [cv_int (u := .int .i64) (k := .u8) (by kernel_rfl) (by kernel_rfl), byte_val q0 (by omega)]
      simp (maxDischargeDepth := 6) only [g0, g2, g3, g4, g10, g11, g12, hdz, nx1, xb1, hxx, hbx1, kx1, kf1, hcv, w_convert, ruW, putL, Nat.reduceLeDiff, xF, ruU, entryE, Nat.reduceLT, Nat.reduceAdd, Nat.reduceMul, Nat.reduceEqDiff]
      have hmono := encL_mono (ls := ls.map (·.1)) (i + 1)
      rw [encL_take hgx, List.length_append] at hmono
      have hbl : (encB ⟨pos, op, args⟩).length = 1 + 2 * args.length := by
        simp only [encB, List.length_cons]
        have : ∀ l : List Int, (l.flatMap fun a => [a.toNat.toUInt8, (a.toNat / 256).toUInt8]).length = 2 * l.length := fun l => by
          induction l with
          | nil => rfl
          | cons a r ih => rw [List.flatMap_cons, List.length_append, ih]; simp only [List.length_cons, List.length_nil]; omega
        rw [this]
        omega
      rw [hbl] at hmono
      obtain ⟨G, k1, vG, mG, nG⟩ := byte_app (X := X1) (v := ov) (ws := [op.toNat.toUInt8]) (x := x + 1) ho1 nx1 (by rw [nx1]; exact xb1) (by simp) (by simp only [List.length_singleton]; omega)
      replace k1 : aBuiltin Tryz.prog (ext X1 [⟨5, false, [.int .u8 ((op.toNat.toUInt8).toNat : Int)]⟩]) .append ⟨[23, 23]⟩ [ov, .slice (some ⟨x + 1 + 0, 0, some 0⟩) 1 1] = some (.slice (some ⟨x + 1 + 1, 0, none⟩) ((encL ((ls.map (·.1)).take i)).length + 1) ((encL ((ls.map (·.1)).take i)).length + 1), ext G []) := k1
      have hxo : ∀ n ∈ idsV ov, b + 1 ≤ n ∧ n < x := fun n hn => ⟨hoi n hn, hx ▸ (ho.ne n hn).2⟩
      have mmG : Mod [] H G := mm1.step mG hok fun n hn => .inr (by have := hxo n hn; omega)
      have kfG : bk G (b + 0) = some ⟨26, false, [.int .i64 0, .int .i64 0]⟩ := (mG.bk (by omega) (fun h => by have := hxo _ h; omega)).trans kf1
      have kxG : bk G (x + 0) = some ⟨59, false, [.int .i64 pos, .int .i64 op, .slice aa args.length ac]⟩ := (mG.bk (by omega) (fun h => by have := hxo _ h; omega)).trans kx1
      have hxG : x + 0 < x + 1 + 2 := by omega
      simp (maxDischargeDepth := 6) only [g0, g2, g3, g4, g10, g11, g12, k1, nG, hxG, kxG, ruW, putL, Nat.reduceLeDiff, xF, ruU, entryE, Nat.reduceLT, Nat.reduceAdd, Nat.reduceMul, Nat.reduceEqDiff]
      obtain ⟨D, hD⟩ : ∃ D, encL ((ls.map (·.1)).take i) ++ [op.toNat.toUInt8] = D := ⟨_, rfl⟩
      have hDl : D.length = (encL ((ls.map (·.1)).take i)).length + 1 := by rw [← hD]; simp
      rw [hD, List.length_singleton, ← hDl] at vG
      rw [← hDl]
      have htot : encL ((ls.map (·.1)).take (i + 1)) = D ++ args.flatMap fun a => [a.toNat.toUInt8, (a.toNat / 256).toUInt8] := by rw [encL_take hgx, ← hD]; simp [encB]
      refine w_env fun E2 hE => ?_
      have h0 : E2 0 = v := by rw [hE]; simp only [g0, ruU, entryE, Nat.reduceLT, Nat.reduceAdd, Nat.reduceMul, Nat.reduceEqDiff]
      have h2 : E2 2 = .slice none 0 0 := by rw [hE]; simp only [g2, ruU, entryE, Nat.reduceLT, Nat.reduceAdd, Nat.reduceMul, Nat.reduceEqDiff]
      have h3 : E2 3 = .pointer (some ⟨b + 0, 0, none⟩) := by rw [hE]; simp only [g3, ruU, entryE, Nat.reduceLT, Nat.reduceAdd, Nat.reduceMul, Nat.reduceEqDiff]
      have h4 : E2 4 = .slice (some ⟨x + 1 + 1, 0, none⟩) D.length D.length := by rw [hE]; simp only [ruU, entryE, Nat.reduceLT, Nat.reduceAdd, Nat.reduceMul, Nat.reduceEqDiff]
      have h10 : E2 10 = v := by rw [hE]; simp only [g10, ruU, entryE, Nat.reduceLT, Nat.reduceAdd, Nat.reduceMul, Nat.reduceEqDiff]
      have h11 : E2 11 = .int .i64 (ls.length : Int) := by rw [hE]; simp only [g11, ruU, entryE, Nat.reduceLT, Nat.reduceAdd, Nat.reduceMul, Nat.reduceEqDiff]
      have h12 : E2 12 = .int .i64 (i : Int) := by rw [hE]; simp only [g12, ruU, entryE, Nat.reduceLT, Nat.reduceAdd, Nat.reduceMul, Nat.reduceEqDiff]
      have h31 : E2 31 = .slice aa args.length ac := by rw [hE]; simp only [ruU, entryE, Nat.reduceLT, Nat.reduceAdd, Nat.reduceMul, Nat.reduceEqDiff]
      have h32 : E2 32 = .int .i64 (args.length : Int) := by rw [hE]; simp only [ruU, entryE, Nat.reduceLT, Nat.reduceAdd, Nat.reduceMul, Nat.reduceEqDiff]
      have h33 : E2 33 = .int .i64 ((0 : Nat) : Int) := by rw [hE]; (simp only [ruU, entryE, Nat.reduceLT, Nat.reduceAdd, Nat.reduceMul, Nat.reduceEqDiff] <;> rfl)
      clear hE g0 g2 g3 g4 g10 g11 g12 E
      refine w_loop (fun (z : Nat × List UInt8 × Value) E' X' => Mod [] H X' ∧ b + 1 ≤ X'.next ∧ bk X' (b + 0) = some ⟨26, false, [.int .i64 0, .int .i64 0]⟩ ∧ VsAt X' 5 1 z.2.2 (bv z.2.1) z.2.1.length ∧ (∀ n ∈ idsV z.2.2, b + 1 ≤ n) ∧ z.1 ≤ args.length ∧ z.2.1 ++ ((args.drop z.1).flatMap fun a => [a.toNat.toUInt8, (a.toNat / 256).toUInt8]) = encL ((ls.map (·.1)).take (i + 1)) ∧ E' 0 = v ∧ E' 2 = .slice none 0 0 ∧ E' 3 = .pointer (some ⟨b + 0, 0, none⟩) ∧ E' 4 = z.2.2 ∧ E' 10 = v ∧ E' 11 = .int .i64 (ls.length : Int) ∧ E' 12 = .int .i64 (i : Int) ∧ E' 31 = .slice aa args.length ac ∧ E' 32 = .int .i64 (args.length : Int) ∧ E' 33 = .int .i64 (z.1 : Int)) (fun z => args.length - z.1) (0, D, .slice (some ⟨x + 1 + 1, 0, none⟩) D.length D.length)
        ⟨mmG, by rw [ext_nil, nG]; omega, kfG, vG, fun n hn => by simp only [idsV, List.mem_singleton] at hn; omega, Nat.zero_le _, by rw [htot]; rfl, h0, h2, h3, h4, h10, h11, h12, h31, h32, h33⟩ ?_
      clear h0 h2 h3 h4 h10 h11 h12 h31 h32 h33 E2 mmG kfG vG kxG nG mG k1 G hxG
      rintro ⟨j, o2, v2⟩ E X2 ⟨m2, nx2, kf2, vo2, hi2, hj, htj, g0, g2, g3, g4, g10, g11, g12, g31, g32, g33⟩
      simp only at vo2 hi2 hj htj g4 g33
      obtain ⟨x2, hx2⟩ : ∃ x2, X2.next = x2 := ⟨_, rfl⟩
      have xb2 : X2.base ≤ x2 := hx2 ▸ m2.ok hok
      rw [hx2] at nx2
      rw [show X2 = ext X2 [] from rfl]
      by_cases hje : j = args.length
      · have hdj : decide ((j : Int) < (args.length : Int)) = false := decide_eq_false (by omega)
        simp (maxDischargeDepth := 6) only [g0, g2, g3, g4, g10, g11, g12, g31, g32, g33, hdj, ruW, putL, Nat.reduceLeDiff, xF, ruU, entryE, Nat.reduceLT, Nat.reduceAdd, Nat.reduceMul, Nat.reduceEqDiff]
        rw [hje, List.drop_length, List.flatMap_nil, List.append_nil] at htj
        rw [htj] at vo2
        have hw : IntKind.i64.wrap ((i : Int) + 1) = ((i + 1 : Nat) : Int) := wrap_succ (by omega)
        refine loopC_next ⟨(i + 1, v2), by simp only; omega, m2, by rw [ext_nil, hx2]; exact nx2, kf2, vo2, hi2, by simp only; omega, fun i' hi' y' hy' => ?_, ?_, ?_, ?_, ?_, ?_, ?_, ?_⟩
        · by_cases hii : i' = i
          · subst hii
            rw [hgx] at hy'
            cases hy'
            exact hen
          · exact hgood i' (by simp only at hi'; omega) y' hy'
        all_goals simp only [g0, g2, g3, g4, g10, g11, g12, hw, ruU, entryE, Nat.reduceLT, Nat.reduceAdd, Nat.reduceMul, Nat.reduceEqDiff]
      · have hjl : j < args.length := by omega
        have hdj : decide ((j : Int) < (args.length : Int)) = true := decide_eq_true (by omega)
        have hyr2 := (hi.mod0 m2).av _ hym
        simp only at hyr2
        rw [ea] at hyr2
        obtain ⟨n', off', s', c', e', o', M', e3, n3, r3, m3⟩ := hyr2.one hjl
        cases e3
        rw [iv_get, List.getElem?_eq_getElem hjl, Option.map_some] at m3
        have i3 := ia_of (P := Tryz.prog) (k := .i64) (i := j) (n := n') (off := off') (len := args.length) (cap := ac) (s := s') u35 s3 hjl
        rw [Nat.mul_one] at i3
        rw [hx2] at n3
        obtain ⟨ya, hya⟩ : ∃ ya, args[j] = ya := ⟨_, rfl⟩
        rw [hya] at m3
        obtain ⟨y0, y1⟩ := q3 ya (hya ▸ List.getElem_mem hjl)
        have hw : IntKind.i64.wrap ((j : Int) + 1) = ((j + 1 : Nat) : Int) := wrap_succ (by omega)
        have c1 : ∀ G : AHeap, aConvert Tryz.prog G 3 5 (.int .i64 ya) = some (.int .u8 ((ya.toNat.toUInt8).toNat : Int), G) := fun G => by
          rw [cv_int (u := .int .i64) (k := .u8) (by kernel_rfl) (by kernel_rfl), byte_val y0 y1]
        have c2 : ∀ G : AHeap, aConvert Tryz.prog G 3 5 (.int .i64 (bShr .i64 ya 8)) = some (.int .u8 (((ya.toNat / 256).toUInt8).toNat : Int), G) := fun G => by
          rw [shr8 y0 y1, cv_int (u := .int .i64) (k := .u8) (by kernel_rfl) (by kernel_rfl), byte_val (by omega) (by omega), Int.toNat_natCast]
        have hdr : args.drop j = ya :: args.drop (j + 1) := by rw [List.drop_eq_getElem_cons hjl, hya]
        rw [hdr, List.flatMap_cons, ← List.append_assoc] at htj
        have hlen2 := congrArg List.length htj
        simp only [List.length_append, List.length_cons, List.length_nil] at hlen2
        have hmono2 := encL_mono (ls := ls.map (·.1)) (i + 1)
        obtain ⟨G, k1, vG, mG, nG⟩ := byte_app (X := X2) (v := v2) (ws := [ya.toNat.toUInt8, (ya.toNat / 256).toUInt8]) (x := x2) vo2 hx2 (by rw [hx2]; exact xb2) (by simp) (by simp only [List.length_cons, List.length_nil]; omega)
        replace k1 : aBuiltin Tryz.prog (ext X2 [⟨5, false, [.int .u8 ((ya.toNat.toUInt8).toNat : Int), .int .u8 (((ya.toNat / 256).toUInt8).toNat : Int)]⟩]) .append ⟨[23, 23]⟩ [v2, .slice (some ⟨x2 + 0, 0, some 0⟩) 2 2] = some (.slice (some ⟨x2 + 1, 0, none⟩) (o2.length + 2) (o2.length + 2), ext G []) := k1
        have hs8 : bitV .shr (.int .i64 ya) (.int .u64 8) = some (.int .i64 (bShr .i64 ya 8)) := bit_shr (by decide)
        simp (maxDischargeDepth := 6) only [g0, g2, g3, g4, g10, g11, g12, g31, g32, g33, hdj, hx2, xb2, i3, n3, r3, m3, hs8, w_shr, Option.isSome_some, c1, c2, w_convert, k1, hw, qk_old, ruW, putL, Nat.reduceLeDiff, xF, ruU, entryE, Nat.reduceLT, Nat.reduceAdd, Nat.reduceMul, Nat.reduceEqDiff]
        have ho2 : ∀ n ∈ idsV v2, b + 1 ≤ n ∧ n < x2 := fun n hn => ⟨hi2 n hn, hx2 ▸ (vo2.ne n hn).2⟩
        have hol : (o2 ++ [ya.toNat.toUInt8, (ya.toNat / 256).toUInt8]).length = o2.length + 2 := by simp
        rw [hol] at vG
        refine loopC_next ⟨(j + 1, o2 ++ [ya.toNat.toUInt8, (ya.toNat / 256).toUInt8], .slice (some ⟨x2 + 1, 0, none⟩) (o2.length + 2) (o2.length + 2)), by simp only; omega, m2.step mG hok fun n hn => .inr (by have := ho2 n hn; omega), by rw [ext_nil, nG]; omega, (mG.bk (by omega) (fun h => by have := ho2 _ h; omega)).trans kf2, by rw [hol]; exact vG, fun n hn => by simp only [idsV, List.mem_singleton] at hn; omega, by simp only; omega, htj, ?_, ?_, ?_, ?_, ?_, ?_, ?_, ?_, ?_, ?_⟩
        all_goals simp only [g0, g2, g3, g4, g10, g11, g12, g31, g32, g33, hw, ruU, entryE, Nat.reduceLT, Nat.reduceAdd, Nat.reduceMul, Nat.reduceEqDiff]
    · have hdz : decide (¬ encA op args = 0) = true := decide_eq_true hen
      have hbx1 : b + 0 < x + 1 := by omega
      simp (maxDischargeDepth := 6) only [g0, g2, g3, g4, g10, g11, g12, hdz, nx1, xb1, hbx1, kf1, Tryz.results30, ruW, putL, Nat.reduceLeDiff, xF, ruU, entryE, Nat.reduceLT, Nat.reduceAdd, Nat.reduceMul, Nat.reduceEqDiff]
      refine ⟨?_, mm1.step (W' := [b + 0]) (Mod.uw (by simp)) hok fun n hn => by simp only [List.mem_singleton] at hn; exact .inr (by omega)⟩
      simp only [EncOut, encBad_some (k := 0) hgood hgx hen, Nat.zero_add]
end Go.Proofs.YtnigelgcjfhghaaGreatDoor

/- Calls of faulty in CodeKnown. -/
namespace Go.Proofs.YtnigelgcjfhghaaGreatDoor
open Go.Ax

abbrev kpa1 : List Value := [.int .i64 0, .int .i64 0, .int .i64 1, .int .i64 1, .string ⟨#[100, 114, 111, 112, 10]⟩, .int .i64 9, .int .i64 0]
abbrev kpa2 : List Value := [.int .i64 0, .int .i64 0, .int .i64 1, .int .i64 1, .string ⟨#[99, 111, 110, 115, 116, 32, 48, 10]⟩, .int .i64 13, .int .i64 0]
abbrev kpa3 : List Value := [.int .i64 0, .int .i64 0, .int .i64 1, .int .i64 1, .string ⟨#[106, 117, 109, 112, 32, 49, 10]⟩, .int .i64 5, .int .i64 0]
abbrev kpa4 : List Value := [.int .i64 0, .int .i64 0, .int .i64 1, .int .i64 1, .string ⟨#[114, 101, 116, 117, 114, 110, 10]⟩, .int .i64 9, .int .i64 0]
abbrev kpa5 : List Value := [.int .i64 0, .int .i64 0, .int .i64 1, .int .i64 1, .string ⟨#[99, 111, 110, 115, 116, 32, 49, 10]⟩, .int .i64 3, .int .i64 0]
abbrev kpa6 : List Value := [.int .i64 0, .int .i64 0, .int .i64 2, .int .i64 2, .string ⟨#[99, 111, 110, 115, 116, 32, 48, 10, 99, 97, 116, 99, 104, 32, 49, 49, 10, 99, 111, 110, 115, 116, 32, 49, 10, 100, 111, 110, 101, 10, 114, 101, 116, 117, 114, 110, 10]⟩, .int .i64 5, .int .i64 3]
abbrev kpa7 : List Value := [.int .i64 2, .int .i64 2, .int .i64 4, .int .i64 1, .string ⟨#[99, 111, 110, 115, 116, 32, 48, 10, 99, 111, 112, 121, 32, 50, 10, 99, 111, 112, 121, 32, 50, 10, 99, 97, 108, 108, 32, 50, 10, 114, 101, 116, 117, 114, 110, 10]⟩, .int .i64 12, .int .i64 6]
abbrev kpl0 : List (FuncId × List Value × Value) := []
abbrev kpl1 : List (FuncId × List Value × Value) := (37, kpa1, .bool true) :: kpl0
abbrev kpl2 : List (FuncId × List Value × Value) := (37, kpa2, .bool true) :: kpl1
abbrev kpl3 : List (FuncId × List Value × Value) := (37, kpa3, .bool true) :: kpl2
abbrev kpl4 : List (FuncId × List Value × Value) := (37, kpa4, .bool true) :: kpl3
abbrev kpl5 : List (FuncId × List Value × Value) := (37, kpa5, .bool true) :: kpl4
abbrev kpl6 : List (FuncId × List Value × Value) := (37, kpa6, .bool true) :: kpl5
abbrev kpl7 : List (FuncId × List Value × Value) := (37, kpa7, .bool true) :: kpl6

end Go.Proofs.YtnigelgcjfhghaaGreatDoor
