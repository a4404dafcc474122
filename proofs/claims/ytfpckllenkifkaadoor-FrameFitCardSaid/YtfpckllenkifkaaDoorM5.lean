/- Parts of the proof, one behind the other. -/
import Derived.Test.YtfpckllenkifkaaDoorM4
import Derived.Test.YtfpckllenkifkaaDoorRows
import Derived.Shelf.Unicode.ValidAny
import Derived.Lib.ValidLaws
import Derived.Lib.TrimUEq
set_option linter.all false

/- The width of a character, as the program finds it. -/
namespace Go.Proofs.YtfpckllenkifkaaDoor
open Go.Ax
set_option linter.unusedSimpArgs false
set_option maxRecDepth 10000

def isR (c : Int) : Bool := decide (0 ≤ c) && decide (c ≤ 1114111) && !(decide (55296 ≤ c) && decide (c ≤ 57343))
theorem is_c (H : AHeap) (c : Int) : Pure 57 [.int .i64 c] H (.bool (isR c)) := by
  obtain ⟨d1, h1⟩ : ∃ d, decide (0 ≤ c) = d := ⟨_, rfl⟩
  obtain ⟨d2, h2⟩ : ∃ d, decide (c ≤ 1114111) = d := ⟨_, rfl⟩
  obtain ⟨d3, h3⟩ : ∃ d, decide (55296 ≤ c) = d := ⟨_, rfl⟩
  obtain ⟨d4, h4⟩ : ∃ d, decide (c ≤ 57343) = d := ⟨_, rfl⟩
  simp only [isR, h1, h2, h3, h4]
  refine callS_fn mixed Tryd.func57 rfl Tryd.ntmps57 (Nat.le_of_ble_eq_true rfl) fun wf hsc => ?_
  cases d1 <;> cases d2 <;> cases d3 <;> cases d4 <;> (simp (maxDischargeDepth := 6) only [h1, h2, h3, h4, Tryd.results57, ruW, putL, Nat.reduceLeDiff, xF, ruU, entryE, Nat.reduceLT, Nat.reduceAdd, Nat.reduceMul, Nat.reduceEqDiff]; exact Fin.pureE rfl rfl)

def srch (f : Nat → Bool) : Nat → Nat → Nat → Nat
  | 0, i, _ => i
  | k + 1, i, j => if i < j then (cond (f ((i + j) / 2)) (srch f k i ((i + j) / 2)) (srch f k ((i + j) / 2 + 1) j)) else i
theorem srch_done (f : Nat → Bool) (k i j : Nat) (h : ¬ i < j) : srch f k i j = i := by
  cases k with
  | zero => rfl
  | succ k => rw [srch, if_neg h]

def spV (l : List (Int × Int)) : List Value := l.flatMap fun q => [.int .i64 q.1, .int .i64 q.2]
theorem spV_len (l : List (Int × Int)) : (spV l).length = l.length * 2 := by
  induction l with
  | nil => rfl
  | cons a l ih => simp only [spV, List.flatMap_cons, List.length_append, List.length_cons, List.length_nil] at ih ⊢; omega
theorem spV_get (l : List (Int × Int)) (k : Nat) (q : Int × Int) (h : l[k]? = some q) : (spV l)[k * 2]? = some (.int .i64 q.1) ∧ (spV l)[k * 2 + 1]? = some (.int .i64 q.2) := by
  induction l generalizing k with
  | nil => simp at h
  | cons a l ih =>
    cases k with
    | zero =>
      simp only [List.getElem?_cons_zero, Option.some.injEq] at h
      subst h
      exact ⟨rfl, rfl⟩
    | succ k =>
      have := ih k (by simpa using h)
      rw [show (k + 1) * 2 = k * 2 + 2 by omega]
      exact this
theorem sp_ia {len cap n : Nat} {s : Option Nat} {k : Nat} (hk : k < len) : aIndexAddr Tryd.prog 133 (.slice (some ⟨n, 0, s⟩) len cap) (.int .i64 (k : Int)) = some (.pointer (some ⟨n, k * 2, none⟩)) := by
  rw [ia_slice (e := 129) (sz := 2) (by kernel_rfl) (by kernel_rfl) (by omega) (by omega)]
  simp

structure Clo (H : AHeap) (bs bc m : Nat) (c : Int) (sp : List (Int × Int)) : Prop where
  s : bk H bs = some ⟨133, false, [.slice (some ⟨m, 0, some 0⟩) sp.length sp.length]⟩
  c : bk H bc = some ⟨3, false, [.int .i64 c]⟩
  m : ∃ e, bk H m = some ⟨e, false, spV sp⟩

def toGe (c : Int) (sp : List (Int × Int)) (i : Nat) : Bool := decide (c ≤ (sp.getD i (0, 0)).2)

theorem pred_c (H : AHeap) (bs bc m : Nat) (c : Int) (sp : List (Int × Int)) (h : Clo H bs bc m c sp) (i : Nat) (hi : i < sp.length) : Pure 108 [.int .i64 (i : Int), .pointer (some ⟨bs, 0, none⟩), .pointer (some ⟨bc, 0, none⟩)] H (.bool (toGe c sp i)) := by
  obtain ⟨b, hb⟩ : ∃ b, H.next = b := ⟨_, rfl⟩
  obtain ⟨h1, h2, e, h3⟩ := h
  obtain ⟨q, hq⟩ : ∃ q, sp[i]? = some q := ⟨_, List.getElem?_eq_getElem hi⟩
  have hg := (spV_get sp i q hq).2
  have hd : sp.getD i (0, 0) = q := by rw [List.getD, hq]; rfl
  have hia := sp_ia (len := sp.length) (cap := sp.length) (n := m) (s := some 0) hi
  refine callS_fn mixed Tryd.func108 rfl Tryd.ntmps108 (Nat.le_of_ble_eq_true rfl) fun wf hsc => ?_
  have l1 : bs < b := hb ▸ wf.lt h1
  have l2 : bc < b := hb ▸ wf.lt h2
  have l3 : m < b := hb ▸ wf.lt h3
  simp (maxDischargeDepth := 6) only [ruW, putL, Nat.reduceLeDiff, xF, ruU, entryE, Nat.reduceLT, Nat.reduceAdd, Nat.reduceMul, Nat.reduceEqDiff]
  refine w_drawB [] [] (by kernel_rfl) rfl rfl fun ops anc hA hG => ?_
  simp (maxDischargeDepth := 6) only [hb, h1, h2, h3, l1, l2, l3, hia, hg, toGe, hd, Tryd.results108, ruD, ruW, putL, Nat.reduceLeDiff, xF, ruU, entryE, Nat.reduceLT, Nat.reduceAdd, Nat.reduceMul, Nat.reduceEqDiff]
  exact Fin.pureE rfl rfl

theorem half_wrap {i j : Nat} (h : i + j < 1000000) : IntKind.i64.wrap (bShr .u64 (IntKind.u64.wrap (IntKind.i64.wrap ((i : Int) + (j : Int)))) 1) = (((i + j) / 2 : Nat) : Int) := by
  have h1 := wrap_sm (n := (i : Int) + (j : Int)) (by omega) (by omega)
  rw [show IntKind.i64.wrap ((i : Int) + (j : Int)) = _ from h1]
  have h2 : IntKind.u64.wrap ((i : Int) + (j : Int)) = (i : Int) + (j : Int) := by
    simp only [IntKind.wrap, IntKind.signed, IntKind.bits]
    simp
    omega
  rw [h2]
  have h3 : bShr .u64 ((i : Int) + (j : Int)) 1 = (((i + j) / 2 : Nat) : Int) := by
    simp only [bShr, IntKind.bits]
    rw [Int.fdiv_eq_ediv_of_nonneg _ (by decide)]
    simp
  rw [h3]
  exact wrap_sm (by omega) (by omega)

set_option maxHeartbeats 1000000 in
theorem search_c (H : AHeap) (bs bc m : Nat) (c : Int) (sp : List (Int × Int)) (h : Clo H bs bc m c sp) (hlen : sp.length ≤ 1000) : Pure 107 [.int .i64 (sp.length : Int), .func (.func 108) ⟨[]⟩ ⟨[.pointer (some ⟨bs, 0, none⟩), .pointer (some ⟨bc, 0, none⟩)]⟩] H (.int .i64 (srch (toGe c sp) sp.length 0 sp.length : Int)) := by
  obtain ⟨b, hb⟩ : ∃ b, H.next = b := ⟨_, rfl⟩
  have hcv : ∀ (X : AHeap) (k : IntKind) (m : Int), aConvert Tryd.prog X 3 106 (.int k m) = some (.int .u64 (IntKind.u64.wrap m), X) := fun X k m => cv_int (u := .int .i64) (by kernel_rfl) (by kernel_rfl)
  have hcv2 : ∀ (X : AHeap) (k : IntKind) (m : Int), aConvert Tryd.prog X 106 3 (.int k m) = some (.int .i64 (IntKind.i64.wrap m), X) := fun X k m => cv_int (u := .int .u64) (by kernel_rfl) (by kernel_rfl)
  refine callS_fn mixed Tryd.func107 rfl Tryd.ntmps107 (Nat.le_of_ble_eq_true rfl) fun wf hsc => ?_
  simp (maxDischargeDepth := 6) only [ruW, putL, Nat.reduceLeDiff, xF, ruU, entryE, Nat.reduceLT, Nat.reduceAdd, Nat.reduceMul, Nat.reduceEqDiff]
  refine w_env fun E hE => ?_
  have g1 : E 1 = .func (.func 108) ⟨[]⟩ ⟨[.pointer (some ⟨bs, 0, none⟩), .pointer (some ⟨bc, 0, none⟩)]⟩ := by rw [hE]; simp only [ruU, entryE, Nat.reduceLT, Nat.reduceAdd, Nat.reduceMul, Nat.reduceEqDiff]
  have g5 : E 5 = .int .i64 ((0 : Nat) : Int) := by rw [hE]; (simp only [ruU, entryE, Nat.reduceLT, Nat.reduceAdd, Nat.reduceMul, Nat.reduceEqDiff] <;> rfl)
  have g6 : E 6 = .int .i64 (sp.length : Int) := by rw [hE]; simp only [ruU, entryE, Nat.reduceLT, Nat.reduceAdd, Nat.reduceMul, Nat.reduceEqDiff]
  clear hE
  refine blockC_meet (fun E' H' => H' = H ∧ E' 5 = .int .i64 (srch (toGe c sp) sp.length 0 sp.length : Int)) ?_ ?_
  · refine w_loop (fun (q : Nat × Nat × Nat) E' H' => H' = H ∧ q.2.1 - q.1 ≤ q.2.2 ∧ q.2.1 ≤ sp.length ∧ srch (toGe c sp) q.2.2 q.1 q.2.1 = srch (toGe c sp) sp.length 0 sp.length ∧ E' 1 = .func (.func 108) ⟨[]⟩ ⟨[.pointer (some ⟨bs, 0, none⟩), .pointer (some ⟨bc, 0, none⟩)]⟩ ∧ E' 5 = .int .i64 (q.1 : Int) ∧ E' 6 = .int .i64 (q.2.1 : Int)) (fun q => q.2.1 - q.1) (0, sp.length, sp.length)
      ⟨rfl, by simp, Nat.le_refl _, rfl, g1, g5, g6⟩ ?_
    clear g1 g5 g6 E
    rintro ⟨i, j, k⟩ E X ⟨hX, hk, hj, hs, g1, g5, g6⟩
    simp only at hk hj hs g5 g6
    rw [hX, show H = ext H [] from rfl]
    by_cases hij : i < j
    · have hd : decide ((i : Int) < (j : Int)) = true := decide_eq_true (by omega)
      obtain ⟨k', rfl⟩ : ∃ k', k = k' + 1 := ⟨k - 1, by omega⟩
      rw [srch, if_pos hij] at hs
      have hhalf := half_wrap (i := i) (j := j) (by omega)
      obtain ⟨md, hmd⟩ : ∃ md, (i + j) / 2 = md := ⟨_, rfl⟩
      rw [hmd] at hhalf hs
      have hm1 : i ≤ md ∧ md < j := by omega
      have hws := wrap_succ (show md < 1000000 by omega)
      have hp := pred_c H bs bc m c sp h md (by omega)
      simp (maxDischargeDepth := 6) only [g1, g5, g6, hb, hd, w_convert, hcv, hcv2, w_shr, bit_shr, hhalf, Int.reduceLE, Int.reduceToNat, ruW, putL, Nat.reduceLeDiff, xF, ruU, entryE, Nat.reduceLT, Nat.reduceAdd, Nat.reduceMul, Nat.reduceEqDiff]
      refine w_callV (f := 108) (ca := [.pointer (some ⟨bs, 0, none⟩), .pointer (some ⟨bc, 0, none⟩)]) (by simp only [ruU, entryE, Nat.reduceLT, Nat.reduceAdd, Nat.reduceMul, Nat.reduceEqDiff]) (by simp only [g1, ruU, entryE, Nat.reduceLT, Nat.reduceAdd, Nat.reduceMul, Nat.reduceEqDiff]) (by simp only [ruU, entryE, Nat.reduceLT, Nat.reduceAdd, Nat.reduceMul, Nat.reduceEqDiff]) (by kernel_rfl) ?_
      simp only [ruU, entryE, Nat.reduceLT, Nat.reduceAdd, Nat.reduceMul, Nat.reduceEqDiff]
      refine (show CallS Tryd.prog 108 _ (ext H []) _ (ext H []) from hp).to ?_
      cases hf : toGe c sp md with
      | true =>
        rw [hf, cond_true] at hs
        simp (maxDischargeDepth := 6) only [g1, g5, g6, hf, ruW, putL, Nat.reduceLeDiff, xF, ruU, entryE, Nat.reduceLT, Nat.reduceAdd, Nat.reduceMul, Nat.reduceEqDiff]
        refine loopC_next ⟨(i, md, k'), by simp only; omega, rfl, by simp only; omega, by simp only; omega, hs, ?_, ?_, ?_⟩ <;> simp only [g1, g5, g6, ruU, entryE, Nat.reduceLT, Nat.reduceAdd, Nat.reduceMul, Nat.reduceEqDiff]
      | false =>
        rw [hf, cond_false] at hs
        simp (maxDischargeDepth := 6) only [g1, g5, g6, hf, hws, ruW, putL, Nat.reduceLeDiff, xF, ruU, entryE, Nat.reduceLT, Nat.reduceAdd, Nat.reduceMul, Nat.reduceEqDiff]
        refine loopC_next ⟨(md + 1, j, k'), by simp only; omega, rfl, by simp only; omega, by simp only; omega, hs, ?_, ?_, ?_⟩ <;> simp only [g1, g5, g6, ruU, entryE, Nat.reduceLT, Nat.reduceAdd, Nat.reduceMul, Nat.reduceEqDiff]
    · have hd : decide ((i : Int) < (j : Int)) = false := decide_eq_false (by omega)
      rw [srch_done _ _ _ _ hij] at hs
      simp (maxDischargeDepth := 6) only [g1, g5, g6, hd, ruW, putL, Nat.reduceLeDiff, xF, ruU, entryE, Nat.reduceLT, Nat.reduceAdd, Nat.reduceMul, Nat.reduceEqDiff]
      refine joinR_normal ⟨rfl, ?_⟩
      simp only [g5, hs, ruU, entryE, Nat.reduceLT, Nat.reduceAdd, Nat.reduceMul, Nat.reduceEqDiff]
  clear g1 g5 g6 E
  rintro E X ⟨hX, g5⟩
  rw [hX, show H = ext H [] from rfl]
  simp (maxDischargeDepth := 6) only [g5, Tryd.results107, ruW, putL, Nat.reduceLeDiff, xF, ruU, entryE, Nat.reduceLT, Nat.reduceAdd, Nat.reduceMul, Nat.reduceEqDiff]
  exact Fin.pure rfl

def inR (c : Int) (sp : List (Int × Int)) : Bool :=
  decide (srch (toGe c sp) sp.length 0 sp.length < sp.length) && decide ((sp.getD (srch (toGe c sp) sp.length 0 sp.length) (0, 0)).1 ≤ c)

theorem in_c (H : AHeap) (m : Nat) (c : Int) (sp : List (Int × Int)) (h : ∃ e, bk H m = some ⟨e, false, spV sp⟩) (hlen : sp.length ≤ 1000) : Pure 93 [.int .i64 c, .slice (some ⟨m, 0, some 0⟩) sp.length sp.length] H (.bool (inR c sp)) := by
  obtain ⟨b, hb⟩ : ∃ b, H.next = b := ⟨_, rfl⟩
  obtain ⟨e, h3⟩ := h
  obtain ⟨k, hk⟩ : ∃ k, sp.length = k := ⟨_, rfl⟩
  obtain ⟨i, hi⟩ : ∃ i, srch (toGe c sp) sp.length 0 sp.length = i := ⟨_, rfl⟩
  obtain ⟨d1, hd1⟩ : ∃ d, decide (i < k) = d := ⟨_, rfl⟩
  have hd1' : decide ((i : Int) < (k : Int)) = d1 := by
    rw [← hd1]
    by_cases h : i < k
    · rw [decide_eq_true h, decide_eq_true (by omega)]
    · rw [decide_eq_false h, decide_eq_false (by omega)]
  refine callS_fn mixed Tryd.func93 rfl Tryd.ntmps93 (Nat.le_of_ble_eq_true rfl) fun wf hsc => ?_
  have hbase : H.base ≤ b := hb ▸ wf.base
  have l3 : m < b := hb ▸ wf.lt h3
  have hclo : Clo (ext H [⟨3, false, [.int .i64 c]⟩, ⟨133, false, [.slice (some ⟨m, 0, some 0⟩) sp.length sp.length]⟩]) (b + 1) (b + 0) m c sp :=
    ⟨by rw [bk_at hb (by simp)]; rfl, by rw [bk_at hb (by simp)]; rfl, e, by rw [bk_old (by omega)]; exact h3⟩
  have hse := search_c _ (b + 1) (b + 0) m c sp hclo hlen
  unfold inR
  rw [hi] at hse ⊢
  rw [hk] at hse ⊢
  rw [hd1]
  simp (maxDischargeDepth := 6) only [hb, hbase, l3, ruW, putL, Nat.reduceLeDiff, xF, ruU, entryE, Nat.reduceLT, Nat.reduceAdd, Nat.reduceMul, Nat.reduceEqDiff]
  refine hse.to ?_
  simp (maxDischargeDepth := 6) only [hb, hbase, l3, ruW, putL, Nat.reduceLeDiff, xF, ruU, entryE, Nat.reduceLT, Nat.reduceAdd, Nat.reduceMul, Nat.reduceEqDiff]
  refine w_drawB [] [(4, 14)] (by kernel_rfl) rfl (by kernel_rfl) fun ops anc hA hG => ?_
  simp only [all2_cons] at hG
  cases d1 with
  | false =>
    simp (maxDischargeDepth := 6) only [hb, hbase, l3, hG, hd1', Bool.false_and, Tryd.results93, ruD, ruW, putL, Nat.reduceLeDiff, xF, ruU, entryE, Nat.reduceLT, Nat.reduceAdd, Nat.reduceMul, Nat.reduceEqDiff]
    exact Fin.pureE rfl rfl
  | true =>
    have hik : i < sp.length := by rw [hk]; exact of_decide_eq_true hd1
    obtain ⟨q, hq⟩ : ∃ q, sp[i]? = some q := ⟨_, List.getElem?_eq_getElem hik⟩
    have hg := (spV_get sp i q hq).1
    have hd : sp.getD i (0, 0) = q := by rw [List.getD, hq]; rfl
    have hia := sp_ia (len := k) (cap := k) (n := m) (s := some 0) (k := i) (by omega)
    rw [hd]
    simp (maxDischargeDepth := 6) only [hb, hbase, l3, h3, hG, hd1', hia, hg, Bool.true_and, Tryd.results93, ruD, ruW, putL, Nat.reduceLeDiff, xF, ruU, entryE, Nat.reduceLT, Nat.reduceAdd, Nat.reduceMul, Nat.reduceEqDiff]
    exact Fin.pureE rfl rfl

def zeroSp : List (Int × Int) := [(768, 879), (1155, 1161), (1425, 1469), (8203, 8207), (8400, 8447), (65024, 65039), (65056, 65071)]
def twoSp : List (Int × Int) := [(0, 8), (10, 31), (127, 127), (4352, 4447), (11904, 12350), (12353, 42191), (44032, 55203), (63744, 64255), (65072, 65135), (65280, 65376), (65504, 65510), (127744, 128591), (129280, 129535), (131072, 262141)]
def widthR (c : Int) : Nat := if (!isR c || inR c zeroSp) = true then 0 else if inR c twoSp = true then 2 else 1

set_option maxHeartbeats 4000000 in
theorem width_c (H : AHeap) (c : Int) : Pure 58 [.int .i64 c] H (.int .i64 (widthR c : Int)) := by
  obtain ⟨b, hb⟩ : ∃ b, H.next = b := ⟨_, rfl⟩
  refine callS_fn mixed Tryd.func58 rfl Tryd.ntmps58 (Nat.le_of_ble_eq_true rfl) fun wf hsc => ?_
  have hbase : H.base ≤ b := hb ▸ wf.base
  have uA7 : Tryd.prog.underlying 130 = some (.array 7 129) := by kernel_rfl
  have uA14 : Tryd.prog.underlying 131 = some (.array 14 129) := by kernel_rfl
  have zSp : szOf Tryd.prog 129 = some 2 := by kernel_rfl
  have slA7 : ∀ (X : AHeap) (n : Nat), aSlice Tryd.prog X 130 (.pointer (some ⟨n, 0, none⟩)) none none none = some (.slice (some ⟨n, 0, some 0⟩) 7 7, X) := fun X n => by
    simp only [aSlice, uA7, bound, zSp, Option.bind_eq_bind, Option.bind_some]
    rfl
  have slA14 : ∀ (X : AHeap) (n : Nat), aSlice Tryd.prog X 131 (.pointer (some ⟨n, 0, none⟩)) none none none = some (.slice (some ⟨n, 0, some 0⟩) 14 14, X) := fun X n => by
    simp only [aSlice, uA14, bound, zSp, Option.bind_eq_bind, Option.bind_some]
    rfl
  obtain ⟨d0, hd0⟩ : ∃ d, isR c = d := ⟨_, rfl⟩
  obtain ⟨d1, hd1⟩ : ∃ d, inR c zeroSp = d := ⟨_, rfl⟩
  obtain ⟨d2, hd2⟩ : ∃ d, inR c twoSp = d := ⟨_, rfl⟩
  have his := is_c (ext H [⟨130, false, spV zeroSp⟩, ⟨131, false, spV twoSp⟩]) c
  have hin0 := in_c (ext H [⟨130, false, spV zeroSp⟩, ⟨131, false, spV twoSp⟩]) (b + 0) c zeroSp ⟨130, by rw [bk_at hb (by simp)]; rfl⟩ (by decide)
  have hin1 := in_c (ext H [⟨130, false, spV zeroSp⟩, ⟨131, false, spV twoSp⟩]) (b + 1) c twoSp ⟨131, by rw [bk_at hb (by simp)]; rfl⟩ (by decide)
  rw [hd0] at his
  rw [hd1] at hin0
  rw [hd2] at hin1
  have hl0 : zeroSp.length = 7 := rfl
  have hl1 : twoSp.length = 14 := rfl
  rw [hl0] at hin0
  rw [hl1] at hin1
  have key : widthR c = cond (!d0 || d1) 0 (cond d2 2 1) := by
    unfold widthR
    rw [hd0, hd1, hd2]
    cases d0 <;> cases d1 <;> cases d2 <;> rfl
  rw [key]
  simp (maxDischargeDepth := 6) only [hb, hbase, ruW, putL, Nat.reduceLeDiff, xF, ruU, entryE, Nat.reduceLT, Nat.reduceAdd, Nat.reduceMul, Nat.reduceEqDiff]
  refine his.to ?_
  cases d0 with
  | false =>
    simp (maxDischargeDepth := 6) only [hb, hbase, Bool.not_false, Bool.true_or, cond_true, Tryd.results58, ruW, putL, Nat.reduceLeDiff, xF, ruU, entryE, Nat.reduceLT, Nat.reduceAdd, Nat.reduceMul, Nat.reduceEqDiff]
    exact Fin.pureE rfl rfl
  | true =>
    simp (maxDischargeDepth := 6) only [hb, hbase, slA7, slA14, ruW, putL, Nat.reduceLeDiff, xF, ruU, entryE, Nat.reduceLT, Nat.reduceAdd, Nat.reduceMul, Nat.reduceEqDiff]
    refine hin0.to ?_
    cases d1 with
    | true =>
      simp (maxDischargeDepth := 6) only [hb, hbase, Bool.or_true, cond_true, Tryd.results58, ruW, putL, Nat.reduceLeDiff, xF, ruU, entryE, Nat.reduceLT, Nat.reduceAdd, Nat.reduceMul, Nat.reduceEqDiff]
      exact Fin.pureE rfl rfl
    | false =>
      simp (maxDischargeDepth := 6) only [hb, hbase, slA7, slA14, ruW, putL, Nat.reduceLeDiff, xF, ruU, entryE, Nat.reduceLT, Nat.reduceAdd, Nat.reduceMul, Nat.reduceEqDiff]
      refine hin1.to ?_
      cases d2 <;> (simp (maxDischargeDepth := 6) only [hb, hbase, Bool.not_true, Bool.or_false, cond_true, cond_false, Tryd.results58, ruW, putL, Nat.reduceLeDiff, xF, ruU, entryE, Nat.reduceLT, Nat.reduceAdd, Nat.reduceMul, Nat.reduceEqDiff]; exact Fin.pureE rfl rfl)

end Go.Proofs.YtfpckllenkifkaaDoor

/- The width of a character, as the reference finds it: the same. -/
namespace Go.Proofs.YtfpckllenkifkaaDoor
open Go.Ax
set_option linter.unusedSimpArgs false
set_option maxRecDepth 10000

theorem refIs_c (H : AHeap) (c : Int) : Pure 64 [.int .i64 c] H (.bool (isR c)) := by
  obtain ⟨d1, h1⟩ : ∃ d, decide (0 ≤ c) = d := ⟨_, rfl⟩
  obtain ⟨d2, h2⟩ : ∃ d, decide (c ≤ 1114111) = d := ⟨_, rfl⟩
  obtain ⟨d3, h3⟩ : ∃ d, decide (c < 55296) = d := ⟨_, rfl⟩
  obtain ⟨d4, h4⟩ : ∃ d, decide (57343 < c) = d := ⟨_, rfl⟩
  have k3 : decide (55296 ≤ c) = !d3 := by rw [← h3]; by_cases h : c < 55296 <;> simp [h] <;> omega
  have k4 : decide (c ≤ 57343) = !d4 := by rw [← h4]; by_cases h : 57343 < c <;> simp [h] <;> omega
  simp only [isR, h1, h2, k3, k4]
  refine callS_fn mixed Tryd.func64 rfl Tryd.ntmps64 (Nat.le_of_ble_eq_true rfl) fun wf hsc => ?_
  cases d1 <;> cases d2 <;> cases d3 <;> cases d4 <;> (simp (maxDischargeDepth := 6) only [h1, h2, h3, h4, Tryd.results64, ruW, putL, Nat.reduceLeDiff, xF, ruU, entryE, Nat.reduceLT, Nat.reduceAdd, Nat.reduceMul, Nat.reduceEqDiff]; exact Fin.pureE rfl rfl)

def linR (c : Int) (sp : List (Int × Int)) : Bool := sp.any fun q => decide (q.1 ≤ c) && decide (c ≤ q.2)

theorem ints_ia {len cap n : Nat} {s : Option Nat} {k : Nat} (hk : k < len) : aIndexAddr Tryd.prog 56 (.slice (some ⟨n, 0, s⟩) len cap) (.int .i64 (k : Int)) = some (.pointer (some ⟨n, k, none⟩)) := by
  rw [ia_slice (e := 3) (sz := 1) (by kernel_rfl) (by kernel_rfl) (by omega) (by omega)]
  simp

theorem refIn_c (H : AHeap) (m : Nat) (c : Int) (sp : List (Int × Int)) (h : ∃ e o, bk H m = some ⟨e, o, spV sp⟩) (hlen : sp.length ≤ 1000) : Pure 94 [.int .i64 c, .slice (some ⟨m, 0, some 0⟩) (sp.length * 2) (sp.length * 2)] H (.bool (linR c sp)) := by
  obtain ⟨b, hb⟩ : ∃ b, H.next = b := ⟨_, rfl⟩
  obtain ⟨e, o, h3⟩ := h
  refine callS_fn mixed Tryd.func94 rfl Tryd.ntmps94 (Nat.le_of_ble_eq_true rfl) fun wf hsc => ?_
  have l3 : m < b := hb ▸ wf.lt h3
  simp (maxDischargeDepth := 6) only [ruW, putL, Nat.reduceLeDiff, xF, ruU, entryE, Nat.reduceLT, Nat.reduceAdd, Nat.reduceMul, Nat.reduceEqDiff]
  refine w_env fun E hE => ?_
  have g0 : E 0 = .int .i64 c := by rw [hE]; simp only [ruU, entryE, Nat.reduceLT, Nat.reduceAdd, Nat.reduceMul, Nat.reduceEqDiff]
  have g1 : E 1 = .slice (some ⟨m, 0, some 0⟩) (sp.length * 2) (sp.length * 2) := by rw [hE]; simp only [ruU, entryE, Nat.reduceLT, Nat.reduceAdd, Nat.reduceMul, Nat.reduceEqDiff]
  have g5 : E 5 = .int .i64 ((0 * 2 : Nat) : Int) := by rw [hE]; (simp only [ruU, entryE, Nat.reduceLT, Nat.reduceAdd, Nat.reduceMul, Nat.reduceEqDiff] <;> rfl)
  clear hE
  refine blockC_meet (fun E' H' => H' = H ∧ linR c sp = false) ?_ ?_
  · refine w_loop (fun (k : Nat) E' H' => H' = H ∧ k ≤ sp.length ∧ linR c sp = linR c (sp.drop k) ∧ E' 0 = .int .i64 c ∧ E' 1 = .slice (some ⟨m, 0, some 0⟩) (sp.length * 2) (sp.length * 2) ∧ E' 5 = .int .i64 ((k * 2 : Nat) : Int)) (fun k => sp.length - k) 0
      ⟨rfl, Nat.zero_le _, rfl, g0, g1, g5⟩ ?_
    clear g0 g1 g5 E
    rintro k E X ⟨hX, hk, hs, g0, g1, g5⟩
    rw [hX, show H = ext H [] from rfl]
    have hw1 : IntKind.i64.wrap (((k * 2 : Nat) : Int) + 1) = ((k * 2 + 1 : Nat) : Int) := wrap_succ (by omega)
    by_cases hlt : k < sp.length
    · have hd : decide (((k * 2 + 1 : Nat) : Int) < ((sp.length * 2 : Nat) : Int)) = true := decide_eq_true (by omega)
      have hw2 : IntKind.i64.wrap (((k * 2 : Nat) : Int) + 2) = (((k + 1) * 2 : Nat) : Int) := (wrap_sm (by omega) (by omega)).trans (by omega)
      obtain ⟨q, hq⟩ : ∃ q, sp[k]? = some q := ⟨_, List.getElem?_eq_getElem hlt⟩
      obtain ⟨q1, q2⟩ := spV_get sp k q hq
      have hdr : sp.drop k = q :: sp.drop (k + 1) := by
        rw [List.drop_eq_getElem_cons hlt]
        rw [List.getElem?_eq_getElem hlt] at hq
        rw [Option.some.inj hq]
      have i0 := ints_ia (len := sp.length * 2) (cap := sp.length * 2) (n := m) (s := some 0) (k := k * 2) (by omega)
      have i1 := ints_ia (len := sp.length * 2) (cap := sp.length * 2) (n := m) (s := some 0) (k := k * 2 + 1) (by omega)
      obtain ⟨d1, hd1⟩ : ∃ d, decide (q.1 ≤ c) = d := ⟨_, rfl⟩
      obtain ⟨d2, hd2⟩ : ∃ d, decide (c ≤ q.2) = d := ⟨_, rfl⟩
      have hs : linR c sp = (d1 && d2 || linR c (sp.drop (k + 1))) := by rw [hs, hdr]; simp only [linR, List.any_cons, hd1, hd2]
      cases d1 with
      | false =>
        simp (maxDischargeDepth := 6) only [g0, g1, g5, hw1, hw2, hd, i0, i1, q1, q2, hb, l3, h3, hd1, ruW, putL, Nat.reduceLeDiff, xF, ruU, entryE, Nat.reduceLT, Nat.reduceAdd, Nat.reduceMul, Nat.reduceEqDiff]
        refine loopC_next ⟨k + 1, by omega, rfl, by omega, by simpa using hs, ?_, ?_, ?_⟩ <;> simp only [g0, g1, g5, ruU, entryE, Nat.reduceLT, Nat.reduceAdd, Nat.reduceMul, Nat.reduceEqDiff]
      | true =>
        cases d2 with
        | false =>
          simp (maxDischargeDepth := 6) only [g0, g1, g5, hw1, hw2, hd, i0, i1, q1, q2, hb, l3, h3, hd1, hd2, ruW, putL, Nat.reduceLeDiff, xF, ruU, entryE, Nat.reduceLT, Nat.reduceAdd, Nat.reduceMul, Nat.reduceEqDiff]
          refine loopC_next ⟨k + 1, by omega, rfl, by omega, by simpa using hs, ?_, ?_, ?_⟩ <;> simp only [g0, g1, g5, ruU, entryE, Nat.reduceLT, Nat.reduceAdd, Nat.reduceMul, Nat.reduceEqDiff]
        | true =>
          simp (maxDischargeDepth := 6) only [g0, g1, g5, hw1, hw2, hd, i0, i1, q1, q2, hb, l3, h3, hd1, hd2, joinR_ret, Tryd.results94, ruW, putL, Nat.reduceLeDiff, xF, ruU, entryE, Nat.reduceLT, Nat.reduceAdd, Nat.reduceMul, Nat.reduceEqDiff]
          exact Fin.pureE (by rw [hs]; rfl) rfl
    · have hd : decide (((k * 2 + 1 : Nat) : Int) < ((sp.length * 2 : Nat) : Int)) = false := decide_eq_false (by omega)
      rw [List.drop_eq_nil_of_le (by omega)] at hs
      simp (maxDischargeDepth := 6) only [g0, g1, g5, hw1, hd, ruW, putL, Nat.reduceLeDiff, xF, ruU, entryE, Nat.reduceLT, Nat.reduceAdd, Nat.reduceMul, Nat.reduceEqDiff]
      exact joinR_normal ⟨rfl, hs⟩
  clear g0 g1 g5 E
  rintro E X ⟨hX, hl⟩
  rw [hX, show H = ext H [] from rfl, hl]
  simp (maxDischargeDepth := 6) only [Tryd.results94, ruW, putL, Nat.reduceLeDiff, xF, ruU, entryE, Nat.reduceLT, Nat.reduceAdd, Nat.reduceMul, Nat.reduceEqDiff]
  exact Fin.pure rfl

def refWidth (c : Int) : Nat := if (!isR c || linR c zeroSp) = true then 0 else if linR c twoSp = true then 2 else 1

set_option maxHeartbeats 4000000 in
theorem refWidth_c0 (H : AHeap) (c : Int) : Pure 65 [.int .i64 c] H (.int .i64 (refWidth c : Int)) := by
  obtain ⟨b, hb⟩ : ∃ b, H.next = b := ⟨_, rfl⟩
  refine callS_fn mixed Tryd.func65 rfl Tryd.ntmps65 (Nat.le_of_ble_eq_true rfl) fun wf hsc => ?_
  have hbase : H.base ≤ b := hb ▸ wf.base
  obtain ⟨d0, hd0⟩ : ∃ d, isR c = d := ⟨_, rfl⟩
  obtain ⟨d1, hd1⟩ : ∃ d, linR c zeroSp = d := ⟨_, rfl⟩
  obtain ⟨d2, hd2⟩ : ∃ d, linR c twoSp = d := ⟨_, rfl⟩
  have his := refIs_c (ext H [⟨3, false, spV zeroSp⟩, ⟨3, false, spV twoSp⟩]) c
  have hin0 := refIn_c (ext H [⟨3, false, spV zeroSp⟩, ⟨3, false, spV twoSp⟩]) (b + 0) c zeroSp ⟨3, false, by rw [bk_at hb (by simp)]; rfl⟩ (by decide)
  have hin1 := refIn_c (ext H [⟨3, false, spV zeroSp⟩, ⟨3, false, spV twoSp⟩]) (b + 1) c twoSp ⟨3, false, by rw [bk_at hb (by simp)]; rfl⟩ (by decide)
  rw [hd0] at his
  rw [hd1] at hin0
  rw [hd2] at hin1
  have hl0 : zeroSp.length * 2 = 14 := rfl
  have hl1 : twoSp.length * 2 = 28 := rfl
  rw [hl0] at hin0
  rw [hl1] at hin1
  have key : refWidth c = cond (!d0 || d1) 0 (cond d2 2 1) := by
    unfold refWidth
    rw [hd0, hd1, hd2]
    cases d0 <;> cases d1 <;> cases d2 <;> rfl
  rw [key]
  simp (maxDischargeDepth := 6) only [hb, hbase, ruW, putL, Nat.reduceLeDiff, xF, ruU, entryE, Nat.reduceLT, Nat.reduceAdd, Nat.reduceMul, Nat.reduceEqDiff]
  refine his.to ?_
  cases d0 with
  | false =>
    simp (maxDischargeDepth := 6) only [hb, hbase, Bool.not_false, Bool.true_or, cond_true, Tryd.results65, ruW, putL, Nat.reduceLeDiff, xF, ruU, entryE, Nat.reduceLT, Nat.reduceAdd, Nat.reduceMul, Nat.reduceEqDiff]
    exact Fin.pureE rfl rfl
  | true =>
    simp (maxDischargeDepth := 6) only [hb, hbase, ruW, putL, Nat.reduceLeDiff, xF, ruU, entryE, Nat.reduceLT, Nat.reduceAdd, Nat.reduceMul, Nat.reduceEqDiff]
    refine hin0.to ?_
    cases d1 with
    | true =>
      simp (maxDischargeDepth := 6) only [hb, hbase, Bool.or_true, cond_true, Tryd.results65, ruW, putL, Nat.reduceLeDiff, xF, ruU, entryE, Nat.reduceLT, Nat.reduceAdd, Nat.reduceMul, Nat.reduceEqDiff]
      exact Fin.pureE rfl rfl
    | false =>
      simp (maxDischargeDepth := 6) only [hb, hbase, ruW, putL, Nat.reduceLeDiff, xF, ruU, entryE, Nat.reduceLT, Nat.reduceAdd, Nat.reduceMul, Nat.reduceEqDiff]
      refine hin1.to ?_
      cases d2 <;> (simp (maxDischargeDepth := 6) only [hb, hbase, Bool.not_true, Bool.or_false, cond_true, cond_false, Tryd.results65, ruW, putL, Nat.reduceLeDiff, xF, ruU, entryE, Nat.reduceLT, Nat.reduceAdd, Nat.reduceMul, Nat.reduceEqDiff]; exact Fin.pureE rfl rfl)

def sorted : List (Int × Int) → Bool
  | [] => true
  | [q] => decide (q.1 ≤ q.2)
  | q :: r :: l => decide (q.1 ≤ q.2) && decide (q.2 < r.1) && sorted (r :: l)

theorem sorted_tail {q : Int × Int} {l : List (Int × Int)} (h : sorted (q :: l) = true) : sorted l = true := by
  cases l with
  | nil => rfl
  | cons r l => simp only [sorted, Bool.and_eq_true] at h; exact h.2
theorem sorted_head {q : Int × Int} {l : List (Int × Int)} (h : sorted (q :: l) = true) : q.1 ≤ q.2 ∧ ∀ r ∈ l, q.2 < r.1 := by
  induction l generalizing q with
  | nil => simp only [sorted, decide_eq_true_eq] at h; exact ⟨h, fun r hr => by cases hr⟩
  | cons r l ih =>
    simp only [sorted, Bool.and_eq_true, decide_eq_true_eq] at h
    obtain ⟨h1, h2⟩ := ih h.2
    refine ⟨h.1.1, fun s hs => ?_⟩
    rcases List.mem_cons.1 hs with rfl | hs
    · exact h.1.2
    · have := h2 s hs; omega

theorem srch_spec (f : Nat → Bool) (n : Nat) (hm : ∀ i j, i ≤ j → j < n → f i = true → f j = true) : ∀ (k i j : Nat), j - i ≤ k → i ≤ j → j ≤ n → (∀ x, x < i → f x = false) → (∀ x, j ≤ x → x < n → f x = true) →
    srch f k i j ≤ n ∧ (∀ x, x < srch f k i j → f x = false) ∧ ∀ x, srch f k i j ≤ x → x < n → f x = true
  | 0, i, j, hk, hij, hj, h1, h2 => by
    have : i = j := by omega
    subst this
    exact ⟨hj, h1, h2⟩
  | k + 1, i, j, hk, hij, hj, h1, h2 => by
    rw [srch]
    by_cases h : i < j
    · rw [if_pos h]
      cases hf : f ((i + j) / 2) with
      | true =>
        rw [cond_true]
        exact srch_spec f n hm k i _ (by omega) (by omega) (by omega) h1 fun x hx hn => hm _ x hx hn hf
      | false =>
        rw [cond_false]
        refine srch_spec f n hm k _ j (by omega) (by omega) hj (fun x hx => ?_) h2
        cases hx2 : f x with
        | false => rfl
        | true => rw [hm x _ (by omega) (by omega) hx2] at hf; cases hf
    · rw [if_neg h]
      have : i = j := by omega
      subst this
      exact ⟨hj, h1, h2⟩

theorem sorted_get : ∀ {l : List (Int × Int)}, sorted l = true → ∀ (i j : Nat) (q r : Int × Int), i < j → l[i]? = some q → l[j]? = some r → q.2 < r.1
  | [], _, i, j, q, r, _, h, _ => by simp at h
  | x :: l, hs, 0, j + 1, q, r, _, h1, h2 => by
    simp only [List.getElem?_cons_zero, Option.some.injEq] at h1
    subst h1
    exact (sorted_head hs).2 r (List.mem_of_getElem? (by simpa using h2))
  | x :: l, hs, i + 1, j + 1, q, r, hij, h1, h2 => sorted_get (sorted_tail hs) i j q r (by omega) (by simpa using h1) (by simpa using h2)
theorem sorted_ok : ∀ {l : List (Int × Int)}, sorted l = true → ∀ q ∈ l, q.1 ≤ q.2
  | [], _, q, h => by cases h
  | x :: l, hs, q, h => by
    rcases List.mem_cons.1 h with rfl | h
    · exact (sorted_head hs).1
    · exact sorted_ok (sorted_tail hs) q h

theorem inR_lin {sp : List (Int × Int)} (hs : sorted sp = true) (c : Int) : inR c sp = linR c sp := by
  have hget : ∀ i, i < sp.length → ∃ q, sp[i]? = some q ∧ sp.getD i (0, 0) = q := fun i hi => ⟨_, List.getElem?_eq_getElem hi, by simp [List.getD, hi]⟩
  obtain ⟨h1, h2, h3⟩ := srch_spec (toGe c sp) sp.length (fun i j hij hj hi => by
    obtain ⟨q, hq, dq⟩ := hget i (by omega)
    obtain ⟨r, hr, dr⟩ := hget j hj
    simp only [toGe, dq, dr, decide_eq_true_eq] at hi ⊢
    rcases Nat.lt_or_ge i j with h | h
    · have a := sorted_get hs i j q r h hq hr
      have b := sorted_ok hs r (List.mem_of_getElem? hr)
      omega
    · have : i = j := by omega
      subst this
      rw [hq] at hr
      rw [← Option.some.inj hr]; exact hi) sp.length 0 sp.length (by omega) (by omega) (Nat.le_refl _) (fun x hx => by omega) (fun x hx hn => by omega)
  unfold inR
  obtain ⟨i, hi⟩ : ∃ i, srch (toGe c sp) sp.length 0 sp.length = i := ⟨_, rfl⟩
  rw [hi] at h1 h2 h3 ⊢
  rw [Bool.eq_iff_iff]
  simp only [Bool.and_eq_true, decide_eq_true_eq, linR, List.any_eq_true]
  constructor
  · rintro ⟨hlt, hle⟩
    obtain ⟨q, hq, dq⟩ := hget i hlt
    have := h3 i (Nat.le_refl _) hlt
    simp only [toGe, dq, decide_eq_true_eq] at this
    rw [dq] at hle
    exact ⟨q, List.mem_of_getElem? hq, hle, this⟩
  · rintro ⟨q, hq, ha, hb⟩
    obtain ⟨j, hj, rfl⟩ := List.getElem_of_mem hq
    obtain ⟨q', hq', dq⟩ := hget j hj
    rw [List.getElem?_eq_getElem hj] at hq'
    have hq' := Option.some.inj hq'
    have htj : toGe c sp j = true := by simp only [toGe, dq, ← hq', decide_eq_true_eq]; exact hb
    have hij : i ≤ j := by
      rcases Nat.lt_or_ge j i with h | h
      · rw [h2 j h] at htj; cases htj
      · exact h
    have hlt : i < sp.length := by omega
    obtain ⟨r, hr, dr⟩ := hget i hlt
    refine ⟨hlt, ?_⟩
    rw [dr]
    rcases Nat.lt_or_ge i j with h | h
    · have a := sorted_get hs i j r sp[j] h hr (List.getElem?_eq_getElem hj)
      have b := h3 i (Nat.le_refl _) hlt
      simp only [toGe, dr, decide_eq_true_eq] at b
      omega
    · have : i = j := by omega
      subst this
      rw [List.getElem?_eq_getElem hj] at hr
      rw [← Option.some.inj hr]; exact ha

theorem refWidth_eq (c : Int) : refWidth c = widthR c := by
  unfold refWidth widthR
  rw [inR_lin (by decide) c, inR_lin (by decide) c]

theorem refWidth_c (H : AHeap) (c : Int) : Pure 65 [.int .i64 c] H (.int .i64 (widthR c : Int)) := refWidth_eq c ▸ refWidth_c0 H c

end Go.Proofs.YtfpckllenkifkaaDoor

/- Walks: strings gone through by range; slices that append makes longer. -/
namespace Go.Ax
set_option linter.unusedSimpArgs false
section
variable {P : Program} {ro : Option Nat} {H : AHeap} {N : Nat} {E : Env} {ds : List Deferred} {ops : Array Oper} {rest : List Oper} {d : Nat} {ty : TypeId} {pos : String} {after : Array Edge}

theorem ix_str {t : TypeId} {s : ByteArray} {i : Int} {k : Nat} {c : UInt8} {kd : IntKind} (hu : P.underlying t = some .string) (hi : i = k) (hc : s.data.toList[k]? = some c) : aIndex P t (.string s) (.int kd i) = some (.int .u8 (c.toNat : Int)) := by
  subst hi
  simp only [aIndex, hu]
  rw [if_pos (Int.natCast_nonneg k), Int.toNat_natCast, hc]
  rfl

theorem bt_lenStr {t : TypeId} {s : ByteArray} (hu : P.underlying t = some .string) : aBuiltin P H .len ⟨[t]⟩ [.string s] = some (goInt s.size, H) := by simp [aBuiltin, aLen, hu]
theorem rb_lenStr {t : TypeId} {s : ByteArray} (hu : P.underlying t = some .string) : regBt P .len ⟨[t]⟩ [.string s] = some (goInt s.size) := by simp [regBt, hu]
theorem w_rangeS {Q : Exit → AAct → AHeap → Prop} {x : Operand} {t : TypeId} (hx : opOk P N x = true) : wpOps P ro ops (⟨some d, .range t x, ty, pos, after, none⟩ :: rest) (mkA N E ds) H Q = heapC P ro ops rest N E ds (some d) Q (aRange P H t (opv E x)) :=
  w_rvh rfl (by simp only [aop, xRange, aeval_opv hx, Option.bind_eq_bind, Option.bind_some])
theorem w_nextS {Q : Exit → AAct → AHeap → Prop} {x : Operand} {s : Bool} (hx : opOk P N x = true) : wpOps P ro ops (⟨some d, .next x s, ty, pos, after, none⟩ :: rest) (mkA N E ds) H Q = heapC P ro ops rest N E ds (some d) Q (aNext H (opv E x) s) :=
  w_rvh rfl (by simp only [aop, xNext, aeval_opv hx, Option.bind_eq_bind, Option.bind_some])

def itO (s : ByteArray) (p : Nat) : AObj := ⟨.stringIter s p, false, ⟨[], 0⟩⟩
theorem range_str {t : TypeId} {s : ByteArray} (hu : P.underlying t = some .string) : aRange P H t (.string s) = some (.pointer (some ⟨H.next, 0, none⟩), H.new (itO s 0)) := by simp only [aRange, hu, itO]
theorem next_str {n p : Nat} {s : ByteArray} (h : H.get n = some (itO s p)) (hp : p < s.size) : aNext H (.pointer (some ⟨n, 0, none⟩)) true = some (.tuple #[.bool true, goInt p, .int .i32 (Utf8.decode s p).1], H.upd n (some (itO s (p + (Utf8.decode s p).2)))) := by
  simp only [aNext, h, itO]
  rw [if_pos hp]
theorem next_end {n p : Nat} {s : ByteArray} (h : H.get n = some (itO s p)) (hp : ¬ p < s.size) : aNext H (.pointer (some ⟨n, 0, none⟩)) true = some (.tuple #[.bool false], H) := by
  simp only [aNext, h, itO]
  rw [if_neg hp]

theorem wd_convert {Q : AAct → AHeap → Prop} {i : Nat} {fps : List Fp} {anc : List Nat} {x : Operand} {s t : TypeId} {dst : Option Nat} :
    wkD P ops anc (⟨dst, .convert s t x, ty, pos, after, none⟩ :: rest) i fps (mkA N E ds) H Q = genV P ops anc ⟨dst, .convert s t x, ty, pos, after, none⟩ rest i fps (mkA N E ds) H Q := by
  simp only [wkD, wantA, stepD, pureOp, restD, newOp, genV]
theorem wd_cvint {Q : AAct → AHeap → Prop} {i : Nat} {fps : List Fp} {anc : List Nat} {x : Operand} {s t : TypeId} {u : TypeDesc} {k k0 : IntKind} {n : Int} (hx : opOk P N x = true) (hd : d < N) (hs : P.underlying s = some u) (ht : P.underlying t = some (.int k)) (hv : opv E x = .int k0 n)
    (h : wkD P ops anc rest (i + 1) (⟨i, [], [], H.next, H.next + 0⟩ :: fps) (mkA N (upd E d (.int k (k.wrap n))) ds) H Q) : wkD P ops anc (⟨some d, .convert s t x, ty, pos, after, none⟩ :: rest) i fps (mkA N E ds) H Q := by
  rw [wd_convert]
  refine genV_val rfl hd (fun G => by simp only [aop, xConvert, aeval_opv hx, hv, cv_int hs ht, rvh, Option.bind_eq_bind, Option.bind_some, Option.map_some]) (fun r _ => ?_) h
  right
  exact ⟨fun _ _ h => (by cases h), fun _ _ h => (by cases h), fun _ => ⟨fun _ h => (by cases h), fun _ h => (by cases h)⟩⟩

theorem cells_of_bk {n : Nat} {b : Bl} (h : bk H n = some b) : ∃ rv, cellsAt H n = some (rv, b.e, b.o) ∧ rv.n = b.l.length := by
  obtain ⟨rv, h1, h2, h3⟩ := bk_blk h
  exact ⟨rv, h1, h2⟩

theorem app_opnR {st xt e : TypeId} {sz by1 m off k n off2 cnt cap : Nat} {sp s : Option Nat} {z : Value} {b bm : Bl} (hu : P.underlying st = some (.slice e)) (hsz : szOf P e = some sz) (hby : bytesOf P e = some by1) (hz : zeroOf P e = some z) (hzl : z.cells.toList.length = sz) (hi : intTy P xt = some false)
    (hm : bk H m = some bm) (he : bm.e = e) (ho : bm.o = true) (hle : off + k * sz ≤ bm.l.length) (hone : ((bm.l.drop off).take (k * sz)).all one = true) (hsp : sp = none ∨ (∃ j, sp = some (j + 1)) ∧ k = 0)
    (hb : rk H n = some b) (hle2 : off2 + cnt * sz ≤ b.l.length) (hone2 : ((b.l.drop off2).take (cnt * sz)).all one = true) (hc : 0 < cnt) (hsm : small (k + cnt) by1 = true) :
    aBuiltin P H .append ⟨[st, xt]⟩ [.slice (some ⟨m, off, sp⟩) k k, .slice (some ⟨n, off2, s⟩) cnt cap] = (aNew (H.upd m none) e ((bm.l.drop off).take (k * sz) ++ (b.l.drop off2).take (cnt * sz)) true).map fun g => (.slice (some ⟨H.next, 0, none⟩) (k + cnt) (k + cnt), g) := by
  have hl : ((b.l.drop off2).take (cnt * sz)).length = cnt * sz := by simp; omega
  have hl2 : ((bm.l.drop off).take (k * sz)).length = k * sz := by simp; omega
  obtain ⟨rv, hcm, hrn⟩ := cells_of_bk hm
  have hop := isOpen_bk hm
  rw [ho] at hop
  have hf := first_bk (sz := sz) (cnt := k) (off := off) (len := k) (cap := k) (s := sp) hm hle
  have hex : exactAp H ⟨m, off, sp⟩ k k = some false := by
    rcases hsp with rfl | ⟨⟨j, rfl⟩, rfl⟩
    · simp only [exactAp, exactAt, hop, Option.map_some, Bool.not_true]
    · simp only [exactAp, hop]
      rfl
  simp only [aBuiltin, aAppend, hu, hsz, hby, hz, hi, Option.bind_eq_bind, Option.bind_some, lenV, first_rk hb hle2, hl, hzl, hsm, and_self, if_true, aAppend2]
  rw [if_neg (by omega)]
  simp only [hf, Option.bind_some, hl2, hone, hone2, decide_true, Bool.and_self, if_true, hex, hcm]
  rw [if_pos ⟨he, by rw [Nat.ble_eq, hrn]; omega⟩]
  cases aNew (H.upd m none) e ((bm.l.drop off).take (k * sz) ++ (b.l.drop off2).take (cnt * sz)) true <;> rfl

theorem app_nilP {st xt e : TypeId} {sz by1 n off cnt cap : Nat} {s : Option Nat} {z : Value} {b : Bl} (hu : P.underlying st = some (.slice e)) (hsz : szOf P e = some sz) (hby : bytesOf P e = some by1) (hz : zeroOf P e = some z) (hzl : z.cells.toList.length = sz) (hi : intTy P xt = some false)
    (hb : rk H n = some b) (hle : off + cnt * sz ≤ b.l.length) (hone : ((b.l.drop off).take (cnt * sz)).all one = true) (hc : 0 < cnt) (hsm : small cnt by1 = true) :
    aBuiltin P H .append ⟨[st, xt]⟩ [.slice none 0 0, .slice (some ⟨n, off, s⟩) cnt cap] = (aNew H e ((b.l.drop off).take (cnt * sz)) true).map fun g => (.slice (some ⟨H.next, 0, none⟩) cnt cnt, g) := by
  have hl : ((b.l.drop off).take (cnt * sz)).length = cnt * sz := by simp; omega
  simp only [aBuiltin, aAppend, hu, hsz, hby, hz, hi, Option.bind_eq_bind, Option.bind_some, lenV, first_rk hb hle, hl, hzl, Nat.zero_add, hsm, and_self, if_true, aAppend2]
  rw [if_neg (by omega)]
  simp only [firstC, Option.bind_some, List.length_nil, Nat.zero_mul, List.all_nil, hone, decide_true, Bool.and_self, if_true, List.nil_append]
  cases aNew H e ((b.l.drop off).take (cnt * sz)) true <;> rfl

def VsAt (H : AHeap) (e : TypeId) (sz : Nat) (v : Value) (vs : List Value) (cnt : Nat) : Prop :=
  vs.length = cnt * sz ∧ vs.all one = true ∧ ((cnt = 0 ∧ v = .slice none 0 0) ∨ (0 < cnt ∧ ∃ n, v = .slice (some ⟨n, 0, none⟩) cnt cnt ∧ bk H n = some ⟨e, true, vs⟩ ∧ n < H.next))
theorem VsAt.nil {e : TypeId} {sz : Nat} : VsAt H e sz (.slice none 0 0) [] 0 := ⟨by simp, rfl, .inl ⟨rfl, rfl⟩⟩
theorem VsAt.of {G : AHeap} {e : TypeId} {sz cnt : Nat} {v : Value} {vs : List Value} (h : VsAt H e sz v vs cnt) (hn : H.next ≤ G.next) (hg : ∀ n ∈ idsV v, G.get n = H.get n) : VsAt G e sz v vs cnt := by
  obtain ⟨h1, h2, ⟨rfl, rfl⟩ | ⟨h0, n, rfl, hb, hlt⟩⟩ := h
  · exact ⟨h1, h2, .inl ⟨rfl, rfl⟩⟩
  · exact ⟨h1, h2, .inr ⟨h0, n, rfl, (bk_get (hg n (by simp [idsV]))).trans hb, by omega⟩⟩
theorem VsAt.ne {e : TypeId} {sz cnt : Nat} {v : Value} {vs : List Value} (h : VsAt H e sz v vs cnt) : ∀ n ∈ idsV v, H.get n ≠ none ∧ n < H.next := by
  obtain ⟨h1, h2, ⟨rfl, rfl⟩ | ⟨h0, n, rfl, hb, hlt⟩⟩ := h <;> intro m hm <;> simp only [idsV, List.mem_singleton, List.not_mem_nil] at hm
  subst hm; exact ⟨bk_ne hb, hlt⟩
theorem VsAt.one {e : TypeId} {sz cnt : Nat} {v : Value} {vs : List Value} (h : VsAt H e sz v vs cnt) : Go.Ax.one v = true := by
  obtain ⟨h1, h2, ⟨rfl, rfl⟩ | ⟨h0, n, rfl, hb, hlt⟩⟩ := h <;> rfl
theorem VsAt.sc {e : TypeId} {sz cnt : Nat} {v : Value} {vs : List Value} (h : VsAt H e sz v vs cnt) : scb H.next v = true := by
  obtain ⟨h1, h2, ⟨rfl, rfl⟩ | ⟨h0, n, rfl, hb, hlt⟩⟩ := h
  · rfl
  · exact blt_of hlt
theorem VsAt.len {e : TypeId} {sz cnt : Nat} {v : Value} {vs : List Value} (h : VsAt H e sz v vs cnt) : ∃ a, v = .slice a cnt cnt := by
  obtain ⟨h1, h2, ⟨rfl, rfl⟩ | ⟨h0, n, rfl, hb, hlt⟩⟩ := h
  · exact ⟨_, rfl⟩
  · exact ⟨_, rfl⟩

theorem vs_app {st xt e : TypeId} {sz by1 n off cnt cnt2 cap x : Nat} {s : Option Nat} {z v : Value} {b : Bl} {vs ws : List Value} (hu : P.underlying st = some (.slice e)) (hsz : szOf P e = some sz) (hby : bytesOf P e = some by1) (hz : zeroOf P e = some z) (hzl : z.cells.toList.length = sz) (hi : intTy P xt = some false)
    (h : VsAt H e sz v vs cnt) (hb : rk H n = some b) (hle : off + cnt2 * sz ≤ b.l.length) (hws : (b.l.drop off).take (cnt2 * sz) = ws) (hone : ws.all one = true) (hc : 0 < cnt2) (hsm : small (cnt + cnt2) by1 = true) (hx : H.next = x) (hsc : scbL H.next (vs ++ ws) = true) :
    ∃ G, aBuiltin P H .append ⟨[st, xt]⟩ [v, .slice (some ⟨n, off, s⟩) cnt2 cap] = some (.slice (some ⟨x, 0, none⟩) (cnt + cnt2) (cnt + cnt2), G) ∧ VsAt G e sz (.slice (some ⟨x, 0, none⟩) (cnt + cnt2) (cnt + cnt2)) (vs ++ ws) (cnt + cnt2) ∧ (H.base ≤ H.next → Mod (idsV v) H G) ∧ G.next = x + 1 ∧ (∀ m, m < x → m ∉ idsV v → G.get m = H.get m) := by
  have hwl : ws.length = cnt2 * sz := by rw [← hws]; simp; omega
  obtain ⟨h1, h2, ⟨rfl, rfl⟩ | ⟨h0, m, rfl, hm, hlt⟩⟩ := h
  · have hv : vs = [] := List.eq_nil_of_length_eq_zero (by simpa using h1)
    subst hv
    rw [List.nil_append] at hsc ⊢
    have happ := app_nilP (H := H) (st := st) (xt := xt) (n := n) (off := off) (cnt := cnt2) (cap := cap) (s := s) hu hsz hby hz hzl hi hb hle (by rw [hws]; exact hone) hc (by simpa using hsm)
    have hn := new_ext (H := H) (L := []) (e := e) (l := ws) (o := true) (by simpa using hsc)
    rw [hws, show aNew H e ws true = aNew (ext H []) e ws true from rfl, hn, Option.map_some, hx] at happ
    refine ⟨ext H [⟨e, true, ws⟩], by rw [Nat.zero_add]; exact happ, ⟨by rw [hwl, Nat.zero_add], hone, .inr ⟨by omega, x, rfl, ?_, by rw [ext_next, hx]; simp⟩⟩, fun hok => Mod.ext hok, by rw [ext_next, hx]; rfl, fun m hm _ => ext_get_old (by omega)⟩
    rw [show x = x + 0 from rfl, bk_at hx (by simp)]; rfl
  · have hdr : (vs.drop 0).take (cnt * sz) = vs := by rw [List.drop_zero]; exact List.take_of_length_le (by omega)
    have happ := app_opnR (H := H) (st := st) (xt := xt) (m := m) (off := 0) (k := cnt) (sp := none) (n := n) (off2 := off) (cnt := cnt2) (cap := cap) (s := s) hu hsz hby hz hzl hi hm rfl rfl (by simp only; omega) (by simp only [hdr]; exact h2) (.inl rfl) hb hle (by rw [hws]; exact hone) hc hsm
    simp only [hdr, hws] at happ
    have hn := new_ext (H := dp H m) (L := []) (e := e) (l := vs ++ ws) (o := true) (by rw [dp_next]; simpa using hsc)
    rw [show H.upd m none = ext (dp H m) [] from rfl, hn, Option.map_some, hx] at happ
    have mD : Mod (idsV (.slice (some ⟨m, 0, none⟩) cnt cnt)) H (dp H m) := Mod.upd (by simp [idsV])
    refine ⟨ext (dp H m) [⟨e, true, vs ++ ws⟩], happ, ⟨by rw [List.length_append, h1, hwl, Nat.add_mul], by rw [List.all_append, h2, hone]; rfl, .inr ⟨by omega, x, rfl, ?_, by rw [ext_next, dp_next, hx]; simp⟩⟩, fun hok => mD.trans (Mod.ext (mD.ok hok)), by rw [ext_next, dp_next, hx]; rfl, fun q hq hqn => ?_⟩
    · rw [show x = x + 0 from rfl, bk_at (show (dp H m).next = x from hx) (by simp)]; rfl
    · rw [ext_get_old (by rw [dp_next]; omega), dp_get (by simpa [idsV] using hqn)]

end
end Go.Ax

/- Characters of a string, as the reference finds them. -/
namespace Go.Proofs.YtfpckllenkifkaaDoor
open Go.Ax
set_option linter.unusedSimpArgs false
set_option maxRecDepth 10000

def bt (l : List UInt8) (i : Nat) : Int := ((l.getD i 0).toNat : Int)
theorem bt_lt (l : List UInt8) (i : Nat) : 0 ≤ bt l i ∧ bt l i < 256 := by
  have := (l.getD i 0).toNat_lt
  unfold bt
  omega
def tl (l : List UInt8) (i : Nat) : Bool := decide (i < l.length) && decide (128 ≤ bt l i) && decide (bt l i < 192)
theorem tl_lt {l : List UInt8} {i : Nat} (h : tl l i = true) : i < l.length ∧ 128 ≤ bt l i ∧ bt l i < 192 := by
  simp only [tl, Bool.and_eq_true, decide_eq_true_eq] at h
  exact ⟨h.1.1, h.1.2, h.2⟩

theorem u9 : Tryd.prog.underlying 9 = some .string := by kernel_rfl
theorem ix_bt {s : ByteArray} {i : Nat} {j : Int} (hj : j = i) (h : i < s.data.toList.length) : aIndex Tryd.prog 9 (.string s) (.int .i64 j) = some (.int .u8 (bt s.data.toList i)) := by
  have : s.data.toList[i]? = some (s.data.toList.getD i 0) := by rw [List.getD_eq_getElem?_getD, List.getElem?_eq_getElem h]; rfl
  rw [ix_str u9 hj this]
  rfl
theorem size_len (s : ByteArray) : s.size = s.data.toList.length := Array.length_toList.symm

theorem tail_c (H : AHeap) (s : ByteArray) (i : Nat) (j : Int) (hj : j = i) : Pure 95 [.string s, .int .i64 j] H (.bool (tl s.data.toList i)) := by
  refine callS_fn mixed Tryd.func95 rfl Tryd.ntmps95 (Nat.le_of_ble_eq_true rfl) fun wf hsc => ?_
  obtain ⟨l, hl⟩ : ∃ l, s.data.toList = l := ⟨_, rfl⟩
  have hsz : (s.size : Int) = (l.length : Int) := by rw [size_len, hl]
  obtain ⟨d1, h1⟩ : ∃ d, decide (i < l.length) = d := ⟨_, rfl⟩
  have h1' : decide (j < (s.size : Int)) = d1 := by
    rw [← h1, hsz, hj]
    by_cases h : i < l.length
    · rw [decide_eq_true h, decide_eq_true (by omega)]
    · rw [decide_eq_false h, decide_eq_false (by omega)]
  obtain ⟨d2, h2⟩ : ∃ d, decide (128 ≤ bt l i) = d := ⟨_, rfl⟩
  obtain ⟨d3, h3⟩ : ∃ d, decide (bt l i < 192) = d := ⟨_, rfl⟩
  simp only [tl, hl, h1, h2, h3]
  cases d1 with
  | false =>
    simp (maxDischargeDepth := 6) only [bt_lenStr u9, h1', Bool.false_and, Tryd.results95, ruW, putL, Nat.reduceLeDiff, xF, ruU, entryE, Nat.reduceLT, Nat.reduceAdd, Nat.reduceMul, Nat.reduceEqDiff]
    exact Fin.pureE rfl rfl
  | true =>
    have ix := ix_bt (s := s) (i := i) hj (by rw [hl]; exact of_decide_eq_true h1)
    rw [hl] at ix
    cases d2 <;> (simp (maxDischargeDepth := 6) only [bt_lenStr u9, h1', h2, h3, ix, Bool.true_and, Bool.false_and, Tryd.results95, ruW, putL, Nat.reduceLeDiff, xF, ruU, entryE, Nat.reduceLT, Nat.reduceAdd, Nat.reduceMul, Nat.reduceEqDiff]; exact Fin.pureE rfl rfl)

def ptR (l : List UInt8) : Int × Int :=
  cond (decide (bt l 0 < 128)) (bt l 0, 1) <|
  cond (decide (194 ≤ bt l 0) && decide (bt l 0 < 224) && tl l 1) ((bt l 0 - 192) * 64 + bt l 1 - 128, 2) <|
  cond (decide (224 ≤ bt l 0) && decide (bt l 0 < 240) && tl l 1 && tl l 2)
    (cond (decide (2048 ≤ ((bt l 0 - 224) * 64 + bt l 1 - 128) * 64 + bt l 2 - 128) && isR (((bt l 0 - 224) * 64 + bt l 1 - 128) * 64 + bt l 2 - 128)) (((bt l 0 - 224) * 64 + bt l 1 - 128) * 64 + bt l 2 - 128, 3) (0, 0)) <|
  cond (decide (240 ≤ bt l 0) && decide (bt l 0 < 245) && tl l 1 && tl l 2 && tl l 3)
    (cond (decide (65536 ≤ (((bt l 0 - 240) * 64 + bt l 1 - 128) * 64 + bt l 2 - 128) * 64 + bt l 3 - 128) && isR ((((bt l 0 - 240) * 64 + bt l 1 - 128) * 64 + bt l 2 - 128) * 64 + bt l 3 - 128)) ((((bt l 0 - 240) * 64 + bt l 1 - 128) * 64 + bt l 2 - 128) * 64 + bt l 3 - 128, 4) (0, 0))
  (0, 0)

set_option maxHeartbeats 4000000 in
theorem point_c (H : AHeap) (s : ByteArray) (l : List UInt8) (hl : s.data.toList = l) (h0 : 0 < l.length) : Pure 66 [.string s] H (.tuple #[.int .i64 (ptR l).1, .int .i64 (ptR l).2]) := by
  refine callS_fn mixed Tryd.func66 rfl Tryd.ntmps66 (Nat.le_of_ble_eq_true rfl) fun wf hsc => ?_
  have hcv : ∀ (X : AHeap) (m : Int), aConvert Tryd.prog X 5 3 (.int .u8 m) = some (.int .i64 (IntKind.i64.wrap m), X) := fun X m => cv_int (u := .int .u8) (by kernel_rfl) (by kernel_rfl)
  have u5 : Tryd.prog.underlying 5 = some (.int .u8) := by kernel_rfl
  have u3 : Tryd.prog.underlying 3 = some (.int .i64) := by kernel_rfl
  have x0 := ix_bt (s := s) (i := 0) (j := 0) rfl (by rw [hl]; exact h0)
  have k1 := tail_c (ext H []) s 1 1 rfl
  have k2 := tail_c (ext H []) s 2 2 rfl
  have k3 := tail_c (ext H []) s 3 3 rfl
  rw [hl] at x0 k1 k2 k3
  have x1 : tl l 1 = true → aIndex Tryd.prog 9 (.string s) (.int .i64 1) = some (.int .u8 (bt l 1)) := fun h => by
    have := ix_bt (s := s) (i := 1) (j := 1) rfl (by rw [hl]; exact (tl_lt h).1)
    rwa [hl] at this
  have x2 : tl l 2 = true → aIndex Tryd.prog 9 (.string s) (.int .i64 2) = some (.int .u8 (bt l 2)) := fun h => by
    have := ix_bt (s := s) (i := 2) (j := 2) rfl (by rw [hl]; exact (tl_lt h).1)
    rwa [hl] at this
  have x3 : tl l 3 = true → aIndex Tryd.prog 9 (.string s) (.int .i64 3) = some (.int .u8 (bt l 3)) := fun h => by
    have := ix_bt (s := s) (i := 3) (j := 3) rfl (by rw [hl]; exact (tl_lt h).1)
    rwa [hl] at this
  have r0 := bt_lt l 0
  have r1 := bt_lt l 1
  have r2 := bt_lt l 2
  have r3 := bt_lt l 3
  unfold ptR
  obtain ⟨t1, ht1⟩ : ∃ t, tl l 1 = t := ⟨_, rfl⟩
  obtain ⟨t2, ht2⟩ : ∃ t, tl l 2 = t := ⟨_, rfl⟩
  obtain ⟨t3, ht3⟩ : ∃ t, tl l 3 = t := ⟨_, rfl⟩
  rw [ht1] at k1 x1 ⊢
  rw [ht2] at k2 x2 ⊢
  rw [ht3] at k3 x3 ⊢
  clear ht1 ht2 ht3 hl h0
  generalize bt l 0 = a at *
  generalize bt l 1 = b at *
  generalize bt l 2 = c at *
  generalize bt l 3 = d at *
  have wa : IntKind.i64.wrap a = a := wrap_sm (by omega) (by omega)
  have wb : IntKind.i64.wrap b = b := wrap_sm (by omega) (by omega)
  have wc : IntKind.i64.wrap c = c := wrap_sm (by omega) (by omega)
  have wd : IntKind.i64.wrap d = d := wrap_sm (by omega) (by omega)
  by_cases h1 : a < 128
  · have e1 : decide (a < 128) = true := decide_eq_true h1
    simp (maxDischargeDepth := 6) only [x0, w_convert, hcv, wa, e1, cond_true, Tryd.results66, ruW, putL, Nat.reduceLeDiff, xF, ruU, entryE, Nat.reduceLT, Nat.reduceAdd, Nat.reduceMul, Nat.reduceEqDiff]
    exact Fin.pureE rfl rfl
  have e1 : decide (a < 128) = false := decide_eq_false h1
  rw [e1, cond_false]
  by_cases h2 : a < 194
  · have e2 : decide (194 ≤ a) = false := decide_eq_false (by omega)
    have e3 : decide (224 ≤ a) = false := decide_eq_false (by omega)
    have e4 : decide (240 ≤ a) = false := decide_eq_false (by omega)
    simp (maxDischargeDepth := 6) only [x0, w_convert, hcv, wa, e1, e2, e3, e4, Bool.false_and, cond_false, Tryd.results66, ruW, putL, Nat.reduceLeDiff, xF, ruU, entryE, Nat.reduceLT, Nat.reduceAdd, Nat.reduceMul, Nat.reduceEqDiff]
    exact Fin.pureE rfl rfl
  have e2 : decide (194 ≤ a) = true := decide_eq_true (by omega)
  by_cases h3 : a < 224
  · have f2 : decide (a < 224) = true := decide_eq_true h3
    have e3 : decide (224 ≤ a) = false := decide_eq_false (by omega)
    have e4 : decide (240 ≤ a) = false := decide_eq_false (by omega)
    simp (maxDischargeDepth := 6) only [x0, w_convert, hcv, wa, e1, e2, f2, ruW, putL, Nat.reduceLeDiff, xF, ruU, entryE, Nat.reduceLT, Nat.reduceAdd, Nat.reduceMul, Nat.reduceEqDiff]
    refine k1.to ?_
    cases t1 with
    | true =>
      have g1 : IntKind.i64.wrap (a - 192) = a - 192 := wrap_sm (by omega) (by omega)
      have g2 : IntKind.i64.wrap ((a - 192) * 64) = (a - 192) * 64 := wrap_sm (by omega) (by omega)
      have g3 : IntKind.i64.wrap ((a - 192) * 64 + b) = (a - 192) * 64 + b := wrap_sm (by omega) (by omega)
      have g4 : IntKind.i64.wrap ((a - 192) * 64 + b - 128) = (a - 192) * 64 + b - 128 := wrap_sm (by omega) (by omega)
      have x1 := x1 rfl
      simp (maxDischargeDepth := 6) only [x0, x1, w_convert, hcv, wa, wb, e1, e2, f2, g1, g2, g3, g4, Bool.and_self, cond_true, Tryd.results66, ruW, putL, Nat.reduceLeDiff, xF, ruU, entryE, Nat.reduceLT, Nat.reduceAdd, Nat.reduceMul, Nat.reduceEqDiff]
      exact Fin.pureE rfl rfl
    | false =>
      simp (maxDischargeDepth := 6) only [x0, w_convert, hcv, wa, e1, e2, e3, e4, f2, Bool.and_false, Bool.false_and, cond_false, Tryd.results66, ruW, putL, Nat.reduceLeDiff, xF, ruU, entryE, Nat.reduceLT, Nat.reduceAdd, Nat.reduceMul, Nat.reduceEqDiff]
      exact Fin.pureE rfl rfl
  have f2 : decide (a < 224) = false := decide_eq_false h3
  have e3 : decide (224 ≤ a) = true := decide_eq_true (by omega)
  rw [f2, Bool.and_false, Bool.false_and, cond_false]
  by_cases h4 : a < 240
  · have f3 : decide (a < 240) = true := decide_eq_true h4
    have e4 : decide (240 ≤ a) = false := decide_eq_false (by omega)
    simp (maxDischargeDepth := 6) only [x0, w_convert, hcv, wa, e1, e2, e3, f2, f3, ruW, putL, Nat.reduceLeDiff, xF, ruU, entryE, Nat.reduceLT, Nat.reduceAdd, Nat.reduceMul, Nat.reduceEqDiff]
    refine k1.to ?_
    cases t1 with
    | false =>
      simp (maxDischargeDepth := 6) only [x0, w_convert, hcv, wa, e1, e2, e3, e4, f2, f3, Bool.and_false, Bool.false_and, cond_false, Tryd.results66, ruW, putL, Nat.reduceLeDiff, xF, ruU, entryE, Nat.reduceLT, Nat.reduceAdd, Nat.reduceMul, Nat.reduceEqDiff]
      exact Fin.pureE rfl rfl
    | true =>
      simp (maxDischargeDepth := 6) only [x0, w_convert, hcv, wa, e1, e2, e3, f2, f3, ruW, putL, Nat.reduceLeDiff, xF, ruU, entryE, Nat.reduceLT, Nat.reduceAdd, Nat.reduceMul, Nat.reduceEqDiff]
      refine k2.to ?_
      cases t2 with
      | false =>
        simp (maxDischargeDepth := 6) only [x0, w_convert, hcv, wa, e1, e2, e3, e4, f2, f3, Bool.and_false, Bool.false_and, cond_false, Tryd.results66, ruW, putL, Nat.reduceLeDiff, xF, ruU, entryE, Nat.reduceLT, Nat.reduceAdd, Nat.reduceMul, Nat.reduceEqDiff]
        exact Fin.pureE rfl rfl
      | true =>
        have x1 := x1 rfl
        have x2 := x2 rfl
        have g1 : IntKind.i64.wrap (a - 224) = a - 224 := wrap_sm (by omega) (by omega)
        have g2 : IntKind.i64.wrap ((a - 224) * 64) = (a - 224) * 64 := wrap_sm (by omega) (by omega)
        have g3 : IntKind.i64.wrap ((a - 224) * 64 + b) = (a - 224) * 64 + b := wrap_sm (by omega) (by omega)
        have g4 : IntKind.i64.wrap ((a - 224) * 64 + b - 128) = (a - 224) * 64 + b - 128 := wrap_sm (by omega) (by omega)
        have g5 : IntKind.i64.wrap (((a - 224) * 64 + b - 128) * 64) = ((a - 224) * 64 + b - 128) * 64 := wrap_sm (by omega) (by omega)
        have g6 : IntKind.i64.wrap (((a - 224) * 64 + b - 128) * 64 + c) = ((a - 224) * 64 + b - 128) * 64 + c := wrap_sm (by omega) (by omega)
        have g7 : IntKind.i64.wrap (((a - 224) * 64 + b - 128) * 64 + c - 128) = ((a - 224) * 64 + b - 128) * 64 + c - 128 := wrap_sm (by omega) (by omega)
        simp (maxDischargeDepth := 6) only [x0, w_convert, hcv, wa, e1, e2, e3, f2, f3, Bool.and_self, cond_true, ruW, putL, Nat.reduceLeDiff, xF, ruU, entryE, Nat.reduceLT, Nat.reduceAdd, Nat.reduceMul, Nat.reduceEqDiff]
        refine w_drawB [] [] (by kernel_rfl) (by kernel_rfl) rfl fun ops anc hA hG => ?_
        simp (maxDischargeDepth := 6) only [g1, g2, x1, ruD, ruW, putL, Nat.reduceLeDiff, xF, ruU, entryE, Nat.reduceLT, Nat.reduceAdd, Nat.reduceMul, Nat.reduceEqDiff]
        refine wd_cvint (by simp only [ruU, entryE, Nat.reduceLT, Nat.reduceAdd, Nat.reduceMul, Nat.reduceEqDiff]) (by decide) u5 u3 (by simp only [ruU, entryE, Nat.reduceLT, Nat.reduceAdd, Nat.reduceMul, Nat.reduceEqDiff]; rfl) ?_
        simp (maxDischargeDepth := 6) only [wb, g3, g4, g5, x2, ruD, ruW, putL, Nat.reduceLeDiff, xF, ruU, entryE, Nat.reduceLT, Nat.reduceAdd, Nat.reduceMul, Nat.reduceEqDiff]
        refine wd_cvint (by simp only [ruU, entryE, Nat.reduceLT, Nat.reduceAdd, Nat.reduceMul, Nat.reduceEqDiff]) (by decide) u5 u3 (by simp only [ruU, entryE, Nat.reduceLT, Nat.reduceAdd, Nat.reduceMul, Nat.reduceEqDiff]; rfl) ?_
        simp (maxDischargeDepth := 6) only [wc, g6, g7, ruD, ruW, putL, Nat.reduceLeDiff, xF, ruU, entryE, Nat.reduceLT, Nat.reduceAdd, Nat.reduceMul, Nat.reduceEqDiff]
        clear g1 g2 g3 g4 g5 g6 g7
        generalize ((a - 224) * 64 + b - 128) * 64 + c - 128 = z
        have his := refIs_c (ext H []) z
        obtain ⟨i, hi⟩ : ∃ i, isR z = i := ⟨_, rfl⟩
        rw [hi] at his ⊢
        obtain ⟨q, hq⟩ : ∃ q, decide (2048 ≤ z) = q := ⟨_, rfl⟩
        rw [hq]
        cases q with
        | false =>
          simp (maxDischargeDepth := 6) only [hq, Bool.false_and, cond_false, Tryd.results66, ruW, putL, Nat.reduceLeDiff, xF, ruU, entryE, Nat.reduceLT, Nat.reduceAdd, Nat.reduceMul, Nat.reduceEqDiff]
          exact Fin.pureE rfl rfl
        | true =>
          simp (maxDischargeDepth := 6) only [hq, ruW, putL, Nat.reduceLeDiff, xF, ruU, entryE, Nat.reduceLT, Nat.reduceAdd, Nat.reduceMul, Nat.reduceEqDiff]
          refine his.to ?_
          cases i <;> (simp (maxDischargeDepth := 6) only [hq, Bool.and_self, Bool.and_false, cond_true, cond_false, Tryd.results66, ruW, putL, Nat.reduceLeDiff, xF, ruU, entryE, Nat.reduceLT, Nat.reduceAdd, Nat.reduceMul, Nat.reduceEqDiff]; exact Fin.pureE rfl rfl)
  have f3 : decide (a < 240) = false := decide_eq_false h4
  have e4 : decide (240 ≤ a) = true := decide_eq_true (by omega)
  rw [f3, Bool.and_false, Bool.false_and, Bool.false_and, cond_false]
  by_cases h5 : a < 245
  · have f4 : decide (a < 245) = true := decide_eq_true h5
    simp (maxDischargeDepth := 6) only [x0, w_convert, hcv, wa, e1, e2, e3, e4, f2, f3, f4, ruW, putL, Nat.reduceLeDiff, xF, ruU, entryE, Nat.reduceLT, Nat.reduceAdd, Nat.reduceMul, Nat.reduceEqDiff]
    refine k1.to ?_
    cases t1 with
    | false =>
      simp (maxDischargeDepth := 6) only [x0, w_convert, hcv, wa, e1, e2, e3, e4, f2, f3, f4, Bool.and_false, Bool.false_and, cond_false, Tryd.results66, ruW, putL, Nat.reduceLeDiff, xF, ruU, entryE, Nat.reduceLT, Nat.reduceAdd, Nat.reduceMul, Nat.reduceEqDiff]
      exact Fin.pureE rfl rfl
    | true =>
      simp (maxDischargeDepth := 6) only [x0, w_convert, hcv, wa, e1, e2, e3, e4, f2, f3, f4, ruW, putL, Nat.reduceLeDiff, xF, ruU, entryE, Nat.reduceLT, Nat.reduceAdd, Nat.reduceMul, Nat.reduceEqDiff]
      refine k2.to ?_
      cases t2 with
      | false =>
        simp (maxDischargeDepth := 6) only [x0, w_convert, hcv, wa, e1, e2, e3, e4, f2, f3, f4, Bool.and_false, Bool.false_and, cond_false, Tryd.results66, ruW, putL, Nat.reduceLeDiff, xF, ruU, entryE, Nat.reduceLT, Nat.reduceAdd, Nat.reduceMul, Nat.reduceEqDiff]
        exact Fin.pureE rfl rfl
      | true =>
        simp (maxDischargeDepth := 6) only [x0, w_convert, hcv, wa, e1, e2, e3, e4, f2, f3, f4, ruW, putL, Nat.reduceLeDiff, xF, ruU, entryE, Nat.reduceLT, Nat.reduceAdd, Nat.reduceMul, Nat.reduceEqDiff]
        refine k3.to ?_
        cases t3 with
        | false =>
          simp (maxDischargeDepth := 6) only [x0, w_convert, hcv, wa, e1, e2, e3, e4, f2, f3, f4, Bool.and_false, Bool.false_and, cond_false, Tryd.results66, ruW, putL, Nat.reduceLeDiff, xF, ruU, entryE, Nat.reduceLT, Nat.reduceAdd, Nat.reduceMul, Nat.reduceEqDiff]
          exact Fin.pureE rfl rfl
        | true =>
          have x1 := x1 rfl
          have x2 := x2 rfl
          have x3 := x3 rfl
          have g1 : IntKind.i64.wrap (a - 240) = a - 240 := wrap_sm (by omega) (by omega)
          have g2 : IntKind.i64.wrap ((a - 240) * 64) = (a - 240) * 64 := wrap_sm (by omega) (by omega)
          have g3 : IntKind.i64.wrap ((a - 240) * 64 + b) = (a - 240) * 64 + b := wrap_sm (by omega) (by omega)
          have g4 : IntKind.i64.wrap ((a - 240) * 64 + b - 128) = (a - 240) * 64 + b - 128 := wrap_sm (by omega) (by omega)
          have g5 : IntKind.i64.wrap (((a - 240) * 64 + b - 128) * 64) = ((a - 240) * 64 + b - 128) * 64 := wrap_sm (by omega) (by omega)
          have g6 : IntKind.i64.wrap (((a - 240) * 64 + b - 128) * 64 + c) = ((a - 240) * 64 + b - 128) * 64 + c := wrap_sm (by omega) (by omega)
          have g7 : IntKind.i64.wrap (((a - 240) * 64 + b - 128) * 64 + c - 128) = ((a - 240) * 64 + b - 128) * 64 + c - 128 := wrap_sm (by omega) (by omega)
          have g8 : IntKind.i64.wrap ((((a - 240) * 64 + b - 128) * 64 + c - 128) * 64) = (((a - 240) * 64 + b - 128) * 64 + c - 128) * 64 := wrap_sm (by omega) (by omega)
          have g9 : IntKind.i64.wrap ((((a - 240) * 64 + b - 128) * 64 + c - 128) * 64 + d) = (((a - 240) * 64 + b - 128) * 64 + c - 128) * 64 + d := wrap_sm (by omega) (by omega)
          have g10 : IntKind.i64.wrap ((((a - 240) * 64 + b - 128) * 64 + c - 128) * 64 + d - 128) = (((a - 240) * 64 + b - 128) * 64 + c - 128) * 64 + d - 128 := wrap_sm (by omega) (by omega)
          simp (maxDischargeDepth := 6) only [x0, w_convert, hcv, wa, e1, e2, e3, e4, f2, f3, f4, Bool.and_self, cond_true, ruW, putL, Nat.reduceLeDiff, xF, ruU, entryE, Nat.reduceLT, Nat.reduceAdd, Nat.reduceMul, Nat.reduceEqDiff]
          refine w_drawB [] [] (by kernel_rfl) (by kernel_rfl) rfl fun ops anc hA hG => ?_
          simp (maxDischargeDepth := 6) only [g1, g2, x1, ruD, ruW, putL, Nat.reduceLeDiff, xF, ruU, entryE, Nat.reduceLT, Nat.reduceAdd, Nat.reduceMul, Nat.reduceEqDiff]
          refine wd_cvint (by simp only [ruU, entryE, Nat.reduceLT, Nat.reduceAdd, Nat.reduceMul, Nat.reduceEqDiff]) (by decide) u5 u3 (by simp only [ruU, entryE, Nat.reduceLT, Nat.reduceAdd, Nat.reduceMul, Nat.reduceEqDiff]; rfl) ?_
          simp (maxDischargeDepth := 6) only [wb, g3, g4, g5, x2, ruD, ruW, putL, Nat.reduceLeDiff, xF, ruU, entryE, Nat.reduceLT, Nat.reduceAdd, Nat.reduceMul, Nat.reduceEqDiff]
          refine wd_cvint (by simp only [ruU, entryE, Nat.reduceLT, Nat.reduceAdd, Nat.reduceMul, Nat.reduceEqDiff]) (by decide) u5 u3 (by simp only [ruU, entryE, Nat.reduceLT, Nat.reduceAdd, Nat.reduceMul, Nat.reduceEqDiff]; rfl) ?_
          simp (maxDischargeDepth := 6) only [wc, g6, g7, g8, x3, ruD, ruW, putL, Nat.reduceLeDiff, xF, ruU, entryE, Nat.reduceLT, Nat.reduceAdd, Nat.reduceMul, Nat.reduceEqDiff]
          refine wd_cvint (by simp only [ruU, entryE, Nat.reduceLT, Nat.reduceAdd, Nat.reduceMul, Nat.reduceEqDiff]) (by decide) u5 u3 (by simp only [ruU, entryE, Nat.reduceLT, Nat.reduceAdd, Nat.reduceMul, Nat.reduceEqDiff]; rfl) ?_
          simp (maxDischargeDepth := 6) only [wd, g9, g10, ruD, ruW, putL, Nat.reduceLeDiff, xF, ruU, entryE, Nat.reduceLT, Nat.reduceAdd, Nat.reduceMul, Nat.reduceEqDiff]
          clear g1 g2 g3 g4 g5 g6 g7 g8 g9 g10
          generalize (((a - 240) * 64 + b - 128) * 64 + c - 128) * 64 + d - 128 = z
          have his := refIs_c (ext H []) z
          obtain ⟨i, hi⟩ : ∃ i, isR z = i := ⟨_, rfl⟩
          rw [hi] at his ⊢
          obtain ⟨q, hq⟩ : ∃ q, decide (65536 ≤ z) = q := ⟨_, rfl⟩
          rw [hq]
          cases q with
          | false =>
            simp (maxDischargeDepth := 6) only [hq, Bool.false_and, cond_false, Tryd.results66, ruW, putL, Nat.reduceLeDiff, xF, ruU, entryE, Nat.reduceLT, Nat.reduceAdd, Nat.reduceMul, Nat.reduceEqDiff]
            exact Fin.pureE rfl rfl
          | true =>
            simp (maxDischargeDepth := 6) only [hq, ruW, putL, Nat.reduceLeDiff, xF, ruU, entryE, Nat.reduceLT, Nat.reduceAdd, Nat.reduceMul, Nat.reduceEqDiff]
            refine his.to ?_
            cases i <;> (simp (maxDischargeDepth := 6) only [hq, Bool.and_self, Bool.and_false, cond_true, cond_false, Tryd.results66, ruW, putL, Nat.reduceLeDiff, xF, ruU, entryE, Nat.reduceLT, Nat.reduceAdd, Nat.reduceMul, Nat.reduceEqDiff]; exact Fin.pureE rfl rfl)
  · have f4 : decide (a < 245) = false := decide_eq_false h5
    simp (maxDischargeDepth := 6) only [x0, w_convert, hcv, wa, e1, e2, e3, e4, f2, f3, f4, Bool.and_false, Bool.false_and, cond_false, Tryd.results66, ruW, putL, Nat.reduceLeDiff, xF, ruU, entryE, Nat.reduceLT, Nat.reduceAdd, Nat.reduceMul, Nat.reduceEqDiff]
    exact Fin.pureE rfl rfl

end Go.Proofs.YtfpckllenkifkaaDoor

/- The characters of a string, as the reference lists them. -/
namespace Go.Proofs.YtfpckllenkifkaaDoor
open Go.Ax
set_option linter.unusedSimpArgs false
set_option maxRecDepth 10000

theorem ptR_len (l : List UInt8) (h0 : 0 < l.length) : 0 ≤ (ptR l).2 ∧ (ptR l).2.toNat ≤ l.length ∧ -1 < (ptR l).1 + 1 ∧ (ptR l).1 < 2000000000 := by
  have r0 := bt_lt l 0
  have r1 := bt_lt l 1
  have r2 := bt_lt l 2
  have r3 := bt_lt l 3
  unfold ptR
  cases e0 : decide (bt l 0 < 128) with
  | true => simp only [cond_true]; omega
  | false =>
    rw [cond_false]
    cases e1 : (decide (194 ≤ bt l 0) && decide (bt l 0 < 224) && tl l 1) with
    | true =>
      simp only [Bool.and_eq_true, decide_eq_true_eq] at e1
      have := tl_lt e1.2
      simp only [cond_true]
      omega
    | false =>
      rw [cond_false]
      cases e2 : (decide (224 ≤ bt l 0) && decide (bt l 0 < 240) && tl l 1 && tl l 2) with
      | true =>
        simp only [Bool.and_eq_true, decide_eq_true_eq] at e2
        have t1 := tl_lt e2.1.2
        have t2 := tl_lt e2.2
        rw [cond_true]
        cases (decide (2048 ≤ ((bt l 0 - 224) * 64 + bt l 1 - 128) * 64 + bt l 2 - 128) && isR (((bt l 0 - 224) * 64 + bt l 1 - 128) * 64 + bt l 2 - 128)) with
        | true => simp only [cond_true]; omega
        | false => simp only [cond_false]; omega
      | false =>
        rw [cond_false]
        cases e3 : (decide (240 ≤ bt l 0) && decide (bt l 0 < 245) && tl l 1 && tl l 2 && tl l 3) with
        | true =>
          simp only [Bool.and_eq_true, decide_eq_true_eq] at e3
          have t1 := tl_lt e3.1.1.2
          have t2 := tl_lt e3.1.2
          have t3 := tl_lt e3.2
          rw [cond_true]
          cases (decide (65536 ≤ (((bt l 0 - 240) * 64 + bt l 1 - 128) * 64 + bt l 2 - 128) * 64 + bt l 3 - 128) && isR ((((bt l 0 - 240) * 64 + bt l 1 - 128) * 64 + bt l 2 - 128) * 64 + bt l 3 - 128)) with
          | true => simp only [cond_true]; omega
          | false => simp only [cond_false]; omega
        | false => simp only [cond_false]; omega

def ptsF : Nat → List UInt8 → Option (List Int)
  | 0, l => if l = [] then some [] else none
  | n + 1, l => if l = [] then some [] else if (ptR l).2 = 0 then none else (ptsF n (l.drop (ptR l).2.toNat)).map ((ptR l).1 :: ·)
theorem ptsF_fuel : ∀ (n m : Nat) (l : List UInt8), l.length ≤ n → l.length ≤ m → ptsF n l = ptsF m l
  | 0, m, l, hn, _ => by
    have : l = [] := List.eq_nil_of_length_eq_zero (by omega)
    subst this
    cases m <;> rfl
  | n + 1, 0, l, _, hm => by
    have : l = [] := List.eq_nil_of_length_eq_zero (by omega)
    subst this
    rfl
  | n + 1, m + 1, l, hn, hm => by
    simp only [ptsF]
    by_cases h : l = []
    · rw [if_pos h, if_pos h]
    · rw [if_neg h, if_neg h]
      by_cases h2 : (ptR l).2 = 0
      · rw [if_pos h2, if_pos h2]
      · rw [if_neg h2, if_neg h2]
        have hp : 0 < l.length := List.length_pos_iff.2 h
        have := ptR_len l hp
        rw [ptsF_fuel n m _ (by rw [List.length_drop]; omega) (by rw [List.length_drop]; omega)]
def ptsR (l : List UInt8) : Option (List Int) := ptsF l.length l
theorem ptsR_nil : ptsR [] = some [] := rfl
theorem ptsR_step (l : List UInt8) (h : 0 < l.length) : ptsR l = if (ptR l).2 = 0 then none else (ptsR (l.drop (ptR l).2.toNat)).map ((ptR l).1 :: ·) := by
  unfold ptsR
  obtain ⟨n, hn⟩ : ∃ n, l.length = n + 1 := ⟨l.length - 1, by omega⟩
  rw [hn, ptsF, if_neg (fun e => by rw [e] at h; simp at h)]
  by_cases h2 : (ptR l).2 = 0
  · rw [if_pos h2, if_pos h2]
  · rw [if_neg h2, if_neg h2]
    have := ptR_len l h
    rw [ptsF_fuel n _ _ (by rw [List.length_drop]; omega) (Nat.le_refl _)]
theorem ptsR_len : ∀ (n : Nat) (l : List UInt8) (r : List Int), l.length ≤ n → ptsR l = some r → r.length ≤ l.length
  | 0, l, r, hn, h => by
    have : l = [] := List.eq_nil_of_length_eq_zero (by omega)
    subst this
    rw [ptsR_nil] at h
    cases h
    simp
  | n + 1, l, r, hn, h => by
    by_cases h0 : 0 < l.length
    · rw [ptsR_step l h0] at h
      split at h
      · cases h
      · rename_i h2
        obtain ⟨q, hq, rfl⟩ := Option.map_eq_some_iff.1 h
        have hl := ptR_len l h0
        have := ptsR_len n _ q (by rw [List.length_drop]; omega) hq
        rw [List.length_drop] at this
        simp only [List.length_cons]
        omega
    · have : l = [] := List.eq_nil_of_length_eq_zero (by omega)
      subst this
      rw [ptsR_nil] at h
      cases h
      simp

def iv (l : List Int) : List Value := l.map (Value.int .i64)
theorem iv_one (l : List Int) : (iv l).all one = true := by induction l with | nil => rfl | cons a l ih => simp only [iv, List.map_cons, List.all_cons] at ih ⊢; rw [ih]; rfl
theorem iv_sc (l : List Int) (n : Nat) : scbL n (iv l) = true := by induction l with | nil => rfl | cons a l ih => simp only [iv, List.map_cons, scbL] at ih ⊢; rw [ih]; rfl

def LsOut (H H1 : AHeap) (r : Option (List Int)) (out : Out) : Prop :=
  match r with
  | none => out = .ok (.tuple #[.slice none 0 0, .int .i64 5])
  | some l => ∃ v, out = .ok (.tuple #[v, .int .i64 0]) ∧ VsAt H1 3 1 v (iv l) l.length ∧ ∀ n ∈ idsV v, H.next ≤ n

theorem sl_str {H : AHeap} {s : ByteArray} {n : Nat} {j : Int} (hj : j = n) (h : n ≤ s.size) : aSlice Tryd.prog H 9 (.string s) (some (.int .i64 j)) none none = some (.string (s.extract n s.size), H) := by
  subst hj
  simp only [aSlice, u9, bound, Option.bind_eq_bind, Option.bind_some]
  rw [if_pos (Int.natCast_nonneg n)]
  simp only [Int.toNat_natCast, Option.bind_some]
  rw [if_pos ⟨Nat.le_refl _, h⟩]
theorem ext_data (s : ByteArray) (n : Nat) : (s.extract n s.size).data.toList = s.data.toList.drop n := by
  rw [ByteArray.data_extract, Array.toList_extract, List.extract_eq_take_drop]
  exact List.take_of_length_le (by rw [List.length_drop, ← size_len]; exact Nat.le_refl _)

theorem int_app {X : AHeap} {v : Value} {l : List Int} {c : Int} {x : Nat} (h : VsAt X 3 1 v (iv l) l.length) (hx : X.next = x) (hb : X.base ≤ X.next) (hlen : l.length ≤ 1000000) :
    ∃ G, aBuiltin Tryd.prog (ext X [⟨3, false, [.int .i64 c]⟩]) .append ⟨[56, 56]⟩ [v, .slice (some ⟨x + 0, 0, some 0⟩) 1 1] = some (.slice (some ⟨x + 1, 0, none⟩) (l.length + 1) (l.length + 1), ext G []) ∧ VsAt G 3 1 (.slice (some ⟨x + 1, 0, none⟩) (l.length + 1) (l.length + 1)) (iv (l ++ [c])) (l ++ [c]).length ∧ Mod (idsV v) X G ∧ G.next = x + 2 := by
  have h2 : VsAt (ext X [⟨3, false, [.int .i64 c]⟩]) 3 1 v (iv l) l.length := h.of (by rw [ext_next]; omega) (fun n hn => ext_get_old (h.ne n hn).2)
  have hk : bk (ext X [⟨3, false, [.int .i64 c]⟩]) (x + 0) = some ⟨3, false, [.int .i64 c]⟩ := by rw [bk_at hx (by simp)]; rfl
  have hsm : small (l.length + 1) 8 = true := by simp only [small, Bool.and_eq_true, Nat.ble_eq]; omega
  obtain ⟨G, k1, k2, k3, k4, _⟩ := vs_app (P := Tryd.prog) (H := ext X [⟨3, false, [.int .i64 c]⟩]) (st := 56) (xt := 56) (e := 3) (sz := 1) (by1 := 8) (z := .int .i64 0) (n := x + 0) (off := 0) (cnt2 := 1) (cap := 1) (s := some 0) (x := x + 1) (ws := [.int .i64 c]) (b := ⟨3, false, [.int .i64 c]⟩)
    (by kernel_rfl) (by kernel_rfl) (by kernel_rfl) (by kernel_rfl) rfl (by kernel_rfl) h2 (rk_of hk) (by simp) rfl rfl (by decide) hsm (by rw [ext_next, hx]; rfl) (scbL_append (iv_sc _ _) rfl)
  have e1 : iv l ++ [.int .i64 c] = iv (l ++ [c]) := by simp [iv]
  rw [e1] at k2
  refine ⟨G, k1, by rw [List.length_append]; exact k2, (Mod.ext hb).trans (k3 ((Mod.ext (W := []) hb).ok hb)), k4⟩

set_option maxHeartbeats 1000000 in
theorem refList_c (H : AHeap) (s : ByteArray) (hlen : s.data.toList.length ≤ 100000) (hok : H.base ≤ H.next) : CallA Tryd.prog 39 [.string s] H (fun out H1 => Mod [] H H1 ∧ LsOut H H1 (ptsR s.data.toList) out) := by
  obtain ⟨r, hr⟩ : ∃ r, ptsR s.data.toList = r := ⟨_, rfl⟩
  refine callE_fn mixed Tryd.func39 rfl Tryd.ntmps39 (Nat.le_of_ble_eq_true rfl) ?_
  simp (maxDischargeDepth := 6) only [ruW, putL, Nat.reduceLeDiff, xF, ruU, entryE, Nat.reduceLT, Nat.reduceAdd, Nat.reduceMul, Nat.reduceEqDiff]
  refine w_env fun E hE => ?_
  have g0 : E 0 = .string s := by rw [hE]; simp only [ruU, entryE, Nat.reduceLT, Nat.reduceAdd, Nat.reduceMul, Nat.reduceEqDiff]
  have g4 : E 4 = .slice none 0 0 := by rw [hE]; simp only [ruU, entryE, Nat.reduceLT, Nat.reduceAdd, Nat.reduceMul, Nat.reduceEqDiff]
  clear hE
  refine blockC_meet (fun E' X => Mod [] H X ∧ ∃ v l, r = some l ∧ E' 4 = v ∧ VsAt X 3 1 v (iv l) l.length ∧ ∀ n ∈ idsV v, H.next ≤ n) ?_ ?_
  · refine w_loop (fun (q : ByteArray × List Int × Value) E' X => Mod [] H X ∧ r = (ptsR q.1.data.toList).map (q.2.1 ++ ·) ∧ q.2.1.length + q.1.data.toList.length ≤ 100000 ∧ E' 0 = .string q.1 ∧ E' 4 = q.2.2 ∧ VsAt X 3 1 q.2.2 (iv q.2.1) q.2.1.length ∧ ∀ n ∈ idsV q.2.2, H.next ≤ n) (fun q => q.1.data.toList.length) (s, [], .slice none 0 0)
      ⟨Mod.refl, by rw [← hr]; simp, by simpa using hlen, g0, g4, VsAt.nil, fun n hn => by simp [idsV] at hn⟩ ?_
    clear g0 g4 E
    rintro ⟨t, l, v⟩ E X ⟨m, hrr, hsz, g0, g4, hv, hid⟩
    simp only at hrr hsz g0 g4 hv hid
    obtain ⟨x, hx⟩ : ∃ x, X.next = x := ⟨_, rfl⟩
    have hxb : X.base ≤ X.next := m.ok hok
    rw [show X = ext X [] from rfl]
    have hts : (t.size : Int) = (t.data.toList.length : Int) := by rw [size_len]
    by_cases h0 : 0 < t.data.toList.length
    · have hd : decide (0 < (t.size : Int)) = true := decide_eq_true (by omega)
      have hpt := ptR_len t.data.toList h0
      have hp := point_c (ext X []) t t.data.toList rfl h0
      rw [ptsR_step _ h0] at hrr
      obtain ⟨c, n, hcn⟩ : ∃ c n, ptR t.data.toList = (c, n) := ⟨_, _, rfl⟩
      rw [hcn] at hpt hp hrr
      simp only at hpt hp hrr
      simp (maxDischargeDepth := 6) only [g0, g4, bt_lenStr u9, hd, ruW, putL, Nat.reduceLeDiff, xF, ruU, entryE, Nat.reduceLT, Nat.reduceAdd, Nat.reduceMul, Nat.reduceEqDiff]
      refine hp.to ?_
      by_cases hn : n = 0
      · have hd2 : decide (n = 0) = true := decide_eq_true hn
        rw [if_pos hn] at hrr
        simp (maxDischargeDepth := 6) only [g0, g4, hd2, joinR_ret, Tryd.results39, ruW, putL, Nat.reduceLeDiff, xF, ruU, entryE, Nat.reduceLT, Nat.reduceAdd, Nat.reduceMul, Nat.reduceEqDiff]
        refine ⟨m, ?_⟩
        rw [hr, hrr]
        rfl
      · have hd2 : decide (n = 0) = false := decide_eq_false hn
        rw [if_neg hn] at hrr
        obtain ⟨G, k1, k2, k3, k4⟩ := int_app (c := c) hv hx hxb (by omega)
        have hsl := sl_str (H := ext G []) (s := t) (n := n.toNat) (j := n) (by omega) (by rw [size_len]; exact hpt.2.1)
        simp (maxDischargeDepth := 6) only [g0, g4, hx, hxb, hd2, k1, hsl, ruW, putL, Nat.reduceLeDiff, xF, ruU, entryE, Nat.reduceLT, Nat.reduceAdd, Nat.reduceMul, Nat.reduceEqDiff]
        refine loopC_next ⟨(t.extract n.toNat t.size, l ++ [c], .slice (some ⟨x + 1, 0, none⟩) (l.length + 1) (l.length + 1)), ?_, ?_, ?_, ?_, ?_, ?_, ?_, ?_⟩
        · simp only [ext_data, List.length_drop]; omega
        · exact m.step k3 hok (fun q hq => .inr (hid q hq))
        · simp only [ext_data]
          rw [hrr, Option.map_map]
          congr 1
          funext y
          simp
        · simp only [ext_data, List.length_drop, List.length_append, List.length_cons, List.length_nil]; omega
        · simp only [g0, g4, ruU, entryE, Nat.reduceLT, Nat.reduceAdd, Nat.reduceMul, Nat.reduceEqDiff]
        · simp only [g0, g4, ruU, entryE, Nat.reduceLT, Nat.reduceAdd, Nat.reduceMul, Nat.reduceEqDiff]
        · exact k2
        · intro q hq
          simp only [idsV, List.mem_singleton] at hq
          have := m.next
          omega
    · have hd : decide (0 < (t.size : Int)) = false := decide_eq_false (by omega)
      have ht : t.data.toList = [] := List.eq_nil_of_length_eq_zero (by omega)
      rw [ht, ptsR_nil] at hrr
      simp (maxDischargeDepth := 6) only [g0, g4, bt_lenStr u9, hd, ruW, putL, Nat.reduceLeDiff, xF, ruU, entryE, Nat.reduceLT, Nat.reduceAdd, Nat.reduceMul, Nat.reduceEqDiff]
      exact joinR_normal ⟨m, v, l, by rw [hrr]; simp, g4, hv, hid⟩
  clear g0 g4 E
  rintro E X ⟨m, v, l, hrl, g4, hv, hid⟩
  rw [show X = ext X [] from rfl]
  simp (maxDischargeDepth := 6) only [g4, Tryd.results39, ruW, putL, Nat.reduceLeDiff, xF, ruU, entryE, Nat.reduceLT, Nat.reduceAdd, Nat.reduceMul, Nat.reduceEqDiff]
  refine ⟨m, ?_⟩
  rw [hr, hrl]
  exact ⟨v, rfl, hv, hid⟩

end Go.Proofs.YtfpckllenkifkaaDoor

/- Strings that are valid: the kit's contract of utf8.ValidString, for the abstract heap; valid strings are those whose characters the reference lists. -/
namespace Go.Proofs.YtfpckllenkifkaaDoor
open Go.Ax
set_option linter.unusedSimpArgs false
set_option maxRecDepth 100000

abbrev fstD : DataW Unit := Rows.laid_unicode_utf8_first
abbrev accD : DataW Unit := Rows.laid_unicode_utf8_acceptRanges
def Tab (H : AHeap) : Prop := ∃ e1 e2, bk H 0 = some ⟨e1, false, dc fstD⟩ ∧ bk H 1 = some ⟨e2, false, dc accD⟩
theorem Tab.of {H G : AHeap} (t : Tab H) (h0 : G.get 0 = H.get 0) (h1 : G.get 1 = H.get 1) : Tab G := by
  obtain ⟨e1, e2, a, b⟩ := t
  exact ⟨e1, e2, (bk_get h0).trans a, (bk_get h1).trans b⟩

def rhoV : Go.Shelf.Ren := ⟨fun n => if n = 196 then 68 else if n = 259 then 97 else 0, fun n => if n = 46 then 106 else if n = 53 then 124 else if n = 119 then 138 else if n = 138 then 140 else if n = 139 then 141 else n, fun n => n - 3⟩

theorem laysV : Go.Proofs.Lays.n196 Tryd.prog rhoV := by
  constructor
  all_goals first
    | exact mixed
    | kernel_rfl
    | (intro w; kernel_rfl)

theorem fst_list : dc fstD = (List.range 256).map fun c => Value.int .u8 ((Go.Lib.firstT c : Nat) : Int) := by kernel_rfl
theorem acc_list : dc accD = (List.range 16).flatMap fun i => [Value.int .u8 ((Go.Lib.accLo i : Nat) : Int), Value.int .u8 ((Go.Lib.accHi i : Nat) : Int)] := by kernel_rfl

theorem pairs_get {f g : Nat → Value} : ∀ (n k : Nat) (i : Nat), i < n → (((List.range' k n).flatMap fun j => [f j, g j])[2 * i]? = some (f (k + i)) ∧ ((List.range' k n).flatMap fun j => [f j, g j])[2 * i + 1]? = some (g (k + i)))
  | 0, _, _, h => absurd h (by omega)
  | n + 1, k, 0, _ => by rw [List.range'_succ]; exact ⟨rfl, rfl⟩
  | n + 1, k, i + 1, h => by
    rw [List.range'_succ]
    have := pairs_get (f := f) (g := g) n (k + 1) i (by omega)
    rw [show k + 1 + i = k + (i + 1) by omega] at this
    exact this

theorem tabs_world {ρ : Go.Ax.Ren} {H : AHeap} {w : World} (r : Rel Tryd.prog ρ H w) (t : Tab H) : Go.Lib.Utf8Tabs 0 1 w := by
  obtain ⟨e1, e2, h1, h2⟩ := t
  obtain ⟨c1, a1, b1⟩ := tab_world r (show 0 < Tryd.prog.globals.size by decide +kernel) h1 (by kernel_rfl)
  obtain ⟨c2, a2, b2⟩ := tab_world r (show 1 < Tryd.prog.globals.size by decide +kernel) h2 (by kernel_rfl)
  refine ⟨fun c hc => ?_, fun i hi => ?_⟩
  · simp only [World.cell?, a1]
    rw [← Array.getElem?_toList, b1, fst_list, List.getElem?_map, List.getElem?_range hc]
    rfl
  · have := pairs_get (f := fun i => Value.int .u8 ((Go.Lib.accLo i : Nat) : Int)) (g := fun i => Value.int .u8 ((Go.Lib.accHi i : Nat) : Int)) 16 0 i hi
    rw [Nat.zero_add] at this
    simp only [World.cell?, a2]
    rw [← Array.getElem?_toList, ← Array.getElem?_toList, b2, acc_list, List.range_eq_range']
    exact ⟨by simpa using this.1, by simpa using this.2⟩

theorem validString_c (H : AHeap) (t : Tab H) (s : ByteArray) (hs : s.size ≤ 9223372036854775807) : Pure 68 [.string s] H (.bool (Go.Lib.validD s.data.toList)) := by
  intro ρ w r hsc F n R hF hR
  have hc := Go.Proofs.Any.utf8_ValidString laysV s w hs (tabs_world r t)
  have e1 : [Value.string s].map ρ.val = [Value.string s] := map_af ρ _ (fun x hx => by simp only [List.mem_singleton] at hx; subst hx; rfl)
  rw [e1]
  refine (hF.calls hc).mono ?_
  rintro e w' ⟨rfl, hb⟩
  have := hR ρ w' (St.below r hb) rfl
  rwa [val_af ρ _ rfl] at this

theorem valid_c (H : AHeap) (t : Tab H) (s : ByteArray) (hs : s.size ≤ 9223372036854775807) : Pure 43 [.string s] H (.bool (Go.Lib.validD s.data.toList)) := by
  refine callS_fn mixed Tryd.func43 rfl Tryd.ntmps43 (Nat.le_of_ble_eq_true rfl) fun wf hsc => ?_
  simp (maxDischargeDepth := 6) only [ruW, putL, Nat.reduceLeDiff, xF, ruU, entryE, Nat.reduceLT, Nat.reduceAdd, Nat.reduceMul, Nat.reduceEqDiff]
  refine (validString_c (ext H []) t s hs).to ?_
  simp (maxDischargeDepth := 6) only [Tryd.results43, ruW, putL, Nat.reduceLeDiff, xF, ruU, entryE, Nat.reduceLT, Nat.reduceAdd, Nat.reduceMul, Nat.reduceEqDiff]
  exact Fin.pureE rfl rfl

theorem tl_iff (l : List UInt8) (i : Nat) : tl l i = true ↔ (i < l.length ∧ (l.getD i 0).toNat / 64 = 2) := by
  constructor
  · intro hh
    have h := tl_lt hh
    unfold bt at h
    omega
  · intro hh
    simp only [tl, Bool.and_eq_true, decide_eq_true_eq]
    unfold bt
    omega

theorem pt_dec (l : List UInt8) (h : 0 < l.length) : ((ptR l).2 = 0 ∧ (Go.Lib.decodeL l).1 = 65533 ∧ (Go.Lib.decodeL l).2 = 1) ∨
    ((ptR l).2 ≠ 0 ∧ (ptR l).1 = ((Go.Lib.decodeL l).1 : Int) ∧ (ptR l).2 = ((Go.Lib.decodeL l).2 : Int) ∧ ¬ ((Go.Lib.decodeL l).1 = 65533 ∧ (Go.Lib.decodeL l).2 = 1)) := by
  rw [Go.Lib.decodeL_N]
  have r0 := (l.getD 0 0).toNat_lt
  have r1 := (l.getD 1 0).toNat_lt
  have r2 := (l.getD 2 0).toNat_lt
  have r3 := (l.getD 3 0).toNat_lt
  have t1 := tl_iff l 1
  have t2 := tl_iff l 2
  have t3 := tl_iff l 3
  unfold ptR isR Go.Lib.decodeN
  simp only [Bool.cond_eq_ite, Bool.and_eq_true, Bool.not_eq_true', decide_eq_true_eq, Bool.and_eq_false_iff, decide_eq_false_iff_not]
  rw [show bt l 0 = ((l.getD 0 0).toNat : Int) from rfl, show bt l 1 = ((l.getD 1 0).toNat : Int) from rfl, show bt l 2 = ((l.getD 2 0).toNat : Int) from rfl, show bt l 3 = ((l.getD 3 0).toNat : Int) from rfl]
  generalize (l.getD 0 0).toNat = b0 at *
  generalize (l.getD 1 0).toNat = b1 at *
  generalize (l.getD 2 0).toNat = b2 at *
  generalize (l.getD 3 0).toNat = b3 at *
  generalize tl l 1 = c1 at *
  generalize tl l 2 = c2 at *
  generalize tl l 3 = c3 at *
  generalize l.length = n at *
  by_cases h1 : b0 < 128
  · rw [if_pos (by omega), if_pos h1]
    dsimp only
    omega
  rw [if_neg (by omega)]
  by_cases h4 : 194 ≤ b0 ∧ b0 < 224
  · by_cases hc : c1 = true
    · have a1 := t1.1 hc
      rw [if_pos ⟨⟨by omega, by omega⟩, hc⟩, if_neg h1, if_pos ⟨by omega, a1⟩, if_pos (by omega)]
      dsimp only
      omega
    · rw [if_neg (fun hh => hc hh.2), if_neg (by intro hh; omega), if_neg (by intro hh; omega), if_neg h1, if_neg (fun hh => hc (t1.2 hh.2)), if_neg (by omega), if_neg (by omega)]
      dsimp only
      omega
  rw [if_neg (by intro hh; omega)]
  by_cases h5 : 224 ≤ b0 ∧ b0 < 240
  · by_cases hc : c1 = true ∧ c2 = true
    · have a1 := t1.1 hc.1
      have a2 := t2.1 hc.2
      rw [if_pos ⟨⟨⟨by omega, by omega⟩, hc.1⟩, hc.2⟩, if_neg h1, if_neg (show ¬ (b0 / 32 = 6 ∧ (1 < n ∧ b1 / 64 = 2)) by omega), if_pos (show (b0 / 16 = 14 ∧ (1 < n ∧ b1 / 64 = 2) ∧ (2 < n ∧ b2 / 64 = 2)) from ⟨by omega, a1, a2⟩)]
      have hz : ((b0 : Int) - 224) * 64 + b1 - 128 = (((b0 - 224) * 64 + (b1 - 128) : Nat) : Int) := by omega
      have hy : ((((b0 - 224) * 64 + (b1 - 128) : Nat) : Int)) * 64 + b2 - 128 = ((b0 % 16 * 4096 + b1 % 64 * 64 + b2 % 64 : Nat) : Int) := by omega
      rw [hz, hy]
      generalize b0 % 16 * 4096 + b1 % 64 * 64 + b2 % 64 = z
      by_cases hz : z ≥ 2048 ∧ (z < 55296 ∨ 57344 ≤ z ∧ z ≤ 1114111)
      · rw [if_pos (by omega), if_pos hz]
        dsimp only
        omega
      · rw [if_neg (by omega), if_neg hz]
        dsimp only
        omega
    · rw [if_neg (fun hh => hc ⟨hh.1.2, hh.2⟩), if_neg (by intro hh; omega), if_neg h1, if_neg (show ¬ (b0 / 32 = 6 ∧ (1 < n ∧ b1 / 64 = 2)) by omega), if_neg (show ¬ (b0 / 16 = 14 ∧ (1 < n ∧ b1 / 64 = 2) ∧ (2 < n ∧ b2 / 64 = 2)) from fun hh => hc ⟨t1.2 hh.2.1, t2.2 hh.2.2⟩), if_neg (show ¬ (b0 / 8 = 30 ∧ (1 < n ∧ b1 / 64 = 2) ∧ (2 < n ∧ b2 / 64 = 2) ∧ (3 < n ∧ b3 / 64 = 2)) by omega)]
      dsimp only
      omega
  rw [if_neg (by intro hh; omega)]
  by_cases h6 : 240 ≤ b0 ∧ b0 < 245
  · by_cases hc : c1 = true ∧ c2 = true ∧ c3 = true
    · have a1 := t1.1 hc.1
      have a2 := t2.1 hc.2.1
      have a3 := t3.1 hc.2.2
      rw [if_pos ⟨⟨⟨⟨by omega, by omega⟩, hc.1⟩, hc.2.1⟩, hc.2.2⟩, if_neg h1, if_neg (show ¬ (b0 / 32 = 6 ∧ (1 < n ∧ b1 / 64 = 2)) by omega), if_neg (show ¬ (b0 / 16 = 14 ∧ (1 < n ∧ b1 / 64 = 2) ∧ (2 < n ∧ b2 / 64 = 2)) by omega), if_pos (show (b0 / 8 = 30 ∧ (1 < n ∧ b1 / 64 = 2) ∧ (2 < n ∧ b2 / 64 = 2) ∧ (3 < n ∧ b3 / 64 = 2)) from ⟨by omega, a1, a2, a3⟩)]
      have hz : ((b0 : Int) - 240) * 64 + b1 - 128 = (((b0 - 240) * 64 + (b1 - 128) : Nat) : Int) := by omega
      have hy : ((((b0 - 240) * 64 + (b1 - 128) : Nat) : Int)) * 64 + b2 - 128 = (((b0 - 240) * 4096 + (b1 - 128) * 64 + (b2 - 128) : Nat) : Int) := by omega
      have hx : ((((b0 - 240) * 4096 + (b1 - 128) * 64 + (b2 - 128) : Nat) : Int)) * 64 + b3 - 128 = ((b0 % 8 * 262144 + b1 % 64 * 4096 + b2 % 64 * 64 + b3 % 64 : Nat) : Int) := by omega
      rw [hz, hy, hx]
      generalize b0 % 8 * 262144 + b1 % 64 * 4096 + b2 % 64 * 64 + b3 % 64 = z
      by_cases hz : z ≥ 65536 ∧ (z < 55296 ∨ 57344 ≤ z ∧ z ≤ 1114111)
      · rw [if_pos (by omega), if_pos hz]
        dsimp only
        omega
      · rw [if_neg (by omega), if_neg hz]
        dsimp only
        omega
    · rw [if_neg (fun hh => hc ⟨hh.1.1.2, hh.1.2, hh.2⟩), if_neg h1, if_neg (show ¬ (b0 / 32 = 6 ∧ (1 < n ∧ b1 / 64 = 2)) by omega), if_neg (show ¬ (b0 / 16 = 14 ∧ (1 < n ∧ b1 / 64 = 2) ∧ (2 < n ∧ b2 / 64 = 2)) by omega), if_neg (show ¬ (b0 / 8 = 30 ∧ (1 < n ∧ b1 / 64 = 2) ∧ (2 < n ∧ b2 / 64 = 2) ∧ (3 < n ∧ b3 / 64 = 2)) from fun hh => hc ⟨t1.2 hh.2.1, t2.2 hh.2.2.1, t3.2 hh.2.2.2⟩)]
      dsimp only
      omega
  rw [if_neg (by intro hh; omega), if_neg h1]
  repeat' split
  all_goals (dsimp only; omega)

theorem valid_pts : ∀ (n : Nat) (l : List UInt8), l.length ≤ n → Go.Lib.validD l = (ptsR l).isSome
  | 0, l, hn => by
    have : l = [] := List.eq_nil_of_length_eq_zero (by omega)
    subst this
    rfl
  | n + 1, l, hn => by
    by_cases h0 : 0 < l.length
    · have hne : l ≠ [] := fun e => by rw [e] at h0; simp at h0
      rw [Go.Lib.validD_step l hne, ptsR_step l h0]
      have hl := ptR_len l h0
      rcases pt_dec l h0 with ⟨h1, h2, h3⟩ | ⟨h1, h2, h3, h4⟩
      · rw [if_pos ⟨h2, h3⟩, if_pos h1]
        rfl
      · rw [if_neg h4, if_neg h1, Option.isSome_map]
        have e : (Go.Lib.decodeL l).2 = (ptR l).2.toNat := by omega
        rw [e]
        exact valid_pts n _ (by rw [List.length_drop]; omega)
    · have : l = [] := List.eq_nil_of_length_eq_zero (by omega)
      subst this
      rfl

end Go.Proofs.YtfpckllenkifkaaDoor

/- The characters of a string, as the program lists them: those of the reference. -/
namespace Go.Proofs.YtfpckllenkifkaaDoor
open Go.Ax
set_option linter.unusedSimpArgs false
set_option maxRecDepth 10000

set_option maxHeartbeats 1000000 in
theorem list_c (H : AHeap) (t : Tab H) (s : ByteArray) (hlen : s.data.toList.length ≤ 100000) (hok : H.base ≤ H.next) : CallA Tryd.prog 36 [.string s] H (fun out H1 => Mod [] H H1 ∧ LsOut H H1 (ptsR s.data.toList) out) := by
  obtain ⟨r, hr⟩ : ∃ r, ptsR s.data.toList = r := ⟨_, rfl⟩
  have hv := valid_c (ext H []) t s (by rw [size_len]; omega)
  rw [valid_pts _ _ (Nat.le_refl _), hr] at hv
  have hcv : ∀ (X : AHeap) (m : Int), aConvert Tryd.prog X 21 3 (.int .i32 m) = some (.int .i64 (IntKind.i64.wrap m), X) := fun X m => cv_int (u := .int .i32) (by kernel_rfl) (by kernel_rfl)
  refine callE_fn mixed Tryd.func36 rfl Tryd.ntmps36 (Nat.le_of_ble_eq_true rfl) ?_
  simp (maxDischargeDepth := 6) only [ruW, putL, Nat.reduceLeDiff, xF, ruU, entryE, Nat.reduceLT, Nat.reduceAdd, Nat.reduceMul, Nat.reduceEqDiff]
  refine hv.to ?_
  rw [hr]
  cases hr0 : r with
  | none =>
    simp (maxDischargeDepth := 6) only [Option.isSome_none, Tryd.results36, ruW, putL, Nat.reduceLeDiff, xF, ruU, entryE, Nat.reduceLT, Nat.reduceAdd, Nat.reduceMul, Nat.reduceEqDiff]
    exact ⟨Mod.refl, rfl⟩
  | some r0 =>
    rw [← hr0]
    have hsome : r.isSome = true := by rw [hr0]; rfl
    have e1 := range_str (H := ext H []) (s := s) u9
    simp (maxDischargeDepth := 6) only [hr0, Option.isSome_some, w_rangeS, e1, ruW, putL, Nat.reduceLeDiff, xF, ruU, entryE, Nat.reduceLT, Nat.reduceAdd, Nat.reduceMul, Nat.reduceEqDiff]
    refine w_env fun E hE => ?_
    have g4 : E 4 = .slice none 0 0 := by rw [hE]; simp only [ruU, entryE, Nat.reduceLT, Nat.reduceAdd, Nat.reduceMul, Nat.reduceEqDiff]
    have g11 : E 11 = .pointer (some ⟨H.next, 0, none⟩) := by rw [hE]; (simp only [ruU, entryE, Nat.reduceLT, Nat.reduceAdd, Nat.reduceMul, Nat.reduceEqDiff] <;> rfl)
    clear hE
    refine blockC_meet (fun E' X => Mod [] H X ∧ ∃ v l, r = some l ∧ E' 4 = v ∧ VsAt X 3 1 v (iv l) l.length ∧ ∀ n ∈ idsV v, H.next ≤ n) ?_ ?_
    · refine w_loop (fun (q : Nat × List Int × Value) E' X => Mod [] H X ∧ X.get H.next = some (itO s q.1) ∧ H.next < X.next ∧ r = (ptsR (s.data.toList.drop q.1)).map (q.2.1 ++ ·) ∧ q.2.1.length ≤ q.1 ∧ q.1 ≤ s.data.toList.length ∧ E' 11 = .pointer (some ⟨H.next, 0, none⟩) ∧ E' 4 = q.2.2 ∧ VsAt X 3 1 q.2.2 (iv q.2.1) q.2.1.length ∧ ∀ n ∈ idsV q.2.2, H.next < n) (fun q => s.data.toList.length - q.1) (0, [], .slice none 0 0)
        ⟨Mod.new hok, by rw [AHeap.get_new, if_pos (show H.next = (ext H []).next from rfl)], Nat.lt_succ_self _, by rw [← hr]; simp, Nat.le_refl _, Nat.zero_le _, g11, g4, VsAt.nil, fun n hn => by simp [idsV] at hn⟩ ?_
      clear g4 g11 E
      rintro ⟨p, l, v⟩ E X ⟨m, hit, hlt, hrr, hlp, hps, g11, g4, hva, hid⟩
      simp only at hit hrr hlp hps g11 g4 hva hid
      rw [show X = ext X [] from rfl]
      by_cases h0 : p < s.data.toList.length
      · have hl0 : 0 < (s.data.toList.drop p).length := by rw [List.length_drop]; omega
        have hpt := ptR_len _ hl0
        have hdec := pt_dec _ hl0
        rw [Go.Lib.decodeL_drop] at hdec
        rw [ptsR_step _ hl0] at hrr
        obtain ⟨c, n, hcn⟩ : ∃ c n, ptR (s.data.toList.drop p) = (c, n) := ⟨_, _, rfl⟩
        rw [hcn] at hpt hdec hrr
        simp only at hpt hdec hrr
        by_cases hn : n = 0
        · rw [if_pos hn] at hrr
          rw [hrr] at hsome
          cases hsome
        rw [if_neg hn] at hrr
        obtain ⟨h1, h2, h3, h4⟩ := hdec.resolve_left (fun h => hn h.1)
        have hnx := next_str (H := ext X []) (n := H.next) (p := p) (s := s) hit (by rw [size_len]; exact h0)
        obtain ⟨Y, hY⟩ : ∃ Y, X.upd H.next (some (itO s (p + (Utf8.decode s p).2))) = Y := ⟨_, rfl⟩
        have mY : Mod [H.next] X Y := hY ▸ Mod.upd (by simp)
        have hYn : Y.next = X.next := by rw [← hY]; rfl
        have hYit : Y.get H.next = some (itO s (p + (Utf8.decode s p).2)) := by rw [← hY, AHeap.get_upd, if_pos rfl]
        rw [show (ext X []).upd H.next (some (itO s (p + (Utf8.decode s p).2))) = ext Y [] from hY, ← h2] at hnx
        rw [← hY] at mY
        rw [hY] at mY
        obtain ⟨x, hx⟩ : ∃ x, Y.next = x := ⟨_, rfl⟩
        have hxb : Y.base ≤ Y.next := mY.ok (m.ok hok)
        have hvY : VsAt Y 3 1 v (iv l) l.length := hva.of (by omega) (fun q hq => mY.get q (hva.ne q hq).2 (by simp only [List.mem_singleton]; have := hid q hq; omega))
        have hw : IntKind.i64.wrap c = c := wrap_sm (by omega) (by omega)
        obtain ⟨G, k1, k2, k3, k4⟩ := int_app (c := c) hvY hx hxb (by omega)
        simp (maxDischargeDepth := 6) only [g4, g11, w_nextS, hnx, ruW, putL, Nat.reduceLeDiff, xF, ruU, entryE, Nat.reduceLT, Nat.reduceAdd, Nat.reduceMul, Nat.reduceEqDiff]
        simp (maxDischargeDepth := 6) only [g4, g11, hx, hxb, w_convert, hcv, hw, k1, ruW, putL, Nat.reduceLeDiff, xF, ruU, entryE, Nat.reduceLT, Nat.reduceAdd, Nat.reduceMul, Nat.reduceEqDiff]
        refine loopC_next ⟨(p + n.toNat, l ++ [c], .slice (some ⟨x + 1, 0, none⟩) (l.length + 1) (l.length + 1)), ?_, ?_, ?_, ?_, ?_, ?_, ?_, ?_, ?_, ?_, ?_⟩
        · simp only; omega
        · exact (m.step mY hok (fun q hq => .inr (by simp only [List.mem_singleton] at hq; omega))).step k3 hok (fun q hq => .inr (Nat.le_of_lt (hid q hq)))
        · have hnv : H.next ∉ idsV v := fun h => absurd (hid _ h) (Nat.lt_irrefl _)
          rw [show (ext G []).get H.next = G.get H.next from rfl, k3.get H.next (by omega) hnv, hYit]
          rw [show (Utf8.decode s p).2 = n.toNat by omega]
        · rw [show (ext G []).next = G.next from rfl, k4]; omega
        · rw [hrr, Option.map_map, List.drop_drop]
          congr 1
          funext y
          simp
        · simp only [List.length_append, List.length_cons, List.length_nil]; omega
        · rw [List.length_drop] at hpt; omega
        · simp only [g4, g11, ruU, entryE, Nat.reduceLT, Nat.reduceAdd, Nat.reduceMul, Nat.reduceEqDiff]
        · simp only [g4, g11, ruU, entryE, Nat.reduceLT, Nat.reduceAdd, Nat.reduceMul, Nat.reduceEqDiff]
        · exact k2
        · intro q hq
          simp only [idsV, List.mem_singleton] at hq
          omega
      · have hnx := next_end (H := ext X []) (n := H.next) (p := p) (s := s) hit (by rw [size_len]; exact h0)
        rw [List.drop_eq_nil_of_le (by omega), ptsR_nil] at hrr
        simp (maxDischargeDepth := 6) only [g4, g11, w_nextS, hnx, ruW, putL, Nat.reduceLeDiff, xF, ruU, entryE, Nat.reduceLT, Nat.reduceAdd, Nat.reduceMul, Nat.reduceEqDiff]
        exact joinR_normal ⟨m, v, l, by rw [hrr]; simp, g4, hva, fun q hq => Nat.le_of_lt (hid q hq)⟩
    clear g4 g11 E
    rintro E X ⟨m, v, l, hrl, g4, hva, hid⟩
    rw [show X = ext X [] from rfl]
    simp (maxDischargeDepth := 6) only [g4, Tryd.results36, ruW, putL, Nat.reduceLeDiff, xF, ruU, entryE, Nat.reduceLT, Nat.reduceAdd, Nat.reduceMul, Nat.reduceEqDiff]
    have e : r0 = l := Option.some.inj (hr0.symm.trans hrl)
    subst e
    exact ⟨m, v, rfl, hva, hid⟩

end Go.Proofs.YtfpckllenkifkaaDoor

/- Looks and the cells of a character: what the program and the reference come to. -/
namespace Go.Ax
section
variable {P : Program} {ro : Option Nat} {H : AHeap} {N : Nat} {E : Env} {ds : List Deferred} {ops : Array Oper} {rest : List Oper} {d : Nat} {ty : TypeId} {pos : String} {after : Array Edge} {Q : Exit → AAct → AHeap → Prop}
def bXor (k : IntKind) (x y : Int) : Int := k.wrap ((BitVec.ofInt k.bits x ^^^ BitVec.ofInt k.bits y).toNat : Int)
def xorV : Value → Value → Option Value
  | .int k a, .int k' b => if k = k' then some (.int k (bXor k a b)) else none
  | _, _ => none
theorem xor_int {k : IntKind} {a b : Int} : xorV (.int k a) (.int k b) = some (.int k (bXor k a b)) := by simp only [xorV, if_true]
theorem w_xor {t u : TypeId} {x y : Operand} (hx : opOk P N x = true) (hy : opOk P N y = true) (hd : d < N) (h : (xorV (opv E x) (opv E y)).isSome = true) : wpOps P ro ops (⟨some d, .binOp .xor t x y u, ty, pos, after, none⟩ :: rest) (mkA N E ds) H Q = valC P ro ops rest N E ds d H Q (xorV (opv E x) (opv E y)) := by
  cases hv : xorV (opv E x) (opv E y) with
  | none => rw [hv] at h; cases h
  | some v =>
    unfold xorV at hv
    split at hv
    · rename_i k a k' b hp hq
      split at hv
      · rename_i hk
        subst hk
        simp only [Option.some.injEq] at hv
        subst hv
        have h0 : aBin P H .xor t (.int k a) (.int k b) = none := by
          simp only [aBin]
          split <;> rfl
        exact (w_plain hx hy hp hq hd h0 rfl rfl (by simp [eqGuard, binOp, peval, Op.intBits, bXor, pure, bind, Sem.bind]) rfl).trans valC_some.symm
      · cases hv
    · cases hv
end
end Go.Ax
namespace Go.Proofs.YtfpckllenkifkaaDoor
open Go.Ax
set_option linter.unusedSimpArgs false
set_option maxRecDepth 10000

structure Lk where
  fore : Int
  back : Int
  bold : Bool
  under : Bool
  inv : Bool
def Lk.val (k : Lk) : Value := .agg #[.int .i64 k.fore, .int .i64 k.back, .bool k.bold, .bool k.under, .bool k.inv]
def Lk.ce (k : Lk) (r : Int) : Ce := ⟨r, k.fore, k.back, k.bold, k.under, k.inv⟩
def colr (k : Lk) : Bool := decide (0 ≤ k.fore) && decide (k.fore ≤ 256) && decide (0 ≤ k.back) && decide (k.back ≤ 256)

theorem coloured_c (H : AHeap) (k : Lk) : Pure 37 [k.val] H (.bool (colr k)) := by
  obtain ⟨b, hb⟩ : ∃ b, H.next = b := ⟨_, rfl⟩
  obtain ⟨d1, h1⟩ : ∃ d, decide (0 ≤ k.fore) = d := ⟨_, rfl⟩
  obtain ⟨d2, h2⟩ : ∃ d, decide (k.fore ≤ 256) = d := ⟨_, rfl⟩
  obtain ⟨d3, h3⟩ : ∃ d, decide (0 ≤ k.back) = d := ⟨_, rfl⟩
  obtain ⟨d4, h4⟩ : ∃ d, decide (k.back ≤ 256) = d := ⟨_, rfl⟩
  simp only [colr, h1, h2, h3, h4]
  refine callS_fn mixed Tryd.func37 rfl Tryd.ntmps37 (Nat.le_of_ble_eq_true rfl) fun wf hsc => ?_
  have hbase : H.base ≤ b := hb ▸ wf.base
  cases d1 <;> cases d2 <;> cases d3 <;> cases d4 <;> (simp (maxDischargeDepth := 6) only [hb, hbase, Lk.val, h1, h2, h3, h4, Tryd.results37, ruW, putL, Nat.reduceLeDiff, xF, ruU, entryE, Nat.reduceLT, Nat.reduceAdd, Nat.reduceMul, Nat.reduceEqDiff]; exact Fin.pureE rfl rfl)

theorem colours_c (H : AHeap) (k : Lk) : Pure 40 [k.val] H (.bool (colr k)) := by
  obtain ⟨b, hb⟩ : ∃ b, H.next = b := ⟨_, rfl⟩
  obtain ⟨d1, h1⟩ : ∃ d, decide (0 ≤ k.fore) = d := ⟨_, rfl⟩
  obtain ⟨d2, h2⟩ : ∃ d, decide (k.fore ≤ 256) = d := ⟨_, rfl⟩
  obtain ⟨d3, h3⟩ : ∃ d, decide (0 ≤ k.back) = d := ⟨_, rfl⟩
  obtain ⟨d4, h4⟩ : ∃ d, decide (k.back ≤ 256) = d := ⟨_, rfl⟩
  simp only [colr, h1, h2, h3, h4]
  refine callS_fn mixed Tryd.func40 rfl Tryd.ntmps40 (Nat.le_of_ble_eq_true rfl) fun wf hsc => ?_
  have hbase : H.base ≤ b := hb ▸ wf.base
  cases d1 <;> cases d2 <;> cases d3 <;> cases d4 <;> (simp (maxDischargeDepth := 6) only [hb, hbase, Lk.val, h1, h2, h3, h4, Tryd.results40, ruW, putL, Nat.reduceLeDiff, xF, ruU, entryE, Nat.reduceLT, Nat.reduceAdd, Nat.reduceMul, Nat.reduceEqDiff]; exact Fin.pureE rfl rfl)

def cls (c : Int) (k : Lk) : List Ce :=
  if (decide (c < 32) || decide (c = 127)) = true then [k.ce 94, k.ce (bXor .i64 c 64)] else if widthR c = 0 then [] else if widthR c = 2 then [k.ce c, k.ce (-1)] else [k.ce c]
theorem widthR_cases (c : Int) : widthR c = 0 ∨ widthR c = 1 ∨ widthR c = 2 := by
  unfold widthR
  split
  · exact .inl rfl
  · split
    · exact .inr (.inr rfl)
    · exact .inr (.inl rfl)
theorem cls_len (c : Int) (k : Lk) : (cls c k).length ≤ 2 := by
  unfold cls
  split
  · simp
  · split
    · simp
    · split <;> simp

def SrcAt (H H1 : AHeap) (v : Value) (l : List Ce) : Prop :=
  (l = [] ∧ v = .slice none 0 0) ∨ ∃ n cap L, v = .slice (some ⟨n, 0, some 0⟩) l.length cap ∧ H.next ≤ n ∧ n < H1.next ∧ bk H1 n = some ⟨68, false, csOf (l ++ L)⟩

set_option maxHeartbeats 1000000 in
theorem cells_c (H : AHeap) (c : Int) (k : Lk) (hok : H.base ≤ H.next) : CallA Tryd.prog 38 [.int .i64 c, k.val] H (fun out H1 => Mod [] H H1 ∧ ∃ v, out = .ok v ∧ SrcAt H H1 v (cls c k)) := by
  obtain ⟨b, hb⟩ : ∃ b, H.next = b := ⟨_, rfl⟩
  have hbase : H.base ≤ b := hb ▸ hok
  obtain ⟨d1, h1⟩ : ∃ d, decide (c < 32) = d := ⟨_, rfl⟩
  obtain ⟨d2, h2⟩ : ∃ d, decide (c = 127) = d := ⟨_, rfl⟩
  have two : ∀ (x y : Int), cls c k = [k.ce x, k.ce y] → ∀ L : List Bl, L[1]? = some ⟨68, false, [.int .i64 x, .int .i64 k.fore, .int .i64 k.back, .bool k.bold, .bool k.under, .bool k.inv, .int .i64 y, .int .i64 k.fore, .int .i64 k.back, .bool k.bold, .bool k.under, .bool k.inv]⟩ → 1 < L.length → SrcAt H (ext H L) (.slice (some ⟨b + 1, 0, some 0⟩) 2 2) (cls c k) := fun x y he L hL hl => by
    rw [he]
    exact .inr ⟨b + 1, 2, [], rfl, by omega, by rw [ext_next]; omega, by rw [bk_at hb hl, hL]; rfl⟩
  refine callE_fn mixed Tryd.func38 rfl Tryd.ntmps38 (Nat.le_of_ble_eq_true rfl) ?_
  by_cases hs : (d1 || d2) = true
  · have he : cls c k = [k.ce 94, k.ce (bXor .i64 c 64)] := by unfold cls; rw [h1, h2, if_pos hs]
    cases d1 with
    | true =>
      simp (maxDischargeDepth := 6) only [hb, hbase, Lk.val, h1, w_xor, xor_int, Tryd.results38, ruW, putL, Nat.reduceLeDiff, xF, ruU, entryE, Nat.reduceLT, Nat.reduceAdd, Nat.reduceMul, Nat.reduceEqDiff]
      exact ⟨Mod.ext hok, _, rfl, two _ _ he _ rfl (by simp)⟩
    | false =>
      cases d2 with
      | false => simp at hs
      | true =>
        simp (maxDischargeDepth := 6) only [hb, hbase, Lk.val, h1, h2, w_xor, xor_int, Tryd.results38, ruW, putL, Nat.reduceLeDiff, xF, ruU, entryE, Nat.reduceLT, Nat.reduceAdd, Nat.reduceMul, Nat.reduceEqDiff]
        exact ⟨Mod.ext hok, _, rfl, two _ _ he _ rfl (by simp)⟩
  · have hd : d1 = false ∧ d2 = false := by cases d1 <;> cases d2 <;> simp_all
    obtain ⟨rfl, rfl⟩ := hd
    simp (maxDischargeDepth := 6) only [hb, hbase, Lk.val, h1, h2, ruW, putL, Nat.reduceLeDiff, xF, ruU, entryE, Nat.reduceLT, Nat.reduceAdd, Nat.reduceMul, Nat.reduceEqDiff]
    refine w_drawB [(8, 5), (9, 5)] [] (by kernel_rfl) (by kernel_rfl) rfl fun ops anc hA hG => ?_
    simp only [all2_cons] at hA
    simp (maxDischargeDepth := 6) only [hb, hbase, hA, ruD, ruW, putL, Nat.reduceLeDiff, xF, ruU, entryE, Nat.reduceLT, Nat.reduceAdd, Nat.reduceMul, Nat.reduceEqDiff]
    refine genV_quiet (v := .int .i64 (widthR c : Int)) [] (by simp (maxDischargeDepth := 6) only [ruU, entryE, Nat.reduceLT, Nat.reduceAdd, Nat.reduceMul, Nat.reduceEqDiff]) (by kernel_rfl) (by decide) (fun _ h => by cases h) (fun K hn hg => ?_) (by simp (maxDischargeDepth := 6) only [ruD, ruW, putL, Nat.reduceLeDiff, xF, ruU, entryE, Nat.reduceLT, Nat.reduceAdd, Nat.reduceMul, Nat.reduceEqDiff]) ?_
    · simp only [ruU, entryE, Nat.reduceLT, Nat.reduceAdd, Nat.reduceMul, Nat.reduceEqDiff]
      exact width_c K c
    simp (maxDischargeDepth := 6) only [hb, hbase, hA, ruD, ruW, putL, Nat.reduceLeDiff, xF, ruU, entryE, Nat.reduceLT, Nat.reduceAdd, Nat.reduceMul, Nat.reduceEqDiff]
    have hwc := widthR_cases c
    have hcl : cls c k = if widthR c = 0 then [] else if widthR c = 2 then [k.ce c, k.ce (-1)] else [k.ce c] := by unfold cls; rw [h1, h2]; rfl
    obtain ⟨w, hw⟩ : ∃ w, widthR c = w := ⟨_, rfl⟩
    rw [hw] at hwc hcl ⊢
    have hbw : bound 2 (some (.int .i64 (w : Int))) = some w := by simp [bound]
    rw [wd_slice]
    refine genV_val (v := .slice (some ⟨b + 1, 0 + 0 * 6, some 0⟩) (w - 0) (2 - 0)) rfl (by decide) (fun G => slice_aop (by simp (maxDischargeDepth := 6) only [ruU, entryE, Nat.reduceLT, Nat.reduceAdd, Nat.reduceMul, Nat.reduceEqDiff]) rfl (by simp (maxDischargeDepth := 6) only [ruU, entryE, Nat.reduceLT, Nat.reduceAdd, Nat.reduceMul, Nat.reduceEqDiff, bndsOk_some]) rfl ?_) (by simp (maxDischargeDepth := 6) only [hA, ruD, ruW, putL, Nat.reduceLeDiff, xF, ruU, entryE, Nat.reduceLT, Nat.reduceAdd, Nat.reduceMul, Nat.reduceEqDiff]) ?_
    · simp only [bnds_some, bnds_none, ruU, entryE, Nat.reduceLT, Nat.reduceAdd, Nat.reduceMul, Nat.reduceEqDiff]
      exact sl_exact (e := 68) (sz := 6) (by kernel_rfl) (by kernel_rfl) rfl hbw (by omega) (Nat.zero_le _) (by decide)
    simp (maxDischargeDepth := 6) only [hb, hbase, hA, Tryd.results38, ruD, ruW, putL, Nat.reduceLeDiff, xF, ruU, entryE, Nat.reduceLT, Nat.reduceAdd, Nat.reduceMul, Nat.reduceEqDiff]
    refine ⟨Mod.ext hok, _, rfl, ?_⟩
    rw [hcl]
    refine .inr ⟨b + 1, 2, if w = 0 then [k.ce c, k.ce (-1)] else if w = 2 then [] else [k.ce (-1)], ?_, by omega, by rw [ext_next]; simp; omega, ?_⟩
    · rcases hwc with rfl | rfl | rfl <;> rfl
    · rw [bk_at hb (by simp)]
      rcases hwc with rfl | rfl | rfl <;> rfl

set_option maxHeartbeats 1000000 in
theorem refCells_c (H : AHeap) (c : Int) (k : Lk) (hok : H.base ≤ H.next) : CallA Tryd.prog 41 [.int .i64 c, k.val] H (fun out H1 => Mod [] H H1 ∧ ∃ v, out = .ok v ∧ SrcAt H H1 v (cls c k)) := by
  obtain ⟨b, hb⟩ : ∃ b, H.next = b := ⟨_, rfl⟩
  have hbase : H.base ≤ b := hb ▸ hok
  obtain ⟨d1, h1⟩ : ∃ d, decide (c < 32) = d := ⟨_, rfl⟩
  obtain ⟨d2, h2⟩ : ∃ d, decide (c = 127) = d := ⟨_, rfl⟩
  have two : ∀ (x y : Int), cls c k = [k.ce x, k.ce y] → ∀ L : List Bl, L[1]? = some ⟨68, false, [.int .i64 x, .int .i64 k.fore, .int .i64 k.back, .bool k.bold, .bool k.under, .bool k.inv, .int .i64 y, .int .i64 k.fore, .int .i64 k.back, .bool k.bold, .bool k.under, .bool k.inv]⟩ → 1 < L.length → SrcAt H (ext H L) (.slice (some ⟨b + 1, 0, some 0⟩) 2 2) (cls c k) := fun x y he L hL hl => by
    rw [he]
    exact .inr ⟨b + 1, 2, [], rfl, by omega, by rw [ext_next]; omega, by rw [bk_at hb hl, hL]; rfl⟩
  refine callE_fn mixed Tryd.func41 rfl Tryd.ntmps41 (Nat.le_of_ble_eq_true rfl) ?_
  by_cases hs : (d1 || d2) = true
  · have he : cls c k = [k.ce 94, k.ce (bXor .i64 c 64)] := by unfold cls; rw [h1, h2, if_pos hs]
    cases d1 with
    | true =>
      simp (maxDischargeDepth := 6) only [hb, hbase, Lk.val, h1, w_xor, xor_int, Tryd.results41, ruW, putL, Nat.reduceLeDiff, xF, ruU, entryE, Nat.reduceLT, Nat.reduceAdd, Nat.reduceMul, Nat.reduceEqDiff]
      exact ⟨Mod.ext hok, _, rfl, two _ _ he _ rfl (by simp)⟩
    | false =>
      cases d2 with
      | false => simp at hs
      | true =>
        simp (maxDischargeDepth := 6) only [hb, hbase, Lk.val, h1, h2, w_xor, xor_int, Tryd.results41, ruW, putL, Nat.reduceLeDiff, xF, ruU, entryE, Nat.reduceLT, Nat.reduceAdd, Nat.reduceMul, Nat.reduceEqDiff]
        exact ⟨Mod.ext hok, _, rfl, two _ _ he _ rfl (by simp)⟩
  · have hd : d1 = false ∧ d2 = false := by cases d1 <;> cases d2 <;> simp_all
    obtain ⟨rfl, rfl⟩ := hd
    have hcl : cls c k = if widthR c = 0 then [] else if widthR c = 2 then [k.ce c, k.ce (-1)] else [k.ce c] := by unfold cls; rw [h1, h2]; rfl
    have hwc := widthR_cases c
    simp (maxDischargeDepth := 6) only [hb, hbase, Lk.val, h1, h2, ruW, putL, Nat.reduceLeDiff, xF, ruU, entryE, Nat.reduceLT, Nat.reduceAdd, Nat.reduceMul, Nat.reduceEqDiff]
    refine (refWidth_c (ext H _) c).to ?_
    rcases hwc with hw | hw | hw
    · have e0 : decide ((widthR c : Int) = 0) = true := by rw [hw]; rfl
      simp (maxDischargeDepth := 6) only [hb, hbase, e0, Tryd.results41, ruW, putL, Nat.reduceLeDiff, xF, ruU, entryE, Nat.reduceLT, Nat.reduceAdd, Nat.reduceMul, Nat.reduceEqDiff]
      refine ⟨Mod.ext hok, _, rfl, .inl ⟨?_, rfl⟩⟩
      rw [hcl, hw]; rfl
    · have e0 : decide ((widthR c : Int) = 0) = false := by rw [hw]; rfl
      have e2 : decide ((widthR c : Int) = 2) = false := by rw [hw]; rfl
      simp (maxDischargeDepth := 6) only [hb, hbase, e0, ruW, putL, Nat.reduceLeDiff, xF, ruU, entryE, Nat.reduceLT, Nat.reduceAdd, Nat.reduceMul, Nat.reduceEqDiff]
      refine (refWidth_c (ext H _) c).to ?_
      simp (maxDischargeDepth := 6) only [hb, hbase, e2, Tryd.results41, ruW, putL, Nat.reduceLeDiff, xF, ruU, entryE, Nat.reduceLT, Nat.reduceAdd, Nat.reduceMul, Nat.reduceEqDiff]
      refine ⟨Mod.ext hok, _, rfl, .inr ⟨b + 1, 1, [], ?_, by omega, by rw [ext_next]; simp; omega, ?_⟩⟩
      · rw [hcl, hw]; rfl
      · rw [bk_at hb (by simp), hcl, hw]; rfl
    · have e0 : decide ((widthR c : Int) = 0) = false := by rw [hw]; rfl
      have e2 : decide ((widthR c : Int) = 2) = true := by rw [hw]; rfl
      simp (maxDischargeDepth := 6) only [hb, hbase, e0, ruW, putL, Nat.reduceLeDiff, xF, ruU, entryE, Nat.reduceLT, Nat.reduceAdd, Nat.reduceMul, Nat.reduceEqDiff]
      refine (refWidth_c (ext H _) c).to ?_
      simp (maxDischargeDepth := 6) only [hb, hbase, e2, Tryd.results41, ruW, putL, Nat.reduceLeDiff, xF, ruU, entryE, Nat.reduceLT, Nat.reduceAdd, Nat.reduceMul, Nat.reduceEqDiff]
      refine ⟨Mod.ext hok, _, rfl, two c (-1) (by rw [hcl, hw]; rfl) _ rfl (by simp)⟩

end Go.Proofs.YtfpckllenkifkaaDoor

/- What Fit makes of a string. -/
namespace Go.Proofs.YtfpckllenkifkaaDoor
open Go.Ax
set_option linter.unusedSimpArgs false
set_option maxRecDepth 10000

theorem putL_nil : ∀ (l : List Value) (off : Nat), putL l off [] = l
  | [], 0 => rfl
  | [], _ + 1 => rfl
  | _ :: _, 0 => rfl
  | x :: r, k + 1 => by rw [putL, putL_nil r k]

theorem ce_app {H0 X : AHeap} {v v2 : Value} {l l2 : List Ce} {x : Nat} (h : VsAt X 68 6 v (csOf l) l.length) (h2 : SrcAt H0 X v2 l2) (hx : X.next = x) (hb : X.base ≤ X.next) (hlen : l.length + l2.length ≤ 10000) :
    ∃ v' G, aBuiltin Tryd.prog X .append ⟨[39, 39]⟩ [v, v2] = some (v', ext G []) ∧ VsAt G 68 6 v' (csOf (l ++ l2)) (l ++ l2).length ∧ Mod (idsV v) X G ∧ (∀ n ∈ idsV v', n ∈ idsV v ∨ x ≤ n) := by
  have a1 : Tryd.prog.underlying 39 = some (.slice 68) := by kernel_rfl
  have a2 : szOf Tryd.prog 68 = some 6 := by kernel_rfl
  have a3 : bytesOf Tryd.prog 68 = some 32 := by kernel_rfl
  have a4 : zeroOf Tryd.prog 68 = some (.agg #[.int .i64 0, .int .i64 0, .int .i64 0, .bool false, .bool false, .bool false]) := by kernel_rfl
  have a5 : intTy Tryd.prog 39 = some false := by kernel_rfl
  by_cases he : l2 = []
  · subst he
    have hf : firstC X 6 0 v2 = some [] ∧ lenV v2 = some 0 := by
      rcases h2 with ⟨_, rfl⟩ | ⟨n, cap, L, rfl, _, _, hbk⟩
      · exact ⟨rfl, rfl⟩
      · exact ⟨by rw [first_bk hbk (by simp)]; simp, rfl⟩
    have hsm : ∀ k, k ≤ 10000 → small (k + 0) 32 = true := fun k hk => by simp only [small, Bool.and_eq_true, Nat.ble_eq]; omega
    rw [List.append_nil]
    have h' := h
    obtain ⟨h1, h3, ⟨hz, rfl⟩ | ⟨h0, m, rfl, hm, hlt⟩⟩ := h
    · refine ⟨_, X, ?_, h', Mod.refl, fun n hn => .inl hn⟩
      simp only [aBuiltin, aAppend, a1, a2, a3, a4, a5, hf.1, hf.2, Option.bind_eq_bind, Option.bind_some]
      rfl
    · have hw := write_old (H := X) (L := []) (off := 0 + l.length * 6) (vs := []) hlt hm (by simp only [List.length_nil]; omega) rfl rfl
      rw [ext_nil, ext_nil] at hw
      refine ⟨.slice (some ⟨m, 0, none⟩) l.length l.length, uw X m (0 + l.length * 6) [], ?_, ⟨h1, h3, .inr ⟨h0, m, rfl, ?_, by rw [uw_next]; exact hlt⟩⟩, Mod.uw (by simp [idsV]), fun n hn => .inl hn⟩
      · simp only [aBuiltin, aAppend, a1, a2, a3, a4, a5, hf.1, hf.2, Option.bind_eq_bind, Option.bind_some]
        rw [if_pos ⟨by simp, hsm _ (by omega), rfl⟩]
        simp only [aAppend2]
        rw [if_pos (by omega)]
        simp only [hw, Option.bind_eq_bind, Option.bind_some]
        rfl
      · rw [bk_uw_eq, hm]
        simp only [Option.map_some, putB, putL_nil]
  · rcases h2 with ⟨e, _⟩ | ⟨n, cap, L, rfl, _, _, hbk⟩
    · exact absurd e he
    have hpos : 0 < l2.length := List.length_pos_iff.2 he
    have hsm : small (l.length + l2.length) 32 = true := by simp only [small, Bool.and_eq_true, Nat.ble_eq]; omega
    obtain ⟨G, k1, k2, k3, k4, _⟩ := vs_app (P := Tryd.prog) (H := X) (st := 39) (xt := 39) (e := 68) (sz := 6) (by1 := 32) (n := n) (off := 0) (cnt2 := l2.length) (cap := cap) (s := some 0) (x := x) (ws := csOf l2) (b := ⟨68, false, csOf (l2 ++ L)⟩)
      a1 a2 a3 a4 rfl a5 h (rk_of hbk) (by simp only [csOf_length, List.length_append]; omega) (by rw [List.drop_zero, csOf_take, List.take_append, List.take_length, Nat.sub_self, List.take_zero, List.append_nil]) (csOf_one l2) hpos hsm hx (scbL_append (csOf_sc _ _) (csOf_sc _ _))
    rw [← csOf_append] at k2
    refine ⟨_, G, k1, by rw [List.length_append]; exact k2, k3 hb, fun q hq => ?_⟩
    simp only [idsV, List.mem_singleton] at hq
    exact .inr (by omega)

def grd (w : Nat) (k : Lk) : List Int → List Ce → List Ce
  | [], acc => acc
  | c :: l, acc => if w < acc.length + (cls c k).length then acc else grd w k l (acc ++ cls c k)
theorem grd_len (w : Nat) (k : Lk) : ∀ (l : List Int) (acc : List Ce), acc.length ≤ w → (grd w k l acc).length ≤ w
  | [], acc, h => h
  | c :: l, acc, h => by
    rw [grd]
    split
    · exact h
    · exact grd_len w k l _ (by rw [List.length_append]; omega)
def fitR (w : Nat) (k : Lk) (l : List Int) : List Ce := grd w k l [] ++ List.replicate (w - (grd w k l []).length) (k.ce 32)

theorem rep_c (w : Nat) (hw : w ≤ 1000) (c : Ce) (n : Nat) (s : Option Nat) (H : AHeap) (hn : bk H n = some ⟨68, false, c.cells⟩) :
    CallS Tryd.prog 24 [.slice (some ⟨n, 0, s⟩) 1 1, .int .i64 (w : Int)] H (.ok (.slice (some ⟨H.next, 0, some 0⟩) w w)) (ext H [⟨68, false, csOf (List.replicate w c)⟩]) := by
  rcases Nat.eq_zero_or_pos w with rfl | h
  · exact repeat0_c c n s H hn
  · exact repeat_c w h hw c n s H hn

def lkc (k : Lk) : List Value := [.int .i64 k.fore, .int .i64 k.back, .bool k.bold, .bool k.under, .bool k.inv]

def FitOut (H H1 : AHeap) (r : Option (List Int)) (width : Int) (k : Lk) (out : Out) : Prop :=
  match r with
  | none => out = .ok (.tuple #[.slice none 0 0, .int .i64 5])
  | some l => if (decide (width < 0) || decide (1000 < width) || !colr k) = true then out = .ok (.tuple #[.slice none 0 0, .int .i64 3]) else
      ∃ v, out = .ok (.tuple #[v, .int .i64 0]) ∧ VsAt H1 68 6 v (csOf (fitR width.toNat k l)) (fitR width.toNat k l).length ∧ ∀ n ∈ idsV v, H.next ≤ n

structure FitI (H X1 X : AHeap) (q : Nat) (k : Lk) (v8 : Value) (l : List Int) (v : Value) (acc : List Ce) : Prop where
  m : Mod [] H X
  lo : X1.next ≤ X.next
  ok : X.base ≤ X.next
  box : bk X q = some ⟨38, false, lkc k⟩
  ql : q < X1.next
  av8 : VsAt X 3 1 v8 (iv l) l.length
  i8 : ∀ n ∈ idsV v8, n < X1.next
  av : VsAt X 68 6 v (csOf acc) acc.length
  i : ∀ n ∈ idsV v, X1.next ≤ n

theorem FitI.grow {H X1 X Y : AHeap} {q : Nat} {k : Lk} {v8 v : Value} {l : List Int} {acc : List Ce} (h : FitI H X1 X q k v8 l v acc) (hH : H.base ≤ H.next) (m : Mod [] X Y) : FitI H X1 Y q k v8 l v acc :=
  ⟨h.m.trans m, Nat.le_trans h.lo m.next, m.ok h.ok, (m.bk (Nat.lt_of_lt_of_le h.ql h.lo) (by simp)).trans h.box, h.ql, h.av8.of m.next (fun n hn => m.get n (h.av8.ne n hn).2 (by simp)), h.i8, h.av.of m.next (fun n hn => m.get n (h.av.ne n hn).2 (by simp)), h.i⟩

theorem FitI.app {H H0 X1 X : AHeap} {q : Nat} {k : Lk} {v8 v v2 : Value} {l : List Int} {acc l2 : List Ce} {x : Nat} (h : FitI H X1 X q k v8 l v acc) (hH : H.base ≤ H.next) (hn : H.next ≤ X1.next) (h2 : SrcAt H0 X v2 l2) (hx : X.next = x) (hlen : acc.length + l2.length ≤ 10000) :
    ∃ v' G, aBuiltin Tryd.prog X .append ⟨[39, 39]⟩ [v, v2] = some (v', ext G []) ∧ FitI H X1 G q k v8 l v' (acc ++ l2) := by
  obtain ⟨v', G, k1, k2, k3, k4⟩ := ce_app h.av h2 hx h.ok hlen
  have hnot : ∀ n, n < X1.next → n ∉ idsV v := fun n hn hi => by have := h.i n hi; omega
  refine ⟨v', G, k1, h.m.step k3 hH (fun n hi => .inr (Nat.le_trans hn (h.i n hi))), Nat.le_trans h.lo k3.next, k3.ok h.ok, (k3.bk (Nat.lt_of_lt_of_le h.ql h.lo) (hnot q h.ql)).trans h.box, h.ql, h.av8.of k3.next (fun n hi => k3.get n (h.av8.ne n hi).2 (hnot n (h.i8 n hi))), h.i8, k2, fun n hi => ?_⟩
  rcases k4 n hi with h' | h'
  · exact h.i n h'
  · have := h.lo; omega

theorem ints_load {X : AHeap} {v8 : Value} {l : List Int} {i : Nat} {c : Int} (h : VsAt X 3 1 v8 (iv l) l.length) (hc : l[i]? = some c) : ∃ n, v8 = .slice (some ⟨n, 0, none⟩) l.length l.length ∧ n < X.next ∧ bk X n = some ⟨3, true, iv l⟩ ∧ (iv l)[i]? = some (.int .i64 c) := by
  have hi : i < l.length := by
    rcases Nat.lt_or_ge i l.length with h' | h'
    · exact h'
    · rw [List.getElem?_eq_none h'] at hc; cases hc
  obtain ⟨_, _, ⟨h0, _⟩ | ⟨_, n, e, hb, hlt⟩⟩ := h
  · omega
  · exact ⟨n, e, hlt, hb, by simp [iv, hc]⟩

set_option maxHeartbeats 4000000 in
theorem fit_c (H : AHeap) (t : Tab H) (h01 : 1 < H.next) (s : ByteArray) (width : Int) (k : Lk) (hlen : s.data.toList.length ≤ 300) (hok : H.base ≤ H.next) :
    CallA Tryd.prog 13 [.string s, .int .i64 width, k.val] H (fun out H1 => Mod [] H H1 ∧ FitOut H H1 (ptsR s.data.toList) width k out) := by
  obtain ⟨b, hb⟩ : ∃ b, H.next = b := ⟨_, rfl⟩
  have hbase : H.base ≤ b := hb ▸ hok
  refine callE_fn mixed Tryd.func13 rfl Tryd.ntmps13 (Nat.le_of_ble_eq_true rfl) ?_
  simp (maxDischargeDepth := 6) only [hb, hbase, Lk.val, ruW, putL, Nat.reduceLeDiff, xF, ruU, entryE, Nat.reduceLT, Nat.reduceAdd, Nat.reduceMul, Nat.reduceEqDiff]
  generalize hX0 : ext H [_] = X0
  have m0 : Mod [] H X0 := hX0 ▸ Mod.ext hok
  have n0 : X0.next = b + 1 := by rw [← hX0, ext_next, hb]; rfl
  have box0 : bk X0 (b + 0) = some ⟨38, false, lkc k⟩ := by rw [← hX0, bk_at hb (by simp)]; rfl
  have t0 : Tab X0 := t.of (m0.get 0 (by omega) (by simp)) (m0.get 1 (by omega) (by simp))
  refine (list_c X0 t0 s (by omega) (m0.ok hok)).mono ?_
  rintro out X ⟨m1, ho⟩
  obtain ⟨q, hq⟩ : ∃ q, b + 0 = q := ⟨_, rfl⟩
  rw [hq] at box0 ⊢
  have ql : q < X.next := by have := m1.next; omega
  have mX := m0.trans m1
  have okX := mX.ok hok
  have boxX : bk X q = some ⟨38, false, lkc k⟩ := (m1.bk (by omega) (by simp)).trans box0
  obtain ⟨x, hx⟩ : ∃ x, X.next = x := ⟨_, rfl⟩
  rw [hx] at ql
  rw [show X = ext X [] from rfl]
  cases hp : ptsR s.data.toList with
  | none =>
    rw [hp] at ho
    simp only [LsOut] at ho
    subst ho
    have h5 : decide (¬ (5 : Int) = 0) = true := by decide
    simp (maxDischargeDepth := 6) only [h5, not_true_eq_false, decide_false, not_false_eq_true, decide_true, hx, Tryd.results13, ruW, putL, Nat.reduceLeDiff, xF, ruU, entryE, Nat.reduceLT, Nat.reduceAdd, Nat.reduceMul, Nat.reduceEqDiff]
    exact ⟨mX, rfl⟩
  | some l =>
    rw [hp] at ho
    obtain ⟨v8, rfl, hv8, hid8⟩ := ho
    have hll : l.length ≤ 300 := Nat.le_trans (ptsR_len _ _ _ (Nat.le_refl _) hp) hlen
    obtain ⟨d1, h1⟩ : ∃ d, decide (width < 0) = d := ⟨_, rfl⟩
    obtain ⟨d2, h2⟩ : ∃ d, decide (1000 < width) = d := ⟨_, rfl⟩
    obtain ⟨d3, h3⟩ : ∃ d, colr k = d := ⟨_, rfl⟩
    have hcol := coloured_c (ext X []) k
    rw [h3] at hcol
    simp only [FitOut, h1, h2, h3]
    cases d1 with
    | true =>
      simp (maxDischargeDepth := 6) only [not_true_eq_false, decide_false, not_false_eq_true, decide_true, hx, h1, Tryd.results13, ruW, putL, Nat.reduceLeDiff, xF, ruU, entryE, Nat.reduceLT, Nat.reduceAdd, Nat.reduceMul, Nat.reduceEqDiff]
      exact ⟨mX, by simp⟩
    | false =>
      cases d2 with
      | true =>
        simp (maxDischargeDepth := 6) only [not_true_eq_false, decide_false, not_false_eq_true, decide_true, hx, h1, h2, Tryd.results13, ruW, putL, Nat.reduceLeDiff, xF, ruU, entryE, Nat.reduceLT, Nat.reduceAdd, Nat.reduceMul, Nat.reduceEqDiff]
        exact ⟨mX, by simp⟩
      | false =>
        simp (maxDischargeDepth := 6) only [not_true_eq_false, decide_false, not_false_eq_true, decide_true, hx, h1, h2, boxX, ql, lkc, ruW, putL, Nat.reduceLeDiff, xF, ruU, entryE, Nat.reduceLT, Nat.reduceAdd, Nat.reduceMul, Nat.reduceEqDiff]
        refine hcol.to ?_
        cases d3 with
        | false =>
          simp (maxDischargeDepth := 6) only [not_true_eq_false, decide_false, not_false_eq_true, decide_true, hx, h1, h2, Tryd.results13, ruW, putL, Nat.reduceLeDiff, xF, ruU, entryE, Nat.reduceLT, Nat.reduceAdd, Nat.reduceMul, Nat.reduceEqDiff]
          exact ⟨mX, by simp⟩
        | true =>
          obtain ⟨a8, e8⟩ := hv8.len
          rw [e8]
          simp (maxDischargeDepth := 6) only [not_true_eq_false, decide_false, not_false_eq_true, decide_true, hx, h1, h2, ruW, putL, Nat.reduceLeDiff, xF, ruU, entryE, Nat.reduceLT, Nat.reduceAdd, Nat.reduceMul, Nat.reduceEqDiff]
          rw [← e8]
          obtain ⟨w, hw⟩ : ∃ w : Nat, width = w := ⟨width.toNat, by have := of_decide_eq_false h1; omega⟩
          have hw1 : w ≤ 1000 := by have := of_decide_eq_false h2; omega
          subst hw
          refine w_env fun E hE => ?_
          have g1 : E 1 = .int .i64 (w : Int) := by rw [hE]; simp only [ruU, entryE, Nat.reduceLT, Nat.reduceAdd, Nat.reduceMul, Nat.reduceEqDiff]
          have g5 : E 5 = .pointer (some ⟨q, 0, none⟩) := by rw [hE]; simp only [ruU, entryE, Nat.reduceLT, Nat.reduceAdd, Nat.reduceMul, Nat.reduceEqDiff]
          have g10 : E 10 = .slice none 0 0 := by rw [hE]; simp only [ruU, entryE, Nat.reduceLT, Nat.reduceAdd, Nat.reduceMul, Nat.reduceEqDiff]
          have g34 : E 34 = v8 := by rw [hE]; simp only [ruU, entryE, Nat.reduceLT, Nat.reduceAdd, Nat.reduceMul, Nat.reduceEqDiff]
          have g35 : E 35 = .int .i64 (l.length : Int) := by rw [hE]; (simp only [ruU, entryE, Nat.reduceLT, Nat.reduceAdd, Nat.reduceMul, Nat.reduceEqDiff] <;> rfl)
          have g36 : E 36 = .int .i64 ((0 : Nat) : Int) := by rw [hE]; (simp only [ruU, entryE, Nat.reduceLT, Nat.reduceAdd, Nat.reduceMul, Nat.reduceEqDiff] <;> rfl)
          clear hE
          have hq1 : q < X.next := by rw [hx]; exact ql
          have hHX : H.next ≤ X.next := mX.next
          have I0 : FitI H X X q k v8 l (.slice none 0 0) [] := ⟨mX, Nat.le_refl _, okX, boxX, hq1, hv8, fun n hn => (hv8.ne n hn).2, VsAt.nil, fun n hn => by simp [idsV] at hn⟩
          have hR := grd_len w k l [] (Nat.zero_le _)
          obtain ⟨R, hRd⟩ : ∃ R, grd w k l [] = R := ⟨_, rfl⟩
          rw [hRd] at hR
          have hfit : fitR (w : Int).toNat k l = R ++ List.replicate (w - R.length) (k.ce 32) := by rw [Int.toNat_natCast, fitR, hRd]
          refine blockC_meet (fun E' Y => ∃ v, FitI H X Y q k v8 l v R ∧ E' 10 = v ∧ E' 1 = .int .i64 (w : Int) ∧ E' 5 = .pointer (some ⟨q, 0, none⟩)) ?_ ?_
          · refine w_loop (fun (z : Nat × List Ce × Value) E' Y => FitI H X Y q k v8 l z.2.2 z.2.1 ∧ z.1 ≤ l.length ∧ z.2.1.length ≤ w ∧ grd w k (l.drop z.1) z.2.1 = R ∧ E' 1 = .int .i64 (w : Int) ∧ E' 5 = .pointer (some ⟨q, 0, none⟩) ∧ E' 10 = z.2.2 ∧ E' 34 = v8 ∧ E' 35 = .int .i64 (l.length : Int) ∧ E' 36 = .int .i64 (z.1 : Int)) (fun z => l.length - z.1) (0, [], .slice none 0 0)
              ⟨I0, Nat.zero_le _, Nat.zero_le _, hRd, g1, g5, g10, g34, g35, g36⟩ ?_
            clear g1 g5 g10 g34 g35 g36 E
            rintro ⟨i, acc, v⟩ E Y ⟨I, hil, hal, hg, g1, g5, g10, g34, g35, g36⟩
            simp only at I hil hal hg g10 g36
            obtain ⟨y, hy⟩ : ∃ y, Y.next = y := ⟨_, rfl⟩
            have hqy : q < y := by have := I.lo; have := I.ql; omega
            have hby := I.box
            rw [show Y = ext Y [] from rfl]
            by_cases hlt : i < l.length
            · have hd : decide ((i : Int) < (l.length : Int)) = true := decide_eq_true (by omega)
              obtain ⟨c, hc⟩ : ∃ c, l[i]? = some c := ⟨_, List.getElem?_eq_getElem hlt⟩
              obtain ⟨n8, e8', n8l, b8, c8⟩ := ints_load I.av8 hc
              rw [e8'] at g34
              rw [hy] at n8l
              have i0 := ints_ia (len := l.length) (cap := l.length) (n := n8) (s := none) (k := i) hlt
              have hdr : l.drop i = c :: l.drop (i + 1) := by
                rw [List.drop_eq_getElem_cons hlt]
                rw [List.getElem?_eq_getElem hlt] at hc
                rw [Option.some.inj hc]
              rw [hdr, grd] at hg
              simp (maxDischargeDepth := 6) only [g1, g5, g10, g34, g35, g36, hd, hy, i0, b8, n8l, c8, hby, hqy, lkc, ruW, putL, Nat.reduceLeDiff, xF, ruU, entryE, Nat.reduceLT, Nat.reduceAdd, Nat.reduceMul, Nat.reduceEqDiff]
              refine (cells_c (ext Y []) c k I.ok).mono ?_
              rintro out Z ⟨mZ, v13, rfl, hs⟩
              have I2 := I.grow hok mZ
              obtain ⟨z, hz⟩ : ∃ z, Z.next = z := ⟨_, rfl⟩
              have hsl : ∃ a cap, v13 = .slice a (cls c k).length cap := by
                rcases hs with ⟨e, rfl⟩ | ⟨n, cap, L, rfl, _⟩
                · exact ⟨none, 0, by rw [e]; rfl⟩
                · exact ⟨_, _, rfl⟩
              obtain ⟨a13, c13, e13⟩ := hsl
              obtain ⟨av, ev⟩ := I2.av.len
              rw [show Z = ext Z [] from rfl]
              have hcl := cls_len c k
              have hw2 : IntKind.i64.wrap ((acc.length : Int) + ((cls c k).length : Int)) = (((acc.length + (cls c k).length : Nat)) : Int) := (wrap_sm (by omega) (by omega)).trans (by omega)
              by_cases hgt : w < acc.length + (cls c k).length
              · have hd2 : decide ((w : Int) < ((acc.length + (cls c k).length : Nat) : Int)) = true := decide_eq_true (by omega)
                rw [if_pos hgt] at hg
                rw [e13]
                rw [ev] at g10
                simp (maxDischargeDepth := 6) only [g1, g5, g10, hw2, hd2, blockC_other (show (1:Nat) ≠ 2 by decide), ruW, putL, Nat.reduceLeDiff, xF, ruU, entryE, Nat.reduceLT, Nat.reduceAdd, Nat.reduceMul, Nat.reduceEqDiff]
                refine joinR_normal ?_
                refine ⟨v, by rw [← hg]; exact I2, ?_, ?_, ?_⟩
                · rw [ev]; simp only [g10, ruU, entryE, Nat.reduceLT, Nat.reduceAdd, Nat.reduceMul, Nat.reduceEqDiff]
                · simp only [g1, ruU, entryE, Nat.reduceLT, Nat.reduceAdd, Nat.reduceMul, Nat.reduceEqDiff]
                · simp only [g5, ruU, entryE, Nat.reduceLT, Nat.reduceAdd, Nat.reduceMul, Nat.reduceEqDiff]
              · have hd2 : decide ((w : Int) < ((acc.length + (cls c k).length : Nat) : Int)) = false := decide_eq_false (by omega)
                rw [if_neg hgt] at hg
                obtain ⟨v', G, k1, I3⟩ := I2.app hok hHX hs hz (by omega)
                have hw3 : IntKind.i64.wrap ((i : Int) + 1) = ((i + 1 : Nat) : Int) := wrap_succ (by omega)
                rw [e13] at k1 ⊢
                rw [ev] at g10 k1
                rw [← ext_nil (H := Z)] at k1
                simp (maxDischargeDepth := 6) only [g1, g5, g10, g35, g36, hw2, hw3, hd2, k1, ruW, putL, Nat.reduceLeDiff, xF, ruU, entryE, Nat.reduceLT, Nat.reduceAdd, Nat.reduceMul, Nat.reduceEqDiff]
                refine loopC_next ⟨(i + 1, acc ++ cls c k, v'), ?_, I3, ?_, ?_, hg, ?_, ?_, ?_, ?_, ?_, ?_⟩
                · simp only; omega
                · simp only; omega
                · simp only [List.length_append]; omega
                all_goals simp only [g1, g5, g34, g35, e8', ruU, entryE, Nat.reduceLT, Nat.reduceAdd, Nat.reduceMul, Nat.reduceEqDiff]
            · have hd : decide ((i : Int) < (l.length : Int)) = false := decide_eq_false (by omega)
              rw [List.drop_eq_nil_of_le (by omega), grd] at hg
              simp (maxDischargeDepth := 6) only [g1, g5, g10, g34, g35, g36, hd, ruW, putL, Nat.reduceLeDiff, xF, ruU, entryE, Nat.reduceLT, Nat.reduceAdd, Nat.reduceMul, Nat.reduceEqDiff]
              refine joinR_normal ?_
              exact ⟨v, hg ▸ I, g10, g1, g5⟩
          clear g1 g5 g10 g34 g35 g36 E
          rintro E Y ⟨v, I, g10, g1, g5⟩
          obtain ⟨y, hy⟩ : ∃ y, Y.next = y := ⟨_, rfl⟩
          have hqy : q < y := by have := I.lo; have := I.ql; omega
          have hby := I.box
          have hyb : Y.base ≤ y := hy ▸ I.ok
          obtain ⟨av, ev⟩ := I.av.len
          rw [show Y = ext Y [] from rfl]
          rw [ev] at g10
          have hw2 : IntKind.i64.wrap ((w : Int) - (R.length : Int)) = ((w - R.length : Nat) : Int) := (wrap_sm (by omega) (by omega)).trans (by omega)
          have hrep := rep_c (w - R.length) (by omega) (k.ce 32) (y + 0) (some 0) (ext Y [⟨68, false, (k.ce 32).cells⟩]) (by rw [bk_at hy (by simp)]; rfl)
          have hKn : (ext Y [⟨68, false, (k.ce 32).cells⟩]).next = y + 1 := by rw [ext_next, hy]; rfl
          rw [hKn] at hrep
          have hsrc : SrcAt Y (ext (ext Y [⟨68, false, (k.ce 32).cells⟩]) [⟨68, false, csOf (List.replicate (w - R.length) (k.ce 32))⟩]) (.slice (some ⟨y + 1, 0, some 0⟩) (w - R.length) (w - R.length)) (List.replicate (w - R.length) (k.ce 32)) :=
            .inr ⟨y + 1, w - R.length, [], by rw [List.length_replicate], by omega, by rw [ext_next, hKn]; simp, by rw [List.append_nil, show y + 1 = y + 1 + 0 from rfl, bk_at hKn (by simp)]; rfl⟩
          have mZ : Mod [] Y (ext (ext Y [⟨68, false, (k.ce 32).cells⟩]) [⟨68, false, csOf (List.replicate (w - R.length) (k.ce 32))⟩]) := (Mod.ext I.ok).trans (Mod.ext ((Mod.ext (W := []) I.ok).ok I.ok))
          simp (maxDischargeDepth := 6) only [g1, g5, g10, hy, hyb, hqy, hby, lkc, hw2, ruW, putL, Nat.reduceLeDiff, xF, ruU, entryE, Nat.reduceLT, Nat.reduceAdd, Nat.reduceMul, Nat.reduceEqDiff]
          generalize hZ : ext (ext Y _) _ = Z at hrep hsrc mZ
          refine hrep.to ?_
          obtain ⟨z, hz⟩ : ∃ z, Z.next = z := ⟨_, rfl⟩
          obtain ⟨v', G, k1, I5⟩ := (I.grow hok mZ).app hok hHX hsrc hz (by rw [List.length_replicate]; omega)
          rw [ev] at k1
          rw [← ext_nil (H := Z)] at k1
          rw [show Z = ext Z [] from rfl]
          simp (maxDischargeDepth := 6) only [k1, Tryd.results13, ruW, putL, Nat.reduceLeDiff, xF, ruU, entryE, Nat.reduceLT, Nat.reduceAdd, Nat.reduceMul, Nat.reduceEqDiff]
          refine ⟨I5.m, ?_⟩
          rw [if_neg (by simp), hfit]
          exact ⟨v', rfl, I5.av, fun n hn => Nat.le_trans hHX (I5.i n hn)⟩

end Go.Proofs.YtfpckllenkifkaaDoor

/- What the reference's Fit makes of a string: the same. -/
namespace Go.Proofs.YtfpckllenkifkaaDoor
open Go.Ax
set_option linter.unusedSimpArgs false
set_option maxRecDepth 10000

theorem SrcAt.of {H H0 G Z : AHeap} {v : Value} {l : List Ce} (h : SrcAt H0 G v l) (hH : H0.next = H.next) (hg : ∀ n, H.next ≤ n → n < G.next → Z.get n = G.get n) (hn : Z.next = G.next) : SrcAt H Z v l := by
  rcases h with h | ⟨n, cap, L, rfl, h1, h2, hb⟩
  · exact .inl h
  · exact .inr ⟨n, cap, L, rfl, by omega, by omega, (bk_get (hg n (by omega) h2)).trans hb⟩

set_option maxHeartbeats 4000000 in
theorem refFit_c (H : AHeap) (t : Tab H) (h01 : 1 < H.next) (s : ByteArray) (width : Int) (k : Lk) (hlen : s.data.toList.length ≤ 300) (hok : H.base ≤ H.next) :
    CallA Tryd.prog 14 [.string s, .int .i64 width, k.val] H (fun out H1 => Mod [] H H1 ∧ FitOut H H1 (ptsR s.data.toList) width k out) := by
  obtain ⟨b, hb⟩ : ∃ b, H.next = b := ⟨_, rfl⟩
  have hbase : H.base ≤ b := hb ▸ hok
  refine callE_fn mixed Tryd.func14 rfl Tryd.ntmps14 (Nat.le_of_ble_eq_true rfl) ?_
  simp (maxDischargeDepth := 6) only [hb, hbase, Lk.val, ruW, putL, Nat.reduceLeDiff, xF, ruU, entryE, Nat.reduceLT, Nat.reduceAdd, Nat.reduceMul, Nat.reduceEqDiff]
  generalize hX0 : ext H [_] = X0
  have m0 : Mod [] H X0 := hX0 ▸ Mod.ext hok
  have n0 : X0.next = b + 1 := by rw [← hX0, ext_next, hb]; rfl
  have box0 : bk X0 (b + 0) = some ⟨38, false, lkc k⟩ := by rw [← hX0, bk_at hb (by simp)]; rfl
  have t0 : Tab X0 := t.of (m0.get 0 (by omega) (by simp)) (m0.get 1 (by omega) (by simp))
  refine (refList_c X0 s (by omega) (m0.ok hok)).mono ?_
  rintro out X ⟨m1, ho⟩
  obtain ⟨q, hq⟩ : ∃ q, b + 0 = q := ⟨_, rfl⟩
  rw [hq] at box0 ⊢
  have ql : q < X.next := by have := m1.next; omega
  have mX := m0.trans m1
  have okX := mX.ok hok
  have boxX : bk X q = some ⟨38, false, lkc k⟩ := (m1.bk (by omega) (by simp)).trans box0
  obtain ⟨x, hx⟩ : ∃ x, X.next = x := ⟨_, rfl⟩
  rw [hx] at ql
  rw [show X = ext X [] from rfl]
  cases hp : ptsR s.data.toList with
  | none =>
    rw [hp] at ho
    simp only [LsOut] at ho
    subst ho
    have h5 : decide (¬ (5 : Int) = 0) = true := by decide
    simp (maxDischargeDepth := 6) only [h5, not_true_eq_false, decide_false, not_false_eq_true, decide_true, hx, Tryd.results14, ruW, putL, Nat.reduceLeDiff, xF, ruU, entryE, Nat.reduceLT, Nat.reduceAdd, Nat.reduceMul, Nat.reduceEqDiff]
    exact ⟨mX, rfl⟩
  | some l =>
    rw [hp] at ho
    obtain ⟨v8, rfl, hv8, hid8⟩ := ho
    have hll : l.length ≤ 300 := Nat.le_trans (ptsR_len _ _ _ (Nat.le_refl _) hp) hlen
    obtain ⟨d1, h1⟩ : ∃ d, decide (width < 0) = d := ⟨_, rfl⟩
    obtain ⟨d2, h2⟩ : ∃ d, decide (1000 < width) = d := ⟨_, rfl⟩
    obtain ⟨d3, h3⟩ : ∃ d, colr k = d := ⟨_, rfl⟩
    have hcol := colours_c (ext X []) k
    rw [h3] at hcol
    simp only [FitOut, h1, h2, h3]
    cases d1 with
    | true =>
      simp (maxDischargeDepth := 6) only [not_true_eq_false, decide_false, not_false_eq_true, decide_true, hx, h1, Tryd.results14, ruW, putL, Nat.reduceLeDiff, xF, ruU, entryE, Nat.reduceLT, Nat.reduceAdd, Nat.reduceMul, Nat.reduceEqDiff]
      exact ⟨mX, by simp⟩
    | false =>
      cases d2 with
      | true =>
        simp (maxDischargeDepth := 6) only [not_true_eq_false, decide_false, not_false_eq_true, decide_true, hx, h1, h2, Tryd.results14, ruW, putL, Nat.reduceLeDiff, xF, ruU, entryE, Nat.reduceLT, Nat.reduceAdd, Nat.reduceMul, Nat.reduceEqDiff]
        exact ⟨mX, by simp⟩
      | false =>
        simp (maxDischargeDepth := 6) only [not_true_eq_false, decide_false, not_false_eq_true, decide_true, hx, h1, h2, boxX, ql, lkc, ruW, putL, Nat.reduceLeDiff, xF, ruU, entryE, Nat.reduceLT, Nat.reduceAdd, Nat.reduceMul, Nat.reduceEqDiff]
        refine hcol.to ?_
        cases d3 with
        | false =>
          simp (maxDischargeDepth := 6) only [not_true_eq_false, decide_false, not_false_eq_true, decide_true, hx, h1, h2, Tryd.results14, ruW, putL, Nat.reduceLeDiff, xF, ruU, entryE, Nat.reduceLT, Nat.reduceAdd, Nat.reduceMul, Nat.reduceEqDiff]
          exact ⟨mX, by simp⟩
        | true =>
          obtain ⟨w, hw⟩ : ∃ w : Nat, width = w := ⟨width.toNat, by have := of_decide_eq_false h1; omega⟩
          have hw1 : w ≤ 1000 := by have := of_decide_eq_false h2; omega
          subst hw
          simp (maxDischargeDepth := 6) only [not_true_eq_false, decide_false, not_false_eq_true, decide_true, hx, h1, h2, ruW, putL, Nat.reduceLeDiff, xF, ruU, entryE, Nat.reduceLT, Nat.reduceAdd, Nat.reduceMul, Nat.reduceEqDiff]
          refine w_env fun E hE => ?_
          have g1 : E 1 = .int .i64 (w : Int) := by rw [hE]; simp only [ruU, entryE, Nat.reduceLT, Nat.reduceAdd, Nat.reduceMul, Nat.reduceEqDiff]
          have g5 : E 5 = .pointer (some ⟨q, 0, none⟩) := by rw [hE]; simp only [ruU, entryE, Nat.reduceLT, Nat.reduceAdd, Nat.reduceMul, Nat.reduceEqDiff]
          have g10 : E 10 = .slice none 0 0 := by rw [hE]; simp only [ruU, entryE, Nat.reduceLT, Nat.reduceAdd, Nat.reduceMul, Nat.reduceEqDiff]
          have g8 : E 8 = v8 := by rw [hE]; simp only [ruU, entryE, Nat.reduceLT, Nat.reduceAdd, Nat.reduceMul, Nat.reduceEqDiff]
          have g11 : E 11 = .int .i64 ((0 : Nat) : Int) := by rw [hE]; (simp only [ruU, entryE, Nat.reduceLT, Nat.reduceAdd, Nat.reduceMul, Nat.reduceEqDiff] <;> rfl)
          clear hE
          have hq1 : q < X.next := by rw [hx]; exact ql
          have hHX : H.next ≤ X.next := mX.next
          have I0 : FitI H X X q k v8 l (.slice none 0 0) [] := ⟨mX, Nat.le_refl _, okX, boxX, hq1, hv8, fun n hn => (hv8.ne n hn).2, VsAt.nil, fun n hn => by simp [idsV] at hn⟩
          have hR := grd_len w k l [] (Nat.zero_le _)
          obtain ⟨R, hRd⟩ : ∃ R, grd w k l [] = R := ⟨_, rfl⟩
          rw [hRd] at hR
          have hfit : fitR (w : Int).toNat k l = R ++ List.replicate (w - R.length) (k.ce 32) := by rw [Int.toNat_natCast, fitR, hRd]
          refine blockC_meet (fun E' Y => ∃ v, FitI H X Y q k v8 l v R ∧ E' 10 = v ∧ E' 1 = .int .i64 (w : Int) ∧ E' 5 = .pointer (some ⟨q, 0, none⟩)) ?_ ?_
          · refine w_loop (fun (z : Nat × List Ce × Value) E' Y => FitI H X Y q k v8 l z.2.2 z.2.1 ∧ z.1 ≤ l.length ∧ z.2.1.length ≤ w ∧ grd w k (l.drop z.1) z.2.1 = R ∧ E' 1 = .int .i64 (w : Int) ∧ E' 5 = .pointer (some ⟨q, 0, none⟩) ∧ E' 10 = z.2.2 ∧ E' 8 = v8 ∧ E' 11 = .int .i64 (z.1 : Int)) (fun z => l.length - z.1) (0, [], .slice none 0 0)
              ⟨I0, Nat.zero_le _, Nat.zero_le _, hRd, g1, g5, g10, g8, g11⟩ ?_
            clear g1 g5 g10 g8 g11 E
            rintro ⟨i, acc, v⟩ E Y ⟨I, hil, hal, hg, g1, g5, g10, g8, g11⟩
            simp only at I hil hal hg g10 g11
            obtain ⟨y, hy⟩ : ∃ y, Y.next = y := ⟨_, rfl⟩
            have hqy : q < y := by have := I.lo; have := I.ql; omega
            have hby := I.box
            obtain ⟨a8, e8⟩ := I.av8.len
            rw [show Y = ext Y [] from rfl]
            by_cases hlt : i < l.length
            · have hd : decide ((i : Int) < (l.length : Int)) = true := decide_eq_true (by omega)
              obtain ⟨c, hc⟩ : ∃ c, l[i]? = some c := ⟨_, List.getElem?_eq_getElem hlt⟩
              obtain ⟨n8, e8', n8l, b8, c8⟩ := ints_load I.av8 hc
              rw [e8'] at g8
              rw [hy] at n8l
              have i0 := ints_ia (len := l.length) (cap := l.length) (n := n8) (s := none) (k := i) hlt
              have hdr : l.drop i = c :: l.drop (i + 1) := by
                rw [List.drop_eq_getElem_cons hlt]
                rw [List.getElem?_eq_getElem hlt] at hc
                rw [Option.some.inj hc]
              rw [hdr, grd] at hg
              simp (maxDischargeDepth := 6) only [g1, g5, g10, g8, g11, hd, hy, i0, b8, n8l, c8, hby, hqy, lkc, ruW, putL, Nat.reduceLeDiff, xF, ruU, entryE, Nat.reduceLT, Nat.reduceAdd, Nat.reduceMul, Nat.reduceEqDiff]
              refine w_drawB [(5, 3), (5, 4), (6, 5)] [] (by kernel_rfl) (by kernel_rfl) rfl fun ops anc hA hG => ?_
              simp only [all2_cons] at hA
              simp (maxDischargeDepth := 6) only [g1, g5, g10, g8, g11, hd, hy, i0, b8, n8l, c8, hby, hqy, lkc, hA, ruD, ruW, putL, Nat.reduceLeDiff, xF, ruU, entryE, Nat.reduceLT, Nat.reduceAdd, Nat.reduceMul, Nat.reduceEqDiff]
              have hrn := restrict_next Y []
              obtain ⟨_, gg, hcc, mg, v12, rfl, hs⟩ := refCells_c (Y.restrict []) c k (by rw [hrn.1, hrn.2.1]; exact Nat.le_refl _)
              refine genV_mod (H := ext Y []) (W := []) [] I.ok (by simp only [ruU, entryE, Nat.reduceLT, Nat.reduceAdd, Nat.reduceMul, Nat.reduceEqDiff]) (by kernel_rfl) (fun n hn => by simp at hn) (fun n hn => by simp at hn) (fun _ h => by simp at h) (v := v12) (g := gg) (by simp only [ruU, entryE, Nat.reduceLT, Nat.reduceAdd, Nat.reduceMul, Nat.reduceEqDiff]; exact hcc) mg (by simp only [all2_cons, all2_nil, hA, true_or, and_true]) ?_
              intro Z D mZ hFZ hNZ hnZ hDZ
              have hD0 : D = [] := List.eq_nil_iff_forall_not_mem.2 (fun q hq => by simpa using hDZ q hq)
              subst hD0
              replace mZ : Mod [] Y Z := mZ
              replace hNZ : ∀ m, Y.next ≤ m → m < gg.next → Z.get m = gg.get m := hNZ
              have hs := hs.of (H := Y) hrn.1 hNZ hnZ
              have I2 := I.grow hok mZ
              obtain ⟨z, hz⟩ : ∃ z, Z.next = z := ⟨_, rfl⟩
              have hsl : ∃ a cap, v12 = .slice a (cls c k).length cap := by
                rcases hs with ⟨e, rfl⟩ | ⟨n, cap, L, rfl, _⟩
                · exact ⟨none, 0, by rw [e]; rfl⟩
                · exact ⟨_, _, rfl⟩
              obtain ⟨a13, c13, e13⟩ := hsl
              obtain ⟨av, ev⟩ := I2.av.len
              rw [show Z = ext Z [] from rfl]
              have hcl := cls_len c k
              have hw2 : IntKind.i64.wrap ((acc.length : Int) + ((cls c k).length : Int)) = (((acc.length + (cls c k).length : Nat)) : Int) := (wrap_sm (by omega) (by omega)).trans (by omega)
              simp (maxDischargeDepth := 6) only [hA, ruD, ruW, putL, Nat.reduceLeDiff, xF, ruU, entryE, Nat.reduceLT, Nat.reduceAdd, Nat.reduceMul, Nat.reduceEqDiff]
              by_cases hgt : w < acc.length + (cls c k).length
              · have hd2 : decide ((w : Int) < ((acc.length + (cls c k).length : Nat) : Int)) = true := decide_eq_true (by omega)
                rw [if_pos hgt] at hg
                rw [e13]
                rw [ev] at g10
                simp (maxDischargeDepth := 6) only [g1, g5, g10, hw2, hd2, hA, blockC_other (show (0:Nat) ≠ 1 by decide), ruD, ruW, putL, Nat.reduceLeDiff, xF, ruU, entryE, Nat.reduceLT, Nat.reduceAdd, Nat.reduceMul, Nat.reduceEqDiff]
                refine joinR_normal ?_
                refine ⟨v, by rw [← hg]; exact I2, ?_, ?_, ?_⟩
                · rw [ev]; simp only [g10, ruU, entryE, Nat.reduceLT, Nat.reduceAdd, Nat.reduceMul, Nat.reduceEqDiff]
                · simp only [g1, ruU, entryE, Nat.reduceLT, Nat.reduceAdd, Nat.reduceMul, Nat.reduceEqDiff]
                · simp only [g5, ruU, entryE, Nat.reduceLT, Nat.reduceAdd, Nat.reduceMul, Nat.reduceEqDiff]
              · have hd2 : decide ((w : Int) < ((acc.length + (cls c k).length : Nat) : Int)) = false := decide_eq_false (by omega)
                rw [if_neg hgt] at hg
                obtain ⟨v', G, k1, I3⟩ := I2.app hok hHX hs hz (by omega)
                have hw3 : IntKind.i64.wrap ((i : Int) + 1) = ((i + 1 : Nat) : Int) := wrap_succ (by omega)
                rw [e13] at k1 ⊢
                rw [ev] at g10 k1
                rw [← ext_nil (H := Z)] at k1
                simp (maxDischargeDepth := 6) only [g1, g5, g10, g8, g11, hw2, hw3, hd2, k1, hA, ruD, ruW, putL, Nat.reduceLeDiff, xF, ruU, entryE, Nat.reduceLT, Nat.reduceAdd, Nat.reduceMul, Nat.reduceEqDiff]
                refine loopC_next ⟨(i + 1, acc ++ cls c k, v'), ?_, I3, ?_, ?_, hg, ?_, ?_, ?_, ?_, ?_⟩
                · simp only; omega
                · simp only; omega
                · simp only [List.length_append]; omega
                all_goals simp only [g1, g5, g8, e8', ruU, entryE, Nat.reduceLT, Nat.reduceAdd, Nat.reduceMul, Nat.reduceEqDiff]
            · have hd : decide ((i : Int) < (l.length : Int)) = false := decide_eq_false (by omega)
              rw [List.drop_eq_nil_of_le (by omega), grd] at hg
              rw [e8] at g8
              simp (maxDischargeDepth := 6) only [g1, g5, g10, g8, g11, hd, ruW, putL, Nat.reduceLeDiff, xF, ruU, entryE, Nat.reduceLT, Nat.reduceAdd, Nat.reduceMul, Nat.reduceEqDiff]
              refine joinR_normal ?_
              exact ⟨v, hg ▸ I, by simp only [g10, ruU, entryE, Nat.reduceLT, Nat.reduceAdd, Nat.reduceMul, Nat.reduceEqDiff], by simp only [g1, ruU, entryE, Nat.reduceLT, Nat.reduceAdd, Nat.reduceMul, Nat.reduceEqDiff], by simp only [g5, ruU, entryE, Nat.reduceLT, Nat.reduceAdd, Nat.reduceMul, Nat.reduceEqDiff]⟩
          clear g1 g5 g10 g8 g11 E
          rintro E Y ⟨v, I, g10, g1, g5⟩
          rw [show Y = ext Y [] from rfl]
          simp (maxDischargeDepth := 6) only [ruW, putL, Nat.reduceLeDiff, xF, ruU, entryE, Nat.reduceLT, Nat.reduceAdd, Nat.reduceMul, Nat.reduceEqDiff]
          refine blockC_meet (fun E' Y => ∃ v, FitI H X Y q k v8 l v (R ++ List.replicate (w - R.length) (k.ce 32)) ∧ E' 10 = v) ?_ ?_
          · refine w_loop (fun (z : Nat × Value) E' Y => FitI H X Y q k v8 l z.2 (R ++ List.replicate z.1 (k.ce 32)) ∧ z.1 ≤ w - R.length ∧ E' 1 = .int .i64 (w : Int) ∧ E' 5 = .pointer (some ⟨q, 0, none⟩) ∧ E' 10 = z.2) (fun z => w - R.length - z.1) (0, v)
              ⟨by rw [List.replicate_zero, List.append_nil]; exact I, Nat.zero_le _, g1, g5, g10⟩ ?_
            clear g1 g5 g10 I v E Y
            rintro ⟨i, v⟩ E Y ⟨I, hil, g1, g5, g10⟩
            simp only at I hil g10
            obtain ⟨y, hy⟩ : ∃ y, Y.next = y := ⟨_, rfl⟩
            have hqy : q < y := by have := I.lo; have := I.ql; omega
            have hby := I.box
            have hyb : Y.base ≤ y := hy ▸ I.ok
            obtain ⟨av, ev⟩ := I.av.len
            have hlr : (R ++ List.replicate i (k.ce 32)).length = R.length + i := by rw [List.length_append, List.length_replicate]
            rw [hlr] at ev
            rw [show Y = ext Y [] from rfl]
            rw [ev] at g10
            by_cases hlt : i < w - R.length
            · have hd : decide (((R.length + i : Nat) : Int) < (w : Int)) = true := decide_eq_true (by omega)
              have hsrc : SrcAt Y (ext Y [⟨68, false, (k.ce 32).cells⟩]) (.slice (some ⟨y + 0, 0, some 0⟩) 1 1) [k.ce 32] :=
                .inr ⟨y + 0, 1, [], rfl, by omega, by rw [ext_next, hy]; simp, by rw [bk_at hy (by simp)]; rfl⟩
              have mZ : Mod [] Y (ext Y [⟨68, false, (k.ce 32).cells⟩]) := Mod.ext I.ok
              simp (maxDischargeDepth := 6) only [g1, g5, g10, hd, hy, hyb, hqy, hby, lkc, ruW, putL, Nat.reduceLeDiff, xF, ruU, entryE, Nat.reduceLT, Nat.reduceAdd, Nat.reduceMul, Nat.reduceEqDiff]
              simp only [Lk.ce, Ce.cells] at hsrc mZ
              generalize hZ : ext Y [_] = Z at hsrc mZ ⊢
              obtain ⟨z, hz⟩ : ∃ z, Z.next = z := ⟨_, rfl⟩
              obtain ⟨v', G, k1, I5⟩ := (I.grow hok mZ).app hok hHX hsrc hz (by rw [hlr]; simp only [List.length_singleton]; omega)
              rw [ev] at k1
              rw [← ext_nil (H := Z)] at k1
              rw [show Z = ext Z [] from rfl]
              simp (maxDischargeDepth := 6) only [k1, ruW, putL, Nat.reduceLeDiff, xF, ruU, entryE, Nat.reduceLT, Nat.reduceAdd, Nat.reduceMul, Nat.reduceEqDiff]
              refine loopC_next ⟨(i + 1, v'), ?_, ?_, ?_, ?_, ?_, ?_⟩
              · simp only; omega
              · simp only
                rw [show R ++ List.replicate (i + 1) (k.ce 32) = R ++ List.replicate i (k.ce 32) ++ [k.ce 32] from by rw [List.replicate_succ', List.append_assoc]]
                exact I5
              · simp only; omega
              all_goals simp only [g1, g5, ruU, entryE, Nat.reduceLT, Nat.reduceAdd, Nat.reduceMul, Nat.reduceEqDiff]
            · have hd : decide (((R.length + i : Nat) : Int) < (w : Int)) = false := decide_eq_false (by omega)
              have hi : i = w - R.length := by omega
              subst hi
              simp (maxDischargeDepth := 6) only [g1, g5, g10, hd, ruW, putL, Nat.reduceLeDiff, xF, ruU, entryE, Nat.reduceLT, Nat.reduceAdd, Nat.reduceMul, Nat.reduceEqDiff]
              refine joinR_normal ?_
              exact ⟨v, I, by rw [ev]; simp only [g10, ruU, entryE, Nat.reduceLT, Nat.reduceAdd, Nat.reduceMul, Nat.reduceEqDiff]⟩
          clear g1 g5 g10 I v E Y
          rintro E Y ⟨v, I, g10⟩
          rw [show Y = ext Y [] from rfl]
          simp (maxDischargeDepth := 6) only [g10, Tryd.results14, ruW, putL, Nat.reduceLeDiff, xF, ruU, entryE, Nat.reduceLT, Nat.reduceAdd, Nat.reduceMul, Nat.reduceEqDiff]
          refine ⟨I.m, ?_⟩
          rw [if_neg (by simp), hfit]
          exact ⟨v, rfl, I.av, fun n hn => Nat.le_trans hHX (I.i n hn)⟩

end Go.Proofs.YtfpckllenkifkaaDoor
