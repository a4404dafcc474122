/- Parts of the proof, one behind the other. -/
import Derived.Test.YtiedpcmdimgboaaM4

/- What Rects comes to. -/
namespace Go.Proofs.Ytiedpcmdimgboaa
open Go.Ax
set_option linter.unusedSimpArgs false
set_option maxRecDepth 10000

def Wn.frame (x : Wn) : Rc := ⟨0, 0, 0, x.h, x.w⟩
def Wn.rects (x : Wn) : List Rc := Go.Proofs.Ytiedpcmdimgboaa.rects x.root x.frame

theorem all_c (T : Nat) (H : AHeap) : CallS Try.prog 40 [.pointer (some ⟨T, 0, none⟩)] H (.ok (.func (.func 67) #[] #[.pointer (some ⟨H.next + 0, 0, none⟩)])) (ext H [⟨24, false, [.pointer (some ⟨T, 0, none⟩)]⟩]) := by
  obtain ⟨b, hb⟩ : ∃ b, H.next = b := ⟨_, rfl⟩
  refine callS_fn mixed Try.func40 rfl Try.ntmps40 (Nat.le_of_ble_eq_true rfl) fun wf hsc => ?_
  have hT : T < b := by
    rw [hb] at hsc
    simp only [scbL, scb, Bool.and_true] at hsc
    exact blt_lt hsc
  simp (maxDischargeDepth := 6) only [hb, hT, Try.results40, ruW, go_int, Option.map_some, List.length_cons, List.length_nil, List.set_cons_zero, List.set_cons_succ, List.nil_append, List.cons_append, putL, List.drop_succ_cons, List.drop_zero, List.take_succ_cons, List.take_zero, Nat.reduceLeDiff, if_true, xFA, xFD, xIA, xHB, xU4, xSz, xZ, xSl, xBd, xBs, xTA, xMI, xCm, ruU, entryE, Option.bind_some, List.map_cons, List.map_nil, List.getElem?_cons_zero, List.getElem?_cons_succ, Nat.reduceLT, Nat.reduceAdd, Nat.reduceMul, ne_eq, Nat.reduceEqDiff, not_false_eq_true, Bool.not_false, Bool.not_true]
  exact Fin.same

/-- what the loop over all windows leaves behind -/
def AllPost {l cap : Nat} {go : Rc → Bool} (Y : Yld Try.prog l Rc encR go cap) (F W : List Nat) (G : AHeap) (k : List Rc) (out : Out) (G' : AHeap) : Prop :=
  out = .ok (.tuple #[]) ∧ ∃ F' W', Y.Inv (upto go k) F' W' G' ∧ Mod W G G' ∧ (∀ n ∈ F', n ∈ F ∨ G.next ≤ n) ∧ (∀ n ∈ W', n ∈ W ∨ G.next ≤ n)

theorem allf_c {l cap : Nat} {go : Rc → Bool} (Y : Yld Try.prog l Rc encR go cap) (c T : Nat) (x : Wn) (F W : List Nat) (G : AHeap) (hI : Y.Inv [] F W G) (hcap : x.rects.length ≤ cap) (hok : G.base ≤ G.next) (hc : bk G c = some ⟨24, false, [.pointer (some ⟨T, 0, none⟩)]⟩) (hlc : c < G.next) (hT : WnAt G T x) (hlT : T < G.next)
    (hlt : ∀ n ∈ x.root.blks, n < G.next) (hW : ∀ n ∈ x.root.blks, n ∉ W) : CallA Try.prog 67 [.func (.yield l) #[] #[], .pointer (some ⟨c, 0, none⟩)] G (AllPost Y F W G x.rects) := by
  have h1 := hT.1
  simp only [Wn.cells] at h1
  refine callE_fn mixed Try.func67 rfl Try.ntmps67 (Nat.le_of_ble_eq_true rfl) ?_
  simp (maxDischargeDepth := 6) only [hlc, hc, ruW, go_int, Option.map_some, List.length_cons, List.length_nil, List.set_cons_zero, List.set_cons_succ, List.nil_append, List.cons_append, putL, List.drop_succ_cons, List.drop_zero, List.take_succ_cons, List.take_zero, Nat.reduceLeDiff, if_true, xFA, xFD, xIA, xHB, xU4, xSz, xZ, xSl, xBd, xBs, xTA, xMI, xCm, ruU, entryE, Option.bind_some, List.map_cons, List.map_nil, List.getElem?_cons_zero, List.getElem?_cons_succ, Nat.reduceLT, Nat.reduceAdd, Nat.reduceMul, ne_eq, Nat.reduceEqDiff, not_false_eq_true, Bool.not_false, Bool.not_true]
  refine (made_c T x (ext G []) hT).to ?_
  simp (maxDischargeDepth := 6) only [ruW, go_int, Option.map_some, List.length_cons, List.length_nil, List.set_cons_zero, List.set_cons_succ, List.nil_append, List.cons_append, putL, List.drop_succ_cons, List.drop_zero, List.take_succ_cons, List.take_zero, Nat.reduceLeDiff, if_true, xFA, xFD, xIA, xHB, xU4, xSz, xZ, xSl, xBd, xBs, xTA, xMI, xCm, ruU, entryE, Option.bind_some, List.map_cons, List.map_nil, List.getElem?_cons_zero, List.getElem?_cons_succ, Nat.reduceLT, Nat.reduceAdd, Nat.reduceMul, ne_eq, Nat.reduceEqDiff, not_false_eq_true, Bool.not_false, Bool.not_true]
  refine w_drawB [(7, 0), (7, 3), (7, 4), (7, 5)] [] (by kernel_rfl) (by kernel_rfl) rfl fun ops anc hA hG => ?_
  simp only [all2_cons] at hA
  simp (maxDischargeDepth := 6) only [hlc, hc, hlT, h1, hA, ruD, true_and, false_implies, true_implies, not_true_eq_false, implies_true, and_true, or_true, true_or, and_self, ruW, go_int, Option.map_some, List.length_cons, List.length_nil, List.set_cons_zero, List.set_cons_succ, List.nil_append, List.cons_append, putL, List.drop_succ_cons, List.drop_zero, List.take_succ_cons, List.take_zero, Nat.reduceLeDiff, if_true, xFA, xFD, xIA, xHB, xU4, xSz, xZ, xSl, xBd, xBs, xTA, xMI, xCm, ruU, entryE, Option.bind_some, List.map_cons, List.map_nil, List.getElem?_cons_zero, List.getElem?_cons_succ, Nat.reduceLT, Nat.reduceAdd, Nat.reduceMul, ne_eq, Nat.reduceEqDiff, not_false_eq_true, Bool.not_false, Bool.not_true, ruW, go_int, Option.map_some, List.length_cons, List.length_nil, List.set_cons_zero, List.set_cons_succ, List.nil_append, List.cons_append, putL, List.drop_succ_cons, List.drop_zero, List.take_succ_cons, List.take_zero, Nat.reduceLeDiff, if_true, xFA, xFD, xIA, xHB, xU4, xSz, xZ, xSl, xBd, xBs, xTA, xMI, xCm, ruU, entryE, Option.bind_some, List.map_cons, List.map_nil, List.getElem?_cons_zero, List.getElem?_cons_succ, Nat.reduceLT, Nat.reduceAdd, Nat.reduceMul, ne_eq, Nat.reduceEqDiff, not_false_eq_true, Bool.not_false, Bool.not_true]
  refine genV_quiet (v := x.frame.val) [T] (by simp (maxDischargeDepth := 6) only [ruU, entryE, Option.bind_some, List.map_cons, List.map_nil, List.getElem?_cons_zero, List.getElem?_cons_succ, Nat.reduceLT, Nat.reduceAdd, Nat.reduceMul, ne_eq, Nat.reduceEqDiff, not_false_eq_true, Bool.not_false, Bool.not_true]) (by kernel_rfl) (by decide) (fun m hm => by simp (maxDischargeDepth := 6) only [List.mem_singleton] at hm; subst hm; exact bk_ne (H := G) h1) (fun K _ hg => ?_) (by simp (maxDischargeDepth := 6) only [ruD, true_and, false_implies, true_implies, not_true_eq_false, implies_true, and_true, or_true, true_or, and_self, ruW, go_int, Option.map_some, List.length_cons, List.length_nil, List.set_cons_zero, List.set_cons_succ, List.nil_append, List.cons_append, putL, List.drop_succ_cons, List.drop_zero, List.take_succ_cons, List.take_zero, Nat.reduceLeDiff, if_true, xFA, xFD, xIA, xHB, xU4, xSz, xZ, xSl, xBd, xBs, xTA, xMI, xCm, ruU, entryE, Option.bind_some, List.map_cons, List.map_nil, List.getElem?_cons_zero, List.getElem?_cons_succ, Nat.reduceLT, Nat.reduceAdd, Nat.reduceMul, ne_eq, Nat.reduceEqDiff, not_false_eq_true, Bool.not_false, Bool.not_true, ruW, go_int, Option.map_some, List.length_cons, List.length_nil, List.set_cons_zero, List.set_cons_succ, List.nil_append, List.cons_append, putL, List.drop_succ_cons, List.drop_zero, List.take_succ_cons, List.take_zero, Nat.reduceLeDiff, if_true, xFA, xFD, xIA, xHB, xU4, xSz, xZ, xSl, xBd, xBs, xTA, xMI, xCm, ruU, entryE, Option.bind_some, List.map_cons, List.map_nil, List.getElem?_cons_zero, List.getElem?_cons_succ, Nat.reduceLT, Nat.reduceAdd, Nat.reduceMul, ne_eq, Nat.reduceEqDiff, not_false_eq_true, Bool.not_false, Bool.not_true]) ?_
  · simp only [ruU, entryE, Option.bind_some, List.map_cons, List.map_nil, List.getElem?_cons_zero, List.getElem?_cons_succ, Nat.reduceLT, Nat.reduceAdd, Nat.reduceMul, ne_eq, Nat.reduceEqDiff, not_false_eq_true, Bool.not_false, Bool.not_true]
    exact frame_c T x K ((bk_get (hg T (by simp))).trans hT.1)
  simp (maxDischargeDepth := 6) only [hA, ruD, true_and, false_implies, true_implies, not_true_eq_false, implies_true, and_true, or_true, true_or, and_self, ruW, go_int, Option.map_some, List.length_cons, List.length_nil, List.set_cons_zero, List.set_cons_succ, List.nil_append, List.cons_append, putL, List.drop_succ_cons, List.drop_zero, List.take_succ_cons, List.take_zero, Nat.reduceLeDiff, if_true, xFA, xFD, xIA, xHB, xU4, xSz, xZ, xSl, xBd, xBs, xTA, xMI, xCm, ruU, entryE, Option.bind_some, List.map_cons, List.map_nil, List.getElem?_cons_zero, List.getElem?_cons_succ, Nat.reduceLT, Nat.reduceAdd, Nat.reduceMul, ne_eq, Nat.reduceEqDiff, not_false_eq_true, Bool.not_false, Bool.not_true, ruW, go_int, Option.map_some, List.length_cons, List.length_nil, List.set_cons_zero, List.set_cons_succ, List.nil_append, List.cons_append, putL, List.drop_succ_cons, List.drop_zero, List.take_succ_cons, List.take_zero, Nat.reduceLeDiff, if_true, xFA, xFD, xIA, xHB, xU4, xSz, xZ, xSl, xBd, xBs, xTA, xMI, xCm, ruU, entryE, Option.bind_some, List.map_cons, List.map_nil, List.getElem?_cons_zero, List.getElem?_cons_succ, Nat.reduceLT, Nat.reduceAdd, Nat.reduceMul, ne_eq, Nat.reduceEqDiff, not_false_eq_true, Bool.not_false, Bool.not_true]
  have hrn := restrict_next G (x.root.blks ++ F)
  have gF : ∀ m ∈ x.root.blks ++ F, (G.restrict (x.root.blks ++ F)).get m = G.get m := fun m hm => by rw [restrict_get, if_pos hm]
  obtain ⟨_, g, hcg, rfl, F1, W1, hI1, m1, hF1, hW1⟩ := windows_c Y x.root x.frame [] F W (G.restrict (x.root.blks ++ F)) (Y.loc hI (Nat.le_of_eq hrn.1.symm) (fun m hm => gF m (by simp [hm]))) (by simp) (by simp only [List.length_nil, Nat.zero_add]; exact hcap) (by rw [hrn.1, hrn.2.1]; exact Nat.le_refl _)
    (hT.2.of fun m hm => gF m (by simp [hm])) (fun m hm => by rw [hrn.1]; exact hlt m hm) hW
  refine genV_mod (H := ext G []) (W := W) (x.root.blks ++ F) hok (by simp only [ruU, entryE, Option.bind_some, List.map_cons, List.map_nil, List.getElem?_cons_zero, List.getElem?_cons_succ, Nat.reduceLT, Nat.reduceAdd, Nat.reduceMul, ne_eq, Nat.reduceEqDiff, not_false_eq_true, Bool.not_false, Bool.not_true]) (by kernel_rfl) ?_ ?_ (fun m hm => by simp [Y.sub hI m hm]) (v := .bool ((rects x.root x.frame).all go)) (g := g) (by simp only [ruU, entryE, Option.bind_some, List.map_cons, List.map_nil, List.getElem?_cons_zero, List.getElem?_cons_succ, Nat.reduceLT, Nat.reduceAdd, Nat.reduceMul, ne_eq, Nat.reduceEqDiff, not_false_eq_true, Bool.not_false, Bool.not_true]; exact hcg) m1 (by simp only [all2_cons, hA, true_or, and_true, all2_nil]) ?_
  · intro m hm
    rcases List.mem_append.1 hm with hm | hm
    · exact hT.2.ne m hm
    · exact (Y.dom hI m hm).1
  · intro m hm
    rcases List.mem_append.1 hm with hm | hm
    · exact hlt m hm
    · exact (Y.dom hI m hm).2
  intro X1 D mX1 hgF hgN hX1n _
  rw [hrn.1] at hF1 hW1
  rw [show X1 = ext X1 [] from rfl]
  simp (maxDischargeDepth := 6) only [Try.results67, ruD, true_and, false_implies, true_implies, not_true_eq_false, implies_true, and_true, or_true, true_or, and_self, ruW, go_int, Option.map_some, List.length_cons, List.length_nil, List.set_cons_zero, List.set_cons_succ, List.nil_append, List.cons_append, putL, List.drop_succ_cons, List.drop_zero, List.take_succ_cons, List.take_zero, Nat.reduceLeDiff, if_true, xFA, xFD, xIA, xHB, xU4, xSz, xZ, xSl, xBd, xBs, xTA, xMI, xCm, ruU, entryE, Option.bind_some, List.map_cons, List.map_nil, List.getElem?_cons_zero, List.getElem?_cons_succ, Nat.reduceLT, Nat.reduceAdd, Nat.reduceMul, ne_eq, Nat.reduceEqDiff, not_false_eq_true, Bool.not_false, Bool.not_true, ruW, go_int, Option.map_some, List.length_cons, List.length_nil, List.set_cons_zero, List.set_cons_succ, List.nil_append, List.cons_append, putL, List.drop_succ_cons, List.drop_zero, List.take_succ_cons, List.take_zero, Nat.reduceLeDiff, if_true, xFA, xFD, xIA, xHB, xU4, xSz, xZ, xSl, xBd, xBs, xTA, xMI, xCm, ruU, entryE, Option.bind_some, List.map_cons, List.map_nil, List.getElem?_cons_zero, List.getElem?_cons_succ, Nat.reduceLT, Nat.reduceAdd, Nat.reduceMul, ne_eq, Nat.reduceEqDiff, not_false_eq_true, Bool.not_false, Bool.not_true]
  refine ⟨rfl, F1, W1, ?_, mX1, hF1, hW1⟩
  refine Y.loc hI1 (Nat.le_of_eq hX1n.symm) (fun m hm => ?_)
  rcases hF1 m hm with h | h
  · exact hgF m (by simp [h])
  · exact hgN m h ((Y.dom hI1 m hm).2)

end Go.Proofs.Ytiedpcmdimgboaa

/- What Rects comes to: the rows gathered. -/
namespace Go.Proofs.Ytiedpcmdimgboaa
open Go.Ax
set_option linter.unusedSimpArgs false
set_option maxRecDepth 10000

def rowsOf (rs : List Rc) : List Value := rs.flatMap Rc.cells
theorem rowsOf_length (rs : List Rc) : (rowsOf rs).length = rs.length * 5 := by
  induction rs with
  | nil => rfl
  | cons r rs ih => simp only [rowsOf, List.flatMap_cons, List.length_append] at ih ⊢; rw [ih]; simp only [Rc.cells, List.length_cons, List.length_nil]; omega
theorem rowsOf_one (rs : List Rc) : (rowsOf rs).all one = true := by
  induction rs with
  | nil => rfl
  | cons r rs ih => simp only [rowsOf, List.flatMap_cons, List.all_append] at ih ⊢; rw [ih]; rfl
theorem rowsOf_sc (rs : List Rc) (n : Nat) : scbL n (rowsOf rs) = true := by
  induction rs with
  | nil => rfl
  | cons r rs ih =>
    simp only [rowsOf, List.flatMap_cons, Rc.cells, List.cons_append, List.nil_append] at ih ⊢
    simp only [scbL, scb, ih, Bool.and_self]

def lpApp (asg bod : Code) (d : Nat) : Loop := { state := .ready, pending := none, fn := 0, tmps := #[], params := ⟨[7]⟩, assign := asg, body := bod, defers := d }

def AppInv (l B : Nat) (lp : Loop) (e : RV) (rs : List Rc) (F W : List Nat) (G : AHeap) : Prop :=
  LoopAt G l lp e ∧ l < G.next ∧ B < G.next ∧ B ≠ l ∧ F = W ∧
  ((rs = [] ∧ W = [B, l] ∧ bk G B = some ⟨32, false, [.slice none 0 0]⟩) ∨
   (∃ m, rs ≠ [] ∧ m ≠ B ∧ m ≠ l ∧ m < G.next ∧ W = [B, l, m] ∧ bk G B = some ⟨32, false, [.slice (some ⟨m, 0, none⟩) rs.length rs.length]⟩ ∧ bk G m = some ⟨35, true, rowsOf rs⟩))

theorem app_step {asg bod : Code} (hab : some (asg, bod) = Try.f66.body.bind rangeOf) {l B d : Nat} {E : Env} (hE : E 2 = .pointer (some ⟨B, 0, none⟩)) {rs : List Rc} {F W : List Nat} {G : AHeap} {r : Rc} (hI : AppInv l B (lpApp asg bod d) (rvOf 13 E) rs F W G) (hcap : rs.length < 10000) (hok : G.base ≤ G.next) :
    CallY Try.prog l (encR r) G (fun out G' => out = .ok (.bool true) ∧ ∃ F' W', AppInv l B (lpApp asg bod d) (rvOf 13 E) (rs ++ [r]) F' W' G' ∧ Mod W G G' ∧ (∀ n ∈ F', n ∈ F ∨ G.next ≤ n) ∧ (∀ n ∈ W', n ∈ W ∨ G.next ≤ n)) := by
  obtain ⟨hl, hll, hlB, hBl, rfl, hI⟩ := hI
  obtain ⟨b, hb⟩ : ∃ b, G.next = b := ⟨_, rfl⟩
  have hbase : G.base ≤ b := hb ▸ hok
  have hlB' : B < b := hb ▸ hlB
  refine callY_of (H := ext G []) (N := 13) (E := E) mixed hl rfl (zip_one (by decide)) ?_
  have h2 : Try.f66.body.bind rangeOf = some (_, _) := rfl
  cases hab.trans h2
  simp (maxDischargeDepth := 6) only [Rc.val, hE, hb, hbase, ruW, go_int, Option.map_some, List.length_cons, List.length_nil, List.set_cons_zero, List.set_cons_succ, List.nil_append, List.cons_append, putL, List.drop_succ_cons, List.drop_zero, List.take_succ_cons, List.take_zero, Nat.reduceLeDiff, if_true, xFA, xFD, xIA, xHB, xU4, xSz, xZ, xSl, xBd, xBs, xTA, xMI, xCm, ruU, entryE, Option.bind_some, List.map_cons, List.map_nil, List.getElem?_cons_zero, List.getElem?_cons_succ, Nat.reduceLT, Nat.reduceAdd, Nat.reduceMul, ne_eq, Nat.reduceEqDiff, not_false_eq_true, Bool.not_false, Bool.not_true]
  rw [asgC_normal]
  refine ⟨_, _, (hl.of (ext_get_old hll)).get, rfl, ?_⟩
  rw [ext_setLoop hll]
  generalize hG1 : setLoop G l _ _ = G1
  have mG1 : Mod F G G1 := hG1 ▸ Mod.upd (by rcases hI with ⟨_, h, _⟩ | ⟨m, _, _, _, _, h, _⟩ <;> simp [h])
  have hb1 : G1.next = b := by rw [← hG1, setLoop_next, hb]
  have hbase1 : G1.base ≤ b := by rw [← hG1, setLoop_base]; exact hbase
  have hB1 : bk G1 B = bk G B := by rw [← hG1, bk_setLoop hBl]
  rcases hI with ⟨rfl, rfl, hB⟩ | ⟨m, hne, hmB, hml, hlm, rfl, hB, hm⟩
  · rw [hB] at hB1
    have happ := app_nil (P := Try.prog) (H := ext G1 [⟨35, false, r.cells⟩, ⟨35, false, r.cells⟩]) (st := 32) (xt := 32) (e := 35) (sz := 5) (by1 := 40) (z := .agg #[.int .i64 0, .int .i64 0, .int .i64 0, .int .i64 0, .int .i64 0]) (n := b + 1) (off := 0) (cnt := 1) (cap := 1) (s := some 0) (b := ⟨35, false, r.cells⟩) (by kernel_rfl) (by kernel_rfl) (by kernel_rfl) (by kernel_rfl) rfl (by kernel_rfl) (by rw [bk_at hb1 (by simp)]; rfl) (by simp [Rc.cells]) rfl (by decide) (by decide)
    simp only [Rc.cells] at happ
    simp (maxDischargeDepth := 6) only [hE, hb1, hB1, hlB', hbase1, happ, ruW, go_int, Option.map_some, List.length_cons, List.length_nil, List.set_cons_zero, List.set_cons_succ, List.nil_append, List.cons_append, putL, List.drop_succ_cons, List.drop_zero, List.take_succ_cons, List.take_zero, Nat.reduceLeDiff, if_true, xFA, xFD, xIA, xHB, xU4, xSz, xZ, xSl, xBd, xBs, xTA, xMI, xCm, ruU, entryE, Option.bind_some, List.map_cons, List.map_nil, List.getElem?_cons_zero, List.getElem?_cons_succ, Nat.reduceLT, Nat.reduceAdd, Nat.reduceMul, ne_eq, Nat.reduceEqDiff, not_false_eq_true, Bool.not_false, Bool.not_true]
    rw [rndC_normal]
    have hl1 : LoopAt G1 l _ (rvOf 13 E) := hG1 ▸ LoopAt.set l _ _
    refine ⟨_, _, ((hl1.of (uw_get (Ne.symm hBl))).of (ext_get_old (by rw [uw_next, hb1, ← hb]; exact hll))).get, rfl, [B, l, b + 2], [B, l, b + 2], ?_⟩
    rw [ext_setLoop (by rw [uw_next, hb1, ← hb]; exact hll)]
    generalize hG2 : uw G1 B 0 _ = G2
    have mG2 : Mod [B, l] G1 G2 := hG2 ▸ Mod.uw (by simp)
    have hB2 : bk G2 B = some ⟨32, false, [.slice (some ⟨b + 2, 0, none⟩) 1 1]⟩ := by rw [← hG2, bk_uw_eq, hB1]; rfl
    have hb2 : G2.next = b := by rw [← hG2, uw_next, hb1]
    generalize hG3 : setLoop G2 l _ _ = G3
    have mG3 : Mod [B, l] G2 G3 := hG3 ▸ Mod.upd (by simp)
    have hb3 : G3.next = b := by rw [← hG3, setLoop_next, hb2]
    have hl3 : LoopAt G3 l _ (rvOf 13 E) := hG3 ▸ LoopAt.set l _ _
    have hB3 : bk G3 B = bk G2 B := by rw [← hG3, bk_setLoop hBl]
    have mA := (mG1.trans mG2).trans mG3
    refine ⟨⟨hl3.of (ext_get_old (by rw [hb3, ← hb]; exact hll)), ?_, ?_, hBl, rfl, .inr ⟨b + 2, by simp, ?_, ?_, ?_, rfl, ?_, ?_⟩⟩, mA.trans (Mod.ext (mA.ok hok)), ?_, ?_⟩
    · rw [ext_next, hb3]; omega
    · rw [ext_next, hb3]; omega
    · omega
    · omega
    · rw [ext_next, hb3]; simp
    · rw [bk_old (by rw [hb3]; exact hlB'), hB3, hB2]; rfl
    · rw [bk_at hb3 (by simp)]; rfl
    · intro n hn
      simp only [List.mem_cons, List.not_mem_nil, or_false] at hn ⊢
      omega
    · intro n hn
      simp only [List.mem_cons, List.not_mem_nil, or_false] at hn ⊢
      omega
  · rw [hB] at hB1
    have hm1 : bk G1 m = some ⟨35, true, rowsOf rs⟩ := by rw [← hG1, bk_setLoop hml, hm]
    have hlm' : m < b := hb ▸ hlm
    have happ := app_open (P := Try.prog) (H := ext G1 [⟨35, false, r.cells⟩, ⟨35, false, r.cells⟩]) (st := 32) (xt := 32) (e := 35) (sz := 5) (by1 := 40) (z := .agg #[.int .i64 0, .int .i64 0, .int .i64 0, .int .i64 0, .int .i64 0]) (m := m) (k := rs.length) (old := rowsOf rs) (n := b + 1) (off := 0) (cnt := 1) (cap := 1) (s := some 0) (b := ⟨35, false, r.cells⟩)
      (by kernel_rfl) (by kernel_rfl) (by kernel_rfl) (by kernel_rfl) rfl (by kernel_rfl) (by rw [bk_old (by rw [hb1]; exact hlm'), hm1]) (rowsOf_length rs) (rowsOf_one rs) (by rw [bk_at hb1 (by simp)]; rfl) (by simp [Rc.cells]) rfl (by decide)
      (by simp only [small, Bool.and_eq_true, Nat.ble_eq]; omega)
    rw [ext_dp (by rw [hb1]; exact hlm')] at happ
    simp only [Rc.cells] at happ
    have hlmB : ¬ B = m := fun h => hmB h.symm
    have hsr := rowsOf_sc rs
    have hBd : bk (dp G1 m) B = some ⟨32, false, [.slice (some ⟨m, 0, none⟩) rs.length rs.length]⟩ := by rw [bk_dp hlmB, hB1]
    have hsr2 : scbL (b + 2) (rowsOf rs ++ [.int .i64 r.id, .int .i64 r.top, .int .i64 r.left, .int .i64 r.h, .int .i64 r.w]) = true := by
      have := rowsOf_sc (rs ++ [r]) (b + 2)
      simpa [rowsOf, Rc.cells] using this
    have hbd : (dp G1 m).next = b := hb1
    simp (maxDischargeDepth := 6) only [hE, hb1, hB1, hBd, hlB', hbase1, happ, hsr2, hbd, ruW, go_int, Option.map_some, List.length_cons, List.length_nil, List.set_cons_zero, List.set_cons_succ, List.nil_append, List.cons_append, putL, List.drop_succ_cons, List.drop_zero, List.take_succ_cons, List.take_zero, Nat.reduceLeDiff, if_true, xFA, xFD, xIA, xHB, xU4, xSz, xZ, xSl, xBd, xBs, xTA, xMI, xCm, ruU, entryE, Option.bind_some, List.map_cons, List.map_nil, List.getElem?_cons_zero, List.getElem?_cons_succ, Nat.reduceLT, Nat.reduceAdd, Nat.reduceMul, ne_eq, Nat.reduceEqDiff, not_false_eq_true, Bool.not_false, Bool.not_true]
    rw [rndC_normal]
    have hl1 : LoopAt G1 l _ (rvOf 13 E) := hG1 ▸ LoopAt.set l _ _
    refine ⟨_, _, (((hl1.of (dp_get (Ne.symm hml))).of (uw_get (Ne.symm hBl))).of (ext_get_old (by rw [uw_next, hbd, ← hb]; exact hll))).get, rfl, [B, l, b + 2], [B, l, b + 2], ?_⟩
    rw [ext_setLoop (by rw [uw_next, hbd, ← hb]; exact hll)]
    have mD : Mod [B, l, m] G1 (dp G1 m) := Mod.upd (by simp)
    generalize hG2 : uw (dp G1 m) B 0 _ = G2
    have mG2 : Mod [B, l, m] (dp G1 m) G2 := hG2 ▸ Mod.uw (by simp)
    have hB2 : bk G2 B = some ⟨32, false, [.slice (some ⟨b + 2, 0, none⟩) (rs.length + 1) (rs.length + 1)]⟩ := by rw [← hG2, bk_uw_eq, hBd]; rfl
    have hb2 : G2.next = b := by rw [← hG2, uw_next, hbd]
    generalize hG3 : setLoop G2 l _ _ = G3
    have mG3 : Mod [B, l, m] G2 G3 := hG3 ▸ Mod.upd (by simp)
    have hb3 : G3.next = b := by rw [← hG3, setLoop_next, hb2]
    have hl3 : LoopAt G3 l _ (rvOf 13 E) := hG3 ▸ LoopAt.set l _ _
    have hB3 : bk G3 B = bk G2 B := by rw [← hG3, bk_setLoop hBl]
    have mA := ((mG1.trans mD).trans mG2).trans mG3
    refine ⟨⟨hl3.of (ext_get_old (by rw [hb3, ← hb]; exact hll)), ?_, ?_, hBl, rfl, .inr ⟨b + 2, by simp, ?_, ?_, ?_, rfl, ?_, ?_⟩⟩, mA.trans (Mod.ext (mA.ok hok)), ?_, ?_⟩
    · rw [ext_next, hb3]; omega
    · rw [ext_next, hb3]; omega
    · omega
    · omega
    · rw [ext_next, hb3]; simp
    · rw [bk_old (by rw [hb3]; exact hlB'), hB3, hB2]; simp
    · rw [bk_at hb3 (by simp)]
      simp only [List.getElem?_cons_succ, List.getElem?_cons_zero, rowsOf, List.flatMap_append, List.flatMap_cons, List.flatMap_nil, List.append_nil, Rc.cells]
    · intro n hn
      simp only [List.mem_cons, List.not_mem_nil, or_false] at hn ⊢
      omega
    · intro n hn
      simp only [List.mem_cons, List.not_mem_nil, or_false] at hn ⊢
      omega

/-- the yield of AppendSeq -/
def yApp {asg bod : Code} (hab : some (asg, bod) = Try.f66.body.bind rangeOf) {l B d : Nat} {E : Env} (hE : E 2 = .pointer (some ⟨B, 0, none⟩)) : Yld Try.prog l Rc encR (fun _ => true) 10000 where
  Inv := AppInv l B (lpApp asg bod d) (rvOf 13 E)
  sub := by
    rintro rs F W G ⟨_, _, _, _, rfl, _⟩ n hn
    exact hn
  dom := by
    rintro rs F W G ⟨⟨o, hl⟩, hll, hlB, _, rfl, ⟨_, rfl, hB⟩ | ⟨m, _, _, _, hlm, rfl, hB, hm⟩⟩ n hn <;> simp only [List.mem_cons, List.not_mem_nil, or_false] at hn
    · rcases hn with rfl | rfl
      · exact ⟨bk_ne hB, hlB⟩
      · exact ⟨by rw [hl]; simp, hll⟩
    · rcases hn with rfl | rfl | rfl
      · exact ⟨bk_ne hB, hlB⟩
      · exact ⟨by rw [hl]; simp, hll⟩
      · exact ⟨bk_ne hm, hlm⟩
  loc := by
    rintro rs F W G G' ⟨hl, hll, hlB, hBl, rfl, hI⟩ hn hg
    refine ⟨hl.of (hg l ?_), by omega, by omega, hBl, rfl, ?_⟩
    · rcases hI with ⟨_, h, _⟩ | ⟨m, _, _, _, _, h, _⟩ <;> simp [h]
    · rcases hI with ⟨h1, rfl, hB⟩ | ⟨m, h1, h2, h3, hlm, rfl, hB, hm⟩
      · exact .inl ⟨h1, rfl, (bk_get (hg B (by simp))).trans hB⟩
      · exact .inr ⟨m, h1, h2, h3, by omega, rfl, (bk_get (hg B (by simp))).trans hB, (bk_get (hg m (by simp))).trans hm⟩
  step := fun hI _ hcap hok => app_step hab hE hI hcap hok

theorem rects_ne : ∀ (t : Tr) (r : Rc), rects t r ≠ []
  | .leaf _ _, _ => by simp [rects]
  | .split _ be f l r, rc => by
    have := rects_ne l (partA be f rc)
    simp [rects, this]

theorem appendSeq_c (c T : Nat) (x : Wn) (H : AHeap) (hcap : x.rects.length ≤ 10000) (hc : bk H c = some ⟨24, false, [.pointer (some ⟨T, 0, none⟩)]⟩) (hT : WnAt H T x) :
    CallS Try.prog 66 [.slice none 0 0, .func (.func 67) #[] #[.pointer (some ⟨c, 0, none⟩)]] H (.ok (.slice (some ⟨H.next, 0, none⟩) x.rects.length x.rects.length)) (ext H [⟨35, true, rowsOf x.rects⟩]) := by
  refine callS_one (fun wf hsc => ?_) (fun _ _ => rowsOf_sc _ _)
  obtain ⟨b, hb⟩ : ∃ b, H.next = b := ⟨_, rfl⟩
  have hok := wf.base
  have hbase : H.base ≤ b := hb ▸ hok
  refine callE_fn mixed Try.func66 rfl Try.ntmps66 (Nat.le_of_ble_eq_true rfl) ?_
  simp (maxDischargeDepth := 6) only [hb, hbase, ruW, go_int, Option.map_some, List.length_cons, List.length_nil, List.set_cons_zero, List.set_cons_succ, List.nil_append, List.cons_append, putL, List.drop_succ_cons, List.drop_zero, List.take_succ_cons, List.take_zero, Nat.reduceLeDiff, if_true, xFA, xFD, xIA, xHB, xU4, xSz, xZ, xSl, xBd, xBs, xTA, xMI, xCm, ruU, entryE, Option.bind_some, List.map_cons, List.map_nil, List.getElem?_cons_zero, List.getElem?_cons_succ, Nat.reduceLT, Nat.reduceAdd, Nat.reduceMul, ne_eq, Nat.reduceEqDiff, not_false_eq_true, Bool.not_false, Bool.not_true]
  refine w_env fun E hE => ?_
  have h2 : E 2 = .pointer (some ⟨b + 0, 0, none⟩) := by rw [hE]; simp only [ruU, entryE, Option.bind_some, List.map_cons, List.map_nil, List.getElem?_cons_zero, List.getElem?_cons_succ, Nat.reduceLT, Nat.reduceAdd, Nat.reduceMul, ne_eq, Nat.reduceEqDiff, not_false_eq_true, Bool.not_false, Bool.not_true]
  have h6 : E 6 = .func (.func 67) #[] #[.pointer (some ⟨c, 0, none⟩)] := by rw [hE]; simp only [ruU, entryE, Option.bind_some, List.map_cons, List.map_nil, List.getElem?_cons_zero, List.getElem?_cons_succ, Nat.reduceLT, Nat.reduceAdd, Nat.reduceMul, ne_eq, Nat.reduceEqDiff, not_false_eq_true, Bool.not_false, Bool.not_true]
  clear hE
  generalize hX : ext H _ = X
  have mX : Mod [] H X := hX ▸ Mod.ext hok
  have hbX : X.next = b + 1 := by rw [← hX, ext_next, hb]; rfl
  have hBX : bk X (b + 0) = some ⟨32, false, [.slice none 0 0]⟩ := by rw [← hX, bk_at hb (by simp)]; rfl
  refine w_rangeK (f := 67) (ca := [.pointer (some ⟨c, 0, none⟩)]) (mX.ok hok) (by decide) h6 (by kernel_rfl) fun K hlp hdf mK hbK => ?_
  replace mK := mK []
  rw [hbX] at hlp hdf hbK ⊢
  have mHK := mX.trans mK
  have lc : c < H.next := wf.lt hc
  have lT : T < H.next := wf.lt hT.1
  have lt := hT.2.lt wf
  have hI : (yApp (l := b + 1 + 1) (B := b + 0) (d := b + 1) rfl h2).Inv [] [b + 0, b + 1 + 1] [b + 0, b + 1 + 1] K :=
    ⟨hlp, by omega, by omega, by omega, rfl, .inl ⟨rfl, rfl, (mK.bk (by omega) (by simp)).trans hBX⟩⟩
  refine (allf_c _ c T x _ _ K hI hcap (mHK.ok hok) ((mHK.bk lc (by simp)).trans hc) (mHK.lt lc) ⟨(mHK.bk lT (by simp)).trans hT.1, hT.2.mod mHK lt (by simp)⟩ (mHK.lt lT) (fun n hn => mHK.lt (lt n hn)) (fun n hn h => ?_)).mono ?_
  · have := lt n hn
    simp only [List.mem_cons, List.not_mem_nil, or_false] at h
    omega
  rintro _ K1 ⟨rfl, F1, W1, ⟨hl1, hll1, hlB1, hBl1, rfl, hI1⟩, m1, hF1, hW1⟩
  rw [upto_all (by simp)] at hI1
  rcases hI1 with ⟨h, _⟩ | ⟨m, _, hmB, hml, hlm, rfl, hB1, hm1⟩
  · exact absurd h (rects_ne _ _)
  refine ⟨_, _, _, hl1.get, by simp [lpApp], rfl, ?_⟩
  generalize hK2 : setLoop K1 (b + 1 + 1) _ _ = K2
  have hbK2 : K2.next = K1.next := hK2 ▸ rfl
  have hB2 : bk K2 (b + 0) = _ := (hK2 ▸ bk_setLoop (by omega) : bk K2 (b + 0) = bk K1 (b + 0)).trans hB1
  have hm2 : bk K2 m = _ := (hK2 ▸ bk_setLoop hml : bk K2 m = bk K1 m).trans hm1
  have mK2 : Mod [b + 1 + 1] K1 K2 := hK2 ▸ Mod.upd (by simp)
  have hdK1 : K1.get (b + 1) = K.get (b + 1) := m1.get (b + 1) (by omega) (by simp)
  have hdK2 : K2.get (b + 1) = K1.get (b + 1) := hK2 ▸ setLoop_get (by omega)
  rw [show K2 = ext K2 [] from rfl]
  simp (maxDischargeDepth := 6) only [h2, hB2, show b + 0 < K2.next by omega, ruW, go_int, Option.map_some, List.length_cons, List.length_nil, List.set_cons_zero, List.set_cons_succ, List.nil_append, List.cons_append, putL, List.drop_succ_cons, List.drop_zero, List.take_succ_cons, List.take_zero, Nat.reduceLeDiff, if_true, xFA, xFD, xIA, xHB, xU4, xSz, xZ, xSl, xBd, xBs, xTA, xMI, xCm, ruU, entryE, Option.bind_some, List.map_cons, List.map_nil, List.getElem?_cons_zero, List.getElem?_cons_succ, Nat.reduceLT, Nat.reduceAdd, Nat.reduceMul, ne_eq, Nat.reduceEqDiff, not_false_eq_true, Bool.not_false, Bool.not_true]
  refine lv_mark ⟨_, _, hdK2.trans (hdK1.trans hdf)⟩ ?_
  simp (maxDischargeDepth := 6) only [Try.results66, ruW, go_int, Option.map_some, List.length_cons, List.length_nil, List.set_cons_zero, List.set_cons_succ, List.nil_append, List.cons_append, putL, List.drop_succ_cons, List.drop_zero, List.take_succ_cons, List.take_zero, Nat.reduceLeDiff, if_true, xFA, xFD, xIA, xHB, xU4, xSz, xZ, xSl, xBd, xBs, xTA, xMI, xCm, ruU, entryE, Option.bind_some, List.map_cons, List.map_nil, List.getElem?_cons_zero, List.getElem?_cons_succ, Nat.reduceLT, Nat.reduceAdd, Nat.reduceMul, ne_eq, Nat.reduceEqDiff, not_false_eq_true, Bool.not_false, Bool.not_true]
  refine ⟨m, rfl, ?_, ?_, ?_⟩
  · have := hW1 m (by simp)
    simp only [List.mem_cons, List.not_mem_nil, or_false] at this
    omega
  · have hne : m ≠ b + 1 := by
      have := hW1 m (by simp)
      simp only [List.mem_cons, List.not_mem_nil, or_false] at this
      omega
    exact (bk_get (by rw [ext_nil, AHeap.get_upd, if_neg hne])).trans hm2
  · have e1 := mHK.step m1 hok (fun n hn => by simp only [List.mem_cons, List.not_mem_nil, or_false] at hn; right; omega)
    have e2 := e1.step mK2 hok (fun n hn => by simp only [List.mem_cons, List.not_mem_nil, or_false] at hn; right; omega)
    exact e2.step (Mod.upd (W := [b + 1]) (by simp)) hok (fun n hn => by simp only [List.mem_cons, List.not_mem_nil, or_false] at hn; right; omega)

theorem collect_c (c T : Nat) (x : Wn) (H : AHeap) (hcap : x.rects.length ≤ 10000) (hc : bk H c = some ⟨24, false, [.pointer (some ⟨T, 0, none⟩)]⟩) (hT : WnAt H T x) :
    CallS Try.prog 39 [.func (.func 67) #[] #[.pointer (some ⟨c, 0, none⟩)]] H (.ok (.slice (some ⟨H.next, 0, none⟩) x.rects.length x.rects.length)) (ext H [⟨35, true, rowsOf x.rects⟩]) := by
  refine callS_fn mixed Try.func39 rfl Try.ntmps39 (Nat.le_of_ble_eq_true rfl) fun wf hsc => ?_
  simp (maxDischargeDepth := 6) only [ruW, go_int, Option.map_some, List.length_cons, List.length_nil, List.set_cons_zero, List.set_cons_succ, List.nil_append, List.cons_append, putL, List.drop_succ_cons, List.drop_zero, List.take_succ_cons, List.take_zero, Nat.reduceLeDiff, if_true, xFA, xFD, xIA, xHB, xU4, xSz, xZ, xSl, xBd, xBs, xTA, xMI, xCm, ruU, entryE, Option.bind_some, List.map_cons, List.map_nil, List.getElem?_cons_zero, List.getElem?_cons_succ, Nat.reduceLT, Nat.reduceAdd, Nat.reduceMul, ne_eq, Nat.reduceEqDiff, not_false_eq_true, Bool.not_false, Bool.not_true]
  refine (appendSeq_c c T x (ext H []) hcap hc hT).to ?_
  simp (maxDischargeDepth := 6) only [Try.results39, ruW, go_int, Option.map_some, List.length_cons, List.length_nil, List.set_cons_zero, List.set_cons_succ, List.nil_append, List.cons_append, putL, List.drop_succ_cons, List.drop_zero, List.take_succ_cons, List.take_zero, Nat.reduceLeDiff, if_true, xFA, xFD, xIA, xHB, xU4, xSz, xZ, xSl, xBd, xBs, xTA, xMI, xCm, ruU, entryE, Option.bind_some, List.map_cons, List.map_nil, List.getElem?_cons_zero, List.getElem?_cons_succ, Nat.reduceLT, Nat.reduceAdd, Nat.reduceMul, ne_eq, Nat.reduceEqDiff, not_false_eq_true, Bool.not_false, Bool.not_true]
  exact Fin.same

theorem rects_c (T : Nat) (x : Wn) (H : AHeap) (hcap : x.rects.length ≤ 10000) (hT : WnAt H T x) :
    CallS Try.prog 12 [.pointer (some ⟨T, 0, none⟩)] H (.ok (.slice (some ⟨H.next, 0, none⟩) x.rects.length x.rects.length)) (ext H [⟨35, true, rowsOf x.rects⟩]) := by
  refine callS_one (fun wf hsc => ?_) (fun _ _ => rowsOf_sc _ _)
  obtain ⟨b, hb⟩ : ∃ b, H.next = b := ⟨_, rfl⟩
  have lT : T < H.next := wf.lt hT.1
  have lt := hT.2.lt wf
  refine callE_fn mixed Try.func12 rfl Try.ntmps12 (Nat.le_of_ble_eq_true rfl) ?_
  simp (maxDischargeDepth := 6) only [ruW, go_int, Option.map_some, List.length_cons, List.length_nil, List.set_cons_zero, List.set_cons_succ, List.nil_append, List.cons_append, putL, List.drop_succ_cons, List.drop_zero, List.take_succ_cons, List.take_zero, Nat.reduceLeDiff, if_true, xFA, xFD, xIA, xHB, xU4, xSz, xZ, xSl, xBd, xBs, xTA, xMI, xCm, ruU, entryE, Option.bind_some, List.map_cons, List.map_nil, List.getElem?_cons_zero, List.getElem?_cons_succ, Nat.reduceLT, Nat.reduceAdd, Nat.reduceMul, ne_eq, Nat.reduceEqDiff, not_false_eq_true, Bool.not_false, Bool.not_true]
  refine (all_c T (ext H [])).to ?_
  simp (maxDischargeDepth := 6) only [ext_append, ruW, go_int, Option.map_some, List.length_cons, List.length_nil, List.set_cons_zero, List.set_cons_succ, List.nil_append, List.cons_append, putL, List.drop_succ_cons, List.drop_zero, List.take_succ_cons, List.take_zero, Nat.reduceLeDiff, if_true, xFA, xFD, xIA, xHB, xU4, xSz, xZ, xSl, xBd, xBs, xTA, xMI, xCm, ruU, entryE, Option.bind_some, List.map_cons, List.map_nil, List.getElem?_cons_zero, List.getElem?_cons_succ, Nat.reduceLT, Nat.reduceAdd, Nat.reduceMul, ne_eq, Nat.reduceEqDiff, not_false_eq_true, Bool.not_false, Bool.not_true]
  have m1 : Mod [] H (ext H [⟨24, false, [.pointer (some ⟨T, 0, none⟩)]⟩]) := Mod.ext wf.base
  refine (collect_c (H.next + 0) T x (ext H [⟨24, false, [.pointer (some ⟨T, 0, none⟩)]⟩]) hcap (by rw [bk_at rfl (by simp)]; rfl) ⟨(m1.bk lT (by simp)).trans hT.1, hT.2.mod m1 lt (by simp)⟩).to ?_
  simp (maxDischargeDepth := 6) only [ext_append, Try.results12, ruW, go_int, Option.map_some, List.length_cons, List.length_nil, List.set_cons_zero, List.set_cons_succ, List.nil_append, List.cons_append, putL, List.drop_succ_cons, List.drop_zero, List.take_succ_cons, List.take_zero, Nat.reduceLeDiff, if_true, xFA, xFD, xIA, xHB, xU4, xSz, xZ, xSl, xBd, xBs, xTA, xMI, xCm, ruU, entryE, Option.bind_some, List.map_cons, List.map_nil, List.getElem?_cons_zero, List.getElem?_cons_succ, Nat.reduceLT, Nat.reduceAdd, Nat.reduceMul, ne_eq, Nat.reduceEqDiff, not_false_eq_true, Bool.not_false, Bool.not_true]
  refine ⟨H.next + 1, rfl, by omega, by rw [bk_at rfl (by simp)]; rfl, Mod.ext wf.base⟩

end Go.Proofs.Ytiedpcmdimgboaa

/- What path and find come to. -/
namespace Go.Proofs.Ytiedpcmdimgboaa
open Go.Ax
set_option linter.unusedSimpArgs false
set_option maxRecDepth 10000

/-- a place on the way to a window: the cell that holds the node, the node's rectangle -/
structure Pl where
  a : Nat
  o : Nat
  r : Rc

def Pl.cells (p : Pl) : List Value := .pointer (some ⟨p.a, p.o, none⟩) :: p.r.cells
def plsOf (ps : List Pl) : List Value := ps.flatMap Pl.cells
theorem plsOf_cons (p : Pl) (ps : List Pl) : plsOf (p :: ps) = p.cells ++ plsOf ps := by simp [plsOf]
theorem plsOf_length (ps : List Pl) : (plsOf ps).length = ps.length * 6 := by
  induction ps with
  | nil => rfl
  | cons r rs ih => rw [plsOf_cons, List.length_append, ih]; simp only [Pl.cells, Rc.cells, List.length_cons, List.length_nil]; omega
theorem plsOf_one (ps : List Pl) : (plsOf ps).all one = true := by
  induction ps with
  | nil => rfl
  | cons r rs ih => rw [plsOf_cons, List.all_append, ih]; rfl
theorem plsOf_sc {N : Nat} {ps : List Pl} (h : ∀ p ∈ ps, p.a < N) : scbL N (plsOf ps) = true := by
  induction ps with
  | nil => rfl
  | cons r rs ih =>
    rw [plsOf_cons]
    have h1 := blt_of (h r (by simp))
    have h2 := ih (fun p hp => h p (by simp [hp]))
    simp only [Pl.cells, Rc.cells, List.cons_append, List.nil_append, scbL, scb, h1, h2, Bool.and_self]

def pathT (a o : Nat) : Tr → Rc → Int → List Pl
  | .leaf _ i, rc, id => if i = id then [⟨a, o, rc⟩] else []
  | .split b be f l r, rc, id =>
    if pathT b 2 l (partA be f rc) id ≠ [] then ⟨a, o, rc⟩ :: pathT b 2 l (partA be f rc) id
    else if pathT b 3 r (partB be f rc) id ≠ [] then ⟨a, o, rc⟩ :: pathT b 3 r (partB be f rc) id else []

theorem pathT_blks : ∀ (t : Tr) (a o : Nat) (rc : Rc) (id : Int), ∀ p ∈ pathT a o t rc id, p.a = a ∨ p.a ∈ t.blks
  | .leaf _ i, a, o, rc, id, p, hp => by
    simp only [pathT] at hp
    split at hp
    · simp only [List.mem_singleton] at hp; subst hp; exact .inl rfl
    · cases hp
  | .split b be f l r, a, o, rc, id, p, hp => by
    simp only [pathT] at hp
    split at hp
    · rcases List.mem_cons.1 hp with rfl | hp
      · exact .inl rfl
      · rcases pathT_blks l _ _ _ _ p hp with h | h
        · exact .inr (by simp [Tr.blks, h])
        · exact .inr (by simp [Tr.blks, h])
    · split at hp
      · rcases List.mem_cons.1 hp with rfl | hp
        · exact .inl rfl
        · rcases pathT_blks r _ _ _ _ p hp with h | h
          · exact .inr (by simp [Tr.blks, h])
          · exact .inr (by simp [Tr.blks, h])
      · cases hp

theorem pathT_len : ∀ (t : Tr) (a o : Nat) (rc : Rc) (id : Int), (pathT a o t rc id).length ≤ t.size + 1
  | .leaf _ i, a, o, rc, id => by simp only [pathT]; split <;> simp
  | .split b be f l r, a, o, rc, id => by
    have h1 := pathT_len l b 2 (partA be f rc) id
    have h2 := pathT_len r b 3 (partB be f rc) id
    simp only [pathT, Tr.size]
    split
    · simp only [List.length_cons]; omega
    · split
      · simp only [List.length_cons]; omega
      · simp

def Tr.spot : Tr → Option Nat
  | .leaf _ _ => some 0
  | .split _ _ _ _ _ => none
def Tr.opn : Tr → Bool
  | .leaf _ _ => false
  | .split _ _ _ _ _ => true

def pathV (N : Nat) (t : Tr) (ps : List Pl) : Value := if ps = [] then .slice none 0 0 else .slice (some ⟨N, 0, t.spot⟩) ps.length ps.length
def pathM (t : Tr) (ps : List Pl) : List Bl := if ps = [] then [] else [⟨85, t.opn, plsOf ps⟩]

theorem path_c (id : Int) : ∀ (t : Tr) (a o : Nat) (rc : Rc) (H : AHeap) (ba : Bl), t.size < 10000 → TreeAt H t → bk H a = some ba → ba.l[o]? = some t.val →
    CallS Try.prog 69 [.pointer (some ⟨a, o, none⟩), rc.val, .int .i64 id] H (.ok (pathV H.next t (pathT a o t rc id))) (ext H (pathM t (pathT a o t rc id)))
  | .leaf n i => fun a o rc H ba _ h ha hao => by
    obtain ⟨b, hb⟩ : ∃ b, H.next = b := ⟨_, rfl⟩
    obtain ⟨ea, oa, la⟩ := ba
    simp only [TreeAt] at h
    simp only [Tr.val] at hao
    refine callS_fn mixed Try.func69 rfl Try.ntmps69 (Nat.le_of_ble_eq_true rfl) fun wf hsc => ?_
    have hnb : n < b := hb ▸ wf.lt h
    have hab : a < b := hb ▸ wf.lt ha
    have hbase : H.base ≤ b := hb ▸ wf.base
    simp (maxDischargeDepth := 6) only [Rc.val, hb, hnb, hab, hbase, h, ha, hao, ruW, go_int, Option.map_some, List.length_cons, List.length_nil, List.set_cons_zero, List.set_cons_succ, List.nil_append, List.cons_append, putL, List.drop_succ_cons, List.drop_zero, List.take_succ_cons, List.take_zero, Nat.reduceLeDiff, if_true, xFA, xFD, xIA, xHB, xU4, xSz, xZ, xSl, xBd, xBs, xTA, xMI, xCm, ruU, entryE, Option.bind_some, List.map_cons, List.map_nil, List.getElem?_cons_zero, List.getElem?_cons_succ, Nat.reduceLT, Nat.reduceAdd, Nat.reduceMul, ne_eq, Nat.reduceEqDiff, not_false_eq_true, Bool.not_false, Bool.not_true]
    refine condC_split (fun hd => ?_) (fun hd => ?_)
    · have hd := of_decide_eq_true hd
      simp (maxDischargeDepth := 6) only [hb, hnb, hab, hbase, h, ha, Try.results69, ruW, go_int, Option.map_some, List.length_cons, List.length_nil, List.set_cons_zero, List.set_cons_succ, List.nil_append, List.cons_append, putL, List.drop_succ_cons, List.drop_zero, List.take_succ_cons, List.take_zero, Nat.reduceLeDiff, if_true, xFA, xFD, xIA, xHB, xU4, xSz, xZ, xSl, xBd, xBs, xTA, xMI, xCm, ruU, entryE, Option.bind_some, List.map_cons, List.map_nil, List.getElem?_cons_zero, List.getElem?_cons_succ, Nat.reduceLT, Nat.reduceAdd, Nat.reduceMul, ne_eq, Nat.reduceEqDiff, not_false_eq_true, Bool.not_false, Bool.not_true]
      simp only [pathT, hd, if_true, pathV, pathM, Tr.spot, Tr.opn, List.cons_ne_nil, if_false]
      refine Fin.one 2 ?_ rfl ?_ ?_
      · simp only [rnV, kp, hb]
        simp
      · rw [hb]; simp only [plsOf, Pl.cells, Rc.cells, List.flatMap_cons, List.flatMap_nil, List.append_nil, List.cons_append, List.nil_append, scbL, scb, blt_of hab, Bool.and_self]
      · rw [hb]; simp only [scb, blt_of (Nat.lt_succ_self b)]
    · have hd := of_decide_eq_false hd
      simp (maxDischargeDepth := 6) only [hb, hnb, hab, hbase, h, ha, Try.results69, ruW, go_int, Option.map_some, List.length_cons, List.length_nil, List.set_cons_zero, List.set_cons_succ, List.nil_append, List.cons_append, putL, List.drop_succ_cons, List.drop_zero, List.take_succ_cons, List.take_zero, Nat.reduceLeDiff, if_true, xFA, xFD, xIA, xHB, xU4, xSz, xZ, xSl, xBd, xBs, xTA, xMI, xCm, ruU, entryE, Option.bind_some, List.map_cons, List.map_nil, List.getElem?_cons_zero, List.getElem?_cons_succ, Nat.reduceLT, Nat.reduceAdd, Nat.reduceMul, ne_eq, Nat.reduceEqDiff, not_false_eq_true, Bool.not_false, Bool.not_true]
      simp only [pathT, hd, if_false, pathV, pathM, if_true]
      exact Fin.pure rfl
  | .split n be f l r => fun a o rc H ba hsz h ha hao => by
    simp only [Tr.size] at hsz
    have ihl := fun a o rc H ba => path_c id l a o rc H ba (by omega)
    have ihr := fun a o rc H ba => path_c id r a o rc H ba (by omega)
    obtain ⟨b, hb⟩ : ∃ b, H.next = b := ⟨_, rfl⟩
    obtain ⟨ea, oa, la⟩ := ba
    obtain ⟨hn, hl, hr⟩ := h
    simp only [Tr.val] at hao
    refine callS_fn mixed Try.func69 rfl Try.ntmps69 (Nat.le_of_ble_eq_true rfl) fun wf hsc => ?_
    have hnb : n < b := hb ▸ wf.lt hn
    have hab : a < b := hb ▸ wf.lt ha
    have hbase : H.base ≤ b := hb ▸ wf.base
    have hll := hl.lt wf
    have hlr := hr.lt wf
    simp (maxDischargeDepth := 6) only [Rc.val, hb, hnb, hab, hbase, hn, ha, hao, ruW, go_int, Option.map_some, List.length_cons, List.length_nil, List.set_cons_zero, List.set_cons_succ, List.nil_append, List.cons_append, putL, List.drop_succ_cons, List.drop_zero, List.take_succ_cons, List.take_zero, Nat.reduceLeDiff, if_true, xFA, xFD, xIA, xHB, xU4, xSz, xZ, xSl, xBd, xBs, xTA, xMI, xCm, ruU, entryE, Option.bind_some, List.map_cons, List.map_nil, List.getElem?_cons_zero, List.getElem?_cons_succ, Nat.reduceLT, Nat.reduceAdd, Nat.reduceMul, ne_eq, Nat.reduceEqDiff, not_false_eq_true, Bool.not_false, Bool.not_true]
    refine (parts_c n be f l.val r.val rc (ext H _) ((bk_old (hb.symm ▸ hnb)).trans hn)).to ?_
    simp (maxDischargeDepth := 6) only [Rc.val, hb, hnb, hab, hbase, hn, ha, ruW, go_int, Option.map_some, List.length_cons, List.length_nil, List.set_cons_zero, List.set_cons_succ, List.nil_append, List.cons_append, putL, List.drop_succ_cons, List.drop_zero, List.take_succ_cons, List.take_zero, Nat.reduceLeDiff, if_true, xFA, xFD, xIA, xHB, xU4, xSz, xZ, xSl, xBd, xBs, xTA, xMI, xCm, ruU, entryE, Option.bind_some, List.map_cons, List.map_nil, List.getElem?_cons_zero, List.getElem?_cons_succ, Nat.reduceLT, Nat.reduceAdd, Nat.reduceMul, ne_eq, Nat.reduceEqDiff, not_false_eq_true, Bool.not_false, Bool.not_true]
    generalize hX : ext H (_ :: _) = X
    have hX3 : X.next = b + 3 := by rw [← hX, ext_next, hb]; rfl
    obtain ⟨c, hX'⟩ : ∃ c, X.next = c := ⟨_, rfl⟩
    have hc3 : c = b + 3 := hX'.symm.trans hX3
    have mX : Mod [] H X := hX ▸ Mod.ext wf.base
    have hnX := (mX.bk (hb ▸ hnb) (by simp)).trans hn
    have hlX := hl.mod mX hll (by simp)
    have hrX := hr.mod mX hlr (by simp)
    have h1X : bk X (b + 1) = some ⟨85, false, (Pl.mk a o rc).cells⟩ := by rw [← hX, bk_at hb (by simp)]; rfl
    have h2X : bk X (b + 2) = some ⟨123, false, (partA be f rc).cells ++ (partB be f rc).cells⟩ := by rw [← hX, bk_at hb (by simp)]; rfl
    have l1X : b + 1 < c := by omega
    have l2X : b + 2 < c := by omega
    have lnX : n < c := by omega
    have laX : a < c := by omega
    simp only [Pl.cells, Rc.cells, List.cons_append, List.nil_append] at h1X h2X
    refine w_env fun E hE => ?_
    have g2 : E 2 = .int .i64 id := by rw [hE]; simp only [ruU, entryE, Option.bind_some, List.map_cons, List.map_nil, List.getElem?_cons_zero, List.getElem?_cons_succ, Nat.reduceLT, Nat.reduceAdd, Nat.reduceMul, ne_eq, Nat.reduceEqDiff, not_false_eq_true, Bool.not_false, Bool.not_true]
    have g7 : E 7 = .pointer (some ⟨b + 1, 0, none⟩) := by rw [hE]; simp only [ruU, entryE, Option.bind_some, List.map_cons, List.map_nil, List.getElem?_cons_zero, List.getElem?_cons_succ, Nat.reduceLT, Nat.reduceAdd, Nat.reduceMul, ne_eq, Nat.reduceEqDiff, not_false_eq_true, Bool.not_false, Bool.not_true]
    have g9 : E 9 = .pointer (some ⟨n, 0, none⟩) := by rw [hE]; simp only [ruU, entryE, Option.bind_some, List.map_cons, List.map_nil, List.getElem?_cons_zero, List.getElem?_cons_succ, Nat.reduceLT, Nat.reduceAdd, Nat.reduceMul, ne_eq, Nat.reduceEqDiff, not_false_eq_true, Bool.not_false, Bool.not_true]
    have g10 : E 10 = .pointer (some ⟨b + 2, 0, none⟩) := by rw [hE]; simp only [ruU, entryE, Option.bind_some, List.map_cons, List.map_nil, List.getElem?_cons_zero, List.getElem?_cons_succ, Nat.reduceLT, Nat.reduceAdd, Nat.reduceMul, ne_eq, Nat.reduceEqDiff, not_false_eq_true, Bool.not_false, Bool.not_true]
    have g42 : E 42 = .int .i64 0 := by rw [hE]; simp only [ruU, entryE, Option.bind_some, List.map_cons, List.map_nil, List.getElem?_cons_zero, List.getElem?_cons_succ, Nat.reduceLT, Nat.reduceAdd, Nat.reduceMul, ne_eq, Nat.reduceEqDiff, not_false_eq_true, Bool.not_false, Bool.not_true]
    clear hE
    refine w_loop (fun (i : Nat) E' H' => H' = ext X [] ∧ E' 42 = .int .i64 i ∧ E' 9 = .pointer (some ⟨n, 0, none⟩) ∧ E' 2 = .int .i64 id ∧ E' 7 = .pointer (some ⟨b + 1, 0, none⟩) ∧ E' 10 = .pointer (some ⟨b + 2, 0, none⟩) ∧ i ≤ 2 ∧ (1 ≤ i → pathT n 2 l (partA be f rc) id = []) ∧ (2 ≤ i → pathT n 3 r (partB be f rc) id = []))
      (fun i => 2 - i) 0 ⟨rfl, g42, g9, g2, g7, g10, by decide, fun h => absurd h (by decide), fun h => absurd h (by decide)⟩ ?_
    clear g2 g7 g9 g10 g42 E
    rintro i E H' ⟨hH, h42, h9, h2, h7, h10, hi, hp1, hp2⟩
    rw [hH]
    rcases (by omega : i = 0 ∨ i = 1 ∨ i = 2) with rfl | rfl | rfl
    · replace h42 : E 42 = .int .i64 0 := h42
      simp (maxDischargeDepth := 6) only [h2, h7, h9, h10, h42, hX', Int.reduceLT, decide_true, ruW, go_int, Option.map_some, List.length_cons, List.length_nil, List.set_cons_zero, List.set_cons_succ, List.nil_append, List.cons_append, putL, List.drop_succ_cons, List.drop_zero, List.take_succ_cons, List.take_zero, Nat.reduceLeDiff, if_true, xFA, xFD, xIA, xHB, xU4, xSz, xZ, xSl, xBd, xBs, xTA, xMI, xCm, ruU, entryE, Option.bind_some, List.map_cons, List.map_nil, List.getElem?_cons_zero, List.getElem?_cons_succ, Nat.reduceLT, Nat.reduceAdd, Nat.reduceMul, ne_eq, Nat.reduceEqDiff, not_false_eq_true, Bool.not_false, Bool.not_true]
      refine w_drawB [(10, 9)] [] (by kernel_rfl) (by kernel_rfl) rfl fun ops anc hA hG => ?_
      simp only [all2_cons] at hA
      simp (maxDischargeDepth := 6) only [h2, h7, h9, h10, h42, hX', hnX, h2X, l2X, lnX, ruD, true_and, false_implies, true_implies, not_true_eq_false, implies_true, and_true, or_true, true_or, and_self, ruW, go_int, Option.map_some, List.length_cons, List.length_nil, List.set_cons_zero, List.set_cons_succ, List.nil_append, List.cons_append, putL, List.drop_succ_cons, List.drop_zero, List.take_succ_cons, List.take_zero, Nat.reduceLeDiff, if_true, xFA, xFD, xIA, xHB, xU4, xSz, xZ, xSl, xBd, xBs, xTA, xMI, xCm, ruU, entryE, Option.bind_some, List.map_cons, List.map_nil, List.getElem?_cons_zero, List.getElem?_cons_succ, Nat.reduceLT, Nat.reduceAdd, Nat.reduceMul, ne_eq, Nat.reduceEqDiff, not_false_eq_true, Bool.not_false, Bool.not_true, ruW, go_int, Option.map_some, List.length_cons, List.length_nil, List.set_cons_zero, List.set_cons_succ, List.nil_append, List.cons_append, putL, List.drop_succ_cons, List.drop_zero, List.take_succ_cons, List.take_zero, Nat.reduceLeDiff, if_true, xFA, xFD, xIA, xHB, xU4, xSz, xZ, xSl, xBd, xBs, xTA, xMI, xCm, ruU, entryE, Option.bind_some, List.map_cons, List.map_nil, List.getElem?_cons_zero, List.getElem?_cons_succ, Nat.reduceLT, Nat.reduceAdd, Nat.reduceMul, ne_eq, Nat.reduceEqDiff, not_false_eq_true, Bool.not_false, Bool.not_true]
      have gT : ∀ m ∈ n :: l.blks, X.get m ≠ none := by
        intro m hm
        rcases List.mem_cons.1 hm with rfl | hm
        · exact bk_ne hnX
        · exact hlX.ne m hm
      by_cases hp : pathT n 2 l (partA be f rc) id = []
      · refine genV_quiet (v := .slice none 0 0) (n :: l.blks) (by simp (maxDischargeDepth := 6) only [ruU, entryE, Option.bind_some, List.map_cons, List.map_nil, List.getElem?_cons_zero, List.getElem?_cons_succ, Nat.reduceLT, Nat.reduceAdd, Nat.reduceMul, ne_eq, Nat.reduceEqDiff, not_false_eq_true, Bool.not_false, Bool.not_true]) (by kernel_rfl) (by decide) gT (fun G _ hg => ?_) (by simp (maxDischargeDepth := 6) only [ruD, true_and, false_implies, true_implies, not_true_eq_false, implies_true, and_true, or_true, true_or, and_self, ruW, go_int, Option.map_some, List.length_cons, List.length_nil, List.set_cons_zero, List.set_cons_succ, List.nil_append, List.cons_append, putL, List.drop_succ_cons, List.drop_zero, List.take_succ_cons, List.take_zero, Nat.reduceLeDiff, if_true, xFA, xFD, xIA, xHB, xU4, xSz, xZ, xSl, xBd, xBs, xTA, xMI, xCm, ruU, entryE, Option.bind_some, List.map_cons, List.map_nil, List.getElem?_cons_zero, List.getElem?_cons_succ, Nat.reduceLT, Nat.reduceAdd, Nat.reduceMul, ne_eq, Nat.reduceEqDiff, not_false_eq_true, Bool.not_false, Bool.not_true, ruW, go_int, Option.map_some, List.length_cons, List.length_nil, List.set_cons_zero, List.set_cons_succ, List.nil_append, List.cons_append, putL, List.drop_succ_cons, List.drop_zero, List.take_succ_cons, List.take_zero, Nat.reduceLeDiff, if_true, xFA, xFD, xIA, xHB, xU4, xSz, xZ, xSl, xBd, xBs, xTA, xMI, xCm, ruU, entryE, Option.bind_some, List.map_cons, List.map_nil, List.getElem?_cons_zero, List.getElem?_cons_succ, Nat.reduceLT, Nat.reduceAdd, Nat.reduceMul, ne_eq, Nat.reduceEqDiff, not_false_eq_true, Bool.not_false, Bool.not_true]) ?_
        · simp only [ruU, entryE, Option.bind_some, List.map_cons, List.map_nil, List.getElem?_cons_zero, List.getElem?_cons_succ, Nat.reduceLT, Nat.reduceAdd, Nat.reduceMul, ne_eq, Nat.reduceEqDiff, not_false_eq_true, Bool.not_false, Bool.not_true]
          have := ihl n 2 (partA be f rc) G _ (hlX.of fun m hm => hg m (by simp [hm])) ((bk_get (hg n (by simp))).trans hnX) rfl
          simp only [hp, pathV, pathM, if_true] at this
          exact this
        simp (maxDischargeDepth := 6) only [h2, h7, h9, h10, h42, hA, ruD, true_and, false_implies, true_implies, not_true_eq_false, implies_true, and_true, or_true, true_or, and_self, ruW, go_int, Option.map_some, List.length_cons, List.length_nil, List.set_cons_zero, List.set_cons_succ, List.nil_append, List.cons_append, putL, List.drop_succ_cons, List.drop_zero, List.take_succ_cons, List.take_zero, Nat.reduceLeDiff, if_true, xFA, xFD, xIA, xHB, xU4, xSz, xZ, xSl, xBd, xBs, xTA, xMI, xCm, ruU, entryE, Option.bind_some, List.map_cons, List.map_nil, List.getElem?_cons_zero, List.getElem?_cons_succ, Nat.reduceLT, Nat.reduceAdd, Nat.reduceMul, ne_eq, Nat.reduceEqDiff, not_false_eq_true, Bool.not_false, Bool.not_true, ruW, go_int, Option.map_some, List.length_cons, List.length_nil, List.set_cons_zero, List.set_cons_succ, List.nil_append, List.cons_append, putL, List.drop_succ_cons, List.drop_zero, List.take_succ_cons, List.take_zero, Nat.reduceLeDiff, if_true, xFA, xFD, xIA, xHB, xU4, xSz, xZ, xSl, xBd, xBs, xTA, xMI, xCm, ruU, entryE, Option.bind_some, List.map_cons, List.map_nil, List.getElem?_cons_zero, List.getElem?_cons_succ, Nat.reduceLT, Nat.reduceAdd, Nat.reduceMul, ne_eq, Nat.reduceEqDiff, not_false_eq_true, Bool.not_false, Bool.not_true]
        rw [loopC_normal]
        exact ⟨_, rfl, 1, by decide, rfl, by simp only [ruU, entryE, Option.bind_some, List.map_cons, List.map_nil, List.getElem?_cons_zero, List.getElem?_cons_succ, Nat.reduceLT, Nat.reduceAdd, Nat.reduceMul, ne_eq, Nat.reduceEqDiff, not_false_eq_true, Bool.not_false, Bool.not_true]; rfl, by simp only [h9, ruU, entryE, Option.bind_some, List.map_cons, List.map_nil, List.getElem?_cons_zero, List.getElem?_cons_succ, Nat.reduceLT, Nat.reduceAdd, Nat.reduceMul, ne_eq, Nat.reduceEqDiff, not_false_eq_true, Bool.not_false, Bool.not_true], by simp only [h2, ruU, entryE, Option.bind_some, List.map_cons, List.map_nil, List.getElem?_cons_zero, List.getElem?_cons_succ, Nat.reduceLT, Nat.reduceAdd, Nat.reduceMul, ne_eq, Nat.reduceEqDiff, not_false_eq_true, Bool.not_false, Bool.not_true], by simp only [h7, ruU, entryE, Option.bind_some, List.map_cons, List.map_nil, List.getElem?_cons_zero, List.getElem?_cons_succ, Nat.reduceLT, Nat.reduceAdd, Nat.reduceMul, ne_eq, Nat.reduceEqDiff, not_false_eq_true, Bool.not_false, Bool.not_true], by simp only [h10, ruU, entryE, Option.bind_some, List.map_cons, List.map_nil, List.getElem?_cons_zero, List.getElem?_cons_succ, Nat.reduceLT, Nat.reduceAdd, Nat.reduceMul, ne_eq, Nat.reduceEqDiff, not_false_eq_true, Bool.not_false, Bool.not_true], by decide, fun _ => hp, fun h => absurd h (by decide)⟩
      · refine genV_ext (v := .slice (some ⟨X.next + 0, 0, l.spot⟩) (pathT n 2 l (partA be f rc) id).length (pathT n 2 l (partA be f rc) id).length) (M := [⟨85, l.opn, plsOf (pathT n 2 l (partA be f rc) id)⟩]) (n :: l.blks) (by simp (maxDischargeDepth := 6) only [ruU, entryE, Option.bind_some, List.map_cons, List.map_nil, List.getElem?_cons_zero, List.getElem?_cons_succ, Nat.reduceLT, Nat.reduceAdd, Nat.reduceMul, ne_eq, Nat.reduceEqDiff, not_false_eq_true, Bool.not_false, Bool.not_true]) (by kernel_rfl) (by decide) gT (fun G hGn hg => ?_) (by simp (maxDischargeDepth := 6) only [ruD, true_and, false_implies, true_implies, not_true_eq_false, implies_true, and_true, or_true, true_or, and_self, ruW, go_int, Option.map_some, List.length_cons, List.length_nil, List.set_cons_zero, List.set_cons_succ, List.nil_append, List.cons_append, putL, List.drop_succ_cons, List.drop_zero, List.take_succ_cons, List.take_zero, Nat.reduceLeDiff, if_true, xFA, xFD, xIA, xHB, xU4, xSz, xZ, xSl, xBd, xBs, xTA, xMI, xCm, ruU, entryE, Option.bind_some, List.map_cons, List.map_nil, List.getElem?_cons_zero, List.getElem?_cons_succ, Nat.reduceLT, Nat.reduceAdd, Nat.reduceMul, ne_eq, Nat.reduceEqDiff, not_false_eq_true, Bool.not_false, Bool.not_true, ruW, go_int, Option.map_some, List.length_cons, List.length_nil, List.set_cons_zero, List.set_cons_succ, List.nil_append, List.cons_append, putL, List.drop_succ_cons, List.drop_zero, List.take_succ_cons, List.take_zero, Nat.reduceLeDiff, if_true, xFA, xFD, xIA, xHB, xU4, xSz, xZ, xSl, xBd, xBs, xTA, xMI, xCm, ruU, entryE, Option.bind_some, List.map_cons, List.map_nil, List.getElem?_cons_zero, List.getElem?_cons_succ, Nat.reduceLT, Nat.reduceAdd, Nat.reduceMul, ne_eq, Nat.reduceEqDiff, not_false_eq_true, Bool.not_false, Bool.not_true]) ?_
        · simp only [ruU, entryE, Option.bind_some, List.map_cons, List.map_nil, List.getElem?_cons_zero, List.getElem?_cons_succ, Nat.reduceLT, Nat.reduceAdd, Nat.reduceMul, ne_eq, Nat.reduceEqDiff, not_false_eq_true, Bool.not_false, Bool.not_true]
          have := ihl n 2 (partA be f rc) G _ (hlX.of fun m hm => hg m (by simp [hm])) ((bk_get (hg n (by simp))).trans hnX) rfl
          simp only [hp, pathV, pathM, if_false] at this
          rw [hGn] at this
          exact this
        have hlen := pathT_len l n 2 (partA be f rc) id
        have hlp : 0 < (pathT n 2 l (partA be f rc) id).length := List.length_pos_iff.2 hp
        have happ := app_exact (P := Try.prog) (H := ext X [⟨85, l.opn, plsOf (pathT n 2 l (partA be f rc) id)⟩, ⟨85, false, (Pl.mk a o rc).cells⟩]) (st := 75) (xt := 75) (e := 85) (sz := 6) (by1 := 48) (z := .agg #[.pointer none, .int .i64 0, .int .i64 0, .int .i64 0, .int .i64 0, .int .i64 0]) (m := c + 1) (k := 1) (bm := ⟨85, false, (Pl.mk a o rc).cells⟩) (n := c + 0) (off := 0)
          (cnt := (pathT n 2 l (partA be f rc) id).length) (cap := (pathT n 2 l (partA be f rc) id).length) (s := l.spot) (b := ⟨85, l.opn, plsOf (pathT n 2 l (partA be f rc) id)⟩)
          (by kernel_rfl) (by kernel_rfl) (by kernel_rfl) (by kernel_rfl) rfl (by kernel_rfl) (by rw [bk_at hX' (by simp)]; rfl) (by simp [Pl.cells, Rc.cells]) rfl (by rw [bk_at hX' (by simp)]; rfl) (by simp only [plsOf_length]; omega) (plsOf_one _) hlp
          (by simp only [small, Bool.and_eq_true, Nat.ble_eq]; omega)
        simp only [List.drop_zero, List.take_of_length_le (Nat.le_of_eq (plsOf_length (pathT n 2 l (partA be f rc) id))), Pl.cells, Rc.cells, List.take_succ_cons, Nat.reduceMul, List.take_zero] at happ
        have hsc2 : scbL c (plsOf (pathT n 2 l (partA be f rc) id)) = true := plsOf_sc fun p hp => by
          rcases pathT_blks l _ _ _ _ p hp with h | h
          · omega
          · have := hll _ h; omega
        simp (maxDischargeDepth := 6) only [h2, h7, h9, h10, h42, hX', h1X, l1X, laX, hA, happ, hsc2, List.cons_append, List.nil_append, Try.results69, ruD, true_and, false_implies, true_implies, not_true_eq_false, implies_true, and_true, or_true, true_or, and_self, ruW, go_int, Option.map_some, List.length_cons, List.length_nil, List.set_cons_zero, List.set_cons_succ, List.nil_append, List.cons_append, putL, List.drop_succ_cons, List.drop_zero, List.take_succ_cons, List.take_zero, Nat.reduceLeDiff, if_true, xFA, xFD, xIA, xHB, xU4, xSz, xZ, xSl, xBd, xBs, xTA, xMI, xCm, ruU, entryE, Option.bind_some, List.map_cons, List.map_nil, List.getElem?_cons_zero, List.getElem?_cons_succ, Nat.reduceLT, Nat.reduceAdd, Nat.reduceMul, ne_eq, Nat.reduceEqDiff, not_false_eq_true, Bool.not_false, Bool.not_true, ruW, go_int, Option.map_some, List.length_cons, List.length_nil, List.set_cons_zero, List.set_cons_succ, List.nil_append, List.cons_append, putL, List.drop_succ_cons, List.drop_zero, List.take_succ_cons, List.take_zero, Nat.reduceLeDiff, if_true, xFA, xFD, xIA, xHB, xU4, xSz, xZ, xSl, xBd, xBs, xTA, xMI, xCm, ruU, entryE, Option.bind_some, List.map_cons, List.map_nil, List.getElem?_cons_zero, List.getElem?_cons_succ, Nat.reduceLT, Nat.reduceAdd, Nat.reduceMul, ne_eq, Nat.reduceEqDiff, not_false_eq_true, Bool.not_false, Bool.not_true]
        have hpt : pathT a o (Tr.split n be f l r) rc id = ⟨a, o, rc⟩ :: pathT n 2 l (partA be f rc) id := by simp only [pathT, ne_eq, hp, not_false_eq_true, if_true]
        rw [← hX, ext_append]
        simp only [hpt, pathV, pathM, List.cons_ne_nil, if_false, Tr.spot, Tr.opn]
        refine Fin.one 5 ?_ rfl ?_ ?_
        · simp only [rnV, kp, hb]
          simp only [List.length_cons, Nat.lt_irrefl, if_false, Nat.sub_self, List.getD_cons_zero]
          rw [hc3, Nat.add_comm 1]
        · rw [hb]
          exact plsOf_sc fun p hp => by
            rcases List.mem_cons.1 hp with rfl | hp
            · exact hab
            · rcases pathT_blks l _ _ _ _ p hp with h | h
              · omega
              · have := hll _ h; omega
        · rw [hb]; simp only [scb, blt_of (Nat.lt_succ_self b)]
    · replace h42 : E 42 = .int .i64 1 := h42
      simp (maxDischargeDepth := 6) only [h2, h7, h9, h10, h42, hX', Int.reduceLT, decide_true, ruW, go_int, Option.map_some, List.length_cons, List.length_nil, List.set_cons_zero, List.set_cons_succ, List.nil_append, List.cons_append, putL, List.drop_succ_cons, List.drop_zero, List.take_succ_cons, List.take_zero, Nat.reduceLeDiff, if_true, xFA, xFD, xIA, xHB, xU4, xSz, xZ, xSl, xBd, xBs, xTA, xMI, xCm, ruU, entryE, Option.bind_some, List.map_cons, List.map_nil, List.getElem?_cons_zero, List.getElem?_cons_succ, Nat.reduceLT, Nat.reduceAdd, Nat.reduceMul, ne_eq, Nat.reduceEqDiff, not_false_eq_true, Bool.not_false, Bool.not_true]
      refine w_drawB [(10, 9)] [] (by kernel_rfl) (by kernel_rfl) rfl fun ops anc hA hG => ?_
      simp only [all2_cons] at hA
      simp (maxDischargeDepth := 6) only [h2, h7, h9, h10, h42, hX', hnX, h2X, l2X, lnX, ruD, true_and, false_implies, true_implies, not_true_eq_false, implies_true, and_true, or_true, true_or, and_self, ruW, go_int, Option.map_some, List.length_cons, List.length_nil, List.set_cons_zero, List.set_cons_succ, List.nil_append, List.cons_append, putL, List.drop_succ_cons, List.drop_zero, List.take_succ_cons, List.take_zero, Nat.reduceLeDiff, if_true, xFA, xFD, xIA, xHB, xU4, xSz, xZ, xSl, xBd, xBs, xTA, xMI, xCm, ruU, entryE, Option.bind_some, List.map_cons, List.map_nil, List.getElem?_cons_zero, List.getElem?_cons_succ, Nat.reduceLT, Nat.reduceAdd, Nat.reduceMul, ne_eq, Nat.reduceEqDiff, not_false_eq_true, Bool.not_false, Bool.not_true, ruW, go_int, Option.map_some, List.length_cons, List.length_nil, List.set_cons_zero, List.set_cons_succ, List.nil_append, List.cons_append, putL, List.drop_succ_cons, List.drop_zero, List.take_succ_cons, List.take_zero, Nat.reduceLeDiff, if_true, xFA, xFD, xIA, xHB, xU4, xSz, xZ, xSl, xBd, xBs, xTA, xMI, xCm, ruU, entryE, Option.bind_some, List.map_cons, List.map_nil, List.getElem?_cons_zero, List.getElem?_cons_succ, Nat.reduceLT, Nat.reduceAdd, Nat.reduceMul, ne_eq, Nat.reduceEqDiff, not_false_eq_true, Bool.not_false, Bool.not_true]
      have gT : ∀ m ∈ n :: r.blks, X.get m ≠ none := by
        intro m hm
        rcases List.mem_cons.1 hm with rfl | hm
        · exact bk_ne hnX
        · exact hrX.ne m hm
      by_cases hp : pathT n 3 r (partB be f rc) id = []
      · refine genV_quiet (v := .slice none 0 0) (n :: r.blks) (by simp (maxDischargeDepth := 6) only [ruU, entryE, Option.bind_some, List.map_cons, List.map_nil, List.getElem?_cons_zero, List.getElem?_cons_succ, Nat.reduceLT, Nat.reduceAdd, Nat.reduceMul, ne_eq, Nat.reduceEqDiff, not_false_eq_true, Bool.not_false, Bool.not_true]) (by kernel_rfl) (by decide) gT (fun G _ hg => ?_) (by simp (maxDischargeDepth := 6) only [ruD, true_and, false_implies, true_implies, not_true_eq_false, implies_true, and_true, or_true, true_or, and_self, ruW, go_int, Option.map_some, List.length_cons, List.length_nil, List.set_cons_zero, List.set_cons_succ, List.nil_append, List.cons_append, putL, List.drop_succ_cons, List.drop_zero, List.take_succ_cons, List.take_zero, Nat.reduceLeDiff, if_true, xFA, xFD, xIA, xHB, xU4, xSz, xZ, xSl, xBd, xBs, xTA, xMI, xCm, ruU, entryE, Option.bind_some, List.map_cons, List.map_nil, List.getElem?_cons_zero, List.getElem?_cons_succ, Nat.reduceLT, Nat.reduceAdd, Nat.reduceMul, ne_eq, Nat.reduceEqDiff, not_false_eq_true, Bool.not_false, Bool.not_true, ruW, go_int, Option.map_some, List.length_cons, List.length_nil, List.set_cons_zero, List.set_cons_succ, List.nil_append, List.cons_append, putL, List.drop_succ_cons, List.drop_zero, List.take_succ_cons, List.take_zero, Nat.reduceLeDiff, if_true, xFA, xFD, xIA, xHB, xU4, xSz, xZ, xSl, xBd, xBs, xTA, xMI, xCm, ruU, entryE, Option.bind_some, List.map_cons, List.map_nil, List.getElem?_cons_zero, List.getElem?_cons_succ, Nat.reduceLT, Nat.reduceAdd, Nat.reduceMul, ne_eq, Nat.reduceEqDiff, not_false_eq_true, Bool.not_false, Bool.not_true]) ?_
        · simp only [ruU, entryE, Option.bind_some, List.map_cons, List.map_nil, List.getElem?_cons_zero, List.getElem?_cons_succ, Nat.reduceLT, Nat.reduceAdd, Nat.reduceMul, ne_eq, Nat.reduceEqDiff, not_false_eq_true, Bool.not_false, Bool.not_true]
          have := ihr n 3 (partB be f rc) G _ (hrX.of fun m hm => hg m (by simp [hm])) ((bk_get (hg n (by simp))).trans hnX) rfl
          simp only [hp, pathV, pathM, if_true] at this
          exact this
        simp (maxDischargeDepth := 6) only [h2, h7, h9, h10, h42, hA, ruD, true_and, false_implies, true_implies, not_true_eq_false, implies_true, and_true, or_true, true_or, and_self, ruW, go_int, Option.map_some, List.length_cons, List.length_nil, List.set_cons_zero, List.set_cons_succ, List.nil_append, List.cons_append, putL, List.drop_succ_cons, List.drop_zero, List.take_succ_cons, List.take_zero, Nat.reduceLeDiff, if_true, xFA, xFD, xIA, xHB, xU4, xSz, xZ, xSl, xBd, xBs, xTA, xMI, xCm, ruU, entryE, Option.bind_some, List.map_cons, List.map_nil, List.getElem?_cons_zero, List.getElem?_cons_succ, Nat.reduceLT, Nat.reduceAdd, Nat.reduceMul, ne_eq, Nat.reduceEqDiff, not_false_eq_true, Bool.not_false, Bool.not_true, ruW, go_int, Option.map_some, List.length_cons, List.length_nil, List.set_cons_zero, List.set_cons_succ, List.nil_append, List.cons_append, putL, List.drop_succ_cons, List.drop_zero, List.take_succ_cons, List.take_zero, Nat.reduceLeDiff, if_true, xFA, xFD, xIA, xHB, xU4, xSz, xZ, xSl, xBd, xBs, xTA, xMI, xCm, ruU, entryE, Option.bind_some, List.map_cons, List.map_nil, List.getElem?_cons_zero, List.getElem?_cons_succ, Nat.reduceLT, Nat.reduceAdd, Nat.reduceMul, ne_eq, Nat.reduceEqDiff, not_false_eq_true, Bool.not_false, Bool.not_true]
        rw [loopC_normal]
        exact ⟨_, rfl, 2, by decide, rfl, by simp only [ruU, entryE, Option.bind_some, List.map_cons, List.map_nil, List.getElem?_cons_zero, List.getElem?_cons_succ, Nat.reduceLT, Nat.reduceAdd, Nat.reduceMul, ne_eq, Nat.reduceEqDiff, not_false_eq_true, Bool.not_false, Bool.not_true]; rfl, by simp only [h9, ruU, entryE, Option.bind_some, List.map_cons, List.map_nil, List.getElem?_cons_zero, List.getElem?_cons_succ, Nat.reduceLT, Nat.reduceAdd, Nat.reduceMul, ne_eq, Nat.reduceEqDiff, not_false_eq_true, Bool.not_false, Bool.not_true], by simp only [h2, ruU, entryE, Option.bind_some, List.map_cons, List.map_nil, List.getElem?_cons_zero, List.getElem?_cons_succ, Nat.reduceLT, Nat.reduceAdd, Nat.reduceMul, ne_eq, Nat.reduceEqDiff, not_false_eq_true, Bool.not_false, Bool.not_true], by simp only [h7, ruU, entryE, Option.bind_some, List.map_cons, List.map_nil, List.getElem?_cons_zero, List.getElem?_cons_succ, Nat.reduceLT, Nat.reduceAdd, Nat.reduceMul, ne_eq, Nat.reduceEqDiff, not_false_eq_true, Bool.not_false, Bool.not_true], by simp only [h10, ruU, entryE, Option.bind_some, List.map_cons, List.map_nil, List.getElem?_cons_zero, List.getElem?_cons_succ, Nat.reduceLT, Nat.reduceAdd, Nat.reduceMul, ne_eq, Nat.reduceEqDiff, not_false_eq_true, Bool.not_false, Bool.not_true], by decide, fun _ => hp1 (by decide), fun _ => hp⟩
      · refine genV_ext (v := .slice (some ⟨X.next + 0, 0, r.spot⟩) (pathT n 3 r (partB be f rc) id).length (pathT n 3 r (partB be f rc) id).length) (M := [⟨85, r.opn, plsOf (pathT n 3 r (partB be f rc) id)⟩]) (n :: r.blks) (by simp (maxDischargeDepth := 6) only [ruU, entryE, Option.bind_some, List.map_cons, List.map_nil, List.getElem?_cons_zero, List.getElem?_cons_succ, Nat.reduceLT, Nat.reduceAdd, Nat.reduceMul, ne_eq, Nat.reduceEqDiff, not_false_eq_true, Bool.not_false, Bool.not_true]) (by kernel_rfl) (by decide) gT (fun G hGn hg => ?_) (by simp (maxDischargeDepth := 6) only [ruD, true_and, false_implies, true_implies, not_true_eq_false, implies_true, and_true, or_true, true_or, and_self, ruW, go_int, Option.map_some, List.length_cons, List.length_nil, List.set_cons_zero, List.set_cons_succ, List.nil_append, List.cons_append, putL, List.drop_succ_cons, List.drop_zero, List.take_succ_cons, List.take_zero, Nat.reduceLeDiff, if_true, xFA, xFD, xIA, xHB, xU4, xSz, xZ, xSl, xBd, xBs, xTA, xMI, xCm, ruU, entryE, Option.bind_some, List.map_cons, List.map_nil, List.getElem?_cons_zero, List.getElem?_cons_succ, Nat.reduceLT, Nat.reduceAdd, Nat.reduceMul, ne_eq, Nat.reduceEqDiff, not_false_eq_true, Bool.not_false, Bool.not_true, ruW, go_int, Option.map_some, List.length_cons, List.length_nil, List.set_cons_zero, List.set_cons_succ, List.nil_append, List.cons_append, putL, List.drop_succ_cons, List.drop_zero, List.take_succ_cons, List.take_zero, Nat.reduceLeDiff, if_true, xFA, xFD, xIA, xHB, xU4, xSz, xZ, xSl, xBd, xBs, xTA, xMI, xCm, ruU, entryE, Option.bind_some, List.map_cons, List.map_nil, List.getElem?_cons_zero, List.getElem?_cons_succ, Nat.reduceLT, Nat.reduceAdd, Nat.reduceMul, ne_eq, Nat.reduceEqDiff, not_false_eq_true, Bool.not_false, Bool.not_true]) ?_
        · simp only [ruU, entryE, Option.bind_some, List.map_cons, List.map_nil, List.getElem?_cons_zero, List.getElem?_cons_succ, Nat.reduceLT, Nat.reduceAdd, Nat.reduceMul, ne_eq, Nat.reduceEqDiff, not_false_eq_true, Bool.not_false, Bool.not_true]
          have := ihr n 3 (partB be f rc) G _ (hrX.of fun m hm => hg m (by simp [hm])) ((bk_get (hg n (by simp))).trans hnX) rfl
          simp only [hp, pathV, pathM, if_false] at this
          rw [hGn] at this
          exact this
        have hlen := pathT_len r n 3 (partB be f rc) id
        have hlp : 0 < (pathT n 3 r (partB be f rc) id).length := List.length_pos_iff.2 hp
        have happ := app_exact (P := Try.prog) (H := ext X [⟨85, r.opn, plsOf (pathT n 3 r (partB be f rc) id)⟩, ⟨85, false, (Pl.mk a o rc).cells⟩]) (st := 75) (xt := 75) (e := 85) (sz := 6) (by1 := 48) (z := .agg #[.pointer none, .int .i64 0, .int .i64 0, .int .i64 0, .int .i64 0, .int .i64 0]) (m := c + 1) (k := 1) (bm := ⟨85, false, (Pl.mk a o rc).cells⟩) (n := c + 0) (off := 0)
          (cnt := (pathT n 3 r (partB be f rc) id).length) (cap := (pathT n 3 r (partB be f rc) id).length) (s := r.spot) (b := ⟨85, r.opn, plsOf (pathT n 3 r (partB be f rc) id)⟩)
          (by kernel_rfl) (by kernel_rfl) (by kernel_rfl) (by kernel_rfl) rfl (by kernel_rfl) (by rw [bk_at hX' (by simp)]; rfl) (by simp [Pl.cells, Rc.cells]) rfl (by rw [bk_at hX' (by simp)]; rfl) (by simp only [plsOf_length]; omega) (plsOf_one _) hlp
          (by simp only [small, Bool.and_eq_true, Nat.ble_eq]; omega)
        simp only [List.drop_zero, List.take_of_length_le (Nat.le_of_eq (plsOf_length (pathT n 3 r (partB be f rc) id))), Pl.cells, Rc.cells, List.take_succ_cons, Nat.reduceMul, List.take_zero] at happ
        have hsc2 : scbL c (plsOf (pathT n 3 r (partB be f rc) id)) = true := plsOf_sc fun p hp => by
          rcases pathT_blks r _ _ _ _ p hp with h | h
          · omega
          · have := hlr _ h; omega
        simp (maxDischargeDepth := 6) only [h2, h7, h9, h10, h42, hX', h1X, l1X, laX, hA, happ, hsc2, List.cons_append, List.nil_append, Try.results69, ruD, true_and, false_implies, true_implies, not_true_eq_false, implies_true, and_true, or_true, true_or, and_self, ruW, go_int, Option.map_some, List.length_cons, List.length_nil, List.set_cons_zero, List.set_cons_succ, List.nil_append, List.cons_append, putL, List.drop_succ_cons, List.drop_zero, List.take_succ_cons, List.take_zero, Nat.reduceLeDiff, if_true, xFA, xFD, xIA, xHB, xU4, xSz, xZ, xSl, xBd, xBs, xTA, xMI, xCm, ruU, entryE, Option.bind_some, List.map_cons, List.map_nil, List.getElem?_cons_zero, List.getElem?_cons_succ, Nat.reduceLT, Nat.reduceAdd, Nat.reduceMul, ne_eq, Nat.reduceEqDiff, not_false_eq_true, Bool.not_false, Bool.not_true, ruW, go_int, Option.map_some, List.length_cons, List.length_nil, List.set_cons_zero, List.set_cons_succ, List.nil_append, List.cons_append, putL, List.drop_succ_cons, List.drop_zero, List.take_succ_cons, List.take_zero, Nat.reduceLeDiff, if_true, xFA, xFD, xIA, xHB, xU4, xSz, xZ, xSl, xBd, xBs, xTA, xMI, xCm, ruU, entryE, Option.bind_some, List.map_cons, List.map_nil, List.getElem?_cons_zero, List.getElem?_cons_succ, Nat.reduceLT, Nat.reduceAdd, Nat.reduceMul, ne_eq, Nat.reduceEqDiff, not_false_eq_true, Bool.not_false, Bool.not_true]
        have hpt : pathT a o (Tr.split n be f l r) rc id = ⟨a, o, rc⟩ :: pathT n 3 r (partB be f rc) id := by simp only [pathT, hp1 (by decide), ne_eq, hp, not_false_eq_true, if_true, not_true_eq_false, if_false]
        rw [← hX, ext_append]
        simp only [hpt, pathV, pathM, List.cons_ne_nil, if_false, Tr.spot, Tr.opn]
        refine Fin.one 5 ?_ rfl ?_ ?_
        · simp only [rnV, kp, hb]
          simp only [List.length_cons, Nat.lt_irrefl, if_false, Nat.sub_self, List.getD_cons_zero]
          rw [hc3, Nat.add_comm 1]
        · rw [hb]
          exact plsOf_sc fun p hp => by
            rcases List.mem_cons.1 hp with rfl | hp
            · exact hab
            · rcases pathT_blks r _ _ _ _ p hp with h | h
              · omega
              · have := hlr _ h; omega
        · rw [hb]; simp only [scb, blt_of (Nat.lt_succ_self b)]
    · replace h42 : E 42 = .int .i64 2 := h42
      simp (maxDischargeDepth := 6) only [h42, Int.reduceLT, decide_false, Try.results69, ruW, go_int, Option.map_some, List.length_cons, List.length_nil, List.set_cons_zero, List.set_cons_succ, List.nil_append, List.cons_append, putL, List.drop_succ_cons, List.drop_zero, List.take_succ_cons, List.take_zero, Nat.reduceLeDiff, if_true, xFA, xFD, xIA, xHB, xU4, xSz, xZ, xSl, xBd, xBs, xTA, xMI, xCm, ruU, entryE, Option.bind_some, List.map_cons, List.map_nil, List.getElem?_cons_zero, List.getElem?_cons_succ, Nat.reduceLT, Nat.reduceAdd, Nat.reduceMul, ne_eq, Nat.reduceEqDiff, not_false_eq_true, Bool.not_false, Bool.not_true]
      have hpt : pathT a o (Tr.split n be f l r) rc id = [] := by simp only [pathT, hp1 (by decide), hp2 (by decide), ne_eq, not_true_eq_false, if_false]
      simp only [hpt, pathV, pathM, if_true]
      rw [← hX]
      exact Fin.pure rfl

end Go.Proofs.Ytiedpcmdimgboaa

/- Ways through trees: the way to a window, the part of a tree at its end, a tree with another part. -/
namespace Go.Proofs.Ytiedpcmdimgboaa
open Go.Ax
set_option linter.unusedSimpArgs false

/-- the way to a window: left is false -/
def findD (id : Int) : Tr → Option (List Bool)
  | .leaf _ i => if i = id then some [] else none
  | .split _ _ _ l r => (match findD id l with
    | some d => some (false :: d)
    | none => (match findD id r with
      | some d => some (true :: d)
      | none => none))

def subAt : Tr → List Bool → Option Tr
  | t, [] => some t
  | .split _ _ _ l _, false :: d => subAt l d
  | .split _ _ _ _ r, true :: d => subAt r d
  | .leaf _ _, _ :: _ => none

theorem subAt_leaf {b : Nat} {i : Int} {x : Bool} {d : List Bool} : subAt (.leaf b i) (x :: d) = none := by cases x <;> rfl

def rectAt : Tr → Rc → List Bool → Rc
  | _, rc, [] => rc
  | .split _ be f l _, rc, false :: d => rectAt l (partA be f rc) d
  | .split _ be f _ r, rc, true :: d => rectAt r (partB be f rc) d
  | .leaf _ _, rc, _ :: _ => rc

/-- the cell that holds the node at the end of a way -/
def cellAt (a o : Nat) : Tr → List Bool → Nat × Nat
  | _, [] => (a, o)
  | .split b _ _ l _, false :: d => cellAt b 2 l d
  | .split b _ _ _ r, true :: d => cellAt b 3 r d
  | .leaf _ _, _ :: _ => (a, o)

def setAt : Tr → List Bool → Tr → Tr
  | _, [], n => n
  | .split b be f l r, false :: d, n => .split b be f (setAt l d n) r
  | .split b be f l r, true :: d, n => .split b be f l (setAt r d n)
  | .leaf b i, _ :: _, _ => .leaf b i

/-- the places on a way -/
def places (a o : Nat) : Tr → Rc → List Bool → List Pl
  | _, rc, [] => [⟨a, o, rc⟩]
  | .split b be f l _, rc, false :: d => ⟨a, o, rc⟩ :: places b 2 l (partA be f rc) d
  | .split b be f _ r, rc, true :: d => ⟨a, o, rc⟩ :: places b 3 r (partB be f rc) d
  | .leaf _ _, rc, _ :: _ => [⟨a, o, rc⟩]

theorem places_ne (a o : Nat) (t : Tr) (rc : Rc) (d : List Bool) : places a o t rc d ≠ [] := by
  cases d with
  | nil => cases t <;> simp [places]
  | cons x d => cases t <;> cases x <;> simp [places]

theorem pathT_eq (id : Int) : ∀ (t : Tr) (a o : Nat) (rc : Rc), pathT a o t rc id = (match findD id t with
    | some d => places a o t rc d
    | none => [])
  | .leaf b i, a, o, rc => by
    simp only [pathT, findD]
    split <;> rfl
  | .split b be f l r, a, o, rc => by
    have hl := pathT_eq id l b 2 (partA be f rc)
    have hr := pathT_eq id r b 3 (partB be f rc)
    simp only [pathT, findD]
    rw [hl, hr]
    cases h1 : findD id l with
    | some d =>
      simp only [h1] at hl ⊢
      rw [if_pos (places_ne _ _ _ _ _)]
      rfl
    | none =>
      simp only [ne_eq, not_true_eq_false, if_false]
      cases h2 : findD id r with
      | some d =>
        simp only
        rw [if_pos (places_ne _ _ _ _ _)]
        rfl
      | none => simp

theorem findD_sub (id : Int) : ∀ (t : Tr) (d : List Bool), findD id t = some d → ∃ b, subAt t d = some (.leaf b id)
  | .leaf b i, d, h => by
    simp only [findD] at h
    split at h
    · rename_i hi
      simp only [Option.some.injEq] at h
      subst h hi
      exact ⟨b, rfl⟩
    · cases h
  | .split b be f l r, d, h => by
    simp only [findD] at h
    cases h1 : findD id l with
    | some d1 =>
      rw [h1] at h
      simp only [Option.some.injEq] at h
      subst h
      exact findD_sub id l d1 h1
    | none =>
      rw [h1] at h
      cases h2 : findD id r with
      | some d2 =>
        rw [h2] at h
        simp only [Option.some.injEq] at h
        subst h
        exact findD_sub id r d2 h2
      | none => rw [h2] at h; cases h

theorem places_length : ∀ (t : Tr) (d : List Bool) (a o : Nat) (rc : Rc), subAt t d ≠ none → (places a o t rc d).length = d.length + 1
  | t, [], a, o, rc, _ => by cases t <;> rfl
  | .split b be f l r, false :: d, a, o, rc, h => by
    simp only [places, List.length_cons]
    rw [places_length l d b 2 _ h]
  | .split b be f l r, true :: d, a, o, rc, h => by
    simp only [places, List.length_cons]
    rw [places_length r d b 3 _ h]
  | .leaf _ _, _ :: _, _, _, _, h => absurd subAt_leaf h

/-- the k-th place -/
theorem places_get : ∀ (t : Tr) (d e : List Bool) (a o : Nat) (rc : Rc), subAt t (d ++ e) ≠ none → (places a o t rc (d ++ e))[d.length]? = some ⟨(cellAt a o t d).1, (cellAt a o t d).2, rectAt t rc d⟩
  | t, [], e, a, o, rc, _ => by
    cases e with
    | nil => cases t <;> rfl
    | cons x e => cases t <;> cases x <;> rfl
  | .split b be f l r, false :: d, e, a, o, rc, h => by
    simp only [places, List.cons_append, List.length_cons, List.getElem?_cons_succ, cellAt, rectAt]
    exact places_get l d e b 2 _ h
  | .split b be f l r, true :: d, e, a, o, rc, h => by
    simp only [places, List.cons_append, List.length_cons, List.getElem?_cons_succ, cellAt, rectAt]
    exact places_get r d e b 3 _ h
  | .leaf _ _, _ :: _, _, _, _, _, h => absurd subAt_leaf h

theorem subAt_append : ∀ (t : Tr) (d e : List Bool), subAt t (d ++ e) = (subAt t d).bind fun s => subAt s e
  | t, [], e => by cases t <;> rfl
  | .split b be f l r, false :: d, e => subAt_append l d e
  | .split b be f l r, true :: d, e => subAt_append r d e
  | .leaf _ _, _ :: _, _ => by rw [List.cons_append, subAt_leaf, subAt_leaf]; rfl

theorem sub_blks : ∀ (t : Tr) (d : List Bool) (s : Tr), subAt t d = some s → ∀ n ∈ s.blks, n ∈ t.blks
  | t, [], s, h, n, hn => by cases t <;> (simp only [subAt, Option.some.injEq] at h; subst h; exact hn)
  | .split b be f l r, false :: d, s, h, n, hn => by
    have := sub_blks l d s h n hn
    simp [Tr.blks, this]
  | .split b be f l r, true :: d, s, h, n, hn => by
    have := sub_blks r d s h n hn
    simp [Tr.blks, this]
  | .leaf _ _, _ :: _, _, h, _, _ => by rw [subAt_leaf] at h; cases h

theorem sub_nodup : ∀ (t : Tr) (d : List Bool) (s : Tr), subAt t d = some s → t.blks.Nodup → s.blks.Nodup
  | t, [], s, h, hn => by cases t <;> (simp only [subAt, Option.some.injEq] at h; subst h; exact hn)
  | .split b be f l r, false :: d, s, h, hn => by
    simp only [Tr.blks, List.nodup_cons, List.nodup_append] at hn
    exact sub_nodup l d s h hn.2.1
  | .split b be f l r, true :: d, s, h, hn => by
    simp only [Tr.blks, List.nodup_cons, List.nodup_append] at hn
    exact sub_nodup r d s h hn.2.2.1
  | .leaf _ _, _ :: _, _, h, _ => by rw [subAt_leaf] at h; cases h

theorem sub_tree {H : AHeap} : ∀ (t : Tr) (d : List Bool) (s : Tr), subAt t d = some s → TreeAt H t → TreeAt H s
  | t, [], s, h, ht => by cases t <;> (simp only [subAt, Option.some.injEq] at h; subst h; exact ht)
  | .split b be f l r, false :: d, s, h, ht => sub_tree l d s h ht.2.1
  | .split b be f l r, true :: d, s, h, ht => sub_tree r d s h ht.2.2
  | .leaf _ _, _ :: _, _, h, _ => by rw [subAt_leaf] at h; cases h

/-- the cell of a part that is not the whole lies in the tree, and holds the part -/
theorem cell_mem : ∀ (t : Tr) (d : List Bool) (s : Tr) (a o : Nat), d ≠ [] → subAt t d = some s → (cellAt a o t d).1 ∈ t.blks
  | t, [], s, a, o, h, _ => absurd rfl h
  | .split b be f l r, false :: d, s, a, o, _, h => by
    cases d with
    | nil => cases l <;> simp [cellAt, Tr.blks]
    | cons x d =>
      have := cell_mem l (x :: d) s b 2 (by simp) h
      simp [cellAt, Tr.blks, this]
  | .split b be f l r, true :: d, s, a, o, _, h => by
    cases d with
    | nil => cases r <;> simp [cellAt, Tr.blks]
    | cons x d =>
      have := cell_mem r (x :: d) s b 3 (by simp) h
      simp [cellAt, Tr.blks, this]
  | .leaf _ _, _ :: _, _, _, _, _, h => by rw [subAt_leaf] at h; cases h

/-- ... and holds no block of the part -/
theorem cell_not : ∀ (t : Tr) (d : List Bool) (s : Tr) (a o : Nat), d ≠ [] → subAt t d = some s → t.blks.Nodup → (cellAt a o t d).1 ∉ s.blks
  | t, [], s, a, o, h, _, _ => absurd rfl h
  | .split b be f l r, false :: d, s, a, o, _, h, hn => by
    simp only [Tr.blks, List.nodup_cons, List.nodup_append, List.mem_append, not_or] at hn
    cases d with
    | nil =>
      simp only [subAt] at h
      have : s = l := by cases l <;> (simp only [subAt, Option.some.injEq] at h; exact h.symm)
      subst this
      cases s <;> (simp only [cellAt]; exact hn.1.1)
    | cons x d => exact cell_not l (x :: d) s b 2 (by simp) h hn.2.1
  | .split b be f l r, true :: d, s, a, o, _, h, hn => by
    simp only [Tr.blks, List.nodup_cons, List.nodup_append, List.mem_append, not_or] at hn
    cases d with
    | nil =>
      simp only [subAt] at h
      have : s = r := by cases r <;> (simp only [subAt, Option.some.injEq] at h; exact h.symm)
      subst this
      cases s <;> (simp only [cellAt]; exact hn.1.2)
    | cons x d => exact cell_not r (x :: d) s b 3 (by simp) h hn.2.2.1
  | .leaf _ _, _ :: _, _, _, _, _, h, _ => by rw [subAt_leaf] at h; cases h

/-- a cell holds a node -/
def CellIs (H : AHeap) (a o : Nat) (t : Tr) : Prop := ∃ ba, bk H a = some ba ∧ ba.l[o]? = some t.val

theorem cell_holds {H : AHeap} : ∀ (t : Tr) (d : List Bool) (s : Tr) (a o : Nat), subAt t d = some s → TreeAt H t → CellIs H a o t → CellIs H (cellAt a o t d).1 (cellAt a o t d).2 s
  | t, [], s, a, o, h, ht, hc => by cases t <;> (simp only [subAt, Option.some.injEq] at h; subst h; exact hc)
  | .split b be f l r, false :: d, s, a, o, h, ht, _ => cell_holds l d s b 2 h ht.2.1 ⟨_, ht.1, rfl⟩
  | .split b be f l r, true :: d, s, a, o, h, ht, _ => cell_holds r d s b 3 h ht.2.2 ⟨_, ht.1, rfl⟩
  | .leaf _ _, _ :: _, _, _, _, h, _, _ => by rw [subAt_leaf] at h; cases h

theorem setAt_val {t : Tr} {d : List Bool} {n : Tr} (h : d ≠ []) : (setAt t d n).val = t.val := by
  cases d with
  | nil => exact absurd rfl h
  | cons x d => cases t <;> cases x <;> rfl

/-- a tree with another part, in a heap where only that part and its cell are others -/
theorem setAt_tree {H H1 : AHeap} {n : Tr} : ∀ (t : Tr) (d : List Bool) (s : Tr) (a o : Nat), subAt t d = some s → t.blks.Nodup → TreeAt H t → TreeAt H1 n →
    (∀ m ∈ t.blks, m ∉ s.blks → m ≠ (cellAt a o t d).1 → H1.get m = H.get m) → (d ≠ [] → ∃ ba, bk H (cellAt a o t d).1 = some ba ∧ bk H1 (cellAt a o t d).1 = some (putB (cellAt a o t d).2 [n.val] ba)) → TreeAt H1 (setAt t d n)
  | t, [], s, a, o, h, hn, ht, h1, hg, hc => by cases t <;> exact h1
  | .split b be f l r, false :: d, s, a, o, h, hn, ht, h1, hg, hc => by
    have hn' := hn
    simp only [Tr.blks, List.nodup_cons, List.nodup_append, List.mem_append, not_or] at hn
    obtain ⟨⟨hbl, hbr⟩, hnl, hnr, hlr⟩ := hn
    have hsl := sub_blks l d s h
    have hr1 : TreeAt H1 r := ht.2.2.of fun m hm => by
      refine hg m (by simp [Tr.blks, hm]) (fun hs => hlr m (hsl m hs) m hm rfl) (fun e => ?_)
      cases d with
      | nil =>
        have e2 : (cellAt a o (.split b be f l r) [false]).1 = b := by cases l <;> rfl
        rw [e2] at e
        exact hbr (e ▸ hm)
      | cons x d =>
        have := cell_mem l (x :: d) s b 2 (by simp) h
        exact hlr _ this m hm e.symm
    cases d with
    | nil =>
      have e2 : cellAt a o (.split b be f l r) [false] = (b, 2) := by cases l <;> rfl
      obtain ⟨ba, hb1, hb2⟩ := hc (by simp)
      rw [e2] at hb1 hb2
      rw [ht.1] at hb1
      cases hb1
      have e3 : setAt (.split b be f l r) [false] n = .split b be f n r := by cases l <;> rfl
      rw [e3]
      exact ⟨hb2, h1, hr1⟩
    | cons x d =>
      have hcm := cell_mem l (x :: d) s b 2 (by simp) h
      refine ⟨?_, setAt_tree l (x :: d) s b 2 h hnl ht.2.1 h1 (fun m hm hs hne => hg m (by simp [Tr.blks, hm]) hs hne) (fun _ => hc (by simp)), hr1⟩
      rw [setAt_val (by simp), ← ht.1]
      refine bk_get (hg b (by simp [Tr.blks]) (fun hs => hbl (hsl b hs)) (fun e => hbl ?_))
      have : b = (cellAt b 2 l (x :: d)).1 := e
      rw [this]; exact hcm
  | .split b be f l r, true :: d, s, a, o, h, hn, ht, h1, hg, hc => by
    have hn' := hn
    simp only [Tr.blks, List.nodup_cons, List.nodup_append, List.mem_append, not_or] at hn
    obtain ⟨⟨hbl, hbr⟩, hnl, hnr, hlr⟩ := hn
    have hsr := sub_blks r d s h
    have hl1 : TreeAt H1 l := ht.2.1.of fun m hm => by
      refine hg m (by simp [Tr.blks, hm]) (fun hs => hlr m hm m (hsr m hs) rfl) (fun e => ?_)
      cases d with
      | nil =>
        have e2 : (cellAt a o (.split b be f l r) [true]).1 = b := by cases r <;> rfl
        rw [e2] at e
        exact hbl (e ▸ hm)
      | cons x d =>
        have := cell_mem r (x :: d) s b 3 (by simp) h
        exact hlr m hm _ this e
    cases d with
    | nil =>
      have e2 : cellAt a o (.split b be f l r) [true] = (b, 3) := by cases r <;> rfl
      obtain ⟨ba, hb1, hb2⟩ := hc (by simp)
      rw [e2] at hb1 hb2
      rw [ht.1] at hb1
      cases hb1
      have e3 : setAt (.split b be f l r) [true] n = .split b be f l n := by cases r <;> rfl
      rw [e3]
      exact ⟨hb2, hl1, h1⟩
    | cons x d =>
      have hcm := cell_mem r (x :: d) s b 3 (by simp) h
      refine ⟨?_, hl1, setAt_tree r (x :: d) s b 3 h hnr ht.2.2 h1 (fun m hm hs hne => hg m (by simp [Tr.blks, hm]) hs hne) (fun _ => hc (by simp))⟩
      rw [setAt_val (by simp), ← ht.1]
      refine bk_get (hg b (by simp [Tr.blks]) (fun hs => hbr (hsr b hs)) (fun e => hbr ?_))
      have : b = (cellAt b 3 r (x :: d)).1 := e
      rw [this]; exact hcm
  | .leaf _ _, _ :: _, _, _, _, h, _, _, _, _, _ => by rw [subAt_leaf] at h; cases h

end Go.Proofs.Ytiedpcmdimgboaa

/- What the methods of Tree come to: find, Selected, Size, Select, Only, Balance, SetSize. -/
namespace Go.Proofs.Ytiedpcmdimgboaa
open Go.Ax
set_option linter.unusedSimpArgs false
set_option maxRecDepth 10000

/-- a frame in a heap, its blocks apart -/
structure Good (H : AHeap) (T : Nat) (x : Wn) : Prop where
  wn : WnAt H T x
  lt : T < H.next
  lts : ∀ n ∈ x.root.blks, n < H.next
  nd : x.root.blks.Nodup
  nT : T ∉ x.root.blks
  ok : H.base ≤ H.next
  sz : x.root.size < 10000

/-- a frame that became another -/
structure Step (H : AHeap) (T : Nat) (x : Wn) (H1 : AHeap) (x' : Wn) : Prop where
  good : Good H1 T x'
  mod : Mod (T :: x.root.blks) H H1
  new : ∀ n ∈ x'.root.blks, n ∈ x.root.blks ∨ H.next ≤ n

def Wn.path (x : Wn) (T : Nat) (id : Int) : List Pl := pathT T 0 x.root x.frame id

theorem find_c (T : Nat) (x : Wn) (id : Int) (H : AHeap) (hx : WnAt H T x) (hsz : x.root.size < 10000) :
    CallS Try.prog 41 [.pointer (some ⟨T, 0, none⟩), .int .i64 id] H (.ok (.tuple #[pathV H.next x.root (x.path T id), .int .i64 (if x.path T id = [] then 8 else 0)])) (ext H (pathM x.root (x.path T id))) := by
  obtain ⟨b, hb⟩ : ∃ b, H.next = b := ⟨_, rfl⟩
  have h1 := hx.1
  simp only [Wn.cells] at h1
  refine callS_fn mixed Try.func41 rfl Try.ntmps41 (Nat.le_of_ble_eq_true rfl) fun wf hsc => ?_
  have hT : T < b := hb ▸ wf.lt h1
  simp (maxDischargeDepth := 6) only [ruW, go_int, Option.map_some, List.length_cons, List.length_nil, List.set_cons_zero, List.set_cons_succ, List.nil_append, List.cons_append, putL, List.drop_succ_cons, List.drop_zero, List.take_succ_cons, List.take_zero, Nat.reduceLeDiff, if_true, xFA, xFD, xIA, xHB, xU4, xSz, xZ, xSl, xBd, xBs, xTA, xMI, xCm, ruU, entryE, Option.bind_some, List.map_cons, List.map_nil, List.getElem?_cons_zero, List.getElem?_cons_succ, Nat.reduceLT, Nat.reduceAdd, Nat.reduceMul, ne_eq, Nat.reduceEqDiff, not_false_eq_true, Bool.not_false, Bool.not_true]
  refine (made_c T x (ext H []) hx).to ?_
  simp (maxDischargeDepth := 6) only [ruW, go_int, Option.map_some, List.length_cons, List.length_nil, List.set_cons_zero, List.set_cons_succ, List.nil_append, List.cons_append, putL, List.drop_succ_cons, List.drop_zero, List.take_succ_cons, List.take_zero, Nat.reduceLeDiff, if_true, xFA, xFD, xIA, xHB, xU4, xSz, xZ, xSl, xBd, xBs, xTA, xMI, xCm, ruU, entryE, Option.bind_some, List.map_cons, List.map_nil, List.getElem?_cons_zero, List.getElem?_cons_succ, Nat.reduceLT, Nat.reduceAdd, Nat.reduceMul, ne_eq, Nat.reduceEqDiff, not_false_eq_true, Bool.not_false, Bool.not_true]
  refine w_drawB [(6, 4), (7, 6)] [] (by kernel_rfl) (by kernel_rfl) rfl fun ops anc hA hG => ?_
  simp only [all2_cons] at hA
  simp (maxDischargeDepth := 6) only [hb, hT, h1, hA, ruD, true_and, false_implies, true_implies, not_true_eq_false, implies_true, and_true, or_true, true_or, and_self, ruW, go_int, Option.map_some, List.length_cons, List.length_nil, List.set_cons_zero, List.set_cons_succ, List.nil_append, List.cons_append, putL, List.drop_succ_cons, List.drop_zero, List.take_succ_cons, List.take_zero, Nat.reduceLeDiff, if_true, xFA, xFD, xIA, xHB, xU4, xSz, xZ, xSl, xBd, xBs, xTA, xMI, xCm, ruU, entryE, Option.bind_some, List.map_cons, List.map_nil, List.getElem?_cons_zero, List.getElem?_cons_succ, Nat.reduceLT, Nat.reduceAdd, Nat.reduceMul, ne_eq, Nat.reduceEqDiff, not_false_eq_true, Bool.not_false, Bool.not_true, ruW, go_int, Option.map_some, List.length_cons, List.length_nil, List.set_cons_zero, List.set_cons_succ, List.nil_append, List.cons_append, putL, List.drop_succ_cons, List.drop_zero, List.take_succ_cons, List.take_zero, Nat.reduceLeDiff, if_true, xFA, xFD, xIA, xHB, xU4, xSz, xZ, xSl, xBd, xBs, xTA, xMI, xCm, ruU, entryE, Option.bind_some, List.map_cons, List.map_nil, List.getElem?_cons_zero, List.getElem?_cons_succ, Nat.reduceLT, Nat.reduceAdd, Nat.reduceMul, ne_eq, Nat.reduceEqDiff, not_false_eq_true, Bool.not_false, Bool.not_true]
  refine genV_quiet (v := x.frame.val) [T] (by simp (maxDischargeDepth := 6) only [ruU, entryE, Option.bind_some, List.map_cons, List.map_nil, List.getElem?_cons_zero, List.getElem?_cons_succ, Nat.reduceLT, Nat.reduceAdd, Nat.reduceMul, ne_eq, Nat.reduceEqDiff, not_false_eq_true, Bool.not_false, Bool.not_true]) (by kernel_rfl) (by decide) (fun m hm => by simp (maxDischargeDepth := 6) only [List.mem_singleton] at hm; subst hm; exact bk_ne (H := H) h1) (fun K _ hg => ?_) (by simp (maxDischargeDepth := 6) only [ruD, true_and, false_implies, true_implies, not_true_eq_false, implies_true, and_true, or_true, true_or, and_self, ruW, go_int, Option.map_some, List.length_cons, List.length_nil, List.set_cons_zero, List.set_cons_succ, List.nil_append, List.cons_append, putL, List.drop_succ_cons, List.drop_zero, List.take_succ_cons, List.take_zero, Nat.reduceLeDiff, if_true, xFA, xFD, xIA, xHB, xU4, xSz, xZ, xSl, xBd, xBs, xTA, xMI, xCm, ruU, entryE, Option.bind_some, List.map_cons, List.map_nil, List.getElem?_cons_zero, List.getElem?_cons_succ, Nat.reduceLT, Nat.reduceAdd, Nat.reduceMul, ne_eq, Nat.reduceEqDiff, not_false_eq_true, Bool.not_false, Bool.not_true, ruW, go_int, Option.map_some, List.length_cons, List.length_nil, List.set_cons_zero, List.set_cons_succ, List.nil_append, List.cons_append, putL, List.drop_succ_cons, List.drop_zero, List.take_succ_cons, List.take_zero, Nat.reduceLeDiff, if_true, xFA, xFD, xIA, xHB, xU4, xSz, xZ, xSl, xBd, xBs, xTA, xMI, xCm, ruU, entryE, Option.bind_some, List.map_cons, List.map_nil, List.getElem?_cons_zero, List.getElem?_cons_succ, Nat.reduceLT, Nat.reduceAdd, Nat.reduceMul, ne_eq, Nat.reduceEqDiff, not_false_eq_true, Bool.not_false, Bool.not_true]) ?_
  · simp only [ruU, entryE, Option.bind_some, List.map_cons, List.map_nil, List.getElem?_cons_zero, List.getElem?_cons_succ, Nat.reduceLT, Nat.reduceAdd, Nat.reduceMul, ne_eq, Nat.reduceEqDiff, not_false_eq_true, Bool.not_false, Bool.not_true]
    exact frame_c T x K ((bk_get (hg T (by simp))).trans hx.1)
  simp (maxDischargeDepth := 6) only [hb, hA, ruD, true_and, false_implies, true_implies, not_true_eq_false, implies_true, and_true, or_true, true_or, and_self, ruW, go_int, Option.map_some, List.length_cons, List.length_nil, List.set_cons_zero, List.set_cons_succ, List.nil_append, List.cons_append, putL, List.drop_succ_cons, List.drop_zero, List.take_succ_cons, List.take_zero, Nat.reduceLeDiff, if_true, xFA, xFD, xIA, xHB, xU4, xSz, xZ, xSl, xBd, xBs, xTA, xMI, xCm, ruU, entryE, Option.bind_some, List.map_cons, List.map_nil, List.getElem?_cons_zero, List.getElem?_cons_succ, Nat.reduceLT, Nat.reduceAdd, Nat.reduceMul, ne_eq, Nat.reduceEqDiff, not_false_eq_true, Bool.not_false, Bool.not_true, ruW, go_int, Option.map_some, List.length_cons, List.length_nil, List.set_cons_zero, List.set_cons_succ, List.nil_append, List.cons_append, putL, List.drop_succ_cons, List.drop_zero, List.take_succ_cons, List.take_zero, Nat.reduceLeDiff, if_true, xFA, xFD, xIA, xHB, xU4, xSz, xZ, xSl, xBd, xBs, xTA, xMI, xCm, ruU, entryE, Option.bind_some, List.map_cons, List.map_nil, List.getElem?_cons_zero, List.getElem?_cons_succ, Nat.reduceLT, Nat.reduceAdd, Nat.reduceMul, ne_eq, Nat.reduceEqDiff, not_false_eq_true, Bool.not_false, Bool.not_true]
  have gT : ∀ m ∈ T :: x.root.blks, H.get m ≠ none := by
    intro m hm
    rcases List.mem_cons.1 hm with rfl | hm
    · exact bk_ne h1
    · exact hx.2.ne m hm
  refine genV_ext (v := pathV b x.root (x.path T id)) (M := pathM x.root (x.path T id)) (T :: x.root.blks) (by simp (maxDischargeDepth := 6) only [ruU, entryE, Option.bind_some, List.map_cons, List.map_nil, List.getElem?_cons_zero, List.getElem?_cons_succ, Nat.reduceLT, Nat.reduceAdd, Nat.reduceMul, ne_eq, Nat.reduceEqDiff, not_false_eq_true, Bool.not_false, Bool.not_true]) (by kernel_rfl) (by decide) gT (fun G hGn hg => ?_) (by simp (maxDischargeDepth := 6) only [hA, ruD, true_and, false_implies, true_implies, not_true_eq_false, implies_true, and_true, or_true, true_or, and_self, ruW, go_int, Option.map_some, List.length_cons, List.length_nil, List.set_cons_zero, List.set_cons_succ, List.nil_append, List.cons_append, putL, List.drop_succ_cons, List.drop_zero, List.take_succ_cons, List.take_zero, Nat.reduceLeDiff, if_true, xFA, xFD, xIA, xHB, xU4, xSz, xZ, xSl, xBd, xBs, xTA, xMI, xCm, ruU, entryE, Option.bind_some, List.map_cons, List.map_nil, List.getElem?_cons_zero, List.getElem?_cons_succ, Nat.reduceLT, Nat.reduceAdd, Nat.reduceMul, ne_eq, Nat.reduceEqDiff, not_false_eq_true, Bool.not_false, Bool.not_true, ruW, go_int, Option.map_some, List.length_cons, List.length_nil, List.set_cons_zero, List.set_cons_succ, List.nil_append, List.cons_append, putL, List.drop_succ_cons, List.drop_zero, List.take_succ_cons, List.take_zero, Nat.reduceLeDiff, if_true, xFA, xFD, xIA, xHB, xU4, xSz, xZ, xSl, xBd, xBs, xTA, xMI, xCm, ruU, entryE, Option.bind_some, List.map_cons, List.map_nil, List.getElem?_cons_zero, List.getElem?_cons_succ, Nat.reduceLT, Nat.reduceAdd, Nat.reduceMul, ne_eq, Nat.reduceEqDiff, not_false_eq_true, Bool.not_false, Bool.not_true]) ?_
  · simp only [ruU, entryE, Option.bind_some, List.map_cons, List.map_nil, List.getElem?_cons_zero, List.getElem?_cons_succ, Nat.reduceLT, Nat.reduceAdd, Nat.reduceMul, ne_eq, Nat.reduceEqDiff, not_false_eq_true, Bool.not_false, Bool.not_true]
    have := path_c id x.root T 0 x.frame G _ hsz (hx.2.of fun m hm => hg m (by simp [hm])) ((bk_get (hg T (by simp))).trans hx.1) rfl
    rw [hGn, ext_nil, hb] at this
    exact this
  by_cases hp : x.path T id = []
  · simp only [hp, pathV, pathM, if_true]
    simp (maxDischargeDepth := 6) only [hb, hA, Try.results41, ruD, true_and, false_implies, true_implies, not_true_eq_false, implies_true, and_true, or_true, true_or, and_self, ruW, go_int, Option.map_some, List.length_cons, List.length_nil, List.set_cons_zero, List.set_cons_succ, List.nil_append, List.cons_append, putL, List.drop_succ_cons, List.drop_zero, List.take_succ_cons, List.take_zero, Nat.reduceLeDiff, if_true, xFA, xFD, xIA, xHB, xU4, xSz, xZ, xSl, xBd, xBs, xTA, xMI, xCm, ruU, entryE, Option.bind_some, List.map_cons, List.map_nil, List.getElem?_cons_zero, List.getElem?_cons_succ, Nat.reduceLT, Nat.reduceAdd, Nat.reduceMul, ne_eq, Nat.reduceEqDiff, not_false_eq_true, Bool.not_false, Bool.not_true, ruW, go_int, Option.map_some, List.length_cons, List.length_nil, List.set_cons_zero, List.set_cons_succ, List.nil_append, List.cons_append, putL, List.drop_succ_cons, List.drop_zero, List.take_succ_cons, List.take_zero, Nat.reduceLeDiff, if_true, xFA, xFD, xIA, xHB, xU4, xSz, xZ, xSl, xBd, xBs, xTA, xMI, xCm, ruU, entryE, Option.bind_some, List.map_cons, List.map_nil, List.getElem?_cons_zero, List.getElem?_cons_succ, Nat.reduceLT, Nat.reduceAdd, Nat.reduceMul, ne_eq, Nat.reduceEqDiff, not_false_eq_true, Bool.not_false, Bool.not_true]
    exact Fin.same
  · simp only [hp, pathV, pathM, if_false]
    simp (maxDischargeDepth := 6) only [hb, hA, Try.results41, ruD, true_and, false_implies, true_implies, not_true_eq_false, implies_true, and_true, or_true, true_or, and_self, ruW, go_int, Option.map_some, List.length_cons, List.length_nil, List.set_cons_zero, List.set_cons_succ, List.nil_append, List.cons_append, putL, List.drop_succ_cons, List.drop_zero, List.take_succ_cons, List.take_zero, Nat.reduceLeDiff, if_true, xFA, xFD, xIA, xHB, xU4, xSz, xZ, xSl, xBd, xBs, xTA, xMI, xCm, ruU, entryE, Option.bind_some, List.map_cons, List.map_nil, List.getElem?_cons_zero, List.getElem?_cons_succ, Nat.reduceLT, Nat.reduceAdd, Nat.reduceMul, ne_eq, Nat.reduceEqDiff, not_false_eq_true, Bool.not_false, Bool.not_true, ruW, go_int, Option.map_some, List.length_cons, List.length_nil, List.set_cons_zero, List.set_cons_succ, List.nil_append, List.cons_append, putL, List.drop_succ_cons, List.drop_zero, List.take_succ_cons, List.take_zero, Nat.reduceLeDiff, if_true, xFA, xFD, xIA, xHB, xU4, xSz, xZ, xSl, xBd, xBs, xTA, xMI, xCm, ruU, entryE, Option.bind_some, List.map_cons, List.map_nil, List.getElem?_cons_zero, List.getElem?_cons_succ, Nat.reduceLT, Nat.reduceAdd, Nat.reduceMul, ne_eq, Nat.reduceEqDiff, not_false_eq_true, Bool.not_false, Bool.not_true]
    exact Fin.same

theorem selected_c (T : Nat) (x : Wn) (H : AHeap) (hx : WnAt H T x) : Pure 17 [.pointer (some ⟨T, 0, none⟩)] H (.int .i64 x.sel) := by
  obtain ⟨b, hb⟩ : ∃ b, H.next = b := ⟨_, rfl⟩
  have h1 := hx.1
  simp only [Wn.cells] at h1
  refine callS_fn mixed Try.func17 rfl Try.ntmps17 (Nat.le_of_ble_eq_true rfl) fun wf hsc => ?_
  have hT : T < b := hb ▸ wf.lt h1
  simp (maxDischargeDepth := 6) only [ruW, go_int, Option.map_some, List.length_cons, List.length_nil, List.set_cons_zero, List.set_cons_succ, List.nil_append, List.cons_append, putL, List.drop_succ_cons, List.drop_zero, List.take_succ_cons, List.take_zero, Nat.reduceLeDiff, if_true, xFA, xFD, xIA, xHB, xU4, xSz, xZ, xSl, xBd, xBs, xTA, xMI, xCm, ruU, entryE, Option.bind_some, List.map_cons, List.map_nil, List.getElem?_cons_zero, List.getElem?_cons_succ, Nat.reduceLT, Nat.reduceAdd, Nat.reduceMul, ne_eq, Nat.reduceEqDiff, not_false_eq_true, Bool.not_false, Bool.not_true]
  refine (made_c T x (ext H []) hx).to ?_
  simp (maxDischargeDepth := 6) only [hb, hT, h1, Try.results17, ruW, go_int, Option.map_some, List.length_cons, List.length_nil, List.set_cons_zero, List.set_cons_succ, List.nil_append, List.cons_append, putL, List.drop_succ_cons, List.drop_zero, List.take_succ_cons, List.take_zero, Nat.reduceLeDiff, if_true, xFA, xFD, xIA, xHB, xU4, xSz, xZ, xSl, xBd, xBs, xTA, xMI, xCm, ruU, entryE, Option.bind_some, List.map_cons, List.map_nil, List.getElem?_cons_zero, List.getElem?_cons_succ, Nat.reduceLT, Nat.reduceAdd, Nat.reduceMul, ne_eq, Nat.reduceEqDiff, not_false_eq_true, Bool.not_false, Bool.not_true]
  exact Fin.pure rfl

theorem size32_c (T : Nat) (x : Wn) (H : AHeap) (hx : WnAt H T x) : Pure 32 [.pointer (some ⟨T, 0, none⟩)] H (.tuple #[.int .i64 x.h, .int .i64 x.w]) := by
  obtain ⟨b, hb⟩ : ∃ b, H.next = b := ⟨_, rfl⟩
  have h1 := hx.1
  simp only [Wn.cells] at h1
  refine callS_fn mixed Try.func32 rfl Try.ntmps32 (Nat.le_of_ble_eq_true rfl) fun wf hsc => ?_
  have hT : T < b := hb ▸ wf.lt h1
  simp (maxDischargeDepth := 6) only [ruW, go_int, Option.map_some, List.length_cons, List.length_nil, List.set_cons_zero, List.set_cons_succ, List.nil_append, List.cons_append, putL, List.drop_succ_cons, List.drop_zero, List.take_succ_cons, List.take_zero, Nat.reduceLeDiff, if_true, xFA, xFD, xIA, xHB, xU4, xSz, xZ, xSl, xBd, xBs, xTA, xMI, xCm, ruU, entryE, Option.bind_some, List.map_cons, List.map_nil, List.getElem?_cons_zero, List.getElem?_cons_succ, Nat.reduceLT, Nat.reduceAdd, Nat.reduceMul, ne_eq, Nat.reduceEqDiff, not_false_eq_true, Bool.not_false, Bool.not_true]
  refine (made_c T x (ext H []) hx).to ?_
  simp (maxDischargeDepth := 6) only [ruW, go_int, Option.map_some, List.length_cons, List.length_nil, List.set_cons_zero, List.set_cons_succ, List.nil_append, List.cons_append, putL, List.drop_succ_cons, List.drop_zero, List.take_succ_cons, List.take_zero, Nat.reduceLeDiff, if_true, xFA, xFD, xIA, xHB, xU4, xSz, xZ, xSl, xBd, xBs, xTA, xMI, xCm, ruU, entryE, Option.bind_some, List.map_cons, List.map_nil, List.getElem?_cons_zero, List.getElem?_cons_succ, Nat.reduceLT, Nat.reduceAdd, Nat.reduceMul, ne_eq, Nat.reduceEqDiff, not_false_eq_true, Bool.not_false, Bool.not_true]
  refine w_drawB [] [] (by kernel_rfl) rfl rfl fun ops anc hA hG => ?_
  simp (maxDischargeDepth := 6) only [hb, hT, h1, Try.results32, ruD, true_and, false_implies, true_implies, not_true_eq_false, implies_true, and_true, or_true, true_or, and_self, ruW, go_int, Option.map_some, List.length_cons, List.length_nil, List.set_cons_zero, List.set_cons_succ, List.nil_append, List.cons_append, putL, List.drop_succ_cons, List.drop_zero, List.take_succ_cons, List.take_zero, Nat.reduceLeDiff, if_true, xFA, xFD, xIA, xHB, xU4, xSz, xZ, xSl, xBd, xBs, xTA, xMI, xCm, ruU, entryE, Option.bind_some, List.map_cons, List.map_nil, List.getElem?_cons_zero, List.getElem?_cons_succ, Nat.reduceLT, Nat.reduceAdd, Nat.reduceMul, ne_eq, Nat.reduceEqDiff, not_false_eq_true, Bool.not_false, Bool.not_true, ruW, go_int, Option.map_some, List.length_cons, List.length_nil, List.set_cons_zero, List.set_cons_succ, List.nil_append, List.cons_append, putL, List.drop_succ_cons, List.drop_zero, List.take_succ_cons, List.take_zero, Nat.reduceLeDiff, if_true, xFA, xFD, xIA, xHB, xU4, xSz, xZ, xSl, xBd, xBs, xTA, xMI, xCm, ruU, entryE, Option.bind_some, List.map_cons, List.map_nil, List.getElem?_cons_zero, List.getElem?_cons_succ, Nat.reduceLT, Nat.reduceAdd, Nat.reduceMul, ne_eq, Nat.reduceEqDiff, not_false_eq_true, Bool.not_false, Bool.not_true]
  exact Fin.pure rfl

/-! Select -/
def Wn.select (x : Wn) (T : Nat) (id : Int) : Int × Wn := if x.path T id = [] then (8, x) else (0, { x with sel := id })

theorem Good.mod {H H1 : AHeap} {T : Nat} {x : Wn} {W : List Nat} (g : Good H T x) (m : Mod W H H1) (hT : T ∉ W) (hW : ∀ n ∈ x.root.blks, n ∉ W) : Good H1 T x :=
  ⟨⟨(m.bk g.lt hT).trans g.wn.1, g.wn.2.mod m g.lts hW⟩, m.lt g.lt, fun n hn => m.lt (g.lts n hn), g.nd, g.nT, m.ok g.ok, g.sz⟩

theorem Step.same {H H1 : AHeap} {T : Nat} {x : Wn} (g : Good H T x) (m : Mod [] H H1) : Step H T x H1 x :=
  ⟨g.mod m (by simp) (by simp), m.mono (by simp), fun n hn => .inl hn⟩

/-- a frame whose own block alone is written -/
theorem Step.own {H H1 : AHeap} {T : Nat} {x x' : Wn} (g : Good H T x) (m : Mod [T] H H1) (hr : x'.root = x.root) (hc : bk H1 T = some ⟨69, false, x'.cells⟩) : Step H T x H1 x' := by
  have hW : ∀ n ∈ x.root.blks, n ∉ [T] := fun n hn h => g.nT (by simp only [List.mem_singleton] at h; exact h ▸ hn)
  refine ⟨⟨⟨hc, hr ▸ g.wn.2.mod m g.lts hW⟩, m.lt g.lt, fun n hn => m.lt (g.lts n (hr ▸ hn)), hr ▸ g.nd, hr ▸ g.nT, m.ok g.ok, hr ▸ g.sz⟩, m.mono (by simp), fun n hn => .inl (hr ▸ hn)⟩

theorem select_c (T : Nat) (x : Wn) (id : Int) (H : AHeap) (g : Good H T x) : CallA Try.prog 24 [.pointer (some ⟨T, 0, none⟩), .int .i64 id] H (fun out H1 => out = .ok (.int .i64 (x.select T id).1) ∧ Step H T x H1 (x.select T id).2) := by
  obtain ⟨b, hb⟩ : ∃ b, H.next = b := ⟨_, rfl⟩
  have h1 := g.wn.1
  simp only [Wn.cells] at h1
  have hT : T < b := hb ▸ g.lt
  have hbase : H.base ≤ b := hb ▸ g.ok
  refine callE_fn mixed Try.func24 rfl Try.ntmps24 (Nat.le_of_ble_eq_true rfl) ?_
  simp (maxDischargeDepth := 6) only [ruW, go_int, Option.map_some, List.length_cons, List.length_nil, List.set_cons_zero, List.set_cons_succ, List.nil_append, List.cons_append, putL, List.drop_succ_cons, List.drop_zero, List.take_succ_cons, List.take_zero, Nat.reduceLeDiff, if_true, xFA, xFD, xIA, xHB, xU4, xSz, xZ, xSl, xBd, xBs, xTA, xMI, xCm, ruU, entryE, Option.bind_some, List.map_cons, List.map_nil, List.getElem?_cons_zero, List.getElem?_cons_succ, Nat.reduceLT, Nat.reduceAdd, Nat.reduceMul, ne_eq, Nat.reduceEqDiff, not_false_eq_true, Bool.not_false, Bool.not_true]
  refine (find_c T x id (ext H []) g.wn g.sz).to ?_
  unfold Wn.select
  by_cases hp : x.path T id = []
  · simp only [hp, pathV, pathM, if_true]
    simp (maxDischargeDepth := 6) only [hb, hT, h1, Int.reduceEq, decide_false, decide_true, Try.results24, ruW, go_int, Option.map_some, List.length_cons, List.length_nil, List.set_cons_zero, List.set_cons_succ, List.nil_append, List.cons_append, putL, List.drop_succ_cons, List.drop_zero, List.take_succ_cons, List.take_zero, Nat.reduceLeDiff, if_true, xFA, xFD, xIA, xHB, xU4, xSz, xZ, xSl, xBd, xBs, xTA, xMI, xCm, ruU, entryE, Option.bind_some, List.map_cons, List.map_nil, List.getElem?_cons_zero, List.getElem?_cons_succ, Nat.reduceLT, Nat.reduceAdd, Nat.reduceMul, ne_eq, Nat.reduceEqDiff, not_false_eq_true, Bool.not_false, Bool.not_true]
    exact ⟨trivial, Step.same g Mod.refl⟩
  · simp only [hp, pathV, pathM, if_false]
    simp (maxDischargeDepth := 6) only [hb, hT, h1, hbase, Int.reduceEq, decide_false, decide_true, Try.results24, ruW, go_int, Option.map_some, List.length_cons, List.length_nil, List.set_cons_zero, List.set_cons_succ, List.nil_append, List.cons_append, putL, List.drop_succ_cons, List.drop_zero, List.take_succ_cons, List.take_zero, Nat.reduceLeDiff, if_true, xFA, xFD, xIA, xHB, xU4, xSz, xZ, xSl, xBd, xBs, xTA, xMI, xCm, ruU, entryE, Option.bind_some, List.map_cons, List.map_nil, List.getElem?_cons_zero, List.getElem?_cons_succ, Nat.reduceLT, Nat.reduceAdd, Nat.reduceMul, ne_eq, Nat.reduceEqDiff, not_false_eq_true, Bool.not_false, Bool.not_true]
    refine ⟨trivial, ?_⟩
    generalize hU : uw H T 4 [.int .i64 id] = U
    have mU : Mod [T] H U := hU ▸ Mod.uw (by simp)
    refine Step.own g (mU.trans (Mod.ext (mU.ok g.ok))) rfl ?_
    rw [bk_old (mU.lt g.lt), ← hU, bk_uw_eq, h1]
    rfl

end Go.Proofs.Ytiedpcmdimgboaa

/- Frames without their blocks: what the methods of Tree make of them. -/
namespace Go.Proofs.Ytiedpcmdimgboaa
open Go.Ax
set_option linter.unusedSimpArgs false

inductive Atr where
  | leaf (id : Int)
  | split (be : Bool) (f : Int) (l r : Atr)

def Tr.abs : Tr → Atr
  | .leaf _ id => .leaf id
  | .split _ be f l r => .split be f l.abs r.abs

namespace Atr
def least (be : Bool) : Atr → Int
  | .leaf _ => mins be
  | .split b _ l r => if b = be then w64 (w64 (least be l + least be r) + bar be) else max (least be l) (least be r)
def weight (be : Bool) : Atr → Int
  | .leaf _ => 1
  | .split b _ l r => if b = be then w64 (weight be l + weight be r) else max (weight be l) (weight be r)
def first : Atr → Int
  | .leaf id => id
  | .split _ _ l _ => l.first
def resize (be : Bool) (old now : Int) : Atr → Atr
  | .leaf id => .leaf id
  | .split bb f l r =>
    if bb = be then
      let second := w64 (w64 (old - f) - bar be)
      let after := max (w64 (w64 (second + now) - old)) (least be r)
      let f' := w64 (w64 (now - after) - bar be)
      .split bb f' (l.resize be f f') (r.resize be second after)
    else .split bb f (l.resize be old now) (r.resize be old now)
def balance : Atr → Rc → Atr
  | .leaf id, _ => .leaf id
  | .split be _ l r, rc =>
    let whole := w64 (rc.size be - bar be)
    let f1 := max (w64 ((w64 (whole * weight be l)).tdiv (w64 (weight be l + weight be r)))) (least be l)
    let f2 := min f1 (w64 (whole - least be r))
    .split be f2 (l.balance (partA be f2 rc)) (r.balance (partB be f2 rc))
def rects : Atr → Rc → List Rc
  | .leaf id, r => [{ r with id := id }]
  | .split be f l r, rc => rects l (partA be f rc) ++ rects r (partB be f rc)
def size : Atr → Nat
  | .leaf _ => 0
  | .split _ _ l r => l.size + r.size + 1
def find (id : Int) : Atr → Option (List Bool)
  | .leaf i => if i = id then some [] else none
  | .split _ _ l r => (match find id l with
    | some d => some (false :: d)
    | none => (match find id r with
      | some d => some (true :: d)
      | none => none))
def sub : Atr → List Bool → Option Atr
  | t, [] => some t
  | .split _ _ l _, false :: d => sub l d
  | .split _ _ _ r, true :: d => sub r d
  | .leaf _, _ :: _ => none
def rectAt : Atr → Rc → List Bool → Rc
  | _, rc, [] => rc
  | .split be f l _, rc, false :: d => rectAt l (partA be f rc) d
  | .split be f _ r, rc, true :: d => rectAt r (partB be f rc) d
  | .leaf _, rc, _ :: _ => rc
def set : Atr → List Bool → Atr → Atr
  | _, [], n => n
  | .split be f l r, false :: d, n => .split be f (set l d n) r
  | .split be f l r, true :: d, n => .split be f l (set r d n)
  | .leaf i, _ :: _, _ => .leaf i
end Atr

theorem abs_least (be : Bool) : ∀ t : Tr, least be t = t.abs.least be
  | .leaf _ _ => rfl
  | .split _ _ _ l r => by simp only [least, Tr.abs, Atr.least, abs_least be l, abs_least be r]
theorem abs_weight (be : Bool) : ∀ t : Tr, weight be t = t.abs.weight be
  | .leaf _ _ => rfl
  | .split _ _ _ l r => by simp only [weight, Tr.abs, Atr.weight, abs_weight be l, abs_weight be r]
theorem abs_first : ∀ t : Tr, t.first = t.abs.first
  | .leaf _ _ => rfl
  | .split _ _ _ l r => by simp only [Tr.first, Tr.abs, Atr.first, abs_first l]
theorem abs_resize (be : Bool) : ∀ (t : Tr) (old now : Int), (t.resize be old now).abs = t.abs.resize be old now
  | .leaf _ _, _, _ => rfl
  | .split _ bb f l r, old, now => by
    simp only [Tr.resize, Tr.abs, Atr.resize]
    split
    · simp only [Tr.abs, abs_resize be l, abs_resize be r, abs_least]
    · simp only [Tr.abs, abs_resize be l, abs_resize be r]
theorem abs_balance : ∀ (t : Tr) (rc : Rc), (t.balance rc).abs = t.abs.balance rc
  | .leaf _ _, _ => rfl
  | .split _ be f l r, rc => by simp only [Tr.balance, Tr.abs, Atr.balance, abs_balance l, abs_balance r, abs_least, abs_weight]
theorem abs_rects : ∀ (t : Tr) (rc : Rc), rects t rc = t.abs.rects rc
  | .leaf _ _, _ => rfl
  | .split _ be f l r, rc => by simp only [rects, Tr.abs, Atr.rects, abs_rects l, abs_rects r]
theorem abs_size : ∀ t : Tr, t.size = t.abs.size
  | .leaf _ _ => rfl
  | .split _ _ _ l r => by simp only [Tr.size, Tr.abs, Atr.size, abs_size l, abs_size r]
theorem abs_find (id : Int) : ∀ t : Tr, findD id t = t.abs.find id
  | .leaf _ _ => rfl
  | .split _ _ _ l r => by
    simp only [findD, Tr.abs, Atr.find, abs_find id l, abs_find id r] <;> (cases Atr.find id l.abs <;> cases Atr.find id r.abs <;> rfl)
theorem abs_sub : ∀ (t : Tr) (d : List Bool), (subAt t d).map Tr.abs = t.abs.sub d
  | t, [] => by cases t <;> rfl
  | .split _ _ _ l r, false :: d => abs_sub l d
  | .split _ _ _ l r, true :: d => abs_sub r d
  | .leaf _ _, x :: _ => by cases x <;> rfl
theorem abs_rectAt : ∀ (t : Tr) (rc : Rc) (d : List Bool), rectAt t rc d = t.abs.rectAt rc d
  | t, rc, [] => by cases t <;> rfl
  | .split _ be f l r, rc, false :: d => abs_rectAt l _ d
  | .split _ be f l r, rc, true :: d => abs_rectAt r _ d
  | .leaf _ _, _, x :: _ => by cases x <;> rfl
theorem abs_set (n : Tr) : ∀ (t : Tr) (d : List Bool), (setAt t d n).abs = t.abs.set d n.abs
  | t, [] => by cases t <;> rfl
  | .split _ be f l r, false :: d => by simp only [setAt, Tr.abs, Atr.set, abs_set n l d]
  | .split _ be f l r, true :: d => by simp only [setAt, Tr.abs, Atr.set, abs_set n r d]
  | .leaf _ _, x :: _ => by cases x <;> rfl

structure Ast where
  root : Atr
  h : Int
  w : Int
  last : Int
  sel : Int

def Wn.abs (x : Wn) : Ast := ⟨x.root.abs, x.h, x.w, x.last, x.sel⟩

namespace Ast
def frame (s : Ast) : Rc := ⟨0, 0, 0, s.h, s.w⟩
def rects (s : Ast) : List Rc := s.root.rects s.frame

def select (s : Ast) (id : Int) : Int × Ast := match s.root.find id with
  | none => (8, s)
  | some _ => (0, { s with sel := id })
def only (s : Ast) (id : Int) : Int × Ast := match s.root.find id with
  | none => (8, s)
  | some _ => (0, { s with root := .leaf id, sel := id })
def balance (s : Ast) : Ast := { s with root := s.root.balance s.frame }
def setSize (s : Ast) (h w : Int) : Int × Ast :=
  if inside h w = false ∨ h < s.root.least true ∨ w < s.root.least false then (3, s)
  else (0, { s with root := (s.root.resize true s.h h).resize false s.w w, h := h, w := w })
def splitW (s : Ast) (d : List Bool) (be : Bool) : Int := w64 ((s.root.rectAt s.frame d).size be - bar be)
def splitN (s : Ast) (d : List Bool) (be : Bool) (n : Int) : Int := if n = 0 then w64 ((s.splitW d be).tdiv 2) else n
def split (s : Ast) (id : Int) (be : Bool) (n : Int) : Int × Int × Ast := match s.root.find id with
  | none => (0, 8, s)
  | some d =>
    if 64 ≤ s.rects.length then (0, 7, s)
    else if n < 0 then (0, 3, s)
    else if s.splitW d be < s.splitN d be n ∨ s.splitN d be n < mins be ∨ w64 (s.splitW d be - s.splitN d be n) < mins be then (0, 3, s)
    else (w64 (s.last + 1), 0, { s with root := s.root.set d (.split be (w64 (s.splitW d be - s.splitN d be n)) (.leaf id) (.leaf (w64 (s.last + 1)))), last := w64 (s.last + 1) })

/-- the other side of a split and its rectangle -/
def otherA (left : Bool) (be : Bool) (f : Int) (l r : Atr) (rc : Rc) : Atr × Rc := if left then (r, partB be f rc) else (l, partA be f rc)
def delete (s : Ast) (id : Int) : Int × Ast := match s.root.find id with
  | none => (8, s)
  | some d =>
    if d = [] then (9, s)
    else match s.root.sub d.dropLast with
      | some (.split be f l r) =>
        let rc := s.root.rectAt s.frame d.dropLast
        let o := otherA (d.getLast? == some false) be f l r rc
        (0, { s with root := s.root.set d.dropLast (o.1.resize be (o.2.size be) (rc.size be)), sel := if s.sel = id then o.1.first else s.sel })
      | _ => (9, s)

/-- the longest part of a way, shorter than k, at whose end stands a split in a direction -/
def upTo (t : Atr) (d : List Bool) (be : Bool) : Nat → Option Nat
  | 0 => none
  | k + 1 => (match t.sub (d.take k) with
    | some (.split b _ _ _) => if b = be then some k else upTo t d be k
    | _ => upTo t d be k)
def resize (s : Ast) (id by1 : Int) (be : Bool) : Int × Ast := match s.root.find id with
  | none => (8, s)
  | some d => match upTo s.root d be d.length with
    | none => (9, s)
    | some k =>
      if by1 < -1000 ∨ 1000 < by1 then (3, s)
      else match s.root.sub (d.take k) with
        | some (.split _ f l r) =>
          let by2 := if d[k]? = some false then by1 else w64 (0 - by1)
          let b := w64 (w64 ((s.root.rectAt s.frame (d.take k)).size be - f) - bar be)
          if w64 (f + by2) < l.least be ∨ w64 (b - by2) < r.least be then (3, s)
          else (0, { s with root := s.root.set (d.take k) (.split be (w64 (f + by2)) (l.resize be f (w64 (f + by2))) (r.resize be b (w64 (b - by2)))) })
        | _ => (9, s)
end Ast

theorem abs_path {x : Wn} {T : Nat} {id : Int} : x.path T id = (match x.abs.root.find id with
    | some d => places T 0 x.root x.frame d
    | none => []) := by
  unfold Wn.path
  rw [pathT_eq, abs_find]
  rfl

theorem path_nil {x : Wn} {T : Nat} {id : Int} (h : x.abs.root.find id = none) : x.path T id = [] := by rw [abs_path, h]
theorem path_some {x : Wn} {T : Nat} {id : Int} {d : List Bool} (h : x.abs.root.find id = some d) : x.path T id = places T 0 x.root x.frame d := by rw [abs_path, h]

end Go.Proofs.Ytiedpcmdimgboaa

/- Frames without blocks: sizes. -/
namespace Go.Proofs.Ytiedpcmdimgboaa
open Go.Ax
set_option linter.unusedSimpArgs false

/-- sizes in both directions -/
abbrev Dim := Bool → Int
def Dim.set (d : Dim) (b : Bool) (v : Int) : Dim := fun c => if c = b then v else d c
theorem Dim.set_same (d : Dim) (b : Bool) (v : Int) : d.set b v b = v := by simp [Dim.set]
theorem Dim.set_ne (d : Dim) {b c : Bool} (v : Int) (h : c ≠ b) : d.set b v c = d c := by simp [Dim.set, h]
theorem Dim.set_set (d : Dim) (b : Bool) (u v : Int) : (d.set b u).set b v = d.set b v := by
  funext c; unfold Dim.set; split <;> rfl
theorem Dim.set_comm (d : Dim) {b c : Bool} (u v : Int) (h : c ≠ b) : (d.set b u).set c v = (d.set c v).set b u := by
  funext e; unfold Dim.set
  by_cases h1 : e = c
  · subst h1; simp [h]
  · simp [h1]
theorem Dim.set_self (d : Dim) (b : Bool) : d.set b (d b) = d := by
  funext c; unfold Dim.set; split
  · rename_i h; rw [h]
  · rfl

namespace Atr
def fits : Atr → Dim → Prop
  | .leaf _, d => ∀ b, mins b ≤ d b
  | .split b f l r, d => fits l (d.set b f) ∧ fits r (d.set b (d b - f - bar b))
/-- least without wrapping -/
def lst (be : Bool) : Atr → Int
  | .leaf _ => mins be
  | .split b _ l r => if b = be then lst be l + lst be r + bar be else max (lst be l) (lst be r)
def wgt (be : Bool) : Atr → Int
  | .leaf _ => 1
  | .split b _ l r => if b = be then wgt be l + wgt be r else max (wgt be l) (wgt be r)
def ids : Atr → List Int
  | .leaf i => [i]
  | .split _ _ l r => l.ids ++ r.ids

theorem lst_pos (be : Bool) : ∀ t : Atr, 2 ≤ lst be t ∧ lst be t ≤ 5 * t.size + 4
  | .leaf _ => by cases be <;> simp [lst, mins, size]
  | .split b _ l r => by
    have h1 := lst_pos be l
    have h2 := lst_pos be r
    have hb : 0 ≤ bar be ∧ bar be ≤ 1 := by cases be <;> decide
    simp only [lst, size]
    push_cast
    split <;> omega

theorem least_eq (be : Bool) : ∀ t : Atr, t.size < 1000000 → least be t = lst be t
  | .leaf _, _ => rfl
  | .split b _ l r, h => by
    simp only [size] at h
    have h1 := lst_pos be l
    have h2 := lst_pos be r
    have hb : 0 ≤ bar be ∧ bar be ≤ 1 := by cases be <;> decide
    simp only [least, lst, least_eq be l (by omega), least_eq be r (by omega)]
    rw [wrap_sm (n := lst be l + lst be r) (by omega) (by omega), wrap_sm (n := lst be l + lst be r + bar be) (by omega) (by omega)]

theorem wgt_pos (be : Bool) : ∀ t : Atr, 1 ≤ wgt be t ∧ wgt be t ≤ t.size + 1
  | .leaf _ => by simp [wgt, size]
  | .split b _ l r => by
    have h1 := wgt_pos be l
    have h2 := wgt_pos be r
    simp only [wgt, size]
    push_cast
    split <;> omega

theorem weight_eq (be : Bool) : ∀ t : Atr, t.size < 1000000 → weight be t = wgt be t
  | .leaf _, _ => rfl
  | .split b _ l r, h => by
    simp only [size] at h
    have h1 := wgt_pos be l
    have h2 := wgt_pos be r
    simp only [weight, wgt, weight_eq be l (by omega), weight_eq be r (by omega)]
    rw [wrap_sm (n := wgt be l + wgt be r) (by omega) (by omega)]

theorem fits_lst : ∀ (t : Atr) (d : Dim), t.fits d → ∀ b, lst b t ≤ d b
  | .leaf _, d, h, b => h b
  | .split bb f l r, d, h, b => by
    have h1 := fits_lst l _ h.1 b
    have h2 := fits_lst r _ h.2 b
    simp only [lst]
    by_cases hb : bb = b
    · subst hb
      rw [if_pos rfl]
      rw [Dim.set_same] at h1 h2
      omega
    · rw [if_neg hb]
      rw [Dim.set_ne _ _ (Ne.symm hb)] at h1 h2
      omega

theorem size_resize (be : Bool) : ∀ (t : Atr) (old now : Int), (t.resize be old now).size = t.size
  | .leaf _, _, _ => rfl
  | .split bb f l r, old, now => by
    simp only [resize]
    split <;> simp only [size, size_resize be l, size_resize be r]
theorem lst_resize (be c : Bool) : ∀ (t : Atr) (old now : Int), lst c (t.resize be old now) = lst c t
  | .leaf _, _, _ => rfl
  | .split bb f l r, old, now => by
    simp only [resize]
    split <;> simp only [lst, lst_resize be c l, lst_resize be c r]
theorem ids_resize (be : Bool) : ∀ (t : Atr) (old now : Int), (t.resize be old now).ids = t.ids
  | .leaf _, _, _ => rfl
  | .split bb f l r, old, now => by
    simp only [resize]
    split <;> simp only [ids, ids_resize be l, ids_resize be r]

theorem resize_fits (be : Bool) : ∀ (t : Atr) (d : Dim) (now : Int), t.fits d → t.size < 1000 → d be ≤ 100000 → now ≤ 100000 → lst be t ≤ now → (t.resize be (d be) now).fits (d.set be now)
  | .leaf _, d, now, h, _, _, _, hn => by
    intro b
    by_cases hb : b = be
    · subst hb; rw [Dim.set_same]; exact hn
    · rw [Dim.set_ne _ _ hb]; exact h b
  | .split bb f l r, d, now, h, hs, hd, hnw, hn => by
    simp only [size] at hs
    have hl := fits_lst l _ h.1
    have hr := fits_lst r _ h.2
    have pl := lst_pos be l
    have pr := lst_pos be r
    simp only [lst] at hn
    simp only [resize]
    by_cases hb : bb = be
    · subst hb
      rw [if_pos rfl] at hn ⊢
      have hl' := hl bb
      have hr' := hr bb
      rw [Dim.set_same] at hl' hr'
      have hbar : 0 ≤ bar bb ∧ bar bb ≤ 1 := by cases bb <;> decide
      have w1 : w64 (w64 (d bb - f) - bar bb) = d bb - f - bar bb := by rw [wrap_sm (n := d bb - f) (by omega) (by omega), wrap_sm (by omega) (by omega)]
      have w2 : w64 (w64 (d bb - f - bar bb + now) - d bb) = now - f - bar bb := by rw [wrap_sm (n := d bb - f - bar bb + now) (by omega) (by omega), wrap_sm (by omega) (by omega)]; omega
      simp only [w1, w2, least_eq bb r (by omega)]
      generalize ha : max (now - f - bar bb) (lst bb r) = after
      have w3 : w64 (w64 (now - after) - bar bb) = now - after - bar bb := by rw [wrap_sm (n := now - after) (by omega) (by omega), wrap_sm (by omega) (by omega)]
      simp only [w3]
      have i1 := resize_fits bb l (d.set bb f) (now - after - bar bb) h.1 (by omega) (by rw [Dim.set_same]; omega) (by omega) (by omega)
      have i2 := resize_fits bb r (d.set bb (d bb - f - bar bb)) after h.2 (by omega) (by rw [Dim.set_same]; omega) (by omega) (by omega)
      rw [Dim.set_same, Dim.set_set] at i1 i2
      refine ⟨by rw [Dim.set_set]; exact i1, ?_⟩
      rw [Dim.set_set, Dim.set_same, show now - (now - after - bar bb) - bar bb = after by omega]
      exact i2
    · rw [if_neg hb] at hn ⊢
      have hl' := hl be
      have hr' := hr be
      rw [Dim.set_ne _ _ (Ne.symm hb)] at hl' hr'
      have i1 := resize_fits be l (d.set bb f) now h.1 (by omega) (by rw [Dim.set_ne _ _ (Ne.symm hb)]; exact hd) hnw (by omega)
      have i2 := resize_fits be r (d.set bb (d bb - f - bar bb)) now h.2 (by omega) (by rw [Dim.set_ne _ _ (Ne.symm hb)]; exact hd) hnw (by omega)
      rw [Dim.set_ne _ _ (Ne.symm hb)] at i1 i2
      refine ⟨?_, ?_⟩
      · rw [Dim.set_comm _ _ _ hb]; exact i1
      · rw [Dim.set_ne _ _ hb, Dim.set_comm _ _ _ hb]; exact i2
end Atr

/-- a rectangle's sizes -/
def Rc.dim (r : Rc) : Dim := r.size
theorem Rc.dim_eq (r : Rc) (b : Bool) : r.dim b = r.size b := rfl
theorem partA_dim (be : Bool) (f : Int) (r : Rc) : (partA be f r).dim = r.dim.set be f := by
  funext c; cases be <;> cases c <;> rfl
theorem partB_dim {be : Bool} {f : Int} {r : Rc} (h1 : 0 ≤ f) (h2 : f ≤ 100000) (h3 : 0 ≤ r.size be) (h4 : r.size be ≤ 100000) : (partB be f r).dim = r.dim.set be (r.size be - f - bar be) := by
  funext c
  cases be <;> cases c <;> simp only [partB, Rc.dim, Rc.size, Dim.set, bar, if_true, if_false, Bool.false_eq_true, reduceCtorEq] at h3 h4 ⊢
  · rw [wrap_sm (n := r.w - f) (by omega) (by omega), wrap_sm (by omega) (by omega)]
  · rw [wrap_sm (by omega) (by omega)]; omega

namespace Atr
theorem balance_fits : ∀ (t : Atr) (rc : Rc), t.size < 1000 → (∀ b, lst b t ≤ rc.size b) → (∀ b, rc.size b ≤ 100000) → (t.balance rc).fits rc.dim
  | .leaf _, rc, _, h, _ => h
  | .split be f l r, rc, hs, h, hm => by
    simp only [size] at hs
    have hb := h be
    have hc := hm be
    simp only [lst, if_true] at hb
    have pl := lst_pos be l
    have pr := lst_pos be r
    have ql := wgt_pos be l
    have qr := wgt_pos be r
    have hbar : 0 ≤ bar be ∧ bar be ≤ 1 := by cases be <;> decide
    simp only [balance, least_eq be l (by omega), least_eq be r (by omega), weight_eq be l (by omega), weight_eq be r (by omega)]
    rw [show w64 (rc.size be - bar be) = rc.size be - bar be from wrap_sm (by omega) (by omega)]
    generalize hw : rc.size be - bar be = whole
    generalize hx : w64 ((w64 (whole * wgt be l)).tdiv (w64 (wgt be l + wgt be r))) = x
    rw [show w64 (whole - lst be r) = whole - lst be r from wrap_sm (by omega) (by omega)]
    generalize hf : min (max x (lst be l)) (whole - lst be r) = f2
    have hf1 : lst be l ≤ f2 := by omega
    have hf2 : f2 ≤ whole - lst be r := by omega
    have dA := partA_dim be f2 rc
    have dB := partB_dim (be := be) (f := f2) (r := rc) (by omega) (by omega) (by omega) (by omega)
    have sA : ∀ b, (partA be f2 rc).size b = (rc.dim.set be f2) b := fun b => congrFun dA b
    have sB : ∀ b, (partB be f2 rc).size b = (rc.dim.set be (rc.size be - f2 - bar be)) b := fun b => congrFun dB b
    have hoth : ∀ b, b ≠ be → lst b l ≤ rc.size b ∧ lst b r ≤ rc.size b := fun b hne => by
      have := h b
      simp only [lst, if_neg (Ne.symm hne)] at this
      omega
    refine ⟨?_, ?_⟩
    · rw [← dA]
      refine balance_fits l _ (by omega) (fun b => ?_) (fun b => ?_)
      · rw [sA]
        by_cases e : b = be
        · subst e; rw [Dim.set_same]; exact hf1
        · rw [Dim.set_ne _ _ e]; exact (hoth b e).1
      · rw [sA]
        by_cases e : b = be
        · subst e; rw [Dim.set_same]; omega
        · rw [Dim.set_ne _ _ e]; exact hm b
    · rw [Rc.dim_eq, ← dB]
      refine balance_fits r _ (by omega) (fun b => ?_) (fun b => ?_)
      · rw [sB]
        by_cases e : b = be
        · subst e; rw [Dim.set_same]; omega
        · rw [Dim.set_ne _ _ e]; exact (hoth b e).2
      · rw [sB]
        by_cases e : b = be
        · subst e; rw [Dim.set_same]; omega
        · rw [Dim.set_ne _ _ e]; exact hm b
theorem ids_balance : ∀ (t : Atr) (rc : Rc), (t.balance rc).ids = t.ids
  | .leaf _, _ => rfl
  | .split be f l r, rc => by simp only [balance, ids, ids_balance l, ids_balance r]
theorem size_balance : ∀ (t : Atr) (rc : Rc), (t.balance rc).size = t.size
  | .leaf _, _ => rfl
  | .split be f l r, rc => by simp only [balance, size, size_balance l, size_balance r]
end Atr
end Go.Proofs.Ytiedpcmdimgboaa

/- What the methods of Tree come to: Select, Only, Balance, SetSize, Split. -/
namespace Go.Proofs.Ytiedpcmdimgboaa
open Go.Ax
set_option linter.unusedSimpArgs false
set_option maxRecDepth 10000

/-- a method that changes a frame: its outcome, and what the frame is then -/
def Does (f : FuncId) (args : List Value) (H : AHeap) (T : Nat) (x : Wn) (v : Value) (s : Ast) : Prop :=
  CallA Try.prog f (.pointer (some ⟨T, 0, none⟩) :: args) H (fun out H1 => out = .ok v ∧ ∃ x', Step H T x H1 x' ∧ x'.abs = s)

theorem select_d (T : Nat) (x : Wn) (id : Int) (H : AHeap) (g : Good H T x) : Does 24 [.int .i64 id] H T x (.int .i64 (x.abs.select id).1) (x.abs.select id).2 := by
  refine (select_c T x id H g).mono ?_
  rintro _ H1 ⟨rfl, h⟩
  unfold Ast.select
  unfold Wn.select at h ⊢
  cases hf : x.abs.root.find id with
  | none => rw [path_nil hf] at h ⊢; exact ⟨rfl, _, h, rfl⟩
  | some d =>
    rw [path_some hf] at h ⊢
    rw [if_neg (places_ne _ _ _ _ _)] at h ⊢
    exact ⟨rfl, _, h, rfl⟩

theorem only_d (T : Nat) (x : Wn) (id : Int) (H : AHeap) (g : Good H T x) : Does 36 [.int .i64 id] H T x (.int .i64 (x.abs.only id).1) (x.abs.only id).2 := by
  obtain ⟨b, hb⟩ : ∃ b, H.next = b := ⟨_, rfl⟩
  have h1 := g.wn.1
  simp only [Wn.cells] at h1
  have hT : T < b := hb ▸ g.lt
  have hbase : H.base ≤ b := hb ▸ g.ok
  have hro := x.root.one
  refine callE_fn mixed Try.func36 rfl Try.ntmps36 (Nat.le_of_ble_eq_true rfl) ?_
  simp (maxDischargeDepth := 6) only [ruW, go_int, Option.map_some, List.length_cons, List.length_nil, List.set_cons_zero, List.set_cons_succ, List.nil_append, List.cons_append, putL, List.drop_succ_cons, List.drop_zero, List.take_succ_cons, List.take_zero, Nat.reduceLeDiff, if_true, xFA, xFD, xIA, xHB, xU4, xSz, xZ, xSl, xBd, xBs, xTA, xMI, xCm, ruU, entryE, Option.bind_some, List.map_cons, List.map_nil, List.getElem?_cons_zero, List.getElem?_cons_succ, Nat.reduceLT, Nat.reduceAdd, Nat.reduceMul, ne_eq, Nat.reduceEqDiff, not_false_eq_true, Bool.not_false, Bool.not_true]
  refine (find_c T x id (ext H []) g.wn g.sz).to ?_
  unfold Ast.only
  cases hf : x.abs.root.find id with
  | none =>
    have hp := path_nil (T := T) hf
    simp only [hp, pathV, pathM, if_true]
    simp (maxDischargeDepth := 6) only [hb, hT, h1, Int.reduceEq, ne_eq, not_true_eq_false, not_false_eq_true, decide_false, decide_true, Try.results36, ruW, go_int, Option.map_some, List.length_cons, List.length_nil, List.set_cons_zero, List.set_cons_succ, List.nil_append, List.cons_append, putL, List.drop_succ_cons, List.drop_zero, List.take_succ_cons, List.take_zero, Nat.reduceLeDiff, if_true, xFA, xFD, xIA, xHB, xU4, xSz, xZ, xSl, xBd, xBs, xTA, xMI, xCm, ruU, entryE, Option.bind_some, List.map_cons, List.map_nil, List.getElem?_cons_zero, List.getElem?_cons_succ, Nat.reduceLT, Nat.reduceAdd, Nat.reduceMul, ne_eq, Nat.reduceEqDiff, not_false_eq_true, Bool.not_false, Bool.not_true]
    exact ⟨trivial, x, Step.same g Mod.refl, rfl⟩
  | some d =>
    have hp : x.path T id ≠ [] := by rw [path_some hf]; exact places_ne _ _ _ _ _
    simp only [hp, pathV, pathM, if_false]
    simp (maxDischargeDepth := 6) only [hb, hT, h1, hbase, Int.reduceEq, ne_eq, not_true_eq_false, not_false_eq_true, decide_false, decide_true, Try.results36, ruW, go_int, Option.map_some, List.length_cons, List.length_nil, List.set_cons_zero, List.set_cons_succ, List.nil_append, List.cons_append, putL, List.drop_succ_cons, List.drop_zero, List.take_succ_cons, List.take_zero, Nat.reduceLeDiff, if_true, xFA, xFD, xIA, xHB, xU4, xSz, xZ, xSl, xBd, xBs, xTA, xMI, xCm, ruU, entryE, Option.bind_some, List.map_cons, List.map_nil, List.getElem?_cons_zero, List.getElem?_cons_succ, Nat.reduceLT, Nat.reduceAdd, Nat.reduceMul, ne_eq, Nat.reduceEqDiff, not_false_eq_true, Bool.not_false, Bool.not_true]
    refine ⟨trivial, ⟨.leaf (b + 1) id, x.h, x.w, x.last, id⟩, ?_, rfl⟩
    generalize hU : uw H T 0 [.iface 63 (.pointer (some ⟨b + 1, 0, none⟩))] = U
    have mU : Mod [T] H U := hU ▸ Mod.uw (by simp)
    have hU1 : bk U T = some ⟨69, false, [.iface 63 (.pointer (some ⟨b + 1, 0, none⟩)), .int .i64 x.h, .int .i64 x.w, .int .i64 x.last, .int .i64 x.sel]⟩ := by rw [← hU, bk_uw_eq, h1]; rfl
    generalize hV : uw U T 4 [.int .i64 id] = V
    have mV : Mod [T] U V := hV ▸ Mod.uw (by simp)
    have hV1 : bk V T = some ⟨69, false, [.iface 63 (.pointer (some ⟨b + 1, 0, none⟩)), .int .i64 x.h, .int .i64 x.w, .int .i64 x.last, .int .i64 id]⟩ := by rw [← hV, bk_uw_eq, hU1]; rfl
    have mHV := mU.trans mV
    have hbV : V.next = b := by rw [← hV, uw_next, ← hU, uw_next, hb]
    have mE := mHV.trans (Mod.ext (L := [⟨85, x.root.opn, plsOf (x.path T id)⟩, ⟨65, false, [.int .i64 id]⟩]) (mHV.ok g.ok))
    refine ⟨⟨⟨?_, ?_⟩, mE.lt g.lt, ?_, by simp [Tr.blks], ?_, mE.ok g.ok, by simp [Tr.size]⟩, mE.mono (by simp), ?_⟩
    · rw [bk_old (mHV.lt g.lt), hV1]; rfl
    · show bk _ (b + 1) = _
      rw [bk_at hbV (by simp)]; rfl
    · intro n hn
      simp only [Tr.blks, List.mem_singleton] at hn
      rw [ext_next, hbV, hn]; simp
    · simp only [Tr.blks, List.mem_singleton]; omega
    · intro n hn
      simp only [Tr.blks, List.mem_singleton] at hn
      right; omega

/-- the root alone is written, block by block -/
theorem Step.tree {H H1 : AHeap} {T : Nat} {x : Wn} {r : Tr} (g : Good H T x) (m : Mod x.root.blks H H1) (ht : TreeAt H1 r) (hv : r.val = x.root.val) (hbl : r.blks = x.root.blks) (hsz : r.size < 10000) : Step H T x H1 { x with root := r } := by
  refine ⟨⟨⟨?_, ht⟩, m.lt g.lt, fun n hn => m.lt (g.lts n (hbl ▸ hn)), by rw [hbl]; exact g.nd, by rw [hbl]; exact g.nT, m.ok g.ok, hsz⟩, m.mono (by intro n hn; simp [hn]), fun n hn => .inl (hbl ▸ hn)⟩
  rw [(m.bk g.lt g.nT).trans g.wn.1]
  simp only [Wn.cells, hv]

theorem Step.trans {H H1 H2 : AHeap} {T : Nat} {x y z : Wn} (g : Good H T x) (a : Step H T x H1 y) (b : Step H1 T y H2 z) : Step H T x H2 z := by
  refine ⟨b.good, a.mod.step b.mod g.ok (fun n hn => ?_), fun n hn => ?_⟩
  · rcases List.mem_cons.1 hn with rfl | hn
    · exact .inl (by simp)
    · rcases a.new n hn with h | h
      · exact .inl (by simp [h])
      · exact .inr h
  · rcases b.new n hn with h | h
    · exact a.new n h
    · exact .inr (Nat.le_trans a.mod.next h)

theorem Tr.balance_size : ∀ (t : Tr) (rc : Rc), (t.balance rc).size = t.size
  | .leaf _ _, _ => rfl
  | .split b be f l r, rc => by simp only [Tr.balance, Tr.size, Tr.balance_size l, Tr.balance_size r]
theorem Tr.resize_size (be : Bool) : ∀ (t : Tr) (old now : Int), (t.resize be old now).size = t.size
  | .leaf _ _, _, _ => rfl
  | .split b bb f l r, old, now => by
    unfold Tr.resize
    split <;> simp only [Tr.size, Tr.resize_size be l, Tr.resize_size be r]

theorem balance_d (T : Nat) (x : Wn) (H : AHeap) (g : Good H T x) : Does 38 [] H T x (.int .i64 0) x.abs.balance := by
  obtain ⟨b, hb⟩ : ∃ b, H.next = b := ⟨_, rfl⟩
  have h1 := g.wn.1
  simp only [Wn.cells] at h1
  have hT : T < b := hb ▸ g.lt
  refine callE_fn mixed Try.func38 rfl Try.ntmps38 (Nat.le_of_ble_eq_true rfl) ?_
  simp (maxDischargeDepth := 6) only [ruW, go_int, Option.map_some, List.length_cons, List.length_nil, List.set_cons_zero, List.set_cons_succ, List.nil_append, List.cons_append, putL, List.drop_succ_cons, List.drop_zero, List.take_succ_cons, List.take_zero, Nat.reduceLeDiff, if_true, xFA, xFD, xIA, xHB, xU4, xSz, xZ, xSl, xBd, xBs, xTA, xMI, xCm, ruU, entryE, Option.bind_some, List.map_cons, List.map_nil, List.getElem?_cons_zero, List.getElem?_cons_succ, Nat.reduceLT, Nat.reduceAdd, Nat.reduceMul, ne_eq, Nat.reduceEqDiff, not_false_eq_true, Bool.not_false, Bool.not_true]
  refine (made_c T x (ext H []) g.wn).to ?_
  simp (maxDischargeDepth := 6) only [ruW, go_int, Option.map_some, List.length_cons, List.length_nil, List.set_cons_zero, List.set_cons_succ, List.nil_append, List.cons_append, putL, List.drop_succ_cons, List.drop_zero, List.take_succ_cons, List.take_zero, Nat.reduceLeDiff, if_true, xFA, xFD, xIA, xHB, xU4, xSz, xZ, xSl, xBd, xBs, xTA, xMI, xCm, ruU, entryE, Option.bind_some, List.map_cons, List.map_nil, List.getElem?_cons_zero, List.getElem?_cons_succ, Nat.reduceLT, Nat.reduceAdd, Nat.reduceMul, ne_eq, Nat.reduceEqDiff, not_false_eq_true, Bool.not_false, Bool.not_true]
  refine w_drawB [(6, 3), (6, 5)] [] (by kernel_rfl) (by kernel_rfl) rfl fun ops anc hA hG => ?_
  simp only [all2_cons] at hA
  simp (maxDischargeDepth := 6) only [hb, hT, h1, hA, ruD, true_and, false_implies, true_implies, not_true_eq_false, implies_true, and_true, or_true, true_or, and_self, ruW, go_int, Option.map_some, List.length_cons, List.length_nil, List.set_cons_zero, List.set_cons_succ, List.nil_append, List.cons_append, putL, List.drop_succ_cons, List.drop_zero, List.take_succ_cons, List.take_zero, Nat.reduceLeDiff, if_true, xFA, xFD, xIA, xHB, xU4, xSz, xZ, xSl, xBd, xBs, xTA, xMI, xCm, ruU, entryE, Option.bind_some, List.map_cons, List.map_nil, List.getElem?_cons_zero, List.getElem?_cons_succ, Nat.reduceLT, Nat.reduceAdd, Nat.reduceMul, ne_eq, Nat.reduceEqDiff, not_false_eq_true, Bool.not_false, Bool.not_true, ruW, go_int, Option.map_some, List.length_cons, List.length_nil, List.set_cons_zero, List.set_cons_succ, List.nil_append, List.cons_append, putL, List.drop_succ_cons, List.drop_zero, List.take_succ_cons, List.take_zero, Nat.reduceLeDiff, if_true, xFA, xFD, xIA, xHB, xU4, xSz, xZ, xSl, xBd, xBs, xTA, xMI, xCm, ruU, entryE, Option.bind_some, List.map_cons, List.map_nil, List.getElem?_cons_zero, List.getElem?_cons_succ, Nat.reduceLT, Nat.reduceAdd, Nat.reduceMul, ne_eq, Nat.reduceEqDiff, not_false_eq_true, Bool.not_false, Bool.not_true]
  refine genV_quiet (v := x.frame.val) [T] (by simp (maxDischargeDepth := 6) only [ruU, entryE, Option.bind_some, List.map_cons, List.map_nil, List.getElem?_cons_zero, List.getElem?_cons_succ, Nat.reduceLT, Nat.reduceAdd, Nat.reduceMul, ne_eq, Nat.reduceEqDiff, not_false_eq_true, Bool.not_false, Bool.not_true]) (by kernel_rfl) (by decide) (fun m hm => by simp (maxDischargeDepth := 6) only [List.mem_singleton] at hm; subst hm; exact bk_ne (H := H) h1) (fun K _ hg => ?_) (by simp (maxDischargeDepth := 6) only [ruD, true_and, false_implies, true_implies, not_true_eq_false, implies_true, and_true, or_true, true_or, and_self, ruW, go_int, Option.map_some, List.length_cons, List.length_nil, List.set_cons_zero, List.set_cons_succ, List.nil_append, List.cons_append, putL, List.drop_succ_cons, List.drop_zero, List.take_succ_cons, List.take_zero, Nat.reduceLeDiff, if_true, xFA, xFD, xIA, xHB, xU4, xSz, xZ, xSl, xBd, xBs, xTA, xMI, xCm, ruU, entryE, Option.bind_some, List.map_cons, List.map_nil, List.getElem?_cons_zero, List.getElem?_cons_succ, Nat.reduceLT, Nat.reduceAdd, Nat.reduceMul, ne_eq, Nat.reduceEqDiff, not_false_eq_true, Bool.not_false, Bool.not_true, ruW, go_int, Option.map_some, List.length_cons, List.length_nil, List.set_cons_zero, List.set_cons_succ, List.nil_append, List.cons_append, putL, List.drop_succ_cons, List.drop_zero, List.take_succ_cons, List.take_zero, Nat.reduceLeDiff, if_true, xFA, xFD, xIA, xHB, xU4, xSz, xZ, xSl, xBd, xBs, xTA, xMI, xCm, ruU, entryE, Option.bind_some, List.map_cons, List.map_nil, List.getElem?_cons_zero, List.getElem?_cons_succ, Nat.reduceLT, Nat.reduceAdd, Nat.reduceMul, ne_eq, Nat.reduceEqDiff, not_false_eq_true, Bool.not_false, Bool.not_true]) ?_
  · simp only [ruU, entryE, Option.bind_some, List.map_cons, List.map_nil, List.getElem?_cons_zero, List.getElem?_cons_succ, Nat.reduceLT, Nat.reduceAdd, Nat.reduceMul, ne_eq, Nat.reduceEqDiff, not_false_eq_true, Bool.not_false, Bool.not_true]
    exact frame_c T x K ((bk_get (hg T (by simp))).trans g.wn.1)
  simp (maxDischargeDepth := 6) only [hb, hA, ruD, true_and, false_implies, true_implies, not_true_eq_false, implies_true, and_true, or_true, true_or, and_self, ruW, go_int, Option.map_some, List.length_cons, List.length_nil, List.set_cons_zero, List.set_cons_succ, List.nil_append, List.cons_append, putL, List.drop_succ_cons, List.drop_zero, List.take_succ_cons, List.take_zero, Nat.reduceLeDiff, if_true, xFA, xFD, xIA, xHB, xU4, xSz, xZ, xSl, xBd, xBs, xTA, xMI, xCm, ruU, entryE, Option.bind_some, List.map_cons, List.map_nil, List.getElem?_cons_zero, List.getElem?_cons_succ, Nat.reduceLT, Nat.reduceAdd, Nat.reduceMul, ne_eq, Nat.reduceEqDiff, not_false_eq_true, Bool.not_false, Bool.not_true, ruW, go_int, Option.map_some, List.length_cons, List.length_nil, List.set_cons_zero, List.set_cons_succ, List.nil_append, List.cons_append, putL, List.drop_succ_cons, List.drop_zero, List.take_succ_cons, List.take_zero, Nat.reduceLeDiff, if_true, xFA, xFD, xIA, xHB, xU4, xSz, xZ, xSl, xBd, xBs, xTA, xMI, xCm, ruU, entryE, Option.bind_some, List.map_cons, List.map_nil, List.getElem?_cons_zero, List.getElem?_cons_succ, Nat.reduceLT, Nat.reduceAdd, Nat.reduceMul, ne_eq, Nat.reduceEqDiff, not_false_eq_true, Bool.not_false, Bool.not_true]
  have hrn := restrict_next H x.root.blks
  obtain ⟨_, gg, hc, rfl, m1, t1⟩ := balance_c x.root x.frame (H.restrict x.root.blks) (by rw [hrn.1, hrn.2.1]; exact Nat.le_refl _) (g.wn.2.of fun m hm => by rw [restrict_get, if_pos hm]) (fun m hm => by rw [hrn.1]; exact g.lts m hm) g.nd (by have := g.sz; omega)
  refine genV_mod (H := ext H []) (W := x.root.blks) x.root.blks g.ok (by simp only [ruU, entryE, Option.bind_some, List.map_cons, List.map_nil, List.getElem?_cons_zero, List.getElem?_cons_succ, Nat.reduceLT, Nat.reduceAdd, Nat.reduceMul, ne_eq, Nat.reduceEqDiff, not_false_eq_true, Bool.not_false, Bool.not_true]) (by kernel_rfl) g.wn.2.ne g.lts (fun _ h => h) (v := .tuple #[]) (g := gg) (by simp only [ruU, entryE, Option.bind_some, List.map_cons, List.map_nil, List.getElem?_cons_zero, List.getElem?_cons_succ, Nat.reduceLT, Nat.reduceAdd, Nat.reduceMul, ne_eq, Nat.reduceEqDiff, not_false_eq_true, Bool.not_false, Bool.not_true]; exact hc) m1 (by simp only [all2_cons, hA, true_or, and_true, all2_nil]) ?_
  intro H1 D mH1 hF _ _ _
  rw [show H1 = ext H1 [] from rfl]
  simp (maxDischargeDepth := 6) only [Try.results38, ruD, true_and, false_implies, true_implies, not_true_eq_false, implies_true, and_true, or_true, true_or, and_self, ruW, go_int, Option.map_some, List.length_cons, List.length_nil, List.set_cons_zero, List.set_cons_succ, List.nil_append, List.cons_append, putL, List.drop_succ_cons, List.drop_zero, List.take_succ_cons, List.take_zero, Nat.reduceLeDiff, if_true, xFA, xFD, xIA, xHB, xU4, xSz, xZ, xSl, xBd, xBs, xTA, xMI, xCm, ruU, entryE, Option.bind_some, List.map_cons, List.map_nil, List.getElem?_cons_zero, List.getElem?_cons_succ, Nat.reduceLT, Nat.reduceAdd, Nat.reduceMul, ne_eq, Nat.reduceEqDiff, not_false_eq_true, Bool.not_false, Bool.not_true, ruW, go_int, Option.map_some, List.length_cons, List.length_nil, List.set_cons_zero, List.set_cons_succ, List.nil_append, List.cons_append, putL, List.drop_succ_cons, List.drop_zero, List.take_succ_cons, List.take_zero, Nat.reduceLeDiff, if_true, xFA, xFD, xIA, xHB, xU4, xSz, xZ, xSl, xBd, xBs, xTA, xMI, xCm, ruU, entryE, Option.bind_some, List.map_cons, List.map_nil, List.getElem?_cons_zero, List.getElem?_cons_succ, Nat.reduceLT, Nat.reduceAdd, Nat.reduceMul, ne_eq, Nat.reduceEqDiff, not_false_eq_true, Bool.not_false, Bool.not_true]
  refine ⟨{ x with root := x.root.balance x.frame }, Step.tree g mH1 (t1.of fun m hm => hF m (by rw [Tr.balance_blks] at hm; exact hm)) (Tr.balance_val _ _) (Tr.balance_blks _ _) (by rw [Tr.balance_size]; exact g.sz), ?_⟩
  simp only [Wn.abs, Ast.balance, abs_balance]
  rfl

end Go.Proofs.Ytiedpcmdimgboaa

/- What the methods of Tree come to: SetSize, Split. -/
namespace Go.Proofs.Ytiedpcmdimgboaa
open Go.Ax
set_option linter.unusedSimpArgs false
set_option maxRecDepth 10000

theorem setSize_d (T : Nat) (x : Wn) (h w : Int) (H : AHeap) (g : Good H T x) : Does 26 [.int .i64 h, .int .i64 w] H T x (.int .i64 (x.abs.setSize h w).1) (x.abs.setSize h w).2 := by
  obtain ⟨b, hb⟩ : ∃ b, H.next = b := ⟨_, rfl⟩
  have h1 := g.wn.1
  simp only [Wn.cells] at h1
  have hT : T < b := hb ▸ g.lt
  have hbase : H.base ≤ b := hb ▸ g.ok
  refine callE_fn mixed Try.func26 rfl Try.ntmps26 (Nat.le_of_ble_eq_true rfl) ?_
  simp (maxDischargeDepth := 6) only [ruW, go_int, Option.map_some, List.length_cons, List.length_nil, List.set_cons_zero, List.set_cons_succ, List.nil_append, List.cons_append, putL, List.drop_succ_cons, List.drop_zero, List.take_succ_cons, List.take_zero, Nat.reduceLeDiff, if_true, xFA, xFD, xIA, xHB, xU4, xSz, xZ, xSl, xBd, xBs, xTA, xMI, xCm, ruU, entryE, Option.bind_some, List.map_cons, List.map_nil, List.getElem?_cons_zero, List.getElem?_cons_succ, Nat.reduceLT, Nat.reduceAdd, Nat.reduceMul, ne_eq, Nat.reduceEqDiff, not_false_eq_true, Bool.not_false, Bool.not_true]
  refine (made_c T x (ext H []) g.wn).to ?_
  simp (maxDischargeDepth := 6) only [ruW, go_int, Option.map_some, List.length_cons, List.length_nil, List.set_cons_zero, List.set_cons_succ, List.nil_append, List.cons_append, putL, List.drop_succ_cons, List.drop_zero, List.take_succ_cons, List.take_zero, Nat.reduceLeDiff, if_true, xFA, xFD, xIA, xHB, xU4, xSz, xZ, xSl, xBd, xBs, xTA, xMI, xCm, ruU, entryE, Option.bind_some, List.map_cons, List.map_nil, List.getElem?_cons_zero, List.getElem?_cons_succ, Nat.reduceLT, Nat.reduceAdd, Nat.reduceMul, ne_eq, Nat.reduceEqDiff, not_false_eq_true, Bool.not_false, Bool.not_true]
  refine (within_c h w (ext H [])).to ?_
  unfold Ast.setSize
  have eT : x.abs.root.least true = least true x.root := (abs_least true x.root).symm
  have eF : x.abs.root.least false = least false x.root := (abs_least false x.root).symm
  rw [eT, eF]
  have fail : ∀ (K : Prop) [Decidable K], K → ((if K then ((3 : Int), x.abs) else (0, { x.abs with root := (x.abs.root.resize true x.abs.h h).resize false x.abs.w w, h := h, w := w })) = ((3 : Int), x.abs)) := fun K _ hK => if_pos hK
  cases hin : inside h w with
  | false =>
    simp (maxDischargeDepth := 6) only [hb, hT, h1, Try.results26, ruW, go_int, Option.map_some, List.length_cons, List.length_nil, List.set_cons_zero, List.set_cons_succ, List.nil_append, List.cons_append, putL, List.drop_succ_cons, List.drop_zero, List.take_succ_cons, List.take_zero, Nat.reduceLeDiff, if_true, xFA, xFD, xIA, xHB, xU4, xSz, xZ, xSl, xBd, xBs, xTA, xMI, xCm, ruU, entryE, Option.bind_some, List.map_cons, List.map_nil, List.getElem?_cons_zero, List.getElem?_cons_succ, Nat.reduceLT, Nat.reduceAdd, Nat.reduceMul, ne_eq, Nat.reduceEqDiff, not_false_eq_true, Bool.not_false, Bool.not_true]
    rw [fail _ (.inl trivial)]
    exact ⟨rfl, x, Step.same g Mod.refl, rfl⟩
  | true =>
    simp (maxDischargeDepth := 6) only [hb, hT, h1, ruW, go_int, Option.map_some, List.length_cons, List.length_nil, List.set_cons_zero, List.set_cons_succ, List.nil_append, List.cons_append, putL, List.drop_succ_cons, List.drop_zero, List.take_succ_cons, List.take_zero, Nat.reduceLeDiff, if_true, xFA, xFD, xIA, xHB, xU4, xSz, xZ, xSl, xBd, xBs, xTA, xMI, xCm, ruU, entryE, Option.bind_some, List.map_cons, List.map_nil, List.getElem?_cons_zero, List.getElem?_cons_succ, Nat.reduceLT, Nat.reduceAdd, Nat.reduceMul, ne_eq, Nat.reduceEqDiff, not_false_eq_true, Bool.not_false, Bool.not_true]
    refine (least_c true x.root (ext H []) g.wn.2).to ?_
    by_cases hh : h < least true x.root
    · simp (maxDischargeDepth := 6) only [hb, hT, h1, hh, decide_true, Try.results26, ruW, go_int, Option.map_some, List.length_cons, List.length_nil, List.set_cons_zero, List.set_cons_succ, List.nil_append, List.cons_append, putL, List.drop_succ_cons, List.drop_zero, List.take_succ_cons, List.take_zero, Nat.reduceLeDiff, if_true, xFA, xFD, xIA, xHB, xU4, xSz, xZ, xSl, xBd, xBs, xTA, xMI, xCm, ruU, entryE, Option.bind_some, List.map_cons, List.map_nil, List.getElem?_cons_zero, List.getElem?_cons_succ, Nat.reduceLT, Nat.reduceAdd, Nat.reduceMul, ne_eq, Nat.reduceEqDiff, not_false_eq_true, Bool.not_false, Bool.not_true]
      rw [if_pos (.inr (.inl trivial))]
      exact ⟨rfl, x, Step.same g Mod.refl, rfl⟩
    · simp (maxDischargeDepth := 6) only [hb, hT, h1, hh, decide_false, ruW, go_int, Option.map_some, List.length_cons, List.length_nil, List.set_cons_zero, List.set_cons_succ, List.nil_append, List.cons_append, putL, List.drop_succ_cons, List.drop_zero, List.take_succ_cons, List.take_zero, Nat.reduceLeDiff, if_true, xFA, xFD, xIA, xHB, xU4, xSz, xZ, xSl, xBd, xBs, xTA, xMI, xCm, ruU, entryE, Option.bind_some, List.map_cons, List.map_nil, List.getElem?_cons_zero, List.getElem?_cons_succ, Nat.reduceLT, Nat.reduceAdd, Nat.reduceMul, ne_eq, Nat.reduceEqDiff, not_false_eq_true, Bool.not_false, Bool.not_true]
      refine (least_c false x.root (ext H []) g.wn.2).to ?_
      by_cases hw : w < least false x.root
      · simp (maxDischargeDepth := 6) only [hb, hT, h1, hw, decide_true, Try.results26, ruW, go_int, Option.map_some, List.length_cons, List.length_nil, List.set_cons_zero, List.set_cons_succ, List.nil_append, List.cons_append, putL, List.drop_succ_cons, List.drop_zero, List.take_succ_cons, List.take_zero, Nat.reduceLeDiff, if_true, xFA, xFD, xIA, xHB, xU4, xSz, xZ, xSl, xBd, xBs, xTA, xMI, xCm, ruU, entryE, Option.bind_some, List.map_cons, List.map_nil, List.getElem?_cons_zero, List.getElem?_cons_succ, Nat.reduceLT, Nat.reduceAdd, Nat.reduceMul, ne_eq, Nat.reduceEqDiff, not_false_eq_true, Bool.not_false, Bool.not_true]
        rw [if_pos (.inr (.inr trivial))]
        exact ⟨rfl, x, Step.same g Mod.refl, rfl⟩
      · simp (maxDischargeDepth := 6) only [hb, hT, h1, hw, decide_false, ruW, go_int, Option.map_some, List.length_cons, List.length_nil, List.set_cons_zero, List.set_cons_succ, List.nil_append, List.cons_append, putL, List.drop_succ_cons, List.drop_zero, List.take_succ_cons, List.take_zero, Nat.reduceLeDiff, if_true, xFA, xFD, xIA, xHB, xU4, xSz, xZ, xSl, xBd, xBs, xTA, xMI, xCm, ruU, entryE, Option.bind_some, List.map_cons, List.map_nil, List.getElem?_cons_zero, List.getElem?_cons_succ, Nat.reduceLT, Nat.reduceAdd, Nat.reduceMul, ne_eq, Nat.reduceEqDiff, not_false_eq_true, Bool.not_false, Bool.not_true]
        rw [if_neg (by simp)]
        refine w_drawB [(9, 3), (9, 7)] [] (by kernel_rfl) (by kernel_rfl) rfl fun ops anc hA hG => ?_
        simp only [all2_cons] at hA
        simp (maxDischargeDepth := 6) only [hb, hT, h1, ruD, true_and, false_implies, true_implies, not_true_eq_false, implies_true, and_true, or_true, true_or, and_self, ruW, go_int, Option.map_some, List.length_cons, List.length_nil, List.set_cons_zero, List.set_cons_succ, List.nil_append, List.cons_append, putL, List.drop_succ_cons, List.drop_zero, List.take_succ_cons, List.take_zero, Nat.reduceLeDiff, if_true, xFA, xFD, xIA, xHB, xU4, xSz, xZ, xSl, xBd, xBs, xTA, xMI, xCm, ruU, entryE, Option.bind_some, List.map_cons, List.map_nil, List.getElem?_cons_zero, List.getElem?_cons_succ, Nat.reduceLT, Nat.reduceAdd, Nat.reduceMul, ne_eq, Nat.reduceEqDiff, not_false_eq_true, Bool.not_false, Bool.not_true, ruW, go_int, Option.map_some, List.length_cons, List.length_nil, List.set_cons_zero, List.set_cons_succ, List.nil_append, List.cons_append, putL, List.drop_succ_cons, List.drop_zero, List.take_succ_cons, List.take_zero, Nat.reduceLeDiff, if_true, xFA, xFD, xIA, xHB, xU4, xSz, xZ, xSl, xBd, xBs, xTA, xMI, xCm, ruU, entryE, Option.bind_some, List.map_cons, List.map_nil, List.getElem?_cons_zero, List.getElem?_cons_succ, Nat.reduceLT, Nat.reduceAdd, Nat.reduceMul, ne_eq, Nat.reduceEqDiff, not_false_eq_true, Bool.not_false, Bool.not_true]
        have hrn := restrict_next H x.root.blks
        obtain ⟨_, gg, hc, rfl, m1, t1⟩ := resize_c true x.root x.h h (H.restrict x.root.blks) (by rw [hrn.1, hrn.2.1]; exact Nat.le_refl _) (g.wn.2.of fun m hm => by rw [restrict_get, if_pos hm]) (fun m hm => by rw [hrn.1]; exact g.lts m hm) g.nd
        refine genV_mod (H := ext H []) (W := x.root.blks) x.root.blks g.ok (by simp only [ruU, entryE, Option.bind_some, List.map_cons, List.map_nil, List.getElem?_cons_zero, List.getElem?_cons_succ, Nat.reduceLT, Nat.reduceAdd, Nat.reduceMul, ne_eq, Nat.reduceEqDiff, not_false_eq_true, Bool.not_false, Bool.not_true]) (by kernel_rfl) g.wn.2.ne g.lts (fun _ h => h) (v := .tuple #[]) (g := gg) (by simp only [ruU, entryE, Option.bind_some, List.map_cons, List.map_nil, List.getElem?_cons_zero, List.getElem?_cons_succ, Nat.reduceLT, Nat.reduceAdd, Nat.reduceMul, ne_eq, Nat.reduceEqDiff, not_false_eq_true, Bool.not_false, Bool.not_true]; exact hc) m1 (by simp only [all2_cons, hA, true_or, and_true, all2_nil]) ?_
        intro H1 D mH1 hF _ _ _
        have s1 : Step H T x H1 { x with root := x.root.resize true x.h h } := Step.tree g mH1 (t1.of fun m hm => hF m (by rw [Tr.resize_blks] at hm; exact hm)) (Tr.resize_val _ _ _ _) (Tr.resize_blks _ _ _ _) (by rw [Tr.resize_size]; exact g.sz)
        generalize hy : ({ x with root := x.root.resize true x.h h } : Wn) = y at s1
        have hyh : y.h = x.h := by rw [← hy]
        have hyw : y.w = x.w := by rw [← hy]
        have g1 := s1.good
        have k1 := g1.wn.1
        simp only [Wn.cells] at k1
        have hT1 := g1.lt
        rw [show H1 = ext H1 [] from rfl]
        simp (maxDischargeDepth := 6) only [ruD, true_and, false_implies, true_implies, not_true_eq_false, implies_true, and_true, or_true, true_or, and_self, ruW, go_int, Option.map_some, List.length_cons, List.length_nil, List.set_cons_zero, List.set_cons_succ, List.nil_append, List.cons_append, putL, List.drop_succ_cons, List.drop_zero, List.take_succ_cons, List.take_zero, Nat.reduceLeDiff, if_true, xFA, xFD, xIA, xHB, xU4, xSz, xZ, xSl, xBd, xBs, xTA, xMI, xCm, ruU, entryE, Option.bind_some, List.map_cons, List.map_nil, List.getElem?_cons_zero, List.getElem?_cons_succ, Nat.reduceLT, Nat.reduceAdd, Nat.reduceMul, ne_eq, Nat.reduceEqDiff, not_false_eq_true, Bool.not_false, Bool.not_true, ruW, go_int, Option.map_some, List.length_cons, List.length_nil, List.set_cons_zero, List.set_cons_succ, List.nil_append, List.cons_append, putL, List.drop_succ_cons, List.drop_zero, List.take_succ_cons, List.take_zero, Nat.reduceLeDiff, if_true, xFA, xFD, xIA, xHB, xU4, xSz, xZ, xSl, xBd, xBs, xTA, xMI, xCm, ruU, entryE, Option.bind_some, List.map_cons, List.map_nil, List.getElem?_cons_zero, List.getElem?_cons_succ, Nat.reduceLT, Nat.reduceAdd, Nat.reduceMul, ne_eq, Nat.reduceEqDiff, not_false_eq_true, Bool.not_false, Bool.not_true]
        refine w_drawB [(9, 3), (9, 7)] [] (by kernel_rfl) (by kernel_rfl) rfl fun ops anc hA hG => ?_
        simp only [all2_cons] at hA
        simp (maxDischargeDepth := 6) only [hT1, k1, ruD, true_and, false_implies, true_implies, not_true_eq_false, implies_true, and_true, or_true, true_or, and_self, ruW, go_int, Option.map_some, List.length_cons, List.length_nil, List.set_cons_zero, List.set_cons_succ, List.nil_append, List.cons_append, putL, List.drop_succ_cons, List.drop_zero, List.take_succ_cons, List.take_zero, Nat.reduceLeDiff, if_true, xFA, xFD, xIA, xHB, xU4, xSz, xZ, xSl, xBd, xBs, xTA, xMI, xCm, ruU, entryE, Option.bind_some, List.map_cons, List.map_nil, List.getElem?_cons_zero, List.getElem?_cons_succ, Nat.reduceLT, Nat.reduceAdd, Nat.reduceMul, ne_eq, Nat.reduceEqDiff, not_false_eq_true, Bool.not_false, Bool.not_true, ruW, go_int, Option.map_some, List.length_cons, List.length_nil, List.set_cons_zero, List.set_cons_succ, List.nil_append, List.cons_append, putL, List.drop_succ_cons, List.drop_zero, List.take_succ_cons, List.take_zero, Nat.reduceLeDiff, if_true, xFA, xFD, xIA, xHB, xU4, xSz, xZ, xSl, xBd, xBs, xTA, xMI, xCm, ruU, entryE, Option.bind_some, List.map_cons, List.map_nil, List.getElem?_cons_zero, List.getElem?_cons_succ, Nat.reduceLT, Nat.reduceAdd, Nat.reduceMul, ne_eq, Nat.reduceEqDiff, not_false_eq_true, Bool.not_false, Bool.not_true]
        have hrn2 := restrict_next H1 y.root.blks
        obtain ⟨_, g2, hc2, rfl, m2, t2⟩ := resize_c false y.root y.w w (H1.restrict y.root.blks) (by rw [hrn2.1, hrn2.2.1]; exact Nat.le_refl _) (g1.wn.2.of fun m hm => by rw [restrict_get, if_pos hm]) (fun m hm => by rw [hrn2.1]; exact g1.lts m hm) g1.nd
        refine genV_mod (H := ext H1 []) (W := y.root.blks) y.root.blks g1.ok (by simp only [ruU, entryE, Option.bind_some, List.map_cons, List.map_nil, List.getElem?_cons_zero, List.getElem?_cons_succ, Nat.reduceLT, Nat.reduceAdd, Nat.reduceMul, ne_eq, Nat.reduceEqDiff, not_false_eq_true, Bool.not_false, Bool.not_true]) (by kernel_rfl) g1.wn.2.ne g1.lts (fun _ h => h) (v := .tuple #[]) (g := g2) (by simp only [ruU, entryE, Option.bind_some, List.map_cons, List.map_nil, List.getElem?_cons_zero, List.getElem?_cons_succ, Nat.reduceLT, Nat.reduceAdd, Nat.reduceMul, ne_eq, Nat.reduceEqDiff, not_false_eq_true, Bool.not_false, Bool.not_true]; exact hc2) m2 (by simp only [all2_cons, hA, true_or, and_true, all2_nil]) ?_
        intro H2 D2 mH2 hF2 _ _ _
        have s2 : Step H1 T y H2 { y with root := y.root.resize false y.w w } := Step.tree g1 mH2 (t2.of fun m hm => hF2 m (by rw [Tr.resize_blks] at hm; exact hm)) (Tr.resize_val _ _ _ _) (Tr.resize_blks _ _ _ _) (by rw [Tr.resize_size]; exact g1.sz)
        generalize hz : ({ y with root := y.root.resize false y.w w } : Wn) = z at s2
        have g2' := s2.good
        have k2 := g2'.wn.1
        simp only [Wn.cells] at k2
        have hT2 := g2'.lt
        rw [show H2 = ext H2 [] from rfl]
        simp (maxDischargeDepth := 6) only [hT2, k2, Try.results26, ruD, true_and, false_implies, true_implies, not_true_eq_false, implies_true, and_true, or_true, true_or, and_self, ruW, go_int, Option.map_some, List.length_cons, List.length_nil, List.set_cons_zero, List.set_cons_succ, List.nil_append, List.cons_append, putL, List.drop_succ_cons, List.drop_zero, List.take_succ_cons, List.take_zero, Nat.reduceLeDiff, if_true, xFA, xFD, xIA, xHB, xU4, xSz, xZ, xSl, xBd, xBs, xTA, xMI, xCm, ruU, entryE, Option.bind_some, List.map_cons, List.map_nil, List.getElem?_cons_zero, List.getElem?_cons_succ, Nat.reduceLT, Nat.reduceAdd, Nat.reduceMul, ne_eq, Nat.reduceEqDiff, not_false_eq_true, Bool.not_false, Bool.not_true, ruW, go_int, Option.map_some, List.length_cons, List.length_nil, List.set_cons_zero, List.set_cons_succ, List.nil_append, List.cons_append, putL, List.drop_succ_cons, List.drop_zero, List.take_succ_cons, List.take_zero, Nat.reduceLeDiff, if_true, xFA, xFD, xIA, xHB, xU4, xSz, xZ, xSl, xBd, xBs, xTA, xMI, xCm, ruU, entryE, Option.bind_some, List.map_cons, List.map_nil, List.getElem?_cons_zero, List.getElem?_cons_succ, Nat.reduceLT, Nat.reduceAdd, Nat.reduceMul, ne_eq, Nat.reduceEqDiff, not_false_eq_true, Bool.not_false, Bool.not_true]
        generalize hU : uw H2 T 1 [.int .i64 h] = U
        have mU : Mod [T] H2 U := hU ▸ Mod.uw (by simp)
        have kU : bk U T = some ⟨69, false, [z.root.val, .int .i64 h, .int .i64 z.w, .int .i64 z.last, .int .i64 z.sel]⟩ := by rw [← hU, bk_uw_eq, k2]; rfl
        generalize hV : uw U T 2 [.int .i64 w] = V
        have mV : Mod [T] U V := hV ▸ Mod.uw (by simp)
        have kV : bk V T = some ⟨69, false, [z.root.val, .int .i64 h, .int .i64 w, .int .i64 z.last, .int .i64 z.sel]⟩ := by rw [← hV, bk_uw_eq, kU]; rfl
        have s3 : Step H2 T z V { z with h := h, w := w } := Step.own g2' (mU.trans mV) rfl kV
        refine ⟨{ z with h := h, w := w }, Step.trans g s1 (Step.trans g1 s2 s3), ?_⟩
        rw [← hz, ← hy]
        simp only [Wn.abs, abs_resize]

end Go.Proofs.Ytiedpcmdimgboaa

/- Trees with another part: their blocks. Places in a slice. -/
namespace Go.Proofs.Ytiedpcmdimgboaa
open Go.Ax
set_option linter.unusedSimpArgs false

theorem set_blks {n : Tr} : ∀ (t : Tr) (d : List Bool), ∀ m ∈ (setAt t d n).blks, m ∈ t.blks ∨ m ∈ n.blks
  | t, [], m, h => by cases t <;> exact .inr h
  | .split b be f l r, false :: d, m, h => by
    simp only [setAt, Tr.blks, List.mem_cons, List.mem_append] at h ⊢
    rcases h with h | h | h
    · exact .inl (.inl h)
    · rcases set_blks l d m h with h | h
      · exact .inl (.inr (.inl h))
      · exact .inr h
    · exact .inl (.inr (.inr h))
  | .split b be f l r, true :: d, m, h => by
    simp only [setAt, Tr.blks, List.mem_cons, List.mem_append] at h ⊢
    rcases h with h | h | h
    · exact .inl (.inl h)
    · exact .inl (.inr (.inl h))
    · rcases set_blks r d m h with h | h
      · exact .inl (.inr (.inr h))
      · exact .inr h
  | .leaf _ _, x :: _, m, h => by cases x <;> exact .inl h

theorem set_nodup {n : Tr} (hn : n.blks.Nodup) : ∀ (t : Tr) (d : List Bool) (s : Tr), subAt t d = some s → t.blks.Nodup → (∀ m ∈ n.blks, m ∈ t.blks → m ∈ s.blks) → (setAt t d n).blks.Nodup
  | t, [], s, _, _, _ => by cases t <;> exact hn
  | .split b be f l r, false :: d, s, h, ht, hs => by
    simp only [Tr.blks, List.nodup_cons, List.nodup_append, List.mem_append, not_or] at ht
    obtain ⟨⟨hbl, hbr⟩, hnl, hnr, hlr⟩ := ht
    have hsl := sub_blks l d s h
    have ih := set_nodup hn l d s h hnl (fun m hm hl => hs m hm (by simp [Tr.blks, hl]))
    simp only [setAt, Tr.blks, List.nodup_cons, List.nodup_append, List.mem_append, not_or]
    refine ⟨⟨fun hb => ?_, hbr⟩, ih, hnr, fun m hm m' hm' e => ?_⟩
    · rcases set_blks l d b hb with h' | h'
      · exact hbl h'
      · exact hbl (hsl b (hs b h' (by simp [Tr.blks])))
    · subst e
      rcases set_blks l d m hm with h' | h'
      · exact hlr m h' m hm' rfl
      · exact hlr m (hsl m (hs m h' (by simp [Tr.blks, hm']))) m hm' rfl
  | .split b be f l r, true :: d, s, h, ht, hs => by
    simp only [Tr.blks, List.nodup_cons, List.nodup_append, List.mem_append, not_or] at ht
    obtain ⟨⟨hbl, hbr⟩, hnl, hnr, hlr⟩ := ht
    have hsr := sub_blks r d s h
    have ih := set_nodup hn r d s h hnr (fun m hm hr => hs m hm (by simp [Tr.blks, hr]))
    simp only [setAt, Tr.blks, List.nodup_cons, List.nodup_append, List.mem_append, not_or]
    refine ⟨⟨hbl, fun hb => ?_⟩, hnl, ih, fun m hm m' hm' e => ?_⟩
    · rcases set_blks r d b hb with h' | h'
      · exact hbr h'
      · exact hbr (hsr b (hs b h' (by simp [Tr.blks])))
    · subst e
      rcases set_blks r d m hm' with h' | h'
      · exact hlr m hm m h' rfl
      · exact hlr m hm m (hsr m (hs m h' (by simp [Tr.blks, hm]))) rfl
  | .leaf _ _, _ :: _, _, h, _, _ => by rw [subAt_leaf] at h; cases h

theorem set_size {n : Tr} : ∀ (t : Tr) (d : List Bool), (setAt t d n).size ≤ t.size + n.size
  | t, [] => by cases t <;> simp [setAt]
  | .split b be f l r, false :: d => by
    have := set_size (n := n) l d
    simp only [setAt, Tr.size]; omega
  | .split b be f l r, true :: d => by
    have := set_size (n := n) r d
    simp only [setAt, Tr.size]; omega
  | .leaf _ _, x :: _ => by cases x <;> simp [setAt, Tr.size]

theorem rects_length : ∀ (t : Tr) (rc : Rc), (rects t rc).length = t.size + 1
  | .leaf _ _, _ => rfl
  | .split _ be f l r, rc => by
    simp only [rects, List.length_append, rects_length l, rects_length r, Tr.size]; omega

/-- the k-th place of a slice of places -/
theorem pls_get : ∀ (ps : List Pl) (k : Nat) (p : Pl), ps[k]? = some p → ((plsOf ps).drop (k * 6)).take 6 = p.cells
  | [], k, p, h => by simp at h
  | q :: ps, 0, p, h => by
    simp only [List.getElem?_cons_zero, Option.some.injEq] at h
    subst h
    rw [plsOf_cons]
    simp [Pl.cells, Rc.cells]
  | q :: ps, k + 1, p, h => by
    have ih := pls_get ps k p (by simpa using h)
    rw [plsOf_cons, show (k + 1) * 6 = q.cells.length + k * 6 by simp [Pl.cells, Rc.cells]; omega, List.drop_append, List.drop_eq_nil_of_le (by omega), List.nil_append, Nat.add_sub_cancel_left]
    exact ih

theorem pls_load {ps : List Pl} {k : Nat} {p : Pl} {o : Bool} (h : ps[k]? = some p) : ldB Try.prog 85 (0 + k * 6) (some ⟨85, o, plsOf ps⟩) = some (.agg p.cells.toArray) := by
  have hk : k < ps.length := by
    rcases Nat.lt_or_ge k ps.length with h' | h'
    · exact h'
    · rw [List.getElem?_eq_none h'] at h; cases h
  have h1 : aggT Try.prog 85 = some true := by kernel_rfl
  have h2 : szOf Try.prog 85 = some 6 := by kernel_rfl
  simp only [ldB, h1, h2, Option.bind_some, Nat.zero_add, pls_get ps k p h]
  rw [if_pos (by rw [plsOf_length]; omega)]

theorem pls_ia {len cap n : Nat} {s : Option Nat} {i : Int} {k : Nat} (hi : i = k) (hk : k < len) : aIndexAddr Try.prog 75 (.slice (some ⟨n, 0, s⟩) len cap) (.int .i64 i) = some (.pointer (some ⟨n, 0 + k * 6, none⟩)) := by
  subst hi
  rw [ia_slice (e := 85) (sz := 6) (by kernel_rfl) (by kernel_rfl) (by omega) (by omega)]
  simp

end Go.Proofs.Ytiedpcmdimgboaa

/- What Split comes to. -/
namespace Go.Proofs.Ytiedpcmdimgboaa
open Go.Ax
set_option linter.unusedSimpArgs false
set_option maxRecDepth 10000

theorem split_d (T : Nat) (x : Wn) (id : Int) (be : Bool) (n : Int) (H : AHeap) (g : Good H T x) :
    Does 18 [.int .i64 id, .bool be, .int .i64 n] H T x (.tuple #[.int .i64 (x.abs.split id be n).1, .int .i64 (x.abs.split id be n).2.1]) (x.abs.split id be n).2.2 := by
  obtain ⟨b, hb⟩ : ∃ b, H.next = b := ⟨_, rfl⟩
  have h1 := g.wn.1
  simp only [Wn.cells] at h1
  have hT : T < b := hb ▸ g.lt
  have hbase : H.base ≤ b := hb ▸ g.ok
  have hsz := g.sz
  refine callE_fn mixed Try.func18 rfl Try.ntmps18 (Nat.le_of_ble_eq_true rfl) ?_
  simp (maxDischargeDepth := 6) only [ruW, go_int, Option.map_some, List.length_cons, List.length_nil, List.set_cons_zero, List.set_cons_succ, List.nil_append, List.cons_append, putL, List.drop_succ_cons, List.drop_zero, List.take_succ_cons, List.take_zero, Nat.reduceLeDiff, if_true, xFA, xFD, xIA, xHB, xU4, xSz, xZ, xSl, xBd, xBs, xTA, xMI, xCm, ruU, entryE, Option.bind_some, List.map_cons, List.map_nil, List.getElem?_cons_zero, List.getElem?_cons_succ, Nat.reduceLT, Nat.reduceAdd, Nat.reduceMul, ne_eq, Nat.reduceEqDiff, not_false_eq_true, Bool.not_false, Bool.not_true]
  refine (find_c T x id (ext H []) g.wn g.sz).to ?_
  unfold Ast.split
  cases hf : x.abs.root.find id with
  | none =>
    have hp := path_nil (T := T) hf
    simp only [hp, pathV, pathM, if_true]
    simp (maxDischargeDepth := 6) only [hb, hT, h1, Int.reduceEq, ne_eq, not_true_eq_false, not_false_eq_true, decide_false, decide_true, Try.results18, ruW, go_int, Option.map_some, List.length_cons, List.length_nil, List.set_cons_zero, List.set_cons_succ, List.nil_append, List.cons_append, putL, List.drop_succ_cons, List.drop_zero, List.take_succ_cons, List.take_zero, Nat.reduceLeDiff, if_true, xFA, xFD, xIA, xHB, xU4, xSz, xZ, xSl, xBd, xBs, xTA, xMI, xCm, ruU, entryE, Option.bind_some, List.map_cons, List.map_nil, List.getElem?_cons_zero, List.getElem?_cons_succ, Nat.reduceLT, Nat.reduceAdd, Nat.reduceMul, ne_eq, Nat.reduceEqDiff, not_false_eq_true, Bool.not_false, Bool.not_true]
    exact ⟨by trivial, x, Step.same g Mod.refl, rfl⟩
  | some d =>
    have hps := path_some (T := T) hf
    have hp : x.path T id ≠ [] := by rw [hps]; exact places_ne _ _ _ _ _
    replace hf : findD id x.root = some d := (abs_find id x.root).trans hf
    obtain ⟨nb, hsub⟩ := findD_sub id x.root d hf
    have hlen : (x.path T id).length = d.length + 1 := by rw [hps]; exact places_length x.root d T 0 x.frame (by rw [hsub]; simp)
    have hget := places_get x.root d [] T 0 x.frame (by rw [List.append_nil, hsub]; simp)
    rw [List.append_nil, ← hps] at hget
    generalize hca : (cellAt T 0 x.root d).1 = pa at hget
    generalize hco : (cellAt T 0 x.root d).2 = po at hget
    obtain ⟨ba, hba, hbo⟩ := cell_holds x.root d _ T 0 hsub g.wn.2 ⟨_, g.wn.1, rfl⟩
    rw [hca] at hba
    rw [hco] at hbo
    obtain ⟨ea, oa, la⟩ := ba
    simp only [Tr.val] at hbo
    have hpa : pa < b := by
      rw [← hb, ← hca]
      by_cases hd : d = []
      · subst hd
        have : (cellAt T 0 x.root []).1 = T := by cases x.root <;> rfl
        rw [this]; exact g.lt
      · exact g.lts _ (cell_mem x.root d _ T 0 hd hsub)
    have hrl : x.rects.length = x.root.size + 1 := rects_length _ _
    have era : x.abs.rects.length = x.rects.length := by
      show (x.root.abs.rects x.frame).length = (rects x.root x.frame).length
      rw [abs_rects]
    simp only [hp, pathV, pathM, if_false]
    simp (maxDischargeDepth := 6) only [hb, hT, h1, Int.reduceEq, ne_eq, not_true_eq_false, not_false_eq_true, decide_false, decide_true, ruW, go_int, Option.map_some, List.length_cons, List.length_nil, List.set_cons_zero, List.set_cons_succ, List.nil_append, List.cons_append, putL, List.drop_succ_cons, List.drop_zero, List.take_succ_cons, List.take_zero, Nat.reduceLeDiff, if_true, xFA, xFD, xIA, xHB, xU4, xSz, xZ, xSl, xBd, xBs, xTA, xMI, xCm, ruU, entryE, Option.bind_some, List.map_cons, List.map_nil, List.getElem?_cons_zero, List.getElem?_cons_succ, Nat.reduceLT, Nat.reduceAdd, Nat.reduceMul, ne_eq, Nat.reduceEqDiff, not_false_eq_true, Bool.not_false, Bool.not_true]
    have m1 : Mod [] H (ext H [⟨85, x.root.opn, plsOf (x.path T id)⟩]) := Mod.ext g.ok
    refine (rects_c T x (ext H [⟨85, x.root.opn, plsOf (x.path T id)⟩]) (by omega) (g.mod m1 (by simp) (by simp)).wn).to ?_
    simp only [era]
    by_cases h64 : 64 ≤ x.rects.length
    · have h64' : (64 : Int) ≤ (x.rects.length : Int) := by omega
      simp (maxDischargeDepth := 6) only [hb, hT, h1, h64', decide_true, Try.results18, ruW, go_int, Option.map_some, List.length_cons, List.length_nil, List.set_cons_zero, List.set_cons_succ, List.nil_append, List.cons_append, putL, List.drop_succ_cons, List.drop_zero, List.take_succ_cons, List.take_zero, Nat.reduceLeDiff, if_true, xFA, xFD, xIA, xHB, xU4, xSz, xZ, xSl, xBd, xBs, xTA, xMI, xCm, ruU, entryE, Option.bind_some, List.map_cons, List.map_nil, List.getElem?_cons_zero, List.getElem?_cons_succ, Nat.reduceLT, Nat.reduceAdd, Nat.reduceMul, ne_eq, Nat.reduceEqDiff, not_false_eq_true, Bool.not_false, Bool.not_true]
      rw [if_pos h64]
      exact ⟨by trivial, x, Step.same g (Mod.ext g.ok), rfl⟩
    · have h64' : ¬ (64 : Int) ≤ (x.rects.length : Int) := by omega
      rw [if_neg h64]
      simp (maxDischargeDepth := 6) only [hb, hT, h1, h64', decide_false, ruW, go_int, Option.map_some, List.length_cons, List.length_nil, List.set_cons_zero, List.set_cons_succ, List.nil_append, List.cons_append, putL, List.drop_succ_cons, List.drop_zero, List.take_succ_cons, List.take_zero, Nat.reduceLeDiff, if_true, xFA, xFD, xIA, xHB, xU4, xSz, xZ, xSl, xBd, xBs, xTA, xMI, xCm, ruU, entryE, Option.bind_some, List.map_cons, List.map_nil, List.getElem?_cons_zero, List.getElem?_cons_succ, Nat.reduceLT, Nat.reduceAdd, Nat.reduceMul, ne_eq, Nat.reduceEqDiff, not_false_eq_true, Bool.not_false, Bool.not_true]
      by_cases hn : n < 0
      · simp (maxDischargeDepth := 6) only [hn, decide_true, Try.results18, ruW, go_int, Option.map_some, List.length_cons, List.length_nil, List.set_cons_zero, List.set_cons_succ, List.nil_append, List.cons_append, putL, List.drop_succ_cons, List.drop_zero, List.take_succ_cons, List.take_zero, Nat.reduceLeDiff, if_true, xFA, xFD, xIA, xHB, xU4, xSz, xZ, xSl, xBd, xBs, xTA, xMI, xCm, ruU, entryE, Option.bind_some, List.map_cons, List.map_nil, List.getElem?_cons_zero, List.getElem?_cons_succ, Nat.reduceLT, Nat.reduceAdd, Nat.reduceMul, ne_eq, Nat.reduceEqDiff, not_false_eq_true, Bool.not_false, Bool.not_true]
        exact ⟨by trivial, x, Step.same g (Mod.ext g.ok), rfl⟩
      · rw [if_neg hn]
        have hw1 : IntKind.i64.wrap (((x.path T id).length : Int) - 1) = (d.length : Int) := by
          have hd := pathT_len x.root T 0 x.frame id
          have hd' : (x.path T id).length ≤ x.root.size + 1 := hd
          have := wrap_sm (n := ((x.path T id).length : Int) - 1) (by omega) (by omega)
          rw [show IntKind.i64.wrap (((x.path T id).length : Int) - 1) = ((x.path T id).length : Int) - 1 from this, hlen]
          omega
        have hia := fun s => pls_ia (len := (x.path T id).length) (cap := (x.path T id).length) (n := b + 0) (s := s) (i := IntKind.i64.wrap (((x.path T id).length : Int) - 1)) (k := d.length) hw1 (by omega)
        have hld := fun o => pls_load (o := o) hget
        simp only [Pl.cells, Rc.cells] at hld
        simp (maxDischargeDepth := 6) only [hb, hT, h1, hn, hia, hld, hbase, hpa, decide_false, ruW, go_int, Option.map_some, List.length_cons, List.length_nil, List.set_cons_zero, List.set_cons_succ, List.nil_append, List.cons_append, putL, List.drop_succ_cons, List.drop_zero, List.take_succ_cons, List.take_zero, Nat.reduceLeDiff, if_true, xFA, xFD, xIA, xHB, xU4, xSz, xZ, xSl, xBd, xBs, xTA, xMI, xCm, ruU, entryE, Option.bind_some, List.map_cons, List.map_nil, List.getElem?_cons_zero, List.getElem?_cons_succ, Nat.reduceLT, Nat.reduceAdd, Nat.reduceMul, ne_eq, Nat.reduceEqDiff, not_false_eq_true, Bool.not_false, Bool.not_true]
        have eW : x.abs.splitW d be = IntKind.i64.wrap ((rectAt x.root x.frame d).size be - bar be) := by
          show w64 ((x.root.abs.rectAt x.frame d).size be - bar be) = _
          rw [← abs_rectAt]
        have eN : x.abs.splitN d be n = if n = 0 then w64 ((x.abs.splitW d be).tdiv 2) else n := rfl
        generalize hW : x.abs.splitW d be = W at eW eN ⊢
        generalize hN : x.abs.splitN d be n = n' at eN ⊢
        refine (size_c (rectAt x.root x.frame d) be (ext H (_ :: _))).to ?_
        simp (maxDischargeDepth := 6) only [ruW, go_int, Option.map_some, List.length_cons, List.length_nil, List.set_cons_zero, List.set_cons_succ, List.nil_append, List.cons_append, putL, List.drop_succ_cons, List.drop_zero, List.take_succ_cons, List.take_zero, Nat.reduceLeDiff, if_true, xFA, xFD, xIA, xHB, xU4, xSz, xZ, xSl, xBd, xBs, xTA, xMI, xCm, ruU, entryE, Option.bind_some, List.map_cons, List.map_nil, List.getElem?_cons_zero, List.getElem?_cons_succ, Nat.reduceLT, Nat.reduceAdd, Nat.reduceMul, ne_eq, Nat.reduceEqDiff, not_false_eq_true, Bool.not_false, Bool.not_true]
        refine (bar_c be (ext H (_ :: _))).to ?_
        simp (maxDischargeDepth := 6) only [← eW, ruW, go_int, Option.map_some, List.length_cons, List.length_nil, List.set_cons_zero, List.set_cons_succ, List.nil_append, List.cons_append, putL, List.drop_succ_cons, List.drop_zero, List.take_succ_cons, List.take_zero, Nat.reduceLeDiff, if_true, xFA, xFD, xIA, xHB, xU4, xSz, xZ, xSl, xBd, xBs, xTA, xMI, xCm, ruU, entryE, Option.bind_some, List.map_cons, List.map_nil, List.getElem?_cons_zero, List.getElem?_cons_succ, Nat.reduceLT, Nat.reduceAdd, Nat.reduceMul, ne_eq, Nat.reduceEqDiff, not_false_eq_true, Bool.not_false, Bool.not_true]
        generalize hX : ext H (_ :: _) = X
        have mX : Mod [] H X := hX ▸ Mod.ext g.ok
        have hX3 : X.next = b + 3 := by rw [← hX, ext_next, hb]; rfl
        have h2X : bk X (b + 2) = some ⟨85, false, (Pl.mk pa po (rectAt x.root x.frame d)).cells⟩ := by rw [← hX, bk_at hb (by simp)]; rfl
        simp only [Pl.cells, Rc.cells] at h2X
        have gX := g.mod mX (by simp) (by simp)
        have haX : bk X pa = some ⟨ea, oa, la⟩ := (mX.bk (hb ▸ hpa) (by simp)).trans hba
        have kX := gX.wn.1
        simp only [Wn.cells] at kX
        obtain ⟨c, hc⟩ : ∃ c, X.next = c := ⟨_, rfl⟩
        have hcb : c = b + 3 := hc.symm.trans hX3
        have lpc : pa < c := by omega
        have lTc : T < c := by omega
        have l2c : b + 2 < c := by omega
        have hbc : X.base ≤ c := hc ▸ gX.ok
        refine condC_join (fun E' H' => H' = ext X [] ∧ E' 0 = .pointer (some ⟨T, 0, none⟩) ∧ E' 2 = .bool be ∧ E' 3 = .int .i64 n' ∧ E' 12 = .pointer (some ⟨b + 2, 0, none⟩) ∧ E' 13 = .int .i64 W) (fun h0 => ?_) (fun h0 => ?_) ?_
        · have h0 := of_decide_eq_true h0
          rw [if_pos h0] at eN
          rw [show X = ext X [] from rfl]
          simp (maxDischargeDepth := 6) only [Int.reduceEq, ruW, go_int, Option.map_some, List.length_cons, List.length_nil, List.set_cons_zero, List.set_cons_succ, List.nil_append, List.cons_append, putL, List.drop_succ_cons, List.drop_zero, List.take_succ_cons, List.take_zero, Nat.reduceLeDiff, if_true, xFA, xFD, xIA, xHB, xU4, xSz, xZ, xSl, xBd, xBs, xTA, xMI, xCm, ruU, entryE, Option.bind_some, List.map_cons, List.map_nil, List.getElem?_cons_zero, List.getElem?_cons_succ, Nat.reduceLT, Nat.reduceAdd, Nat.reduceMul, ne_eq, Nat.reduceEqDiff, not_false_eq_true, Bool.not_false, Bool.not_true]
          rw [joinC_normal]
          exact ⟨_, rfl, rfl, by simp only [ruU, entryE, Option.bind_some, List.map_cons, List.map_nil, List.getElem?_cons_zero, List.getElem?_cons_succ, Nat.reduceLT, Nat.reduceAdd, Nat.reduceMul, ne_eq, Nat.reduceEqDiff, not_false_eq_true, Bool.not_false, Bool.not_true], by simp only [ruU, entryE, Option.bind_some, List.map_cons, List.map_nil, List.getElem?_cons_zero, List.getElem?_cons_succ, Nat.reduceLT, Nat.reduceAdd, Nat.reduceMul, ne_eq, Nat.reduceEqDiff, not_false_eq_true, Bool.not_false, Bool.not_true], by rw [eN]; simp only [ruU, entryE, Option.bind_some, List.map_cons, List.map_nil, List.getElem?_cons_zero, List.getElem?_cons_succ, Nat.reduceLT, Nat.reduceAdd, Nat.reduceMul, ne_eq, Nat.reduceEqDiff, not_false_eq_true, Bool.not_false, Bool.not_true], by simp only [ruU, entryE, Option.bind_some, List.map_cons, List.map_nil, List.getElem?_cons_zero, List.getElem?_cons_succ, Nat.reduceLT, Nat.reduceAdd, Nat.reduceMul, ne_eq, Nat.reduceEqDiff, not_false_eq_true, Bool.not_false, Bool.not_true], by simp only [ruU, entryE, Option.bind_some, List.map_cons, List.map_nil, List.getElem?_cons_zero, List.getElem?_cons_succ, Nat.reduceLT, Nat.reduceAdd, Nat.reduceMul, ne_eq, Nat.reduceEqDiff, not_false_eq_true, Bool.not_false, Bool.not_true]⟩
        · have h0 := of_decide_eq_false h0
          rw [if_neg h0] at eN
          rw [show X = ext X [] from rfl]
          simp (maxDischargeDepth := 6) only [ruW, go_int, Option.map_some, List.length_cons, List.length_nil, List.set_cons_zero, List.set_cons_succ, List.nil_append, List.cons_append, putL, List.drop_succ_cons, List.drop_zero, List.take_succ_cons, List.take_zero, Nat.reduceLeDiff, if_true, xFA, xFD, xIA, xHB, xU4, xSz, xZ, xSl, xBd, xBs, xTA, xMI, xCm, ruU, entryE, Option.bind_some, List.map_cons, List.map_nil, List.getElem?_cons_zero, List.getElem?_cons_succ, Nat.reduceLT, Nat.reduceAdd, Nat.reduceMul, ne_eq, Nat.reduceEqDiff, not_false_eq_true, Bool.not_false, Bool.not_true]
          rw [joinC_normal]
          exact ⟨_, rfl, rfl, by simp only [ruU, entryE, Option.bind_some, List.map_cons, List.map_nil, List.getElem?_cons_zero, List.getElem?_cons_succ, Nat.reduceLT, Nat.reduceAdd, Nat.reduceMul, ne_eq, Nat.reduceEqDiff, not_false_eq_true, Bool.not_false, Bool.not_true], by simp only [ruU, entryE, Option.bind_some, List.map_cons, List.map_nil, List.getElem?_cons_zero, List.getElem?_cons_succ, Nat.reduceLT, Nat.reduceAdd, Nat.reduceMul, ne_eq, Nat.reduceEqDiff, not_false_eq_true, Bool.not_false, Bool.not_true], by rw [eN]; simp only [ruU, entryE, Option.bind_some, List.map_cons, List.map_nil, List.getElem?_cons_zero, List.getElem?_cons_succ, Nat.reduceLT, Nat.reduceAdd, Nat.reduceMul, ne_eq, Nat.reduceEqDiff, not_false_eq_true, Bool.not_false, Bool.not_true], by simp only [ruU, entryE, Option.bind_some, List.map_cons, List.map_nil, List.getElem?_cons_zero, List.getElem?_cons_succ, Nat.reduceLT, Nat.reduceAdd, Nat.reduceMul, ne_eq, Nat.reduceEqDiff, not_false_eq_true, Bool.not_false, Bool.not_true], by simp only [ruU, entryE, Option.bind_some, List.map_cons, List.map_nil, List.getElem?_cons_zero, List.getElem?_cons_succ, Nat.reduceLT, Nat.reduceAdd, Nat.reduceMul, ne_eq, Nat.reduceEqDiff, not_false_eq_true, Bool.not_false, Bool.not_true]⟩
        · rintro E _ ⟨hH, e0, e2, e3, e12, e13⟩
          rw [hH]
          simp (maxDischargeDepth := 6) only [e0, e2, e3, e12, e13, hc, h2X, l2c, lpc, haX, hbo, ruW, go_int, Option.map_some, List.length_cons, List.length_nil, List.set_cons_zero, List.set_cons_succ, List.nil_append, List.cons_append, putL, List.drop_succ_cons, List.drop_zero, List.take_succ_cons, List.take_zero, Nat.reduceLeDiff, if_true, xFA, xFD, xIA, xHB, xU4, xSz, xZ, xSl, xBd, xBs, xTA, xMI, xCm, ruU, entryE, Option.bind_some, List.map_cons, List.map_nil, List.getElem?_cons_zero, List.getElem?_cons_succ, Nat.reduceLT, Nat.reduceAdd, Nat.reduceMul, ne_eq, Nat.reduceEqDiff, not_false_eq_true, Bool.not_false, Bool.not_true]
          have hleaf : TreeAt X (.leaf nb id) := sub_tree x.root d _ hsub gX.wn.2
          refine (least_c be (.leaf nb id) (ext X []) hleaf).to ?_
          simp only [least]
          by_cases c1 : W < n'
          · simp (maxDischargeDepth := 6) only [e0, e2, e3, e12, e13, c1, decide_true, Try.results18, ruW, go_int, Option.map_some, List.length_cons, List.length_nil, List.set_cons_zero, List.set_cons_succ, List.nil_append, List.cons_append, putL, List.drop_succ_cons, List.drop_zero, List.take_succ_cons, List.take_zero, Nat.reduceLeDiff, if_true, xFA, xFD, xIA, xHB, xU4, xSz, xZ, xSl, xBd, xBs, xTA, xMI, xCm, ruU, entryE, Option.bind_some, List.map_cons, List.map_nil, List.getElem?_cons_zero, List.getElem?_cons_succ, Nat.reduceLT, Nat.reduceAdd, Nat.reduceMul, ne_eq, Nat.reduceEqDiff, not_false_eq_true, Bool.not_false, Bool.not_true]
            rw [if_pos (.inl trivial)]
            exact ⟨by trivial, x, Step.same g mX, rfl⟩
          by_cases c2 : n' < mins be
          · simp (maxDischargeDepth := 6) only [e0, e2, e3, e12, e13, c1, c2, decide_true, decide_false, Try.results18, ruW, go_int, Option.map_some, List.length_cons, List.length_nil, List.set_cons_zero, List.set_cons_succ, List.nil_append, List.cons_append, putL, List.drop_succ_cons, List.drop_zero, List.take_succ_cons, List.take_zero, Nat.reduceLeDiff, if_true, xFA, xFD, xIA, xHB, xU4, xSz, xZ, xSl, xBd, xBs, xTA, xMI, xCm, ruU, entryE, Option.bind_some, List.map_cons, List.map_nil, List.getElem?_cons_zero, List.getElem?_cons_succ, Nat.reduceLT, Nat.reduceAdd, Nat.reduceMul, ne_eq, Nat.reduceEqDiff, not_false_eq_true, Bool.not_false, Bool.not_true]
            rw [if_pos (.inr (.inl trivial))]
            exact ⟨by trivial, x, Step.same g mX, rfl⟩
          by_cases c3 : w64 (W - n') < mins be
          · simp (maxDischargeDepth := 6) only [e0, e2, e3, e12, e13, c1, c2, c3, decide_true, decide_false, Try.results18, ruW, go_int, Option.map_some, List.length_cons, List.length_nil, List.set_cons_zero, List.set_cons_succ, List.nil_append, List.cons_append, putL, List.drop_succ_cons, List.drop_zero, List.take_succ_cons, List.take_zero, Nat.reduceLeDiff, if_true, xFA, xFD, xIA, xHB, xU4, xSz, xZ, xSl, xBd, xBs, xTA, xMI, xCm, ruU, entryE, Option.bind_some, List.map_cons, List.map_nil, List.getElem?_cons_zero, List.getElem?_cons_succ, Nat.reduceLT, Nat.reduceAdd, Nat.reduceMul, ne_eq, Nat.reduceEqDiff, not_false_eq_true, Bool.not_false, Bool.not_true]
            rw [if_pos (.inr (.inr trivial))]
            exact ⟨by trivial, x, Step.same g mX, rfl⟩
          rw [if_neg (by simp only [c1, c2, c3, or_self, not_false_eq_true])]
          simp (maxDischargeDepth := 6) only [e0, e2, e3, e12, e13, c1, c2, c3, hc, lTc, kX, hbc, decide_true, decide_false, ruW, go_int, Option.map_some, List.length_cons, List.length_nil, List.set_cons_zero, List.set_cons_succ, List.nil_append, List.cons_append, putL, List.drop_succ_cons, List.drop_zero, List.take_succ_cons, List.take_zero, Nat.reduceLeDiff, if_true, xFA, xFD, xIA, xHB, xU4, xSz, xZ, xSl, xBd, xBs, xTA, xMI, xCm, ruU, entryE, Option.bind_some, List.map_cons, List.map_nil, List.getElem?_cons_zero, List.getElem?_cons_succ, Nat.reduceLT, Nat.reduceAdd, Nat.reduceMul, ne_eq, Nat.reduceEqDiff, not_false_eq_true, Bool.not_false, Bool.not_true]
          generalize hU : uw X T 3 [.int .i64 (IntKind.i64.wrap (x.last + 1))] = U
          generalize hl' : IntKind.i64.wrap (x.last + 1) = last' at hU
          have mU : Mod [T] X U := hU ▸ Mod.uw (by simp)
          have kU : bk U T = some ⟨69, false, [x.root.val, .int .i64 x.h, .int .i64 x.w, .int .i64 last', .int .i64 x.sel]⟩ := by rw [← hU, bk_uw_eq, kX]; rfl
          have hcU : U.next = c := by rw [← hU, uw_next, hc]
          have hbU : U.base ≤ c := by rw [← hU, uw_base]; exact hbc
          have h2U : bk U (b + 2) = _ := (mU.bk (by omega) (by simp; omega)).trans h2X
          obtain ⟨la', haU, hbU', hlU⟩ : ∃ la', bk U pa = some ⟨ea, oa, la'⟩ ∧ la'[po]? = some (.iface 63 (.pointer (some ⟨nb, 0, none⟩))) ∧ po + 1 ≤ la'.length := by
            by_cases hpT : pa = T
            · subst hpT
              rw [kX] at haX
              cases haX
              have hd : d = [] := by
                by_cases hd : d = []
                · exact hd
                · exact absurd (hca ▸ cell_mem x.root d _ pa 0 hd hsub) g.nT
              subst hd
              have hpo : po = 0 := by rw [← hco]; cases x.root <;> rfl
              subst hpo
              exact ⟨_, kU, hbo, by simp⟩
            · refine ⟨la, (mU.bk (hc ▸ lpc) (by simpa using hpT)).trans haX, hbo, ?_⟩
              rcases Nat.lt_or_ge po la.length with h | h
              · omega
              · rw [List.getElem?_eq_none h] at hbo; cases hbo
          have lnb : nb < c := hc ▸ gX.lts nb (sub_blks x.root d _ hsub nb (by simp [Tr.blks]))
          refine w_drawB [(22, 1), (22, 7), (22, 9), (22, 13), (22, 15), (22, 19), (16, 15), (17, 15), (18, 15), (19, 15), (20, 19), (20, 15)] [] (by kernel_rfl) (by kernel_rfl) rfl fun ops anc hA hG => ?_
          simp only [all2_cons] at hA
          simp (maxDischargeDepth := 6) only [e0, e2, e3, e12, e13, hcU, lTc, l2c, lpc, lnb, h2U, kU, haU, hbU', hlU, hbU, hA, ruD, true_and, false_implies, true_implies, not_true_eq_false, implies_true, and_true, or_true, true_or, and_self, ruW, go_int, Option.map_some, List.length_cons, List.length_nil, List.set_cons_zero, List.set_cons_succ, List.nil_append, List.cons_append, putL, List.drop_succ_cons, List.drop_zero, List.take_succ_cons, List.take_zero, Nat.reduceLeDiff, if_true, xFA, xFD, xIA, xHB, xU4, xSz, xZ, xSl, xBd, xBs, xTA, xMI, xCm, ruU, entryE, Option.bind_some, List.map_cons, List.map_nil, List.getElem?_cons_zero, List.getElem?_cons_succ, Nat.reduceLT, Nat.reduceAdd, Nat.reduceMul, ne_eq, Nat.reduceEqDiff, not_false_eq_true, Bool.not_false, Bool.not_true, ruW, go_int, Option.map_some, List.length_cons, List.length_nil, List.set_cons_zero, List.set_cons_succ, List.nil_append, List.cons_append, putL, List.drop_succ_cons, List.drop_zero, List.take_succ_cons, List.take_zero, Nat.reduceLeDiff, if_true, xFA, xFD, xIA, xHB, xU4, xSz, xZ, xSl, xBd, xBs, xTA, xMI, xCm, ruU, entryE, Option.bind_some, List.map_cons, List.map_nil, List.getElem?_cons_zero, List.getElem?_cons_succ, Nat.reduceLT, Nat.reduceAdd, Nat.reduceMul, ne_eq, Nat.reduceEqDiff, not_false_eq_true, Bool.not_false, Bool.not_true]
          generalize hV : uw U pa po [.iface 81 (.pointer (some ⟨c + 1, 0, none⟩))] = V
          generalize hf' : IntKind.i64.wrap (W - n') = f'
          have hcV : V.next = c := by rw [← hV, uw_next, hcU]
          have mV : Mod [pa] U V := hV ▸ Mod.uw (by simp)
          have hnew : (Tr.split (c + 1) be f' (.leaf nb id) (.leaf (c + 0) last')).val = .iface 81 (.pointer (some ⟨c + 1, 0, none⟩)) := rfl
          generalize hnw : Tr.split (c + 1) be f' (.leaf nb id) (.leaf (c + 0) last') = nw' at hnew
          have hdT : d = [] → pa = T ∧ po = 0 := fun hd => by subst hd; rw [← hca, ← hco]; cases x.root <;> exact ⟨rfl, rfl⟩
          have hdN : d ≠ [] → pa ≠ T := fun hd e => g.nT (e ▸ hca ▸ cell_mem x.root d _ T 0 hd hsub)
          have kV : bk V T = some ⟨69, false, [(setAt x.root d nw').val, .int .i64 x.h, .int .i64 x.w, .int .i64 last', .int .i64 x.sel]⟩ := by
            by_cases hd : d = []
            · obtain ⟨rfl, rfl⟩ := hdT hd
              subst hd
              rw [← hV, bk_uw_eq, kU, show setAt x.root [] nw' = nw' by cases x.root <;> rfl, hnew]
              rfl
            · rw [← hV, bk_uw_ne (Ne.symm (hdN hd)), kU, setAt_val hd]
          have nbm : nb ∈ x.root.blks := sub_blks x.root d _ hsub nb (by simp [Tr.blks])
          have nbp : nb ≠ pa := by
            by_cases hd : d = []
            · obtain ⟨rfl, _⟩ := hdT hd
              exact fun e => g.nT (e ▸ nbm)
            · exact fun e => cell_not x.root d _ T 0 hd hsub g.nd (by rw [hca, ← e]; simp [Tr.blks])
          have gU := gX.wn.2.mod mU gX.lts (fun m hm h => g.nT (by simp only [List.mem_singleton] at h; exact h ▸ hm))
          simp (maxDischargeDepth := 6) only [hcV, lTc, kV, Try.results18, ruW, go_int, Option.map_some, List.length_cons, List.length_nil, List.set_cons_zero, List.set_cons_succ, List.nil_append, List.cons_append, putL, List.drop_succ_cons, List.drop_zero, List.take_succ_cons, List.take_zero, Nat.reduceLeDiff, if_true, xFA, xFD, xIA, xHB, xU4, xSz, xZ, xSl, xBd, xBs, xTA, xMI, xCm, ruU, entryE, Option.bind_some, List.map_cons, List.map_nil, List.getElem?_cons_zero, List.getElem?_cons_succ, Nat.reduceLT, Nat.reduceAdd, Nat.reduceMul, ne_eq, Nat.reduceEqDiff, not_false_eq_true, Bool.not_false, Bool.not_true]
          refine ⟨by rw [← hl']; rfl, ⟨setAt x.root d nw', x.h, x.w, last', x.sel⟩, ?_, ?_⟩
          · generalize hE : ext V [_, _] = Y
            have mY : Mod [] V Y := hE ▸ Mod.ext ((mV.ok (mU.ok (mX.ok g.ok))))
            have hYn : Y.next = c + 2 := by rw [← hE, ext_next, hcV]; rfl
            have hbl : ∀ m ∈ (setAt x.root d nw').blks, m ∈ x.root.blks ∨ m = c + 1 ∨ m = c := fun m hm => by
              rcases set_blks x.root d m hm with h | h
              · exact .inl h
              · rw [← hnw] at h
                simp only [Tr.blks, List.mem_cons, List.mem_append, List.not_mem_nil, or_false, List.cons_append, List.nil_append] at h
                rcases h with h | h | h
                · exact .inr (.inl h)
                · exact .inl (h ▸ nbm)
                · exact .inr (.inr (by omega))
            have hlc : ∀ m ∈ x.root.blks, m < c := fun m hm => hc ▸ gX.lts m hm
            refine ⟨⟨⟨(mY.bk (hcV ▸ lTc) (by simp)).trans kV, ?_⟩, by omega, ?_, ?_, ?_, mY.ok (mV.ok (mU.ok (mX.ok g.ok))), ?_⟩, ?_, ?_⟩
            · refine setAt_tree (H := U) x.root d _ T 0 hsub g.nd gU ?_ ?_ ?_
              · rw [← hnw]
                refine ⟨?_, ?_, ?_⟩
                · rw [← hE, bk_at hcV (by simp)]; rfl
                · have hl := sub_tree x.root d _ hsub gU
                  simp only [TreeAt] at hl ⊢
                  rw [mY.bk (hcV ▸ lnb) (by simp), mV.bk (hcU ▸ lnb) (by simpa using nbp), hl]
                · simp only [TreeAt]
                  rw [← hE, bk_at hcV (by simp)]; rfl
              · intro m hm _ hne
                rw [hca] at hne
                rw [mY.get m (hcV ▸ hlc m hm) (by simp), mV.get m (hcU ▸ hlc m hm) (by simpa using hne)]
              · intro hd
                rw [hca, hco]
                exact ⟨_, haU, by rw [mY.bk (hcV ▸ lpc) (by simp), ← hV, bk_uw_eq, haU, hnew]; rfl⟩
            · intro m hm
              rcases hbl m hm with h | h | h
              · have := hlc m h; omega
              · omega
              · omega
            · refine set_nodup ?_ x.root d _ hsub g.nd ?_
              · rw [← hnw]
                simp only [Tr.blks, List.nodup_cons, List.mem_cons, List.mem_append, List.not_mem_nil, or_false, List.cons_append, List.nil_append, List.nodup_nil, and_true, not_false_eq_true]
                omega
              · intro m hm hr
                rw [← hnw] at hm
                have := hlc m hr
                simp only [Tr.blks, List.mem_cons, List.mem_append, List.not_mem_nil, or_false, List.cons_append, List.nil_append] at hm ⊢
                omega
            · intro h
              rcases hbl T h with h | h | h
              · exact g.nT h
              · omega
              · omega
            · have := set_size (n := nw') x.root d
              rw [← hnw] at this
              simp only [Tr.size] at this
              rw [← hnw]
              show (setAt x.root d _).size < 10000
              omega
            · refine (((mX.mono (by simp)).trans (mU.mono (by simp))).trans (mV.mono ?_)).trans (mY.mono (by simp))
              intro m hm
              simp only [List.mem_singleton] at hm
              subst hm
              by_cases hd : d = []
              · rw [(hdT hd).1]; simp
              · rw [← hca]; exact List.mem_cons_of_mem _ (cell_mem x.root d _ T 0 hd hsub)
            · intro m hm
              rcases hbl m hm with h | h | h
              · exact .inl h
              · exact .inr (by omega)
              · exact .inr (by omega)
          · simp only [Wn.abs, abs_set]
            rw [← hnw, ← hl', ← hf']
            rfl

end Go.Proofs.Ytiedpcmdimgboaa
