/- Parts of the proof, one behind the other. -/
import Derived.Test.YtiedpcmdimgboaaM6
import Derived.Test.YtiedpcmdimgboaaM5
set_option linter.all false

/- What the reference's Delete comes to. -/
namespace Go.Proofs.Ytiedpcmdimgboaa
open Go.Ax
set_option linter.unusedSimpArgs false
set_option maxRecDepth 10000

def Rr.move (n : Nat) : Rr → Rr
  | .leaf _ i => .leaf n i
  | .split _ be f l r => .split n be f l r
theorem Rr.move_root (n : Nat) (t : Rr) : (t.move n).root = n := by cases t <;> rfl
theorem Rr.move_abs (n : Nat) (t : Rr) : (t.move n).abs = t.abs := by cases t <;> rfl
theorem Rr.move_blks (n : Nat) (t : Rr) (k : Nat) (h : k ∈ (t.move n).blks) : k = n ∨ k ∈ t.blks := by
  cases t with
  | leaf m i => simp only [Rr.move, Rr.blks, List.mem_singleton] at h; exact .inl h
  | split m be f l r =>
    simp only [Rr.move, Rr.blks, List.mem_cons, List.mem_append] at h ⊢
    rcases h with h | h | h
    · exact .inl h
    · exact .inr (.inr (.inl h))
    · exact .inr (.inr (.inr h))
theorem Rr.move_nodup {n : Nat} {t : Rr} (h : t.blks.Nodup) (hn : n ∉ t.blks) : (t.move n).blks.Nodup := by
  cases t with
  | leaf m i => simp [Rr.move, Rr.blks]
  | split m be f l r =>
    simp only [Rr.move, Rr.blks, List.nodup_cons, List.mem_cons, not_or] at h hn ⊢
    exact ⟨hn.2, h.2⟩

theorem Rr.put_put (a b : Rr) (e : List Bool) : ∀ (t : Rr) (d : List Bool) (s : Rr), t.sub d = some s → (t.put (d ++ e) a).put d b = t.put d b
  | t, [], s, h => by rw [Rr.put_nil, Rr.put_nil]
  | .split m be f l r, false :: d, s, h => by simp only [List.cons_append, Rr.put, Rr.put_put a b e l d s h]
  | .split m be f l r, true :: d, s, h => by simp only [List.cons_append, Rr.put, Rr.put_put a b e r d s h]
  | .leaf _ _, x :: _, s, h => by rw [Rr.sub_leaf] at h; cases h
theorem Rr.sub_put (a : Rr) (e : List Bool) : ∀ (t : Rr) (d : List Bool) (s : Rr), t.sub d = some s → (t.put (d ++ e) a).sub d = some (s.put e a)
  | t, [], s, h => by
    rw [Rr.sub_nil] at h
    cases h
    rw [Rr.sub_nil]; rfl
  | .split m be f l r, false :: d, s, h => Rr.sub_put a e l d s h
  | .split m be f l r, true :: d, s, h => Rr.sub_put a e r d s h
  | .leaf _ _, x :: _, s, h => by rw [Rr.sub_leaf] at h; cases h

theorem Atr.first_resize (be : Bool) : ∀ (t : Atr) (old now : Int), (t.resize be old now).first = t.first
  | .leaf _, _, _ => rfl
  | .split bb f l r, old, now => by
    simp only [Atr.resize]
    split <;> simp only [Atr.first, Atr.first_resize be l]

theorem side_eq {be : Bool} {f : Int} {l r : Atr} {rc : Rc} (h : (Atr.split be f l r).fits rc.dim) (hs : (Atr.split be f l r).size < 1000) (hd : ∀ b, rc.size b ≤ 100000) :
    l.rresize be ((partA be f rc).size be) (rc.size be) = l.resize be ((partA be f rc).size be) (rc.size be) ∧ r.rresize be ((partB be f rc).size be) (rc.size be) = r.resize be ((partB be f rc).size be) (rc.size be) := by
  simp only [Atr.size] at hs
  have hl := Atr.fits_lst l _ h.1 be
  have hr := Atr.fits_lst r _ h.2 be
  rw [Dim.set_same] at hl hr
  have pl := Atr.lst_pos be l
  have pr := Atr.lst_pos be r
  have hbar : 0 ≤ bar be ∧ bar be ≤ 1 := by cases be <;> decide
  have hd' := hd be
  rw [← Rc.dim_eq] at hd'
  have eA := partA_dim be f rc
  have eB : (partB be f rc).dim = rc.dim.set be (rc.size be - f - bar be) := partB_dim (by omega) (by omega) (by rw [← Rc.dim_eq]; omega) (hd be)
  have h1 : l.fits (partA be f rc).dim := by rw [eA]; exact h.1
  have h2 : r.fits (partB be f rc).dim := by rw [eB]; exact h.2
  have d1 : (partA be f rc).dim be = f := by rw [eA, Dim.set_same]
  have d2 : (partB be f rc).dim be = rc.size be - f - bar be := by rw [eB, Dim.set_same]
  rw [Rc.dim_eq] at hd' hr d1 d2
  exact ⟨Atr.rresize_eq be l _ _ h1 (by omega) (by rw [d1]; omega) (hd be) (by omega), Atr.rresize_eq be r _ _ h2 (by omega) (by rw [d2]; omega) (hd be) (by omega)⟩

theorem Atr.find_nil {id : Int} {t : Atr} (h : t.find id = some []) : t = .leaf id := by
  have := Atr.find_sub id t [] h
  rw [Atr.sub_nil] at this
  exact Option.some.inj this

theorem Rr.leaf_of {t : Rr} {id : Int} (h : t.abs = .leaf id) : ∃ n, t = .leaf n id := by
  cases t with
  | leaf n i => simp only [Rr.abs, Atr.leaf.injEq] at h; exact ⟨n, by rw [h]⟩
  | split n be f l r => simp only [Rr.abs, reduceCtorEq] at h

theorem rnode {H : AHeap} {t : Rr} (h : RefAt H t) : ∃ i be f, ∃ a b : Option Addr, bk H t.root = some ⟨100, false, [.int .i64 i, .bool be, .int .i64 f, .pointer a, .pointer b]⟩ ∧
    ((∃ n, t = .leaf n i ∧ a = none ∧ b = none) ∨ (∃ n l r, t = .split n be f l r ∧ a = some ⟨l.root, 0, none⟩ ∧ b = some ⟨r.root, 0, none⟩)) := by
  cases t with
  | leaf n i =>
    obtain ⟨be, f, h⟩ := h
    exact ⟨i, be, f, none, none, h, .inl ⟨n, rfl, rfl, rfl⟩⟩
  | split n be f l r =>
    obtain ⟨⟨i, h⟩, hl, hr⟩ := h
    exact ⟨i, be, f, some ⟨l.root, 0, none⟩, some ⟨r.root, 0, none⟩, h, .inr ⟨n, l, r, rfl, rfl, rfl⟩⟩

theorem RefAt.move {H Z : AHeap} {t : Rr} {n : Nat} {bl : Bl} (h : RefAt H t) (hb : bk H t.root = some bl) (hz : bk Z n = some bl) (hnd : t.blks.Nodup) (hg : ∀ m ∈ t.blks, m ≠ n → Z.get m = H.get m) (hn : n ∉ t.blks) : RefAt Z (t.move n) := by
  cases t with
  | leaf m i =>
    obtain ⟨be, f, h⟩ := h
    rw [Rr.root, h] at hb
    cases hb
    exact ⟨be, f, hz⟩
  | split m be f l r =>
    obtain ⟨⟨i, h⟩, hl, hr⟩ := h
    rw [Rr.root, h] at hb
    cases hb
    exact ⟨⟨i, hz⟩, hl.of fun k hk => hg k (by simp [Rr.blks, hk]) fun e => hn (by simp [Rr.blks, ← e, hk]), hr.of fun k hk => hg k (by simp [Rr.blks, hk]) fun e => hn (by simp [Rr.blks, ← e, hk])⟩

theorem delete_at {s : Ast} {id : Int} {pre : List Bool} {lst : Bool} {be : Bool} {f : Int} {l r : Atr} (hf : s.root.find id = some (pre ++ [lst])) (hs : s.root.sub pre = some (.split be f l r)) :
    s.delete id = (0, { s with root := s.root.set pre ((if lst then l else r).resize be ((if lst then partA be f (s.root.rectAt s.frame pre) else partB be f (s.root.rectAt s.frame pre)).size be) ((s.root.rectAt s.frame pre).size be)), sel := if s.sel = id then (if lst then l else r).first else s.sel }) := by
  unfold Ast.delete
  rw [hf]
  have h1 : (pre ++ [lst]).dropLast = pre := by simp
  have h2 : (pre ++ [lst]).getLast? = some lst := by simp
  simp only [List.append_eq_nil_iff, List.cons_ne_self, and_false, if_false, h1, h2, hs]
  cases lst <;> rfl

set_option maxHeartbeats 4000000 in
theorem rdelete_d (o : Nat) (y : Rw) (id : Int) (H : AHeap) (g : RGood H o y) {m : Int} (v : Inv y.abs m) : RDoes 55 [.int .i64 id] H o y (.int .i64 (y.abs.delete id).1) (y.abs.delete id).2 := by
  obtain ⟨b, hb⟩ : ∃ b, H.next = b := ⟨_, rfl⟩
  have h1 := g.at'
  simp only [Rw.cells, Rr.val] at h1
  have ho : o < b := hb ▸ g.lt
  have hbase : H.base ≤ b := hb ▸ g.ok
  have hts := v.tsize
  have hroot : y.root.root < b := hb ▸ g.lts _ y.root.root_mem
  refine callE_fn mixed Try.func55 rfl Try.ntmps55 (Nat.le_of_ble_eq_true rfl) ?_
  simp (maxDischargeDepth := 6) only [ruW, putL, Nat.reduceLeDiff, xF, ruU, entryE, Nat.reduceLT, Nat.reduceAdd, Nat.reduceMul, Nat.reduceEqDiff]
  refine (rknown_c o y id (ext H []) g.at' g.ref).to ?_
  cases hf : y.abs.root.find id with
  | none =>
    have hi : ¬ id ∈ y.root.abs.ids := Atr.find_none id _ hf
    rw [show y.abs.delete id = (8, y.abs) by unfold Ast.delete; rw [hf]]
    simp (maxDischargeDepth := 6) only [hi, if_false, hb, ho, h1, Int.reduceEq, ne_eq, not_true_eq_false, not_false_eq_true, decide_false, decide_true, Try.results55, ruW, putL, Nat.reduceLeDiff, xF, ruU, entryE, Nat.reduceLT, Nat.reduceAdd, Nat.reduceMul, Nat.reduceEqDiff]
    exact ⟨by trivial, y, RStep.same g Mod.refl, rfl⟩
  | some d =>
  have hi : id ∈ y.root.abs.ids := Atr.find_iff.2 ⟨d, hf⟩
  cases hyr : y.root with
  | leaf rn ri =>
    have hr := g.ref
    rw [hyr] at hr
    obtain ⟨rb, rf, hr⟩ := hr
    have hd : d = [] := by
      have := hf
      rw [show y.abs.root = .leaf ri by show y.root.abs = _; rw [hyr]; rfl] at this
      simp only [Atr.find] at this
      split at this
      · exact (Option.some.inj this).symm
      · cases this
    rw [show y.abs.delete id = (9, y.abs) by unfold Ast.delete; rw [hf]; simp [hd]]
    simp only [hyr, Rr.root] at h1 hroot hi
    simp (maxDischargeDepth := 6) only [hyr, hi, if_true, hb, ho, h1, hroot, hr, pn58, Int.reduceEq, ne_eq, not_true_eq_false, not_false_eq_true, decide_false, decide_true, Try.results55, ruW, putL, Nat.reduceLeDiff, xF, ruU, entryE, Nat.reduceLT, Nat.reduceAdd, Nat.reduceMul, Nat.reduceEqDiff]
    exact ⟨by trivial, y, RStep.same g Mod.refl, rfl⟩
  | split rn rbe rf rl rr =>
  have hr := g.ref
  rw [hyr] at hr
  obtain ⟨⟨rid, hr⟩, _, _⟩ := hr
  have hd0 : d ≠ [] := fun hd => by
    rw [hd] at hf
    have := Atr.find_nil hf
    rw [show y.abs.root = y.root.abs from rfl, hyr] at this
    simp only [Rr.abs, reduceCtorEq] at this
  simp only [Rr.val] at hr
  have h1' := h1
  have hi' := hi
  simp only [hyr, Rr.root] at h1' hroot hi'
  simp (maxDischargeDepth := 6) only [hyr, hi', if_true, hb, ho, h1', hroot, hr, pp58, Int.reduceEq, ne_eq, not_true_eq_false, not_false_eq_true, decide_false, decide_true, ruW, putL, Nat.reduceLeDiff, xF, ruU, entryE, Nat.reduceLT, Nat.reduceAdd, Nat.reduceMul, Nat.reduceEqDiff]
  refine w_drawB [(8, 3), (8, 5), (7, 5), (8, 6), (7, 6)] [] (by kernel_rfl) (by kernel_rfl) rfl fun ops anc hA hG => ?_
  simp only [all2_cons] at hA
  simp (maxDischargeDepth := 6) only [hb, ho, h1', hA, ruD, ruW, putL, Nat.reduceLeDiff, xF, ruU, entryE, Nat.reduceLT, Nat.reduceAdd, Nat.reduceMul, Nat.reduceEqDiff]
  refine genV_quiet (v := y.frame.val) [o] (by simp (maxDischargeDepth := 6) only [ruU, entryE, Nat.reduceLT, Nat.reduceAdd, Nat.reduceMul, Nat.reduceEqDiff]) (by kernel_rfl) (by decide) (fun m hm => by simp (maxDischargeDepth := 6) only [List.mem_singleton] at hm; subst hm; exact bk_ne (H := H) h1) (fun K _ hg => ?_) (by simp (maxDischargeDepth := 6) only [ruD, ruW, putL, Nat.reduceLeDiff, xF, ruU, entryE, Nat.reduceLT, Nat.reduceAdd, Nat.reduceMul, Nat.reduceEqDiff]) ?_
  · simp only [ruU, entryE, Nat.reduceLT, Nat.reduceAdd, Nat.reduceMul, Nat.reduceEqDiff]
    exact rall_c o y K ((bk_get (hg o (by simp))).trans g.at')
  simp (maxDischargeDepth := 6) only [Rc.val, hb, hbase, hA, ruD, ruW, putL, Nat.reduceLeDiff, xF, ruU, entryE, Nat.reduceLT, Nat.reduceAdd, Nat.reduceMul, Nat.reduceEqDiff]
  refine w_env fun E hE => ?_
  have e0 : E 0 = .pointer (some ⟨o, 0, none⟩) := by rw [hE]; simp only [ruU, entryE, Nat.reduceLT, Nat.reduceAdd, Nat.reduceMul, Nat.reduceEqDiff]
  have e1 : E 1 = .int .i64 id := by rw [hE]; simp only [ruU, entryE, Nat.reduceLT, Nat.reduceAdd, Nat.reduceMul, Nat.reduceEqDiff]
  have e5 : E 5 = y.root.val := by rw [hE, hyr]; simp only [Rr.val, Rr.root, ruU, entryE, Nat.reduceLT, Nat.reduceAdd, Nat.reduceMul, Nat.reduceEqDiff]
  have e6 : E 6 = .pointer (some ⟨b + 0, 0, none⟩) := by rw [hE]; simp only [ruU, entryE, Nat.reduceLT, Nat.reduceAdd, Nat.reduceMul, Nat.reduceEqDiff]
  clear hE
  generalize hX : ext H [_] = X
  have mX0 : Mod [] H X := hX ▸ Mod.ext g.ok
  have lbX : b + 0 < X.next := by rw [← hX, ext_next, hb]; simp
  have hcX : bk X (b + 0) = some ⟨35, false, y.frame.cells⟩ := by rw [← hX, bk_at hb (by simp)]; rfl
  clear hX hA hG
  have hnd := v.nd
  refine w_loop (fun (s : Rr) E' H' => ∃ pre e rc, Mod [] H H' ∧ b + 0 < H'.next ∧ bk H' (b + 0) = some ⟨35, false, Rc.cells rc⟩ ∧ y.root.sub pre = some s ∧ d = pre ++ e ∧ s.abs.find id = some e ∧ e ≠ [] ∧ y.root.abs.rectAt y.frame pre = rc ∧
    E' 0 = .pointer (some ⟨o, 0, none⟩) ∧ E' 1 = .int .i64 id ∧ E' 5 = s.val ∧ E' 6 = .pointer (some ⟨b + 0, 0, none⟩)) Rr.size y.root
    ⟨[], d, y.frame, mX0, lbX, hcX, Rr.sub_nil _, rfl, hf, hd0, Atr.rectAt_nil _ _, e0, e1, e5, e6⟩ ?_
  clear mX0 lbX hcX e0 e1 e5 e6
  rintro s E H' ⟨pre, e, rc, m0, lb, hcell, hsub, hde, hfe, hene, hrc, e0, e1, e5, e6⟩
  cases s with
  | leaf sn si =>
    simp only [Rr.abs, Atr.find] at hfe
    split at hfe
    · exact absurd (Option.some.inj hfe).symm hene
    · cases hfe
  | split n be f l r =>
  have gH := g.mod m0 (by simp) (by simp)
  have hsa : y.abs.root.sub pre = some (.split be f l.abs r.abs) := by
    rw [show y.abs.root = y.root.abs from rfl, ← Rr.abs_sub, hsub]; rfl
  obtain ⟨⟨idn, hn⟩, hl, hr⟩ := Rr.sub_at y.root pre _ hsub gH.ref
  have hsb := Rr.sub_blks y.root pre _ hsub
  have hsnd := Rr.sub_nodup y.root pre _ hsub g.nd
  have hlt : ∀ k ∈ (Rr.split n be f l r).blks, k < H'.next := fun k hk => gH.lts k (hsb k hk)
  have hnn : n < H'.next := hlt n (by simp [Rr.blks])
  have hids : (l.abs.ids ++ r.abs.ids).Nodup := by
    obtain ⟨q1, q2, hq, _⟩ := Atr.ctx y.abs.root pre _ hsa
    have := v.nd
    rw [hq] at this
    exact (List.nodup_append.1 (List.nodup_append.1 this).2.1).1
  have hidx : id ∈ l.abs.ids → id ∉ r.abs.ids := fun h1 h2 => (List.nodup_append.1 hids).2.2 id h1 id h2 rfl
  have hfit := Atr.at_fits y.abs.root pre _ y.abs.frame hsa v.fit (fun b => by have := v.size b; omega)
  have hrc' : y.abs.root.rectAt y.abs.frame pre = rc := hrc
  rw [hrc'] at hfit
  have hside := side_eq (l := l.abs) (r := r.abs) (rc := rc) hfit.1 (by
    have q1 := Atr.ids_length y.abs.root
    obtain ⟨q2, q3, hq, _⟩ := Atr.ctx y.abs.root pre _ hsa
    have q4 := Atr.ids_length (.split be f l.abs r.abs)
    rw [hq] at q1
    simp only [List.length_append] at q1
    omega) (fun b => by have := hfit.2 b; have := v.size b; omega)
  obtain ⟨z, hz⟩ : ∃ z, H'.next = z := ⟨_, rfl⟩
  have hzb : H'.base ≤ z := hz ▸ gH.ok
  rw [hz] at hnn lb
  simp only [Rr.val, Rr.root] at e5
  rw [show H' = ext H' [] from rfl]
  simp only [Rc.cells] at hcell
  simp (maxDischargeDepth := 6) only [e0, e1, e5, e6, hz, lb, hcell, ruW, putL, Nat.reduceLeDiff, xF, ruU, entryE, Nat.reduceLT, Nat.reduceAdd, Nat.reduceMul, Nat.reduceEqDiff]
  refine (rsides_c n idn be f _ _ rc (ext H' []) hn).to ?_
  simp only [Rr.val] at hn
  have lw : ∀ w, w < z → w < z := fun _ h => h
  have hll : ∀ k ∈ l.blks, k < H'.next := fun k hk => hlt k (by simp [Rr.blks, hk])
  have hlr : ∀ k ∈ r.blks, k < H'.next := fun k hk => hlt k (by simp [Rr.blks, hk])
  have llr : l.root < z := hz ▸ hll _ l.root_mem
  have lrr : r.root < z := hz ▸ hlr _ r.root_mem
  obtain ⟨il, bel, fl, al, bl, hlc, hlk⟩ := rnode hl
  obtain ⟨ir, ber, fr, ar, br, hrc2, hrk⟩ := rnode hr
  simp only [Rr.blks, List.nodup_cons, List.nodup_append, List.mem_append, not_or] at hsnd
  obtain ⟨⟨hnl, hnr⟩, hndl, hndr, hlr'⟩ := hsnd
  have hpos := Atr.find_split hfe
  have hsa' : y.root.abs.sub pre = some (.split be f l.abs r.abs) := hsa
  have hD : ∀ e', l.abs.find id = some e' → al ≠ none → e' ≠ [] := fun e' he' ha h => by
    subst h
    obtain ⟨q, rfl⟩ := Rr.leaf_of (Atr.find_nil he')
    rcases hlk with ⟨_, _, h, _⟩ | ⟨_, _, _, h, _⟩
    · exact ha h
    · cases h
  have hDr : ∀ e', r.abs.find id = some e' → ar ≠ none → e' ≠ [] := fun e' he' ha h => by
    subst h
    obtain ⟨q, rfl⟩ := Rr.leaf_of (Atr.find_nil he')
    rcases hrk with ⟨_, _, h, _⟩ | ⟨_, _, _, h, _⟩
    · exact ha h
    · cases h
  rcases hlk with ⟨nl, hlq, rfl, rfl⟩ | ⟨nl, l1, l2, hlq, rfl, rfl⟩
  · rcases hpos with ⟨hmem, e', rfl, he'⟩ | ⟨hmem, e', rfl, he'⟩
    · have hil : il = id := by rw [hlq] at hmem; simp only [Rr.abs, Atr.ids, List.mem_singleton] at hmem; exact hmem.symm
      have he0 : e' = [] := by rw [hlq, hil] at he'; simp only [Rr.abs, Atr.find, if_true, Option.some.injEq] at he'; exact he'.symm
      subst he0
      simp (maxDischargeDepth := 6) only [Rc.val, e0, e1, e5, e6, hz, hzb, lb, hcell, hnn, hn, llr, lrr, hlc, hrc2, pn58, hil, decide_true, ruW, putL, Nat.reduceLeDiff, xF, ruU, entryE, Nat.reduceLT, Nat.reduceAdd, Nat.reduceMul, Nat.reduceEqDiff]
      generalize hZ : ext H' (_ :: _) = Z
      have mZ : Mod [] H' Z := hZ ▸ Mod.ext gH.ok
      have m0Z := m0.trans mZ
      have gZ := g.mod m0Z (by simp) (by simp)
      have hnZ := (mZ.bk (hz ▸ hnn) (by simp)).trans hn
      have hcZ := (mZ.bk (hz ▸ lb) (by simp)).trans hcell
      have hpZ : bk Z (z + 1) = some ⟨35, false, (partB be f rc).cells⟩ := by rw [← hZ, bk_at hz (by simp)]; rfl
      have hZn : Z.next = z + 2 := by rw [← hZ, ext_next, hz]; rfl
      simp only [Rc.cells] at hpZ
      have lnZ : n < Z.next := by omega
      have lcZ : b + 0 < Z.next := by omega
      have lpZ : z + 1 < Z.next := by omega
      have hoZ : RefAt Z r := hr.mod mZ hlr (by simp)
      have hlo : ∀ k ∈ r.blks, k < Z.next := fun k hk => by have := hlr k hk; omega
      rw [show Z = ext Z [] from rfl]
      refine w_drawB [(20, 3), (20, 7), (20, 8), (20, 12), (20, 13), (20, 14), (20, 18), (20, 19)] [] (by kernel_rfl) (by kernel_rfl) rfl fun ops anc hA hG => ?_
      simp only [all2_cons] at hA
      simp (maxDischargeDepth := 6) only [e0, e1, e5, e6, lnZ, lcZ, lpZ, hnZ, hcZ, hpZ, ruD, ruW, putL, Nat.reduceLeDiff, xF, ruU, entryE, Nat.reduceLT, Nat.reduceAdd, Nat.reduceMul, Nat.reduceEqDiff]
      refine genV_quiet (v := .int .i64 ((partB be f rc).size be)) [] (by simp (maxDischargeDepth := 6) only [ruU, entryE, Nat.reduceLT, Nat.reduceAdd, Nat.reduceMul, Nat.reduceEqDiff]) (by kernel_rfl) (by decide) (by simp) (fun G _ hg => ?_) (by simp (maxDischargeDepth := 6) only [ruD, ruW, putL, Nat.reduceLeDiff, xF, ruU, entryE, Nat.reduceLT, Nat.reduceAdd, Nat.reduceMul, Nat.reduceEqDiff]) ?_
      · simp only [ruU, entryE, Nat.reduceLT, Nat.reduceAdd, Nat.reduceMul, Nat.reduceEqDiff]
        exact rsize_c _ be G
      simp (maxDischargeDepth := 6) only [e0, e1, e5, e6, lnZ, lcZ, lpZ, hnZ, hcZ, hpZ, ruD, ruW, putL, Nat.reduceLeDiff, xF, ruU, entryE, Nat.reduceLT, Nat.reduceAdd, Nat.reduceMul, Nat.reduceEqDiff]
      refine genV_quiet (v := .int .i64 (rc.size be)) [] (by simp (maxDischargeDepth := 6) only [ruU, entryE, Nat.reduceLT, Nat.reduceAdd, Nat.reduceMul, Nat.reduceEqDiff]) (by kernel_rfl) (by decide) (by simp) (fun G _ hg => ?_) (by simp (maxDischargeDepth := 6) only [ruD, ruW, putL, Nat.reduceLeDiff, xF, ruU, entryE, Nat.reduceLT, Nat.reduceAdd, Nat.reduceMul, Nat.reduceEqDiff]) ?_
      · simp only [ruU, entryE, Nat.reduceLT, Nat.reduceAdd, Nat.reduceMul, Nat.reduceEqDiff]
        exact rsize_c rc be G
      simp (maxDischargeDepth := 6) only [e0, e1, e5, e6, lnZ, lcZ, lpZ, hnZ, hcZ, hpZ, ruD, ruW, putL, Nat.reduceLeDiff, xF, ruU, entryE, Nat.reduceLT, Nat.reduceAdd, Nat.reduceMul, Nat.reduceEqDiff]
      have hrn := restrict_next Z r.blks
      obtain ⟨_, k1, hc1, rfl, m1, t1⟩ := rresize_c be r ((partB be f rc).size be) (rc.size be) (Z.restrict r.blks) (by rw [hrn.1, hrn.2.1]; exact Nat.le_refl _) (hoZ.of fun m hm => by rw [restrict_get, if_pos hm]) (fun m hm => by rw [hrn.1]; exact hlo m hm) hndr
      refine genV_mod (H := ext Z []) (W := r.blks) r.blks (m0Z.ok g.ok) (by simp only [ruU, entryE, Nat.reduceLT, Nat.reduceAdd, Nat.reduceMul, Nat.reduceEqDiff]) (by kernel_rfl) hoZ.ne hlo (fun _ h => h) (v := .tuple #[]) (g := k1) (by simp only [ruU, entryE, Nat.reduceLT, Nat.reduceAdd, Nat.reduceMul, Nat.reduceEqDiff]; exact hc1) m1 (by simp only [all2_cons, hA, true_or, and_true, all2_nil]) ?_
      intro H1 D mH1 hF _ _ _
      have t1' : RefAt H1 (r.resize be ((partB be f rc).size be) (rc.size be)) := t1.of fun m hm => hF m (by rw [Rr.resize_blks] at hm; exact hm)
      have eabs := Rr.resize_abs be r ((partB be f rc).size be) (rc.size be)
      have eroot := Rr.resize_root be ((partB be f rc).size be) (rc.size be) r
      have eblks := Rr.resize_blks be r ((partB be f rc).size be) (rc.size be)
      rw [hside.2] at eabs
      generalize r.resize be ((partB be f rc).size be) (rc.size be) = tz at *
      have hn1 := (mH1.bk (n := n) lnZ hnr).trans hnZ
      have ln1 : n < H1.next := mH1.lt lnZ
      have hsubo : y.root.sub (pre ++ [true]) = some r := by rw [Rr.sub_append, hsub]; exact Rr.sub_nil r
      have s1 : RStep Z o y H1 { y with root := y.root.put (pre ++ [true]) tz } := RStep.part gZ hsubo mH1 t1' eroot (fun k hk => .inl (eblks ▸ hk)) (fun k hk => mH1.lt (hlo k (eblks ▸ hk))) (by rw [eblks]; exact hndr)
      have hg := rgone_c o { y with root := y.root.put (pre ++ [true]) tz } id tz (ext H1 []) s1.good.at' s1.good.lt t1'
      simp only [Rr.val, eroot] at hg
      rw [show H1 = ext H1 [] from rfl]
      simp (maxDischargeDepth := 6) only [e0, e1, e5, e6, ln1, hn1, ruD, ruW, putL, Nat.reduceLeDiff, xF, ruU, entryE, Nat.reduceLT, Nat.reduceAdd, Nat.reduceMul, Nat.reduceEqDiff]
      refine hg.mono ?_
      rintro _ H2 ⟨rfl, m2, own2⟩
      have s2 : RStep H1 o { y with root := y.root.put (pre ++ [true]) tz } H2 { y with root := y.root.put (pre ++ [true]) tz, sel := if y.sel = id then tz.abs.first else y.sel } := RStep.own (y := { y with root := y.root.put (pre ++ [true]) tz }) s1.good m2 rfl own2
      have g2 := s2.good
      have hno : n ≠ o := fun e => g.nO (e ▸ hsb n (by simp [Rr.blks]))
      have hn2 := (m2.bk ln1 (by simpa using hno)).trans hn1
      have ln2 : n < H2.next := m2.lt ln1
      have t2 : RefAt H2 tz := t1'.mod m2 (fun k hk => mH1.lt (hlo k (eblks ▸ hk))) (fun k hk h => g.nO (by simp only [List.mem_singleton] at h; exact h ▸ hsb k (by rw [eblks] at hk; simp [Rr.blks, hk])))
      have lt1 : ∀ k ∈ tz.blks, k < H2.next := fun k hk => m2.lt (mH1.lt (hlo k (eblks ▸ hk)))
      obtain ⟨i2, be2, f2, a2, b2, hc2, hk2⟩ := rnode t2
      have sca : scb H2.next (.pointer a2) = true ∧ scb H2.next (.pointer b2) = true := by
        rcases hk2 with ⟨_, _, rfl, rfl⟩ | ⟨_, l2, r2, hq, rfl, rfl⟩
        · exact ⟨rfl, rfl⟩
        · exact ⟨blt_of (lt1 _ (by rw [hq]; simp [Rr.blks, Rr.root_mem])), blt_of (lt1 _ (by rw [hq]; simp [Rr.blks, Rr.root_mem]))⟩
      have hc2' := hc2
      rw [eroot] at hc2'
      have lr2 : r.root < H2.next := by have := lt1 _ tz.root_mem; rw [eroot] at this; exact this
      rw [show H2 = ext H2 [] from rfl]
      simp (maxDischargeDepth := 6) only [e0, e1, e5, e6, ln2, hn2, lr2, hc2', sca.1, sca.2, Try.results55, ruW, putL, Nat.reduceLeDiff, xF, ruU, entryE, Nat.reduceLT, Nat.reduceAdd, Nat.reduceMul, Nat.reduceEqDiff]
      generalize hV : uw H2 n 0 _ = V
      have mV : Mod [n] H2 V := hV ▸ Mod.uw (by simp)
      have hnV : bk V n = some ⟨100, false, [.int .i64 i2, .bool be2, .int .i64 f2, .pointer a2, .pointer b2]⟩ := by rw [← hV, bk_uw_eq, hn2]; rfl
      have hnt : n ∉ tz.blks := eblks ▸ hnr
      have tV : RefAt V (tz.move n) := t2.move hc2 hnV (eblks ▸ hndr) (fun k hk hne => mV.get k (lt1 k hk) (by simpa using hne)) hnt
      have hsub2 : (y.root.put (pre ++ [true]) tz).sub pre = some (Rr.split n be f l tz) := by
        rw [Rr.sub_put tz [true] y.root pre _ hsub]
        simp only [Rr.put, Rr.put_nil]
      have s3 := RStep.part (y := { y with root := y.root.put (pre ++ [true]) tz, sel := if y.sel = id then tz.abs.first else y.sel }) (Z := V) (n := tz.move n) g2 hsub2 (mV.mono (by simp [Rr.blks])) tV (Rr.move_root n tz)
        (fun k hk => .inl (by rcases Rr.move_blks n tz k hk with h | h <;> simp [Rr.blks, h])) (fun k hk => by
          rcases Rr.move_blks n tz k hk with h | h
          · rw [h]; exact mV.lt ln2
          · exact mV.lt (lt1 k h)) (Rr.move_nodup (eblks ▸ hndr) hnt)
      rw [Rr.put_put _ _ _ y.root pre _ hsub] at s3
      rw [hde] at hf
      rw [delete_at hf hsa, hrc']
      refine ⟨rfl, _, (((RStep.same g m0Z).trans g.ok s1).trans g.ok s2).trans g.ok s3, ?_⟩
      simp only [Rw.abs, Rr.abs_put, Rr.move_abs, eabs, Atr.first_resize, Bool.false_eq_true, if_true, if_false]
    · have hil : ¬ il = id := fun h => hmem (by rw [hlq]; simp only [Rr.abs, Atr.ids, List.mem_singleton]; exact h.symm)
      simp (maxDischargeDepth := 6) only [Rc.val, e0, e1, e5, e6, hz, hzb, lb, hcell, hnn, hn, llr, lrr, hlc, hrc2, pn58, hil, decide_false, decide_true, ruW, putL, Nat.reduceLeDiff, xF, ruU, entryE, Nat.reduceLT, Nat.reduceAdd, Nat.reduceMul, Nat.reduceEqDiff]
      rcases hrk with ⟨nr, hrq, rfl, rfl⟩ | ⟨nr, r1, r2, hrq, rfl, rfl⟩
      · have hir : ir = id := by
          rw [hrq] at he'
          simp only [Rr.abs, Atr.find] at he'
          split at he'
          · assumption
          · cases he'
        have he0 : e' = [] := by rw [hrq, hir] at he'; simp only [Rr.abs, Atr.find, if_true, Option.some.injEq] at he'; exact he'.symm
        subst he0
        simp (maxDischargeDepth := 6) only [Rc.val, e0, e1, e5, e6, hz, hzb, lb, hcell, hnn, hn, llr, lrr, hlc, hrc2, pn58, hir, decide_true, ruW, putL, Nat.reduceLeDiff, xF, ruU, entryE, Nat.reduceLT, Nat.reduceAdd, Nat.reduceMul, Nat.reduceEqDiff]
        generalize hZ : ext H' (_ :: _) = Z
        have mZ : Mod [] H' Z := hZ ▸ Mod.ext gH.ok
        have m0Z := m0.trans mZ
        have gZ := g.mod m0Z (by simp) (by simp)
        have hnZ := (mZ.bk (hz ▸ hnn) (by simp)).trans hn
        have hcZ := (mZ.bk (hz ▸ lb) (by simp)).trans hcell
        have hpZ : bk Z (z + 0) = some ⟨35, false, (partA be f rc).cells⟩ := by rw [← hZ, bk_at hz (by simp)]; rfl
        have hZn : Z.next = z + 2 := by rw [← hZ, ext_next, hz]; rfl
        simp only [Rc.cells] at hpZ
        have lnZ : n < Z.next := by omega
        have lcZ : b + 0 < Z.next := by omega
        have lpZ : z + 0 < Z.next := by omega
        have hoZ : RefAt Z l := hl.mod mZ hll (by simp)
        have hlo : ∀ k ∈ l.blks, k < Z.next := fun k hk => by have := hll k hk; omega
        rw [show Z = ext Z [] from rfl]
        refine w_drawB [(20, 3), (20, 7), (20, 8), (20, 12), (20, 13), (20, 14), (20, 18), (20, 19)] [] (by kernel_rfl) (by kernel_rfl) rfl fun ops anc hA hG => ?_
        simp only [all2_cons] at hA
        simp (maxDischargeDepth := 6) only [e0, e1, e5, e6, lnZ, lcZ, lpZ, hnZ, hcZ, hpZ, ruD, ruW, putL, Nat.reduceLeDiff, xF, ruU, entryE, Nat.reduceLT, Nat.reduceAdd, Nat.reduceMul, Nat.reduceEqDiff]
        refine genV_quiet (v := .int .i64 ((partA be f rc).size be)) [] (by simp (maxDischargeDepth := 6) only [ruU, entryE, Nat.reduceLT, Nat.reduceAdd, Nat.reduceMul, Nat.reduceEqDiff]) (by kernel_rfl) (by decide) (by simp) (fun G _ hg => ?_) (by simp (maxDischargeDepth := 6) only [ruD, ruW, putL, Nat.reduceLeDiff, xF, ruU, entryE, Nat.reduceLT, Nat.reduceAdd, Nat.reduceMul, Nat.reduceEqDiff]) ?_
        · simp only [ruU, entryE, Nat.reduceLT, Nat.reduceAdd, Nat.reduceMul, Nat.reduceEqDiff]
          exact rsize_c _ be G
        simp (maxDischargeDepth := 6) only [e0, e1, e5, e6, lnZ, lcZ, lpZ, hnZ, hcZ, hpZ, ruD, ruW, putL, Nat.reduceLeDiff, xF, ruU, entryE, Nat.reduceLT, Nat.reduceAdd, Nat.reduceMul, Nat.reduceEqDiff]
        refine genV_quiet (v := .int .i64 (rc.size be)) [] (by simp (maxDischargeDepth := 6) only [ruU, entryE, Nat.reduceLT, Nat.reduceAdd, Nat.reduceMul, Nat.reduceEqDiff]) (by kernel_rfl) (by decide) (by simp) (fun G _ hg => ?_) (by simp (maxDischargeDepth := 6) only [ruD, ruW, putL, Nat.reduceLeDiff, xF, ruU, entryE, Nat.reduceLT, Nat.reduceAdd, Nat.reduceMul, Nat.reduceEqDiff]) ?_
        · simp only [ruU, entryE, Nat.reduceLT, Nat.reduceAdd, Nat.reduceMul, Nat.reduceEqDiff]
          exact rsize_c rc be G
        simp (maxDischargeDepth := 6) only [e0, e1, e5, e6, lnZ, lcZ, lpZ, hnZ, hcZ, hpZ, ruD, ruW, putL, Nat.reduceLeDiff, xF, ruU, entryE, Nat.reduceLT, Nat.reduceAdd, Nat.reduceMul, Nat.reduceEqDiff]
        have hrn := restrict_next Z l.blks
        obtain ⟨_, k1, hc1, rfl, m1, t1⟩ := rresize_c be l ((partA be f rc).size be) (rc.size be) (Z.restrict l.blks) (by rw [hrn.1, hrn.2.1]; exact Nat.le_refl _) (hoZ.of fun m hm => by rw [restrict_get, if_pos hm]) (fun m hm => by rw [hrn.1]; exact hlo m hm) hndl
        refine genV_mod (H := ext Z []) (W := l.blks) l.blks (m0Z.ok g.ok) (by simp only [ruU, entryE, Nat.reduceLT, Nat.reduceAdd, Nat.reduceMul, Nat.reduceEqDiff]) (by kernel_rfl) hoZ.ne hlo (fun _ h => h) (v := .tuple #[]) (g := k1) (by simp only [ruU, entryE, Nat.reduceLT, Nat.reduceAdd, Nat.reduceMul, Nat.reduceEqDiff]; exact hc1) m1 (by simp only [all2_cons, hA, true_or, and_true, all2_nil]) ?_
        intro H1 D mH1 hF _ _ _
        have t1' : RefAt H1 (l.resize be ((partA be f rc).size be) (rc.size be)) := t1.of fun m hm => hF m (by rw [Rr.resize_blks] at hm; exact hm)
        have eabs := Rr.resize_abs be l ((partA be f rc).size be) (rc.size be)
        have eroot := Rr.resize_root be ((partA be f rc).size be) (rc.size be) l
        have eblks := Rr.resize_blks be l ((partA be f rc).size be) (rc.size be)
        rw [hside.1] at eabs
        generalize l.resize be ((partA be f rc).size be) (rc.size be) = tz at *
        have hn1 := (mH1.bk (n := n) lnZ hnl).trans hnZ
        have ln1 : n < H1.next := mH1.lt lnZ
        have hsubo : y.root.sub (pre ++ [false]) = some l := by rw [Rr.sub_append, hsub]; exact Rr.sub_nil l
        have s1 : RStep Z o y H1 { y with root := y.root.put (pre ++ [false]) tz } := RStep.part gZ hsubo mH1 t1' eroot (fun k hk => .inl (eblks ▸ hk)) (fun k hk => mH1.lt (hlo k (eblks ▸ hk))) (by rw [eblks]; exact hndl)
        have hg := rgone_c o { y with root := y.root.put (pre ++ [false]) tz } id tz (ext H1 []) s1.good.at' s1.good.lt t1'
        simp only [Rr.val, eroot] at hg
        rw [show H1 = ext H1 [] from rfl]
        simp (maxDischargeDepth := 6) only [e0, e1, e5, e6, ln1, hn1, ruD, ruW, putL, Nat.reduceLeDiff, xF, ruU, entryE, Nat.reduceLT, Nat.reduceAdd, Nat.reduceMul, Nat.reduceEqDiff]
        refine hg.mono ?_
        rintro _ H2 ⟨rfl, m2, own2⟩
        have s2 : RStep H1 o { y with root := y.root.put (pre ++ [false]) tz } H2 { y with root := y.root.put (pre ++ [false]) tz, sel := if y.sel = id then tz.abs.first else y.sel } := RStep.own (y := { y with root := y.root.put (pre ++ [false]) tz }) s1.good m2 rfl own2
        have g2 := s2.good
        have hno : n ≠ o := fun e => g.nO (e ▸ hsb n (by simp [Rr.blks]))
        have hn2 := (m2.bk ln1 (by simpa using hno)).trans hn1
        have ln2 : n < H2.next := m2.lt ln1
        have t2 : RefAt H2 tz := t1'.mod m2 (fun k hk => mH1.lt (hlo k (eblks ▸ hk))) (fun k hk h => g.nO (by simp only [List.mem_singleton] at h; exact h ▸ hsb k (by rw [eblks] at hk; simp [Rr.blks, hk])))
        have lt1 : ∀ k ∈ tz.blks, k < H2.next := fun k hk => m2.lt (mH1.lt (hlo k (eblks ▸ hk)))
        obtain ⟨i2, be2, f2, a2, b2, hc2, hk2⟩ := rnode t2
        have sca : scb H2.next (.pointer a2) = true ∧ scb H2.next (.pointer b2) = true := by
          rcases hk2 with ⟨_, _, rfl, rfl⟩ | ⟨_, l2, r2, hq, rfl, rfl⟩
          · exact ⟨rfl, rfl⟩
          · exact ⟨blt_of (lt1 _ (by rw [hq]; simp [Rr.blks, Rr.root_mem])), blt_of (lt1 _ (by rw [hq]; simp [Rr.blks, Rr.root_mem]))⟩
        have hc2' := hc2
        rw [eroot] at hc2'
        have lr2 : l.root < H2.next := by have := lt1 _ tz.root_mem; rw [eroot] at this; exact this
        rw [show H2 = ext H2 [] from rfl]
        simp (maxDischargeDepth := 6) only [e0, e1, e5, e6, ln2, hn2, lr2, hc2', sca.1, sca.2, Try.results55, ruW, putL, Nat.reduceLeDiff, xF, ruU, entryE, Nat.reduceLT, Nat.reduceAdd, Nat.reduceMul, Nat.reduceEqDiff]
        generalize hV : uw H2 n 0 _ = V
        have mV : Mod [n] H2 V := hV ▸ Mod.uw (by simp)
        have hnV : bk V n = some ⟨100, false, [.int .i64 i2, .bool be2, .int .i64 f2, .pointer a2, .pointer b2]⟩ := by rw [← hV, bk_uw_eq, hn2]; rfl
        have hnt : n ∉ tz.blks := eblks ▸ hnl
        have tV : RefAt V (tz.move n) := t2.move hc2 hnV (eblks ▸ hndl) (fun k hk hne => mV.get k (lt1 k hk) (by simpa using hne)) hnt
        have hsub2 : (y.root.put (pre ++ [false]) tz).sub pre = some (Rr.split n be f tz r) := by
          rw [Rr.sub_put tz [false] y.root pre _ hsub]
          simp only [Rr.put, Rr.put_nil]
        have s3 := RStep.part (y := { y with root := y.root.put (pre ++ [false]) tz, sel := if y.sel = id then tz.abs.first else y.sel }) (Z := V) (n := tz.move n) g2 hsub2 (mV.mono (by simp [Rr.blks])) tV (Rr.move_root n tz)
          (fun k hk => .inl (by rcases Rr.move_blks n tz k hk with h | h <;> simp [Rr.blks, h])) (fun k hk => by
            rcases Rr.move_blks n tz k hk with h | h
            · rw [h]; exact mV.lt ln2
            · exact mV.lt (lt1 k h)) (Rr.move_nodup (eblks ▸ hndl) hnt)
        rw [Rr.put_put _ _ _ y.root pre _ hsub] at s3
        rw [hde] at hf
        rw [delete_at hf hsa, hrc']
        refine ⟨rfl, _, (((RStep.same g m0Z).trans g.ok s1).trans g.ok s2).trans g.ok s3, ?_⟩
        simp only [Rw.abs, Rr.abs_put, Rr.move_abs, eabs, Atr.first_resize, Bool.false_eq_true, if_true, if_false]
      · have hne' := hDr e' he' (by simp)
        simp (maxDischargeDepth := 6) only [Rc.val, e0, e1, e5, e6, hz, hzb, lb, hcell, hnn, hn, llr, lrr, hlc, hrc2, pp58, ruW, putL, Nat.reduceLeDiff, xF, ruU, entryE, Nat.reduceLT, Nat.reduceAdd, Nat.reduceMul, Nat.reduceEqDiff]
        have hh := rhas_c id l (ext H' [⟨35, false, (partA be f rc).cells⟩, ⟨35, false, (partB be f rc).cells⟩]) (hl.of fun k hk => ext_get_old (hll k hk))
        simp only [Rr.val, Rc.cells] at hh
        refine hh.to ?_
        simp (maxDischargeDepth := 6) only [Rc.val, e0, e1, e5, e6, hz, hzb, lb, hcell, hnn, hn, llr, lrr, hlc, hrc2, hmem, decide_false, ruW, putL, Nat.reduceLeDiff, xF, ruU, entryE, Nat.reduceLT, Nat.reduceAdd, Nat.reduceMul, Nat.reduceEqDiff]
        refine w_drawB [(6, 3), (6, 4)] [] (by kernel_rfl) (by kernel_rfl) rfl fun ops anc hA hG => ?_
        simp only [all2_cons] at hA
        simp (maxDischargeDepth := 6) only [Rc.val, e0, e1, e5, e6, hz, hzb, lb, hcell, hnn, hn, llr, lrr, hlc, hrc2, hA, ruD, ruW, putL, Nat.reduceLeDiff, xF, ruU, entryE, Nat.reduceLT, Nat.reduceAdd, Nat.reduceMul, Nat.reduceEqDiff]
        generalize hV : uw H' (b + 0) 0 _ = V
        have mV : Mod [b + 0] H' V := hV ▸ Mod.uw (by simp)
        have okV := mV.ok gH.ok
        have hcV : bk V (b + 0) = some ⟨35, false, (partB be f rc).cells⟩ := by rw [← hV, bk_uw_eq, hcell]; rfl
        have hVn : V.next = z := by rw [← hV, uw_next, hz]
        refine loopC_next ⟨r, by simp only [Rr.size]; omega, pre ++ [true], e', partB be f rc, ?_, ?_, ?_, ?_, ?_, he', hne', ?_, ?_, ?_, ?_, ?_⟩
        · exact (m0.step mV g.ok (fun k hk => .inr (by simp only [List.mem_singleton] at hk; omega))).trans (Mod.ext okV)
        · rw [ext_next, hVn]; omega
        · rw [bk_old (by rw [hVn]; exact lb), hcV]
        · rw [Rr.sub_append, hsub]; exact Rr.sub_nil r
        · rw [hde, List.append_assoc]; rfl
        · rw [Atr.rectAt_append _ _ _ _ _ hsa', hrc]; exact Atr.rectAt_nil _ _
        · simp only [e0, ruU, entryE, Nat.reduceLT, Nat.reduceAdd, Nat.reduceMul, Nat.reduceEqDiff]
        · simp only [e1, ruU, entryE, Nat.reduceLT, Nat.reduceAdd, Nat.reduceMul, Nat.reduceEqDiff]
        · simp only [Rr.val, ruU, entryE, Nat.reduceLT, Nat.reduceAdd, Nat.reduceMul, Nat.reduceEqDiff]
        · simp only [e6, ruU, entryE, Nat.reduceLT, Nat.reduceAdd, Nat.reduceMul, Nat.reduceEqDiff]
  · rcases hpos with ⟨hmem, e', rfl, he'⟩ | ⟨hmem, e', rfl, he'⟩
    · have hne' := hD e' he' (by simp)
      simp (maxDischargeDepth := 6) only [Rc.val, e0, e1, e5, e6, hz, hzb, lb, hcell, hnn, hn, llr, lrr, hlc, hrc2, pp58, ruW, putL, Nat.reduceLeDiff, xF, ruU, entryE, Nat.reduceLT, Nat.reduceAdd, Nat.reduceMul, Nat.reduceEqDiff]
      rcases hrk with ⟨nr, hrq, rfl, rfl⟩ | ⟨nr, r1, r2, hrq, rfl, rfl⟩
      · have hir : ¬ ir = id := fun h => hidx hmem (by rw [hrq]; simp only [Rr.abs, Atr.ids, List.mem_singleton]; exact h.symm)
        simp (maxDischargeDepth := 6) only [Rc.val, e0, e1, e5, e6, hz, hzb, lb, hcell, hnn, hn, llr, lrr, hlc, hrc2, pn58, hir, decide_false, ruW, putL, Nat.reduceLeDiff, xF, ruU, entryE, Nat.reduceLT, Nat.reduceAdd, Nat.reduceMul, Nat.reduceEqDiff]
        have hh := rhas_c id l (ext H' [⟨35, false, (partA be f rc).cells⟩, ⟨35, false, (partB be f rc).cells⟩]) (hl.of fun k hk => ext_get_old (hll k hk))
        simp only [Rr.val, Rc.cells] at hh
        refine hh.to ?_
        simp (maxDischargeDepth := 6) only [Rc.val, e0, e1, e5, e6, hz, hzb, lb, hcell, hnn, hn, llr, lrr, hlc, hrc2, hmem, decide_true, ruW, putL, Nat.reduceLeDiff, xF, ruU, entryE, Nat.reduceLT, Nat.reduceAdd, Nat.reduceMul, Nat.reduceEqDiff]
        refine w_drawB [(6, 3), (6, 4)] [] (by kernel_rfl) (by kernel_rfl) rfl fun ops anc hA hG => ?_
        simp only [all2_cons] at hA
        simp (maxDischargeDepth := 6) only [Rc.val, e0, e1, e5, e6, hz, hzb, lb, hcell, hnn, hn, llr, lrr, hlc, hrc2, hA, ruD, ruW, putL, Nat.reduceLeDiff, xF, ruU, entryE, Nat.reduceLT, Nat.reduceAdd, Nat.reduceMul, Nat.reduceEqDiff]
        generalize hV : uw H' (b + 0) 0 _ = V
        have mV : Mod [b + 0] H' V := hV ▸ Mod.uw (by simp)
        have okV := mV.ok gH.ok
        have hcV : bk V (b + 0) = some ⟨35, false, (partA be f rc).cells⟩ := by rw [← hV, bk_uw_eq, hcell]; rfl
        have hVn : V.next = z := by rw [← hV, uw_next, hz]
        refine loopC_next ⟨l, by simp only [Rr.size]; omega, pre ++ [false], e', partA be f rc, ?_, ?_, ?_, ?_, ?_, he', hne', ?_, ?_, ?_, ?_, ?_⟩
        · exact (m0.step mV g.ok (fun k hk => .inr (by simp only [List.mem_singleton] at hk; omega))).trans (Mod.ext okV)
        · rw [ext_next, hVn]; omega
        · rw [bk_old (by rw [hVn]; exact lb), hcV]
        · rw [Rr.sub_append, hsub]; exact Rr.sub_nil l
        · rw [hde, List.append_assoc]; rfl
        · rw [Atr.rectAt_append _ _ _ _ _ hsa', hrc]; exact Atr.rectAt_nil _ _
        · simp only [e0, ruU, entryE, Nat.reduceLT, Nat.reduceAdd, Nat.reduceMul, Nat.reduceEqDiff]
        · simp only [e1, ruU, entryE, Nat.reduceLT, Nat.reduceAdd, Nat.reduceMul, Nat.reduceEqDiff]
        · simp only [Rr.val, ruU, entryE, Nat.reduceLT, Nat.reduceAdd, Nat.reduceMul, Nat.reduceEqDiff]
        · simp only [e6, ruU, entryE, Nat.reduceLT, Nat.reduceAdd, Nat.reduceMul, Nat.reduceEqDiff]
      · simp (maxDischargeDepth := 6) only [Rc.val, e0, e1, e5, e6, hz, hzb, lb, hcell, hnn, hn, llr, lrr, hlc, hrc2, pp58, ruW, putL, Nat.reduceLeDiff, xF, ruU, entryE, Nat.reduceLT, Nat.reduceAdd, Nat.reduceMul, Nat.reduceEqDiff]
        have hh := rhas_c id l (ext H' [⟨35, false, (partA be f rc).cells⟩, ⟨35, false, (partB be f rc).cells⟩]) (hl.of fun k hk => ext_get_old (hll k hk))
        simp only [Rr.val, Rc.cells] at hh
        refine hh.to ?_
        simp (maxDischargeDepth := 6) only [Rc.val, e0, e1, e5, e6, hz, hzb, lb, hcell, hnn, hn, llr, lrr, hlc, hrc2, hmem, decide_true, ruW, putL, Nat.reduceLeDiff, xF, ruU, entryE, Nat.reduceLT, Nat.reduceAdd, Nat.reduceMul, Nat.reduceEqDiff]
        refine w_drawB [(6, 3), (6, 4)] [] (by kernel_rfl) (by kernel_rfl) rfl fun ops anc hA hG => ?_
        simp only [all2_cons] at hA
        simp (maxDischargeDepth := 6) only [Rc.val, e0, e1, e5, e6, hz, hzb, lb, hcell, hnn, hn, llr, lrr, hlc, hrc2, hA, ruD, ruW, putL, Nat.reduceLeDiff, xF, ruU, entryE, Nat.reduceLT, Nat.reduceAdd, Nat.reduceMul, Nat.reduceEqDiff]
        generalize hV : uw H' (b + 0) 0 _ = V
        have mV : Mod [b + 0] H' V := hV ▸ Mod.uw (by simp)
        have okV := mV.ok gH.ok
        have hcV : bk V (b + 0) = some ⟨35, false, (partA be f rc).cells⟩ := by rw [← hV, bk_uw_eq, hcell]; rfl
        have hVn : V.next = z := by rw [← hV, uw_next, hz]
        refine loopC_next ⟨l, by simp only [Rr.size]; omega, pre ++ [false], e', partA be f rc, ?_, ?_, ?_, ?_, ?_, he', hne', ?_, ?_, ?_, ?_, ?_⟩
        · exact (m0.step mV g.ok (fun k hk => .inr (by simp only [List.mem_singleton] at hk; omega))).trans (Mod.ext okV)
        · rw [ext_next, hVn]; omega
        · rw [bk_old (by rw [hVn]; exact lb), hcV]
        · rw [Rr.sub_append, hsub]; exact Rr.sub_nil l
        · rw [hde, List.append_assoc]; rfl
        · rw [Atr.rectAt_append _ _ _ _ _ hsa', hrc]; exact Atr.rectAt_nil _ _
        · simp only [e0, ruU, entryE, Nat.reduceLT, Nat.reduceAdd, Nat.reduceMul, Nat.reduceEqDiff]
        · simp only [e1, ruU, entryE, Nat.reduceLT, Nat.reduceAdd, Nat.reduceMul, Nat.reduceEqDiff]
        · simp only [Rr.val, ruU, entryE, Nat.reduceLT, Nat.reduceAdd, Nat.reduceMul, Nat.reduceEqDiff]
        · simp only [e6, ruU, entryE, Nat.reduceLT, Nat.reduceAdd, Nat.reduceMul, Nat.reduceEqDiff]
    · simp (maxDischargeDepth := 6) only [Rc.val, e0, e1, e5, e6, hz, hzb, lb, hcell, hnn, hn, llr, lrr, hlc, hrc2, pp58, ruW, putL, Nat.reduceLeDiff, xF, ruU, entryE, Nat.reduceLT, Nat.reduceAdd, Nat.reduceMul, Nat.reduceEqDiff]
      rcases hrk with ⟨nr, hrq, rfl, rfl⟩ | ⟨nr, r1, r2, hrq, rfl, rfl⟩
      · have hir : ir = id := by
          rw [hrq] at he'
          simp only [Rr.abs, Atr.find] at he'
          split at he'
          · assumption
          · cases he'
        have he0 : e' = [] := by rw [hrq, hir] at he'; simp only [Rr.abs, Atr.find, if_true, Option.some.injEq] at he'; exact he'.symm
        subst he0
        simp (maxDischargeDepth := 6) only [Rc.val, e0, e1, e5, e6, hz, hzb, lb, hcell, hnn, hn, llr, lrr, hlc, hrc2, pn58, hir, decide_true, ruW, putL, Nat.reduceLeDiff, xF, ruU, entryE, Nat.reduceLT, Nat.reduceAdd, Nat.reduceMul, Nat.reduceEqDiff]
        generalize hZ : ext H' (_ :: _) = Z
        have mZ : Mod [] H' Z := hZ ▸ Mod.ext gH.ok
        have m0Z := m0.trans mZ
        have gZ := g.mod m0Z (by simp) (by simp)
        have hnZ := (mZ.bk (hz ▸ hnn) (by simp)).trans hn
        have hcZ := (mZ.bk (hz ▸ lb) (by simp)).trans hcell
        have hpZ : bk Z (z + 0) = some ⟨35, false, (partA be f rc).cells⟩ := by rw [← hZ, bk_at hz (by simp)]; rfl
        have hZn : Z.next = z + 2 := by rw [← hZ, ext_next, hz]; rfl
        simp only [Rc.cells] at hpZ
        have lnZ : n < Z.next := by omega
        have lcZ : b + 0 < Z.next := by omega
        have lpZ : z + 0 < Z.next := by omega
        have hoZ : RefAt Z l := hl.mod mZ hll (by simp)
        have hlo : ∀ k ∈ l.blks, k < Z.next := fun k hk => by have := hll k hk; omega
        rw [show Z = ext Z [] from rfl]
        refine w_drawB [(20, 3), (20, 7), (20, 8), (20, 12), (20, 13), (20, 14), (20, 18), (20, 19)] [] (by kernel_rfl) (by kernel_rfl) rfl fun ops anc hA hG => ?_
        simp only [all2_cons] at hA
        simp (maxDischargeDepth := 6) only [e0, e1, e5, e6, lnZ, lcZ, lpZ, hnZ, hcZ, hpZ, ruD, ruW, putL, Nat.reduceLeDiff, xF, ruU, entryE, Nat.reduceLT, Nat.reduceAdd, Nat.reduceMul, Nat.reduceEqDiff]
        refine genV_quiet (v := .int .i64 ((partA be f rc).size be)) [] (by simp (maxDischargeDepth := 6) only [ruU, entryE, Nat.reduceLT, Nat.reduceAdd, Nat.reduceMul, Nat.reduceEqDiff]) (by kernel_rfl) (by decide) (by simp) (fun G _ hg => ?_) (by simp (maxDischargeDepth := 6) only [ruD, ruW, putL, Nat.reduceLeDiff, xF, ruU, entryE, Nat.reduceLT, Nat.reduceAdd, Nat.reduceMul, Nat.reduceEqDiff]) ?_
        · simp only [ruU, entryE, Nat.reduceLT, Nat.reduceAdd, Nat.reduceMul, Nat.reduceEqDiff]
          exact rsize_c _ be G
        simp (maxDischargeDepth := 6) only [e0, e1, e5, e6, lnZ, lcZ, lpZ, hnZ, hcZ, hpZ, ruD, ruW, putL, Nat.reduceLeDiff, xF, ruU, entryE, Nat.reduceLT, Nat.reduceAdd, Nat.reduceMul, Nat.reduceEqDiff]
        refine genV_quiet (v := .int .i64 (rc.size be)) [] (by simp (maxDischargeDepth := 6) only [ruU, entryE, Nat.reduceLT, Nat.reduceAdd, Nat.reduceMul, Nat.reduceEqDiff]) (by kernel_rfl) (by decide) (by simp) (fun G _ hg => ?_) (by simp (maxDischargeDepth := 6) only [ruD, ruW, putL, Nat.reduceLeDiff, xF, ruU, entryE, Nat.reduceLT, Nat.reduceAdd, Nat.reduceMul, Nat.reduceEqDiff]) ?_
        · simp only [ruU, entryE, Nat.reduceLT, Nat.reduceAdd, Nat.reduceMul, Nat.reduceEqDiff]
          exact rsize_c rc be G
        simp (maxDischargeDepth := 6) only [e0, e1, e5, e6, lnZ, lcZ, lpZ, hnZ, hcZ, hpZ, ruD, ruW, putL, Nat.reduceLeDiff, xF, ruU, entryE, Nat.reduceLT, Nat.reduceAdd, Nat.reduceMul, Nat.reduceEqDiff]
        have hrn := restrict_next Z l.blks
        obtain ⟨_, k1, hc1, rfl, m1, t1⟩ := rresize_c be l ((partA be f rc).size be) (rc.size be) (Z.restrict l.blks) (by rw [hrn.1, hrn.2.1]; exact Nat.le_refl _) (hoZ.of fun m hm => by rw [restrict_get, if_pos hm]) (fun m hm => by rw [hrn.1]; exact hlo m hm) hndl
        refine genV_mod (H := ext Z []) (W := l.blks) l.blks (m0Z.ok g.ok) (by simp only [ruU, entryE, Nat.reduceLT, Nat.reduceAdd, Nat.reduceMul, Nat.reduceEqDiff]) (by kernel_rfl) hoZ.ne hlo (fun _ h => h) (v := .tuple #[]) (g := k1) (by simp only [ruU, entryE, Nat.reduceLT, Nat.reduceAdd, Nat.reduceMul, Nat.reduceEqDiff]; exact hc1) m1 (by simp only [all2_cons, hA, true_or, and_true, all2_nil]) ?_
        intro H1 D mH1 hF _ _ _
        have t1' : RefAt H1 (l.resize be ((partA be f rc).size be) (rc.size be)) := t1.of fun m hm => hF m (by rw [Rr.resize_blks] at hm; exact hm)
        have eabs := Rr.resize_abs be l ((partA be f rc).size be) (rc.size be)
        have eroot := Rr.resize_root be ((partA be f rc).size be) (rc.size be) l
        have eblks := Rr.resize_blks be l ((partA be f rc).size be) (rc.size be)
        rw [hside.1] at eabs
        generalize l.resize be ((partA be f rc).size be) (rc.size be) = tz at *
        have hn1 := (mH1.bk (n := n) lnZ hnl).trans hnZ
        have ln1 : n < H1.next := mH1.lt lnZ
        have hsubo : y.root.sub (pre ++ [false]) = some l := by rw [Rr.sub_append, hsub]; exact Rr.sub_nil l
        have s1 : RStep Z o y H1 { y with root := y.root.put (pre ++ [false]) tz } := RStep.part gZ hsubo mH1 t1' eroot (fun k hk => .inl (eblks ▸ hk)) (fun k hk => mH1.lt (hlo k (eblks ▸ hk))) (by rw [eblks]; exact hndl)
        have hg := rgone_c o { y with root := y.root.put (pre ++ [false]) tz } id tz (ext H1 []) s1.good.at' s1.good.lt t1'
        simp only [Rr.val, eroot] at hg
        rw [show H1 = ext H1 [] from rfl]
        simp (maxDischargeDepth := 6) only [e0, e1, e5, e6, ln1, hn1, ruD, ruW, putL, Nat.reduceLeDiff, xF, ruU, entryE, Nat.reduceLT, Nat.reduceAdd, Nat.reduceMul, Nat.reduceEqDiff]
        refine hg.mono ?_
        rintro _ H2 ⟨rfl, m2, own2⟩
        have s2 : RStep H1 o { y with root := y.root.put (pre ++ [false]) tz } H2 { y with root := y.root.put (pre ++ [false]) tz, sel := if y.sel = id then tz.abs.first else y.sel } := RStep.own (y := { y with root := y.root.put (pre ++ [false]) tz }) s1.good m2 rfl own2
        have g2 := s2.good
        have hno : n ≠ o := fun e => g.nO (e ▸ hsb n (by simp [Rr.blks]))
        have hn2 := (m2.bk ln1 (by simpa using hno)).trans hn1
        have ln2 : n < H2.next := m2.lt ln1
        have t2 : RefAt H2 tz := t1'.mod m2 (fun k hk => mH1.lt (hlo k (eblks ▸ hk))) (fun k hk h => g.nO (by simp only [List.mem_singleton] at h; exact h ▸ hsb k (by rw [eblks] at hk; simp [Rr.blks, hk])))
        have lt1 : ∀ k ∈ tz.blks, k < H2.next := fun k hk => m2.lt (mH1.lt (hlo k (eblks ▸ hk)))
        obtain ⟨i2, be2, f2, a2, b2, hc2, hk2⟩ := rnode t2
        have sca : scb H2.next (.pointer a2) = true ∧ scb H2.next (.pointer b2) = true := by
          rcases hk2 with ⟨_, _, rfl, rfl⟩ | ⟨_, l2, r2, hq, rfl, rfl⟩
          · exact ⟨rfl, rfl⟩
          · exact ⟨blt_of (lt1 _ (by rw [hq]; simp [Rr.blks, Rr.root_mem])), blt_of (lt1 _ (by rw [hq]; simp [Rr.blks, Rr.root_mem]))⟩
        have hc2' := hc2
        rw [eroot] at hc2'
        have lr2 : l.root < H2.next := by have := lt1 _ tz.root_mem; rw [eroot] at this; exact this
        rw [show H2 = ext H2 [] from rfl]
        simp (maxDischargeDepth := 6) only [e0, e1, e5, e6, ln2, hn2, lr2, hc2', sca.1, sca.2, Try.results55, ruW, putL, Nat.reduceLeDiff, xF, ruU, entryE, Nat.reduceLT, Nat.reduceAdd, Nat.reduceMul, Nat.reduceEqDiff]
        generalize hV : uw H2 n 0 _ = V
        have mV : Mod [n] H2 V := hV ▸ Mod.uw (by simp)
        have hnV : bk V n = some ⟨100, false, [.int .i64 i2, .bool be2, .int .i64 f2, .pointer a2, .pointer b2]⟩ := by rw [← hV, bk_uw_eq, hn2]; rfl
        have hnt : n ∉ tz.blks := eblks ▸ hnl
        have tV : RefAt V (tz.move n) := t2.move hc2 hnV (eblks ▸ hndl) (fun k hk hne => mV.get k (lt1 k hk) (by simpa using hne)) hnt
        have hsub2 : (y.root.put (pre ++ [false]) tz).sub pre = some (Rr.split n be f tz r) := by
          rw [Rr.sub_put tz [false] y.root pre _ hsub]
          simp only [Rr.put, Rr.put_nil]
        have s3 := RStep.part (y := { y with root := y.root.put (pre ++ [false]) tz, sel := if y.sel = id then tz.abs.first else y.sel }) (Z := V) (n := tz.move n) g2 hsub2 (mV.mono (by simp [Rr.blks])) tV (Rr.move_root n tz)
          (fun k hk => .inl (by rcases Rr.move_blks n tz k hk with h | h <;> simp [Rr.blks, h])) (fun k hk => by
            rcases Rr.move_blks n tz k hk with h | h
            · rw [h]; exact mV.lt ln2
            · exact mV.lt (lt1 k h)) (Rr.move_nodup (eblks ▸ hndl) hnt)
        rw [Rr.put_put _ _ _ y.root pre _ hsub] at s3
        rw [hde] at hf
        rw [delete_at hf hsa, hrc']
        refine ⟨rfl, _, (((RStep.same g m0Z).trans g.ok s1).trans g.ok s2).trans g.ok s3, ?_⟩
        simp only [Rw.abs, Rr.abs_put, Rr.move_abs, eabs, Atr.first_resize, Bool.false_eq_true, if_true, if_false]
      · have hne' := hDr e' he' (by simp)
        simp (maxDischargeDepth := 6) only [Rc.val, e0, e1, e5, e6, hz, hzb, lb, hcell, hnn, hn, llr, lrr, hlc, hrc2, pp58, ruW, putL, Nat.reduceLeDiff, xF, ruU, entryE, Nat.reduceLT, Nat.reduceAdd, Nat.reduceMul, Nat.reduceEqDiff]
        have hh := rhas_c id l (ext H' [⟨35, false, (partA be f rc).cells⟩, ⟨35, false, (partB be f rc).cells⟩]) (hl.of fun k hk => ext_get_old (hll k hk))
        simp only [Rr.val, Rc.cells] at hh
        refine hh.to ?_
        simp (maxDischargeDepth := 6) only [Rc.val, e0, e1, e5, e6, hz, hzb, lb, hcell, hnn, hn, llr, lrr, hlc, hrc2, hmem, decide_false, ruW, putL, Nat.reduceLeDiff, xF, ruU, entryE, Nat.reduceLT, Nat.reduceAdd, Nat.reduceMul, Nat.reduceEqDiff]
        refine w_drawB [(6, 3), (6, 4)] [] (by kernel_rfl) (by kernel_rfl) rfl fun ops anc hA hG => ?_
        simp only [all2_cons] at hA
        simp (maxDischargeDepth := 6) only [Rc.val, e0, e1, e5, e6, hz, hzb, lb, hcell, hnn, hn, llr, lrr, hlc, hrc2, hA, ruD, ruW, putL, Nat.reduceLeDiff, xF, ruU, entryE, Nat.reduceLT, Nat.reduceAdd, Nat.reduceMul, Nat.reduceEqDiff]
        generalize hV : uw H' (b + 0) 0 _ = V
        have mV : Mod [b + 0] H' V := hV ▸ Mod.uw (by simp)
        have okV := mV.ok gH.ok
        have hcV : bk V (b + 0) = some ⟨35, false, (partB be f rc).cells⟩ := by rw [← hV, bk_uw_eq, hcell]; rfl
        have hVn : V.next = z := by rw [← hV, uw_next, hz]
        refine loopC_next ⟨r, by simp only [Rr.size]; omega, pre ++ [true], e', partB be f rc, ?_, ?_, ?_, ?_, ?_, he', hne', ?_, ?_, ?_, ?_, ?_⟩
        · exact (m0.step mV g.ok (fun k hk => .inr (by simp only [List.mem_singleton] at hk; omega))).trans (Mod.ext okV)
        · rw [ext_next, hVn]; omega
        · rw [bk_old (by rw [hVn]; exact lb), hcV]
        · rw [Rr.sub_append, hsub]; exact Rr.sub_nil r
        · rw [hde, List.append_assoc]; rfl
        · rw [Atr.rectAt_append _ _ _ _ _ hsa', hrc]; exact Atr.rectAt_nil _ _
        · simp only [e0, ruU, entryE, Nat.reduceLT, Nat.reduceAdd, Nat.reduceMul, Nat.reduceEqDiff]
        · simp only [e1, ruU, entryE, Nat.reduceLT, Nat.reduceAdd, Nat.reduceMul, Nat.reduceEqDiff]
        · simp only [Rr.val, ruU, entryE, Nat.reduceLT, Nat.reduceAdd, Nat.reduceMul, Nat.reduceEqDiff]
        · simp only [e6, ruU, entryE, Nat.reduceLT, Nat.reduceAdd, Nat.reduceMul, Nat.reduceEqDiff]

end Go.Proofs.Ytiedpcmdimgboaa

/- What the reference's Resize comes to; what does comes to. -/
namespace Go.Proofs.Ytiedpcmdimgboaa
open Go.Ax
set_option linter.unusedSimpArgs false
set_option maxRecDepth 10000

theorem Atr.find_pre {id : Int} : ∀ (t : Atr) (d e : List Bool) (s : Atr), t.find id = some (d ++ e) → t.sub d = some s → s.find id = some e
  | t, [], e, s, h, hs => by
    rw [Atr.sub_nil] at hs
    cases hs
    exact h
  | .leaf i, x :: d, e, s, h, hs => by rw [Atr.sub_leaf] at hs; cases hs
  | .split be f l r, x :: d, e, s, h, hs => by
    rcases Atr.find_split h with ⟨_, e', h1, h2⟩ | ⟨_, e', h1, h2⟩ <;>
    · simp only [List.cons_append, List.cons.injEq] at h1
      obtain ⟨rfl, rfl⟩ := h1
      exact Atr.find_pre _ d e s h2 hs

theorem Atr.part_fits {be : Bool} {f : Int} {l r : Atr} {rc : Rc} (h : (Atr.split be f l r).fits rc.dim) (hd : ∀ b, rc.size b ≤ 100000) :
    l.fits (rc.dim.set be f) ∧ r.fits (rc.dim.set be (rc.size be - f - bar be)) ∧ lst be l ≤ f ∧ lst be r ≤ rc.size be - f - bar be := by
  have hl := Atr.fits_lst l _ h.1 be
  have hr := Atr.fits_lst r _ h.2 be
  rw [Dim.set_same] at hl hr
  exact ⟨h.1, h.2, hl, hr⟩

theorem Atr.sub_size {t : Atr} {d : List Bool} {s : Atr} (h : t.sub d = some s) : s.size ≤ t.size := by
  have q1 := Atr.ids_length t
  obtain ⟨q2, q3, hq, _⟩ := Atr.ctx t d _ h
  have q4 := Atr.ids_length s
  rw [hq] at q1
  simp only [List.length_append] at q1
  omega

set_option maxHeartbeats 2000000 in
theorem rresize_d (o : Nat) (y : Rw) (id by1 : Int) (be : Bool) (H : AHeap) (g : RGood H o y) {m : Int} (v : Inv y.abs m) : RDoes 57 [.int .i64 id, .int .i64 by1, .bool be] H o y (.int .i64 (y.abs.resize id by1 be).1) (y.abs.resize id by1 be).2 := by
  obtain ⟨b, hb⟩ : ∃ b, H.next = b := ⟨_, rfl⟩
  have h1 := g.at'
  simp only [Rw.cells, Rr.val] at h1
  have ho : o < b := hb ▸ g.lt
  have hbase : H.base ≤ b := hb ▸ g.ok
  have hts := v.tsize
  have eA : y.abs.root = y.root.abs := rfl
  refine callE_fn mixed Try.func57 rfl Try.ntmps57 (Nat.le_of_ble_eq_true rfl) ?_
  simp (maxDischargeDepth := 6) only [ruW, putL, Nat.reduceLeDiff, xF, ruU, entryE, Nat.reduceLT, Nat.reduceAdd, Nat.reduceMul, Nat.reduceEqDiff]
  refine (rknown_c o y id (ext H []) g.at' g.ref).to ?_
  cases hf : y.abs.root.find id with
  | none =>
    have hi : ¬ id ∈ y.root.abs.ids := Atr.find_none id _ hf
    rw [show y.abs.resize id by1 be = (8, y.abs) by unfold Ast.resize; rw [hf]]
    simp (maxDischargeDepth := 6) only [hi, if_false, hb, ho, h1, Int.reduceEq, ne_eq, not_true_eq_false, not_false_eq_true, decide_false, decide_true, Try.results57, ruW, putL, Nat.reduceLeDiff, xF, ruU, entryE, Nat.reduceLT, Nat.reduceAdd, Nat.reduceMul, Nat.reduceEqDiff]
    exact ⟨by trivial, y, RStep.same g Mod.refl, rfl⟩
  | some d =>
  have hi : id ∈ y.root.abs.ids := Atr.find_iff.2 ⟨d, hf⟩
  simp (maxDischargeDepth := 6) only [hi, if_true, hb, hbase, Int.reduceEq, ne_eq, not_true_eq_false, not_false_eq_true, decide_false, decide_true, ruW, putL, Nat.reduceLeDiff, xF, ruU, entryE, Nat.reduceLT, Nat.reduceAdd, Nat.reduceMul, Nat.reduceEqDiff]
  refine w_drawB [(8, 3), (8, 5), (7, 5), (8, 6), (7, 6)] [] (by kernel_rfl) (by kernel_rfl) rfl fun ops anc hA hG => ?_
  simp only [all2_cons] at hA
  simp (maxDischargeDepth := 6) only [hb, ho, h1, hA, ruD, ruW, putL, Nat.reduceLeDiff, xF, ruU, entryE, Nat.reduceLT, Nat.reduceAdd, Nat.reduceMul, Nat.reduceEqDiff]
  refine genV_quiet (v := y.frame.val) [o] (by simp (maxDischargeDepth := 6) only [ruU, entryE, Nat.reduceLT, Nat.reduceAdd, Nat.reduceMul, Nat.reduceEqDiff]) (by kernel_rfl) (by decide) (fun m hm => by simp (maxDischargeDepth := 6) only [List.mem_singleton] at hm; subst hm; rw [ext_get_old (hb ▸ ho)]; exact bk_ne (H := H) h1) (fun K _ hg => ?_) (by simp (maxDischargeDepth := 6) only [ruD, ruW, putL, Nat.reduceLeDiff, xF, ruU, entryE, Nat.reduceLT, Nat.reduceAdd, Nat.reduceMul, Nat.reduceEqDiff]) ?_
  · simp only [ruU, entryE, Nat.reduceLT, Nat.reduceAdd, Nat.reduceMul, Nat.reduceEqDiff]
    exact rall_c o y K (((bk_get (hg o (by simp))).trans (bk_old (hb ▸ ho))).trans g.at')
  have hrid : y.root.root < b := hb ▸ g.lts _ y.root.root_mem
  simp (maxDischargeDepth := 6) only [Rc.val, hb, hbase, hrid, hA, ruD, ruW, putL, Nat.reduceLeDiff, xF, ruU, entryE, Nat.reduceLT, Nat.reduceAdd, Nat.reduceMul, Nat.reduceEqDiff]
  refine w_env fun E hE => ?_
  have e0 : E 0 = .pointer (some ⟨o, 0, none⟩) := by rw [hE]; simp only [ruU, entryE, Nat.reduceLT, Nat.reduceAdd, Nat.reduceMul, Nat.reduceEqDiff]
  have e1 : E 1 = .int .i64 id := by rw [hE]; simp only [ruU, entryE, Nat.reduceLT, Nat.reduceAdd, Nat.reduceMul, Nat.reduceEqDiff]
  have e2 : E 2 = .int .i64 by1 := by rw [hE]; simp only [ruU, entryE, Nat.reduceLT, Nat.reduceAdd, Nat.reduceMul, Nat.reduceEqDiff]
  have e3 : E 3 = .bool be := by rw [hE]; simp only [ruU, entryE, Nat.reduceLT, Nat.reduceAdd, Nat.reduceMul, Nat.reduceEqDiff]
  have e9 : E 9 = .pointer none := by rw [hE]; simp only [ruU, entryE, Nat.reduceLT, Nat.reduceAdd, Nat.reduceMul, Nat.reduceEqDiff]
  have e10 : E 10 = .pointer (some ⟨b + 0, 0, none⟩) := by rw [hE]; simp only [ruU, entryE, Nat.reduceLT, Nat.reduceAdd, Nat.reduceMul, Nat.reduceEqDiff]
  have e11 : E 11 = y.root.val := by rw [hE]; simp only [Rr.val, ruU, entryE, Nat.reduceLT, Nat.reduceAdd, Nat.reduceMul, Nat.reduceEqDiff]
  have e12 : E 12 = .pointer (some ⟨b + 1, 0, none⟩) := by rw [hE]; simp only [ruU, entryE, Nat.reduceLT, Nat.reduceAdd, Nat.reduceMul, Nat.reduceEqDiff]
  clear hE
  generalize hX : ext H [_, _] = X
  have mX0 : Mod [] H X := hX ▸ Mod.ext g.ok
  have lbX : b + 1 < X.next := by rw [← hX, ext_next, hb]; simp
  have hwX : bk X (b + 0) = some ⟨35, false, (⟨0, 0, 0, 0, 0⟩ : Rc).cells⟩ := by rw [← hX, bk_at hb (by simp)]; rfl
  have hcX : bk X (b + 1) = some ⟨35, false, y.frame.cells⟩ := by rw [← hX, bk_at hb (by simp)]; rfl
  clear hX hA hG
  -- what is known of the last split in the direction, above the way's part of length k
  refine blockC_meet (fun E' H' => ∃ rw, Mod [] H H' ∧ b + 1 < H'.next ∧ bk H' (b + 0) = some ⟨35, false, Rc.cells rw⟩ ∧ E' 1 = .int .i64 id ∧ E' 2 = .int .i64 by1 ∧ E' 3 = .bool be ∧ E' 10 = .pointer (some ⟨b + 0, 0, none⟩) ∧
      ((Ast.upTo y.abs.root d be d.length = none ∧ E' 9 = .pointer none) ∨ ∃ k n f l r, Ast.upTo y.abs.root d be d.length = some k ∧ k < d.length ∧ y.root.sub (d.take k) = some (.split n be f l r) ∧ E' 9 = .pointer (some ⟨n, 0, none⟩) ∧ rw = y.root.abs.rectAt y.frame (d.take k))) ?_ ?_
  · refine w_loop (fun (s : Rr) E' H' => ∃ j rc rw, Mod [] H H' ∧ b + 1 < H'.next ∧ bk H' (b + 0) = some ⟨35, false, Rc.cells rw⟩ ∧ bk H' (b + 1) = some ⟨35, false, Rc.cells rc⟩ ∧ j ≤ d.length ∧ y.root.sub (d.take j) = some s ∧ y.root.abs.rectAt y.frame (d.take j) = rc ∧
      E' 1 = .int .i64 id ∧ E' 2 = .int .i64 by1 ∧ E' 3 = .bool be ∧ E' 10 = .pointer (some ⟨b + 0, 0, none⟩) ∧ E' 11 = s.val ∧ E' 12 = .pointer (some ⟨b + 1, 0, none⟩) ∧
      ((Ast.upTo y.abs.root d be j = none ∧ E' 9 = .pointer none) ∨ ∃ k n f l r, Ast.upTo y.abs.root d be j = some k ∧ k < j ∧ y.root.sub (d.take k) = some (.split n be f l r) ∧ E' 9 = .pointer (some ⟨n, 0, none⟩) ∧ rw = y.root.abs.rectAt y.frame (d.take k))) Rr.size y.root
      ⟨0, y.frame, ⟨0, 0, 0, 0, 0⟩, mX0, lbX, hwX, hcX, Nat.zero_le _, Rr.sub_nil _, Atr.rectAt_nil _ _, e1, e2, e3, e10, e11, e12, .inl ⟨rfl, e9⟩⟩ ?_
    clear mX0 lbX hcX hwX e0 e1 e2 e3 e9 e10 e11 e12
    rintro s E H' ⟨j, rc, rw, m0, lb, hw, hcell, hj, hsub, hrc, e1, e2, e3, e10, e11, e12, hup⟩
    obtain ⟨z, hz⟩ : ∃ z, H'.next = z := ⟨_, rfl⟩
    have gH := g.mod m0 (by simp) (by simp)
    have hzb : H'.base ≤ z := hz ▸ gH.ok
    have hse : s.abs.find id = some (d.drop j) := by
      have hsa : y.abs.root.sub (d.take j) = some s.abs := by rw [eA, ← Rr.abs_sub, hsub]; rfl
      exact Atr.find_pre y.abs.root (d.take j) (d.drop j) _ (by rw [List.take_append_drop]; exact hf) hsa
    cases s with
    | leaf sn si =>
      obtain ⟨sb, sf, hs⟩ := Rr.sub_at y.root _ _ hsub gH.ref
      have lsn : sn < z := hz ▸ gH.lts _ (Rr.sub_blks y.root _ _ hsub sn (by simp [Rr.blks]))
      have hdj : j = d.length := by
        simp only [Rr.abs, Atr.find] at hse
        split at hse
        · have := congrArg List.length (Option.some.inj hse)
          simp only [List.length_nil, List.length_drop] at this
          omega
        · cases hse
      rw [show H' = ext H' [] from rfl]
      simp only [Rr.val, Rr.root] at e11
      simp (maxDischargeDepth := 6) only [e11, hz, lsn, hs, np58, ruW, putL, Nat.reduceLeDiff, xF, ruU, entryE, Nat.reduceLT, Nat.reduceAdd, Nat.reduceMul, Nat.reduceEqDiff]
      subst hdj
      refine joinR_normal ⟨rw, m0, by rw [ext_next]; simpa using lb, hw, ?_, ?_, ?_, ?_, ?_⟩
      · simp only [e1, ruU, entryE, Nat.reduceLT, Nat.reduceAdd, Nat.reduceMul, Nat.reduceEqDiff]
      · simp only [e2, ruU, entryE, Nat.reduceLT, Nat.reduceAdd, Nat.reduceMul, Nat.reduceEqDiff]
      · simp only [e3, ruU, entryE, Nat.reduceLT, Nat.reduceAdd, Nat.reduceMul, Nat.reduceEqDiff]
      · simp only [e10, ruU, entryE, Nat.reduceLT, Nat.reduceAdd, Nat.reduceMul, Nat.reduceEqDiff]
      · rcases hup with ⟨q1, q2⟩ | ⟨k, n, f, l, r, q1, q2, q3, q4, q5⟩
        · exact .inl ⟨q1, by simp only [q2, ruU, entryE, Nat.reduceLT, Nat.reduceAdd, Nat.reduceMul, Nat.reduceEqDiff]⟩
        · exact .inr ⟨k, n, f, l, r, q1, q2, q3, by simp only [q4, ruU, entryE, Nat.reduceLT, Nat.reduceAdd, Nat.reduceMul, Nat.reduceEqDiff], q5⟩
    | split n bb f l r =>
      obtain ⟨⟨idn, hn⟩, hl, hr⟩ := Rr.sub_at y.root _ _ hsub gH.ref
      have hsb := Rr.sub_blks y.root _ _ hsub
      have hlt : ∀ k ∈ (Rr.split n bb f l r).blks, k < H'.next := fun k hk => gH.lts k (hsb k hk)
      have hnn : n < z := hz ▸ hlt n (by simp [Rr.blks])
      have hll : ∀ k ∈ l.blks, k < H'.next := fun k hk => hlt k (by simp [Rr.blks, hk])
      have hsa : y.abs.root.sub (d.take j) = some (.split bb f l.abs r.abs) := by rw [eA, ← Rr.abs_sub, hsub]; rfl
      have hsa' : y.root.abs.sub (d.take j) = some (.split bb f l.abs r.abs) := hsa
      have hjl : j < d.length := by
        rcases Atr.find_split hse with ⟨_, e', h, _⟩ | ⟨_, e', h, _⟩ <;>
        · have := congrArg List.length h
          simp only [List.length_drop, List.length_cons] at this
          omega
      rw [hz] at lb
      have lb0 : b + 0 < z := by omega
      simp only [Rr.val, Rr.root] at e11 hn
      simp only [Rc.cells] at hcell hw
      have hupS : Ast.upTo y.abs.root d be (j + 1) = if bb = be then some j else Ast.upTo y.abs.root d be j := by rw [Ast.upTo, hsa]
      rw [show H' = ext H' [] from rfl]
      simp (maxDischargeDepth := 6) only [e1, e2, e3, e10, e11, e12, hz, hnn, hn, nn58, ruW, putL, Nat.reduceLeDiff, xF, ruU, entryE, Nat.reduceLT, Nat.reduceAdd, Nat.reduceMul, Nat.reduceEqDiff]
      -- the split is remembered if its direction is the given one
      refine condC_join (fun E' Z => ∃ rw, Mod [b + 0] H' Z ∧ Z.next = z ∧ bk Z (b + 0) = some ⟨35, false, Rc.cells rw⟩ ∧ E' 1 = .int .i64 id ∧ E' 2 = .int .i64 by1 ∧ E' 3 = .bool be ∧ E' 10 = .pointer (some ⟨b + 0, 0, none⟩) ∧ E' 11 = .pointer (some ⟨n, 0, none⟩) ∧ E' 12 = .pointer (some ⟨b + 1, 0, none⟩) ∧
        ((Ast.upTo y.abs.root d be (j + 1) = none ∧ E' 9 = .pointer none) ∨ ∃ k n f l r, Ast.upTo y.abs.root d be (j + 1) = some k ∧ k < j + 1 ∧ y.root.sub (d.take k) = some (.split n be f l r) ∧ E' 9 = .pointer (some ⟨n, 0, none⟩) ∧ rw = y.root.abs.rectAt y.frame (d.take k))) (fun h0 => ?_) (fun h0 => ?_) ?_
      · have h0 := of_decide_eq_true h0
        subst h0
        rw [if_pos rfl] at hupS
        rw [show H' = ext H' [] from rfl]
        simp (maxDischargeDepth := 6) only [ruW, putL, Nat.reduceLeDiff, xF, ruU, entryE, Nat.reduceLT, Nat.reduceAdd, Nat.reduceMul, Nat.reduceEqDiff]
        refine w_drawB [(3, 1)] [] (by kernel_rfl) (by kernel_rfl) rfl fun ops anc hA hG => ?_
        simp only [all2_cons] at hA
        simp (maxDischargeDepth := 6) only [e1, e2, e3, e10, e11, e12, hz, lb, lb0, hw, hcell, hA, ruD, ruW, putL, Nat.reduceLeDiff, xF, ruU, entryE, Nat.reduceLT, Nat.reduceAdd, Nat.reduceMul, Nat.reduceEqDiff]
        rw [joinC_normal]
        refine ⟨_, rfl, rc, Mod.uw (by simp), by rw [ext_nil, uw_next, hz], by rw [ext_nil, bk_uw_eq, hw]; rfl, ?_, ?_, ?_, ?_, ?_, ?_, .inr ⟨j, n, f, l, r, hupS, by omega, hsub, ?_, hrc.symm⟩⟩ <;> simp only [e1, e2, e3, e10, e11, e12, ruU, entryE, Nat.reduceLT, Nat.reduceAdd, Nat.reduceMul, Nat.reduceEqDiff]
      · have h0 := of_decide_eq_false h0
        rw [if_neg h0] at hupS
        rw [show H' = ext H' [] from rfl]
        simp (maxDischargeDepth := 6) only [ruW, putL, Nat.reduceLeDiff, xF, ruU, entryE, Nat.reduceLT, Nat.reduceAdd, Nat.reduceMul, Nat.reduceEqDiff]
        rw [joinC_normal]
        refine ⟨_, rfl, rw, Mod.refl, hz, hw, ?_, ?_, ?_, ?_, ?_, ?_, ?_⟩ <;> try simp only [e1, e2, e3, e10, e11, e12, ruU, entryE, Nat.reduceLT, Nat.reduceAdd, Nat.reduceMul, Nat.reduceEqDiff]
        rw [hupS]
        rcases hup with ⟨q1, q2⟩ | ⟨k, n, f, l, r, q1, q2, q3, q4, q5⟩
        · exact .inl ⟨q1, by simp only [q2, ruU, entryE, Nat.reduceLT, Nat.reduceAdd, Nat.reduceMul, Nat.reduceEqDiff]⟩
        · exact .inr ⟨k, n, f, l, r, q1, by omega, q3, by simp only [q4, ruU, entryE, Nat.reduceLT, Nat.reduceAdd, Nat.reduceMul, Nat.reduceEqDiff], q5⟩
      · clear e1 e2 e3 e10 e11 e12 hup hw
        rintro E Z ⟨rw, mZ, hZn, hwZ, e1, e2, e3, e10, e11, e12, hup⟩
        have hn0 : n ≠ b + 0 := fun e => by
          have := g.lts n (hsb n (by simp [Rr.blks]))
          omega
        have hnZ := (mZ.bk (hz ▸ hnn) (by simpa using hn0)).trans hn
        have hcZ := (mZ.bk (n := b + 1) (hz ▸ lb) (by simp)).trans hcell
        have okZ := mZ.ok gH.ok
        have hZb : Z.base ≤ z := hZn ▸ okZ
        have hlZ : RefAt Z l := hl.mod mZ hll (fun k hk h => by
          have := g.lts k (hsb k (by simp [Rr.blks, hk]))
          simp only [List.mem_singleton] at h
          omega)
        rw [show Z = ext Z [] from rfl]
        simp (maxDischargeDepth := 6) only [e1, e2, e3, e10, e11, e12, hZn, hnn, lb, hcZ, ruW, putL, Nat.reduceLeDiff, xF, ruU, entryE, Nat.reduceLT, Nat.reduceAdd, Nat.reduceMul, Nat.reduceEqDiff]
        refine (rsides_c n idn bb f _ _ rc (ext Z []) hnZ).to ?_
        simp (maxDischargeDepth := 6) only [Rc.val, e1, e2, e3, e10, e11, e12, hZn, hZb, hnn, hnZ, lb, hcZ, ruW, putL, Nat.reduceLeDiff, xF, ruU, entryE, Nat.reduceLT, Nat.reduceAdd, Nat.reduceMul, Nat.reduceEqDiff]
        have hh := rhas_c id l (ext Z [⟨35, false, (partA bb f rc).cells⟩, ⟨35, false, (partB bb f rc).cells⟩]) (hlZ.of fun k hk => ext_get_old (by have := hll k hk; omega))
        simp only [Rr.val, Rc.cells] at hh
        refine hh.to ?_
        have hm0 : ∀ p : Rc, Mod [] H (ext (uw Z (b + 1) 0 p.cells) [⟨35, false, (partA bb f rc).cells⟩, ⟨35, false, (partB bb f rc).cells⟩]) := fun p => by
          have q1 : Mod [b + 0, b + 1] H' (uw Z (b + 1) 0 p.cells) := (mZ.mono (by simp)).trans (Mod.uw (by simp))
          exact (m0.step q1 g.ok (fun k hk => .inr (by simp only [List.mem_cons, List.not_mem_nil, or_false] at hk; omega))).trans (Mod.ext (q1.ok gH.ok))
        rcases Atr.find_split hse with ⟨hmem, e', he, he'⟩ | ⟨hmem, e', he, he'⟩
        · have hlr : d.take (j + 1) = d.take j ++ [false] := by
            rw [List.take_add_one]
            have : d[j]? = some false := by have := congrArg (·[0]?) he; simpa using this
            rw [this]; rfl
          simp (maxDischargeDepth := 6) only [Rc.val, hmem, e1, e2, e3, e10, e11, e12, hZn, hZb, hnn, hnZ, lb, hcZ, decide_true, ruW, putL, Nat.reduceLeDiff, xF, ruU, entryE, Nat.reduceLT, Nat.reduceAdd, Nat.reduceMul, Nat.reduceEqDiff]
          refine w_drawB [(6, 3), (6, 4)] [] (by kernel_rfl) (by kernel_rfl) rfl fun ops anc hA hG => ?_
          simp only [all2_cons] at hA
          simp (maxDischargeDepth := 6) only [Rc.val, e1, e2, e3, e10, e11, e12, hZn, hZb, hnn, hnZ, lb, hcZ, hA, ruD, ruW, putL, Nat.reduceLeDiff, xF, ruU, entryE, Nat.reduceLT, Nat.reduceAdd, Nat.reduceMul, Nat.reduceEqDiff]
          refine loopC_next ⟨l, by simp only [Rr.size]; omega, j + 1, partA bb f rc, rw, hm0 (partA bb f rc), ?_, ?_, ?_, by omega, ?_, ?_, ?_, ?_, ?_, ?_, ?_, ?_, ?_⟩
          · rw [ext_next, uw_next, hZn]; omega
          · rw [bk_old (by rw [uw_next, hZn]; omega), bk_uw_ne (by omega)]; exact hwZ
          · rw [bk_old (by rw [uw_next, hZn]; omega), bk_uw_eq, hcZ]; rfl
          · rw [hlr, Rr.sub_append, hsub]; exact Rr.sub_nil l
          · rw [hlr, Atr.rectAt_append _ _ _ _ _ hsa', hrc]; exact Atr.rectAt_nil _ _
          · simp only [e1, ruU, entryE, Nat.reduceLT, Nat.reduceAdd, Nat.reduceMul, Nat.reduceEqDiff]
          · simp only [e2, ruU, entryE, Nat.reduceLT, Nat.reduceAdd, Nat.reduceMul, Nat.reduceEqDiff]
          · simp only [e3, ruU, entryE, Nat.reduceLT, Nat.reduceAdd, Nat.reduceMul, Nat.reduceEqDiff]
          · simp only [e10, ruU, entryE, Nat.reduceLT, Nat.reduceAdd, Nat.reduceMul, Nat.reduceEqDiff]
          · simp only [Rr.val, ruU, entryE, Nat.reduceLT, Nat.reduceAdd, Nat.reduceMul, Nat.reduceEqDiff]; rfl
          · simp only [e12, ruU, entryE, Nat.reduceLT, Nat.reduceAdd, Nat.reduceMul, Nat.reduceEqDiff]
          · rcases hup with ⟨q1, q2⟩ | ⟨k, n, f, l, r, q1, q2, q3, q4, q5⟩
            · exact .inl ⟨q1, by simp only [q2, ruU, entryE, Nat.reduceLT, Nat.reduceAdd, Nat.reduceMul, Nat.reduceEqDiff]⟩
            · exact .inr ⟨k, n, f, l, r, q1, by omega, q3, by simp only [q4, ruU, entryE, Nat.reduceLT, Nat.reduceAdd, Nat.reduceMul, Nat.reduceEqDiff], q5⟩
        · have hlr : d.take (j + 1) = d.take j ++ [true] := by
            rw [List.take_add_one]
            have : d[j]? = some true := by have := congrArg (·[0]?) he; simpa using this
            rw [this]; rfl
          simp (maxDischargeDepth := 6) only [Rc.val, hmem, e1, e2, e3, e10, e11, e12, hZn, hZb, hnn, hnZ, lb, hcZ, decide_false, ruW, putL, Nat.reduceLeDiff, xF, ruU, entryE, Nat.reduceLT, Nat.reduceAdd, Nat.reduceMul, Nat.reduceEqDiff]
          refine w_drawB [(6, 3), (6, 4)] [] (by kernel_rfl) (by kernel_rfl) rfl fun ops anc hA hG => ?_
          simp only [all2_cons] at hA
          simp (maxDischargeDepth := 6) only [Rc.val, e1, e2, e3, e10, e11, e12, hZn, hZb, hnn, hnZ, lb, hcZ, hA, ruD, ruW, putL, Nat.reduceLeDiff, xF, ruU, entryE, Nat.reduceLT, Nat.reduceAdd, Nat.reduceMul, Nat.reduceEqDiff]
          refine loopC_next ⟨r, by simp only [Rr.size]; omega, j + 1, partB bb f rc, rw, hm0 (partB bb f rc), ?_, ?_, ?_, by omega, ?_, ?_, ?_, ?_, ?_, ?_, ?_, ?_, ?_⟩
          · rw [ext_next, uw_next, hZn]; omega
          · rw [bk_old (by rw [uw_next, hZn]; omega), bk_uw_ne (by omega)]; exact hwZ
          · rw [bk_old (by rw [uw_next, hZn]; omega), bk_uw_eq, hcZ]; rfl
          · rw [hlr, Rr.sub_append, hsub]; exact Rr.sub_nil r
          · rw [hlr, Atr.rectAt_append _ _ _ _ _ hsa', hrc]; exact Atr.rectAt_nil _ _
          · simp only [e1, ruU, entryE, Nat.reduceLT, Nat.reduceAdd, Nat.reduceMul, Nat.reduceEqDiff]
          · simp only [e2, ruU, entryE, Nat.reduceLT, Nat.reduceAdd, Nat.reduceMul, Nat.reduceEqDiff]
          · simp only [e3, ruU, entryE, Nat.reduceLT, Nat.reduceAdd, Nat.reduceMul, Nat.reduceEqDiff]
          · simp only [e10, ruU, entryE, Nat.reduceLT, Nat.reduceAdd, Nat.reduceMul, Nat.reduceEqDiff]
          · simp only [Rr.val, ruU, entryE, Nat.reduceLT, Nat.reduceAdd, Nat.reduceMul, Nat.reduceEqDiff]; rfl
          · simp only [e12, ruU, entryE, Nat.reduceLT, Nat.reduceAdd, Nat.reduceMul, Nat.reduceEqDiff]
          · rcases hup with ⟨q1, q2⟩ | ⟨k, n, f, l, r, q1, q2, q3, q4, q5⟩
            · exact .inl ⟨q1, by simp only [q2, ruU, entryE, Nat.reduceLT, Nat.reduceAdd, Nat.reduceMul, Nat.reduceEqDiff]⟩
            · exact .inr ⟨k, n, f, l, r, q1, by omega, q3, by simp only [q4, ruU, entryE, Nat.reduceLT, Nat.reduceAdd, Nat.reduceMul, Nat.reduceEqDiff], q5⟩
  · clear mX0 lbX hcX hwX e0 e1 e2 e3 e9 e10 e11 e12
    rintro E X ⟨rw, mX, lb, hw, e1, e2, e3, e10, hup⟩
    have gX := g.mod mX (by simp) (by simp)
    rw [show X = ext X [] from rfl]
    rcases hup with ⟨hup, e9⟩ | ⟨k, n, f, l, r, hup, hk, hsub, e9, rfl⟩
    · rw [show y.abs.resize id by1 be = (9, y.abs) by simp only [Ast.resize, hf, hup]]
      have pn : aBin Try.prog (ext X []) .eql 58 (.pointer none) (.pointer none) = some (.bool true) := pn58
      simp (maxDischargeDepth := 6) only [e1, e2, e3, e9, pn58, Try.results57, ruW, putL, Nat.reduceLeDiff, xF, ruU, entryE, Nat.reduceLT, Nat.reduceAdd, Nat.reduceMul, Nat.reduceEqDiff]
      exact ⟨by trivial, y, RStep.same g mX, rfl⟩
    · have hsa : y.abs.root.sub (d.take k) = some (.split be f l.abs r.abs) := by rw [eA, ← Rr.abs_sub, hsub]; rfl
      have hse : (Atr.split be f l.abs r.abs).find id = some (d.drop k) := Atr.find_pre y.abs.root (d.take k) (d.drop k) _ (by rw [List.take_append_drop]; exact hf) hsa
      have e9' := e9
      by_cases c1 : by1 < -1000
      · rw [show y.abs.resize id by1 be = (3, y.abs) by simp only [Ast.resize, hf, hup, c1, true_or, if_true]]
        simp (maxDischargeDepth := 6) only [e1, e2, e3, e9, pp58, c1, decide_true, Try.results57, ruW, putL, Nat.reduceLeDiff, xF, ruU, entryE, Nat.reduceLT, Nat.reduceAdd, Nat.reduceMul, Nat.reduceEqDiff]
        exact ⟨by trivial, y, RStep.same g mX, rfl⟩
      by_cases c2 : 1000 < by1
      · rw [show y.abs.resize id by1 be = (3, y.abs) by simp only [Ast.resize, hf, hup, c2, or_true, if_true]]
        simp (maxDischargeDepth := 6) only [e1, e2, e3, e9, pp58, c1, c2, decide_true, decide_false, Try.results57, ruW, putL, Nat.reduceLeDiff, xF, ruU, entryE, Nat.reduceLT, Nat.reduceAdd, Nat.reduceMul, Nat.reduceEqDiff]
        exact ⟨by trivial, y, RStep.same g mX, rfl⟩
      obtain ⟨rc, hrc⟩ : ∃ rc, y.root.abs.rectAt y.frame (d.take k) = rc := ⟨_, rfl⟩
      obtain ⟨by2, hby2⟩ : ∃ by2, (if d[k]? = some false then by1 else w64 (0 - by1)) = by2 := ⟨_, rfl⟩
      have hrd : y.abs.resize id by1 be = (if w64 (f + by2) < l.abs.least be ∨ w64 (w64 (w64 (rc.size be - f) - bar be) - by2) < r.abs.least be then (3, y.abs)
            else (0, { y.abs with root := y.abs.root.set (d.take k) (.split be (w64 (f + by2)) (l.abs.resize be f (w64 (f + by2))) (r.abs.resize be (w64 (w64 (rc.size be - f) - bar be)) (w64 (w64 (w64 (rc.size be - f) - bar be) - by2)))) })) := by
        have hrc' : y.abs.root.rectAt y.abs.frame (d.take k) = rc := hrc
        simp only [Ast.resize, hf, hup, c1, c2, or_self, if_false, hsa, hrc', hby2]
      rw [hrd]
      obtain ⟨⟨idn, hn⟩, hl, hr⟩ := Rr.sub_at y.root _ _ hsub gX.ref
      have hsb := Rr.sub_blks y.root _ _ hsub
      have hsnd := Rr.sub_nodup y.root _ _ hsub g.nd
      have hlt : ∀ k ∈ (Rr.split n be f l r).blks, k < X.next := fun k hk => gX.lts k (hsb k hk)
      obtain ⟨z, hz⟩ : ∃ z, X.next = z := ⟨_, rfl⟩
      have hnn : n < z := hz ▸ hlt n (by simp [Rr.blks])
      have hll : ∀ k ∈ l.blks, k < X.next := fun k hk => hlt k (by simp [Rr.blks, hk])
      have hlr : ∀ k ∈ r.blks, k < X.next := fun k hk => hlt k (by simp [Rr.blks, hk])
      simp only [Rr.blks, List.nodup_cons, List.nodup_append, List.mem_append, not_or] at hsnd
      obtain ⟨⟨hnl, hnr⟩, hndl, hndr, hlr'⟩ := hsnd
      rw [hz] at lb
      have lb0 : b + 0 < z := by omega
      rw [hrc] at hw
      simp only [Rr.val, Rc.cells] at hn hw
      have hh := rhas_c id l (ext X []) hl
      simp only [Rr.val] at hh
      simp (maxDischargeDepth := 6) only [e1, e2, e3, e9, e10, pp58, c1, c2, hz, hnn, hn, decide_false, ruW, putL, Nat.reduceLeDiff, xF, ruU, entryE, Nat.reduceLT, Nat.reduceAdd, Nat.reduceMul, Nat.reduceEqDiff]
      refine hh.to ?_
      simp (maxDischargeDepth := 6) only [ruW, putL, Nat.reduceLeDiff, xF, ruU, entryE, Nat.reduceLT, Nat.reduceAdd, Nat.reduceMul, Nat.reduceEqDiff]
      refine condC_join (fun E' H' => H' = X ∧ E' 2 = .int .i64 by2 ∧ E' 3 = .bool be ∧ E' 9 = .pointer (some ⟨n, 0, none⟩) ∧ E' 10 = .pointer (some ⟨b + 0, 0, none⟩)) (fun h0 => ?_) (fun h0 => ?_) ?_
      · have hni : id ∉ l.abs.ids := by simpa using h0
        have hdk : ¬ d[k]? = some false := by
          rcases Atr.find_split hse with ⟨q, _⟩ | ⟨_, e', he, _⟩
          · exact absurd q hni
          · have := congrArg (·[0]?) he
            simp at this
            simp [this]
        rw [if_neg hdk] at hby2
        rw [show X = ext X [] from rfl]
        simp (maxDischargeDepth := 6) only [e1, e2, e3, e9, e10, ruW, putL, Nat.reduceLeDiff, xF, ruU, entryE, Nat.reduceLT, Nat.reduceAdd, Nat.reduceMul, Nat.reduceEqDiff]
        rw [joinC_normal]
        refine ⟨_, rfl, rfl, ?_, ?_, ?_, ?_⟩ <;> try simp only [e1, e2, e3, e9, e10, ruU, entryE, Nat.reduceLT, Nat.reduceAdd, Nat.reduceMul, Nat.reduceEqDiff]
        rw [← hby2]
      · have hni : id ∈ l.abs.ids := by simpa using h0
        have hdk : d[k]? = some false := by
          rcases Atr.find_split hse with ⟨_, e', he, _⟩ | ⟨q, _⟩
          · have := congrArg (·[0]?) he
            simpa using this
          · exact absurd hni q
        rw [if_pos hdk] at hby2
        rw [show X = ext X [] from rfl]
        simp (maxDischargeDepth := 6) only [e1, e2, e3, e9, e10, ruW, putL, Nat.reduceLeDiff, xF, ruU, entryE, Nat.reduceLT, Nat.reduceAdd, Nat.reduceMul, Nat.reduceEqDiff]
        rw [joinC_normal]
        refine ⟨_, rfl, rfl, ?_, ?_, ?_, ?_⟩ <;> try simp only [e1, e2, e3, e9, e10, ruU, entryE, Nat.reduceLT, Nat.reduceAdd, Nat.reduceMul, Nat.reduceEqDiff]
        rw [← hby2]
      · clear e1 e2 e3 e9 e10 e9'
        rintro E X' ⟨hX', e2, e3, e9, e10⟩
        rw [hX', show X = ext X [] from rfl]
        obtain ⟨sec, hsec⟩ : ∃ sec, w64 (w64 (rc.size be - f) - bar be) = sec := ⟨_, rfl⟩
        rw [hsec]
        simp (maxDischargeDepth := 6) only [ruW, putL, Nat.reduceLeDiff, xF, ruU, entryE, Nat.reduceLT, Nat.reduceAdd, Nat.reduceMul, Nat.reduceEqDiff]
        refine w_drawB [] [] (by kernel_rfl) rfl rfl fun ops anc hA hG => ?_
        simp (maxDischargeDepth := 6) only [e2, e3, e9, e10, hz, lb0, hw, hnn, hn, ruD, ruW, putL, Nat.reduceLeDiff, xF, ruU, entryE, Nat.reduceLT, Nat.reduceAdd, Nat.reduceMul, Nat.reduceEqDiff]
        refine genV_quiet (v := .int .i64 (rc.size be)) [] (by simp (maxDischargeDepth := 6) only [ruU, entryE, Nat.reduceLT, Nat.reduceAdd, Nat.reduceMul, Nat.reduceEqDiff]) (by kernel_rfl) (by decide) (by simp) (fun G _ hg => ?_) (by simp (maxDischargeDepth := 6) only [ruD, ruW, putL, Nat.reduceLeDiff, xF, ruU, entryE, Nat.reduceLT, Nat.reduceAdd, Nat.reduceMul, Nat.reduceEqDiff]) ?_
        · simp only [e3, ruU, entryE, Nat.reduceLT, Nat.reduceAdd, Nat.reduceMul, Nat.reduceEqDiff]
          exact rsize_c rc be G
        simp (maxDischargeDepth := 6) only [e2, e3, e9, e10, hz, lb0, hw, hnn, hn, ruD, ruW, putL, Nat.reduceLeDiff, xF, ruU, entryE, Nat.reduceLT, Nat.reduceAdd, Nat.reduceMul, Nat.reduceEqDiff]
        refine genV_quiet (v := .int .i64 (bar be)) [] (by simp (maxDischargeDepth := 6) only [ruU, entryE, Nat.reduceLT, Nat.reduceAdd, Nat.reduceMul, Nat.reduceEqDiff]) (by kernel_rfl) (by decide) (by simp) (fun G _ hg => ?_) (by simp (maxDischargeDepth := 6) only [ruD, ruW, putL, Nat.reduceLeDiff, xF, ruU, entryE, Nat.reduceLT, Nat.reduceAdd, Nat.reduceMul, Nat.reduceEqDiff]) ?_
        · simp only [e3, ruU, entryE, Nat.reduceLT, Nat.reduceAdd, Nat.reduceMul, Nat.reduceEqDiff]
          exact rbar_c be G
        simp (maxDischargeDepth := 6) only [e2, e3, e9, e10, hz, lb0, hw, hnn, hn, ruD, ruW, putL, Nat.reduceLeDiff, xF, ruU, entryE, Nat.reduceLT, Nat.reduceAdd, Nat.reduceMul, Nat.reduceEqDiff]
        rw [show IntKind.i64.wrap (IntKind.i64.wrap (rc.size be - f) - bar be) = sec from hsec]
        refine w_drawB [] [(13, 104)] (by kernel_rfl) rfl (by kernel_rfl) fun ops anc hA hG => ?_
        simp only [all2_cons] at hG
        simp (maxDischargeDepth := 6) only [e2, e3, e9, e10, hz, lb0, hw, hnn, hn, ruD, ruW, putL, Nat.reduceLeDiff, xF, ruU, entryE, Nat.reduceLT, Nat.reduceAdd, Nat.reduceMul, Nat.reduceEqDiff]
        refine genV_quiet (v := .int .i64 (l.abs.least be)) l.blks (by simp (maxDischargeDepth := 6) only [ruU, entryE, Nat.reduceLT, Nat.reduceAdd, Nat.reduceMul, Nat.reduceEqDiff]) (by kernel_rfl) (by decide) hl.ne (fun G _ hg => ?_) (by simp (maxDischargeDepth := 6) only [ruD, ruW, putL, Nat.reduceLeDiff, xF, ruU, entryE, Nat.reduceLT, Nat.reduceAdd, Nat.reduceMul, Nat.reduceEqDiff]) ?_
        · simp only [e3, ruU, entryE, Nat.reduceLT, Nat.reduceAdd, Nat.reduceMul, Nat.reduceEqDiff]
          exact rleast_c be l G (hl.of hg)
        simp (maxDischargeDepth := 6) only [e2, e3, e9, e10, hz, lb0, hw, hnn, hn, ruD, ruW, putL, Nat.reduceLeDiff, xF, ruU, entryE, Nat.reduceLT, Nat.reduceAdd, Nat.reduceMul, Nat.reduceEqDiff]
        by_cases c3 : w64 (f + by2) < l.abs.least be
        · rw [if_pos (.inl c3)]
          have c3' : IntKind.i64.wrap (f + by2) < l.abs.least be := c3
          simp (maxDischargeDepth := 6) only [e2, e3, e9, e10, hz, lb0, hw, hnn, hn, c3', hG, decide_true, put_at, Try.results57, ruD, ruW, putL, Nat.reduceLeDiff, xF, ruU, entryE, Nat.reduceLT, Nat.reduceAdd, Nat.reduceMul, Nat.reduceEqDiff]
          exact ⟨y, RStep.same g mX, rfl⟩
        have c3' : ¬ IntKind.i64.wrap (f + by2) < l.abs.least be := c3
        simp (maxDischargeDepth := 6) only [e2, e3, e9, e10, hz, lb0, hw, hnn, hn, c3', hG, decide_false, put_at, ruD, ruW, putL, Nat.reduceLeDiff, xF, ruU, entryE, Nat.reduceLT, Nat.reduceAdd, Nat.reduceMul, Nat.reduceEqDiff]
        refine genV_quiet (v := .int .i64 (r.abs.least be)) r.blks (by simp (maxDischargeDepth := 6) only [ruU, entryE, Nat.reduceLT, Nat.reduceAdd, Nat.reduceMul, Nat.reduceEqDiff]) (by kernel_rfl) (by decide) hr.ne (fun G _ hg => ?_) (by simp (maxDischargeDepth := 6) only [ruD, ruW, putL, Nat.reduceLeDiff, xF, ruU, entryE, Nat.reduceLT, Nat.reduceAdd, Nat.reduceMul, Nat.reduceEqDiff]) ?_
        · simp only [e3, ruU, entryE, Nat.reduceLT, Nat.reduceAdd, Nat.reduceMul, Nat.reduceEqDiff]
          exact rleast_c be r G (hr.of hg)
        by_cases c4 : w64 (sec - by2) < r.abs.least be
        · rw [if_pos (.inr c4)]
          have c4' : IntKind.i64.wrap (sec - by2) < r.abs.least be := c4
          simp (maxDischargeDepth := 6) only [e2, e3, e9, e10, hz, lb0, hw, hnn, hn, c4', hG, decide_true, put_at, Try.results57, ruD, ruW, putL, Nat.reduceLeDiff, xF, ruU, entryE, Nat.reduceLT, Nat.reduceAdd, Nat.reduceMul, Nat.reduceEqDiff]
          exact ⟨y, RStep.same g mX, rfl⟩
        have c4' : ¬ IntKind.i64.wrap (sec - by2) < r.abs.least be := c4
        rw [if_neg (by simp only [c3, c4, or_self, not_false_eq_true])]
        simp (maxDischargeDepth := 6) only [e2, e3, e9, e10, hz, lb0, hw, hnn, hn, c4', hG, decide_false, put_at, ruD, ruW, putL, Nat.reduceLeDiff, xF, ruU, entryE, Nat.reduceLT, Nat.reduceAdd, Nat.reduceMul, Nat.reduceEqDiff]
        obtain ⟨fn, hfn⟩ : ∃ fn, IntKind.i64.wrap (f + by2) = fn := ⟨_, rfl⟩
        obtain ⟨sn, hsn⟩ : ∃ sn, IntKind.i64.wrap (sec - by2) = sn := ⟨_, rfl⟩
        refine w_drawB [(15, 3), (15, 8), (15, 12)] [] (by kernel_rfl) (by kernel_rfl) rfl fun ops anc hA hG => ?_
        simp only [all2_cons] at hA
        simp (maxDischargeDepth := 6) only [e2, e3, e9, e10, hz, hnn, hn, hfn, hA, ruD, ruW, putL, Nat.reduceLeDiff, xF, ruU, entryE, Nat.reduceLT, Nat.reduceAdd, Nat.reduceMul, Nat.reduceEqDiff]
        have hrn := restrict_next X l.blks
        obtain ⟨_, k1, hc1, rfl, m1, t1⟩ := rresize_c be l f fn (X.restrict l.blks) (by rw [hrn.1, hrn.2.1]; exact Nat.le_refl _) (hl.of fun m hm => by rw [restrict_get, if_pos hm]) (fun m hm => by rw [hrn.1]; exact hll m hm) hndl
        refine genV_mod (H := ext X []) (W := l.blks) l.blks gX.ok (by simp only [ruU, entryE, Nat.reduceLT, Nat.reduceAdd, Nat.reduceMul, Nat.reduceEqDiff]) (by kernel_rfl) hl.ne hll (fun _ h => h) (v := .tuple #[]) (g := k1) (by simp only [e3, ruU, entryE, Nat.reduceLT, Nat.reduceAdd, Nat.reduceMul, Nat.reduceEqDiff]; exact hc1) m1 (by simp only [all2_cons, hA, true_or, and_true, all2_nil]) ?_
        intro H1 D mH1 hF _ _ _
        have t1' : RefAt H1 (l.resize be f fn) := t1.of fun m hm => hF m (by rw [Rr.resize_blks] at hm; exact hm)
        have hlr2 : ∀ m ∈ l.blks, m ∉ r.blks := fun m h1 h2 => hlr' m h1 m h2 rfl
        have hlr3 : ∀ m ∈ r.blks, m ∉ l.blks := fun m h1 h2 => hlr' m h2 m h1 rfl
        have lnX : n < X.next := hz.symm ▸ hnn
        have hn1 := (mH1.bk (n := n) lnX hnl).trans hn
        have ln1 : n < H1.next := mH1.lt lnX
        have hr1 : RefAt H1 r := hr.mod mH1 hlr hlr3
        have lr1 : ∀ m ∈ r.blks, m < H1.next := fun m hm => mH1.lt (hlr m hm)
        have hrs := rresize_c be r sec sn (ext H1 []) (mH1.ok gX.ok) hr1 lr1 hndr
        simp only [Rr.val] at hrs
        rw [show H1 = ext H1 [] from rfl]
        simp (maxDischargeDepth := 6) only [e2, e3, e9, e10, ln1, hn1, ruD, ruW, putL, Nat.reduceLeDiff, xF, ruU, entryE, Nat.reduceLT, Nat.reduceAdd, Nat.reduceMul, Nat.reduceEqDiff]
        rw [show IntKind.i64.wrap (sec - by2) = sn from hsn]
        refine hrs.mono ?_
        rintro _ H2 ⟨rfl, m2, t2⟩
        have hn2 := (m2.bk (n := n) ln1 hnr).trans hn1
        have ln2 : n < H2.next := m2.lt ln1
        rw [show H2 = ext H2 [] from rfl]
        simp (maxDischargeDepth := 6) only [e2, e3, e9, e10, ln2, hn2, hfn, Try.results57, ruW, putL, Nat.reduceLeDiff, xF, ruU, entryE, Nat.reduceLT, Nat.reduceAdd, Nat.reduceMul, Nat.reduceEqDiff]
        generalize hU : uw H2 n 2 [.int .i64 fn] = U
        have mU : Mod [n] H2 U := hU ▸ Mod.uw (by simp)
        have hnU : bk U n = some ⟨100, false, [.int .i64 idn, .bool be, .int .i64 fn, .pointer (some ⟨l.root, 0, none⟩), .pointer (some ⟨r.root, 0, none⟩)]⟩ := by rw [← hU, bk_uw_eq, hn2]; rfl
        have tn : RefAt U (.split n be fn (l.resize be f fn) (r.resize be sec sn)) := by
          refine ⟨⟨idn, ?_⟩, ?_, ?_⟩
          · rw [hnU]; simp only [Rr.val, Rr.resize_root]
          · refine (t1'.mod m2 (fun m hm => ?_) (fun m hm => ?_)).mod mU (fun m hm => ?_) (fun m hm h => ?_)
            · rw [Rr.resize_blks] at hm; exact mH1.lt (hll m hm)
            · rw [Rr.resize_blks] at hm; exact hlr2 m hm
            · rw [Rr.resize_blks] at hm; exact m2.lt (mH1.lt (hll m hm))
            · rw [Rr.resize_blks] at hm; simp only [List.mem_singleton] at h; exact hnl (h ▸ hm)
          · refine t2.mod mU (fun m hm => ?_) (fun m hm h => ?_)
            · rw [Rr.resize_blks] at hm; exact m2.lt (lr1 m hm)
            · rw [Rr.resize_blks] at hm; simp only [List.mem_singleton] at h; exact hnr (h ▸ hm)
        have eb : (Rr.split n be fn (l.resize be f fn) (r.resize be sec sn)).blks = (Rr.split n be f l r).blks := by simp only [Rr.blks, Rr.resize_blks]
        have mT : Mod (Rr.split n be f l r).blks X U := ((mH1.mono (fun m hm => by simp [Rr.blks, hm])).trans (m2.mono (fun m hm => by simp [Rr.blks, hm]))).trans (mU.mono (by simp [Rr.blks]))
        have s1 := RStep.part gX hsub mT tn rfl (fun m hm => .inl (eb ▸ hm)) (fun m hm => mT.lt (hlt m (eb ▸ hm))) (by rw [eb]; exact Rr.sub_nodup y.root _ _ hsub g.nd)
        refine ⟨by trivial, _, (RStep.same g mX).trans g.ok s1, ?_⟩
        have hrc' : y.abs.root.rectAt y.abs.frame (d.take k) = rc := hrc
        have hfit := Atr.at_fits y.abs.root (d.take k) _ y.abs.frame hsa v.fit (fun b => by have := v.size b; omega)
        rw [hrc'] at hfit
        have hsz := Atr.sub_size hsa
        simp only [Atr.size] at hsz
        have hdim : ∀ b, rc.size b ≤ 1000 := fun b => by have := hfit.2 b; have := v.size b; omega
        obtain ⟨p1, p2, p3, p4⟩ := Atr.part_fits hfit.1 (fun b => by have := hdim b; omega)
        have pl := Atr.lst_pos be l.abs
        have pr := Atr.lst_pos be r.abs
        have hbar : 0 ≤ bar be ∧ bar be ≤ 1 := by cases be <;> decide
        have hdb := hdim be
        have hsv : sec = rc.size be - f - bar be := by
          rw [← hsec, wrap_sm (n := rc.size be - f) (by omega) (by omega), wrap_sm (by omega) (by omega)]
        have hb2 : -1000 ≤ by2 ∧ by2 ≤ 1000 := by
          rw [← hby2]
          split
          · omega
          · rw [wrap_sm (n := 0 - by1) (by omega) (by omega)]; omega
        have hfv : fn = f + by2 := by rw [← hfn]; exact wrap_sm (by omega) (by omega)
        have hnv : sn = sec - by2 := by rw [← hsn]; exact wrap_sm (by omega) (by omega)
        rw [Atr.least_eq be l.abs (by omega)] at c3'
        rw [Atr.least_eq be r.abs (by omega)] at c4'
        rw [hfn] at c3'
        rw [hsn] at c4'
        have q1 := Atr.rresize_eq be l.abs _ fn p1 (by omega) (by rw [Dim.set_same]; omega) (by omega) (by omega)
        have q2 := Atr.rresize_eq be r.abs _ sn p2 (by omega) (by rw [Dim.set_same]; omega) (by omega) (by omega)
        rw [Dim.set_same] at q1 q2
        rw [← hsv] at q2
        simp only [Rw.abs, Rr.abs_put, Rr.abs, Rr.resize_abs, q1, q2]
        rw [show w64 (sec - by2) = sn from hsn]

end Go.Proofs.Ytiedpcmdimgboaa

/- What the acts of the statements come to on the reference. -/
namespace Go.Proofs.Ytiedpcmdimgboaa
open Go.Ax
set_option linter.unusedSimpArgs false
set_option maxRecDepth 10000

def RDid (H : AHeap) (T : Nat) (x : Rw) (v : Value) (s : Ast) (out : Out) (H1 : AHeap) : Prop := out = .ok v ∧ ∃ x', RStep H T x H1 x' ∧ x'.abs = s

set_option maxHeartbeats 2000000 in
theorem does_c (T : Nat) (x : Rw) (a : Ac) (H : AHeap) (g : RGood H T x) {m : Int} (v : Inv x.abs m) : CallA Try.prog 28 [.pointer (some ⟨T, 0, none⟩), a.val] H (RDid H T x (.tuple #[.int .i64 (x.abs.act a).1, .int .i64 (x.abs.act a).2.1]) (x.abs.act a).2.2) := by
  obtain ⟨b, hb⟩ : ∃ b, H.next = b := ⟨_, rfl⟩
  have gE : RGood (ext H [⟨31, false, a.cells⟩]) T x := g.ext
  simp only [Ac.cells] at gE
  have bx : ∀ {H1 y}, RStep (ext H [⟨31, false, a.cells⟩]) T x H1 y → RStep H T x H1 y := fun s => (RStep.same g (Mod.ext g.ok)).trans g.ok s
  simp only [Ac.cells] at bx
  refine callE_fn mixed Try.func28 rfl Try.ntmps28 (Nat.le_of_ble_eq_true rfl) ?_
  simp (maxDischargeDepth := 6) only [Ac.val, hb, ruW, putL, Nat.reduceLeDiff, xF, ruU, entryE, Nat.reduceLT, Nat.reduceAdd, Nat.reduceMul, Nat.reduceEqDiff]
  refine (pick_c a.kind 8 (ext H (_ :: _))).to ?_
  unfold Ast.act
  generalize pick a.kind 8 = k
  by_cases h0 : k = 0
  · subst h0
    rw [if_pos (.inl rfl)]
    simp (maxDischargeDepth := 6) only [hb, decide_true, ruW, putL, Nat.reduceLeDiff, xF, ruU, entryE, Nat.reduceLT, Nat.reduceAdd, Nat.reduceMul, Nat.reduceEqDiff]
    refine (rsplit_d T x a.id a.be a.n _ gE v).mono ?_
    rintro _ H1 ⟨rfl, x', st, ha⟩
    simp (maxDischargeDepth := 6) only [Try.results28, ruW, putL, Nat.reduceLeDiff, xF, ruU, entryE, Nat.reduceLT, Nat.reduceAdd, Nat.reduceMul, Nat.reduceEqDiff]
    exact ⟨rfl, x', bx st, ha⟩
  by_cases h1 : k = 1
  · subst h1
    rw [if_pos (.inr rfl)]
    simp (maxDischargeDepth := 6) only [hb, h0, decide_true, decide_false, ruW, putL, Nat.reduceLeDiff, xF, ruU, entryE, Nat.reduceLT, Nat.reduceAdd, Nat.reduceMul, Nat.reduceEqDiff]
    refine (rsplit_d T x a.id a.be a.n _ gE v).mono ?_
    rintro _ H1 ⟨rfl, x', st, ha⟩
    simp (maxDischargeDepth := 6) only [Try.results28, ruW, putL, Nat.reduceLeDiff, xF, ruU, entryE, Nat.reduceLT, Nat.reduceAdd, Nat.reduceMul, Nat.reduceEqDiff]
    exact ⟨rfl, x', bx st, ha⟩
  rw [if_neg (by omega)]
  by_cases h2 : k = 2
  · subst h2
    rw [if_pos rfl]
    simp (maxDischargeDepth := 6) only [hb, h0, h1, decide_true, decide_false, ruW, putL, Nat.reduceLeDiff, xF, ruU, entryE, Nat.reduceLT, Nat.reduceAdd, Nat.reduceMul, Nat.reduceEqDiff]
    refine (rdelete_d T x a.id _ gE v).mono ?_
    rintro _ H1 ⟨rfl, x', st, ha⟩
    simp (maxDischargeDepth := 6) only [Try.results28, ruW, putL, Nat.reduceLeDiff, xF, ruU, entryE, Nat.reduceLT, Nat.reduceAdd, Nat.reduceMul, Nat.reduceEqDiff]
    exact ⟨rfl, x', bx st, ha⟩
  rw [if_neg h2]
  by_cases h3 : k = 3
  · subst h3
    rw [if_pos rfl]
    simp (maxDischargeDepth := 6) only [hb, h0, h1, h2, decide_true, decide_false, ruW, putL, Nat.reduceLeDiff, xF, ruU, entryE, Nat.reduceLT, Nat.reduceAdd, Nat.reduceMul, Nat.reduceEqDiff]
    refine (ronly_d T x a.id _ gE).mono ?_
    rintro _ H1 ⟨rfl, x', st, ha⟩
    simp (maxDischargeDepth := 6) only [Try.results28, ruW, putL, Nat.reduceLeDiff, xF, ruU, entryE, Nat.reduceLT, Nat.reduceAdd, Nat.reduceMul, Nat.reduceEqDiff]
    exact ⟨rfl, x', bx st, ha⟩
  rw [if_neg h3]
  by_cases h4 : k = 4
  · subst h4
    rw [if_pos rfl]
    simp (maxDischargeDepth := 6) only [hb, h0, h1, h2, h3, decide_true, decide_false, ruW, putL, Nat.reduceLeDiff, xF, ruU, entryE, Nat.reduceLT, Nat.reduceAdd, Nat.reduceMul, Nat.reduceEqDiff]
    refine (rresize_d T x a.id a.n a.be _ gE v).mono ?_
    rintro _ H1 ⟨rfl, x', st, ha⟩
    simp (maxDischargeDepth := 6) only [Try.results28, ruW, putL, Nat.reduceLeDiff, xF, ruU, entryE, Nat.reduceLT, Nat.reduceAdd, Nat.reduceMul, Nat.reduceEqDiff]
    exact ⟨rfl, x', bx st, ha⟩
  rw [if_neg h4]
  by_cases h5 : k = 5
  · subst h5
    rw [if_pos rfl]
    simp (maxDischargeDepth := 6) only [hb, h0, h1, h2, h3, h4, decide_true, decide_false, ruW, putL, Nat.reduceLeDiff, xF, ruU, entryE, Nat.reduceLT, Nat.reduceAdd, Nat.reduceMul, Nat.reduceEqDiff]
    refine (rbalance_d T x _ gE (by have := v.tsize; omega)).mono ?_
    rintro _ H1 ⟨rfl, x', st, ha⟩
    simp (maxDischargeDepth := 6) only [Try.results28, ruW, putL, Nat.reduceLeDiff, xF, ruU, entryE, Nat.reduceLT, Nat.reduceAdd, Nat.reduceMul, Nat.reduceEqDiff]
    exact ⟨rfl, x', bx st, ha⟩
  rw [if_neg h5]
  by_cases h6 : k = 6
  · subst h6
    rw [if_pos rfl]
    simp (maxDischargeDepth := 6) only [hb, h0, h1, h2, h3, h4, h5, decide_true, decide_false, ruW, putL, Nat.reduceLeDiff, xF, ruU, entryE, Nat.reduceLT, Nat.reduceAdd, Nat.reduceMul, Nat.reduceEqDiff]
    refine (rsetSize_d T x a.n a.m _ gE v).mono ?_
    rintro _ H1 ⟨rfl, x', st, ha⟩
    simp (maxDischargeDepth := 6) only [Try.results28, ruW, putL, Nat.reduceLeDiff, xF, ruU, entryE, Nat.reduceLT, Nat.reduceAdd, Nat.reduceMul, Nat.reduceEqDiff]
    exact ⟨rfl, x', bx st, ha⟩
  rw [if_neg h6]
  simp (maxDischargeDepth := 6) only [hb, h0, h1, h2, h3, h4, h5, h6, decide_false, ruW, putL, Nat.reduceLeDiff, xF, ruU, entryE, Nat.reduceLT, Nat.reduceAdd, Nat.reduceMul, Nat.reduceEqDiff]
  refine (rselect_d T x a.id _ gE).mono ?_
  rintro _ H1 ⟨rfl, x', st, ha⟩
  simp (maxDischargeDepth := 6) only [Try.results28, ruW, putL, Nat.reduceLeDiff, xF, ruU, entryE, Nat.reduceLT, Nat.reduceAdd, Nat.reduceMul, Nat.reduceEqDiff]
  exact ⟨rfl, x', bx st, ha⟩

end Go.Proofs.Ytiedpcmdimgboaa

/- The walk of WindowScript. -/
namespace Go.Proofs.Ytiedpcmdimgboaa
open Go.Ax
set_option linter.unusedSimpArgs false
set_option maxRecDepth 10000

structure Both (H X : AHeap) (T : Nat) (x : Wn) (o : Nat) (y : Rw) (n : Int) : Prop where
  live : Live H X T x n
  good : RGood X o y
  eq : y.abs = x.abs
  ho : H.next ≤ o
  bl : ∀ m ∈ y.root.blks, H.next ≤ m
  dis : ∀ k ∈ T :: x.root.blks, k ∉ o :: y.root.blks

theorem Both.rects {H X : AHeap} {T : Nat} {x : Wn} {o : Nat} {y : Rw} {n : Int} (b : Both H X T x o y n) : y.rects = x.rects := by
  rw [b.live.rects]
  show y.abs.rects = x.abs.rects
  rw [b.eq]
theorem Both.bars {H X : AHeap} {T : Nat} {x : Wn} {o : Nat} {y : Rw} {n : Int} (b : Both H X T x o y n) : y.bars = x.bars := by
  have h := b.eq
  show y.abs.root.bars y.abs.frame = barsOf x.root x.frame
  rw [abs_bars, h]
  rfl
theorem Both.sz {H X : AHeap} {T : Nat} {x : Wn} {o : Nat} {y : Rw} {n : Int} (b : Both H X T x o y n) : y.root.size < 64 := by
  rw [Rr.size_abs]
  have := b.live.inv.tsize
  rw [← b.eq] at this
  exact this

theorem Both.act {H X X1 X2 : AHeap} {T : Nat} {x x' : Wn} {o : Nat} {y y' : Rw} {n m : Int} (b : Both H X T x o y n) (hok : H.base ≤ H.next) (s : Step X T x X1 x') (r : RStep X1 o y X2 y') (he : y'.abs = x'.abs) (hi : Inv x'.abs m) : Both H X2 T x' o y' m := by
  have lv1 := b.live.step hok s hi
  have d1 : ∀ k ∈ T :: x'.root.blks, k ∉ o :: y.root.blks := fun k hk h => by
    rcases List.mem_cons.1 hk with rfl | hk
    · exact b.dis _ List.mem_cons_self h
    · rcases s.new k hk with h' | h'
      · exact b.dis k (List.mem_cons_of_mem _ h') h
      · rcases List.mem_cons.1 h with rfl | h
        · have := b.good.lt; omega
        · have := b.good.lts k h; omega
  have gl : ∀ k ∈ T :: x'.root.blks, k < X1.next := fun k hk => by
    rcases List.mem_cons.1 hk with rfl | hk
    · exact s.good.lt
    · exact s.good.lts k hk
  refine ⟨⟨lv1.good.mod r.mod (d1 T List.mem_cons_self) (fun k hk => d1 k (List.mem_cons_of_mem _ hk)), hi, lv1.mod.step r.mod hok (fun k hk => ?_), lv1.t, lv1.bl⟩, r.good, he, b.ho, fun k hk => ?_, fun k hk h => ?_⟩
  · rcases List.mem_cons.1 hk with rfl | hk
    · exact .inr b.ho
    · exact .inr (b.bl k hk)
  · rcases r.new k hk with h | h
    · exact b.bl k h
    · exact Nat.le_trans lv1.mod.next h
  · rcases List.mem_cons.1 h with rfl | h
    · exact d1 _ hk List.mem_cons_self
    · rcases r.new k h with h' | h'
      · exact d1 k hk (List.mem_cons_of_mem _ h')
      · have := gl k hk; omega

theorem pn24 {H : AHeap} : aBin Try.prog H .eql 24 (.pointer none) (.pointer none) = some (.bool true) := by
  simp only [aBin, aBinAddr]
  rfl
theorem pp24 {H : AHeap} {n off : Nat} : aBin Try.prog H .eql 24 (.pointer (some ⟨n, off, none⟩)) (.pointer none) = some (.bool false) := by
  simp only [aBin, aBinAddr]
  rfl
theorem pn52 {H : AHeap} : aBin Try.prog H .eql 52 (.pointer none) (.pointer none) = some (.bool true) := by
  simp only [aBin, aBinAddr]
  rfl
theorem pp52 {H : AHeap} {n off : Nat} : aBin Try.prog H .eql 52 (.pointer (some ⟨n, off, none⟩)) (.pointer none) = some (.bool false) := by
  simp only [aBin, aBinAddr]
  rfl
theorem np52 {H : AHeap} : aBin Try.prog H .neq 52 (.pointer none) (.pointer none) = some (.bool false) := by
  simp only [aBin, aBinAddr]
  rfl
theorem nn52 {H : AHeap} {n off : Nat} : aBin Try.prog H .neq 52 (.pointer (some ⟨n, off, none⟩)) (.pointer none) = some (.bool true) := by
  simp only [aBin, aBinAddr]
  rfl

theorem acs_load1 {l : List Ac} {k : Nat} {p : Ac} {e : TypeId} {o : Bool} (h : l[k]? = some p) : ldB Try.prog 3 (0 + (k * 5 + 1)) (some ⟨e, o, acsOf l⟩) = some (.int .i64 p.id) := by
  have h1 : aggT Try.prog 3 = some false := by kernel_rfl
  have h0 := congrArg (·[1]?) (acs_get l k p h)
  simp only [List.getElem?_take, List.getElem?_drop, Ac.cells, List.getElem?_cons_zero, List.getElem?_cons_succ, Nat.reduceLT, if_true] at h0
  simp only [ldB, h1, Nat.zero_add, h0]

set_option maxHeartbeats 8000000 in
theorem script_c (h w : Int) (v : Value) (l : List Ac) (H : AHeap) (hok : H.base ≤ H.next) (hv : ArgAt H v l) :
    CallA Try.prog 7 [.int .i64 h, .int .i64 w, v] H (True1 H) := by
  obtain ⟨b, hb⟩ : ∃ b, H.next = b := ⟨_, rfl⟩
  obtain ⟨av, cv, rfl, hv⟩ := hv
  refine callE_fn mixed Try.func7 rfl Try.ntmps7 (Nat.le_of_ble_eq_true rfl) ?_
  simp (maxDischargeDepth := 6) only [ruW, putL, Nat.reduceLeDiff, xF, ruU, entryE, Nat.reduceLT, Nat.reduceAdd, Nat.reduceMul, Nat.reduceEqDiff]
  refine (lives_c (ext H [])).to ?_
  by_cases h60 : (120 : Int) < (l.length : Int)
  · simp (maxDischargeDepth := 6) only [h60, Bool.not_true, decide_true, Try.results7, ruW, putL, Nat.reduceLeDiff, xF, ruU, entryE, Nat.reduceLT, Nat.reduceAdd, Nat.reduceMul, Nat.reduceEqDiff]
    exact ⟨rfl, Mod.refl⟩
  simp (maxDischargeDepth := 6) only [h60, Bool.not_true, decide_false, ruW, putL, Nat.reduceLeDiff, xF, ruU, entryE, Nat.reduceLT, Nat.reduceAdd, Nat.reduceMul, Nat.reduceEqDiff]
  cases hin : inside h w with
  | false =>
    refine (new_no h w (ext H []) hin).to ?_
    simp (maxDischargeDepth := 6) only [ruW, putL, Nat.reduceLeDiff, xF, ruU, entryE, Nat.reduceLT, Nat.reduceAdd, Nat.reduceMul, Nat.reduceEqDiff]
    refine (rnew_no h w (ext H []) hin).to ?_
    simp (maxDischargeDepth := 6) only [pn24, pn52, ne_eq, not_true_eq_false, decide_false, bne_self_eq_false, ruW, putL, Nat.reduceLeDiff, xF, ruU, entryE, Nat.reduceLT, Nat.reduceAdd, Nat.reduceMul, Nat.reduceEqDiff]
    refine w_env fun E hE => ?_
    have e2 : E 2 = .slice av l.length cv := by rw [hE]; simp only [ruU, entryE, Nat.reduceLT, Nat.reduceAdd, Nat.reduceMul, Nat.reduceEqDiff]
    have e9 : E 9 = .pointer none := by rw [hE]; simp only [ruU, entryE, Nat.reduceLT, Nat.reduceAdd, Nat.reduceMul, Nat.reduceEqDiff]
    have e11 : E 11 = .int .i64 0 := by rw [hE]; simp only [ruU, entryE, Nat.reduceLT, Nat.reduceAdd, Nat.reduceMul, Nat.reduceEqDiff]
    clear hE
    refine blockC_meet (fun E' H' => H' = ext H []) ?_ ?_
    · refine w_loop (fun (_ : Unit) E' H' => H' = ext H [] ∧ E' 2 = .slice av l.length cv ∧ E' 9 = .pointer none ∧ E' 11 = .int .i64 0) (fun _ => 0) () ⟨rfl, e2, e9, e11⟩ ?_
      clear e2 e9 e11
      rintro _ E H' ⟨hH, e2, e9, e11⟩
      rw [hH]
      by_cases h0 : (0 : Int) < (l.length : Int)
      · simp (maxDischargeDepth := 6) only [e2, e9, e11, h0, np52, decide_true, ruW, putL, Nat.reduceLeDiff, xF, ruU, entryE, Nat.reduceLT, Nat.reduceAdd, Nat.reduceMul, Nat.reduceEqDiff]
        exact joinR_normal rfl
      · simp (maxDischargeDepth := 6) only [e2, e9, e11, h0, decide_false, ruW, putL, Nat.reduceLeDiff, xF, ruU, entryE, Nat.reduceLT, Nat.reduceAdd, Nat.reduceMul, Nat.reduceEqDiff]
        exact joinR_normal rfl
    · rintro E H' hH
      rw [hH]
      simp (maxDischargeDepth := 6) only [Try.results7, ruW, putL, Nat.reduceLeDiff, xF, ruU, entryE, Nat.reduceLT, Nat.reduceAdd, Nat.reduceMul, Nat.reduceEqDiff]
      exact ⟨rfl, Mod.refl⟩
  | true =>
  refine (new_ok h w (ext H []) hin).to ?_
  simp (maxDischargeDepth := 6) only [hb, ruW, putL, Nat.reduceLeDiff, xF, ruU, entryE, Nat.reduceLT, Nat.reduceAdd, Nat.reduceMul, Nat.reduceEqDiff]
  refine (rnew_ok h w (ext H (_ :: _)) hin).to ?_
  simp (maxDischargeDepth := 6) only [hb, pp24, pp52, ne_eq, not_true_eq_false, decide_false, bne_self_eq_false, ruW, putL, Nat.reduceLeDiff, xF, ruU, entryE, Nat.reduceLT, Nat.reduceAdd, Nat.reduceMul, Nat.reduceEqDiff]
  have hl0 := new_live hok hin hb
  have hl0' : Both H (ext H [⟨65, false, [.int .i64 1]⟩, ⟨69, false, [.iface 63 (.pointer (some ⟨b + 0, 0, none⟩)), .int .i64 h, .int .i64 w, .int .i64 1, .int .i64 1]⟩, ⟨100, false, [.int .i64 1, .bool false, .int .i64 0, .pointer none, .pointer none]⟩, ⟨60, false, [.pointer (some ⟨b + 2, 0, none⟩), .int .i64 h, .int .i64 w, .int .i64 1, .int .i64 1]⟩])
      (b + 1) ⟨.leaf (b + 0) 1, h, w, 1, 1⟩ (b + 3) ⟨.leaf (b + 2) 1, h, w, 1, 1⟩ 1 := by
    have q : ∀ i B, ([⟨65, false, [.int .i64 1]⟩, ⟨69, false, [.iface 63 (.pointer (some ⟨b + 0, 0, none⟩)), .int .i64 h, .int .i64 w, .int .i64 1, .int .i64 1]⟩, ⟨100, false, [.int .i64 1, .bool false, .int .i64 0, .pointer none, .pointer none]⟩, ⟨60, false, [.pointer (some ⟨b + 2, 0, none⟩), .int .i64 h, .int .i64 w, .int .i64 1, .int .i64 1]⟩] : List Bl)[i]? = some B → bk (ext H [⟨65, false, [.int .i64 1]⟩, ⟨69, false, [.iface 63 (.pointer (some ⟨b + 0, 0, none⟩)), .int .i64 h, .int .i64 w, .int .i64 1, .int .i64 1]⟩, ⟨100, false, [.int .i64 1, .bool false, .int .i64 0, .pointer none, .pointer none]⟩, ⟨60, false, [.pointer (some ⟨b + 2, 0, none⟩), .int .i64 h, .int .i64 w, .int .i64 1, .int .i64 1]⟩]) (b + i) = some B := fun i B hB => by
      have hi : i < 4 := by
        rcases Nat.lt_or_ge i 4 with h' | h'
        · exact h'
        · rw [List.getElem?_eq_none (by simpa using h')] at hB; cases hB
      rw [bk_at hb (by simpa using hi), hB]
    refine ⟨⟨⟨⟨q 1 _ rfl, q 0 _ rfl⟩, by rw [ext_next, hb]; simp, fun n hn => ?_, by simp [Tr.blks], by simp [Tr.blks], (Mod.ext (W := []) hok).ok hok, by simp [Tr.size]⟩, new_inv hin, Mod.ext hok, by omega, fun n hn => ?_⟩, ⟨q 3 _ rfl, ⟨false, 0, q 2 _ rfl⟩, by rw [ext_next, hb]; simp, fun n hn => ?_, by simp [Rr.blks], by simp [Rr.blks], (Mod.ext (W := []) hok).ok hok⟩, rfl, by omega, fun n hn => ?_, fun k hk h' => ?_⟩
    · simp only [Tr.blks, List.mem_singleton] at hn
      rw [ext_next, hb]; simp; omega
    · simp only [Tr.blks, List.mem_singleton] at hn; omega
    · simp only [Rr.blks, List.mem_singleton] at hn
      rw [ext_next, hb]; simp; omega
    · simp only [Rr.blks, List.mem_singleton] at hn; omega
    · simp only [Tr.blks, Rr.blks, List.mem_cons, List.not_mem_nil, or_false] at hk h'; omega
  refine w_env fun E hE => ?_
  have e2 : E 2 = .slice av l.length cv := by rw [hE]; simp only [ruU, entryE, Nat.reduceLT, Nat.reduceAdd, Nat.reduceMul, Nat.reduceEqDiff]
  have e7 : E 7 = .pointer (some ⟨b + 1, 0, none⟩) := by rw [hE]; simp only [ruU, entryE, Nat.reduceLT, Nat.reduceAdd, Nat.reduceMul, Nat.reduceEqDiff]
  have e9 : E 9 = .pointer (some ⟨b + 3, 0, none⟩) := by rw [hE]; simp only [ruU, entryE, Nat.reduceLT, Nat.reduceAdd, Nat.reduceMul, Nat.reduceEqDiff]
  have e11 : E 11 = .int .i64 0 := by rw [hE]; simp only [ruU, entryE, Nat.reduceLT, Nat.reduceAdd, Nat.reduceMul, Nat.reduceEqDiff]
  clear hE
  generalize hX : ext H (_ :: _) = X at hl0' ⊢
  refine blockC_meet (fun E' H' => Mod [] H H') ?_ ?_
  · refine w_loop (fun (k : Nat) E' H' => ∃ x y, Both H H' (b + 1) x (b + 3) y (k + 1) ∧ k ≤ l.length ∧ E' 2 = .slice av l.length cv ∧ E' 7 = .pointer (some ⟨b + 1, 0, none⟩) ∧ E' 9 = .pointer (some ⟨b + 3, 0, none⟩) ∧ E' 11 = .int .i64 (k : Int)) (fun k => l.length - k) 0 ⟨_, _, hl0', Nat.zero_le _, e2, e7, e9, e11⟩ ?_
    clear e2 e7 e9 e11 hl0' hX hl0
    rintro k E X ⟨x, y, bo, hk, e2, e7, e9, e11⟩
    rw [show X = ext X [] from rfl]
    by_cases hkl : k = l.length
    · have hc : decide ((k : Int) < (l.length : Int)) = false := by simp [hkl]
      simp (maxDischargeDepth := 6) only [e2, e7, e9, e11, hc, ruW, putL, Nat.reduceLeDiff, xF, ruU, entryE, Nat.reduceLT, Nat.reduceAdd, Nat.reduceMul, Nat.reduceEqDiff]
      exact joinR_normal bo.live.mod
    · have hlt : k < l.length := by omega
      have hc : decide ((k : Int) < (l.length : Int)) = true := decide_eq_true (by omega)
      obtain ⟨nA, sA, eA, rfl, hnA, hbA⟩ := hv (by intro h; rw [h] at hlt; simp at hlt)
      obtain ⟨a, ha⟩ : ∃ a, l[k]? = some a := ⟨_, List.getElem?_eq_getElem hlt⟩
      have i1 := acs_ia (n := nA) (s := sA) (cap := cv) (i := (k : Int)) rfl hlt
      have q1 := acs_load (e := eA) (o := true) ha
      have hbX := (bo.live.mod.bk hnA (by simp)).trans hbA
      have lA := bo.live.mod.lt hnA
      simp (maxDischargeDepth := 6) only [e2, e7, e9, e11, hc, i1, lA, hbX, q1, nn52, ruW, putL, Nat.reduceLeDiff, xF, ruU, entryE, Nat.reduceLT, Nat.reduceAdd, Nat.reduceMul, Nat.reduceEqDiff]
      refine (do_c (b + 1) x a (ext X []) bo.live.good).mono ?_
      rintro _ X1 ⟨rfl, x', st, hab⟩
      have gy1 : RGood X1 (b + 3) y := bo.good.mod st.mod (fun h => bo.dis _ h List.mem_cons_self) (fun n hn h => bo.dis _ h (List.mem_cons_of_mem _ hn))
      have lv1 := bo.live.step hok st (m := (((k + 1 : Nat) : Int) + 1)) (by rw [hab]; have := act_inv bo.live.inv (by omega) a; exact this.mono (by omega))
      have hbX1 := (lv1.mod.bk hnA (by simp)).trans hbA
      have lA1 := lv1.mod.lt hnA
      rw [show X1 = ext X1 [] from rfl]
      simp (maxDischargeDepth := 6) only [e2, e7, e9, e11, i1, lA1, hbX1, q1, ruW, putL, Nat.reduceLeDiff, xF, ruU, entryE, Nat.reduceLT, Nat.reduceAdd, Nat.reduceMul, Nat.reduceEqDiff]
      refine (does_c (b + 3) y a (ext X1 []) gy1 (m := k + 1) (by rw [bo.eq]; exact bo.live.inv)).mono ?_
      rintro _ X2 ⟨rfl, y', rt, hay⟩
      rw [bo.eq] at hay
      have bo2 := bo.act hok st rt (hay.trans hab.symm) lv1.inv
      rw [bo.eq]
      generalize (x.abs.act a).1 = r1
      generalize (x.abs.act a).2.1 = r2
      have hbX2 := (bo2.live.mod.bk hnA (by simp)).trans hbA
      have lA2 := bo2.live.mod.lt hnA
      have hxs := bo2.live.size
      have hys := bo2.sz
      have hrr := bo2.rects
      have hbb := bo2.bars
      have hyo : OwnAt X2 (b + 3) y' := bo2.good.at'
      obtain ⟨z, hz⟩ : ∃ z, X2.next = z := ⟨_, rfl⟩
      have okX := bo2.good.ok
      have hzb : X2.base ≤ z := hz ▸ okX
      have lz2 : nA < z := hz ▸ lA2
      have q0 := acs_load1 (e := eA) (o := true) ha
      rw [show X2 = ext X2 [] from rfl]
      simp (maxDischargeDepth := 6) only [e2, e7, e9, e11, i1, lA2, hbX2, q0, ruW, putL, Nat.reduceLeDiff, xF, ruU, entryE, Nat.reduceLT, Nat.reduceAdd, Nat.reduceMul, Nat.reduceEqDiff]
      refine (next_c (b + 1) x' a.id (ext X2 []) (by omega) bo2.live.good.wn).to ?_
      simp (maxDischargeDepth := 6) only [e2, e7, e9, e11, i1, lA2, hbX2, q0, ruW, putL, Nat.reduceLeDiff, xF, ruU, entryE, Nat.reduceLT, Nat.reduceAdd, Nat.reduceMul, Nat.reduceEqDiff]
      refine (rnext_c (b + 3) y' a.id (ext X2 []) hyo bo2.good.ref (by omega)).to ?_
      simp (maxDischargeDepth := 6) only [e2, e7, e9, e11, i1, lA2, hbX2, q0, ruW, putL, Nat.reduceLeDiff, xF, ruU, entryE, Nat.reduceLT, Nat.reduceAdd, Nat.reduceMul, Nat.reduceEqDiff]
      refine (previous_c (b + 1) x' a.id (ext X2 []) (by omega) bo2.live.good.wn).to ?_
      simp (maxDischargeDepth := 6) only [e2, e7, e9, e11, i1, lA2, hbX2, q0, ruW, putL, Nat.reduceLeDiff, xF, ruU, entryE, Nat.reduceLT, Nat.reduceAdd, Nat.reduceMul, Nat.reduceEqDiff]
      refine (rprevious_c (b + 3) y' a.id (ext X2 []) hyo bo2.good.ref (by omega)).to ?_
      simp (maxDischargeDepth := 6) only [e2, e7, e9, e11, i1, lA2, hbX2, q0, ruW, putL, Nat.reduceLeDiff, xF, ruU, entryE, Nat.reduceLT, Nat.reduceAdd, Nat.reduceMul, Nat.reduceEqDiff]
      refine (rect_c (b + 1) x' a.id (ext X2 []) (by omega) bo2.live.good.wn).to ?_
      rw [hrr]
      generalize nearA x'.rects a.id 1 = n1
      generalize nearA x'.rects a.id (-1) = n2
      obtain ⟨ro, hro⟩ : ∃ ro, rectOf a.id x'.rects = ro := ⟨_, rfl⟩
      rw [hro]
      obtain ⟨rc, rb⟩ := ro
      simp (maxDischargeDepth := 6) only [Rc.val, hz, hzb, lz2, e2, e7, e9, e11, i1, lA2, hbX2, q0, ruW, putL, Nat.reduceLeDiff, xF, ruU, entryE, Nat.reduceLT, Nat.reduceAdd, Nat.reduceMul, Nat.reduceEqDiff]
      have gA : RGood (ext X2 [⟨35, false, rc.cells⟩]) (b + 3) y' := bo2.good.ext
      have rrc := rRect_c (b + 3) y' a.id (ext X2 [⟨35, false, rc.cells⟩]) gA.at' gA.ref (by omega)
      rw [hrr, hro] at rrc
      simp only [Rc.cells] at rrc
      refine rrc.to ?_
      simp (maxDischargeDepth := 6) only [Rc.val, hz, hzb, lz2, e2, e7, e9, e11, i1, lA2, hbX2, q0, ruW, putL, Nat.reduceLeDiff, xF, ruU, entryE, Nat.reduceLT, Nat.reduceAdd, Nat.reduceMul, Nat.reduceEqDiff]
      have eh : y'.h = x'.h := congrArg Ast.h bo2.eq
      have ew : y'.w = x'.w := congrArg Ast.w bo2.eq
      have el : y'.last = x'.last := congrArg Ast.last bo2.eq
      have es : y'.sel = x'.sel := congrArg Ast.sel bo2.eq
      have hyo' := hyo
      simp only [OwnAt, Rw.cells, eh, ew, el, es] at hyo'
      have loz : b + 3 < z := hz ▸ bo2.good.lt
      generalize hY : ext X2 (_ :: _) = Y
      have mY : Mod [] X2 Y := hY ▸ Mod.ext okX
      have okY := mY.ok okX
      have hY2 : Y.next = z + 2 := by rw [← hY, ext_next, hz]; rfl
      have hc0 : bk Y (z + 0) = some ⟨35, false, rc.cells⟩ := by rw [← hY, bk_at hz (by simp)]; rfl
      have hc1 : bk Y (z + 1) = some ⟨35, false, rc.cells⟩ := by rw [← hY, bk_at hz (by simp)]; rfl
      simp only [Rc.cells] at hc0 hc1
      have gY := bo2.live.good.mod mY (by simp) (by simp)
      have ryY := bo2.good.mod mY (by simp) (by simp)
      have lz0 : z + 0 < Y.next := by omega
      have lz1 : z + 1 < Y.next := by omega
      have loY : b + 3 < Y.next := by omega
      have hyY := (mY.bk bo2.good.lt (by simp)).trans hyo'
      rw [show Y = ext Y [] from rfl]
      refine (size32_c (b + 1) x' (ext Y []) gY.wn).to ?_
      simp (maxDischargeDepth := 6) only [List.append, Rc.val, lz0, lz1, loY, hc0, hc1, hyY, e2, e7, e9, e11, ne_eq, not_true_eq_false, decide_false, bne_self_eq_false, ruW, putL, Nat.reduceLeDiff, xF, ruU, entryE, Nat.reduceLT, Nat.reduceAdd, Nat.reduceMul, Nat.reduceEqDiff]
      refine w_eqS (ts := [3, 3, 3, 3, 3]) (xs := rc.cells) (ys := rc.cells) (r := false) fl35 ag35 gd35 (by rw [rc_eqL]; simp; rfl) (by simp only [ruU, entryE, Nat.reduceLT, Nat.reduceAdd, Nat.reduceMul, Nat.reduceEqDiff]) (by simp only [ruU, entryE, Nat.reduceLT, Nat.reduceAdd, Nat.reduceMul, Nat.reduceEqDiff]) (by decide) (by simp only [ruU, entryE, Nat.reduceLT, Nat.reduceAdd, Nat.reduceMul, Nat.reduceEqDiff]; rfl) (by simp only [ruU, entryE, Nat.reduceLT, Nat.reduceAdd, Nat.reduceMul, Nat.reduceEqDiff]; rfl) (rc_fits _) (rc_fits _) ?_
      simp (maxDischargeDepth := 6) only [Rc.val, lz0, lz1, loY, hc0, hc1, hyY, e2, e7, e9, e11, ne_eq, not_true_eq_false, decide_false, bne_self_eq_false, ruW, putL, Nat.reduceLeDiff, xF, ruU, entryE, Nat.reduceLT, Nat.reduceAdd, Nat.reduceMul, Nat.reduceEqDiff]
      refine (selected_c (b + 1) x' (ext Y []) gY.wn).to ?_
      simp (maxDischargeDepth := 6) only [Rc.val, lz0, lz1, loY, hc0, hc1, hyY, e2, e7, e9, e11, ne_eq, not_true_eq_false, decide_false, bne_self_eq_false, ruW, putL, Nat.reduceLeDiff, xF, ruU, entryE, Nat.reduceLT, Nat.reduceAdd, Nat.reduceMul, Nat.reduceEqDiff]
      refine (rselected_c (b + 3) y' (ext Y []) ryY.at').to ?_
      simp (maxDischargeDepth := 6) only [es, Rc.val, lz0, lz1, loY, hc0, hc1, hyY, e2, e7, e9, e11, ne_eq, not_true_eq_false, decide_false, bne_self_eq_false, ruW, putL, Nat.reduceLeDiff, xF, ruU, entryE, Nat.reduceLT, Nat.reduceAdd, Nat.reduceMul, Nat.reduceEqDiff]
      refine (rects_c (b + 1) x' (ext Y []) (by omega) gY.wn).to ?_
      obtain ⟨u, hu⟩ : ∃ u, Y.next = u := ⟨_, rfl⟩
      simp (maxDischargeDepth := 6) only [hu, e2, e7, e9, e11, ne_eq, not_true_eq_false, decide_false, bne_self_eq_false, ruW, putL, Nat.reduceLeDiff, xF, ruU, entryE, Nat.reduceLT, Nat.reduceAdd, Nat.reduceMul, Nat.reduceEqDiff]
      refine (rRects_c (b + 3) y' (ext Y (_ :: _)) ryY.ext.at' ryY.ext.ref (by omega)).to ?_
      rw [rowsV_ne (rw_ne y'), rowsM_ne (rw_ne y'), hrr]
      simp (maxDischargeDepth := 6) only [hu, e2, e7, e9, e11, ne_eq, not_true_eq_false, decide_false, bne_self_eq_false, ruW, putL, Nat.reduceLeDiff, xF, ruU, entryE, Nat.reduceLT, Nat.reduceAdd, Nat.reduceMul, Nat.reduceEqDiff]
      generalize hV : ext Y (_ :: _) = V
      have mV : Mod [] Y V := hV ▸ Mod.ext okY
      have okV := mV.ok okY
      have ra1 : RowsAt V (.slice (some ⟨u + 0, 0, none⟩) x'.rects.length x'.rects.length) x'.rects := .inr ⟨_, _, _, _, rfl, by rw [← hV, bk_at hu (by simp)]; rfl⟩
      have ra2 : RowsAt V (.slice (some ⟨u + 1, 0, none⟩) x'.rects.length x'.rects.length) x'.rects := .inr ⟨_, _, _, _, rfl, by rw [← hV, bk_at hu (by simp)]; rfl⟩
      rw [show V = ext V [] from rfl]
      refine (same_c _ _ _ _ _ ra1 ra2 (by omega)).to ?_
      have gV := gY.mod mV (by simp) (by simp)
      have ryV := ryY.mod mV (by simp) (by simp)
      simp (maxDischargeDepth := 6) only [hu, e2, e7, e9, e11, ne_eq, not_true_eq_false, decide_false, decide_true, Bool.not_true, bne_self_eq_false, ruW, putL, Nat.reduceLeDiff, xF, ruU, entryE, Nat.reduceLT, Nat.reduceAdd, Nat.reduceMul, Nat.reduceEqDiff]
      have hbl : x'.bars.length < 1000000 := by
        have := barsOf_len x'.root x'.frame
        have h2 := rects_length x'.root x'.frame
        have h3 : x'.rects.length = x'.root.size + 1 := h2
        show (barsOf x'.root x'.frame).length < _
        omega
      refine (Bars_c (b + 1) x' (ext V []) gV.sz gV.wn).to ?_
      rw [show ext V [] = V from rfl]
      generalize hW : ext V (rowsM x'.bars) = Wh
      have mW : Mod [] V Wh := hW ▸ Mod.ext okV
      have okW := mW.ok okV
      have ra3 : RowsAt Wh (rowsV V.next x'.bars) x'.bars := hW ▸ rowsAt_new x'.bars
      have sc3 : scb Wh.next (rowsV V.next x'.bars) = true := rowsV_sc (by rw [← hW, ext_next]; exact Nat.le_refl _)
      have ryW := ryV.mod mW (by simp) (by simp)
      obtain ⟨aB, hsl⟩ := rowsV_sl V.next x'.bars
      rw [hsl] at ra3 sc3 ⊢
      rw [show Wh = ext Wh [] from rfl]
      simp (maxDischargeDepth := 6) only [e2, e7, e9, e11, ne_eq, not_true_eq_false, decide_false, decide_true, Bool.not_true, bne_self_eq_false, ruW, putL, Nat.reduceLeDiff, xF, ruU, entryE, Nat.reduceLT, Nat.reduceAdd, Nat.reduceMul, Nat.reduceEqDiff]
      refine (rBars_c (b + 3) y' (ext Wh []) ryW.at' ryW.ref (by omega)).to ?_
      rw [hbb]
      obtain ⟨aC, hsl2⟩ := rowsV_sl Wh.next x'.bars
      rw [show ext Wh [] = Wh from rfl]
      generalize hU : ext Wh (rowsM x'.bars) = U
      have mU : Mod [] Wh U := hU ▸ Mod.ext okW
      have ra4 : RowsAt U (rowsV Wh.next x'.bars) x'.bars := hU ▸ rowsAt_new x'.bars
      have ra5 := ra3.mod sc3 mU
      rw [hsl2] at ra4 ⊢
      rw [show U = ext U [] from rfl]
      simp (maxDischargeDepth := 6) only [e2, e7, e9, e11, ne_eq, not_true_eq_false, decide_false, decide_true, Bool.not_true, bne_self_eq_false, ruW, putL, Nat.reduceLeDiff, xF, ruU, entryE, Nat.reduceLT, Nat.reduceAdd, Nat.reduceMul, Nat.reduceEqDiff]
      refine (same_c _ _ _ _ _ ra5 ra4 hbl).to ?_
      simp (maxDischargeDepth := 6) only [e2, e7, e9, e11, ne_eq, not_true_eq_false, decide_false, decide_true, Bool.not_true, bne_self_eq_false, wrap_succ (show k < 1000000 by omega), ruW, putL, Nat.reduceLeDiff, xF, ruU, entryE, Nat.reduceLT, Nat.reduceAdd, Nat.reduceMul, Nat.reduceEqDiff]
      have mAll : Mod [] X2 U := ((mY.trans mV).trans mW).trans mU
      have gU := bo2.live.good.mod mAll (by simp) (by simp)
      refine loopC_next ⟨k + 1, by omega, x', y', ⟨⟨gU, bo2.live.inv, bo2.live.mod.trans mAll, bo2.live.t, bo2.live.bl⟩, bo2.good.mod mAll (by simp) (by simp), bo2.eq, bo2.ho, bo2.bl, bo2.dis⟩, by omega, ?_, ?_, ?_, ?_⟩ <;> simp only [e2, e7, e9, e11, ruU, entryE, Nat.reduceLT, Nat.reduceAdd, Nat.reduceMul, Nat.reduceEqDiff]
  · rintro E X hX
    rw [show X = ext X [] from rfl]
    simp (maxDischargeDepth := 6) only [Try.results7, ruW, putL, Nat.reduceLeDiff, xF, ruU, entryE, Nat.reduceLT, Nat.reduceAdd, Nat.reduceMul, Nat.reduceEqDiff]
    exact ⟨rfl, hX⟩

end Go.Proofs.Ytiedpcmdimgboaa
