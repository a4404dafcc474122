/- The abstract executor: reading and writing cells, in the world that a heap stands for. -/
import Derived.Test.YtghlibiicooenaaGreatDoorAxC
namespace Go.Ax

theorem run_und {P : Program} {w : World} {t : TypeId} {d : TypeDesc} (h : P.underlying t = some d) : (underlying t).run P w = .ok d w := by
  simp [underlying, h]

theorem run_szOf {P : Program} {w : World} {t : TypeId} {n : Nat} (h : szOf P t = some n) : (sizeOf t).run P w = .ok n w := by
  unfold szOf at h
  cases e : P.info? t with
  | none => simp [e] at h
  | some i => simp [e] at h; simp [sizeOf, typeInfo, e, h]

theorem cellsOf_szOf {P : Program} {t : TypeId} {n : Nat} (h : szOf P t = some n) : P.cellsOf t = n := by
  unfold szOf at h
  simp [Program.cellsOf, h]

theorem run_info {P : Program} {w : World} {t : TypeId} {i : TypeInfo} (h : P.info? t = some i) : (typeInfo t).run P w = .ok i w := by simp [typeInfo, h]

theorem bytesOf_info {P : Program} {t : TypeId} {n : Nat} (h : bytesOf P t = some n) : ∃ i, P.info? t = some i ∧ i.bytes = n := by
  unfold bytesOf at h
  cases e : P.info? t with
  | none => simp [e] at h
  | some i => simp [e] at h; exact ⟨i, rfl, h⟩

theorem run_zeroOf {P : Program} {w : World} {t : TypeId} {v : Value} (h : zeroOf P t = some v) : (zeroValue t).run P w = .ok v w ∧ af v = true := by
  unfold zeroOf at h
  cases e : P.info? t with
  | none => simp [e] at h
  | some i =>
    simp only [e] at h
    cases e2 : i.zero with
    | none => simp [e2] at h
    | some z =>
      simp only [e2] at h
      split at h
      · rename_i ha
        simp only [Option.some.injEq] at h
        subst h
        exact ⟨by simp [zeroValue, typeInfo, e, e2], ha⟩
      · cases h

theorem run_aggT {P : Program} {w : World} {t : TypeId} {b : Bool} (h : aggT P t = some b) : (isAgg t).run P w = .ok b w := by
  unfold aggT at h
  unfold isAgg
  cases e : P.underlying t with
  | none => simp [e] at h
  | some d =>
    simp only [e] at h
    simp only [Sem.run_bind, run_und e, Result.andThen_ok]
    cases d <;> simp_all

theorem peval_run {α : Type} {P : Program} (s : Sem α) : ∀ {a : α}, peval P s = some a → ∀ w, s.run P w = .ok a w := by
  induction s with
  | pure x => intro a h w; simp [peval] at h; simp [h]
  | program k ih => intro a h w; simp only [peval] at h; simp only [Sem.run]; exact ih P h w
  | mark m k ih => intro a h w; simp only [peval] at h; simp only [Sem.run]; exact ih h w
  | load | store | new | shape | freeze | frozen | getObj | setObj | choose | sys | halt => intro a h; simp [peval] at h

theorem ppanic_run {α : Type} {P : Program} (s : Sem α) : ∀ {v : Value}, ppanic P s = some v → ∀ w, s.run P w = .halt (.panic v) w := by
  induction s with
  | halt h =>
    intro v hv w
    cases h <;> simp [ppanic] at hv
    simp [hv]
  | program k ih => intro a h w; simp only [ppanic] at h; simp only [Sem.run]; exact ih P h w
  | mark m k ih => intro a h w; simp only [ppanic] at h; simp only [Sem.run]; exact ih h w
  | load | store | new | shape | freeze | frozen | getObj | setObj | choose | sys | pure => intro a h; simp [ppanic] at h

/-- what a block's cells are in the world -/
structure Cells (P : Program) (ρ : Ren) (n : Nat) (v : RV) (e : TypeId) (op : Bool) (w : World) (c : Array Value) (fz : Nat × Nat) : Prop where
  at_ : w.heap[ρ.blk n]? = some (.cells c e fz)
  cell : ∀ i, i < v.n → c[i + ρ.sh n]? = some (ρ.val (v.get i))
  shut : op = false → c.size = v.n ∧ ρ.sh n = 0 ∧ ρ.ex n = 0 ∧ fz = (0, 0)
  open_ : op = true → ρ.sh n + v.n + ρ.ex n * P.cellsOf e ≤ c.size ∧ (fz.2 ≤ fz.1 ∨ c.size ≤ fz.1)

theorem cellsAt_get {H : AHeap} {n : Nat} {v : RV} {e : TypeId} {op : Bool} (h : cellsAt H n = some (v, e, op)) : ∃ c0 f0, H.get n = some ⟨.cells c0 e f0, op, v⟩ := by
  unfold cellsAt at h
  split at h
  · rename_i c0 e' f0 o v' hg
    simp only [Option.some.injEq, Prod.mk.injEq] at h
    obtain ⟨rfl, rfl, rfl⟩ := h
    exact ⟨c0, f0, hg⟩
  · cases h

section
variable {P : Program} {ρ : Ren} {H : AHeap} {w : World}

theorem Rel.cells (r : Rel P ρ H w) {n : Nat} {v : RV} {e : TypeId} {op : Bool} (h : cellsAt H n = some (v, e, op)) :
    ∃ c fz, Cells P ρ n v e op w c fz := by
  obtain ⟨c0, f0, hg⟩ := cellsAt_get h
  obtain ⟨o', hw, hf⟩ := r.obj n _ hg
  simp only [Fits] at hf
  obtain ⟨c, fz, rfl, h1, h2, h3⟩ := hf
  exact ⟨c, fz, hw, h1, h2, h3⟩

theorem Rel.cells_sc (r : Rel P ρ H w) {n : Nat} {v : RV} {e : TypeId} {op : Bool} (h : cellsAt H n = some (v, e, op)) : ∀ i, i < v.n → scb H.next (v.get i) = true := by
  obtain ⟨c0, f0, hg⟩ := cellsAt_get h
  have := (r.dom n _ hg).2
  simpa only [sco] using this

theorem Cells.lt {n : Nat} {v : RV} {e : TypeId} {op : Bool} {c : Array Value} {fz : Nat × Nat} (h : Cells P ρ n v e op w c fz) {i : Nat} (hi : i < v.n) : i + ρ.sh n < c.size := by
  have := h.cell i hi
  rcases Nat.lt_or_ge (i + ρ.sh n) c.size with h1 | h1
  · exact h1
  · simp [Array.getElem?_eq_none h1] at this

theorem Cells.cell? {n : Nat} {v : RV} {e : TypeId} {op : Bool} {c : Array Value} {fz : Nat × Nat} (h : Cells P ρ n v e op w c fz) {i : Nat} (hi : i < v.n) :
    w.cell? ⟨ρ.blk n, i + ρ.sh n, none⟩ = some (ρ.val (v.get i)) := by
  simp [World.cell?, h.at_, h.cell i hi]

theorem Cells.thawed {n : Nat} {v : RV} {e : TypeId} {op : Bool} {c : Array Value} {fz : Nat × Nat} (h : Cells P ρ n v e op w c fz) {i : Nat} (hi : i < c.size) : ¬ (fz.1 ≤ i ∧ i < fz.2) := by
  cases op with
  | false => have := (h.shut rfl).2.2.2; subst this; simp
  | true => have := (h.open_ rfl).2; omega

theorem addr_add (b off i : Nat) : (Addr.mk b off none).add i = ⟨b, off + i, none⟩ := by
  unfold Addr.add
  split
  · subst_vars; rfl
  · rfl

theorem run_loadCellsFrom (b off : Nat) (f : Nat → Value) : ∀ (n i : Nat) (acc : Array Value), (∀ j, j < n → w.cell? ⟨b, off + (i + j), none⟩ = some (f (i + j))) →
    (loadCellsFrom ⟨b, off, none⟩ i n acc).run P w = .ok (acc ++ ((List.range n).map fun j => f (i + j)).toArray) w := by
  intro n
  induction n with
  | zero => intro i acc _; simp [loadCellsFrom]
  | succ n ih =>
    intro i acc h
    have h0 := h 0 (Nat.succ_pos _)
    rw [Nat.add_zero] at h0
    simp only [loadCellsFrom, Sem.run_bind, addr_add, run_load, h0, Result.andThen_ok]
    rw [ih (i + 1) _ (fun j hj => by have := h (j + 1) (by omega); rw [show i + 1 + j = i + (j + 1) from by omega]; exact this)]
    congr 1
    rw [List.range_succ_eq_map, List.map_cons, List.map_map]
    apply Array.ext'
    simp only [Array.toList_append, Array.toList_push, List.append_assoc, List.singleton_append, Nat.add_zero]
    congr 2
    apply List.map_congr_left
    intro j _
    simp only [Function.comp]
    rw [show i + 1 + j = i + j.succ from by omega]

theorem gets_map (ρ : Ren) (v : RV) (i k : Nat) : (v.gets i k).map ρ.val = (List.range k).map fun j => ρ.val (v.get (i + j)) := by
  rw [RV.gets_eq, List.map_map]; rfl

theorem Cells.load {n : Nat} {v : RV} {e : TypeId} {op : Bool} {c : Array Value} {fz : Nat × Nat} (h : Cells P ρ n v e op w c fz) {off k : Nat} (hk : off + k ≤ v.n) :
    (loadCells ⟨ρ.blk n, off + ρ.sh n, none⟩ k).run P w = .ok ((v.gets off k).map ρ.val).toArray w := by
  unfold loadCells
  rw [run_loadCellsFrom (ρ.blk n) (off + ρ.sh n) (fun j => ρ.val (v.get (off + j))) k 0 #[] (fun j hj => by
    have := h.cell? (i := off + j) (by omega)
    rw [show off + ρ.sh n + (0 + j) = off + j + ρ.sh n from by omega, show 0 + j = j from by omega]; exact this)]
  simp [gets_map]

theorem aLoad_var (r : Rel P ρ H w) {t : TypeId} {n off : Nat} {x : Value} (h : aLoad P H t (.pointer (some ⟨n, off, none⟩)) = some x) :
    (loadVar t ⟨ρ.blk n, off + ρ.sh n, none⟩).run P w = .ok (ρ.val x) w := by
  simp only [aLoad, Option.bind_eq_bind, Option.bind_eq_some_iff] at h
  obtain ⟨⟨v, e, op⟩, hc, b, hb, h⟩ := h
  obtain ⟨c, fz, hC⟩ := r.cells hc
  cases b with
  | true =>
    simp only [Option.bind_eq_some_iff] at h
    obtain ⟨sz, hsz, h⟩ := h
    split at h
    · rename_i hle
      simp only [Option.some.injEq] at h
      subst h
      simp only [loadVar, Sem.run_bind, run_aggT hb, Result.andThen_ok, if_true, run_szOf hsz, hC.load (ble_le hle), Sem.run_pure, Ren.val, Ren.valA, Ren.valL_eq]
    · cases h
  | false =>
    simp only at h
    split at h
    · rename_i hlt
      simp only [Option.some.injEq] at h
      subst h
      simp only [loadVar, Sem.run_bind, run_aggT hb, Result.andThen_ok, Bool.false_eq_true, if_false, run_load, hC.cell? (blt_lt hlt)]
    · cases h

/-- where a load is from -/
theorem aLoad_ptr {t : TypeId} {p x : Value} (h : aLoad P H t p = some x) : ∃ n off, p = .pointer (some ⟨n, off, none⟩) := by
  unfold aLoad at h
  split at h
  · rename_i n off; exact ⟨n, off, rfl⟩
  · cases h

theorem val_ptr (ρ : Ren) (n off : Nat) : ρ.val (.pointer (some ⟨n, off, none⟩)) = .pointer (some ⟨ρ.blk n, off + ρ.sh n, none⟩) := by simp [Ren.val]

theorem aLoad_run (r : Rel P ρ H w) {t : TypeId} {p x : Value} (h : aLoad P H t p = some x) : (Instr.loadAt t (ρ.val p)).run P w = .ok (ρ.val x) w := by
  obtain ⟨n, off, rfl⟩ := aLoad_ptr h
  rw [val_ptr]
  simp [Instr.loadAt, Instr.sureAddr, aLoad_var r h]

/-! storing -/
def wrA (c : Array Value) (i : Nat) : List Value → Array Value
  | [] => c
  | v :: r => wrA (c.setIfInBounds i v) (i + 1) r

theorem wrA_size (l : List Value) : ∀ (c : Array Value) (i : Nat), (wrA c i l).size = c.size := by
  induction l with
  | nil => intro c i; rfl
  | cons v r ih => intro c i; simp [wrA, ih]

theorem wrA_get (l : List Value) : ∀ (c : Array Value) (i j : Nat), i + l.length ≤ c.size → (wrA c i l)[j]? = if i ≤ j ∧ j < i + l.length then l[j - i]? else c[j]? := by
  induction l with
  | nil => intro c i j _; simp [wrA]; omega
  | cons v r ih =>
    intro c i j h
    simp only [List.length_cons] at h ⊢
    rw [wrA, ih _ _ _ (by simp; omega)]
    by_cases h1 : i + 1 ≤ j ∧ j < i + 1 + r.length
    · rw [if_pos h1, if_pos (by omega)]
      obtain ⟨k, rfl⟩ : ∃ k, j = i + 1 + k := ⟨j - (i + 1), by omega⟩
      rw [show i + 1 + k - (i + 1) = k from by omega, show i + 1 + k - i = k + 1 from by omega]
      simp
    · rw [if_neg h1, Array.getElem?_setIfInBounds]
      by_cases h2 : i = j
      · subst h2
        rw [if_pos rfl, if_pos (by omega), if_pos (by omega)]
        simp
      · rw [if_neg h2, if_neg (by omega)]

theorem one_cell {v : Value} (h : one v = true) : v.oneCell' = true := by cases v <;> simp_all [one, Value.oneCell']

/-- a row of cells written, one behind the other -/
theorem run_storeCells (b off : Nat) (e : TypeId) (fz : Nat × Nat) : ∀ (vs : List Value) (i : Nat) (w : World) (c : Array Value), w.heap[b]? = some (.cells c e fz) → off + i + vs.length ≤ c.size →
    (∀ v ∈ vs, one v = true) → (∀ j, j < c.size → ¬ (fz.1 ≤ j ∧ j < fz.2)) →
    ∃ w', (storeCells ⟨b, off, none⟩ vs i).run P w = .ok () w' ∧ w'.heap[b]? = some (.cells (wrA c (off + i) vs) e fz) ∧ w'.heap.size = w.heap.size ∧
      (∀ k, k ≠ b → w'.heap[k]? = w.heap[k]?) ∧ w'.os = w.os ∧ w'.tape = w.tape ∧ w'.output = w.output := by
  intro vs
  induction vs with
  | nil => intro i w c hb _ _ _; exact ⟨w, by simp [storeCells], by simpa [wrA] using hb, rfl, fun _ _ => rfl, rfl, rfl, rfl⟩
  | cons v r ih =>
    intro i w c hb hle hone hfz
    simp only [List.length_cons] at hle
    have hin : off + i < c.size := by omega
    have hcell : w.cell? ⟨b, off + i, none⟩ = some c[off + i] := by simp [World.cell?, hb, hin]
    have hfr : w.frozen? ⟨b, off + i, none⟩ = false := by
      have := hfz _ hin
      simp only [World.frozen?, hb]
      simpa using this
    have hset : (w.setCell ⟨b, off + i, none⟩ v).heap[b]? = some (.cells (c.setIfInBounds (off + i) v) e fz) := by
      simp [World.setCell, Array.getElem?_modify, hb]
    obtain ⟨w', h1, h2, h3, h4, h5, h6, h7⟩ := ih (i + 1) (w.setCell ⟨b, off + i, none⟩ v) (c.setIfInBounds (off + i) v) hset (by simp; omega) (fun x hx => hone x (List.mem_cons_of_mem _ hx))
      (fun j hj => hfz j (by simpa using hj))
    refine ⟨w', ?_, ?_, ?_, ?_, h5, h6, h7⟩
    · simp only [storeCells, Sem.run_bind, addr_add, run_store P w _ v _ (one_cell (hone v (List.mem_cons_self ..))), hcell, hfr, Bool.false_eq_true, if_false, Result.andThen_ok]
      exact h1
    · rw [h2]; simp only [wrA]; rfl
    · rw [h3]; simp
    · intro k hk
      rw [h4 k hk]
      simp only [World.setCell, Array.getElem?_modify]
      rw [if_neg (fun e => hk e.symm)]

theorem aWrite_run (r : Rel P ρ H w) {n off : Nat} {vs : List Value} {H1 : AHeap} (h : aWrite H n off vs = some H1) :
    ∃ w1, St P ρ H w ρ H1 w1 ∧ (storeCells ⟨ρ.blk n, off + ρ.sh n, none⟩ (vs.map ρ.val)).run P w = .ok () w1 := by
  simp only [aWrite, Option.bind_eq_bind, Option.bind_eq_some_iff] at h
  obtain ⟨⟨v, e, op⟩, hc, h⟩ := h
  simp only at h
  split at h
  · rename_i hcond
    simp only [Bool.and_eq_true] at hcond
    obtain ⟨⟨hle, hone⟩, hsc⟩ := hcond
    have hle := ble_le hle
    simp only [Option.some.injEq] at h
    subst h
    obtain ⟨c, fz, hC⟩ := r.cells hc
    obtain ⟨c0, f0, hg⟩ := cellsAt_get hc
    have hsize : ρ.sh n + v.n ≤ c.size := by
      rcases Nat.eq_zero_or_pos v.n with hz | hp
      · cases op with
        | false => have := hC.shut rfl; omega
        | true => have := (hC.open_ rfl).1; omega
      · have := hC.lt (i := v.n - 1) (by omega); omega
    obtain ⟨w1, h1, h2, h3, h4, h5, h6, h7⟩ := run_storeCells (P := P) (ρ.blk n) (off + ρ.sh n) e fz (vs.map ρ.val) 0 w c hC.at_ (by simp; omega)
      (fun x hx => by
        obtain ⟨y, hy, rfl⟩ := List.mem_map.1 hx
        rw [Ren.val_one]; exact List.all_eq_true.1 hone y hy)
      (fun j hj => hC.thawed hj)
    refine ⟨w1, ?_, h1⟩
    refine St.upd r (ne_none hg) ?_ ?_ h2 h3 h4 h5 h6 h7
    · simp only [sco]
      intro i hi
      rw [RV.n_sets] at hi
      rw [RV.get_sets]
      split
      · rename_i hin
        have hlt : i - off < vs.length := by omega
        have hm : vs.getD (i - off) undef ∈ vs := by simp [List.getD, hlt]
        exact scbL_iff.1 hsc _ hm
      · exact r.cells_sc hc i hi
    · simp only [Fits]
      refine ⟨_, fz, rfl, fun i hi => ?_, fun ho => ?_, fun ho => ?_⟩
      · rw [RV.n_sets] at hi
        rw [wrA_get _ _ _ _ (by simp; omega), RV.get_sets]
        simp only [Nat.add_zero, List.length_map]
        by_cases hin : off ≤ i ∧ i < off + vs.length
        · rw [if_pos (by omega), if_pos hin]
          have hlt : i - off < vs.length := by omega
          rw [show i + ρ.sh n - (off + ρ.sh n) = i - off from by omega]
          simp [List.getD, hlt]
        · rw [if_neg (by omega), if_neg hin]; exact hC.cell i hi
      · rw [wrA_size, RV.n_sets]; exact hC.shut ho
      · rw [wrA_size, RV.n_sets]; exact hC.open_ ho
  · cases h

theorem aStore_run (r : Rel P ρ H w) {t : TypeId} {p x : Value} {H1 : AHeap} (h : aStore P H t p x = some H1) :
    ∃ w1, St P ρ H w ρ H1 w1 ∧ (Instr.storeAt t (ρ.val p) (ρ.val x)).run P w = .ok () w1 := by
  unfold aStore at h
  split at h
  · rename_i n off
    simp only [Option.bind_eq_bind, Option.bind_eq_some_iff] at h
    obtain ⟨sz, hsz, h⟩ := h
    split at h
    · rename_i hlen
      obtain ⟨w1, hs, hr⟩ := aWrite_run r h
      refine ⟨w1, hs, ?_⟩
      have hcs : (ρ.val x).cells.size = sz := by rw [Ren.val_cells]; simpa using hlen
      rw [val_ptr]
      simp only [Instr.storeAt, Instr.sureAddr, storeVar, Sem.run_bind, Sem.run_pure, Result.andThen_ok, run_szOf hsz, hcs, ne_eq, not_true, if_false]
      rw [Ren.val_cells]
      simpa using hr
    · cases h
  · cases h

/-- a new block of cells, nothing spare -/
theorem aNew_shut (r : Rel P ρ H w) {e : TypeId} {c : List Value} {H1 : AHeap} (h : aNew H e c false = some H1) :
    St P ρ H w (ρ.at H.next w.heap.size 0 0) H1 (w.alloc (.cells (c.map ρ.val).toArray e)) := by
  unfold aNew at h
  split at h
  · rename_i hsc
    simp only [Option.some.injEq] at h
    subst h
    refine St.new r _ _ 0 0 ?_ ?_
    · simp only [sco, RV.n_ofList, RV.get_ofList]
      intro i hi
      exact scbL_iff.1 hsc _ (by simp [List.getD, hi])
    · simp only [Fits]
      refine ⟨_, (0, 0), rfl, fun i hi => ?_, fun _ => ?_, fun h => by cases h⟩
      · simp only [RV.n_ofList] at hi
        rw [RV.get_ofList, Ren.at_sh, val_ext (Ren.at_ext ρ H.next w.heap.size 0 0) _ (scbL_iff.1 hsc _ (by simp [List.getD, hi]))]
        simp [List.getD, hi]
      · simp
  · cases h

/-- a new block of cells with spare ones behind -/
theorem aNew_open (r : Rel P ρ H w) {e : TypeId} {c : List Value} {H1 : AHeap} (h : aNew H e c true = some H1) (post : Array Value) (ex : Nat) (hp : post.size = ex * P.cellsOf e) :
    St P ρ H w (ρ.at H.next w.heap.size 0 ex) H1 (w.alloc (.cells ((c.map ρ.val).toArray ++ post) e)) := by
  unfold aNew at h
  split at h
  · rename_i hsc
    simp only [Option.some.injEq] at h
    subst h
    refine St.new r _ _ 0 ex ?_ ?_
    · simp only [sco, RV.n_ofList, RV.get_ofList]
      intro i hi
      exact scbL_iff.1 hsc _ (by simp [List.getD, hi])
    · simp only [Fits]
      refine ⟨_, (0, 0), rfl, fun i hi => ?_, fun h => (by cases h), fun _ => ?_⟩
      · simp only [RV.n_ofList] at hi
        rw [RV.get_ofList, Ren.at_sh, val_ext (Ren.at_ext ρ H.next w.heap.size 0 ex) _ (scbL_iff.1 hsc _ (by simp [List.getD, hi]))]
        rw [Array.getElem?_append_left (by simpa using hi)]
        simp [List.getD, hi]
      · simp [hp]
  · cases h

end
end Go.Ax
