/- Arguments of which nothing is known: opaque parts. -/
import Derived.Test.YtghlibiicooenaaGreatDoorAxT
import Derived.WideShapes
namespace Go.Ax

/-- nothing is renamed; the opaque values are given -/
def Ren.given (op : Nat → Value) (h : ∀ n, opq (op n) = true) : Ren := ⟨fun n => n, fun _ => 0, fun _ => 0, op, h⟩

theorem rel_given (P : Program) (w : World) (op : Nat → Value) (h : ∀ n, opq (op n) = true) {N : Nat} (hN : P.globals.size ≤ N) : Rel P (Ren.given op h) (AHeap.none N) w :=
  ⟨Nat.le_refl _, ⟨hN, fun _ _ => ⟨rfl, rfl⟩⟩, fun m _ h => absurd (none_get _ m) h, fun n o h => (by rw [none_get] at h; cases h), fun n o h => (by rw [none_get] at h; cases h)⟩

/-- the run came to 'true' -/
def isTrue : Option (Out × AHeap) → Bool
  | some (.ok (.bool true), _) => true
  | _ => false

theorem given_calls {P : Program} (hmix : P.follows .mixedOrders = true) {K : FuncId → List Value → Option Value} (hK : Known P K) {fuel : Nat} {f : FuncId} {as : List Value} {N : Nat} (hN : P.globals.size ≤ N)
    (op : Nat → Value) (h1 : ∀ n, opq (op n) = true) (h : isTrue (call P K fuel f as (AHeap.none N)) = true) (w : World) :
    Calls P f (as.map (Ren.given op h1).val).toArray w (fun e w' => e = .returned (.bool true) ∧ RowKit.Below w.heap.size w w') := by
  unfold isTrue at h
  split at h
  · rename_i H1 hc
    refine ((callsIn_wide (n := 0)).1 (call_in hmix hK (rel_given P w op h1 hN) hc wide_wide)).mono ?_
    rintro e w' ⟨ρ1, rfl, s⟩
    exact ⟨by rw [Ren.val], s.os, s.tape, s.output, s.size, fun b hb => s.old b hb fun n _ _ hg => absurd (none_get _ n) hg⟩
  · cases h

/-- a row of opaque parts from the number k on; a bool stands as it is -/
def layL (k : Nat) : List (Option Bool) → List Value
  | [] => []
  | none :: r => .chan (some k) :: layL (k + 1) r
  | some b :: r => .bool b :: layL (k + 1) r

/-- the cells are as the mask says -/
def Masked : List (Option Bool) → List Value → Prop
  | [], [] => True
  | none :: m, c :: l => opq c = true ∧ Masked m l
  | some b :: m, c :: l => c = .bool b ∧ Masked m l
  | _, _ => False

theorem lay_val (ρ : Ren) : ∀ (m : List (Option Bool)) (l : List Value) (k : Nat), Masked m l → (∀ i c, l[i]? = some c → opq c = true → ρ.op (k + i) = c) → (layL k m).map ρ.val = l
  | [], [], _, _, _ => rfl
  | none :: m, c :: l, k, h, ho => by
    simp only [layL, List.map_cons, Ren.val]
    rw [show ρ.op k = c from ho 0 c rfl h.1, lay_val ρ m l (k + 1) h.2 (fun i c hc hq => by rw [show k + 1 + i = k + (i + 1) from by omega]; exact ho (i + 1) c (by simpa using hc) hq)]
  | some b :: m, c :: l, k, h, ho => by
    simp only [layL, List.map_cons, Ren.val]
    rw [h.1, lay_val ρ m l (k + 1) h.2 (fun i c hc hq => by rw [show k + 1 + i = k + (i + 1) from by omega]; exact ho (i + 1) c (by simpa using hc) hq)]
  | [], _ :: _, _, h, _ => h.elim
  | none :: _, [], _, h, _ => h.elim
  | some _ :: _, [], _, h, _ => h.elim

/-- the opaque values that a row of cells gives -/
def opOf (k : Nat) (l : List Value) (n : Nat) : Value :=
  let c := l.getD (n - k) .nilIface
  if opq c then c else .nilIface

theorem opOf_opq (k : Nat) (l : List Value) (n : Nat) : opq (opOf k l n) = true := by
  unfold opOf
  simp only
  split
  · assumption
  · rfl

theorem opOf_at (k : Nat) (l : List Value) (i : Nat) (c : Value) (h : l[i]? = some c) (hq : opq c = true) : opOf k l (k + i) = c := by
  unfold opOf
  simp only [Nat.add_sub_cancel_left, List.getD, h, Option.getD_some, hq, if_true]

theorem cell_opq {P : Program} {w : World} {r : Reach} {base : Nat} {u : TypeId} {v : Value} {d : TypeDesc} (hu : P.underlying u = some d) (hd : d ≠ .bool) (h : Cell.okWide P w r base u v) : opq v = true := by
  cases v with
  | agg cs => unfold Cell.okWide at h; rw [hu] at h; cases d <;> simp [Cell.ok, hu] at h
  | tuple cs => unfold Cell.okWide at h; rw [hu] at h; cases d <;> simp [Cell.ok, hu] at h
  | bool b => unfold Cell.okWide at h; rw [hu] at h; cases d <;> first | exact absurd rfl hd | simp [Cell.ok, hu] at h
  | _ => rfl

theorem cell_bool {P : Program} {w : World} {r : Reach} {base : Nat} {u : TypeId} {v : Value} (hu : P.underlying u = some .bool) (h : Cell.okWide P w r base u v) : ∃ b, v = .bool b := by
  cases v with
  | bool b => exact ⟨b, rfl⟩
  | _ => unfold Cell.okWide at h; rw [hu] at h; simp [Cell.ok, hu] at h

def isB (P : Program) (u : TypeId) : Bool :=
  match P.underlying u with
  | some .bool => true
  | _ => false

theorem cell_any {P : Program} {w : World} {r : Reach} {base : Nat} {u : TypeId} {v : Value} (hu : isB P u = false) (h : Cell.okWide P w r base u v) : opq v = true := by
  cases hd : P.underlying u with
  | none => unfold Cell.okWide Cell.ok at h; rw [hd] at h; simp at h
  | some d => exact cell_opq hd (fun e => by rw [isB, hd, e] at hu; cases hu) h

/-- all masks that a row of kinds leaves -/
def masks : List Bool → List (List (Option Bool))
  | [] => [[]]
  | false :: r => (masks r).map (none :: ·)
  | true :: r => (masks r).map (some true :: ·) ++ (masks r).map (some false :: ·)

theorem masked_ex {P : Program} {w : World} {r : Reach} {base : Nat} : ∀ (ts : List TypeId) (cs : List Value), cs.length = ts.length → (∀ (i : Nat) (v : Value) (u : TypeId), cs[i]? = some v → ts[i]? = some u → Cell.okWide P w r base u v) →
    ∃ m ∈ masks (ts.map (isB P)), Masked m cs
  | [], [], _, _ => ⟨[], by simp [masks], trivial⟩
  | u :: ts, c :: cs, hl, h => by
    obtain ⟨m, hm, hM⟩ := masked_ex ts cs (by simpa using hl) (fun i v u h1 h2 => h (i + 1) v u (by simpa using h1) (by simpa using h2))
    have h0 := h 0 c u rfl rfl
    cases hb : isB P u with
    | false =>
      refine ⟨none :: m, ?_, cell_any hb h0, hM⟩
      simp only [List.map_cons, hb, masks, List.mem_map]
      exact ⟨m, hm, rfl⟩
    | true =>
      have hu : P.underlying u = some .bool := by
        unfold isB at hb
        split at hb
        · assumption
        · cases hb
      obtain ⟨b, rfl⟩ := cell_bool hu h0
      refine ⟨some b :: m, ?_, rfl, hM⟩
      simp only [List.map_cons, hb, masks, List.mem_append, List.mem_map]
      cases b
      · exact .inr ⟨m, hm, rfl⟩
      · exact .inl ⟨m, hm, rfl⟩
  | [], _ :: _, hl, _ => by simp at hl
  | _ :: _, [], hl, _ => by simp at hl

/-- a law of one struct of which nothing is known but its kinds -/
theorem struct_calls {P : Program} (hmix : P.follows .mixedOrders = true) {K : FuncId → List Value → Option Value} (hK : Known P K) {fuel : Nat} {f : FuncId} {t : TypeId} {fs : Array Field} {ts : List TypeId} {N : Nat} (hN : P.globals.size ≤ N)
    (hu : P.underlying t = some (.struct fs)) (hts : P.cellTypes P.depth t = some ts) (hsz : P.cellsOf t = ts.length)
    (hall : ((masks (ts.map (isB P))).all fun m => isTrue (call P K fuel f [.agg ⟨layL N m⟩] (AHeap.none (N + ts.length)))) = true)
    {w : World} {r : Reach} {base : Nat} {v : Value} (h : Value.okWide P w r base t v) :
    Calls P f #[v] w (fun e w' => e = .returned (.bool true) ∧ RowKit.Below w.heap.size w w') := by
  unfold Value.okWide at h
  rw [hu] at h
  simp only at h
  obtain ⟨cs, rfl, hcs, ts', hts', _, hrow⟩ := h
  rw [hts] at hts'
  cases hts'
  obtain ⟨cs⟩ := cs
  have hlen : cs.length = ts.length := by rw [← hsz, ← hcs]; rfl
  obtain ⟨m, hm, hM⟩ := masked_ex (P := P) (w := w) (r := r) (base := base) ts cs hlen (fun i v u h1 h2 => by
    have hi : i < ts.length := by
      rcases Nat.lt_or_ge i ts.length with hh | hh
      · exact hh
      · rw [List.getElem?_eq_none hh] at h2; cases h2
    obtain ⟨u', h3, h4⟩ := hrow i v (by simpa using h1)
    rw [Nat.mod_eq_of_lt hi, h2] at h3
    cases h3
    exact h4)
  have hr := List.all_eq_true.1 hall m hm
  have := given_calls hmix hK (N := N + ts.length) (by omega) (opOf N cs) (opOf_opq N cs) hr w
  have hval : ([(.agg ⟨layL N m⟩ : Value)].map (Ren.given (opOf N cs) (opOf_opq N cs)).val).toArray = #[.agg ⟨cs⟩] := by
    simp only [List.map_cons, List.map_nil, Ren.val, Ren.valA, Ren.valL_eq]
    rw [lay_val _ m cs N hM (fun i c h1 h2 => opOf_at N cs i c h1 h2)]
  rw [hval] at this
  exact this

end Go.Ax
