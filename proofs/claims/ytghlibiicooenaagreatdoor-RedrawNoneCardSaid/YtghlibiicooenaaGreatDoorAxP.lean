/- The abstract executor: a region that draws its order, whatever the order. -/
import Derived.Test.YtghlibiicooenaaGreatDoorAxO
namespace Go.Ax

/-- the block is one that the operation has written or made -/
def WrtD (D : Nat → OpD) (HH : Nat → AHeap) (i n : Nat) : Prop := (D i).on = true ∧ Wrt (HH i) (D i).g n
instance (D : Nat → OpD) (HH : Nat → AHeap) (i n : Nat) : Decidable (WrtD D HH i n) := by unfold WrtD; exact inferInstance

/-- memory behind the operations of X, in the text's order -/
def hx (D : Nat → OpD) (HH : Nat → AHeap) (X : Nat → Bool) : Nat → Nat → Option AObj
  | 0, n => (HH 0).get n
  | k + 1, n => if X k = true ∧ WrtD D HH k n then (D k).g.get n else hx D HH X k n

def dstAt (ops : Array Oper) (k : Nat) : Option Tmp := (ops[k]?).bind (·.dst)

/-- the temporaries behind the operations of X, in the text's order -/
def ax (ops : Array Oper) (D : Nat → OpD) (a : AAct) (X : Nat → Bool) : Nat → AAct
  | 0 => a
  | k + 1 => if X k = true then (ax ops D a X k).put (dstAt ops k) (D k).v else ax ops D a X k

theorem put_n (a : AAct) (d : Option Tmp) (v : Value) : (a.put d v).env.n = a.env.n ∧ (a.put d v).defers = a.defers := by
  cases d with
  | none => exact ⟨rfl, rfl⟩
  | some d => simp only [AAct.put]; split <;> exact ⟨rfl, rfl⟩

theorem put_get (a : AAct) (d : Option Tmp) (v : Value) (t : Nat) (ht : t < a.env.n) : (a.put d v).env.get t = if d = some t then v else a.env.get t := by
  cases d with
  | none => simp [AAct.put]
  | some d =>
    simp only [AAct.put]
    by_cases h : d < a.env.n
    · rw [if_pos (blt_of h)]
      simp only [RV.get_set, Option.some.injEq]
      by_cases e : t = d
      · subst e; simp
      · rw [if_neg e, if_neg (fun h => e h.symm)]
    · rw [if_neg (by rw [blt_false h]; simp)]
      rw [if_neg (fun e => h (by cases e; exact ht))]

section
variable {ops : Array Oper} {D : Nat → OpD} {HH : Nat → AHeap} {a : AAct}

theorem hx_congr {X Y : Nat → Bool} {n : Nat} : ∀ k, (∀ j, j < k → WrtD D HH j n → X j = Y j) → hx D HH X k n = hx D HH Y k n
  | 0, _ => rfl
  | k + 1, h => by
    rw [hx, hx, hx_congr k (fun j hj => h j (by omega))]
    by_cases hw : WrtD D HH k n
    · rw [h k (Nat.lt_succ_self _) hw]
    · simp [hw]

theorem hx_upto {i n : Nat} : ∀ k, i ≤ k → hx D HH (fun j => decide (j < i)) k n = hx D HH (fun _ => true) i n
  | 0, h => by
    have : i = 0 := by omega
    subst this; rfl
  | k + 1, h => by
    by_cases e : i = k + 1
    · subst e
      exact hx_congr (k + 1) (fun j hj _ => by simp [hj])
    · rw [hx, if_neg (by simp; omega)]
      exact hx_upto k (by omega)

theorem hx_insert {X X' : Nat → Bool} {i n : Nat} (hi : X i = false) (hi' : X' i = true) (hX : ∀ j, j ≠ i → X' j = X j) : ∀ k, i < k → (∀ j, i < j → j < k → WrtD D HH j n → WrtD D HH i n → X j = false) →
    hx D HH X' k n = if WrtD D HH i n then (D i).g.get n else hx D HH X k n
  | 0, h, _ => by omega
  | k + 1, h, hc => by
    by_cases e : k = i
    · subst e
      rw [hx, hx, hx_congr (X := X') (Y := X) k (fun j hj _ => hX j (by omega))]
      by_cases hw : WrtD D HH k n
      · rw [if_pos ⟨hi', hw⟩, if_pos hw]
      · rw [if_neg (fun h => hw h.2), if_neg hw, if_neg (fun h => hw h.2)]
    · rw [hx, hx, hx_insert hi hi' hX k (by omega) (fun j h1 h2 => hc j h1 (by omega)), hX k e]
      by_cases hk : X k = true ∧ WrtD D HH k n
      · rw [if_pos hk, if_pos hk]
        by_cases hw : WrtD D HH i n
        · have := hc k (by omega) (Nat.lt_succ_self _) hk.2 hw
          rw [hk.1] at this; cases this
        · rw [if_neg hw]
      · rw [if_neg hk, if_neg hk]

theorem ax_n {X : Nat → Bool} : ∀ k, (ax ops D a X k).env.n = a.env.n ∧ (ax ops D a X k).defers = a.defers
  | 0 => ⟨rfl, rfl⟩
  | k + 1 => by
    rw [ax]
    split
    · obtain ⟨h1, h2⟩ := put_n (ax ops D a X k) (dstAt ops k) (D k).v
      obtain ⟨h3, h4⟩ := ax_n (X := X) k
      exact ⟨h1.trans h3, h2.trans h4⟩
    · exact ax_n k

theorem ax_congr {X Y : Nat → Bool} {t : Nat} (ht : t < a.env.n) : ∀ k, (∀ j, j < k → dstAt ops j = some t → X j = Y j) → (ax ops D a X k).env.get t = (ax ops D a Y k).env.get t
  | 0, _ => rfl
  | k + 1, h => by
    have ih := ax_congr ht k (fun j hj => h j (by omega))
    have hn1 := (ax_n (ops := ops) (D := D) (a := a) (X := X) k).1
    have hn2 := (ax_n (ops := ops) (D := D) (a := a) (X := Y) k).1
    rw [ax, ax]
    by_cases hd : dstAt ops k = some t
    · rw [h k (Nat.lt_succ_self _) hd]
      split
      · rw [put_get _ _ _ _ (by rw [hn1]; exact ht), put_get _ _ _ _ (by rw [hn2]; exact ht), if_pos hd, if_pos hd]
      · exact ih
    · have e1 : (if X k = true then (ax ops D a X k).put (dstAt ops k) (D k).v else ax ops D a X k).env.get t = (ax ops D a X k).env.get t := by
        split
        · rw [put_get _ _ _ _ (by rw [hn1]; exact ht), if_neg hd]
        · rfl
      have e2 : (if Y k = true then (ax ops D a Y k).put (dstAt ops k) (D k).v else ax ops D a Y k).env.get t = (ax ops D a Y k).env.get t := by
        split
        · rw [put_get _ _ _ _ (by rw [hn2]; exact ht), if_neg hd]
        · rfl
      rw [e1, e2, ih]

theorem ax_upto {i t : Nat} (ht : t < a.env.n) : ∀ k, i ≤ k → (ax ops D a (fun j => decide (j < i)) k).env.get t = (ax ops D a (fun _ => true) i).env.get t
  | 0, h => by
    have : i = 0 := by omega
    subst this; rfl
  | k + 1, h => by
    by_cases e : i = k + 1
    · subst e
      exact ax_congr ht (k + 1) (fun j hj _ => by simp [hj])
    · rw [ax, if_neg (by simp; omega)]
      exact ax_upto ht k (by omega)

theorem ax_insert {X X' : Nat → Bool} {i t : Nat} (ht : t < a.env.n) (hi : X i = false) (hi' : X' i = true) (hX : ∀ j, j ≠ i → X' j = X j) : ∀ k, i < k → (∀ j, i < j → j < k → dstAt ops j = some t → dstAt ops i = some t → X j = false) →
    (ax ops D a X' k).env.get t = if dstAt ops i = some t then (D i).v else (ax ops D a X k).env.get t
  | 0, h, _ => by omega
  | k + 1, h, hc => by
    have hn1 := (ax_n (ops := ops) (D := D) (a := a) (X := X) k).1
    have hn2 := (ax_n (ops := ops) (D := D) (a := a) (X := X') k).1
    by_cases e : k = i
    · subst e
      have hcong := ax_congr (ops := ops) (D := D) (X := X') (Y := X) ht k (fun j hj _ => hX j (by omega))
      rw [ax, ax, if_pos hi', if_neg (show ¬ X k = true by rw [hi]; simp), put_get _ _ _ _ (by rw [hn2]; exact ht), hcong]
    · have ih := ax_insert ht hi hi' hX k (by omega) (fun j h1 h2 => hc j h1 (by omega))
      rw [ax, ax, hX k e]
      by_cases hk : X k = true
      · rw [if_pos hk, if_pos hk, put_get _ _ _ _ (by rw [hn2]; exact ht), put_get _ _ _ _ (by rw [hn1]; exact ht), ih]
        by_cases hd : dstAt ops k = some t
        · rw [if_pos hd, if_pos hd]
          by_cases hdi : dstAt ops i = some t
          · have := hc k (by omega) (Nat.lt_succ_self _) hd hdi
            rw [hk] at this; cases this
          · rw [if_neg hdi]
        · rw [if_neg hd, if_neg hd]
      · rw [if_neg hk, if_neg hk]; exact ih

end

theorem if_op (ρ ρ1 : Ren) (p : Prop) [Decidable p] (n : Nat) : opq (if p then ρ1.op n else ρ.op n) = true := by
  split
  · exact ρ1.op1 n
  · exact ρ.op1 n

/-- a renaming turned on a stretch of blocks -/
def Ren.mix (ρ ρ1 : Ren) (lo hi : Nat) : Ren :=
  ⟨fun n => if lo ≤ n ∧ n < hi then ρ1.blk n else ρ.blk n, fun n => if lo ≤ n ∧ n < hi then ρ1.sh n else ρ.sh n, fun n => if lo ≤ n ∧ n < hi then ρ1.ex n else ρ.ex n, fun n => if lo ≤ n ∧ n < hi then ρ1.op n else ρ.op n, fun n => (if_op ρ ρ1 _ n)⟩

theorem mix_out (ρ ρ1 : Ren) {lo hi n : Nat} (h : ¬ (lo ≤ n ∧ n < hi)) : Agree ρ (ρ.mix ρ1 lo hi) n := by simp only [Agree, Ren.mix, if_neg h, and_self]
theorem mix_in (ρ ρ1 : Ren) {lo hi n : Nat} (he : Ext lo ρ ρ1) (h : n < hi) : Agree ρ1 (ρ.mix ρ1 lo hi) n := by
  by_cases h1 : lo ≤ n
  · simp only [Agree, Ren.mix, if_pos (And.intro h1 h), and_self]
  · have : ¬ (lo ≤ n ∧ n < hi) := fun h => h1 h.1
    simp only [Agree, Ren.mix, if_neg this, he.blk n (by omega), he.sh n (by omega), he.ex n (by omega), he.op n (by omega), and_self]

theorem filt_lt (p q : Nat → Bool) : ∀ (l : List Nat), (∀ j ∈ l, q j = true → p j = true) → ∀ i ∈ l, p i = true → q i = false → (l.filter q).length < (l.filter p).length
  | [], _, i, hi, _, _ => by cases hi
  | x :: l, h, i, hi, hp, hq => by
    have hle : ∀ l : List Nat, (∀ j ∈ l, q j = true → p j = true) → (l.filter q).length ≤ (l.filter p).length := by
      intro l
      induction l with
      | nil => intro _; simp
      | cons y l ih =>
        intro h
        have := ih (fun j hj => h j (List.mem_cons_of_mem _ hj))
        by_cases hy : q y = true
        · have hpy := h y (List.mem_cons_self ..) hy
          simp [List.filter_cons, hy, hpy, this]
        · by_cases hpy : p y = true
          · simp [List.filter_cons, hy, hpy]; omega
          · simp [List.filter_cons, hy, hpy]; omega
    rcases List.mem_cons.1 hi with rfl | hi
    · have := hle l (fun j hj => h j (List.mem_cons_of_mem _ hj))
      simp only [List.filter_cons, hp, hq, if_true, Bool.false_eq_true, if_false, List.length_cons]
      omega
    · have ih := filt_lt p q l (fun j hj => h j (List.mem_cons_of_mem _ hj)) i hi hp hq
      by_cases hy : q x = true
      · have hpy := h x (List.mem_cons_self ..) hy
        simp [List.filter_cons, hy, hpy, ih]
      · by_cases hpy : p x = true
        · simp [List.filter_cons, hy, hpy]; omega
        · simp [List.filter_cons, hy, hpy]; omega

end Go.Ax
