/- The abstract executor's ground: rows, heaps, renamings; what they keep. -/
import Derived.Test.YtghlibiicooenaaGreatDoorAxA
import Derived.Laws.World
import Derived.Laws.Sem
namespace Go.Ax

/-! rows and heaps -/
theorem lset_getD {α : Type} (d : α) : ∀ (l : List α) (i : Nat) (v : α) (j : Nat), (lset d l i v).getD j d = if j = i then v else l.getD j d
  | [], 0, v, 0 => rfl
  | [], 0, v, j + 1 => by simp [lset]
  | [], i + 1, v, 0 => by simp [lset]
  | [], i + 1, v, j + 1 => by
    have := lset_getD d [] i v j
    simpa [lset] using this
  | x :: r, 0, v, 0 => rfl
  | x :: r, 0, v, j + 1 => by simp [lset]
  | x :: r, i + 1, v, 0 => by simp [lset]
  | x :: r, i + 1, v, j + 1 => by
    have := lset_getD d r i v j
    simpa [lset] using this

theorem RV.get_set (v : RV) (i : Nat) (x : Value) (j : Nat) : (v.set i x).get j = if j = i then x else v.get j := by
  unfold RV.get RV.set
  simp only [lset_getD]
  by_cases h : j / 16 = i / 16
  · rw [if_pos h, lset_getD, h]
    by_cases h2 : j % 16 = i % 16
    · have : j = i := by omega
      simp [this]
    · have : j ≠ i := fun e => h2 (by rw [e])
      simp [h2, this]
  · have : j ≠ i := fun e => h (by rw [e])
    simp [h, this]

@[simp] theorem RV.n_set (v : RV) (i : Nat) (x : Value) : (v.set i x).n = v.n := rfl

theorem RV.n_sets (l : List Value) : ∀ (v : RV) (i : Nat), (v.sets i l).n = v.n := by
  induction l with
  | nil => intro v i; rfl
  | cons x r ih => intro v i; simp [RV.sets, ih]

theorem RV.get_sets (l : List Value) : ∀ (v : RV) (i j : Nat), (v.sets i l).get j = if i ≤ j ∧ j < i + l.length then l.getD (j - i) undef else v.get j := by
  induction l with
  | nil => intro v i j; simp [RV.sets]; omega
  | cons x r ih =>
    intro v i j
    simp only [RV.sets, ih, RV.get_set, List.length_cons]
    by_cases h1 : i + 1 ≤ j ∧ j < i + 1 + r.length
    · rw [if_pos h1, if_pos (by omega)]
      obtain ⟨k, rfl⟩ : ∃ k, j = i + 1 + k := ⟨j - (i + 1), by omega⟩
      have e1 : i + 1 + k - (i + 1) = k := by omega
      have e2 : i + 1 + k - i = k + 1 := by omega
      rw [e1, e2]; simp
    · rw [if_neg h1]
      by_cases h2 : j = i
      · subst h2; simp
      · rw [if_neg h2, if_neg (by omega)]

theorem RV.get_ofList (l : List Value) (j : Nat) : (RV.ofList l).get j = l.getD j undef := by
  have h : (RV.ofList l).get j = (RV.sets ⟨[], 0⟩ 0 l).get j := rfl
  rw [h, RV.get_sets]
  by_cases hj : j < l.length
  · rw [if_pos (by omega)]; simp
  · rw [if_neg (by omega)]
    simp only [RV.get, List.getD_nil]
    simp [List.getD, List.getElem?_eq_none (Nat.not_lt.1 hj)]

@[simp] theorem RV.n_ofList (l : List Value) : (RV.ofList l).n = l.length := rfl

theorem RV.gets_eq (v : RV) : ∀ (k i : Nat), v.gets i k = (List.range k).map fun j => v.get (i + j)
  | 0, i => rfl
  | k + 1, i => by
    rw [RV.gets, RV.gets_eq v k (i + 1), List.range_succ_eq_map]
    simp only [List.map_cons, List.map_map, Nat.add_zero, List.cons.injEq, true_and]
    apply List.map_congr_left
    intro j _
    simp only [Function.comp]
    congr 1; omega

@[simp] theorem RV.length_gets (v : RV) (i k : Nat) : (v.gets i k).length = k := by simp [RV.gets_eq]

theorem RV.gets_getD (v : RV) (i k j : Nat) (h : j < k) : (v.gets i k).getD j undef = v.get (i + j) := by
  simp [RV.gets_eq, List.getD, h]

theorem rootPut_get (root : List (List (List (Option AObj)))) (n : Nat) (o : Option AObj) (m : Nat) :
    (((rootPut root n o).getD (m / 256) []).getD (m / 16 % 16) []).getD (m % 16) none =
      if m = n then o else ((root.getD (m / 256) []).getD (m / 16 % 16) []).getD (m % 16) none := by
  unfold rootPut
  rw [lset_getD]
  by_cases h : m / 256 = n / 256
  · rw [if_pos h, lset_getD, h]
    by_cases h2 : m / 16 % 16 = n / 16 % 16
    · rw [if_pos h2, lset_getD, h2]
      by_cases h3 : m % 16 = n % 16
      · have : m = n := by omega
        simp [this]
      · have : m ≠ n := fun e => h3 (by rw [e])
        simp [h3, this]
    · have : m ≠ n := fun e => h2 (by rw [e])
      simp [h2, this]
  · have : m ≠ n := fun e => h (by rw [e])
    simp [h, this]

theorem AHeap.get_put (h : AHeap) (n : Nat) (o : Option AObj) (m : Nat) : (h.put n o).get m = if m = n then o else h.get m := rootPut_get _ _ _ _
theorem AHeap.get_upd (h : AHeap) (n : Nat) (o : Option AObj) (m : Nat) : (h.upd n o).get m = if m = n then o else h.get m := rootPut_get _ _ _ _
theorem AHeap.get_new (h : AHeap) (o : AObj) (m : Nat) : (h.new o).get m = if m = h.next then some o else h.get m := rootPut_get _ _ _ _

/-! renamings -/
theorem one_opq {v : Value} (h : opq v = true) : one v = true := by
  cases v <;> first | rfl | cases h

structure Ren where
  blk : Nat → Nat
  sh : Nat → Nat
  ex : Nat → Nat
  op : Nat → Value
  op1 : ∀ n, opq (op n) = true

def Ren.fn (ρ : Ren) : Fn → Fn
  | .yield l => .yield (ρ.blk l)
  | f => f

mutual
def Ren.val (ρ : Ren) : Value → Value
  | .pointer (some a) => .pointer (some ⟨ρ.blk a.block, a.off + ρ.sh a.block, a.spot⟩)
  | .slice (some a) len cap => .slice (some ⟨ρ.blk a.block, a.off + ρ.sh a.block, none⟩) len (if a.spot.isSome then cap else cap + ρ.ex a.block)
  | .map (some r) => .map (some (ρ.blk r))
  | .func f a b => .func (ρ.fn f) (ρ.valA a) (ρ.valA b)
  | .iface t v => .iface t (ρ.val v)
  | .agg cs => .agg (ρ.valA cs)
  | .tuple cs => .tuple (ρ.valA cs)
  | .bool b => .bool b
  | .int k n => .int k n
  | .float k b => .float k b
  | .complex k a b => .complex k a b
  | .string s => .string s
  | .pointer none => .pointer none
  | .slice none len cap => .slice none len cap
  | .map none => .map none
  | .chan none => .chan none
  | .chan (some k) => ρ.op k
  | .nilFunc => .nilFunc
  | .nilIface => .nilIface
def Ren.valA (ρ : Ren) : Array Value → Array Value
  | ⟨l⟩ => ⟨ρ.valL l⟩
def Ren.valL (ρ : Ren) : List Value → List Value
  | [] => []
  | v :: r => ρ.val v :: ρ.valL r
end

theorem Ren.valL_eq (ρ : Ren) : ∀ l, ρ.valL l = l.map ρ.val
  | [] => rfl
  | v :: r => by rw [Ren.valL, Ren.valL_eq ρ r]; rfl

theorem Ren.valA_eq (ρ : Ren) (c : Array Value) : ρ.valA c = c.map ρ.val := by
  obtain ⟨l⟩ := c
  rw [Ren.valA, Ren.valL_eq]
  simp

@[simp] theorem Ren.val_undef (ρ : Ren) : ρ.val undef = undef := by simp [undef, Ren.val, Ren.valA_eq]

mutual
theorem val_af (ρ : Ren) : ∀ v, af v = true → ρ.val v = v
  | .bool _, _ => by rw [Ren.val]
  | .int _ _, _ => by rw [Ren.val]
  | .float _ _, _ => by rw [Ren.val]
  | .complex _ _ _, _ => by rw [Ren.val]
  | .string _, _ => by rw [Ren.val]
  | .pointer none, _ => by rw [Ren.val]
  | .pointer (some _), h => by simp [af] at h
  | .slice none _ _, _ => by rw [Ren.val]
  | .slice (some _) _ _, h => by simp [af] at h
  | .map none, _ => by rw [Ren.val]
  | .map (some _), h => by simp [af] at h
  | .chan none, _ => by rw [Ren.val]
  | .chan (some _), h => by simp [af] at h
  | .func f a b, h => by
    cases f <;> simp only [af, Bool.and_eq_true, Bool.false_eq_true] at h <;> simp only [Ren.val, Ren.fn, valA_af ρ a h.1, valA_af ρ b h.2]
  | .nilFunc, _ => by rw [Ren.val]
  | .iface t v, h => by rw [Ren.val, val_af ρ v (by simpa [af] using h)]
  | .nilIface, _ => by rw [Ren.val]
  | .agg cs, h => by rw [Ren.val, valA_af ρ cs (by simpa [af] using h)]
  | .tuple cs, h => by rw [Ren.val, valA_af ρ cs (by simpa [af] using h)]
theorem valA_af (ρ : Ren) : ∀ c, afA c = true → ρ.valA c = c
  | ⟨l⟩, h => by rw [Ren.valA, valL_af ρ l (by simpa [afA] using h)]
theorem valL_af (ρ : Ren) : ∀ l, afL l = true → ρ.valL l = l
  | [], _ => rfl
  | v :: r, h => by
    simp only [afL, Bool.and_eq_true] at h
    rw [Ren.valL, val_af ρ v h.1, valL_af ρ r h.2]
end

structure Ext (N : Nat) (ρ ρ' : Ren) : Prop where
  blk : ∀ n, n < N → ρ'.blk n = ρ.blk n
  sh : ∀ n, n < N → ρ'.sh n = ρ.sh n
  ex : ∀ n, n < N → ρ'.ex n = ρ.ex n
  op : ∀ n, n < N → ρ'.op n = ρ.op n

theorem Ext.refl (N : Nat) (ρ : Ren) : Ext N ρ ρ := ⟨fun _ _ => rfl, fun _ _ => rfl, fun _ _ => rfl, fun _ _ => rfl⟩
theorem Ext.trans {N M : Nat} {ρ ρ' ρ'' : Ren} (h : Ext N ρ ρ') (h' : Ext M ρ' ρ'') (hle : N ≤ M) : Ext N ρ ρ'' :=
  ⟨fun n hn => (h'.blk n (by omega)).trans (h.blk n hn), fun n hn => (h'.sh n (by omega)).trans (h.sh n hn), fun n hn => (h'.ex n (by omega)).trans (h.ex n hn), fun n hn => (h'.op n (by omega)).trans (h.op n hn)⟩

theorem blt_lt {a b : Nat} (h : Nat.blt a b = true) : a < b := by simpa [Nat.blt_eq] using h
theorem blt_of {a b : Nat} (h : a < b) : Nat.blt a b = true := by simpa [Nat.blt_eq] using h
theorem ble_le {a b : Nat} (h : Nat.ble a b = true) : a ≤ b := Nat.le_of_ble_eq_true h

mutual
theorem val_ext {N : Nat} {ρ ρ' : Ren} (e : Ext N ρ ρ') : ∀ v, scb N v = true → ρ'.val v = ρ.val v
  | .bool _, _ => by rw [Ren.val, Ren.val]
  | .int _ _, _ => by rw [Ren.val, Ren.val]
  | .float _ _, _ => by rw [Ren.val, Ren.val]
  | .complex _ _ _, _ => by rw [Ren.val, Ren.val]
  | .string _, _ => by rw [Ren.val, Ren.val]
  | .pointer none, _ => by rw [Ren.val, Ren.val]
  | .pointer (some a), h => by
    have h' := blt_lt (by simpa [scb] using h)
    simp only [Ren.val, e.blk _ h', e.sh _ h']
  | .slice none _ _, _ => by rw [Ren.val, Ren.val]
  | .slice (some a) _ _, h => by
    have h' := blt_lt (by simpa [scb] using h)
    simp only [Ren.val, e.blk _ h', e.sh _ h', e.ex _ h']
  | .map none, _ => by rw [Ren.val, Ren.val]
  | .map (some r), h => by
    have h' := blt_lt (by simpa [scb] using h)
    simp only [Ren.val, e.blk _ h']
  | .chan none, _ => by rw [Ren.val, Ren.val]
  | .chan (some k), h => by
    have h' := blt_lt (by simpa [scb] using h)
    simp only [Ren.val, e.op _ h']
  | .func f a b, h => by
    cases f with
    | yield l =>
      simp only [scb, Bool.and_eq_true] at h
      simp only [Ren.val, Ren.fn, e.blk _ (blt_lt h.1.1), valA_ext e a h.1.2, valA_ext e b h.2]
    | _ =>
      simp only [scb, Bool.and_eq_true] at h
      simp only [Ren.val, Ren.fn, valA_ext e a h.1, valA_ext e b h.2]
  | .nilFunc, _ => by rw [Ren.val, Ren.val]
  | .iface t v, h => by rw [Ren.val, Ren.val, val_ext e v (by simpa [scb] using h)]
  | .nilIface, _ => by rw [Ren.val, Ren.val]
  | .agg cs, h => by rw [Ren.val, Ren.val, valA_ext e cs (by simpa [scb] using h)]
  | .tuple cs, h => by rw [Ren.val, Ren.val, valA_ext e cs (by simpa [scb] using h)]
theorem valA_ext {N : Nat} {ρ ρ' : Ren} (e : Ext N ρ ρ') : ∀ c, scbA N c = true → ρ'.valA c = ρ.valA c
  | ⟨l⟩, h => by rw [Ren.valA, Ren.valA, valL_ext e l (by simpa [scbA] using h)]
theorem valL_ext {N : Nat} {ρ ρ' : Ren} (e : Ext N ρ ρ') : ∀ l, scbL N l = true → ρ'.valL l = ρ.valL l
  | [], _ => rfl
  | v :: r, h => by
    simp only [scbL, Bool.and_eq_true] at h
    rw [Ren.valL, Ren.valL, val_ext e v h.1, valL_ext e r h.2]
end

mutual
theorem scb_mono {N M : Nat} (hle : N ≤ M) : ∀ v, scb N v = true → scb M v = true
  | .bool _, _ => by simp [scb]
  | .int _ _, _ => by simp [scb]
  | .float _ _, _ => by simp [scb]
  | .complex _ _ _, _ => by simp [scb]
  | .string _, _ => by simp [scb]
  | .pointer none, _ => by simp [scb]
  | .pointer (some a), h => by
    have h' := blt_lt (by simpa [scb] using h)
    simp only [scb]; exact blt_of (by omega)
  | .slice none _ _, _ => by simp [scb]
  | .slice (some a) _ _, h => by
    have h' := blt_lt (by simpa [scb] using h)
    simp only [scb]; exact blt_of (by omega)
  | .map none, _ => by simp [scb]
  | .map (some r), h => by
    have h' := blt_lt (by simpa [scb] using h)
    simp only [scb]; exact blt_of (by omega)
  | .chan none, _ => by simp [scb]
  | .chan (some r), h => by
    have h' := blt_lt (by simpa [scb] using h)
    simp only [scb]; exact blt_of (by omega)
  | .func f a b, h => by
    cases f with
    | yield l =>
      simp only [scb, Bool.and_eq_true] at h ⊢
      have h' := blt_lt h.1.1
      exact ⟨⟨blt_of (by omega), scbA_mono hle a h.1.2⟩, scbA_mono hle b h.2⟩
    | _ =>
      simp only [scb, Bool.and_eq_true] at h ⊢
      exact ⟨scbA_mono hle a h.1, scbA_mono hle b h.2⟩
  | .nilFunc, _ => by simp [scb]
  | .iface t v, h => by rw [scb]; exact scb_mono hle v (by simpa [scb] using h)
  | .nilIface, _ => by simp [scb]
  | .agg cs, h => by rw [scb]; exact scbA_mono hle cs (by simpa [scb] using h)
  | .tuple cs, h => by rw [scb]; exact scbA_mono hle cs (by simpa [scb] using h)
theorem scbA_mono {N M : Nat} (hle : N ≤ M) : ∀ c, scbA N c = true → scbA M c = true
  | ⟨l⟩, h => by rw [scbA]; exact scbL_mono hle l (by simpa [scbA] using h)
theorem scbL_mono {N M : Nat} (hle : N ≤ M) : ∀ l, scbL N l = true → scbL M l = true
  | [], _ => rfl
  | v :: r, h => by
    simp only [scbL, Bool.and_eq_true] at h ⊢
    exact ⟨scb_mono hle v h.1, scbL_mono hle r h.2⟩
end

theorem scbL_iff {N : Nat} {l : List Value} : scbL N l = true ↔ ∀ v ∈ l, scb N v = true := by
  induction l with
  | nil => simp [scbL]
  | cons v r ih => simp [scbL, ih]

theorem scb_undef (N : Nat) : scb N undef = true := by simp [undef, scb, scbA, scbL]

mutual
theorem scb_of_af {N : Nat} : ∀ v, af v = true → scb N v = true
  | .bool _, _ => by simp [scb]
  | .int _ _, _ => by simp [scb]
  | .float _ _, _ => by simp [scb]
  | .complex _ _ _, _ => by simp [scb]
  | .string _, _ => by simp [scb]
  | .pointer none, _ => by simp [scb]
  | .pointer (some a), h => by simp [af] at h
  | .slice none _ _, _ => by simp [scb]
  | .slice (some a) _ _, h => by simp [af] at h
  | .map none, _ => by simp [scb]
  | .map (some r), h => by simp [af] at h
  | .chan none, _ => by simp [scb]
  | .chan (some _), h => by simp [af] at h
  | .func f a b, h => by
    cases f <;> simp only [af, Bool.and_eq_true, Bool.false_eq_true] at h <;> simp only [scb, Bool.and_eq_true, scbA_of_af a h.1, scbA_of_af b h.2, and_self]
  | .nilFunc, _ => by simp [scb]
  | .iface t v, h => by rw [scb]; exact scb_of_af v (by simpa [af] using h)
  | .nilIface, _ => by simp [scb]
  | .agg cs, h => by rw [scb]; exact scbA_of_af cs (by simpa [af] using h)
  | .tuple cs, h => by rw [scb]; exact scbA_of_af cs (by simpa [af] using h)
theorem scbA_of_af {N : Nat} : ∀ c, afA c = true → scbA N c = true
  | ⟨l⟩, h => by rw [scbA]; exact scbL_of_af l (by simpa [afA] using h)
theorem scbL_of_af {N : Nat} : ∀ l, afL l = true → scbL N l = true
  | [], _ => rfl
  | v :: r, h => by
    simp only [afL, Bool.and_eq_true] at h
    simp only [scbL, Bool.and_eq_true]
    exact ⟨scb_of_af v h.1, scbL_of_af r h.2⟩
end

theorem Ren.val_one (ρ : Ren) (v : Value) : one (ρ.val v) = one v := by
  cases v with
  | pointer a => cases a <;> simp [Ren.val, one]
  | slice a _ _ => cases a <;> simp [Ren.val, one]
  | map a => cases a <;> simp [Ren.val, one]
  | chan a =>
    cases a with
    | none => simp [Ren.val, one]
    | some k => rw [Ren.val, one_opq (ρ.op1 k)]; rfl
  | _ => simp [Ren.val, one]

theorem cells_one {v : Value} (h : one v = true) (hc : ∀ cs, v ≠ .agg cs) : v.cells = #[v] := by
  cases v with
  | agg cs => exact absurd rfl (hc cs)
  | _ => rfl

theorem Ren.val_cells (ρ : Ren) (v : Value) : (ρ.val v).cells = v.cells.map ρ.val := by
  cases v with
  | pointer a => cases a <;> simp [Ren.val, Value.cells]
  | slice a _ _ => cases a <;> simp [Ren.val, Value.cells]
  | map a => cases a <;> simp [Ren.val, Value.cells]
  | chan a =>
    cases a with
    | none => simp [Ren.val, Value.cells]
    | some k =>
      have h := one_opq (ρ.op1 k)
      rw [Ren.val, cells_one h (fun cs e => by rw [e] at h; cases h)]
      simp [Value.cells, Ren.val]
  | agg cs => simp [Ren.val, Value.cells, Ren.valA_eq]
  | _ => simp [Ren.val, Value.cells]

/-! the worlds that an abstract heap stands for -/
def Ren.entry (ρ : Ren) (e : MapEntry) : MapEntry := { e with val := ρ.val e.val }

def sco (N : Nat) (o : AObj) : Prop :=
  match o.obj with
  | .cells _ _ _ => ∀ i, i < o.rv.n → scb N (o.rv.get i) = true
  | .map es _ => ∀ e ∈ es, keyOk e.key = true ∧ scb N e.val = true
  | .loop r => r.defers < N ∧ ∀ i, i < o.rv.n → scb N (o.rv.get i) = true
  | _ => True

def Ren.tmps (ρ : Ren) (e : RV) : Array Value := Array.ofFn (n := e.n) fun i => ρ.val (e.get i)

def Fits (P : Program) (ρ : Ren) (n : Nat) (o : AObj) (o' : Obj) : Prop :=
  match o.obj with
  | .cells _ e _ => ∃ (c : Array Value) (fz : Nat × Nat), o' = .cells c e fz ∧ (∀ i, i < o.rv.n → c[i + ρ.sh n]? = some (ρ.val (o.rv.get i))) ∧
      (o.opn = false → c.size = o.rv.n ∧ ρ.sh n = 0 ∧ ρ.ex n = 0 ∧ fz = (0, 0)) ∧
      (o.opn = true → ρ.sh n + o.rv.n + ρ.ex n * P.cellsOf e ≤ c.size ∧ (fz.2 ≤ fz.1 ∨ c.size ≤ fz.1))
  | .map es clock => o' = .map (es.map ρ.entry) clock
  | .stringIter s pos => o' = .stringIter s pos ∧ ρ.sh n = 0
  | .loop r => ∃ fn, o' = .loop { r with fn := fn, tmps := ρ.tmps o.rv, defers := ρ.blk r.defers }
  | .deferred (some []) => o' = .deferred (some [])
  | .deferred none => o' = .deferred none
  | _ => False

structure Rel (P : Program) (ρ : Ren) (H : AHeap) (w : World) : Prop where
  base : H.base ≤ H.next
  glob : P.globals.size ≤ H.next ∧ ∀ g, g < P.globals.size → ρ.blk g = g ∧ ρ.sh g = 0
  inj : ∀ m n, H.get m ≠ none → H.get n ≠ none → ρ.blk m = ρ.blk n → m = n
  dom : ∀ n o, H.get n = some o → n < H.next ∧ sco H.next o
  obj : ∀ n o, H.get n = some o → ∃ o', w.heap[ρ.blk n]? = some o' ∧ Fits P ρ n o o'

end Go.Ax
