/- Parts of the proof, one behind the other. -/
import Derived.Test.YtiedpcmdimgboaaM4
set_option linter.all false

/- Frames without their blocks: what the methods of Tree make of them. -/
namespace Go.Proofs.Ytiedpcmdimgboaa
open Go.Ax
set_option linter.unusedSimpArgs false

inductive Atr where
  | leaf (id : Int)
  | split (be : Bool) (f : Int) (l r : Atr)

def Tr.abs : Tr → Atr
  | .leaf _ id => .leaf id
  | .split _ be f l r => .split be f l.abs r.abs

namespace Atr
def least (be : Bool) : Atr → Int
  | .leaf _ => mins be
  | .split b _ l r => if b = be then w64 (w64 (least be l + least be r) + bar be) else max (least be l) (least be r)
def weight (be : Bool) : Atr → Int
  | .leaf _ => 1
  | .split b _ l r => if b = be then w64 (weight be l + weight be r) else max (weight be l) (weight be r)
def first : Atr → Int
  | .leaf id => id
  | .split _ _ l _ => l.first
def resize (be : Bool) (old now : Int) : Atr → Atr
  | .leaf id => .leaf id
  | .split bb f l r =>
    if bb = be then
      let second := w64 (w64 (old - f) - bar be)
      let after := max (w64 (w64 (second + now) - old)) (least be r)
      let f' := w64 (w64 (now - after) - bar be)
      .split bb f' (l.resize be f f') (r.resize be second after)
    else .split bb f (l.resize be old now) (r.resize be old now)
def balance : Atr → Rc → Atr
  | .leaf id, _ => .leaf id
  | .split be _ l r, rc =>
    let whole := w64 (rc.size be - bar be)
    let f1 := max (w64 ((w64 (whole * weight be l)).tdiv (w64 (weight be l + weight be r)))) (least be l)
    let f2 := min f1 (w64 (whole - least be r))
    .split be f2 (l.balance (partA be f2 rc)) (r.balance (partB be f2 rc))
def rects : Atr → Rc → List Rc
  | .leaf id, r => [{ r with id := id }]
  | .split be f l r, rc => rects l (partA be f rc) ++ rects r (partB be f rc)
def size : Atr → Nat
  | .leaf _ => 0
  | .split _ _ l r => l.size + r.size + 1
def find (id : Int) : Atr → Option (List Bool)
  | .leaf i => if i = id then some [] else none
  | .split _ _ l r => (match find id l with
    | some d => some (false :: d)
    | none => (match find id r with
      | some d => some (true :: d)
      | none => none))
def sub : Atr → List Bool → Option Atr
  | t, [] => some t
  | .split _ _ l _, false :: d => sub l d
  | .split _ _ _ r, true :: d => sub r d
  | .leaf _, _ :: _ => none
def rectAt : Atr → Rc → List Bool → Rc
  | _, rc, [] => rc
  | .split be f l _, rc, false :: d => rectAt l (partA be f rc) d
  | .split be f _ r, rc, true :: d => rectAt r (partB be f rc) d
  | .leaf _, rc, _ :: _ => rc
def set : Atr → List Bool → Atr → Atr
  | _, [], n => n
  | .split be f l r, false :: d, n => .split be f (set l d n) r
  | .split be f l r, true :: d, n => .split be f l (set r d n)
  | .leaf i, _ :: _, _ => .leaf i
end Atr

theorem abs_least (be : Bool) : ∀ t : Tr, least be t = t.abs.least be
  | .leaf _ _ => rfl
  | .split _ _ _ l r => by simp only [least, Tr.abs, Atr.least, abs_least be l, abs_least be r]
theorem abs_weight (be : Bool) : ∀ t : Tr, weight be t = t.abs.weight be
  | .leaf _ _ => rfl
  | .split _ _ _ l r => by simp only [weight, Tr.abs, Atr.weight, abs_weight be l, abs_weight be r]
theorem abs_first : ∀ t : Tr, t.first = t.abs.first
  | .leaf _ _ => rfl
  | .split _ _ _ l r => by simp only [Tr.first, Tr.abs, Atr.first, abs_first l]
theorem abs_resize (be : Bool) : ∀ (t : Tr) (old now : Int), (t.resize be old now).abs = t.abs.resize be old now
  | .leaf _ _, _, _ => rfl
  | .split _ bb f l r, old, now => by
    simp only [Tr.resize, Tr.abs, Atr.resize]
    split
    · simp only [Tr.abs, abs_resize be l, abs_resize be r, abs_least]
    · simp only [Tr.abs, abs_resize be l, abs_resize be r]
theorem abs_balance : ∀ (t : Tr) (rc : Rc), (t.balance rc).abs = t.abs.balance rc
  | .leaf _ _, _ => rfl
  | .split _ be f l r, rc => by simp only [Tr.balance, Tr.abs, Atr.balance, abs_balance l, abs_balance r, abs_least, abs_weight]
theorem abs_rects : ∀ (t : Tr) (rc : Rc), rects t rc = t.abs.rects rc
  | .leaf _ _, _ => rfl
  | .split _ be f l r, rc => by simp only [rects, Tr.abs, Atr.rects, abs_rects l, abs_rects r]
theorem abs_size : ∀ t : Tr, t.size = t.abs.size
  | .leaf _ _ => rfl
  | .split _ _ _ l r => by simp only [Tr.size, Tr.abs, Atr.size, abs_size l, abs_size r]
theorem abs_find (id : Int) : ∀ t : Tr, findD id t = t.abs.find id
  | .leaf _ _ => rfl
  | .split _ _ _ l r => by
    simp only [findD, Tr.abs, Atr.find, abs_find id l, abs_find id r] <;> (cases Atr.find id l.abs <;> cases Atr.find id r.abs <;> rfl)
theorem abs_sub : ∀ (t : Tr) (d : List Bool), (subAt t d).map Tr.abs = t.abs.sub d
  | t, [] => by cases t <;> rfl
  | .split _ _ _ l r, false :: d => abs_sub l d
  | .split _ _ _ l r, true :: d => abs_sub r d
  | .leaf _ _, x :: _ => by cases x <;> rfl
theorem abs_rectAt : ∀ (t : Tr) (rc : Rc) (d : List Bool), rectAt t rc d = t.abs.rectAt rc d
  | t, rc, [] => by cases t <;> rfl
  | .split _ be f l r, rc, false :: d => abs_rectAt l _ d
  | .split _ be f l r, rc, true :: d => abs_rectAt r _ d
  | .leaf _ _, _, x :: _ => by cases x <;> rfl
theorem abs_set (n : Tr) : ∀ (t : Tr) (d : List Bool), (setAt t d n).abs = t.abs.set d n.abs
  | t, [] => by cases t <;> rfl
  | .split _ be f l r, false :: d => by simp only [setAt, Tr.abs, Atr.set, abs_set n l d]
  | .split _ be f l r, true :: d => by simp only [setAt, Tr.abs, Atr.set, abs_set n r d]
  | .leaf _ _, x :: _ => by cases x <;> rfl

structure Ast where
  root : Atr
  h : Int
  w : Int
  last : Int
  sel : Int

def Wn.abs (x : Wn) : Ast := ⟨x.root.abs, x.h, x.w, x.last, x.sel⟩

namespace Ast
def frame (s : Ast) : Rc := ⟨0, 0, 0, s.h, s.w⟩
def rects (s : Ast) : List Rc := s.root.rects s.frame

def select (s : Ast) (id : Int) : Int × Ast := match s.root.find id with
  | none => (8, s)
  | some _ => (0, { s with sel := id })
def only (s : Ast) (id : Int) : Int × Ast := match s.root.find id with
  | none => (8, s)
  | some _ => (0, { s with root := .leaf id, sel := id })
def balance (s : Ast) : Ast := { s with root := s.root.balance s.frame }
def setSize (s : Ast) (h w : Int) : Int × Ast :=
  if inside h w = false ∨ h < s.root.least true ∨ w < s.root.least false then (3, s)
  else (0, { s with root := (s.root.resize true s.h h).resize false s.w w, h := h, w := w })
def splitW (s : Ast) (d : List Bool) (be : Bool) : Int := w64 ((s.root.rectAt s.frame d).size be - bar be)
def splitN (s : Ast) (d : List Bool) (be : Bool) (n : Int) : Int := if n = 0 then w64 ((s.splitW d be).tdiv 2) else n
def split (s : Ast) (id : Int) (be : Bool) (n : Int) : Int × Int × Ast := match s.root.find id with
  | none => (0, 8, s)
  | some d =>
    if 64 ≤ s.rects.length then (0, 7, s)
    else if n < 0 then (0, 3, s)
    else if s.splitW d be < s.splitN d be n ∨ s.splitN d be n < mins be ∨ w64 (s.splitW d be - s.splitN d be n) < mins be then (0, 3, s)
    else (w64 (s.last + 1), 0, { s with root := s.root.set d (.split be (w64 (s.splitW d be - s.splitN d be n)) (.leaf id) (.leaf (w64 (s.last + 1)))), last := w64 (s.last + 1) })

def otherA (left : Bool) (be : Bool) (f : Int) (l r : Atr) (rc : Rc) : Atr × Rc := if left then (r, partB be f rc) else (l, partA be f rc)
def delete (s : Ast) (id : Int) : Int × Ast := match s.root.find id with
  | none => (8, s)
  | some d =>
    if d = [] then (9, s)
    else match s.root.sub d.dropLast with
      | some (.split be f l r) =>
        let rc := s.root.rectAt s.frame d.dropLast
        let o := otherA (d.getLast? == some false) be f l r rc
        (0, { s with root := s.root.set d.dropLast (o.1.resize be (o.2.size be) (rc.size be)), sel := if s.sel = id then o.1.first else s.sel })
      | _ => (9, s)

def upTo (t : Atr) (d : List Bool) (be : Bool) : Nat → Option Nat
  | 0 => none
  | k + 1 => (match t.sub (d.take k) with
    | some (.split b _ _ _) => if b = be then some k else upTo t d be k
    | _ => upTo t d be k)
def resize (s : Ast) (id by1 : Int) (be : Bool) : Int × Ast := match s.root.find id with
  | none => (8, s)
  | some d => match upTo s.root d be d.length with
    | none => (9, s)
    | some k =>
      if by1 < -1000 ∨ 1000 < by1 then (3, s)
      else match s.root.sub (d.take k) with
        | some (.split _ f l r) =>
          let by2 := if d[k]? = some false then by1 else w64 (0 - by1)
          let b := w64 (w64 ((s.root.rectAt s.frame (d.take k)).size be - f) - bar be)
          if w64 (f + by2) < l.least be ∨ w64 (b - by2) < r.least be then (3, s)
          else (0, { s with root := s.root.set (d.take k) (.split be (w64 (f + by2)) (l.resize be f (w64 (f + by2))) (r.resize be b (w64 (b - by2)))) })
        | _ => (9, s)
end Ast

theorem abs_path {x : Wn} {T : Nat} {id : Int} : x.path T id = (match x.abs.root.find id with
    | some d => places T 0 x.root x.frame d
    | none => []) := by
  unfold Wn.path
  rw [pathT_eq, abs_find]
  rfl

theorem path_nil {x : Wn} {T : Nat} {id : Int} (h : x.abs.root.find id = none) : x.path T id = [] := by rw [abs_path, h]
theorem path_some {x : Wn} {T : Nat} {id : Int} {d : List Bool} (h : x.abs.root.find id = some d) : x.path T id = places T 0 x.root x.frame d := by rw [abs_path, h]

end Go.Proofs.Ytiedpcmdimgboaa

/- Frames without blocks: sizes. -/
namespace Go.Proofs.Ytiedpcmdimgboaa
open Go.Ax
set_option linter.unusedSimpArgs false

abbrev Dim := Bool → Int
def Dim.set (d : Dim) (b : Bool) (v : Int) : Dim := fun c => if c = b then v else d c
theorem Dim.set_same (d : Dim) (b : Bool) (v : Int) : d.set b v b = v := by simp [Dim.set]
theorem Dim.set_ne (d : Dim) {b c : Bool} (v : Int) (h : c ≠ b) : d.set b v c = d c := by simp [Dim.set, h]
theorem Dim.set_set (d : Dim) (b : Bool) (u v : Int) : (d.set b u).set b v = d.set b v := by
  funext c; unfold Dim.set; split <;> rfl
theorem Dim.set_comm (d : Dim) {b c : Bool} (u v : Int) (h : c ≠ b) : (d.set b u).set c v = (d.set c v).set b u := by
  funext e; unfold Dim.set
  by_cases h1 : e = c
  · subst h1; simp [h]
  · simp [h1]
theorem Dim.set_self (d : Dim) (b : Bool) : d.set b (d b) = d := by
  funext c; unfold Dim.set; split
  · rename_i h; rw [h]
  · rfl

namespace Atr
def fits : Atr → Dim → Prop
  | .leaf _, d => ∀ b, mins b ≤ d b
  | .split b f l r, d => fits l (d.set b f) ∧ fits r (d.set b (d b - f - bar b))
def lst (be : Bool) : Atr → Int
  | .leaf _ => mins be
  | .split b _ l r => if b = be then lst be l + lst be r + bar be else max (lst be l) (lst be r)
def wgt (be : Bool) : Atr → Int
  | .leaf _ => 1
  | .split b _ l r => if b = be then wgt be l + wgt be r else max (wgt be l) (wgt be r)
def ids : Atr → List Int
  | .leaf i => [i]
  | .split _ _ l r => l.ids ++ r.ids

theorem lst_pos (be : Bool) : ∀ t : Atr, 2 ≤ lst be t ∧ lst be t ≤ 5 * t.size + 4
  | .leaf _ => by cases be <;> simp [lst, mins, size]
  | .split b _ l r => by
    have h1 := lst_pos be l
    have h2 := lst_pos be r
    have hb : 0 ≤ bar be ∧ bar be ≤ 1 := by cases be <;> decide
    simp only [lst, size]
    push_cast
    split <;> omega

theorem least_eq (be : Bool) : ∀ t : Atr, t.size < 1000000 → least be t = lst be t
  | .leaf _, _ => rfl
  | .split b _ l r, h => by
    simp only [size] at h
    have h1 := lst_pos be l
    have h2 := lst_pos be r
    have hb : 0 ≤ bar be ∧ bar be ≤ 1 := by cases be <;> decide
    simp only [least, lst, least_eq be l (by omega), least_eq be r (by omega)]
    rw [wrap_sm (n := lst be l + lst be r) (by omega) (by omega), wrap_sm (n := lst be l + lst be r + bar be) (by omega) (by omega)]

theorem wgt_pos (be : Bool) : ∀ t : Atr, 1 ≤ wgt be t ∧ wgt be t ≤ t.size + 1
  | .leaf _ => by simp [wgt, size]
  | .split b _ l r => by
    have h1 := wgt_pos be l
    have h2 := wgt_pos be r
    simp only [wgt, size]
    push_cast
    split <;> omega

theorem weight_eq (be : Bool) : ∀ t : Atr, t.size < 1000000 → weight be t = wgt be t
  | .leaf _, _ => rfl
  | .split b _ l r, h => by
    simp only [size] at h
    have h1 := wgt_pos be l
    have h2 := wgt_pos be r
    simp only [weight, wgt, weight_eq be l (by omega), weight_eq be r (by omega)]
    rw [wrap_sm (n := wgt be l + wgt be r) (by omega) (by omega)]

theorem fits_lst : ∀ (t : Atr) (d : Dim), t.fits d → ∀ b, lst b t ≤ d b
  | .leaf _, d, h, b => h b
  | .split bb f l r, d, h, b => by
    have h1 := fits_lst l _ h.1 b
    have h2 := fits_lst r _ h.2 b
    simp only [lst]
    by_cases hb : bb = b
    · subst hb
      rw [if_pos rfl]
      rw [Dim.set_same] at h1 h2
      omega
    · rw [if_neg hb]
      rw [Dim.set_ne _ _ (Ne.symm hb)] at h1 h2
      omega

theorem size_resize (be : Bool) : ∀ (t : Atr) (old now : Int), (t.resize be old now).size = t.size
  | .leaf _, _, _ => rfl
  | .split bb f l r, old, now => by
    simp only [resize]
    split <;> simp only [size, size_resize be l, size_resize be r]
theorem lst_resize (be c : Bool) : ∀ (t : Atr) (old now : Int), lst c (t.resize be old now) = lst c t
  | .leaf _, _, _ => rfl
  | .split bb f l r, old, now => by
    simp only [resize]
    split <;> simp only [lst, lst_resize be c l, lst_resize be c r]
theorem ids_resize (be : Bool) : ∀ (t : Atr) (old now : Int), (t.resize be old now).ids = t.ids
  | .leaf _, _, _ => rfl
  | .split bb f l r, old, now => by
    simp only [resize]
    split <;> simp only [ids, ids_resize be l, ids_resize be r]

theorem resize_fits (be : Bool) : ∀ (t : Atr) (d : Dim) (now : Int), t.fits d → t.size < 1000 → d be ≤ 100000 → now ≤ 100000 → lst be t ≤ now → (t.resize be (d be) now).fits (d.set be now)
  | .leaf _, d, now, h, _, _, _, hn => by
    intro b
    by_cases hb : b = be
    · subst hb; rw [Dim.set_same]; exact hn
    · rw [Dim.set_ne _ _ hb]; exact h b
  | .split bb f l r, d, now, h, hs, hd, hnw, hn => by
    simp only [size] at hs
    have hl := fits_lst l _ h.1
    have hr := fits_lst r _ h.2
    have pl := lst_pos be l
    have pr := lst_pos be r
    simp only [lst] at hn
    simp only [resize]
    by_cases hb : bb = be
    · subst hb
      rw [if_pos rfl] at hn ⊢
      have hl' := hl bb
      have hr' := hr bb
      rw [Dim.set_same] at hl' hr'
      have hbar : 0 ≤ bar bb ∧ bar bb ≤ 1 := by cases bb <;> decide
      have w1 : w64 (w64 (d bb - f) - bar bb) = d bb - f - bar bb := by rw [wrap_sm (n := d bb - f) (by omega) (by omega), wrap_sm (by omega) (by omega)]
      have w2 : w64 (w64 (d bb - f - bar bb + now) - d bb) = now - f - bar bb := by rw [wrap_sm (n := d bb - f - bar bb + now) (by omega) (by omega), wrap_sm (by omega) (by omega)]; omega
      simp only [w1, w2, least_eq bb r (by omega)]
      generalize ha : max (now - f - bar bb) (lst bb r) = after
      have w3 : w64 (w64 (now - after) - bar bb) = now - after - bar bb := by rw [wrap_sm (n := now - after) (by omega) (by omega), wrap_sm (by omega) (by omega)]
      simp only [w3]
      have i1 := resize_fits bb l (d.set bb f) (now - after - bar bb) h.1 (by omega) (by rw [Dim.set_same]; omega) (by omega) (by omega)
      have i2 := resize_fits bb r (d.set bb (d bb - f - bar bb)) after h.2 (by omega) (by rw [Dim.set_same]; omega) (by omega) (by omega)
      rw [Dim.set_same, Dim.set_set] at i1 i2
      refine ⟨by rw [Dim.set_set]; exact i1, ?_⟩
      rw [Dim.set_set, Dim.set_same, show now - (now - after - bar bb) - bar bb = after by omega]
      exact i2
    · rw [if_neg hb] at hn ⊢
      have hl' := hl be
      have hr' := hr be
      rw [Dim.set_ne _ _ (Ne.symm hb)] at hl' hr'
      have i1 := resize_fits be l (d.set bb f) now h.1 (by omega) (by rw [Dim.set_ne _ _ (Ne.symm hb)]; exact hd) hnw (by omega)
      have i2 := resize_fits be r (d.set bb (d bb - f - bar bb)) now h.2 (by omega) (by rw [Dim.set_ne _ _ (Ne.symm hb)]; exact hd) hnw (by omega)
      rw [Dim.set_ne _ _ (Ne.symm hb)] at i1 i2
      refine ⟨?_, ?_⟩
      · rw [Dim.set_comm _ _ _ hb]; exact i1
      · rw [Dim.set_ne _ _ hb, Dim.set_comm _ _ _ hb]; exact i2
end Atr

def Rc.dim (r : Rc) : Dim := r.size
theorem Rc.dim_eq (r : Rc) (b : Bool) : r.dim b = r.size b := rfl
theorem partA_dim (be : Bool) (f : Int) (r : Rc) : (partA be f r).dim = r.dim.set be f := by
  funext c; cases be <;> cases c <;> rfl
theorem partB_dim {be : Bool} {f : Int} {r : Rc} (h1 : 0 ≤ f) (h2 : f ≤ 100000) (h3 : 0 ≤ r.size be) (h4 : r.size be ≤ 100000) : (partB be f r).dim = r.dim.set be (r.size be - f - bar be) := by
  funext c
  cases be <;> cases c <;> simp only [partB, Rc.dim, Rc.size, Dim.set, bar, if_true, if_false, Bool.false_eq_true, reduceCtorEq] at h3 h4 ⊢
  · rw [wrap_sm (n := r.w - f) (by omega) (by omega), wrap_sm (by omega) (by omega)]
  · rw [wrap_sm (by omega) (by omega)]; omega

namespace Atr
theorem balance_fits : ∀ (t : Atr) (rc : Rc), t.size < 1000 → (∀ b, lst b t ≤ rc.size b) → (∀ b, rc.size b ≤ 100000) → (t.balance rc).fits rc.dim
  | .leaf _, rc, _, h, _ => h
  | .split be f l r, rc, hs, h, hm => by
    simp only [size] at hs
    have hb := h be
    have hc := hm be
    simp only [lst, if_true] at hb
    have pl := lst_pos be l
    have pr := lst_pos be r
    have ql := wgt_pos be l
    have qr := wgt_pos be r
    have hbar : 0 ≤ bar be ∧ bar be ≤ 1 := by cases be <;> decide
    simp only [balance, least_eq be l (by omega), least_eq be r (by omega), weight_eq be l (by omega), weight_eq be r (by omega)]
    rw [show w64 (rc.size be - bar be) = rc.size be - bar be from wrap_sm (by omega) (by omega)]
    generalize hw : rc.size be - bar be = whole
    generalize hx : w64 ((w64 (whole * wgt be l)).tdiv (w64 (wgt be l + wgt be r))) = x
    rw [show w64 (whole - lst be r) = whole - lst be r from wrap_sm (by omega) (by omega)]
    generalize hf : min (max x (lst be l)) (whole - lst be r) = f2
    have hf1 : lst be l ≤ f2 := by omega
    have hf2 : f2 ≤ whole - lst be r := by omega
    have dA := partA_dim be f2 rc
    have dB := partB_dim (be := be) (f := f2) (r := rc) (by omega) (by omega) (by omega) (by omega)
    have sA : ∀ b, (partA be f2 rc).size b = (rc.dim.set be f2) b := fun b => congrFun dA b
    have sB : ∀ b, (partB be f2 rc).size b = (rc.dim.set be (rc.size be - f2 - bar be)) b := fun b => congrFun dB b
    have hoth : ∀ b, b ≠ be → lst b l ≤ rc.size b ∧ lst b r ≤ rc.size b := fun b hne => by
      have := h b
      simp only [lst, if_neg (Ne.symm hne)] at this
      omega
    refine ⟨?_, ?_⟩
    · rw [← dA]
      refine balance_fits l _ (by omega) (fun b => ?_) (fun b => ?_)
      · rw [sA]
        by_cases e : b = be
        · subst e; rw [Dim.set_same]; exact hf1
        · rw [Dim.set_ne _ _ e]; exact (hoth b e).1
      · rw [sA]
        by_cases e : b = be
        · subst e; rw [Dim.set_same]; omega
        · rw [Dim.set_ne _ _ e]; exact hm b
    · rw [Rc.dim_eq, ← dB]
      refine balance_fits r _ (by omega) (fun b => ?_) (fun b => ?_)
      · rw [sB]
        by_cases e : b = be
        · subst e; rw [Dim.set_same]; omega
        · rw [Dim.set_ne _ _ e]; exact (hoth b e).2
      · rw [sB]
        by_cases e : b = be
        · subst e; rw [Dim.set_same]; omega
        · rw [Dim.set_ne _ _ e]; exact hm b
theorem ids_balance : ∀ (t : Atr) (rc : Rc), (t.balance rc).ids = t.ids
  | .leaf _, _ => rfl
  | .split be f l r, rc => by simp only [balance, ids, ids_balance l, ids_balance r]
theorem size_balance : ∀ (t : Atr) (rc : Rc), (t.balance rc).size = t.size
  | .leaf _, _ => rfl
  | .split be f l r, rc => by simp only [balance, size, size_balance l, size_balance r]
end Atr
end Go.Proofs.Ytiedpcmdimgboaa

/- What the methods of Tree come to: Select, Only, Balance, SetSize, Split. -/
namespace Go.Proofs.Ytiedpcmdimgboaa
open Go.Ax
set_option linter.unusedSimpArgs false
set_option maxRecDepth 10000

def Does (f : FuncId) (args : List Value) (H : AHeap) (T : Nat) (x : Wn) (v : Value) (s : Ast) : Prop :=
  CallA Try.prog f (.pointer (some ⟨T, 0, none⟩) :: args) H (fun out H1 => out = .ok v ∧ ∃ x', Step H T x H1 x' ∧ x'.abs = s)

theorem select_d (T : Nat) (x : Wn) (id : Int) (H : AHeap) (g : Good H T x) : Does 24 [.int .i64 id] H T x (.int .i64 (x.abs.select id).1) (x.abs.select id).2 := by
  refine (select_c T x id H g).mono ?_
  rintro _ H1 ⟨rfl, h⟩
  unfold Ast.select
  unfold Wn.select at h ⊢
  cases hf : x.abs.root.find id with
  | none => rw [path_nil hf] at h ⊢; exact ⟨rfl, _, h, rfl⟩
  | some d =>
    rw [path_some hf] at h ⊢
    rw [if_neg (places_ne _ _ _ _ _)] at h ⊢
    exact ⟨rfl, _, h, rfl⟩

theorem only_d (T : Nat) (x : Wn) (id : Int) (H : AHeap) (g : Good H T x) : Does 36 [.int .i64 id] H T x (.int .i64 (x.abs.only id).1) (x.abs.only id).2 := by
  obtain ⟨b, hb⟩ : ∃ b, H.next = b := ⟨_, rfl⟩
  have h1 := g.wn.1
  simp only [Wn.cells] at h1
  have hT : T < b := hb ▸ g.lt
  have hbase : H.base ≤ b := hb ▸ g.ok
  have hro := x.root.one
  refine callE_fn mixed Try.func36 rfl Try.ntmps36 (Nat.le_of_ble_eq_true rfl) ?_
  simp (maxDischargeDepth := 6) only [ruW, putL, Nat.reduceLeDiff, xF, ruU, entryE, Nat.reduceLT, Nat.reduceAdd, Nat.reduceMul, Nat.reduceEqDiff]
  refine (find_c T x id (ext H []) g.wn g.sz).to ?_
  unfold Ast.only
  cases hf : x.abs.root.find id with
  | none =>
    have hp := path_nil (T := T) hf
    simp only [hp, pathV, pathM, if_true]
    simp (maxDischargeDepth := 6) only [hb, hT, h1, Int.reduceEq, ne_eq, not_true_eq_false, not_false_eq_true, decide_false, decide_true, Try.results36, ruW, putL, Nat.reduceLeDiff, xF, ruU, entryE, Nat.reduceLT, Nat.reduceAdd, Nat.reduceMul, Nat.reduceEqDiff]
    exact ⟨trivial, x, Step.same g Mod.refl, rfl⟩
  | some d =>
    have hp : x.path T id ≠ [] := by rw [path_some hf]; exact places_ne _ _ _ _ _
    simp only [hp, pathV, pathM, if_false]
    simp (maxDischargeDepth := 6) only [hb, hT, h1, hbase, Int.reduceEq, ne_eq, not_true_eq_false, not_false_eq_true, decide_false, decide_true, Try.results36, ruW, putL, Nat.reduceLeDiff, xF, ruU, entryE, Nat.reduceLT, Nat.reduceAdd, Nat.reduceMul, Nat.reduceEqDiff]
    refine ⟨trivial, ⟨.leaf (b + 1) id, x.h, x.w, x.last, id⟩, ?_, rfl⟩
    generalize hU : uw H T 0 [.iface 63 (.pointer (some ⟨b + 1, 0, none⟩))] = U
    have mU : Mod [T] H U := hU ▸ Mod.uw (by simp)
    have hU1 : bk U T = some ⟨69, false, [.iface 63 (.pointer (some ⟨b + 1, 0, none⟩)), .int .i64 x.h, .int .i64 x.w, .int .i64 x.last, .int .i64 x.sel]⟩ := by rw [← hU, bk_uw_eq, h1]; rfl
    generalize hV : uw U T 4 [.int .i64 id] = V
    have mV : Mod [T] U V := hV ▸ Mod.uw (by simp)
    have hV1 : bk V T = some ⟨69, false, [.iface 63 (.pointer (some ⟨b + 1, 0, none⟩)), .int .i64 x.h, .int .i64 x.w, .int .i64 x.last, .int .i64 id]⟩ := by rw [← hV, bk_uw_eq, hU1]; rfl
    have mHV := mU.trans mV
    have hbV : V.next = b := by rw [← hV, uw_next, ← hU, uw_next, hb]
    have mE := mHV.trans (Mod.ext (L := [⟨85, x.root.opn, plsOf (x.path T id)⟩, ⟨65, false, [.int .i64 id]⟩]) (mHV.ok g.ok))
    refine ⟨⟨⟨?_, ?_⟩, mE.lt g.lt, ?_, by simp [Tr.blks], ?_, mE.ok g.ok, by simp [Tr.size]⟩, mE.mono (by simp), ?_⟩
    · rw [bk_old (mHV.lt g.lt), hV1]; rfl
    · show bk _ (b + 1) = _
      rw [bk_at hbV (by simp)]; rfl
    · intro n hn
      simp only [Tr.blks, List.mem_singleton] at hn
      rw [ext_next, hbV, hn]; simp
    · simp only [Tr.blks, List.mem_singleton]; omega
    · intro n hn
      simp only [Tr.blks, List.mem_singleton] at hn
      right; omega

theorem Step.tree {H H1 : AHeap} {T : Nat} {x : Wn} {r : Tr} (g : Good H T x) (m : Mod x.root.blks H H1) (ht : TreeAt H1 r) (hv : r.val = x.root.val) (hbl : r.blks = x.root.blks) (hsz : r.size < 10000) : Step H T x H1 { x with root := r } := by
  refine ⟨⟨⟨?_, ht⟩, m.lt g.lt, fun n hn => m.lt (g.lts n (hbl ▸ hn)), by rw [hbl]; exact g.nd, by rw [hbl]; exact g.nT, m.ok g.ok, hsz⟩, m.mono (by intro n hn; simp [hn]), fun n hn => .inl (hbl ▸ hn)⟩
  rw [(m.bk g.lt g.nT).trans g.wn.1]
  simp only [Wn.cells, hv]

theorem Step.trans {H H1 H2 : AHeap} {T : Nat} {x y z : Wn} (g : Good H T x) (a : Step H T x H1 y) (b : Step H1 T y H2 z) : Step H T x H2 z := by
  refine ⟨b.good, a.mod.step b.mod g.ok (fun n hn => ?_), fun n hn => ?_⟩
  · rcases List.mem_cons.1 hn with rfl | hn
    · exact .inl (by simp)
    · rcases a.new n hn with h | h
      · exact .inl (by simp [h])
      · exact .inr h
  · rcases b.new n hn with h | h
    · exact a.new n h
    · exact .inr (Nat.le_trans a.mod.next h)

theorem Tr.balance_size : ∀ (t : Tr) (rc : Rc), (t.balance rc).size = t.size
  | .leaf _ _, _ => rfl
  | .split b be f l r, rc => by simp only [Tr.balance, Tr.size, Tr.balance_size l, Tr.balance_size r]
theorem Tr.resize_size (be : Bool) : ∀ (t : Tr) (old now : Int), (t.resize be old now).size = t.size
  | .leaf _ _, _, _ => rfl
  | .split b bb f l r, old, now => by
    unfold Tr.resize
    split <;> simp only [Tr.size, Tr.resize_size be l, Tr.resize_size be r]

theorem balance_d (T : Nat) (x : Wn) (H : AHeap) (g : Good H T x) : Does 38 [] H T x (.int .i64 0) x.abs.balance := by
  obtain ⟨b, hb⟩ : ∃ b, H.next = b := ⟨_, rfl⟩
  have h1 := g.wn.1
  simp only [Wn.cells] at h1
  have hT : T < b := hb ▸ g.lt
  refine callE_fn mixed Try.func38 rfl Try.ntmps38 (Nat.le_of_ble_eq_true rfl) ?_
  simp (maxDischargeDepth := 6) only [ruW, putL, Nat.reduceLeDiff, xF, ruU, entryE, Nat.reduceLT, Nat.reduceAdd, Nat.reduceMul, Nat.reduceEqDiff]
  refine (made_c T x (ext H []) g.wn).to ?_
  simp (maxDischargeDepth := 6) only [ruW, putL, Nat.reduceLeDiff, xF, ruU, entryE, Nat.reduceLT, Nat.reduceAdd, Nat.reduceMul, Nat.reduceEqDiff]
  refine w_drawB [(6, 3), (6, 5)] [] (by kernel_rfl) (by kernel_rfl) rfl fun ops anc hA hG => ?_
  simp only [all2_cons] at hA
  simp (maxDischargeDepth := 6) only [hb, hT, h1, hA, ruD, ruW, putL, Nat.reduceLeDiff, xF, ruU, entryE, Nat.reduceLT, Nat.reduceAdd, Nat.reduceMul, Nat.reduceEqDiff]
  refine genV_quiet (v := x.frame.val) [T] (by simp (maxDischargeDepth := 6) only [ruU, entryE, Nat.reduceLT, Nat.reduceAdd, Nat.reduceMul, Nat.reduceEqDiff]) (by kernel_rfl) (by decide) (fun m hm => by simp (maxDischargeDepth := 6) only [List.mem_singleton] at hm; subst hm; exact bk_ne (H := H) h1) (fun K _ hg => ?_) (by simp (maxDischargeDepth := 6) only [ruD, ruW, putL, Nat.reduceLeDiff, xF, ruU, entryE, Nat.reduceLT, Nat.reduceAdd, Nat.reduceMul, Nat.reduceEqDiff]) ?_
  · simp only [ruU, entryE, Nat.reduceLT, Nat.reduceAdd, Nat.reduceMul, Nat.reduceEqDiff]
    exact frame_c T x K ((bk_get (hg T (by simp))).trans g.wn.1)
  simp (maxDischargeDepth := 6) only [hb, hA, ruD, ruW, putL, Nat.reduceLeDiff, xF, ruU, entryE, Nat.reduceLT, Nat.reduceAdd, Nat.reduceMul, Nat.reduceEqDiff]
  have hrn := restrict_next H x.root.blks
  obtain ⟨_, gg, hc, rfl, m1, t1⟩ := balance_c x.root x.frame (H.restrict x.root.blks) (by rw [hrn.1, hrn.2.1]; exact Nat.le_refl _) (g.wn.2.of fun m hm => by rw [restrict_get, if_pos hm]) (fun m hm => by rw [hrn.1]; exact g.lts m hm) g.nd (by have := g.sz; omega)
  refine genV_mod (H := ext H []) (W := x.root.blks) x.root.blks g.ok (by simp only [ruU, entryE, Nat.reduceLT, Nat.reduceAdd, Nat.reduceMul, Nat.reduceEqDiff]) (by kernel_rfl) g.wn.2.ne g.lts (fun _ h => h) (v := .tuple #[]) (g := gg) (by simp only [ruU, entryE, Nat.reduceLT, Nat.reduceAdd, Nat.reduceMul, Nat.reduceEqDiff]; exact hc) m1 (by simp only [all2_cons, hA, true_or, and_true, all2_nil]) ?_
  intro H1 D mH1 hF _ _ _
  rw [show H1 = ext H1 [] from rfl]
  simp (maxDischargeDepth := 6) only [Try.results38, ruD, ruW, putL, Nat.reduceLeDiff, xF, ruU, entryE, Nat.reduceLT, Nat.reduceAdd, Nat.reduceMul, Nat.reduceEqDiff]
  refine ⟨{ x with root := x.root.balance x.frame }, Step.tree g mH1 (t1.of fun m hm => hF m (by rw [Tr.balance_blks] at hm; exact hm)) (Tr.balance_val _ _) (Tr.balance_blks _ _) (by rw [Tr.balance_size]; exact g.sz), ?_⟩
  simp only [Wn.abs, Ast.balance, abs_balance]
  rfl

end Go.Proofs.Ytiedpcmdimgboaa

/- What the methods of Tree come to: SetSize, Split. -/
namespace Go.Proofs.Ytiedpcmdimgboaa
open Go.Ax
set_option linter.unusedSimpArgs false
set_option maxRecDepth 10000

theorem setSize_d (T : Nat) (x : Wn) (h w : Int) (H : AHeap) (g : Good H T x) : Does 26 [.int .i64 h, .int .i64 w] H T x (.int .i64 (x.abs.setSize h w).1) (x.abs.setSize h w).2 := by
  obtain ⟨b, hb⟩ : ∃ b, H.next = b := ⟨_, rfl⟩
  have h1 := g.wn.1
  simp only [Wn.cells] at h1
  have hT : T < b := hb ▸ g.lt
  have hbase : H.base ≤ b := hb ▸ g.ok
  refine callE_fn mixed Try.func26 rfl Try.ntmps26 (Nat.le_of_ble_eq_true rfl) ?_
  simp (maxDischargeDepth := 6) only [ruW, putL, Nat.reduceLeDiff, xF, ruU, entryE, Nat.reduceLT, Nat.reduceAdd, Nat.reduceMul, Nat.reduceEqDiff]
  refine (made_c T x (ext H []) g.wn).to ?_
  simp (maxDischargeDepth := 6) only [ruW, putL, Nat.reduceLeDiff, xF, ruU, entryE, Nat.reduceLT, Nat.reduceAdd, Nat.reduceMul, Nat.reduceEqDiff]
  refine (within_c h w (ext H [])).to ?_
  unfold Ast.setSize
  have eT : x.abs.root.least true = least true x.root := (abs_least true x.root).symm
  have eF : x.abs.root.least false = least false x.root := (abs_least false x.root).symm
  rw [eT, eF]
  have fail : ∀ (K : Prop) [Decidable K], K → ((if K then ((3 : Int), x.abs) else (0, { x.abs with root := (x.abs.root.resize true x.abs.h h).resize false x.abs.w w, h := h, w := w })) = ((3 : Int), x.abs)) := fun K _ hK => if_pos hK
  cases hin : inside h w with
  | false =>
    simp (maxDischargeDepth := 6) only [hb, hT, h1, Try.results26, ruW, putL, Nat.reduceLeDiff, xF, ruU, entryE, Nat.reduceLT, Nat.reduceAdd, Nat.reduceMul, Nat.reduceEqDiff]
    rw [fail _ (.inl trivial)]
    exact ⟨rfl, x, Step.same g Mod.refl, rfl⟩
  | true =>
    simp (maxDischargeDepth := 6) only [hb, hT, h1, ruW, putL, Nat.reduceLeDiff, xF, ruU, entryE, Nat.reduceLT, Nat.reduceAdd, Nat.reduceMul, Nat.reduceEqDiff]
    refine (least_c true x.root (ext H []) g.wn.2).to ?_
    by_cases hh : h < least true x.root
    · simp (maxDischargeDepth := 6) only [hb, hT, h1, hh, decide_true, Try.results26, ruW, putL, Nat.reduceLeDiff, xF, ruU, entryE, Nat.reduceLT, Nat.reduceAdd, Nat.reduceMul, Nat.reduceEqDiff]
      rw [if_pos (.inr (.inl trivial))]
      exact ⟨rfl, x, Step.same g Mod.refl, rfl⟩
    · simp (maxDischargeDepth := 6) only [hb, hT, h1, hh, decide_false, ruW, putL, Nat.reduceLeDiff, xF, ruU, entryE, Nat.reduceLT, Nat.reduceAdd, Nat.reduceMul, Nat.reduceEqDiff]
      refine (least_c false x.root (ext H []) g.wn.2).to ?_
      by_cases hw : w < least false x.root
      · simp (maxDischargeDepth := 6) only [hb, hT, h1, hw, decide_true, Try.results26, ruW, putL, Nat.reduceLeDiff, xF, ruU, entryE, Nat.reduceLT, Nat.reduceAdd, Nat.reduceMul, Nat.reduceEqDiff]
        rw [if_pos (.inr (.inr trivial))]
        exact ⟨rfl, x, Step.same g Mod.refl, rfl⟩
      · simp (maxDischargeDepth := 6) only [hb, hT, h1, hw, decide_false, ruW, putL, Nat.reduceLeDiff, xF, ruU, entryE, Nat.reduceLT, Nat.reduceAdd, Nat.reduceMul, Nat.reduceEqDiff]
        rw [if_neg (by simp)]
        refine w_drawB [(9, 3), (9, 7)] [] (by kernel_rfl) (by kernel_rfl) rfl fun ops anc hA hG => ?_
        simp only [all2_cons] at hA
        simp (maxDischargeDepth := 6) only [hb, hT, h1, ruD, ruW, putL, Nat.reduceLeDiff, xF, ruU, entryE, Nat.reduceLT, Nat.reduceAdd, Nat.reduceMul, Nat.reduceEqDiff]
        have hrn := restrict_next H x.root.blks
        obtain ⟨_, gg, hc, rfl, m1, t1⟩ := resize_c true x.root x.h h (H.restrict x.root.blks) (by rw [hrn.1, hrn.2.1]; exact Nat.le_refl _) (g.wn.2.of fun m hm => by rw [restrict_get, if_pos hm]) (fun m hm => by rw [hrn.1]; exact g.lts m hm) g.nd
        refine genV_mod (H := ext H []) (W := x.root.blks) x.root.blks g.ok (by simp only [ruU, entryE, Nat.reduceLT, Nat.reduceAdd, Nat.reduceMul, Nat.reduceEqDiff]) (by kernel_rfl) g.wn.2.ne g.lts (fun _ h => h) (v := .tuple #[]) (g := gg) (by simp only [ruU, entryE, Nat.reduceLT, Nat.reduceAdd, Nat.reduceMul, Nat.reduceEqDiff]; exact hc) m1 (by simp only [all2_cons, hA, true_or, and_true, all2_nil]) ?_
        intro H1 D mH1 hF _ _ _
        have s1 : Step H T x H1 { x with root := x.root.resize true x.h h } := Step.tree g mH1 (t1.of fun m hm => hF m (by rw [Tr.resize_blks] at hm; exact hm)) (Tr.resize_val _ _ _ _) (Tr.resize_blks _ _ _ _) (by rw [Tr.resize_size]; exact g.sz)
        generalize hy : ({ x with root := x.root.resize true x.h h } : Wn) = y at s1
        have hyh : y.h = x.h := by rw [← hy]
        have hyw : y.w = x.w := by rw [← hy]
        have g1 := s1.good
        have k1 := g1.wn.1
        simp only [Wn.cells] at k1
        have hT1 := g1.lt
        rw [show H1 = ext H1 [] from rfl]
        simp (maxDischargeDepth := 6) only [ruD, ruW, putL, Nat.reduceLeDiff, xF, ruU, entryE, Nat.reduceLT, Nat.reduceAdd, Nat.reduceMul, Nat.reduceEqDiff]
        refine w_drawB [(9, 3), (9, 7)] [] (by kernel_rfl) (by kernel_rfl) rfl fun ops anc hA hG => ?_
        simp only [all2_cons] at hA
        simp (maxDischargeDepth := 6) only [hT1, k1, ruD, ruW, putL, Nat.reduceLeDiff, xF, ruU, entryE, Nat.reduceLT, Nat.reduceAdd, Nat.reduceMul, Nat.reduceEqDiff]
        have hrn2 := restrict_next H1 y.root.blks
        obtain ⟨_, g2, hc2, rfl, m2, t2⟩ := resize_c false y.root y.w w (H1.restrict y.root.blks) (by rw [hrn2.1, hrn2.2.1]; exact Nat.le_refl _) (g1.wn.2.of fun m hm => by rw [restrict_get, if_pos hm]) (fun m hm => by rw [hrn2.1]; exact g1.lts m hm) g1.nd
        refine genV_mod (H := ext H1 []) (W := y.root.blks) y.root.blks g1.ok (by simp only [ruU, entryE, Nat.reduceLT, Nat.reduceAdd, Nat.reduceMul, Nat.reduceEqDiff]) (by kernel_rfl) g1.wn.2.ne g1.lts (fun _ h => h) (v := .tuple #[]) (g := g2) (by simp only [ruU, entryE, Nat.reduceLT, Nat.reduceAdd, Nat.reduceMul, Nat.reduceEqDiff]; exact hc2) m2 (by simp only [all2_cons, hA, true_or, and_true, all2_nil]) ?_
        intro H2 D2 mH2 hF2 _ _ _
        have s2 : Step H1 T y H2 { y with root := y.root.resize false y.w w } := Step.tree g1 mH2 (t2.of fun m hm => hF2 m (by rw [Tr.resize_blks] at hm; exact hm)) (Tr.resize_val _ _ _ _) (Tr.resize_blks _ _ _ _) (by rw [Tr.resize_size]; exact g1.sz)
        generalize hz : ({ y with root := y.root.resize false y.w w } : Wn) = z at s2
        have g2' := s2.good
        have k2 := g2'.wn.1
        simp only [Wn.cells] at k2
        have hT2 := g2'.lt
        rw [show H2 = ext H2 [] from rfl]
        simp (maxDischargeDepth := 6) only [hT2, k2, Try.results26, ruD, ruW, putL, Nat.reduceLeDiff, xF, ruU, entryE, Nat.reduceLT, Nat.reduceAdd, Nat.reduceMul, Nat.reduceEqDiff]
        generalize hU : uw H2 T 1 [.int .i64 h] = U
        have mU : Mod [T] H2 U := hU ▸ Mod.uw (by simp)
        have kU : bk U T = some ⟨69, false, [z.root.val, .int .i64 h, .int .i64 z.w, .int .i64 z.last, .int .i64 z.sel]⟩ := by rw [← hU, bk_uw_eq, k2]; rfl
        generalize hV : uw U T 2 [.int .i64 w] = V
        have mV : Mod [T] U V := hV ▸ Mod.uw (by simp)
        have kV : bk V T = some ⟨69, false, [z.root.val, .int .i64 h, .int .i64 w, .int .i64 z.last, .int .i64 z.sel]⟩ := by rw [← hV, bk_uw_eq, kU]; rfl
        have s3 : Step H2 T z V { z with h := h, w := w } := Step.own g2' (mU.trans mV) rfl kV
        refine ⟨{ z with h := h, w := w }, Step.trans g s1 (Step.trans g1 s2 s3), ?_⟩
        rw [← hz, ← hy]
        simp only [Wn.abs, abs_resize]

end Go.Proofs.Ytiedpcmdimgboaa

/- Trees with another part: their blocks. Places in a slice. -/
namespace Go.Proofs.Ytiedpcmdimgboaa
open Go.Ax
set_option linter.unusedSimpArgs false

theorem set_blks {n : Tr} : ∀ (t : Tr) (d : List Bool), ∀ m ∈ (setAt t d n).blks, m ∈ t.blks ∨ m ∈ n.blks
  | t, [], m, h => by cases t <;> exact .inr h
  | .split b be f l r, false :: d, m, h => by
    simp only [setAt, Tr.blks, List.mem_cons, List.mem_append] at h ⊢
    rcases h with h | h | h
    · exact .inl (.inl h)
    · rcases set_blks l d m h with h | h
      · exact .inl (.inr (.inl h))
      · exact .inr h
    · exact .inl (.inr (.inr h))
  | .split b be f l r, true :: d, m, h => by
    simp only [setAt, Tr.blks, List.mem_cons, List.mem_append] at h ⊢
    rcases h with h | h | h
    · exact .inl (.inl h)
    · exact .inl (.inr (.inl h))
    · rcases set_blks r d m h with h | h
      · exact .inl (.inr (.inr h))
      · exact .inr h
  | .leaf _ _, x :: _, m, h => by cases x <;> exact .inl h

theorem set_nodup {n : Tr} (hn : n.blks.Nodup) : ∀ (t : Tr) (d : List Bool) (s : Tr), subAt t d = some s → t.blks.Nodup → (∀ m ∈ n.blks, m ∈ t.blks → m ∈ s.blks) → (setAt t d n).blks.Nodup
  | t, [], s, _, _, _ => by cases t <;> exact hn
  | .split b be f l r, false :: d, s, h, ht, hs => by
    simp only [Tr.blks, List.nodup_cons, List.nodup_append, List.mem_append, not_or] at ht
    obtain ⟨⟨hbl, hbr⟩, hnl, hnr, hlr⟩ := ht
    have hsl := sub_blks l d s h
    have ih := set_nodup hn l d s h hnl (fun m hm hl => hs m hm (by simp [Tr.blks, hl]))
    simp only [setAt, Tr.blks, List.nodup_cons, List.nodup_append, List.mem_append, not_or]
    refine ⟨⟨fun hb => ?_, hbr⟩, ih, hnr, fun m hm m' hm' e => ?_⟩
    · rcases set_blks l d b hb with h' | h'
      · exact hbl h'
      · exact hbl (hsl b (hs b h' (by simp [Tr.blks])))
    · subst e
      rcases set_blks l d m hm with h' | h'
      · exact hlr m h' m hm' rfl
      · exact hlr m (hsl m (hs m h' (by simp [Tr.blks, hm']))) m hm' rfl
  | .split b be f l r, true :: d, s, h, ht, hs => by
    simp only [Tr.blks, List.nodup_cons, List.nodup_append, List.mem_append, not_or] at ht
    obtain ⟨⟨hbl, hbr⟩, hnl, hnr, hlr⟩ := ht
    have hsr := sub_blks r d s h
    have ih := set_nodup hn r d s h hnr (fun m hm hr => hs m hm (by simp [Tr.blks, hr]))
    simp only [setAt, Tr.blks, List.nodup_cons, List.nodup_append, List.mem_append, not_or]
    refine ⟨⟨hbl, fun hb => ?_⟩, hnl, ih, fun m hm m' hm' e => ?_⟩
    · rcases set_blks r d b hb with h' | h'
      · exact hbr h'
      · exact hbr (hsr b (hs b h' (by simp [Tr.blks])))
    · subst e
      rcases set_blks r d m hm' with h' | h'
      · exact hlr m hm m h' rfl
      · exact hlr m hm m (hsr m (hs m h' (by simp [Tr.blks, hm]))) rfl
  | .leaf _ _, _ :: _, _, h, _, _ => by rw [subAt_leaf] at h; cases h

theorem set_size {n : Tr} : ∀ (t : Tr) (d : List Bool), (setAt t d n).size ≤ t.size + n.size
  | t, [] => by cases t <;> simp [setAt]
  | .split b be f l r, false :: d => by
    have := set_size (n := n) l d
    simp only [setAt, Tr.size]; omega
  | .split b be f l r, true :: d => by
    have := set_size (n := n) r d
    simp only [setAt, Tr.size]; omega
  | .leaf _ _, x :: _ => by cases x <;> simp [setAt, Tr.size]

theorem rects_length : ∀ (t : Tr) (rc : Rc), (rects t rc).length = t.size + 1
  | .leaf _ _, _ => rfl
  | .split _ be f l r, rc => by
    simp only [rects, List.length_append, rects_length l, rects_length r, Tr.size]; omega

theorem pls_get : ∀ (ps : List Pl) (k : Nat) (p : Pl), ps[k]? = some p → ((plsOf ps).drop (k * 6)).take 6 = p.cells
  | [], k, p, h => by simp at h
  | q :: ps, 0, p, h => by
    simp only [List.getElem?_cons_zero, Option.some.injEq] at h
    subst h
    rw [plsOf_cons]
    simp [Pl.cells, Rc.cells]
  | q :: ps, k + 1, p, h => by
    have ih := pls_get ps k p (by simpa using h)
    rw [plsOf_cons, show (k + 1) * 6 = q.cells.length + k * 6 by simp [Pl.cells, Rc.cells]; omega, List.drop_append, List.drop_eq_nil_of_le (by omega), List.nil_append, Nat.add_sub_cancel_left]
    exact ih

theorem pls_load {ps : List Pl} {k : Nat} {p : Pl} {o : Bool} (h : ps[k]? = some p) : ldB Try.prog 85 (0 + k * 6) (some ⟨85, o, plsOf ps⟩) = some (.agg p.cells.toArray) := by
  have hk : k < ps.length := by
    rcases Nat.lt_or_ge k ps.length with h' | h'
    · exact h'
    · rw [List.getElem?_eq_none h'] at h; cases h
  have h1 : aggT Try.prog 85 = some true := by kernel_rfl
  have h2 : szOf Try.prog 85 = some 6 := by kernel_rfl
  simp only [ldB, h1, h2, Option.bind_some, Nat.zero_add, pls_get ps k p h]
  rw [if_pos (by rw [plsOf_length]; omega)]

theorem pls_ia {len cap n : Nat} {s : Option Nat} {i : Int} {k : Nat} (hi : i = k) (hk : k < len) : aIndexAddr Try.prog 75 (.slice (some ⟨n, 0, s⟩) len cap) (.int .i64 i) = some (.pointer (some ⟨n, 0 + k * 6, none⟩)) := by
  subst hi
  rw [ia_slice (e := 85) (sz := 6) (by kernel_rfl) (by kernel_rfl) (by omega) (by omega)]
  simp

end Go.Proofs.Ytiedpcmdimgboaa

/- What Split comes to. -/
namespace Go.Proofs.Ytiedpcmdimgboaa
open Go.Ax
set_option linter.unusedSimpArgs false
set_option maxRecDepth 10000

theorem split_d (T : Nat) (x : Wn) (id : Int) (be : Bool) (n : Int) (H : AHeap) (g : Good H T x) :
    Does 18 [.int .i64 id, .bool be, .int .i64 n] H T x (.tuple #[.int .i64 (x.abs.split id be n).1, .int .i64 (x.abs.split id be n).2.1]) (x.abs.split id be n).2.2 := by
  obtain ⟨b, hb⟩ : ∃ b, H.next = b := ⟨_, rfl⟩
  have h1 := g.wn.1
  simp only [Wn.cells] at h1
  have hT : T < b := hb ▸ g.lt
  have hbase : H.base ≤ b := hb ▸ g.ok
  have hsz := g.sz
  refine callE_fn mixed Try.func18 rfl Try.ntmps18 (Nat.le_of_ble_eq_true rfl) ?_
  simp (maxDischargeDepth := 6) only [ruW, putL, Nat.reduceLeDiff, xF, ruU, entryE, Nat.reduceLT, Nat.reduceAdd, Nat.reduceMul, Nat.reduceEqDiff]
  refine (find_c T x id (ext H []) g.wn g.sz).to ?_
  unfold Ast.split
  cases hf : x.abs.root.find id with
  | none =>
    have hp := path_nil (T := T) hf
    simp only [hp, pathV, pathM, if_true]
    simp (maxDischargeDepth := 6) only [hb, hT, h1, Int.reduceEq, ne_eq, not_true_eq_false, not_false_eq_true, decide_false, decide_true, Try.results18, ruW, putL, Nat.reduceLeDiff, xF, ruU, entryE, Nat.reduceLT, Nat.reduceAdd, Nat.reduceMul, Nat.reduceEqDiff]
    exact ⟨by trivial, x, Step.same g Mod.refl, rfl⟩
  | some d =>
    have hps := path_some (T := T) hf
    have hp : x.path T id ≠ [] := by rw [hps]; exact places_ne _ _ _ _ _
    replace hf : findD id x.root = some d := (abs_find id x.root).trans hf
    obtain ⟨nb, hsub⟩ := findD_sub id x.root d hf
    have hlen : (x.path T id).length = d.length + 1 := by rw [hps]; exact places_length x.root d T 0 x.frame (by rw [hsub]; simp)
    have hget := places_get x.root d [] T 0 x.frame (by rw [List.append_nil, hsub]; simp)
    rw [List.append_nil, ← hps] at hget
    generalize hca : (cellAt T 0 x.root d).1 = pa at hget
    generalize hco : (cellAt T 0 x.root d).2 = po at hget
    obtain ⟨ba, hba, hbo⟩ := cell_holds x.root d _ T 0 hsub g.wn.2 ⟨_, g.wn.1, rfl⟩
    rw [hca] at hba
    rw [hco] at hbo
    obtain ⟨ea, oa, la⟩ := ba
    simp only [Tr.val] at hbo
    have hpa : pa < b := by
      rw [← hb, ← hca]
      by_cases hd : d = []
      · subst hd
        have : (cellAt T 0 x.root []).1 = T := by cases x.root <;> rfl
        rw [this]; exact g.lt
      · exact g.lts _ (cell_mem x.root d _ T 0 hd hsub)
    have hrl : x.rects.length = x.root.size + 1 := rects_length _ _
    have era : x.abs.rects.length = x.rects.length := by
      show (x.root.abs.rects x.frame).length = (rects x.root x.frame).length
      rw [abs_rects]
    simp only [hp, pathV, pathM, if_false]
    simp (maxDischargeDepth := 6) only [hb, hT, h1, Int.reduceEq, ne_eq, not_true_eq_false, not_false_eq_true, decide_false, decide_true, ruW, putL, Nat.reduceLeDiff, xF, ruU, entryE, Nat.reduceLT, Nat.reduceAdd, Nat.reduceMul, Nat.reduceEqDiff]
    have m1 : Mod [] H (ext H [⟨85, x.root.opn, plsOf (x.path T id)⟩]) := Mod.ext g.ok
    refine (rects_c T x (ext H [⟨85, x.root.opn, plsOf (x.path T id)⟩]) (by omega) (g.mod m1 (by simp) (by simp)).wn).to ?_
    simp only [era]
    by_cases h64 : 64 ≤ x.rects.length
    · have h64' : (64 : Int) ≤ (x.rects.length : Int) := by omega
      simp (maxDischargeDepth := 6) only [hb, hT, h1, h64', decide_true, Try.results18, ruW, putL, Nat.reduceLeDiff, xF, ruU, entryE, Nat.reduceLT, Nat.reduceAdd, Nat.reduceMul, Nat.reduceEqDiff]
      rw [if_pos h64]
      exact ⟨by trivial, x, Step.same g (Mod.ext g.ok), rfl⟩
    · have h64' : ¬ (64 : Int) ≤ (x.rects.length : Int) := by omega
      rw [if_neg h64]
      simp (maxDischargeDepth := 6) only [hb, hT, h1, h64', decide_false, ruW, putL, Nat.reduceLeDiff, xF, ruU, entryE, Nat.reduceLT, Nat.reduceAdd, Nat.reduceMul, Nat.reduceEqDiff]
      by_cases hn : n < 0
      · simp (maxDischargeDepth := 6) only [hn, decide_true, Try.results18, ruW, putL, Nat.reduceLeDiff, xF, ruU, entryE, Nat.reduceLT, Nat.reduceAdd, Nat.reduceMul, Nat.reduceEqDiff]
        exact ⟨by trivial, x, Step.same g (Mod.ext g.ok), rfl⟩
      · rw [if_neg hn]
        have hw1 : IntKind.i64.wrap (((x.path T id).length : Int) - 1) = (d.length : Int) := by
          have hd := pathT_len x.root T 0 x.frame id
          have hd' : (x.path T id).length ≤ x.root.size + 1 := hd
          have := wrap_sm (n := ((x.path T id).length : Int) - 1) (by omega) (by omega)
          rw [show IntKind.i64.wrap (((x.path T id).length : Int) - 1) = ((x.path T id).length : Int) - 1 from this, hlen]
          omega
        have hia := fun s => pls_ia (len := (x.path T id).length) (cap := (x.path T id).length) (n := b + 0) (s := s) (i := IntKind.i64.wrap (((x.path T id).length : Int) - 1)) (k := d.length) hw1 (by omega)
        have hld := fun o => pls_load (o := o) hget
        simp only [Pl.cells, Rc.cells] at hld
        simp (maxDischargeDepth := 6) only [hb, hT, h1, hn, hia, hld, hbase, hpa, decide_false, ruW, putL, Nat.reduceLeDiff, xF, ruU, entryE, Nat.reduceLT, Nat.reduceAdd, Nat.reduceMul, Nat.reduceEqDiff]
        have eW : x.abs.splitW d be = IntKind.i64.wrap ((rectAt x.root x.frame d).size be - bar be) := by
          show w64 ((x.root.abs.rectAt x.frame d).size be - bar be) = _
          rw [← abs_rectAt]
        have eN : x.abs.splitN d be n = if n = 0 then w64 ((x.abs.splitW d be).tdiv 2) else n := rfl
        generalize hW : x.abs.splitW d be = W at eW eN ⊢
        generalize hN : x.abs.splitN d be n = n' at eN ⊢
        refine (size_c (rectAt x.root x.frame d) be (ext H (_ :: _))).to ?_
        simp (maxDischargeDepth := 6) only [ruW, putL, Nat.reduceLeDiff, xF, ruU, entryE, Nat.reduceLT, Nat.reduceAdd, Nat.reduceMul, Nat.reduceEqDiff]
        refine (bar_c be (ext H (_ :: _))).to ?_
        simp (maxDischargeDepth := 6) only [← eW, ruW, putL, Nat.reduceLeDiff, xF, ruU, entryE, Nat.reduceLT, Nat.reduceAdd, Nat.reduceMul, Nat.reduceEqDiff]
        generalize hX : ext H (_ :: _) = X
        have mX : Mod [] H X := hX ▸ Mod.ext g.ok
        have hX3 : X.next = b + 3 := by rw [← hX, ext_next, hb]; rfl
        have h2X : bk X (b + 2) = some ⟨85, false, (Pl.mk pa po (rectAt x.root x.frame d)).cells⟩ := by rw [← hX, bk_at hb (by simp)]; rfl
        simp only [Pl.cells, Rc.cells] at h2X
        have gX := g.mod mX (by simp) (by simp)
        have haX : bk X pa = some ⟨ea, oa, la⟩ := (mX.bk (hb ▸ hpa) (by simp)).trans hba
        have kX := gX.wn.1
        simp only [Wn.cells] at kX
        obtain ⟨c, hc⟩ : ∃ c, X.next = c := ⟨_, rfl⟩
        have hcb : c = b + 3 := hc.symm.trans hX3
        have lpc : pa < c := by omega
        have lTc : T < c := by omega
        have l2c : b + 2 < c := by omega
        have hbc : X.base ≤ c := hc ▸ gX.ok
        refine condC_join (fun E' H' => H' = ext X [] ∧ E' 0 = .pointer (some ⟨T, 0, none⟩) ∧ E' 2 = .bool be ∧ E' 3 = .int .i64 n' ∧ E' 12 = .pointer (some ⟨b + 2, 0, none⟩) ∧ E' 13 = .int .i64 W) (fun h0 => ?_) (fun h0 => ?_) ?_
        · have h0 := of_decide_eq_true h0
          rw [if_pos h0] at eN
          rw [show X = ext X [] from rfl]
          simp (maxDischargeDepth := 6) only [Int.reduceEq, ruW, putL, Nat.reduceLeDiff, xF, ruU, entryE, Nat.reduceLT, Nat.reduceAdd, Nat.reduceMul, Nat.reduceEqDiff]
          rw [joinC_normal]
          exact ⟨_, rfl, rfl, by simp only [ruU, entryE, Nat.reduceLT, Nat.reduceAdd, Nat.reduceMul, Nat.reduceEqDiff], by simp only [ruU, entryE, Nat.reduceLT, Nat.reduceAdd, Nat.reduceMul, Nat.reduceEqDiff], by rw [eN]; simp only [ruU, entryE, Nat.reduceLT, Nat.reduceAdd, Nat.reduceMul, Nat.reduceEqDiff], by simp only [ruU, entryE, Nat.reduceLT, Nat.reduceAdd, Nat.reduceMul, Nat.reduceEqDiff], by simp only [ruU, entryE, Nat.reduceLT, Nat.reduceAdd, Nat.reduceMul, Nat.reduceEqDiff]⟩
        · have h0 := of_decide_eq_false h0
          rw [if_neg h0] at eN
          rw [show X = ext X [] from rfl]
          simp (maxDischargeDepth := 6) only [ruW, putL, Nat.reduceLeDiff, xF, ruU, entryE, Nat.reduceLT, Nat.reduceAdd, Nat.reduceMul, Nat.reduceEqDiff]
          rw [joinC_normal]
          exact ⟨_, rfl, rfl, by simp only [ruU, entryE, Nat.reduceLT, Nat.reduceAdd, Nat.reduceMul, Nat.reduceEqDiff], by simp only [ruU, entryE, Nat.reduceLT, Nat.reduceAdd, Nat.reduceMul, Nat.reduceEqDiff], by rw [eN]; simp only [ruU, entryE, Nat.reduceLT, Nat.reduceAdd, Nat.reduceMul, Nat.reduceEqDiff], by simp only [ruU, entryE, Nat.reduceLT, Nat.reduceAdd, Nat.reduceMul, Nat.reduceEqDiff], by simp only [ruU, entryE, Nat.reduceLT, Nat.reduceAdd, Nat.reduceMul, Nat.reduceEqDiff]⟩
        · rintro E _ ⟨hH, e0, e2, e3, e12, e13⟩
          rw [hH]
          simp (maxDischargeDepth := 6) only [e0, e2, e3, e12, e13, hc, h2X, l2c, lpc, haX, hbo, ruW, putL, Nat.reduceLeDiff, xF, ruU, entryE, Nat.reduceLT, Nat.reduceAdd, Nat.reduceMul, Nat.reduceEqDiff]
          have hleaf : TreeAt X (.leaf nb id) := sub_tree x.root d _ hsub gX.wn.2
          refine (least_c be (.leaf nb id) (ext X []) hleaf).to ?_
          simp only [least]
          by_cases c1 : W < n'
          · simp (maxDischargeDepth := 6) only [e0, e2, e3, e12, e13, c1, decide_true, Try.results18, ruW, putL, Nat.reduceLeDiff, xF, ruU, entryE, Nat.reduceLT, Nat.reduceAdd, Nat.reduceMul, Nat.reduceEqDiff]
            rw [if_pos (.inl trivial)]
            exact ⟨by trivial, x, Step.same g mX, rfl⟩
          by_cases c2 : n' < mins be
          · simp (maxDischargeDepth := 6) only [e0, e2, e3, e12, e13, c1, c2, decide_true, decide_false, Try.results18, ruW, putL, Nat.reduceLeDiff, xF, ruU, entryE, Nat.reduceLT, Nat.reduceAdd, Nat.reduceMul, Nat.reduceEqDiff]
            rw [if_pos (.inr (.inl trivial))]
            exact ⟨by trivial, x, Step.same g mX, rfl⟩
          by_cases c3 : w64 (W - n') < mins be
          · simp (maxDischargeDepth := 6) only [e0, e2, e3, e12, e13, c1, c2, c3, decide_true, decide_false, Try.results18, ruW, putL, Nat.reduceLeDiff, xF, ruU, entryE, Nat.reduceLT, Nat.reduceAdd, Nat.reduceMul, Nat.reduceEqDiff]
            rw [if_pos (.inr (.inr trivial))]
            exact ⟨by trivial, x, Step.same g mX, rfl⟩
          rw [if_neg (by simp only [c1, c2, c3, or_self, not_false_eq_true])]
          simp (maxDischargeDepth := 6) only [e0, e2, e3, e12, e13, c1, c2, c3, hc, lTc, kX, hbc, decide_true, decide_false, ruW, putL, Nat.reduceLeDiff, xF, ruU, entryE, Nat.reduceLT, Nat.reduceAdd, Nat.reduceMul, Nat.reduceEqDiff]
          generalize hU : uw X T 3 [.int .i64 (IntKind.i64.wrap (x.last + 1))] = U
          generalize hl' : IntKind.i64.wrap (x.last + 1) = last' at hU
          have mU : Mod [T] X U := hU ▸ Mod.uw (by simp)
          have kU : bk U T = some ⟨69, false, [x.root.val, .int .i64 x.h, .int .i64 x.w, .int .i64 last', .int .i64 x.sel]⟩ := by rw [← hU, bk_uw_eq, kX]; rfl
          have hcU : U.next = c := by rw [← hU, uw_next, hc]
          have hbU : U.base ≤ c := by rw [← hU, uw_base]; exact hbc
          have h2U : bk U (b + 2) = _ := (mU.bk (by omega) (by simp; omega)).trans h2X
          obtain ⟨la', haU, hbU', hlU⟩ : ∃ la', bk U pa = some ⟨ea, oa, la'⟩ ∧ la'[po]? = some (.iface 63 (.pointer (some ⟨nb, 0, none⟩))) ∧ po + 1 ≤ la'.length := by
            by_cases hpT : pa = T
            · subst hpT
              rw [kX] at haX
              cases haX
              have hd : d = [] := by
                by_cases hd : d = []
                · exact hd
                · exact absurd (hca ▸ cell_mem x.root d _ pa 0 hd hsub) g.nT
              subst hd
              have hpo : po = 0 := by rw [← hco]; cases x.root <;> rfl
              subst hpo
              exact ⟨_, kU, hbo, by simp⟩
            · refine ⟨la, (mU.bk (hc ▸ lpc) (by simpa using hpT)).trans haX, hbo, ?_⟩
              rcases Nat.lt_or_ge po la.length with h | h
              · omega
              · rw [List.getElem?_eq_none h] at hbo; cases hbo
          have lnb : nb < c := hc ▸ gX.lts nb (sub_blks x.root d _ hsub nb (by simp [Tr.blks]))
          refine w_drawB [(22, 1), (22, 7), (22, 9), (22, 13), (22, 15), (22, 19), (16, 15), (17, 15), (18, 15), (19, 15), (20, 19), (20, 15)] [] (by kernel_rfl) (by kernel_rfl) rfl fun ops anc hA hG => ?_
          simp only [all2_cons] at hA
          simp (maxDischargeDepth := 6) only [e0, e2, e3, e12, e13, hcU, lTc, l2c, lpc, lnb, h2U, kU, haU, hbU', hlU, hbU, hA, ruD, ruW, putL, Nat.reduceLeDiff, xF, ruU, entryE, Nat.reduceLT, Nat.reduceAdd, Nat.reduceMul, Nat.reduceEqDiff]
          generalize hV : uw U pa po [.iface 81 (.pointer (some ⟨c + 1, 0, none⟩))] = V
          generalize hf' : IntKind.i64.wrap (W - n') = f'
          have hcV : V.next = c := by rw [← hV, uw_next, hcU]
          have mV : Mod [pa] U V := hV ▸ Mod.uw (by simp)
          have hnew : (Tr.split (c + 1) be f' (.leaf nb id) (.leaf (c + 0) last')).val = .iface 81 (.pointer (some ⟨c + 1, 0, none⟩)) := rfl
          generalize hnw : Tr.split (c + 1) be f' (.leaf nb id) (.leaf (c + 0) last') = nw' at hnew
          have hdT : d = [] → pa = T ∧ po = 0 := fun hd => by subst hd; rw [← hca, ← hco]; cases x.root <;> exact ⟨rfl, rfl⟩
          have hdN : d ≠ [] → pa ≠ T := fun hd e => g.nT (e ▸ hca ▸ cell_mem x.root d _ T 0 hd hsub)
          have kV : bk V T = some ⟨69, false, [(setAt x.root d nw').val, .int .i64 x.h, .int .i64 x.w, .int .i64 last', .int .i64 x.sel]⟩ := by
            by_cases hd : d = []
            · obtain ⟨rfl, rfl⟩ := hdT hd
              subst hd
              rw [← hV, bk_uw_eq, kU, show setAt x.root [] nw' = nw' by cases x.root <;> rfl, hnew]
              rfl
            · rw [← hV, bk_uw_ne (Ne.symm (hdN hd)), kU, setAt_val hd]
          have nbm : nb ∈ x.root.blks := sub_blks x.root d _ hsub nb (by simp [Tr.blks])
          have nbp : nb ≠ pa := by
            by_cases hd : d = []
            · obtain ⟨rfl, _⟩ := hdT hd
              exact fun e => g.nT (e ▸ nbm)
            · exact fun e => cell_not x.root d _ T 0 hd hsub g.nd (by rw [hca, ← e]; simp [Tr.blks])
          have gU := gX.wn.2.mod mU gX.lts (fun m hm h => g.nT (by simp only [List.mem_singleton] at h; exact h ▸ hm))
          simp (maxDischargeDepth := 6) only [hcV, lTc, kV, Try.results18, ruW, putL, Nat.reduceLeDiff, xF, ruU, entryE, Nat.reduceLT, Nat.reduceAdd, Nat.reduceMul, Nat.reduceEqDiff]
          refine ⟨by rw [← hl']; rfl, ⟨setAt x.root d nw', x.h, x.w, last', x.sel⟩, ?_, ?_⟩
          · generalize hE : ext V [_, _] = Y
            have mY : Mod [] V Y := hE ▸ Mod.ext ((mV.ok (mU.ok (mX.ok g.ok))))
            have hYn : Y.next = c + 2 := by rw [← hE, ext_next, hcV]; rfl
            have hbl : ∀ m ∈ (setAt x.root d nw').blks, m ∈ x.root.blks ∨ m = c + 1 ∨ m = c := fun m hm => by
              rcases set_blks x.root d m hm with h | h
              · exact .inl h
              · rw [← hnw] at h
                simp only [Tr.blks, List.mem_cons, List.mem_append, List.not_mem_nil, or_false, List.cons_append, List.nil_append] at h
                rcases h with h | h | h
                · exact .inr (.inl h)
                · exact .inl (h ▸ nbm)
                · exact .inr (.inr (by omega))
            have hlc : ∀ m ∈ x.root.blks, m < c := fun m hm => hc ▸ gX.lts m hm
            refine ⟨⟨⟨(mY.bk (hcV ▸ lTc) (by simp)).trans kV, ?_⟩, by omega, ?_, ?_, ?_, mY.ok (mV.ok (mU.ok (mX.ok g.ok))), ?_⟩, ?_, ?_⟩
            · refine setAt_tree (H := U) x.root d _ T 0 hsub g.nd gU ?_ ?_ ?_
              · rw [← hnw]
                refine ⟨?_, ?_, ?_⟩
                · rw [← hE, bk_at hcV (by simp)]; rfl
                · have hl := sub_tree x.root d _ hsub gU
                  simp only [TreeAt] at hl ⊢
                  rw [mY.bk (hcV ▸ lnb) (by simp), mV.bk (hcU ▸ lnb) (by simpa using nbp), hl]
                · simp only [TreeAt]
                  rw [← hE, bk_at hcV (by simp)]; rfl
              · intro m hm _ hne
                rw [hca] at hne
                rw [mY.get m (hcV ▸ hlc m hm) (by simp), mV.get m (hcU ▸ hlc m hm) (by simpa using hne)]
              · intro hd
                rw [hca, hco]
                exact ⟨_, haU, by rw [mY.bk (hcV ▸ lpc) (by simp), ← hV, bk_uw_eq, haU, hnew]; rfl⟩
            · intro m hm
              rcases hbl m hm with h | h | h
              · have := hlc m h; omega
              · omega
              · omega
            · refine set_nodup ?_ x.root d _ hsub g.nd ?_
              · rw [← hnw]
                simp only [Tr.blks, List.nodup_cons, List.mem_cons, List.mem_append, List.not_mem_nil, or_false, List.cons_append, List.nil_append, List.nodup_nil, and_true, not_false_eq_true]
                omega
              · intro m hm hr
                rw [← hnw] at hm
                have := hlc m hr
                simp only [Tr.blks, List.mem_cons, List.mem_append, List.not_mem_nil, or_false, List.cons_append, List.nil_append] at hm ⊢
                omega
            · intro h
              rcases hbl T h with h | h | h
              · exact g.nT h
              · omega
              · omega
            · have := set_size (n := nw') x.root d
              rw [← hnw] at this
              simp only [Tr.size] at this
              rw [← hnw]
              show (setAt x.root d _).size < 10000
              omega
            · refine (((mX.mono (by simp)).trans (mU.mono (by simp))).trans (mV.mono ?_)).trans (mY.mono (by simp))
              intro m hm
              simp only [List.mem_singleton] at hm
              subst hm
              by_cases hd : d = []
              · rw [(hdT hd).1]; simp
              · rw [← hca]; exact List.mem_cons_of_mem _ (cell_mem x.root d _ T 0 hd hsub)
            · intro m hm
              rcases hbl m hm with h | h | h
              · exact .inl h
              · exact .inr (by omega)
              · exact .inr (by omega)
          · simp only [Wn.abs, abs_set]
            rw [← hnw, ← hl', ← hf']
            rfl

end Go.Proofs.Ytiedpcmdimgboaa

/- What Delete comes to. -/
namespace Go.Proofs.Ytiedpcmdimgboaa
open Go.Ax
set_option linter.unusedSimpArgs false
set_option maxRecDepth 10000

theorem way_last {d : List Bool} (h : d ≠ []) : ∃ e l, d = e ++ [l] ∧ d.dropLast = e ∧ d.getLast? = some l := by
  refine ⟨d.dropLast, d.getLast h, (List.dropLast_concat_getLast h).symm, rfl, List.getLast?_eq_some_getLast h⟩

theorem above {t : Tr} {e : List Bool} {l : Bool} {s : Tr} (h : subAt t (e ++ [l]) = some s) : ∃ b be f a c, subAt t e = some (.split b be f a c) ∧ s = if l then c else a := by
  rw [subAt_append] at h
  cases ht : subAt t e with
  | none => rw [ht] at h; cases h
  | some u =>
    rw [ht] at h
    simp only [Option.bind_some] at h
    cases u with
    | leaf b i => rw [subAt_leaf] at h; cases h
    | split b be f a c =>
      refine ⟨b, be, f, a, c, rfl, ?_⟩
      cases l with
      | false =>
        have : s = a := by cases a <;> (simp only [subAt, Option.some.injEq] at h; exact h.symm)
        simpa using this
      | true =>
        have : s = c := by cases c <;> (simp only [subAt, Option.some.injEq] at h; exact h.symm)
        simpa using this

theorem cellAt_snoc : ∀ (t : Tr) (e : List Bool) (l : Bool) (b : Nat) (be : Bool) (f : Int) (a c : Tr) (x o : Nat), subAt t e = some (.split b be f a c) → cellAt x o t (e ++ [l]) = (b, if l then 3 else 2)
  | t, [], l, b, be, f, a, c, x, o, h => by
    have : t = .split b be f a c := by cases t <;> (simp only [subAt, Option.some.injEq] at h; exact h)
    subst this
    cases l
    · cases a <;> rfl
    · cases c <;> rfl
  | .split b' be' f' l' r', false :: e, l, b, be, f, a, c, x, o, h => cellAt_snoc l' e l b be f a c b' 2 h
  | .split b' be' f' l' r', true :: e, l, b, be, f, a, c, x, o, h => cellAt_snoc r' e l b be f a c b' 3 h
  | .leaf _ _, _ :: _, _, _, _, _, _, _, _, _, h => by rw [subAt_leaf] at h; cases h

theorem Tr.resize_first (be : Bool) : ∀ (t : Tr) (old now : Int), (t.resize be old now).first = t.first
  | .leaf _ _, _, _ => rfl
  | .split b bb f l r, old, now => by
    unfold Tr.resize
    split <;> simp only [Tr.first, Tr.resize_first be l]

theorem set_size_le {n : Tr} : ∀ (t : Tr) (d : List Bool) (s : Tr), subAt t d = some s → n.size ≤ s.size → (setAt t d n).size ≤ t.size
  | t, [], s, h, hn => by
    have : t = s := by cases t <;> (simp only [subAt, Option.some.injEq] at h; exact h)
    subst this
    cases t <;> exact hn
  | .split b be f l r, false :: d, s, h, hn => by
    have := set_size_le l d s h hn
    simp only [setAt, Tr.size]; omega
  | .split b be f l r, true :: d, s, h, hn => by
    have := set_size_le r d s h hn
    simp only [setAt, Tr.size]; omega
  | .leaf _ _, _ :: _, _, h, _ => by rw [subAt_leaf] at h; cases h

theorem Step.put {H Z : AHeap} {T : Nat} {x : Wn} {e : List Bool} {s n : Tr} (g : Good H T x) (hs : subAt x.root e = some s) (m : Mod s.blks H Z) (tn : TreeAt Z n) (hb : ∀ k ∈ n.blks, k ∈ s.blks) (hn : n.blks.Nodup) (hz : n.size ≤ s.size) :
    Step H T x (uw Z (cellAt T 0 x.root e).1 (cellAt T 0 x.root e).2 [n.val]) { x with root := setAt x.root e n } := by
  have hsb := sub_blks x.root e s hs
  have hcell := cell_holds x.root e s T 0 hs g.wn.2 ⟨_, g.wn.1, rfl⟩
  have hT0 : e = [] → cellAt T 0 x.root e = (T, 0) := fun h => by subst h; cases x.root <;> rfl
  have hns : (cellAt T 0 x.root e).1 ∉ s.blks := by
    by_cases h : e = []
    · rw [hT0 h]; exact fun h => g.nT (hsb _ h)
    · exact cell_not x.root e s T 0 h hs g.nd
  have hlt : (cellAt T 0 x.root e).1 < H.next := by
    by_cases h : e = []
    · rw [hT0 h]; exact g.lt
    · exact g.lts _ (cell_mem x.root e s T 0 h hs)
  have hmem : (cellAt T 0 x.root e).1 ∈ T :: x.root.blks := by
    by_cases h : e = []
    · rw [hT0 h]; simp
    · exact List.mem_cons_of_mem _ (cell_mem x.root e s T 0 h hs)
  have hne : e ≠ [] → (cellAt T 0 x.root e).1 ≠ T := fun h he => g.nT (he ▸ cell_mem x.root e s T 0 h hs)
  generalize hca : (cellAt T 0 x.root e).1 = pa at *
  generalize hco : (cellAt T 0 x.root e).2 = po at *
  have mV : Mod [pa] Z (uw Z pa po [n.val]) := Mod.uw (by simp)
  have hbl : ∀ k ∈ (setAt x.root e n).blks, k ∈ x.root.blks := fun k hk => by
    rcases set_blks x.root e k hk with h | h
    · exact h
    · exact hsb k (hb k h)
  have hTs : T ∉ s.blks := fun h => g.nT (hsb T h)
  have m' : Mod (T :: x.root.blks) H Z := m.mono fun k hk => List.mem_cons_of_mem _ (hsb k hk)
  have mHV := m'.trans (mV.mono (W' := T :: x.root.blks) (by simpa using hmem))
  refine ⟨⟨⟨?_, ?_⟩, mHV.lt g.lt, fun k hk => mHV.lt (g.lts k (hbl k hk)), set_nodup hn x.root e s hs g.nd (fun k hk _ => hb k hk), fun h => g.nT (hbl T h), mHV.ok g.ok, Nat.lt_of_le_of_lt (set_size_le x.root e s hs hz) g.sz⟩, mHV, fun k hk => .inl (hbl k hk)⟩
  · have hkZ : bk Z T = bk H T := m.bk g.lt hTs
    by_cases h : e = []
    · have := hT0 h
      subst h
      rw [this] at hca hco
      simp only at hca hco
      subst hca hco
      rw [bk_uw_eq, hkZ, g.wn.1]
      show _ = some (Bl.mk 69 false (Wn.cells { x with root := setAt x.root [] n }))
      rw [show setAt x.root [] n = n by cases x.root <;> rfl]
      rfl
    · rw [bk_uw_ne (Ne.symm (hne h)), hkZ, g.wn.1]
      show _ = some (Bl.mk 69 false (Wn.cells { x with root := setAt x.root e n }))
      simp only [Wn.cells, setAt_val h]
  · refine setAt_tree (H := H) x.root e s T 0 hs g.nd g.wn.2 ?_ ?_ ?_
    · refine tn.of fun k hk => uw_get ?_
      intro h
      exact hns (h ▸ hb k hk)
    · intro k hk hks hkc
      rw [hca] at hkc
      rw [uw_get hkc, m.get k (g.lts k hk) hks]
    · intro _
      rw [hca, hco]
      obtain ⟨ba, h1, _⟩ := hcell
      exact ⟨ba, h1, by rw [bk_uw_eq, m.bk hlt hns, h1]; rfl⟩

theorem Step.sel {H V : AHeap} {T : Nat} {x y : Wn} (a : Step H T x V y) (i : Int) : Step H T x (uw V T 4 [.int .i64 i]) { y with sel := i } := by
  have m : Mod [T] V (uw V T 4 [.int .i64 i]) := Mod.uw (by simp)
  have hg := a.good
  refine ⟨⟨⟨?_, hg.wn.2.mod m hg.lts (fun k hk h => hg.nT (by simpa using (by simpa using h : k = T) ▸ hk))⟩, m.lt hg.lt, fun k hk => m.lt (hg.lts k hk), hg.nd, hg.nT, m.ok hg.ok, hg.sz⟩, a.mod.trans (m.mono (by simp)), a.new⟩
  rw [bk_uw_eq, hg.wn.1]
  rfl

theorem tr_cells (t : Tr) : t.val.cells.toList = [t.val] := by cases t <;> simp only [Tr.val, cells_iface]

theorem delete_d (T : Nat) (x : Wn) (id : Int) (H : AHeap) (g : Good H T x) : Does 20 [.int .i64 id] H T x (.int .i64 (x.abs.delete id).1) (x.abs.delete id).2 := by
  obtain ⟨b, hb⟩ : ∃ b, H.next = b := ⟨_, rfl⟩
  have h1 := g.wn.1
  simp only [Wn.cells] at h1
  have hT : T < b := hb ▸ g.lt
  have hbase : H.base ≤ b := hb ▸ g.ok
  have hsz := g.sz
  unfold Does
  cases hf : x.abs.root.find id with
  | none =>
    have hp := path_nil (T := T) hf
    rw [show x.abs.delete id = (8, x.abs) by simp only [Ast.delete, hf]]
    refine callE_fn mixed Try.func20 rfl Try.ntmps20 (Nat.le_of_ble_eq_true rfl) ?_
    simp (maxDischargeDepth := 6) only [ruW, putL, Nat.reduceLeDiff, xF, ruU, entryE, Nat.reduceLT, Nat.reduceAdd, Nat.reduceMul, Nat.reduceEqDiff]
    refine (find_c T x id (ext H []) g.wn g.sz).to ?_
    simp only [hp, pathV, pathM, if_true]
    simp (maxDischargeDepth := 6) only [hb, hT, h1, Int.reduceEq, ne_eq, not_true_eq_false, not_false_eq_true, decide_false, decide_true, Try.results20, ruW, putL, Nat.reduceLeDiff, xF, ruU, entryE, Nat.reduceLT, Nat.reduceAdd, Nat.reduceMul, Nat.reduceEqDiff]
    exact ⟨by trivial, x, Step.same g Mod.refl, rfl⟩
  | some d =>
    have hps := path_some (T := T) hf
    have hp : x.path T id ≠ [] := by rw [hps]; exact places_ne _ _ _ _ _
    have hfa := hf
    replace hf : findD id x.root = some d := (abs_find id x.root).trans hf
    obtain ⟨nb, hsub⟩ := findD_sub id x.root d hf
    have hlen : (x.path T id).length = d.length + 1 := by rw [hps]; exact places_length x.root d T 0 x.frame (by rw [hsub]; simp)
    by_cases hd : d = []
    · subst hd
      rw [show x.abs.delete id = (9, x.abs) by simp only [Ast.delete, hfa, if_true]]
      have hl1 : ((x.path T id).length : Int) = 1 := by rw [hlen]; rfl
      refine callE_fn mixed Try.func20 rfl Try.ntmps20 (Nat.le_of_ble_eq_true rfl) ?_
      simp (maxDischargeDepth := 6) only [ruW, putL, Nat.reduceLeDiff, xF, ruU, entryE, Nat.reduceLT, Nat.reduceAdd, Nat.reduceMul, Nat.reduceEqDiff]
      refine (find_c T x id (ext H []) g.wn g.sz).to ?_
      simp only [hp, pathV, pathM, if_false]
      simp (maxDischargeDepth := 6) only [hb, hT, h1, hl1, Int.reduceEq, ne_eq, not_true_eq_false, not_false_eq_true, decide_false, decide_true, Try.results20, ruW, putL, Nat.reduceLeDiff, xF, ruU, entryE, Nat.reduceLT, Nat.reduceAdd, Nat.reduceMul, Nat.reduceEqDiff]
      exact ⟨by trivial, x, Step.same g (Mod.ext g.ok), rfl⟩
    · obtain ⟨e, lr, rfl, he, hlast⟩ := way_last hd
      obtain ⟨sn, be, f, a, c, hsube, _⟩ := above hsub
      have hsA : x.abs.root.sub e = some (.split be f a.abs c.abs) := by
        rw [show x.abs.root = x.root.abs from rfl, ← abs_sub, hsube]; rfl
      rw [show x.abs.delete id = (0, { x.abs with root := x.abs.root.set e (((Ast.otherA (!lr) be f a.abs c.abs (x.abs.root.rectAt x.abs.frame e)).1).resize be ((Ast.otherA (!lr) be f a.abs c.abs (x.abs.root.rectAt x.abs.frame e)).2.size be) ((x.abs.root.rectAt x.abs.frame e).size be)), sel := if x.abs.sel = id then (Ast.otherA (!lr) be f a.abs c.abs (x.abs.root.rectAt x.abs.frame e)).1.first else x.abs.sel }) by
        simp only [Ast.delete, hfa, if_neg hd, he, hlast, hsA]
        cases lr <;> rfl]
      rw [List.length_append, List.length_singleton] at hlen
      have hpl := pathT_len x.root T 0 x.frame id
      have hpl' : (x.path T id).length ≤ x.root.size + 1 := hpl
      have hl1 : ¬ ((x.path T id).length : Int) = 1 := by rw [hlen]; omega
      have hg1 := places_get x.root e [lr] T 0 x.frame (by rw [hsub]; simp)
      have hg2 := places_get x.root (e ++ [lr]) [] T 0 x.frame (by rw [List.append_nil, hsub]; simp)
      rw [List.append_nil, cellAt_snoc x.root e lr sn be f a c T 0 hsube] at hg2
      rw [← hps] at hg1 hg2
      rw [List.length_append, List.length_singleton] at hg2
      generalize hca : (cellAt T 0 x.root e).1 = pa at hg1
      generalize hco : (cellAt T 0 x.root e).2 = po at hg1
      generalize hrc : rectAt x.root x.frame e = rc at hg1
      simp only at hg2
      have hw1 : IntKind.i64.wrap (((x.path T id).length : Int) - 2) = (e.length : Int) := by
        have := wrap_sm (n := ((x.path T id).length : Int) - 2) (by omega) (by omega)
        rw [show IntKind.i64.wrap (((x.path T id).length : Int) - 2) = ((x.path T id).length : Int) - 2 from this, hlen]
        omega
      have hw2 : IntKind.i64.wrap (((x.path T id).length : Int) - 1) = ((e.length + 1 : Nat) : Int) := by
        have := wrap_sm (n := ((x.path T id).length : Int) - 1) (by omega) (by omega)
        rw [show IntKind.i64.wrap (((x.path T id).length : Int) - 1) = ((x.path T id).length : Int) - 1 from this, hlen]
        omega
      have hia1 := fun s => pls_ia (len := (x.path T id).length) (cap := (x.path T id).length) (n := b + 0) (s := s) (i := IntKind.i64.wrap (((x.path T id).length : Int) - 2)) (k := e.length) hw1 (by omega)
      have hia2 := fun s => pls_ia (len := (x.path T id).length) (cap := (x.path T id).length) (n := b + 0) (s := s) (i := IntKind.i64.wrap (((x.path T id).length : Int) - 1)) (k := e.length + 1) hw2 (by omega)
      have hld1 := fun o => pls_load (o := o) hg1
      have hld2 := fun o => pls_load (o := o) hg2
      simp only [Pl.cells, Rc.cells] at hld1 hld2
      obtain ⟨ba, hba, hbo⟩ := cell_holds x.root e _ T 0 hsube g.wn.2 ⟨_, g.wn.1, rfl⟩
      rw [hca] at hba
      rw [hco] at hbo
      obtain ⟨ea, oa, la⟩ := ba
      simp only [Tr.val] at hbo
      have htS := sub_tree x.root e _ hsube g.wn.2
      obtain ⟨hsnb, hta, htc⟩ := htS
      have hSbl := sub_blks x.root e _ hsube
      have hSnd := sub_nodup x.root e _ hsube g.nd
      have lra : a.root < b := hb ▸ g.lts _ (hSbl _ (by simp [Tr.blks, a.root_mem]))
      have lrc : c.root < b := hb ▸ g.lts _ (hSbl _ (by simp [Tr.blks, c.root_mem]))
      have ia : idsV a.val = [a.root] := by cases a <;> simp [Tr.val, idsV, Tr.root]
      have ic : idsV c.val = [c.root] := by cases c <;> simp [Tr.val, idsV, Tr.root]
      have hsn : sn ∈ x.root.blks := sub_blks x.root e _ hsube sn (by simp [Tr.blks])
      have lsn : sn < b := hb ▸ g.lts sn hsn
      have hpa : pa < b := by
        rw [← hb, ← hca]
        by_cases hd : e = []
        · subst hd
          have : (cellAt T 0 x.root []).1 = T := by cases x.root <;> rfl
          rw [this]; exact g.lt
        · exact g.lts _ (cell_mem x.root e _ T 0 hd hsube)
      refine callE_fn mixed Try.func20 rfl Try.ntmps20 (Nat.le_of_ble_eq_true rfl) ?_
      simp (maxDischargeDepth := 6) only [ruW, putL, Nat.reduceLeDiff, xF, ruU, entryE, Nat.reduceLT, Nat.reduceAdd, Nat.reduceMul, Nat.reduceEqDiff]
      refine (find_c T x id (ext H []) g.wn g.sz).to ?_
      simp only [hp, pathV, pathM, if_false]
      simp (maxDischargeDepth := 6) only [hb, hT, h1, hl1, Int.reduceEq, ne_eq, not_true_eq_false, not_false_eq_true, decide_false, decide_true, ruW, putL, Nat.reduceLeDiff, xF, ruU, entryE, Nat.reduceLT, Nat.reduceAdd, Nat.reduceMul, Nat.reduceEqDiff]
      refine w_drawB [(14, 12), (14, 5), (15, 13), (15, 11), (15, 14)] [] (by kernel_rfl) (by kernel_rfl) rfl fun ops anc hA hG => ?_
      simp only [all2_cons] at hA
      simp (maxDischargeDepth := 6) only [hb, hT, h1, hia1, hia2, hld1, hld2, hbase, lsn, hpa, hba, hbo, hA, ruD, ruW, putL, Nat.reduceLeDiff, xF, ruU, entryE, Nat.reduceLT, Nat.reduceAdd, Nat.reduceMul, Nat.reduceEqDiff]
      refine (parts_c sn be f a.val c.val rc (ext H (_ :: _)) ((bk_old (hb.symm ▸ lsn)).trans hsnb)).to ?_
      simp (maxDischargeDepth := 6) only [Rc.val, hb, hbase, lsn, hsnb, ruW, putL, Nat.reduceLeDiff, xF, ruU, entryE, Nat.reduceLT, Nat.reduceAdd, Nat.reduceMul, Nat.reduceEqDiff]
      refine w_drawB [(8, 6), (8, 5)] [] (by kernel_rfl) (by kernel_rfl) rfl fun ops anc hA hG => ?_
      simp only [all2_cons] at hA
      simp (maxDischargeDepth := 6) only [hb, hbase, lsn, hsnb, ia, lra, hA, ruD, ruW, putL, Nat.reduceLeDiff, xF, ruU, entryE, Nat.reduceLT, Nat.reduceAdd, Nat.reduceMul, Nat.reduceEqDiff]
      generalize hX : ext H (_ :: _) = X
      have mX : Mod [] H X := hX ▸ Mod.ext g.ok
      have hX6 : X.next = b + 6 := by rw [← hX, ext_next, hb]; rfl
      have h1X : bk X (b + 1) = some ⟨85, false, (Pl.mk pa po rc).cells⟩ := by rw [← hX, bk_at hb (by simp)]; rfl
      have h2X : bk X (b + 2) = some ⟨85, false, (Pl.mk sn (if lr then 3 else 2) (rectAt x.root x.frame (e ++ [lr]))).cells⟩ := by rw [← hX, bk_at hb (by simp)]; rfl
      have h4X : bk X (b + 4) = some ⟨83, false, (partB be f rc).cells⟩ := by rw [← hX, bk_at hb (by simp)]; rfl
      have h5X : bk X (b + 5) = some ⟨83, false, (partA be f rc).cells⟩ := by rw [← hX, bk_at hb (by simp)]; rfl
      simp only [Pl.cells, Rc.cells] at h1X h2X h4X h5X
      obtain ⟨k, hk⟩ : ∃ k, X.next = k := ⟨_, rfl⟩
      have hkb : k = b + 6 := hk.symm.trans hX6
      have hbk : X.base ≤ k := by rw [mX.base]; omega
      have hsX := (mX.bk (hb ▸ lsn) (by simp)).trans hsnb
      refine w_env fun E hE => ?_
      have e0 : E 0 = .pointer (some ⟨T, 0, none⟩) := by rw [hE]; simp only [ruU, entryE, Nat.reduceLT, Nat.reduceAdd, Nat.reduceMul, Nat.reduceEqDiff]
      have e1 : E 1 = .int .i64 id := by rw [hE]; simp only [ruU, entryE, Nat.reduceLT, Nat.reduceAdd, Nat.reduceMul, Nat.reduceEqDiff]
      have e7 : E 7 = .pointer (some ⟨b + 1, 0, none⟩) := by rw [hE]; simp only [ruU, entryE, Nat.reduceLT, Nat.reduceAdd, Nat.reduceMul, Nat.reduceEqDiff]
      have e8 : E 8 = .pointer (some ⟨b + 2, 0, none⟩) := by rw [hE]; simp only [ruU, entryE, Nat.reduceLT, Nat.reduceAdd, Nat.reduceMul, Nat.reduceEqDiff]
      have e9 : E 9 = .pointer (some ⟨sn, 0, none⟩) := by rw [hE]; simp only [ruU, entryE, Nat.reduceLT, Nat.reduceAdd, Nat.reduceMul, Nat.reduceEqDiff]
      have e11 : E 11 = .pointer (some ⟨b + 4, 0, none⟩) := by rw [hE]; simp only [ruU, entryE, Nat.reduceLT, Nat.reduceAdd, Nat.reduceMul, Nat.reduceEqDiff]
      have e12 : E 12 = a.val := by rw [hE]; simp only [ruU, entryE, Nat.reduceLT, Nat.reduceAdd, Nat.reduceMul, Nat.reduceEqDiff]
      have e13 : E 13 = .pointer (some ⟨b + 5, 0, none⟩) := by rw [hE]; simp only [ruU, entryE, Nat.reduceLT, Nat.reduceAdd, Nat.reduceMul, Nat.reduceEqDiff]
      clear hE
      have l1 : b + 1 < k := by omega
      have l2 : b + 2 < k := by omega
      have l4 : b + 4 < k := by omega
      have l5 : b + 5 < k := by omega
      have ls : sn < k := by omega
      rw [show X = ext X [] from rfl]
      refine w_drawB [] [] (by kernel_rfl) rfl rfl fun ops anc hA hG => ?_
      simp (maxDischargeDepth := 6) only [e8, e9, hk, h2X, l2, ruD, ruW, putL, Nat.reduceLeDiff, xF, ruU, entryE, Nat.reduceLT, Nat.reduceAdd, Nat.reduceMul, Nat.reduceEqDiff]
      refine wd_ptr (H := ext X []) (a := ⟨sn, if lr then 3 else 2, none⟩) (b := ⟨sn, 2, none⟩) (r := !lr) (by cases lr <;> simp [eqOp, addr_beq]) (by simp (maxDischargeDepth := 6) only [ruU, entryE, Nat.reduceLT, Nat.reduceAdd, Nat.reduceMul, Nat.reduceEqDiff]) (by simp (maxDischargeDepth := 6) only [ruU, entryE, Nat.reduceLT, Nat.reduceAdd, Nat.reduceMul, Nat.reduceEqDiff]) (by decide) (by kernel_rfl) (by simp (maxDischargeDepth := 6) only [ruU, entryE, Nat.reduceLT, Nat.reduceAdd, Nat.reduceMul, Nat.reduceEqDiff]) (by simp (maxDischargeDepth := 6) only [ruU, entryE, Nat.reduceLT, Nat.reduceAdd, Nat.reduceMul, Nat.reduceEqDiff]) hsX hsX rfl rfl (by simp (maxDischargeDepth := 6) only [ruD, ruW, putL, Nat.reduceLeDiff, xF, ruU, entryE, Nat.reduceLT, Nat.reduceAdd, Nat.reduceMul, Nat.reduceEqDiff]) ?_
      simp (maxDischargeDepth := 6) only [ruD, ruW, putL, Nat.reduceLeDiff, xF, ruU, entryE, Nat.reduceLT, Nat.reduceAdd, Nat.reduceMul, Nat.reduceEqDiff]
      refine condC_join (fun E' H' => ∃ Y, H' = ext Y [] ∧ Mod [b + 5] X Y ∧ Y.next = k ∧ bk Y (b + 5) = some ⟨83, false, (if lr then partA be f rc else partB be f rc).cells⟩ ∧ E' 0 = .pointer (some ⟨T, 0, none⟩) ∧ E' 1 = .int .i64 id ∧ E' 7 = .pointer (some ⟨b + 1, 0, none⟩) ∧ E' 9 = .pointer (some ⟨sn, 0, none⟩) ∧ E' 12 = (if lr then a else c).val ∧ E' 13 = .pointer (some ⟨b + 5, 0, none⟩)) (fun h0 => ?_) (fun h0 => ?_) ?_
      · have hlr : lr = false := by simpa using h0
        subst hlr
        refine w_drawB [(7, 5)] [] (by kernel_rfl) (by kernel_rfl) rfl fun ops anc hA hG => ?_
        simp only [all2_cons] at hA
        simp (maxDischargeDepth := 6) only [e0, e1, e7, e8, e9, e11, e12, e13, hk, hsX, ls, lsn, h4X, l4, h5X, l5, hbk, ic, hA, ruD, ruW, putL, Nat.reduceLeDiff, xF, ruU, entryE, Nat.reduceLT, Nat.reduceAdd, Nat.reduceMul, Nat.reduceEqDiff]
        rw [joinC_normal]
        refine ⟨_, rfl, uw X (b + 5) 0 (partB be f rc).cells, rfl, Mod.uw (by simp), by rw [uw_next, hk], ?_, ?_⟩
        · rw [bk_uw_eq, h5X]; rfl
        · simp only [e0, e1, e7, e8, e9, e11, e12, e13, ruU, entryE, Nat.reduceLT, Nat.reduceAdd, Nat.reduceMul, Nat.reduceEqDiff, Bool.false_eq_true, if_false, and_self]
      · have hlr : lr = true := by simpa using h0
        subst hlr
        simp (maxDischargeDepth := 6) only [ruW, putL, Nat.reduceLeDiff, xF, ruU, entryE, Nat.reduceLT, Nat.reduceAdd, Nat.reduceMul, Nat.reduceEqDiff]
        rw [joinC_normal]
        refine ⟨_, rfl, X, rfl, Mod.refl, hk, ?_, ?_⟩
        · rw [h5X]; rfl
        · simp only [e0, e1, e7, e8, e9, e11, e12, e13, ruU, entryE, Nat.reduceLT, Nat.reduceAdd, Nat.reduceMul, Nat.reduceEqDiff, if_true, and_self]
      clear e0 e1 e7 e8 e9 e11 e12 e13
      rintro E _ ⟨Y, hY, mY, hYk, h5Y, e0, e1, e7, e9, e12, e13⟩
      rw [hY]
      have eo : (if lr then a else c).abs = (Ast.otherA (!lr) be f a.abs c.abs (x.abs.root.rectAt x.abs.frame e)).1 := by cases lr <;> rfl
      have ew : (if lr then partA be f rc else partB be f rc) = (Ast.otherA (!lr) be f a.abs c.abs (x.abs.root.rectAt x.abs.frame e)).2 := by
        rw [show x.abs.root.rectAt x.abs.frame e = rc by rw [← hrc, abs_rectAt]; rfl]
        cases lr <;> rfl
      have er : x.abs.root.rectAt x.abs.frame e = rc := by rw [← hrc, abs_rectAt]; rfl
      rw [← eo, ← ew, er]
      have hoH : TreeAt H (if lr then a else c) := by cases lr; exact htc; exact hta
      have hob : ∀ m ∈ (if lr then a else c).blks, m ∈ (Tr.split sn be f a c).blks := by cases lr <;> (intro m hm; simp at hm; simp [Tr.blks, hm])
      have hon : (if lr then a else c).blks.Nodup := by
        simp only [Tr.blks, List.nodup_cons, List.nodup_append] at hSnd
        cases lr
        · exact hSnd.2.2.1
        · exact hSnd.2.1
      have hos : sn ∉ (if lr then a else c).blks := by
        simp only [Tr.blks, List.nodup_cons, List.mem_append, not_or] at hSnd
        cases lr
        · exact hSnd.1.2
        · exact hSnd.1.1
      have hoz : (if lr then a else c).size ≤ (Tr.split sn be f a c).size := by cases lr <;> simp [Tr.size] <;> omega
      generalize (if lr then a else c) = o at hoH hob hon hos hoz e12 ⊢
      generalize (if lr then partA be f rc else partB be f rc) = was at h5Y ⊢
      have hoR : ∀ m ∈ o.blks, m ∈ x.root.blks := fun m hm => hSbl m (hob m hm)
      have hoT : T ∉ o.blks := fun h => g.nT (hoR T h)
      have hol : ∀ m ∈ o.blks, m < b := fun m hm => hb ▸ g.lts m (hoR m hm)
      have mHY : Mod [b + 5] H Y := (mX.mono (by simp)).trans mY
      have hoY : TreeAt Y o := hoH.mod mHY (fun m hm => g.lts m (hoR m hm)) (fun m hm h => by simp only [List.mem_singleton] at h; have := hol m hm; omega)
      have h1Y : bk Y (b + 1) = _ := (mY.bk (by omega) (by simp)).trans h1X
      have hsY : bk Y sn = _ := (mY.bk (by omega) (by simp; omega)).trans hsX
      simp only [Rc.cells] at h5Y
      have okY : Y.base ≤ Y.next := mHY.ok g.ok
      simp (maxDischargeDepth := 6) only [ruW, putL, Nat.reduceLeDiff, xF, ruU, entryE, Nat.reduceLT, Nat.reduceAdd, Nat.reduceMul, Nat.reduceEqDiff]
      refine w_drawB [(18, 4), (18, 5), (18, 9), (18, 10), (18, 12), (18, 16), (18, 17)] [] (by kernel_rfl) (by kernel_rfl) rfl fun ops anc hA hG => ?_
      simp only [all2_cons] at hA
      simp (maxDischargeDepth := 6) only [e0, e1, e7, e9, e12, e13, hYk, hsY, ls, h1Y, l1, h5Y, l5, hA, ruD, ruW, putL, Nat.reduceLeDiff, xF, ruU, entryE, Nat.reduceLT, Nat.reduceAdd, Nat.reduceMul, Nat.reduceEqDiff]
      refine genV_quiet (v := .int .i64 (was.size be)) [] (by simp (maxDischargeDepth := 6) only [ruU, entryE, Nat.reduceLT, Nat.reduceAdd, Nat.reduceMul, Nat.reduceEqDiff]) (by kernel_rfl) (by decide) (by simp) (fun G _ hg => ?_) (by simp (maxDischargeDepth := 6) only [ruD, ruW, putL, Nat.reduceLeDiff, xF, ruU, entryE, Nat.reduceLT, Nat.reduceAdd, Nat.reduceMul, Nat.reduceEqDiff]) ?_
      · simp only [e9, ruU, entryE, Nat.reduceLT, Nat.reduceAdd, Nat.reduceMul, Nat.reduceEqDiff]
        exact size_c was be G
      simp (maxDischargeDepth := 6) only [e0, e1, e7, e9, e12, e13, hYk, hsY, ls, h1Y, l1, h5Y, l5, hA, ruD, ruW, putL, Nat.reduceLeDiff, xF, ruU, entryE, Nat.reduceLT, Nat.reduceAdd, Nat.reduceMul, Nat.reduceEqDiff]
      refine genV_quiet (v := .int .i64 (rc.size be)) [] (by simp (maxDischargeDepth := 6) only [ruU, entryE, Nat.reduceLT, Nat.reduceAdd, Nat.reduceMul, Nat.reduceEqDiff]) (by kernel_rfl) (by decide) (by simp) (fun G _ hg => ?_) (by simp (maxDischargeDepth := 6) only [ruD, ruW, putL, Nat.reduceLeDiff, xF, ruU, entryE, Nat.reduceLT, Nat.reduceAdd, Nat.reduceMul, Nat.reduceEqDiff]) ?_
      · simp only [e7, ruU, entryE, Nat.reduceLT, Nat.reduceAdd, Nat.reduceMul, Nat.reduceEqDiff]
        exact size_c rc be G
      simp (maxDischargeDepth := 6) only [e0, e1, e7, e9, e12, e13, hYk, hsY, ls, h1Y, l1, h5Y, l5, hA, ruD, ruW, putL, Nat.reduceLeDiff, xF, ruU, entryE, Nat.reduceLT, Nat.reduceAdd, Nat.reduceMul, Nat.reduceEqDiff]
      have hrn := restrict_next Y o.blks
      obtain ⟨_, gg, hcg, rfl, m1, t1⟩ := resize_c be o (was.size be) (rc.size be) (Y.restrict o.blks) (by rw [hrn.1, hrn.2.1]; exact Nat.le_refl _) (hoY.of fun m hm => by rw [restrict_get, if_pos hm]) (fun m hm => by rw [hrn.1, hYk]; have := hol m hm; omega) hon
      refine genV_mod (H := ext Y []) (W := o.blks) o.blks okY (by simp only [ruU, entryE, Nat.reduceLT, Nat.reduceAdd, Nat.reduceMul, Nat.reduceEqDiff]) (by kernel_rfl) hoY.ne (fun m hm => by have := hol m hm; show m < Y.next; omega) (fun _ h => h) (v := .tuple #[]) (g := gg) (by simp only [e12, ruU, entryE, Nat.reduceLT, Nat.reduceAdd, Nat.reduceMul, Nat.reduceEqDiff]; exact hcg) m1 (by simp only [all2_cons, hA, true_or, and_true, all2_nil]) ?_
      intro Z D mZ hF _ _ _
      have tZ : TreeAt Z (o.resize be (was.size be) (rc.size be)) := t1.of fun m hm => hF m (by rw [Tr.resize_blks] at hm; exact hm)
      have mZ' : Mod o.blks Y Z := mZ
      have mHY0 : Mod [] H Y := mX.step mY g.ok (by intro n hn; simp only [List.mem_singleton] at hn; right; omega)
      have hop : pa ∉ o.blks := by
        intro h
        rw [← hca] at h
        by_cases he : e = []
        · subst he
          rw [show cellAt T 0 x.root [] = (T, 0) by cases x.root <;> rfl] at h
          exact hoT h
        · exact cell_not x.root e _ T 0 he hsube g.nd (hob _ h)
      have h1Z : bk Z (b + 1) = _ := (mZ'.bk (by omega) (fun h => by have := hol _ h; omega)).trans h1Y
      have hsZ : bk Z sn = _ := (mZ'.bk (by omega) hos).trans hsY
      have haZ : bk Z pa = some ⟨ea, oa, la⟩ := (mZ'.bk (by omega) hop).trans ((mHY0.bk (hb ▸ hpa) (by simp)).trans hba)
      have hZ : Y.next ≤ Z.next := mZ'.next
      have hpl : po + 1 ≤ la.length := by
        rcases Nat.lt_or_ge po la.length with h | h
        · omega
        · rw [List.getElem?_eq_none h] at hbo; cases hbo
      have st := Step.put (n := o.resize be (was.size be) (rc.size be)) g hsube ((mHY0.mono (by simp)).trans (mZ'.mono (fun m hm => hob m hm))) tZ (fun m hm => hob m (by rwa [Tr.resize_blks] at hm)) (by rw [Tr.resize_blks]; exact hon) (by rw [Tr.resize_size]; exact hoz)
      rw [hca, hco, Tr.resize_val] at st
      obtain ⟨z, hz⟩ : ∃ z, Z.next = z := ⟨_, rfl⟩
      have lz1 : b + 1 < z := by omega
      have lzp : pa < z := by omega
      have lzT : T < z := by omega
      have oor := o.one
      have osc : scb z o.val = true := by
        have : o.root < z := by have := hol _ o.root_mem; omega
        cases o <;> exact blt_of this
      have okZ := st.good.ok
      have okZ' : Z.base ≤ Z.next := mZ'.ok okY
      have hbz : Z.base ≤ z := hz ▸ okZ'
      rw [show Z = ext Z [] from rfl]
      simp only [wd_nil]
      simp (maxDischargeDepth := 6) only [e0, e1, e7, e9, e12, e13, hz, h1Z, lz1, lzp, haZ, hpl, oor, osc, hbz, tr_cells, ruW, putL, Nat.reduceLeDiff, xF, ruU, entryE, Nat.reduceLT, Nat.reduceAdd, Nat.reduceMul, Nat.reduceEqDiff]
      generalize hV : uw Z pa po [o.val] = V at st ⊢
      have hVz : V.next = z := by rw [← hV, uw_next, hz]
      have kV := st.good.wn.1
      simp only [Wn.cells] at kV
      simp (maxDischargeDepth := 6) only [e0, e1, e7, e9, e12, e13, hVz, lzT, kV, ruW, putL, Nat.reduceLeDiff, xF, ruU, entryE, Nat.reduceLT, Nat.reduceAdd, Nat.reduceMul, Nat.reduceEqDiff]
      have hbV := st.good.ok
      have toV : TreeAt V (o.resize be (was.size be) (rc.size be)) := by
        rw [← hV]
        exact tZ.of fun k hk => uw_get (fun h => hop (by rw [Tr.resize_blks] at hk; exact h ▸ hk))
      by_cases hsl : x.sel = id
      · have hsl' : x.abs.sel = id := hsl
        rw [if_pos hsl']
        simp (maxDischargeDepth := 6) only [hsl, decide_true, ruW, putL, Nat.reduceLeDiff, xF, ruU, entryE, Nat.reduceLT, Nat.reduceAdd, Nat.reduceMul, Nat.reduceEqDiff]
        rw [← Tr.resize_val be (was.size be) (rc.size be) o] at e12
        simp (maxDischargeDepth := 6) only [e0, e12, ruW, putL, Nat.reduceLeDiff, xF, ruU, entryE, Nat.reduceLT, Nat.reduceAdd, Nat.reduceMul, Nat.reduceEqDiff]
        refine (first_c (o.resize be (was.size be) (rc.size be)) (ext V []) toV).to ?_
        simp (maxDischargeDepth := 6) only [e0, e1, e7, e9, e13, hVz, lzT, kV, Try.results20, ruW, putL, Nat.reduceLeDiff, xF, ruU, entryE, Nat.reduceLT, Nat.reduceAdd, Nat.reduceMul, Nat.reduceEqDiff]
        refine ⟨by trivial, _, st.sel _, ?_⟩
        have hfi := Tr.resize_first be o (was.size be) (rc.size be)
        rw [abs_first, abs_first, abs_resize] at hfi
        simp only [Wn.abs, abs_set, abs_resize, abs_first, hfi]
      · have hsl' : ¬ x.abs.sel = id := hsl
        rw [if_neg hsl']
        simp (maxDischargeDepth := 6) only [hsl, decide_false, Try.results20, ruW, putL, Nat.reduceLeDiff, xF, ruU, entryE, Nat.reduceLT, Nat.reduceAdd, Nat.reduceMul, Nat.reduceEqDiff]
        refine ⟨by trivial, _, st, ?_⟩
        simp only [Wn.abs, abs_set, abs_resize]

end Go.Proofs.Ytiedpcmdimgboaa

/- What Resize comes to. -/
namespace Go.Proofs.Ytiedpcmdimgboaa
open Go.Ax
set_option linter.unusedSimpArgs false
set_option maxRecDepth 10000

theorem pls_load0 {ps : List Pl} {k : Nat} {p : Pl} {o : Bool} (h : ps[k]? = some p) : ldB Try.prog 82 (0 + k * 6) (some ⟨85, o, plsOf ps⟩) = some (.pointer (some ⟨p.a, p.o, none⟩)) := by
  have h1 : aggT Try.prog 82 = some false := by kernel_rfl
  have := pls_get ps k p h
  have h0 := congrArg (·[0]?) this
  simp only [List.getElem?_take, List.getElem?_drop, Pl.cells, List.getElem?_cons_zero, Nat.lt_irrefl, Nat.reduceLT, if_true, Nat.add_zero] at h0
  simp only [ldB, h1, Nat.zero_add, h0]

theorem pls_load1 {ps : List Pl} {k : Nat} {p : Pl} {o : Bool} (h : ps[k]? = some p) : ldB Try.prog 83 (0 + (k * 6 + 1)) (some ⟨85, o, plsOf ps⟩) = some (.agg p.r.cells.toArray) := by
  have hk : k < ps.length := by
    rcases Nat.lt_or_ge k ps.length with h' | h'
    · exact h'
    · rw [List.getElem?_eq_none h'] at h; cases h
  have h1 : aggT Try.prog 83 = some true := by kernel_rfl
  have h2 : szOf Try.prog 83 = some 5 := by kernel_rfl
  have h0 := congrArg (List.drop 1) (pls_get ps k p h)
  rw [List.drop_take, List.drop_drop] at h0
  simp only [Pl.cells, List.drop_succ_cons, List.drop_zero, Nat.add_one_sub_one] at h0
  simp only [ldB, h1, h2, Option.bind_some, Nat.zero_add]
  rw [if_pos (by rw [plsOf_length]; omega), h0]

theorem take_split {t : Tr} {d : List Bool} {s : Tr} (h : subAt t d = some s) {k : Nat} (hk : k < d.length) : ∃ b be f l r, subAt t (d.take k) = some (.split b be f l r) := by
  have h' := h
  rw [← List.take_append_drop k d, subAt_append] at h'
  cases ht : subAt t (d.take k) with
  | none => rw [ht] at h'; cases h'
  | some u =>
    rw [ht] at h'
    cases u with
    | split b be f l r => exact ⟨b, be, f, l, r, rfl⟩
    | leaf b i =>
      cases hdr : d.drop k with
      | nil => have := congrArg List.length hdr; simp at this; omega
      | cons y ys => rw [hdr, Option.bind_some, subAt_leaf] at h'; cases h'

theorem Step.part {H Z : AHeap} {T : Nat} {x : Wn} {e : List Bool} {s n : Tr} (g : Good H T x) (hs : subAt x.root e = some s) (m : Mod s.blks H Z) (tn : TreeAt Z n) (hv : n.val = s.val) (hb : n.blks = s.blks) (hz : n.size ≤ s.size) :
    Step H T x Z { x with root := setAt x.root e n } := by
  have hsb := sub_blks x.root e s hs
  have hn : n.blks.Nodup := hb ▸ sub_nodup x.root e s hs g.nd
  have hcell := cell_holds x.root e s T 0 hs g.wn.2 ⟨_, g.wn.1, rfl⟩
  have hbl : ∀ k ∈ (setAt x.root e n).blks, k ∈ x.root.blks := fun k hk => by
    rcases set_blks x.root e k hk with h | h
    · exact h
    · exact hsb k (hb ▸ h)
  have hTs : T ∉ s.blks := fun h => g.nT (hsb T h)
  have m' : Mod (T :: x.root.blks) H Z := m.mono fun k hk => List.mem_cons_of_mem _ (hsb k hk)
  refine ⟨⟨⟨?_, ?_⟩, m'.lt g.lt, fun k hk => m'.lt (g.lts k (hbl k hk)), set_nodup hn x.root e s hs g.nd (fun k hk _ => hb ▸ hk), fun h => g.nT (hbl T h), m'.ok g.ok, Nat.lt_of_le_of_lt (set_size_le x.root e s hs hz) g.sz⟩, m', fun k hk => .inl (hbl k hk)⟩
  · rw [m.bk g.lt hTs, g.wn.1]
    show _ = some (Bl.mk 69 false (Wn.cells { x with root := setAt x.root e n }))
    by_cases h : e = []
    · subst h
      have : x.root = s := by cases hr : x.root <;> (rw [hr] at hs; simp only [subAt, Option.some.injEq] at hs; exact hs)
      rw [show setAt x.root [] n = n by cases x.root <;> rfl]
      simp only [Wn.cells, hv, this]
    · simp only [Wn.cells, setAt_val h]
  · refine setAt_tree (H := H) x.root e s T 0 hs g.nd g.wn.2 tn (fun k hk hks _ => m.get k (g.lts k hk) hks) ?_
    intro he
    obtain ⟨ba, h1, h2⟩ := hcell
    refine ⟨ba, h1, ?_⟩
    have hlt := g.lts _ (cell_mem x.root e s T 0 he hs)
    rw [m.bk hlt (cell_not x.root e s T 0 he hs g.nd), h1, hv]
    simp only [putB, putL_same _ _ _ h2]

theorem sub_take {t : Tr} {d : List Bool} {k : Nat} {b : Nat} {be : Bool} {f : Int} {l r : Tr} {h : Bool} (hs : subAt t (d.take k) = some (.split b be f l r)) (hk : d[k]? = some h) (x o : Nat) : cellAt x o t (d.take (k + 1)) = (b, if h then 3 else 2) := by
  rw [List.take_add_one, hk]
  exact cellAt_snoc t (d.take k) h b be f l r x o hs

theorem resize_d (T : Nat) (x : Wn) (id by1 : Int) (be : Bool) (H : AHeap) (g : Good H T x) : Does 14 [.int .i64 id, .int .i64 by1, .bool be] H T x (.int .i64 (x.abs.resize id by1 be).1) (x.abs.resize id by1 be).2 := by
  obtain ⟨b, hb⟩ : ∃ b, H.next = b := ⟨_, rfl⟩
  have h1 := g.wn.1
  simp only [Wn.cells] at h1
  have hT : T < b := hb ▸ g.lt
  have hbase : H.base ≤ b := hb ▸ g.ok
  have hsz := g.sz
  unfold Does
  cases hf : x.abs.root.find id with
  | none =>
    have hp := path_nil (T := T) hf
    rw [show x.abs.resize id by1 be = (8, x.abs) by simp only [Ast.resize, hf]]
    refine callE_fn mixed Try.func14 rfl Try.ntmps14 (Nat.le_of_ble_eq_true rfl) ?_
    simp (maxDischargeDepth := 6) only [ruW, putL, Nat.reduceLeDiff, xF, ruU, entryE, Nat.reduceLT, Nat.reduceAdd, Nat.reduceMul, Nat.reduceEqDiff]
    refine (find_c T x id (ext H []) g.wn g.sz).to ?_
    simp only [hp, pathV, pathM, if_true]
    simp (maxDischargeDepth := 6) only [hb, hT, h1, Int.reduceEq, ne_eq, not_true_eq_false, not_false_eq_true, decide_false, decide_true, Try.results14, ruW, putL, Nat.reduceLeDiff, xF, ruU, entryE, Nat.reduceLT, Nat.reduceAdd, Nat.reduceMul, Nat.reduceEqDiff]
    exact ⟨by trivial, x, Step.same g Mod.refl, rfl⟩
  | some d =>
    have hps := path_some (T := T) hf
    have hp : x.path T id ≠ [] := by rw [hps]; exact places_ne _ _ _ _ _
    have hfa := hf
    replace hf : findD id x.root = some d := (abs_find id x.root).trans hf
    obtain ⟨nb, hsub⟩ := findD_sub id x.root d hf
    have hlen : (x.path T id).length = d.length + 1 := by rw [hps]; exact places_length x.root d T 0 x.frame (by rw [hsub]; simp)
    have hpl := pathT_len x.root T 0 x.frame id
    have hpl' : (x.path T id).length ≤ x.root.size + 1 := hpl
    have hget : ∀ k, k ≤ d.length → (x.path T id)[k]? = some ⟨(cellAt T 0 x.root (d.take k)).1, (cellAt T 0 x.root (d.take k)).2, rectAt x.root x.frame (d.take k)⟩ := fun k hk => by
      have := places_get x.root (d.take k) (d.drop k) T 0 x.frame (by rw [List.take_append_drop, hsub]; simp)
      rw [List.take_append_drop, ← hps, List.length_take, Nat.min_eq_left hk] at this
      exact this
    have hw1 : IntKind.i64.wrap (((x.path T id).length : Int) - 2) = (d.length : Int) - 1 := by
      have := wrap_sm (n := ((x.path T id).length : Int) - 2) (by omega) (by omega)
      rw [show IntKind.i64.wrap (((x.path T id).length : Int) - 2) = ((x.path T id).length : Int) - 2 from this, hlen]
      omega
    have haE : x.abs.root = x.root.abs := rfl
    refine callE_fn mixed Try.func14 rfl Try.ntmps14 (Nat.le_of_ble_eq_true rfl) ?_
    simp (maxDischargeDepth := 6) only [ruW, putL, Nat.reduceLeDiff, xF, ruU, entryE, Nat.reduceLT, Nat.reduceAdd, Nat.reduceMul, Nat.reduceEqDiff]
    refine (find_c T x id (ext H []) g.wn g.sz).to ?_
    simp only [hp, pathV, pathM, if_false]
    simp (maxDischargeDepth := 6) only [hb, hT, h1, hw1, Int.reduceEq, ne_eq, not_true_eq_false, not_false_eq_true, decide_false, decide_true, ruW, putL, Nat.reduceLeDiff, xF, ruU, entryE, Nat.reduceLT, Nat.reduceAdd, Nat.reduceMul, Nat.reduceEqDiff]
    generalize hX : ext H (_ :: _) = X
    have mX : Mod [] H X := hX ▸ Mod.ext g.ok
    have hX1 : X.next = b + 1 := by rw [← hX, ext_next, hb]; rfl
    have hbX : bk X b = some ⟨85, x.root.opn, plsOf (x.path T id)⟩ := by
      have := bk_at (L := [⟨85, x.root.opn, plsOf (x.path T id)⟩]) (i := 0) hb (by simp)
      rw [hX] at this
      exact this
    have gX := g.mod mX (by simp) (by simp)
    obtain ⟨c, hc⟩ : ∃ c, X.next = c := ⟨_, rfl⟩
    have hcb : c = b + 1 := hc.symm.trans hX1
    have lb : b < c := by omega
    have lT : T < c := by omega
    refine w_env fun E hE => ?_
    have e0 : E 0 = .pointer (some ⟨T, 0, none⟩) := by rw [hE]; simp only [ruU, entryE, Nat.reduceLT, Nat.reduceAdd, Nat.reduceMul, Nat.reduceEqDiff]
    have e2 : E 2 = .int .i64 by1 := by rw [hE]; simp only [ruU, entryE, Nat.reduceLT, Nat.reduceAdd, Nat.reduceMul, Nat.reduceEqDiff]
    have e3 : E 3 = .bool be := by rw [hE]; simp only [ruU, entryE, Nat.reduceLT, Nat.reduceAdd, Nat.reduceMul, Nat.reduceEqDiff]
    have e9 : E 9 = .slice (some ⟨b, 0, x.root.spot⟩) (x.path T id).length (x.path T id).length := by rw [hE]; simp only [ruU, entryE, Nat.reduceLT, Nat.reduceAdd, Nat.reduceMul, Nat.reduceEqDiff]; rfl
    have e11 : E 11 = .int .i64 ((d.length : Int) - 1) := by rw [hE]; simp only [ruU, entryE, Nat.reduceLT, Nat.reduceAdd, Nat.reduceMul, Nat.reduceEqDiff]
    clear hE
    have hnode : ∀ k, k < d.length → ∃ sn bb f l r, subAt x.root (d.take k) = some (.split sn bb f l r) := fun k hk => take_split hsub hk
    refine blockC_meet (fun E' H' => H' = X ∧ E' 2 = .int .i64 by1 ∧ E' 3 = .bool be ∧ E' 9 = .slice (some ⟨b, 0, x.root.spot⟩) (x.path T id).length (x.path T id).length ∧
      ((Ast.upTo x.abs.root d be d.length = none ∧ E' 11 = .int .i64 (-1)) ∨ ∃ k sn f l r, Ast.upTo x.abs.root d be d.length = some k ∧ E' 11 = .int .i64 (k : Int) ∧ k < d.length ∧ subAt x.root (d.take k) = some (.split sn be f l r))) ?_ ?_
    · refine w_loop (fun (k : Nat) E' H' => H' = ext X [] ∧ E' 2 = .int .i64 by1 ∧ E' 3 = .bool be ∧ E' 9 = .slice (some ⟨b, 0, x.root.spot⟩) (x.path T id).length (x.path T id).length ∧ E' 11 = .int .i64 ((k : Int) - 1) ∧ k ≤ d.length ∧ Ast.upTo x.abs.root d be d.length = Ast.upTo x.abs.root d be k) (fun k => k) d.length ⟨rfl, e2, e3, e9, e11, Nat.le_refl _, rfl⟩ ?_
      clear e0 e2 e3 e9 e11
      rintro k E H' ⟨hH, e2, e3, e9, e11, hk, hup⟩
      rw [hH]
      cases k with
      | zero =>
        have h0 : decide ((0 : Int) ≤ ((0 : Nat) : Int) - 1) = false := by decide
        simp (maxDischargeDepth := 6) only [e2, e3, e9, e11, h0, ruW, putL, Nat.reduceLeDiff, xF, ruU, entryE, Nat.reduceLT, Nat.reduceAdd, Nat.reduceMul, Nat.reduceEqDiff]
        refine joinR_normal ⟨rfl, ?_, ?_, ?_, .inl ⟨hup, ?_⟩⟩ <;> simp only [e2, e3, e9, e11, ruU, entryE, Nat.reduceLT, Nat.reduceAdd, Nat.reduceMul, Nat.reduceEqDiff]
        rfl
      | succ k =>
        obtain ⟨sn, bb, f, l, r, hs⟩ := hnode k (by omega)
        have h0 : decide ((0 : Int) ≤ ((k + 1 : Nat) : Int) - 1) = true := decide_eq_true (by omega)
        have hi : (((k + 1 : Nat) : Int) - 1) = (k : Int) := by omega
        have hia := fun s => pls_ia (len := (x.path T id).length) (cap := (x.path T id).length) (n := b) (s := s) (i := ((k + 1 : Nat) : Int) - 1) (k := k) hi (by omega)
        have hg := hget k (by omega)
        have hld := fun o => pls_load0 (o := o) hg
        obtain ⟨ba, hba, hbo⟩ := cell_holds x.root (d.take k) _ T 0 hs gX.wn.2 ⟨_, gX.wn.1, rfl⟩
        obtain ⟨ea, oa, la⟩ := ba
        generalize hca : (cellAt T 0 x.root (d.take k)).1 = pa at *
        generalize hco : (cellAt T 0 x.root (d.take k)).2 = po at *
        simp only [Tr.val] at hbo
        have lpa : pa < c := by
          rw [← hc, ← hca]
          by_cases hd : d.take k = []
          · rw [hd, show cellAt T 0 x.root [] = (T, 0) by cases x.root <;> rfl]; exact gX.lt
          · exact gX.lts _ (cell_mem x.root (d.take k) _ T 0 hd hs)
        have hsX := (sub_tree x.root (d.take k) _ hs gX.wn.2).1
        have lsn : sn < c := hc ▸ gX.lts sn (sub_blks x.root (d.take k) _ hs sn (by simp [Tr.blks]))
        have hsA : x.abs.root.sub (d.take k) = some (.split bb f l.abs r.abs) := by
          rw [haE, ← abs_sub, hs]; rfl
        simp (maxDischargeDepth := 6) only [e2, e3, e9, e11, h0, hia, hld, hc, lb, hbX, lpa, hba, hbo, lsn, hsX, ruW, putL, Nat.reduceLeDiff, xF, ruU, entryE, Nat.reduceLT, Nat.reduceAdd, Nat.reduceMul, Nat.reduceEqDiff]
        by_cases hbb : bb = be
        · subst hbb
          simp (maxDischargeDepth := 6) only [ne_eq, not_true_eq_false, decide_false, ruW, putL, Nat.reduceLeDiff, xF, ruU, entryE, Nat.reduceLT, Nat.reduceAdd, Nat.reduceMul, Nat.reduceEqDiff]
          refine joinR_normal ⟨rfl, ?_, ?_, ?_, .inr ⟨k, sn, f, l, r, ?_, ?_, by omega, hs⟩⟩ <;> try simp only [e2, e3, e9, e11, ruU, entryE, Nat.reduceLT, Nat.reduceAdd, Nat.reduceMul, Nat.reduceEqDiff]
          · rw [hup, Ast.upTo, hsA]; simp
          · rw [hi]
        · simp (maxDischargeDepth := 6) only [e2, e3, e9, e11, ne_eq, hbb, not_false_eq_true, decide_true, ruW, putL, Nat.reduceLeDiff, xF, ruU, entryE, Nat.reduceLT, Nat.reduceAdd, Nat.reduceMul, Nat.reduceEqDiff]
          refine loopC_next ⟨k, by omega, rfl, ?_, ?_, ?_, ?_, by omega, ?_⟩ <;> try simp only [e2, e3, e9, e11, ruU, entryE, Nat.reduceLT, Nat.reduceAdd, Nat.reduceMul, Nat.reduceEqDiff]
          · have := wrap_sm (n := ((k + 1 : Nat) : Int) - 1 - 1) (by omega) (by omega)
            rw [show IntKind.i64.wrap (((k + 1 : Nat) : Int) - 1 - 1) = _ from this, hi]
          · rw [hup, Ast.upTo, hsA]; simp [hbb]
    · clear e0 e2 e3 e9 e11
      rintro E X' ⟨hX', e2, e3, e9, hJ⟩
      rw [hX', show X = ext X [] from rfl]
      rcases hJ with ⟨hup, e11⟩ | ⟨k, sn, f, l, r, hup, e11, hk, hs⟩
      · rw [show x.abs.resize id by1 be = (9, x.abs) by simp only [Ast.resize, hfa, hup]]
        have h0 : decide ((-1 : Int) < 0) = true := by decide
        simp (maxDischargeDepth := 6) only [e2, e3, e9, e11, h0, Try.results14, ruW, putL, Nat.reduceLeDiff, xF, ruU, entryE, Nat.reduceLT, Nat.reduceAdd, Nat.reduceMul, Nat.reduceEqDiff]
        exact ⟨by trivial, x, Step.same g mX, rfl⟩
      · have hsA : x.abs.root.sub (d.take k) = some (.split be f l.abs r.abs) := by
          rw [haE, ← abs_sub, hs]; rfl
        rw [show x.abs.resize id by1 be = (if by1 < -1000 ∨ 1000 < by1 then (3, x.abs) else
            if w64 (f + (if d[k]? = some false then by1 else w64 (0 - by1))) < l.abs.least be ∨ w64 (w64 (w64 ((x.abs.root.rectAt x.abs.frame (d.take k)).size be - f) - bar be) - (if d[k]? = some false then by1 else w64 (0 - by1))) < r.abs.least be then (3, x.abs)
            else (0, { x.abs with root := x.abs.root.set (d.take k) (.split be (w64 (f + (if d[k]? = some false then by1 else w64 (0 - by1)))) (l.abs.resize be f (w64 (f + (if d[k]? = some false then by1 else w64 (0 - by1))))) (r.abs.resize be (w64 (w64 ((x.abs.root.rectAt x.abs.frame (d.take k)).size be - f) - bar be)) (w64 (w64 (w64 ((x.abs.root.rectAt x.abs.frame (d.take k)).size be - f) - bar be) - (if d[k]? = some false then by1 else w64 (0 - by1)))))) })) by
          simp only [Ast.resize, hfa, hup, hsA]]
        have h0 : decide ((k : Int) < 0) = false := decide_eq_false (by omega)
        by_cases c1 : by1 < -1000
        · rw [if_pos (.inl c1)]
          simp (maxDischargeDepth := 6) only [e2, e3, e9, e11, h0, c1, decide_true, Try.results14, ruW, putL, Nat.reduceLeDiff, xF, ruU, entryE, Nat.reduceLT, Nat.reduceAdd, Nat.reduceMul, Nat.reduceEqDiff]
          exact ⟨by trivial, x, Step.same g mX, rfl⟩
        by_cases c2 : 1000 < by1
        · rw [if_pos (.inr c2)]
          simp (maxDischargeDepth := 6) only [e2, e3, e9, e11, h0, c1, c2, decide_true, decide_false, Try.results14, ruW, putL, Nat.reduceLeDiff, xF, ruU, entryE, Nat.reduceLT, Nat.reduceAdd, Nat.reduceMul, Nat.reduceEqDiff]
          exact ⟨by trivial, x, Step.same g mX, rfl⟩
        rw [if_neg (by simp only [c1, c2, or_self, not_false_eq_true])]
        rw [show x.abs.root.rectAt x.abs.frame (d.take k) = rectAt x.root x.frame (d.take k) by rw [abs_rectAt]; rfl]
        have hia := fun s => pls_ia (len := (x.path T id).length) (cap := (x.path T id).length) (n := b) (s := s) (i := (k : Int)) (k := k) rfl (by omega)
        have hw2 : IntKind.i64.wrap ((k : Int) + 1) = ((k + 1 : Nat) : Int) := by
          have := wrap_sm (n := (k : Int) + 1) (by omega) (by omega)
          rw [show IntKind.i64.wrap ((k : Int) + 1) = _ from this]; omega
        have hia2 := fun s => pls_ia (len := (x.path T id).length) (cap := (x.path T id).length) (n := b) (s := s) (i := IntKind.i64.wrap ((k : Int) + 1)) (k := k + 1) hw2 (by omega)
        obtain ⟨lr, hlr⟩ : ∃ lr, d[k]? = some lr := ⟨_, List.getElem?_eq_getElem hk⟩
        have hg := hget k (by omega)
        have hg2 := hget (k + 1) (by omega)
        rw [sub_take hs hlr] at hg2
        have hld := fun o => pls_load0 (o := o) hg
        have hld1 := fun o => pls_load1 (o := o) hg
        have hld2 := fun o => pls_load0 (o := o) hg2
        simp only [Rc.cells] at hld1
        obtain ⟨ba, hba, hbo⟩ := cell_holds x.root (d.take k) _ T 0 hs gX.wn.2 ⟨_, gX.wn.1, rfl⟩
        obtain ⟨ea, oa, la⟩ := ba
        generalize hca : (cellAt T 0 x.root (d.take k)).1 = pa at *
        generalize hco : (cellAt T 0 x.root (d.take k)).2 = po at *
        generalize hrc : rectAt x.root x.frame (d.take k) = rc at *
        simp only [Tr.val] at hbo
        have lpa : pa < c := by
          rw [← hc, ← hca]
          by_cases hd : d.take k = []
          · rw [hd, show cellAt T 0 x.root [] = (T, 0) by cases x.root <;> rfl]; exact gX.lt
          · exact gX.lts _ (cell_mem x.root (d.take k) _ T 0 hd hs)
        obtain ⟨hsX, htl, htr⟩ := sub_tree x.root (d.take k) _ hs gX.wn.2
        have hSbl := sub_blks x.root (d.take k) _ hs
        have hSnd := sub_nodup x.root (d.take k) _ hs g.nd
        have lsn : sn < c := hc ▸ gX.lts sn (hSbl sn (by simp [Tr.blks]))
        have il : idsV l.val = [l.root] := by cases l <;> simp [Tr.val, idsV, Tr.root]
        simp (maxDischargeDepth := 6) only [e2, e3, e9, e11, h0, c1, c2, hia, hld, hc, lb, hbX, lpa, hba, hbo, decide_false, ruW, putL, Nat.reduceLeDiff, xF, ruU, entryE, Nat.reduceLT, Nat.reduceAdd, Nat.reduceMul, Nat.reduceEqDiff]
        refine w_drawB [] [] (by kernel_rfl) rfl rfl fun ops anc hA hG => ?_
        simp (maxDischargeDepth := 6) only [e2, e3, e9, e11, hia2, hld2, hc, lb, hbX, lsn, hsX, ruD, ruW, putL, Nat.reduceLeDiff, xF, ruU, entryE, Nat.reduceLT, Nat.reduceAdd, Nat.reduceMul, Nat.reduceEqDiff]
        refine wd_ptr (H := ext X []) (a := ⟨sn, if lr then 3 else 2, none⟩) (b := ⟨sn, 2, none⟩) (r := lr) (by cases lr <;> simp [eqOp, addr_beq]) (by simp (maxDischargeDepth := 6) only [ruU, entryE, Nat.reduceLT, Nat.reduceAdd, Nat.reduceMul, Nat.reduceEqDiff]) (by simp (maxDischargeDepth := 6) only [ruU, entryE, Nat.reduceLT, Nat.reduceAdd, Nat.reduceMul, Nat.reduceEqDiff]) (by decide) (by kernel_rfl) (by simp (maxDischargeDepth := 6) only [ruU, entryE, Nat.reduceLT, Nat.reduceAdd, Nat.reduceMul, Nat.reduceEqDiff]) (by simp (maxDischargeDepth := 6) only [ruU, entryE, Nat.reduceLT, Nat.reduceAdd, Nat.reduceMul, Nat.reduceEqDiff]) hsX hsX rfl rfl (by simp (maxDischargeDepth := 6) only [ruD, ruW, putL, Nat.reduceLeDiff, xF, ruU, entryE, Nat.reduceLT, Nat.reduceAdd, Nat.reduceMul, Nat.reduceEqDiff]) ?_
        simp (maxDischargeDepth := 6) only [ruD, ruW, putL, Nat.reduceLeDiff, xF, ruU, entryE, Nat.reduceLT, Nat.reduceAdd, Nat.reduceMul, Nat.reduceEqDiff]
        refine condC_join (fun E' H' => H' = ext X [] ∧ E' 2 = .int .i64 (if lr = false then by1 else w64 (0 - by1)) ∧ E' 3 = .bool be ∧ E' 9 = .slice (some ⟨b, 0, x.root.spot⟩) (x.path T id).length (x.path T id).length ∧ E' 11 = .int .i64 (k : Int) ∧ E' 12 = .pointer (some ⟨sn, 0, none⟩)) (fun h0 => ?_) (fun h0 => ?_) ?_
        · subst h0
          simp (maxDischargeDepth := 6) only [e2, e3, e9, e11, ruW, putL, Nat.reduceLeDiff, xF, ruU, entryE, Nat.reduceLT, Nat.reduceAdd, Nat.reduceMul, Nat.reduceEqDiff]
          rw [joinC_normal]
          exact ⟨_, rfl, rfl, by simp only [ruU, entryE, Nat.reduceLT, Nat.reduceAdd, Nat.reduceMul, Nat.reduceEqDiff, Bool.true_eq_false, if_false], by simp only [e3, ruU, entryE, Nat.reduceLT, Nat.reduceAdd, Nat.reduceMul, Nat.reduceEqDiff], by simp only [e9, ruU, entryE, Nat.reduceLT, Nat.reduceAdd, Nat.reduceMul, Nat.reduceEqDiff], by simp only [e11, ruU, entryE, Nat.reduceLT, Nat.reduceAdd, Nat.reduceMul, Nat.reduceEqDiff], by simp only [ruU, entryE, Nat.reduceLT, Nat.reduceAdd, Nat.reduceMul, Nat.reduceEqDiff]⟩
        · subst h0
          simp (maxDischargeDepth := 6) only [ruW, putL, Nat.reduceLeDiff, xF, ruU, entryE, Nat.reduceLT, Nat.reduceAdd, Nat.reduceMul, Nat.reduceEqDiff]
          rw [joinC_normal]
          exact ⟨_, rfl, rfl, by simp only [e2, ruU, entryE, Nat.reduceLT, Nat.reduceAdd, Nat.reduceMul, Nat.reduceEqDiff, if_true], by simp only [e3, ruU, entryE, Nat.reduceLT, Nat.reduceAdd, Nat.reduceMul, Nat.reduceEqDiff], by simp only [e9, ruU, entryE, Nat.reduceLT, Nat.reduceAdd, Nat.reduceMul, Nat.reduceEqDiff], by simp only [e11, ruU, entryE, Nat.reduceLT, Nat.reduceAdd, Nat.reduceMul, Nat.reduceEqDiff], by simp only [ruU, entryE, Nat.reduceLT, Nat.reduceAdd, Nat.reduceMul, Nat.reduceEqDiff]⟩
        clear e2 e3 e9 e11
        rintro E X'' ⟨hX'', e2, e3, e9, e11, e12⟩
        rw [hX'']
        rw [show (if d[k]? = some false then by1 else w64 (0 - by1)) = (if lr = false then by1 else w64 (0 - by1)) by rw [hlr]; simp]
        generalize hby : (if lr = false then by1 else w64 (0 - by1)) = by2 at e2 ⊢
        simp (maxDischargeDepth := 6) only [ruW, putL, Nat.reduceLeDiff, xF, ruU, entryE, Nat.reduceLT, Nat.reduceAdd, Nat.reduceMul, Nat.reduceEqDiff]
        refine w_drawB [] [] (by kernel_rfl) rfl rfl fun ops anc hA hG => ?_
        simp (maxDischargeDepth := 6) only [e2, e3, e9, e11, e12, hia, hld1, hc, lb, hbX, lsn, hsX, ruD, ruW, putL, Nat.reduceLeDiff, xF, ruU, entryE, Nat.reduceLT, Nat.reduceAdd, Nat.reduceMul, Nat.reduceEqDiff]
        refine genV_quiet (v := .int .i64 (rc.size be)) [] (by simp (maxDischargeDepth := 6) only [ruU, entryE, Nat.reduceLT, Nat.reduceAdd, Nat.reduceMul, Nat.reduceEqDiff]) (by kernel_rfl) (by decide) (by simp) (fun G _ _ => ?_) (by simp (maxDischargeDepth := 6) only [ruD, ruW, putL, Nat.reduceLeDiff, xF, ruU, entryE, Nat.reduceLT, Nat.reduceAdd, Nat.reduceMul, Nat.reduceEqDiff]) ?_
        · simp only [ruU, entryE, Nat.reduceLT, Nat.reduceAdd, Nat.reduceMul, Nat.reduceEqDiff]
          exact size_c rc be G
        simp (maxDischargeDepth := 6) only [e2, e3, e9, e11, e12, hia, hld1, hc, lb, hbX, lsn, hsX, ruD, ruW, putL, Nat.reduceLeDiff, xF, ruU, entryE, Nat.reduceLT, Nat.reduceAdd, Nat.reduceMul, Nat.reduceEqDiff]
        refine genV_quiet (v := .int .i64 (bar be)) [] (by simp (maxDischargeDepth := 6) only [ruU, entryE, Nat.reduceLT, Nat.reduceAdd, Nat.reduceMul, Nat.reduceEqDiff]) (by kernel_rfl) (by decide) (by simp) (fun G _ _ => ?_) (by simp (maxDischargeDepth := 6) only [ruD, ruW, putL, Nat.reduceLeDiff, xF, ruU, entryE, Nat.reduceLT, Nat.reduceAdd, Nat.reduceMul, Nat.reduceEqDiff]) ?_
        · simp only [ruU, entryE, Nat.reduceLT, Nat.reduceAdd, Nat.reduceMul, Nat.reduceEqDiff]
          exact bar_c be G
        simp (maxDischargeDepth := 6) only [e2, e3, e9, e11, e12, hia, hld1, hc, lb, hbX, lsn, hsX, ruD, ruW, putL, Nat.reduceLeDiff, xF, ruU, entryE, Nat.reduceLT, Nat.reduceAdd, Nat.reduceMul, Nat.reduceEqDiff]
        generalize hsec : IntKind.i64.wrap (IntKind.i64.wrap (rc.size be - f) - bar be) = sec
        rw [show w64 (w64 (rc.size be - f) - bar be) = sec from hsec]
        rw [← abs_least, ← abs_least]
        refine (least_c be l (ext X []) htl).to ?_
        generalize hf2 : IntKind.i64.wrap (f + by2) = f'
        generalize hs2 : IntKind.i64.wrap (sec - by2) = s'
        rw [show w64 (f + by2) = f' from hf2, show w64 (sec - by2) = s' from hs2]
        by_cases c3 : f' < least be l
        · rw [if_pos (.inl c3)]
          simp (maxDischargeDepth := 6) only [hf2, c3, decide_true, Try.results14, ruW, putL, Nat.reduceLeDiff, xF, ruU, entryE, Nat.reduceLT, Nat.reduceAdd, Nat.reduceMul, Nat.reduceEqDiff]
          exact ⟨by trivial, x, Step.same g mX, rfl⟩
        simp (maxDischargeDepth := 6) only [e2, e3, e9, e11, e12, hc, lb, hbX, lsn, hsX, hf2, c3, decide_false, ruW, putL, Nat.reduceLeDiff, xF, ruU, entryE, Nat.reduceLT, Nat.reduceAdd, Nat.reduceMul, Nat.reduceEqDiff]
        refine (least_c be r (ext X []) htr).to ?_
        by_cases c4 : s' < least be r
        · rw [if_pos (.inr c4)]
          simp (maxDischargeDepth := 6) only [hs2, c4, decide_true, Try.results14, ruW, putL, Nat.reduceLeDiff, xF, ruU, entryE, Nat.reduceLT, Nat.reduceAdd, Nat.reduceMul, Nat.reduceEqDiff]
          exact ⟨by trivial, x, Step.same g mX, rfl⟩
        rw [if_neg (by simp only [c3, c4, or_self, not_false_eq_true])]
        simp (maxDischargeDepth := 6) only [e2, e3, e9, e11, e12, hc, lb, hbX, lsn, hsX, hf2, hs2, c4, decide_false, ruW, putL, Nat.reduceLeDiff, xF, ruU, entryE, Nat.reduceLT, Nat.reduceAdd, Nat.reduceMul, Nat.reduceEqDiff]
        simp only [Tr.blks, List.nodup_cons, List.nodup_append, List.mem_append, not_or] at hSnd
        obtain ⟨⟨hnl, hnr⟩, hndl, hndr, hlr'⟩ := hSnd
        have hll : ∀ m ∈ l.blks, m < X.next := fun m hm => gX.lts m (hSbl m (by simp [Tr.blks, hm]))
        have hrr : ∀ m ∈ r.blks, m < X.next := fun m hm => gX.lts m (hSbl m (by simp [Tr.blks, hm]))
        refine (resize_c be l f f' (ext X []) gX.ok htl hll hndl).mono ?_
        rintro _ Y ⟨rfl, mY0, tY⟩
        have mY : Mod l.blks X Y := mY0
        obtain ⟨y, hy⟩ : ∃ y, Y.next = y := ⟨_, rfl⟩
        have lsy : sn < y := hy ▸ mY.lt (hc.symm ▸ lsn)
        have hsY : bk Y sn = _ := (mY.bk (hc.symm ▸ lsn) hnl).trans hsX
        have htrY : TreeAt Y r := htr.mod mY hrr (fun m hm h => hlr' m h m hm rfl)
        rw [show Y = ext Y [] from rfl]
        simp (maxDischargeDepth := 6) only [e2, e3, e9, e11, e12, hy, lsy, hsY, hs2, ruW, putL, Nat.reduceLeDiff, xF, ruU, entryE, Nat.reduceLT, Nat.reduceAdd, Nat.reduceMul, Nat.reduceEqDiff]
        refine (resize_c be r sec s' (ext Y []) (mY.ok gX.ok) htrY (fun m hm => mY.lt (hrr m hm)) hndr).mono ?_
        rintro _ Z ⟨rfl, mZ0, tZ⟩
        have mZ : Mod r.blks Y Z := mZ0
        obtain ⟨z, hz⟩ : ∃ z, Z.next = z := ⟨_, rfl⟩
        have lsz : sn < z := hz ▸ mZ.lt (hy.symm ▸ lsy)
        have hsZ : bk Z sn = _ := (mZ.bk (hy.symm ▸ lsy) hnr).trans hsY
        have hbz : Z.base ≤ z := hz ▸ mZ.ok (mY.ok gX.ok)
        rw [show Z = ext Z [] from rfl]
        simp (maxDischargeDepth := 6) only [e2, e3, e9, e11, e12, hz, lsz, hsZ, hbz, hf2, Try.results14, ruW, putL, Nat.reduceLeDiff, xF, ruU, entryE, Nat.reduceLT, Nat.reduceAdd, Nat.reduceMul, Nat.reduceEqDiff]
        generalize hV : uw Z sn 1 [.int .i64 f'] = V
        have mV : Mod [sn] Z V := hV ▸ Mod.uw (by simp)
        have tlY : TreeAt Z (l.resize be f f') := tY.mod mZ (fun m hm => mY.lt (hll m (by rwa [Tr.resize_blks] at hm))) (fun m hm h => hlr' m (by rwa [Tr.resize_blks] at hm) m h rfl)
        refine ⟨by trivial, _, Step.part (n := .split sn be f' (l.resize be f f') (r.resize be sec s')) g hs ?_ ⟨?_, ?_, ?_⟩ rfl ?_ ?_, ?_⟩
        · refine (((mX.mono (by simp)).trans (mY.mono ?_)).trans (mZ.mono ?_)).trans (mV.mono ?_) <;> (intro m hm; simp only [Tr.blks, List.mem_cons, List.mem_append, List.not_mem_nil, or_false] at hm ⊢; first | exact .inl hm | exact .inr (.inl hm) | exact .inr (.inr hm))
        · show bk V sn = _
          rw [← hV, bk_uw_eq, hsZ, Tr.resize_val, Tr.resize_val]
          rfl
        · rw [← hV]
          exact tlY.of fun m hm => uw_get (fun h => hnl (by rw [Tr.resize_blks] at hm; exact h ▸ hm))
        · rw [← hV]
          exact tZ.of fun m hm => uw_get (fun h => hnr (by rw [Tr.resize_blks] at hm; exact h ▸ hm))
        · simp only [Tr.blks, Tr.resize_blks]
        · simp only [Tr.size, Tr.resize_size]; omega
        · simp only [Wn.abs, abs_set, Tr.abs, abs_resize]

end Go.Proofs.Ytiedpcmdimgboaa

/- What the functions come to that look at rows: Pick, Same, IndexFunc, near, Next, Previous. -/
namespace Go.Proofs.Ytiedpcmdimgboaa
open Go.Ax
set_option linter.unusedSimpArgs false
set_option maxRecDepth 10000

def pick (n k : Int) : Int := if k ≤ 0 then 0 else if n.tmod k < 0 then w64 (n.tmod k + k) else n.tmod k

theorem pick_c (n k : Int) (H : AHeap) : Pure 13 [.int .i64 n, .int .i64 k] H (.int .i64 (pick n k)) := by
  obtain ⟨b, hb⟩ : ∃ b, H.next = b := ⟨_, rfl⟩
  refine callS_fn mixed Try.func13 rfl Try.ntmps13 (Nat.le_of_ble_eq_true rfl) fun wf hsc => ?_
  unfold pick
  by_cases hk : k ≤ 0
  · rw [if_pos hk]
    simp (maxDischargeDepth := 6) only [hk, decide_true, Try.results13, ruW, putL, Nat.reduceLeDiff, xF, ruU, entryE, Nat.reduceLT, Nat.reduceAdd, Nat.reduceMul, Nat.reduceEqDiff]
    exact Fin.pure rfl
  · rw [if_neg hk]
    have hk0 : k ≠ 0 := by omega
    by_cases hn : n.tmod k < 0
    · rw [if_pos hn]
      simp (maxDischargeDepth := 6) only [hk, hk0, hn, decide_false, decide_true, Try.results13, ruW, putL, Nat.reduceLeDiff, xF, ruU, entryE, Nat.reduceLT, Nat.reduceAdd, Nat.reduceMul, Nat.reduceEqDiff]
      exact Fin.pure rfl
    · rw [if_neg hn]
      simp (maxDischargeDepth := 6) only [hk, hk0, hn, decide_false, decide_true, Try.results13, ruW, putL, Nat.reduceLeDiff, xF, ruU, entryE, Nat.reduceLT, Nat.reduceAdd, Nat.reduceMul, Nat.reduceEqDiff]
      exact Fin.pure rfl

def RowsAt (H : AHeap) (v : Value) (l : List Rc) : Prop :=
  (v = .slice none 0 0 ∧ l = []) ∨ ∃ n s c o, v = .slice (some ⟨n, 0, s⟩) l.length c ∧ bk H n = some ⟨35, o, rowsOf l⟩

theorem rows_get : ∀ (l : List Rc) (k : Nat) (p : Rc), l[k]? = some p → ((rowsOf l).drop (k * 5)).take 5 = p.cells
  | [], k, p, h => by simp at h
  | q :: ps, 0, p, h => by
    simp only [List.getElem?_cons_zero, Option.some.injEq] at h
    subst h
    simp [rowsOf, Rc.cells]
  | q :: ps, k + 1, p, h => by
    have ih := rows_get ps k p (by simpa using h)
    rw [show rowsOf (q :: ps) = q.cells ++ rowsOf ps from rfl, show (k + 1) * 5 = q.cells.length + k * 5 by simp [Rc.cells]; omega, List.drop_append, List.drop_eq_nil_of_le (by omega), List.nil_append, Nat.add_sub_cancel_left]
    exact ih

theorem rows_load {l : List Rc} {k : Nat} {p : Rc} {o : Bool} (h : l[k]? = some p) : ldB Try.prog 35 (0 + k * 5) (some ⟨35, o, rowsOf l⟩) = some p.val := by
  have hk : k < l.length := by
    rcases Nat.lt_or_ge k l.length with h' | h'
    · exact h'
    · rw [List.getElem?_eq_none h'] at h; cases h
  have h1 : aggT Try.prog 35 = some true := by kernel_rfl
  have h2 : szOf Try.prog 35 = some 5 := by kernel_rfl
  simp only [ldB, h1, h2, Option.bind_some, Nat.zero_add, rows_get l k p h]
  rw [if_pos (by rw [rowsOf_length]; omega)]
  rfl

theorem rows_load0 {l : List Rc} {k : Nat} {p : Rc} {o : Bool} (h : l[k]? = some p) : ldB Try.prog 3 (0 + k * 5) (some ⟨35, o, rowsOf l⟩) = some (.int .i64 p.id) := by
  have h1 : aggT Try.prog 3 = some false := by kernel_rfl
  have h0 := congrArg (·[0]?) (rows_get l k p h)
  simp only [List.getElem?_take, List.getElem?_drop, Rc.cells, List.getElem?_cons_zero, Nat.lt_irrefl, Nat.reduceLT, if_true, Nat.add_zero] at h0
  simp only [ldB, h1, Nat.zero_add, h0]

theorem rows_ia {len cap n : Nat} {s : Option Nat} {i : Int} {k : Nat} (hi : i = k) (hk : k < len) : aIndexAddr Try.prog 32 (.slice (some ⟨n, 0, s⟩) len cap) (.int .i64 i) = some (.pointer (some ⟨n, 0 + k * 5, none⟩)) := by
  subst hi
  rw [ia_slice (e := 35) (sz := 5) (by kernel_rfl) (by kernel_rfl) (by omega) (by omega)]
  simp

theorem rc_eqL (r s : Rc) : eqL r.cells s.cells = decide (r = s) := by
  obtain ⟨a, b, c, d, e⟩ := r
  obtain ⟨a', b', c', d', e'⟩ := s
  simp only [Rc.cells, eqL, eq1, Bool.and_true, Rc.mk.injEq]
  by_cases h1 : a = a' <;> by_cases h2 : b = b' <;> by_cases h3 : c = c' <;> by_cases h4 : d = d' <;> by_cases h5 : e = e' <;> simp [h1, h2, h3, h4, h5]
theorem fl35 : flat Try.prog 10000 35 = some [3, 3, 3, 3, 3] := by kernel_rfl
theorem ag35 : aggT Try.prog 35 = some true := by kernel_rfl
theorem gd35 : Try.prog.eqGuardType Try.prog.depth 35 = false := by kernel_rfl
theorem rc_fits (r : Rc) : fits Try.prog [3, 3, 3, 3, 3] r.cells = true := by
  have : ∀ n, fit1 Try.prog 3 (.int .i64 n) = true := fun n => by kernel_rfl
  simp only [Rc.cells, fits, this, Bool.and_self]

theorem same_c (H : AHeap) (v1 v2 : Value) (l1 l2 : List Rc) (h1 : RowsAt H v1 l1) (h2 : RowsAt H v2 l2) (hl : l1.length < 1000000) : Pure 16 [v1, v2] H (.bool (decide (l1 = l2))) := by
  obtain ⟨b, hb⟩ : ∃ b, H.next = b := ⟨_, rfl⟩
  refine callS_fn mixed Try.func16 rfl Try.ntmps16 (Nat.le_of_ble_eq_true rfl) fun wf hsc => ?_
  obtain ⟨a1, c1, e1⟩ : ∃ a c, v1 = .slice a l1.length c := by
    rcases h1 with ⟨rfl, rfl⟩ | ⟨n, s, c, o, rfl, _⟩
    · exact ⟨_, _, rfl⟩
    · exact ⟨_, _, rfl⟩
  obtain ⟨a2, c2, e2⟩ : ∃ a c, v2 = .slice a l2.length c := by
    rcases h2 with ⟨rfl, rfl⟩ | ⟨n, s, c, o, rfl, _⟩
    · exact ⟨_, _, rfl⟩
    · exact ⟨_, _, rfl⟩
  by_cases hlen : l1.length = l2.length
  · have hne : decide (¬ (l1.length : Int) = (l2.length : Int)) = false := by rw [hlen]; simp
    rw [e1, e2]
    simp (maxDischargeDepth := 6) only [hne, ruW, putL, Nat.reduceLeDiff, xF, ruU, entryE, Nat.reduceLT, Nat.reduceAdd, Nat.reduceMul, Nat.reduceEqDiff]
    rw [← e1, ← e2]
    refine w_loop (fun (k : Nat) E' H' => H' = ext H [] ∧ E' 0 = v1 ∧ E' 1 = v2 ∧ E' 5 = .int .i64 (k : Int) ∧ k ≤ l1.length ∧ l1.take k = l2.take k) (fun k => l1.length - k) 0 ⟨rfl, by simp only [ruU, entryE, Nat.reduceLT, Nat.reduceAdd, Nat.reduceMul, Nat.reduceEqDiff], by simp only [ruU, entryE, Nat.reduceLT, Nat.reduceAdd, Nat.reduceMul, Nat.reduceEqDiff], by simp only [ruU, entryE, Nat.reduceLT, Nat.reduceAdd, Nat.reduceMul, Nat.reduceEqDiff]; rfl, Nat.zero_le _, rfl⟩ ?_
    rintro k E H' ⟨hH, h0, h1', h5, hk, hpre⟩
    rw [hH]
    by_cases hkl : k = l1.length
    · have hc : decide ((k : Int) < (l1.length : Int)) = false := by simp [hkl]
      rw [e1] at h0
      simp (maxDischargeDepth := 6) only [h0, h1', h5, hc, Try.results16, ruW, putL, Nat.reduceLeDiff, xF, ruU, entryE, Nat.reduceLT, Nat.reduceAdd, Nat.reduceMul, Nat.reduceEqDiff]
      have : l1 = l2 := by
        have e3 := hpre
        rw [hkl, List.take_length, hlen, List.take_length] at e3
        exact e3
      rw [decide_eq_true this]
      exact Fin.pure rfl
    · have hlt : k < l1.length := by omega
      have hc : decide ((k : Int) < (l1.length : Int)) = true := decide_eq_true (by omega)
      rcases h1 with ⟨_, rfl⟩ | ⟨n1, s1, c1, o1, rfl, b1⟩
      · simp at hlt
      rcases h2 with ⟨_, rfl⟩ | ⟨n2, s2, c2, o2, rfl, b2⟩
      · simp at hlen; simp [hlen] at hlt
      obtain ⟨r1, hr1⟩ : ∃ r, l1[k]? = some r := ⟨_, List.getElem?_eq_getElem hlt⟩
      obtain ⟨r2, hr2⟩ : ∃ r, l2[k]? = some r := ⟨_, List.getElem?_eq_getElem (by omega)⟩
      have i1 := rows_ia (n := n1) (s := s1) (cap := c1) (i := (k : Int)) rfl hlt
      have i2 := rows_ia (n := n2) (s := s2) (cap := c2) (i := (k : Int)) (len := l2.length) rfl (by omega)
      have q1 := rows_load (o := o1) hr1
      have q2 := rows_load (o := o2) hr2
      have t1 : n1 < b := hb ▸ wf.lt b1
      have t2 : n2 < b := hb ▸ wf.lt b2
      simp (maxDischargeDepth := 6) only [h0, h1', h5, hc, ruW, putL, Nat.reduceLeDiff, xF, ruU, entryE, Nat.reduceLT, Nat.reduceAdd, Nat.reduceMul, Nat.reduceEqDiff]
      refine w_drawB [] [] (by kernel_rfl) rfl rfl fun ops anc hA hG => ?_
      simp (maxDischargeDepth := 6) only [h0, h1', h5, hb, i1, i2, b1, b2, t1, t2, q1, q2, Rc.val, ruD, ruW, putL, Nat.reduceLeDiff, xF, ruU, entryE, Nat.reduceLT, Nat.reduceAdd, Nat.reduceMul, Nat.reduceEqDiff]
      refine wd_eqS (ts := [3, 3, 3, 3, 3]) (xs := r1.cells) (ys := r2.cells) (r := !decide (r1 = r2)) fl35 ag35 gd35 (by rw [rc_eqL]; rfl) (by simp only [ruU, entryE, Nat.reduceLT, Nat.reduceAdd, Nat.reduceMul, Nat.reduceEqDiff]) (by simp only [ruU, entryE, Nat.reduceLT, Nat.reduceAdd, Nat.reduceMul, Nat.reduceEqDiff]) (by decide) (by simp only [ruU, entryE, Nat.reduceLT, Nat.reduceAdd, Nat.reduceMul, Nat.reduceEqDiff]; rfl) (by simp only [ruU, entryE, Nat.reduceLT, Nat.reduceAdd, Nat.reduceMul, Nat.reduceEqDiff]; rfl) (rc_fits _) (rc_fits _) ?_
      by_cases heq : r1 = r2
      · simp (maxDischargeDepth := 6) only [h0, h1', h5, heq, decide_true, Bool.not_true, ruD, ruW, putL, Nat.reduceLeDiff, xF, ruU, entryE, Nat.reduceLT, Nat.reduceAdd, Nat.reduceMul, Nat.reduceEqDiff]
        have hw : IntKind.i64.wrap ((k : Int) + 1) = ((k + 1 : Nat) : Int) := by
          have := wrap_sm (n := (k : Int) + 1) (by omega) (by omega)
          rw [show IntKind.i64.wrap ((k : Int) + 1) = _ from this]; omega
        refine loopC_next ⟨k + 1, by omega, rfl, ?_, ?_, ?_, by omega, ?_⟩ <;> try simp only [h0, h1', h5, hw, ruU, entryE, Nat.reduceLT, Nat.reduceAdd, Nat.reduceMul, Nat.reduceEqDiff]
        rw [List.take_add_one, List.take_add_one, hr1, hr2, hpre, heq]
      · simp (maxDischargeDepth := 6) only [h0, h1', h5, heq, decide_false, Bool.not_false, Try.results16, ruD, ruW, putL, Nat.reduceLeDiff, xF, ruU, entryE, Nat.reduceLT, Nat.reduceAdd, Nat.reduceMul, Nat.reduceEqDiff]
        have : l1 ≠ l2 := fun h => heq (by rw [h] at hr1; rw [hr1] at hr2; exact Option.some.inj hr2)
        rw [decide_eq_false this]
        exact Fin.pure rfl
  · have hne : decide (¬ (l1.length : Int) = (l2.length : Int)) = true := decide_eq_true (by omega)
    rw [decide_eq_false (fun h : l1 = l2 => hlen (h ▸ rfl))]
    rw [e1, e2]
    simp (maxDischargeDepth := 6) only [hne, Try.results16, ruW, putL, Nat.reduceLeDiff, xF, ruU, entryE, Nat.reduceLT, Nat.reduceAdd, Nat.reduceMul, Nat.reduceEqDiff]
    exact Fin.pure rfl

end Go.Proofs.Ytiedpcmdimgboaa

/- What the functions come to that go from window to window: IndexFunc, near, Next, Previous. -/
namespace Go.Proofs.Ytiedpcmdimgboaa
open Go.Ax
set_option linter.unusedSimpArgs false
set_option maxRecDepth 10000

theorem near1_c (r : Rc) (id : Int) (c : Nat) (H : AHeap) (hc : bk H c = some ⟨3, false, [.int .i64 id]⟩) : Pure 74 [r.val, .pointer (some ⟨c, 0, none⟩)] H (.bool (decide (r.id = id))) := by
  obtain ⟨b, hb⟩ : ∃ b, H.next = b := ⟨_, rfl⟩
  refine callS_fn mixed Try.func74 rfl Try.ntmps74 (Nat.le_of_ble_eq_true rfl) fun wf hsc => ?_
  have lc : c < b := hb ▸ wf.lt hc
  simp (maxDischargeDepth := 6) only [Rc.val, hb, lc, hc, Try.results74, ruW, putL, Nat.reduceLeDiff, xF, ruU, entryE, Nat.reduceLT, Nat.reduceAdd, Nat.reduceMul, Nat.reduceEqDiff]
  exact Fin.pure rfl

def ixOf (id : Int) (l : List Rc) : Option Nat := l.findIdx? fun r => decide (r.id = id)
def ixI (o : Option Nat) : Int := match o with
  | some k => k
  | none => -1

theorem indexFunc_c (id : Int) (c : Nat) (v : Value) (l : List Rc) (H : AHeap) (hv : RowsAt H v l) (hl : l.length < 1000000) (hc : bk H c = some ⟨3, false, [.int .i64 id]⟩) :
    Pure 73 [v, .func (.func 74) #[] #[.pointer (some ⟨c, 0, none⟩)]] H (.int .i64 (ixI (ixOf id l))) := by
  obtain ⟨b, hb⟩ : ∃ b, H.next = b := ⟨_, rfl⟩
  refine callS_fn mixed Try.func73 rfl Try.ntmps73 (Nat.le_of_ble_eq_true rfl) fun wf hsc => ?_
  obtain ⟨a1, c1, e1⟩ : ∃ a c, v = .slice a l.length c := by
    rcases hv with ⟨rfl, rfl⟩ | ⟨n, s, c, o, rfl, _⟩
    · exact ⟨_, _, rfl⟩
    · exact ⟨_, _, rfl⟩
  rw [e1]
  simp (maxDischargeDepth := 6) only [ruW, putL, Nat.reduceLeDiff, xF, ruU, entryE, Nat.reduceLT, Nat.reduceAdd, Nat.reduceMul, Nat.reduceEqDiff]
  rw [← e1]
  refine w_loop (fun (k : Nat) E' H' => H' = ext H [] ∧ E' 0 = v ∧ E' 1 = .func (.func 74) #[] #[.pointer (some ⟨c, 0, none⟩)] ∧ E' 7 = .int .i64 (l.length : Int) ∧ E' 8 = .int .i64 (k : Int) ∧ k ≤ l.length ∧ ixOf id l = (ixOf id (l.drop k)).map (· + k)) (fun k => l.length - k) 0 ⟨rfl, by simp only [ruU, entryE, Nat.reduceLT, Nat.reduceAdd, Nat.reduceMul, Nat.reduceEqDiff], by simp only [ruU, entryE, Nat.reduceLT, Nat.reduceAdd, Nat.reduceMul, Nat.reduceEqDiff], by simp only [ruU, entryE, Nat.reduceLT, Nat.reduceAdd, Nat.reduceMul, Nat.reduceEqDiff], by simp only [ruU, entryE, Nat.reduceLT, Nat.reduceAdd, Nat.reduceMul, Nat.reduceEqDiff]; rfl, Nat.zero_le _, by simp⟩ ?_
  rintro k E H' ⟨hH, h0, h1, h7, h8, hk, hix⟩
  rw [hH]
  by_cases hkl : k = l.length
  · have hcnd : decide ((k : Int) < (l.length : Int)) = false := by simp [hkl]
    simp (maxDischargeDepth := 6) only [h0, h1, h7, h8, hcnd, Try.results73, ruW, putL, Nat.reduceLeDiff, xF, ruU, entryE, Nat.reduceLT, Nat.reduceAdd, Nat.reduceMul, Nat.reduceEqDiff]
    rw [hix, hkl, List.drop_length]
    exact Fin.pure rfl
  · have hlt : k < l.length := by omega
    have hcnd : decide ((k : Int) < (l.length : Int)) = true := decide_eq_true (by omega)
    rcases hv with ⟨_, rfl⟩ | ⟨n1, s1, c1, o1, rfl, b1⟩
    · simp at hlt
    obtain ⟨r1, hr1⟩ : ∃ r, l[k]? = some r := ⟨_, List.getElem?_eq_getElem hlt⟩
    have i1 := rows_ia (n := n1) (s := s1) (cap := c1) (i := (k : Int)) rfl hlt
    have q1 := rows_load (o := o1) hr1
    have t1 : n1 < b := hb ▸ wf.lt b1
    simp (maxDischargeDepth := 6) only [h0, h1, h7, h8, hcnd, hb, i1, b1, t1, q1, ruW, putL, Nat.reduceLeDiff, xF, ruU, entryE, Nat.reduceLT, Nat.reduceAdd, Nat.reduceMul, Nat.reduceEqDiff]
    refine w_callV (f := 74) (ca := [.pointer (some ⟨c, 0, none⟩)]) (by simp only [ruU, entryE, Nat.reduceLT, Nat.reduceAdd, Nat.reduceMul, Nat.reduceEqDiff]) (by simp only [h1, ruU, entryE, Nat.reduceLT, Nat.reduceAdd, Nat.reduceMul, Nat.reduceEqDiff]) (by simp only [ruU, entryE, Nat.reduceLT, Nat.reduceAdd, Nat.reduceMul, Nat.reduceEqDiff]) (by kernel_rfl) ?_
    simp only [ruU, entryE, Nat.reduceLT, Nat.reduceAdd, Nat.reduceMul, Nat.reduceEqDiff, List.cons_append, List.nil_append]
    refine (near1_c r1 id c (ext H []) hc).to ?_
    have hdr : l.drop k = r1 :: l.drop (k + 1) := by
      rw [List.drop_eq_getElem_cons hlt]
      rw [List.getElem?_eq_getElem hlt] at hr1
      rw [Option.some.inj hr1]
    by_cases hid : r1.id = id
    · simp (maxDischargeDepth := 6) only [hid, decide_true, Try.results73, ruW, putL, Nat.reduceLeDiff, xF, ruU, entryE, Nat.reduceLT, Nat.reduceAdd, Nat.reduceMul, Nat.reduceEqDiff]
      rw [hix, hdr]
      simp only [ixOf, List.findIdx?_cons, hid, decide_true, if_true, Option.map_some, Nat.zero_add]
      exact Fin.pure rfl
    · simp (maxDischargeDepth := 6) only [h0, h1, h7, h8, hid, decide_false, ruW, putL, Nat.reduceLeDiff, xF, ruU, entryE, Nat.reduceLT, Nat.reduceAdd, Nat.reduceMul, Nat.reduceEqDiff]
      have hw : IntKind.i64.wrap ((k : Int) + 1) = ((k + 1 : Nat) : Int) := by
        have := wrap_sm (n := (k : Int) + 1) (by omega) (by omega)
        rw [show IntKind.i64.wrap ((k : Int) + 1) = _ from this]; omega
      refine loopC_next ⟨k + 1, by omega, rfl, ?_, ?_, ?_, ?_, by omega, ?_⟩ <;> try simp only [h0, h1, h7, h8, hw, ruU, entryE, Nat.reduceLT, Nat.reduceAdd, Nat.reduceMul, Nat.reduceEqDiff]
      rw [hix, hdr]
      simp only [ixOf, List.findIdx?_cons, hid, decide_false, Bool.false_eq_true, if_false, Option.map_map]
      congr 1
      funext j
      simp only [Function.comp]; omega

def nearA (l : List Rc) (id by1 : Int) : Int × Bool := match ixOf id l with
  | none => (0, false)
  | some i => ((l[((i : Int) + by1 + l.length).toNat % l.length]?.map Rc.id).getD 0, true)

theorem ixOf_lt {id : Int} : ∀ {l : List Rc} {i : Nat}, ixOf id l = some i → i < l.length
  | [], i, h => by simp [ixOf] at h
  | r :: l, i, h => by
    simp only [ixOf, List.findIdx?_cons] at h
    split at h
    · simp only [Option.some.injEq] at h; subst h; simp
    · cases e : l.findIdx? (fun r => decide (r.id = id)) with
      | none => rw [e] at h; simp at h
      | some j =>
        rw [e] at h
        simp only [Option.map_some, Option.some.injEq] at h
        have := ixOf_lt (id := id) (l := l) e
        simp only [List.length_cons]; omega

theorem get_ex {l : List Rc} {k : Nat} (h : k < l.length) : ∃ r, l[k]? = some r := ⟨_, List.getElem?_eq_getElem h⟩

set_option maxHeartbeats 1000000 in
theorem near_c (T : Nat) (x : Wn) (id by1 : Int) (H : AHeap) (hby : by1 = 1 ∨ by1 = -1) (hcap : x.rects.length ≤ 10000) (hT : WnAt H T x) :
    Pure 47 [.pointer (some ⟨T, 0, none⟩), .int .i64 id, .int .i64 by1] H (.tuple #[.int .i64 (nearA x.rects id by1).1, .bool (nearA x.rects id by1).2]) := by
  obtain ⟨b, hb⟩ : ∃ b, H.next = b := ⟨_, rfl⟩
  refine callS_fn mixed Try.func47 rfl Try.ntmps47 (Nat.le_of_ble_eq_true rfl) fun wf hsc => ?_
  have hok := wf.base
  have lT : T < H.next := wf.lt hT.1
  have lt := hT.2.lt wf
  simp (maxDischargeDepth := 6) only [hb, ruW, putL, Nat.reduceLeDiff, xF, ruU, entryE, Nat.reduceLT, Nat.reduceAdd, Nat.reduceMul, Nat.reduceEqDiff]
  have m1 : Mod [] H (ext H [⟨3, false, [.int .i64 id]⟩]) := Mod.ext hok
  refine (rects_c T x (ext H [⟨3, false, [.int .i64 id]⟩]) hcap ⟨(m1.bk lT (by simp)).trans hT.1, hT.2.mod m1 lt (by simp)⟩).to ?_
  simp (maxDischargeDepth := 6) only [hb, ruW, putL, Nat.reduceLeDiff, xF, ruU, entryE, Nat.reduceLT, Nat.reduceAdd, Nat.reduceMul, Nat.reduceEqDiff]
  have hra : RowsAt (ext H [⟨3, false, [.int .i64 id]⟩, ⟨35, true, rowsOf x.rects⟩]) (.slice (some ⟨b + 1, 0, none⟩) x.rects.length x.rects.length) x.rects := .inr ⟨_, _, _, _, rfl, by rw [bk_at hb (by simp)]; rfl⟩
  refine (indexFunc_c id (b + 0) _ x.rects (ext H [⟨3, false, [.int .i64 id]⟩, ⟨35, true, rowsOf x.rects⟩]) hra (by omega) (by rw [bk_at hb (by simp)]; rfl)).to ?_
  unfold nearA
  cases hi : ixOf id x.rects with
  | none =>
    have h0 : decide ((-1 : Int) < 0) = true := by decide
    simp (maxDischargeDepth := 6) only [ixI, h0, Try.results47, ruW, putL, Nat.reduceLeDiff, xF, ruU, entryE, Nat.reduceLT, Nat.reduceAdd, Nat.reduceMul, Nat.reduceEqDiff]
    exact Fin.pure rfl
  | some i =>
    have hlt := ixOf_lt hi
    have h0 : decide ((i : Int) < 0) = false := decide_eq_false (by omega)
    have hw1 : IntKind.i64.wrap ((i : Int) + by1) = (i : Int) + by1 := wrap_sm (by omega) (by omega)
    have hw2 : IntKind.i64.wrap ((i : Int) + by1 + (x.rects.length : Int)) = (i : Int) + by1 + (x.rects.length : Int) := wrap_sm (by omega) (by omega)
    have hne : ((x.rects.length : Int) = 0) = False := eq_false (by omega)
    generalize hK : ((i : Int) + by1 + (x.rects.length : Int)).toNat % x.rects.length = K
    have hKl : K < x.rects.length := hK ▸ Nat.mod_lt _ (by omega)
    have hm : ((i : Int) + by1 + (x.rects.length : Int)).tmod (x.rects.length : Int) = (K : Int) := by
      rw [← hK]
      obtain ⟨j, hj⟩ : ∃ j : Nat, (i : Int) + by1 + (x.rects.length : Int) = j := ⟨((i : Int) + by1 + (x.rects.length : Int)).toNat, by omega⟩
      rw [hj, Int.toNat_natCast, Int.ofNat_tmod]
    obtain ⟨r, hr⟩ := get_ex hKl
    have i1 := rows_ia (n := b + 1) (s := none) (cap := x.rects.length) (i := (K : Int)) rfl hKl
    have q1 := rows_load0 (o := true) hr
    simp (maxDischargeDepth := 6) only [ixI, h0, hw1, hw2, hne, hm, i1, q1, hb, Try.results47, ruW, putL, Nat.reduceLeDiff, xF, ruU, entryE, Nat.reduceLT, Nat.reduceAdd, Nat.reduceMul, Nat.reduceEqDiff]
    rw [hK, hr]
    exact Fin.pure rfl

theorem next_c (T : Nat) (x : Wn) (id : Int) (H : AHeap) (hcap : x.rects.length ≤ 10000) (hT : WnAt H T x) :
    Pure 19 [.pointer (some ⟨T, 0, none⟩), .int .i64 id] H (.tuple #[.int .i64 (nearA x.rects id 1).1, .bool (nearA x.rects id 1).2]) := by
  refine callS_fn mixed Try.func19 rfl Try.ntmps19 (Nat.le_of_ble_eq_true rfl) fun wf hsc => ?_
  simp (maxDischargeDepth := 6) only [ruW, putL, Nat.reduceLeDiff, xF, ruU, entryE, Nat.reduceLT, Nat.reduceAdd, Nat.reduceMul, Nat.reduceEqDiff]
  refine (near_c T x id 1 (ext H []) (.inl rfl) hcap hT).to ?_
  simp (maxDischargeDepth := 6) only [Try.results19, ruW, putL, Nat.reduceLeDiff, xF, ruU, entryE, Nat.reduceLT, Nat.reduceAdd, Nat.reduceMul, Nat.reduceEqDiff]
  exact Fin.pure rfl

theorem previous_c (T : Nat) (x : Wn) (id : Int) (H : AHeap) (hcap : x.rects.length ≤ 10000) (hT : WnAt H T x) :
    Pure 23 [.pointer (some ⟨T, 0, none⟩), .int .i64 id] H (.tuple #[.int .i64 (nearA x.rects id (-1)).1, .bool (nearA x.rects id (-1)).2]) := by
  refine callS_fn mixed Try.func23 rfl Try.ntmps23 (Nat.le_of_ble_eq_true rfl) fun wf hsc => ?_
  simp (maxDischargeDepth := 6) only [ruW, putL, Nat.reduceLeDiff, xF, ruU, entryE, Nat.reduceLT, Nat.reduceAdd, Nat.reduceMul, Nat.reduceEqDiff]
  refine (near_c T x id (-1) (ext H []) (.inr rfl) hcap hT).to ?_
  simp (maxDischargeDepth := 6) only [Try.results23, ruW, putL, Nat.reduceLeDiff, xF, ruU, entryE, Nat.reduceLT, Nat.reduceAdd, Nat.reduceMul, Nat.reduceEqDiff]
  exact Fin.pure rfl

end Go.Proofs.Ytiedpcmdimgboaa

/- What Rect comes to. -/
namespace Go.Proofs.Ytiedpcmdimgboaa
open Go.Ax
set_option linter.unusedSimpArgs false
set_option maxRecDepth 10000

def hasId (id : Int) (r : Rc) : Bool := decide (r.id = id)
def goId (id : Int) (r : Rc) : Bool := !hasId id r

theorem find_upto (id : Int) : ∀ l : List Rc, (upto (goId id) l).find? (hasId id) = l.find? (hasId id)
  | [] => rfl
  | r :: l => by
    unfold upto goId
    cases h : hasId id r
    · simp only [Bool.not_false, if_true, List.find?_cons, h]
      exact find_upto id l
    · simp [List.find?_cons, h]
theorem find_all {id : Int} {l : List Rc} (h : ∀ x ∈ l, goId id x = true) : l.find? (hasId id) = none := by
  rw [List.find?_eq_none]
  intro x hx
  have := h x hx
  unfold goId at this
  simpa using this

def lpRec (asg bod : Code) (d : Nat) : Loop := { state := .ready, pending := none, fn := 0, tmps := #[], params := ⟨[9]⟩, assign := asg, body := bod, defers := d }

def RecInv (l i c q : Nat) (id : Int) (lp : Loop) (e : RV) (rs : List Rc) (F W : List Nat) (G : AHeap) : Prop :=
  i < c ∧ c < q ∧ q < l ∧ l < G.next ∧ F = [i, c, q, l] ∧ W = [c, q, l] ∧ bk G i = some ⟨3, false, [.int .i64 id]⟩ ∧
  match rs.find? (hasId id) with
  | none => LoopAt G l lp e ∧ bk G c = some ⟨35, false, [.int .i64 0, .int .i64 0, .int .i64 0, .int .i64 0, .int .i64 0]⟩ ∧ bk G q = some ⟨4, false, [.bool false]⟩
  | some r => LoopAt G l { lp with state := .done, pending := some .ret } e ∧ bk G c = some ⟨35, false, r.cells⟩ ∧ bk G q = some ⟨4, false, [.bool true]⟩

theorem rec_step {asg bod : Code} (hab : some (asg, bod) = Try.f15.body.bind rangeOf) {l i c q d : Nat} {id : Int} {E : Env} (h3 : E 3 = .pointer (some ⟨i, 0, none⟩)) (h4 : E 4 = .pointer (some ⟨c, 0, none⟩)) (h5 : E 5 = .pointer (some ⟨q, 0, none⟩)) {rs : List Rc} {F W : List Nat} {G : AHeap} {r : Rc}
    (hI : RecInv l i c q id (lpRec asg bod d) (rvOf 16 E) rs F W G) (hgo : ∀ x ∈ rs, goId id x = true) (hok : G.base ≤ G.next) :
    CallY Try.prog l (encR r) G (fun out G' => out = .ok (.bool (goId id r)) ∧ ∃ F' W', RecInv l i c q id (lpRec asg bod d) (rvOf 16 E) (rs ++ [r]) F' W' G' ∧ Mod W G G' ∧ (∀ n ∈ F', n ∈ F ∨ G.next ≤ n) ∧ (∀ n ∈ W', n ∈ W ∨ G.next ≤ n)) := by
  obtain ⟨hic, hcq, hql, hll, rfl, rfl, hi, hI⟩ := hI
  rw [find_all hgo] at hI
  obtain ⟨hl, hc, hq⟩ := hI
  have hfa : (rs ++ [r]).find? (hasId id) = if hasId id r then some r else none := by
    rw [List.find?_append, find_all hgo]
    cases h : hasId id r <;> simp [List.find?_cons, h]
  obtain ⟨b, hb⟩ : ∃ b, G.next = b := ⟨_, rfl⟩
  have hbase : G.base ≤ b := hb ▸ hok
  refine callY_of (H := ext G []) (N := 16) (E := E) mixed hl rfl (zip_one (by decide)) ?_
  have h2 : Try.f15.body.bind rangeOf = some (_, _) := rfl
  cases hab.trans h2
  simp (maxDischargeDepth := 6) only [Rc.val, h3, h4, h5, hb, hbase, ruW, putL, Nat.reduceLeDiff, xF, ruU, entryE, Nat.reduceLT, Nat.reduceAdd, Nat.reduceMul, Nat.reduceEqDiff]
  rw [asgC_normal]
  refine ⟨_, _, (hl.of (ext_get_old hll)).get, rfl, ?_⟩
  rw [ext_setLoop hll]
  generalize hG1 : setLoop G l _ _ = G1
  have mG1 : Mod [c, q, l] G G1 := hG1 ▸ Mod.upd (by simp)
  have hb1 : G1.next = b := by rw [← hG1, setLoop_next, hb]
  have hbase1 : G1.base ≤ b := by rw [← hG1, setLoop_base]; exact hbase
  have hi1 : bk G1 i = some ⟨3, false, [.int .i64 id]⟩ := by rw [← hG1, bk_setLoop (by omega), hi]
  have hc1 : bk G1 c = some ⟨35, false, [.int .i64 0, .int .i64 0, .int .i64 0, .int .i64 0, .int .i64 0]⟩ := by rw [← hG1, bk_setLoop (by omega), hc]
  have hq1 : bk G1 q = some ⟨4, false, [.bool false]⟩ := by rw [← hG1, bk_setLoop (by omega), hq]
  have hl1 : LoopAt G1 l _ (rvOf 16 E) := hG1 ▸ LoopAt.set l _ _
  have li : i < b := by omega
  have lc : c < b := by omega
  have lq : q < b := by omega
  have hcq' : ¬ c = q := by omega
  have hqc' : ¬ q = c := by omega
  by_cases hid : r.id = id
  · have hg : goId id r = false := by simp [goId, hasId, hid]
    have hh : hasId id r = true := by simp [hasId, hid]
    rw [hg]
    simp (maxDischargeDepth := 6) only [h3, h4, h5, hb1, hi1, hc1, hq1, li, lc, lq, hbase1, hid, hcq', hqc', decide_true, ruW, putL, Nat.reduceLeDiff, xF, ruU, entryE, Nat.reduceLT, Nat.reduceAdd, Nat.reduceMul, Nat.reduceEqDiff]
    rw [rndC_ret]
    generalize hG2 : uw G1 c 0 _ = G2
    have mG2 : Mod [c, q, l] G1 G2 := hG2 ▸ Mod.uw (by simp)
    have hb2 : G2.next = b := by rw [← hG2, uw_next, hb1]
    have hc2 : bk G2 c = some ⟨35, false, r.cells⟩ := by rw [← hG2, bk_uw_eq, hc1, ← hid]; rfl
    have hi2 : bk G2 i = some ⟨3, false, [.int .i64 id]⟩ := by rw [← hG2, bk_uw_ne (by omega), hi1]
    have hq2 : bk G2 q = some ⟨4, false, [.bool false]⟩ := by rw [← hG2, bk_uw_ne (by omega), hq1]
    have hl2 : LoopAt G2 l _ (rvOf 16 E) := hl1.of (hG2 ▸ uw_get (by omega))
    generalize hG3 : uw G2 q 0 _ = G3
    have mG3 : Mod [c, q, l] G2 G3 := hG3 ▸ Mod.uw (by simp)
    have hb3 : G3.next = b := by rw [← hG3, uw_next, hb2]
    have hc3 : bk G3 c = some ⟨35, false, r.cells⟩ := by rw [← hG3, bk_uw_ne (by omega), hc2]
    have hi3 : bk G3 i = some ⟨3, false, [.int .i64 id]⟩ := by rw [← hG3, bk_uw_ne (by omega), hi2]
    have hq3 : bk G3 q = some ⟨4, false, [.bool true]⟩ := by rw [← hG3, bk_uw_eq, hq2]; rfl
    have hl3 : LoopAt G3 l _ (rvOf 16 E) := hl2.of (hG3 ▸ uw_get (by omega))
    refine ⟨_, _, (hl3.of (ext_get_old (by omega))).get, rfl, [i, c, q, l], [c, q, l], ?_⟩
    rw [ext_setLoop (by omega)]
    generalize hG4 : setLoop G3 l _ _ = G4
    have mG4 : Mod [c, q, l] G3 G4 := hG4 ▸ Mod.upd (by simp)
    have hb4 : G4.next = b := by rw [← hG4, setLoop_next, hb3]
    have hl4 : LoopAt G4 l _ (rvOf 16 E) := hG4 ▸ LoopAt.set l _ _
    have mA := ((mG1.trans mG2).trans mG3).trans mG4
    refine ⟨⟨hic, hcq, hql, by rw [ext_next, hb4]; omega, rfl, rfl, ?_, ?_⟩, mA.trans (Mod.ext (mA.ok hok)), fun n hn => .inl hn, fun n hn => .inl hn⟩
    · rw [bk_old (by omega), ← hG4, bk_setLoop (by omega), hi3]
    · rw [hfa, hh]
      exact ⟨hl4.of (ext_get_old (by omega)), by rw [bk_old (by omega), ← hG4, bk_setLoop (by omega), hc3], by rw [bk_old (by omega), ← hG4, bk_setLoop (by omega), hq3]⟩
  · have hg : goId id r = true := by simp [goId, hasId, hid]
    have hh : hasId id r = false := by simp [hasId, hid]
    rw [hg]
    simp (maxDischargeDepth := 6) only [h3, h4, h5, hb1, hi1, hc1, hq1, li, lc, lq, hbase1, hid, decide_false, ruW, putL, Nat.reduceLeDiff, xF, ruU, entryE, Nat.reduceLT, Nat.reduceAdd, Nat.reduceMul, Nat.reduceEqDiff]
    rw [rndC_normal]
    refine ⟨_, _, (hl1.of (ext_get_old (by omega))).get, rfl, [i, c, q, l], [c, q, l], ?_⟩
    rw [ext_setLoop (by omega)]
    generalize hG4 : setLoop G1 l _ _ = G4
    have mG4 : Mod [c, q, l] G1 G4 := hG4 ▸ Mod.upd (by simp)
    have hb4 : G4.next = b := by rw [← hG4, setLoop_next, hb1]
    have hl4 : LoopAt G4 l _ (rvOf 16 E) := hG4 ▸ LoopAt.set l _ _
    have mA := mG1.trans mG4
    refine ⟨⟨hic, hcq, hql, by rw [ext_next, hb4]; omega, rfl, rfl, ?_, ?_⟩, mA.trans (Mod.ext (mA.ok hok)), fun n hn => .inl hn, fun n hn => .inl hn⟩
    · rw [bk_old (by omega), ← hG4, bk_setLoop (by omega), hi1]
    · rw [hfa, hh]
      exact ⟨hl4.of (ext_get_old (by omega)), by rw [bk_old (by omega), ← hG4, bk_setLoop (by omega), hc1], by rw [bk_old (by omega), ← hG4, bk_setLoop (by omega), hq1]⟩

def yRec {asg bod : Code} (hab : some (asg, bod) = Try.f15.body.bind rangeOf) {l i c q d : Nat} {id : Int} {E : Env} (h3 : E 3 = .pointer (some ⟨i, 0, none⟩)) (h4 : E 4 = .pointer (some ⟨c, 0, none⟩)) (h5 : E 5 = .pointer (some ⟨q, 0, none⟩)) : Yld Try.prog l Rc encR (goId id) 10000 where
  Inv := RecInv l i c q id (lpRec asg bod d) (rvOf 16 E)
  sub := by
    rintro rs F W G ⟨_, _, _, _, rfl, rfl, _⟩ n hn
    exact List.mem_cons_of_mem _ hn
  dom := by
    rintro rs F W G ⟨hic, hcq, hql, hll, rfl, rfl, hi, hI⟩ n hn
    simp only [List.mem_cons, List.not_mem_nil, or_false] at hn
    have : (∃ lp e, LoopAt G l lp e) ∧ (∃ x, bk G c = some x) ∧ (∃ x, bk G q = some x) := by
      split at hI
      · exact ⟨⟨_, _, hI.1⟩, ⟨_, hI.2.1⟩, ⟨_, hI.2.2⟩⟩
      · exact ⟨⟨_, _, hI.1⟩, ⟨_, hI.2.1⟩, ⟨_, hI.2.2⟩⟩
    obtain ⟨⟨lp, e, o, hl⟩, ⟨xc, hc⟩, ⟨xq, hq⟩⟩ := this
    rcases hn with rfl | rfl | rfl | rfl
    · exact ⟨bk_ne hi, by omega⟩
    · exact ⟨bk_ne hc, by omega⟩
    · exact ⟨bk_ne hq, by omega⟩
    · exact ⟨by rw [hl]; simp, hll⟩
  loc := by
    rintro rs F W G G' ⟨hic, hcq, hql, hll, rfl, rfl, hi, hI⟩ hn hg
    refine ⟨hic, hcq, hql, by omega, rfl, rfl, (bk_get (hg i (by simp))).trans hi, ?_⟩
    have gl := hg l (by simp)
    have gc := bk_get (hg c (by simp))
    have gq := bk_get (hg q (by simp))
    split at hI
    · exact ⟨hI.1.of gl, gc.trans hI.2.1, gq.trans hI.2.2⟩
    · exact ⟨hI.1.of gl, gc.trans hI.2.1, gq.trans hI.2.2⟩
  step := fun hI hgo _ hok => rec_step hab h3 h4 h5 hI hgo hok

def rectOf (id : Int) (l : List Rc) : Rc × Bool := match l.find? (hasId id) with
  | some r => (r, true)
  | none => (⟨0, 0, 0, 0, 0⟩, false)

set_option maxHeartbeats 1000000 in
theorem rect_c (T : Nat) (x : Wn) (id : Int) (H : AHeap) (hcap : x.rects.length ≤ 10000) (hT : WnAt H T x) :
    Pure 15 [.pointer (some ⟨T, 0, none⟩), .int .i64 id] H (.tuple #[(rectOf id x.rects).1.val, .bool (rectOf id x.rects).2]) := by
  refine callS_drop (fun wf hsc => ?_) (fun _ _ => rfl)
  obtain ⟨b, hb⟩ : ∃ b, H.next = b := ⟨_, rfl⟩
  have hok := wf.base
  have hbase : H.base ≤ b := hb ▸ hok
  have lT : T < H.next := wf.lt hT.1
  have lt := hT.2.lt wf
  refine callE_fn mixed Try.func15 rfl Try.ntmps15 (Nat.le_of_ble_eq_true rfl) ?_
  simp (maxDischargeDepth := 6) only [hb, hbase, ruW, putL, Nat.reduceLeDiff, xF, ruU, entryE, Nat.reduceLT, Nat.reduceAdd, Nat.reduceMul, Nat.reduceEqDiff]
  refine (all_c T (ext H (_ :: _))).to ?_
  simp (maxDischargeDepth := 6) only [hb, hbase, ruW, putL, Nat.reduceLeDiff, xF, ruU, entryE, Nat.reduceLT, Nat.reduceAdd, Nat.reduceMul, Nat.reduceEqDiff]
  refine w_env fun E hE => ?_
  have h3 : E 3 = .pointer (some ⟨b + 0, 0, none⟩) := by rw [hE]; simp only [ruU, entryE, Nat.reduceLT, Nat.reduceAdd, Nat.reduceMul, Nat.reduceEqDiff]
  have h4 : E 4 = .pointer (some ⟨b + 1, 0, none⟩) := by rw [hE]; simp only [ruU, entryE, Nat.reduceLT, Nat.reduceAdd, Nat.reduceMul, Nat.reduceEqDiff]
  have h5 : E 5 = .pointer (some ⟨b + 2, 0, none⟩) := by rw [hE]; simp only [ruU, entryE, Nat.reduceLT, Nat.reduceAdd, Nat.reduceMul, Nat.reduceEqDiff]
  have h8 : E 8 = .func (.func 67) #[] #[.pointer (some ⟨b + 3, 0, none⟩)] := by rw [hE]; simp only [ruU, entryE, Nat.reduceLT, Nat.reduceAdd, Nat.reduceMul, Nat.reduceEqDiff]
  clear hE
  generalize hX : ext H _ = X
  have mX : Mod [] H X := hX ▸ Mod.ext hok
  have hbX : X.next = b + 4 := by rw [← hX, ext_next, hb]; rfl
  have hiX : bk X (b + 0) = some ⟨3, false, [.int .i64 id]⟩ := by rw [← hX, bk_at hb (by simp)]; rfl
  have hcX : bk X (b + 1) = some ⟨35, false, [.int .i64 0, .int .i64 0, .int .i64 0, .int .i64 0, .int .i64 0]⟩ := by rw [← hX, bk_at hb (by simp)]; rfl
  have hqX : bk X (b + 2) = some ⟨4, false, [.bool false]⟩ := by rw [← hX, bk_at hb (by simp)]; rfl
  have htX : bk X (b + 3) = some ⟨24, false, [.pointer (some ⟨T, 0, none⟩)]⟩ := by rw [← hX, bk_at hb (by simp)]; rfl
  refine w_rangeK (f := 67) (ca := [.pointer (some ⟨b + 3, 0, none⟩)]) (mX.ok hok) (by decide) h8 (by kernel_rfl) fun K hlp hdf mK hbK => ?_
  replace mK := mK []
  rw [hbX] at hlp hdf hbK ⊢
  have mHK := mX.trans mK
  have hI : (yRec (l := b + 4 + 1) (i := b + 0) (c := b + 1) (q := b + 2) (id := id) (d := b + 4) rfl h3 h4 h5).Inv [] [b + 0, b + 1, b + 2, b + 4 + 1] [b + 1, b + 2, b + 4 + 1] K :=
    ⟨by omega, by omega, by omega, by omega, rfl, rfl, (mK.bk (by omega) (by simp)).trans hiX, hlp, (mK.bk (by omega) (by simp)).trans hcX, (mK.bk (by omega) (by simp)).trans hqX⟩
  refine (allf_c _ (b + 3) T x _ _ K hI hcap (mHK.ok hok) ((mK.bk (by omega) (by simp)).trans htX) (by omega) ⟨(mHK.bk lT (by simp)).trans hT.1, hT.2.mod mHK lt (by simp)⟩ (mHK.lt lT) (fun n hn => mHK.lt (lt n hn)) (fun n hn h => ?_)).mono ?_
  · have := lt n hn
    simp only [List.mem_cons, List.not_mem_nil, or_false] at h
    omega
  rintro _ K1 ⟨rfl, F1, W1, ⟨_, _, _, hll1, rfl, rfl, hi1, hI1⟩, m1, hF1, hW1⟩
  rw [find_upto] at hI1
  unfold rectOf
  have hdK1 : K1.get (b + 4) = K.get (b + 4) := m1.get (b + 4) (by omega) (by simp)
  have e1 := mHK.step m1 hok (fun n hn => by simp only [List.mem_cons, List.not_mem_nil, or_false] at hn; right; omega)
  cases hfd : x.rects.find? (hasId id) with
  | none =>
    rw [hfd] at hI1
    obtain ⟨hl1, hc1, hq1⟩ := hI1
    refine ⟨_, _, _, hl1.get, by simp [lpRec], rfl, ?_⟩
    generalize hK2 : setLoop K1 (b + 4 + 1) _ _ = K2
    have hbK2 : K2.next = K1.next := hK2 ▸ rfl
    have hc2 : bk K2 (b + 1) = _ := (hK2 ▸ bk_setLoop (by omega) : bk K2 (b + 1) = bk K1 (b + 1)).trans hc1
    have hq2 : bk K2 (b + 2) = _ := (hK2 ▸ bk_setLoop (by omega) : bk K2 (b + 2) = bk K1 (b + 2)).trans hq1
    have mK2 : Mod [b + 4 + 1] K1 K2 := hK2 ▸ Mod.upd (by simp)
    have hdK2 : K2.get (b + 4) = K1.get (b + 4) := hK2 ▸ setLoop_get (by omega)
    have hbs : K2.base ≤ K2.next := mK2.ok (m1.ok (mHK.ok hok))
    rw [show K2 = ext K2 [] from rfl]
    have l1 : b + 1 < K2.next := by omega
    have l2 : b + 2 < K2.next := by omega
    simp (maxDischargeDepth := 6) only [h3, h4, h5, hc2, hq2, hbs, l1, l2, ne_eq, Nat.add_left_cancel_iff, Nat.reduceEqDiff, not_false_eq_true, ruW, putL, Nat.reduceLeDiff, xF, ruU, entryE, Nat.reduceLT, Nat.reduceAdd, Nat.reduceMul, Nat.reduceEqDiff]
    generalize hK3 : uw K2 (b + 1) 0 _ = K3
    have mK3 : Mod [b + 1, b + 2] K2 K3 := hK3 ▸ Mod.uw (by simp)
    have hb3 : K3.next = K2.next := by rw [← hK3, uw_next]
    have hc3 : bk K3 (b + 1) = some ⟨35, false, (Rc.mk 0 0 0 0 0).cells⟩ := by rw [← hK3, bk_uw_eq, hc2]; rfl
    have hq3 : bk K3 (b + 2) = _ := (hK3 ▸ bk_uw_ne (by omega) : bk K3 (b + 2) = bk K2 (b + 2)).trans hq2
    have hd3 : K3.get (b + 4) = K2.get (b + 4) := hK3 ▸ uw_get (by omega)
    generalize hK4 : uw K3 (b + 2) 0 _ = K4
    have m4 : Mod [b + 1, b + 2] K2 K4 := mK3.trans (hK4 ▸ Mod.uw (by simp))
    have hb4 : K4.next = K2.next := by rw [← hK4, uw_next, hb3]
    have hc4 : bk K4 (b + 1) = _ := (hK4 ▸ bk_uw_ne (by omega) : bk K4 (b + 1) = bk K3 (b + 1)).trans hc3
    have hq4 : bk K4 (b + 2) = some ⟨4, false, [.bool false]⟩ := by rw [← hK4, bk_uw_eq, hq3]; rfl
    have hd4 : K4.get (b + 4) = K2.get (b + 4) := (hK4 ▸ uw_get (by omega) : K4.get (b + 4) = K3.get (b + 4)).trans hd3
    have hKd : K4.get (b + 4) = some ⟨.deferred (some []), false, ⟨[], 0⟩⟩ := hd4.trans (hdK2.trans (hdK1.trans hdf))
    refine lv_mark ⟨_, _, hKd⟩ ?_
    rw [ext_nil]
    generalize hK5 : K4.upd (b + 4) _ = K5
    have mK5 : Mod [b + 4] K4 K5 := hK5 ▸ Mod.upd (by simp)
    have hb5 : K5.next = K2.next := (hK5 ▸ rfl : K5.next = K4.next).trans hb4
    have hc5 : bk K5 (b + 1) = _ := (bk_get (by rw [← hK5, AHeap.get_upd, if_neg (by omega)])).trans hc4
    have hq5 : bk K5 (b + 2) = _ := (bk_get (by rw [← hK5, AHeap.get_upd, if_neg (by omega)])).trans hq4
    simp only [Rc.cells] at hc5
    rw [show K5 = ext K5 [] from rfl]
    simp (maxDischargeDepth := 6) only [Try.results15, h4, h5, hb5, l1, l2, hc5, hq5, ruW, putL, Nat.reduceLeDiff, xF, ruU, entryE, Nat.reduceLT, Nat.reduceAdd, Nat.reduceMul, Nat.reduceEqDiff]
    refine ⟨rfl, ?_⟩
    refine ((e1.step mK2 hok (fun n hn => ?_)).step m4 hok (fun n hn => ?_)).step mK5 hok (fun n hn => ?_) <;> (simp only [List.mem_cons, List.not_mem_nil, or_false] at hn; right; omega)
  | some r =>
    rw [hfd] at hI1
    obtain ⟨hl1, hc1, hq1⟩ := hI1
    refine ⟨_, _, _, hl1.get, by simp [lpRec], rfl, ?_⟩
    generalize hK2 : setLoop K1 (b + 4 + 1) _ _ = K2
    have hbK2 : K2.next = K1.next := hK2 ▸ rfl
    have hc2 : bk K2 (b + 1) = _ := (hK2 ▸ bk_setLoop (by omega) : bk K2 (b + 1) = bk K1 (b + 1)).trans hc1
    have hq2 : bk K2 (b + 2) = _ := (hK2 ▸ bk_setLoop (by omega) : bk K2 (b + 2) = bk K1 (b + 2)).trans hq1
    have mK2 : Mod [b + 4 + 1] K1 K2 := hK2 ▸ Mod.upd (by simp)
    have hdK2 : K2.get (b + 4) = K1.get (b + 4) := hK2 ▸ setLoop_get (by omega)
    rw [show K2 = ext K2 [] from rfl]
    have l1 : b + 1 < K2.next := by omega
    have l2 : b + 2 < K2.next := by omega
    simp (maxDischargeDepth := 6) only [ruW, putL, Nat.reduceLeDiff, xF, ruU, entryE, Nat.reduceLT, Nat.reduceAdd, Nat.reduceMul, Nat.reduceEqDiff]
    obtain ⟨K4, hK4⟩ : ∃ K4, K4 = K2 := ⟨_, rfl⟩
    rw [← hK4]
    have m4 : Mod [b + 1] K2 K4 := hK4 ▸ Mod.refl
    have hb4 : K4.next = K2.next := by rw [hK4]
    have hc4 : bk K4 (b + 1) = _ := hK4 ▸ hc2
    have hq4 : bk K4 (b + 2) = _ := hK4 ▸ hq2
    have hd4 : K4.get (b + 4) = K2.get (b + 4) := by rw [hK4]
    have hKd : K4.get (b + 4) = some ⟨.deferred (some []), false, ⟨[], 0⟩⟩ := hd4.trans (hdK2.trans (hdK1.trans hdf))
    refine lv_mark ⟨_, _, hKd⟩ ?_
    rw [ext_nil]
    generalize hK5 : K4.upd (b + 4) _ = K5
    have mK5 : Mod [b + 4] K4 K5 := hK5 ▸ Mod.upd (by simp)
    have hb5 : K5.next = K2.next := (hK5 ▸ rfl : K5.next = K4.next).trans hb4
    have hc5 : bk K5 (b + 1) = _ := (bk_get (by rw [← hK5, AHeap.get_upd, if_neg (by omega)])).trans hc4
    have hq5 : bk K5 (b + 2) = _ := (bk_get (by rw [← hK5, AHeap.get_upd, if_neg (by omega)])).trans hq4
    simp only [Rc.cells] at hc5
    rw [show K5 = ext K5 [] from rfl]
    simp (maxDischargeDepth := 6) only [Try.results15, h4, h5, hb5, l1, l2, hc5, hq5, ruW, putL, Nat.reduceLeDiff, xF, ruU, entryE, Nat.reduceLT, Nat.reduceAdd, Nat.reduceMul, Nat.reduceEqDiff]
    refine ⟨rfl, ?_⟩
    refine ((e1.step mK2 hok (fun n hn => ?_)).step m4 hok (fun n hn => ?_)).step mK5 hok (fun n hn => ?_) <;> (simp only [List.mem_cons, List.not_mem_nil, or_false] at hn; right; omega)

end Go.Proofs.Ytiedpcmdimgboaa

/- What Copy comes to. -/
namespace Go.Proofs.Ytiedpcmdimgboaa
open Go.Ax
set_option linter.unusedSimpArgs false
set_option maxRecDepth 10000

def Tr.ty : Tr → TypeId
  | .leaf _ _ => 63
  | .split _ _ _ _ _ => 81
def Tr.cf : Tr → FuncId
  | .leaf _ _ => 106
  | .split _ _ _ _ _ => 107
theorem Tr.val_eq (t : Tr) : t.val = .iface t.ty (.pointer (some ⟨t.root, 0, none⟩)) := by cases t <;> rfl
theorem copied_enter {nm : String} (h1 : ∀ (G : AHeap) (n : Nat), aInvoke Try.prog G (.method nm) [.iface 63 (.pointer (some ⟨n, 0, none⟩))] [] = some (.enter 106 [.pointer (some ⟨n, 0, none⟩)])) (h2 : ∀ (G : AHeap) (n : Nat), aInvoke Try.prog G (.method nm) [.iface 81 (.pointer (some ⟨n, 0, none⟩))] [] = some (.enter 107 [.pointer (some ⟨n, 0, none⟩)]))
    (t : Tr) (G : AHeap) : aInvoke Try.prog G (.method nm) [t.val] [] = some (.enter t.cf [.pointer (some ⟨t.root, 0, none⟩)]) := by
  cases t
  · exact h1 G _
  · exact h2 G _
theorem Tr.abs_size_eq {t t' : Tr} (h : t'.abs = t.abs) : t'.size = t.size := by rw [abs_size, abs_size, h]

def CopyPost (H : AHeap) (t : Tr) (out : Out) (H1 : AHeap) : Prop :=
  ∃ t' : Tr, out = .ok t'.val ∧ Mod [] H H1 ∧ TreeAt H1 t' ∧ t'.abs = t.abs ∧ t'.blks.Nodup ∧ ∀ m ∈ t'.blks, H.next ≤ m ∧ m < H1.next

set_option maxHeartbeats 1000000 in
theorem copied_c : ∀ (t : Tr) (H : AHeap), H.base ≤ H.next → TreeAt H t → (∀ n ∈ t.blks, n < H.next) → CallA Try.prog t.cf [.pointer (some ⟨t.root, 0, none⟩)] H (CopyPost H t)
  | .leaf n id, H, hok, h, hlt => by
    obtain ⟨b, hb⟩ : ∃ b, H.next = b := ⟨_, rfl⟩
    have hn : n < b := hb ▸ hlt n (by simp [Tr.blks])
    simp only [TreeAt] at h
    refine callE_fn mixed Try.func106 rfl Try.ntmps106 (Nat.le_of_ble_eq_true rfl) ?_
    simp (maxDischargeDepth := 6) only [Tr.root, hb, hn, h, Try.results106, ruW, putL, Nat.reduceLeDiff, xF, ruU, entryE, Nat.reduceLT, Nat.reduceAdd, Nat.reduceMul, Nat.reduceEqDiff]
    refine ⟨.leaf (b + 0) id, rfl, Mod.ext hok, ?_, rfl, by simp [Tr.blks], ?_⟩
    · show bk _ _ = _
      rw [bk_at hb (by simp)]; rfl
    · intro m hm
      simp only [Tr.blks, List.mem_singleton] at hm
      subst hm
      rw [ext_next, hb]; simp
  | .split n be f l r, H, hok, h, hlt => by
    obtain ⟨b, hb⟩ : ∃ b, H.next = b := ⟨_, rfl⟩
    have hn : n < b := hb ▸ hlt n (by simp [Tr.blks])
    have hll : ∀ m ∈ l.blks, m < H.next := fun m hm => hlt m (by simp [Tr.blks, hm])
    have hlr : ∀ m ∈ r.blks, m < H.next := fun m hm => hlt m (by simp [Tr.blks, hm])
    obtain ⟨hs, hl, hr⟩ := h
    have ihl := copied_c l
    have ihr := copied_c r
    have il : idsV l.val = [l.root] := by rw [Tr.val_eq]; rfl
    have ir : idsV r.val = [r.root] := by rw [Tr.val_eq]; rfl
    have rl : l.root < b := hb ▸ hll _ l.root_mem
    have rr : r.root < b := hb ▸ hlr _ r.root_mem
    refine callE_fn mixed Try.func107 rfl Try.ntmps107 (Nat.le_of_ble_eq_true rfl) ?_
    simp (maxDischargeDepth := 6) only [Tr.root, ruW, putL, Nat.reduceLeDiff, xF, ruU, entryE, Nat.reduceLT, Nat.reduceAdd, Nat.reduceMul, Nat.reduceEqDiff]
    refine w_drawB [(22, 13), (22, 19), (19, 13), (24, 22), (24, 19), (24, 13), (23, 22), (20, 13), (20, 19), (21, 13), (21, 19), (23, 13), (23, 19)] [] (by kernel_rfl) (by kernel_rfl) rfl fun ops anc hA hG => ?_
    simp only [all2_cons] at hA
    simp (maxDischargeDepth := 6) only [hb, hn, hs, il, hA, ruD, ruW, putL, Nat.reduceLeDiff, xF, ruU, entryE, Nat.reduceLT, Nat.reduceAdd, Nat.reduceMul, Nat.reduceEqDiff]
    rw [wd_invoke]
    have hrn := restrict_next H l.blks
    obtain ⟨_, g1, hc1, t1, rfl, m1, a1, e1, nd1, lt1⟩ := ihl (H.restrict l.blks) (by rw [hrn.1, hrn.2.1]; exact Nat.le_refl _) (hl.of fun m hm => by rw [restrict_get, if_pos hm]) (fun m hm => by rw [hrn.1]; exact hll m hm)
    refine genV_modE (H := ext H []) (W := []) (f := l.cf) (vals := [.pointer (some ⟨l.root, 0, none⟩)]) l.blks hok (fun G => invoke_enter (by simp only [ruU, entryE, Nat.reduceLT, Nat.reduceAdd, Nat.reduceMul, Nat.reduceEqDiff]) (by simp only [ruU, entryE, Nat.reduceLT, Nat.reduceAdd, Nat.reduceMul, Nat.reduceEqDiff]) (by simp only [ruU, entryE, Nat.reduceLT, Nat.reduceAdd, Nat.reduceMul, Nat.reduceEqDiff]; exact copied_enter (fun G n => by kernel_rfl) (fun G n => by kernel_rfl) l G)) hl.ne hll (by simp) (v := t1.val) (g := g1) hc1 m1 (by simp only [all2_cons, hA, true_or, and_true, all2_nil, List.not_mem_nil, false_implies, implies_true, not_false_eq_true, Nat.le_refl, or_true]) ?_
    intro X1 D1 mX1 _ hN1 hX1n hD1
    have hD1 : D1 = [] := List.eq_nil_iff_forall_not_mem.2 fun m hm => absurd (hD1 m hm) (by simp)
    have hnx : n < H.next + 0 := by omega
    have hrx : r.root < H.next + 0 := by omega
    rw [hrn.1] at lt1
    have mX1' : Mod [] H X1 := mX1
    have t1X : TreeAt X1 t1 := a1.of fun m hm => hN1 m (lt1 m hm).1 (lt1 m hm).2
    have hs1 : bk X1 n = _ := (mX1'.bk (hb ▸ hn) (by simp)).trans hs
    have hrX : TreeAt X1 r := hr.mod mX1' hlr (by simp)
    have ok1 := mX1'.ok hok
    obtain ⟨b1, hb1⟩ : ∃ b1, X1.next = b1 := ⟨_, rfl⟩
    have hbb : b ≤ b1 := by rw [← hb, ← hb1]; exact mX1'.next
    have hn1 : n < b1 := by omega
    rw [show X1 = ext X1 [] from rfl]
    simp (maxDischargeDepth := 6) only [hb1, hn1, hs1, ir, rr, hA, hD1, hnx, hrx, put_at, ruD, ruW, putL, Nat.reduceLeDiff, xF, ruU, entryE, Nat.reduceLT, Nat.reduceAdd, Nat.reduceMul, Nat.reduceEqDiff]
    rw [wd_invoke]
    have hrn2 := restrict_next X1 r.blks
    obtain ⟨_, g2, hc2, t2, rfl, m2, a2, e2, nd2, lt2⟩ := ihr (X1.restrict r.blks) (by rw [hrn2.1, hrn2.2.1]; exact Nat.le_refl _) (hrX.of fun m hm => by rw [restrict_get, if_pos hm]) (fun m hm => by rw [hrn2.1]; exact mX1'.lt (hlr m hm))
    refine genV_modE (H := ext X1 []) (W := []) (f := r.cf) (vals := [.pointer (some ⟨r.root, 0, none⟩)]) r.blks ok1 (fun G => invoke_enter (by simp only [ruU, entryE, Nat.reduceLT, Nat.reduceAdd, Nat.reduceMul, Nat.reduceEqDiff]) (by simp only [ruU, entryE, Nat.reduceLT, Nat.reduceAdd, Nat.reduceMul, Nat.reduceEqDiff]) (by simp only [ruU, entryE, Nat.reduceLT, Nat.reduceAdd, Nat.reduceMul, Nat.reduceEqDiff]; exact copied_enter (fun G n => by kernel_rfl) (fun G n => by kernel_rfl) r G)) hrX.ne (fun m hm => mX1'.lt (hlr m hm)) (by simp) (v := t2.val) (g := g2) hc2 m2 (by simp only [all2_cons, hA, true_or, and_true, all2_nil, List.not_mem_nil, false_implies, implies_true, not_false_eq_true, Nat.le_refl, or_true]) ?_
    intro X2 D2 mX2 _ hN2 hX2n hD2
    have hD2 : D2 = [] := List.eq_nil_iff_forall_not_mem.2 fun m hm => absurd (hD2 m hm) (by simp)
    rw [hrn2.1] at lt2
    have mX2' : Mod [] X1 X2 := mX2
    have t2X : TreeAt X2 t2 := a2.of fun m hm => hN2 m (lt2 m hm).1 (lt2 m hm).2
    have t1X2 : TreeAt X2 t1 := t1X.mod mX2' (fun m hm => by rw [hX1n]; exact (lt1 m hm).2) (by simp)
    have ok2 := mX2'.ok ok1
    obtain ⟨b2, hb2⟩ : ∃ b2, X2.next = b2 := ⟨_, rfl⟩
    have i1 : idsV t1.val = [t1.root] := by rw [Tr.val_eq]; rfl
    have i2 : idsV t2.val = [t2.root] := by rw [Tr.val_eq]; rfl
    have r1 : t1.root < b2 := by have := (lt1 _ t1.root_mem).2; have := mX2'.next; omega
    have r2 : t2.root < b2 := by have := (lt2 _ t2.root_mem).2; omega
    rw [show X2 = ext X2 [] from rfl]
    rw [Tr.val_eq t1, Tr.val_eq t2]
    simp (maxDischargeDepth := 6) only [hb1, hb2, hA, hD1, hD2, r1, r2, put_at, Try.results107, ruD, ruW, putL, Nat.reduceLeDiff, xF, ruU, entryE, Nat.reduceLT, Nat.reduceAdd, Nat.reduceMul, Nat.reduceEqDiff]
    have mE := (mX1'.trans mX2').trans (Mod.ext (L := [⟨80, false, [.bool be, .int .i64 f, t1.val, t2.val]⟩]) ok2)
    have n1 : H.next ≤ X1.next := mX1'.next
    have n2 : X1.next ≤ X2.next := mX2'.next
    rw [← Tr.val_eq, ← Tr.val_eq]
    refine ⟨.split (b2 + 0) be f t1 t2, rfl, mE, ⟨?_, ?_, ?_⟩, ?_, ?_, ?_⟩
    · rw [bk_at hb2 (by simp)]; rfl
    · exact t1X2.mod (Mod.ext (W := []) ok2) (fun m hm => by have := (lt1 m hm).2; omega) (by simp)
    · exact t2X.mod (Mod.ext (W := []) ok2) (fun m hm => by have := (lt2 m hm).2; omega) (by simp)
    · simp only [Tr.abs, e1, e2]
    · simp only [Tr.blks, List.nodup_cons, List.nodup_append, List.mem_append, not_or]
      refine ⟨⟨fun hm => ?_, fun hm => ?_⟩, nd1, nd2, fun m hm m' hm' he => ?_⟩
      · have := (lt1 _ hm).2; omega
      · have := (lt2 _ hm).2; omega
      · have := (lt1 _ hm).2; have := (lt2 _ hm').1; omega
    · intro m hm
      rw [ext_next, hb2]
      simp only [Tr.blks, List.mem_cons, List.mem_append, List.length_cons, List.length_nil] at hm ⊢
      rcases hm with rfl | hm | hm
      · omega
      · have := lt1 _ hm; omega
      · have := lt2 _ hm; omega

def NewPost (H : AHeap) (s : Ast) (out : Out) (H1 : AHeap) : Prop :=
  ∃ T' x', out = .ok (.pointer (some ⟨T', 0, none⟩)) ∧ Mod [] H H1 ∧ Good H1 T' x' ∧ x'.abs = s ∧ H.next ≤ T' ∧ ∀ n ∈ x'.root.blks, H.next ≤ n

set_option maxHeartbeats 1000000 in
theorem copy_c (T : Nat) (x : Wn) (H : AHeap) (g : Good H T x) : CallA Try.prog 25 [.pointer (some ⟨T, 0, none⟩)] H (NewPost H x.abs) := by
  obtain ⟨b, hb⟩ : ∃ b, H.next = b := ⟨_, rfl⟩
  have h1 := g.wn.1
  simp only [Wn.cells] at h1
  have hT : T < b := hb ▸ g.lt
  have hbase : H.base ≤ b := hb ▸ g.ok
  have hro : x.root.root < b := hb ▸ g.lts _ x.root.root_mem
  refine callE_fn mixed Try.func25 rfl Try.ntmps25 (Nat.le_of_ble_eq_true rfl) ?_
  simp (maxDischargeDepth := 6) only [ruW, putL, Nat.reduceLeDiff, xF, ruU, entryE, Nat.reduceLT, Nat.reduceAdd, Nat.reduceMul, Nat.reduceEqDiff]
  refine (made_c T x (ext H []) g.wn).to ?_
  have hv := x.root.val_eq
  rw [hv] at h1
  simp (maxDischargeDepth := 6) only [hb, hbase, hT, h1, hro, ruW, putL, Nat.reduceLeDiff, xF, ruU, entryE, Nat.reduceLT, Nat.reduceAdd, Nat.reduceMul, Nat.reduceEqDiff]
  rw [← hv]
  generalize hX : ext H _ = X
  have mX : Mod [] H X := hX ▸ Mod.ext g.ok
  have hX1 : X.next = b + 1 := by rw [← hX, ext_next, hb]; rfl
  have hbX : bk X (b + 0) = some ⟨69, false, [x.root.val, .int .i64 x.h, .int .i64 x.w, .int .i64 x.last, .int .i64 x.sel]⟩ := by rw [← hX, bk_at hb (by simp)]; rfl
  have gX := g.mod mX (by simp) (by simp)
  refine w_invoke (f := x.root.cf) (vals := [.pointer (some ⟨x.root.root, 0, none⟩)]) (by simp only [ruU, entryE, Nat.reduceLT, Nat.reduceAdd, Nat.reduceMul, Nat.reduceEqDiff]) (by simp only [ruU, entryE, Nat.reduceLT, Nat.reduceAdd, Nat.reduceMul, Nat.reduceEqDiff]) (by simp only [ruU, entryE, Nat.reduceLT, Nat.reduceAdd, Nat.reduceMul, Nat.reduceEqDiff]; exact copied_enter (fun G n => by kernel_rfl) (fun G n => by kernel_rfl) x.root X) ?_
  refine (copied_c x.root X gX.ok gX.wn.2 gX.lts).mono ?_
  rintro _ Y ⟨t, rfl, mY, tY, ha, hnd, hlt⟩
  have hbY : bk Y (b + 0) = _ := (mY.bk (by omega) (by simp)).trans hbX
  have hn : X.next ≤ Y.next := mY.next
  have lbY : b + 0 < Y.next := by omega
  have ok := mY.ok gX.ok
  have hrt := (hlt _ t.root_mem).2
  have htv := t.val_eq
  rw [htv]
  rw [show Y = ext Y [] from rfl]
  simp (maxDischargeDepth := 6) only [hbY, lbY, ok, hrt, Try.results25, ruW, putL, Nat.reduceLeDiff, xF, ruU, entryE, Nat.reduceLT, Nat.reduceAdd, Nat.reduceMul, Nat.reduceEqDiff]
  rw [← htv]
  have hmY := (mX.trans mY).step (Mod.uw (n := b + 0) (off := 0) (vs := [t.val]) (W := [b + 0]) (by simp)) g.ok (fun n hn => by simp only [List.mem_singleton] at hn; right; omega)
  rw [ext_nil]
  refine ⟨b + 0, ⟨t, x.h, x.w, x.last, x.sel⟩, rfl, hmY, ⟨⟨?_, ?_⟩, ?_, ?_, hnd, ?_, hmY.ok g.ok, ?_⟩, ?_, by omega, ?_⟩
  · rw [bk_uw_eq, hbY]; rfl
  · exact tY.of fun m hm => uw_get (by have := (hlt m hm).1; omega)
  · rw [uw_next]; exact lbY
  · intro m hm; rw [uw_next]; exact (hlt m hm).2
  · intro hm; have := (hlt _ hm).1; omega
  · show t.size < 10000
    rw [Tr.abs_size_eq ha]; exact g.sz
  · simp only [Wn.abs, ha]
  · intro m hm
    have := (hlt m hm).1; omega

end Go.Proofs.Ytiedpcmdimgboaa

/- What Concat, bars and Bars come to. -/
namespace Go.Proofs.Ytiedpcmdimgboaa
open Go.Ax
set_option linter.unusedSimpArgs false
set_option maxRecDepth 10000

def z5 : List Value := [.int .i64 0, .int .i64 0, .int .i64 0, .int .i64 0, .int .i64 0]

theorem grow_c (n : Nat) (h0 : 0 < n) (hs : n ≤ 10000) (H : AHeap) : CallS Try.prog 87 [.slice none 0 0, .int .i64 (n : Int)] H (.ok (.slice (some ⟨H.next + 0, 0, none⟩) 0 n)) (ext H [⟨35, true, zerosL z5 n⟩]) := by
  obtain ⟨b, hb⟩ : ∃ b, H.next = b := ⟨_, rfl⟩
  refine callS_fn mixed Try.func87 rfl Try.ntmps87 (Nat.le_of_ble_eq_true rfl) fun wf hsc => ?_
  have hc1 : decide ((n : Int) < 0) = false := decide_eq_false (by omega)
  have hc2 : decide ((0 : Int) < (n : Int)) = true := decide_eq_true (by omega)
  have hcap := bt_capN (P := Try.prog) (H := ext H []) (t := 32) (e := 35) (l := 0) (c := 0) (by kernel_rfl)
  have hw0 : IntKind.i64.wrap ((0 : Int) - 0) = 0 := by decide
  have hw1 : IntKind.i64.wrap ((n : Int) - 0) = (n : Int) := by
    have := wrap_sm (n := (n : Int) - 0) (by omega) (by omega)
    rw [show IntKind.i64.wrap ((n : Int) - 0) = _ from this]; omega
  have hsl := sl_nil (P := Try.prog) (H := ext H []) (t := 32) (e := 35) (sz := 5) (l := 0) (c := 0) (by kernel_rfl) (by kernel_rfl)
  have happ := app_zero (P := Try.prog) (H := ext H []) (st := 32) (xt := 3) (e := 35) (sz := 5) (by1 := 40) (n := n) (z := .agg ⟨z5⟩) (by kernel_rfl) (by kernel_rfl) (by kernel_rfl) (by kernel_rfl) rfl (by kernel_rfl) h0 (zerosL_one rfl n) (by simp only [small, Bool.and_eq_true, Nat.ble_eq]; omega)
  rw [show (Value.agg ⟨z5⟩).cells.toList = z5 from rfl] at happ
  have hsc5 : scbL b (zerosL z5 n) = true := zerosL_sc rfl n
  have hsl2 := sl_open (P := Try.prog) (H := ext H [⟨35, true, zerosL z5 n⟩]) (t := 32) (e := 35) (sz := 5) (n := b + 0) (off := 0) (l := n) (c := n) (by kernel_rfl) (by kernel_rfl) (by rw [bk_at hb (by simp)]; rfl) rfl
  simp (maxDischargeDepth := 6) only [hc1, hc2, hcap, hw0, hw1, hsl, happ, hb, hsc5, hsl2, Int.natCast_zero, Try.results87, ruW, putL, Nat.reduceLeDiff, xF, ruU, entryE, Nat.reduceLT, Nat.reduceAdd, Nat.reduceMul, Nat.reduceEqDiff]
  exact Fin.same

theorem grow0_c (H : AHeap) : Pure 87 [.slice none 0 0, .int .i64 0] H (.slice none 0 0) := by
  refine callS_fn mixed Try.func87 rfl Try.ntmps87 (Nat.le_of_ble_eq_true rfl) fun wf hsc => ?_
  have hc1 : decide ((0 : Int) < 0) = false := by decide
  have hcap := bt_capN (P := Try.prog) (H := ext H []) (t := 32) (e := 35) (l := 0) (c := 0) (by kernel_rfl)
  have hw0 : IntKind.i64.wrap ((0 : Int) - 0) = 0 := by decide
  simp (maxDischargeDepth := 6) only [hc1, hcap, hw0, Int.natCast_zero, Try.results87, ruW, putL, Nat.reduceLeDiff, xF, ruU, entryE, Nat.reduceLT, Nat.reduceAdd, Nat.reduceMul, Nat.reduceEqDiff]
  exact Fin.pure rfl

def rowsV (N : Nat) (l : List Rc) : Value := if l = [] then .slice none 0 0 else .slice (some ⟨N, 0, none⟩) l.length l.length
def rowsM (l : List Rc) : List Bl := if l = [] then [] else [⟨35, true, rowsOf l⟩]

theorem rowsAt_len {H : AHeap} {v : Value} {l : List Rc} (h : RowsAt H v l) : lenV v = some l.length ∧ ∃ a c, v = .slice a l.length c := by
  rcases h with ⟨rfl, rfl⟩ | ⟨n, s, c, o, rfl, _⟩
  · exact ⟨rfl, _, _, rfl⟩
  · exact ⟨rfl, _, _, rfl⟩
theorem rowsAt_first {H : AHeap} {v : Value} {l : List Rc} (h : RowsAt H v l) : firstC H 5 l.length v = some (rowsOf l) := by
  rcases h with ⟨rfl, rfl⟩ | ⟨n, s, c, o, rfl, hb⟩
  · rfl
  · rw [first_bk hb (by simp only [Nat.zero_add, rowsOf_length, Nat.le_refl])]
    simp only [List.drop_zero]
    rw [List.take_of_length_le (by rw [rowsOf_length]; exact Nat.le_refl _)]
theorem RowsAt.to {H G : AHeap} {v : Value} {l : List Rc} (h : RowsAt H v l) (hg : ∀ n b, bk H n = some b → bk G n = some b) : RowsAt G v l := by
  rcases h with ⟨rfl, rfl⟩ | ⟨n, s, c, o, rfl, hb⟩
  · exact .inl ⟨rfl, rfl⟩
  · exact .inr ⟨n, s, c, o, rfl, hg n _ hb⟩
theorem rowsOf_append (l m : List Rc) : rowsOf (l ++ m) = rowsOf l ++ rowsOf m := by simp [rowsOf]

theorem vs_ia {len cap n : Nat} {s : Option Nat} {i : Int} {k : Nat} (hi : i = k) (hk : k < len) : aIndexAddr Try.prog 124 (.slice (some ⟨n, 0, s⟩) len cap) (.int .i64 i) = some (.pointer (some ⟨n, 0 + k, none⟩)) := by
  subst hi
  rw [ia_slice (e := 32) (sz := 1) (by kernel_rfl) (by kernel_rfl) (by omega) (by omega)]
  simp

theorem flat_take {ls : List (List Rc)} {k : Nat} {l : List Rc} (h : ls[k]? = some l) : (ls.take (k + 1)).flatten = (ls.take k).flatten ++ l := by
  rw [List.take_add_one, h]
  simp
theorem flat_le (ls : List (List Rc)) (k : Nat) : ((ls.take k).flatten).length ≤ ls.flatten.length := by
  conv => rhs; rw [← List.take_append_drop k ls]
  rw [List.flatten_append, List.length_append]; omega

set_option maxHeartbeats 1000000 in
theorem concat_c (a m : Nat) (vs : List Value) (ls : List (List Rc)) (H : AHeap) (ha : bk H a = some ⟨32, false, vs⟩) (hm : vs.length = m) (hlm : ls.length = m) (hr : ∀ (k : Nat) v l, vs[k]? = some v → ls[k]? = some l → RowsAt H v l) (hcap : ls.flatten.length ≤ 10000) (hm2 : m ≤ 10000) :
    CallS Try.prog 75 [.slice (some ⟨a, 0, some 0⟩) m m] H (.ok (rowsV H.next ls.flatten)) (ext H (rowsM ls.flatten)) := by
  obtain ⟨b, hb⟩ : ∃ b, H.next = b := ⟨_, rfl⟩
  refine callS_fn mixed Try.func75 rfl Try.ntmps75 (Nat.le_of_ble_eq_true rfl) fun wf hsc => ?_
  have hok := wf.base
  have la : a < b := hb ▸ wf.lt ha
  have hA32 : aggT Try.prog 32 = some false := by kernel_rfl
  simp (maxDischargeDepth := 6) only [ruW, putL, Nat.reduceLeDiff, xF, ruU, entryE, Nat.reduceLT, Nat.reduceAdd, Nat.reduceMul, Nat.reduceEqDiff]
  refine blockC_meet (fun E' H' => H' = H ∧ E' 0 = .slice (some ⟨a, 0, some 0⟩) m m ∧ E' 3 = .int .i64 (ls.flatten.length : Int)) ?_ ?_
  · refine w_loop (fun (k : Nat) E' H' => H' = ext H [] ∧ E' 0 = .slice (some ⟨a, 0, some 0⟩) m m ∧ E' 9 = .slice (some ⟨a, 0, some 0⟩) m m ∧ E' 10 = .int .i64 (m : Int) ∧ E' 11 = .int .i64 (k : Int) ∧ E' 3 = .int .i64 (((ls.take k).flatten).length : Int) ∧ k ≤ m) (fun k => m - k) 0 ⟨rfl, by simp only [ruU, entryE, Nat.reduceLT, Nat.reduceAdd, Nat.reduceMul, Nat.reduceEqDiff], by simp only [ruU, entryE, Nat.reduceLT, Nat.reduceAdd, Nat.reduceMul, Nat.reduceEqDiff], by simp only [ruU, entryE, Nat.reduceLT, Nat.reduceAdd, Nat.reduceMul, Nat.reduceEqDiff], by simp only [ruU, entryE, Nat.reduceLT, Nat.reduceAdd, Nat.reduceMul, Nat.reduceEqDiff]; rfl, by simp only [ruU, entryE, Nat.reduceLT, Nat.reduceAdd, Nat.reduceMul, Nat.reduceEqDiff]; rfl, Nat.zero_le _⟩ ?_
    rintro k E H' ⟨hH, e0, e9, e10, e11, e3, hk⟩
    rw [hH]
    by_cases hkm : k = m
    · have hc : decide ((k : Int) < (m : Int)) = false := by simp [hkm]
      simp (maxDischargeDepth := 6) only [e0, e9, e10, e11, e3, hc, ruW, putL, Nat.reduceLeDiff, xF, ruU, entryE, Nat.reduceLT, Nat.reduceAdd, Nat.reduceMul, Nat.reduceEqDiff]
      refine joinR_normal ⟨rfl, ?_, ?_⟩ <;> simp only [e0, e9, e10, e11, e3, ruU, entryE, Nat.reduceLT, Nat.reduceAdd, Nat.reduceMul, Nat.reduceEqDiff]
      rw [hkm, List.take_of_length_le (by omega)]
    · have hlt : k < m := by omega
      have hc : decide ((k : Int) < (m : Int)) = true := decide_eq_true (by omega)
      obtain ⟨v, hv⟩ : ∃ v, vs[k]? = some v := ⟨_, List.getElem?_eq_getElem (by omega)⟩
      obtain ⟨l, hl⟩ : ∃ l, ls[k]? = some l := ⟨_, List.getElem?_eq_getElem (by omega)⟩
      obtain ⟨hlen, av, cv, hve⟩ := rowsAt_len (hr k v l hv hl)
      have hft := flat_take hl
      have hle := flat_le ls (k + 1)
      rw [hft, List.length_append] at hle
      have i1 := vs_ia (n := a) (s := some 0) (len := m) (cap := m) (i := (k : Int)) rfl hlt
      have q1 : ldB Try.prog 32 (0 + k) (some ⟨32, false, vs⟩) = some v := by simp only [ldB, hA32, Nat.zero_add, hv]
      have hw : IntKind.i64.wrap ((k : Int) + 1) = ((k + 1 : Nat) : Int) := by
        have := wrap_sm (n := (k : Int) + 1) (by omega) (by omega)
        rw [show IntKind.i64.wrap ((k : Int) + 1) = _ from this]; omega
      have hw2 : IntKind.i64.wrap ((((ls.take k).flatten).length : Int) + (l.length : Int)) = ((((ls.take (k + 1)).flatten).length : Nat) : Int) := by
        have := wrap_sm (n := (((ls.take k).flatten).length : Int) + (l.length : Int)) (by omega) (by omega)
        rw [show IntKind.i64.wrap ((((ls.take k).flatten).length : Int) + (l.length : Int)) = _ from this, hft, List.length_append]; omega
      have hc2 : decide (((((ls.take (k + 1)).flatten).length : Nat) : Int) < 0) = false := decide_eq_false (by omega)
      subst hve
      simp (maxDischargeDepth := 6) only [e0, e9, e10, e11, e3, hc, i1, hb, la, ha, q1, hw, hw2, hc2, ruW, putL, Nat.reduceLeDiff, xF, ruU, entryE, Nat.reduceLT, Nat.reduceAdd, Nat.reduceMul, Nat.reduceEqDiff]
      refine loopC_next ⟨k + 1, by omega, rfl, ?_, ?_, ?_, ?_, ?_, by omega⟩ <;> simp only [e0, e9, e10, e11, e3, hw, ruU, entryE, Nat.reduceLT, Nat.reduceAdd, Nat.reduceMul, Nat.reduceEqDiff]
  · rintro E H' ⟨hH, e0, e3⟩
    rw [hH, show H = ext H [] from rfl]
    by_cases h0 : ls.flatten = []
    · have hz : ((ls.flatten.length : Nat) : Int) = 0 := by rw [h0]; rfl
      rw [hz] at e3
      simp (maxDischargeDepth := 6) only [e0, e3, ruW, putL, Nat.reduceLeDiff, xF, ruU, entryE, Nat.reduceLT, Nat.reduceAdd, Nat.reduceMul, Nat.reduceEqDiff]
      refine (grow0_c (ext H [])).to ?_
      simp (maxDischargeDepth := 6) only [e0, ruW, putL, Nat.reduceLeDiff, xF, ruU, entryE, Nat.reduceLT, Nat.reduceAdd, Nat.reduceMul, Nat.reduceEqDiff]
      refine blockC_meet (fun E' H' => H' = H ∧ E' 6 = .slice none 0 0) ?_ ?_
      · refine w_loop (fun (k : Nat) E' H' => H' = ext H [] ∧ E' 25 = .slice (some ⟨a, 0, some 0⟩) m m ∧ E' 26 = .int .i64 (m : Int) ∧ E' 27 = .int .i64 (k : Int) ∧ E' 6 = .slice none 0 0 ∧ k ≤ m) (fun k => m - k) 0 ⟨rfl, by simp only [e0, ruU, entryE, Nat.reduceLT, Nat.reduceAdd, Nat.reduceMul, Nat.reduceEqDiff], by simp only [e0, ruU, entryE, Nat.reduceLT, Nat.reduceAdd, Nat.reduceMul, Nat.reduceEqDiff], by simp only [ruU, entryE, Nat.reduceLT, Nat.reduceAdd, Nat.reduceMul, Nat.reduceEqDiff]; rfl, by simp only [ruU, entryE, Nat.reduceLT, Nat.reduceAdd, Nat.reduceMul, Nat.reduceEqDiff], Nat.zero_le _⟩ ?_
        rintro k E H' ⟨hH, e25, e26, e27, e6, hk⟩
        rw [hH]
        by_cases hkm : k = m
        · have hc : decide ((k : Int) < (m : Int)) = false := by simp [hkm]
          simp (maxDischargeDepth := 6) only [e25, e26, e27, e6, hc, ruW, putL, Nat.reduceLeDiff, xF, ruU, entryE, Nat.reduceLT, Nat.reduceAdd, Nat.reduceMul, Nat.reduceEqDiff]
          exact joinR_normal ⟨rfl, by simp only [e6, ruU, entryE, Nat.reduceLT, Nat.reduceAdd, Nat.reduceMul, Nat.reduceEqDiff]⟩
        · have hlt : k < m := by omega
          have hc : decide ((k : Int) < (m : Int)) = true := decide_eq_true (by omega)
          obtain ⟨v, hv⟩ : ∃ v, vs[k]? = some v := ⟨_, List.getElem?_eq_getElem (by omega)⟩
          obtain ⟨l, hl⟩ : ∃ l, ls[k]? = some l := ⟨_, List.getElem?_eq_getElem (by omega)⟩
          have hle := flat_le ls (k + 1)
          rw [flat_take hl, h0, List.length_append, List.length_nil] at hle
          have hl0 : l = [] := List.eq_nil_of_length_eq_zero (by omega)
          subst hl0
          have hra := hr k v [] hv hl
          have i1 := vs_ia (n := a) (s := some 0) (len := m) (cap := m) (i := (k : Int)) rfl hlt
          have q1 : ldB Try.prog 32 (0 + k) (some ⟨32, false, vs⟩) = some v := by simp only [ldB, hA32, Nat.zero_add, hv]
          have hw : IntKind.i64.wrap ((k : Int) + 1) = ((k + 1 : Nat) : Int) := by
            have := wrap_sm (n := (k : Int) + 1) (by omega) (by omega)
            rw [show IntKind.i64.wrap ((k : Int) + 1) = _ from this]; omega
          have happ := app_nn (P := Try.prog) (H := ext H []) (st := 32) (xt := 32) (e := 35) (sz := 5) (by1 := 40) (z := .agg ⟨z5⟩) (x := v) (by kernel_rfl) (by kernel_rfl) (by kernel_rfl) (by kernel_rfl) rfl (by kernel_rfl) (rowsAt_len hra).1 (rowsAt_first hra)
          simp (maxDischargeDepth := 6) only [e25, e26, e27, e6, hc, i1, hb, la, ha, q1, hw, happ, ruW, putL, Nat.reduceLeDiff, xF, ruU, entryE, Nat.reduceLT, Nat.reduceAdd, Nat.reduceMul, Nat.reduceEqDiff]
          refine loopC_next ⟨k + 1, by omega, rfl, ?_, ?_, ?_, ?_, by omega⟩ <;> simp only [e25, e26, e27, e6, hw, ruU, entryE, Nat.reduceLT, Nat.reduceAdd, Nat.reduceMul, Nat.reduceEqDiff]
      · rintro E H' ⟨hH, e6⟩
        rw [hH, show H = ext H [] from rfl]
        simp (maxDischargeDepth := 6) only [e6, Try.results75, ruW, putL, Nat.reduceLeDiff, xF, ruU, entryE, Nat.reduceLT, Nat.reduceAdd, Nat.reduceMul, Nat.reduceEqDiff]
        rw [h0]
        exact Fin.same
    · have hpos : 0 < ls.flatten.length := List.length_pos_iff.2 h0
      generalize htot : ls.flatten.length = tot at *
      simp (maxDischargeDepth := 6) only [e0, e3, ruW, putL, Nat.reduceLeDiff, xF, ruU, entryE, Nat.reduceLT, Nat.reduceAdd, Nat.reduceMul, Nat.reduceEqDiff]
      refine (grow_c tot hpos hcap (ext H [])).to ?_
      simp (maxDischargeDepth := 6) only [e0, hb, ruW, putL, Nat.reduceLeDiff, xF, ruU, entryE, Nat.reduceLT, Nat.reduceAdd, Nat.reduceMul, Nat.reduceEqDiff]
      refine blockC_meet (fun E' H' => H' = ext H [⟨35, true, rowsOf ls.flatten⟩] ∧ E' 6 = .slice (some ⟨b + 0, 0, none⟩) tot tot) ?_ ?_
      · refine w_loop (fun (k : Nat) E' H' => H' = ext H [⟨35, true, rowsOf (ls.take k).flatten ++ zerosL z5 (tot - (ls.take k).flatten.length)⟩] ∧ E' 25 = .slice (some ⟨a, 0, some 0⟩) m m ∧ E' 26 = .int .i64 (m : Int) ∧ E' 27 = .int .i64 (k : Int) ∧ E' 6 = .slice (some ⟨b + 0, 0, none⟩) (ls.take k).flatten.length tot ∧ k ≤ m) (fun k => m - k) 0 ⟨by simp [rowsOf], by simp only [e0, ruU, entryE, Nat.reduceLT, Nat.reduceAdd, Nat.reduceMul, Nat.reduceEqDiff], by simp only [e0, ruU, entryE, Nat.reduceLT, Nat.reduceAdd, Nat.reduceMul, Nat.reduceEqDiff], by simp only [ruU, entryE, Nat.reduceLT, Nat.reduceAdd, Nat.reduceMul, Nat.reduceEqDiff]; rfl, by simp only [ruU, entryE, Nat.reduceLT, Nat.reduceAdd, Nat.reduceMul, Nat.reduceEqDiff]; simp, Nat.zero_le _⟩ ?_
        rintro k E H' ⟨hH, e25, e26, e27, e6, hk⟩
        rw [hH]
        by_cases hkm : k = m
        · have hc : decide ((k : Int) < (m : Int)) = false := by simp [hkm]
          simp (maxDischargeDepth := 6) only [e25, e26, e27, e6, hc, ruW, putL, Nat.reduceLeDiff, xF, ruU, entryE, Nat.reduceLT, Nat.reduceAdd, Nat.reduceMul, Nat.reduceEqDiff]
          refine joinR_normal ⟨?_, ?_⟩
          · rw [hkm, List.take_of_length_le (by omega), htot, Nat.sub_self]
            simp only [zerosL, List.append_nil]
          · simp only [e6, ruU, entryE, Nat.reduceLT, Nat.reduceAdd, Nat.reduceMul, Nat.reduceEqDiff]
            rw [hkm, List.take_of_length_le (by omega), htot]
        · have hlt : k < m := by omega
          have hc : decide ((k : Int) < (m : Int)) = true := decide_eq_true (by omega)
          obtain ⟨v, hv⟩ : ∃ v, vs[k]? = some v := ⟨_, List.getElem?_eq_getElem (by omega)⟩
          obtain ⟨l, hl⟩ : ∃ l, ls[k]? = some l := ⟨_, List.getElem?_eq_getElem (by omega)⟩
          have hft := flat_take hl
          have hle := flat_le ls (k + 1)
          rw [hft, List.length_append, htot] at hle
          generalize hX : ext H [⟨35, true, rowsOf (ls.take k).flatten ++ zerosL z5 (tot - (ls.take k).flatten.length)⟩] = X
          have hra : RowsAt X v l := (hr k v l hv hl).to fun n bb h => by rw [← hX, bk_old (wf.lt h)]; exact h
          have i1 := vs_ia (n := a) (s := some 0) (len := m) (cap := m) (i := (k : Int)) rfl hlt
          have q1 : ldB Try.prog 32 (0 + k) (some ⟨32, false, vs⟩) = some v := by simp only [ldB, hA32, Nat.zero_add, hv]
          have hw : IntKind.i64.wrap ((k : Int) + 1) = ((k + 1 : Nat) : Int) := by
            have := wrap_sm (n := (k : Int) + 1) (by omega) (by omega)
            rw [show IntKind.i64.wrap ((k : Int) + 1) = _ from this]; omega
          have happ := app_in (P := Try.prog) (H := X) (st := 32) (xt := 32) (e := 35) (sz := 5) (by1 := 40) (z := .agg ⟨z5⟩) (m := b + 0) (off := 0) (k := (ls.take k).flatten.length) (cap := tot) (sp := none) (x := v) (by kernel_rfl) (by kernel_rfl) (by kernel_rfl) (by kernel_rfl) rfl (by kernel_rfl) (rowsAt_len hra).1 (rowsAt_first hra) (rowsOf_length l) (by omega) (by simp only [small, Bool.and_eq_true, Nat.ble_eq]; omega)
          have hz : (zerosL z5 (tot - (ls.take k).flatten.length)).length = (tot - (ls.take k).flatten.length) * 5 := zerosL_length _
          have hwr : aWrite X (b + 0) (0 + (ls.take k).flatten.length * 5) (rowsOf l) = some (ext H [⟨35, true, rowsOf (ls.take (k + 1)).flatten ++ zerosL z5 (tot - (ls.take (k + 1)).flatten.length)⟩]) := by
            rw [← hX, write_new (e := 35) (o := true) (l := rowsOf (ls.take k).flatten ++ zerosL z5 (tot - (ls.take k).flatten.length)) hb hok rfl (by rw [List.length_append, rowsOf_length, rowsOf_length, hz]; omega) (rowsOf_one l) (rowsOf_sc l _)]
            simp only [List.set_cons_zero]
            rw [Nat.zero_add, show (ls.take k).flatten.length * 5 = (rowsOf (ls.take k).flatten).length from (rowsOf_length _).symm, putL_at _ _ _ (by rw [rowsOf_length, hz]; omega), hft, rowsOf_append, List.append_assoc, List.length_append, rowsOf_length l]
            rw [show zerosL z5 (tot - ((ls.take k).flatten.length + l.length)) = (zerosL z5 (tot - (ls.take k).flatten.length)).drop (l.length * 5) by
              rw [show (5 : Nat) = z5.length from rfl, zerosL_drop, Nat.sub_sub]]
          rw [hwr, Option.map_some] at happ
          have hXn : X.next = b + 1 := by rw [← hX, ext_next, hb]; rfl
          have haX : bk X a = some ⟨32, false, vs⟩ := by rw [← hX, bk_old (wf.lt ha)]; exact ha
          have laX : a < b + 1 := by omega
          rw [show X = ext X [] from rfl] at happ ⊢
          simp (maxDischargeDepth := 6) only [e25, e26, e27, e6, hc, i1, hXn, laX, haX, q1, hw, happ, ruW, putL, Nat.reduceLeDiff, xF, ruU, entryE, Nat.reduceLT, Nat.reduceAdd, Nat.reduceMul, Nat.reduceEqDiff]
          refine loopC_next ⟨k + 1, by omega, rfl, ?_, ?_, ?_, ?_, by omega⟩ <;> simp only [e25, e26, e27, e6, hw, ruU, entryE, Nat.reduceLT, Nat.reduceAdd, Nat.reduceMul, Nat.reduceEqDiff]
          rw [hft, List.length_append]
      · rintro E H' ⟨hH, e6⟩
        rw [hH]
        simp (maxDischargeDepth := 6) only [e6, Try.results75, ruW, putL, Nat.reduceLeDiff, xF, ruU, entryE, Nat.reduceLT, Nat.reduceAdd, Nat.reduceMul, Nat.reduceEqDiff]
        rw [rowsV, rowsM, if_neg h0, if_neg h0, htot, ← hb]
        exact Fin.same

end Go.Proofs.Ytiedpcmdimgboaa

/- What bars and Bars come to. -/
namespace Go.Proofs.Ytiedpcmdimgboaa
open Go.Ax
set_option linter.unusedSimpArgs false
set_option maxRecDepth 10000

def barsOf : Tr → Rc → List Rc
  | .leaf _ _, _ => []
  | .split _ be f l r, rc => (if be then [] else [⟨0, rc.top, w64 (rc.left + f), rc.h, 1⟩]) ++ (barsOf l (partA be f rc) ++ barsOf r (partB be f rc))

theorem barsOf_len : ∀ (t : Tr) (rc : Rc), (barsOf t rc).length ≤ t.size
  | .leaf _ _, _ => Nat.zero_le _
  | .split _ be f l r, rc => by
    have h1 := barsOf_len l (partA be f rc)
    have h2 := barsOf_len r (partB be f rc)
    simp only [barsOf, List.length_append, Tr.size]
    cases be <;> simp <;> omega

def RowsPost (H : AHeap) (l : List Rc) (out : Out) (H1 : AHeap) : Prop :=
  ∃ k, out = .ok (rowsV k l) ∧ H.next ≤ k ∧ Mod [] H H1 ∧ (l ≠ [] → bk H1 k = some ⟨35, true, rowsOf l⟩)

theorem callS_rows {f : FuncId} {args : List Value} {H : AHeap} {l : List Rc} (h : WF Try.prog H → scbL H.next args = true → CallA Try.prog f args H (RowsPost H l)) : CallS Try.prog f args H (.ok (rowsV H.next l)) (ext H (rowsM l)) := by
  unfold rowsV rowsM
  by_cases hl : l = []
  · rw [if_pos hl, if_pos hl]
    refine callS_drop (fun wf hs => (h wf hs).mono ?_) (fun _ _ => rfl)
    rintro _ H1 ⟨k, rfl, _, m, _⟩
    rw [rowsV, if_pos hl]
    exact ⟨rfl, m⟩
  · rw [if_neg hl, if_neg hl]
    refine callS_one (fun wf hs => (h wf hs).mono ?_) (fun _ _ => rowsOf_sc _ _)
    rintro _ H1 ⟨k, rfl, hk, m, hb⟩
    rw [rowsV, if_neg hl]
    exact ⟨k, rfl, hk, hb hl, m⟩

theorem RowsAt.of {H G : AHeap} {v : Value} {l : List Rc} (h : RowsAt H v l) (hg : ∀ n ∈ idsV v, G.get n = H.get n) : RowsAt G v l := by
  rcases h with ⟨rfl, rfl⟩ | ⟨n, s, c, o, rfl, hb⟩
  · exact .inl ⟨rfl, rfl⟩
  · exact .inr ⟨n, s, c, o, rfl, (bk_get (hg n (by simp [idsV]))).trans hb⟩
theorem RowsAt.ne {H : AHeap} {v : Value} {l : List Rc} (h : RowsAt H v l) : ∀ n ∈ idsV v, H.get n ≠ none := by
  rcases h with ⟨rfl, rfl⟩ | ⟨n, s, c, o, rfl, hb⟩
  · intro n hn; simp [idsV] at hn
  · intro m hm
    simp only [idsV, List.mem_singleton] at hm
    subst hm
    exact bk_ne hb
theorem rowsAt_new {H : AHeap} (l : List Rc) : RowsAt (ext H (rowsM l)) (rowsV H.next l) l := by
  unfold rowsV rowsM
  by_cases hl : l = []
  · subst hl; exact .inl ⟨rfl, rfl⟩
  · rw [if_neg hl, if_neg hl]
    exact .inr ⟨H.next, none, l.length, true, rfl, bk_at (b := H.next) (i := 0) rfl (by simp)⟩
theorem RowsAt.mod {H G : AHeap} {v : Value} {l : List Rc} (h : RowsAt H v l) (hs : scb H.next v = true) (m : Mod [] H G) : RowsAt G v l := by
  rcases h with ⟨rfl, rfl⟩ | ⟨n, s, c, o, rfl, hb⟩
  · exact .inl ⟨rfl, rfl⟩
  · exact .inr ⟨n, s, c, o, rfl, (m.bk (blt_lt hs) (by simp)).trans hb⟩
theorem rowsV_sc {N k : Nat} {l : List Rc} (h : N + (rowsM l).length ≤ k) : scb k (rowsV N l) = true := by
  unfold rowsM at h
  unfold rowsV
  by_cases hl : l = []
  · rw [if_pos hl]; rfl
  · rw [if_neg hl] at h ⊢
    exact blt_of (by simp at h; exact h)
theorem rowsV_sl (N : Nat) (l : List Rc) : ∃ a, rowsV N l = .slice a l.length l.length := by
  unfold rowsV
  by_cases hl : l = []
  · rw [if_pos hl, hl]; exact ⟨none, rfl⟩
  · rw [if_neg hl]; exact ⟨_, rfl⟩
theorem rowsM_ids (l : List Rc) : ((rowsM l).flatMap fun x => idsL x.l) = [] := by
  unfold rowsM
  by_cases hl : l = []
  · rw [if_pos hl]; rfl
  · rw [if_neg hl]
    simp only [List.flatMap_cons, List.flatMap_nil, List.append_nil, rowsOf]
    induction l with
    | nil => rfl
    | cons r rs ih =>
      simp only [List.flatMap_cons, Rc.cells, List.cons_append, List.nil_append, idsL_cons, ids_int]
      by_cases hr : rs = []
      · subst hr; rfl
      · exact ih hr

set_option maxHeartbeats 2000000 in
theorem bars_c : ∀ (t : Tr) (rc : Rc) (H : AHeap), t.size < 10000 → TreeAt H t → CallS Try.prog 51 [t.val, rc.val] H (.ok (rowsV H.next (barsOf t rc))) (ext H (rowsM (barsOf t rc)))
  | .leaf n id, rc, H, hsz, h => by
    refine callS_rows fun wf hsc => ?_
    obtain ⟨b, hb⟩ : ∃ b, H.next = b := ⟨_, rfl⟩
    refine callE_fn mixed Try.func51 rfl Try.ntmps51 (Nat.le_of_ble_eq_true rfl) ?_
    simp (maxDischargeDepth := 6) only [Tr.val, Rc.val, hb, Try.results51, ruW, putL, Nat.reduceLeDiff, xF, ruU, entryE, Nat.reduceLT, Nat.reduceAdd, Nat.reduceMul, Nat.reduceEqDiff]
    exact ⟨H.next, rfl, Nat.le_refl _, Mod.ext wf.base, fun h => absurd rfl h⟩
  | .split n be f l r, rc, H, hsz, h => by
    refine callS_rows fun wf hsc => ?_
    obtain ⟨b, hb⟩ : ∃ b, H.next = b := ⟨_, rfl⟩
    have ihl := bars_c l
    have ihr := bars_c r
    have hll := h.2.1.lt wf
    have hlr := h.2.2.lt wf
    obtain ⟨hs, hl, hr⟩ := h
    have hok := wf.base
    have hbase : H.base ≤ b := hb ▸ hok
    have hn : n < b := hb ▸ wf.lt hs
    have il : idsV l.val = [l.root] := by rw [Tr.val_eq]; rfl
    have ir : idsV r.val = [r.root] := by rw [Tr.val_eq]; rfl
    simp only [Tr.size] at hsz
    have hlb := barsOf_len l (partA be f rc)
    have hrb := barsOf_len r (partB be f rc)
    refine callE_fn mixed Try.func51 rfl Try.ntmps51 (Nat.le_of_ble_eq_true rfl) ?_
    simp (maxDischargeDepth := 6) only [Tr.val, Rc.val, hb, hbase, hn, hs, ruW, putL, Nat.reduceLeDiff, xF, ruU, entryE, Nat.reduceLT, Nat.reduceAdd, Nat.reduceMul, Nat.reduceEqDiff]
    generalize hL0 : (if be then [] else [(⟨0, rc.top, w64 (rc.left + f), rc.h, 1⟩ : Rc)]) = L0
    have hL0' := hL0
    refine condC_meet (fun E' H' => ∃ v0 a0 c0, v0 = .slice a0 L0.length c0 ∧ Mod [] H H' ∧ RowsAt H' v0 L0 ∧ scb H'.next v0 = true ∧ bk H' (b + 0) = some ⟨83, false, rc.cells⟩ ∧ b + 0 < H'.next ∧ E' 3 = .pointer (some ⟨b + 0, 0, none⟩) ∧ E' 5 = .pointer (some ⟨n, 0, none⟩) ∧ E' 7 = v0) ?_ ?_
    · cases be with
      | true =>
        simp (maxDischargeDepth := 6) only [Bool.not_true, ruW, putL, Nat.reduceLeDiff, xF, ruU, entryE, Nat.reduceLT, Nat.reduceAdd, Nat.reduceMul, Nat.reduceEqDiff]
        subst hL0
        refine joinR_normal ⟨.slice none 0 0, none, 0, rfl, Mod.ext hok, .inl ⟨rfl, rfl⟩, rfl, by rw [bk_at hb (by simp)]; rfl, by rw [ext_next, hb]; simp, ?_, ?_, ?_⟩ <;> simp only [ruU, entryE, Nat.reduceLT, Nat.reduceAdd, Nat.reduceMul, Nat.reduceEqDiff]
      | false =>
        simp (maxDischargeDepth := 6) only [Bool.not_false, ruW, putL, Nat.reduceLeDiff, xF, ruU, entryE, Nat.reduceLT, Nat.reduceAdd, Nat.reduceMul, Nat.reduceEqDiff]
        refine w_drawB [(15, 13), (15, 14), (14, 13), (13, 12)] [] (by kernel_rfl) (by kernel_rfl) rfl fun ops anc hA hG => ?_
        simp only [all2_cons] at hA
        simp (maxDischargeDepth := 6) only [hb, hbase, hn, hs, hA, ruD, ruW, putL, Nat.reduceLeDiff, xF, ruU, entryE, Nat.reduceLT, Nat.reduceAdd, Nat.reduceMul, Nat.reduceEqDiff]
        rw [wd_app (by simp only [ruU, entryE, Nat.reduceLT, Nat.reduceAdd, Nat.reduceMul, Nat.reduceEqDiff])]
        refine genV_extO (v := .slice (some ⟨b + 2, 0, none⟩) 1 1) (M := [⟨35, true, [.int .i64 0, .int .i64 rc.top, .int .i64 (IntKind.i64.wrap (rc.left + f)), .int .i64 rc.h, .int .i64 1]⟩]) [b + 1] rfl (by decide) (fun m hm => ?_) (fun G hGn hg => ?_) (by simp (maxDischargeDepth := 6) only [hA, ruD, ruW, putL, Nat.reduceLeDiff, xF, ruU, entryE, Nat.reduceLT, Nat.reduceAdd, Nat.reduceMul, Nat.reduceEqDiff]) ?_
        · simp only [List.mem_singleton] at hm
          subst hm
          exact bk_ne (by rw [bk_at hb (by simp)]; rfl)
        · have hgb : bk G (b + 1) = some ⟨35, false, [.int .i64 0, .int .i64 rc.top, .int .i64 (IntKind.i64.wrap (rc.left + f)), .int .i64 rc.h, .int .i64 1]⟩ := (bk_get (hg (b + 1) (by simp))).trans (by rw [bk_at hb (by simp)]; rfl)
          have hGn' : G.next = b + 2 := by rw [hGn, ext_next, hb]; rfl
          refine app_op (by simp only [ruU, entryE, Nat.reduceLT, Nat.reduceAdd, Nat.reduceMul, Nat.reduceEqDiff]) ?_
          simp only [ruU, entryE, Nat.reduceLT, Nat.reduceAdd, Nat.reduceMul, Nat.reduceEqDiff]
          rw [app_nil (P := Try.prog) (H := G) (st := 32) (xt := 32) (e := 35) (sz := 5) (by1 := 40) (z := .agg ⟨z5⟩) (n := b + 1) (off := 0) (cnt := 1) (cap := 1) (s := some 0) (by kernel_rfl) (by kernel_rfl) (by kernel_rfl) (by kernel_rfl) rfl (by kernel_rfl) hgb (by simp) rfl (by decide) (by decide)]
          simp only [List.drop_zero, Nat.reduceMul, List.take_succ_cons, List.take_zero]
          rw [aNew_nw rfl, hGn']
          rfl
        simp (maxDischargeDepth := 6) only [hb, hA, ext_append, ruD, ruW, putL, Nat.reduceLeDiff, xF, ruU, entryE, Nat.reduceLT, Nat.reduceAdd, Nat.reduceMul, Nat.reduceEqDiff]
        rw [show w64 (rc.left + f) = IntKind.i64.wrap (rc.left + f) from rfl] at hL0
        subst hL0
        refine joinR_normal ⟨.slice (some ⟨b + 2, 0, none⟩) 1 1, _, _, rfl, Mod.ext hok, .inr ⟨b + 2, none, 1, true, rfl, by rw [bk_at hb (by simp)]; rfl⟩, ?_, by rw [bk_at hb (by simp)]; rfl, by rw [ext_next, hb]; simp, ?_, ?_, ?_⟩ <;> try simp only [ruU, entryE, Nat.reduceLT, Nat.reduceAdd, Nat.reduceMul, Nat.reduceEqDiff]
        rw [ext_next, hb]
        exact blt_of (by simp)
    · rintro E X ⟨_, a0, c0, rfl, mX, hr0, sc0, hbX, lbX, e3, e5, e7⟩
      have hsX := (mX.bk (hb ▸ hn) (by simp)).trans hs
      have okX := mX.ok hok
      have hlX : TreeAt X l := hl.mod mX hll (by simp)
      have hrX : TreeAt X r := hr.mod mX hlr (by simp)
      obtain ⟨x, hx⟩ : ∃ x, X.next = x := ⟨_, rfl⟩
      have hxb : b ≤ x := by have := mX.next; omega
      have lnx : n < x := by omega
      have lbx : b + 0 < x := by omega
      simp only [Rc.cells] at hbX
      rw [show X = ext X [] from rfl]
      simp (maxDischargeDepth := 6) only [e3, e5, e7, hx, lbx, hbX, ruW, putL, Nat.reduceLeDiff, xF, ruU, entryE, Nat.reduceLT, Nat.reduceAdd, Nat.reduceMul, Nat.reduceEqDiff]
      refine (parts_c n be f l.val r.val rc (ext X []) hsX).to ?_
      have pcA : (partA be f rc).val = .agg ⟨(partA be f rc).cells⟩ := rfl
      have pcB : (partB be f rc).val = .agg ⟨(partB be f rc).cells⟩ := rfl
      have hbx : X.base ≤ x := hx ▸ okX
      generalize hpa : partA be f rc = pa at *
      generalize hpb : partB be f rc = pb at *
      rw [pcA, pcB]
      simp (maxDischargeDepth := 6) only [Rc.cells, e3, e5, e7, hx, hbx, ruW, putL, Nat.reduceLeDiff, xF, ruU, entryE, Nat.reduceLT, Nat.reduceAdd, Nat.reduceMul, Nat.reduceEqDiff]
      generalize hY : ext X (_ :: _) = Y
      have mY : Mod [] X Y := hY ▸ Mod.ext okX
      have hYn : Y.next = x + 2 := by rw [← hY, ext_next, hx]; rfl
      have hpY : bk Y (x + 0) = some ⟨83, false, pa.cells⟩ := by rw [← hY, bk_at hx (by simp)]; rfl
      have hqY : bk Y (x + 1) = some ⟨83, false, pb.cells⟩ := by rw [← hY, bk_at hx (by simp)]; rfl
      simp only [Rc.cells] at hpY hqY
      have okY := mY.ok okX
      have hsY := (mY.bk (hx.symm ▸ lnx) (by simp)).trans hsX
      have hlY : TreeAt Y l := hl.mod (mX.trans mY) hll (by simp)
      have hr0Y : RowsAt Y (.slice a0 L0.length c0) L0 := hr0.mod sc0 mY
      have lnY : n < x + 2 := by omega
      have rlY : l.root < x + 2 := by have := hll _ l.root_mem; omega
      refine w_drawB [(14, 7), (15, 7), (15, 14), (16, 7), (16, 14), (16, 15), (17, 16), (17, 7), (17, 14), (17, 15)] [] (by kernel_rfl) (by kernel_rfl) rfl fun ops anc hA hG => ?_
      simp only [all2_cons] at hA
      rw [show Y = ext Y [] from rfl]
      simp (maxDischargeDepth := 6) only [e3, e5, e7, hYn, lnY, hsY, hpY, il, hA, show x + 0 < x + 2 by omega, show x + 1 < x + 2 by omega, ruD, ruW, putL, Nat.reduceLeDiff, xF, ruU, entryE, Nat.reduceLT, Nat.reduceAdd, Nat.reduceMul, Nat.reduceEqDiff]
      refine genV_ext (H := ext Y []) (v := rowsV (x + 2) (barsOf l pa)) (M := rowsM (barsOf l pa)) l.blks (by simp (maxDischargeDepth := 6) only [ruU, entryE, Nat.reduceLT, Nat.reduceAdd, Nat.reduceMul, Nat.reduceEqDiff]) (by kernel_rfl) (by decide) hlY.ne (fun G hGn hg => ?_) (by simp (maxDischargeDepth := 6) only [hA, ruD, ruW, putL, Nat.reduceLeDiff, xF, ruU, entryE, Nat.reduceLT, Nat.reduceAdd, Nat.reduceMul, Nat.reduceEqDiff]) ?_
      · simp only [ruU, entryE, Nat.reduceLT, Nat.reduceAdd, Nat.reduceMul, Nat.reduceEqDiff]
        have := ihl pa G (by omega) (hlY.of fun m hm => hg m hm)
        rw [hGn, ext_nil, hYn] at this
        exact this
      rw [ext_nil, hYn]
      generalize hZ : ext Y (rowsM (barsOf l pa)) = Z
      have mZ : Mod [] Y Z := hZ ▸ Mod.ext okY
      generalize hz : x + 2 + (rowsM (barsOf l pa)).length = z
      have hZn : Z.next = z := by rw [← hZ, ext_next, hYn, hz]
      have hpZ := (mZ.bk (by omega) (by simp)).trans hqY
      have hsZ := (mZ.bk (by omega) (by simp)).trans hsY
      have hrZ : TreeAt Z r := hr.mod ((mX.trans mY).trans mZ) hlr (by simp)
      have okZ := mZ.ok okY
      have lnZ : n < z := by omega
      have rrZ : r.root < z := by have := hlr _ r.root_mem; omega
      have rrY : r.root < x + 2 := by have := hlr _ r.root_mem; omega
      rw [show Z = ext Z [] from rfl]
      simp (maxDischargeDepth := 6) only [e3, e5, e7, hZn, lnZ, lnY, hsZ, hpZ, ir, rrY, hA, show x + 1 < z by omega, show x + 1 < x + 2 by omega, ruD, ruW, putL, Nat.reduceLeDiff, xF, ruU, entryE, Nat.reduceLT, Nat.reduceAdd, Nat.reduceMul, Nat.reduceEqDiff]
      refine genV_ext (H := ext Z []) (v := rowsV z (barsOf r pb)) (M := rowsM (barsOf r pb)) r.blks (by simp (maxDischargeDepth := 6) only [ruU, entryE, Nat.reduceLT, Nat.reduceAdd, Nat.reduceMul, Nat.reduceEqDiff]) (by kernel_rfl) (by decide) hrZ.ne (fun G hGn hg => ?_) (by simp (maxDischargeDepth := 6) only [hA, ruD, ruW, putL, Nat.reduceLeDiff, xF, ruU, entryE, Nat.reduceLT, Nat.reduceAdd, Nat.reduceMul, Nat.reduceEqDiff]) ?_
      · simp only [ruU, entryE, Nat.reduceLT, Nat.reduceAdd, Nat.reduceMul, Nat.reduceEqDiff]
        have := ihr pb G (by omega) (hrZ.of fun m hm => hg m hm)
        rw [hGn, ext_nil, hZn] at this
        exact this
      rw [ext_nil, hZn]
      generalize hV : ext Z (rowsM (barsOf r pb)) = V
      have mV : Mod [] Z V := hV ▸ Mod.ext okZ
      generalize hv : z + (rowsM (barsOf r pb)).length = vn
      have hVn : V.next = vn := by rw [← hV, ext_next, hZn, hv]
      have okV := mV.ok okZ
      have r0V : RowsAt V (.slice a0 L0.length c0) L0 := hr0Y.mod (scb_mono mY.next _ sc0) (mZ.trans mV)
      have s1 : scb z (rowsV (x + 2) (barsOf l pa)) = true := rowsV_sc (by omega)
      have r1V : RowsAt V (rowsV (x + 2) (barsOf l pa)) (barsOf l pa) := by
        have h1 : RowsAt Z (rowsV (x + 2) (barsOf l pa)) (barsOf l pa) := by
          rw [← hZ, ← hYn]; exact rowsAt_new _
        exact h1.mod (hZn.symm ▸ s1) mV
      have r2V : RowsAt V (rowsV z (barsOf r pb)) (barsOf r pb) := by rw [← hV, ← hZn]; exact rowsAt_new _
      have hzv : z ≤ vn := by omega
      have hxz : x ≤ z := by omega
      have q0 : scb (vn + 0) (.slice a0 L0.length c0) = true := scb_mono (by omega) _ (hx ▸ sc0)
      have q1 : scb (vn + 0) (rowsV (x + 2) (barsOf l pa)) = true := scb_mono hzv _ s1
      have q2 : scb (vn + 0) (rowsV z (barsOf r pb)) = true := rowsV_sc (by omega)
      obtain ⟨a1, ev1⟩ := rowsV_sl (x + 2) (barsOf l pa)
      obtain ⟨a2, ev2⟩ := rowsV_sl z (barsOf r pb)
      rw [ev1] at r1V q1 ⊢
      rw [ev2] at r2V q2 ⊢
      rw [show V = ext V [] from rfl]
      simp (maxDischargeDepth := 6) only [e7, hVn, hA, q0, q1, q2, ruD, ruW, putL, Nat.reduceLeDiff, xF, ruU, entryE, Nat.reduceLT, Nat.reduceAdd, Nat.reduceMul, Nat.reduceEqDiff]
      generalize hW : ext V _ = W
      have mW : Mod [] V W := hW ▸ Mod.ext okV
      have hWn : W.next = vn + 1 := by rw [← hW, ext_next, hVn]; rfl
      have haW : bk W (vn + 0) = some ⟨32, false, [.slice a0 L0.length c0, .slice a1 (barsOf l pa).length (barsOf l pa).length, .slice a2 (barsOf r pb).length (barsOf r pb).length]⟩ := by rw [← hW, bk_at hVn (by simp)]; rfl
      have r0W := r0V.mod (hVn.symm ▸ q0) mW
      have r1W := r1V.mod (hVn.symm ▸ q1) mW
      have r2W := r2V.mod (hVn.symm ▸ q2) mW
      have hL0 : L0.length ≤ 1 := by subst hL0; cases be <;> simp
      have hlist : barsOf (.split n be f l r) rc = [L0, barsOf l pa, barsOf r pb].flatten := by
        simp only [barsOf, hL0', hpa, hpb, List.flatten_cons, List.flatten_nil, List.append_nil]
      have hcap : [L0, barsOf l pa, barsOf r pb].flatten.length ≤ 10000 := by
        have h1 := barsOf_len l pa
        have h2 := barsOf_len r pb
        simp only [List.flatten_cons, List.flatten_nil, List.append_nil, List.length_append]
        omega
      rw [hlist]
      generalize hLL : [L0, barsOf l pa, barsOf r pb].flatten = LL at hcap
      refine genV_ext (H := ext W []) (v := rowsV (vn + 1) LL) (M := rowsM LL) ((vn + 0) :: (idsV (.slice a0 L0.length c0) ++ (idsV (.slice a1 (barsOf l pa).length (barsOf l pa).length) ++ idsV (.slice a2 (barsOf r pb).length (barsOf r pb).length)))) (by simp (maxDischargeDepth := 6) only [ruU, entryE, Nat.reduceLT, Nat.reduceAdd, Nat.reduceMul, Nat.reduceEqDiff]) (by kernel_rfl) (by decide) (fun m hm => ?_) (fun G hGn hg => ?_) (by simp (maxDischargeDepth := 6) only [hA, ruD, ruW, putL, Nat.reduceLeDiff, xF, ruU, entryE, Nat.reduceLT, Nat.reduceAdd, Nat.reduceMul, Nat.reduceEqDiff]) ?_
      · rcases List.mem_cons.1 hm with rfl | hm
        · exact bk_ne haW
        rcases List.mem_append.1 hm with hm | hm
        · exact r0W.ne m hm
        rcases List.mem_append.1 hm with hm | hm
        · exact r1W.ne m hm
        · exact r2W.ne m hm
      · simp only [ruU, entryE, Nat.reduceLT, Nat.reduceAdd, Nat.reduceMul, Nat.reduceEqDiff]
        have := concat_c (vn + 0) 3 _ [L0, barsOf l pa, barsOf r pb] G ((bk_get (hg (vn + 0) (by simp))).trans haW) rfl rfl (fun k v l' hk hl' => ?_) (by rw [hLL]; exact hcap) (by decide)
        · rw [hLL, hGn, ext_nil, hWn] at this
          exact this
        · match k, hk, hl' with
          | 0, hk, hl' => cases hk; cases hl'; exact r0W.of fun m hm => hg m (by simp [hm])
          | 1, hk, hl' => cases hk; cases hl'; exact r1W.of fun m hm => hg m (by simp [hm])
          | 2, hk, hl' => cases hk; cases hl'; exact r2W.of fun m hm => hg m (by simp [hm])
          | k + 3, hk, _ => simp at hk
      simp (maxDischargeDepth := 6) only [hA, Try.results51, ruD, ruW, putL, Nat.reduceLeDiff, xF, ruU, entryE, Nat.reduceLT, Nat.reduceAdd, Nat.reduceMul, Nat.reduceEqDiff]
      refine ⟨vn + 1, rfl, ?_, ?_, ?_⟩
      · have := mX.next; omega
      · exact ((((mX.trans mY).trans mZ).trans mV).trans mW).trans (Mod.ext (mW.ok okV))
      · intro hne
        rw [rowsM, if_neg hne]
        exact bk_at (H := W) (b := vn + 1) (i := 0) (L := [⟨35, true, rowsOf LL⟩]) hWn (by simp)

def Wn.bars (x : Wn) : List Rc := barsOf x.root x.frame

theorem Bars_c (T : Nat) (x : Wn) (H : AHeap) (hsz : x.root.size < 10000) (hx : WnAt H T x) : CallS Try.prog 22 [.pointer (some ⟨T, 0, none⟩)] H (.ok (rowsV H.next x.bars)) (ext H (rowsM x.bars)) := by
  obtain ⟨b, hb⟩ : ∃ b, H.next = b := ⟨_, rfl⟩
  have h1 := hx.1
  simp only [Wn.cells] at h1
  refine callS_fn mixed Try.func22 rfl Try.ntmps22 (Nat.le_of_ble_eq_true rfl) fun wf hsc => ?_
  have hT : T < b := hb ▸ wf.lt h1
  have ir : idsV x.root.val = [x.root.root] := by rw [Tr.val_eq]; rfl
  simp (maxDischargeDepth := 6) only [ruW, putL, Nat.reduceLeDiff, xF, ruU, entryE, Nat.reduceLT, Nat.reduceAdd, Nat.reduceMul, Nat.reduceEqDiff]
  refine (made_c T x (ext H []) hx).to ?_
  simp (maxDischargeDepth := 6) only [ruW, putL, Nat.reduceLeDiff, xF, ruU, entryE, Nat.reduceLT, Nat.reduceAdd, Nat.reduceMul, Nat.reduceEqDiff]
  refine w_drawB [(6, 3), (6, 5), (7, 6)] [] (by kernel_rfl) (by kernel_rfl) rfl fun ops anc hA hG => ?_
  simp only [all2_cons] at hA
  simp (maxDischargeDepth := 6) only [hb, hT, h1, ir, hA, ruD, ruW, putL, Nat.reduceLeDiff, xF, ruU, entryE, Nat.reduceLT, Nat.reduceAdd, Nat.reduceMul, Nat.reduceEqDiff]
  refine genV_quiet (v := x.frame.val) [T] (by simp (maxDischargeDepth := 6) only [ruU, entryE, Nat.reduceLT, Nat.reduceAdd, Nat.reduceMul, Nat.reduceEqDiff]) (by kernel_rfl) (by decide) (fun m hm => by simp (maxDischargeDepth := 6) only [List.mem_singleton] at hm; subst hm; exact bk_ne (H := H) h1) (fun K _ hg => ?_) (by simp (maxDischargeDepth := 6) only [ruD, ruW, putL, Nat.reduceLeDiff, xF, ruU, entryE, Nat.reduceLT, Nat.reduceAdd, Nat.reduceMul, Nat.reduceEqDiff]) ?_
  · simp only [ruU, entryE, Nat.reduceLT, Nat.reduceAdd, Nat.reduceMul, Nat.reduceEqDiff]
    exact frame_c T x K ((bk_get (hg T (by simp))).trans hx.1)
  simp (maxDischargeDepth := 6) only [hb, hA, ruD, ruW, putL, Nat.reduceLeDiff, xF, ruU, entryE, Nat.reduceLT, Nat.reduceAdd, Nat.reduceMul, Nat.reduceEqDiff]
  refine genV_ext (H := ext H []) (v := rowsV b x.bars) (M := rowsM x.bars) x.root.blks (by simp (maxDischargeDepth := 6) only [ruU, entryE, Nat.reduceLT, Nat.reduceAdd, Nat.reduceMul, Nat.reduceEqDiff]) (by kernel_rfl) (by decide) hx.2.ne (fun G hGn hg => ?_) (by simp (maxDischargeDepth := 6) only [hA, ruD, ruW, putL, Nat.reduceLeDiff, xF, ruU, entryE, Nat.reduceLT, Nat.reduceAdd, Nat.reduceMul, Nat.reduceEqDiff]) ?_
  · simp only [ruU, entryE, Nat.reduceLT, Nat.reduceAdd, Nat.reduceMul, Nat.reduceEqDiff]
    have := bars_c x.root x.frame G hsz (hx.2.of fun m hm => hg m hm)
    rw [hGn, ext_nil, hb] at this
    exact this
  simp (maxDischargeDepth := 6) only [hA, Try.results22, ruD, ruW, putL, Nat.reduceLeDiff, xF, ruU, entryE, Nat.reduceLT, Nat.reduceAdd, Nat.reduceMul, Nat.reduceEqDiff]
  rw [← hb]
  exact Fin.same

end Go.Proofs.Ytiedpcmdimgboaa

/- What the acts of the statements come to. -/
namespace Go.Proofs.Ytiedpcmdimgboaa
open Go.Ax
set_option linter.unusedSimpArgs false
set_option maxRecDepth 10000

structure Ac where
  kind : Int
  id : Int
  n : Int
  m : Int
  be : Bool
def Ac.cells (a : Ac) : List Value := [.int .i64 a.kind, .int .i64 a.id, .int .i64 a.n, .int .i64 a.m, .bool a.be]
def Ac.val (a : Ac) : Value := .agg #[.int .i64 a.kind, .int .i64 a.id, .int .i64 a.n, .int .i64 a.m, .bool a.be]

def Ast.act (s : Ast) (a : Ac) : Int × Int × Ast :=
  if pick a.kind 8 = 0 ∨ pick a.kind 8 = 1 then s.split a.id a.be a.n
  else if pick a.kind 8 = 2 then (0, s.delete a.id)
  else if pick a.kind 8 = 3 then (0, s.only a.id)
  else if pick a.kind 8 = 4 then (0, s.resize a.id a.n a.be)
  else if pick a.kind 8 = 5 then (0, 0, s.balance)
  else if pick a.kind 8 = 6 then (0, s.setSize a.n a.m)
  else (0, s.select a.id)

theorem Good.ext {H : AHeap} {T : Nat} {x : Wn} {L : List Bl} (g : Good H T x) : Good (Go.Ax.ext H L) T x := g.mod (W := []) (Mod.ext g.ok) (by simp) (by simp)

theorem Step.behind {H : AHeap} {T : Nat} {x : Wn} {L : List Bl} {H1 : AHeap} {y : Wn} (g : Good H T x) (s : Step (Go.Ax.ext H L) T x H1 y) : Step H T x H1 y :=
  Step.trans g (Step.same g (Mod.ext g.ok)) s

def Did (H : AHeap) (T : Nat) (x : Wn) (v : Value) (s : Ast) (out : Out) (H1 : AHeap) : Prop := out = .ok v ∧ ∃ x', Step H T x H1 x' ∧ x'.abs = s

set_option maxHeartbeats 2000000 in
theorem do_c (T : Nat) (x : Wn) (a : Ac) (H : AHeap) (g : Good H T x) : CallA Try.prog 11 [.pointer (some ⟨T, 0, none⟩), a.val] H (Did H T x (.tuple #[.int .i64 (x.abs.act a).1, .int .i64 (x.abs.act a).2.1]) (x.abs.act a).2.2) := by
  obtain ⟨b, hb⟩ : ∃ b, H.next = b := ⟨_, rfl⟩
  have gE : Good (ext H [⟨31, false, a.cells⟩]) T x := g.ext
  simp only [Ac.cells] at gE
  have bx : ∀ {H1 y}, Step (ext H [⟨31, false, a.cells⟩]) T x H1 y → Step H T x H1 y := fun s => s.behind g
  simp only [Ac.cells] at bx
  refine callE_fn mixed Try.func11 rfl Try.ntmps11 (Nat.le_of_ble_eq_true rfl) ?_
  simp (maxDischargeDepth := 6) only [Ac.val, hb, ruW, putL, Nat.reduceLeDiff, xF, ruU, entryE, Nat.reduceLT, Nat.reduceAdd, Nat.reduceMul, Nat.reduceEqDiff]
  refine (pick_c a.kind 8 (ext H (_ :: _))).to ?_
  unfold Ast.act
  generalize pick a.kind 8 = k
  by_cases h0 : k = 0
  · subst h0
    rw [if_pos (.inl rfl)]
    simp (maxDischargeDepth := 6) only [hb, decide_true, ruW, putL, Nat.reduceLeDiff, xF, ruU, entryE, Nat.reduceLT, Nat.reduceAdd, Nat.reduceMul, Nat.reduceEqDiff]
    refine (split_d T x a.id a.be a.n _ gE).mono ?_
    rintro _ H1 ⟨rfl, x', st, ha⟩
    simp (maxDischargeDepth := 6) only [Try.results11, ruW, putL, Nat.reduceLeDiff, xF, ruU, entryE, Nat.reduceLT, Nat.reduceAdd, Nat.reduceMul, Nat.reduceEqDiff]
    exact ⟨rfl, x', bx st, ha⟩
  by_cases h1 : k = 1
  · subst h1
    rw [if_pos (.inr rfl)]
    simp (maxDischargeDepth := 6) only [hb, h0, decide_true, decide_false, ruW, putL, Nat.reduceLeDiff, xF, ruU, entryE, Nat.reduceLT, Nat.reduceAdd, Nat.reduceMul, Nat.reduceEqDiff]
    refine (split_d T x a.id a.be a.n _ gE).mono ?_
    rintro _ H1 ⟨rfl, x', st, ha⟩
    simp (maxDischargeDepth := 6) only [Try.results11, ruW, putL, Nat.reduceLeDiff, xF, ruU, entryE, Nat.reduceLT, Nat.reduceAdd, Nat.reduceMul, Nat.reduceEqDiff]
    exact ⟨rfl, x', bx st, ha⟩
  rw [if_neg (by omega)]
  by_cases h2 : k = 2
  · subst h2
    rw [if_pos rfl]
    simp (maxDischargeDepth := 6) only [hb, h0, h1, decide_true, decide_false, ruW, putL, Nat.reduceLeDiff, xF, ruU, entryE, Nat.reduceLT, Nat.reduceAdd, Nat.reduceMul, Nat.reduceEqDiff]
    refine (delete_d T x a.id _ gE).mono ?_
    rintro _ H1 ⟨rfl, x', st, ha⟩
    simp (maxDischargeDepth := 6) only [Try.results11, ruW, putL, Nat.reduceLeDiff, xF, ruU, entryE, Nat.reduceLT, Nat.reduceAdd, Nat.reduceMul, Nat.reduceEqDiff]
    exact ⟨rfl, x', bx st, ha⟩
  rw [if_neg h2]
  by_cases h3 : k = 3
  · subst h3
    rw [if_pos rfl]
    simp (maxDischargeDepth := 6) only [hb, h0, h1, h2, decide_true, decide_false, ruW, putL, Nat.reduceLeDiff, xF, ruU, entryE, Nat.reduceLT, Nat.reduceAdd, Nat.reduceMul, Nat.reduceEqDiff]
    refine (only_d T x a.id _ gE).mono ?_
    rintro _ H1 ⟨rfl, x', st, ha⟩
    simp (maxDischargeDepth := 6) only [Try.results11, ruW, putL, Nat.reduceLeDiff, xF, ruU, entryE, Nat.reduceLT, Nat.reduceAdd, Nat.reduceMul, Nat.reduceEqDiff]
    exact ⟨rfl, x', bx st, ha⟩
  rw [if_neg h3]
  by_cases h4 : k = 4
  · subst h4
    rw [if_pos rfl]
    simp (maxDischargeDepth := 6) only [hb, h0, h1, h2, h3, decide_true, decide_false, ruW, putL, Nat.reduceLeDiff, xF, ruU, entryE, Nat.reduceLT, Nat.reduceAdd, Nat.reduceMul, Nat.reduceEqDiff]
    refine (resize_d T x a.id a.n a.be _ gE).mono ?_
    rintro _ H1 ⟨rfl, x', st, ha⟩
    simp (maxDischargeDepth := 6) only [Try.results11, ruW, putL, Nat.reduceLeDiff, xF, ruU, entryE, Nat.reduceLT, Nat.reduceAdd, Nat.reduceMul, Nat.reduceEqDiff]
    exact ⟨rfl, x', bx st, ha⟩
  rw [if_neg h4]
  by_cases h5 : k = 5
  · subst h5
    rw [if_pos rfl]
    simp (maxDischargeDepth := 6) only [hb, h0, h1, h2, h3, h4, decide_true, decide_false, ruW, putL, Nat.reduceLeDiff, xF, ruU, entryE, Nat.reduceLT, Nat.reduceAdd, Nat.reduceMul, Nat.reduceEqDiff]
    refine (balance_d T x _ gE).mono ?_
    rintro _ H1 ⟨rfl, x', st, ha⟩
    simp (maxDischargeDepth := 6) only [Try.results11, ruW, putL, Nat.reduceLeDiff, xF, ruU, entryE, Nat.reduceLT, Nat.reduceAdd, Nat.reduceMul, Nat.reduceEqDiff]
    exact ⟨rfl, x', bx st, ha⟩
  rw [if_neg h5]
  by_cases h6 : k = 6
  · subst h6
    rw [if_pos rfl]
    simp (maxDischargeDepth := 6) only [hb, h0, h1, h2, h3, h4, h5, decide_true, decide_false, ruW, putL, Nat.reduceLeDiff, xF, ruU, entryE, Nat.reduceLT, Nat.reduceAdd, Nat.reduceMul, Nat.reduceEqDiff]
    refine (setSize_d T x a.n a.m _ gE).mono ?_
    rintro _ H1 ⟨rfl, x', st, ha⟩
    simp (maxDischargeDepth := 6) only [Try.results11, ruW, putL, Nat.reduceLeDiff, xF, ruU, entryE, Nat.reduceLT, Nat.reduceAdd, Nat.reduceMul, Nat.reduceEqDiff]
    exact ⟨rfl, x', bx st, ha⟩
  rw [if_neg h6]
  simp (maxDischargeDepth := 6) only [hb, h0, h1, h2, h3, h4, h5, h6, decide_false, ruW, putL, Nat.reduceLeDiff, xF, ruU, entryE, Nat.reduceLT, Nat.reduceAdd, Nat.reduceMul, Nat.reduceEqDiff]
  refine (select_d T x a.id _ gE).mono ?_
  rintro _ H1 ⟨rfl, x', st, ha⟩
  simp (maxDischargeDepth := 6) only [Try.results11, ruW, putL, Nat.reduceLeDiff, xF, ruU, entryE, Nat.reduceLT, Nat.reduceAdd, Nat.reduceMul, Nat.reduceEqDiff]
  exact ⟨rfl, x', bx st, ha⟩

end Go.Proofs.Ytiedpcmdimgboaa

/- Frames without blocks: what stays true of them. -/
namespace Go.Proofs.Ytiedpcmdimgboaa
open Go.Ax
set_option linter.unusedSimpArgs false

namespace Atr
theorem sub_nil (t : Atr) : sub t [] = some t := by cases t <;> rfl
theorem set_nil (t n : Atr) : set t [] n = n := by cases t <;> rfl
theorem rectAt_nil (t : Atr) (rc : Rc) : rectAt t rc [] = rc := by cases t <;> rfl
theorem sub_leaf {i : Int} {x : Bool} {d : List Bool} : sub (.leaf i) (x :: d) = none := by cases x <;> rfl
theorem sub_append : ∀ (t : Atr) (d e : List Bool), sub t (d ++ e) = (sub t d).bind fun s => sub s e
  | t, [], e => by rw [sub_nil]; rfl
  | .split _ _ l _, false :: d, e => sub_append l d e
  | .split _ _ _ r, true :: d, e => sub_append r d e
  | .leaf _, x :: d, e => by rw [List.cons_append, sub_leaf, sub_leaf]; rfl

theorem find_sub (id : Int) : ∀ (t : Atr) (d : List Bool), find id t = some d → sub t d = some (.leaf id)
  | .leaf i, d, h => by
    simp only [find] at h
    split at h
    · rename_i e; simp only [Option.some.injEq] at h; subst h; subst e; rfl
    · cases h
  | .split _ _ l r, d, h => by
    simp only [find] at h
    split at h
    · rename_i e he
      simp only [Option.some.injEq] at h; subst h
      exact find_sub id l e he
    · split at h
      · rename_i e he
        simp only [Option.some.injEq] at h; subst h
        exact find_sub id r e he
      · cases h
theorem find_none (id : Int) : ∀ t : Atr, find id t = none → id ∉ t.ids
  | .leaf i, h => by
    simp only [find] at h
    split at h
    · cases h
    · rename_i e; simp only [ids, List.mem_singleton]; exact fun he => e he.symm
  | .split _ _ l r, h => by
    simp only [find] at h
    split at h
    · cases h
    · rename_i hl
      split at h
      · cases h
      · rename_i hr
        simp only [ids, List.mem_append, not_or]
        exact ⟨find_none id l hl, find_none id r hr⟩

theorem ctx : ∀ (t : Atr) (e : List Bool) (s : Atr), sub t e = some s → ∃ pre post, t.ids = pre ++ (s.ids ++ post) ∧ ∀ n, (set t e n).ids = pre ++ (n.ids ++ post)
  | t, [], s, h => by
    rw [sub_nil] at h
    cases h
    exact ⟨[], [], by simp, fun n => by rw [set_nil]; simp⟩
  | .split b f l r, false :: e, s, h => by
    obtain ⟨pre, post, h1, h2⟩ := ctx l e s h
    refine ⟨pre, post ++ r.ids, by simp only [ids, h1, List.append_assoc], fun n => by simp only [set, ids, h2, List.append_assoc]⟩
  | .split b f l r, true :: e, s, h => by
    obtain ⟨pre, post, h1, h2⟩ := ctx r e s h
    refine ⟨l.ids ++ pre, post, by simp only [ids, h1, List.append_assoc], fun n => by simp only [set, ids, h2, List.append_assoc]⟩
  | .leaf _, _ :: _, _, h => by rw [sub_leaf] at h; cases h

theorem ids_length : ∀ t : Atr, t.ids.length = t.size + 1
  | .leaf _ => rfl
  | .split _ _ l r => by simp only [ids, List.length_append, ids_length l, ids_length r, size]; omega
theorem first_mem : ∀ t : Atr, t.first ∈ t.ids
  | .leaf _ => by simp [first, ids]
  | .split _ _ l r => by simp only [first, ids, List.mem_append]; exact .inl (first_mem l)

theorem dims_pos {t : Atr} {rc : Rc} (h : t.fits rc.dim) (b : Bool) : 2 ≤ rc.size b := by
  have h1 := fits_lst t _ h b
  have h2 := (lst_pos b t).1
  rw [Rc.dim_eq] at h1
  omega

theorem at_fits : ∀ (t : Atr) (e : List Bool) (s : Atr) (rc : Rc), sub t e = some s → t.fits rc.dim → (∀ b, rc.size b ≤ 100000) → s.fits (rectAt t rc e).dim ∧ ∀ b, (rectAt t rc e).size b ≤ rc.size b
  | t, [], s, rc, h, hf, _ => by
    rw [sub_nil] at h
    cases h
    rw [rectAt_nil]
    exact ⟨hf, fun b => Int.le_refl _⟩
  | .split be f l r, false :: e, s, rc, h, hf, hm => by
    have hl := fits_lst l _ hf.1 be
    have hr := fits_lst r _ hf.2 be
    rw [Dim.set_same] at hl hr
    have pl := (lst_pos be l).1
    have pr := (lst_pos be r).1
    have hbar : 0 ≤ bar be ∧ bar be ≤ 1 := by cases be <;> decide
    rw [Rc.dim_eq] at hr
    have dA := partA_dim be f rc
    have hle : ∀ b, (partA be f rc).size b ≤ rc.size b := fun b => by
      rw [show (partA be f rc).size b = (rc.dim.set be f) b from congrFun dA b]
      by_cases hb : b = be
      · subst hb; rw [Dim.set_same]; omega
      · rw [Dim.set_ne _ _ hb]; exact Int.le_refl _
    obtain ⟨h1, h2⟩ := at_fits l e s (partA be f rc) h (by rw [dA]; exact hf.1) (fun b => Int.le_trans (hle b) (hm b))
    exact ⟨h1, fun b => Int.le_trans (h2 b) (hle b)⟩
  | .split be f l r, true :: e, s, rc, h, hf, hm => by
    have hl := fits_lst l _ hf.1 be
    have hr := fits_lst r _ hf.2 be
    rw [Dim.set_same] at hl hr
    have pl := (lst_pos be l).1
    have pr := (lst_pos be r).1
    have hbar : 0 ≤ bar be ∧ bar be ≤ 1 := by cases be <;> decide
    rw [Rc.dim_eq] at hr
    have hmb := hm be
    have dB := partB_dim (be := be) (f := f) (r := rc) (by omega) (by omega) (by omega) (by omega)
    have hle : ∀ b, (partB be f rc).size b ≤ rc.size b := fun b => by
      rw [show (partB be f rc).size b = (rc.dim.set be (rc.size be - f - bar be)) b from congrFun dB b]
      by_cases hb : b = be
      · subst hb; rw [Dim.set_same]; omega
      · rw [Dim.set_ne _ _ hb]; exact Int.le_refl _
    obtain ⟨h1, h2⟩ := at_fits r e s (partB be f rc) h (by rw [dB]; exact hf.2) (fun b => Int.le_trans (hle b) (hm b))
    exact ⟨h1, fun b => Int.le_trans (h2 b) (hle b)⟩
  | .leaf _, _ :: _, _, _, h, _, _ => by rw [sub_leaf] at h; cases h

theorem set_fits : ∀ (t : Atr) (e : List Bool) (s n : Atr) (rc : Rc), sub t e = some s → t.fits rc.dim → (∀ b, rc.size b ≤ 100000) → n.fits (rectAt t rc e).dim → (set t e n).fits rc.dim
  | t, [], s, n, rc, h, hf, _, hn => by
    rw [rectAt_nil] at hn
    rw [set_nil]
    exact hn
  | .split be f l r, false :: e, s, n, rc, h, hf, hm, hn => by
    have hl := fits_lst l _ hf.1 be
    have hr := fits_lst r _ hf.2 be
    rw [Dim.set_same] at hl hr
    have pl := (lst_pos be l).1
    have pr := (lst_pos be r).1
    have hbar : 0 ≤ bar be ∧ bar be ≤ 1 := by cases be <;> decide
    rw [Rc.dim_eq] at hr
    have dA := partA_dim be f rc
    have hle : ∀ b, (partA be f rc).size b ≤ rc.size b := fun b => by
      rw [show (partA be f rc).size b = (rc.dim.set be f) b from congrFun dA b]
      by_cases hb : b = be
      · subst hb; rw [Dim.set_same]; omega
      · rw [Dim.set_ne _ _ hb]; exact Int.le_refl _
    have := set_fits l e s n (partA be f rc) h (by rw [dA]; exact hf.1) (fun b => Int.le_trans (hle b) (hm b)) hn
    rw [dA] at this
    exact ⟨this, hf.2⟩
  | .split be f l r, true :: e, s, n, rc, h, hf, hm, hn => by
    have hl := fits_lst l _ hf.1 be
    have hr := fits_lst r _ hf.2 be
    rw [Dim.set_same] at hl hr
    have pl := (lst_pos be l).1
    have pr := (lst_pos be r).1
    have hbar : 0 ≤ bar be ∧ bar be ≤ 1 := by cases be <;> decide
    rw [Rc.dim_eq] at hr
    have hmb := hm be
    have dB := partB_dim (be := be) (f := f) (r := rc) (by omega) (by omega) (by omega) (by omega)
    have hle : ∀ b, (partB be f rc).size b ≤ rc.size b := fun b => by
      rw [show (partB be f rc).size b = (rc.dim.set be (rc.size be - f - bar be)) b from congrFun dB b]
      by_cases hb : b = be
      · subst hb; rw [Dim.set_same]; omega
      · rw [Dim.set_ne _ _ hb]; exact Int.le_refl _
    have := set_fits r e s n (partB be f rc) h (by rw [dB]; exact hf.2) (fun b => Int.le_trans (hle b) (hm b)) hn
    rw [dB] at this
    exact ⟨hf.1, this⟩
  | .leaf _, _ :: _, _, _, _, h, _, _, _ => by rw [sub_leaf] at h; cases h

theorem above {t : Atr} {e : List Bool} {l : Bool} {s : Atr} (h : sub t (e ++ [l]) = some s) : ∃ be f a c, sub t e = some (.split be f a c) ∧ s = if l then c else a := by
  rw [sub_append] at h
  cases ht : sub t e with
  | none => rw [ht] at h; cases h
  | some u =>
    rw [ht] at h
    simp only [Option.bind_some] at h
    cases u with
    | leaf i => rw [sub_leaf] at h; cases h
    | split be f a c =>
      refine ⟨be, f, a, c, rfl, ?_⟩
      cases l
      · have : sub a [] = some s := h
        rw [sub_nil] at this
        simpa using this.symm
      · have : sub c [] = some s := h
        rw [sub_nil] at this
        simpa using this.symm
end Atr

theorem upTo_some {t : Atr} {d : List Bool} {be : Bool} : ∀ {n k : Nat}, Ast.upTo t d be n = some k → k < n ∧ ∃ f l r, t.sub (d.take k) = some (.split be f l r)
  | 0, _, h => by simp [Ast.upTo] at h
  | n + 1, k, h => by
    unfold Ast.upTo at h
    split at h
    · rename_i b f l r hs
      split at h
      · rename_i hb
        simp only [Option.some.injEq] at h
        subst h hb
        exact ⟨Nat.lt_succ_self _, f, l, r, hs⟩
      · have := upTo_some h
        exact ⟨Nat.lt_succ_of_lt this.1, this.2⟩
    · have := upTo_some h
      exact ⟨Nat.lt_succ_of_lt this.1, this.2⟩

structure Inv (s : Ast) (n : Int) : Prop where
  inn : inside s.h s.w = true
  fit : s.root.fits s.frame.dim
  nd : s.root.ids.Nodup
  rng : ∀ i ∈ s.root.ids, 1 ≤ i ∧ i ≤ s.last
  sel : s.sel ∈ s.root.ids
  cnt : s.root.ids.length ≤ 64
  lst : 1 ≤ s.last ∧ s.last ≤ n

theorem inside_iff {h w : Int} : inside h w = true ↔ 2 ≤ h ∧ h ≤ 200 ∧ 4 ≤ w ∧ w ≤ 1000 := by
  simp only [inside, Bool.and_eq_true, decide_eq_true_eq, and_assoc]

theorem Inv.size {s : Ast} {n : Int} (v : Inv s n) (b : Bool) : s.frame.size b ≤ 1000 := by
  have := inside_iff.1 v.inn
  cases b <;> simp only [Ast.frame, Rc.size, if_true, Bool.false_eq_true, if_false] <;> omega
theorem Inv.tsize {s : Ast} {n : Int} (v : Inv s n) : s.root.size < 64 := by have := v.cnt; rw [Atr.ids_length] at this; omega
theorem Inv.mono {s : Ast} {n m : Int} (v : Inv s n) (h : n ≤ m) : Inv s m := ⟨v.inn, v.fit, v.nd, v.rng, v.sel, v.cnt, v.lst.1, by have := v.lst.2; omega⟩

theorem Inv.same {s : Ast} {n : Int} (v : Inv s n) {t : Atr} (hi : t.ids = s.root.ids) (hf : t.fits s.frame.dim) : Inv { s with root := t } n :=
  ⟨v.inn, hf, by show t.ids.Nodup; rw [hi]; exact v.nd, by show ∀ i ∈ t.ids, _; rw [hi]; exact v.rng, by show s.sel ∈ t.ids; rw [hi]; exact v.sel, by show t.ids.length ≤ 64; rw [hi]; exact v.cnt, v.lst⟩

theorem new_inv {h w : Int} (hi : inside h w = true) : Inv ⟨.leaf 1, h, w, 1, 1⟩ 1 := by
  have := inside_iff.1 hi
  refine ⟨hi, fun b => ?_, by simp [Atr.ids], by simp [Atr.ids], by simp [Atr.ids], by simp [Atr.ids], by simp⟩
  cases b <;> simp only [mins, Rc.dim, Ast.frame, Rc.size, if_true, Bool.false_eq_true, if_false] <;> omega

theorem select_inv {s : Ast} {n : Int} (v : Inv s n) (id : Int) : Inv (s.select id).2 n := by
  unfold Ast.select
  split
  · exact v
  · rename_i d hd
    obtain ⟨pre, post, h, _⟩ := Atr.ctx _ _ _ (Atr.find_sub id s.root d hd)
    exact ⟨v.inn, v.fit, v.nd, v.rng, by show id ∈ s.root.ids; rw [h]; simp [Atr.ids], v.cnt, v.lst⟩

theorem only_inv {s : Ast} {n : Int} (v : Inv s n) (id : Int) : Inv (s.only id).2 n := by
  unfold Ast.only
  split
  · exact v
  · rename_i d hd
    obtain ⟨pre, post, h, _⟩ := Atr.ctx _ _ _ (Atr.find_sub id s.root d hd)
    have hm : id ∈ s.root.ids := by rw [h]; simp [Atr.ids]
    have hi := inside_iff.1 v.inn
    refine ⟨v.inn, fun b => ?_, by simp [Atr.ids], by simpa [Atr.ids] using v.rng id hm, by simp [Atr.ids], by simp [Atr.ids], v.lst⟩
    cases b <;> simp only [mins, Rc.dim, Ast.frame, Rc.size, if_true, Bool.false_eq_true, if_false] <;> omega

theorem balance_inv {s : Ast} {n : Int} (v : Inv s n) : Inv s.balance n :=
  v.same (Atr.ids_balance _ _) (Atr.balance_fits _ _ (by have := v.tsize; omega) (fun b => Atr.fits_lst _ _ v.fit b) (fun b => by have := v.size b; omega))

theorem setSize_inv {s : Ast} {n : Int} (v : Inv s n) (h w : Int) : Inv (s.setSize h w).2 n := by
  unfold Ast.setSize
  split
  · exact v
  · rename_i hc
    simp only [not_or, Bool.not_eq_false, Int.not_lt] at hc
    obtain ⟨hi, h1, h2⟩ := hc
    have ts := v.tsize
    have hi' := inside_iff.1 hi
    have hv := inside_iff.1 v.inn
    rw [Atr.least_eq _ _ (by omega)] at h1 h2
    have f1 := Atr.resize_fits true s.root s.frame.dim h v.fit (by omega) (by have := v.size true; rw [Rc.dim_eq]; omega) (by omega) h1
    have f2 := Atr.resize_fits false _ _ w f1 (by rw [Atr.size_resize]; omega) (by rw [Dim.set_ne _ _ (by decide)]; have := v.size false; rw [Rc.dim_eq]; omega) (by omega) (by rw [Atr.lst_resize]; exact h2)
    rw [Dim.set_ne _ _ (by decide)] at f2
    refine ⟨hi, ?_, ?_, ?_, ?_, ?_, v.lst⟩
    · have e : (Ast.frame { s with root := (s.root.resize true s.h h).resize false s.w w, h := h, w := w }).dim = (s.frame.dim.set true h).set false w := by
        funext b; cases b <;> rfl
      rw [e]
      exact f2
    all_goals simp only [Atr.ids_resize]
    · exact v.nd
    · exact v.rng
    · exact v.sel
    · exact v.cnt

theorem nodup_ins {pre post : List Int} {id fr : Int} (h : (pre ++ ([id] ++ post)).Nodup) (hf : fr ∉ pre ++ ([id] ++ post)) : (pre ++ (([id] ++ [fr]) ++ post)).Nodup := by
  simp only [List.nodup_append, List.mem_append, List.mem_singleton, List.nodup_cons, List.not_mem_nil, not_false_eq_true, List.nodup_nil, and_true, true_and, not_or] at h hf ⊢
  grind

theorem split_inv {s : Ast} {n : Int} (v : Inv s n) (hn : n ≤ 100000) (id : Int) (be : Bool) (k : Int) : Inv (s.split id be k).2.2 (n + 1) := by
  have v1 := v.mono (m := n + 1) (by omega)
  unfold Ast.split
  split
  · exact v1
  · rename_i d hd
    split
    · exact v1
    rename_i hc
    split
    · exact v1
    rename_i hk
    split
    · exact v1
    rename_i hr
    simp only [not_or, Int.not_lt] at hr
    obtain ⟨h1, h2, h3⟩ := hr
    have hs := Atr.find_sub id s.root d hd
    obtain ⟨f0, l0⟩ := Atr.at_fits s.root d _ s.frame hs v.fit (fun b => by have := v.size b; omega)
    obtain ⟨pre, post, e1, e2⟩ := Atr.ctx _ _ _ hs
    have hl := v.lst
    have hlast : w64 (s.last + 1) = s.last + 1 := wrap_sm (by omega) (by omega)
    have hrl : s.rects.length = s.root.ids.length := by
      have : ∀ (t : Atr) (rc : Rc), (t.rects rc).length = t.ids.length := by
        intro t
        induction t with
        | leaf i => intro rc; rfl
        | split b f l r ihl ihr => intro rc; simp only [Atr.rects, Atr.ids, List.length_append, ihl, ihr]
      exact this _ _
    rw [hlast]
    have hW : s.splitW d be = (s.root.rectAt s.frame d).size be - bar be := by
      have hb := l0 be
      have hp := Atr.dims_pos f0 be
      have := v.size be
      have hbar : 0 ≤ bar be ∧ bar be ≤ 1 := by cases be <;> decide
      exact wrap_sm (by omega) (by omega)
    generalize hD : s.root.rectAt s.frame d = D at *
    generalize s.splitN d be k = m at *
    rw [hW] at h1 h3 ⊢
    have hb := l0 be
    have hvs := v.size be
    have hbar : 0 ≤ bar be ∧ bar be ≤ 1 := by cases be <;> decide
    have hmin : 2 ≤ mins be := by cases be <;> decide
    have hwm : w64 (D.size be - bar be - m) = D.size be - bar be - m := wrap_sm (by omega) (by omega)
    rw [hwm] at h3 ⊢
    have hids : (s.root.set d (.split be (D.size be - bar be - m) (.leaf id) (.leaf (s.last + 1)))).ids = pre ++ (([id] ++ [s.last + 1]) ++ post) := e2 _
    simp only [Atr.ids] at e1
    have hnew : s.last + 1 ∉ s.root.ids := fun h => by have := v.rng _ h; omega
    refine ⟨v.inn, ?_, ?_, ?_, ?_, ?_, ?_, ?_⟩
    · refine Atr.set_fits s.root d _ _ s.frame hs v.fit (fun b => by have := v.size b; omega) ?_
      rw [hD]
      refine ⟨fun b => ?_, fun b => ?_⟩
      · by_cases hb : b = be
        · subst hb; rw [Dim.set_same]; exact h3
        · rw [Dim.set_ne _ _ hb]; exact f0 b
      · by_cases hb : b = be
        · subst hb; rw [Dim.set_same, Rc.dim_eq]; omega
        · rw [Dim.set_ne _ _ hb]; exact f0 b
    · show (Atr.ids _).Nodup
      rw [hids]
      have hnd := v.nd
      rw [e1] at hnd hnew
      exact nodup_ins hnd hnew
    · show ∀ i ∈ Atr.ids _, _
      rw [hids]
      intro i hi
      show 1 ≤ i ∧ i ≤ s.last + 1
      by_cases h : i = s.last + 1
      · omega
      · have : i ∈ s.root.ids := by rw [e1]; simp only [List.mem_append, List.mem_singleton] at hi ⊢; rcases hi with hi | (hi | hi) | hi <;> simp_all
        have := v.rng i this
        omega
    · show s.sel ∈ Atr.ids _
      rw [hids]
      have := v.sel
      rw [e1] at this
      simp only [List.mem_append, List.mem_singleton] at this ⊢
      rcases this with h | h | h <;> simp [h]
    · show (Atr.ids _).length ≤ 64
      rw [hids]
      rw [hrl, e1] at hc
      simp only [List.length_append, List.length_singleton] at hc ⊢
      omega
    · show 1 ≤ s.last + 1; omega
    · show s.last + 1 ≤ n + 1; omega

theorem delete_inv {s : Ast} {n : Int} (v : Inv s n) (id : Int) : Inv (s.delete id).2 n := by
  unfold Ast.delete
  split
  · exact v
  · rename_i d hd
    split
    · exact v
    rename_i hne
    split
    · rename_i be f l r hsub
      have hs := Atr.find_sub id s.root d hd
      obtain ⟨f0, l0⟩ := Atr.at_fits s.root d.dropLast _ s.frame hsub v.fit (fun b => by have := v.size b; omega)
      obtain ⟨pre, post, e1, e2⟩ := Atr.ctx _ _ _ hsub
      have hdd := List.dropLast_concat_getLast hne
      rw [← hdd] at hs
      obtain ⟨be', f', a', c', hs', hch⟩ := Atr.above hs
      rw [hsub] at hs'
      cases hs'
      generalize hlr : d.getLast hne = lr at hch
      have hgl : (d.getLast? == some false) = !lr := by rw [List.getLast?_eq_some_getLast hne, hlr]; cases lr <;> rfl
      rw [hgl]
      have ts := v.tsize
      have hts : l.ids.length + r.ids.length ≤ s.root.ids.length := by rw [e1]; simp only [Atr.ids, List.length_append]; omega
      rw [Atr.ids_length, Atr.ids_length, Atr.ids_length] at hts
      generalize hD : s.root.rectAt s.frame d.dropLast = D at *
      have hvs := v.size be
      have hb0 := l0 be
      have hlb := Atr.fits_lst l _ f0.1 be
      have hrb := Atr.fits_lst r _ f0.2 be
      rw [Dim.set_same] at hlb hrb
      rw [Rc.dim_eq] at hrb
      have pl := (Atr.lst_pos be l).1
      have pr := (Atr.lst_pos be r).1
      have hbar : 0 ≤ bar be ∧ bar be ≤ 1 := by cases be <;> decide
      have dA := partA_dim be f D
      have dB := partB_dim (be := be) (f := f) (r := D) (by omega) (by omega) (by omega) (by omega)
      have key : ∃ t' : Atr, (Ast.otherA (!lr) be f l r D).1.resize be ((Ast.otherA (!lr) be f l r D).2.size be) (D.size be) = t' ∧ t'.fits D.dim ∧ t'.ids = (if lr then l else r).ids ∧ (Ast.otherA (!lr) be f l r D).1.first ∈ (if lr then l else r).ids := by
        cases lr with
        | true =>
          refine ⟨_, rfl, ?_, Atr.ids_resize _ _ _ _, Atr.first_mem _⟩
          have := Atr.resize_fits be l (D.dim.set be f) (D.size be) f0.1 (by omega) (by rw [Dim.set_same]; omega) (by omega) (by omega)
          rw [Dim.set_same, Dim.set_set] at this
          have e : D.dim.set be (D.size be) = D.dim := Dim.set_self D.dim be
          rw [e] at this
          have hA : (partA be f D).size be = f := by have := congrFun dA be; rw [Dim.set_same] at this; exact this
          simp only [Ast.otherA, Bool.not_true, Bool.false_eq_true, if_false, hA]
          exact this
        | false =>
          refine ⟨_, rfl, ?_, Atr.ids_resize _ _ _ _, Atr.first_mem _⟩
          have := Atr.resize_fits be r (D.dim.set be (D.size be - f - bar be)) (D.size be) f0.2 (by omega) (by rw [Dim.set_same]; omega) (by omega) (by omega)
          rw [Dim.set_same, Dim.set_set] at this
          have e : D.dim.set be (D.size be) = D.dim := Dim.set_self D.dim be
          rw [e] at this
          have hB : (partB be f D).size be = D.size be - f - bar be := by have := congrFun dB be; rw [Dim.set_same] at this; exact this
          simp only [Ast.otherA, Bool.not_false, if_true, hB]
          exact this
      obtain ⟨t', ht, hf', hi', hfirst⟩ := key
      simp only [ht]
      have hids : (s.root.set d.dropLast t').ids = pre ++ ((if lr then l else r).ids ++ post) := by rw [e2, hi']
      have hall : s.root.ids = pre ++ (((if lr then l else r).ids ++ [id]) ++ post) ∨ s.root.ids = pre ++ (([id] ++ (if lr then l else r).ids) ++ post) := by
        cases lr with
        | true => left; rw [e1]; simp only [Atr.ids, if_true] at hch ⊢; rw [← hch]; simp [Atr.ids]
        | false => right; rw [e1]; simp only [Atr.ids, Bool.false_eq_true, if_false] at hch ⊢; rw [← hch]; simp [Atr.ids]
      generalize (if lr then l else r).ids = O at hall hids hfirst hi'
      have hsl := v.sel
      have hmem : ∀ i, i ∈ (pre ++ (O ++ post)) → i ∈ s.root.ids := fun i hi => by rcases hall with h | h <;> rw [h] <;> grind
      have hmem' : ∀ i, i ∈ s.root.ids → i ≠ id → i ∈ (pre ++ (O ++ post)) := fun i hi hne => by rcases hall with h | h <;> rw [h] at hi <;> grind
      refine ⟨v.inn, ?_, ?_, ?_, ?_, ?_, v.lst⟩
      · exact Atr.set_fits s.root d.dropLast _ _ s.frame hsub v.fit (fun b => by have := v.size b; omega) (by rw [hD]; exact hf')
      · show (Atr.ids _).Nodup
        rw [hids]
        have hnd := v.nd
        rcases hall with h | h <;> rw [h] at hnd
        · exact hnd.sublist (List.Sublist.append (List.Sublist.refl _) (List.Sublist.append (List.sublist_append_left _ _) (List.Sublist.refl _)))
        · exact hnd.sublist (List.Sublist.append (List.Sublist.refl _) (List.Sublist.append (List.sublist_append_right _ _) (List.Sublist.refl _)))
      · show ∀ i ∈ Atr.ids _, _
        rw [hids]
        exact fun i hi => v.rng i (hmem i hi)
      · show (if s.sel = id then _ else s.sel) ∈ Atr.ids _
        rw [hids]
        split
        · simp only [List.mem_append]; exact .inr (.inl hfirst)
        · rename_i h; exact hmem' _ hsl h
      · show (Atr.ids _).length ≤ 64
        rw [hids]
        have := v.cnt
        rcases hall with h | h <;> rw [h] at this <;> simp only [List.length_append, List.length_singleton] at this ⊢ <;> omega
    · exact v

theorem resize_inv {s : Ast} {n : Int} (v : Inv s n) (id k : Int) (be : Bool) : Inv (s.resize id k be).2 n := by
  unfold Ast.resize
  split
  · exact v
  · rename_i d hd
    split
    · exact v
    rename_i m hm
    split
    · exact v
    rename_i hk
    split
    · rename_i b f l r hsub
      obtain ⟨_, f1, l1, r1, hs1⟩ := upTo_some hm
      rw [hs1] at hsub
      cases hsub
      generalize hby : (if d[m]? = some false then k else w64 (0 - k)) = by2
      dsimp only
      split
      · exact v
      rename_i hc
      simp only [not_or, Int.not_lt] at hc
      obtain ⟨f0, l0⟩ := Atr.at_fits s.root (d.take m) _ s.frame hs1 v.fit (fun b => by have := v.size b; omega)
      obtain ⟨pre, post, e1, e2⟩ := Atr.ctx _ _ _ hs1
      have ts := v.tsize
      have hts : l.ids.length + r.ids.length ≤ s.root.ids.length := by rw [e1]; simp only [Atr.ids, List.length_append]; omega
      rw [Atr.ids_length, Atr.ids_length, Atr.ids_length] at hts
      generalize hD : s.root.rectAt s.frame (d.take m) = D at *
      have hvs := v.size be
      have hb0 := l0 be
      have hlb := Atr.fits_lst l _ f0.1 be
      have hrb := Atr.fits_lst r _ f0.2 be
      rw [Dim.set_same] at hlb hrb
      rw [Rc.dim_eq] at hrb
      have pl := (Atr.lst_pos be l).1
      have pr := (Atr.lst_pos be r).1
      have hbar : 0 ≤ bar be ∧ bar be ≤ 1 := by cases be <;> decide
      have hby2 : -1000 ≤ by2 ∧ by2 ≤ 1000 := by
        rw [← hby]
        simp only [not_or, Int.not_lt] at hk
        split
        · exact hk
        · rw [wrap_sm (n := 0 - k) (by omega) (by omega)]; omega
      have w1 : w64 (f + by2) = f + by2 := wrap_sm (by omega) (by omega)
      have w2 : w64 (w64 (D.size be - f) - bar be) = D.size be - f - bar be := by rw [wrap_sm (n := D.size be - f) (by omega) (by omega), wrap_sm (by omega) (by omega)]
      have w3 : w64 (D.size be - f - bar be - by2) = D.size be - f - bar be - by2 := wrap_sm (by omega) (by omega)
      simp only [w1, w2, w3, Atr.least_eq be l (by omega), Atr.least_eq be r (by omega)] at hc ⊢
      refine v.same ?_ ?_
      · rw [e2, e1]; simp only [Atr.ids, Atr.ids_resize]
      · refine Atr.set_fits s.root (d.take m) _ _ s.frame hs1 v.fit (fun b => by have := v.size b; omega) ?_
        rw [hD]
        have g1 := Atr.resize_fits be l (D.dim.set be f) (f + by2) f0.1 (by omega) (by rw [Dim.set_same]; omega) (by omega) hc.1
        have g2 := Atr.resize_fits be r (D.dim.set be (D.size be - f - bar be)) (D.size be - f - bar be - by2) f0.2 (by omega) (by rw [Dim.set_same]; omega) (by omega) hc.2
        rw [Dim.set_same, Dim.set_set] at g1 g2
        refine ⟨g1, ?_⟩
        rw [Rc.dim_eq, show D.size be - (f + by2) - bar be = D.size be - f - bar be - by2 by omega]
        exact g2
    · exact v

theorem act_inv {s : Ast} {n : Int} (v : Inv s n) (hn : n ≤ 100000) (a : Ac) : Inv (s.act a).2.2 (n + 1) := by
  unfold Ast.act
  split
  · exact split_inv v hn _ _ _
  split
  · exact (delete_inv v _).mono (by omega)
  split
  · exact (only_inv v _).mono (by omega)
  split
  · exact (resize_inv v _ _ _).mono (by omega)
  split
  · exact (balance_inv v).mono (by omega)
  split
  · exact (setSize_inv v _ _).mono (by omega)
  · exact (select_inv v _).mono (by omega)

end Go.Proofs.Ytiedpcmdimgboaa
