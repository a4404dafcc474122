/- Parts of the proof, one behind the other. -/
import Derived.Test.YtnigelgcjfhghaaGreatDoorM4
import Derived.WideShapes
import Derived.ChangeSlices
import Derived.ChangeAnyMap
import GoSem.ClaimJoined
import Derived.Shelf.Spec.SlicesInsertGrow
import Derived.Test.YtnigelgcjfhghaaGreatDoorRows
import Derived.Shelf.Strings.Repeat
import Derived.ChangeArms
import Derived.Shelf.Strings.Search3
import Derived.Shelf.Small.Strs
import Derived.Shelf.Small.Wraps
set_option linter.all false

/- A call's arguments, one of which is a slice of structs of numbers, truth values and strings: an abstract heap that holds its cells. -/
namespace Go.Ax
open Go.ChangeShapes
section
variable {P : Program} {K : Type} {enc : TypeId × Value → K} {w : World} {base : Nat} {spare : Nat → Bool} {held : Bool}

theorem mapM_each {α β : Type} {g : α → Option β} : ∀ {l : List α} {r : List β}, l.mapM g = some r → ∀ x ∈ l, ∃ y, g x = some y
  | [], _, _, x, hx => by cases hx
  | a :: l, r, h, x, hx => by
    rw [List.mapM_cons] at h
    cases hg : g a with
    | none => rw [hg] at h; cases h
    | some y =>
      rw [hg] at h
      cases hl : l.mapM g with
      | none => simp [hl] at h
      | some r' =>
        rcases List.mem_cons.1 hx with rfl | hx
        · exact ⟨y, hg⟩
        · exact mapM_each hl x hx

theorem fits_append : ∀ {ts us : List TypeId} {a b : List Value}, fits P ts a = true → fits P us b = true → fits P (ts ++ us) (a ++ b) = true
  | [], us, [], b, _, h => h
  | [], _, _ :: _, _, h, _ => by simp [fits] at h
  | _ :: _, _, [], _, h, _ => by simp [fits] at h
  | t :: ts, us, v :: a, b, h, h2 => by
    simp only [fits, Bool.and_eq_true] at h
    simp only [List.cons_append, fits, h.1, fits_append h.2 h2, Bool.and_self]

theorem trod_fieldsF {fuel d : Nat} {cs : List Value} (ih : ∀ (t : TypeId) (ts : List TypeId) (cs : List Value) (x : DataW K × List MemPlace), flat P d t = some ts → szOf P t = some ts.length → DataW.trod enc P w base spare held fuel t cs = some x → fits P ts cs = true) :
    ∀ (fs : List Field) (o : Nat) (ts : List TypeId), flatF P (flat P d) fs o = some ts → (∀ f ∈ fs, ∃ y, DataW.trod enc P w base spare held fuel f.type ((cs.drop f.offset).take (P.cellsOf f.type)) = some y) → o + ts.length ≤ cs.length → fits P ts ((cs.drop o).take ts.length) = true
  | [], o, ts, h, _, _ => by
    simp only [flatF, Option.some.injEq] at h
    subst h
    rfl
  | f :: fs, o, ts, h, hy, hle => by
    simp only [flatF] at h
    split at h
    · rename_i hf
      obtain ⟨_, ho⟩ := hf
      cases e1 : flat P d f.type with
      | none => rw [e1] at h; cases h
      | some a =>
        rw [e1] at h
        simp only at h
        split at h
        · rename_i hsz
          cases e2 : flatF P (flat P d) fs (o + a.length) with
          | none => rw [e2] at h; cases h
          | some b =>
            rw [e2] at h
            simp only [Option.some.injEq] at h
            subst h
            rw [List.length_append] at hle
            obtain ⟨y, hy0⟩ := hy f (by simp)
            rw [ho, cellsOf_szOf hsz] at hy0
            have h1 := ih f.type a _ y e1 hsz hy0
            have h2 := trod_fieldsF ih fs (o + a.length) b e2 (fun g hg => hy g (by simp [hg])) (by omega)
            have : (cs.drop o).take (a ++ b).length = (cs.drop o).take a.length ++ (cs.drop (o + a.length)).take b.length := by
              rw [List.length_append, List.take_add, List.drop_drop]
            rw [this]
            exact fits_append h1 h2
        · cases h
    · cases h

theorem trod_fits : ∀ (fuel d : Nat) (t : TypeId) (ts : List TypeId) (cs : List Value) (x : DataW K × List MemPlace), flat P d t = some ts → szOf P t = some ts.length → DataW.trod enc P w base spare held fuel t cs = some x → fits P ts cs = true
  | 0, _, _, _, _, _, _, _, h => by simp [DataW.trod] at h
  | _ + 1, 0, _, _, _, _, h, _, _ => by simp [flat] at h
  | fuel + 1, d + 1, t, ts, cs, x, hf, hs, h => by
    simp only [flat] at hf
    unfold DataW.trod at h
    cases e : P.underlying t with
    | none => rw [e] at hf; cases hf
    | some td =>
      rw [e] at hf h
      cases td with
      | bool =>
        simp only [Option.some.injEq] at hf
        subst hf
        split at h <;> first | cases h | skip
        all_goals first | (rename_i hh; cases hh; done) | skip
        all_goals simp_all [fits, fit1]
      | int k =>
        simp only [Option.some.injEq] at hf
        subst hf
        split at h <;> simp_all [fits, fit1]
      | string =>
        simp only [Option.some.injEq] at hf
        subst hf
        split at h <;> simp_all [fits, fit1]
      | struct fs =>
        simp only at hf
        split at hf
        · cases hf
        · simp only at h
          split at h
          · rename_i hlen
            rw [cellsOf_szOf hs] at hlen
            cases hm : fs.toList.mapM fun f => DataW.trod enc P w base spare held fuel f.type ((cs.drop f.offset).take (P.cellsOf f.type)) with
            | none => rw [hm] at h; cases h
            | some xs =>
              have := trod_fieldsF (cs := cs) (fun t ts cs x => trod_fits fuel d t ts cs x) fs.toList 0 ts hf (mapM_each hm) (by omega)
              rw [List.drop_zero, List.take_of_length_le (by omega)] at this
              exact this
          · cases h
      | _ => simp at hf

theorem trod_slice {fuel : Nat} {t e : TypeId} {ts : List TypeId} {D : Nat} (ht : P.underlying t = some (.slice e)) (hsz : szOf P e = some ts.length) (hfl : flat P D e = some ts) {b off len cap : Nat} {x : DataW K × List MemPlace}
    (h : DataW.trod enc P w 0 spare held fuel t [.slice (some ⟨b, off, none⟩) len cap] = some x) (hnf : w.noneFrozen x.2) :
    len ≤ cap ∧ (len * ts.length = 0 ∨ ∃ (c : Array Value) (e' : TypeId) (fz : Nat × Nat) (vs : List Value), w.heap[b]? = some (.cells c e' fz) ∧ vs.length = len * ts.length ∧ (∀ i, i < vs.length → c[off + i]? = some (vs.getD i undef)) ∧
      (∀ i, i < len → fits P ts ((vs.drop (i * ts.length)).take ts.length) = true) ∧ ∀ i, off ≤ i → i < off + len * ts.length → ¬ (fz.1 ≤ i ∧ i < fz.2)) := by
  cases fuel with
  | zero => simp [DataW.trod] at h
  | succ fuel =>
    unfold DataW.trod at h
    rw [ht] at h
    simp only [cellsOf_szOf hsz] at h
    split at h
    · rename_i hc
      refine ⟨hc.2.1, ?_⟩
      by_cases h0 : len * ts.length = 0
      · exact .inl h0
      right
      cases hm : (List.range len).mapM fun i => (w.cells? 0 ((⟨b, off, none⟩ : Addr).add (i * ts.length)) ts.length).bind (DataW.trod enc P w 0 spare held fuel e) with
      | none => rw [hm] at h; cases h
      | some elems =>
        rw [hm, Option.bind_some] at h
        have hel : elems.length = len := by have := mapM_len hm; simpa using this
        have each : ∀ i, i < len → ∃ cs y, w.cells? 0 ((⟨b, off, none⟩ : Addr).add (i * ts.length)) ts.length = some cs ∧ DataW.trod enc P w 0 spare held fuel e cs = some y := fun i hi => by
          obtain ⟨y, hy⟩ := mapM_each hm i (by simpa using hi)
          cases hcs : w.cells? 0 ((⟨b, off, none⟩ : Addr).add (i * ts.length)) ts.length with
          | none => rw [hcs] at hy; cases hy
          | some cs => rw [hcs] at hy; exact ⟨cs, y, rfl, hy⟩
        have cell : ∀ i, i < len * ts.length → ∃ v, w.cell? ⟨b, off + i, none⟩ = some v := fun i hi => by
          have hp : 0 < ts.length := Nat.pos_of_ne_zero fun h => h0 (by rw [h, Nat.mul_zero])
          have hq : i / ts.length < len := (Nat.div_lt_iff_lt_mul hp).2 hi
          obtain ⟨cs, y, hcs, _⟩ := each _ hq
          unfold World.cells? at hcs
          rw [if_pos (Nat.zero_le _)] at hcs
          obtain ⟨v, hv⟩ := mapM_each hcs (i % ts.length) (by simpa using Nat.mod_lt _ hp)
          rw [addr_add, addr_add] at hv
          have : off + i / ts.length * ts.length + i % ts.length = off + i := by rw [Nat.add_assoc, Nat.mul_comm, Nat.div_add_mod]
          rw [this] at hv
          exact ⟨v, hv⟩
        obtain ⟨v0, hv0⟩ := cell 0 (by omega)
        unfold World.cell? at hv0
        cases hb : w.heap[b]? with
        | none => simp [hb] at hv0
        | some o =>
          cases o with
          | cells c e' fz =>
            have cell' : ∀ i, i < len * ts.length → ∃ v, c[off + i]? = some v := fun i hi => by
              obtain ⟨v, hv⟩ := cell i hi
              simp only [World.cell?, hb] at hv
              exact ⟨v, by simpa using hv⟩
            obtain ⟨vs, hvs⟩ : ∃ vs : List Value, vs = (List.range (len * ts.length)).map fun i => (c[off + i]?).getD undef := ⟨_, rfl⟩
            have hvl : vs.length = len * ts.length := by simp [hvs]
            have hvg : ∀ i, i < vs.length → c[off + i]? = some (vs.getD i undef) := fun i hi => by
              rw [hvl] at hi
              obtain ⟨v, hv⟩ := cell' i hi
              simp [hvs, hi, hv, List.getD_eq_getElem?_getD]
            refine ⟨c, e', fz, vs, rfl, hvl, hvg, fun i hi => ?_, fun i h1 h2 => ?_⟩
            · obtain ⟨cs, y, hcs, hy⟩ := each i hi
              have hcs' : (vs.drop (i * ts.length)).take ts.length = cs := by
                unfold World.cells? at hcs
                rw [if_pos (Nat.zero_le _)] at hcs
                have hin : i * ts.length + ts.length ≤ len * ts.length := by rw [← Nat.succ_mul]; exact Nat.mul_le_mul_right _ hi
                have hr := mapM_range_of (f := fun j => w.cell? (((⟨b, off, none⟩ : Addr).add (i * ts.length)).add j)) (g := fun j => vs.getD (i * ts.length + j) undef) ts.length (fun j hj => by
                  have h3 := hvg (i * ts.length + j) (by rw [hvl]; omega)
                  rw [addr_add, addr_add, Nat.add_assoc]
                  simp [World.cell?, hb, h3])
                rw [hr] at hcs
                cases hcs
                apply List.ext_getElem?
                intro j
                by_cases hj : j < ts.length
                · rw [List.getElem?_take, if_pos hj, List.getElem?_drop, List.getElem?_map, List.getElem?_range hj, List.getElem?_eq_getElem (by rw [hvl]; omega)]
                  simp only [Option.map_some, List.getD_eq_getElem?_getD]
                  rw [List.getElem?_eq_getElem (by rw [hvl]; omega)]
                  rfl
                · rw [List.getElem?_eq_none (by simp; omega), List.getElem?_eq_none (by simp; omega)]
              rw [hcs']
              exact trod_fits fuel D e ts cs y hfl hsz hy
            · have hmem : MemPlace.cell b i ∈ x.2 := by
                cases hrest : (if spare b then (List.range (cap - len)).mapM fun j => (w.cells? 0 ((⟨b, off, none⟩ : Addr).add ((len + j) * ts.length)) ts.length).bind (DataW.trod enc P w 0 spare held fuel e) else some []) with
                | none => rw [hrest] at h; cases h
                | some rest =>
                  rw [hrest] at h
                  simp only [Option.map_some, Option.some.injEq] at h
                  subst h
                  simp only [List.mem_append]
                  left
                  unfold MemPlace.row
                  rw [List.mem_map]
                  refine ⟨i - off, ?_, by simp only [MemPlace.cell.injEq, true_and]; omega⟩
                  rw [List.mem_range, hel, Nat.add_mul]
                  omega
              have := hnf b i hmem
              intro hh
              simp only [World.frozen?, hb] at this
              simp [hh.1, hh.2] at this
          | _ => simp [hb] at hv0
    · cases h

def enH (N : Nat) (e : TypeId) (vs : List Value) : AHeap := { nw (AHeap.none N) e vs true with base := N + 1 }
theorem enH_next {N : Nat} {e : TypeId} {vs : List Value} : (enH N e vs).next = N + 1 := rfl
theorem enH_bk {N : Nat} {e : TypeId} {vs : List Value} : bk (enH N e vs) N = some ⟨e, true, vs⟩ := by
  have := blk_bk (Blk.nw_new (H := AHeap.none N) e true vs)
  exact this
theorem enH_get {N m : Nat} {e : TypeId} {vs : List Value} (h : m ≠ N) : (enH N e vs).get m = none := by
  have := nw_get (H := AHeap.none N) e vs true (m := m) h
  rw [none_get] at this
  exact this

def enR (N b off : Nat) : Ren := ⟨fun n => if n = N then b else n, fun n => if n = N then off else 0, fun _ => 0, fun _ => .nilIface, fun _ => rfl⟩

theorem rel_en {N b off : Nat} {e : TypeId} {vs : List Value} {c : Array Value} {fz : Nat × Nat} (hN : P.globals.size ≤ N) (hb : w.heap[b]? = some (.cells c e fz)) (hc : ∀ i, i < vs.length → c[off + i]? = some (vs.getD i undef)) (h0 : 0 < vs.length) (ha : afL vs = true) (hf : ∀ i, off ≤ i → i < off + vs.length → ¬ (fz.1 ≤ i ∧ i < fz.2)) :
    Rel P (enR N b off) (enH N e vs) w := by
  have hget : (enH N e vs).get N = some ⟨.cells #[] e, true, RV.ofList vs⟩ := by
    have : (nw (AHeap.none N) e vs true).get N = some ⟨.cells #[] e, true, RV.ofList vs⟩ := by rw [nw, AHeap.get_new, if_pos (show N = (AHeap.none N).next from rfl)]
    exact this
  have hav : ∀ x ∈ vs, af x = true := by
    intro x hx
    clear hc hf hget h0
    induction vs with
    | nil => cases hx
    | cons y ys ih =>
      simp only [afL, Bool.and_eq_true] at ha
      rcases List.mem_cons.1 hx with rfl | hx
      · exact ha.1
      · exact ih ha.2 hx
  have hgd : ∀ i, i < vs.length → af (vs.getD i undef) = true := fun i hi => hav _ (by simp [List.getD_eq_getElem?_getD, List.getElem?_eq_getElem hi])
  refine ⟨Nat.le_refl _, ⟨Nat.le_succ_of_le hN, fun g hg => ?_⟩, fun m n hm hn _ => ?_, fun n o hn => ?_, fun n o hn => ?_⟩
  · have : g ≠ N := by omega
    exact ⟨if_neg this, if_neg this⟩
  · have e1 : m = N := Decidable.byContradiction fun h => hm (enH_get h)
    have e2 : n = N := Decidable.byContradiction fun h => hn (enH_get h)
    exact .inl (e1.trans e2.symm)
  · by_cases h : n = N
    · subst h
      rw [hget] at hn
      cases hn
      refine ⟨Nat.lt_succ_self _, ?_⟩
      simp only [sco, RV.n_ofList, RV.get_ofList]
      intro i hi
      exact scb_of_af _ (hgd i hi)
    · rw [enH_get h] at hn; cases hn
  · by_cases h : n = N
    · subst h
      rw [hget] at hn
      cases hn
      refine ⟨_, by simp only [enR, if_pos]; exact hb, ?_⟩
      simp only [Fits]
      refine ⟨c, fz, rfl, fun i hi => ?_, fun h => (by cases h), fun _ _ => ⟨⟨?_, fun h => absurd rfl h⟩, ?_⟩⟩
      · simp only [RV.n_ofList] at hi
        rw [RV.get_ofList, val_af _ _ (hgd i hi)]
        simp only [enR, if_pos]
        rw [Nat.add_comm]
        exact hc i hi
      · simp only [enR, if_pos, RV.n_ofList, Nat.zero_mul, Nat.add_zero]
        have := hc (vs.length - 1) (by omega)
        rcases Nat.lt_or_ge (off + (vs.length - 1)) c.size with h1 | h1
        · omega
        · rw [Array.getElem?_eq_none h1] at this; cases this
      · simp only [enR, if_pos, RV.n_ofList, Nat.zero_mul, Nat.add_zero]
        exact hf
    · rw [enH_get h] at hn; cases hn

theorem rel_calls {f : FuncId} {args : List Value} {H : AHeap} {ρ : Ren} (r : Rel P ρ H w) (hsc : scbL H.next args = true) (hbase : H.base = H.next) (hd : H.dirty = []) (h : CallA P f args H fun out H1 => out = .ok (.bool true) ∧ Mod [] H H1) :
    Calls P f (args.map ρ.val).toArray w (fun e w' => e = .returned (.bool true) ∧ RowKit.Below w.heap.size w w') := by
  obtain ⟨_, H1, hc, rfl, m⟩ := h
  refine (callsIn_wide (n := 0)).1 (hc ρ w r hsc Fence.wide 0 _ wide_wide ?_)
  intro ρ1 w1 s _
  refine ⟨by rw [Ren.val], s.os, s.tape, s.output, s.size, fun b hb => s.old b hb fun n hn hor _ => ?_⟩
  rcases hor with h | h
  · omega
  · rcases m.dirty n h with h | h
    · rw [hd] at h; cases h
    · exact absurd h.1 (by simp)

theorem callS_ans (hmix : P.follows .mixedOrders = true) {L : FuncId → List Value → AHeap → Option Value} (hK : Known P L) {fuel : Nat} {f : FuncId} {args : List Value} {v : Value} (ha : args.all af = true) (h : ansB P L fuel f args v = true) (H : AHeap) : CallS P f args H (.ok v) H := by
  intro ρ w r hsc F n R hF hR
  rw [map_af ρ args (fun x hx => List.all_eq_true.1 ha x hx)]
  have hv : af v = true := by
    unfold ansB at h
    split at h
    · exact (sameW_eq h).2
    · cases h
  refine (ans_in hmix hK ha h F n w hF).mono ?_
  rintro e w' ⟨rfl, hb⟩
  have := hR ρ w' (St.below r hb) (scb_of_af _ hv)
  rwa [val_af ρ _ hv] at this
end
end Go.Ax

/- Package variables whose contents are known (tables of numbers): heaps that hold them. -/
namespace Go.Ax
section
variable {P : Program} {K : Type} {enc : TypeId × Value → K} {w : World} {base : Nat} {spare : Nat → Bool} {held : Bool}

mutual
def dc : DataW K → List Value
  | .lit (.int k z) => [.int k z]
  | .lit (.bool b) => [.bool b]
  | .agg l => dcL l
  | _ => []
def dcL : List (DataW K) → List Value
  | [] => []
  | d :: r => dc d ++ dcL r
end
mutual
def dok : DataW K → Bool
  | .lit (.int _ _) => true
  | .lit (.bool _) => true
  | .agg l => dokL l
  | _ => false
def dokL : List (DataW K) → Bool
  | [] => true
  | d :: r => dok d && dokL r
end

theorem mapM_cons_some {α β : Type} {g : α → Option β} {a : α} {l : List α} {r : List β} (h : (a :: l).mapM g = some r) : ∃ y ys, g a = some y ∧ l.mapM g = some ys ∧ r = y :: ys := by
  rw [List.mapM_cons] at h
  cases hg : g a with
  | none => rw [hg] at h; cases h
  | some y =>
    rw [hg] at h
    cases hl : l.mapM g with
    | none => simp [hl] at h
    | some ys => simp [hl] at h; exact ⟨y, ys, rfl, rfl, h.symm⟩

theorem trod_fieldsD {fuel d : Nat} {cs : List Value} (ih : ∀ (t : TypeId) (ts : List TypeId) (cs : List Value) (x : DataW K × List MemPlace), flat P d t = some ts → szOf P t = some ts.length → DataW.trod enc P w base spare held fuel t cs = some x → dok x.1 = true → cs = dc x.1) :
    ∀ (fs : List Field) (o : Nat) (ts : List TypeId) (xs : List (DataW K × List MemPlace)), flatF P (flat P d) fs o = some ts → (fs.mapM fun f => DataW.trod enc P w base spare held fuel f.type ((cs.drop f.offset).take (P.cellsOf f.type))) = some xs → dokL (xs.map (·.1)) = true → o + ts.length ≤ cs.length → (cs.drop o).take ts.length = dcL (xs.map (·.1))
  | [], o, ts, xs, h, hm, _, _ => by
    simp only [flatF, Option.some.injEq] at h
    subst h
    simp at hm
    subst hm
    simp [dcL]
  | f :: fs, o, ts, xs, h, hm, hk, hle => by
    simp only [flatF] at h
    split at h
    · rename_i hf
      obtain ⟨_, ho⟩ := hf
      cases e1 : flat P d f.type with
      | none => rw [e1] at h; cases h
      | some a =>
        rw [e1] at h
        simp only at h
        split at h
        · rename_i hsz
          cases e2 : flatF P (flat P d) fs (o + a.length) with
          | none => rw [e2] at h; cases h
          | some b =>
            rw [e2] at h
            simp only [Option.some.injEq] at h
            subst h
            rw [List.length_append] at hle
            obtain ⟨y, ys, hy, hys, rfl⟩ := mapM_cons_some hm
            simp only [List.map_cons, dokL, Bool.and_eq_true] at hk
            rw [ho, cellsOf_szOf hsz] at hy
            have h1 := ih f.type a _ y e1 hsz hy hk.1
            have h2 := trod_fieldsD ih fs (o + a.length) b ys e2 hys hk.2 (by omega)
            have : (cs.drop o).take (a ++ b).length = (cs.drop o).take a.length ++ (cs.drop (o + a.length)).take b.length := by
              rw [List.length_append, List.take_add, List.drop_drop]
            rw [this, h1, h2]
            simp only [List.map_cons, dcL]
        · cases h
    · cases h

theorem trod_dc : ∀ (fuel d : Nat) (t : TypeId) (ts : List TypeId) (cs : List Value) (x : DataW K × List MemPlace), flat P d t = some ts → szOf P t = some ts.length → DataW.trod enc P w base spare held fuel t cs = some x → dok x.1 = true → cs = dc x.1
  | 0, _, _, _, _, _, _, _, h, _ => by simp [DataW.trod] at h
  | _ + 1, 0, _, _, _, _, h, _, _, _ => by simp [flat] at h
  | fuel + 1, d + 1, t, ts, cs, x, hf, hs, h, hk => by
    simp only [flat] at hf
    unfold DataW.trod at h
    cases e : P.underlying t with
    | none => rw [e] at hf; cases hf
    | some td =>
      rw [e] at hf h
      cases td with
      | bool =>
        simp only at h
        split at h <;> first | (simp only [Option.some.injEq] at h; subst h; rfl) | cases h | skip
        all_goals (rename_i hh; cases hh)
      | int k =>
        simp only at h
        split at h <;> first | (simp only [Option.some.injEq] at h; subst h; simp_all [dc]; done) | cases h | skip
        all_goals simp_all [dc]
        all_goals (obtain ⟨h1, rfl⟩ := h; simp [dc])
      | string =>
        simp only at h
        split at h <;> first | (simp only [Option.some.injEq] at h; subst h; simp [dok] at hk; done) | cases h | skip
        all_goals simp_all
        all_goals (obtain ⟨_, rfl⟩ := h; simp [dok] at hk)
      | struct fs =>
        simp only at hf
        split at hf
        · cases hf
        · simp only at h
          split at h
          · rename_i hlen
            rw [cellsOf_szOf hs] at hlen
            cases hm : fs.toList.mapM fun f => DataW.trod enc P w base spare held fuel f.type ((cs.drop f.offset).take (P.cellsOf f.type)) with
            | none => rw [hm] at h; cases h
            | some xs =>
              rw [hm] at h
              simp only [Option.map_some, Option.some.injEq] at h
              subst h
              simp only [dok] at hk
              have := trod_fieldsD (cs := cs) (fun t ts cs x => trod_dc fuel d t ts cs x) fs.toList 0 ts xs hf hm hk (by omega)
              rw [List.drop_zero, List.take_of_length_le (by omega)] at this
              rw [this, dc]
          · cases h
      | _ => simp at hf

theorem cut_flat {α : Type} {m : Nat} : ∀ (n : Nat) (cs : List α), cs.length = n * m → cs = ((List.range n).map fun i => (cs.drop (i * m)).take m).flatten
  | 0, cs, h => by
    have : cs = [] := List.eq_nil_of_length_eq_zero (by simpa using h)
    subst this
    rfl
  | n + 1, cs, h => by
    have h1 : (cs.drop m).length = n * m := by rw [List.length_drop, h, Nat.succ_mul]; omega
    have h2 := cut_flat n (cs.drop m) h1
    rw [List.range_succ_eq_map, List.map_cons, List.flatten_cons, List.map_map, Nat.zero_mul, List.drop_zero]
    have : ((List.range n).map ((fun i => (cs.drop (i * m)).take m) ∘ Nat.succ)) = (List.range n).map fun i => ((cs.drop m).drop (i * m)).take m := by
      apply List.map_congr_left
      intro i _
      simp only [Function.comp, List.drop_drop, Nat.succ_mul]
      rw [Nat.add_comm]
    rw [this, ← h2, List.take_append_drop]

theorem dcL_flat : ∀ (ds : List (DataW K)), dcL ds = (ds.map dc).flatten
  | [] => rfl
  | d :: r => by simp only [dcL, List.map_cons, List.flatten_cons, dcL_flat r]
theorem dokL_all : ∀ {ds : List (DataW K)}, dokL ds = true → ∀ d ∈ ds, dok d = true
  | [], _, _, h => by cases h
  | d :: r, h, x, hx => by
    simp only [dokL, Bool.and_eq_true] at h
    rcases List.mem_cons.1 hx with rfl | hx
    · exact h.1
    · exact dokL_all h.2 x hx

theorem mapM_map {α β γ : Type} {f : α → Option β} {g : α → γ} {h : β → γ} : ∀ {l : List α} {r : List β}, l.mapM f = some r → (∀ a ∈ l, ∀ b ∈ r, f a = some b → g a = h b) → l.map g = r.map h
  | [], r, hm, _ => by simp at hm; subst hm; rfl
  | a :: l, r, hm, hg => by
    obtain ⟨y, ys, h1, h2, rfl⟩ := mapM_cons_some hm
    rw [List.map_cons, List.map_cons, hg a (by simp) y (by simp) h1, mapM_map h2 fun a ha b hb => hg a (by simp [ha]) b (by simp [hb])]

theorem trod_arr {fuel : Nat} {t e : TypeId} {ts : List TypeId} {D n : Nat} {cs : List Value} {x : DataW K × List MemPlace} (hu : P.underlying t = some (.array n e)) (hsz : szOf P e = some ts.length) (hfl : flat P D e = some ts) (hst : szOf P t = some (n * ts.length))
    (h : DataW.trod enc P w base spare held fuel t cs = some x) (hk : dok x.1 = true) : cs = dc x.1 := by
  cases fuel with
  | zero => simp [DataW.trod] at h
  | succ fuel =>
    unfold DataW.trod at h
    rw [hu] at h
    simp only [cellsOf_szOf hsz, cellsOf_szOf hst] at h
    split at h
    · rename_i hl
      cases hm : (List.range n).mapM fun i => DataW.trod enc P w base spare held fuel e ((cs.drop (i * ts.length)).take ts.length) with
      | none => rw [hm] at h; cases h
      | some xs =>
        rw [hm] at h
        simp only [Option.map_some, Option.some.injEq] at h
        subst h
        simp only [dok] at hk
        rw [dc, dcL_flat, List.map_map]
        refine (cut_flat n cs hl).trans (congrArg List.flatten (mapM_map hm fun i _ y hy hf => ?_))
        exact trod_dc fuel D e ts _ y hfl hsz hf (dokL_all hk _ (List.mem_map_of_mem hy))
    · cases h

theorem laid_at : ∀ {laid : List (String × DataW Unit)} {ps : List MemPlace}, DataW.LaidVars P w laid ps → ∀ {x : String × DataW Unit}, x ∈ laid → ∃ g t cs fuel p, P.globalNamed x.1 = some g ∧ (P.globals[g]?).map (·.type) = some t ∧ w.var? P x.1 = some cs ∧ DataW.trod (fun _ => ()) P w 0 (fun _ => true) false fuel t cs.toList = some (x.2, p) ∧ ∀ y ∈ MemPlace.row ⟨g, 0, none⟩ cs.size, y ∈ ps
  | [], _, _, _, hx => by cases hx
  | (n, d) :: r, ps, h, x, hx => by
    obtain ⟨g, t, cs, fuel, p, q, h1, h2, h3, h4, h5, rfl⟩ := h
    rcases List.mem_cons.1 hx with rfl | hx
    · exact ⟨g, t, cs, fuel, p, h1, h2, h3, h4, fun y hy => by simp [hy]⟩
    · obtain ⟨g, t, cs, fuel, p, k1, k2, k3, k4, k5⟩ := laid_at h5 hx
      exact ⟨g, t, cs, fuel, p, k1, k2, k3, k4, fun y hy => by simp [k5 y hy]⟩

theorem laid_tab {laid : List (String × DataW Unit)} (h : laidMet P laid w) {name : String} {d : DataW Unit} (hx : (name, d) ∈ laid) {g : Nat} {t e : TypeId} {ts : List TypeId} {D n : Nat} (hg : P.globalNamed name = some g) (ht : (P.globals[g]?).map (·.type) = some t)
    (hu : P.underlying t = some (.array n e)) (hsz : szOf P e = some ts.length) (hfl : flat P D e = some ts) (hst : szOf P t = some (n * ts.length)) (hk : dok d = true) (hpos : 0 < (dc d).length) :
    ∃ (c : Array Value) (ty : TypeId), w.heap[g]? = some (.cells c ty (0, 0)) ∧ c.toList = dc d := by
  obtain ⟨ps, hl, _, hz⟩ := h
  obtain ⟨g', t', cs, fuel, p, h1, h2, h3, h4, h5⟩ := laid_at hl hx
  obtain rfl := Option.some.inj (hg.symm.trans h1)
  obtain rfl := Option.some.inj (ht.symm.trans h2)
  have hcs := trod_arr hu hsz hfl hst h4 hk
  have hpos' : 0 < cs.size := by rw [← hcs] at hpos; simpa using hpos
  obtain ⟨⟨c, ty, hb⟩, _⟩ := hz g 0 (h5 _ (by unfold MemPlace.row; rw [List.mem_map]; exact ⟨0, by simpa using hpos', rfl⟩))
  refine ⟨c, ty, hb, ?_⟩
  have : w.var? P name = some c := by simp only [World.var?, hg, Option.bind_some, hb]
  obtain rfl := Option.some.inj (this.symm.trans h3)
  exact hcs

def tabO (e : TypeId) (vs : List Value) : AObj := ⟨.cells #[] e, false, RV.ofList vs⟩

theorem rel_tab {ρ : Ren} {H : AHeap} {g : Nat} {e : TypeId} {c : Array Value} {vs : List Value} (r : Rel P ρ H w) (hg : g < P.globals.size) (hex : ρ.ex g = 0) (hinj : ∀ n, H.get n ≠ none → ρ.blk n = g → n = g)
    (hb : w.heap[g]? = some (.cells c e (0, 0))) (hc : c.toList = vs) (ha : afL vs = true) : Rel P ρ (H.put g (some (tabO e vs))) w := by
  obtain ⟨hbk, hsh⟩ := r.glob.2 g hg
  have hav : ∀ x ∈ vs, af x = true := by
    intro x hx
    clear hc hinj
    induction vs with
    | nil => cases hx
    | cons y ys ih =>
      simp only [afL, Bool.and_eq_true] at ha
      rcases List.mem_cons.1 hx with rfl | hx
      · exact ha.1
      · exact ih ha.2 hx
  have hgd : ∀ i, i < vs.length → af (vs.getD i undef) = true := fun i hi => hav _ (by simp [List.getD_eq_getElem?_getD, List.getElem?_eq_getElem hi])
  have hget : ∀ m, (H.put g (some (tabO e vs))).get m = if m = g then some (tabO e vs) else H.get m := fun m => AHeap.get_put H g _ m
  refine ⟨r.base, r.glob, fun m n hm hn he => ?_, fun n o hn => ?_, fun n o hn => ?_⟩
  · rw [hget] at hm hn
    by_cases h1 : m = g
    · subst h1
      by_cases h2 : n = m
      · exact .inl h2.symm
      · rw [if_neg h2] at hn
        exact .inl (hinj n hn (he.symm.trans hbk)).symm
    · rw [if_neg h1] at hm
      by_cases h2 : n = g
      · subst h2
        exact .inl (hinj m hm (he.trans hbk))
      · rw [if_neg h2] at hn
        rw [hget, hget, if_neg h1, if_neg h2]
        exact r.inj m n hm hn he
  · rw [hget] at hn
    by_cases h : n = g
    · subst h
      rw [if_pos rfl] at hn
      cases hn
      refine ⟨Nat.lt_of_lt_of_le hg r.glob.1, ?_⟩
      simp only [sco, tabO, RV.n_ofList, RV.get_ofList]
      intro i hi
      exact scb_of_af _ (hgd i hi)
    · rw [if_neg h] at hn
      exact r.dom n o hn
  · rw [hget] at hn
    by_cases h : n = g
    · subst h
      rw [if_pos rfl] at hn
      cases hn
      refine ⟨_, by rw [hbk]; exact hb, ?_⟩
      have hcs : c.size = vs.length := by rw [← hc]; simp
      simp only [Fits, tabO]
      refine ⟨c, (0, 0), rfl, fun i hi => ?_, fun _ => ⟨by rw [RV.n_ofList, hcs], hsh, hex, rfl⟩, fun h => (by cases h)⟩
      simp only [RV.n_ofList] at hi
      rw [RV.get_ofList, val_af _ _ (hgd i hi), hsh, Nat.add_zero]
      subst hc
      have : i < c.size := by simpa using hi
      simp [List.getD_eq_getElem?_getD, this]
    · rw [if_neg h] at hn
      exact r.obj n o hn

def tabsH (N : Nat) : List (Nat × TypeId × List Value) → AHeap
  | [] => AHeap.none N
  | (g, e, vs) :: r => (tabsH N r).put g (some (tabO e vs))
theorem tabsH_next (N : Nat) : ∀ T, (tabsH N T).next = N ∧ (tabsH N T).base = N ∧ (tabsH N T).dirty = []
  | [] => ⟨rfl, rfl, rfl⟩
  | (_, _, _) :: r => tabsH_next N r

def ansT (P : Program) (K : FuncId → List Value → AHeap → Option Value) (fuel : Nat) (f : FuncId) (args : List Value) (v : Value) (T : List (Nat × TypeId × List Value)) : Bool :=
  match call P K fuel f args (tabsH P.globals.size T) with
  | some (.ok u, H1) => sameW u v && H1.dirty.isEmpty
  | _ => false

theorem rel_tabs : ∀ (T : List (Nat × TypeId × List Value)), (∀ x ∈ T, x.1 < P.globals.size ∧ afL x.2.2 = true ∧ ∃ c, w.heap[x.1]? = some (.cells c x.2.1 (0, 0)) ∧ c.toList = x.2.2) → Rel P Ren.same (tabsH P.globals.size T) w
  | [], _ => rel_none P w
  | (g, e, vs) :: r, h => by
    obtain ⟨h1, h2, c, h3, h4⟩ := h (g, e, vs) (by simp)
    exact rel_tab (rel_tabs r fun x hx => h x (by simp [hx])) h1 rfl (fun n _ hn => hn) h3 h4 h2

theorem ansT_in (hmix : P.follows .mixedOrders = true) {L : FuncId → List Value → AHeap → Option Value} (hK : Known P L) {fuel : Nat} {f : FuncId} {args : List Value} {v : Value} {T : List (Nat × TypeId × List Value)} (ha : args.all af = true) (h : ansT P L fuel f args v T = true)
    (hT : ∀ x ∈ T, x.1 < P.globals.size ∧ afL x.2.2 = true ∧ ∃ c, w.heap[x.1]? = some (.cells c x.2.1 (0, 0)) ∧ c.toList = x.2.2) (F : Fence) (n : Nat) (hF : WideF F) :
    CallsIn F n P f args.toArray w (fun e w' => e = .returned v ∧ RowKit.Below w.heap.size w w') ∧ af v = true := by
  unfold ansT at h
  split at h
  · rename_i u H1 hc
    simp only [Bool.and_eq_true] at h
    obtain ⟨h, hd⟩ := h
    obtain ⟨rfl, hv⟩ := sameW_eq h
    refine ⟨?_, hv⟩
    have := call_in hmix hK (rel_tabs T hT) hc (scbL_of_af _ (afL_of fun x hx => List.all_eq_true.1 ha x hx)) (F := F) (n := n) hF
    rw [map_af _ args (fun x hx => List.all_eq_true.1 ha x hx)] at this
    refine this.mono ?_
    rintro e w' ⟨ρ1, rfl, s⟩
    refine ⟨by rw [val_af ρ1 _ hv], s.os, s.tape, s.output, s.size, fun b hb => s.old b hb fun n hn hor _ => ?_⟩
    obtain ⟨t1, t2, _⟩ := tabsH_next P.globals.size T
    rcases hor with h | h
    · omega
    · rw [List.isEmpty_iff.1 hd] at h
      cases h
  · cases h

theorem tab_world {ρ : Ren} {H : AHeap} {g : Nat} {e : TypeId} {vs : List Value} (r : Rel P ρ H w) (hg : g < P.globals.size) (hb : bk H g = some ⟨e, false, vs⟩) (ha : afL vs = true) : ∃ c, w.heap[g]? = some (.cells c e (0, 0)) ∧ c.toList = vs := by
  obtain ⟨hbk, hsh⟩ := r.glob.2 g hg
  have hav : ∀ x ∈ vs, af x = true := by
    intro x hx
    clear hb
    induction vs with
    | nil => cases hx
    | cons y ys ih =>
      simp only [afL, Bool.and_eq_true] at ha
      rcases List.mem_cons.1 hx with rfl | hx
      · exact ha.1
      · exact ih ha.2 hx
  simp only [bk, Option.map_eq_some_iff] at hb
  obtain ⟨⟨rv, e', o⟩, hc, hx⟩ := hb
  simp only [Bl.mk.injEq] at hx
  obtain ⟨rfl, rfl, rfl⟩ := hx
  obtain ⟨z, q, hgt⟩ := cellsAt_get hc
  obtain ⟨o', hw, hfit⟩ := r.obj _ _ hgt
  simp only [Fits] at hfit
  obtain ⟨c, fz, rfl, hcs, hcl, _⟩ := hfit
  obtain ⟨k1, k2, k3, rfl⟩ := hcl trivial
  rw [hbk] at hw
  refine ⟨c, hw, ?_⟩
  apply List.ext_getElem?
  intro i
  rw [RV.gets_eq]
  by_cases hi : i < rv.n
  · have h1 := hcs i hi
    rw [k2, Nat.add_zero] at h1
    have h2 : rv.get i ∈ rv.gets 0 rv.n := by rw [RV.gets_eq, List.mem_map]; exact ⟨i, by simpa using hi, by simp⟩
    rw [val_af ρ _ (hav _ h2)] at h1
    rw [List.getElem?_map, List.getElem?_range hi]
    simpa using h1
  · rw [List.getElem?_eq_none (by simp; omega), List.getElem?_eq_none (by simp; omega)]

theorem callS_tab (hmix : P.follows .mixedOrders = true) {L : FuncId → List Value → AHeap → Option Value} (hK : Known P L) {fuel : Nat} {f : FuncId} {args : List Value} {v : Value} {T : List (Nat × TypeId × List Value)} {H : AHeap} (ha : args.all af = true) (h : ansT P L fuel f args v T = true)
    (hT : ∀ x ∈ T, x.1 < P.globals.size ∧ afL x.2.2 = true ∧ bk H x.1 = some ⟨x.2.1, false, x.2.2⟩) : CallS P f args H (.ok v) H := by
  intro ρ w r hsc F n R hF hR
  rw [map_af ρ args (fun x hx => List.all_eq_true.1 ha x hx)]
  obtain ⟨h1, hv⟩ := ansT_in (w := w) hmix hK ha h (fun x hx => ⟨(hT x hx).1, (hT x hx).2.1, tab_world r (hT x hx).1 (hT x hx).2.2 (hT x hx).2.1⟩) F n hF
  refine h1.mono ?_
  rintro e w' ⟨rfl, hb⟩
  have := hR ρ w' (St.below r hb) (scb_of_af _ hv)
  rwa [val_af ρ _ hv] at this
end
end Go.Ax

/- Known answers of calls that look at memory: the blocks that a call looks at are as a list says. -/
namespace Go.Ax

def sameBy : List UInt8 → List UInt8 → Bool
  | [], [] => true
  | a :: r, b :: q => Nat.beq a.toNat b.toNat && sameBy r q
  | _, _ => false
theorem sameBy_eq : ∀ {u v : List UInt8}, sameBy u v = true → u = v
  | [], [], _ => rfl
  | a :: r, b :: q, h => by
    simp only [sameBy, Bool.and_eq_true] at h
    rw [UInt8.toNat_inj.1 (Nat.eq_of_beq_eq_true h.1), sameBy_eq h.2]
  | [], _ :: _, h => by cases h
  | _ :: _, [], h => by cases h

def sameSp : Option Nat → Option Nat → Bool
  | none, none => true
  | some a, some b => Nat.beq a b
  | _, _ => false
theorem sameSp_eq : ∀ {u v : Option Nat}, sameSp u v = true → u = v
  | none, none, _ => rfl
  | some a, some b, h => by rw [Nat.eq_of_beq_eq_true h]
  | none, some _, h => by cases h
  | some _, none, h => by cases h

def sameAd (a b : Addr) : Bool := Nat.beq a.block b.block && Nat.beq a.off b.off && sameSp a.spot b.spot
theorem sameAd_eq {a b : Addr} (h : sameAd a b = true) : a = b := by
  simp only [sameAd, Bool.and_eq_true] at h
  obtain ⟨x, y, z⟩ := a
  obtain ⟨x', y', z'⟩ := b
  simp only at h
  rw [Nat.eq_of_beq_eq_true h.1.1, Nat.eq_of_beq_eq_true h.1.2, sameSp_eq h.2]

mutual
def sameX : Value → Value → Bool
  | .bool a, .bool b => a == b
  | .int k a, .int l b => decide (k = l) && decide (a = b)
  | .string a, .string b => sameBy a.data.toList b.data.toList
  | .pointer none, .pointer none => true
  | .pointer (some a), .pointer (some b) => sameAd a b
  | .slice none m n, .slice none p q => Nat.beq m p && Nat.beq n q
  | .slice (some a) m n, .slice (some b) p q => sameAd a b && Nat.beq m p && Nat.beq n q
  | .agg a, .agg b => sameXA a b
  | _, _ => false
def sameXA : Array Value → Array Value → Bool
  | ⟨l⟩, ⟨m⟩ => sameXL l m
def sameXL : List Value → List Value → Bool
  | [], [] => true
  | a :: r, b :: q => sameX a b && sameXL r q
  | _, _ => false
end

mutual
theorem sameX_eq : ∀ (u v : Value), sameX u v = true → u = v
  | .bool a, v, h => by cases v <;> first | (simp [sameX] at h; done) | (rw [sameX, beq_iff_eq] at h; rw [h])
  | .int k a, v, h => by cases v <;> first | (simp [sameX] at h; done) | (rw [sameX, Bool.and_eq_true, decide_eq_true_eq, decide_eq_true_eq] at h; rw [h.1, h.2])
  | .string ⟨⟨a⟩⟩, v, h => by
    cases v <;> first | (simp [sameX] at h; done) | skip
    rename_i b
    obtain ⟨⟨b⟩⟩ := b
    rw [sameX] at h
    have h : sameBy a b = true := h
    rw [sameBy_eq h]
  | .pointer none, v, h => by cases v <;> first | (simp [sameX] at h; done) | (rename_i b; cases b <;> first | rfl | (simp [sameX] at h; done))
  | .pointer (some a), v, h => by cases v <;> first | (simp [sameX] at h; done) | (rename_i b; cases b <;> first | (simp [sameX] at h; done) | (rw [sameX] at h; rw [sameAd_eq h]))
  | .slice none m n, v, h => by cases v <;> first | (simp [sameX] at h; done) | (rename_i b _ _; cases b <;> first | (rw [sameX, Bool.and_eq_true] at h; rw [Nat.eq_of_beq_eq_true h.1, Nat.eq_of_beq_eq_true h.2]) | (simp [sameX] at h; done))
  | .slice (some a) m n, v, h => by cases v <;> first | (simp [sameX] at h; done) | (rename_i b _ _; cases b <;> first | (rw [sameX, Bool.and_eq_true, Bool.and_eq_true] at h; rw [sameAd_eq h.1.1, Nat.eq_of_beq_eq_true h.1.2, Nat.eq_of_beq_eq_true h.2]) | (simp [sameX] at h; done))
  | .agg a, .agg b, h => by
    rw [sameX] at h
    rw [sameXA_eq a b h]
  | .agg a, .bool _, h => by simp [sameX] at h
  | .agg a, .int _ _, h => by simp [sameX] at h
  | .agg a, .string _, h => by simp [sameX] at h
  | .agg a, .pointer _, h => by simp [sameX] at h
  | .agg a, .slice _ _ _, h => by simp [sameX] at h
  | .agg a, .float _ _, h => by simp [sameX] at h
  | .agg a, .complex _ _ _, h => by simp [sameX] at h
  | .agg a, .map _, h => by simp [sameX] at h
  | .agg a, .chan _, h => by simp [sameX] at h
  | .agg a, .func _ _ _, h => by simp [sameX] at h
  | .agg a, .nilFunc, h => by simp [sameX] at h
  | .agg a, .iface _ _, h => by simp [sameX] at h
  | .agg a, .nilIface, h => by simp [sameX] at h
  | .agg a, .tuple _, h => by simp [sameX] at h
  | .float _ _, v, h => by simp [sameX] at h
  | .complex _ _ _, v, h => by simp [sameX] at h
  | .map _, v, h => by simp [sameX] at h
  | .chan _, v, h => by simp [sameX] at h
  | .func _ _ _, v, h => by simp [sameX] at h
  | .nilFunc, v, h => by simp [sameX] at h
  | .iface _ _, v, h => by simp [sameX] at h
  | .nilIface, v, h => by simp [sameX] at h
  | .tuple _, v, h => by simp [sameX] at h
theorem sameXA_eq : ∀ (u v : Array Value), sameXA u v = true → u = v
  | ⟨l⟩, ⟨m⟩, h => by
    rw [sameXA] at h
    rw [sameXL_eq l m h]
theorem sameXL_eq : ∀ (u v : List Value), sameXL u v = true → u = v
  | [], [], _ => rfl
  | a :: r, b :: q, h => by
    simp only [sameXL, Bool.and_eq_true] at h
    rw [sameX_eq a b h.1, sameXL_eq r q h.2]
  | [], _ :: _, h => by simp [sameXL] at h
  | _ :: _, [], h => by simp [sameXL] at h
end

structure Ent where
  f : FuncId
  args : List Value
  next : Nat
  blks : List (Nat × Bl)

def objIs (H : AHeap) (n : Nat) (o : Bool) (l : List Value) : Option TypeId :=
  match H.get n with
  | some ⟨.cells _ e (0, _), o', rv⟩ => if (o == o') && sameXL l (rv.gets 0 rv.n) then some e else none
  | _ => none

def blkIs (H : AHeap) (x : Nat × Bl) : Bool :=
  match objIs H x.1 x.2.o x.2.l with
  | some e => Nat.beq e x.2.e
  | none => false

def entOk (T : List (Nat × List Value)) (e : Ent) (f : FuncId) (args : List Value) (H : AHeap) : Bool :=
  Nat.beq e.f f && sameXL e.args args && Nat.beq e.next H.next && e.blks.all (blkIs H) && T.all fun x => (objIs H x.1 false x.2).isSome

def lookH (T : List (Nat × List Value)) (K : FuncId → List Value → AHeap → Option Value) : List Ent → FuncId → List Value → AHeap → Option Value
  | [], f, args, H => K f args H
  | e :: r, f, args, H => if entOk T e f args H then some (.bool true) else lookH T K r f args H

def layB (g : AHeap) : List (Nat × Bl) → AHeap
  | [] => g
  | x :: r => layB (g.put x.1 (some x.2.obj)) r

def entHeap (T : List (Nat × List Value)) (ee : Nat → TypeId) (e : Ent) : AHeap :=
  layB (AHeap.none e.next) ((T.map fun x => (x.1, ⟨ee x.1, false, x.2⟩)) ++ e.blks)

def entRun (P : Program) (K : FuncId → List Value → AHeap → Option Value) (fuel : Nat) (T : List (Nat × List Value)) (ee : Nat → TypeId) (e : Ent) : Bool :=
  match call P K fuel e.f e.args (entHeap T ee e) with
  | some (.ok (.bool true), H1) => H1.dirty.isEmpty
  | _ => false

theorem layB_get : ∀ (l : List (Nat × Bl)) (g : AHeap) (n : Nat) (o : AObj), (layB g l).get n = some o → g.get n = some o ∨ ∃ x ∈ l, x.1 = n ∧ o = x.2.obj
  | [], g, n, o, h => .inl h
  | x :: r, g, n, o, h => by
    rcases layB_get r _ n o h with h | ⟨y, hy, h1, h2⟩
    · rw [AHeap.get_put] at h
      split at h
      · rename_i e
        cases h
        exact .inr ⟨x, by simp, e.symm, rfl⟩
      · exact .inl h
    · exact .inr ⟨y, by simp [hy], h1, h2⟩

theorem layB_next : ∀ (l : List (Nat × Bl)) (g : AHeap), (layB g l).next = g.next ∧ (layB g l).base = g.base ∧ (layB g l).dirty = g.dirty
  | [], _ => ⟨rfl, rfl, rfl⟩
  | x :: r, g => layB_next r (g.put x.1 (some x.2.obj))

def SameO (a b : AObj) : Prop := ∃ c e z c' z', a.obj = .cells c e (0, z) ∧ b.obj = .cells c' e (0, z') ∧ a.opn = b.opn ∧ a.rv.n = b.rv.n ∧ ∀ i, i < b.rv.n → a.rv.get i = b.rv.get i

theorem objIs_same {H : AHeap} {n : Nat} {o : Bool} {l : List Value} {e : TypeId} (h : objIs H n o l = some e) : ∃ a, H.get n = some a ∧ SameO a (Bl.obj ⟨e, o, l⟩) := by
  unfold objIs at h
  split at h
  · rename_i c t z o' rv hg
    split at h
    · rename_i hc
      simp only [Bool.and_eq_true, beq_iff_eq] at hc
      obtain ⟨rfl, hl⟩ := hc
      simp only [Option.some.injEq] at h
      subst h
      have hl := sameXL_eq _ _ hl
      refine ⟨_, hg, c, t, z, #[], 0, rfl, rfl, rfl, ?_, fun i hi => ?_⟩
      · simp only [Bl.obj, RV.n_ofList, hl, RV.length_gets]
      · simp only [Bl.obj, RV.n_ofList] at hi
        simp only [Bl.obj, RV.get_ofList]
        have hi' : i < rv.n := by rw [hl, RV.length_gets] at hi; exact hi
        rw [hl, RV.gets_getD _ _ _ _ hi', Nat.zero_add]
    · cases h
  · cases h

theorem SameO.sco {N : Nat} {a b : AObj} (h : SameO a b) (hs : sco N a) : sco N b := by
  obtain ⟨c, e, z, c', z', h1, h2, h3, h4, h5⟩ := h
  unfold Go.Ax.sco at hs ⊢
  rw [h1] at hs
  rw [h2]
  intro i hi
  rw [← h5 i hi]
  exact hs i (by omega)

theorem SameO.fits {P : Program} {ρ : Ren} {n : Nat} {a b : AObj} {o' : Obj} (h : SameO a b) (hs : Fits P ρ n a o') : Fits P ρ n b o' := by
  obtain ⟨c, e, z, c', z', h1, h2, h3, h4, h5⟩ := h
  unfold Fits at hs ⊢
  rw [h1] at hs
  rw [h2]
  obtain ⟨d, fz, hd, hv, ha, hb⟩ := hs
  refine ⟨d, fz, hd, fun i hi => ?_, ?_, ?_⟩
  · rw [← h5 i hi]; exact hv i (by omega)
  · rw [← h3, ← h4]; exact ha
  · rw [← h3, ← h4]; exact hb

theorem SameO.nz {a b : AObj} (h : SameO a b) : ¬ Fz (some a) := by
  obtain ⟨c, e, z, c', z', h1, h2, h3, h4, h5⟩ := h
  rintro ⟨o, ho, hf⟩
  cases ho
  obtain ⟨x, y, q⟩ := a
  simp only at h1
  subst h1
  cases y <;> simp [frz] at hf

theorem sub_rel {P : Program} {ρ : Ren} {H G : AHeap} {w : World} (r : Rel P ρ H w) (hn : G.next = H.next) (hb : G.base = G.next) (hg : ∀ n o, G.get n = some o → ∃ a, H.get n = some a ∧ SameO a o) : Rel P ρ G w := by
  refine ⟨Nat.le_of_eq hb, by rw [hn]; exact r.glob, fun m n h1 h2 he => ?_, fun n o ho => ?_, fun n o ho => ?_⟩
  · obtain ⟨x, hx⟩ := Option.ne_none_iff_exists'.1 h1
    obtain ⟨y, hy⟩ := Option.ne_none_iff_exists'.1 h2
    obtain ⟨a, ha, hs⟩ := hg m x hx
    obtain ⟨b, hb, ht⟩ := hg n y hy
    rcases r.inj m n (ne_none ha) (ne_none hb) he with h | ⟨h, _⟩
    · exact .inl h
    · rw [ha] at h
      exact absurd h hs.nz
  · obtain ⟨a, ha, hs⟩ := hg n o ho
    rw [hn]
    exact ⟨(r.dom n a ha).1, hs.sco (r.dom n a ha).2⟩
  · obtain ⟨a, ha, hs⟩ := hg n o ho
    obtain ⟨o', h1, h2⟩ := r.obj n a ha
    exact ⟨o', h1, hs.fits h2⟩

theorem known_heap {P : Program} (hmix : P.follows .mixedOrders = true) {T : List (Nat × List Value)} {K : FuncId → List Value → AHeap → Option Value} {l : List Ent} (hK : Known P (lookH T K l)) (fuel : Nat) {e : Ent} (h : ∀ ee, entRun P (lookH T K l) fuel T ee e = true) : Known P (lookH T K (e :: l)) := by
  intro g bs u H hu
  unfold lookH at hu
  split at hu
  · rename_i hc
    simp only [Option.some.injEq] at hu
    subst hu
    refine ⟨rfl, fun ρ F n w r hsc hF => ?_⟩
    simp only [entOk, Bool.and_eq_true, List.all_eq_true] at hc
    obtain ⟨⟨⟨⟨c1, c2⟩, c3⟩, c4⟩, c5⟩ := hc
    have c1 := Nat.eq_of_beq_eq_true c1
    have c2 := sameXL_eq _ _ c2
    have c3 := Nat.eq_of_beq_eq_true c3
    subst c1 c2
    obtain ⟨ee, hee⟩ : ∃ ee : Nat → TypeId, ∀ x ∈ T, objIs H x.1 false x.2 = some (ee x.1) := by
      refine ⟨fun n => match H.get n with
        | some ⟨.cells _ t _, _, _⟩ => t
        | _ => 0, fun x hx => ?_⟩
      have := c5 x hx
      unfold objIs at this ⊢
      split at this
      · rename_i c t z o' rv hg
        simp only [hg]
        split at this
        · rename_i hh; rw [if_pos hh]
        · simp at this
      · simp at this
    have hrun := h ee
    obtain ⟨n1, n2, n3⟩ := layB_next ((T.map fun x => (x.1, (⟨ee x.1, false, x.2⟩ : Bl))) ++ e.blks) (AHeap.none e.next)
    have hr : Rel P ρ (entHeap T ee e) w := by
      refine sub_rel r (by unfold entHeap; rw [n1]; exact c3) (by unfold entHeap; rw [n1, n2]; rfl) fun n o ho => ?_
      rcases layB_get _ _ n o ho with ho | ⟨x, hx, rfl, rfl⟩
      · rw [none_get] at ho; cases ho
      · rcases List.mem_append.1 hx with hx | hx
        · obtain ⟨y, hy, rfl⟩ := List.mem_map.1 hx
          exact objIs_same (hee y hy)
        · have := c4 x hx
          unfold blkIs at this
          split at this
          · rename_i t ht
            have := Nat.eq_of_beq_eq_true this
            subst this
            exact objIs_same ht
          · cases this
    unfold entRun at hrun
    split at hrun
    · rename_i H1 hcl
      refine (call_in hmix hK hr hcl (by unfold entHeap; rw [n1]; rw [show (AHeap.none e.next).next = e.next from rfl, c3]; exact hsc) hF).mono ?_
      rintro e' w' ⟨ρ1, rfl, s⟩
      refine ⟨by rw [Ren.val], s.os, s.tape, s.output, s.size, fun b hb => s.old b hb fun n hn hor _ => ?_⟩
      rw [List.isEmpty_iff.1 hrun] at hor
      unfold entHeap at hn hor
      rw [n1] at hn
      rw [n2] at hor
      rcases hor with h | h
      · exact absurd hn (Nat.not_lt.2 h)
      · cases h
    · cases hrun
  · exact hK g bs u H hu

theorem known_base {P : Program} {T : List (Nat × List Value)} {K : FuncId → List Value → AHeap → Option Value} (hK : Known P K) : Known P (lookH T K []) := fun f args v H h => hK f args v H h

end Go.Ax

/- Known answers with the heaps that calls leave: lists of them, runs from tables. -/
namespace Go.Ax
abbrev KX := FuncId → List Value → AHeap → Option (Value × AHeap)
def orX (K L : KX) : KX := fun f args H => match K f args H with
  | some r => some r
  | none => L f args H
section
variable {P : Program}
theorem known_orX {K L : KX} (hK : KnownX P K) (hL : KnownX P L) : KnownX P (orX K L) := by
  intro f args v H H1 h
  unfold orX at h
  split at h
  · rename_i r hr
    cases h
    exact hK _ _ _ _ _ hr
  · exact hL _ _ _ _ _ h

theorem callX_in (hmix : P.follows .mixedOrders = true) {K : KX} (hK : KnownX P K) {fuel : Nat} {f : FuncId} {args : List Value} {v : Value} {H H1 : AHeap} {ρ : Ren} {w : World} (r : Rel P ρ H w)
    (h : callX P K fuel f args H = some (.ok v, H1)) (hsc : scbL H.next args = true) {F : Fence} {n : Nat} (hF : WideF F) : CallsIn F n P f (args.map ρ.val).toArray w (fun e w' => ∃ ρ1, e = .returned (ρ1.val v) ∧ St P ρ H w ρ1 H1 w') :=
  enterF_run (execX_sound hmix hK fuel).1 r h hsc hF (fun ρ1 w1 s _ => ⟨ρ1, rfl, s⟩)

def ansTX (P : Program) (K : KX) (fuel : Nat) (f : FuncId) (args : List Value) (v : Value) (T : List (Nat × TypeId × List Value)) : Bool :=
  match callX P K fuel f args (tabsH P.globals.size T) with
  | some (.ok u, H1) => sameW u v && H1.dirty.isEmpty
  | _ => false

theorem ansTX_in {w : World} (hmix : P.follows .mixedOrders = true) {L : KX} (hK : KnownX P L) {fuel : Nat} {f : FuncId} {args : List Value} {v : Value} {T : List (Nat × TypeId × List Value)} (ha : args.all af = true) (h : ansTX P L fuel f args v T = true)
    (hT : ∀ x ∈ T, x.1 < P.globals.size ∧ afL x.2.2 = true ∧ ∃ c, w.heap[x.1]? = some (.cells c x.2.1 (0, 0)) ∧ c.toList = x.2.2) (F : Fence) (n : Nat) (hF : WideF F) :
    CallsIn F n P f args.toArray w (fun e w' => e = .returned v ∧ RowKit.Below w.heap.size w w') ∧ af v = true := by
  unfold ansTX at h
  split at h
  · rename_i u H1 hc
    simp only [Bool.and_eq_true] at h
    obtain ⟨h, hd⟩ := h
    obtain ⟨rfl, hv⟩ := sameW_eq h
    refine ⟨?_, hv⟩
    have := callX_in hmix hK (rel_tabs T hT) hc (scbL_of_af _ (afL_of fun x hx => List.all_eq_true.1 ha x hx)) (F := F) (n := n) hF
    rw [map_af _ args (fun x hx => List.all_eq_true.1 ha x hx)] at this
    refine this.mono ?_
    rintro e w' ⟨ρ1, rfl, s⟩
    refine ⟨by rw [val_af ρ1 _ hv], s.os, s.tape, s.output, s.size, fun b hb => s.old b hb fun n hn hor _ => ?_⟩
    obtain ⟨t1, t2, _⟩ := tabsH_next P.globals.size T
    rcases hor with h | h
    · omega
    · rw [List.isEmpty_iff.1 hd] at h
      cases h
  · cases h

theorem callS_tabX (hmix : P.follows .mixedOrders = true) {L : KX} (hK : KnownX P L) {fuel : Nat} {f : FuncId} {args : List Value} {v : Value} {T : List (Nat × TypeId × List Value)} {H : AHeap} (ha : args.all af = true) (h : ansTX P L fuel f args v T = true)
    (hT : ∀ x ∈ T, x.1 < P.globals.size ∧ afL x.2.2 = true ∧ bk H x.1 = some ⟨x.2.1, false, x.2.2⟩) : CallS P f args H (.ok v) H := by
  intro ρ w r hsc F n R hF hR
  rw [map_af ρ args (fun x hx => List.all_eq_true.1 ha x hx)]
  obtain ⟨h1, hv⟩ := ansTX_in (w := w) hmix hK ha h (fun x hx => ⟨(hT x hx).1, (hT x hx).2.1, tab_world r (hT x hx).1 (hT x hx).2.2 (hT x hx).2.1⟩) F n hF
  refine h1.mono ?_
  rintro e w' ⟨rfl, hb⟩
  have := hR ρ w' (St.below r hb) (scb_of_af _ hv)
  rwa [val_af ρ _ hv] at this

def lookX (T : List (Nat × List Value)) (K : KX) : List Ent → KX
  | [], f, args, H => K f args H
  | e :: r, f, args, H => if entOk T e f args H then some (.bool true, H) else lookX T K r f args H

def entRunX (P : Program) (K : KX) (fuel : Nat) (T : List (Nat × List Value)) (ee : Nat → TypeId) (e : Ent) : Bool :=
  match callX P K fuel e.f e.args (entHeap T ee e) with
  | some (.ok (.bool true), H1) => H1.dirty.isEmpty
  | _ => false

theorem known_heapX (hmix : P.follows .mixedOrders = true) {T : List (Nat × List Value)} {K : KX} {l : List Ent} (hK : KnownX P (lookX T K l)) (fuel : Nat) {e : Ent} (h : ∀ ee, entRunX P (lookX T K l) fuel T ee e = true) : KnownX P (lookX T K (e :: l)) := by
  intro g bs u H H1' hu
  unfold lookX at hu
  split at hu
  · rename_i hc
    simp only [Option.some.injEq, Prod.mk.injEq] at hu
    obtain ⟨rfl, rfl⟩ := hu
    intro ρ w r hsc F n R hF hR
    simp only [entOk, Bool.and_eq_true, List.all_eq_true] at hc
    obtain ⟨⟨⟨⟨c1, c2⟩, c3⟩, c4⟩, c5⟩ := hc
    have c1 := Nat.eq_of_beq_eq_true c1
    have c2 := sameXL_eq _ _ c2
    have c3 := Nat.eq_of_beq_eq_true c3
    subst c1 c2
    obtain ⟨ee, hee⟩ : ∃ ee : Nat → TypeId, ∀ x ∈ T, objIs H x.1 false x.2 = some (ee x.1) := by
      refine ⟨fun n => match H.get n with
        | some ⟨.cells _ t _, _, _⟩ => t
        | _ => 0, fun x hx => ?_⟩
      have := c5 x hx
      unfold objIs at this ⊢
      split at this
      · rename_i c t z o' rv hg
        simp only [hg]
        split at this
        · rename_i hh; rw [if_pos hh]
        · simp at this
      · simp at this
    have hrun := h ee
    obtain ⟨n1, n2, n3⟩ := layB_next ((T.map fun x => (x.1, (⟨ee x.1, false, x.2⟩ : Bl))) ++ e.blks) (AHeap.none e.next)
    have hr : Rel P ρ (entHeap T ee e) w := by
      refine sub_rel r (by unfold entHeap; rw [n1]; exact c3) (by unfold entHeap; rw [n1, n2]; rfl) fun n o ho => ?_
      rcases layB_get _ _ n o ho with ho | ⟨x, hx, rfl, rfl⟩
      · rw [none_get] at ho; cases ho
      · rcases List.mem_append.1 hx with hx | hx
        · obtain ⟨y, hy, rfl⟩ := List.mem_map.1 hx
          exact objIs_same (hee y hy)
        · have := c4 x hx
          unfold blkIs at this
          split at this
          · rename_i t ht
            have := Nat.eq_of_beq_eq_true this
            subst this
            exact objIs_same ht
          · cases this
    unfold entRunX at hrun
    split at hrun
    · rename_i H1 hcl
      refine (callX_in hmix hK hr hcl (by unfold entHeap; rw [n1]; rw [show (AHeap.none e.next).next = e.next from rfl, c3]; exact hsc) hF).mono ?_
      rintro e' w' ⟨ρ1, rfl, s⟩
      have hb : RowKit.Below w.heap.size w w' := by
        refine ⟨s.os, s.tape, s.output, s.size, fun b hb => s.old b hb fun n hn hor _ => ?_⟩
        rw [List.isEmpty_iff.1 hrun] at hor
        unfold entHeap at hn hor
        rw [n1] at hn
        rw [n2] at hor
        rcases hor with h | h
        · exact absurd hn (Nat.not_lt.2 h)
        · cases h
      have := hR ρ w' (St.below r hb) rfl
      simpa [Ren.val] using this
    · cases hrun
  · exact hK _ _ _ _ _ hu

def lookP (K : KX) : List (FuncId × List Value × Value) → KX
  | [], f, args, H => K f args H
  | (g, xs, v) :: r, f, args, H => if Nat.beq g f && sameXL xs args then some (v, H) else lookP K r f args H
theorem known_nilP {K : KX} (hK : KnownX P K) : KnownX P (lookP K []) := fun f args v H H1 h => hK f args v H H1 h
theorem known_consP (hmix : P.follows .mixedOrders = true) {K : KX} {l : List (FuncId × List Value × Value)} (hK : KnownX P (lookP K l)) (fuel : Nat) {f : FuncId} {xs : List Value} {v : Value} (ha : xs.all af = true) (h : ansTX P (lookP K l) fuel f xs v [] = true) :
    KnownX P (lookP K ((f, xs, v) :: l)) := by
  intro g args u H H1 hu
  unfold lookP at hu
  split at hu
  · rename_i hc
    simp only [Bool.and_eq_true] at hc
    have c1 := Nat.eq_of_beq_eq_true hc.1
    have c2 := sameXL_eq _ _ hc.2
    subst c1 c2
    simp only [Option.some.injEq, Prod.mk.injEq] at hu
    obtain ⟨rfl, rfl⟩ := hu
    exact callS_tabX hmix hK ha h (fun x hx => by cases hx)
  · exact hK _ _ _ _ _ hu
theorem known_baseX {T : List (Nat × List Value)} {K : KX} (hK : KnownX P K) : KnownX P (lookX T K []) := fun f args v H H1 h => hK f args v H H1 h
end
end Go.Ax

/- Walk rules: operations on bits, comparisons of strings, maps that are new, function values. -/
namespace Go.Ax
set_option linter.unusedSimpArgs false

section
variable {P : Program} {ro : Option Nat} {H : AHeap} {N : Nat} {E : Env} {ds : List Deferred} {ops : Array Oper} {rest : List Oper} {d : Nat} {ty : TypeId} {pos : String} {after : Array Edge} {Q : Exit → AAct → AHeap → Prop}

theorem w_plain {op : BinOp} {t u : TypeId} {x y : Operand} {p q v : Value} (hx : opOk P N x = true) (hy : opOk P N y = true) (hp : opv E x = p) (hq : opv E y = q) (hd : d < N) (h0 : aBin P H op t p q = none) (h1 : af p = true) (h2 : af q = true) (h : peval P (do eqGuard op t x y p q; binOp op t p q) = some v) (h3 : af v = true) :
    wpOps P ro ops (⟨some d, .binOp op t x y u, ty, pos, after, none⟩ :: rest) (mkA N E ds) H Q = wpOps P ro ops rest (mkA N (upd E d v) ds) H Q :=
  (w_rv (x := some v) rfl (by simp only [aop, xBin, aeval_opv hx, aeval_opv hy, hp, hq, Option.bind_eq_bind, Option.bind_some, binV, h0, h1, h2, aPlain, h, h3, Bool.and_self, if_true, Option.map_some]; rfl) hd).trans valC_some

def bAnd (k : IntKind) (x y : Int) : Int := k.wrap ((BitVec.ofInt k.bits x &&& BitVec.ofInt k.bits y).toNat : Int)
def bOr (k : IntKind) (x y : Int) : Int := k.wrap ((BitVec.ofInt k.bits x ||| BitVec.ofInt k.bits y).toNat : Int)
def bNot (k : IntKind) (x y : Int) : Int := k.wrap ((BitVec.ofInt k.bits x &&& ~~~BitVec.ofInt k.bits y).toNat : Int)
def bShl (k : IntKind) (x : Int) (n : Nat) : Int := k.wrap (x * 2 ^ (min n k.bits))
def bShr (k : IntKind) (x : Int) (n : Nat) : Int := x.fdiv (2 ^ (min n k.bits))

def bitV (op : BinOp) : Value → Value → Option Value
  | .int k a, .int k' b => (match op with
    | .and => if k = k' then some (.int k (bAnd k a b)) else none
    | .or => if k = k' then some (.int k (bOr k a b)) else none
    | .andNot => if k = k' then some (.int k (bNot k a b)) else none
    | .shl => if 0 ≤ b then some (.int k (bShl k a b.toNat)) else none
    | .shr => if 0 ≤ b then some (.int k (bShr k a b.toNat)) else none
    | _ => none)
  | .string a, .string b => (match op with
    | .eql => some (.bool (a.toList == b.toList))
    | _ => none)
  | _, _ => none

theorem w_bits {op : BinOp} {t u : TypeId} {x y : Operand} {p q v : Value} (hx : opOk P N x = true) (hy : opOk P N y = true) (hp : opv E x = p) (hq : opv E y = q) (hd : d < N) (h : bitV op p q = some v) (h0 : aBin P H op t p q = none) :
    wpOps P ro ops (⟨some d, .binOp op t x y u, ty, pos, after, none⟩ :: rest) (mkA N E ds) H Q = wpOps P ro ops rest (mkA N (upd E d v) ds) H Q := by
  unfold bitV at h
  split at h
  · rename_i k a k' b
    split at h <;> try split at h
    · rename_i hk
      subst hk
      simp only [Option.some.injEq] at h
      subst h
      exact w_plain hx hy hp hq hd h0 rfl rfl (by simp [eqGuard, binOp, peval, Op.intBits, bAnd, pure, bind, Sem.bind]) rfl
    · cases h
    · rename_i hk
      subst hk
      simp only [Option.some.injEq] at h
      subst h
      exact w_plain hx hy hp hq hd h0 rfl rfl (by simp [eqGuard, binOp, peval, Op.intBits, bOr, pure, bind, Sem.bind]) rfl
    · cases h
    · rename_i hk
      subst hk
      simp only [Option.some.injEq] at h
      subst h
      exact w_plain hx hy hp hq hd h0 rfl rfl (by simp [eqGuard, binOp, peval, Op.intBits, bNot, pure, bind, Sem.bind]) rfl
    · cases h
    · rename_i hb
      simp only [Option.some.injEq] at h
      subst h
      exact w_plain hx hy hp hq hd h0 rfl rfl (by simp [eqGuard, binOp, peval, Op.shift, bShl, pure, bind, Sem.bind, show ¬ b < 0 by omega]) rfl
    · cases h
    · rename_i hb
      simp only [Option.some.injEq] at h
      subst h
      exact w_plain hx hy hp hq hd h0 rfl rfl (by simp [eqGuard, binOp, peval, Op.shift, bShr, pure, bind, Sem.bind, show ¬ b < 0 by omega]) rfl
    · cases h
    all_goals cases h
  · rename_i a b
    split at h
    · simp only [Option.some.injEq] at h
      subst h
      exact w_plain hx hy hp hq hd h0 rfl rfl (by simp [eqGuard, binOp, peval, Op.stringOp, pure, bind, Sem.bind]) rfl
    · cases h
  · cases h

theorem bin_nobit {op : BinOp} {t : TypeId} {p q v : Value} (hop : op = .and ∨ op = .or ∨ op = .andNot ∨ op = .shl ∨ op = .shr) (h : bitV op p q = some v) : aBin P H op t p q = none := by
  unfold bitV at h
  split at h
  · rename_i k a k' b
    simp only [aBin]
    split
    · rcases hop with rfl | rfl | rfl | rfl | rfl <;> rfl
    · rfl
  · rcases hop with rfl | rfl | rfl | rfl | rfl <;> cases h
  · cases h
theorem w_bit {op : BinOp} {t u : TypeId} {x y : Operand} (hop : op = .and ∨ op = .or ∨ op = .andNot ∨ op = .shl ∨ op = .shr) (hx : opOk P N x = true) (hy : opOk P N y = true) (hd : d < N) (h : (bitV op (opv E x) (opv E y)).isSome = true) :
    wpOps P ro ops (⟨some d, .binOp op t x y u, ty, pos, after, none⟩ :: rest) (mkA N E ds) H Q = valC P ro ops rest N E ds d H Q (bitV op (opv E x) (opv E y)) := by
  cases hv : bitV op (opv E x) (opv E y) with
  | none => rw [hv] at h; cases h
  | some v => exact (w_bits hx hy rfl rfl hd hv (bin_nobit hop hv)).trans valC_some.symm
theorem w_and {t u : TypeId} {x y : Operand} (hx : opOk P N x = true) (hy : opOk P N y = true) (hd : d < N) (h : (bitV .and (opv E x) (opv E y)).isSome = true) : wpOps P ro ops (⟨some d, .binOp .and t x y u, ty, pos, after, none⟩ :: rest) (mkA N E ds) H Q = valC P ro ops rest N E ds d H Q (bitV .and (opv E x) (opv E y)) := w_bit (by simp) hx hy hd h
theorem w_or {t u : TypeId} {x y : Operand} (hx : opOk P N x = true) (hy : opOk P N y = true) (hd : d < N) (h : (bitV .or (opv E x) (opv E y)).isSome = true) : wpOps P ro ops (⟨some d, .binOp .or t x y u, ty, pos, after, none⟩ :: rest) (mkA N E ds) H Q = valC P ro ops rest N E ds d H Q (bitV .or (opv E x) (opv E y)) := w_bit (by simp) hx hy hd h
theorem w_andNot {t u : TypeId} {x y : Operand} (hx : opOk P N x = true) (hy : opOk P N y = true) (hd : d < N) (h : (bitV .andNot (opv E x) (opv E y)).isSome = true) : wpOps P ro ops (⟨some d, .binOp .andNot t x y u, ty, pos, after, none⟩ :: rest) (mkA N E ds) H Q = valC P ro ops rest N E ds d H Q (bitV .andNot (opv E x) (opv E y)) := w_bit (by simp) hx hy hd h
theorem w_shl {t u : TypeId} {x y : Operand} (hx : opOk P N x = true) (hy : opOk P N y = true) (hd : d < N) (h : (bitV .shl (opv E x) (opv E y)).isSome = true) : wpOps P ro ops (⟨some d, .binOp .shl t x y u, ty, pos, after, none⟩ :: rest) (mkA N E ds) H Q = valC P ro ops rest N E ds d H Q (bitV .shl (opv E x) (opv E y)) := w_bit (by simp) hx hy hd h
theorem w_shr {t u : TypeId} {x y : Operand} (hx : opOk P N x = true) (hy : opOk P N y = true) (hd : d < N) (h : (bitV .shr (opv E x) (opv E y)).isSome = true) : wpOps P ro ops (⟨some d, .binOp .shr t x y u, ty, pos, after, none⟩ :: rest) (mkA N E ds) H Q = valC P ro ops rest N E ds d H Q (bitV .shr (opv E x) (opv E y)) := w_bit (by simp) hx hy hd h
theorem bit_and {k : IntKind} {a b : Int} : bitV .and (.int k a) (.int k b) = some (.int k (bAnd k a b)) := by simp only [bitV, if_true]
theorem bit_or {k : IntKind} {a b : Int} : bitV .or (.int k a) (.int k b) = some (.int k (bOr k a b)) := by simp only [bitV, if_true]
theorem bit_andNot {k : IntKind} {a b : Int} : bitV .andNot (.int k a) (.int k b) = some (.int k (bNot k a b)) := by simp only [bitV, if_true]
theorem bit_shl {k k' : IntKind} {a b : Int} (h : 0 ≤ b) : bitV .shl (.int k a) (.int k' b) = some (.int k (bShl k a b.toNat)) := by simp only [bitV, h, if_true]
theorem bit_shr {k k' : IntKind} {a b : Int} (h : 0 ≤ b) : bitV .shr (.int k a) (.int k' b) = some (.int k (bShr k a b.toNat)) := by simp only [bitV, h, if_true]
theorem w_eqStr {t u : TypeId} {x y : Operand} {a b : ByteArray} (hx : opOk P N x = true) (hy : opOk P N y = true) (hp : opv E x = .string a) (hq : opv E y = .string b) (hd : d < N) (h0 : aBin P H .eql t (.string a) (.string b) = none) : wpOps P ro ops (⟨some d, .binOp .eql t x y u, ty, pos, after, none⟩ :: rest) (mkA N E ds) H Q = wpOps P ro ops rest (mkA N (upd E d (.bool (a.toList == b.toList))) ds) H Q :=
  w_bits hx hy hp hq hd rfl h0

def mapO (es : List MapEntry) (c : Nat) : AObj := ⟨.map ⟨es⟩ c, false, ⟨[], 0⟩⟩
theorem w_mkmap {t : TypeId} (hd : d < N) : wpOps P ro ops (⟨some d, .makeMap t none, ty, pos, after, none⟩ :: rest) (mkA N E ds) H Q = wpOps P ro ops rest (mkA N (upd E d (.map (some H.next))) ds) (H.new (mapO [] 0)) Q := by
  rw [w_op rfl rfl]
  simp only [opA, aop, xMakeMap, mapNew, nextA, opC, put_some N E ds d _ hd]
  rfl
theorem w_ins {t : TypeId} {x k y : Operand} (hx : opOk P N x = true) (hk : opOk P N k = true) (hy : opOk P N y = true) : wpOps P ro ops (⟨none, .insert t x k y, ty, pos, after, none⟩ :: rest) (mkA N E ds) H Q = storeC P ro ops rest (mkA N E ds) Q (aMapUpdate P H t (opv E x) (opv E k) (opv E y)) := by
  rw [w_op rfl rfl]
  simp only [opA, aop, xMapUpdate, aeval_opv hx, aeval_opv hk, aeval_opv hy, ruh, Option.bind_eq_bind, Option.bind_some]
  cases aMapUpdate P H t (opv E x) (opv E k) (opv E y) with
  | none => rfl
  | some H1 => simp only [Option.map_some, nextA, opC, put_none, storeC]
theorem w_lookup {t : TypeId} {x k : Operand} {ok : Bool} (hx : opOk P N x = true) (hk : opOk P N k = true) (hd : d < N) : wpOps P ro ops (⟨some d, .lookup t x k ok, ty, pos, after, none⟩ :: rest) (mkA N E ds) H Q = valC P ro ops rest N E ds d H Q (aLookup P H t (opv E x) (opv E k) ok) :=
  w_rv rfl (by simp only [aop, xLookup, aeval_opv hx, aeval_opv hk, Option.bind_eq_bind, Option.bind_some]) hd

theorem upd_newMap {t key el : TypeId} {kd : TypeDesc} {k v : Value} {es : List MapEntry} {c m : Nat} (hm : H.next = m) (hok : H.base ≤ H.next) (hu : P.underlying t = some (.map key el)) (hk : P.underlying key = some kd) (h1 : (keyOk k && keyKind kd) = true) (h2 : scb (H.next + 1) v = true) (hf : Instr.findNow kd k es 0 = some none) :
    aMapUpdate P (H.new (mapO es c)) t (.map (some m)) k v = some (H.new (mapO (es ++ [{ key := k, val := v, born := c }]) (c + 1))) := by
  subst hm
  have hg : (H.new (mapO es c)).get H.next = some ⟨.map ⟨es⟩ c, false, ⟨[], 0⟩⟩ := by rw [AHeap.get_new, if_pos rfl]; rfl
  have h3 : (keyOk k && keyKind kd && scb (H.new (mapO es c)).next v) = true := by rw [h1, Bool.true_and]; exact h2
  have e := new_upd (H := H) (x := mapO es c) (o := mapO (es ++ [{ key := k, val := v, born := c }]) (c + 1)) hok
  unfold aMapUpdate
  rw [hu]
  simp only [hg, hk, Option.bind_eq_bind, Option.bind_some, h3, if_true, hf]
  rw [← e]
  simp [mapO]
end

end Go.Ax

/- slices.Insert of one number into a slice of numbers whose capacity is not known: in place or in new memory, the answer is the same abstract one (by the kit's contracts). -/
namespace Go.Ax
open Go.Proofs
section
variable {P : Program} {ρ : Ren} {H : AHeap} {w : World}

theorem setCells_heap (b : Nat) {e : TypeId} {fz : Nat × Nat} : ∀ (vs : List Value) (o : Nat) (w : World) (c : Array Value), w.heap[b]? = some (.cells c e fz) →
    (w.setCells b o vs).heap[b]? = some (.cells (wrA c o vs) e fz) ∧ (w.setCells b o vs).heap.size = w.heap.size ∧ (∀ b', b' ≠ b → (w.setCells b o vs).heap[b']? = w.heap[b']?) ∧ (w.setCells b o vs).os = w.os ∧ (w.setCells b o vs).tape = w.tape ∧ (w.setCells b o vs).output = w.output
  | [], o, w, c, h => ⟨h, rfl, fun _ _ => rfl, rfl, rfl, rfl⟩
  | v :: r, o, w, c, h => by
    have h1 : (w.setCell ⟨b, o, none⟩ v).heap[b]? = some (.cells (c.setIfInBounds o v) e fz) := by
      unfold World.setCell
      simp [Array.getElem?_modify, h]
    have h2 : (w.setCell ⟨b, o, none⟩ v).heap.size = w.heap.size := by
      unfold World.setCell
      simp
    have h3 : ∀ b', b' ≠ b → (w.setCell ⟨b, o, none⟩ v).heap[b']? = w.heap[b']? := fun b' hb => by
      unfold World.setCell
      simp only [Array.getElem?_modify]
      rw [if_neg (fun e => hb e.symm)]
    obtain ⟨k1, k2, k3, k4, k5, k6⟩ := setCells_heap b r (o + 1) _ _ h1
    exact ⟨k1, k2.trans h2, fun b' hb => (k3 b' hb).trans (h3 b' hb), k4, k5, k6⟩

def isI64 : Value → Bool
  | .int .i64 _ => true
  | _ => false
theorem isI64_of {v : Value} (h : isI64 v = true) : ∃ n, v = .int .i64 n := by
  cases v <;> try cases h
  rename_i k n
  cases k <;> first | exact ⟨n, rfl⟩ | cases h

def insK (F : FuncId) (ti : TypeId) (f : FuncId) (args : List Value) (H : AHeap) : Option (Value × AHeap) :=
  match args with
  | [.slice (some ⟨a, off, none⟩) n cap, .int .i64 i, .slice (some ⟨vb, voff, some 0⟩) 1 1] =>
    if Nat.beq f F && decide (0 ≤ i) && Nat.blt i.toNat n && Nat.ble cap 1000000 then
      match cellsAt H a, H.get vb with
      | some (v, e, true), some ⟨.cells _ _ _, false, u⟩ =>
        if Nat.beq e ti && Nat.ble n cap && Nat.ble (off + cap) v.n && Nat.blt voff u.n && !(Nat.beq a vb) && (v.gets off n).all isI64 && isI64 (u.get voff) then
          some (.slice (some ⟨H.next, 0, none⟩) (n + 1) (n + 1), (H.upd a none).new ⟨.cells #[] e, true, RV.ofList ((v.gets off n).take i.toNat ++ (u.get voff :: (v.gets off n).drop i.toNat))⟩)
        else none
      | _, _ => none
    else none
  | _ => none

theorem ins_get {l : List Value} {x : Value} {i n : Nat} (hl : l.length = n) (hi : i < n) (j : Nat) : (l.take i ++ (x :: l.drop i))[j]? = if j < i then l[j]? else if j = i then some x else l[j - 1]? := by
  by_cases h1 : j < i
  · rw [if_pos h1, List.getElem?_append_left (by rw [List.length_take]; omega), List.getElem?_take, if_pos h1]
  · rw [if_neg h1, List.getElem?_append_right (by rw [List.length_take]; omega), List.length_take, Nat.min_eq_left (by omega)]
    by_cases h2 : j = i
    · rw [if_pos h2, h2, Nat.sub_self]; rfl
    · rw [if_neg h2]
      obtain ⟨k, rfl⟩ : ∃ k, j = i + 1 + k := ⟨j - i - 1, by omega⟩
      rw [show i + 1 + k - i = k + 1 by omega, List.getElem?_cons_succ, List.getElem?_drop]
      congr 1
      omega

theorem wrA_ins {c : Array Value} {O n i : Nat} {l : List Value} {x : Value} (hl : l.length = n) (hi : i < n) (hc : ∀ j, j < n → c[O + j]? = l[j]?) (hs : O + n + 1 ≤ c.size) :
    ∀ j, j < n + 1 → (wrA (wrA c (O + (i + 1)) (l.drop i)) (O + i) [x])[O + j]? = (l.take i ++ (x :: l.drop i))[j]? := by
  intro j hj
  have hd : (l.drop i).length = n - i := by rw [List.length_drop, hl]
  rw [ins_get hl hi, wrA_get _ _ _ _ (by rw [wrA_size]; simp only [List.length_singleton]; omega)]
  by_cases h1 : j < i
  · rw [if_neg (by simp only [List.length_singleton]; omega), if_pos h1, wrA_get _ _ _ _ (by omega), if_neg (by omega)]
    exact hc j (by omega)
  · by_cases h2 : j = i
    · subst h2
      rw [if_pos (by simp only [List.length_singleton]; omega), if_neg h1, if_pos rfl, Nat.sub_self]
      rfl
    · rw [if_neg (by simp only [List.length_singleton]; omega), if_neg h1, if_neg h2, wrA_get _ _ _ _ (by omega), if_pos (by omega), List.getElem?_drop]
      congr 1
      omega

theorem ins_known {rho : Go.Shelf.Ren} (L : Lays2.n21 P rho) {e3 : TypeId} (h3 : rho.t 3 = e3) : KnownX P (insK (rho.f 21) e3) := by
  intro f args v0 H H1 h ρ w r hsc F m R hF hR
  unfold insK at h
  split at h
  · rename_i a off n cap i vb voff
    split at h
    · rename_i hcond
      simp only [Bool.and_eq_true, decide_eq_true_eq] at hcond
      obtain ⟨⟨⟨hf, h0⟩, hin⟩, hn⟩ := hcond
      have hf := Nat.eq_of_beq_eq_true hf
      subst hf
      have hin := blt_lt hin
      have hn9 := ble_le hn
      obtain ⟨i, rfl⟩ : ∃ k : Nat, i = k := ⟨i.toNat, by omega⟩
      rw [Int.toNat_natCast] at hin h
      split at h
      · rename_i v e z1 z2 z3 u hca hgv
        split at h
        · rename_i hc2
          simp only [Bool.and_eq_true, Bool.not_eq_true'] at hc2
          obtain ⟨⟨⟨⟨⟨⟨he, hnc⟩, hcap⟩, hvo⟩, hab⟩, hall⟩, hx⟩ := hc2
          have he := Nat.eq_of_beq_eq_true he
          subst he
          have hnc := ble_le hnc
          have hcap := ble_le hcap
          have hvo := blt_lt hvo
          have hab : a ≠ vb := fun e => by subst e; simp at hab
          obtain ⟨x, hx⟩ := isI64_of hx
          simp only [Option.some.injEq, Prod.mk.injEq] at h
          obtain ⟨rfl, rfl⟩ := h
          obtain ⟨c, fz, hC⟩ := r.cells hca
          obtain ⟨hsize, hfz⟩ := hC.open_ rfl
          obtain ⟨cc, ff, hg0⟩ := cellsAt_get hca
          obtain ⟨ov, hwv, hfit⟩ := r.obj _ _ hgv
          simp only [Fits] at hfit
          obtain ⟨c2, fz2, rfl, hcs2, hsh2, _⟩ := hfit
          obtain ⟨k1, k2, k3, rfl⟩ := hsh2 trivial
          have hnz : ¬ Fz (H.get a) := cellsAt_nz hca
          have hne : ρ.blk vb ≠ ρ.blk a := fun e => by
            rcases r.inj vb a (ne_none hgv) (ne_none hg0) e with h | h
            · exact hab h.symm
            · exact hnz h.2
          have h31 : P.cellsOf e = 1 := by
            obtain ⟨i0, hi0, hz0, hzs, hzb⟩ := info_parts L.i3
            rw [h3] at hi0
            exact cellsOf_szOf (by simp [szOf, hi0, hzs])
          rw [h31, Nat.mul_one] at hsize hfz
          obtain ⟨l, hl⟩ : ∃ l, l = v.gets off n := ⟨_, rfl⟩
          rw [← hl] at hall hR
          have hll : l.length = n := by rw [hl]; simp
          have hlj : ∀ j, j < n → l[j]? = some (v.get (off + j)) := fun j hj => by
            rw [hl, RV.gets_eq]; simp [hj]
          have haf : ∀ j, j < n → ∃ k, v.get (off + j) = .int .i64 k := fun j hj => isI64_of (List.all_eq_true.1 hall _ (List.mem_of_getElem? (hlj j hj)))
          have hcl : ∀ j, j < n → c[off + ρ.sh a + j]? = l[j]? := fun j hj => by
            have := hC.cell (off + j) (by omega)
            obtain ⟨k, hk⟩ := haf j hj
            rw [hlj j hj, show off + ρ.sh a + j = off + j + ρ.sh a by omega, this, hk, Ren.val]
          have hvv : c2[voff]? = some (.int .i64 x) := by
            have := hcs2 voff hvo
            rw [k2, hx, Ren.val] at this
            exact this
          have hA : [Value.slice (some ⟨a, off, none⟩) n cap, .int .i64 (i : Int), .slice (some ⟨vb, voff, some 0⟩) 1 1].map ρ.val = [.slice (some ⟨ρ.blk a, off + ρ.sh a, none⟩) n (cap + ρ.ex a), .int .i64 (i : Int), .slice (some ⟨ρ.blk vb, voff, none⟩) 1 1] := by
            simp [Ren.val, k2]
          have hins : ∀ j, j < n + 1 → ∃ k, (l.take i ++ (u.get voff :: l.drop i))[j]? = some (.int .i64 k) := fun j hj => by
            rw [ins_get hll hin]
            split
            · obtain ⟨k, hk⟩ := haf j (by omega)
              exact ⟨k, by rw [hlj j (by omega), hk]⟩
            · split
              · exact ⟨x, by rw [hx]⟩
              · obtain ⟨k, hk⟩ := haf (j - 1) (by omega)
                exact ⟨k, by rw [hlj (j - 1) (by omega), hk]⟩
          have hlen : (l.take i ++ (u.get voff :: l.drop i)).length = n + 1 := by
            rw [List.length_append, List.length_cons, List.length_take, List.length_drop]; omega
          have hone : ∀ y ∈ l, y.oneCell' = true := fun y hy => by
            obtain ⟨k, rfl⟩ := isI64_of (List.all_eq_true.1 hall y hy); rfl
          have hcellA : ∀ j y, l[j]? = some y → w.cell? ⟨ρ.blk a, off + ρ.sh a + j, none⟩ = some y := fun j y hy => by
            have hj : j < n := by have := (List.getElem?_eq_some_iff.1 hy).1; omega
            simp only [World.cell?, hC.at_]
            rw [← hy]; exact hcl j hj
          have hcellV : ∀ j y, [Value.int .i64 x][j]? = some y → w.cell? ⟨ρ.blk vb, voff + j, none⟩ = some y := fun j y hy => by
            cases j with
            | zero => simp only [World.cell?, hwv]; rw [Nat.add_zero]; simpa [← hy] using hvv
            | succ j => simp at hy
          have hoS : sco H.next ⟨.cells #[] e, true, RV.ofList (l.take i ++ (u.get voff :: l.drop i))⟩ := by
            simp only [sco, RV.n_ofList, RV.get_ofList]
            intro j hj
            rw [hlen] at hj
            obtain ⟨k, hk⟩ := hins j hj
            simp [List.getD_eq_getElem?_getD, hk, scb]
          rw [hA]
          by_cases hroom : n + 1 ≤ cap + ρ.ex a
          · have hc63 : cap + ρ.ex a ≤ 9223372036854775807 := by
              by_cases h0 : ρ.ex a = 0
              · omega
              · have := hC.room rfl h0
                rw [h31] at this
                omega
            have hc := Any2.slices_Insert_int_shift L (ρ.blk a) (off + ρ.sh a) n (cap + ρ.ex a) i (ρ.blk vb) voff 1 1 l [.int .i64 x] w hin (by omega) hroom hc63 hne hll rfl hcellA
              (fun j hj => by simp only [World.cell?, hC.at_]; simp; omega)
              (fun j hj => by
                have := hfz (off + ρ.sh a + j) (by omega) (by omega)
                simp only [World.frozen?, hC.at_]
                simp only [Bool.and_eq_false_imp, decide_eq_true_eq, decide_eq_false_iff_not]
                intro h1 h2; exact this ⟨h1, h2⟩)
              hcellV hone (by simp [Value.oneCell']) z2 e c2.size c.size (by simp only [World.shape?, hwv]) (by simp only [World.shape?, hC.at_]) (by omega) (by simp [World.frozen?, hwv]) (by simp [World.frozen?, hwv])
            refine (hF.calls hc).mono ?_
            rintro en w' ⟨rfl, rfl⟩
            obtain ⟨a1, a2, a3, a4, a5, a6⟩ := setCells_heap (ρ.blk a) (l.drop i) (off + ρ.sh a + (i + 1)) w.drew c hC.at_
            obtain ⟨b1, b2, b3, b4, b5, b6⟩ := setCells_heap (ρ.blk a) [.int .i64 x] (off + ρ.sh a + i) _ _ a1
            have hst := St.move r (off + ρ.sh a) (cap + ρ.ex a - (n + 1)) (ne_none hg0) hnz hoS (o' := _) (by
              simp only [Fits]
              refine ⟨_, fz, rfl, fun j hj => ?_, fun h => (by cases h), fun _ _ => ⟨?_, fun j h1 h2 => ?_⟩⟩
              · rw [RV.n_ofList, hlen] at hj
                have := wrA_ins (x := .int .i64 x) hll hin hcl (by omega) j hj
                obtain ⟨k, hk⟩ := hins j hj
                rw [RV.get_ofList, Ren.at_sh, Nat.add_comm j, this, ← hx, hk, List.getD_eq_getElem?_getD, hk]
                simp [Ren.val]
              · rw [wrA_size, wrA_size, Ren.at_sh, Ren.at_ex, RV.n_ofList, hlen, h31]; omega
              · rw [Ren.at_sh, Ren.at_ex, RV.n_ofList, hlen, h31] at h2
                rw [Ren.at_sh] at h1
                exact hfz j (by omega) (by omega)) b1 (b2.trans a2) (fun b' hb => (b3 b' hb).trans (a3 b' hb)) (b4.trans a4) (b5.trans a5) (b6.trans a6)
            have := hR _ _ hst (by simp only [scb]; exact blt_of (Nat.lt_succ_self _))
            rw [val_fresh, show n + 1 + (cap + ρ.ex a - (n + 1)) = cap + ρ.ex a by omega] at this
            exact this
          · have hc := Any2.slices_Insert_int_grow L (ρ.blk a) (off + ρ.sh a) n (cap + ρ.ex a) i (ρ.blk vb) voff 1 1 l [.int .i64 x] w hin (by omega) (by omega) (by omega) (by omega) hll rfl hcellA hcellV hone (by simp [Value.oneCell'])
            refine (hF.calls hc).mono ?_
            rintro en w' ⟨rfl, hw'⟩
            obtain ⟨G, hG⟩ : ∃ G, grownCap w (n + 1) (cap + ρ.ex a) (rho.t 3) = G := ⟨_, rfl⟩
            have hG1 : n + 1 ≤ G := hG ▸ grownCap_ge w (n + 1) _ _
            have hG2 : G ≤ 9223372036854775807 := by
              have := grownCap_le_maxLen w (n + 1) (cap + ρ.ex a) (rho.t 3) (by simp only [maxLen]; omega)
              simp only [maxLen] at this
              omega
            rw [hG, h3] at hw'
            rw [hG]
            have hzs : ∀ k, Builtin.zeroCells (Value.int .i64 0).cells k = (zerosL [.int .i64 0] k).toArray := fun k => zeros_range _ _
            rw [hzs, hzs] at hw'
            obtain ⟨A, hA⟩ : ∃ A, (l.take i).toArray ++ (zerosL [.int .i64 0] (n + 1 - i)).toArray ++ (zerosL [Value.int .i64 0] (G - (n + 1))).toArray = A := ⟨_, rfl⟩
            rw [hA] at hw'
            have hAs : A.size = G := by
              rw [← hA]
              simp only [Array.size_append, List.size_toArray, List.length_take, zerosL_len, List.length_singleton]
              omega
            have hAi : ∀ j, j < i → A[j]? = l[j]? := fun j hj => by
              rw [← hA, Array.getElem?_append_left (by simp only [Array.size_append, List.size_toArray, List.length_take]; omega), Array.getElem?_append_left (by simp only [List.size_toArray, List.length_take]; omega)]
              simp [hj]
            have q0 : (w.alloc (.cells A e)).drew.heap[w.heap.size]? = some (.cells A e (0, 0)) := by
              show (w.heap.push _)[w.heap.size]? = _
              simp
            obtain ⟨a1, a2, a3, a4, a5, a6⟩ := setCells_heap w.heap.size [.int .i64 x] i (w.alloc (.cells A e)).drew A q0
            obtain ⟨b1, b2, b3, b4, b5, b6⟩ := setCells_heap w.heap.size (l.drop i) (i + 1) ((w.alloc (.cells A e)).drew.setCells w.heap.size i [.int .i64 x]).drew _ a1
            rw [← hw'] at b1 b2 b3 b4 b5 b6
            have s1 := St.del r a hnz
            have s3 := St.new s1.rel ⟨.cells #[] e, true, RV.ofList (l.take i ++ (u.get voff :: l.drop i))⟩ (.cells (wrA (wrA A i [.int .i64 x]) (i + 1) (l.drop i)) e (0, 0)) 0 (G - (n + 1)) hoS (by
              simp only [Fits]
              refine ⟨_, (0, 0), rfl, fun j hj => ?_, fun h => (by cases h), fun _ _ => ⟨⟨?_, fun _ => ?_⟩, fun j h1 h2 => by simp only; omega⟩⟩
              · rw [RV.n_ofList, hlen] at hj
                obtain ⟨k, hk⟩ := hins j hj
                rw [RV.get_ofList, Ren.at_sh, show j + 0 = j from rfl, List.getD_eq_getElem?_getD, hk]
                rw [ins_get hll hin] at hk
                have hdl : (l.drop i).length = n - i := by rw [List.length_drop, hll]
                rw [wrA_get _ _ _ _ (by rw [wrA_size]; omega)]
                by_cases h1 : j < i
                · rw [if_pos h1] at hk
                  rw [if_neg (by omega), wrA_get _ _ _ _ (by simp only [List.length_singleton]; omega), if_neg (by omega), hAi j h1, hk]
                  simp [Ren.val]
                · rw [if_neg h1] at hk
                  by_cases h2 : j = i
                  · rw [if_pos h2, hx] at hk
                    rw [if_neg (by omega), wrA_get _ _ _ _ (by simp only [List.length_singleton]; omega), if_pos (by simp only [List.length_singleton]; omega), h2, Nat.sub_self]
                    simpa [Ren.val] using hk
                  · rw [if_neg h2] at hk
                    rw [if_pos (by omega), List.getElem?_drop, show i + (j - (i + 1)) = j - 1 by omega, hk]
                    simp [Ren.val]
              · rw [wrA_size, wrA_size, hAs, Ren.at_sh, Ren.at_ex, RV.n_ofList, hlen, h31]; omega
              · rw [Ren.at_ex, RV.n_ofList, hlen, h31]; omega)
            have s4 := St.world (w1 := w') s3.rel (by
              apply Array.ext_getElem?
              intro k
              by_cases hk : k = w.heap.size
              · rw [hk, b1]
                show _ = (w.heap.push _)[w.heap.size]?
                simp
              · rw [b3 k hk]
                show ((w.alloc (.cells A e)).drew.setCells w.heap.size i [.int .i64 x]).heap[k]? = _
                rw [a3 k hk]
                show (w.heap.push _)[k]? = (w.heap.push _)[k]?
                rw [Array.getElem?_push, Array.getElem?_push, if_neg hk, if_neg hk]) (b4.trans a4) (b5.trans a5) (b6.trans a6)
            have := hR _ _ (s1.trans (s3.trans s4)) (by simp only [scb]; exact blt_of (Nat.lt_succ_self _))
            rw [show (H.upd a none).next = H.next from rfl, val_fresh, show n + 1 + (G - (n + 1)) = G by omega] at this
            exact this
        · cases h
      · cases h
    · cases h
  · cases h

end
end Go.Ax

/- Answers of shapes(), of strings.Repeat and slices.Insert (the kit's contracts), for runs of the code laws. -/
namespace Go.Proofs.YtnigelgcjfhghaaGreatDoor
open Go.Ax
set_option maxRecDepth 100000

def rhoR : Go.Shelf.Ren := ⟨fun n => if n = 99 then 135 else if n = 105 then 111 else if n = 165 then 136 else if n = 166 then 53 else if n = 169 then 56 else if n = 170 then 137 else if n = 206 then 154 else if n = 212 then 134 else if n = 240 then 86 else if n = 241 then 155 else if n = 263 then 152 else if n = 264 then 153 else if n = 276 then 112 else if n = 277 then 163 else 0, fun n => if n = 37 then 23 else if n = 46 then 80 else if n = 51 then 201 else if n = 53 then 190 else if n = 70 then 108 else if n = 72 then 110 else if n = 75 then 117 else if n = 76 then 118 else if n = 80 then 122 else if n = 109 then 186 else if n = 127 then 146 else if n = 146 then 202 else if n = 148 then 204 else if n = 164 then 169 else n, fun n => n⟩
theorem laysR : Go.Proofs.Lays.n105 Tryz.prog rhoR := by
  constructor
  all_goals first
    | exact mixed
    | kernel_rfl
    | (intro w; kernel_rfl)
theorem extraR : Go.Proofs.Builder.Extra Tryz.prog rhoR := by
  refine ⟨⟨?_, ?_⟩, ?_, ?_, ?_, ?_, ?_, ?_, ?_, ?_⟩
  all_goals first
    | kernel_rfl
    | (intro w; kernel_rfl)
    | decide
def rhoI : Go.Shelf.Ren := ⟨fun n => if n = 21 then 98 else if n = 27 then 121 else if n = 28 then 122 else if n = 35 then 149 else if n = 39 then 162 else 0, fun n => if n = 22 then 35 else n, fun n => n⟩
theorem laysI : Go.Proofs.Lays2.n21 Tryz.prog rhoI := by
  constructor
  all_goals first
    | exact mixed
    | kernel_rfl
    | (intro w; kernel_rfl)

def repK : KX := fun f args H =>
  match args with
  | [.string s, .int .i64 n] => if Nat.beq f 111 && decide (0 ≤ n) && decide (n ≤ 1000) && Nat.ble s.size 1000 then some (.string ⟨(Go.Lib.repeatL s.data.toList n.toNat).toArray⟩, H) else none
  | _ => none
theorem repeat_s (H : AHeap) (s : ByteArray) (k : Nat) (hs : s.size * k ≤ 140737488355328) (hk : k ≤ 9223372036854775807) : CallS Tryz.prog 111 [.string s, .int .i64 (k : Int)] H (.ok (.string ⟨(Go.Lib.repeatL s.data.toList k).toArray⟩)) H := by
  intro ρ w r hsc F m R hF hR
  have hc := Go.Proofs.Any.strings_Repeat laysR extraR s k w hk hs
  have e1 : [Value.string s, Value.int .i64 (k : Int)].map ρ.val = [Value.string s, Value.int .i64 (k : Int)] := map_af ρ _ (fun x hx => by simp only [List.mem_cons, List.not_mem_nil, or_false] at hx; rcases hx with rfl | rfl <;> rfl)
  rw [e1]
  refine (hF.calls hc).mono ?_
  rintro e w' ⟨rfl, hb⟩
  have := hR ρ w' (St.below r hb) rfl
  rwa [val_af ρ _ rfl] at this
theorem known_rep : KnownX Tryz.prog repK := by
  intro f args v H H1 h
  unfold repK at h
  split at h
  · rename_i s n
    split at h
    · rename_i hc
      simp only [Bool.and_eq_true, decide_eq_true_eq] at hc
      obtain ⟨⟨⟨hf, h0⟩, h1⟩, h2⟩ := hc
      have hf := Nat.eq_of_beq_eq_true hf
      subst hf
      have h2 := Nat.le_of_ble_eq_true h2
      obtain ⟨k, rfl⟩ : ∃ k : Nat, n = k := ⟨n.toNat, by omega⟩
      cases h
      have hm : s.size * k ≤ 1000 * 1000 := Nat.mul_le_mul h2 (by omega)
      rw [Int.toNat_natCast]
      exact repeat_s _ s k (by omega) (by omega)
    · cases h
  · cases h
def shaK : KX := fun f args H =>
  match args with
  | [] => if Nat.beq f 52 then some (.agg ⟨shV H.next⟩, ext H (shB H.next)) else none
  | _ => none
theorem known_sha : KnownX Tryz.prog shaK := by
  intro f args v H H1 h
  unfold shaK at h
  split at h
  · split at h
    · rename_i hf
      have hf := Nat.eq_of_beq_eq_true hf
      subst hf
      cases h
      exact shapes_c _
    · cases h
  · cases h
def baseK : KX := orX shaK (orX repK (insK 98 3))
theorem known_bK : KnownX Tryz.prog baseK := known_orX known_sha (known_orX known_rep (ins_known laysI rfl))
end Go.Proofs.YtnigelgcjfhghaaGreatDoor

/- Walks over abstract heaps: conversions of numbers, copy, slices of exact slices. -/
namespace Go.Ax
section
variable {P : Program} {H : AHeap} {N : Nat} {E : Env} {ds : List Deferred} {ro : Option Nat} {ops : Array Oper} {rest : List Oper} {d : Nat} {ty : TypeId} {pos : String} {after : Array Edge}

theorem w_convert {Q : Exit → AAct → AHeap → Prop} {x : Operand} {s t : TypeId} (hx : opOk P N x = true) : wpOps P ro ops (⟨some d, .convert s t x, ty, pos, after, none⟩ :: rest) (mkA N E ds) H Q = heapC P ro ops rest N E ds (some d) Q (aConvert P H s t (opv E x)) :=
  w_rvh rfl (by simp only [aop, xConvert, aeval_opv hx, Option.bind_eq_bind, Option.bind_some])

theorem cv_int {s t : TypeId} {u : TypeDesc} {k k0 : IntKind} {n : Int} (hs : P.underlying s = some u) (ht : P.underlying t = some (.int k)) : aConvert P H s t (.int k0 n) = some (.int k (k.wrap n), H) := by
  simp only [aConvert, hs, ht]

theorem mk_slice {t e : TypeId} {sz by1 n : Nat} {z : Value} (hu : P.underlying t = some (.slice e)) (hsz : szOf P e = some sz) (hby : bytesOf P e = some by1) (hz : zeroOf P e = some z) (hzl : z.cells.toList.length = sz) (hsm : small n by1 = true) :
    aMakeSlice P H t (.int .i64 (n : Int)) (.int .i64 (n : Int)) = (aNew H e (zerosL z.cells.toList n) false).map fun g => (.slice (some ⟨H.next, 0, some 0⟩) n n, g) := by
  simp only [aMakeSlice, hu, hsz, hby, hz, Option.bind_eq_bind, Option.bind_some, Int.toNat_natCast]
  rw [if_pos ⟨by omega, Int.le_refl _, hsm, hzl⟩]
  cases aNew H e (zerosL z.cells.toList n) false <;> rfl

theorem cp_sliceR {dt st e : TypeId} {sz m off dl dc n off2 sl sc : Nat} {s s2 : Option Nat} {b : Bl} (hu : P.underlying dt = some (.slice e)) (hsz : szOf P e = some sz) (hs : s.getD 0 = 0) (hb : rk H n = some b) (hle : off2 + Nat.min sl dl * sz ≤ b.l.length) :
    aBuiltin P H .copy ⟨[dt, st]⟩ [.slice (some ⟨m, off, s⟩) dl dc, .slice (some ⟨n, off2, s2⟩) sl sc] = (aWrite H m off ((b.l.drop off2).take (Nat.min sl dl * sz))).map fun g => (goInt (Nat.min sl dl), g) := by
  simp only [aBuiltin, aCopy, hu, hsz, Option.bind_eq_bind, Option.bind_some, lenV, first_rk hb hle]
  rw [if_pos (.inl hs)]
  cases aWrite H m off ((b.l.drop off2).take (Nat.min sl dl * sz)) <;> rfl
theorem cp_slice {dt st e : TypeId} {sz m off dl dc n off2 sl sc : Nat} {s s2 : Option Nat} {b : Bl} (hu : P.underlying dt = some (.slice e)) (hsz : szOf P e = some sz) (hs : s.getD 0 = 0) (hb : bk H n = some b) (hle : off2 + Nat.min sl dl * sz ≤ b.l.length) :
    aBuiltin P H .copy ⟨[dt, st]⟩ [.slice (some ⟨m, off, s⟩) dl dc, .slice (some ⟨n, off2, s2⟩) sl sc] = (aWrite H m off ((b.l.drop off2).take (Nat.min sl dl * sz))).map fun g => (goInt (Nat.min sl dl), g) := cp_sliceR hu hsz hs (rk_of hb) hle

theorem sl_exact {t e : TypeId} {sz n off len cap : Nat} {lo hi : Option Value} {l h : Nat} (hu : P.underlying t = some (.slice e)) (hsz : szOf P e = some sz) (hl : bound 0 lo = some l) (hh : bound len hi = some h) (h1 : h ≤ cap) (h2 : l ≤ h) (h3 : l < cap) :
    aSlice P H t (.slice (some ⟨n, off, some 0⟩) len cap) lo hi none = some (.slice (some ⟨n, off + l * sz, some 0⟩) (h - l) (cap - l), H) := by
  simp only [aSlice, hu, hsz, aSlice2, hl, hh, Option.bind_eq_bind, Option.bind_some, exactAt]
  rw [if_pos ⟨h1, h2⟩, if_neg (by omega)]

theorem wd_slice {Q : AAct → AHeap → Prop} {i : Nat} {fps : List Fp} {anc : List Nat} {t : TypeId} {x : Operand} {lo hi mx : Option Operand} {dst : Option Nat} :
    wkD P ops anc (⟨dst, .slice t x lo hi mx, ty, pos, after, none⟩ :: rest) i fps (mkA N E ds) H Q = genV P ops anc ⟨dst, .slice t x lo hi mx, ty, pos, after, none⟩ rest i fps (mkA N E ds) H Q := by
  simp only [wkD, wantA, stepD, pureOp, restD, newOp, genV]
theorem wd_copy {Q : AAct → AHeap → Prop} {i : Nat} {fps : List Fp} {anc : List Nat} {args : List Operand} {ts : Array TypeId} {dst : Option Nat} (ha : args.all (opOk P N) = true) :
    wkD P ops anc (⟨dst, .call ⟨.builtin .copy, ⟨args⟩, ts⟩, ty, pos, after, none⟩ :: rest) i fps (mkA N E ds) H Q = genV P ops anc ⟨dst, .call ⟨.builtin .copy, ⟨args⟩, ts⟩, ty, pos, after, none⟩ rest i fps (mkA N E ds) H Q := by
  simp only [wkD, wantA, stepD, pureOp, restD, newOp, genV, aevals_opv ha, btD, regBt]

theorem genV_val {o : Oper} {Q : AAct → AHeap → Prop} {i : Nat} {fps : List Fp} {anc : List Nat} {v : Value} (hdst : o.dst = some d) (hd : d < N) (hop : ∀ G, aop o.op P (mkA N E ds) G = some (.value v, G)) (hm : ∀ r ∈ fps, Meets (anc.getD i 0) [] [] (idsV v ++ ([] : List Bl).flatMap fun x => idsL x.l) r)
    (h : wkD P ops anc rest (i + 1) (⟨i, [], [], H.next, H.next + 0⟩ :: fps) (mkA N (upd E d v) ds) H Q) : genV P ops anc o rest i fps (mkA N E ds) H Q :=
  genV_extO (v := v) (M := []) [] hdst hd (fun _ h => by cases h) (fun G _ _ => opS_of (x := .value v) (g := G) (hop G) ⟨rfl, rfl⟩) hm h

theorem slice_aop {t : TypeId} {x : Operand} {lo hi mx : Option Operand} {v : Value} {G : AHeap} (hx : opOk P N x = true) (h1 : bndsOk P N lo = true) (h2 : bndsOk P N hi = true) (h3 : bndsOk P N mx = true) (h : aSlice P G t (opv E x) (bnds E lo) (bnds E hi) (bnds E mx) = some (v, G)) :
    aop (.slice t x lo hi mx) P (mkA N E ds) G = some (.value v, G) := by
  simp only [aop, xSlice, aeval_opv hx, optEval_b h1, optEval_b h2, optEval_b h3, Option.bind_eq_bind, Option.bind_some, h, rvh, Option.map_some]
theorem builtin_op {args : List Operand} {b : Builtin} {ts : Array TypeId} {dst : Option Nat} {v : Value} {G : AHeap} (ha : args.all (opOk P N) = true) (h : aBuiltin P H b ts (args.map (opv E)) = some (v, G)) : OpS P (mkA N E ds) H ⟨dst, .call ⟨.builtin b, ⟨args⟩, ts⟩, ty, pos, after, none⟩ (.ok v) G :=
  opS_of (x := .value v) (g := G) (by simp only [aop, xCall, aevals_opv ha, Option.bind_eq_bind, Option.bind_some, h, rvh, Option.map_some]) ⟨rfl, rfl⟩

end
end Go.Ax

/- Walks: strings gone through by range; slices that append makes longer. -/
namespace Go.Ax
set_option linter.unusedSimpArgs false
section
variable {P : Program} {ro : Option Nat} {H : AHeap} {N : Nat} {E : Env} {ds : List Deferred} {ops : Array Oper} {rest : List Oper} {d : Nat} {ty : TypeId} {pos : String} {after : Array Edge}

theorem ix_str {t : TypeId} {s : ByteArray} {i : Int} {k : Nat} {c : UInt8} {kd : IntKind} (hu : P.underlying t = some .string) (hi : i = k) (hc : s.data.toList[k]? = some c) : aIndex P t (.string s) (.int kd i) = some (.int .u8 (c.toNat : Int)) := by
  subst hi
  simp only [aIndex, hu]
  rw [if_pos (Int.natCast_nonneg k), Int.toNat_natCast, hc]
  rfl

theorem bt_lenStr {t : TypeId} {s : ByteArray} (hu : P.underlying t = some .string) : aBuiltin P H .len ⟨[t]⟩ [.string s] = some (goInt s.size, H) := by simp [aBuiltin, aLen, hu]
theorem rb_lenStr {t : TypeId} {s : ByteArray} (hu : P.underlying t = some .string) : regBt P .len ⟨[t]⟩ [.string s] = some (goInt s.size) := by simp [regBt, hu]
theorem w_rangeS {Q : Exit → AAct → AHeap → Prop} {x : Operand} {t : TypeId} (hx : opOk P N x = true) : wpOps P ro ops (⟨some d, .range t x, ty, pos, after, none⟩ :: rest) (mkA N E ds) H Q = heapC P ro ops rest N E ds (some d) Q (aRange P H t (opv E x)) :=
  w_rvh rfl (by simp only [aop, xRange, aeval_opv hx, Option.bind_eq_bind, Option.bind_some])
theorem w_nextS {Q : Exit → AAct → AHeap → Prop} {x : Operand} {s : Bool} (hx : opOk P N x = true) : wpOps P ro ops (⟨some d, .next x s, ty, pos, after, none⟩ :: rest) (mkA N E ds) H Q = heapC P ro ops rest N E ds (some d) Q (aNext H (opv E x) s) :=
  w_rvh rfl (by simp only [aop, xNext, aeval_opv hx, Option.bind_eq_bind, Option.bind_some])

def itO (s : ByteArray) (p : Nat) : AObj := ⟨.stringIter s p, false, ⟨[], 0⟩⟩
theorem range_str {t : TypeId} {s : ByteArray} (hu : P.underlying t = some .string) : aRange P H t (.string s) = some (.pointer (some ⟨H.next, 0, none⟩), H.new (itO s 0)) := by simp only [aRange, hu, itO]
theorem next_str {n p : Nat} {s : ByteArray} (h : H.get n = some (itO s p)) (hp : p < s.size) : aNext H (.pointer (some ⟨n, 0, none⟩)) true = some (.tuple #[.bool true, goInt p, .int .i32 (Utf8.decode s p).1], H.upd n (some (itO s (p + (Utf8.decode s p).2)))) := by
  simp only [aNext, h, itO]
  rw [if_pos hp]
theorem next_end {n p : Nat} {s : ByteArray} (h : H.get n = some (itO s p)) (hp : ¬ p < s.size) : aNext H (.pointer (some ⟨n, 0, none⟩)) true = some (.tuple #[.bool false], H) := by
  simp only [aNext, h, itO]
  rw [if_neg hp]

theorem wd_convert {Q : AAct → AHeap → Prop} {i : Nat} {fps : List Fp} {anc : List Nat} {x : Operand} {s t : TypeId} {dst : Option Nat} :
    wkD P ops anc (⟨dst, .convert s t x, ty, pos, after, none⟩ :: rest) i fps (mkA N E ds) H Q = genV P ops anc ⟨dst, .convert s t x, ty, pos, after, none⟩ rest i fps (mkA N E ds) H Q := by
  simp only [wkD, wantA, stepD, pureOp, restD, newOp, genV]
theorem wd_cvint {Q : AAct → AHeap → Prop} {i : Nat} {fps : List Fp} {anc : List Nat} {x : Operand} {s t : TypeId} {u : TypeDesc} {k k0 : IntKind} {n : Int} (hx : opOk P N x = true) (hd : d < N) (hs : P.underlying s = some u) (ht : P.underlying t = some (.int k)) (hv : opv E x = .int k0 n)
    (h : wkD P ops anc rest (i + 1) (⟨i, [], [], H.next, H.next + 0⟩ :: fps) (mkA N (upd E d (.int k (k.wrap n))) ds) H Q) : wkD P ops anc (⟨some d, .convert s t x, ty, pos, after, none⟩ :: rest) i fps (mkA N E ds) H Q := by
  rw [wd_convert]
  refine genV_val rfl hd (fun G => by simp only [aop, xConvert, aeval_opv hx, hv, cv_int hs ht, rvh, Option.bind_eq_bind, Option.bind_some, Option.map_some]) (fun r _ => ?_) h
  right
  exact ⟨fun _ _ h => (by cases h), fun _ _ h => (by cases h), fun _ => ⟨fun _ h => (by cases h), fun _ h => (by cases h)⟩⟩

theorem cells_of_bk {n : Nat} {b : Bl} (h : bk H n = some b) : ∃ rv, cellsAt H n = some (rv, b.e, b.o) ∧ rv.n = b.l.length := by
  obtain ⟨rv, h1, h2, h3⟩ := bk_blk h
  exact ⟨rv, h1, h2⟩

theorem app_opnR {st xt e : TypeId} {sz by1 m off k n off2 cnt cap : Nat} {sp s : Option Nat} {z : Value} {b bm : Bl} (hu : P.underlying st = some (.slice e)) (hsz : szOf P e = some sz) (hby : bytesOf P e = some by1) (hz : zeroOf P e = some z) (hzl : z.cells.toList.length = sz) (hi : intTy P xt = some false)
    (hm : bk H m = some bm) (he : bm.e = e) (ho : bm.o = true) (hle : off + k * sz ≤ bm.l.length) (hone : ((bm.l.drop off).take (k * sz)).all one = true) (hsp : sp = none ∨ (∃ j, sp = some (j + 1)) ∧ k = 0)
    (hb : rk H n = some b) (hle2 : off2 + cnt * sz ≤ b.l.length) (hone2 : ((b.l.drop off2).take (cnt * sz)).all one = true) (hc : 0 < cnt) (hsm : small (k + cnt) by1 = true) :
    aBuiltin P H .append ⟨[st, xt]⟩ [.slice (some ⟨m, off, sp⟩) k k, .slice (some ⟨n, off2, s⟩) cnt cap] = (aNew (H.upd m none) e ((bm.l.drop off).take (k * sz) ++ (b.l.drop off2).take (cnt * sz)) true).map fun g => (.slice (some ⟨H.next, 0, none⟩) (k + cnt) (k + cnt), g) := by
  have hl : ((b.l.drop off2).take (cnt * sz)).length = cnt * sz := by simp; omega
  have hl2 : ((bm.l.drop off).take (k * sz)).length = k * sz := by simp; omega
  obtain ⟨rv, hcm, hrn⟩ := cells_of_bk hm
  have hop := isOpen_bk hm
  rw [ho] at hop
  have hf := first_bk (sz := sz) (cnt := k) (off := off) (len := k) (cap := k) (s := sp) hm hle
  have hex : exactAp H ⟨m, off, sp⟩ k k = some false := by
    rcases hsp with rfl | ⟨⟨j, rfl⟩, rfl⟩
    · simp only [exactAp, exactAt, hop, Option.map_some, Bool.not_true]
    · simp only [exactAp, hop]
      rfl
  simp only [aBuiltin, aAppend, hu, hsz, hby, hz, hi, Option.bind_eq_bind, Option.bind_some, lenV, first_rk hb hle2, hl, hzl, hsm, and_self, if_true, aAppend2]
  rw [if_neg (by omega)]
  simp only [hf, Option.bind_some, hl2, hone, hone2, decide_true, Bool.and_self, if_true, hex, hcm]
  rw [if_pos ⟨he, by rw [Nat.ble_eq, hrn]; omega⟩]
  cases aNew (H.upd m none) e ((bm.l.drop off).take (k * sz) ++ (b.l.drop off2).take (cnt * sz)) true <;> rfl

theorem app_nilP {st xt e : TypeId} {sz by1 n off cnt cap : Nat} {s : Option Nat} {z : Value} {b : Bl} (hu : P.underlying st = some (.slice e)) (hsz : szOf P e = some sz) (hby : bytesOf P e = some by1) (hz : zeroOf P e = some z) (hzl : z.cells.toList.length = sz) (hi : intTy P xt = some false)
    (hb : rk H n = some b) (hle : off + cnt * sz ≤ b.l.length) (hone : ((b.l.drop off).take (cnt * sz)).all one = true) (hc : 0 < cnt) (hsm : small cnt by1 = true) :
    aBuiltin P H .append ⟨[st, xt]⟩ [.slice none 0 0, .slice (some ⟨n, off, s⟩) cnt cap] = (aNew H e ((b.l.drop off).take (cnt * sz)) true).map fun g => (.slice (some ⟨H.next, 0, none⟩) cnt cnt, g) := by
  have hl : ((b.l.drop off).take (cnt * sz)).length = cnt * sz := by simp; omega
  simp only [aBuiltin, aAppend, hu, hsz, hby, hz, hi, Option.bind_eq_bind, Option.bind_some, lenV, first_rk hb hle, hl, hzl, Nat.zero_add, hsm, and_self, if_true, aAppend2]
  rw [if_neg (by omega)]
  simp only [firstC, Option.bind_some, List.length_nil, Nat.zero_mul, List.all_nil, hone, decide_true, Bool.and_self, if_true, List.nil_append]
  cases aNew H e ((b.l.drop off).take (cnt * sz)) true <;> rfl

def VsAt (H : AHeap) (e : TypeId) (sz : Nat) (v : Value) (vs : List Value) (cnt : Nat) : Prop :=
  vs.length = cnt * sz ∧ vs.all one = true ∧ ((cnt = 0 ∧ v = .slice none 0 0) ∨ (0 < cnt ∧ ∃ n, v = .slice (some ⟨n, 0, none⟩) cnt cnt ∧ bk H n = some ⟨e, true, vs⟩ ∧ n < H.next))
theorem VsAt.nil {e : TypeId} {sz : Nat} : VsAt H e sz (.slice none 0 0) [] 0 := ⟨by simp, rfl, .inl ⟨rfl, rfl⟩⟩
theorem VsAt.of {G : AHeap} {e : TypeId} {sz cnt : Nat} {v : Value} {vs : List Value} (h : VsAt H e sz v vs cnt) (hn : H.next ≤ G.next) (hg : ∀ n ∈ idsV v, G.get n = H.get n) : VsAt G e sz v vs cnt := by
  obtain ⟨h1, h2, ⟨rfl, rfl⟩ | ⟨h0, n, rfl, hb, hlt⟩⟩ := h
  · exact ⟨h1, h2, .inl ⟨rfl, rfl⟩⟩
  · exact ⟨h1, h2, .inr ⟨h0, n, rfl, (bk_get (hg n (by simp [idsV]))).trans hb, by omega⟩⟩
theorem VsAt.ne {e : TypeId} {sz cnt : Nat} {v : Value} {vs : List Value} (h : VsAt H e sz v vs cnt) : ∀ n ∈ idsV v, H.get n ≠ none ∧ n < H.next := by
  obtain ⟨h1, h2, ⟨rfl, rfl⟩ | ⟨h0, n, rfl, hb, hlt⟩⟩ := h <;> intro m hm <;> simp only [idsV, List.mem_singleton, List.not_mem_nil] at hm
  subst hm; exact ⟨bk_ne hb, hlt⟩
theorem VsAt.one {e : TypeId} {sz cnt : Nat} {v : Value} {vs : List Value} (h : VsAt H e sz v vs cnt) : Go.Ax.one v = true := by
  obtain ⟨h1, h2, ⟨rfl, rfl⟩ | ⟨h0, n, rfl, hb, hlt⟩⟩ := h <;> rfl
theorem VsAt.sc {e : TypeId} {sz cnt : Nat} {v : Value} {vs : List Value} (h : VsAt H e sz v vs cnt) : scb H.next v = true := by
  obtain ⟨h1, h2, ⟨rfl, rfl⟩ | ⟨h0, n, rfl, hb, hlt⟩⟩ := h
  · rfl
  · exact blt_of hlt
theorem VsAt.len {e : TypeId} {sz cnt : Nat} {v : Value} {vs : List Value} (h : VsAt H e sz v vs cnt) : ∃ a, v = .slice a cnt cnt := by
  obtain ⟨h1, h2, ⟨rfl, rfl⟩ | ⟨h0, n, rfl, hb, hlt⟩⟩ := h
  · exact ⟨_, rfl⟩
  · exact ⟨_, rfl⟩

theorem vs_app {st xt e : TypeId} {sz by1 n off cnt cnt2 cap x : Nat} {s : Option Nat} {z v : Value} {b : Bl} {vs ws : List Value} (hu : P.underlying st = some (.slice e)) (hsz : szOf P e = some sz) (hby : bytesOf P e = some by1) (hz : zeroOf P e = some z) (hzl : z.cells.toList.length = sz) (hi : intTy P xt = some false)
    (h : VsAt H e sz v vs cnt) (hb : rk H n = some b) (hle : off + cnt2 * sz ≤ b.l.length) (hws : (b.l.drop off).take (cnt2 * sz) = ws) (hone : ws.all one = true) (hc : 0 < cnt2) (hsm : small (cnt + cnt2) by1 = true) (hx : H.next = x) (hsc : scbL H.next (vs ++ ws) = true) :
    ∃ G, aBuiltin P H .append ⟨[st, xt]⟩ [v, .slice (some ⟨n, off, s⟩) cnt2 cap] = some (.slice (some ⟨x, 0, none⟩) (cnt + cnt2) (cnt + cnt2), G) ∧ VsAt G e sz (.slice (some ⟨x, 0, none⟩) (cnt + cnt2) (cnt + cnt2)) (vs ++ ws) (cnt + cnt2) ∧ (H.base ≤ H.next → Mod (idsV v) H G) ∧ G.next = x + 1 ∧ (∀ m, m < x → m ∉ idsV v → G.get m = H.get m) := by
  have hwl : ws.length = cnt2 * sz := by rw [← hws]; simp; omega
  obtain ⟨h1, h2, ⟨rfl, rfl⟩ | ⟨h0, m, rfl, hm, hlt⟩⟩ := h
  · have hv : vs = [] := List.eq_nil_of_length_eq_zero (by simpa using h1)
    subst hv
    rw [List.nil_append] at hsc ⊢
    have happ := app_nilP (H := H) (st := st) (xt := xt) (n := n) (off := off) (cnt := cnt2) (cap := cap) (s := s) hu hsz hby hz hzl hi hb hle (by rw [hws]; exact hone) hc (by simpa using hsm)
    have hn := new_ext (H := H) (L := []) (e := e) (l := ws) (o := true) (by simpa using hsc)
    rw [hws, show aNew H e ws true = aNew (ext H []) e ws true from rfl, hn, Option.map_some, hx] at happ
    refine ⟨ext H [⟨e, true, ws⟩], by rw [Nat.zero_add]; exact happ, ⟨by rw [hwl, Nat.zero_add], hone, .inr ⟨by omega, x, rfl, ?_, by rw [ext_next, hx]; simp⟩⟩, fun hok => Mod.ext hok, by rw [ext_next, hx]; rfl, fun m hm _ => ext_get_old (by omega)⟩
    rw [show x = x + 0 from rfl, bk_at hx (by simp)]; rfl
  · have hdr : (vs.drop 0).take (cnt * sz) = vs := by rw [List.drop_zero]; exact List.take_of_length_le (by omega)
    have happ := app_opnR (H := H) (st := st) (xt := xt) (m := m) (off := 0) (k := cnt) (sp := none) (n := n) (off2 := off) (cnt := cnt2) (cap := cap) (s := s) hu hsz hby hz hzl hi hm rfl rfl (by simp only; omega) (by simp only [hdr]; exact h2) (.inl rfl) hb hle (by rw [hws]; exact hone) hc hsm
    simp only [hdr, hws] at happ
    have hn := new_ext (H := dp H m) (L := []) (e := e) (l := vs ++ ws) (o := true) (by rw [dp_next]; simpa using hsc)
    rw [show H.upd m none = ext (dp H m) [] from rfl, hn, Option.map_some, hx] at happ
    have mD : Mod (idsV (.slice (some ⟨m, 0, none⟩) cnt cnt)) H (dp H m) := Mod.upd (by simp [idsV])
    refine ⟨ext (dp H m) [⟨e, true, vs ++ ws⟩], happ, ⟨by rw [List.length_append, h1, hwl, Nat.add_mul], by rw [List.all_append, h2, hone]; rfl, .inr ⟨by omega, x, rfl, ?_, by rw [ext_next, dp_next, hx]; simp⟩⟩, fun hok => mD.trans (Mod.ext (mD.ok hok)), by rw [ext_next, dp_next, hx]; rfl, fun q hq hqn => ?_⟩
    · rw [show x = x + 0 from rfl, bk_at (show (dp H m).next = x from hx) (by simp)]; rfl
    · rw [ext_get_old (by rw [dp_next]; omega), dp_get (by simpa [idsV] using hqn)]

end
end Go.Ax

/- A call that leaves the old blocks as they were and answers a value without blocks: what else it left is forgotten. -/
namespace Go.Ax
variable {P : Program} {H X : AHeap} {f : FuncId} {args : List Value}

theorem Rn.dropM (w : WF P H) (m : Mod [] H X) : Rn id H X H where
  low := fun _ _ => rfl
  next := Nat.le_refl _
  base := rfl
  dirty := fun _ h => h
  dirt1 := fun n h => by
    rcases m.dirty n h with h | h
    · exact h
    · simp at h
  get := fun n o2 h => .inl ⟨(w.dom n o2 h).1, h, by rw [m.get n (w.dom n o2 h).1 (by simp), h]⟩
  keep := fun n _ h => .inl h
  inj := fun m n _ _ h => h
  ro := fun n _ => ⟨.inl, fun _ => rfl⟩

theorem CallS.dropM {v : Value} (h : CallS P f args H (.ok v) X) (m : Mod [] H X) (hv : scb H.next v = true) : CallS P f args H (.ok v) H := by
  refine CallS.rn (σ := id) (H1 := X) ?_ (fun w => Rn.dropM w m) hv
  rw [rnV_id hv]; exact h

theorem CallA.pure {v : Value} (h : CallA P f args H fun out X => out = .ok v ∧ Mod [] H X) (hv : scb H.next v = true) : CallS P f args H (.ok v) H := by
  obtain ⟨_, X, hc, rfl, m⟩ := h
  exact hc.dropM m hv

theorem Fin.mod {v v1 : Value} (he : v1 = v) (m : Mod [] H X) (hv : scb H.next v = true) : Fin P f args H v H (.ok v1) X := fun h => by
  rw [he] at h
  exact h.dropM m hv

end Go.Ax

/- Arguments that hold slices, of slices too: an abstract heap with one block for each slice, for reading only (such blocks may lie where others lie). -/
namespace Go.Ax
open Go.ChangeShapes
section
variable {P : Program} {ρ : Ren} {H : AHeap} {w : World}

def roObj (e : TypeId) (vs : List Value) : AObj := ⟨.cells #[] e (1, 0), true, RV.ofList vs⟩
theorem roObj_fz {e : TypeId} {vs : List Value} : Fz (some (roObj e vs)) := ⟨_, rfl, rfl⟩

def roH (H : AHeap) (e : TypeId) (vs : List Value) : AHeap := ⟨rootPut H.root H.next (some (roObj e vs)), H.next + 1, H.next + 1, H.dirty⟩
theorem roH_get {e : TypeId} {vs : List Value} (m : Nat) : (roH H e vs).get m = if m = H.next then some (roObj e vs) else H.get m := rootPut_get _ _ _ _
theorem roH_rk {e : TypeId} {vs : List Value} : rk (roH H e vs) H.next = some ⟨e, true, vs⟩ := by
  rw [rk_eq]
  simp only [cellsR, roH_get, if_true, roObj, Option.map_some, RV.n_ofList, RV.gets_ofList]

def isU8 : Value → Bool
  | .int .u8 _ => true
  | _ => false

structure Ro (P : Program) (ρ : Ren) (H : AHeap) (w : World) : Prop where
  rel : Rel P ρ H w
  base : H.base = H.next
  dirty : H.dirty = []
  al : ∀ n, H.get n ≠ none → Fz (H.get n) ∨ n < P.globals.size ∧ ∃ c e, w.heap[n]? = some (.cells c e (0, 0)) ∧ ∀ v ∈ c.toList, isU8 v = true

structure Gro (H H1 : AHeap) : Prop where
  next : H.next ≤ H1.next
  get : ∀ n, n < H.next → H1.get n = H.get n
theorem Gro.refl : Gro H H := ⟨Nat.le_refl _, fun _ _ => rfl⟩
theorem Gro.trans {H1 H2 : AHeap} (a : Gro H H1) (b : Gro H1 H2) : Gro H H2 := ⟨Nat.le_trans a.next b.next, fun n hn => (b.get n (Nat.lt_of_lt_of_le hn a.next)).trans (a.get n hn)⟩

theorem u8_val {v : Value} (h : isU8 (ρ.val v) = false) : isU8 v = false := by
  cases v with
  | int k n => rw [Ren.val] at h; exact h
  | _ => rfl

theorem Ro.add (R : Ro P ρ H w) {b off : Nat} {e : TypeId} {c : Array Value} {fz : Nat × Nat} {vs : List Value} (hb : w.heap[b]? = some (.cells c e fz)) (hc : ∀ i, i < vs.length → c[off + i]? = some (ρ.val (vs.getD i undef)))
    (hs : scbL H.next vs = true) (h0 : ∃ i, i < vs.length ∧ isU8 (ρ.val (vs.getD i undef)) = false) : Ro P (ρ.at H.next b off 0) (roH H e vs) w ∧ Ext H.next ρ (ρ.at H.next b off 0) ∧ Gro H (roH H e vs) := by
  have ex := Ren.at_ext ρ H.next b off 0
  have r := R.rel
  have hal : ∀ n, H.get n ≠ none → ρ.blk n = b → Fz (H.get n) := fun n hn he => by
    rcases R.al n hn with h | ⟨hg, c', e', h1, h2⟩
    · exact h
    · rw [(r.glob.2 n hg).1] at he
      subst he
      rw [hb] at h1
      simp only [Option.some.injEq, Obj.cells.injEq] at h1
      obtain ⟨i, hi, hu⟩ := h0
      have h3 := hc i hi
      rw [h1.1] at h3
      have := h2 _ (Array.mem_toList_iff.2 (Array.mem_of_getElem? h3))
      rw [hu] at this
      cases this
  have hgr : Gro H (roH H e vs) := ⟨Nat.le_succ _, fun n hn => by rw [roH_get, if_neg (by omega)]⟩
  refine ⟨⟨⟨Nat.le_refl _, ⟨Nat.le_succ_of_le r.glob.1, fun g hg => ?_⟩, fun m n hm hn he => ?_, fun n o hn => ?_, fun n o hn => ?_⟩, rfl, R.dirty, fun n hn => ?_⟩, ex, hgr⟩
  · have := r.glob.1
    rw [ex.blk g (by omega), ex.sh g (by omega)]; exact r.glob.2 g hg
  · rw [roH_get] at hm hn ⊢
    rw [roH_get]
    by_cases h1 : m = H.next <;> by_cases h2 : n = H.next
    · exact .inl (h1.trans h2.symm)
    · rw [if_neg h2] at hn
      rw [if_pos h1, if_neg h2]
      subst h1
      rw [Ren.at_blk, ex.blk n (r.lt hn)] at he
      exact .inr ⟨roObj_fz, hal n hn he.symm⟩
    · rw [if_neg h1] at hm
      rw [if_neg h1, if_pos h2]
      subst h2
      rw [Ren.at_blk, ex.blk m (r.lt hm)] at he
      exact .inr ⟨hal m hm he, roObj_fz⟩
    · rw [if_neg h1] at hm
      rw [if_neg h2] at hn
      rw [if_neg h1, if_neg h2]
      rw [ex.blk m (r.lt hm), ex.blk n (r.lt hn)] at he
      exact r.inj m n hm hn he
  · rw [roH_get] at hn
    by_cases h : n = H.next
    · rw [if_pos h] at hn
      cases hn
      subst h
      refine ⟨Nat.lt_succ_self _, ?_⟩
      simp only [sco, roObj, RV.n_ofList, RV.get_ofList]
      intro i hi
      exact scb_mono (Nat.le_succ _) _ (scbL_iff.1 hs _ (by simp [List.getD, hi]))
    · rw [if_neg h] at hn
      have := r.dom n o hn
      exact ⟨Nat.lt_succ_of_lt this.1, this.2.mono (Nat.le_succ _)⟩
  · rw [roH_get] at hn
    by_cases h : n = H.next
    · rw [if_pos h] at hn
      cases hn
      subst h
      refine ⟨_, by rw [Ren.at_blk]; exact hb, ?_⟩
      simp only [Fits, roObj]
      refine ⟨c, fz, rfl, fun i hi => ?_, fun h => (by cases h), fun _ h => (by cases h)⟩
      simp only [RV.n_ofList] at hi
      rw [RV.get_ofList, Ren.at_sh, val_ext ex _ (scbL_iff.1 hs _ (by simp [List.getD, hi])), Nat.add_comm]
      exact hc i hi
    · rw [if_neg h] at hn
      obtain ⟨o', h1, h2⟩ := r.obj n o hn
      have hd := r.dom n o hn
      exact ⟨o', by rw [ex.blk n hd.1]; exact h1, h2.ext hd.1 hd.2 ex⟩
  · rw [roH_get] at hn ⊢
    by_cases h : n = H.next
    · rw [if_pos h]; exact .inl roObj_fz
    · rw [if_neg h] at hn ⊢
      exact R.al n hn

theorem Ro.skipE (R : Ro P ρ H w) {ρ' : Ren} (ex : Ext H.next ρ ρ') : Ro P ρ' ⟨H.root, H.next + 1, H.next + 1, H.dirty⟩ w ∧ Gro H ⟨H.root, H.next + 1, H.next + 1, H.dirty⟩ := by
  have r := R.rel
  have hg : ∀ n, (⟨H.root, H.next + 1, H.next + 1, H.dirty⟩ : AHeap).get n = H.get n := fun n => rfl
  refine ⟨⟨⟨Nat.le_refl _, ⟨Nat.le_succ_of_le r.glob.1, fun g hg => ?_⟩, fun m n hm hn he => ?_, fun n o hn => ?_, fun n o hn => ?_⟩, rfl, R.dirty, fun n hn => R.al n hn⟩, Nat.le_succ _, fun n _ => rfl⟩
  · have := r.glob.1
    rw [ex.blk g (by omega), ex.sh g (by omega)]; exact r.glob.2 g hg
  · rw [hg] at hm hn
    rw [ex.blk m (r.lt hm), ex.blk n (r.lt hn)] at he
    exact r.inj m n hm hn he
  · have := r.dom n o hn
    exact ⟨Nat.lt_succ_of_lt this.1, this.2.mono (Nat.le_succ _)⟩
  · obtain ⟨o', h1, h2⟩ := r.obj n o hn
    have hd := r.dom n o hn
    exact ⟨o', by rw [ex.blk n hd.1]; exact h1, h2.ext hd.1 hd.2 ex⟩
theorem Ro.skip (R : Ro P ρ H w) (b off : Nat) : Ro P (ρ.at H.next b off 0) ⟨H.root, H.next + 1, H.next + 1, H.dirty⟩ w ∧ Ext H.next ρ (ρ.at H.next b off 0) ∧ Gro H ⟨H.root, H.next + 1, H.next + 1, H.dirty⟩ :=
  ⟨(R.skipE (Ren.at_ext ρ H.next b off 0)).1, Ren.at_ext ρ H.next b off 0, (R.skipE (Ren.at_ext ρ H.next b off 0)).2⟩

def Ren.atJ (ρ : Ren) (n b s j : Nat) : Ren := ⟨fun m => if m = n then b else ρ.blk m, fun m => if m = n then s else ρ.sh m, fun m => if m = n then 0 else ρ.ex m, fun m => if m = n then .int .i64 j else ρ.op m, fun m => by
  by_cases h : m = n
  · simp only [h, if_true]; rfl
  · simp only [h, if_false]; exact ρ.op1 m⟩
theorem Ren.atJ_ext (ρ : Ren) (n b s j : Nat) : Ext n ρ (ρ.atJ n b s j) :=
  ⟨fun m h => if_neg (Nat.ne_of_lt h), fun m h => if_neg (Nat.ne_of_lt h), fun m h => if_neg (Nat.ne_of_lt h), fun m h => if_neg (Nat.ne_of_lt h)⟩
theorem val_slJ {N b off j : Nat} : (ρ.atJ N b off j).val (.slice (some ⟨N, 0, some 1⟩) 0 0) = .slice (some ⟨b, off, some j⟩) 0 0 := by
  simp [Ren.val, Ren.atJ, Ren.offS, Ren.spS, Ren.capS, spO]

def SlAt (H : AHeap) (sz : Nat) (u : Value) (vs : List Value) (len : Nat) : Prop :=
  vs.length = len * sz ∧ ∃ a cap, u = .slice a len cap ∧ (len = 0 ∨ ∃ n e, a = some ⟨n, 0, some 0⟩ ∧ n < H.next ∧ rk H n = some ⟨e, true, vs⟩ ∧ len ≤ cap)

theorem SlAt.gro {H1 : AHeap} {sz : Nat} {u : Value} {vs : List Value} {len : Nat} (h : SlAt H sz u vs len) (g : Gro H H1) : SlAt H1 sz u vs len := by
  obtain ⟨h1, a, cap, h2, h3⟩ := h
  refine ⟨h1, a, cap, h2, h3.imp id ?_⟩
  rintro ⟨n, e, h4, h5, h6, h7⟩
  exact ⟨n, e, h4, Nat.lt_of_lt_of_le h5 g.next, (rk_get (g.get n h5)).trans h6, h7⟩

theorem val_sl {N b off len cap : Nat} : (ρ.at N b off 0).val (.slice (some ⟨N, 0, some 0⟩) len cap) = .slice (some ⟨b, off, none⟩) len cap := by
  simp [Ren.val, Ren.at_blk, Ren.at_sh]

theorem Ro.sl (R : Ro P ρ H w) {sz len cap b off : Nat} {sp : Option Nat} (hspot : sp = none ∨ len = 0 ∧ cap = 0) {vs : List Value} (hlen : vs.length = len * sz)
    (hcell : len = 0 ∨ ∃ c e fz, w.heap[b]? = some (.cells c e fz) ∧ ∀ i, i < vs.length → c[off + i]? = some (ρ.val (vs.getD i undef))) (hs : scbL H.next vs = true) (h0 : len = 0 ∨ ∃ i, i < vs.length ∧ isU8 (ρ.val (vs.getD i undef)) = false) (hlc : len ≤ cap) :
    ∃ ρ1 H1 u, Ro P ρ1 H1 w ∧ Ext H.next ρ ρ1 ∧ Gro H H1 ∧ ρ1.val u = .slice (some ⟨b, off, sp⟩) len cap ∧ scb H1.next u = true ∧ SlAt H1 sz u vs len := by
  by_cases hz : len = 0
  · cases sp with
    | none =>
      obtain ⟨k1, k2, k3⟩ := R.skip b off
      exact ⟨_, _, .slice (some ⟨H.next, 0, some 0⟩) len cap, k1, k2, k3, val_sl, blt_of (Nat.lt_succ_self _), hlen, _, _, rfl, .inl hz⟩
    | some j =>
      have hc : cap = 0 := by
        rcases hspot with h | h
        · cases h
        · exact h.2
      subst hc hz
      obtain ⟨k1, k3⟩ := R.skipE (ρ.atJ_ext H.next b off j)
      exact ⟨_, _, .slice (some ⟨H.next, 0, some 1⟩) 0 0, k1, ρ.atJ_ext H.next b off j, k3, val_slJ, blt_of (Nat.lt_succ_self _), hlen, _, _, rfl, .inl rfl⟩
  · obtain rfl : sp = none := by
      rcases hspot with h | h
      · exact h
      · exact absurd h.1 hz
    obtain ⟨c, e, fz, hb, hc⟩ := hcell.resolve_left hz
    obtain ⟨k1, k2, k3⟩ := R.add hb hc hs (h0.resolve_left hz)
    exact ⟨_, _, .slice (some ⟨H.next, 0, some 0⟩) len cap, k1, k2, k3, val_sl, blt_of (Nat.lt_succ_self _), hlen, _, _, rfl, .inr ⟨H.next, e, rfl, Nat.lt_succ_self _, roH_rk, hlc⟩⟩

variable {K : Type} {enc : TypeId × Value → K} {spare : Nat → Bool} {held : Bool} {fuel : Nat}

theorem sl_spot {t e : TypeId} {sz len cap : Nat} {a : Addr} {x : DataW K × List MemPlace} (hsp : ∀ b, spare b = true) (ht : P.underlying t = some (.slice e)) (hsz : szOf P e = some (sz + 1)) (h : DataW.trod enc P w 0 spare held fuel t [.slice (some a) len cap] = some x) : a.spot = none ∨ len = 0 ∧ cap = 0 := by
  have none_at : ∀ y, (w.cells? 0 (a.add 0) (sz + 1)).bind y = (none : Option (DataW K × List MemPlace)) ∨ a.spot = none := fun y => by
    cases hs : a.spot with
    | none => exact .inr rfl
    | some j =>
      left
      cases hc : w.cells? 0 (a.add 0) (sz + 1) with
      | none => rfl
      | some cs =>
        unfold World.cells? at hc
        rw [if_pos (Nat.zero_le _)] at hc
        obtain ⟨v, hv⟩ := Go.Ax.mapM_each hc 0 (by simp)
        simp only [Addr.add, if_true, World.cell?, hs, Option.isSome_some] at hv
        split at hv <;> cases hv
  rcases DataW.trod_slice ht h with ⟨h1, _⟩ | ⟨a', len', cap', elems, rest, n, _, h1, _, _, hle, _, hel, hcells, hrest, _⟩
  · simp at h1
  · simp only [List.cons.injEq, Value.slice.injEq, Option.some.injEq, and_true] at h1
    obtain ⟨rfl, rfl, rfl⟩ := h1
    rw [cellsOf_szOf hsz] at hcells hrest
    rcases Nat.eq_zero_or_pos len with h0 | h0
    · subst h0
      rcases Nat.eq_zero_or_pos cap with hc | hc
      · exact .inr ⟨rfl, hc⟩
      · obtain ⟨hl, hr⟩ := hrest (hsp _)
        have := hr 0 (by omega)
        rw [Nat.zero_add, Nat.zero_mul] at this
        rcases none_at (DataW.trod enc P w 0 spare held n e) with h2 | h2
        · rw [h2, List.getElem?_eq_getElem (by omega)] at this
          cases this
        · exact .inl h2
    · have := hcells 0 h0
      rw [Nat.zero_mul] at this
      rcases none_at (DataW.trod enc P w 0 spare held n e) with h2 | h2
      · rw [h2, List.getElem?_eq_getElem (by omega)] at this
        cases this
      · exact .inl h2

theorem sl_cells {t e : TypeId} {sz b off len cap : Nat} {x : DataW K × List MemPlace} (ht : P.underlying t = some (.slice e)) (hsz : szOf P e = some sz) (h : DataW.trod enc P w 0 spare held fuel t [.slice (some ⟨b, off, none⟩) len cap] = some x) :
    ∃ (vs : List Value) (n : Nat), vs.length = len * sz ∧ (len * sz = 0 ∨ ∃ c e' fz, w.heap[b]? = some (.cells c e' fz) ∧ ∀ i, i < vs.length → c[off + i]? = some (vs.getD i undef)) ∧
      ∀ i, i < len → ∃ y, DataW.trod enc P w 0 spare held n e ((vs.drop (i * sz)).take sz) = some y := by
  rcases DataW.trod_slice ht h with ⟨h1, _⟩ | ⟨a, len', cap', elems, rest, n, _, h1, _, _, _, _, hel, hcells, _, _⟩
  · simp at h1
  · simp only [List.cons.injEq, Value.slice.injEq, Option.some.injEq, and_true] at h1
    obtain ⟨rfl, rfl, rfl⟩ := h1
    rw [cellsOf_szOf hsz] at hcells
    have each : ∀ i, i < len → ∃ cs y, w.cells? 0 ((⟨b, off, none⟩ : Addr).add (i * sz)) sz = some cs ∧ DataW.trod enc P w 0 spare held n e cs = some y := fun i hi => by
      have := hcells i hi
      rw [List.getElem?_eq_getElem (by omega)] at this
      obtain ⟨cs, h1, h2⟩ := Option.bind_eq_some_iff.1 this
      exact ⟨cs, _, h1, h2⟩
    by_cases h0 : len * sz = 0
    · refine ⟨[], n, by simp [h0], .inl h0, fun i hi => ?_⟩
      obtain ⟨cs, y, h1, h2⟩ := each i hi
      have hsz0 : sz = 0 := by
        rcases Nat.eq_zero_or_pos sz with h | h
        · exact h
        · have := Nat.mul_pos (show 0 < len by omega) h; omega
      subst hsz0
      unfold World.cells? at h1
      rw [if_pos (Nat.zero_le _)] at h1
      simp at h1
      subst h1
      exact ⟨y, by simpa using h2⟩
    · have hp : 0 < sz := Nat.pos_of_ne_zero fun h => h0 (by rw [h, Nat.mul_zero])
      have cell : ∀ i, i < len * sz → ∃ v, w.cell? ⟨b, off + i, none⟩ = some v := fun i hi => by
        have hq : i / sz < len := (Nat.div_lt_iff_lt_mul hp).2 hi
        obtain ⟨cs, y, hcs, _⟩ := each _ hq
        unfold World.cells? at hcs
        rw [if_pos (Nat.zero_le _)] at hcs
        obtain ⟨v, hv⟩ := mapM_each hcs (i % sz) (by simpa using Nat.mod_lt _ hp)
        rw [addr_add, addr_add] at hv
        have : off + i / sz * sz + i % sz = off + i := by rw [Nat.add_assoc, Nat.mul_comm, Nat.div_add_mod]
        rw [this] at hv
        exact ⟨v, hv⟩
      obtain ⟨v0, hv0⟩ := cell 0 (by omega)
      unfold World.cell? at hv0
      cases hb : w.heap[b]? with
      | none => simp [hb] at hv0
      | some o =>
        cases o with
        | cells c e' fz =>
          have cell' : ∀ i, i < len * sz → ∃ v, c[off + i]? = some v := fun i hi => by
            obtain ⟨v, hv⟩ := cell i hi
            simp only [World.cell?, hb] at hv
            exact ⟨v, by simpa using hv⟩
          obtain ⟨vs, hvs⟩ : ∃ vs : List Value, vs = (List.range (len * sz)).map fun i => (c[off + i]?).getD undef := ⟨_, rfl⟩
          have hvl : vs.length = len * sz := by simp [hvs]
          have hvg : ∀ i, i < vs.length → c[off + i]? = some (vs.getD i undef) := fun i hi => by
            rw [hvl] at hi
            obtain ⟨v, hv⟩ := cell' i hi
            simp [hvs, hi, hv, List.getD_eq_getElem?_getD]
          refine ⟨vs, n, hvl, .inr ⟨c, e', fz, rfl, hvg⟩, fun i hi => ?_⟩
          obtain ⟨cs, y, hcs, hy⟩ := each i hi
          have hcs' : (vs.drop (i * sz)).take sz = cs := by
            unfold World.cells? at hcs
            rw [if_pos (Nat.zero_le _)] at hcs
            have hin : i * sz + sz ≤ len * sz := by rw [← Nat.succ_mul]; exact Nat.mul_le_mul_right _ hi
            have hr := mapM_range_of (f := fun j => w.cell? (((⟨b, off, none⟩ : Addr).add (i * sz)).add j)) (g := fun j => vs.getD (i * sz + j) undef) sz (fun j hj => by
              have h3 := hvg (i * sz + j) (by rw [hvl]; omega)
              rw [addr_add, addr_add, Nat.add_assoc]
              simp [World.cell?, hb, h3])
            rw [hr] at hcs
            cases hcs
            apply List.ext_getElem?
            intro j
            by_cases hj : j < sz
            · rw [List.getElem?_take, if_pos hj, List.getElem?_drop, List.getElem?_map, List.getElem?_range hj, List.getElem?_eq_getElem (by rw [hvl]; omega)]
              simp only [Option.map_some, List.getD_eq_getElem?_getD]
              rw [List.getElem?_eq_getElem (by rw [hvl]; omega)]
              rfl
            · rw [List.getElem?_eq_none (by simp; omega), List.getElem?_eq_none (by simp; omega)]
          rw [hcs']
          exact ⟨y, hy⟩
        | _ => simp [hb] at hv0

end
end Go.Ax

/- Slices that may be read; lists of numbers and of bytes. -/
namespace Go.Ax
def RdAt (H : AHeap) (sz : Nat) (v : Value) (vs : List Value) (cnt : Nat) : Prop :=
  vs.length = cnt * sz ∧ ((cnt = 0 ∧ ∃ a c, v = .slice a 0 c) ∨ (0 < cnt ∧ ∃ n off s c e o M, v = .slice (some ⟨n, off, s⟩) cnt c ∧ rk H n = some ⟨e, o, M⟩ ∧ n < H.next ∧ off + cnt * sz ≤ M.length ∧ (M.drop off).take (cnt * sz) = vs))
section
variable {P : Program} {H G : AHeap} {sz cnt : Nat} {v : Value} {vs : List Value}
theorem RdAt.sl (h : RdAt H sz v vs cnt) : ∃ a c, v = .slice a cnt c := by
  obtain ⟨_, ⟨rfl, a, c, rfl⟩ | ⟨_, n, off, s, c, e, o, M, rfl, _⟩⟩ := h
  · exact ⟨_, _, rfl⟩
  · exact ⟨_, _, rfl⟩
theorem RdAt.nil {a : Option Addr} {c : Nat} : RdAt H sz (.slice a 0 c) [] 0 := ⟨by simp, .inl ⟨rfl, _, _, rfl⟩⟩
def rdF (v : Value) (cnt : Nat) : List Nat := if cnt = 0 then [] else idsV v
theorem RdAt.of (h : RdAt H sz v vs cnt) (hn : H.next ≤ G.next) (hg : ∀ n ∈ rdF v cnt, G.get n = H.get n) : RdAt G sz v vs cnt := by
  obtain ⟨h1, h | ⟨h0, n, off, s, c, e, o, M, rfl, h2, h3, h4⟩⟩ := h
  · exact ⟨h1, .inl h⟩
  · exact ⟨h1, .inr ⟨h0, n, off, s, c, e, o, M, rfl, (rk_get (hg n (by rw [rdF, if_neg (by omega)]; simp [idsV]))).trans h2, by omega, h4⟩⟩
theorem RdAt.ne (h : RdAt H sz v vs cnt) : ∀ n ∈ rdF v cnt, H.get n ≠ none ∧ n < H.next := by
  obtain ⟨h1, ⟨rfl, a, c, rfl⟩ | ⟨h0, n, off, s, c, e, o, M, rfl, h2, h3, h4⟩⟩ := h
  · intro n hn; simp [rdF] at hn
  · intro m hm
    rw [rdF, if_neg (by omega)] at hm
    simp only [idsV, List.mem_singleton] at hm
    subst hm
    exact ⟨rk_ne h2, h3⟩
theorem RdAt.mod0 (h : RdAt H sz v vs cnt) (m : Mod [] H G) : RdAt G sz v vs cnt := h.of m.next fun n hn => m.get n (h.ne n hn).2 (by simp)
theorem RdAt.ext {L : List Bl} (h : RdAt H sz v vs cnt) : RdAt (Go.Ax.ext H L) sz v vs cnt := h.of (by rw [ext_next]; omega) fun n hn => ext_get_old (h.ne n hn).2
theorem VsAt.rd {e : TypeId} (h : VsAt H e sz v vs cnt) : RdAt H sz v vs cnt := by
  obtain ⟨h1, h2, ⟨rfl, rfl⟩ | ⟨h0, n, rfl, hb, hlt⟩⟩ := h
  · exact ⟨h1, .inl ⟨rfl, _, _, rfl⟩⟩
  · exact ⟨h1, .inr ⟨h0, n, 0, none, cnt, e, true, vs, rfl, rk_of hb, hlt, by omega, by rw [List.drop_zero, List.take_of_length_le (by omega)]⟩⟩
theorem SlAt.rd (h : SlAt H sz v vs cnt) : RdAt H sz v vs cnt := by
  obtain ⟨h1, a, c, rfl, h0 | ⟨n, e, rfl, hn, hb, hc⟩⟩ := h
  · subst h0; exact ⟨h1, .inl ⟨rfl, _, _, rfl⟩⟩
  · by_cases h0 : cnt = 0
    · subst h0; exact ⟨h1, .inl ⟨rfl, _, _, rfl⟩⟩
    · exact ⟨h1, .inr ⟨by omega, n, 0, some 0, c, e, true, vs, rfl, hb, hn, by omega, by rw [List.drop_zero, List.take_of_length_le (by omega)]⟩⟩
theorem RdAt.at_ (h : RdAt H sz v vs cnt) {i : Nat} (hi : i < cnt) : ∃ n off s c e o M, v = .slice (some ⟨n, off, s⟩) cnt c ∧ n < H.next ∧ rk H n = some ⟨e, o, M⟩ ∧ off + i * sz + sz ≤ M.length ∧ (M.drop (off + i * sz)).take sz = (vs.drop (i * sz)).take sz := by
  obtain ⟨h1, ⟨rfl, _⟩ | ⟨h0, n, off, s, c, e, o, M, rfl, h2, h3, h4, h5⟩⟩ := h
  · omega
  have hm : i * sz + sz ≤ cnt * sz := by rw [← Nat.succ_mul]; exact Nat.mul_le_mul_right _ hi
  refine ⟨n, off, s, c, e, o, M, rfl, h3, h2, by omega, ?_⟩
  rw [← h5, List.drop_take, List.drop_drop, List.take_take, Nat.min_eq_left (by omega)]
theorem RdAt.one (h : RdAt H 1 v vs cnt) {i : Nat} (hi : i < cnt) : ∃ n off s c e o M, v = .slice (some ⟨n, off, s⟩) cnt c ∧ n < H.next ∧ rk H n = some ⟨e, o, M⟩ ∧ M[off + i]? = vs[i]? := by
  obtain ⟨n, off, s, c, e, o, M, h1, h2, h3, h4, h5⟩ := h.at_ hi
  refine ⟨n, off, s, c, e, o, M, h1, h2, h3, ?_⟩
  rw [Nat.mul_one] at h5
  have := congrArg (fun l => l[0]?) h5
  simpa using this
theorem RdAt.all (h : RdAt H 1 v vs cnt) (h0 : 0 < cnt) : ∃ n off s c e o M, v = .slice (some ⟨n, off, s⟩) cnt c ∧ n < H.next ∧ rk H n = some ⟨e, o, M⟩ ∧ ∀ i, i < cnt → M[off + i]? = vs[i]? := by
  obtain ⟨h1, ⟨rfl, _⟩ | ⟨_, n, off, s, c, e, o, M, rfl, h2, h3, h4, h5⟩⟩ := h
  · omega
  refine ⟨n, off, s, c, e, o, M, rfl, h3, h2, fun i hi => ?_⟩
  rw [← h5, Nat.mul_one, List.getElem?_take, if_pos hi, List.getElem?_drop]
theorem ia_of {t e : TypeId} {k : IntKind} {i n off len cap : Nat} {s : Option Nat} (hu : P.underlying t = some (.slice e)) (hs : szOf P e = some sz) (hi : i < len) :
    aIndexAddr P t (.slice (some ⟨n, off, s⟩) len cap) (.int k (i : Int)) = some (.pointer (some ⟨n, off + i * sz, none⟩)) := by
  simp only [aIndexAddr, hu, hs, Option.bind_eq_bind, Option.bind_some, Int.toNat_natCast]
  rw [if_pos ⟨by omega, by omega⟩]
theorem w_cat {ro : Option Nat} {N : Nat} {E : Env} {ds : List Deferred} {ops : Array Oper} {rest : List Oper} {d : Nat} {ty : TypeId} {pos : String} {after : Array Edge} {Q : Exit → AAct → AHeap → Prop} {t u : TypeId} {x y : Operand} {a b : ByteArray} (hu : P.underlying t = some .string) (hx : opOk P N x = true) (hy : opOk P N y = true) (hp : opv E x = .string a) (hq : opv E y = .string b) (hd : d < N) (hs : a.size + b.size ≤ 1000000000)
    (h : wpOps P ro ops rest (mkA N (upd E d (.string (a ++ b))) ds) H Q) : wpOps P ro ops (⟨some d, .binOp .add t x y u, ty, pos, after, none⟩ :: rest) (mkA N E ds) H Q := by
  have h0 : aBin P H .add t (.string a) (.string b) = none := by
    have : aEq P H (99 + 1) t (.string a) (.string b) = none := by
      unfold aEq
      rw [hu]
    show (aEq P H (99 + 1) t (.string a) (.string b)).bind _ = none
    rw [this]
    rfl
  have := w_plain (ro := ro) (H := H) (ds := ds) (ops := ops) (rest := rest) (ty := ty) (pos := pos) (after := after) (Q := Q) (u := u) hx hy hp hq hd h0 rfl rfl (v := .string (a ++ b)) (by
    have hs2 : ¬ ((9223372036854775807 : Int) < (a.size : Int) + (b.size : Int)) := by omega
    simp [eqGuard, binOp, Op.stringOp, pure, bind, Sem.bind, hs2]
    rfl) rfl
  rw [this]
  exact h
theorem aop_plain {N : Nat} {E : Env} {ds : List Deferred} {op : BinOp} {t u : TypeId} {x y : Operand} {p q v : Value} (hx : opOk P N x = true) (hy : opOk P N y = true) (hp : opv E x = p) (hq : opv E y = q) (G : AHeap) (h0 : aBin P G op t p q = none) (h1 : af p = true) (h2 : af q = true) (h : peval P (do eqGuard op t x y p q; binOp op t p q) = some v) (h3 : af v = true) :
    aop (.binOp op t x y u) P (mkA N E ds) G = some (.value v, G) := by
  simp only [aop, xBin, aeval_opv hx, aeval_opv hy, hp, hq, Option.bind_eq_bind, Option.bind_some, binV, h0, h1, h2, aPlain, h, h3, Bool.and_self, if_true, Option.map_some]
theorem wd_or {N : Nat} {E : Env} {ds : List Deferred} {ops : Array Oper} {anc : List Nat} {rest : List Oper} {d i : Nat} {fps : List Fp} {ty : TypeId} {pos : String} {after : Array Edge} {Q : AAct → AHeap → Prop} {t u : TypeId} {x y : Operand} {k : IntKind} {a b : Int} (hx : opOk P N x = true) (hy : opOk P N y = true) (hp : opv E x = .int k a) (hq : opv E y = .int k b) (hd : d < N)
    (h : wkD P ops anc rest (i + 1) (⟨i, [], [], H.next, H.next⟩ :: fps) (mkA N (upd E d (.int k (bOr k a b))) ds) H Q) : wkD P ops anc (⟨some d, .binOp .or t x y u, ty, pos, after, none⟩ :: rest) i fps (mkA N E ds) H Q := by
  refine wd_same ?_ (fun G => ?_) rfl hd h
  · funext K
    simp only [stepD, pureOp, aeval_opv hx, aeval_opv hy, hp, hq, binD, regBin, intBin, ite_self]
  · exact aop_plain hx hy hp hq G (by simp only [aBin, if_true]; rfl) rfl rfl (by simp [eqGuard, binOp, peval, Op.intBits, bOr, pure, bind, Sem.bind]) rfl
theorem wd_shl {N : Nat} {E : Env} {ds : List Deferred} {ops : Array Oper} {anc : List Nat} {rest : List Oper} {d i : Nat} {fps : List Fp} {ty : TypeId} {pos : String} {after : Array Edge} {Q : AAct → AHeap → Prop} {t u : TypeId} {x y : Operand} {k k' : IntKind} {a b : Int} (hx : opOk P N x = true) (hy : opOk P N y = true) (hp : opv E x = .int k a) (hq : opv E y = .int k' b) (hb : 0 ≤ b) (hd : d < N)
    (h : wkD P ops anc rest (i + 1) (⟨i, [], [], H.next, H.next⟩ :: fps) (mkA N (upd E d (.int k (bShl k a b.toNat))) ds) H Q) : wkD P ops anc (⟨some d, .binOp .shl t x y u, ty, pos, after, none⟩ :: rest) i fps (mkA N E ds) H Q := by
  refine wd_same ?_ (fun G => ?_) rfl hd h
  · funext K
    simp only [stepD, pureOp, aeval_opv hx, aeval_opv hy, hp, hq, binD, regBin, intBin, ite_self]
  · exact aop_plain hx hy hp hq G (bin_nobit (by simp) (bit_shl hb)) rfl rfl (by simp [eqGuard, binOp, peval, Op.shift, bShl, pure, bind, Sem.bind, show ¬ b < 0 by omega]) rfl
theorem wd_appV {N : Nat} {E : Env} {ds : List Deferred} {ops : Array Oper} {anc : List Nat} {rest : List Oper} {d i : Nat} {fps : List Fp} {ty : TypeId} {pos : String} {after : Array Edge} {Q : AAct → AHeap → Prop} {args : List Operand} {st xt e : TypeId} {by1 n off cnt2 cap : Nat} {s : Option Nat} {z : Value} {b : Bl} {ws : List Value}
    (hu : P.underlying st = some (.slice e)) (hsz : szOf P e = some sz) (hby : bytesOf P e = some by1) (hz : zeroOf P e = some z) (hzl : z.cells.toList.length = sz) (hi : intTy P xt = some false)
    (ha : args.all (opOk P N) = true) (hargs : args.map (opv E) = [v, .slice (some ⟨n, off, s⟩) cnt2 cap]) (hd : d < N)
    (h : VsAt H e sz v vs cnt) (hb : rk H n = some b) (hn : n < H.next) (hle : off + cnt2 * sz ≤ b.l.length) (hws : (b.l.drop off).take (cnt2 * sz) = ws) (hone : ws.all one = true) (hc : 0 < cnt2) (hsm : small (cnt + cnt2) by1 = true) (hsc : scbL H.next (vs ++ ws) = true) (hok : H.base ≤ H.next)
    (hm : ∀ r ∈ fps, (anc.getD i 0).testBit r.i = true ∨ (r.hi ≤ r.lo ∧ (∀ k ∈ r.W, k ∉ n :: idsV v) ∧ (∀ k ∈ r.F, k ∉ idsV v)))
    (hk : ∀ Z D, VsAt Z e sz (.slice (some ⟨H.next, 0, none⟩) (cnt + cnt2) (cnt + cnt2)) (vs ++ ws) (cnt + cnt2) → Mod (idsV v) H Z → (∀ k ∈ D, k ∈ idsV v) → Z.next = H.next + 1 →
      wkD P ops anc rest (i + 1) (⟨i, n :: idsV v, D, H.next, H.next + 1⟩ :: fps) (mkA N (upd E d (.slice (some ⟨H.next, 0, none⟩) (cnt + cnt2) (cnt + cnt2))) ds) Z Q) :
    wkD P ops anc (⟨some d, .call ⟨.builtin .append, ⟨args⟩, ⟨[st, xt]⟩⟩, ty, pos, after, none⟩ :: rest) i fps (mkA N E ds) H Q := by
  rw [wd_app ha]
  have hF : ∀ k ∈ n :: idsV v, H.get k ≠ none ∧ k < H.next := fun k hk => by
    rcases List.mem_cons.1 hk with rfl | hk
    · exact ⟨rk_ne hb, hn⟩
    · exact h.ne k hk
  have hrn := restrict_next H (n :: idsV v)
  have hv := h.of (G := H.restrict (n :: idsV v)) (Nat.le_of_eq hrn.1.symm) (fun k hk => by rw [restrict_get, if_pos (by simp [hk])])
  obtain ⟨G, k1, k2, k3, k4, k5⟩ := vs_app (x := H.next) (cap := cap) hu hsz hby hz hzl hi hv (show rk (H.restrict (n :: idsV v)) n = some b from (rk_get (by rw [restrict_get, if_pos (by simp)])).trans hb) hle hws hone hc hsm hrn.1 (by rw [hrn.1]; exact hsc)
  refine genV_modO (H := H) (W := idsV v) (n :: idsV v) hok (fun k hk => (hF k hk).1) (fun k hk => (hF k hk).2) (fun k hk => by simp [hk]) (app_op (v := _) (G := G) ha (by rw [hargs]; exact k1)) (k3 (by rw [hrn.1, hrn.2.1]; exact Nat.le_refl _)) hm fun Z D mZ hFZ hNZ hnZ hDZ => ?_
  rw [k4] at hnZ hNZ
  rw [k4]
  have := hk Z D ?_ mZ hDZ hnZ
  · simp only [put_some N E ds d _ hd]
    exact this
  · obtain ⟨j1, j2, ⟨j0, _⟩ | ⟨j0, q, j3, j4, j5⟩⟩ := k2
    · omega
    · cases j3
      exact ⟨j1, j2, .inr ⟨j0, H.next, rfl, (bk_get (hNZ _ (Nat.le_refl _) (by omega))).trans j4, by omega⟩⟩
theorem or_bytes (a b : Nat) (ha : a < 256) (hb : b < 256) : bOr .i64 (a : Int) (bShl .i64 (b : Int) 8) = ((a + 256 * b : Nat) : Int) := by
  have h1 : bShl .i64 (b : Int) 8 = ((256 * b : Nat) : Int) := by
    simp only [bShl, IntKind.wrap, IntKind.signed, IntKind.bits]
    simp
    omega
  rw [h1]
  have h2 : ∀ n : Nat, n < 2 ^ 63 → BitVec.ofInt 64 (n : Int) = BitVec.ofNat 64 n := fun n _ => by simp
  have h3 : (BitVec.ofNat 64 a ||| BitVec.ofNat 64 (256 * b)).toNat = a + 256 * b := by
    rw [BitVec.toNat_or, BitVec.toNat_ofNat, BitVec.toNat_ofNat, Nat.mod_eq_of_lt (by omega), Nat.mod_eq_of_lt (by omega)]
    have := Nat.shiftLeft_add_eq_or_of_lt (a := b) (b := a) (i := 8) ha
    rw [Nat.shiftLeft_eq] at this
    rw [Nat.or_comm, show 256 * b = b * 2 ^ 8 by omega, ← this]
    omega
  have h4 : bOr .i64 (a : Int) ((256 * b : Nat) : Int) = IntKind.i64.wrap ((BitVec.ofInt 64 (a : Int) ||| BitVec.ofInt 64 ((256 * b : Nat) : Int)).toNat : Int) := rfl
  rw [h4, h2 a (by omega), h2 (256 * b) (by omega), h3]
  simp only [IntKind.wrap, IntKind.signed, IntKind.bits]
  simp
  omega
end
end Go.Ax
namespace Go.Proofs.YtnigelgcjfhghaaGreatDoor
open Go.Ax
abbrev Pure (f : FuncId) (args : List Value) (H : AHeap) (v : Value) : Prop := CallS Tryz.prog f args H (.ok v) H
abbrev w64 (n : Int) : Int := IntKind.i64.wrap n
theorem wrap_sm {n : Int} (h1 : -4000000000000 < n) (h2 : n < 4000000000000) : w64 n = n := by
  simp only [w64, IntKind.wrap, IntKind.signed, IntKind.bits]
  simp
  omega
theorem wrap_nat {n : Nat} (h : n < 4000000000000) : IntKind.i64.wrap (n : Int) = (n : Int) := wrap_sm (by omega) (by omega)
theorem wrap_succ {k : Nat} (h : k < 1000000000) : IntKind.i64.wrap ((k : Int) + 1) = ((k + 1 : Nat) : Int) := by
  have := wrap_sm (n := (k : Int) + 1) (by omega) (by omega)
  rw [show IntKind.i64.wrap ((k : Int) + 1) = _ from this]; omega
def iv (l : List Int) : List Value := l.map (.int .i64)
def bv (l : List UInt8) : List Value := l.map fun b => .int .u8 (b.toNat : Int)
theorem iv_get {l : List Int} {i : Nat} : (iv l)[i]? = l[i]?.map (.int .i64) := by simp [iv]
theorem bv_get {l : List UInt8} {i : Nat} : (bv l)[i]? = l[i]?.map fun b => .int .u8 (b.toNat : Int) := by simp [bv]
theorem u35 : Tryz.prog.underlying 35 = some (.slice 3) := by kernel_rfl
theorem u23 : Tryz.prog.underlying 23 = some (.slice 5) := by kernel_rfl
theorem u42 : Tryz.prog.underlying 42 = some (.slice 59) := by kernel_rfl
theorem u9 : Tryz.prog.underlying 9 = some .string := by kernel_rfl
theorem s3 : szOf Tryz.prog 3 = some 1 := by kernel_rfl
theorem s5 : szOf Tryz.prog 5 = some 1 := by kernel_rfl
theorem s59 : szOf Tryz.prog 59 = some 3 := by kernel_rfl
end Go.Proofs.YtnigelgcjfhghaaGreatDoor

/- The kinds of an instruction's operands. -/
namespace Go.Proofs.YtnigelgcjfhghaaGreatDoor
open Go.Ax
set_option linter.unusedSimpArgs false
set_option maxRecDepth 100000

theorem fixed1_c (H : AHeap) (av : Value) (n : Nat) (s : ByteArray) (hn : bk H n = some ⟨9, false, [.string s]⟩) (hl : n < H.next) : Pure 110 [av, .pointer (some ⟨n, 0, none⟩)] H (.string s) := by
  obtain ⟨b, hb⟩ : ∃ b, H.next = b := ⟨_, rfl⟩
  rw [hb] at hl
  refine callS_fn mixed Tryz.func110 rfl Tryz.ntmps110 (Nat.le_of_ble_eq_true rfl) fun wf hsc => ?_
  simp (maxDischargeDepth := 6) only [hb, hn, hl, Tryz.results110, ruW, putL, Nat.reduceLeDiff, xF, ruU, entryE, Nat.reduceLT, Nat.reduceAdd, Nat.reduceMul, Nat.reduceEqDiff]
  exact Fin.pureE rfl rfl

theorem fin_str {P : Program} {f : FuncId} {args : List Value} {H : AHeap} {L : List Bl} {s : ByteArray} {v1 : Value} (h : v1 = .string s) : Fin P f args H (.string s) H (.ok v1) (ext H L) := Fin.pureE h rfl
abbrev repB (l : List UInt8) (n : Nat) : List UInt8 := Go.Lib.repeatL l n
theorem rep_len (l : List UInt8) (n : Nat) : (repB l n).length = n * l.length := Go.Lib.repeatL_length l n
theorem rep_small (a : ByteArray) (l : List UInt8) (n : Nat) (hn : n ≤ 1000000) (hl : l.length ≤ 2) (ha : a.size ≤ 2) : a.size + (⟨(repB l n).toArray⟩ : ByteArray).size ≤ 1000000000 := by
  have h1 : (⟨(repB l n).toArray⟩ : ByteArray).size = (repB l n).length := rfl
  have h2 : n * l.length ≤ n * 2 := Nat.mul_le_mul_left n hl
  rw [h1, rep_len]
  omega
def guardR (args : List Int) : List UInt8 := if args = [] then [110] else [110] ++ repB [107, 116] (args.getD 0 0).toNat
def envR (args : List Int) : List UInt8 := if args.length < 2 then [107, 110] else [107, 110] ++ repB [105] (args.getD 1 0).toNat

set_option maxHeartbeats 1000000 in
theorem guards_c (H : AHeap) (av : Value) (args : List Int) (ha : RdAt H 1 av (iv args) args.length) (hs : args.getD 0 0 ≤ 1000000) : Pure 84 [av] H (.string ⟨(guardR args).toArray⟩) := by
  obtain ⟨b, hb⟩ : ∃ b, H.next = b := ⟨_, rfl⟩
  obtain ⟨a0, c0, e0⟩ := ha.sl
  refine callS_fn mixed Tryz.func84 rfl Tryz.ntmps84 (Nat.le_of_ble_eq_true rfl) fun wf hsc => ?_
  by_cases h0 : args = []
  · rw [e0]
    have hd : decide ((args.length : Int) = 0) = true := by rw [h0]; rfl
    simp (maxDischargeDepth := 6) only [hb, hd, Tryz.results84, ruW, putL, Nat.reduceLeDiff, xF, ruU, entryE, Nat.reduceLT, Nat.reduceAdd, Nat.reduceMul, Nat.reduceEqDiff]
    refine fin_str ?_
    rw [guardR, if_pos h0]
  · have hp := List.length_pos_iff.2 h0
    have hd : decide ((args.length : Int) = 0) = false := decide_eq_false (by omega)
    obtain ⟨n, off, s, c, e, o, M, e1, n1, r1, m1⟩ := ha.one hp
    rw [iv_get, List.getElem?_eq_getElem hp, Option.map_some] at m1
    have hg : args.getD 0 0 = args[0] := by rw [List.getD_eq_getElem?_getD, List.getElem?_eq_getElem hp]; rfl
    have i0 : aIndexAddr Tryz.prog 35 (.slice (some ⟨n, off, s⟩) args.length c) (.int .i64 0) = some (.pointer (some ⟨n, off + 0, none⟩)) := ia_of (i := 0) u35 s3 hp
    have hmx : max (0 : Int) args[0] = ((args.getD 0 0).toNat : Int) := by rw [hg]; omega
    rw [e1]
    rw [hb] at n1
    simp (maxDischargeDepth := 6) only [hb, hd, i0, r1, n1, m1, hmx, qk_old, ruW, putL, Nat.reduceLeDiff, xF, ruU, entryE, Nat.reduceLT, Nat.reduceAdd, Nat.reduceMul, Nat.reduceEqDiff]
    refine (repeat_s (ext H []) ⟨#[107, 116]⟩ (args.getD 0 0).toNat (by show 2 * _ ≤ _; omega) (by omega)).to ?_
    simp (maxDischargeDepth := 6) only [ruW, putL, Nat.reduceLeDiff, xF, ruU, entryE, Nat.reduceLT, Nat.reduceAdd, Nat.reduceMul, Nat.reduceEqDiff]
    refine w_cat (a := ⟨#[110]⟩) (b := ⟨(repB [107, 116] (args.getD 0 0).toNat).toArray⟩) u9 rfl rfl (by simp only [ruU, entryE, Nat.reduceLT, Nat.reduceAdd, Nat.reduceMul, Nat.reduceEqDiff]) (by simp only [ruU, entryE, Nat.reduceLT, Nat.reduceAdd, Nat.reduceMul, Nat.reduceEqDiff]) (by decide) (rep_small _ _ _ (by omega) (by decide) (by decide)) ?_
    simp (maxDischargeDepth := 6) only [Tryz.results84, ruW, putL, Nat.reduceLeDiff, xF, ruU, entryE, Nat.reduceLT, Nat.reduceAdd, Nat.reduceMul, Nat.reduceEqDiff]
    refine fin_str ?_
    rw [guardR, if_neg h0]
    rfl

set_option maxHeartbeats 1000000 in
theorem envs_c (H : AHeap) (av : Value) (args : List Int) (ha : RdAt H 1 av (iv args) args.length) (hs : args.getD 1 0 ≤ 1000000) : Pure 85 [av] H (.string ⟨(envR args).toArray⟩) := by
  obtain ⟨b, hb⟩ : ∃ b, H.next = b := ⟨_, rfl⟩
  obtain ⟨a0, c0, e0⟩ := ha.sl
  refine callS_fn mixed Tryz.func85 rfl Tryz.ntmps85 (Nat.le_of_ble_eq_true rfl) fun wf hsc => ?_
  by_cases h0 : args.length < 2
  · rw [e0]
    have hd : decide ((args.length : Int) < 2) = true := decide_eq_true (by omega)
    simp (maxDischargeDepth := 6) only [hb, hd, Tryz.results85, ruW, putL, Nat.reduceLeDiff, xF, ruU, entryE, Nat.reduceLT, Nat.reduceAdd, Nat.reduceMul, Nat.reduceEqDiff]
    refine fin_str ?_
    rw [envR, if_pos h0]
  · have hp : 1 < args.length := by omega
    have hd : decide ((args.length : Int) < 2) = false := decide_eq_false (by omega)
    obtain ⟨n, off, s, c, e, o, M, e1, n1, r1, m1⟩ := ha.one hp
    rw [iv_get, List.getElem?_eq_getElem hp, Option.map_some] at m1
    have hg : args.getD 1 0 = args[1] := by rw [List.getD_eq_getElem?_getD, List.getElem?_eq_getElem hp]; rfl
    have i0 : aIndexAddr Tryz.prog 35 (.slice (some ⟨n, off, s⟩) args.length c) (.int .i64 1) = some (.pointer (some ⟨n, off + 1, none⟩)) := ia_of (i := 1) u35 s3 hp
    have hmx : max (0 : Int) args[1] = ((args.getD 1 0).toNat : Int) := by rw [hg]; omega
    rw [e1]
    rw [hb] at n1
    simp (maxDischargeDepth := 6) only [hb, hd, i0, r1, n1, m1, hmx, qk_old, ruW, putL, Nat.reduceLeDiff, xF, ruU, entryE, Nat.reduceLT, Nat.reduceAdd, Nat.reduceMul, Nat.reduceEqDiff]
    refine (repeat_s (ext H []) ⟨#[105]⟩ (args.getD 1 0).toNat (by show 1 * _ ≤ _; omega) (by omega)).to ?_
    simp (maxDischargeDepth := 6) only [ruW, putL, Nat.reduceLeDiff, xF, ruU, entryE, Nat.reduceLT, Nat.reduceAdd, Nat.reduceMul, Nat.reduceEqDiff]
    refine w_cat (a := ⟨#[107, 110]⟩) (b := ⟨(repB [105] (args.getD 1 0).toNat).toArray⟩) u9 rfl rfl (by simp only [ruU, entryE, Nat.reduceLT, Nat.reduceAdd, Nat.reduceMul, Nat.reduceEqDiff]) (by simp only [ruU, entryE, Nat.reduceLT, Nat.reduceAdd, Nat.reduceMul, Nat.reduceEqDiff]) (by decide) (rep_small _ _ _ (by omega) (by decide) (by decide)) ?_
    simp (maxDischargeDepth := 6) only [Tryz.results85, ruW, putL, Nat.reduceLeDiff, xF, ruU, entryE, Nat.reduceLT, Nat.reduceAdd, Nat.reduceMul, Nat.reduceEqDiff]
    refine fin_str ?_
    rw [envR, if_neg h0]
    rfl

def ShAt (H : AHeap) (s : Nat) : Prop := ∀ i b, (shB s)[i]? = some b → bk H (s + i) = some b ∧ s + i < H.next
theorem ShAt.of {H G : AHeap} {s : Nat} (h : ShAt H s) (hn : H.next ≤ G.next) (hg : ∀ n, s ≤ n → n < s + 27 → G.get n = H.get n) : ShAt G s := fun i b hb => by
  obtain ⟨h1, h2⟩ := h i b hb
  have hi : i < 27 := by have := (List.getElem?_eq_some_iff.1 hb).1; simpa [shB] using this
  exact ⟨(bk_get (hg _ (by omega) (by omega))).trans h1, by omega⟩
theorem ShAt.new {H : AHeap} {L : List Bl} : ShAt (ext (ext H (shB H.next)) L) H.next := fun i b hb => by
  have hi : i < 27 := by have := (List.getElem?_eq_some_iff.1 hb).1; simpa [shB] using this
  have h1 : (ext H (shB H.next)).next = H.next + 27 := by rw [ext_next]; rfl
  refine ⟨?_, by rw [ext_next, h1]; omega⟩
  rw [bk_old (by rw [h1]; omega), bk_at rfl (by simpa [shB] using hi)]
  exact hb

def kindsR (op : Nat) (args : List Int) : List UInt8 :=
  match opsL[op]? with
  | some (_, some k) => k.data.toList
  | some (_, none) => if op = 17 then guardR args else envR args
  | none => []
def cntR (op : Nat) (args : List Int) : Int := if op = 17 then args.getD 0 0 else if op = 24 then args.getD 1 0 else 0

theorem kinds_c (s : Nat) (op : Nat) (hop : op < 28) : ∃ (f : FuncId) (ca : List Value) (F : List Nat), (shV s)[2 * op + 1]? = some (.func (.func f) ⟨[]⟩ ⟨ca⟩) ∧ hasBody Tryz.prog f = true ∧ (∀ n ∈ F, s ≤ n ∧ n < s + 27) ∧
    ∀ (H : AHeap) (av : Value) (args : List Int), (∀ i b, (shB s)[i]? = some b → s + i ∈ F → bk H (s + i) = some b ∧ s + i < H.next) → RdAt H 1 av (iv args) args.length → cntR op args ≤ 1000000 → Pure f (av :: ca) H (.string ⟨(kindsR op args).toArray⟩) := by
  have fx : ∀ (op j : Nat) (k : ByteArray) (nm : ByteArray), opsL[op]? = some (nm, some k) → (shV s)[2 * op + 1]? = some (fxV (s + j)) → (shB s)[j]? = some ⟨9, false, [.string k]⟩ → j < 27 → ∃ (f : FuncId) (ca : List Value) (F : List Nat), (shV s)[2 * op + 1]? = some (.func (.func f) ⟨[]⟩ ⟨ca⟩) ∧ hasBody Tryz.prog f = true ∧ (∀ n ∈ F, s ≤ n ∧ n < s + 27) ∧
      ∀ (H : AHeap) (av : Value) (args : List Int), (∀ i b, (shB s)[i]? = some b → s + i ∈ F → bk H (s + i) = some b ∧ s + i < H.next) → RdAt H 1 av (iv args) args.length → cntR op args ≤ 1000000 → Pure f (av :: ca) H (.string ⟨(kindsR op args).toArray⟩) := by
    intro op j k nm h1 h2 h3 h4
    refine ⟨110, _, [s + j], h2, by kernel_rfl, fun n hn => by simp only [List.mem_singleton] at hn; omega, fun H av args hb _ _ => ?_⟩
    obtain ⟨b1, b2⟩ := hb j _ h3 (by simp)
    have := fixed1_c H av (s + j) k b1 b2
    unfold kindsR
    rw [h1]
    exact this
  match op, hop with
  | 0, _ => exact fx 0 1 _ _ rfl rfl rfl (by decide)
  | 1, _ => exact fx 1 2 _ _ rfl rfl rfl (by decide)
  | 2, _ => exact fx 2 3 _ _ rfl rfl rfl (by decide)
  | 3, _ => exact fx 3 4 _ _ rfl rfl rfl (by decide)
  | 4, _ => exact fx 4 5 _ _ rfl rfl rfl (by decide)
  | 5, _ => exact fx 5 6 _ _ rfl rfl rfl (by decide)
  | 6, _ => exact fx 6 7 _ _ rfl rfl rfl (by decide)
  | 7, _ => exact fx 7 8 _ _ rfl rfl rfl (by decide)
  | 8, _ => exact fx 8 9 _ _ rfl rfl rfl (by decide)
  | 9, _ => exact fx 9 10 _ _ rfl rfl rfl (by decide)
  | 10, _ => exact fx 10 11 _ _ rfl rfl rfl (by decide)
  | 11, _ => exact fx 11 12 _ _ rfl rfl rfl (by decide)
  | 12, _ => exact fx 12 13 _ _ rfl rfl rfl (by decide)
  | 13, _ => exact fx 13 14 _ _ rfl rfl rfl (by decide)
  | 14, _ => exact fx 14 15 _ _ rfl rfl rfl (by decide)
  | 15, _ => exact fx 15 16 _ _ rfl rfl rfl (by decide)
  | 16, _ => exact fx 16 17 _ _ rfl rfl rfl (by decide)
  | 17, _ => exact ⟨84, [], [], rfl, by kernel_rfl, fun n hn => by simp at hn, fun H av args _ h1 h2 => guards_c H av args h1 h2⟩
  | 18, _ => exact fx 18 18 _ _ rfl rfl rfl (by decide)
  | 19, _ => exact fx 19 19 _ _ rfl rfl rfl (by decide)
  | 20, _ => exact fx 20 20 _ _ rfl rfl rfl (by decide)
  | 21, _ => exact fx 21 21 _ _ rfl rfl rfl (by decide)
  | 22, _ => exact fx 22 22 _ _ rfl rfl rfl (by decide)
  | 23, _ => exact fx 23 23 _ _ rfl rfl rfl (by decide)
  | 24, _ => exact ⟨85, [], [], rfl, by kernel_rfl, fun n hn => by simp at hn, fun H av args _ h1 h2 => envs_c H av args h1 h2⟩
  | 25, _ => exact fx 25 24 _ _ rfl rfl rfl (by decide)
  | 26, _ => exact fx 26 25 _ _ rfl rfl rfl (by decide)
  | 27, _ => exact fx 27 26 _ _ rfl rfl rfl (by decide)
  | n + 28, h => omega
end Go.Proofs.YtnigelgcjfhghaaGreatDoor

/- Instructions out of bytes, plainly. -/
namespace Go.Proofs.YtnigelgcjfhghaaGreatDoor
open Go.Ax
set_option maxRecDepth 10000

structure Ins where
  pos : Int
  op : Int
  args : List Int

def readA (op : Nat) : Nat → List Int → List UInt8 → List Int × Option (List UInt8)
  | 0, args, _ => (args, none)
  | f + 1, args, rest =>
    if args.length < (kindsR op args).length then
      match rest with
      | a :: b :: r => readA op f (args ++ [((a.toNat + 256 * b.toNat : Nat) : Int)]) r
      | _ => (args, none)
    else (args, some rest)
theorem readA_fuel (op : Nat) : ∀ (f g : Nat) (args : List Int) (rest : List UInt8), rest.length < f → rest.length < g → readA op f args rest = readA op g args rest
  | 0, _, _, _, h, _ => absurd h (by omega)
  | _, 0, _, _, _, h => absurd h (by omega)
  | f + 1, g + 1, args, rest, h1, h2 => by
    simp only [readA]
    split
    · split
      · exact readA_fuel op f g _ _ (by simp only [List.length_cons] at h1; omega) (by simp only [List.length_cons] at h2; omega)
      · rfl
    · rfl
def rdA (op : Nat) (args : List Int) (rest : List UInt8) : List Int × Option (List UInt8) := readA op (rest.length + 1) args rest
theorem rdA_done {op : Nat} {args : List Int} {rest : List UInt8} (h : ¬ args.length < (kindsR op args).length) : rdA op args rest = (args, some rest) := by
  simp only [rdA, readA, if_neg h]
theorem rdA_end {op : Nat} {args : List Int} {rest : List UInt8} (h : args.length < (kindsR op args).length) (h2 : rest.length < 2) : rdA op args rest = (args, none) := by
  simp only [rdA, readA, if_pos h]
  match rest, h2 with
  | [], _ => rfl
  | [_], _ => rfl
theorem rdA_more {op : Nat} {args : List Int} {a b : UInt8} {r : List UInt8} (h : args.length < (kindsR op args).length) : rdA op args (a :: b :: r) = rdA op (args ++ [((a.toNat + 256 * b.toNat : Nat) : Int)]) r := by
  simp only [rdA]
  rw [readA, if_pos h]
  exact readA_fuel op _ _ _ _ (by simp only [List.length_cons]; omega) (by omega)
theorem rdA_len (op : Nat) : ∀ (n : Nat) (args : List Int) (rest : List UInt8), rest.length ≤ n → args.length ≤ (rdA op args rest).1.length ∧ ∀ r, (rdA op args rest).2 = some r → r = rest.drop (2 * ((rdA op args rest).1.length - args.length)) ∧ 2 * ((rdA op args rest).1.length - args.length) ≤ rest.length := by
  intro n
  induction n with
  | zero =>
    intro args rest h
    by_cases hk : args.length < (kindsR op args).length
    · rw [rdA_end hk (by omega)]
      exact ⟨Nat.le_refl _, fun r hr => by cases hr⟩
    · rw [rdA_done hk]
      exact ⟨Nat.le_refl _, fun r hr => by cases hr; simp⟩
  | succ n ih =>
    intro args rest h
    by_cases hk : args.length < (kindsR op args).length
    · match rest, h with
      | [], _ => rw [rdA_end hk (by simp)]; exact ⟨Nat.le_refl _, fun r hr => by cases hr⟩
      | [_], _ => rw [rdA_end hk (by simp)]; exact ⟨Nat.le_refl _, fun r hr => by cases hr⟩
      | a :: b :: r, h =>
        rw [rdA_more hk]
        obtain ⟨h1, h2⟩ := ih (args ++ [((a.toNat + 256 * b.toNat : Nat) : Int)]) r (by simp only [List.length_cons] at h; omega)
        simp only [List.length_append, List.length_singleton] at h1 h2
        refine ⟨by omega, fun q hq => ?_⟩
        obtain ⟨h3, h4⟩ := h2 q hq
        have e : 2 * ((rdA op (args ++ [((a.toNat + 256 * b.toNat : Nat) : Int)]) r).1.length - args.length) = 2 * ((rdA op (args ++ [((a.toNat + 256 * b.toNat : Nat) : Int)]) r).1.length - (args.length + 1)) + 2 := by omega
        refine ⟨?_, by simp only [List.length_cons]; omega⟩
        rw [e, h3]
        simp
    · rw [rdA_done hk]
      exact ⟨Nat.le_refl _, fun r hr => by cases hr; simp⟩

def decI : Nat → Nat → List UInt8 → List (Ins × Int)
  | 0, _, _ => []
  | _ + 1, _, [] => []
  | f + 1, pos, op :: rest =>
    if 28 ≤ op.toNat then [(⟨pos, op.toNat, []⟩, 5)] else
    match rdA op.toNat [] rest with
    | (args, none) => [(⟨pos, op.toNat, args⟩, 13)]
    | (args, some r) => (⟨pos, op.toNat, args⟩, 0) :: decI f (pos + 1 + 2 * args.length) r
theorem decI_fuel : ∀ (f g pos : Nat) (l : List UInt8), l.length < f → l.length < g → decI f pos l = decI g pos l
  | 0, _, _, _, h, _ => absurd h (by omega)
  | _, 0, _, _, _, h => absurd h (by omega)
  | f + 1, g + 1, pos, [], h1, h2 => rfl
  | f + 1, g + 1, pos, op :: rest, h1, h2 => by
    simp only [decI]
    split
    · rfl
    · split
      · rfl
      · rename_i args r he
        have := (rdA_len op.toNat rest.length [] rest (Nat.le_refl _)).2 r (by rw [he])
        have hr : r.length ≤ rest.length := by rw [this.1, List.length_drop]; omega
        simp only [List.length_cons] at h1 h2
        rw [decI_fuel f g _ r (by omega) (by omega)]
def decA (pos : Nat) (l : List UInt8) : List (Ins × Int) := decI (l.length + 1) pos l
theorem decA_nil (pos : Nat) : decA pos [] = [] := rfl
theorem decA_bad {pos : Nat} {op : UInt8} {rest : List UInt8} (h : 28 ≤ op.toNat) : decA pos (op :: rest) = [(⟨pos, op.toNat, []⟩, 5)] := by simp only [decA, decI, if_pos h]
theorem decA_end {pos : Nat} {op : UInt8} {rest : List UInt8} {args : List Int} (h : ¬ 28 ≤ op.toNat) (h2 : rdA op.toNat [] rest = (args, none)) : decA pos (op :: rest) = [(⟨pos, op.toNat, args⟩, 13)] := by simp only [decA, decI, if_neg h, h2]
theorem decA_ok {pos : Nat} {op : UInt8} {rest r : List UInt8} {args : List Int} (h : ¬ 28 ≤ op.toNat) (h2 : rdA op.toNat [] rest = (args, some r)) : decA pos (op :: rest) = (⟨pos, op.toNat, args⟩, 0) :: decA (pos + 1 + 2 * args.length) r := by
  have := (rdA_len op.toNat rest.length [] rest (Nat.le_refl _)).2 r (by rw [h2])
  have hr : r.length ≤ rest.length := by rw [this.1, List.length_drop]; omega
  simp only [decA]
  rw [decI, if_neg h]
  simp only [h2]
  rw [decI_fuel _ (r.length + 1) _ _ (by simp only [List.length_cons]; omega) (by omega)]
theorem rdA_small (op : Nat) : ∀ (n : Nat) (args : List Int) (rest : List UInt8), rest.length ≤ n → (∀ x ∈ args, 0 ≤ x ∧ x ≤ 65535) → ∀ x ∈ (rdA op args rest).1, 0 ≤ x ∧ x ≤ 65535 := by
  intro n
  induction n with
  | zero =>
    intro args rest h ha
    by_cases hk : args.length < (kindsR op args).length
    · rw [rdA_end hk (by omega)]; exact ha
    · rw [rdA_done hk]; exact ha
  | succ n ih =>
    intro args rest h ha
    by_cases hk : args.length < (kindsR op args).length
    · match rest, h with
      | [], _ => rw [rdA_end hk (by simp)]; exact ha
      | [_], _ => rw [rdA_end hk (by simp)]; exact ha
      | a :: b :: r, h =>
        rw [rdA_more hk]
        refine ih _ r (by simp only [List.length_cons] at h; omega) fun x hx => ?_
        rcases List.mem_append.1 hx with hx | hx
        · exact ha x hx
        · have h1 := a.toNat_lt; have h2 := b.toNat_lt
          simp only [List.mem_singleton] at hx
          omega
    · rw [rdA_done hk]; exact ha
theorem cntR_small {op : Nat} {args : List Int} (h : ∀ x ∈ args, 0 ≤ x ∧ x ≤ 65535) : cntR op args ≤ 65535 := by
  have key : ∀ i, args.getD i 0 ≤ 65535 := fun i => by
    rw [List.getD_eq_getElem?_getD]
    cases hi : args[i]? with
    | none => simp
    | some x => simpa using (h x (List.mem_of_getElem? hi)).2
  unfold cntR
  split
  · exact key 0
  · split
    · exact key 1
    · omega
end Go.Proofs.YtnigelgcjfhghaaGreatDoor

/- Library functions by the kit's contracts; small functions of the laws. -/
namespace Go.Proofs.YtnigelgcjfhghaaGreatDoor
open Go.Ax
set_option linter.unusedSimpArgs false
set_option maxRecDepth 100000

def rhoB : Go.Shelf.Ren := ⟨fun n => if n = 137 then 88 else if n = 217 then 114 else if n = 266 then 142 else 0, fun n => n, fun n => n⟩
theorem laysB : Go.Proofs.Lays.n137 Tryz.prog rhoB := by
  constructor
  all_goals first
    | exact mixed
    | kernel_rfl
    | (intro w; kernel_rfl)
def rhoX : Go.Shelf.Ren := ⟨fun n => if n = 143 then 93 else if n = 217 then 114 else if n = 219 then 116 else if n = 224 then 144 else if n = 225 then 143 else if n = 266 then 142 else if n = 267 then 145 else if n = 314 then 161 else 0, fun n => if n = 46 then 80 else if n = 51 then 201 else if n = 146 then 202 else n, fun n => if n = 1 then 2 else n⟩
theorem laysX : Go.Proofs.Lays.n143 Tryz.prog rhoX := by
  constructor
  all_goals first
    | exact mixed
    | kernel_rfl
    | (intro w; kernel_rfl)
def rhoC : Go.Shelf.Ren := ⟨fun n => if n = 104 then 41 else if n = 207 then 94 else if n = 211 then 66 else 0, fun n => if n = 24 then 76 else n, fun n => n⟩
theorem laysC : Go.Proofs.Lays.n104 Tryz.prog rhoC := by
  constructor
  all_goals first
    | exact mixed
    | kernel_rfl
    | (intro w; kernel_rfl)

theorem pure_kit {f : FuncId} {args : List Value} {H : AHeap} {v : Value} (ha : ∀ x ∈ args, af x = true) (hv : af v = true) (hs : ∀ n, scb n v = true) (hc : ∀ w, Calls Tryz.prog f ⟨args⟩ w fun e w' => e = .returned v ∧ w' = w) : Pure f args H v := by
  intro ρ w r hsc F m R hF hR
  rw [map_af ρ _ ha]
  refine (hF.calls (hc w)).mono ?_
  rintro e w' ⟨rfl, rfl⟩
  have := hR ρ w' (St.below r ⟨rfl, rfl, rfl, Nat.le_refl _, fun _ _ => rfl⟩) (hs _)
  rwa [val_af ρ _ hv] at this

theorem indexByte_c (H : AHeap) (s : ByteArray) (c : Nat) (hc : c < 256) : Pure 88 [.string s, .int .u8 (c : Int)] H (.int .i64 (Go.Lib.indexByte s.data.toList c.toUInt8)) :=
  pure_kit (fun x hx => by simp only [List.mem_cons, List.not_mem_nil, or_false] at hx; rcases hx with rfl | rfl <;> rfl) rfl (fun _ => rfl) fun w => Go.Proofs.Any.strings_IndexByte laysB s c w
theorem index1_c (H : AHeap) (s : ByteArray) (c : UInt8) : Pure 93 [.string s, .string ⟨#[c]⟩] H (.int .i64 (Go.Lib.indexByte s.data.toList c)) :=
  pure_kit (fun x hx => by simp only [List.mem_cons, List.not_mem_nil, or_false] at hx; rcases hx with rfl | rfl <;> rfl) rfl (fun _ => rfl) fun w => Go.Proofs.Any.strings_Index_one laysX s c w
theorem cutSuffix_c (H : AHeap) (s p : ByteArray) (hs : s.size ≤ 1000000000) : Pure 41 [.string s, .string p] H (.tuple #[.string ⟨(Go.Lib.trimSuffix s.data.toList p.data.toList).toArray⟩, .bool (Go.Lib.hasSuffix s.data.toList p.data.toList)]) :=
  pure_kit (fun x hx => by simp only [List.mem_cons, List.not_mem_nil, or_false] at hx; rcases hx with rfl | rfl <;> rfl) rfl (fun _ => rfl) fun w => Go.Proofs.Any.strings_CutSuffix laysC s p w (by omega)

theorem pick_c (x n : Int) (hn : 1 ≤ n) (h2 : n ≤ 1000000) : ∃ r : Int, 0 ≤ r ∧ r < n ∧ ∀ H : AHeap, Pure 35 [.int .i64 x, .int .i64 n] H (.int .i64 r) := by
  have hd : decide (n ≤ 0) = false := decide_eq_false (by omega)
  have hnz : n ≠ 0 := by omega
  have h3 := Int.lt_tmod_of_pos x (show 0 < n by omega)
  have h4 := Int.tmod_lt_of_pos x (show 0 < n by omega)
  by_cases hneg : x.tmod n < 0
  · have hd2 : decide (x.tmod n < 0) = true := decide_eq_true hneg
    have hw : IntKind.i64.wrap (x.tmod n + n) = x.tmod n + n := wrap_sm (by omega) (by omega)
    refine ⟨x.tmod n + n, by omega, by omega, fun H => ?_⟩
    refine callS_fn mixed Tryz.func35 rfl Tryz.ntmps35 (Nat.le_of_ble_eq_true rfl) fun wf hsc => ?_
    simp (maxDischargeDepth := 6) only [hd, hnz, hd2, hw, Tryz.results35, ruW, putL, Nat.reduceLeDiff, xF, ruU, entryE, Nat.reduceLT, Nat.reduceAdd, Nat.reduceMul, Nat.reduceEqDiff]
    exact Fin.pureE rfl rfl
  · have hd2 : decide (x.tmod n < 0) = false := decide_eq_false hneg
    refine ⟨x.tmod n, by omega, by omega, fun H => ?_⟩
    refine callS_fn mixed Tryz.func35 rfl Tryz.ntmps35 (Nat.le_of_ble_eq_true rfl) fun wf hsc => ?_
    simp (maxDischargeDepth := 6) only [hd, hnz, hd2, Tryz.results35, ruW, putL, Nat.reduceLeDiff, xF, ruU, entryE, Nat.reduceLT, Nat.reduceAdd, Nat.reduceMul, Nat.reduceEqDiff]
    exact Fin.pureE rfl rfl

def opndR (x : Int) : Bool := decide (0 ≤ x) && decide (x ≤ 65535)
theorem operand_c (H : AHeap) (x : Int) : Pure 89 [.int .i64 x] H (.bool (opndR x)) := by
  obtain ⟨d, hd⟩ : ∃ d, decide (0 ≤ x) = d := ⟨_, rfl⟩
  obtain ⟨e, he⟩ : ∃ e, decide (x ≤ 65535) = e := ⟨_, rfl⟩
  refine callS_fn mixed Tryz.func89 rfl Tryz.ntmps89 (Nat.le_of_ble_eq_true rfl) fun wf hsc => ?_
  cases d <;> simp (maxDischargeDepth := 6) only [hd, he, Tryz.results89, ruW, putL, Nat.reduceLeDiff, xF, ruU, entryE, Nat.reduceLT, Nat.reduceAdd, Nat.reduceMul, Nat.reduceEqDiff] <;> exact Fin.pureE (by rw [opndR, hd, he]; rfl) rfl

theorem rep_app (l : List UInt8) (a b : Nat) : repB l (a + b) = repB l a ++ repB l b := by
  induction a with
  | zero => simp [repB, Go.Lib.repeatL]
  | succ a ih => rw [Nat.succ_add]; simp only [repB, Go.Lib.repeatL] at ih ⊢; simp [ih]
theorem rep_two (l : List UInt8) (k : Nat) : repB (l ++ l) k = repB l (2 * k) := by
  induction k with
  | zero => rfl
  | succ k ih => rw [show 2 * (k + 1) = 2 * k + 1 + 1 by omega]; simp only [repB, Go.Lib.repeatL] at ih ⊢; simp [ih]
theorem bytes_app (a b : List UInt8) : (⟨a.toArray⟩ : ByteArray) ++ ⟨b.toArray⟩ = ⟨(a ++ b).toArray⟩ := by
  apply ByteArray.ext
  simp
theorem bytes_size (a : List UInt8) : (⟨a.toArray⟩ : ByteArray).size = a.length := by
  show a.toArray.size = _
  simp

set_option maxHeartbeats 2000000 in
theorem times_c (H : AHeap) (s : List UInt8) (n : Nat) (hs : s.length * n ≤ 100000000) (hn : n ≤ 100000000) : Pure 36 [.string ⟨s.toArray⟩, .int .i64 (n : Int)] H (.string ⟨(repB s n).toArray⟩) := by
  refine callS_fn mixed Tryz.func36 rfl Tryz.ntmps36 (Nat.le_of_ble_eq_true rfl) fun wf hsc => ?_
  have hz2 : (2 : Int) ≠ 0 := by decide
  simp (maxDischargeDepth := 6) only [ruW, putL, Nat.reduceLeDiff, xF, ruU, entryE, Nat.reduceLT, Nat.reduceAdd, Nat.reduceMul, Nat.reduceEqDiff]
  refine w_env fun E hE => ?_
  have g0 : E 0 = .string ⟨s.toArray⟩ := by rw [hE]; simp only [ruU, entryE, Nat.reduceLT, Nat.reduceAdd, Nat.reduceMul, Nat.reduceEqDiff]
  have g1 : E 1 = .int .i64 (n : Int) := by rw [hE]; simp only [ruU, entryE, Nat.reduceLT, Nat.reduceAdd, Nat.reduceMul, Nat.reduceEqDiff]
  have g5 : E 5 = .string ⟨([] : List UInt8).toArray⟩ := by rw [hE]; (simp only [ruU, entryE, Nat.reduceLT, Nat.reduceAdd, Nat.reduceMul, Nat.reduceEqDiff] <;> rfl)
  clear hE
  refine w_loop (fun (z : List UInt8 × List UInt8 × Nat) E' H' => H' = ext H [] ∧ E' 0 = .string ⟨z.1.toArray⟩ ∧ E' 1 = .int .i64 (z.2.2 : Int) ∧ E' 5 = .string ⟨z.2.1.toArray⟩ ∧ z.2.1 ++ repB z.1 z.2.2 = repB s n ∧ z.2.2 ≤ n ∧ z.1.length * z.2.2 ≤ 100000000) (fun z => z.2.2) (s, [], n) ⟨rfl, g0, g1, g5, rfl, Nat.le_refl _, hs⟩ ?_
  clear g0 g1 g5 E
  rintro ⟨c, o, m⟩ E H' ⟨hH, g0, g1, g5, htot, hm, hsz⟩
  simp only at g0 g1 g5 htot hm hsz
  rw [hH]
  cases m with
  | zero =>
    have hd : decide ((0 : Int) < ((0 : Nat) : Int)) = false := by decide
    simp (maxDischargeDepth := 6) only [g0, g1, g5, hd, Tryz.results36, ruW, putL, Nat.reduceLeDiff, xF, ruU, entryE, Nat.reduceLT, Nat.reduceAdd, Nat.reduceMul, Nat.reduceEqDiff]
    have : o = repB s n := by rw [← htot]; simp [repB, Go.Lib.repeatL]
    rw [this]
    exact Fin.pureE rfl rfl
  | succ k =>
    have hd : decide ((0 : Int) < ((k + 1 : Nat) : Int)) = true := decide_eq_true (by omega)
    have hol : o.length ≤ 100000000 := by
      have := congrArg List.length htot
      rw [List.length_append, rep_len, rep_len, Nat.mul_comm n] at this
      omega
    have hcl : c.length ≤ 100000000 := by
      have : c.length * 1 ≤ c.length * (k + 1) := Nat.mul_le_mul_left _ (by omega)
      omega
    have ht1 : ((k + 1 : Nat) : Int).tmod 2 = (((k + 1) % 2 : Nat) : Int) := rfl
    have ht2 : IntKind.i64.wrap (((k + 1 : Nat) : Int).tdiv 2) = (((k + 1) / 2 : Nat) : Int) := wrap_nat (n := (k + 1) / 2) (by omega)
    have hcs : c.length * ((k + 1) / 2) ≤ c.length * (k + 1) := Nat.mul_le_mul_left _ (by omega)
    have hfin : ∀ o', o' ++ repB (c ++ c) ((k + 1) / 2) = repB s n → (c ++ c).length * ((k + 1) / 2) ≤ 100000000 := fun o' h => by
      have := congrArg List.length h
      rw [List.length_append, rep_len, rep_len, Nat.mul_comm n, Nat.mul_comm ((k + 1) / 2)] at this
      omega
    rcases Nat.mod_two_eq_zero_or_one (k + 1) with h2 | h2
    · have hd2 : decide ((((k + 1) % 2 : Nat) : Int) = 1) = false := by rw [h2]; decide
      have htot' : o ++ repB (c ++ c) ((k + 1) / 2) = repB s n := by rw [rep_two, show 2 * ((k + 1) / 2) = k + 1 by omega, htot]
      simp (maxDischargeDepth := 6) only [g0, g1, g5, hd, ht1, hd2, hz2, ruW, putL, Nat.reduceLeDiff, xF, ruU, entryE, Nat.reduceLT, Nat.reduceAdd, Nat.reduceMul, Nat.reduceEqDiff]
      refine w_cat (a := ⟨c.toArray⟩) (b := ⟨c.toArray⟩) u9 rfl rfl (by simp only [g0, ruU, entryE, Nat.reduceLT, Nat.reduceAdd, Nat.reduceMul, Nat.reduceEqDiff]) (by simp only [g0, ruU, entryE, Nat.reduceLT, Nat.reduceAdd, Nat.reduceMul, Nat.reduceEqDiff]) (by decide) (by rw [bytes_size]; omega) ?_
      rw [bytes_app]
      simp (maxDischargeDepth := 6) only [g0, g1, g5, ht2, hz2, ruW, putL, Nat.reduceLeDiff, xF, ruU, entryE, Nat.reduceLT, Nat.reduceAdd, Nat.reduceMul, Nat.reduceEqDiff]
      refine loopC_next ⟨(c ++ c, o, (k + 1) / 2), by simp only; omega, rfl, ?_, ?_, ?_, htot', by simp only; omega, hfin _ htot'⟩ <;> simp only [g0, g1, g5, ht2, ruU, entryE, Nat.reduceLT, Nat.reduceAdd, Nat.reduceMul, Nat.reduceEqDiff]
    · have hd2 : decide ((((k + 1) % 2 : Nat) : Int) = 1) = true := by rw [h2]; decide
      have htot' : (o ++ c) ++ repB (c ++ c) ((k + 1) / 2) = repB s n := by
        rw [rep_two, ← htot, show k + 1 = 1 + 2 * ((k + 1) / 2) by omega, rep_app]
        rw [show 1 + 2 * ((k + 1) / 2) = k + 1 by omega]
        simp [repB, Go.Lib.repeatL]
      simp (maxDischargeDepth := 6) only [g0, g1, g5, hd, ht1, hd2, hz2, ruW, putL, Nat.reduceLeDiff, xF, ruU, entryE, Nat.reduceLT, Nat.reduceAdd, Nat.reduceMul, Nat.reduceEqDiff]
      refine w_cat (a := ⟨o.toArray⟩) (b := ⟨c.toArray⟩) u9 rfl rfl (by simp only [g0, g5, ruU, entryE, Nat.reduceLT, Nat.reduceAdd, Nat.reduceMul, Nat.reduceEqDiff]) (by simp only [g0, g5, ruU, entryE, Nat.reduceLT, Nat.reduceAdd, Nat.reduceMul, Nat.reduceEqDiff]) (by decide) (by rw [bytes_size, bytes_size]; omega) ?_
      rw [bytes_app]
      simp (maxDischargeDepth := 6) only [g0, g1, g5, ruW, putL, Nat.reduceLeDiff, xF, ruU, entryE, Nat.reduceLT, Nat.reduceAdd, Nat.reduceMul, Nat.reduceEqDiff]
      refine w_cat (a := ⟨c.toArray⟩) (b := ⟨c.toArray⟩) u9 rfl rfl (by simp only [g0, ruU, entryE, Nat.reduceLT, Nat.reduceAdd, Nat.reduceMul, Nat.reduceEqDiff]) (by simp only [g0, ruU, entryE, Nat.reduceLT, Nat.reduceAdd, Nat.reduceMul, Nat.reduceEqDiff]) (by decide) (by rw [bytes_size]; omega) ?_
      rw [bytes_app]
      simp (maxDischargeDepth := 6) only [g0, g1, g5, ht2, hz2, ruW, putL, Nat.reduceLeDiff, xF, ruU, entryE, Nat.reduceLT, Nat.reduceAdd, Nat.reduceMul, Nat.reduceEqDiff]
      refine loopC_next ⟨(c ++ c, o ++ c, (k + 1) / 2), by simp only; omega, rfl, ?_, ?_, ?_, htot', by simp only; omega, hfin _ htot'⟩ <;> simp only [g0, g1, g5, ht2, ruU, entryE, Nat.reduceLT, Nat.reduceAdd, Nat.reduceMul, Nat.reduceEqDiff]
end Go.Proofs.YtnigelgcjfhghaaGreatDoor

/- strings.SplitAfterSeq at a line's end: the walk of its iterator. -/
namespace Go.Ax
structure YldP (P : Program) (l : Nat) (α : Type) (enc : α → List Value) (go : α → Bool) (cap : Nat) (pre : α → Prop) where
  Inv : List α → List Nat → List Nat → AHeap → Prop
  sub : ∀ {rs F W G}, Inv rs F W G → ∀ n ∈ W, n ∈ F
  dom : ∀ {rs F W G}, Inv rs F W G → ∀ n ∈ F, G.get n ≠ none ∧ n < G.next
  loc : ∀ {rs F W G G'}, Inv rs F W G → G.next ≤ G'.next → (∀ n ∈ F, G'.get n = G.get n) → Inv rs F W G'
  step : ∀ {rs F W G r}, Inv rs F W G → (∀ x ∈ rs, go x = true) → rs.length < cap → G.base ≤ G.next → pre r → CallY P l (enc r) G (fun out G' => out = .ok (.bool (go r)) ∧ ∃ F' W', Inv (rs ++ [r]) F' W' G' ∧ Mod W G G' ∧ (∀ n ∈ F', n ∈ F ∨ G.next ≤ n) ∧ (∀ n ∈ W', n ∈ W ∨ G.next ≤ n))
end Go.Ax
namespace Go.Proofs.YtnigelgcjfhghaaGreatDoor
open Go.Ax
set_option linter.unusedSimpArgs false
set_option maxRecDepth 100000

def linesR : List UInt8 → List (List UInt8)
  | [] => [[]]
  | c :: r => if c = 10 then [c] :: linesR r else match linesR r with
    | h :: t => (c :: h) :: t
    | [] => [[c]]
theorem lines_none : ∀ {s : List UInt8}, Go.Lib.indexByte s 10 = -1 → linesR s = [s]
  | [], _ => rfl
  | c :: r, h => by
    unfold Go.Lib.indexByte at h
    by_cases hc : c = 10
    · subst hc; simp at h
    · have hc' : (c == 10) = false := by simpa using hc
      rw [hc'] at h
      simp only [Bool.false_eq_true, if_false] at h
      have hg := Go.Lib.indexByte_ge r 10
      have h2 : Go.Lib.indexByte r 10 = -1 := by
        split at h
        · rename_i h3; simpa using h3
        · omega
      rw [linesR, if_neg hc, lines_none h2]
theorem lines_some : ∀ {s : List UInt8} {i : Nat}, Go.Lib.indexByte s 10 = (i : Int) → i < s.length ∧ linesR s = s.take (i + 1) :: linesR (s.drop (i + 1))
  | [], i, h => by simp [Go.Lib.indexByte] at h
  | c :: r, i, h => by
    unfold Go.Lib.indexByte at h
    by_cases hc : c = 10
    · subst hc
      have : i = 0 := by simp at h; omega
      subst this
      refine ⟨by simp, ?_⟩
      rw [linesR, if_pos rfl]
      rfl
    · have hc' : (c == 10) = false := by simpa using hc
      rw [hc'] at h
      simp only [Bool.false_eq_true, if_false] at h
      split at h
      · omega
      · rename_i h3
        have h3 : Go.Lib.indexByte r 10 ≠ -1 := by simpa using h3
        have hge := Go.Lib.indexByte_ge r 10
        obtain ⟨k, rfl⟩ : ∃ k, i = k + 1 := ⟨i - 1, by omega⟩
        obtain ⟨h4, h5⟩ := lines_some (s := r) (i := k) (by omega)
        refine ⟨by simp only [List.length_cons]; omega, ?_⟩
        rw [linesR, if_neg hc, h5]
        rfl
theorem lines_len : ∀ s : List UInt8, (linesR s).length ≤ s.length + 1
  | [] => by simp [linesR]
  | c :: r => by
    have := lines_len r
    rw [linesR]
    split
    · simp only [List.length_cons]; omega
    · split
      · rename_i h; rw [h] at this; simp only [List.length_cons] at this ⊢; omega
      · simp

abbrev bs (l : List UInt8) : ByteArray := ⟨l.toArray⟩
theorem bs_size (l : List UInt8) : (bs l).size = l.length := bytes_size l
theorem bs_take (l : List UInt8) (n : Nat) : (bs l).extract 0 n = bs (l.take n) := by
  apply ByteArray.ext
  apply Array.ext'
  rw [ByteArray.data_extract, Array.toList_extract, List.extract_eq_take_drop]
  simp
theorem bs_drop (l : List UInt8) (n : Nat) : (bs l).extract n (bs l).size = bs (l.drop n) := by
  apply ByteArray.ext
  apply Array.ext'
  rw [ByteArray.data_extract, Array.toList_extract, List.extract_eq_take_drop, bs_size]
  simp
  exact List.take_of_length_le (by simp)
theorem sl_to {H : AHeap} {l : List UInt8} {n : Nat} (h : n ≤ l.length) : aSlice Tryz.prog H 9 (.string (bs l)) none (some (.int .i64 (n : Int))) none = some (.string (bs (l.take n)), H) := by
  simp only [aSlice, u9, bound, Option.bind_eq_bind, Option.bind_some]
  rw [if_pos (by omega), Option.bind_some, Int.toNat_natCast, if_pos ⟨by rw [bs_size]; exact h, by omega⟩, bs_take]
theorem sl_from {H : AHeap} {l : List UInt8} {n : Nat} (h : n ≤ l.length) : aSlice Tryz.prog H 9 (.string (bs l)) (some (.int .i64 (n : Int))) none none = some (.string (bs (l.drop n)), H) := by
  simp only [aSlice, u9, bound, Option.bind_eq_bind, Option.bind_some]
  rw [if_pos (by omega), Option.bind_some, Int.toNat_natCast, if_pos ⟨by rw [bs_size]; omega, by rw [bs_size]; exact h⟩, bs_drop]

def encS (l : List UInt8) : List Value := [.string (bs l)]

set_option maxHeartbeats 4000000 in
theorem lines_c {lp cap : Nat} {go : List UInt8 → Bool} {pre : List UInt8 → Prop} (Y : YldP Tryz.prog lp (List UInt8) encS go cap pre) (H : AHeap) (q1 q2 q3 : Nat) (s : List UInt8) (F0 W0 : List Nat) (hinv : Y.Inv [] F0 W0 H) (hok : H.base ≤ H.next) (hpre : ∀ x ∈ linesR s, pre x) (hs : s.length ≤ 100000000) (hcap : (linesR s).length ≤ cap)
    (b1 : bk H q1 = some ⟨9, false, [.string (bs [10])]⟩) (b2 : bk H q2 = some ⟨9, false, [.string (bs s)]⟩) (b3 : bk H q3 = some ⟨3, false, [.int .i64 1]⟩) (l1 : q1 < H.next) (l2 : q2 < H.next) (l3 : q3 < H.next) (f1 : q1 ∉ F0) (f2 : q2 ∉ F0) (f3 : q3 ∉ F0) (d12 : q1 ≠ q2) (d32 : q3 ≠ q2) :
    CallA Tryz.prog 91 [.func (.yield lp) ⟨[]⟩ ⟨[]⟩, .pointer (some ⟨q1, 0, none⟩), .pointer (some ⟨q2, 0, none⟩), .pointer (some ⟨q3, 0, none⟩)] H (fun out X => out = .ok (.tuple #[]) ∧ ∃ F W, Y.Inv (upto go (linesR s)) F W X ∧ Mod (q2 :: W0) H X) := by
  have h01 : ((0 + 1 : Nat) : Int) = 1 := rfl
  refine callE_fn mixed Tryz.func91 rfl Tryz.ntmps91 (Nat.le_of_ble_eq_true rfl) ?_
  have hz : decide (((1 : Nat) : Int) = 0) = false := by decide
  obtain ⟨b, hbn⟩ : ∃ b, H.next = b := ⟨_, rfl⟩
  rw [hbn] at l1 l2 l3
  simp (maxDischargeDepth := 6) only [hbn, b1, l1, bs_size, rb_lenStr u9, bt_lenStr u9, List.length_cons, List.length_nil, hz, ruW, putL, Nat.reduceLeDiff, xF, ruU, entryE, Nat.reduceLT, Nat.reduceAdd, Nat.reduceMul, Nat.reduceEqDiff]
  refine w_env fun E hE => ?_
  have g0 : E 0 = .func (.yield lp) ⟨[]⟩ ⟨[]⟩ := by rw [hE]; simp only [ruU, entryE, Nat.reduceLT, Nat.reduceAdd, Nat.reduceMul, Nat.reduceEqDiff]
  have g1 : E 1 = .pointer (some ⟨q1, 0, none⟩) := by rw [hE]; simp only [ruU, entryE, Nat.reduceLT, Nat.reduceAdd, Nat.reduceMul, Nat.reduceEqDiff]
  have g2 : E 2 = .pointer (some ⟨q2, 0, none⟩) := by rw [hE]; simp only [ruU, entryE, Nat.reduceLT, Nat.reduceAdd, Nat.reduceMul, Nat.reduceEqDiff]
  have g3 : E 3 = .pointer (some ⟨q3, 0, none⟩) := by rw [hE]; simp only [ruU, entryE, Nat.reduceLT, Nat.reduceAdd, Nat.reduceMul, Nat.reduceEqDiff]
  clear hE
  have hF0 : ∀ n ∈ F0, n < b := fun n hn => hbn ▸ (Y.dom hinv n hn).2
  refine blockC_meet (fun E' X => ∃ rs t F W, Y.Inv rs F W X ∧ (∀ x ∈ rs, go x = true) ∧ rs ++ [t] = linesR s ∧ Mod (q2 :: W0) H X ∧ (∀ n ∈ W, n ∈ W0 ∨ b ≤ n) ∧ (∀ n ∈ F, n ∈ F0 ∨ b ≤ n) ∧ bk X q2 = some ⟨9, false, [.string (bs t)]⟩ ∧ E' 0 = .func (.yield lp) ⟨[]⟩ ⟨[]⟩ ∧ E' 2 = .pointer (some ⟨q2, 0, none⟩)) ?_ ?_
  · refine w_loop (fun (z : List (List UInt8) × List UInt8 × List Nat × List Nat) E' X => Y.Inv z.1 z.2.2.1 z.2.2.2 X ∧ (∀ x ∈ z.1, go x = true) ∧ z.1 ++ linesR z.2.1 = linesR s ∧ z.2.1.length ≤ s.length ∧ Mod (q2 :: W0) H X ∧ (∀ n ∈ z.2.2.2, n ∈ W0 ∨ b ≤ n) ∧ (∀ n ∈ z.2.2.1, n ∈ F0 ∨ b ≤ n) ∧ bk X q2 = some ⟨9, false, [.string (bs z.2.1)]⟩ ∧ bk X q1 = some ⟨9, false, [.string (bs [10])]⟩ ∧ bk X q3 = some ⟨3, false, [.int .i64 1]⟩ ∧ E' 0 = .func (.yield lp) ⟨[]⟩ ⟨[]⟩ ∧ E' 1 = .pointer (some ⟨q1, 0, none⟩) ∧ E' 2 = .pointer (some ⟨q2, 0, none⟩) ∧ E' 3 = .pointer (some ⟨q3, 0, none⟩)) (fun z => z.2.1.length) ([], s, F0, W0)
      ⟨hinv, fun x hx => by simp at hx, rfl, Nat.le_refl _, Mod.refl, fun n hn => .inl hn, fun n hn => .inl hn, b2, b1, b3, g0, g1, g2, g3⟩ ?_
    clear g0 g1 g2 g3 E
    rintro ⟨rs, t, F, W⟩ E X ⟨hI, hgo, htot, hts, m, hW, hF, k2, k1, k3, g0, g1, g2, g3⟩
    simp only at hI hgo htot hts hW hF k2
    obtain ⟨x, hx⟩ : ∃ x, X.next = x := ⟨_, rfl⟩
    have hxb : b ≤ x := by have := m.next; omega
    have y1 : q1 < x := by omega
    have y2 : q2 < x := by omega
    have y3 : q3 < x := by omega
    rw [show X = ext X [] from rfl]
    simp (maxDischargeDepth := 6) only [g0, g1, g2, g3, hx, y1, y2, y3, k1, k2, k3, ruW, putL, Nat.reduceLeDiff, xF, ruU, entryE, Nat.reduceLT, Nat.reduceAdd, Nat.reduceMul, Nat.reduceEqDiff]
    refine (index1_c (ext X []) (bs t) 10).to ?_
    obtain ⟨i0, hi0⟩ : ∃ i0, Go.Lib.indexByte (bs t).data.toList 10 = i0 := ⟨_, rfl⟩
    rw [hi0]
    have hi0' : Go.Lib.indexByte t 10 = i0 := hi0
    by_cases hneg : i0 < 0
    · have hd : decide (i0 < 0) = true := decide_eq_true hneg
      have hge := Go.Lib.indexByte_ge t 10
      rw [lines_none (by omega)] at htot
      simp (maxDischargeDepth := 6) only [g0, g1, g2, g3, hd, blockC_other (show (2 : Nat) ≠ 3 by decide), ruW, putL, Nat.reduceLeDiff, xF, ruU, entryE, Nat.reduceLT, Nat.reduceAdd, Nat.reduceMul, Nat.reduceEqDiff]
      refine joinR_normal ?_
      exact ⟨rs, t, F, W, hI, hgo, htot, m, hW, hF, k2, by simp only [g0, ruU, entryE, Nat.reduceLT, Nat.reduceAdd, Nat.reduceMul, Nat.reduceEqDiff], by simp only [g2, ruU, entryE, Nat.reduceLT, Nat.reduceAdd, Nat.reduceMul, Nat.reduceEqDiff]⟩
    · have hd : decide (i0 < 0) = false := decide_eq_false hneg
      obtain ⟨i, rfl⟩ : ∃ i : Nat, i0 = i := ⟨i0.toNat, by omega⟩
      obtain ⟨hil, hln⟩ := lines_some hi0'
      have hw : IntKind.i64.wrap ((i : Int) + 1) = ((i + 1 : Nat) : Int) := wrap_succ (by omega)
      have s1 : ∀ G : AHeap, aSlice Tryz.prog G 9 (.string (bs t)) none (some (.int .i64 ((i + 1 : Nat) : Int))) none = some (.string (bs (t.take (i + 1))), G) := fun G => sl_to (by omega)
      have s2 : ∀ G : AHeap, aSlice Tryz.prog G 9 (.string (bs t)) (some (.int .i64 ((i + 1 : Nat) : Int))) none none = some (.string (bs (t.drop (i + 1))), G) := fun G => sl_from (by omega)
      simp (maxDischargeDepth := 6) only [g0, g1, g2, g3, hx, y1, y2, y3, k1, k2, k3, hd, hw, s1, s2, w_slice, bnds_none, bnds_some, bndsOk_none, bndsOk_some, ruW, putL, Nat.reduceLeDiff, xF, ruU, entryE, Nat.reduceLT, Nat.reduceAdd, Nat.reduceMul, Nat.reduceEqDiff]
      refine w_callY (l := lp) (by simp only [ruU, entryE, Nat.reduceLT, Nat.reduceAdd, Nat.reduceMul, Nat.reduceEqDiff]) (by simp only [g0, ruU, entryE, Nat.reduceLT, Nat.reduceAdd, Nat.reduceMul, Nat.reduceEqDiff]) (by simp only [ruU, entryE, Nat.reduceLT, Nat.reduceAdd, Nat.reduceMul, Nat.reduceEqDiff]) ?_
      simp only [g0, ruU, entryE, Nat.reduceLT, Nat.reduceAdd, Nat.reduceMul, Nat.reduceEqDiff]
      have hlen := congrArg List.length htot
      rw [hln, List.length_append, List.length_cons] at hlen
      refine (Y.step (r := t.take (i + 1)) hI hgo (by omega) (m.ok hok) (hpre _ (by rw [← htot, hln]; simp))).mono ?_
      rintro _ G' ⟨rfl, F', W', h1, h2, h3, h4⟩
      have mG : Mod (q2 :: W0) H G' := m.step h2 hok fun n hn => (hW n hn).imp (fun h => List.mem_cons_of_mem _ h) (fun h => by rw [hbn]; exact h)
      have hnF : ∀ n, n < b → n ∉ F0 → n ∉ F := fun n h1 h2 hn => (hF n hn).elim h2 (by omega)
      have hnW : ∀ n, n < b → n ∉ F0 → n ∉ W := fun n h1 h2 hn => hnF n h1 h2 (Y.sub hI n hn)
      have k1' := (h2.bk (by omega) (hnW q1 l1 f1)).trans k1
      have k2' := (h2.bk (by omega) (hnW q2 l2 f2)).trans k2
      have k3' := (h2.bk (by omega) (hnW q3 l3 f3)).trans k3
      have z1 : q1 < G'.next := by have := h2.next; omega
      have z2 : q2 < G'.next := by have := h2.next; omega
      rw [hln] at htot
      have hall : rs.all go = true := List.all_eq_true.2 hgo
      rw [show G' = ext G' [] from rfl]
      obtain ⟨d, hdg⟩ : ∃ d, go (t.take (i + 1)) = d := ⟨_, rfl⟩
      cases d with
      | false =>
        simp (maxDischargeDepth := 6) only [g0, g1, g2, g3, hdg, Bool.not_false, joinR_ret, Tryz.results91, ruW, putL, Nat.reduceLeDiff, xF, ruU, entryE, Nat.reduceLT, Nat.reduceAdd, Nat.reduceMul, Nat.reduceEqDiff]
        refine ⟨trivial, F', W', ?_, mG⟩
        rw [← htot, upto_append hall]
        simp only [upto, hdg, Bool.false_eq_true, if_false]
        exact h1
      | true =>
        simp (maxDischargeDepth := 6) only [g0, g1, g2, g3, hdg, Bool.not_true, z1, z2, k1', k2', k3', hw, s2, h01, bs_size, rb_lenStr u9, bt_lenStr u9, List.length_cons, List.length_nil, w_slice, bnds_none, bnds_some, bndsOk_none, bndsOk_some, ruW, putL, Nat.reduceLeDiff, xF, ruU, entryE, Nat.reduceLT, Nat.reduceAdd, Nat.reduceMul, Nat.reduceEqDiff]
        have hin : Y.Inv (rs ++ [t.take (i + 1)]) F' W' (uw G' q2 0 [.string (bs (t.drop (i + 1)))]) := Y.loc h1 (by rw [uw_next]; exact Nat.le_refl _) fun n hn => uw_get (by
          rcases h3 n hn with h | h
          · exact fun e => hnF q2 l2 f2 (e ▸ h)
          · omega)
        have mU : Mod (q2 :: W0) H (uw G' q2 0 [.string (bs (t.drop (i + 1)))]) := mG.step (W' := [q2]) (Mod.uw (by simp)) hok fun n hn => .inl (by simp only [List.mem_singleton] at hn; rw [hn]; exact List.mem_cons_self ..)
        refine loopC_next ⟨(rs ++ [t.take (i + 1)], t.drop (i + 1), F', W'), by simp only [List.length_drop]; omega, hin, fun x hx => ?_, by rw [List.append_assoc]; exact htot, by simp only [List.length_drop]; omega, mU, fun n hn => ?_, fun n hn => ?_, ?_, ?_, ?_, ?_, ?_, ?_, ?_⟩
        · rcases List.mem_append.1 hx with hx | hx
          · exact hgo x hx
          · rw [List.mem_singleton] at hx; rw [hx]; exact hdg
        · rcases h4 n hn with h | h
          · exact hW n h
          · exact .inr (by omega)
        · rcases h3 n hn with h | h
          · exact hF n h
          · exact .inr (by omega)
        · show bk (uw G' q2 0 _) q2 = _
          rw [bk_uw_eq, k2']
          rfl
        · exact (bk_get (uw_get d12)).trans k1'
        · exact (bk_get (uw_get d32)).trans k3'
        all_goals simp only [g0, g1, g2, g3, ruU, entryE, Nat.reduceLT, Nat.reduceAdd, Nat.reduceMul, Nat.reduceEqDiff]
  · clear g0 g1 g2 g3 E
    rintro E X ⟨rs, t, F, W, hI, hgo, htot, m, hW, hF, k2, g0, g2⟩
    have y2 : q2 < X.next := by have := m.next; omega
    have hall : rs.all go = true := List.all_eq_true.2 hgo
    have hlen := congrArg List.length htot
    rw [List.length_append, List.length_singleton] at hlen
    rw [show X = ext X [] from rfl]
    simp (maxDischargeDepth := 6) only [g0, g2, y2, k2, ruW, putL, Nat.reduceLeDiff, xF, ruU, entryE, Nat.reduceLT, Nat.reduceAdd, Nat.reduceMul, Nat.reduceEqDiff]
    refine w_callY (l := lp) (by simp only [ruU, entryE, Nat.reduceLT, Nat.reduceAdd, Nat.reduceMul, Nat.reduceEqDiff]) (by simp only [g0, ruU, entryE, Nat.reduceLT, Nat.reduceAdd, Nat.reduceMul, Nat.reduceEqDiff]) (by simp only [ruU, entryE, Nat.reduceLT, Nat.reduceAdd, Nat.reduceMul, Nat.reduceEqDiff]) ?_
    simp only [g0, ruU, entryE, Nat.reduceLT, Nat.reduceAdd, Nat.reduceMul, Nat.reduceEqDiff]
    refine (Y.step (r := t) hI hgo (by omega) (m.ok hok) (hpre _ (by rw [← htot]; simp))).mono ?_
    rintro _ G' ⟨rfl, F', W', h1, h2, h3, h4⟩
    have mG : Mod (q2 :: W0) H G' := m.step h2 hok fun n hn => (hW n hn).imp (fun h => List.mem_cons_of_mem _ h) (fun h => by rw [hbn]; exact h)
    rw [show G' = ext G' [] from rfl]
    simp (maxDischargeDepth := 6) only [Tryz.results91, ruW, putL, Nat.reduceLeDiff, xF, ruU, entryE, Nat.reduceLT, Nat.reduceAdd, Nat.reduceMul, Nat.reduceEqDiff]
    refine ⟨trivial, F', W', ?_, mG⟩
    rw [← htot, upto_append hall]
    simp only [upto, ite_self]
    exact h1

theorem splitSeq_c (H : AHeap) (s sep : ByteArray) : CallS Tryz.prog 40 [.string s, .string sep] H (.ok (.func (.func 91) ⟨[]⟩ ⟨[.pointer (some ⟨H.next + 1, 0, none⟩), .pointer (some ⟨H.next + 0, 0, none⟩), .pointer (some ⟨H.next + 2, 0, none⟩)]⟩)) (ext H [⟨9, false, [.string s]⟩, ⟨9, false, [.string sep]⟩, ⟨3, false, [.int .i64 (sep.size : Int)]⟩]) := by
  have inner : ∀ H : AHeap, CallS Tryz.prog 65 [.string s, .string sep, .int .i64 (sep.size : Int)] H (.ok (.func (.func 91) ⟨[]⟩ ⟨[.pointer (some ⟨H.next + 1, 0, none⟩), .pointer (some ⟨H.next + 0, 0, none⟩), .pointer (some ⟨H.next + 2, 0, none⟩)]⟩)) (ext H [⟨9, false, [.string s]⟩, ⟨9, false, [.string sep]⟩, ⟨3, false, [.int .i64 (sep.size : Int)]⟩]) := fun H => by
    obtain ⟨b, hb⟩ : ∃ b, H.next = b := ⟨_, rfl⟩
    refine callS_fn mixed Tryz.func65 rfl Tryz.ntmps65 (Nat.le_of_ble_eq_true rfl) fun wf hsc => ?_
    have hbase : H.base ≤ b := hb ▸ wf.base
    simp (maxDischargeDepth := 6) only [hb, hbase, w_func, Tryz.results65, ruW, putL, Nat.reduceLeDiff, xF, ruU, entryE, Nat.reduceLT, Nat.reduceAdd, Nat.reduceMul, Nat.reduceEqDiff]
    exact Fin.same
  obtain ⟨b, hb⟩ : ∃ b, H.next = b := ⟨_, rfl⟩
  refine callS_fn mixed Tryz.func40 rfl Tryz.ntmps40 (Nat.le_of_ble_eq_true rfl) fun wf hsc => ?_
  have hbase : H.base ≤ b := hb ▸ wf.base
  simp (maxDischargeDepth := 6) only [hb, hbase, rb_lenStr u9, bt_lenStr u9, ruW, putL, Nat.reduceLeDiff, xF, ruU, entryE, Nat.reduceLT, Nat.reduceAdd, Nat.reduceMul, Nat.reduceEqDiff]
  refine (inner (ext H [])).to ?_
  simp (maxDischargeDepth := 6) only [hb, hbase, ext_next, List.length_nil, Tryz.results40, ruW, putL, Nat.reduceLeDiff, xF, ruU, entryE, Nat.reduceLT, Nat.reduceAdd, Nat.reduceMul, Nat.reduceEqDiff]
  exact Fin.same
end Go.Proofs.YtnigelgcjfhghaaGreatDoor

/- What is too long: Decode, Text. -/
namespace Go.Proofs.YtnigelgcjfhghaaGreatDoor
open Go.Ax
set_option linter.unusedSimpArgs false
set_option maxRecDepth 100000

abbrev fltV (e a : Int) : Value := .agg ⟨[.int .i64 e, .int .i64 a]⟩

theorem decodeLong_c (H : AHeap) (a : Option Addr) (n c : Nat) (hn : 60000 < n) : Pure 24 [.slice a n c] H (.tuple #[.slice none 0 0, fltV 4 60000]) := by
  obtain ⟨b, hb⟩ : ∃ b, H.next = b := ⟨_, rfl⟩
  have hd : decide ((60000 : Int) < (n : Int)) = true := decide_eq_true (by omega)
  refine callS_fn mixed Tryz.func24 rfl Tryz.ntmps24 (Nat.le_of_ble_eq_true rfl) fun wf hsc => ?_
  have hbase : H.base ≤ b := hb ▸ wf.base
  simp (maxDischargeDepth := 6) only [hb, hbase, hd, Tryz.results24, ruW, putL, Nat.reduceLeDiff, xF, ruU, entryE, Nat.reduceLT, Nat.reduceAdd, Nat.reduceMul, Nat.reduceEqDiff]
  exact Fin.pureE rfl rfl

theorem textLong_c (H : AHeap) (a : Option Addr) (n c : Nat) (hn : 60000 < n) : Pure 26 [.slice a n c] H (.tuple #[.string .empty, fltV 4 60000]) := by
  obtain ⟨b, hb⟩ : ∃ b, H.next = b := ⟨_, rfl⟩
  refine callS_fn mixed Tryz.func26 rfl Tryz.ntmps26 (Nat.le_of_ble_eq_true rfl) fun wf hsc => ?_
  have hbase : H.base ≤ b := hb ▸ wf.base
  simp (maxDischargeDepth := 6) only [hb, hbase, ruW, putL, Nat.reduceLeDiff, xF, ruU, entryE, Nat.reduceLT, Nat.reduceAdd, Nat.reduceMul, Nat.reduceEqDiff]
  refine (decodeLong_c (ext H _) a n c hn).to ?_
  have h4 : decide (¬ (4 : Int) = 0) = true := by decide
  simp (maxDischargeDepth := 6) only [hb, hbase, h4, ruW, putL, Nat.reduceLeDiff, xF, ruU, entryE, Nat.reduceLT, Nat.reduceAdd, Nat.reduceMul, Nat.reduceEqDiff]
  refine w_drawB [] [] (by kernel_rfl) (by kernel_rfl) rfl fun ops anc hA hG => ?_
  simp (maxDischargeDepth := 6) only [hb, hbase, Tryz.results26, ruD, ruW, putL, Nat.reduceLeDiff, xF, ruU, entryE, Nat.reduceLT, Nat.reduceAdd, Nat.reduceMul, Nat.reduceEqDiff]
  exact Fin.pureE rfl rfl
end Go.Proofs.YtnigelgcjfhghaaGreatDoor

/- Parse of a line that is too long. -/
namespace Go.Proofs.YtnigelgcjfhghaaGreatDoor
open Go.Ax
set_option linter.unusedSimpArgs false
set_option maxRecDepth 100000

def lpPar (asg bod : Code) (d : Nat) : Loop := { state := .ready, pending := none, fn := 0, tmps := #[], params := ⟨[15]⟩, assign := asg, body := bod, defers := d }
def preL (r : List UInt8) : Prop := 1000000 < r.length ∧ r.length ≤ 100000000 ∧ Go.Lib.hasSuffix r [10] = false

def LongInv (l p : Nat) (lp : Loop) (e : RV) (rs : List (List UInt8)) (F W : List Nat) (G : AHeap) : Prop :=
  p + 3 < l ∧ l < G.next ∧ F = [p + 0, p + 1, p + 3, l] ∧ W = [p + 0, p + 1, l] ∧ bk G (p + 3) = some ⟨3, false, [.int .i64 0]⟩ ∧ bk G (p + 0) = some ⟨23, false, [.slice none 0 0]⟩ ∧
  ((rs = [] ∧ LoopAt G l lp e ∧ bk G (p + 1) = some ⟨26, false, [.int .i64 0, .int .i64 0]⟩) ∨ (rs ≠ [] ∧ LoopAt G l { lp with state := .done, pending := some .ret } e ∧ bk G (p + 1) = some ⟨26, false, [.int .i64 4, .int .i64 0]⟩))

theorem eqs_none {H : AHeap} {a b : ByteArray} : aBin Tryz.prog H .eql 9 (.string a) (.string b) = none := by kernel_rfl
theorem eqs_empty (l : List UInt8) : ((bs l).toList == ByteArray.empty.toList) = decide (l = []) := by
  have h1 : (bs l).toList = l := by rw [Go.Lib.toList_data]
  have h2 : ByteArray.empty.toList = [] := by rw [Go.Lib.toList_data]; rfl
  rw [h1, h2]
  cases l <;> rfl

set_option maxHeartbeats 4000000 in
theorem long_step {asg bod : Code} (hab : some (asg, bod) = Tryz.f12.body.bind rangeOf) {l p d : Nat} {E : Env} (g2 : E 2 = .pointer (some ⟨p + 0, 0, none⟩)) (g3 : E 3 = .pointer (some ⟨p + 1, 0, none⟩)) (g5 : E 5 = .pointer (some ⟨p + 3, 0, none⟩)) {rs : List (List UInt8)} {F W : List Nat} {G : AHeap} {r : List UInt8}
    (hI : LongInv l p (lpPar asg bod d) (rvOf 73 E) rs F W G) (hgo : ∀ x ∈ rs, (fun _ => false) x = true) (hok : G.base ≤ G.next) (hr : preL r) :
    CallY Tryz.prog l (encS r) G (fun out G' => out = .ok (.bool false) ∧ ∃ F' W', LongInv l p (lpPar asg bod d) (rvOf 73 E) (rs ++ [r]) F' W' G' ∧ Mod W G G' ∧ (∀ n ∈ F', n ∈ F ∨ G.next ≤ n) ∧ (∀ n ∈ W', n ∈ W ∨ G.next ≤ n)) := by
  obtain ⟨hpl, hll, rfl, rfl, h3, h0, ⟨rfl, hl, h1⟩ | ⟨hne, _⟩⟩ := hI
  rotate_left
  · obtain ⟨x, hx⟩ := List.exists_mem_of_ne_nil _ hne
    exact absurd (hgo x hx) (by simp)
  obtain ⟨b, hb⟩ : ∃ b, G.next = b := ⟨_, rfl⟩
  have hbase : G.base ≤ b := hb ▸ hok
  obtain ⟨r1, r2, r3⟩ := hr
  refine callY_of (H := ext G []) (N := 73) (E := E) mixed hl rfl (zip_one (by decide)) ?_
  have h2 : Tryz.f12.body.bind rangeOf = some (_, _) := rfl
  cases hab.trans h2
  simp (maxDischargeDepth := 6) only [hb, hbase, ruW, putL, Nat.reduceLeDiff, xF, ruU, entryE, Nat.reduceLT, Nat.reduceAdd, Nat.reduceMul, Nat.reduceEqDiff]
  clear hab h2
  rw [asgC_normal]
  refine ⟨_, _, (hl.of (ext_get_old hll)).get, rfl, ?_⟩
  rw [ext_setLoop hll]
  generalize hG1 : setLoop G l _ _ = G1
  have mG1 : Mod [p + 0, p + 1, l] G G1 := hG1 ▸ Mod.upd (by simp)
  have hb1 : G1.next = b := by rw [← hG1, setLoop_next, hb]
  have k0 : bk G1 (p + 0) = _ := (hG1 ▸ bk_setLoop (by omega) : bk G1 (p + 0) = bk G (p + 0)).trans h0
  have k1 : bk G1 (p + 1) = _ := (hG1 ▸ bk_setLoop (by omega) : bk G1 (p + 1) = bk G (p + 1)).trans h1
  have k3 : bk G1 (p + 3) = _ := (hG1 ▸ bk_setLoop (by omega) : bk G1 (p + 3) = bk G (p + 3)).trans h3
  have hl1 : LoopAt G1 l _ (rvOf 73 E) := hG1 ▸ LoopAt.set l _ _
  have y0 : p + 0 < b := by omega
  have y1 : p + 1 < b := by omega
  have y3 : p + 3 < b := by omega
  have hrne : decide (r = []) = false := decide_eq_false fun e => by rw [e] at r1; simp at r1
  simp (maxDischargeDepth := 6) only [ruW, putL, Nat.reduceLeDiff, xF, ruU, entryE, Nat.reduceLT, Nat.reduceAdd, Nat.reduceMul, Nat.reduceEqDiff]
  refine (w_eqStr (a := bs r) (b := .empty) (by simp only [ruU, entryE, Nat.reduceLT, Nat.reduceAdd, Nat.reduceMul, Nat.reduceEqDiff]) (by simp only [ruU, entryE, Nat.reduceLT, Nat.reduceAdd, Nat.reduceMul, Nat.reduceEqDiff]) (by simp only [ruU, entryE, Nat.reduceLT, Nat.reduceAdd, Nat.reduceMul, Nat.reduceEqDiff]) (by simp only [ruU, entryE, Nat.reduceLT, Nat.reduceAdd, Nat.reduceMul, Nat.reduceEqDiff]; rfl) (by decide) eqs_none).mpr ?_
  rw [eqs_empty, hrne]
  simp (maxDischargeDepth := 6) only [ruW, putL, Nat.reduceLeDiff, xF, ruU, entryE, Nat.reduceLT, Nat.reduceAdd, Nat.reduceMul, Nat.reduceEqDiff]
  refine (cutSuffix_c (ext G1 []) (bs r) ⟨#[10]⟩ (by rw [bs_size]; omega)).to ?_
  have e1 : Go.Lib.hasSuffix (bs r).data.toList (⟨#[10]⟩ : ByteArray).data.toList = false := by simpa using r3
  have e2 : Go.Lib.trimSuffix (bs r).data.toList (⟨#[10]⟩ : ByteArray).data.toList = r := by
    unfold Go.Lib.trimSuffix
    rw [e1]
    simp
  rw [e1, e2]
  have hd : decide ((1000000 : Int) < (r.length : Int)) = true := decide_eq_true (by omega)
  simp (maxDischargeDepth := 6) only [rb_lenStr u9, bt_lenStr u9, bs_size, hd, ruW, putL, Nat.reduceLeDiff, xF, ruU, entryE, Nat.reduceLT, Nat.reduceAdd, Nat.reduceMul, Nat.reduceEqDiff]
  refine w_drawB [] [] (by kernel_rfl) (by kernel_rfl) rfl fun ops anc hA hG => ?_
  simp (maxDischargeDepth := 6) only [g2, g3, g5, hb1, k0, k1, k3, y0, y1, y3, qk_old, ruD, ruW, putL, Nat.reduceLeDiff, xF, ruU, entryE, Nat.reduceLT, Nat.reduceAdd, Nat.reduceMul, Nat.reduceEqDiff]
  rw [rndC_ret]
  generalize hG2 : uw G1 (p + 0) 0 _ = G2
  have mG2 : Mod [p + 0, p + 1, l] G1 G2 := hG2 ▸ Mod.uw (by simp)
  have hb2 : G2.next = b := by rw [← hG2, uw_next, hb1]
  have j0 : bk G2 (p + 0) = some ⟨23, false, [.slice none 0 0]⟩ := by rw [← hG2, bk_uw_eq, k0]; rfl
  have j1 : bk G2 (p + 1) = some ⟨26, false, [.int .i64 0, .int .i64 0]⟩ := by rw [← hG2, bk_uw_ne (by omega), k1]
  have j3 : bk G2 (p + 3) = some ⟨3, false, [.int .i64 0]⟩ := by rw [← hG2, bk_uw_ne (by omega), k3]
  have hl2 : LoopAt G2 l _ (rvOf 73 E) := hl1.of (hG2 ▸ uw_get (by omega))
  generalize hG3 : uw G2 (p + 1) 0 _ = G3
  have mG3 : Mod [p + 0, p + 1, l] G2 G3 := hG3 ▸ Mod.uw (by simp)
  have hb3 : G3.next = b := by rw [← hG3, uw_next, hb2]
  have i0 : bk G3 (p + 0) = some ⟨23, false, [.slice none 0 0]⟩ := by rw [← hG3, bk_uw_ne (by omega), j0]
  have i1 : bk G3 (p + 1) = some ⟨26, false, [.int .i64 4, .int .i64 0]⟩ := by rw [← hG3, bk_uw_eq, j1]; rfl
  have i3 : bk G3 (p + 3) = some ⟨3, false, [.int .i64 0]⟩ := by rw [← hG3, bk_uw_ne (by omega), j3]
  have hl3 : LoopAt G3 l _ (rvOf 73 E) := hl2.of (hG3 ▸ uw_get (by omega))
  refine ⟨_, _, (hl3.of (G := ext G3 []) rfl).get, rfl, [p + 0, p + 1, p + 3, l], [p + 0, p + 1, l], ?_⟩
  rw [ext_setLoop (by omega)]
  generalize hG4 : setLoop G3 l _ _ = G4
  have mG4 : Mod [p + 0, p + 1, l] G3 G4 := hG4 ▸ Mod.upd (by simp)
  have hb4 : G4.next = b := by rw [← hG4, setLoop_next, hb3]
  have hl4 : LoopAt G4 l _ (rvOf 73 E) := hG4 ▸ LoopAt.set l _ _
  have mA := ((mG1.trans mG2).trans mG3).trans mG4
  have kk : ∀ n, n < l → bk G4 n = bk G3 n := fun n hn => hG4 ▸ bk_setLoop (by omega)
  exact ⟨⟨hpl, by rw [ext_nil, hb4]; omega, rfl, rfl, (kk _ (by omega)).trans i3, (kk _ (by omega)).trans i0, .inr ⟨by simp, hl4, (kk _ (by omega)).trans i1⟩⟩, mA, fun n hn => .inl hn, fun n hn => .inl hn⟩

def yLong {asg bod : Code} (hab : some (asg, bod) = Tryz.f12.body.bind rangeOf) {l p d : Nat} {E : Env} (g2 : E 2 = .pointer (some ⟨p + 0, 0, none⟩)) (g3 : E 3 = .pointer (some ⟨p + 1, 0, none⟩)) (g5 : E 5 = .pointer (some ⟨p + 3, 0, none⟩)) : YldP Tryz.prog l (List UInt8) encS (fun _ => false) 10 preL where
  Inv := LongInv l p (lpPar asg bod d) (rvOf 73 E)
  sub := by
    rintro rs F W G ⟨_, _, rfl, rfl, _⟩ n hn
    simp only [List.mem_cons, List.not_mem_nil, or_false] at hn ⊢
    omega
  dom := by
    rintro rs F W G ⟨hpl, hll, rfl, rfl, h3, h0, hI⟩ n hn
    simp only [List.mem_cons, List.not_mem_nil, or_false] at hn
    have : (∃ lp e, LoopAt G l lp e) ∧ (∃ x, bk G (p + 1) = some x) := by
      rcases hI with ⟨_, h, k⟩ | ⟨_, h, k⟩
      · exact ⟨⟨_, _, h⟩, _, k⟩
      · exact ⟨⟨_, _, h⟩, _, k⟩
    obtain ⟨⟨lp, e, o, hl⟩, ⟨x1, h1⟩⟩ := this
    rcases hn with rfl | rfl | rfl | rfl
    · exact ⟨bk_ne h0, by omega⟩
    · exact ⟨bk_ne h1, by omega⟩
    · exact ⟨bk_ne h3, by omega⟩
    · exact ⟨by rw [hl]; simp, hll⟩
  loc := by
    rintro rs F W G G' ⟨hpl, hll, rfl, rfl, h3, h0, hI⟩ hn hg
    refine ⟨hpl, by omega, rfl, rfl, (bk_get (hg _ (by simp))).trans h3, (bk_get (hg _ (by simp))).trans h0, ?_⟩
    have gl := hg l (by simp)
    have g1 := bk_get (hg (p + 1) (by simp))
    rcases hI with ⟨h, k, m⟩ | ⟨h, k, m⟩
    · exact .inl ⟨h, k.of gl, g1.trans m⟩
    · exact .inr ⟨h, k.of gl, g1.trans m⟩
  step := fun hI hgo _ hok hp => long_step hab g2 g3 g5 hI hgo hok hp

set_option maxHeartbeats 4000000 in
theorem parseLong_c (H : AHeap) (s : List UInt8) (hs : 1000000 < s.length) (hs2 : s.length ≤ 100000000) (hn : Go.Lib.indexByte s 10 = -1) (hx : Go.Lib.hasSuffix s [10] = false) : Pure 12 [.string (bs s)] H (.tuple #[.slice none 0 0, fltV 4 0]) := by
  refine callS_drop (fun wf hsc => ?_) (fun _ _ => rfl)
  obtain ⟨b, hb⟩ : ∃ b, H.next = b := ⟨_, rfl⟩
  have hok := wf.base
  have hbase : H.base ≤ b := hb ▸ hok
  refine callE_fn mixed Tryz.func12 rfl Tryz.ntmps12 (Nat.le_of_ble_eq_true rfl) ?_
  simp (maxDischargeDepth := 6) only [hb, hbase, ruW, putL, Nat.reduceLeDiff, xF, ruU, entryE, Nat.reduceLT, Nat.reduceAdd, Nat.reduceMul, Nat.reduceEqDiff]
  refine (splitSeq_c (ext H _) (bs s) ⟨#[10]⟩).to ?_
  simp (maxDischargeDepth := 6) only [hb, hbase, ext_next, List.length_cons, List.length_nil, ruW, putL, Nat.reduceLeDiff, xF, ruU, entryE, Nat.reduceLT, Nat.reduceAdd, Nat.reduceMul, Nat.reduceEqDiff]
  refine w_env fun E hE => ?_
  have g2 : E 2 = .pointer (some ⟨b + 0, 0, none⟩) := by rw [hE]; simp only [ruU, entryE, Nat.reduceLT, Nat.reduceAdd, Nat.reduceMul, Nat.reduceEqDiff]
  have g3 : E 3 = .pointer (some ⟨b + 1, 0, none⟩) := by rw [hE]; simp only [ruU, entryE, Nat.reduceLT, Nat.reduceAdd, Nat.reduceMul, Nat.reduceEqDiff]
  have g5 : E 5 = .pointer (some ⟨b + 3, 0, none⟩) := by rw [hE]; simp only [ruU, entryE, Nat.reduceLT, Nat.reduceAdd, Nat.reduceMul, Nat.reduceEqDiff]
  have g14 : E 14 = .func (.func 91) ⟨[]⟩ ⟨[.pointer (some ⟨b + 5, 0, none⟩), .pointer (some ⟨b + 4, 0, none⟩), .pointer (some ⟨b + 6, 0, none⟩)]⟩ := by rw [hE]; simp only [ruU, entryE, Nat.reduceLT, Nat.reduceAdd, Nat.reduceMul, Nat.reduceEqDiff]
  clear hE
  generalize hX : ext H _ = X
  have mX : Mod [] H X := hX ▸ Mod.ext hok
  have nX : X.next = b + 7 := by rw [← hX, ext_next, hb]; rfl
  have x0 : bk X (b + 0) = some ⟨23, false, [.slice none 0 0]⟩ := by rw [← hX, bk_at hb (by simp)]; rfl
  have x1 : bk X (b + 1) = some ⟨26, false, [.int .i64 0, .int .i64 0]⟩ := by rw [← hX, bk_at hb (by simp)]; rfl
  have x3 : bk X (b + 3) = some ⟨3, false, [.int .i64 0]⟩ := by rw [← hX, bk_at hb (by simp)]; rfl
  have x4 : bk X (b + 4) = some ⟨9, false, [.string (bs s)]⟩ := by rw [← hX, bk_at hb (by simp)]; rfl
  have x5 : bk X (b + 5) = some ⟨9, false, [.string (bs [10])]⟩ := by rw [← hX, bk_at hb (by simp)]; rfl
  have x6 : bk X (b + 6) = some ⟨3, false, [.int .i64 1]⟩ := by rw [← hX, bk_at hb (by simp)]; rfl
  refine w_rangeK (f := 91) (ca := [.pointer (some ⟨b + 5, 0, none⟩), .pointer (some ⟨b + 4, 0, none⟩), .pointer (some ⟨b + 6, 0, none⟩)]) (mX.ok hok) (by decide) g14 (by kernel_rfl) fun K hlp hdf mK hbK => ?_
  replace mK := mK []
  rw [nX] at hlp hdf hbK ⊢
  have mHK := mX.trans mK
  have kk : ∀ n, n < b + 7 → bk K n = bk X n := fun n hn => mK.bk (by omega) (by simp)
  have hI : (yLong (l := b + 7 + 1) (p := b) (d := b + 7) rfl g2 g3 g5).Inv [] [b + 0, b + 1, b + 3, b + 7 + 1] [b + 0, b + 1, b + 7 + 1] K :=
    ⟨by omega, by omega, rfl, rfl, (kk _ (by omega)).trans x3, (kk _ (by omega)).trans x0, .inl ⟨rfl, hlp, (kk _ (by omega)).trans x1⟩⟩
  have hln := lines_none hn
  refine (lines_c _ K (b + 5) (b + 4) (b + 6) s _ _ hI (mHK.ok hok) (fun x hx' => ?_) hs2 (by rw [hln]; simp) ((kk _ (by omega)).trans x5) ((kk _ (by omega)).trans x4) ((kk _ (by omega)).trans x6) (by omega) (by omega) (by omega) (by simp) (by simp) (by simp) (by omega) (by omega)).mono ?_
  · rw [hln, List.mem_singleton] at hx'
    rw [hx']
    exact ⟨hs, hs2, hx⟩
  rintro _ K1 ⟨rfl, F1, W1, hI1, m1⟩
  rw [hln, upto, if_neg (by simp)] at hI1
  obtain ⟨_, hll1, rfl, rfl, i3, i0, ⟨h, _⟩ | ⟨_, hl1, i1⟩⟩ := hI1
  · simp at h
  have hdK1 : K1.get (b + 7) = K.get (b + 7) := m1.get (b + 7) (by omega) (by simp)
  refine ⟨_, _, _, hl1.get, by simp [lpPar], rfl, ?_⟩
  generalize hK2 : setLoop K1 (b + 7 + 1) _ _ = K2
  have nK2 : K2.next = K1.next := hK2 ▸ rfl
  have c0 : bk K2 (b + 0) = _ := (hK2 ▸ bk_setLoop (by omega) : bk K2 (b + 0) = bk K1 (b + 0)).trans i0
  have c1 : bk K2 (b + 1) = _ := (hK2 ▸ bk_setLoop (by omega) : bk K2 (b + 1) = bk K1 (b + 1)).trans i1
  have hdK2 : K2.get (b + 7) = K1.get (b + 7) := hK2 ▸ setLoop_get (by omega)
  have mK2 : Mod [b + 7 + 1] K1 K2 := hK2 ▸ Mod.upd (by simp)
  rw [show K2 = ext K2 [] from rfl]
  simp (maxDischargeDepth := 6) only [ruW, putL, Nat.reduceLeDiff, xF, ruU, entryE, Nat.reduceLT, Nat.reduceAdd, Nat.reduceMul, Nat.reduceEqDiff]
  refine lv_mark ⟨_, _, hdK2.trans (hdK1.trans hdf)⟩ ?_
  rw [ext_nil]
  generalize hK5 : K2.upd (b + 7) _ = K5
  have mK5 : Mod [b + 7] K2 K5 := hK5 ▸ Mod.upd (by simp)
  have nK5 : K5.next = K1.next := (hK5 ▸ rfl : K5.next = K2.next).trans nK2
  have e0 : bk K5 (b + 0) = _ := (bk_get (by rw [← hK5, AHeap.get_upd, if_neg (by omega)])).trans c0
  have e1 : bk K5 (b + 1) = _ := (bk_get (by rw [← hK5, AHeap.get_upd, if_neg (by omega)])).trans c1
  have l0 : b + 0 < K1.next := by omega
  have l1 : b + 1 < K1.next := by omega
  rw [show K5 = ext K5 [] from rfl]
  simp (maxDischargeDepth := 6) only [Tryz.results12, g2, g3, nK5, l0, l1, e0, e1, ruW, putL, Nat.reduceLeDiff, xF, ruU, entryE, Nat.reduceLT, Nat.reduceAdd, Nat.reduceMul, Nat.reduceEqDiff]
  refine ⟨trivial, ?_⟩
  refine ((mHK.step m1 hok (fun n hn => ?_)).step mK2 hok (fun n hn => ?_)).step mK5 hok (fun n hn => ?_) <;> (simp only [List.mem_cons, List.not_mem_nil, or_false] at hn; right; omega)
end Go.Proofs.YtnigelgcjfhghaaGreatDoor

/- Walks: panics, deferred functions. -/
namespace Go.Ax
section
variable {P : Program} {ro : Option Nat} {H : AHeap} {N : Nat} {E : Env} {ds : List Deferred} {Q : Exit → AAct → AHeap → Prop}

theorem opC_error {ops : Array Oper} {rest : List Oper} {a : AAct} {dst : Option Nat} {ch : List PanicEntry} : opC P ro ops rest a dst Q (.error ch) H = Q (.panic ch) a H := by simp only [opC]
theorem joinR_panic {J : Env → AHeap → Prop} {a : AAct} {ch : List PanicEntry} : joinR N ds J Q (.panic ch) a H = Q (.panic ch) a H := Eq.trans rfl rfl
theorem endA_panic {fn : Func} {R : Out → AHeap → Prop} {ch : List PanicEntry} : endA P fn R (.panic ch) (mkA N E ds) H = leaveA P fn (mkA N E ds) ds (.panicking ch) H R := Eq.trans rfl rfl
theorem lv_panic {fn : Func} {a : AAct} {R : Out → AHeap → Prop} {ch : List PanicEntry} : leaveA P fn a [] (.panicking ch) H R = R (.error ch) H := by simp only [leaveA]

def panC (Q : Exit → AAct → AHeap → Prop) (a : AAct) (H : AHeap) : Value → Prop
  | .iface t y => Q (.panic [{ v := .iface t y, recovered := false }]) a H
  | _ => False
theorem panC_iface {a : AAct} {t : TypeId} {y : Value} : panC Q a H (.iface t y) = Q (.panic [{ v := .iface t y, recovered := false }]) a H := by simp only [panC]
theorem w_panic {ops : Array Oper} {rest : List Oper} {dst : Option Nat} {ty : TypeId} {pos : String} {after : Array Edge} {x : Operand} (hx : opOk P N x = true) : wpOps P ro ops (⟨dst, .panic x, ty, pos, after, none⟩ :: rest) (mkA N E ds) H Q = panC Q (mkA N E ds) H (opv E x) := by
  rw [w_op rfl rfl]
  simp only [opA, aop, xPanic, aeval_opv hx, Option.bind_eq_bind, Option.bind_some]
  cases opv E x <;> simp only [panicV, nextA, opC, panC]

theorem CallS.panics {f : FuncId} {args : List Value} {ch : List PanicEntry} {R : Out → AHeap → Prop} (h : CallS P f args H (.error ch) H) (hR : R (.error ch) H) : CallA P f args H R := ⟨_, _, h, hR⟩

theorem settle_returning : settle .returning = .returning := rfl
end
end Go.Ax

/- Check of a code with too many constants: the verifier's first steps, the deferred recover. -/
namespace Go.Ax
section
variable {P : Program} {rec : Rec} {H H1 g : AHeap} {a a1 : AAct} {u u1 : FrameMode}
theorem runSeq_ok {top : Bool} {ops : Array Oper} {o : Oper} {rest : List Oper} {v : Value} (hw : wantA ops a o = some true) (ho : opF P rec a H o = some (.ok v, g)) : runSeq P rec top ops (o :: rest) a H = runSeq P rec top ops rest (a.put o.dst v) g := by simp only [runSeq, hw, ho]
theorem runS_seq {x y : Code} (h : runS P rec x a u H = some (.normal, a1, u1, H1)) : runS P rec (.seq x y) a u H = runS P rec y a1 u1 H1 := by simp only [runS, h]
theorem runS_cond {c : Operand} {x y : Code} (h : aeval P a c = some (.bool true)) : runS P rec (.cond c x y) a u H = runS P rec x a u H := by simp only [runS, h]
theorem runS_reg {id : Nat} {ops : Array Oper} {e : Exit} (hn : (ops.toList.any fun o => isRec o.op) = false) (h : rec.run none (.region id ops false) a H = some (e, a1, H1)) : runS P rec (.region id ops false) a u H = some (e, a1, u, H1) := by
  simp only [runS, hn, h, Option.map_some]
theorem runS_rec {id : Nat} {ops : Array Oper} (hn : (ops.toList.any fun o => isRec o.op) = true) : runS P rec (.region id ops false) a u H = runOpsS P ops ops.toList a u H := by
  simp only [runS, hn]
theorem opF_store {o : Oper} {t : TypeId} {x y : Operand} {p v : Value} (ho : o.op = .store t x y) (hx : aeval P a x = some p) (hy : aeval P a y = some v) (h : aStore P H t p v = some g) : opF P rec a H o = some (.ok undef, g) := by
  simp only [opF, ho, aop, xStore, hx, hy, Option.bind_eq_bind, Option.bind_some, h, ruh, Option.map_some, doN]
theorem opF_load {o : Oper} {t : TypeId} {x : Operand} {p v : Value} (ho : o.op = .load t x) (hx : aeval P a x = some p) (h : aLoad P H t p = some v) : opF P rec a H o = some (.ok v, H) := by
  simp only [opF, ho, aop, xLoad, hx, Option.bind_eq_bind, Option.bind_some, h, rv, Option.map_some, doN]
end
section
variable {P : Program} {ro : Option Nat} {H : AHeap} {N : Nat} {E : Env} {ds : List Deferred} {ops : Array Oper} {rest : List Oper} {ty : TypeId} {pos : String} {after : Array Edge} {Q : Exit → AAct → AHeap → Prop}
theorem w_deferV {f : FuncId} {x : Operand} {args : List Operand} {ts : Array TypeId} {ca : List Value} (hx : opOk P N x = true) (hv : opv E x = .func (.func f) ⟨[]⟩ ⟨ca⟩) (ha : args.all (opOk P N) = true) : wpOps P none ops (⟨none, .defer ⟨.value x, ⟨args⟩, ts⟩, ty, pos, after, none⟩ :: rest) (mkA N E ds) H Q = wpOps P none ops rest (mkA N E (⟨.fn (.func f) ⟨ca⟩, ⟨args.map (opv E)⟩⟩ :: ds)) H Q := by
  simp only [wpOps, wantA, aDefer, aevals_opv ha, aeval_opv hx, hv, Option.bind_eq_bind, Option.bind_some, deferV]
  rfl
end
end Go.Ax
namespace Go.Proofs.YtnigelgcjfhghaaGreatDoor
open Go.Ax
set_option linter.unusedSimpArgs false
set_option maxRecDepth 100000

def faultP (e a : Int) : PanicEntry := { v := .iface 134 (.agg ⟨[.int .i64 e, .int .i64 a]⟩), recovered := false }
theorem fail_f (H : AHeap) (e a : Int) : Pure 73 [.bool false, .int .i64 e, .int .i64 a] H (.tuple #[]) := by
  refine callS_fn mixed Tryz.func73 rfl Tryz.ntmps73 (Nat.le_of_ble_eq_true rfl) fun wf hsc => ?_
  simp (maxDischargeDepth := 6) only [Tryz.results73, ruW, putL, Nat.reduceLeDiff, xF, ruU, entryE, Nat.reduceLT, Nat.reduceAdd, Nat.reduceMul, Nat.reduceEqDiff]
  exact Fin.pureE rfl rfl
theorem fail_t (H : AHeap) (e a : Int) (R : Out → AHeap → Prop) (hR : R (.error [faultP e a]) H) : CallA Tryz.prog 73 [.bool true, .int .i64 e, .int .i64 a] H R := by
  refine callE_fn mixed Tryz.func73 rfl Tryz.ntmps73 (Nat.le_of_ble_eq_true rfl) ?_
  simp (maxDischargeDepth := 6) only [w_panic, panC_iface, seqC_panic, endA_panic, lv_panic, ruW, putL, Nat.reduceLeDiff, xF, ruU, entryE, Nat.reduceLT, Nat.reduceAdd, Nat.reduceMul, Nat.reduceEqDiff]
  rw [ext_nil]
  exact hR

def longC (sl : Value) : List Value := [.int .i64 0, .int .i64 (-1), .int .i64 5, .slice none 0 0, sl]

set_option maxHeartbeats 4000000 in
theorem static_long (H : AHeap) (v n m : Nat) (a : Option Addr) (c : Nat) (hm : 65536 < m) (l q ix : Value) (hv : bk H v = some ⟨90, false, longC (.slice a m c) ++ [l, ix, .map (some n), q]⟩) (hvl : v < H.next) (hsc : scb H.next (.slice a m c) = true) (hok : H.base ≤ H.next) :
    CallA Tryz.prog 72 [.pointer (some ⟨v, 0, none⟩)] H (fun out X => out = .error [faultP 3 0] ∧ Mod [] H X) := by
  obtain ⟨b, hb⟩ : ∃ b, H.next = b := ⟨_, rfl⟩
  have hbase : H.base ≤ b := hb ▸ hok
  rw [hb] at hvl hsc
  simp only [longC, List.cons_append, List.nil_append] at hv
  have c1 : decide ((-1 : Int) = -1) = true := by decide
  have c2 : decide ((0 : Int) < 0) = false := by decide
  have c3 : decide ((255 : Int) < 0) = false := by decide
  have c4 : decide ((5 : Int) < 0) = false := by decide
  have c5 : decide ((1000 : Int) < 5) = false := by decide
  have c6 : decide ((65536 : Int) < (m : Int)) = true := decide_eq_true (by omega)
  refine callE_fn mixed Tryz.func72 rfl Tryz.ntmps72 (Nat.le_of_ble_eq_true rfl) ?_
  simp (maxDischargeDepth := 6) only [hb, hbase, hv, hvl, hsc, c1, c2, c3, c4, c5, c6, decide_true, decide_false, Bool.not_true, ruW, putL, Nat.reduceLeDiff, xF, ruU, entryE, Nat.reduceLT, Nat.reduceAdd, Nat.reduceMul, Nat.reduceEqDiff]
  refine fail_t _ 3 0 _ ?_
  simp only [opC_error, seqC_panic, blockC_panic, loopC_panic, joinR_panic, endA_panic, lv_panic]
  exact ⟨trivial, Mod.ext hok⟩

def rg71 (q : Nat) : AAct := ⟨{ RV.ofList [.pointer (some ⟨q, 0, none⟩)] with n := 16 }, []⟩
def faultR (e a : Int) : PanicEntry := { faultP e a with recovered := true }

theorem st134 (H : AHeap) (hok : H.base ≤ H.next) (e a : Int) : aStore Tryz.prog (H.new (Bl.obj ⟨134, false, [.int .i64 0, .int .i64 0]⟩)) 134 (.pointer (some ⟨H.next, 0, none⟩)) (.agg #[.int .i64 e, .int .i64 a]) = some (ext H [⟨134, false, [.int .i64 e, .int .i64 a]⟩]) := by
  have h := store_new (P := Tryz.prog) (H := H) (L := [⟨134, false, [.int .i64 0, .int .i64 0]⟩]) (b := H.next) (i := 0) (off := 0) (t := 134) (v := .agg #[.int .i64 e, .int .i64 a]) rfl hok (by decide)
  have hs : stB Tryz.prog 134 (H.next + 1) 0 (.agg #[.int .i64 e, .int .i64 a]) (some ⟨134, false, [.int .i64 0, .int .i64 0]⟩) = some ⟨134, false, [.int .i64 e, .int .i64 a]⟩ := by
    rw [stB_ok (v := .agg #[.int .i64 e, .int .i64 a]) (by kernel_rfl) (by simp [Value.cells]) rfl rfl]
    rfl
  simp only [List.length_singleton, List.getElem?_cons_zero, hs, Option.map_some, List.set_cons_zero, Nat.add_zero] at h
  exact h

theorem ld134 (H : AHeap) (e a : Int) : aLoad Tryz.prog (ext H [⟨134, false, [.int .i64 e, .int .i64 a]⟩]) 134 (.pointer (some ⟨H.next, 0, none⟩)) = some (.agg #[.int .i64 e, .int .i64 a]) := by
  have h : rk (ext H [⟨134, false, [.int .i64 e, .int .i64 a]⟩]) (H.next + 0) = some ⟨134, false, [.int .i64 e, .int .i64 a]⟩ := rk_of (by rw [bk_at rfl (by simp)]; rfl)
  rw [load_bk]
  show ldB Tryz.prog 134 0 (rk (ext H [⟨134, false, [.int .i64 e, .int .i64 a]⟩]) (H.next + 0)) = _
  rw [h, ld_agg (by kernel_rfl), show szOf Tryz.prog 134 = some 2 by kernel_rfl, Option.bind_some, if_pos (by simp)]
  rfl
theorem st26 (H : AHeap) (q : Nat) (x y e a : Int) (hq : bk H q = some ⟨26, false, [.int .i64 x, .int .i64 y]⟩) (hl : q < H.next) (L : List Bl) : aStore Tryz.prog (ext H L) 26 (.pointer (some ⟨q, 0, none⟩)) (.agg #[.int .i64 e, .int .i64 a]) = some (ext (uw H q 0 [.int .i64 e, .int .i64 a]) L) := by
  rw [store_old hl]
  rw [hq]
  rfl

theorem exec71 (H : AHeap) (hok : H.base ≤ H.next) (q : Nat) (x y e a : Int) (hq : bk H q = some ⟨26, false, [.int .i64 x, .int .i64 y]⟩) (hl : q < H.next) : enterD Tryz.prog (recX Tryz.prog) 71 [.pointer (some ⟨q, 0, none⟩)] (.panicking [faultP e a]) H = some (.ok (.tuple ⟨[]⟩), .panicking [faultR e a], ext (uw H q 0 [.int .i64 e, .int .i64 a]) [⟨134, false, [.int .i64 e, .int .i64 a]⟩]) := by
  have hr : ∃ e1, runS Tryz.prog (recX Tryz.prog) (Tryz.f71.body.getD .skip) (rg71 q) (.panicking [faultP e a]) H = some (.normal, ⟨e1, []⟩, .panicking [faultR e a], ext (uw H q 0 [.int .i64 e, .int .i64 a]) [⟨134, false, [.int .i64 e, .int .i64 a]⟩]) := by
    show ∃ e1, runS Tryz.prog (recX Tryz.prog) (.seq _ (.seq _ (.cond _ (.seq _ (.seq _ _)) _))) (rg71 q) (.panicking [faultP e a]) H = _
    apply Exists.intro
    refine (runS_seq ((runS_rec rfl).trans rfl)).trans ?_
    refine (runS_seq (runS_reg rfl rfl)).trans ?_
    refine (runS_cond rfl).trans ?_
    refine (runS_seq (runS_reg rfl (Eq.trans (show (recX Tryz.prog).run none _ _ H = runSeq Tryz.prog (exec Tryz.prog (fun _ _ _ => none) 59) true _ _ _ H from rfl) ((runSeq_ok rfl rfl).trans ((runSeq_ok rfl rfl).trans ((runSeq_ok rfl rfl).trans ((runSeq_ok rfl rfl).trans ((runSeq_ok rfl rfl).trans ((runSeq_ok rfl rfl).trans ((runSeq_ok rfl (opF_store rfl rfl rfl (st134 H hok e a))).trans ((runSeq_ok rfl rfl).trans rfl))))))))))).trans ?_
    refine (runS_seq ((runS_seq (runS_reg rfl rfl)).trans rfl)).trans ?_
    refine (runS_reg rfl (Eq.trans (show (recX Tryz.prog).run none _ _ (ext H _) = runSeq Tryz.prog (exec Tryz.prog (fun _ _ _ => none) 59) true _ _ _ (ext H _) from rfl) ((runSeq_ok rfl (opF_load rfl rfl (ld134 H e a))).trans ((runSeq_ok rfl (opF_store rfl rfl rfl (st26 H q x y e a hq hl _))).trans rfl)))).trans ?_
    rfl
  obtain ⟨e1, hr⟩ := hr
  have hb : Tryz.f71.body = some (Tryz.f71.body.getD .skip) := rfl
  simp only [enterD, Tryz.func71, Option.bind_eq_bind, Option.bind_some]
  rw [hb, Option.bind_some]
  show (runS Tryz.prog (recX Tryz.prog) (Tryz.f71.body.getD .skip) (rg71 q) _ H).bind _ = _
  rw [hr]
  rfl

set_option maxHeartbeats 4000000 in
theorem verify_long (H : AHeap) (a : Option Addr) (m c : Nat) (hm : 65536 < m) (hsc : scb H.next (.slice a m c) = true) (hok : H.base ≤ H.next) :
    CallA Tryz.prog 45 [.agg ⟨longC (.slice a m c)⟩] H (fun out X => (∃ v, out = .ok (.tuple #[v, fltV 3 0])) ∧ Mod [] H X) := by
  obtain ⟨b, hb⟩ : ∃ b, H.next = b := ⟨_, rfl⟩
  have hbase : H.base ≤ b := hb ▸ hok
  rw [hb] at hsc
  refine callE_fn mixed Tryz.func45 rfl Tryz.ntmps45 (Nat.le_of_ble_eq_true rfl) ?_
  simp (maxDischargeDepth := 6) only [longC, hb, hbase, hsc, w_mkmap, ruW, putL, Nat.reduceLeDiff, xF, ruU, entryE, Nat.reduceLT, Nat.reduceAdd, Nat.reduceMul, Nat.reduceEqDiff]
  generalize hX : AHeap.new _ (mapO [] 0) = X
  have h2 : (ext H [⟨33, false, [.int .i64 0, .int .i64 (-1), .int .i64 5, .slice none 0 0, .slice a m c]⟩, ⟨26, false, [.int .i64 0, .int .i64 0]⟩]).next = b + 2 := by rw [ext_next, hb]; rfl
  have m1 : Mod [] H (ext H [⟨33, false, [.int .i64 0, .int .i64 (-1), .int .i64 5, .slice none 0 0, .slice a m c]⟩, ⟨26, false, [.int .i64 0, .int .i64 0]⟩]) := Mod.ext hok
  have m2 : Mod [] (ext H [⟨33, false, [.int .i64 0, .int .i64 (-1), .int .i64 5, .slice none 0 0, .slice a m c]⟩, ⟨26, false, [.int .i64 0, .int .i64 0]⟩]) X := hX ▸ Mod.new (m1.ok hok)
  have mX := m1.trans m2
  have k1 : bk X (b + 1) = some ⟨26, false, [.int .i64 0, .int .i64 0]⟩ := (m2.bk (by rw [h2]; omega) (by simp)).trans (by rw [bk_at hb (by simp)]; rfl)
  have nX : X.next = b + 3 := by rw [← hX]; simp only [AHeap.new_eq]; rw [h2]
  have xb : X.base ≤ b + 3 := nX ▸ mX.ok hok
  clear hX
  rw [show X = ext X [] from rfl]
  have hsc3 : scb (b + 3) (.slice a m c) = true := scb_mono (by omega) _ hsc
  have hmp : scb (b + 3) (.map (some (b + 2))) = true := by simp [scb]
  have hmn : scb (b + 3) (.map none) = true := by simp [scb]
  simp (maxDischargeDepth := 6) only [nX, xb, hsc3, hmp, hmn, ruW, putL, Nat.reduceLeDiff, xF, ruU, entryE, Nat.reduceLT, Nat.reduceAdd, Nat.reduceMul, Nat.reduceEqDiff]
  refine Eq.mpr (w_deferV (f := 71) (ca := [.pointer (some ⟨b + 1, 0, none⟩)]) (by simp only [ruU, entryE, Nat.reduceLT, Nat.reduceAdd, Nat.reduceMul, Nat.reduceEqDiff]) (by simp only [ruU, entryE, Nat.reduceLT, Nat.reduceAdd, Nat.reduceMul, Nat.reduceEqDiff]) (by simp only [ruU, entryE, Nat.reduceLT, Nat.reduceAdd, Nat.reduceMul, Nat.reduceEqDiff])) ?_
  simp (maxDischargeDepth := 6) only [List.map_nil, ruW, putL, Nat.reduceLeDiff, xF, ruU, entryE, Nat.reduceLT, Nat.reduceAdd, Nat.reduceMul, Nat.reduceEqDiff]
  generalize hY : ext X _ = Y
  have mY : Mod [] X Y := hY ▸ Mod.ext (mX.ok hok)
  have nY : Y.next = b + 4 := by rw [← hY, ext_next, nX]; rfl
  have kY : bk Y (b + 3) = some ⟨90, false, longC (.slice a m c) ++ [.slice none 0 0, .map none, .map (some (b + 2)), .slice none 0 0]⟩ := by
    have := bk_at (H := X) (L := [⟨90, false, longC (.slice a m c) ++ [.slice none 0 0, .map none, .map (some (b + 2)), .slice none 0 0]⟩]) (i := 0) nX (by simp)
    rw [← hY]
    exact this
  have k1Y := (mY.bk (by omega) (by simp)).trans k1
  have okY := mY.ok (mX.ok hok)
  rw [show Y = ext Y [] from rfl]
  refine (static_long Y (b + 3) (b + 2) m a c hm _ _ _ kY (by omega) (by rw [nY]; exact scb_mono (by omega) _ hsc) okY).mono ?_
  rintro _ Z ⟨rfl, mZ⟩
  simp only [opC_error, seqC_panic, blockC_panic, loopC_panic, joinR_panic, endA_panic]
  have k1Z := (mZ.bk (by omega) (by simp)).trans k1Y
  have okZ := mZ.ok okY
  have lZ : b + 1 < Z.next := by have := mZ.next; omega
  refine ⟨by kernel_rfl, _, _, _, exec71 Z okZ (b + 1) 0 0 3 0 k1Z lZ, ?_⟩
  rw [show settle (.panicking [faultR 3 0]) = .returning by rfl]
  generalize hW : uw Z (b + 1) 0 _ = W
  have mW : Mod [b + 1] Z W := hW ▸ Mod.uw (by simp)
  have kW : bk W (b + 1) = some ⟨26, false, [.int .i64 3, .int .i64 0]⟩ := by rw [← hW, bk_uw_eq, k1Z]; rfl
  have lW : b + 1 < W.next := by rw [← hW, uw_next]; exact lZ
  have okW := mW.ok okZ
  have mm : Mod [] H W := ((mX.trans mY).trans mZ).step mW hok fun n hn => by simp only [List.mem_singleton] at hn; exact .inr (by omega)
  simp (maxDischargeDepth := 6) only [Tryz.results45, lW, kW, ruW, putL, Nat.reduceLeDiff, xF, ruU, entryE, Nat.reduceLT, Nat.reduceAdd, Nat.reduceMul, Nat.reduceEqDiff]
  refine ⟨⟨_, rfl⟩, mm.trans (Mod.ext okW)⟩

set_option maxHeartbeats 4000000 in
theorem checkLong_c (H : AHeap) (a : Option Addr) (m c : Nat) (hm : 65536 < m) : Pure 19 [.agg ⟨longC (.slice a m c)⟩] H (fltV 3 0) := by
  refine callS_drop (fun wf hsc => ?_) (fun _ _ => rfl)
  obtain ⟨b, hb⟩ : ∃ b, H.next = b := ⟨_, rfl⟩
  have hok := wf.base
  have hbase : H.base ≤ b := hb ▸ hok
  have hs : scb b (.slice a m c) = true := by
    rw [scbL_iff] at hsc
    have h := hsc _ (List.mem_singleton.2 rfl)
    rw [hb] at h
    have h' : (true && (true && (true && (scb b (.slice none 0 0) && (scb b (.slice a m c) && true))))) = true := h
    simp only [Bool.and_eq_true] at h'
    exact h'.2.2.2.2.1
  refine callE_fn mixed Tryz.func19 rfl Tryz.ntmps19 (Nat.le_of_ble_eq_true rfl) ?_
  simp (maxDischargeDepth := 6) only [longC, hb, hbase, hs, ruW, putL, Nat.reduceLeDiff, xF, ruU, entryE, Nat.reduceLT, Nat.reduceAdd, Nat.reduceMul, Nat.reduceEqDiff]
  generalize hY : ext H _ = Y
  have mY : Mod [] H Y := hY ▸ Mod.ext hok
  have nY : Y.next = b + 2 := by rw [← hY, ext_next, hb]; rfl
  have kY : bk Y (b + 1) = some ⟨26, false, [.int .i64 0, .int .i64 0]⟩ := by rw [← hY, bk_at hb (by simp)]; rfl
  have okY := mY.ok hok
  clear hY
  refine (verify_long Y a m c hm (by rw [nY]; exact scb_mono (by omega) _ hs) okY).mono ?_
  rintro _ Z ⟨⟨v, rfl⟩, mZ⟩
  obtain ⟨z, hz⟩ : ∃ z, Z.next = z := ⟨_, rfl⟩
  have zb : Z.base ≤ z := hz ▸ mZ.ok okY
  have kZ := (mZ.bk (by omega) (by simp)).trans kY
  have lZ : b + 1 < z := by have := mZ.next; omega
  have mm := mY.trans mZ
  rw [show Z = ext Z [] from rfl]
  simp (maxDischargeDepth := 6) only [hz, zb, kZ, lZ, Tryz.results19, ruW, putL, Nat.reduceLeDiff, xF, ruU, entryE, Nat.reduceLT, Nat.reduceAdd, Nat.reduceMul, Nat.reduceEqDiff]
  refine ⟨trivial, ?_⟩
  exact (mm.step (W' := [b + 1]) (Mod.uw (by simp)) hok fun n hn => by simp only [List.mem_singleton] at hn; exact .inr (by omega)).trans (Mod.ext (by rw [uw_base, uw_next, hz]; exact zb))
end Go.Proofs.YtnigelgcjfhghaaGreatDoor
