/- Parts of the proof, one behind the other. -/
import Derived.Test.YtnigelgcjfhghaaGreatDoorM4
import Derived.WideShapes
import Derived.ChangeSlices
import Derived.ChangeAnyMap
import GoSem.ClaimJoined
import Derived.Shelf.Spec.SlicesInsertGrow
import Derived.Test.YtnigelgcjfhghaaGreatDoorRows
import Derived.Shelf.Strings.Repeat
set_option linter.all false

/- A call's arguments, one of which is a slice of structs of numbers, truth values and strings: an abstract heap that holds its cells. -/
namespace Go.Ax
open Go.ChangeShapes
section
variable {P : Program} {K : Type} {enc : TypeId × Value → K} {w : World} {base : Nat} {spare : Nat → Bool} {held : Bool}

theorem mapM_each {α β : Type} {g : α → Option β} : ∀ {l : List α} {r : List β}, l.mapM g = some r → ∀ x ∈ l, ∃ y, g x = some y
  | [], _, _, x, hx => by cases hx
  | a :: l, r, h, x, hx => by
    rw [List.mapM_cons] at h
    cases hg : g a with
    | none => rw [hg] at h; cases h
    | some y =>
      rw [hg] at h
      cases hl : l.mapM g with
      | none => simp [hl] at h
      | some r' =>
        rcases List.mem_cons.1 hx with rfl | hx
        · exact ⟨y, hg⟩
        · exact mapM_each hl x hx

theorem fits_append : ∀ {ts us : List TypeId} {a b : List Value}, fits P ts a = true → fits P us b = true → fits P (ts ++ us) (a ++ b) = true
  | [], us, [], b, _, h => h
  | [], _, _ :: _, _, h, _ => by simp [fits] at h
  | _ :: _, _, [], _, h, _ => by simp [fits] at h
  | t :: ts, us, v :: a, b, h, h2 => by
    simp only [fits, Bool.and_eq_true] at h
    simp only [List.cons_append, fits, h.1, fits_append h.2 h2, Bool.and_self]

theorem trod_fieldsF {fuel d : Nat} {cs : List Value} (ih : ∀ (t : TypeId) (ts : List TypeId) (cs : List Value) (x : DataW K × List MemPlace), flat P d t = some ts → szOf P t = some ts.length → DataW.trod enc P w base spare held fuel t cs = some x → fits P ts cs = true) :
    ∀ (fs : List Field) (o : Nat) (ts : List TypeId), flatF P (flat P d) fs o = some ts → (∀ f ∈ fs, ∃ y, DataW.trod enc P w base spare held fuel f.type ((cs.drop f.offset).take (P.cellsOf f.type)) = some y) → o + ts.length ≤ cs.length → fits P ts ((cs.drop o).take ts.length) = true
  | [], o, ts, h, _, _ => by
    simp only [flatF, Option.some.injEq] at h
    subst h
    rfl
  | f :: fs, o, ts, h, hy, hle => by
    simp only [flatF] at h
    split at h
    · rename_i hf
      obtain ⟨_, ho⟩ := hf
      cases e1 : flat P d f.type with
      | none => rw [e1] at h; cases h
      | some a =>
        rw [e1] at h
        simp only at h
        split at h
        · rename_i hsz
          cases e2 : flatF P (flat P d) fs (o + a.length) with
          | none => rw [e2] at h; cases h
          | some b =>
            rw [e2] at h
            simp only [Option.some.injEq] at h
            subst h
            rw [List.length_append] at hle
            obtain ⟨y, hy0⟩ := hy f (by simp)
            rw [ho, cellsOf_szOf hsz] at hy0
            have h1 := ih f.type a _ y e1 hsz hy0
            have h2 := trod_fieldsF ih fs (o + a.length) b e2 (fun g hg => hy g (by simp [hg])) (by omega)
            have : (cs.drop o).take (a ++ b).length = (cs.drop o).take a.length ++ (cs.drop (o + a.length)).take b.length := by
              rw [List.length_append, List.take_add, List.drop_drop]
            rw [this]
            exact fits_append h1 h2
        · cases h
    · cases h

theorem trod_fits : ∀ (fuel d : Nat) (t : TypeId) (ts : List TypeId) (cs : List Value) (x : DataW K × List MemPlace), flat P d t = some ts → szOf P t = some ts.length → DataW.trod enc P w base spare held fuel t cs = some x → fits P ts cs = true
  | 0, _, _, _, _, _, _, _, h => by simp [DataW.trod] at h
  | _ + 1, 0, _, _, _, _, h, _, _ => by simp [flat] at h
  | fuel + 1, d + 1, t, ts, cs, x, hf, hs, h => by
    simp only [flat] at hf
    unfold DataW.trod at h
    cases e : P.underlying t with
    | none => rw [e] at hf; cases hf
    | some td =>
      rw [e] at hf h
      cases td with
      | bool =>
        simp only [Option.some.injEq] at hf
        subst hf
        split at h <;> first | cases h | skip
        all_goals first | (rename_i hh; cases hh; done) | skip
        all_goals simp_all [fits, fit1]
      | int k =>
        simp only [Option.some.injEq] at hf
        subst hf
        split at h <;> simp_all [fits, fit1]
      | string =>
        simp only [Option.some.injEq] at hf
        subst hf
        split at h <;> simp_all [fits, fit1]
      | struct fs =>
        simp only at hf
        split at hf
        · cases hf
        · simp only at h
          split at h
          · rename_i hlen
            rw [cellsOf_szOf hs] at hlen
            cases hm : fs.toList.mapM fun f => DataW.trod enc P w base spare held fuel f.type ((cs.drop f.offset).take (P.cellsOf f.type)) with
            | none => rw [hm] at h; cases h
            | some xs =>
              have := trod_fieldsF (cs := cs) (fun t ts cs x => trod_fits fuel d t ts cs x) fs.toList 0 ts hf (mapM_each hm) (by omega)
              rw [List.drop_zero, List.take_of_length_le (by omega)] at this
              exact this
          · cases h
      | _ => simp at hf

theorem trod_slice {fuel : Nat} {t e : TypeId} {ts : List TypeId} {D : Nat} (ht : P.underlying t = some (.slice e)) (hsz : szOf P e = some ts.length) (hfl : flat P D e = some ts) {b off len cap : Nat} {x : DataW K × List MemPlace}
    (h : DataW.trod enc P w 0 spare held fuel t [.slice (some ⟨b, off, none⟩) len cap] = some x) (hnf : w.noneFrozen x.2) :
    len ≤ cap ∧ (len * ts.length = 0 ∨ ∃ (c : Array Value) (e' : TypeId) (fz : Nat × Nat) (vs : List Value), w.heap[b]? = some (.cells c e' fz) ∧ vs.length = len * ts.length ∧ (∀ i, i < vs.length → c[off + i]? = some (vs.getD i undef)) ∧
      (∀ i, i < len → fits P ts ((vs.drop (i * ts.length)).take ts.length) = true) ∧ ∀ i, off ≤ i → i < off + len * ts.length → ¬ (fz.1 ≤ i ∧ i < fz.2)) := by
  cases fuel with
  | zero => simp [DataW.trod] at h
  | succ fuel =>
    unfold DataW.trod at h
    rw [ht] at h
    simp only [cellsOf_szOf hsz] at h
    split at h
    · rename_i hc
      refine ⟨hc.2.1, ?_⟩
      by_cases h0 : len * ts.length = 0
      · exact .inl h0
      right
      cases hm : (List.range len).mapM fun i => (w.cells? 0 ((⟨b, off, none⟩ : Addr).add (i * ts.length)) ts.length).bind (DataW.trod enc P w 0 spare held fuel e) with
      | none => rw [hm] at h; cases h
      | some elems =>
        rw [hm, Option.bind_some] at h
        have hel : elems.length = len := by have := mapM_len hm; simpa using this
        have each : ∀ i, i < len → ∃ cs y, w.cells? 0 ((⟨b, off, none⟩ : Addr).add (i * ts.length)) ts.length = some cs ∧ DataW.trod enc P w 0 spare held fuel e cs = some y := fun i hi => by
          obtain ⟨y, hy⟩ := mapM_each hm i (by simpa using hi)
          cases hcs : w.cells? 0 ((⟨b, off, none⟩ : Addr).add (i * ts.length)) ts.length with
          | none => rw [hcs] at hy; cases hy
          | some cs => rw [hcs] at hy; exact ⟨cs, y, rfl, hy⟩
        have cell : ∀ i, i < len * ts.length → ∃ v, w.cell? ⟨b, off + i, none⟩ = some v := fun i hi => by
          have hp : 0 < ts.length := Nat.pos_of_ne_zero fun h => h0 (by rw [h, Nat.mul_zero])
          have hq : i / ts.length < len := (Nat.div_lt_iff_lt_mul hp).2 hi
          obtain ⟨cs, y, hcs, _⟩ := each _ hq
          unfold World.cells? at hcs
          rw [if_pos (Nat.zero_le _)] at hcs
          obtain ⟨v, hv⟩ := mapM_each hcs (i % ts.length) (by simpa using Nat.mod_lt _ hp)
          rw [addr_add, addr_add] at hv
          have : off + i / ts.length * ts.length + i % ts.length = off + i := by rw [Nat.add_assoc, Nat.mul_comm, Nat.div_add_mod]
          rw [this] at hv
          exact ⟨v, hv⟩
        obtain ⟨v0, hv0⟩ := cell 0 (by omega)
        unfold World.cell? at hv0
        cases hb : w.heap[b]? with
        | none => simp [hb] at hv0
        | some o =>
          cases o with
          | cells c e' fz =>
            have cell' : ∀ i, i < len * ts.length → ∃ v, c[off + i]? = some v := fun i hi => by
              obtain ⟨v, hv⟩ := cell i hi
              simp only [World.cell?, hb] at hv
              exact ⟨v, by simpa using hv⟩
            obtain ⟨vs, hvs⟩ : ∃ vs : List Value, vs = (List.range (len * ts.length)).map fun i => (c[off + i]?).getD undef := ⟨_, rfl⟩
            have hvl : vs.length = len * ts.length := by simp [hvs]
            have hvg : ∀ i, i < vs.length → c[off + i]? = some (vs.getD i undef) := fun i hi => by
              rw [hvl] at hi
              obtain ⟨v, hv⟩ := cell' i hi
              simp [hvs, hi, hv, List.getD_eq_getElem?_getD]
            refine ⟨c, e', fz, vs, rfl, hvl, hvg, fun i hi => ?_, fun i h1 h2 => ?_⟩
            · obtain ⟨cs, y, hcs, hy⟩ := each i hi
              have hcs' : (vs.drop (i * ts.length)).take ts.length = cs := by
                unfold World.cells? at hcs
                rw [if_pos (Nat.zero_le _)] at hcs
                have hin : i * ts.length + ts.length ≤ len * ts.length := by rw [← Nat.succ_mul]; exact Nat.mul_le_mul_right _ hi
                have hr := mapM_range_of (f := fun j => w.cell? (((⟨b, off, none⟩ : Addr).add (i * ts.length)).add j)) (g := fun j => vs.getD (i * ts.length + j) undef) ts.length (fun j hj => by
                  have h3 := hvg (i * ts.length + j) (by rw [hvl]; omega)
                  rw [addr_add, addr_add, Nat.add_assoc]
                  simp [World.cell?, hb, h3])
                rw [hr] at hcs
                cases hcs
                apply List.ext_getElem?
                intro j
                by_cases hj : j < ts.length
                · rw [List.getElem?_take, if_pos hj, List.getElem?_drop, List.getElem?_map, List.getElem?_range hj, List.getElem?_eq_getElem (by rw [hvl]; omega)]
                  simp only [Option.map_some, List.getD_eq_getElem?_getD]
                  rw [List.getElem?_eq_getElem (by rw [hvl]; omega)]
                  rfl
                · rw [List.getElem?_eq_none (by simp; omega), List.getElem?_eq_none (by simp; omega)]
              rw [hcs']
              exact trod_fits fuel D e ts cs y hfl hsz hy
            · have hmem : MemPlace.cell b i ∈ x.2 := by
                cases hrest : (if spare b then (List.range (cap - len)).mapM fun j => (w.cells? 0 ((⟨b, off, none⟩ : Addr).add ((len + j) * ts.length)) ts.length).bind (DataW.trod enc P w 0 spare held fuel e) else some []) with
                | none => rw [hrest] at h; cases h
                | some rest =>
                  rw [hrest] at h
                  simp only [Option.map_some, Option.some.injEq] at h
                  subst h
                  simp only [List.mem_append]
                  left
                  unfold MemPlace.row
                  rw [List.mem_map]
                  refine ⟨i - off, ?_, by simp only [MemPlace.cell.injEq, true_and]; omega⟩
                  rw [List.mem_range, hel, Nat.add_mul]
                  omega
              have := hnf b i hmem
              intro hh
              simp only [World.frozen?, hb] at this
              simp [hh.1, hh.2] at this
          | _ => simp [hb] at hv0
    · cases h

def enH (N : Nat) (e : TypeId) (vs : List Value) : AHeap := { nw (AHeap.none N) e vs true with base := N + 1 }
theorem enH_next {N : Nat} {e : TypeId} {vs : List Value} : (enH N e vs).next = N + 1 := rfl
theorem enH_bk {N : Nat} {e : TypeId} {vs : List Value} : bk (enH N e vs) N = some ⟨e, true, vs⟩ := by
  have := blk_bk (Blk.nw_new (H := AHeap.none N) e true vs)
  exact this
theorem enH_get {N m : Nat} {e : TypeId} {vs : List Value} (h : m ≠ N) : (enH N e vs).get m = none := by
  have := nw_get (H := AHeap.none N) e vs true (m := m) h
  rw [none_get] at this
  exact this

def enR (N b off : Nat) : Ren := ⟨fun n => if n = N then b else n, fun n => if n = N then off else 0, fun _ => 0, fun _ => .nilIface, fun _ => rfl⟩

theorem rel_en {N b off : Nat} {e : TypeId} {vs : List Value} {c : Array Value} {fz : Nat × Nat} (hN : P.globals.size ≤ N) (hb : w.heap[b]? = some (.cells c e fz)) (hc : ∀ i, i < vs.length → c[off + i]? = some (vs.getD i undef)) (h0 : 0 < vs.length) (ha : afL vs = true) (hf : ∀ i, off ≤ i → i < off + vs.length → ¬ (fz.1 ≤ i ∧ i < fz.2)) :
    Rel P (enR N b off) (enH N e vs) w := by
  have hget : (enH N e vs).get N = some ⟨.cells #[] e, true, RV.ofList vs⟩ := by
    have : (nw (AHeap.none N) e vs true).get N = some ⟨.cells #[] e, true, RV.ofList vs⟩ := by rw [nw, AHeap.get_new, if_pos (show N = (AHeap.none N).next from rfl)]
    exact this
  have hav : ∀ x ∈ vs, af x = true := by
    intro x hx
    clear hc hf hget h0
    induction vs with
    | nil => cases hx
    | cons y ys ih =>
      simp only [afL, Bool.and_eq_true] at ha
      rcases List.mem_cons.1 hx with rfl | hx
      · exact ha.1
      · exact ih ha.2 hx
  have hgd : ∀ i, i < vs.length → af (vs.getD i undef) = true := fun i hi => hav _ (by simp [List.getD_eq_getElem?_getD, List.getElem?_eq_getElem hi])
  refine ⟨Nat.le_refl _, ⟨Nat.le_succ_of_le hN, fun g hg => ?_⟩, fun m n hm hn _ => ?_, fun n o hn => ?_, fun n o hn => ?_⟩
  · have : g ≠ N := by omega
    exact ⟨if_neg this, if_neg this⟩
  · have e1 : m = N := Decidable.byContradiction fun h => hm (enH_get h)
    have e2 : n = N := Decidable.byContradiction fun h => hn (enH_get h)
    exact .inl (e1.trans e2.symm)
  · by_cases h : n = N
    · subst h
      rw [hget] at hn
      cases hn
      refine ⟨Nat.lt_succ_self _, ?_⟩
      simp only [sco, RV.n_ofList, RV.get_ofList]
      intro i hi
      exact scb_of_af _ (hgd i hi)
    · rw [enH_get h] at hn; cases hn
  · by_cases h : n = N
    · subst h
      rw [hget] at hn
      cases hn
      refine ⟨_, by simp only [enR, if_pos]; exact hb, ?_⟩
      simp only [Fits]
      refine ⟨c, fz, rfl, fun i hi => ?_, fun h => (by cases h), fun _ _ => ⟨⟨?_, fun h => absurd rfl h⟩, ?_⟩⟩
      · simp only [RV.n_ofList] at hi
        rw [RV.get_ofList, val_af _ _ (hgd i hi)]
        simp only [enR, if_pos]
        rw [Nat.add_comm]
        exact hc i hi
      · simp only [enR, if_pos, RV.n_ofList, Nat.zero_mul, Nat.add_zero]
        have := hc (vs.length - 1) (by omega)
        rcases Nat.lt_or_ge (off + (vs.length - 1)) c.size with h1 | h1
        · omega
        · rw [Array.getElem?_eq_none h1] at this; cases this
      · simp only [enR, if_pos, RV.n_ofList, Nat.zero_mul, Nat.add_zero]
        exact hf
    · rw [enH_get h] at hn; cases hn

theorem rel_calls {f : FuncId} {args : List Value} {H : AHeap} {ρ : Ren} (r : Rel P ρ H w) (hsc : scbL H.next args = true) (hbase : H.base = H.next) (hd : H.dirty = []) (h : CallA P f args H fun out H1 => out = .ok (.bool true) ∧ Mod [] H H1) :
    Calls P f (args.map ρ.val).toArray w (fun e w' => e = .returned (.bool true) ∧ RowKit.Below w.heap.size w w') := by
  obtain ⟨_, H1, hc, rfl, m⟩ := h
  refine (callsIn_wide (n := 0)).1 (hc ρ w r hsc Fence.wide 0 _ wide_wide ?_)
  intro ρ1 w1 s _
  refine ⟨by rw [Ren.val], s.os, s.tape, s.output, s.size, fun b hb => s.old b hb fun n hn hor _ => ?_⟩
  rcases hor with h | h
  · omega
  · rcases m.dirty n h with h | h
    · rw [hd] at h; cases h
    · exact absurd h.1 (by simp)

theorem callS_ans (hmix : P.follows .mixedOrders = true) {L : FuncId → List Value → AHeap → Option Value} (hK : Known P L) {fuel : Nat} {f : FuncId} {args : List Value} {v : Value} (ha : args.all af = true) (h : ansB P L fuel f args v = true) (H : AHeap) : CallS P f args H (.ok v) H := by
  intro ρ w r hsc F n R hF hR
  rw [map_af ρ args (fun x hx => List.all_eq_true.1 ha x hx)]
  have hv : af v = true := by
    unfold ansB at h
    split at h
    · exact (sameW_eq h).2
    · cases h
  refine (ans_in hmix hK ha h F n w hF).mono ?_
  rintro e w' ⟨rfl, hb⟩
  have := hR ρ w' (St.below r hb) (scb_of_af _ hv)
  rwa [val_af ρ _ hv] at this
end
end Go.Ax

/- Package variables whose contents are known (tables of numbers): heaps that hold them. -/
namespace Go.Ax
section
variable {P : Program} {K : Type} {enc : TypeId × Value → K} {w : World} {base : Nat} {spare : Nat → Bool} {held : Bool}

mutual
def dc : DataW K → List Value
  | .lit (.int k z) => [.int k z]
  | .lit (.bool b) => [.bool b]
  | .agg l => dcL l
  | _ => []
def dcL : List (DataW K) → List Value
  | [] => []
  | d :: r => dc d ++ dcL r
end
mutual
def dok : DataW K → Bool
  | .lit (.int _ _) => true
  | .lit (.bool _) => true
  | .agg l => dokL l
  | _ => false
def dokL : List (DataW K) → Bool
  | [] => true
  | d :: r => dok d && dokL r
end

theorem mapM_cons_some {α β : Type} {g : α → Option β} {a : α} {l : List α} {r : List β} (h : (a :: l).mapM g = some r) : ∃ y ys, g a = some y ∧ l.mapM g = some ys ∧ r = y :: ys := by
  rw [List.mapM_cons] at h
  cases hg : g a with
  | none => rw [hg] at h; cases h
  | some y =>
    rw [hg] at h
    cases hl : l.mapM g with
    | none => simp [hl] at h
    | some ys => simp [hl] at h; exact ⟨y, ys, rfl, rfl, h.symm⟩

theorem trod_fieldsD {fuel d : Nat} {cs : List Value} (ih : ∀ (t : TypeId) (ts : List TypeId) (cs : List Value) (x : DataW K × List MemPlace), flat P d t = some ts → szOf P t = some ts.length → DataW.trod enc P w base spare held fuel t cs = some x → dok x.1 = true → cs = dc x.1) :
    ∀ (fs : List Field) (o : Nat) (ts : List TypeId) (xs : List (DataW K × List MemPlace)), flatF P (flat P d) fs o = some ts → (fs.mapM fun f => DataW.trod enc P w base spare held fuel f.type ((cs.drop f.offset).take (P.cellsOf f.type))) = some xs → dokL (xs.map (·.1)) = true → o + ts.length ≤ cs.length → (cs.drop o).take ts.length = dcL (xs.map (·.1))
  | [], o, ts, xs, h, hm, _, _ => by
    simp only [flatF, Option.some.injEq] at h
    subst h
    simp at hm
    subst hm
    simp [dcL]
  | f :: fs, o, ts, xs, h, hm, hk, hle => by
    simp only [flatF] at h
    split at h
    · rename_i hf
      obtain ⟨_, ho⟩ := hf
      cases e1 : flat P d f.type with
      | none => rw [e1] at h; cases h
      | some a =>
        rw [e1] at h
        simp only at h
        split at h
        · rename_i hsz
          cases e2 : flatF P (flat P d) fs (o + a.length) with
          | none => rw [e2] at h; cases h
          | some b =>
            rw [e2] at h
            simp only [Option.some.injEq] at h
            subst h
            rw [List.length_append] at hle
            obtain ⟨y, ys, hy, hys, rfl⟩ := mapM_cons_some hm
            simp only [List.map_cons, dokL, Bool.and_eq_true] at hk
            rw [ho, cellsOf_szOf hsz] at hy
            have h1 := ih f.type a _ y e1 hsz hy hk.1
            have h2 := trod_fieldsD ih fs (o + a.length) b ys e2 hys hk.2 (by omega)
            have : (cs.drop o).take (a ++ b).length = (cs.drop o).take a.length ++ (cs.drop (o + a.length)).take b.length := by
              rw [List.length_append, List.take_add, List.drop_drop]
            rw [this, h1, h2]
            simp only [List.map_cons, dcL]
        · cases h
    · cases h

theorem trod_dc : ∀ (fuel d : Nat) (t : TypeId) (ts : List TypeId) (cs : List Value) (x : DataW K × List MemPlace), flat P d t = some ts → szOf P t = some ts.length → DataW.trod enc P w base spare held fuel t cs = some x → dok x.1 = true → cs = dc x.1
  | 0, _, _, _, _, _, _, _, h, _ => by simp [DataW.trod] at h
  | _ + 1, 0, _, _, _, _, h, _, _, _ => by simp [flat] at h
  | fuel + 1, d + 1, t, ts, cs, x, hf, hs, h, hk => by
    simp only [flat] at hf
    unfold DataW.trod at h
    cases e : P.underlying t with
    | none => rw [e] at hf; cases hf
    | some td =>
      rw [e] at hf h
      cases td with
      | bool =>
        simp only at h
        split at h <;> first | (simp only [Option.some.injEq] at h; subst h; rfl) | cases h | skip
        all_goals (rename_i hh; cases hh)
      | int k =>
        simp only at h
        split at h <;> first | (simp only [Option.some.injEq] at h; subst h; simp_all [dc]; done) | cases h | skip
        all_goals simp_all [dc]
        all_goals (obtain ⟨h1, rfl⟩ := h; simp [dc])
      | string =>
        simp only at h
        split at h <;> first | (simp only [Option.some.injEq] at h; subst h; simp [dok] at hk; done) | cases h | skip
        all_goals simp_all
        all_goals (obtain ⟨_, rfl⟩ := h; simp [dok] at hk)
      | struct fs =>
        simp only at hf
        split at hf
        · cases hf
        · simp only at h
          split at h
          · rename_i hlen
            rw [cellsOf_szOf hs] at hlen
            cases hm : fs.toList.mapM fun f => DataW.trod enc P w base spare held fuel f.type ((cs.drop f.offset).take (P.cellsOf f.type)) with
            | none => rw [hm] at h; cases h
            | some xs =>
              rw [hm] at h
              simp only [Option.map_some, Option.some.injEq] at h
              subst h
              simp only [dok] at hk
              have := trod_fieldsD (cs := cs) (fun t ts cs x => trod_dc fuel d t ts cs x) fs.toList 0 ts xs hf hm hk (by omega)
              rw [List.drop_zero, List.take_of_length_le (by omega)] at this
              rw [this, dc]
          · cases h
      | _ => simp at hf

theorem cut_flat {α : Type} {m : Nat} : ∀ (n : Nat) (cs : List α), cs.length = n * m → cs = ((List.range n).map fun i => (cs.drop (i * m)).take m).flatten
  | 0, cs, h => by
    have : cs = [] := List.eq_nil_of_length_eq_zero (by simpa using h)
    subst this
    rfl
  | n + 1, cs, h => by
    have h1 : (cs.drop m).length = n * m := by rw [List.length_drop, h, Nat.succ_mul]; omega
    have h2 := cut_flat n (cs.drop m) h1
    rw [List.range_succ_eq_map, List.map_cons, List.flatten_cons, List.map_map, Nat.zero_mul, List.drop_zero]
    have : ((List.range n).map ((fun i => (cs.drop (i * m)).take m) ∘ Nat.succ)) = (List.range n).map fun i => ((cs.drop m).drop (i * m)).take m := by
      apply List.map_congr_left
      intro i _
      simp only [Function.comp, List.drop_drop, Nat.succ_mul]
      rw [Nat.add_comm]
    rw [this, ← h2, List.take_append_drop]

theorem dcL_flat : ∀ (ds : List (DataW K)), dcL ds = (ds.map dc).flatten
  | [] => rfl
  | d :: r => by simp only [dcL, List.map_cons, List.flatten_cons, dcL_flat r]
theorem dokL_all : ∀ {ds : List (DataW K)}, dokL ds = true → ∀ d ∈ ds, dok d = true
  | [], _, _, h => by cases h
  | d :: r, h, x, hx => by
    simp only [dokL, Bool.and_eq_true] at h
    rcases List.mem_cons.1 hx with rfl | hx
    · exact h.1
    · exact dokL_all h.2 x hx

theorem mapM_map {α β γ : Type} {f : α → Option β} {g : α → γ} {h : β → γ} : ∀ {l : List α} {r : List β}, l.mapM f = some r → (∀ a ∈ l, ∀ b ∈ r, f a = some b → g a = h b) → l.map g = r.map h
  | [], r, hm, _ => by simp at hm; subst hm; rfl
  | a :: l, r, hm, hg => by
    obtain ⟨y, ys, h1, h2, rfl⟩ := mapM_cons_some hm
    rw [List.map_cons, List.map_cons, hg a (by simp) y (by simp) h1, mapM_map h2 fun a ha b hb => hg a (by simp [ha]) b (by simp [hb])]

theorem trod_arr {fuel : Nat} {t e : TypeId} {ts : List TypeId} {D n : Nat} {cs : List Value} {x : DataW K × List MemPlace} (hu : P.underlying t = some (.array n e)) (hsz : szOf P e = some ts.length) (hfl : flat P D e = some ts) (hst : szOf P t = some (n * ts.length))
    (h : DataW.trod enc P w base spare held fuel t cs = some x) (hk : dok x.1 = true) : cs = dc x.1 := by
  cases fuel with
  | zero => simp [DataW.trod] at h
  | succ fuel =>
    unfold DataW.trod at h
    rw [hu] at h
    simp only [cellsOf_szOf hsz, cellsOf_szOf hst] at h
    split at h
    · rename_i hl
      cases hm : (List.range n).mapM fun i => DataW.trod enc P w base spare held fuel e ((cs.drop (i * ts.length)).take ts.length) with
      | none => rw [hm] at h; cases h
      | some xs =>
        rw [hm] at h
        simp only [Option.map_some, Option.some.injEq] at h
        subst h
        simp only [dok] at hk
        rw [dc, dcL_flat, List.map_map]
        refine (cut_flat n cs hl).trans (congrArg List.flatten (mapM_map hm fun i _ y hy hf => ?_))
        exact trod_dc fuel D e ts _ y hfl hsz hf (dokL_all hk _ (List.mem_map_of_mem hy))
    · cases h

theorem laid_at : ∀ {laid : List (String × DataW Unit)} {ps : List MemPlace}, DataW.LaidVars P w laid ps → ∀ {x : String × DataW Unit}, x ∈ laid → ∃ g t cs fuel p, P.globalNamed x.1 = some g ∧ (P.globals[g]?).map (·.type) = some t ∧ w.var? P x.1 = some cs ∧ DataW.trod (fun _ => ()) P w 0 (fun _ => true) false fuel t cs.toList = some (x.2, p) ∧ ∀ y ∈ MemPlace.row ⟨g, 0, none⟩ cs.size, y ∈ ps
  | [], _, _, _, hx => by cases hx
  | (n, d) :: r, ps, h, x, hx => by
    obtain ⟨g, t, cs, fuel, p, q, h1, h2, h3, h4, h5, rfl⟩ := h
    rcases List.mem_cons.1 hx with rfl | hx
    · exact ⟨g, t, cs, fuel, p, h1, h2, h3, h4, fun y hy => by simp [hy]⟩
    · obtain ⟨g, t, cs, fuel, p, k1, k2, k3, k4, k5⟩ := laid_at h5 hx
      exact ⟨g, t, cs, fuel, p, k1, k2, k3, k4, fun y hy => by simp [k5 y hy]⟩

theorem laid_tab {laid : List (String × DataW Unit)} (h : laidMet P laid w) {name : String} {d : DataW Unit} (hx : (name, d) ∈ laid) {g : Nat} {t e : TypeId} {ts : List TypeId} {D n : Nat} (hg : P.globalNamed name = some g) (ht : (P.globals[g]?).map (·.type) = some t)
    (hu : P.underlying t = some (.array n e)) (hsz : szOf P e = some ts.length) (hfl : flat P D e = some ts) (hst : szOf P t = some (n * ts.length)) (hk : dok d = true) (hpos : 0 < (dc d).length) :
    ∃ (c : Array Value) (ty : TypeId), w.heap[g]? = some (.cells c ty (0, 0)) ∧ c.toList = dc d := by
  obtain ⟨ps, hl, _, hz⟩ := h
  obtain ⟨g', t', cs, fuel, p, h1, h2, h3, h4, h5⟩ := laid_at hl hx
  obtain rfl := Option.some.inj (hg.symm.trans h1)
  obtain rfl := Option.some.inj (ht.symm.trans h2)
  have hcs := trod_arr hu hsz hfl hst h4 hk
  have hpos' : 0 < cs.size := by rw [← hcs] at hpos; simpa using hpos
  obtain ⟨⟨c, ty, hb⟩, _⟩ := hz g 0 (h5 _ (by unfold MemPlace.row; rw [List.mem_map]; exact ⟨0, by simpa using hpos', rfl⟩))
  refine ⟨c, ty, hb, ?_⟩
  have : w.var? P name = some c := by simp only [World.var?, hg, Option.bind_some, hb]
  obtain rfl := Option.some.inj (this.symm.trans h3)
  exact hcs

def tabO (e : TypeId) (vs : List Value) : AObj := ⟨.cells #[] e, false, RV.ofList vs⟩

theorem rel_tab {ρ : Ren} {H : AHeap} {g : Nat} {e : TypeId} {c : Array Value} {vs : List Value} (r : Rel P ρ H w) (hg : g < P.globals.size) (hex : ρ.ex g = 0) (hinj : ∀ n, H.get n ≠ none → ρ.blk n = g → n = g)
    (hb : w.heap[g]? = some (.cells c e (0, 0))) (hc : c.toList = vs) (ha : afL vs = true) : Rel P ρ (H.put g (some (tabO e vs))) w := by
  obtain ⟨hbk, hsh⟩ := r.glob.2 g hg
  have hav : ∀ x ∈ vs, af x = true := by
    intro x hx
    clear hc hinj
    induction vs with
    | nil => cases hx
    | cons y ys ih =>
      simp only [afL, Bool.and_eq_true] at ha
      rcases List.mem_cons.1 hx with rfl | hx
      · exact ha.1
      · exact ih ha.2 hx
  have hgd : ∀ i, i < vs.length → af (vs.getD i undef) = true := fun i hi => hav _ (by simp [List.getD_eq_getElem?_getD, List.getElem?_eq_getElem hi])
  have hget : ∀ m, (H.put g (some (tabO e vs))).get m = if m = g then some (tabO e vs) else H.get m := fun m => AHeap.get_put H g _ m
  refine ⟨r.base, r.glob, fun m n hm hn he => ?_, fun n o hn => ?_, fun n o hn => ?_⟩
  · rw [hget] at hm hn
    by_cases h1 : m = g
    · subst h1
      by_cases h2 : n = m
      · exact .inl h2.symm
      · rw [if_neg h2] at hn
        exact .inl (hinj n hn (he.symm.trans hbk)).symm
    · rw [if_neg h1] at hm
      by_cases h2 : n = g
      · subst h2
        exact .inl (hinj m hm (he.trans hbk))
      · rw [if_neg h2] at hn
        rw [hget, hget, if_neg h1, if_neg h2]
        exact r.inj m n hm hn he
  · rw [hget] at hn
    by_cases h : n = g
    · subst h
      rw [if_pos rfl] at hn
      cases hn
      refine ⟨Nat.lt_of_lt_of_le hg r.glob.1, ?_⟩
      simp only [sco, tabO, RV.n_ofList, RV.get_ofList]
      intro i hi
      exact scb_of_af _ (hgd i hi)
    · rw [if_neg h] at hn
      exact r.dom n o hn
  · rw [hget] at hn
    by_cases h : n = g
    · subst h
      rw [if_pos rfl] at hn
      cases hn
      refine ⟨_, by rw [hbk]; exact hb, ?_⟩
      have hcs : c.size = vs.length := by rw [← hc]; simp
      simp only [Fits, tabO]
      refine ⟨c, (0, 0), rfl, fun i hi => ?_, fun _ => ⟨by rw [RV.n_ofList, hcs], hsh, hex, rfl⟩, fun h => (by cases h)⟩
      simp only [RV.n_ofList] at hi
      rw [RV.get_ofList, val_af _ _ (hgd i hi), hsh, Nat.add_zero]
      subst hc
      have : i < c.size := by simpa using hi
      simp [List.getD_eq_getElem?_getD, this]
    · rw [if_neg h] at hn
      exact r.obj n o hn

def tabsH (N : Nat) : List (Nat × TypeId × List Value) → AHeap
  | [] => AHeap.none N
  | (g, e, vs) :: r => (tabsH N r).put g (some (tabO e vs))
theorem tabsH_next (N : Nat) : ∀ T, (tabsH N T).next = N ∧ (tabsH N T).base = N ∧ (tabsH N T).dirty = []
  | [] => ⟨rfl, rfl, rfl⟩
  | (_, _, _) :: r => tabsH_next N r

def ansT (P : Program) (K : FuncId → List Value → AHeap → Option Value) (fuel : Nat) (f : FuncId) (args : List Value) (v : Value) (T : List (Nat × TypeId × List Value)) : Bool :=
  match call P K fuel f args (tabsH P.globals.size T) with
  | some (.ok u, H1) => sameW u v && H1.dirty.isEmpty
  | _ => false

theorem rel_tabs : ∀ (T : List (Nat × TypeId × List Value)), (∀ x ∈ T, x.1 < P.globals.size ∧ afL x.2.2 = true ∧ ∃ c, w.heap[x.1]? = some (.cells c x.2.1 (0, 0)) ∧ c.toList = x.2.2) → Rel P Ren.same (tabsH P.globals.size T) w
  | [], _ => rel_none P w
  | (g, e, vs) :: r, h => by
    obtain ⟨h1, h2, c, h3, h4⟩ := h (g, e, vs) (by simp)
    exact rel_tab (rel_tabs r fun x hx => h x (by simp [hx])) h1 rfl (fun n _ hn => hn) h3 h4 h2

theorem ansT_in (hmix : P.follows .mixedOrders = true) {L : FuncId → List Value → AHeap → Option Value} (hK : Known P L) {fuel : Nat} {f : FuncId} {args : List Value} {v : Value} {T : List (Nat × TypeId × List Value)} (ha : args.all af = true) (h : ansT P L fuel f args v T = true)
    (hT : ∀ x ∈ T, x.1 < P.globals.size ∧ afL x.2.2 = true ∧ ∃ c, w.heap[x.1]? = some (.cells c x.2.1 (0, 0)) ∧ c.toList = x.2.2) (F : Fence) (n : Nat) (hF : WideF F) :
    CallsIn F n P f args.toArray w (fun e w' => e = .returned v ∧ RowKit.Below w.heap.size w w') ∧ af v = true := by
  unfold ansT at h
  split at h
  · rename_i u H1 hc
    simp only [Bool.and_eq_true] at h
    obtain ⟨h, hd⟩ := h
    obtain ⟨rfl, hv⟩ := sameW_eq h
    refine ⟨?_, hv⟩
    have := call_in hmix hK (rel_tabs T hT) hc (scbL_of_af _ (afL_of fun x hx => List.all_eq_true.1 ha x hx)) (F := F) (n := n) hF
    rw [map_af _ args (fun x hx => List.all_eq_true.1 ha x hx)] at this
    refine this.mono ?_
    rintro e w' ⟨ρ1, rfl, s⟩
    refine ⟨by rw [val_af ρ1 _ hv], s.os, s.tape, s.output, s.size, fun b hb => s.old b hb fun n hn hor _ => ?_⟩
    obtain ⟨t1, t2, _⟩ := tabsH_next P.globals.size T
    rcases hor with h | h
    · omega
    · rw [List.isEmpty_iff.1 hd] at h
      cases h
  · cases h

theorem tab_world {ρ : Ren} {H : AHeap} {g : Nat} {e : TypeId} {vs : List Value} (r : Rel P ρ H w) (hg : g < P.globals.size) (hb : bk H g = some ⟨e, false, vs⟩) (ha : afL vs = true) : ∃ c, w.heap[g]? = some (.cells c e (0, 0)) ∧ c.toList = vs := by
  obtain ⟨hbk, hsh⟩ := r.glob.2 g hg
  have hav : ∀ x ∈ vs, af x = true := by
    intro x hx
    clear hb
    induction vs with
    | nil => cases hx
    | cons y ys ih =>
      simp only [afL, Bool.and_eq_true] at ha
      rcases List.mem_cons.1 hx with rfl | hx
      · exact ha.1
      · exact ih ha.2 hx
  simp only [bk, Option.map_eq_some_iff] at hb
  obtain ⟨⟨rv, e', o⟩, hc, hx⟩ := hb
  simp only [Bl.mk.injEq] at hx
  obtain ⟨rfl, rfl, rfl⟩ := hx
  obtain ⟨z, q, hgt⟩ := cellsAt_get hc
  obtain ⟨o', hw, hfit⟩ := r.obj _ _ hgt
  simp only [Fits] at hfit
  obtain ⟨c, fz, rfl, hcs, hcl, _⟩ := hfit
  obtain ⟨k1, k2, k3, rfl⟩ := hcl trivial
  rw [hbk] at hw
  refine ⟨c, hw, ?_⟩
  apply List.ext_getElem?
  intro i
  rw [RV.gets_eq]
  by_cases hi : i < rv.n
  · have h1 := hcs i hi
    rw [k2, Nat.add_zero] at h1
    have h2 : rv.get i ∈ rv.gets 0 rv.n := by rw [RV.gets_eq, List.mem_map]; exact ⟨i, by simpa using hi, by simp⟩
    rw [val_af ρ _ (hav _ h2)] at h1
    rw [List.getElem?_map, List.getElem?_range hi]
    simpa using h1
  · rw [List.getElem?_eq_none (by simp; omega), List.getElem?_eq_none (by simp; omega)]

theorem callS_tab (hmix : P.follows .mixedOrders = true) {L : FuncId → List Value → AHeap → Option Value} (hK : Known P L) {fuel : Nat} {f : FuncId} {args : List Value} {v : Value} {T : List (Nat × TypeId × List Value)} {H : AHeap} (ha : args.all af = true) (h : ansT P L fuel f args v T = true)
    (hT : ∀ x ∈ T, x.1 < P.globals.size ∧ afL x.2.2 = true ∧ bk H x.1 = some ⟨x.2.1, false, x.2.2⟩) : CallS P f args H (.ok v) H := by
  intro ρ w r hsc F n R hF hR
  rw [map_af ρ args (fun x hx => List.all_eq_true.1 ha x hx)]
  obtain ⟨h1, hv⟩ := ansT_in (w := w) hmix hK ha h (fun x hx => ⟨(hT x hx).1, (hT x hx).2.1, tab_world r (hT x hx).1 (hT x hx).2.2 (hT x hx).2.1⟩) F n hF
  refine h1.mono ?_
  rintro e w' ⟨rfl, hb⟩
  have := hR ρ w' (St.below r hb) (scb_of_af _ hv)
  rwa [val_af ρ _ hv] at this
end
end Go.Ax

/- Known answers of calls that look at memory: the blocks that a call looks at are as a list says. -/
namespace Go.Ax

def sameBy : List UInt8 → List UInt8 → Bool
  | [], [] => true
  | a :: r, b :: q => Nat.beq a.toNat b.toNat && sameBy r q
  | _, _ => false
theorem sameBy_eq : ∀ {u v : List UInt8}, sameBy u v = true → u = v
  | [], [], _ => rfl
  | a :: r, b :: q, h => by
    simp only [sameBy, Bool.and_eq_true] at h
    rw [UInt8.toNat_inj.1 (Nat.eq_of_beq_eq_true h.1), sameBy_eq h.2]
  | [], _ :: _, h => by cases h
  | _ :: _, [], h => by cases h

def sameSp : Option Nat → Option Nat → Bool
  | none, none => true
  | some a, some b => Nat.beq a b
  | _, _ => false
theorem sameSp_eq : ∀ {u v : Option Nat}, sameSp u v = true → u = v
  | none, none, _ => rfl
  | some a, some b, h => by rw [Nat.eq_of_beq_eq_true h]
  | none, some _, h => by cases h
  | some _, none, h => by cases h

def sameAd (a b : Addr) : Bool := Nat.beq a.block b.block && Nat.beq a.off b.off && sameSp a.spot b.spot
theorem sameAd_eq {a b : Addr} (h : sameAd a b = true) : a = b := by
  simp only [sameAd, Bool.and_eq_true] at h
  obtain ⟨x, y, z⟩ := a
  obtain ⟨x', y', z'⟩ := b
  simp only at h
  rw [Nat.eq_of_beq_eq_true h.1.1, Nat.eq_of_beq_eq_true h.1.2, sameSp_eq h.2]

mutual
def sameX : Value → Value → Bool
  | .bool a, .bool b => a == b
  | .int k a, .int l b => decide (k = l) && decide (a = b)
  | .string a, .string b => sameBy a.data.toList b.data.toList
  | .pointer none, .pointer none => true
  | .pointer (some a), .pointer (some b) => sameAd a b
  | .slice none m n, .slice none p q => Nat.beq m p && Nat.beq n q
  | .slice (some a) m n, .slice (some b) p q => sameAd a b && Nat.beq m p && Nat.beq n q
  | .agg a, .agg b => sameXA a b
  | _, _ => false
def sameXA : Array Value → Array Value → Bool
  | ⟨l⟩, ⟨m⟩ => sameXL l m
def sameXL : List Value → List Value → Bool
  | [], [] => true
  | a :: r, b :: q => sameX a b && sameXL r q
  | _, _ => false
end

mutual
theorem sameX_eq : ∀ (u v : Value), sameX u v = true → u = v
  | .bool a, v, h => by cases v <;> first | (simp [sameX] at h; done) | (rw [sameX, beq_iff_eq] at h; rw [h])
  | .int k a, v, h => by cases v <;> first | (simp [sameX] at h; done) | (rw [sameX, Bool.and_eq_true, decide_eq_true_eq, decide_eq_true_eq] at h; rw [h.1, h.2])
  | .string ⟨⟨a⟩⟩, v, h => by
    cases v <;> first | (simp [sameX] at h; done) | skip
    rename_i b
    obtain ⟨⟨b⟩⟩ := b
    rw [sameX] at h
    have h : sameBy a b = true := h
    rw [sameBy_eq h]
  | .pointer none, v, h => by cases v <;> first | (simp [sameX] at h; done) | (rename_i b; cases b <;> first | rfl | (simp [sameX] at h; done))
  | .pointer (some a), v, h => by cases v <;> first | (simp [sameX] at h; done) | (rename_i b; cases b <;> first | (simp [sameX] at h; done) | (rw [sameX] at h; rw [sameAd_eq h]))
  | .slice none m n, v, h => by cases v <;> first | (simp [sameX] at h; done) | (rename_i b _ _; cases b <;> first | (rw [sameX, Bool.and_eq_true] at h; rw [Nat.eq_of_beq_eq_true h.1, Nat.eq_of_beq_eq_true h.2]) | (simp [sameX] at h; done))
  | .slice (some a) m n, v, h => by cases v <;> first | (simp [sameX] at h; done) | (rename_i b _ _; cases b <;> first | (rw [sameX, Bool.and_eq_true, Bool.and_eq_true] at h; rw [sameAd_eq h.1.1, Nat.eq_of_beq_eq_true h.1.2, Nat.eq_of_beq_eq_true h.2]) | (simp [sameX] at h; done))
  | .agg a, .agg b, h => by
    rw [sameX] at h
    rw [sameXA_eq a b h]
  | .agg a, .bool _, h => by simp [sameX] at h
  | .agg a, .int _ _, h => by simp [sameX] at h
  | .agg a, .string _, h => by simp [sameX] at h
  | .agg a, .pointer _, h => by simp [sameX] at h
  | .agg a, .slice _ _ _, h => by simp [sameX] at h
  | .agg a, .float _ _, h => by simp [sameX] at h
  | .agg a, .complex _ _ _, h => by simp [sameX] at h
  | .agg a, .map _, h => by simp [sameX] at h
  | .agg a, .chan _, h => by simp [sameX] at h
  | .agg a, .func _ _ _, h => by simp [sameX] at h
  | .agg a, .nilFunc, h => by simp [sameX] at h
  | .agg a, .iface _ _, h => by simp [sameX] at h
  | .agg a, .nilIface, h => by simp [sameX] at h
  | .agg a, .tuple _, h => by simp [sameX] at h
  | .float _ _, v, h => by simp [sameX] at h
  | .complex _ _ _, v, h => by simp [sameX] at h
  | .map _, v, h => by simp [sameX] at h
  | .chan _, v, h => by simp [sameX] at h
  | .func _ _ _, v, h => by simp [sameX] at h
  | .nilFunc, v, h => by simp [sameX] at h
  | .iface _ _, v, h => by simp [sameX] at h
  | .nilIface, v, h => by simp [sameX] at h
  | .tuple _, v, h => by simp [sameX] at h
theorem sameXA_eq : ∀ (u v : Array Value), sameXA u v = true → u = v
  | ⟨l⟩, ⟨m⟩, h => by
    rw [sameXA] at h
    rw [sameXL_eq l m h]
theorem sameXL_eq : ∀ (u v : List Value), sameXL u v = true → u = v
  | [], [], _ => rfl
  | a :: r, b :: q, h => by
    simp only [sameXL, Bool.and_eq_true] at h
    rw [sameX_eq a b h.1, sameXL_eq r q h.2]
  | [], _ :: _, h => by simp [sameXL] at h
  | _ :: _, [], h => by simp [sameXL] at h
end

structure Ent where
  f : FuncId
  args : List Value
  next : Nat
  blks : List (Nat × Bl)

def objIs (H : AHeap) (n : Nat) (o : Bool) (l : List Value) : Option TypeId :=
  match H.get n with
  | some ⟨.cells _ e (0, _), o', rv⟩ => if (o == o') && sameXL l (rv.gets 0 rv.n) then some e else none
  | _ => none

def blkIs (H : AHeap) (x : Nat × Bl) : Bool :=
  match objIs H x.1 x.2.o x.2.l with
  | some e => Nat.beq e x.2.e
  | none => false

def entOk (T : List (Nat × List Value)) (e : Ent) (f : FuncId) (args : List Value) (H : AHeap) : Bool :=
  Nat.beq e.f f && sameXL e.args args && Nat.beq e.next H.next && e.blks.all (blkIs H) && T.all fun x => (objIs H x.1 false x.2).isSome

def lookH (T : List (Nat × List Value)) (K : FuncId → List Value → AHeap → Option Value) : List Ent → FuncId → List Value → AHeap → Option Value
  | [], f, args, H => K f args H
  | e :: r, f, args, H => if entOk T e f args H then some (.bool true) else lookH T K r f args H

def layB (g : AHeap) : List (Nat × Bl) → AHeap
  | [] => g
  | x :: r => layB (g.put x.1 (some x.2.obj)) r

def entHeap (T : List (Nat × List Value)) (ee : Nat → TypeId) (e : Ent) : AHeap :=
  layB (AHeap.none e.next) ((T.map fun x => (x.1, ⟨ee x.1, false, x.2⟩)) ++ e.blks)

def entRun (P : Program) (K : FuncId → List Value → AHeap → Option Value) (fuel : Nat) (T : List (Nat × List Value)) (ee : Nat → TypeId) (e : Ent) : Bool :=
  match call P K fuel e.f e.args (entHeap T ee e) with
  | some (.ok (.bool true), H1) => H1.dirty.isEmpty
  | _ => false

theorem layB_get : ∀ (l : List (Nat × Bl)) (g : AHeap) (n : Nat) (o : AObj), (layB g l).get n = some o → g.get n = some o ∨ ∃ x ∈ l, x.1 = n ∧ o = x.2.obj
  | [], g, n, o, h => .inl h
  | x :: r, g, n, o, h => by
    rcases layB_get r _ n o h with h | ⟨y, hy, h1, h2⟩
    · rw [AHeap.get_put] at h
      split at h
      · rename_i e
        cases h
        exact .inr ⟨x, by simp, e.symm, rfl⟩
      · exact .inl h
    · exact .inr ⟨y, by simp [hy], h1, h2⟩

theorem layB_next : ∀ (l : List (Nat × Bl)) (g : AHeap), (layB g l).next = g.next ∧ (layB g l).base = g.base ∧ (layB g l).dirty = g.dirty
  | [], _ => ⟨rfl, rfl, rfl⟩
  | x :: r, g => layB_next r (g.put x.1 (some x.2.obj))

def SameO (a b : AObj) : Prop := ∃ c e z c' z', a.obj = .cells c e (0, z) ∧ b.obj = .cells c' e (0, z') ∧ a.opn = b.opn ∧ a.rv.n = b.rv.n ∧ ∀ i, i < b.rv.n → a.rv.get i = b.rv.get i

theorem objIs_same {H : AHeap} {n : Nat} {o : Bool} {l : List Value} {e : TypeId} (h : objIs H n o l = some e) : ∃ a, H.get n = some a ∧ SameO a (Bl.obj ⟨e, o, l⟩) := by
  unfold objIs at h
  split at h
  · rename_i c t z o' rv hg
    split at h
    · rename_i hc
      simp only [Bool.and_eq_true, beq_iff_eq] at hc
      obtain ⟨rfl, hl⟩ := hc
      simp only [Option.some.injEq] at h
      subst h
      have hl := sameXL_eq _ _ hl
      refine ⟨_, hg, c, t, z, #[], 0, rfl, rfl, rfl, ?_, fun i hi => ?_⟩
      · simp only [Bl.obj, RV.n_ofList, hl, RV.length_gets]
      · simp only [Bl.obj, RV.n_ofList] at hi
        simp only [Bl.obj, RV.get_ofList]
        have hi' : i < rv.n := by rw [hl, RV.length_gets] at hi; exact hi
        rw [hl, RV.gets_getD _ _ _ _ hi', Nat.zero_add]
    · cases h
  · cases h

theorem SameO.sco {N : Nat} {a b : AObj} (h : SameO a b) (hs : sco N a) : sco N b := by
  obtain ⟨c, e, z, c', z', h1, h2, h3, h4, h5⟩ := h
  unfold Go.Ax.sco at hs ⊢
  rw [h1] at hs
  rw [h2]
  intro i hi
  rw [← h5 i hi]
  exact hs i (by omega)

theorem SameO.fits {P : Program} {ρ : Ren} {n : Nat} {a b : AObj} {o' : Obj} (h : SameO a b) (hs : Fits P ρ n a o') : Fits P ρ n b o' := by
  obtain ⟨c, e, z, c', z', h1, h2, h3, h4, h5⟩ := h
  unfold Fits at hs ⊢
  rw [h1] at hs
  rw [h2]
  obtain ⟨d, fz, hd, hv, ha, hb⟩ := hs
  refine ⟨d, fz, hd, fun i hi => ?_, ?_, ?_⟩
  · rw [← h5 i hi]; exact hv i (by omega)
  · rw [← h3, ← h4]; exact ha
  · rw [← h3, ← h4]; exact hb

theorem SameO.nz {a b : AObj} (h : SameO a b) : ¬ Fz (some a) := by
  obtain ⟨c, e, z, c', z', h1, h2, h3, h4, h5⟩ := h
  rintro ⟨o, ho, hf⟩
  cases ho
  obtain ⟨x, y, q⟩ := a
  simp only at h1
  subst h1
  cases y <;> simp [frz] at hf

theorem sub_rel {P : Program} {ρ : Ren} {H G : AHeap} {w : World} (r : Rel P ρ H w) (hn : G.next = H.next) (hb : G.base = G.next) (hg : ∀ n o, G.get n = some o → ∃ a, H.get n = some a ∧ SameO a o) : Rel P ρ G w := by
  refine ⟨Nat.le_of_eq hb, by rw [hn]; exact r.glob, fun m n h1 h2 he => ?_, fun n o ho => ?_, fun n o ho => ?_⟩
  · obtain ⟨x, hx⟩ := Option.ne_none_iff_exists'.1 h1
    obtain ⟨y, hy⟩ := Option.ne_none_iff_exists'.1 h2
    obtain ⟨a, ha, hs⟩ := hg m x hx
    obtain ⟨b, hb, ht⟩ := hg n y hy
    rcases r.inj m n (ne_none ha) (ne_none hb) he with h | ⟨h, _⟩
    · exact .inl h
    · rw [ha] at h
      exact absurd h hs.nz
  · obtain ⟨a, ha, hs⟩ := hg n o ho
    rw [hn]
    exact ⟨(r.dom n a ha).1, hs.sco (r.dom n a ha).2⟩
  · obtain ⟨a, ha, hs⟩ := hg n o ho
    obtain ⟨o', h1, h2⟩ := r.obj n a ha
    exact ⟨o', h1, hs.fits h2⟩

theorem known_heap {P : Program} (hmix : P.follows .mixedOrders = true) {T : List (Nat × List Value)} {K : FuncId → List Value → AHeap → Option Value} {l : List Ent} (hK : Known P (lookH T K l)) (fuel : Nat) {e : Ent} (h : ∀ ee, entRun P (lookH T K l) fuel T ee e = true) : Known P (lookH T K (e :: l)) := by
  intro g bs u H hu
  unfold lookH at hu
  split at hu
  · rename_i hc
    simp only [Option.some.injEq] at hu
    subst hu
    refine ⟨rfl, fun ρ F n w r hsc hF => ?_⟩
    simp only [entOk, Bool.and_eq_true, List.all_eq_true] at hc
    obtain ⟨⟨⟨⟨c1, c2⟩, c3⟩, c4⟩, c5⟩ := hc
    have c1 := Nat.eq_of_beq_eq_true c1
    have c2 := sameXL_eq _ _ c2
    have c3 := Nat.eq_of_beq_eq_true c3
    subst c1 c2
    obtain ⟨ee, hee⟩ : ∃ ee : Nat → TypeId, ∀ x ∈ T, objIs H x.1 false x.2 = some (ee x.1) := by
      refine ⟨fun n => match H.get n with
        | some ⟨.cells _ t _, _, _⟩ => t
        | _ => 0, fun x hx => ?_⟩
      have := c5 x hx
      unfold objIs at this ⊢
      split at this
      · rename_i c t z o' rv hg
        simp only [hg]
        split at this
        · rename_i hh; rw [if_pos hh]
        · simp at this
      · simp at this
    have hrun := h ee
    obtain ⟨n1, n2, n3⟩ := layB_next ((T.map fun x => (x.1, (⟨ee x.1, false, x.2⟩ : Bl))) ++ e.blks) (AHeap.none e.next)
    have hr : Rel P ρ (entHeap T ee e) w := by
      refine sub_rel r (by unfold entHeap; rw [n1]; exact c3) (by unfold entHeap; rw [n1, n2]; rfl) fun n o ho => ?_
      rcases layB_get _ _ n o ho with ho | ⟨x, hx, rfl, rfl⟩
      · rw [none_get] at ho; cases ho
      · rcases List.mem_append.1 hx with hx | hx
        · obtain ⟨y, hy, rfl⟩ := List.mem_map.1 hx
          exact objIs_same (hee y hy)
        · have := c4 x hx
          unfold blkIs at this
          split at this
          · rename_i t ht
            have := Nat.eq_of_beq_eq_true this
            subst this
            exact objIs_same ht
          · cases this
    unfold entRun at hrun
    split at hrun
    · rename_i H1 hcl
      refine (call_in hmix hK hr hcl (by unfold entHeap; rw [n1]; rw [show (AHeap.none e.next).next = e.next from rfl, c3]; exact hsc) hF).mono ?_
      rintro e' w' ⟨ρ1, rfl, s⟩
      refine ⟨by rw [Ren.val], s.os, s.tape, s.output, s.size, fun b hb => s.old b hb fun n hn hor _ => ?_⟩
      rw [List.isEmpty_iff.1 hrun] at hor
      unfold entHeap at hn hor
      rw [n1] at hn
      rw [n2] at hor
      rcases hor with h | h
      · exact absurd hn (Nat.not_lt.2 h)
      · cases h
    · cases hrun
  · exact hK g bs u H hu

theorem known_base {P : Program} {T : List (Nat × List Value)} {K : FuncId → List Value → AHeap → Option Value} (hK : Known P K) : Known P (lookH T K []) := fun f args v H h => hK f args v H h

end Go.Ax

/- Known answers with the heaps that calls leave: lists of them, runs from tables. -/
namespace Go.Ax
abbrev KX := FuncId → List Value → AHeap → Option (Value × AHeap)
def orX (K L : KX) : KX := fun f args H => match K f args H with
  | some r => some r
  | none => L f args H
section
variable {P : Program}
theorem known_orX {K L : KX} (hK : KnownX P K) (hL : KnownX P L) : KnownX P (orX K L) := by
  intro f args v H H1 h
  unfold orX at h
  split at h
  · rename_i r hr
    cases h
    exact hK _ _ _ _ _ hr
  · exact hL _ _ _ _ _ h

theorem callX_in (hmix : P.follows .mixedOrders = true) {K : KX} (hK : KnownX P K) {fuel : Nat} {f : FuncId} {args : List Value} {v : Value} {H H1 : AHeap} {ρ : Ren} {w : World} (r : Rel P ρ H w)
    (h : callX P K fuel f args H = some (.ok v, H1)) (hsc : scbL H.next args = true) {F : Fence} {n : Nat} (hF : WideF F) : CallsIn F n P f (args.map ρ.val).toArray w (fun e w' => ∃ ρ1, e = .returned (ρ1.val v) ∧ St P ρ H w ρ1 H1 w') :=
  enterF_run (execX_sound hmix hK fuel).1 r h hsc hF (fun ρ1 w1 s _ => ⟨ρ1, rfl, s⟩)

def ansTX (P : Program) (K : KX) (fuel : Nat) (f : FuncId) (args : List Value) (v : Value) (T : List (Nat × TypeId × List Value)) : Bool :=
  match callX P K fuel f args (tabsH P.globals.size T) with
  | some (.ok u, H1) => sameW u v && H1.dirty.isEmpty
  | _ => false

theorem ansTX_in {w : World} (hmix : P.follows .mixedOrders = true) {L : KX} (hK : KnownX P L) {fuel : Nat} {f : FuncId} {args : List Value} {v : Value} {T : List (Nat × TypeId × List Value)} (ha : args.all af = true) (h : ansTX P L fuel f args v T = true)
    (hT : ∀ x ∈ T, x.1 < P.globals.size ∧ afL x.2.2 = true ∧ ∃ c, w.heap[x.1]? = some (.cells c x.2.1 (0, 0)) ∧ c.toList = x.2.2) (F : Fence) (n : Nat) (hF : WideF F) :
    CallsIn F n P f args.toArray w (fun e w' => e = .returned v ∧ RowKit.Below w.heap.size w w') ∧ af v = true := by
  unfold ansTX at h
  split at h
  · rename_i u H1 hc
    simp only [Bool.and_eq_true] at h
    obtain ⟨h, hd⟩ := h
    obtain ⟨rfl, hv⟩ := sameW_eq h
    refine ⟨?_, hv⟩
    have := callX_in hmix hK (rel_tabs T hT) hc (scbL_of_af _ (afL_of fun x hx => List.all_eq_true.1 ha x hx)) (F := F) (n := n) hF
    rw [map_af _ args (fun x hx => List.all_eq_true.1 ha x hx)] at this
    refine this.mono ?_
    rintro e w' ⟨ρ1, rfl, s⟩
    refine ⟨by rw [val_af ρ1 _ hv], s.os, s.tape, s.output, s.size, fun b hb => s.old b hb fun n hn hor _ => ?_⟩
    obtain ⟨t1, t2, _⟩ := tabsH_next P.globals.size T
    rcases hor with h | h
    · omega
    · rw [List.isEmpty_iff.1 hd] at h
      cases h
  · cases h

theorem callS_tabX (hmix : P.follows .mixedOrders = true) {L : KX} (hK : KnownX P L) {fuel : Nat} {f : FuncId} {args : List Value} {v : Value} {T : List (Nat × TypeId × List Value)} {H : AHeap} (ha : args.all af = true) (h : ansTX P L fuel f args v T = true)
    (hT : ∀ x ∈ T, x.1 < P.globals.size ∧ afL x.2.2 = true ∧ bk H x.1 = some ⟨x.2.1, false, x.2.2⟩) : CallS P f args H (.ok v) H := by
  intro ρ w r hsc F n R hF hR
  rw [map_af ρ args (fun x hx => List.all_eq_true.1 ha x hx)]
  obtain ⟨h1, hv⟩ := ansTX_in (w := w) hmix hK ha h (fun x hx => ⟨(hT x hx).1, (hT x hx).2.1, tab_world r (hT x hx).1 (hT x hx).2.2 (hT x hx).2.1⟩) F n hF
  refine h1.mono ?_
  rintro e w' ⟨rfl, hb⟩
  have := hR ρ w' (St.below r hb) (scb_of_af _ hv)
  rwa [val_af ρ _ hv] at this

def lookX (T : List (Nat × List Value)) (K : KX) : List Ent → KX
  | [], f, args, H => K f args H
  | e :: r, f, args, H => if entOk T e f args H then some (.bool true, H) else lookX T K r f args H

def entRunX (P : Program) (K : KX) (fuel : Nat) (T : List (Nat × List Value)) (ee : Nat → TypeId) (e : Ent) : Bool :=
  match callX P K fuel e.f e.args (entHeap T ee e) with
  | some (.ok (.bool true), H1) => H1.dirty.isEmpty
  | _ => false

theorem known_heapX (hmix : P.follows .mixedOrders = true) {T : List (Nat × List Value)} {K : KX} {l : List Ent} (hK : KnownX P (lookX T K l)) (fuel : Nat) {e : Ent} (h : ∀ ee, entRunX P (lookX T K l) fuel T ee e = true) : KnownX P (lookX T K (e :: l)) := by
  intro g bs u H H1' hu
  unfold lookX at hu
  split at hu
  · rename_i hc
    simp only [Option.some.injEq, Prod.mk.injEq] at hu
    obtain ⟨rfl, rfl⟩ := hu
    intro ρ w r hsc F n R hF hR
    simp only [entOk, Bool.and_eq_true, List.all_eq_true] at hc
    obtain ⟨⟨⟨⟨c1, c2⟩, c3⟩, c4⟩, c5⟩ := hc
    have c1 := Nat.eq_of_beq_eq_true c1
    have c2 := sameXL_eq _ _ c2
    have c3 := Nat.eq_of_beq_eq_true c3
    subst c1 c2
    obtain ⟨ee, hee⟩ : ∃ ee : Nat → TypeId, ∀ x ∈ T, objIs H x.1 false x.2 = some (ee x.1) := by
      refine ⟨fun n => match H.get n with
        | some ⟨.cells _ t _, _, _⟩ => t
        | _ => 0, fun x hx => ?_⟩
      have := c5 x hx
      unfold objIs at this ⊢
      split at this
      · rename_i c t z o' rv hg
        simp only [hg]
        split at this
        · rename_i hh; rw [if_pos hh]
        · simp at this
      · simp at this
    have hrun := h ee
    obtain ⟨n1, n2, n3⟩ := layB_next ((T.map fun x => (x.1, (⟨ee x.1, false, x.2⟩ : Bl))) ++ e.blks) (AHeap.none e.next)
    have hr : Rel P ρ (entHeap T ee e) w := by
      refine sub_rel r (by unfold entHeap; rw [n1]; exact c3) (by unfold entHeap; rw [n1, n2]; rfl) fun n o ho => ?_
      rcases layB_get _ _ n o ho with ho | ⟨x, hx, rfl, rfl⟩
      · rw [none_get] at ho; cases ho
      · rcases List.mem_append.1 hx with hx | hx
        · obtain ⟨y, hy, rfl⟩ := List.mem_map.1 hx
          exact objIs_same (hee y hy)
        · have := c4 x hx
          unfold blkIs at this
          split at this
          · rename_i t ht
            have := Nat.eq_of_beq_eq_true this
            subst this
            exact objIs_same ht
          · cases this
    unfold entRunX at hrun
    split at hrun
    · rename_i H1 hcl
      refine (callX_in hmix hK hr hcl (by unfold entHeap; rw [n1]; rw [show (AHeap.none e.next).next = e.next from rfl, c3]; exact hsc) hF).mono ?_
      rintro e' w' ⟨ρ1, rfl, s⟩
      have hb : RowKit.Below w.heap.size w w' := by
        refine ⟨s.os, s.tape, s.output, s.size, fun b hb => s.old b hb fun n hn hor _ => ?_⟩
        rw [List.isEmpty_iff.1 hrun] at hor
        unfold entHeap at hn hor
        rw [n1] at hn
        rw [n2] at hor
        rcases hor with h | h
        · exact absurd hn (Nat.not_lt.2 h)
        · cases h
      have := hR ρ w' (St.below r hb) rfl
      simpa [Ren.val] using this
    · cases hrun
  · exact hK _ _ _ _ _ hu

def lookP (K : KX) : List (FuncId × List Value × Value) → KX
  | [], f, args, H => K f args H
  | (g, xs, v) :: r, f, args, H => if Nat.beq g f && sameXL xs args then some (v, H) else lookP K r f args H
theorem known_nilP {K : KX} (hK : KnownX P K) : KnownX P (lookP K []) := fun f args v H H1 h => hK f args v H H1 h
theorem known_consP (hmix : P.follows .mixedOrders = true) {K : KX} {l : List (FuncId × List Value × Value)} (hK : KnownX P (lookP K l)) (fuel : Nat) {f : FuncId} {xs : List Value} {v : Value} (ha : xs.all af = true) (h : ansTX P (lookP K l) fuel f xs v [] = true) :
    KnownX P (lookP K ((f, xs, v) :: l)) := by
  intro g args u H H1 hu
  unfold lookP at hu
  split at hu
  · rename_i hc
    simp only [Bool.and_eq_true] at hc
    have c1 := Nat.eq_of_beq_eq_true hc.1
    have c2 := sameXL_eq _ _ hc.2
    subst c1 c2
    simp only [Option.some.injEq, Prod.mk.injEq] at hu
    obtain ⟨rfl, rfl⟩ := hu
    exact callS_tabX hmix hK ha h (fun x hx => by cases hx)
  · exact hK _ _ _ _ _ hu
theorem known_baseX {T : List (Nat × List Value)} {K : KX} (hK : KnownX P K) : KnownX P (lookX T K []) := fun f args v H H1 h => hK f args v H H1 h
end
end Go.Ax

/- Walk rules: operations on bits, comparisons of strings, maps that are new, function values. -/
namespace Go.Ax
set_option linter.unusedSimpArgs false

section
variable {P : Program} {ro : Option Nat} {H : AHeap} {N : Nat} {E : Env} {ds : List Deferred} {ops : Array Oper} {rest : List Oper} {d : Nat} {ty : TypeId} {pos : String} {after : Array Edge} {Q : Exit → AAct → AHeap → Prop}

theorem w_plain {op : BinOp} {t u : TypeId} {x y : Operand} {p q v : Value} (hx : opOk P N x = true) (hy : opOk P N y = true) (hp : opv E x = p) (hq : opv E y = q) (hd : d < N) (h0 : aBin P H op t p q = none) (h1 : af p = true) (h2 : af q = true) (h : peval P (do eqGuard op t x y p q; binOp op t p q) = some v) (h3 : af v = true) :
    wpOps P ro ops (⟨some d, .binOp op t x y u, ty, pos, after, none⟩ :: rest) (mkA N E ds) H Q = wpOps P ro ops rest (mkA N (upd E d v) ds) H Q :=
  (w_rv (x := some v) rfl (by simp only [aop, xBin, aeval_opv hx, aeval_opv hy, hp, hq, Option.bind_eq_bind, Option.bind_some, binV, h0, h1, h2, aPlain, h, h3, Bool.and_self, if_true, Option.map_some]; rfl) hd).trans valC_some

def bAnd (k : IntKind) (x y : Int) : Int := k.wrap ((BitVec.ofInt k.bits x &&& BitVec.ofInt k.bits y).toNat : Int)
def bOr (k : IntKind) (x y : Int) : Int := k.wrap ((BitVec.ofInt k.bits x ||| BitVec.ofInt k.bits y).toNat : Int)
def bNot (k : IntKind) (x y : Int) : Int := k.wrap ((BitVec.ofInt k.bits x &&& ~~~BitVec.ofInt k.bits y).toNat : Int)
def bShl (k : IntKind) (x : Int) (n : Nat) : Int := k.wrap (x * 2 ^ (min n k.bits))
def bShr (k : IntKind) (x : Int) (n : Nat) : Int := x.fdiv (2 ^ (min n k.bits))

def bitV (op : BinOp) : Value → Value → Option Value
  | .int k a, .int k' b => (match op with
    | .and => if k = k' then some (.int k (bAnd k a b)) else none
    | .or => if k = k' then some (.int k (bOr k a b)) else none
    | .andNot => if k = k' then some (.int k (bNot k a b)) else none
    | .shl => if 0 ≤ b then some (.int k (bShl k a b.toNat)) else none
    | .shr => if 0 ≤ b then some (.int k (bShr k a b.toNat)) else none
    | _ => none)
  | .string a, .string b => (match op with
    | .eql => some (.bool (a.toList == b.toList))
    | _ => none)
  | _, _ => none

theorem w_bits {op : BinOp} {t u : TypeId} {x y : Operand} {p q v : Value} (hx : opOk P N x = true) (hy : opOk P N y = true) (hp : opv E x = p) (hq : opv E y = q) (hd : d < N) (h : bitV op p q = some v) (h0 : aBin P H op t p q = none) :
    wpOps P ro ops (⟨some d, .binOp op t x y u, ty, pos, after, none⟩ :: rest) (mkA N E ds) H Q = wpOps P ro ops rest (mkA N (upd E d v) ds) H Q := by
  unfold bitV at h
  split at h
  · rename_i k a k' b
    split at h <;> try split at h
    · rename_i hk
      subst hk
      simp only [Option.some.injEq] at h
      subst h
      exact w_plain hx hy hp hq hd h0 rfl rfl (by simp [eqGuard, binOp, peval, Op.intBits, bAnd, pure, bind, Sem.bind]) rfl
    · cases h
    · rename_i hk
      subst hk
      simp only [Option.some.injEq] at h
      subst h
      exact w_plain hx hy hp hq hd h0 rfl rfl (by simp [eqGuard, binOp, peval, Op.intBits, bOr, pure, bind, Sem.bind]) rfl
    · cases h
    · rename_i hk
      subst hk
      simp only [Option.some.injEq] at h
      subst h
      exact w_plain hx hy hp hq hd h0 rfl rfl (by simp [eqGuard, binOp, peval, Op.intBits, bNot, pure, bind, Sem.bind]) rfl
    · cases h
    · rename_i hb
      simp only [Option.some.injEq] at h
      subst h
      exact w_plain hx hy hp hq hd h0 rfl rfl (by simp [eqGuard, binOp, peval, Op.shift, bShl, pure, bind, Sem.bind, show ¬ b < 0 by omega]) rfl
    · cases h
    · rename_i hb
      simp only [Option.some.injEq] at h
      subst h
      exact w_plain hx hy hp hq hd h0 rfl rfl (by simp [eqGuard, binOp, peval, Op.shift, bShr, pure, bind, Sem.bind, show ¬ b < 0 by omega]) rfl
    · cases h
    all_goals cases h
  · rename_i a b
    split at h
    · simp only [Option.some.injEq] at h
      subst h
      exact w_plain hx hy hp hq hd h0 rfl rfl (by simp [eqGuard, binOp, peval, Op.stringOp, pure, bind, Sem.bind]) rfl
    · cases h
  · cases h

theorem bin_nobit {op : BinOp} {t : TypeId} {p q v : Value} (hop : op = .and ∨ op = .or ∨ op = .andNot ∨ op = .shl ∨ op = .shr) (h : bitV op p q = some v) : aBin P H op t p q = none := by
  unfold bitV at h
  split at h
  · rename_i k a k' b
    simp only [aBin]
    split
    · rcases hop with rfl | rfl | rfl | rfl | rfl <;> rfl
    · rfl
  · rcases hop with rfl | rfl | rfl | rfl | rfl <;> cases h
  · cases h
theorem w_bit {op : BinOp} {t u : TypeId} {x y : Operand} (hop : op = .and ∨ op = .or ∨ op = .andNot ∨ op = .shl ∨ op = .shr) (hx : opOk P N x = true) (hy : opOk P N y = true) (hd : d < N) (h : (bitV op (opv E x) (opv E y)).isSome = true) :
    wpOps P ro ops (⟨some d, .binOp op t x y u, ty, pos, after, none⟩ :: rest) (mkA N E ds) H Q = valC P ro ops rest N E ds d H Q (bitV op (opv E x) (opv E y)) := by
  cases hv : bitV op (opv E x) (opv E y) with
  | none => rw [hv] at h; cases h
  | some v => exact (w_bits hx hy rfl rfl hd hv (bin_nobit hop hv)).trans valC_some.symm
theorem w_and {t u : TypeId} {x y : Operand} (hx : opOk P N x = true) (hy : opOk P N y = true) (hd : d < N) (h : (bitV .and (opv E x) (opv E y)).isSome = true) : wpOps P ro ops (⟨some d, .binOp .and t x y u, ty, pos, after, none⟩ :: rest) (mkA N E ds) H Q = valC P ro ops rest N E ds d H Q (bitV .and (opv E x) (opv E y)) := w_bit (by simp) hx hy hd h
theorem w_or {t u : TypeId} {x y : Operand} (hx : opOk P N x = true) (hy : opOk P N y = true) (hd : d < N) (h : (bitV .or (opv E x) (opv E y)).isSome = true) : wpOps P ro ops (⟨some d, .binOp .or t x y u, ty, pos, after, none⟩ :: rest) (mkA N E ds) H Q = valC P ro ops rest N E ds d H Q (bitV .or (opv E x) (opv E y)) := w_bit (by simp) hx hy hd h
theorem w_andNot {t u : TypeId} {x y : Operand} (hx : opOk P N x = true) (hy : opOk P N y = true) (hd : d < N) (h : (bitV .andNot (opv E x) (opv E y)).isSome = true) : wpOps P ro ops (⟨some d, .binOp .andNot t x y u, ty, pos, after, none⟩ :: rest) (mkA N E ds) H Q = valC P ro ops rest N E ds d H Q (bitV .andNot (opv E x) (opv E y)) := w_bit (by simp) hx hy hd h
theorem w_shl {t u : TypeId} {x y : Operand} (hx : opOk P N x = true) (hy : opOk P N y = true) (hd : d < N) (h : (bitV .shl (opv E x) (opv E y)).isSome = true) : wpOps P ro ops (⟨some d, .binOp .shl t x y u, ty, pos, after, none⟩ :: rest) (mkA N E ds) H Q = valC P ro ops rest N E ds d H Q (bitV .shl (opv E x) (opv E y)) := w_bit (by simp) hx hy hd h
theorem w_shr {t u : TypeId} {x y : Operand} (hx : opOk P N x = true) (hy : opOk P N y = true) (hd : d < N) (h : (bitV .shr (opv E x) (opv E y)).isSome = true) : wpOps P ro ops (⟨some d, .binOp .shr t x y u, ty, pos, after, none⟩ :: rest) (mkA N E ds) H Q = valC P ro ops rest N E ds d H Q (bitV .shr (opv E x) (opv E y)) := w_bit (by simp) hx hy hd h
theorem bit_and {k : IntKind} {a b : Int} : bitV .and (.int k a) (.int k b) = some (.int k (bAnd k a b)) := by simp only [bitV, if_true]
theorem bit_or {k : IntKind} {a b : Int} : bitV .or (.int k a) (.int k b) = some (.int k (bOr k a b)) := by simp only [bitV, if_true]
theorem bit_andNot {k : IntKind} {a b : Int} : bitV .andNot (.int k a) (.int k b) = some (.int k (bNot k a b)) := by simp only [bitV, if_true]
theorem bit_shl {k k' : IntKind} {a b : Int} (h : 0 ≤ b) : bitV .shl (.int k a) (.int k' b) = some (.int k (bShl k a b.toNat)) := by simp only [bitV, h, if_true]
theorem bit_shr {k k' : IntKind} {a b : Int} (h : 0 ≤ b) : bitV .shr (.int k a) (.int k' b) = some (.int k (bShr k a b.toNat)) := by simp only [bitV, h, if_true]
theorem w_eqStr {t u : TypeId} {x y : Operand} {a b : ByteArray} (hx : opOk P N x = true) (hy : opOk P N y = true) (hp : opv E x = .string a) (hq : opv E y = .string b) (hd : d < N) (h0 : aBin P H .eql t (.string a) (.string b) = none) : wpOps P ro ops (⟨some d, .binOp .eql t x y u, ty, pos, after, none⟩ :: rest) (mkA N E ds) H Q = wpOps P ro ops rest (mkA N (upd E d (.bool (a.toList == b.toList))) ds) H Q :=
  w_bits hx hy hp hq hd rfl h0

def mapO (es : List MapEntry) (c : Nat) : AObj := ⟨.map ⟨es⟩ c, false, ⟨[], 0⟩⟩
theorem w_mkmap {t : TypeId} (hd : d < N) : wpOps P ro ops (⟨some d, .makeMap t none, ty, pos, after, none⟩ :: rest) (mkA N E ds) H Q = wpOps P ro ops rest (mkA N (upd E d (.map (some H.next))) ds) (H.new (mapO [] 0)) Q := by
  rw [w_op rfl rfl]
  simp only [opA, aop, xMakeMap, mapNew, nextA, opC, put_some N E ds d _ hd]
  rfl
theorem w_ins {t : TypeId} {x k y : Operand} (hx : opOk P N x = true) (hk : opOk P N k = true) (hy : opOk P N y = true) : wpOps P ro ops (⟨none, .insert t x k y, ty, pos, after, none⟩ :: rest) (mkA N E ds) H Q = storeC P ro ops rest (mkA N E ds) Q (aMapUpdate P H t (opv E x) (opv E k) (opv E y)) := by
  rw [w_op rfl rfl]
  simp only [opA, aop, xMapUpdate, aeval_opv hx, aeval_opv hk, aeval_opv hy, ruh, Option.bind_eq_bind, Option.bind_some]
  cases aMapUpdate P H t (opv E x) (opv E k) (opv E y) with
  | none => rfl
  | some H1 => simp only [Option.map_some, nextA, opC, put_none, storeC]
theorem w_lookup {t : TypeId} {x k : Operand} {ok : Bool} (hx : opOk P N x = true) (hk : opOk P N k = true) (hd : d < N) : wpOps P ro ops (⟨some d, .lookup t x k ok, ty, pos, after, none⟩ :: rest) (mkA N E ds) H Q = valC P ro ops rest N E ds d H Q (aLookup P H t (opv E x) (opv E k) ok) :=
  w_rv rfl (by simp only [aop, xLookup, aeval_opv hx, aeval_opv hk, Option.bind_eq_bind, Option.bind_some]) hd

theorem upd_newMap {t key el : TypeId} {kd : TypeDesc} {k v : Value} {es : List MapEntry} {c m : Nat} (hm : H.next = m) (hok : H.base ≤ H.next) (hu : P.underlying t = some (.map key el)) (hk : P.underlying key = some kd) (h1 : (keyOk k && keyKind kd) = true) (h2 : scb (H.next + 1) v = true) (hf : Instr.findNow kd k es 0 = some none) :
    aMapUpdate P (H.new (mapO es c)) t (.map (some m)) k v = some (H.new (mapO (es ++ [{ key := k, val := v, born := c }]) (c + 1))) := by
  subst hm
  have hg : (H.new (mapO es c)).get H.next = some ⟨.map ⟨es⟩ c, false, ⟨[], 0⟩⟩ := by rw [AHeap.get_new, if_pos rfl]; rfl
  have h3 : (keyOk k && keyKind kd && scb (H.new (mapO es c)).next v) = true := by rw [h1, Bool.true_and]; exact h2
  have e := new_upd (H := H) (x := mapO es c) (o := mapO (es ++ [{ key := k, val := v, born := c }]) (c + 1)) hok
  unfold aMapUpdate
  rw [hu]
  simp only [hg, hk, Option.bind_eq_bind, Option.bind_some, h3, if_true, hf]
  rw [← e]
  simp [mapO]
end

end Go.Ax

/- slices.Insert of one number into a slice of numbers whose capacity is not known: in place or in new memory, the answer is the same abstract one (by the kit's contracts). -/
namespace Go.Ax
open Go.Proofs
section
variable {P : Program} {ρ : Ren} {H : AHeap} {w : World}

theorem setCells_heap (b : Nat) {e : TypeId} {fz : Nat × Nat} : ∀ (vs : List Value) (o : Nat) (w : World) (c : Array Value), w.heap[b]? = some (.cells c e fz) →
    (w.setCells b o vs).heap[b]? = some (.cells (wrA c o vs) e fz) ∧ (w.setCells b o vs).heap.size = w.heap.size ∧ (∀ b', b' ≠ b → (w.setCells b o vs).heap[b']? = w.heap[b']?) ∧ (w.setCells b o vs).os = w.os ∧ (w.setCells b o vs).tape = w.tape ∧ (w.setCells b o vs).output = w.output
  | [], o, w, c, h => ⟨h, rfl, fun _ _ => rfl, rfl, rfl, rfl⟩
  | v :: r, o, w, c, h => by
    have h1 : (w.setCell ⟨b, o, none⟩ v).heap[b]? = some (.cells (c.setIfInBounds o v) e fz) := by
      unfold World.setCell
      simp [Array.getElem?_modify, h]
    have h2 : (w.setCell ⟨b, o, none⟩ v).heap.size = w.heap.size := by
      unfold World.setCell
      simp
    have h3 : ∀ b', b' ≠ b → (w.setCell ⟨b, o, none⟩ v).heap[b']? = w.heap[b']? := fun b' hb => by
      unfold World.setCell
      simp only [Array.getElem?_modify]
      rw [if_neg (fun e => hb e.symm)]
    obtain ⟨k1, k2, k3, k4, k5, k6⟩ := setCells_heap b r (o + 1) _ _ h1
    exact ⟨k1, k2.trans h2, fun b' hb => (k3 b' hb).trans (h3 b' hb), k4, k5, k6⟩

def isI64 : Value → Bool
  | .int .i64 _ => true
  | _ => false
theorem isI64_of {v : Value} (h : isI64 v = true) : ∃ n, v = .int .i64 n := by
  cases v <;> try cases h
  rename_i k n
  cases k <;> first | exact ⟨n, rfl⟩ | cases h

def insK (F : FuncId) (ti : TypeId) (f : FuncId) (args : List Value) (H : AHeap) : Option (Value × AHeap) :=
  match args with
  | [.slice (some ⟨a, off, none⟩) n cap, .int .i64 i, .slice (some ⟨vb, voff, some 0⟩) 1 1] =>
    if Nat.beq f F && decide (0 ≤ i) && Nat.blt i.toNat n && Nat.ble cap 1000000 then
      match cellsAt H a, H.get vb with
      | some (v, e, true), some ⟨.cells _ _ _, false, u⟩ =>
        if Nat.beq e ti && Nat.ble n cap && Nat.ble (off + cap) v.n && Nat.blt voff u.n && !(Nat.beq a vb) && (v.gets off n).all isI64 && isI64 (u.get voff) then
          some (.slice (some ⟨H.next, 0, none⟩) (n + 1) (n + 1), (H.upd a none).new ⟨.cells #[] e, true, RV.ofList ((v.gets off n).take i.toNat ++ (u.get voff :: (v.gets off n).drop i.toNat))⟩)
        else none
      | _, _ => none
    else none
  | _ => none

theorem ins_get {l : List Value} {x : Value} {i n : Nat} (hl : l.length = n) (hi : i < n) (j : Nat) : (l.take i ++ (x :: l.drop i))[j]? = if j < i then l[j]? else if j = i then some x else l[j - 1]? := by
  by_cases h1 : j < i
  · rw [if_pos h1, List.getElem?_append_left (by rw [List.length_take]; omega), List.getElem?_take, if_pos h1]
  · rw [if_neg h1, List.getElem?_append_right (by rw [List.length_take]; omega), List.length_take, Nat.min_eq_left (by omega)]
    by_cases h2 : j = i
    · rw [if_pos h2, h2, Nat.sub_self]; rfl
    · rw [if_neg h2]
      obtain ⟨k, rfl⟩ : ∃ k, j = i + 1 + k := ⟨j - i - 1, by omega⟩
      rw [show i + 1 + k - i = k + 1 by omega, List.getElem?_cons_succ, List.getElem?_drop]
      congr 1
      omega

theorem wrA_ins {c : Array Value} {O n i : Nat} {l : List Value} {x : Value} (hl : l.length = n) (hi : i < n) (hc : ∀ j, j < n → c[O + j]? = l[j]?) (hs : O + n + 1 ≤ c.size) :
    ∀ j, j < n + 1 → (wrA (wrA c (O + (i + 1)) (l.drop i)) (O + i) [x])[O + j]? = (l.take i ++ (x :: l.drop i))[j]? := by
  intro j hj
  have hd : (l.drop i).length = n - i := by rw [List.length_drop, hl]
  rw [ins_get hl hi, wrA_get _ _ _ _ (by rw [wrA_size]; simp only [List.length_singleton]; omega)]
  by_cases h1 : j < i
  · rw [if_neg (by simp only [List.length_singleton]; omega), if_pos h1, wrA_get _ _ _ _ (by omega), if_neg (by omega)]
    exact hc j (by omega)
  · by_cases h2 : j = i
    · subst h2
      rw [if_pos (by simp only [List.length_singleton]; omega), if_neg h1, if_pos rfl, Nat.sub_self]
      rfl
    · rw [if_neg (by simp only [List.length_singleton]; omega), if_neg h1, if_neg h2, wrA_get _ _ _ _ (by omega), if_pos (by omega), List.getElem?_drop]
      congr 1
      omega

theorem ins_known {rho : Go.Shelf.Ren} (L : Lays2.n21 P rho) {e3 : TypeId} (h3 : rho.t 3 = e3) : KnownX P (insK (rho.f 21) e3) := by
  intro f args v0 H H1 h ρ w r hsc F m R hF hR
  unfold insK at h
  split at h
  · rename_i a off n cap i vb voff
    split at h
    · rename_i hcond
      simp only [Bool.and_eq_true, decide_eq_true_eq] at hcond
      obtain ⟨⟨⟨hf, h0⟩, hin⟩, hn⟩ := hcond
      have hf := Nat.eq_of_beq_eq_true hf
      subst hf
      have hin := blt_lt hin
      have hn9 := ble_le hn
      obtain ⟨i, rfl⟩ : ∃ k : Nat, i = k := ⟨i.toNat, by omega⟩
      rw [Int.toNat_natCast] at hin h
      split at h
      · rename_i v e z1 z2 z3 u hca hgv
        split at h
        · rename_i hc2
          simp only [Bool.and_eq_true, Bool.not_eq_true'] at hc2
          obtain ⟨⟨⟨⟨⟨⟨he, hnc⟩, hcap⟩, hvo⟩, hab⟩, hall⟩, hx⟩ := hc2
          have he := Nat.eq_of_beq_eq_true he
          subst he
          have hnc := ble_le hnc
          have hcap := ble_le hcap
          have hvo := blt_lt hvo
          have hab : a ≠ vb := fun e => by subst e; simp at hab
          obtain ⟨x, hx⟩ := isI64_of hx
          simp only [Option.some.injEq, Prod.mk.injEq] at h
          obtain ⟨rfl, rfl⟩ := h
          obtain ⟨c, fz, hC⟩ := r.cells hca
          obtain ⟨hsize, hfz⟩ := hC.open_ rfl
          obtain ⟨cc, ff, hg0⟩ := cellsAt_get hca
          obtain ⟨ov, hwv, hfit⟩ := r.obj _ _ hgv
          simp only [Fits] at hfit
          obtain ⟨c2, fz2, rfl, hcs2, hsh2, _⟩ := hfit
          obtain ⟨k1, k2, k3, rfl⟩ := hsh2 trivial
          have hnz : ¬ Fz (H.get a) := cellsAt_nz hca
          have hne : ρ.blk vb ≠ ρ.blk a := fun e => by
            rcases r.inj vb a (ne_none hgv) (ne_none hg0) e with h | h
            · exact hab h.symm
            · exact hnz h.2
          have h31 : P.cellsOf e = 1 := by
            obtain ⟨i0, hi0, hz0, hzs, hzb⟩ := info_parts L.i3
            rw [h3] at hi0
            exact cellsOf_szOf (by simp [szOf, hi0, hzs])
          rw [h31, Nat.mul_one] at hsize hfz
          obtain ⟨l, hl⟩ : ∃ l, l = v.gets off n := ⟨_, rfl⟩
          rw [← hl] at hall hR
          have hll : l.length = n := by rw [hl]; simp
          have hlj : ∀ j, j < n → l[j]? = some (v.get (off + j)) := fun j hj => by
            rw [hl, RV.gets_eq]; simp [hj]
          have haf : ∀ j, j < n → ∃ k, v.get (off + j) = .int .i64 k := fun j hj => isI64_of (List.all_eq_true.1 hall _ (List.mem_of_getElem? (hlj j hj)))
          have hcl : ∀ j, j < n → c[off + ρ.sh a + j]? = l[j]? := fun j hj => by
            have := hC.cell (off + j) (by omega)
            obtain ⟨k, hk⟩ := haf j hj
            rw [hlj j hj, show off + ρ.sh a + j = off + j + ρ.sh a by omega, this, hk, Ren.val]
          have hvv : c2[voff]? = some (.int .i64 x) := by
            have := hcs2 voff hvo
            rw [k2, hx, Ren.val] at this
            exact this
          have hA : [Value.slice (some ⟨a, off, none⟩) n cap, .int .i64 (i : Int), .slice (some ⟨vb, voff, some 0⟩) 1 1].map ρ.val = [.slice (some ⟨ρ.blk a, off + ρ.sh a, none⟩) n (cap + ρ.ex a), .int .i64 (i : Int), .slice (some ⟨ρ.blk vb, voff, none⟩) 1 1] := by
            simp [Ren.val, k2]
          have hins : ∀ j, j < n + 1 → ∃ k, (l.take i ++ (u.get voff :: l.drop i))[j]? = some (.int .i64 k) := fun j hj => by
            rw [ins_get hll hin]
            split
            · obtain ⟨k, hk⟩ := haf j (by omega)
              exact ⟨k, by rw [hlj j (by omega), hk]⟩
            · split
              · exact ⟨x, by rw [hx]⟩
              · obtain ⟨k, hk⟩ := haf (j - 1) (by omega)
                exact ⟨k, by rw [hlj (j - 1) (by omega), hk]⟩
          have hlen : (l.take i ++ (u.get voff :: l.drop i)).length = n + 1 := by
            rw [List.length_append, List.length_cons, List.length_take, List.length_drop]; omega
          have hone : ∀ y ∈ l, y.oneCell' = true := fun y hy => by
            obtain ⟨k, rfl⟩ := isI64_of (List.all_eq_true.1 hall y hy); rfl
          have hcellA : ∀ j y, l[j]? = some y → w.cell? ⟨ρ.blk a, off + ρ.sh a + j, none⟩ = some y := fun j y hy => by
            have hj : j < n := by have := (List.getElem?_eq_some_iff.1 hy).1; omega
            simp only [World.cell?, hC.at_]
            rw [← hy]; exact hcl j hj
          have hcellV : ∀ j y, [Value.int .i64 x][j]? = some y → w.cell? ⟨ρ.blk vb, voff + j, none⟩ = some y := fun j y hy => by
            cases j with
            | zero => simp only [World.cell?, hwv]; rw [Nat.add_zero]; simpa [← hy] using hvv
            | succ j => simp at hy
          have hoS : sco H.next ⟨.cells #[] e, true, RV.ofList (l.take i ++ (u.get voff :: l.drop i))⟩ := by
            simp only [sco, RV.n_ofList, RV.get_ofList]
            intro j hj
            rw [hlen] at hj
            obtain ⟨k, hk⟩ := hins j hj
            simp [List.getD_eq_getElem?_getD, hk, scb]
          rw [hA]
          by_cases hroom : n + 1 ≤ cap + ρ.ex a
          · have hc63 : cap + ρ.ex a ≤ 9223372036854775807 := by
              by_cases h0 : ρ.ex a = 0
              · omega
              · have := hC.room rfl h0
                rw [h31] at this
                omega
            have hc := Any2.slices_Insert_int_shift L (ρ.blk a) (off + ρ.sh a) n (cap + ρ.ex a) i (ρ.blk vb) voff 1 1 l [.int .i64 x] w hin (by omega) hroom hc63 hne hll rfl hcellA
              (fun j hj => by simp only [World.cell?, hC.at_]; simp; omega)
              (fun j hj => by
                have := hfz (off + ρ.sh a + j) (by omega) (by omega)
                simp only [World.frozen?, hC.at_]
                simp only [Bool.and_eq_false_imp, decide_eq_true_eq, decide_eq_false_iff_not]
                intro h1 h2; exact this ⟨h1, h2⟩)
              hcellV hone (by simp [Value.oneCell']) z2 e c2.size c.size (by simp only [World.shape?, hwv]) (by simp only [World.shape?, hC.at_]) (by omega) (by simp [World.frozen?, hwv]) (by simp [World.frozen?, hwv])
            refine (hF.calls hc).mono ?_
            rintro en w' ⟨rfl, rfl⟩
            obtain ⟨a1, a2, a3, a4, a5, a6⟩ := setCells_heap (ρ.blk a) (l.drop i) (off + ρ.sh a + (i + 1)) w.drew c hC.at_
            obtain ⟨b1, b2, b3, b4, b5, b6⟩ := setCells_heap (ρ.blk a) [.int .i64 x] (off + ρ.sh a + i) _ _ a1
            have hst := St.move r (off + ρ.sh a) (cap + ρ.ex a - (n + 1)) (ne_none hg0) hnz hoS (o' := _) (by
              simp only [Fits]
              refine ⟨_, fz, rfl, fun j hj => ?_, fun h => (by cases h), fun _ _ => ⟨?_, fun j h1 h2 => ?_⟩⟩
              · rw [RV.n_ofList, hlen] at hj
                have := wrA_ins (x := .int .i64 x) hll hin hcl (by omega) j hj
                obtain ⟨k, hk⟩ := hins j hj
                rw [RV.get_ofList, Ren.at_sh, Nat.add_comm j, this, ← hx, hk, List.getD_eq_getElem?_getD, hk]
                simp [Ren.val]
              · rw [wrA_size, wrA_size, Ren.at_sh, Ren.at_ex, RV.n_ofList, hlen, h31]; omega
              · rw [Ren.at_sh, Ren.at_ex, RV.n_ofList, hlen, h31] at h2
                rw [Ren.at_sh] at h1
                exact hfz j (by omega) (by omega)) b1 (b2.trans a2) (fun b' hb => (b3 b' hb).trans (a3 b' hb)) (b4.trans a4) (b5.trans a5) (b6.trans a6)
            have := hR _ _ hst (by simp only [scb]; exact blt_of (Nat.lt_succ_self _))
            rw [val_fresh, show n + 1 + (cap + ρ.ex a - (n + 1)) = cap + ρ.ex a by omega] at this
            exact this
          · have hc := Any2.slices_Insert_int_grow L (ρ.blk a) (off + ρ.sh a) n (cap + ρ.ex a) i (ρ.blk vb) voff 1 1 l [.int .i64 x] w hin (by omega) (by omega) (by omega) (by omega) hll rfl hcellA hcellV hone (by simp [Value.oneCell'])
            refine (hF.calls hc).mono ?_
            rintro en w' ⟨rfl, hw'⟩
            obtain ⟨G, hG⟩ : ∃ G, grownCap w (n + 1) (cap + ρ.ex a) (rho.t 3) = G := ⟨_, rfl⟩
            have hG1 : n + 1 ≤ G := hG ▸ grownCap_ge w (n + 1) _ _
            have hG2 : G ≤ 9223372036854775807 := by
              have := grownCap_le_maxLen w (n + 1) (cap + ρ.ex a) (rho.t 3) (by simp only [maxLen]; omega)
              simp only [maxLen] at this
              omega
            rw [hG, h3] at hw'
            rw [hG]
            have hzs : ∀ k, Builtin.zeroCells (Value.int .i64 0).cells k = (zerosL [.int .i64 0] k).toArray := fun k => zeros_range _ _
            rw [hzs, hzs] at hw'
            obtain ⟨A, hA⟩ : ∃ A, (l.take i).toArray ++ (zerosL [.int .i64 0] (n + 1 - i)).toArray ++ (zerosL [Value.int .i64 0] (G - (n + 1))).toArray = A := ⟨_, rfl⟩
            rw [hA] at hw'
            have hAs : A.size = G := by
              rw [← hA]
              simp only [Array.size_append, List.size_toArray, List.length_take, zerosL_len, List.length_singleton]
              omega
            have hAi : ∀ j, j < i → A[j]? = l[j]? := fun j hj => by
              rw [← hA, Array.getElem?_append_left (by simp only [Array.size_append, List.size_toArray, List.length_take]; omega), Array.getElem?_append_left (by simp only [List.size_toArray, List.length_take]; omega)]
              simp [hj]
            have q0 : (w.alloc (.cells A e)).drew.heap[w.heap.size]? = some (.cells A e (0, 0)) := by
              show (w.heap.push _)[w.heap.size]? = _
              simp
            obtain ⟨a1, a2, a3, a4, a5, a6⟩ := setCells_heap w.heap.size [.int .i64 x] i (w.alloc (.cells A e)).drew A q0
            obtain ⟨b1, b2, b3, b4, b5, b6⟩ := setCells_heap w.heap.size (l.drop i) (i + 1) ((w.alloc (.cells A e)).drew.setCells w.heap.size i [.int .i64 x]).drew _ a1
            rw [← hw'] at b1 b2 b3 b4 b5 b6
            have s1 := St.del r a hnz
            have s3 := St.new s1.rel ⟨.cells #[] e, true, RV.ofList (l.take i ++ (u.get voff :: l.drop i))⟩ (.cells (wrA (wrA A i [.int .i64 x]) (i + 1) (l.drop i)) e (0, 0)) 0 (G - (n + 1)) hoS (by
              simp only [Fits]
              refine ⟨_, (0, 0), rfl, fun j hj => ?_, fun h => (by cases h), fun _ _ => ⟨⟨?_, fun _ => ?_⟩, fun j h1 h2 => by simp only; omega⟩⟩
              · rw [RV.n_ofList, hlen] at hj
                obtain ⟨k, hk⟩ := hins j hj
                rw [RV.get_ofList, Ren.at_sh, show j + 0 = j from rfl, List.getD_eq_getElem?_getD, hk]
                rw [ins_get hll hin] at hk
                have hdl : (l.drop i).length = n - i := by rw [List.length_drop, hll]
                rw [wrA_get _ _ _ _ (by rw [wrA_size]; omega)]
                by_cases h1 : j < i
                · rw [if_pos h1] at hk
                  rw [if_neg (by omega), wrA_get _ _ _ _ (by simp only [List.length_singleton]; omega), if_neg (by omega), hAi j h1, hk]
                  simp [Ren.val]
                · rw [if_neg h1] at hk
                  by_cases h2 : j = i
                  · rw [if_pos h2, hx] at hk
                    rw [if_neg (by omega), wrA_get _ _ _ _ (by simp only [List.length_singleton]; omega), if_pos (by simp only [List.length_singleton]; omega), h2, Nat.sub_self]
                    simpa [Ren.val] using hk
                  · rw [if_neg h2] at hk
                    rw [if_pos (by omega), List.getElem?_drop, show i + (j - (i + 1)) = j - 1 by omega, hk]
                    simp [Ren.val]
              · rw [wrA_size, wrA_size, hAs, Ren.at_sh, Ren.at_ex, RV.n_ofList, hlen, h31]; omega
              · rw [Ren.at_ex, RV.n_ofList, hlen, h31]; omega)
            have s4 := St.world (w1 := w') s3.rel (by
              apply Array.ext_getElem?
              intro k
              by_cases hk : k = w.heap.size
              · rw [hk, b1]
                show _ = (w.heap.push _)[w.heap.size]?
                simp
              · rw [b3 k hk]
                show ((w.alloc (.cells A e)).drew.setCells w.heap.size i [.int .i64 x]).heap[k]? = _
                rw [a3 k hk]
                show (w.heap.push _)[k]? = (w.heap.push _)[k]?
                rw [Array.getElem?_push, Array.getElem?_push, if_neg hk, if_neg hk]) (b4.trans a4) (b5.trans a5) (b6.trans a6)
            have := hR _ _ (s1.trans (s3.trans s4)) (by simp only [scb]; exact blt_of (Nat.lt_succ_self _))
            rw [show (H.upd a none).next = H.next from rfl, val_fresh, show n + 1 + (G - (n + 1)) = G by omega] at this
            exact this
        · cases h
      · cases h
    · cases h
  · cases h

end
end Go.Ax

/- Answers of shapes(), of strings.Repeat and slices.Insert (the kit's contracts), for runs of the code laws. -/
namespace Go.Proofs.YtnigelgcjfhghaaGreatDoor
open Go.Ax
set_option maxRecDepth 100000

def rhoR : Go.Shelf.Ren := ⟨fun n => if n = 99 then 135 else if n = 105 then 111 else if n = 165 then 136 else if n = 166 then 53 else if n = 169 then 56 else if n = 170 then 137 else if n = 206 then 154 else if n = 212 then 134 else if n = 240 then 86 else if n = 241 then 155 else if n = 263 then 152 else if n = 264 then 153 else if n = 276 then 112 else if n = 277 then 163 else 0, fun n => if n = 37 then 23 else if n = 46 then 80 else if n = 51 then 201 else if n = 53 then 190 else if n = 70 then 108 else if n = 72 then 110 else if n = 75 then 117 else if n = 76 then 118 else if n = 80 then 122 else if n = 109 then 186 else if n = 127 then 146 else if n = 146 then 202 else if n = 148 then 204 else if n = 164 then 169 else n, fun n => n⟩
theorem laysR : Go.Proofs.Lays.n105 Tryz.prog rhoR := by
  constructor
  all_goals first
    | exact mixed
    | kernel_rfl
    | (intro w; kernel_rfl)
theorem extraR : Go.Proofs.Builder.Extra Tryz.prog rhoR := by
  refine ⟨⟨?_, ?_⟩, ?_, ?_, ?_, ?_, ?_, ?_, ?_, ?_⟩
  all_goals first
    | kernel_rfl
    | (intro w; kernel_rfl)
    | decide
def rhoI : Go.Shelf.Ren := ⟨fun n => if n = 21 then 98 else if n = 27 then 121 else if n = 28 then 122 else if n = 35 then 149 else if n = 39 then 162 else 0, fun n => if n = 22 then 35 else n, fun n => n⟩
theorem laysI : Go.Proofs.Lays2.n21 Tryz.prog rhoI := by
  constructor
  all_goals first
    | exact mixed
    | kernel_rfl
    | (intro w; kernel_rfl)

def repK : KX := fun f args H =>
  match args with
  | [.string s, .int .i64 n] => if Nat.beq f 111 && decide (0 ≤ n) && decide (n ≤ 1000) && Nat.ble s.size 1000 then some (.string ⟨(Go.Lib.repeatL s.data.toList n.toNat).toArray⟩, H) else none
  | _ => none
theorem repeat_s (H : AHeap) (s : ByteArray) (k : Nat) (hs : s.size * k ≤ 140737488355328) (hk : k ≤ 9223372036854775807) : CallS Tryz.prog 111 [.string s, .int .i64 (k : Int)] H (.ok (.string ⟨(Go.Lib.repeatL s.data.toList k).toArray⟩)) H := by
  intro ρ w r hsc F m R hF hR
  have hc := Go.Proofs.Any.strings_Repeat laysR extraR s k w hk hs
  have e1 : [Value.string s, Value.int .i64 (k : Int)].map ρ.val = [Value.string s, Value.int .i64 (k : Int)] := map_af ρ _ (fun x hx => by simp only [List.mem_cons, List.not_mem_nil, or_false] at hx; rcases hx with rfl | rfl <;> rfl)
  rw [e1]
  refine (hF.calls hc).mono ?_
  rintro e w' ⟨rfl, hb⟩
  have := hR ρ w' (St.below r hb) rfl
  rwa [val_af ρ _ rfl] at this
theorem known_rep : KnownX Tryz.prog repK := by
  intro f args v H H1 h
  unfold repK at h
  split at h
  · rename_i s n
    split at h
    · rename_i hc
      simp only [Bool.and_eq_true, decide_eq_true_eq] at hc
      obtain ⟨⟨⟨hf, h0⟩, h1⟩, h2⟩ := hc
      have hf := Nat.eq_of_beq_eq_true hf
      subst hf
      have h2 := Nat.le_of_ble_eq_true h2
      obtain ⟨k, rfl⟩ : ∃ k : Nat, n = k := ⟨n.toNat, by omega⟩
      cases h
      have hm : s.size * k ≤ 1000 * 1000 := Nat.mul_le_mul h2 (by omega)
      rw [Int.toNat_natCast]
      exact repeat_s _ s k (by omega) (by omega)
    · cases h
  · cases h
def shaK : KX := fun f args H =>
  match args with
  | [] => if Nat.beq f 52 then some (.agg ⟨shV H.next⟩, ext H (shB H.next)) else none
  | _ => none
theorem known_sha : KnownX Tryz.prog shaK := by
  intro f args v H H1 h
  unfold shaK at h
  split at h
  · split at h
    · rename_i hf
      have hf := Nat.eq_of_beq_eq_true hf
      subst hf
      cases h
      exact shapes_c _
    · cases h
  · cases h
def baseK : KX := orX shaK (orX repK (insK 98 3))
theorem known_bK : KnownX Tryz.prog baseK := known_orX known_sha (known_orX known_rep (ins_known laysI rfl))
end Go.Proofs.YtnigelgcjfhghaaGreatDoor

/- Calls of faulty in CodeKnown. -/
namespace Go.Proofs.YtnigelgcjfhghaaGreatDoor
open Go.Ax

abbrev kpa1 : List Value := [.int .i64 0, .int .i64 0, .int .i64 1, .int .i64 1, .string ⟨#[100, 114, 111, 112, 10]⟩, .int .i64 9, .int .i64 0]
abbrev kpa2 : List Value := [.int .i64 0, .int .i64 0, .int .i64 1, .int .i64 1, .string ⟨#[99, 111, 110, 115, 116, 32, 48, 10]⟩, .int .i64 13, .int .i64 0]
abbrev kpa3 : List Value := [.int .i64 0, .int .i64 0, .int .i64 1, .int .i64 1, .string ⟨#[106, 117, 109, 112, 32, 49, 10]⟩, .int .i64 5, .int .i64 0]
abbrev kpa4 : List Value := [.int .i64 0, .int .i64 0, .int .i64 1, .int .i64 1, .string ⟨#[114, 101, 116, 117, 114, 110, 10]⟩, .int .i64 9, .int .i64 0]
abbrev kpa5 : List Value := [.int .i64 0, .int .i64 0, .int .i64 1, .int .i64 1, .string ⟨#[99, 111, 110, 115, 116, 32, 49, 10]⟩, .int .i64 3, .int .i64 0]
abbrev kpa6 : List Value := [.int .i64 0, .int .i64 0, .int .i64 2, .int .i64 2, .string ⟨#[99, 111, 110, 115, 116, 32, 48, 10, 99, 97, 116, 99, 104, 32, 49, 49, 10, 99, 111, 110, 115, 116, 32, 49, 10, 100, 111, 110, 101, 10, 114, 101, 116, 117, 114, 110, 10]⟩, .int .i64 5, .int .i64 3]
abbrev kpa7 : List Value := [.int .i64 2, .int .i64 2, .int .i64 4, .int .i64 1, .string ⟨#[99, 111, 110, 115, 116, 32, 48, 10, 99, 111, 112, 121, 32, 50, 10, 99, 111, 112, 121, 32, 50, 10, 99, 97, 108, 108, 32, 50, 10, 114, 101, 116, 117, 114, 110, 10]⟩, .int .i64 12, .int .i64 6]
abbrev kpl0 : List (FuncId × List Value × Value) := []
abbrev kpl1 : List (FuncId × List Value × Value) := (37, kpa1, .bool true) :: kpl0
abbrev kpl2 : List (FuncId × List Value × Value) := (37, kpa2, .bool true) :: kpl1
abbrev kpl3 : List (FuncId × List Value × Value) := (37, kpa3, .bool true) :: kpl2
abbrev kpl4 : List (FuncId × List Value × Value) := (37, kpa4, .bool true) :: kpl3
abbrev kpl5 : List (FuncId × List Value × Value) := (37, kpa5, .bool true) :: kpl4
abbrev kpl6 : List (FuncId × List Value × Value) := (37, kpa6, .bool true) :: kpl5
abbrev kpl7 : List (FuncId × List Value × Value) := (37, kpa7, .bool true) :: kpl6

end Go.Proofs.YtnigelgcjfhghaaGreatDoor
