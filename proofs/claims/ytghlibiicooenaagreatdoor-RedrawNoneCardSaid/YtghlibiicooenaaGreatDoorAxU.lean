/- Conversions, ranging over strings, maps. -/
import Derived.Test.YtghlibiicooenaaGreatDoorAxJ
namespace Go.Ax
section
variable {P : Program} {ρ : Ren} {H : AHeap} {w : World}

theorem runes_af (s : ByteArray) : ∀ (b i : Nat) (acc : Array Value), (∀ v ∈ acc.toList, af v = true) → ∀ v ∈ (Conv.runesFrom s b i acc).toList, af v = true := by
  intro b
  induction b with
  | zero => intro i acc h; simpa [Conv.runesFrom] using h
  | succ b ih =>
    intro i acc h
    simp only [Conv.runesFrom]
    split
    · refine ih _ _ ?_
      intro v hv
      simp only [Array.toList_push, List.mem_append, List.mem_singleton] at hv
      rcases hv with hv | rfl
      · exact h v hv
      · rfl
    · exact h

/-- a new block with spare cells behind, marked as a string's -/
theorem aNew_str (r : Rel P ρ H w) {e : TypeId} {c : List Value} {H1 : AHeap} (h : aNew H e c true = some H1) (post : Array Value) (ex : Nat) (hp : post.size = ex * P.cellsOf e) :
    St P ρ H w (ρ.at H.next w.heap.size 0 ex) H1 (w.alloc (.cells ((c.map ρ.val).toArray ++ post) e (c.length + post.size, c.length + post.size + 1))) := by
  unfold aNew at h
  split at h
  · rename_i hsc
    simp only [Option.some.injEq] at h
    subst h
    refine St.new r _ _ 0 ex ?_ ?_
    · simp only [sco, RV.n_ofList, RV.get_ofList]
      intro i hi
      exact scbL_iff.1 hsc _ (by simp [List.getD, hi])
    · simp only [Fits]
      refine ⟨_, _, rfl, fun i hi => ?_, fun h => (by cases h), fun _ => ?_⟩
      · simp only [RV.n_ofList] at hi
        rw [RV.get_ofList, Ren.at_sh, val_ext (Ren.at_ext ρ H.next w.heap.size 0 ex) _ (scbL_iff.1 hsc _ (by simp [List.getD, hi]))]
        rw [Array.getElem?_append_left (by simpa using hi)]
        simp [List.getD, hi]
      · simp [hp]
  · cases h

theorem run_shape (b : Nat) : (shape b).run P w = .ok (w.shape? b) w := rfl
theorem run_freeze (a : Addr) (n : Nat) : (freeze a n).run P w = .ok () (w.freeze a n) := rfl

theorem alloc_heap (o : Obj) : (w.alloc o).heap = w.heap.push o := rfl

theorem alloc_at (o : Obj) : (w.alloc o).heap[w.heap.size]? = some o := by rw [alloc_heap]; simp

theorem run_markStr (c : Array Value) (e : TypeId) : (markStringish ⟨w.heap.size, 0, none⟩).run P (w.alloc (.cells c e)) = .ok () (w.alloc (.cells c e (c.size, c.size + 1))) := by
  have h1 : (w.alloc (.cells c e)).shape? w.heap.size = some (e, c.size) := by
    unfold World.shape?
    rw [alloc_at]
  unfold markStringish
  simp only [Sem.run_bind, run_shape, h1, Result.andThen_ok, run_freeze]
  congr 1
  unfold World.freeze
  rw [if_neg (by decide), alloc_heap]
  have : ∀ f : Obj → Obj, (w.heap.push (.cells c e)).modify w.heap.size f = w.heap.push (f (.cells c e)) := by
    intro f
    apply Array.ext_getElem?
    intro i
    rw [Array.getElem?_modify]
    by_cases hi : w.heap.size = i
    · subst hi; simp
    · rw [if_neg hi, Array.getElem?_push, Array.getElem?_push, if_neg (fun h => hi h.symm), if_neg (fun h => hi h.symm)]
  simp only [this]
  simp
  rfl

theorem bytesV_map (s : ByteArray) : (bytesV s.data.toList).toArray = s.data.map fun b => (.int .u8 b.toNat : Value) := by
  unfold bytesV
  apply Array.ext'
  simp

theorem conv_bytes (r : Rel P ρ H w) {e : TypeId} {s : ByteArray} {g : AHeap} (hsz : szOf P e = some 1) (hg : aNew H e (bytesV s.data.toList) true = some g) :
    VOk P ρ H w (Conv.stringToBytes e s) (.slice (some ⟨H.next, 0, none⟩) s.size s.size) g := by
  have hcut := cut_append s.size 0 e (w.tape w.drawn (.appendCap s.size 0 e))
  obtain ⟨ex, hex⟩ : ∃ ex, (Question.appendCap s.size 0 e).cut (w.tape w.drawn (.appendCap s.size 0 e)) = s.size + ex := ⟨_, (Nat.add_sub_cancel' hcut).symm⟩
  have hfo : (Question.appendCap s.size 0 e).forced = false := rfl
  have hst := aNew_str (r.heap (w' := w.drew) rfl) hg (Array.replicate ex (.int .u8 0)) ex (by simp [cellsOf_szOf hsz])
  refine ⟨_, _, (drew_st r).trans hst, ?_⟩
  unfold Conv.stringToBytes
  simp only [Sem.run_bind, run_choose, hfo, Bool.false_eq_true, if_false, hex]
  have hdrew : ({ w with drawn := w.drawn + 1 } : World) = w.drew := rfl
  simp only [hdrew, Result.andThen_ok, newRow, Sem.run_bind, run_newObj, Sem.run_pure, Nat.add_sub_cancel_left]
  have := run_markStr (P := P) (w := w.drew) ((s.data.map fun b => (.int .u8 b.toNat : Value)) ++ Array.replicate ex (.int .u8 0)) e
  have e1 : ((bytesV s.data.toList).map ρ.val).toArray = s.data.map fun b => (.int .u8 b.toNat : Value) := by
    rw [← bytesV_map]
    congr 1
    unfold bytesV
    rw [List.map_map]
    apply List.map_congr_left
    intro b _
    simp [Ren.val]
  refine (congrArg (fun q => Result.andThen q _) this).trans ?_
  rw [val_fresh, e1]
  simp only [Result.andThen_ok]
  simp [bytesV]

theorem conv_runes (r : Rel P ρ H w) {e : TypeId} {s : ByteArray} {g : AHeap} (hsz : szOf P e = some 1) (hg : aNew H e (Conv.runesFrom s s.size 0 #[]).toList true = some g) :
    VOk P ρ H w (Conv.stringToRunes e s) (.slice (some ⟨H.next, 0, none⟩) (Conv.runesFrom s s.size 0 #[]).toList.length (Conv.runesFrom s s.size 0 #[]).toList.length) g := by
  generalize hel : Conv.runesFrom s s.size 0 #[] = el at hg
  have hcut := cut_append el.size 0 e (w.tape w.drawn (.appendCap el.size 0 e))
  obtain ⟨ex, hex⟩ : ∃ ex, (Question.appendCap el.size 0 e).cut (w.tape w.drawn (.appendCap el.size 0 e)) = el.size + ex := ⟨_, (Nat.add_sub_cancel' hcut).symm⟩
  have hfo : (Question.appendCap el.size 0 e).forced = false := rfl
  have hst := aNew_open (r.heap (w' := w.drew) rfl) hg (Array.replicate ex (.int .i32 0)) ex (by simp [cellsOf_szOf hsz])
  refine ⟨_, _, (drew_st r).trans hst, ?_⟩
  unfold Conv.stringToRunes
  simp only [hel, Sem.run_bind, run_choose, hfo, Bool.false_eq_true, if_false, hex]
  have hdrew : ({ w with drawn := w.drawn + 1 } : World) = w.drew := rfl
  simp only [hdrew, Result.andThen_ok, newRow, Sem.run_bind, run_newObj, Sem.run_pure, Nat.add_sub_cancel_left]
  have haf : ∀ v ∈ el.toList, af v = true := by
    rw [← hel]; exact runes_af s s.size 0 #[] (by simp)
  have e1 : (el.toList.map ρ.val).toArray = el := by
    have : el.toList.map ρ.val = el.toList := by
      conv => rhs; rw [← List.map_id el.toList]
      apply List.map_congr_left
      intro v hv
      exact val_af ρ v (haf v hv)
    rw [this]
  rw [val_fresh, e1]
  simp
  rfl

theorem run_forIn {β : Type} (f : Value → β → Sem (ForInStep β)) (g : Value → β → β) : ∀ (l : List Value) (b : β), (∀ v ∈ l, ∀ b, (f v b).run P w = .ok (.yield (g v b)) w) →
    (forIn l.toArray b f).run P w = .ok (l.foldl (fun b v => g v b) b) w := by
  intro l
  induction l with
  | nil => intro b _; simp
  | cons v l ih =>
    intro b h
    have := ih (g v b) (fun u hu c => h u (List.mem_cons_of_mem _ hu) c)
    simp only [List.forIn_toArray] at this ⊢
    simp only [List.forIn_cons, Sem.run_bind, h v (List.mem_cons_self ..) b, Result.andThen_ok, List.foldl_cons, this]

theorem ba_push (a : List UInt8) (b : UInt8) : (ByteArray.mk a.toArray).push b = ⟨(a ++ [b]).toArray⟩ := by
  simp [ByteArray.push]

theorem ba_append (a : List UInt8) (b : ByteArray) : (ByteArray.mk a.toArray) ++ b = ⟨(a ++ b.data.toList).toArray⟩ := by
  apply ByteArray.ext
  simp [ByteArray.data_append]

theorem bytes_fold (ρ : Ren) : ∀ (cs : List Value) (l acc : List UInt8), bytesOfCells cs = some l →
    (cs.map ρ.val).foldl (fun (s : ByteArray) (v : Value) => match v with | .int .u8 n => s.push (UInt8.ofNat n.toNat) | _ => s) ⟨acc.toArray⟩ = ⟨(acc ++ l).toArray⟩ ∧ ∀ v ∈ cs.map ρ.val, ∃ n, v = .int .u8 n := by
  intro cs
  induction cs with
  | nil => intro l acc h; simp only [bytesOfCells, Option.some.injEq] at h; subst h; simp
  | cons c cs ih =>
    intro l acc h
    unfold bytesOfCells at h
    split at h
    · cases ‹c :: cs = []›
    · rename_i n r heq
      cases heq
      simp only [Option.map_eq_some_iff] at h
      obtain ⟨l1, h1, rfl⟩ := h
      obtain ⟨e1, e2⟩ := ih l1 (acc ++ [UInt8.ofNat n.toNat]) h1
      refine ⟨?_, ?_⟩
      · simp only [List.map_cons, Ren.val, List.foldl_cons, ba_push]
        rw [e1]
        simp
      · intro v hv
        simp only [List.map_cons, List.mem_cons] at hv
        rcases hv with rfl | hv
        · exact ⟨n, by rw [Ren.val]⟩
        · exact e2 v hv
    · cases h

theorem runes_fold (ρ : Ren) : ∀ (cs : List Value) (l acc : List UInt8), runesOfCells cs = some l →
    (cs.map ρ.val).foldl (fun (s : ByteArray) (v : Value) => match v with | .int .i32 n => s ++ Utf8.encode n | _ => s) ⟨acc.toArray⟩ = ⟨(acc ++ l).toArray⟩ ∧ ∀ v ∈ cs.map ρ.val, ∃ n, v = .int .i32 n := by
  intro cs
  induction cs with
  | nil => intro l acc h; simp only [runesOfCells, Option.some.injEq] at h; subst h; simp
  | cons c cs ih =>
    intro l acc h
    unfold runesOfCells at h
    split at h
    · cases ‹c :: cs = []›
    · rename_i n r heq
      cases heq
      simp only [Option.map_eq_some_iff] at h
      obtain ⟨l1, h1, rfl⟩ := h
      obtain ⟨e1, e2⟩ := ih l1 (acc ++ (Utf8.encode n).data.toList) h1
      refine ⟨?_, ?_⟩
      · simp only [List.map_cons, Ren.val, List.foldl_cons, ba_append]
        rw [e1]
        simp
      · intro v hv
        simp only [List.map_cons, List.mem_cons] at hv
        rcases hv with rfl | hv
        · exact ⟨n, by rw [Ren.val]⟩
        · exact e2 v hv
    · cases h

theorem conv_str32 (r : Rel P ρ H w) {a : Option Addr} {len cap : Nat} {cs : List Value} {l : List UInt8} (hc : firstC H 1 len (.slice a len len) = some cs) (hl : runesOfCells cs = some l) :
    (Conv.runesToString (ρ.val (.slice a len cap))).run P w = .ok (.string ⟨l.toArray⟩) w := by
  have hf := firstC_run r hc
  cases a with
  | none =>
    simp only [firstC, Option.some.injEq] at hc
    subst hc
    simp only [runesOfCells, Option.some.injEq] at hl
    subst hl
    simp only [Ren.val, Conv.runesToString, Sem.run_pure]
    rfl
  | some a =>
    simp only [Ren.val, Builtin.firstCells, Nat.mul_one] at hf
    simp only [Ren.val, Conv.runesToString, Sem.run_bind, hf, Result.andThen_ok]
    obtain ⟨e1, e2⟩ := runes_fold ρ cs l [] hl
    rw [run_forIn _ (fun v s => match v with | .int .i32 n => s ++ Utf8.encode n | _ => s) _ _ (fun v hv b => by
      obtain ⟨n, rfl⟩ := e2 v hv
      simp)]
    have e3 : ByteArray.empty = ⟨([] : List UInt8).toArray⟩ := rfl
    simp only [Result.andThen_ok, Sem.run_pure, e3]
    rw [e1]
    simp

theorem conv_str8 (r : Rel P ρ H w) {a : Option Addr} {len cap : Nat} {cs : List Value} {l : List UInt8} (hc : firstC H 1 len (.slice a len len) = some cs) (hl : bytesOfCells cs = some l) :
    (Conv.bytesToString (ρ.val (.slice a len cap))).run P w = .ok (.string ⟨l.toArray⟩) w := by
  have hf := firstC_run r hc
  cases a with
  | none =>
    simp only [firstC, Option.some.injEq] at hc
    subst hc
    simp only [bytesOfCells, Option.some.injEq] at hl
    subst hl
    simp only [Ren.val, Conv.bytesToString, Sem.run_pure]
    rfl
  | some a =>
    simp only [Ren.val, Builtin.firstCells, Nat.mul_one] at hf
    simp only [Ren.val, Conv.bytesToString, Sem.run_bind, hf, Result.andThen_ok]
    obtain ⟨e1, e2⟩ := bytes_fold ρ cs l [] hl
    rw [run_forIn _ (fun v s => match v with | .int .u8 n => s.push (UInt8.ofNat n.toNat) | _ => s) _ _ (fun v hv b => by
      obtain ⟨n, rfl⟩ := e2 v hv
      simp)]
    have e3 : ByteArray.empty = ⟨([] : List UInt8).toArray⟩ := rfl
    simp only [Result.andThen_ok, Sem.run_pure, e3]
    rw [e1]
    simp

theorem aConvert_run (r : Rel P ρ H w) {s d : TypeId} {x v : Value} {H1 : AHeap} (h : aConvert P H s d x = some (v, H1)) : VOk P ρ H w (convert s d (ρ.val x)) v H1 := by
  unfold aConvert at h
  split at h
  · rename_i us k ks n h1 h2
    simp only [Option.some.injEq, Prod.mk.injEq] at h
    obtain ⟨rfl, rfl⟩ := h
    refine VOk.same r ?_
    simp [convert, Sem.run_bind, run_und h1, run_und h2, Ren.val, Conv.intToInt]
  · rename_i us str h1 h2
    simp only [Option.some.injEq, Prod.mk.injEq] at h
    obtain ⟨rfl, rfl⟩ := h
    refine VOk.same r ?_
    simp [convert, Sem.run_bind, run_und h1, run_und h2, Ren.val]
  · rename_i us ks n h1 h2
    simp only [Option.some.injEq, Prod.mk.injEq] at h
    obtain ⟨rfl, rfl⟩ := h
    refine VOk.same r ?_
    simp [convert, Sem.run_bind, run_und h1, run_und h2, Ren.val, Conv.intToString]
  · rename_i us e str h1 h2
    split at h
    · rename_i h3
      simp only [Option.bind_eq_bind, Option.bind_eq_some_iff] at h
      obtain ⟨sz, hsz, h⟩ := h
      split at h
      · simp only [Option.bind_eq_some_iff, Option.some.injEq, Prod.mk.injEq] at h
        obtain ⟨g, hg, rfl, rfl⟩ := h
        obtain ⟨ρ1, w1, hst, hr⟩ := conv_bytes r hsz hg
        refine ⟨ρ1, w1, hst, ?_⟩
        rw [← hr]
        simp [convert, Sem.run_bind, run_und h1, run_und h2, run_und h3, Ren.val]
      · cases h
    · rename_i h3
      simp only [Option.bind_eq_bind, Option.bind_eq_some_iff] at h
      obtain ⟨sz, hsz, h⟩ := h
      split at h
      · simp only [Option.bind_eq_some_iff, Option.some.injEq, Prod.mk.injEq] at h
        obtain ⟨g, hg, rfl, rfl⟩ := h
        obtain ⟨ρ1, w1, hst, hr⟩ := conv_runes r hsz hg
        refine ⟨ρ1, w1, hst, ?_⟩
        rw [← hr]
        simp [convert, Sem.run_bind, run_und h1, run_und h2, run_und h3, Ren.val]
      · cases h
    · cases h
  · rename_i e a len cap h1 h2
    simp only [Option.bind_eq_bind, Option.bind_eq_some_iff] at h
    obtain ⟨cs, hc, h⟩ := h
    split at h
    · rename_i h3
      simp only [Option.map_eq_some_iff, Prod.mk.injEq] at h
      obtain ⟨l, hl, rfl, rfl⟩ := h
      refine VOk.same r ?_
      have := conv_str8 (cap := cap) r hc hl
      rw [Ren.val, ← this]
      cases a <;> simp [convert, Sem.run_bind, run_und h1, run_und h2, run_und h3, Ren.val]
    · rename_i h3
      simp only [Option.map_eq_some_iff, Prod.mk.injEq] at h
      obtain ⟨l, hl, rfl, rfl⟩ := h
      refine VOk.same r ?_
      have := conv_str32 (cap := cap) r hc hl
      rw [Ren.val, ← this]
      cases a <;> simp [convert, Sem.run_bind, run_und h1, run_und h2, run_und h3, Ren.val]
    · cases h
  · cases h

theorem run_setObj {r : Nat} {o o' : Obj} (h : w.heap[r]? = some o) (hc : ∀ c e f, o ≠ .cells c e f) : (setObj r o').run P w = .ok () { w with heap := w.heap.setIfInBounds r o' } := by
  cases o <;> first
    | (exact absurd rfl (hc _ _ _))
    | simp only [setObj, Sem.run, h]

theorem setObj_heap (r : Nat) (o o' : Obj) (h : w.heap[r]? = some o) :
    ({ w with heap := w.heap.setIfInBounds r o' } : World).heap[r]? = some o' ∧ ({ w with heap := w.heap.setIfInBounds r o' } : World).heap.size = w.heap.size ∧
      ∀ b, b ≠ r → ({ w with heap := w.heap.setIfInBounds r o' } : World).heap[b]? = w.heap[b]? := by
  have hlt : r < w.heap.size := by
    rcases Nat.lt_or_ge r w.heap.size with h1 | h1
    · exact h1
    · simp [Array.getElem?_eq_none h1] at h
  refine ⟨by simp [Array.getElem?_setIfInBounds, hlt], by simp, fun b hb => ?_⟩
  simp only [Array.getElem?_setIfInBounds]
  rw [if_neg (fun e => hb e.symm)]


theorem run_getObj {n : Nat} {o : Obj} (h : w.heap[n]? = some o) (hc : ∀ c e f, o ≠ .cells c e f) : (getObj n).run P w = .ok o w := by
  cases o <;> first
    | (exact absurd rfl (hc _ _ _))
    | simp only [getObj, Sem.run, h]

theorem aRange_run (r : Rel P ρ H w) {t : TypeId} {x v : Value} {H1 : AHeap} (h : aRange P H t x = some (v, H1)) : VOk P ρ H w (Instr.range t (ρ.val x)) v H1 := by
  unfold aRange at h
  split at h
  · rename_i s hu
    simp only [Option.some.injEq, Prod.mk.injEq] at h
    obtain ⟨rfl, rfl⟩ := h
    refine ⟨_, _, St.new r ⟨.stringIter s 0, false, ⟨[], 0⟩⟩ (.stringIter s 0) 0 0 (by simp [sco]) (by simp [Fits]), ?_⟩
    simp only [Instr.range, Sem.run_bind, run_und hu, Result.andThen_ok, Ren.val, Sem.run_pure, run_newObj]
    simp [Ren.at]
  · cases h

theorem aNext_run (r : Rel P ρ H w) {it v : Value} {s : Bool} {ty : TypeId} {H1 : AHeap} (h : aNext H it s = some (v, H1)) : VOk P ρ H w (Instr.next (ρ.val it) s ty) v H1 := by
  unfold aNext at h
  split at h
  · rename_i n
    split at h
    · rename_i str pos o v' hg
      obtain ⟨o', hw, hf⟩ := r.obj _ _ hg
      simp only [Fits] at hf
      obtain ⟨rfl, hsh⟩ := hf
      have hgo := run_getObj (P := P) hw (fun _ _ _ => by simp)
      split at h
      · rename_i hlt
        simp only [Option.some.injEq, Prod.mk.injEq] at h
        obtain ⟨rfl, rfl⟩ := h
        obtain ⟨k1, k2, k3⟩ := setObj_heap (w := w) (ρ.blk n) _ (.stringIter str (pos + (Utf8.decode str pos).2)) hw
        refine ⟨ρ, _, St.upd r (ne_none hg) (by simp [sco]) (by simp [Fits, hsh]) k1 k2 k3 rfl rfl rfl, ?_⟩
        have hset := run_setObj (P := P) (o' := .stringIter str (pos + (Utf8.decode str pos).2)) hw (fun _ _ _ => by simp)
        simp only [Instr.next, Ren.val, hsh, Nat.zero_add, Sem.run_bind, hgo, Result.andThen_ok, if_pos hlt, hset, Sem.run_pure]
        simp [goInt, Ren.valA, Ren.valL, Ren.val]
      · rename_i hlt
        simp only [Option.some.injEq, Prod.mk.injEq] at h
        obtain ⟨rfl, rfl⟩ := h
        refine VOk.same r ?_
        simp only [Instr.next, Ren.val, hsh, Nat.zero_add, Sem.run_bind, hgo, Result.andThen_ok, if_neg hlt, Sem.run_pure]
        simp [Ren.valA, Ren.valL, Ren.val]
    · cases h
  · cases h

theorem findNow_ren (ρ : Ren) (kd : TypeDesc) (k : Value) : ∀ (es : List MapEntry) (i : Nat), Instr.findNow kd k (es.map ρ.entry) i = (Instr.findNow kd k es i).map (fun o => o.map fun p => (p.1, ρ.val p.2)) := by
  intro es
  induction es with
  | nil => intro i; simp [Instr.findNow]
  | cons e es ih =>
    intro i
    simp only [List.map_cons, Instr.findNow]
    have : (ρ.entry e).key = e.key := rfl
    rw [this]
    cases Instr.sameNow kd k e.key with
    | none => rfl
    | some b =>
      cases b with
      | true => simp [Ren.entry]
      | false => simp only [ih]

theorem findNow_at (kd : TypeDesc) (k : Value) : ∀ (es : List MapEntry) (i j : Nat) (v : Value), Instr.findNow kd k es i = some (some (j, v)) → ∃ e, es[j - i]? = some e ∧ i ≤ j ∧ Instr.sameNow kd k e.key = some true := by
  intro es
  induction es with
  | nil => intro i j v h; simp [Instr.findNow] at h
  | cons e es ih =>
    intro i j v h
    simp only [Instr.findNow] at h
    split at h
    · rename_i hs
      simp only [Option.some.injEq, Prod.mk.injEq] at h
      obtain ⟨rfl, rfl⟩ := h
      exact ⟨e, by simp, Nat.le_refl _, hs⟩
    · obtain ⟨x, h1, h2, h3⟩ := ih (i + 1) j v h
      refine ⟨x, ?_, by omega, h3⟩
      rw [show j - i = (j - (i + 1)) + 1 from by omega]
      simpa using h1
    · cases h

theorem ba_eq {a b : ByteArray} (h : (a == b) = true) : a = b := by
  obtain ⟨x⟩ := a
  obtain ⟨y⟩ := b
  have e : x = y := by simpa using (show (x == y) = true from h)
  rw [e]

theorem same_bits {kd : TypeDesc} {k k' : Value} (h : Instr.sameNow kd k k' = some true) : Instr.sameBits 10000 k' k = true := by
  unfold Instr.sameNow at h
  split at h
  · rename_i a b c d
    split at h
    · rename_i hk
      subst hk
      simp only [Option.some.injEq, beq_iff_eq] at h
      subst h
      simp [Instr.sameBits]
    · cases h
  · simp only [Option.some.injEq] at h
    have := ba_eq h
    subst this
    simpa [Instr.sameBits] using h
  · simp only [Option.some.injEq, beq_iff_eq] at h
    subst h
    simp [Instr.sameBits]
  · cases h

theorem key_val (ρ : Ren) {k : Value} (h : keyOk k = true) : ρ.val k = k := by
  cases k <;> simp [keyOk] at h <;> rw [Ren.val]

theorem run_checkKey {kd : TypeDesc} {t : TypeId} {k : Value} {b : Bool} (hu : P.underlying t = some kd) (hk : keyKind kd = true) : (Instr.checkKey b 10000 t k).run P w = .ok () w := by
  rw [show (10000 : Nat) = 9999 + 1 from rfl, Instr.checkKey]
  simp only [Sem.run_bind, run_und hu, Result.andThen_ok]
  cases kd <;> simp only [keyKind, Bool.false_eq_true] at hk <;> simp

theorem run_findKey {kd : TypeDesc} {t : TypeId} {k : Value} {es : List MapEntry} {o : Option (Nat × Value)} (hu : P.underlying t = some kd) (h : Instr.findNow kd k es 0 = some o) : (Instr.findKey t k es).run P w = .ok o w := by
  simp [Instr.findKey, Sem.run_bind, run_und hu, h]

theorem mapAt_run (r : Rel P ρ H w) {n : Nat} {es : Array MapEntry} {clock : Nat} {o : Bool} {v : RV} (hg : H.get n = some ⟨.map es clock, o, v⟩) :
    w.heap[ρ.blk n]? = some (.map (es.map ρ.entry) clock) ∧ (getObj (ρ.blk n)).run P w = .ok (.map (es.map ρ.entry) clock) w := by
  obtain ⟨o', hw, hf⟩ := r.obj _ _ hg
  simp only [Fits] at hf
  subst hf
  exact ⟨hw, run_getObj (P := P) hw (fun _ _ _ => by simp)⟩

def lookTail (key elem : TypeId) (index : Value) (commaOk : Bool) (es : Array MapEntry) : Sem Value := do
  Instr.checkKey es.isEmpty 10000 key index
  let (v, ok) ← match ← Instr.findKey key index es.toList with
    | some (_, v) => pure (v, true)
    | none => pure (← zeroValue elem, false)
  pure (if commaOk then .tuple #[v, .bool ok] else v)

theorem aLookup_run (r : Rel P ρ H w) {t : TypeId} {x k v : Value} {ok : Bool} (h : aLookup P H t x k ok = some v) : (Instr.lookup t (ρ.val x) (ρ.val k) ok).run P w = .ok (ρ.val v) w := by
  unfold aLookup at h
  split at h
  · rename_i key elem m hu
    simp only [Option.bind_eq_bind, Option.bind_eq_some_iff] at h
    obtain ⟨es, hes, kd, hkd, h⟩ := h
    split at h
    · rename_i hc
      simp only [Bool.and_eq_true] at hc
      have hl : (Instr.lookup t (ρ.val (.map m)) (ρ.val k) ok).run P w = (lookTail key elem (ρ.val k) ok (es.map ρ.entry)).run P w := by
        unfold Instr.lookup
        simp only [Sem.run_bind, run_und hu, Result.andThen_ok]
        cases m with
        | none =>
          simp only [mapAt, Option.some.injEq] at hes
          subst hes
          simp only [Ren.val, Sem.run_bind, Sem.run_pure, Result.andThen_ok]
          have he : (#[] : Array MapEntry).map ρ.entry = #[] := by simp
          rw [he]
          simp only [lookTail, Sem.run_bind]
          generalize Instr.checkKey _ 10000 key (ρ.val k) = c
          rfl
        | some n =>
          simp only [mapAt] at hes
          split at hes
          · rename_i es' cl o v' hg
            simp only [Option.some.injEq] at hes
            subst hes
            simp only [Ren.val, Sem.run_bind, (mapAt_run r hg).2, Result.andThen_ok, Sem.run_pure]
            simp only [lookTail, Sem.run_bind]
            generalize Instr.checkKey _ 10000 key (ρ.val k) = c
            rfl
          · cases hes
      have hfind := findNow_ren ρ kd k es.toList 0
      rw [hl]
      unfold lookTail
      simp only [Sem.run_bind, Result.andThen_ok, key_val ρ hc.1, run_checkKey hkd hc.2, Array.toList_map]
      split at h
      · rename_i i v0 hf
        rw [hf] at hfind
        simp only [Option.map_some] at hfind
        simp only [run_findKey hkd hfind, Result.andThen_ok, Sem.run_pure]
        simp only [Option.some.injEq] at h
        subst h
        cases ok <;> simp [Ren.val, Ren.valA, Ren.valL]
      · rename_i hf
        rw [hf] at hfind
        simp only [Option.map_some, Option.map_none] at hfind
        simp only [Option.map_eq_some_iff] at h
        obtain ⟨z, hz, rfl⟩ := h
        obtain ⟨hzr, hza⟩ := run_zeroOf (w := w) hz
        simp only [run_findKey hkd hfind, Result.andThen_ok, Sem.run_bind, hzr, Sem.run_pure]
        cases ok <;> simp [Ren.val, Ren.valA, Ren.valL, val_af ρ z hza]
      · cases h
    · cases h
  · cases h

theorem aMapUpdate_run (r : Rel P ρ H w) {t : TypeId} {x k v : Value} {H1 : AHeap} (h : aMapUpdate P H t x k v = some H1) :
    ∃ w1, St P ρ H w ρ H1 w1 ∧ (Instr.mapUpdate t (ρ.val x) (ρ.val k) (ρ.val v)).run P w = .ok () w1 := by
  unfold aMapUpdate at h
  split at h
  · rename_i key elem n hu
    split at h
    · rename_i es clock o v' hg
      simp only [Option.bind_eq_bind, Option.bind_eq_some_iff] at h
      obtain ⟨kd, hkd, h⟩ := h
      obtain ⟨hw, hgo⟩ := mapAt_run r hg
      have hsc := (r.dom _ _ hg).2
      simp only [sco] at hsc
      split at h
      · rename_i hc
        simp only [Bool.and_eq_true] at hc
        have hfind := findNow_ren ρ kd k es.toList 0
        split at h
        · rename_i i v0 hf
          simp only [Option.some.injEq] at h
          subst h
          rw [hf] at hfind
          simp only [Option.map_some] at hfind
          obtain ⟨e, he, _, hsame⟩ := findNow_at kd k es.toList 0 i v0 hf
          have he' : es[i]? = some e := by simpa using he
          have hset := run_setObj (P := P) (o' := .map ((es.map ρ.entry).modify i fun e => { e with key := k, val := ρ.val v }) clock) hw (fun _ _ _ => by simp)
          obtain ⟨k1, k2, k3⟩ := setObj_heap (w := w) (ρ.blk n) _ (.map ((es.map ρ.entry).modify i fun e => { e with key := k, val := ρ.val v }) clock) hw
          refine ⟨_, St.upd r (ne_none hg) ?_ ?_ k1 k2 k3 rfl rfl rfl, ?_⟩
          · simp only [sco]
            intro e1 he1
            obtain ⟨j, hj⟩ := Array.getElem?_of_mem he1
            rw [Array.getElem?_modify] at hj
            split at hj
            · simp only [Option.map_eq_some_iff] at hj
              obtain ⟨e2, _, rfl⟩ := hj
              exact ⟨hc.1.1, hc.2⟩
            · exact hsc e1 (Array.mem_of_getElem? hj)
          · simp only [Fits]
            congr 1
            apply Array.ext_getElem?
            intro j
            simp only [Array.getElem?_map, Array.getElem?_modify]
            split
            · cases es[j]? <;> simp [Ren.entry]
            · rfl
          · unfold Instr.mapUpdate
            simp only [Sem.run_bind, run_und hu, Result.andThen_ok, Ren.val, hgo, key_val ρ hc.1.1, run_checkKey hkd hc.1.2, Array.toList_map, run_findKey hkd hfind]
            have hold : (((es.map ρ.entry)[i]?.map (·.key)).getD k) = e.key := by
              rw [Array.getElem?_map, he']; rfl
            simp only [hold, Instr.keyThatStays, same_bits hsame, if_true, Sem.run_pure, Result.andThen_ok, hset]
        · rename_i hf
          simp only [Option.some.injEq] at h
          subst h
          rw [hf] at hfind
          simp only [Option.map_some, Option.map_none] at hfind
          have hset := run_setObj (P := P) (o' := .map ((es.map ρ.entry).push { key := k, val := ρ.val v, born := clock }) (clock + 1)) hw (fun _ _ _ => by simp)
          obtain ⟨k1, k2, k3⟩ := setObj_heap (w := w) (ρ.blk n) _ (.map ((es.map ρ.entry).push { key := k, val := ρ.val v, born := clock }) (clock + 1)) hw
          refine ⟨_, St.upd r (ne_none hg) ?_ ?_ k1 k2 k3 rfl rfl rfl, ?_⟩
          · simp only [sco]
            intro e1 he1
            rcases Array.mem_push.1 he1 with h1 | rfl
            · exact hsc e1 h1
            · exact ⟨hc.1.1, hc.2⟩
          · simp [Fits, Ren.entry]
          · unfold Instr.mapUpdate
            simp only [Sem.run_bind, run_und hu, Result.andThen_ok, Ren.val, hgo, key_val ρ hc.1.1, run_checkKey hkd hc.1.2, Array.toList_map, run_findKey hkd hfind, hset]
        · cases h
      · cases h
    · cases h
  · cases h

theorem mapNew_run (r : Rel P ρ H w) : VOk P ρ H w (do pure (.map (some (← newObj (.map #[] 0))))) (.map (some H.next)) (H.new ⟨.map #[] 0, false, ⟨[], 0⟩⟩) := by
  refine ⟨_, _, St.new r ⟨.map #[] 0, false, ⟨[], 0⟩⟩ (.map #[] 0) 0 0 (by simp [sco]) (by simp [Fits]), ?_⟩
  simp only [Sem.run_bind, run_newObj, Result.andThen_ok, Sem.run_pure]
  simp [Ren.at, Ren.val]

theorem erase_map {α β : Type} (f : α → β) : ∀ (l : List α) (i : Nat), (l.map f).eraseIdx i = (l.eraseIdx i).map f
  | [], _ => by simp
  | _ :: _, 0 => by simp
  | _ :: l, i + 1 => by simp [erase_map f l i]

theorem aDelete_run (r : Rel P ρ H w) {ts : Array TypeId} {ty t : TypeId} {rest : List TypeId} (hts : ts.toList = t :: rest) {m k v : Value} {H1 : AHeap} (h : aDelete P H t m k = some (v, H1)) :
    VOk P ρ H w (Builtin.delete_ ts ty ([m, k].map ρ.val).toArray) v H1 := by
  obtain ⟨l⟩ := ts
  simp only at hts
  subst hts
  unfold aDelete at h
  split at h
  · rename_i key elem n hu
    split at h
    · rename_i es clock o v' hg
      simp only [Option.bind_eq_bind, Option.bind_eq_some_iff] at h
      obtain ⟨kd, hkd, h⟩ := h
      obtain ⟨hw, hgo⟩ := mapAt_run r hg
      have hsc := (r.dom _ _ hg).2
      simp only [sco] at hsc
      split at h
      · rename_i hc
        simp only [Bool.and_eq_true] at hc
        have hfind := findNow_ren ρ kd k es.toList 0
        split at h
        · rename_i i v0 hf
          simp only [Option.some.injEq, Prod.mk.injEq] at h
          obtain ⟨rfl, rfl⟩ := h
          rw [hf] at hfind
          simp only [Option.map_some] at hfind
          have hset := run_setObj (P := P) (o' := .map ((es.map ρ.entry).eraseIdxIfInBounds i) clock) hw (fun _ _ _ => by simp)
          obtain ⟨k1, k2, k3⟩ := setObj_heap (w := w) (ρ.blk n) _ (.map ((es.map ρ.entry).eraseIdxIfInBounds i) clock) hw
          refine ⟨ρ, _, St.upd r (ne_none hg) ?_ ?_ k1 k2 k3 rfl rfl rfl, ?_⟩
          · simp only [sco]
            intro e1 he1
            refine hsc e1 ?_
            unfold Array.eraseIdxIfInBounds at he1
            split at he1
            · exact Array.mem_of_mem_eraseIdx he1
            · exact he1
          · simp only [Fits]
            congr 1
            apply Array.ext'
            simp [erase_map]
          · unfold Builtin.delete_
            simp only [List.map_cons, List.map_nil, List.getElem?_toArray, List.getElem?_cons_zero, List.getElem?_cons_succ, Sem.run_bind, run_und hu, Result.andThen_ok, Ren.val, hgo, key_val ρ hc.1, run_checkKey hkd hc.2, Array.toList_map, run_findKey hkd hfind, hset, Sem.run_pure]
            simp [Ren.valA, Ren.valL]
        · rename_i hf
          simp only [Option.some.injEq, Prod.mk.injEq] at h
          obtain ⟨rfl, rfl⟩ := h
          rw [hf] at hfind
          simp only [Option.map_some, Option.map_none] at hfind
          have hset := run_setObj (P := P) (o' := .map (es.map ρ.entry) clock) hw (fun _ _ _ => by simp)
          obtain ⟨k1, k2, k3⟩ := setObj_heap (w := w) (ρ.blk n) _ (.map (es.map ρ.entry) clock) hw
          refine ⟨ρ, _, St.upd r (ne_none hg) ?_ ?_ k1 k2 k3 rfl rfl rfl, ?_⟩
          · simp only [sco]
            exact hsc
          · simp [Fits]
          · unfold Builtin.delete_
            simp only [List.map_cons, List.map_nil, List.getElem?_toArray, List.getElem?_cons_zero, List.getElem?_cons_succ, Sem.run_bind, run_und hu, Result.andThen_ok, Ren.val, hgo, key_val ρ hc.1, run_checkKey hkd hc.2, Array.toList_map, run_findKey hkd hfind, hset, Sem.run_pure]
            simp [Ren.valA, Ren.valL]
        · cases h
      · cases h
    · cases h
  · cases h

theorem aClear_run (r : Rel P ρ H w) {ts : Array TypeId} {ty t : TypeId} {rest : List TypeId} (hts : ts.toList = t :: rest) {x v : Value} {H1 : AHeap} (h : aClear P H t x = some (v, H1)) :
    VOk P ρ H w (Builtin.clear_ ts ty ([x].map ρ.val).toArray) v H1 := by
  obtain ⟨l⟩ := ts
  simp only at hts
  subst hts
  unfold aClear at h
  split at h
  · rename_i e n c hu
    simp only [Option.some.injEq, Prod.mk.injEq] at h
    obtain ⟨rfl, rfl⟩ := h
    refine VOk.same r ?_
    simp [Builtin.clear_, Ren.val, Sem.run_bind, run_und hu, Ren.valA, Ren.valL]
  · rename_i e a n c hu
    split at h
    · simp only [Option.some.injEq, Prod.mk.injEq] at h
      obtain ⟨rfl, rfl⟩ := h
      refine VOk.same r ?_
      simp [Builtin.clear_, Ren.val, Sem.run_bind, run_und hu, Ren.valA, Ren.valL]
    · rename_i n
      simp only [Option.bind_eq_bind, Option.bind_eq_some_iff, Option.some.injEq, Prod.mk.injEq] at h
      obtain ⟨z, hz, g, hg, rfl, rfl⟩ := h
      obtain ⟨w1, hst, hrun⟩ := aWrite_run r hg
      obtain ⟨hzr, hza⟩ := run_zeroOf (w := w) hz
      refine ⟨ρ, w1, hst, ?_⟩
      have hzc : Builtin.zeroCells z.cells (n + 1) = (zerosL z.cells.toList (n + 1)).toArray := by
        unfold Builtin.zeroCells
        exact zeros_range _ _
      have hzm : (zerosL z.cells.toList (n + 1)).map ρ.val = zerosL z.cells.toList (n + 1) := zerosL_map ρ _ (af_list ρ hza) _
      rw [hzm] at hrun
      unfold Builtin.clear_
      simp only [List.map_cons, List.map_nil, List.getElem?_toArray, List.getElem?_cons_zero, Sem.run_bind, run_und hu, Result.andThen_ok, Ren.val, hzr, hzc, hrun, Sem.run_pure]
      simp [Ren.valA, Ren.valL]
  · cases h

theorem aBuiltin_run (r : Rel P ρ H w) {b : Builtin} {ts : Array TypeId} {ty : TypeId} {cs : Array Bool} {args : List Value} {v : Value} {H1 : AHeap} (h : aBuiltin P H b ts args = some (v, H1)) :
    NOk P ρ H w (builtin b ts ty cs (args.map ρ.val).toArray) (.value v) H1 := by
  unfold aBuiltin at h
  split at h
  · exact NOk.ofV (aAppend_run r h)
  · exact NOk.ofV (aCopy_run r h)
  · split at h
    · rename_i t rest hts
      simp only [Option.map_eq_some_iff, Prod.mk.injEq] at h
      obtain ⟨v', hv, rfl, rfl⟩ := h
      exact NOk.val r (aLen_run r hts hv)
    · cases h
  · split at h
    · rename_i t rest hts
      simp only [Option.map_eq_some_iff, Prod.mk.injEq] at h
      obtain ⟨v', hv, rfl, rfl⟩ := h
      exact NOk.val r (aCap_run r hts hv)
    · cases h
  · split at h
    · rename_i t rest hts
      exact NOk.ofV (aDelete_run r hts h)
    · cases h
  · split at h
    · rename_i t rest hts
      exact NOk.ofV (aClear_run r hts h)
    · cases h
  · simp only [Option.map_eq_some_iff, Prod.mk.injEq] at h
    obtain ⟨v', hv, rfl, rfl⟩ := h
    exact NOk.val r (aMax_run hv)
  · simp only [Option.map_eq_some_iff, Prod.mk.injEq] at h
    obtain ⟨v', hv, rfl, rfl⟩ := h
    exact NOk.val r (aMin_run hv)
  · cases h

end
end Go.Ax
