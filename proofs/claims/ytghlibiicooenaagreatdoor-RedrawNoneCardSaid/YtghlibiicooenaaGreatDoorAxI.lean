/- The abstract executor: append, copy, len and their kin are the model's. -/
import Derived.Test.YtghlibiicooenaaGreatDoorAxH
namespace Go.Ax
section
variable {P : Program} {ρ : Ren} {H : AHeap} {w : World}

theorem val_bytesV (ρ : Ren) (l : List UInt8) : (bytesV l).map ρ.val = bytesV l := by
  simp only [bytesV, List.map_map]
  apply List.map_congr_left
  intro b _
  simp [Ren.val]

theorem firstC_run (r : Rel P ρ H w) {sz n : Nat} {x : Value} {l : List Value} (h : firstC H sz n x = some l) :
    (Builtin.firstCells sz n (ρ.val x)).run P w = .ok (l.map ρ.val).toArray w := by
  unfold firstC at h
  split at h
  · rename_i a len cap
    simp only [Option.bind_eq_bind, Option.bind_eq_some_iff] at h
    obtain ⟨⟨v, e, op⟩, hc, h⟩ := h
    obtain ⟨c, fz, hC⟩ := r.cells hc
    simp only at h
    split at h
    · rename_i hle
      simp only [Option.some.injEq] at h
      subst h
      simp only [Ren.val, Builtin.firstCells, hC.load (ble_le hle)]
    · cases h
  · simp only [Option.some.injEq] at h
    subst h
    simp [Ren.val, Builtin.firstCells]
  · rename_i s
    simp only [Option.some.injEq] at h
    subst h
    simp only [Ren.val, Builtin.firstCells, Sem.run_pure, val_bytesV]
    congr 1
    apply Array.ext'
    simp [bytesV, ByteArray.data_extract]
  · cases h

theorem lenV_run {x : Value} {n : Nat} (h : lenV x = some n) : (Builtin.lenOf (ρ.val x)).run P w = .ok n w := by
  unfold lenV at h
  split at h
  · rename_i a n' c
    simp only [Option.some.injEq] at h
    subst h
    cases a <;> simp [Ren.val, Builtin.lenOf]
  · simp only [Option.some.injEq] at h
    subst h
    simp [Ren.val, Builtin.lenOf]
  · cases h

theorem growBy_step (n k c : Nat) : Builtin.growBy n (k + 1) c = if c ≥ n then c else Builtin.growBy n k (c + (c + 768) / 4) := rfl

theorem growBy_le {n c B : Nat} (k : Nat) (hn : n ≤ B) (hc : c ≤ B) (hs : ∀ x, x < n → x + (x + 768) / 4 ≤ B) : Builtin.growBy n k c ≤ B := by
  induction k generalizing c with
  | zero => exact hc
  | succ k ih =>
    rw [growBy_step]
    split
    · exact hc
    · exact ih (hs c (by omega))

theorem nextcap_le {n c : Nat} (h : c < n) : Builtin.nextslicecap n c ≤ 2 * n + 200 := by
  unfold Builtin.nextslicecap
  split
  · omega
  · split
    · omega
    · exact growBy_le _ (by omega) (by omega) (fun x hx => by omega)

theorem cut_append (need old : Nat) (e : TypeId) (t : Nat) : need ≤ (Question.appendCap need old e).cut t := by
  simp [Question.cut]

/-- how an append goes on once its parts are known -/
def appTail (e : TypeId) (sz : Nat) (base : Option Addr) (len cap n : Nat) (zeros : Bool) (x : Value) (appended : Sem (Array Value)) : Sem Value := do
  let need := len + n
  if need ≤ cap then
    let new ← appended
    if let some a := base then storeCells (a.add (len * sz)) new.toList
    pure (.slice base need cap)
  else
    if (need : Int) > IntKind.i64.max ∧ (zeros ∨ (← typeInfo e).bytes = 0) then runtimePanic (.error "growslice: len out of range")
    if Builtin.nextslicecap need cap * (← typeInfo e).bytes > 2 ^ 48 then (if zeros then runtimePanic (.error "growslice: len out of range") else do
      if !(← Builtin.mayShare sz len n base x) then mark .noRoom
      unsupported (.resourceLimit "append: a slice or a string whose bytes no memory bears"))
    let newCap ← choose (.appendCap need cap e)
    askRoom (newCap * (← typeInfo e).bytes)
    let old ← Builtin.firstCells sz len (.slice base len cap)
    let new ← appended
    let rest := Builtin.zeroCells (← zeroValue e).cells (newCap - need)
    pure (.slice (some (← newRow e (old ++ new ++ rest))) need newCap)

theorem append_eq {ts : Array TypeId} {ty st xt e : TypeId} {rest : List TypeId} {sz : Nat} {s x : Value} {base : Option Addr} {len cap n : Nat} {d : TypeDesc} (hts : ts.toList = st :: xt :: rest) (hu : P.underlying st = some (.slice e)) (hsz : szOf P e = some sz)
    (hx : P.underlying xt = some d) (hd : ∀ k, d ≠ .int k) (hs : s = .slice base len cap) (hn : (Builtin.lenOf x).run P w = .ok n w) :
    (Builtin.append_ ts ty #[s, x]).run P w = (appTail e sz base len cap n false x (Builtin.firstCells sz n x)).run P w := by
  obtain ⟨l⟩ := ts
  simp only at hts
  subst hts hs
  unfold Builtin.append_ appTail
  simp only [List.getElem?_toArray, List.getElem?_cons_zero, List.getElem?_cons_succ, Sem.run_bind, run_und hu, Result.andThen_ok, run_szOf hsz, run_und hx, Sem.run_pure]
  have : (match d with | .int _ => true | _ => false) = false := by cases d <;> first | rfl | exact absurd rfl (hd _)
  simp only [this, Bool.false_eq_true, if_false, Bool.not_false, if_true]
  rw [Sem.run_bind, hn]
  rfl

theorem append_eq0 {ts : Array TypeId} {ty st xt e : TypeId} {rest : List TypeId} {sz by1 : Nat} {s : Value} {base : Option Addr} {len cap : Nat} {k : IntKind} {l : Int} (hts : ts.toList = st :: xt :: rest) (hu : P.underlying st = some (.slice e)) (hsz : szOf P e = some sz)
    (hx : P.underlying xt = some (.int k)) (hs : s = .slice base len cap) (hl : 0 ≤ l) (hl1 : l ≤ 1000000000) (hb : bytesOf P e = some by1) (hlb : l * by1 ≤ 1000000000) :
    (Builtin.append_ ts ty #[s, .int .i64 l]).run P w = (appTail e sz base len cap l.toNat true (.int .i64 l) (if l.toNat * sz = 0 then pure #[] else do pure (Builtin.zeroCells (← zeroValue e).cells l.toNat))).run P w := by
  obtain ⟨ll⟩ := ts
  simp only at hts
  subst hts hs
  obtain ⟨inf, hinf, hib⟩ := bytesOf_info hb
  have t1 : ¬ (l < 0) := by omega
  have t2 : ¬ (l * (inf.bytes : Int) > 2 ^ 48) := by rw [hib]; omega
  unfold Builtin.append_ appTail
  simp only [List.getElem?_toArray, List.getElem?_cons_zero, List.getElem?_cons_succ, Sem.run_bind, run_und hu, Result.andThen_ok, run_szOf hsz, run_und hx, Sem.run_pure, if_true, asInt, asIntOf, wrap_small hl hl1, t1, if_false, run_info hinf, t2, Bool.not_true, Bool.false_eq_true]
  rfl

/-- an append within the capacity -/
theorem appTail_in {e : TypeId} {sz len cap n : Nat} {zeros : Bool} {x : Value} {a : Addr} {app : Sem (Array Value)} {new : List Value} {w1 : World} (hle : len + n ≤ cap) (ha : app.run P w = .ok new.toArray w)
    (hs : (storeCells (a.add (len * sz)) new).run P w = .ok () w1) : (appTail e sz (some a) len cap n zeros x app).run P w = .ok (.slice (some a) (len + n) cap) w1 := by
  unfold appTail
  simp only [hle, if_true, Sem.run_bind, ha, Result.andThen_ok, hs, Sem.run_pure]

theorem appTail_in0 {e : TypeId} {sz len cap : Nat} {zeros : Bool} {x : Value} {app : Sem (Array Value)} {new : Array Value} (hle : len + 0 ≤ cap) (ha : app.run P w = .ok new w) :
    (appTail e sz none len cap 0 zeros x app).run P w = .ok (.slice none len cap) w := by
  have hle' : len ≤ cap := by omega
  unfold appTail
  simp only [Nat.add_zero, hle', if_true, Sem.run_bind, ha, Result.andThen_ok, Sem.run_pure]

/-- an append beyond the capacity: a new block, its capacity drawn -/
theorem appTail_out {e : TypeId} {sz len cap n by1 : Nat} {zeros : Bool} {x : Value} {base : Option Addr} {app : Sem (Array Value)} {old new : List Value} {z : Value} (hgt : ¬ len + n ≤ cap) (hsm : small (len + n) by1 = true) (hb : bytesOf P e = some by1)
    (hz : zeroOf P e = some z) (hzl : z.cells.toList.length = sz) (ho : (Builtin.firstCells sz len (.slice base len cap)).run P w.drew = .ok old.toArray w.drew) (ha : app.run P w.drew = .ok new.toArray w.drew) :
    ∃ ex, (appTail e sz base len cap n zeros x app).run P w = .ok (.slice (some ⟨w.heap.size, 0, none⟩) (len + n) (len + n + ex)) (w.drew.alloc (.cells ((old ++ new).toArray ++ (zerosL z.cells.toList ex).toArray) e)) := by
  obtain ⟨inf, hinf, hib⟩ := bytesOf_info hb
  obtain ⟨s1, s2⟩ := small_le hsm
  obtain ⟨hzr, hza⟩ := run_zeroOf (w := w.drew) hz
  have t1 : ¬ (((len + n : Nat) : Int) > IntKind.i64.max ∧ (zeros = true ∨ inf.bytes = 0)) := by
    have : IntKind.i64.max = 9223372036854775807 := by decide
    rw [this]; omega
  have t2 : ¬ (Builtin.nextslicecap (len + n) cap * inf.bytes > 2 ^ 48) := by
    have h1 := nextcap_le (n := len + n) (c := cap) (by omega)
    have h2 : Builtin.nextslicecap (len + n) cap * inf.bytes ≤ (2 * (len + n) + 200) * inf.bytes := Nat.mul_le_mul_right _ h1
    have h3 : (2 * (len + n) + 200) * inf.bytes ≤ (202 * (len + n)) * inf.bytes := Nat.mul_le_mul_right _ (by omega)
    have h4 : (202 * (len + n)) * inf.bytes = 202 * ((len + n) * by1) := by rw [hib, Nat.mul_assoc]
    omega
  have hcut := cut_append (len + n) cap e (w.tape w.drawn (.appendCap (len + n) cap e))
  obtain ⟨ex, hex⟩ : ∃ ex, (Question.appendCap (len + n) cap e).cut (w.tape w.drawn (.appendCap (len + n) cap e)) = len + n + ex := ⟨_, (Nat.add_sub_cancel' hcut).symm⟩
  refine ⟨ex, ?_⟩
  have hzc : Builtin.zeroCells z.cells ex = (zerosL z.cells.toList ex).toArray := by
    unfold Builtin.zeroCells
    exact zeros_range _ _
  have hfo : (Question.appendCap (len + n) cap e).forced = false := rfl
  unfold appTail
  simp only [hgt, if_false, Sem.run_bind, run_info hinf, Result.andThen_ok, Sem.run_ite, t1, t2, run_choose, hfo, Bool.false_eq_true, hex]
  have hdrew : ({ w with drawn := w.drawn + 1 } : World) = w.drew := rfl
  simp only [hdrew, run_info hinf, Result.andThen_ok, run_askRoom, ho, ha, hzr, Nat.add_sub_cancel_left, hzc, newRow, Sem.run_bind, run_newObj, Sem.run_pure]
  simp
  rfl

theorem Rel.heap {w' : World} (r : Rel P ρ H w) (h : w'.heap = w.heap) : Rel P ρ H w' := ⟨r.base, r.glob, r.inj, r.dom, fun n o hn => by rw [h]; exact r.obj n o hn⟩

theorem drew_st (r : Rel P ρ H w) : St P ρ H w ρ H w.drew := St.world r rfl rfl rfl rfl

theorem val_fresh (ρ : Ren) (n b s e len cap : Nat) : (ρ.at n b s e).val (.slice (some ⟨n, 0, none⟩) len cap) = .slice (some ⟨b, s, none⟩) len (cap + e) := by simp [Ren.val]

theorem append_new (r : Rel P ρ H w) {e : TypeId} {sz len cap n by1 : Nat} {zeros : Bool} {x : Value} {base' : Option Addr} {app : Sem (Array Value)} {old new : List Value} {z : Value} {g : AHeap}
    (hgt : ¬ len + n ≤ cap) (hsm : small (len + n) by1 = true) (hb : bytesOf P e = some by1) (hsz : szOf P e = some sz)
    (hz : zeroOf P e = some z) (hzl : z.cells.toList.length = sz) (ho : (Builtin.firstCells sz len (.slice base' len cap)).run P w.drew = .ok (old.map ρ.val).toArray w.drew)
    (ha : app.run P w.drew = .ok (new.map ρ.val).toArray w.drew) (hg : aNew H e (old ++ new) true = some g) :
    VOk P ρ H w (appTail e sz base' len cap n zeros x app) (.slice (some ⟨H.next, 0, none⟩) (len + n) (len + n)) g := by
  obtain ⟨ex, hrun⟩ := appTail_out (x := x) (zeros := zeros) hgt hsm hb hz hzl ho ha
  have hst := aNew_open (r.heap (w' := w.drew) rfl) hg (zerosL z.cells.toList ex).toArray ex (by simp [zerosL_len, hzl, cellsOf_szOf hsz])
  refine ⟨_, _, (drew_st r).trans hst, ?_⟩
  rw [hrun, val_fresh]
  simp

theorem aAppend2_run (r : Rel P ρ H w) {e : TypeId} {sz len cap n by1 cap' : Nat} {zeros : Bool} {x : Value} {base base' : Option Addr} {app : Sem (Array Value)} {new : List Value} {z v : Value} {H1 : AHeap}
    (hv : ρ.val (.slice base len cap) = .slice base' len cap') (hsm : small (len + n) by1 = true) (hb : bytesOf P e = some by1) (hsz : szOf P e = some sz)
    (hz : zeroOf P e = some z) (hzl : z.cells.toList.length = sz) (hnew : new.length = n * sz) (happ : ∀ w', w'.heap = w.heap → app.run P w' = .ok (new.map ρ.val).toArray w')
    (h : aAppend2 H e sz base len cap n new = some (v, H1)) : VOk P ρ H w (appTail e sz base' len cap' n zeros x app) v H1 := by
  unfold aAppend2 at h
  split at h
  · rename_i hle
    split at h
    · split at h
      · rename_i hn0
        subst hn0
        simp only [Option.some.injEq, Prod.mk.injEq] at h
        obtain ⟨rfl, rfl⟩ := h
        simp only [Ren.val, Value.slice.injEq, true_and] at hv
        obtain ⟨rfl, rfl⟩ := hv
        refine VOk.same r ?_
        rw [appTail_in0 hle (happ w rfl)]
        simp [Ren.val]
      · cases h
    · rename_i a
      simp only [Option.bind_eq_bind, Option.bind_eq_some_iff, Option.some.injEq, Prod.mk.injEq] at h
      obtain ⟨g, hg, rfl, rfl⟩ := h
      obtain ⟨w1, hst, hrun⟩ := aWrite_run r hg
      simp only [Ren.val, Value.slice.injEq, true_and] at hv
      obtain ⟨rfl, rfl⟩ := hv
      refine ⟨ρ, w1, hst, ?_⟩
      have hle' : len + n ≤ (if a.spot.isSome then cap else cap + ρ.ex a.block) := by split <;> omega
      rw [appTail_in hle' (happ w rfl) (w1 := w1) (by rw [addr_add, show a.off + ρ.sh a.block + len * sz = a.off + len * sz + ρ.sh a.block from by omega]; exact hrun)]
      simp [Ren.val]
  · rename_i hgt
    simp only [Option.bind_eq_bind, Option.bind_eq_some_iff] at h
    obtain ⟨old, hold, h⟩ := h
    split at h
    · rename_i hc
      simp only [Bool.and_eq_true, decide_eq_true_eq] at hc
      obtain ⟨⟨hol, hone1⟩, hone2⟩ := hc
      have hod : (Builtin.firstCells sz len (.slice base' len cap')).run P w.drew = .ok (old.map ρ.val).toArray w.drew := by
        rw [← hv]; exact firstC_run (w := w.drew) (r.heap rfl) hold
      split at h
      · simp only [Option.bind_eq_some_iff, Option.some.injEq, Prod.mk.injEq] at h
        obtain ⟨g, hg, rfl, rfl⟩ := h
        have hcap : cap' = cap := by simpa [Ren.val] using (congrArg (fun v => match v with | .slice _ _ c => c | _ => 0) hv).symm
        subst hcap
        exact append_new r hgt hsm hb hsz hz hzl hod (happ _ rfl) hg
      · rename_i a
        simp only [Option.bind_eq_some_iff] at h
        obtain ⟨b, hb', h⟩ := h
        cases b with
        | true =>
          simp only [Option.bind_eq_some_iff, Option.some.injEq, Prod.mk.injEq] at h
          obtain ⟨g, hg, rfl, rfl⟩ := h
          rw [exact_cap r hb'] at hv
          have hcap : cap' = cap := by simpa using (congrArg (fun v => match v with | .slice _ _ c => c | _ => 0) hv).symm
          subst hcap
          exact append_new r hgt hsm hb hsz hz hzl hod (happ _ rfl) hg
        | false =>
          simp only [Option.bind_eq_some_iff] at h
          obtain ⟨⟨v0, e0, o0⟩, hc0, h⟩ := h
          obtain ⟨hs, ho⟩ := inexact hb'
          obtain ⟨v1, e1, hc1⟩ := isOpen_cells ho
          have : (v0, e0, o0) = (v1, e1, true) := by rw [hc1] at hc0; simpa using hc0.symm
          cases this
          simp only at h
          split at h
          · rename_i hcond
            obtain ⟨rfl, hend⟩ := hcond
            have hend := ble_le hend
            simp only [Option.bind_eq_some_iff, Option.some.injEq, Prod.mk.injEq] at h
            obtain ⟨g, hg, rfl, rfl⟩ := h
            have hcap : cap' = cap + ρ.ex a.block ∧ base' = some ⟨ρ.blk a.block, a.off + ρ.sh a.block, none⟩ := by
              simp only [Ren.val, hs, Option.isSome_none, Bool.false_eq_true, if_false, Value.slice.injEq, true_and] at hv
              exact ⟨hv.2.symm, hv.1.symm⟩
            obtain ⟨hcap, hbase⟩ := hcap
            by_cases hin : len + n ≤ cap'
            · obtain ⟨c, fz, hC⟩ := r.cells hc0
              obtain ⟨cc, ff, hg0⟩ := cellsAt_get hc0
              obtain ⟨hsize, hfz⟩ := hC.open_ rfl
              rw [cellsOf_szOf hsz] at hsize
              have har : (len + n) * sz ≤ (cap + ρ.ex a.block) * sz := Nat.mul_le_mul_right _ (by omega)
              have hadd : (len + n) * sz = len * sz + n * sz := Nat.add_mul _ _ _
              have hadd2 : (cap + ρ.ex a.block) * sz = cap * sz + ρ.ex a.block * sz := Nat.add_mul _ _ _
              have hsub : (cap + ρ.ex a.block - (len + n)) * sz = (cap + ρ.ex a.block) * sz - (len + n) * sz := Nat.sub_mul _ _ _
              obtain ⟨w1, h1, h2, h3, h4, h5, h6, h7⟩ := run_storeCells (P := P) (ρ.blk a.block) (a.off + ρ.sh a.block + len * sz) e0 fz (new.map ρ.val) 0 w c hC.at_ (by simp [hnew]; omega)
                (fun y hy => by
                  obtain ⟨y0, hy0, rfl⟩ := List.mem_map.1 hy
                  rw [Ren.val_one]; exact List.all_eq_true.1 hone2 y0 hy0)
                (fun j hj => hC.thawed hj)
              unfold aNew at hg
              split at hg
              · rename_i hsc
                simp only [Option.some.injEq] at hg
                subst hg
                have hsc' : ∀ y ∈ old ++ new, scb H.next y = true := scbL_iff.1 hsc
                have hext := Ren.at_ext ρ H.next (ρ.blk a.block) (a.off + ρ.sh a.block) (cap + ρ.ex a.block - (len + n))
                refine ⟨ρ.at H.next (ρ.blk a.block) (a.off + ρ.sh a.block) (cap + ρ.ex a.block - (len + n)), w1, St.move r _ _ (ne_none hg0) ?_ ?_ h2 h3 h4 h5 h6 h7, ?_⟩
                · simp only [sco, RV.n_ofList, RV.get_ofList]
                  intro i hi
                  exact hsc' _ (by simp only [List.getD, List.getElem?_eq_getElem hi, Option.getD_some]; exact List.getElem_mem _)
                · simp only [Fits]
                  refine ⟨_, fz, rfl, fun i hi => ?_, fun h => (by cases h), fun _ => ⟨?_, ?_⟩⟩
                  · simp only [RV.n_ofList] at hi
                    have hi' := hi
                    simp only [List.length_append, hol, hnew] at hi'
                    rw [RV.get_ofList, Ren.at_sh, val_ext hext _ (hsc' _ (by simp only [List.getD, List.getElem?_eq_getElem hi, Option.getD_some]; exact List.getElem_mem _))]
                    rw [wrA_get _ _ _ _ (by simp [hnew]; omega)]
                    simp only [Nat.add_zero, List.length_map, hnew]
                    by_cases hil : i < len * sz
                    · rw [if_neg (by omega)]
                      simp only [firstC, Option.bind_eq_bind, Option.bind_eq_some_iff] at hold
                      obtain ⟨⟨v2, e2, o2⟩, hc2, hold⟩ := hold
                      rw [hc0] at hc2
                      cases hc2
                      simp only at hold
                      split at hold
                      · rename_i hfit
                        have hfit := ble_le hfit
                        simp only [Option.some.injEq] at hold
                        subst hold
                        have hcc := hC.cell (a.off + i) (by omega)
                        rw [show i + (a.off + ρ.sh a.block) = a.off + i + ρ.sh a.block from by omega, hcc]
                        rw [List.getD, List.getElem?_append_left (by simpa using hil)]
                        have := RV.gets_getD v0 a.off (len * sz) i hil
                        rw [List.getD] at this
                        rw [this]
                      · cases hold
                    · rw [if_pos (by omega)]
                      rw [List.getD, List.getElem?_append_right (by omega), hol]
                      rw [show i + (a.off + ρ.sh a.block) - (a.off + ρ.sh a.block + len * sz) = i - len * sz from by omega]
                      have hlt : i - len * sz < new.length := by omega
                      simp [hlt]
                  · simp only [Ren.at_sh, Ren.at_ex, RV.n_ofList, List.length_append, hol, hnew, wrA_size, cellsOf_szOf hsz]
                    omega
                  · rw [wrA_size]; exact hfz
                · rw [val_fresh, hbase, appTail_in (new := new.map ρ.val) hin (happ w rfl) (w1 := w1) (by rw [addr_add]; exact h1)]
                  rw [hcap, show len + n + (cap + ρ.ex a.block - (len + n)) = cap + ρ.ex a.block from by omega]
              · cases hg
            · have hdel := St.del r a.block
              have hn := append_new (x := x) (zeros := zeros) hdel.rel hin hsm hb hsz hz hzl hod (happ _ rfl) hg
              obtain ⟨ρ1, w1, hst, hrun⟩ := hn
              exact ⟨ρ1, w1, hdel.trans hst, hrun⟩
          · cases h
    · cases h

end
end Go.Ax
