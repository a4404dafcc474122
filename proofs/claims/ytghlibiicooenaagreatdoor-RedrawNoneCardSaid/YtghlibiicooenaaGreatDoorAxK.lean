/- The abstract executor: each operation is the model's. -/
import Derived.Test.YtghlibiicooenaaGreatDoorAxU
namespace Go.Ax
section
variable {P : Program} {ρ : Ren} {H : AHeap} {w : World}

theorem hasBody_run {f : FuncId} {args : Array Value} (h : hasBody P f = true) : (callFunc f args).run P w = .ok (.enter f args) w := by
  unfold hasBody at h
  split at h
  · rename_i fn hf
    simp only [Bool.and_eq_true, bne_iff_ne, ne_eq] at h
    have h1 : (fn.name == "runtime.NumGoroutine") = false := by simpa using h.2
    have h2 : fn.body.isNone = false := by
      cases hb : fn.body with
      | none => simp [hb] at h
      | some c => rfl
    simp only [callFunc, Sem.run_bind, run_program, Result.andThen_ok, hf, h1, Bool.false_eq_true, if_false, h2, Sem.run_pure]
  · cases h

theorem enterN_run (r : Rel P ρ H w) {f : FuncId} {args : List Value} {x : ANext} (h : enterN P f args = some x) : NOk P ρ H w (callFunc f (args.map ρ.val).toArray) x H := by
  unfold enterN at h
  split at h
  · rename_i hb
    simp only [Option.some.injEq] at h
    subst h
    exact ⟨ρ, w, St.refl r, hasBody_run hb⟩
  · cases h

theorem zipSet_run (ρ : Ren) : ∀ (ts : List Tmp) (vs : List Value) (e : RV), ((ts.zip (vs.map ρ.val)).foldl (fun tmps (p : Tmp × Value) => tmps.setIfInBounds p.1 p.2) (ρ.tmps e)) = ρ.tmps (zipSet ts vs e)
  | [], vs, e => by simp [zipSet]
  | t :: ts, [], e => by simp [zipSet]
  | t :: ts, v :: vs, e => by
    simp only [List.map_cons, List.zip_cons_cons, List.foldl_cons, zipSet, tmps_set]
    exact zipSet_run ρ ts vs _

theorem run_getLoop (r : Rel P ρ H w) {l : Nat} {lp : Loop} {o : Bool} {e : RV} (h : H.get l = some ⟨.loop lp, o, e⟩) :
    ∃ fn, w.heap[ρ.blk l]? = some (.loop { lp with fn := fn, tmps := ρ.tmps e, defers := ρ.blk lp.defers }) ∧
      (Instr.getLoop (ρ.blk l)).run P w = .ok { lp with fn := fn, tmps := ρ.tmps e, defers := ρ.blk lp.defers } w := by
  obtain ⟨o', hw, hf⟩ := r.obj _ _ h
  simp only [Fits] at hf
  obtain ⟨fn, rfl⟩ := hf
  refine ⟨fn, hw, ?_⟩
  simp [Instr.getLoop, getObj, Sem.run, hw]

theorem aYield_run (r : Rel P ρ H w) {l : Nat} {args : List Value} {x : ANext} (h : aYield H l args = some x) : NOk P ρ H w (Instr.yield (ρ.blk l) (args.map ρ.val).toArray) x H := by
  unfold aYield at h
  split at h
  · rename_i lp o e hg
    split at h
    · rename_i hlen
      simp only [Option.some.injEq] at h
      subst h
      obtain ⟨fn, hw, hgl⟩ := run_getLoop r hg
      refine ⟨ρ, w, St.refl r, fn, ?_⟩
      have hz := zipSet_run ρ lp.params.toList args e
      have hsz : (args.map ρ.val).toArray.size = lp.params.size := by simpa using hlen
      simp only [Instr.yield, Sem.run_bind, hgl, Result.andThen_ok, hsz, ne_eq, not_true, if_false, Sem.run_pure]
      congr 2
      rw [← hz, ← Array.foldl_toList]
      simp
    · cases h
  · cases h

theorem aRecv_run (r : Rel P ρ H w) {t : TypeId} {v x : Value} {ptr : Bool} (h : aRecv P H t v ptr = some x) (wrap : Option String) :
    (receiverAt t (.val (ρ.val v)) ptr wrap).run P w = .ok (ρ.val x) w := by
  unfold aRecv at h
  split at h
  · rename_i e hu
    simp only [Option.some.injEq] at h
    subst h
    simp [receiverAt, run_und hu, Place.get]
  · rename_i e a hu
    obtain ⟨n, off, hp⟩ := aLoad_ptr h
    simp only [Value.pointer.injEq, Option.some.injEq] at hp
    subst hp
    have hl := aLoad_var r h
    cases wrap with
    | none => simp [receiverAt, run_und hu, Place.get, val_ptr, asAddr, hl]
    | some s =>
      have hs : ∀ b : Addr, (Builtin.ssaWrapNilChk_ #[t] t #[.pointer (some b), strVal "", strVal s]).run P w = .ok (.pointer (some b)) w := fun _ => rfl
      simp [receiverAt, run_und hu, Place.get, val_ptr, asAddr, hl, hs]
  · cases h
  · rename_i d hnp hu hne
    simp only [Option.some.injEq] at h
    subst h
    cases d <;> first
      | (exact absurd rfl (hnp _))
      | simp [receiverAt, run_und hu, Place.get]
  · cases h

theorem follow_nil (t : TypeId) (x : Place) : (follow [] t x).run P w = .ok (t, x) w := by simp [follow]

theorem aMethod_run (r : Rel P ρ H w) {t : TypeId} {name : String} {f : FuncId} {ptr : Bool} {v x : Value} (h : aMethod P t name = some (f, ptr)) (hx : aRecv P H t v ptr = some x) :
    (method (P.types.size + Made.depth) t (ρ.val v) name).run P w = .ok (f, ρ.val x) w := by
  obtain ⟨k, hk⟩ : ∃ k, P.types.size + Made.depth = k + 1 := ⟨P.types.size + (Made.depth - 1), by
    have : 0 < Made.depth := by decide
    omega⟩
  rw [hk]
  unfold aMethod at h
  split at h
  · rename_i i hi
    split at h
    · rename_i m hm
      split at h
      · rename_i hp
        have hp' : m.path.toList = [] := by simpa using hp
        simp only [method, Sem.run_bind, run_info hi, Result.andThen_ok, hm, hp', follow_nil, h, aRecv_run r hx, Sem.run_pure]
      · cases h
    · cases h
  · cases h

theorem aInvoke_run (r : Rel P ρ H w) {fn : Fn} {args captured : List Value} {x : ANext} (h : aInvoke P H fn args captured = some x) :
    NOk P ρ H w (invoke (.fn (ρ.fn fn) (captured.map ρ.val).toArray) (args.map ρ.val).toArray) x H := by
  unfold aInvoke at h
  split at h
  · rename_i f args
    have := enterN_run r h
    simpa [invoke, Ren.fn] using this
  · rename_i l args
    have := aYield_run r h
    simpa [invoke, Ren.fn] using this
  · rename_i name t v rest
    simp only [Option.bind_eq_bind, Option.bind_eq_some_iff] at h
    obtain ⟨⟨f, ptr⟩, hm, y, hy, h⟩ := h
    obtain ⟨ρ1, w1, hst, hr⟩ := enterN_run r h
    refine ⟨ρ1, w1, hst, ?_⟩
    have hmr := aMethod_run r hm hy
    have e1 : ((Value.iface t v :: rest).map ρ.val).toArray[0]? = some (.iface t (ρ.val v)) := by simp [Ren.val]
    have e2 : ((Value.iface t v :: rest).map ρ.val).toArray.extract 1 ((Value.iface t v :: rest).map ρ.val).toArray.size = (rest.map ρ.val).toArray := by
      apply Array.ext'
      simp
      exact List.take_of_length_le (by simp)
    have e3 : #[ρ.val y] ++ (rest.map ρ.val).toArray = ((y :: rest).map ρ.val).toArray := by
      apply Array.ext'
      simp
    simp only [invoke, Ren.fn, e1, e2, callMethod, Sem.run_bind, run_program, Result.andThen_ok, hmr, e3]
    exact hr
  · rename_i t path f ptr v rest
    split at h
    · rename_i hp
      have hp' : path.toList = [] := by simpa using hp
      simp only [Option.bind_eq_bind, Option.bind_eq_some_iff] at h
      obtain ⟨y, hy, h⟩ := h
      obtain ⟨ρ1, w1, hst, hr⟩ := enterN_run r h
      refine ⟨ρ1, w1, hst, ?_⟩
      have e1 : ((v :: rest).map ρ.val).toArray[0]? = some (ρ.val v) := by simp
      have e2 : ((v :: rest).map ρ.val).toArray.extract 1 ((v :: rest).map ρ.val).toArray.size = (rest.map ρ.val).toArray := by
        apply Array.ext'
        simp
        exact List.take_of_length_le (by simp)
      have e3 : #[ρ.val y] ++ (rest.map ρ.val).toArray = ((y :: rest).map ρ.val).toArray := by
        apply Array.ext'
        simp
      simp only [invoke, Ren.fn, e1, e2, receiverVia, hp', Sem.run_bind, follow_nil, Result.andThen_ok, aRecv_run r hy, e3]
      exact hr
    · cases h
  · cases h

theorem callV_run (r : Rel P ρ H w) {f : Value} {args : List Value} {x : ANext} {H1 : AHeap} (h : callV P H f args = some (x, H1)) :
    NOk P ρ H w (do let d ← Deferred.ofValue (ρ.val f) (args.map ρ.val).toArray; invoke d.target d.args) x H1 := by
  unfold callV at h
  split at h
  · rename_i fn first captured
    simp only [Option.map_eq_some_iff, Prod.mk.injEq] at h
    obtain ⟨y, hy, rfl, rfl⟩ := h
    obtain ⟨ρ1, w1, hst, hr⟩ := aInvoke_run r hy
    refine ⟨ρ1, w1, hst, ?_⟩
    have e1 : ρ.val (.func fn first captured) = .func (ρ.fn fn) (first.map ρ.val) (captured.map ρ.val) := by rw [Ren.val, Ren.valA_eq, Ren.valA_eq]
    have e2 : first.map ρ.val ++ (args.map ρ.val).toArray = ((first.toList ++ args).map ρ.val).toArray := by apply Array.ext'; simp
    have e3 : captured.map ρ.val = (captured.toList.map ρ.val).toArray := by apply Array.ext'; simp
    rw [e1]
    simp only [Deferred.ofValue, Sem.run_bind, Sem.run_pure, Result.andThen_ok, e2, e3]
    exact hr
  · cases h

theorem externV_run (r : Rel P ρ H w) {f : Value} {args : List Value} {x : ANext} {H1 : AHeap} (h : externV P H f args = some (x, H1)) :
    NOk P ρ H w (do let d ← Deferred.ofValue (ρ.val f) (args.map ρ.val).toArray; invoke d.target d.args) x H1 := by
  unfold externV at h
  split at h
  · rename_i g
    split at h
    · rename_i ha
      split at h
      · rename_i v hv
        split at h
        · rename_i hav
          simp only [Option.some.injEq, Prod.mk.injEq] at h
          obtain ⟨rfl, rfl⟩ := h
          refine ⟨ρ, w, St.refl r, ?_⟩
          have e1 : (args.map ρ.val) = args := by rw [← Ren.valL_eq]; exact valL_af ρ args ha
          rw [e1]
          have e2 := peval_run _ hv w
          simp only [NRun, Ren.val, Ren.fn, Ren.valA, Ren.valL, Deferred.ofValue, Sem.run_bind, Sem.run_pure, Result.andThen_ok, invoke, val_af ρ v hav]
          simpa using e2
        · cases h
      · cases h
    · cases h
  · cases h

theorem xCall_run (r : Rel P ρ H w) {a : AAct} {c : Call} {ty : TypeId} {x : ANext} {H1 : AHeap} (h : xCall c P a H = some (x, H1)) :
    NOk P ρ H w (do let d ← resolve (ρ.act a).eval c ty; invoke d.target d.args) x H1 := by
  simp only [xCall, Option.bind_eq_bind, Option.bind_eq_some_iff] at h
  obtain ⟨args, hargs, h⟩ := h
  have hA : c.args.map (ρ.act a).eval = (args.map ρ.val).toArray := by
    apply Array.ext'
    rw [Array.toList_map]
    exact aevals_run r hargs
  split at h
  · rename_i b hc
    simp only [rvh, Option.map_eq_some_iff, Prod.mk.injEq] at h
    obtain ⟨⟨v, H2⟩, hv, rfl, rfl⟩ := h
    obtain ⟨ρ1, w1, hst, hr⟩ := aBuiltin_run (ty := ty) (cs := c.args.map fun | .const _ => true | _ => false) r hv
    refine ⟨ρ1, w1, hst, ?_⟩
    simp only [resolve, hc, Sem.run_bind, Sem.run_pure, Result.andThen_ok, invoke, hA]
    exact hr
  · rename_i recv name hc
    simp only [Option.bind_eq_some_iff, Option.map_eq_some_iff, Prod.mk.injEq] at h
    obtain ⟨rv, hrv, y, hy, rfl, rfl⟩ := h
    obtain ⟨ρ1, w1, hst, hr⟩ := aInvoke_run r hy
    refine ⟨ρ1, w1, hst, ?_⟩
    have e1 : #[ρ.val rv] ++ (args.map ρ.val).toArray = ((rv :: args).map ρ.val).toArray := by apply Array.ext'; simp
    simp only [resolve, hc, Sem.run_bind, Sem.run_pure, Result.andThen_ok, hA, aeval_run r hrv, e1]
    simpa [Ren.fn] using hr
  · rename_i f hc
    simp only [Option.bind_eq_some_iff] at h
    obtain ⟨fv, hfv, h⟩ := h
    have hmain : NOk P ρ H w (do let d ← Deferred.ofValue (ρ.val fv) (args.map ρ.val).toArray; invoke d.target d.args) x H1 := by
      split at h
      · rename_i y hy
        simp only [Option.some.injEq] at h
        subst h
        exact callV_run r hy
      · exact externV_run r h
    simp only [resolve, hc, hA, aeval_run r hfv]
    exact hmain

theorem run_skip {s : Sem Unit} {w1 : World} (h : s.run P w = .ok () w1) : (do s; pure Next.skip : Sem Next).run P w = .ok .skip w1 := by simp [h]

theorem nilV_run (r : Rel P ρ H w) {v : Value} {x : ANext} {H1 : AHeap} (h : nilV P H v = some (x, H1)) {o : Oper} {y : Operand} {e : Operand → Value} (he : e y = ρ.val v) (ho : o.op = .nilCheck y) :
    NOk P ρ H w (execOp e o) x H1 := by
  have hpanic : ∀ (α : Type), (runtimePanic .nilDeref : Sem α).run P w = .halt (.panic (nilPanic P)) w := fun α => rfl
  have haf : ρ.val (nilPanic P) = nilPanic P := val_af ρ _ rfl
  unfold nilV at h
  split at h
  · simp only [Option.some.injEq, Prod.mk.injEq] at h
    obtain ⟨rfl, rfl⟩ := h
    refine ⟨ρ, w, St.refl r, ?_⟩
    simp only [NRun, execOp, ho, he, Ren.val, haf]
    exact hpanic _
  · simp only [Option.some.injEq, Prod.mk.injEq] at h
    obtain ⟨rfl, rfl⟩ := h
    refine ⟨ρ, w, St.refl r, ?_⟩
    simp only [NRun, execOp, ho, he, Ren.val, haf]
    exact hpanic _
  · simp only [Option.some.injEq, Prod.mk.injEq] at h
    obtain ⟨rfl, rfl⟩ := h
    refine ⟨ρ, w, St.refl r, ?_⟩
    simp only [NRun, execOp, ho, he, Ren.val, haf]
    exact hpanic _
  · cases h
  · cases h
  · rename_i h1 h2 h3 h4 h5
    simp only [Option.some.injEq, Prod.mk.injEq] at h
    obtain ⟨rfl, rfl⟩ := h
    refine ⟨ρ, w, St.refl r, ?_⟩
    simp only [NRun, execOp, ho, he]
    cases v with
    | pointer a => cases a with
      | none => exact absurd rfl h1
      | some a => simp [Ren.val]
    | nilIface => exact absurd rfl h2
    | nilFunc => exact absurd rfl h3
    | func f a b =>
      cases f with
      | method n => exact absurd rfl (h4 _ _ _)
      | _ => simp [Ren.val, Ren.fn]
    | slice a _ _ => cases a <;> simp [Ren.val]
    | map a => cases a <;> simp [Ren.val]
    | chan a => exact absurd rfl (h5 a)
    | _ => simp [Ren.val]

theorem aop_run (r : Rel P ρ H w) {a : AAct} {o : Oper} {x : ANext} {H1 : AHeap} (h : aop o.op P a H = some (x, H1)) : NOk P ρ H w (execOp (ρ.act a).eval o) x H1 ∧ ∀ c, o.op ≠ .defer c := by
  obtain ⟨dst, op, ty, pos, after, guard⟩ := o
  simp only at h
  cases op with
  | move y =>
    simp only [aop, xMove, rv, Option.map_eq_some_iff, Prod.mk.injEq] at h
    obtain ⟨v, hv, rfl, rfl⟩ := h
    exact ⟨⟨ρ, w, St.refl r, by simp [NRun, execOp, aeval_run r hv]⟩, fun c => by simp⟩
  | assign y =>
    simp only [aop, xMove, rv, Option.map_eq_some_iff, Prod.mk.injEq] at h
    obtain ⟨v, hv, rfl, rfl⟩ := h
    exact ⟨⟨ρ, w, St.refl r, by simp [NRun, execOp, aeval_run r hv]⟩, fun c => by simp⟩
  | pick c y z =>
    simp only [aop, xPick, Option.bind_eq_bind, Option.bind_eq_some_iff] at h
    obtain ⟨b, hb, h⟩ := h
    split at h
    · simp only [rv, Option.map_eq_some_iff, Prod.mk.injEq] at h
      obtain ⟨v, hv, rfl, rfl⟩ := h
      exact ⟨⟨ρ, w, St.refl r, by simp [NRun, execOp, aeval_run r hv, aeval_run r hb, Ren.val, asBool]⟩, fun c => by simp⟩
    · simp only [rv, Option.map_eq_some_iff, Prod.mk.injEq] at h
      obtain ⟨v, hv, rfl, rfl⟩ := h
      exact ⟨⟨ρ, w, St.refl r, by simp [NRun, execOp, aeval_run r hv, aeval_run r hb, Ren.val, asBool]⟩, fun c => by simp⟩
    · cases h
  | alloc t =>
    simp only [aop, xAlloc, xBox, Option.bind_eq_bind, Option.bind_eq_some_iff, Option.some.injEq, Prod.mk.injEq] at h
    obtain ⟨z, hz, g, hg, rfl, rfl⟩ := h
    obtain ⟨hzr, hza⟩ := run_zeroOf (w := w) hz
    refine ⟨⟨_, _, aNew_shut r hg, ?_⟩, fun c => by simp⟩
    simp only [NRun, execOp, Instr.alloc, Sem.run_bind, hzr, Result.andThen_ok, newVar, newRow, run_newObj, Sem.run_pure, val_new, af_list ρ hza]
    rfl
  | box t y =>
    simp only [aop, xBoxOp, xBox, Option.bind_eq_bind, Option.bind_eq_some_iff, Option.some.injEq, Prod.mk.injEq] at h
    obtain ⟨z, hz, g, hg, rfl, rfl⟩ := h
    refine ⟨⟨_, _, aNew_shut r hg, ?_⟩, fun c => by simp⟩
    have hm : (ρ.val z).cells = (z.cells.toList.map ρ.val).toArray := by rw [Ren.val_cells]; apply Array.ext'; simp
    simp only [NRun, execOp, Instr.box, Sem.run_bind, aeval_run r hz, Result.andThen_ok, newVar, newRow, run_newObj, Sem.run_pure, val_new, hm]
    rfl
  | build t ps =>
    simp only [aop, xBuild, rv, Option.bind_eq_bind, Option.bind_eq_some_iff, Option.map_eq_some_iff, Prod.mk.injEq] at h
    obtain ⟨vs, hvs, v, hv, rfl, rfl⟩ := h
    have hp : (ps.map fun (p : Nat × Operand) => (p.1, (ρ.act a).eval p.2)) = (vs.map fun p => (p.1, ρ.val p.2)).toArray := by
      apply Array.ext'
      rw [Array.toList_map]
      exact pairs_run r hvs
    refine ⟨?_, fun c => by simp⟩
    simp only [execOp, hp]
    exact NOk.val r (aBuild_run hv)
  | buildSlice t n ps =>
    simp only [aop, xBuildSlice, rvh, Option.bind_eq_bind, Option.bind_eq_some_iff, Option.map_eq_some_iff, Prod.mk.injEq] at h
    obtain ⟨vs, hvs, ⟨v, H2⟩, hv, rfl, rfl⟩ := h
    have hp : (ps.map fun (p : Nat × Operand) => (p.1, (ρ.act a).eval p.2)) = (vs.map fun p => (p.1, ρ.val p.2)).toArray := by
      apply Array.ext'
      rw [Array.toList_map]
      exact pairs_run r hvs
    refine ⟨?_, fun c => by simp⟩
    simp only [execOp, hp]
    exact NOk.ofV (aBuildSlice_run r hv)
  | load t y =>
    simp only [aop, xLoad, rv, Option.bind_eq_bind, Option.bind_eq_some_iff, Option.map_eq_some_iff, Prod.mk.injEq] at h
    obtain ⟨p, hp, v, hv, rfl, rfl⟩ := h
    refine ⟨?_, fun c => by simp⟩
    simp only [execOp, aeval_run r hp]
    exact NOk.val r (aLoad_run r hv)
  | store t y z =>
    simp only [aop, xStore, ruh, Option.bind_eq_bind, Option.bind_eq_some_iff, Option.map_eq_some_iff, Prod.mk.injEq] at h
    obtain ⟨p, hp, q, hq, g, hg, rfl, rfl⟩ := h
    obtain ⟨w1, hst, hrun⟩ := aStore_run r hg
    refine ⟨⟨ρ, w1, hst, ?_⟩, fun c => by simp⟩
    simp only [NRun, execOp, aeval_run r hp, aeval_run r hq]
    exact run_skip hrun
  | nilCheck y =>
    simp only [aop, xNil, Option.bind_eq_bind, Option.bind_eq_some_iff] at h
    obtain ⟨v, hv, h⟩ := h
    exact ⟨nilV_run r h (aeval_run r hv) rfl, fun c => by simp⟩
  | binOp op t y z t2 =>
    simp only [aop, xBin, Option.bind_eq_bind, Option.bind_eq_some_iff] at h
    obtain ⟨p, hp, q, hq, h⟩ := h
    refine ⟨?_, fun c => by simp⟩
    simp only [execOp, aeval_run r hp, aeval_run r hq]
    exact NOk.of (binV_run r h)
  | unOp op t y =>
    simp only [aop, xUn, Option.bind_eq_bind, Option.bind_eq_some_iff] at h
    obtain ⟨p, hp, h⟩ := h
    refine ⟨?_, fun c => by simp⟩
    simp only [execOp, aeval_run r hp]
    exact NOk.of (unV_run r h)
  | makeInterface t y =>
    simp only [aop, xIface, Option.bind_eq_bind, Option.bind_eq_some_iff] at h
    obtain ⟨p, hp, h⟩ := h
    unfold ifaceV at h
    split at h
    · cases h
    · rename_i d hne hu
      simp only [Option.some.injEq, Prod.mk.injEq] at h
      obtain ⟨rfl, rfl⟩ := h
      refine ⟨?_, fun c => by simp⟩
      simp only [execOp, aeval_run r hp]
      refine NOk.val r ?_
      cases d <;> first
        | (exact absurd rfl (hne _))
        | simp [Instr.makeInterface, run_und hu, Ren.val]
    · cases h
  | makeFunc fn first captured =>
    simp only [aop, xFunc, Option.bind_eq_bind, Option.bind_eq_some_iff] at h
    obtain ⟨p, hp, q, hq, h⟩ := h
    have e1 : first.map (ρ.act a).eval = (p.map ρ.val).toArray := by apply Array.ext'; rw [Array.toList_map]; exact aevals_run r hp
    have e2 : captured.map (ρ.act a).eval = (q.map ρ.val).toArray := by apply Array.ext'; rw [Array.toList_map]; exact aevals_run r hq
    refine ⟨?_, fun c => by simp⟩
    unfold funcV at h
    split at h
    · cases h
    · rename_i hne
      simp only [Option.some.injEq, Prod.mk.injEq] at h
      obtain ⟨rfl, rfl⟩ := h
      simp only [execOp, e1, e2]
      refine NOk.val r ?_
      cases fn <;> first
        | (exact absurd rfl (hne _))
        | simp [Instr.makeFunc, Ren.val, Ren.fn, Ren.valA, Ren.valL_eq]
  | makeSlice t l c =>
    simp only [aop, xMakeSlice, rvh, Option.bind_eq_bind, Option.bind_eq_some_iff, Option.map_eq_some_iff, Prod.mk.injEq] at h
    obtain ⟨p, hp, q, hq, ⟨v, H2⟩, hv, rfl, rfl⟩ := h
    refine ⟨?_, fun c => by simp⟩
    simp only [execOp, aeval_run r hp, aeval_run r hq]
    exact NOk.ofV (aMakeSlice_run r hv)
  | slice t y lo hi mx =>
    simp only [aop, xSlice, rvh, Option.bind_eq_bind, Option.bind_eq_some_iff, Option.map_eq_some_iff, Prod.mk.injEq] at h
    obtain ⟨p, hp, l, hl, hh, hhh, m, hm, ⟨v, H2⟩, hv, rfl, rfl⟩ := h
    refine ⟨?_, fun c => by simp⟩
    simp only [execOp, aeval_run r hp, optEval_run r hl, optEval_run r hhh, optEval_run r hm]
    exact NOk.ofV (aSlice_run r hv)
  | fieldAddr t y f =>
    simp only [aop, xFieldAddr, rv, Option.bind_eq_bind, Option.bind_eq_some_iff, Option.map_eq_some_iff, Prod.mk.injEq] at h
    obtain ⟨p, hp, v, hv, rfl, rfl⟩ := h
    refine ⟨?_, fun c => by simp⟩
    simp only [execOp, aeval_run r hp]
    exact NOk.val r (aFieldAddr_run hv)
  | field t y f =>
    simp only [aop, xField, rv, Option.bind_eq_bind, Option.bind_eq_some_iff, Option.map_eq_some_iff, Prod.mk.injEq] at h
    obtain ⟨p, hp, v, hv, rfl, rfl⟩ := h
    refine ⟨?_, fun c => by simp⟩
    simp only [execOp, aeval_run r hp]
    exact NOk.val r (aField_run hv)
  | indexAddr t y i =>
    simp only [aop, xIndexAddr, rv, Option.bind_eq_bind, Option.bind_eq_some_iff, Option.map_eq_some_iff, Prod.mk.injEq] at h
    obtain ⟨p, hp, q, hq, v, hv, rfl, rfl⟩ := h
    refine ⟨?_, fun c => by simp⟩
    simp only [execOp, aeval_run r hp, aeval_run r hq]
    exact NOk.val r (aIndexAddr_run hv)
  | index t y i =>
    simp only [aop, xIndex, Option.bind_eq_bind, Option.bind_eq_some_iff] at h
    obtain ⟨p, hp, q, hq, h⟩ := h
    refine ⟨?_, fun c => by simp⟩
    simp only [execOp, aeval_run r hp, aeval_run r hq]
    exact NOk.of (indexV_run r h)
  | typeAssert y xt t ok =>
    simp only [aop, xTypeAssert, rv, Option.bind_eq_bind, Option.bind_eq_some_iff, Option.map_eq_some_iff, Prod.mk.injEq] at h
    obtain ⟨p, hp, v, hv, rfl, rfl⟩ := h
    refine ⟨?_, fun c => by simp⟩
    simp only [execOp, aeval_run r hp]
    exact NOk.val r (aTypeAssert_run hv)
  | extract y i =>
    simp only [aop, xExtract, Option.bind_eq_bind, Option.bind_eq_some_iff] at h
    obtain ⟨p, hp, h⟩ := h
    unfold extractV at h
    split at h
    · rename_i vs
      simp only [rv, Option.map_eq_some_iff, Prod.mk.injEq] at h
      obtain ⟨v, hv, rfl, rfl⟩ := h
      refine ⟨?_, fun c => by simp⟩
      simp only [execOp, aeval_run r hp]
      refine NOk.val r ?_
      have hv' : vs[i]? = some v := by simpa using hv
      simp [Ren.val, Ren.valA_eq, Instr.extract, hv']
    · cases h
  | call c =>
    simp only [aop] at h
    exact ⟨by simp only [execOp]; exact xCall_run r h, fun c => by simp⟩
  | panic y =>
    simp only [aop, xPanic, Option.bind_eq_bind, Option.bind_eq_some_iff] at h
    obtain ⟨p, hp, h⟩ := h
    unfold panicV at h
    split at h
    · simp only [Option.some.injEq, Prod.mk.injEq] at h
      obtain ⟨rfl, rfl⟩ := h
      refine ⟨⟨ρ, w, St.refl r, ?_⟩, fun c => by simp⟩
      simp [NRun, execOp, aeval_run r hp, Ren.val, Instr.panic]
    · cases h
  | convert s d y =>
    simp only [aop, xConvert, rvh, Option.bind_eq_bind, Option.bind_eq_some_iff, Option.map_eq_some_iff, Prod.mk.injEq] at h
    obtain ⟨p, hp, ⟨v, H2⟩, hv, rfl, rfl⟩ := h
    refine ⟨?_, fun c => by simp⟩
    simp only [execOp, aeval_run r hp]
    exact NOk.ofV (aConvert_run r hv)
  | makeMap t m =>
    refine ⟨?_, fun c => by simp⟩
    simp only [aop, xMakeMap] at h
    cases m with
    | none =>
      simp only [mapNew, Option.some.injEq, Prod.mk.injEq] at h
      obtain ⟨rfl, rfl⟩ := h
      exact NOk.ofV (mapNew_run r)
    | some y =>
      simp only [Option.bind_eq_bind, Option.bind_eq_some_iff] at h
      obtain ⟨d, hu, h⟩ := h
      split at h
      · rename_i key elem
        simp only [Option.bind_eq_some_iff] at h
        obtain ⟨q, hq, h⟩ := h
        split at h
        · rename_i n
          simp only [mapNew, Option.some.injEq, Prod.mk.injEq] at h
          obtain ⟨rfl, rfl⟩ := h
          obtain ⟨ρ1, w1, hst, hr⟩ := mapNew_run r
          refine NOk.ofV ⟨ρ1, w1, hst, ?_⟩
          rw [← hr]
          simp [Instr.makeMap, aeval_run r hq, run_und hu, Ren.val, asInt, asIntOf]
        · cases h
      · cases h
  | lookup t y k ok =>
    simp only [aop, xLookup, rv, Option.bind_eq_bind, Option.bind_eq_some_iff, Option.map_eq_some_iff, Prod.mk.injEq] at h
    obtain ⟨p, hp, q, hq, v, hv, rfl, rfl⟩ := h
    refine ⟨?_, fun c => by simp⟩
    simp only [execOp, aeval_run r hp, aeval_run r hq]
    exact NOk.val r (aLookup_run r hv)
  | mapUpdate t m k y =>
    simp only [aop, xMapUpdate, ruh, Option.bind_eq_bind, Option.bind_eq_some_iff, Option.map_eq_some_iff, Prod.mk.injEq] at h
    obtain ⟨p, hp, q, hq, s, hs, H2, hv, rfl, rfl⟩ := h
    refine ⟨?_, fun c => by simp⟩
    obtain ⟨w1, hst, hr⟩ := aMapUpdate_run r hv
    exact ⟨ρ, w1, hst, by simp [NRun, execOp, aeval_run r hp, aeval_run r hq, aeval_run r hs, hr]⟩
  | insert t m k y =>
    simp only [aop, xMapUpdate, ruh, Option.bind_eq_bind, Option.bind_eq_some_iff, Option.map_eq_some_iff, Prod.mk.injEq] at h
    obtain ⟨p, hp, q, hq, s, hs, H2, hv, rfl, rfl⟩ := h
    refine ⟨?_, fun c => by simp⟩
    obtain ⟨w1, hst, hr⟩ := aMapUpdate_run r hv
    exact ⟨ρ, w1, hst, by simp [NRun, execOp, aeval_run r hp, aeval_run r hq, aeval_run r hs, hr]⟩
  | range t y =>
    simp only [aop, xRange, rvh, Option.bind_eq_bind, Option.bind_eq_some_iff, Option.map_eq_some_iff, Prod.mk.injEq] at h
    obtain ⟨p, hp, ⟨v, H2⟩, hv, rfl, rfl⟩ := h
    refine ⟨?_, fun c => by simp⟩
    simp only [execOp, aeval_run r hp]
    exact NOk.ofV (aRange_run r hv)
  | next y s =>
    simp only [aop, xNext, rvh, Option.bind_eq_bind, Option.bind_eq_some_iff, Option.map_eq_some_iff, Prod.mk.injEq] at h
    obtain ⟨p, hp, ⟨v, H2⟩, hv, rfl, rfl⟩ := h
    refine ⟨?_, fun c => by simp⟩
    simp only [execOp, aeval_run r hp]
    exact NOk.ofV (aNext_run r hv)
  | _ => simp [aop, xNone] at h

end
end Go.Ax
