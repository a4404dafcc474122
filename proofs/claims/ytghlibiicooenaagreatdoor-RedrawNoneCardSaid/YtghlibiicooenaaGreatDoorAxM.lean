/- The abstract executor: operations that call, regions in the order of the text, loops over functions. -/
import Derived.Test.YtghlibiicooenaaGreatDoorAxL
namespace Go.Ax
section
variable {P : Program} {ρ : Ren} {H : AHeap} {w : World}

/-- what is asked behind an operation -/
def OpR (P : Program) (ρ : Ren) (H : AHeap) (w : World) (a : Act) (dst : Option Tmp) (out : Out) (H1 : AHeap) (K : Act → World → Prop) (Q : Exit → Act → World → Prop) : Prop :=
  ∀ ρ1 w1, St P ρ H w ρ1 H1 w1 → match out with
    | .ok v => scb H1.next v = true → K (a.put dst (ρ1.val v)) w1
    | .error ch => (∀ p ∈ ch, scb H1.next p.v = true) → Q (.panic (ch.map ρ1.pe)) a w1

theorem opF_runG {rec : Rec} (hrec : Sound P rec) (r : Rel P ρ H w) {a : AAct} {o : Oper} {out : Out} {H1 : AHeap} (h : opF P rec a H o = some (out, H1)) {ca : Act} (hca : ∀ x ∈ o.op.operands, ca.eval x = (ρ.act a).eval x)
    {F : Fence} {n : Nat} {K : Act → World → Prop} {Q : Exit → Act → World → Prop} (hF : WideF F) (hR : OpR P ρ H w ca o.dst out H1 K Q) : o.wpIn F n P ca w K Q := by
  simp only [opF, Option.bind_eq_some_iff] at h
  obtain ⟨⟨x, g⟩, hx, h⟩ := h
  obtain ⟨⟨ρ1, w1, hst, hrun⟩, hnd⟩ := aop_run r hx
  refine ⟨fun f _ => hF.fn f, ?_⟩
  have hsel : ∀ cs b, o.op ≠ .select cs b := fun cs b e => by rw [e] at hx; simp [aop, xNone] at hx
  rw [Oper.semAt_eq _ _ _ hnd, execOp_congr o hsel hca]
  cases x with
  | value v =>
    simp only [doN] at h
    split at h
    · rename_i hsc
      simp only [Option.some.injEq, Prod.mk.injEq] at h
      obtain ⟨rfl, rfl⟩ := h
      simp only [NRun] at hrun
      rw [hrun, Oper.uponIn_value]
      exact hR ρ1 w1 hst hsc
    · cases h
  | skip =>
    simp only [doN, Option.some.injEq, Prod.mk.injEq] at h
    obtain ⟨rfl, rfl⟩ := h
    simp only [NRun] at hrun
    rw [hrun, Oper.uponIn_skip]
    have := hR ρ1 w1 hst (scb_undef _)
    simpa using this
  | enter f args =>
    simp only [doN, Option.bind_eq_some_iff] at h
    obtain ⟨⟨out', k⟩, hcall, hok⟩ := h
    simp only [NRun] at hrun
    rw [hrun, Oper.uponIn_enter]
    refine ⟨hF.deep, callF_run hrec hst.rel hcall hF ?_⟩
    intro ρ2 w2 hst2
    cases out' with
    | ok v =>
      simp only [okV] at hok
      split at hok
      · rename_i hsc
        simp only [Option.some.injEq, Prod.mk.injEq] at hok
        obtain ⟨rfl, rfl⟩ := hok
        exact hR ρ2 w2 (hst.trans hst2) hsc
      · cases hok
    | error ch =>
      simp only [okV, Option.some.injEq, Prod.mk.injEq] at hok
      obtain ⟨rfl, rfl⟩ := hok
      exact hR ρ2 w2 (hst.trans hst2)
  | round rd =>
    simp only [doN] at h
    split at h
    · rename_i hl
      simp only [NRun] at hrun
      obtain ⟨fn, hrun⟩ := hrun
      rw [hrun, Oper.uponIn_round]
      refine ⟨hF.deep, roundF_run hrec hst.rel h (blt_lt hl) hF ?_⟩
      intro ρ2 w2 hst2
      have := hR ρ2 w2 (hst.trans hst2)
      cases out with
      | ok v =>
        refine this ?_
        unfold roundF at h
        split at h
        · simp only [Option.bind_eq_bind, Option.bind_eq_some_iff] at h
          obtain ⟨⟨e, a1, H2⟩, _, h⟩ := h
          simp only at h
          split at h
          · simp only [Option.bind_eq_some_iff] at h
            obtain ⟨⟨lp, le⟩, _, h⟩ := h
            simp only at h
            split at h
            · simp only [Option.bind_eq_some_iff, Option.some.injEq, Prod.mk.injEq] at h
              obtain ⟨_, _, j, _, _, _, h1, _⟩ := h
              simp only [Except.ok.injEq] at h1
              subst h1
              simp [scb]
            · cases h
          · cases h
        · cases h
      | error ch => exact this
    · cases h
  | panic v =>
    simp only [doN] at h
    split at h
    · rename_i hsc
      simp only [Option.some.injEq, Prod.mk.injEq] at h
      obtain ⟨rfl, rfl⟩ := h
      simp only [NRun] at hrun
      rw [hrun, Oper.uponIn_panic]
      exact hR ρ1 w1 hst (fun p hp => by simp at hp; subst hp; exact hsc)
    · cases h

/-- an operation that comes to an outcome, whatever the world that the heap stands for -/
def OpS (P : Program) (a : AAct) (H : AHeap) (o : Oper) (out : Out) (H1 : AHeap) : Prop :=
  ∀ (ρ : Ren) (w : World), Rel P ρ H w → scA H.next a → ∀ (ca : Act), (∀ x ∈ o.op.operands, ca.eval x = (ρ.act a).eval x) →
    ∀ (F : Fence) (n : Nat) (K : Act → World → Prop) (Q : Exit → Act → World → Prop), WideF F → OpR P ρ H w ca o.dst out H1 K Q → o.wpIn F n P ca w K Q

theorem opF_opS {rec : Rec} (hrec : Sound P rec) {a : AAct} {o : Oper} {out : Out} {H1 : AHeap} (h : opF P rec a H o = some (out, H1)) : OpS P a H o out H1 :=
  fun _ _ r _ _ hca _ _ _ _ hF hR => opF_runG hrec r h hca hF hR

theorem opF_run {rec : Rec} (hrec : Sound P rec) (r : Rel P ρ H w) {a : AAct} {o : Oper} {out : Out} {H1 : AHeap} (h : opF P rec a H o = some (out, H1))
    {F : Fence} {n : Nat} {K : Act → World → Prop} {Q : Exit → Act → World → Prop} (hF : WideF F) (hR : OpR P ρ H w (ρ.act a) o.dst out H1 K Q) : o.wpIn F n P (ρ.act a) w K Q :=
  opF_runG hrec r h (fun _ _ => rfl) hF hR

theorem aeval_sc {N : Nat} {a : AAct} (hs : scA N a) {x : Operand} {v : Value} (h : aeval a x = some v) : scb N v = true := by
  cases x with
  | tmp t =>
    simp only [aeval, Option.some.injEq] at h
    subst h
    unfold AAct.tmp
    split
    · rename_i hb; exact hs.1 t (blt_lt hb)
    · exact scb_undef N
  | const c =>
    simp only [aeval] at h
    split at h
    · rename_i ha
      simp only [Option.some.injEq] at h
      subst h
      exact scb_of_af _ ha
    · cases h
  | global g => cases h
  | func f => simp only [aeval, Option.some.injEq] at h; subst h; simp [scb, scbA, scbL]

theorem aevals_sc {N : Nat} {a : AAct} (hs : scA N a) : ∀ {xs : List Operand} {vs : List Value}, aevals a xs = some vs → scbL N vs = true
  | [], vs, h => by simp only [aevals, Option.some.injEq] at h; subst h; rfl
  | x :: xs, vs, h => by
    simp only [aevals, Option.bind_eq_bind, Option.bind_eq_some_iff, Option.some.injEq] at h
    obtain ⟨v, hv, us, hu, rfl⟩ := h
    rw [scbL, aeval_sc hs hv, aevals_sc hs hu]; rfl

theorem scbL_append {N : Nat} {a b : List Value} (ha : scbL N a = true) (hb : scbL N b = true) : scbL N (a ++ b) = true :=
  scbL_iff.2 fun v hv => (List.mem_append.1 hv).elim (scbL_iff.1 ha v) (scbL_iff.1 hb v)

theorem aDefer_run (r : Rel P ρ H w) {a : AAct} (hs : scA H.next a) {o : Oper} {d : Deferred} (h : aDefer a o.op = some d) : (execOp (ρ.act a).eval o).run P w = .ok (.defer (ρ.dfr d)) w ∧ scD H.next d := by
  obtain ⟨dst, op, ty, after, gd, ps⟩ := o
  simp only at h
  unfold aDefer at h
  split at h
  · rename_i c
    split at h
    · rename_i f hcal
      simp only [Option.bind_eq_bind, Option.bind_eq_some_iff] at h
      obtain ⟨args, hargs, fv, hfv, h⟩ := h
      unfold deferV at h
      split at h
      · rename_i g first captured
        simp only [Option.some.injEq] at h
        subst h
        have hf := aeval_sc hs hfv
        simp only [scb, Bool.and_eq_true] at hf
        refine ⟨?_, .inr ⟨g, captured, _, rfl, hf.2, ?_⟩⟩
        · have h1 := aeval_run r hfv
          have h2 := aevals_run r hargs
          obtain ⟨callee, cargs, cty⟩ := c
          simp only at hcal h2
          subst hcal
          simp only [execOp, resolve, h1, Ren.val, Deferred.ofValue, Ren.fn, Sem.run_bind, Sem.run_pure, Result.andThen_ok, Ren.dfr]
          congr 3
          rw [map_run, map_run, List.map_append]
          have h3 : cargs.map (ρ.act a).eval = (args.map ρ.val).toArray := by
            apply Array.ext'
            simpa using h2
          rw [h3]; simp
        · obtain ⟨fl⟩ := first
          rw [scbA] at hf ⊢
          exact scbL_append hf.1 (aevals_sc hs hargs)
      · cases h
    · cases h
  · cases h

theorem runSeq_run {rec : Rec} (hrec : Sound P rec) {top : Bool} {ops : Array Oper} {F : Fence} {n : Nat} {Q : Exit → Act → World → Prop} (hF : WideF F) (htop : top = true → F.round = none) :
    ∀ (rest : List Oper) (k : Nat) (ρ : Ren) (H : AHeap) (w : World) (a : AAct) (e : Exit) (a1 : AAct) (H1 : AHeap), ops.toList.drop k = rest → runSeq P rec top ops rest a H = some (e, a1, H1) → Rel P ρ H w → scA H.next a →
      (∀ ρ1 w1, St P ρ H w ρ1 H1 w1 → scA H1.next a1 → scX H1.next e → Q (ρ1.exit e) (ρ1.act a1) w1) → wpOpsIn F n P ops Q (List.range' k rest.length) (ρ.act a) w
  | [], k, ρ, H, w, a, e, a1, H1, _, h, r, hs, hQ => by
    simp only [runSeq, Option.some.injEq, Prod.mk.injEq] at h
    obtain ⟨rfl, rfl, rfl⟩ := h
    exact hQ ρ w (St.refl r) hs trivial
  | o :: rest, k, ρ, H, w, a, e, a1, H1, hd, h, r, hs, hQ => by
    have hk : ops[k]? = some o := by
      have := congrArg (·[0]?) hd
      simpa using this
    have hd' : ops.toList.drop (k + 1) = rest := by
      have := congrArg List.tail hd
      simpa using this
    simp only [List.length_cons, List.range'_succ, wpOpsIn, hk]
    simp only [runSeq] at h
    split at h
    · rename_i hw
      rw [want_run ρ hw, if_pos rfl]
      split at h
      · rename_i v g hop
        refine opF_run hrec r hop hF ?_
        intro ρ1 w1 hst hsc
        have hs1 : scA g.next a := hs.mono hst.le.next
        rw [← act_ext hst.ext hs, act_put]
        refine runSeq_run hrec hF htop rest (k + 1) ρ1 g w1 (a.put o.dst v) e a1 H1 hd' h hst.rel (hs1.put _ hsc) ?_
        intro ρ2 w2 hst2 h1 h2
        exact hQ ρ2 w2 (hst.trans hst2) h1 h2
      · rename_i ch g hop
        simp only [Option.some.injEq, Prod.mk.injEq] at h
        obtain ⟨rfl, rfl, rfl⟩ := h
        refine opF_run hrec r hop hF ?_
        intro ρ1 w1 hst hsc
        have := hQ ρ1 w1 hst (hs.mono hst.le.next) hsc
        rw [act_ext hst.ext hs] at this
        exact this
      · split at h
        · rename_i d hd1
          obtain ⟨hrun, hsd⟩ := aDefer_run r hs hd1
          refine ⟨fun f _ => hF.fn f, ?_⟩
          rw [htop rfl, Oper.semAt_none, hrun]
          have hp := act_put ρ ⟨a.env, d :: a.defers⟩ o.dst undef
          rw [Ren.val_undef] at hp
          have hs' : scA H.next ⟨a.env, d :: a.defers⟩ := ⟨hs.1, fun d' hd' => by
            rcases List.mem_cons.1 hd' with rfl | hd'
            · exact hsd
            · exact hs.2 d' hd'⟩
          have := runSeq_run (n := n) (Q := Q) hrec hF htop rest (k + 1) ρ H w (AAct.put ⟨a.env, d :: a.defers⟩ o.dst undef) e a1 H1 hd' h r (hs'.put _ (scb_undef _)) hQ
          rw [← hp] at this
          exact this
        · cases h
    · rename_i hw
      rw [want_run ρ hw]
      simp only [Bool.false_eq_true, if_false]
      refine ⟨fun f _ => hF.fn f, ?_⟩
      have hp := act_put ρ a o.dst undef
      rw [Ren.val_undef] at hp
      rw [hp]
      exact runSeq_run hrec hF htop rest (k + 1) ρ H w (a.put o.dst undef) e a1 H1 hd' h r (hs.put _ (scb_undef _)) hQ
    · cases h

/-- a loop over a function is entered -/
theorem enterLoop_run (r : Rel P ρ H w) {ro : Option Nat} {a : AAct} {ps : Array Tmp} {assign body : Code} {l : Nat} {mark : List Deferred} {H1 : AHeap} (hro : ∀ l, ro = some l → l < H.next)
    (h : enterLoop ro a ps assign body H = some (l, mark, H1)) (fn : FuncId) :
    ∃ ρ1 w1, St P ρ H w ρ1 H1 w1 ∧ (Instr.enterLoop fn (ρ.act a).tmps ps assign body (ro.map ρ.blk)).run P w = .ok (ρ1.blk l, mark.map ρ1.dfr) w1 ∧ l < H1.next ∧ ∀ d ∈ mark, scD H1.next d := by
  unfold enterLoop at h
  split at h
  · rename_i hsc
    have hsc := scE_iff hsc
    split at h
    · simp only [Option.some.injEq, Prod.mk.injEq] at h
      obtain ⟨rfl, rfl, rfl⟩ := h
      have s1 := St.new r ⟨.deferred (some []), false, ⟨[], 0⟩⟩ (.deferred (some [])) 0 0 (by simp [sco]) (by simp [Fits])
      have hn1 : (H.new ⟨.deferred (some []), false, ⟨[], 0⟩⟩).next = H.next + 1 := rfl
      have s2 := St.new s1.rel (newLoop a ps assign body H.next)
        (.loop { state := .ready, pending := none, fn := fn, tmps := ρ.tmps a.env, params := ps, assign, body, defers := w.heap.size }) 0 0
        (by
          simp only [newLoop, sco, hn1]
          exact ⟨Nat.lt_succ_self _, fun i hi => scb_mono (Nat.le_succ _) _ (hsc i hi)⟩)
        (by
          simp only [newLoop, Fits, hn1]
          refine ⟨fn, ?_⟩
          have e1 : Ext H.next ρ ((ρ.at H.next w.heap.size 0 0).at (H.next + 1) (w.alloc (.deferred (some []))).heap.size 0 0) :=
            (Ren.at_ext ρ H.next w.heap.size 0 0).trans (Ren.at_ext _ (H.next + 1) _ 0 0) (Nat.le_succ _)
          rw [Ren.tmps_ext e1 _ hsc, (Ren.at_ext (ρ.at H.next w.heap.size 0 0) (H.next + 1) _ 0 0).blk _ (Nat.lt_succ_self _), Ren.at_blk])
      refine ⟨_, _, s1.trans s2, ?_, Nat.lt_succ_self _, fun d hd => by simp at hd; subst hd; exact .inl ⟨_, rfl, by show H.next < H.next + 1 + 1; omega⟩⟩
      have hb : ((ρ.at H.next w.heap.size 0 0).at (H.next + 1) (w.alloc (.deferred (some []))).heap.size 0 0).blk (H.next + 1) = w.heap.size + 1 := by rw [Ren.at_blk]; simp
      have hb2 : ((ρ.at H.next w.heap.size 0 0).at (H.next + 1) (w.alloc (.deferred (some []))).heap.size 0 0).blk H.next = w.heap.size := by
        rw [(Ren.at_ext (ρ.at H.next w.heap.size 0 0) (H.next + 1) _ 0 0).blk _ (Nat.lt_succ_self _), Ren.at_blk]
      simp only [Instr.enterLoop, Option.map_none, Sem.run_bind, run_newObj, Result.andThen_ok, Sem.run_pure, hn1, hb]
      simp only [List.map_cons, List.map_nil, Ren.dfr, hb2]
      simp [Ren.act]
      rfl
    · rename_i l0
      simp only [Option.bind_eq_bind, Option.bind_eq_some_iff] at h
      obtain ⟨⟨lp, le⟩, hlp, h⟩ := h
      simp only at h
      split at h
      · rename_i hd
        have hd := blt_lt hd
        simp only [Option.some.injEq, Prod.mk.injEq] at h
        obtain ⟨rfl, rfl, rfl⟩ := h
        obtain ⟨o, hg⟩ := getLoop_get hlp
        obtain ⟨fn0, hw0, hgl⟩ := run_getLoop r hg
        have s2 := St.new r (newLoop a ps assign body lp.defers)
          (.loop { state := .ready, pending := none, fn := fn, tmps := ρ.tmps a.env, params := ps, assign, body, defers := ρ.blk lp.defers }) 0 0
          (by
            simp only [newLoop, sco]
            exact ⟨hd, hsc⟩)
          (by
            simp only [newLoop, Fits]
            refine ⟨fn, ?_⟩
            rw [Ren.tmps_ext (Ren.at_ext ρ H.next w.heap.size 0 0) _ hsc, (Ren.at_ext ρ H.next w.heap.size 0 0).blk _ hd])
        refine ⟨_, _, s2, ?_, Nat.lt_succ_self _, fun d hd => by cases hd⟩
        simp only [Instr.enterLoop, Option.map_some, Sem.run_bind, hgl, run_newObj, Result.andThen_ok, Sem.run_pure, Ren.at_blk, List.map_nil]
        simp [Ren.act]
      · cases h
  · cases h

end
end Go.Ax
