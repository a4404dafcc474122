/- The abstract executor: calls, rounds, straight regions. -/
import Derived.Test.YtghlibiicooenaaGreatDoorAxK
import Derived.Below
namespace Go.Ax

def scA (N : Nat) (a : AAct) : Prop := (∀ i, i < a.env.n → scb N (a.env.get i) = true) ∧ ∀ d ∈ a.defers, ∃ r, d = ⟨.collected r, #[]⟩ ∧ r < N

theorem scA.mono {N M : Nat} {a : AAct} (h : scA N a) (hle : N ≤ M) : scA M a :=
  ⟨fun i hi => scb_mono hle _ (h.1 i hi), fun d hd => let ⟨r, e, hr⟩ := h.2 d hd; ⟨r, e, by omega⟩⟩

theorem act_ext {N : Nat} {ρ ρ' : Ren} (e : Ext N ρ ρ') {a : AAct} (h : scA N a) : ρ'.act a = ρ.act a := by
  unfold Ren.act
  rw [Ren.tmps_ext e _ h.1]
  congr 1
  apply List.map_congr_left
  intro d hd
  obtain ⟨r, rfl, hr⟩ := h.2 d hd
  simp [Ren.dfr, e.blk r hr]

theorem scA.put {N : Nat} {a : AAct} (h : scA N a) (dst : Option Tmp) {v : Value} (hv : scb N v = true) : scA N (a.put dst v) := by
  cases dst with
  | none => exact h
  | some d =>
    simp only [AAct.put]
    split
    · refine ⟨fun i hi => ?_, h.2⟩
      simp only [RV.n_set] at hi
      simp only [RV.get_set]
      split
      · exact hv
      · exact h.1 i hi
    · exact h

def Ren.pe (ρ : Ren) (p : PanicEntry) : PanicEntry := { p with v := ρ.val p.v }

def Ren.exit (ρ : Ren) : Exit → Exit
  | .panic ch => .panic (ch.map ρ.pe)
  | e => e

def scX (N : Nat) : Exit → Prop
  | .panic ch => ∀ p ∈ ch, scb N p.v = true
  | _ => True

structure WideF (F : Fence) : Prop where
  fn : ∀ f, F.fn f
  depth : F.depth = none

theorem WideF.inRound {F : Fence} (h : WideF F) (l : Nat) : WideF (F.inRound l) := ⟨h.fn, h.depth⟩
theorem WideF.plain {F : Fence} (h : WideF F) : WideF F.plain := ⟨h.fn, h.depth⟩
theorem WideF.deep {F : Fence} (h : WideF F) {n : Nat} : F.depth.isSome = true → 1 ≤ n := fun e => by rw [h.depth] at e; cases e

/-- what is asked of the executor one level below -/
structure Sound (P : Program) (rec : Rec) : Prop where
  run : ∀ (ro : Option Nat) (c : Code) (a : AAct) (H : AHeap) (e : Exit) (a1 : AAct) (H1 : AHeap), rec.run ro c a H = some (e, a1, H1) →
    ∀ (ρ : Ren) (w : World) (F : Fence) (n : Nat) (Q : Exit → Act → World → Prop), WideF F → F.round = ro.map ρ.blk → (∀ l, ro = some l → l < H.next) → Rel P ρ H w → scA H.next a →
      (∀ ρ1 w1, St P ρ H w ρ1 H1 w1 → scA H1.next a1 → scX H1.next e → Q (ρ1.exit e) (ρ1.act a1) w1) → c.wpIn F n P Q (ρ.act a) w
  know : ∀ (f : FuncId) (args : List Value) (v : Value), rec.know f args = some v → (∀ x ∈ args, af x = true) ∧ af v = true ∧
    ∀ (F : Fence) (n : Nat) (w : World), WideF F → CallsIn F n P f args.toArray w (fun e w' => e = .returned v ∧ RowKit.Below w.heap.size w w')

section
variable {P : Program} {ρ : Ren} {H : AHeap} {w : World}

theorem args_tmps (ρ : Ren) (args : List Value) (n : Nat) (h : args.length ≤ n) :
    (args.map ρ.val).toArray ++ Array.replicate (n - (args.map ρ.val).toArray.size) undef = ρ.tmps { RV.ofList args with n := n } := by
  apply Array.ext_getElem?
  intro i
  rw [tmps_get?]
  have hg : ({ RV.ofList args with n := n } : RV).get i = args.getD i undef := RV.get_ofList args i
  rw [hg]
  by_cases h1 : i < args.length
  · rw [Array.getElem?_append_left (by simpa using h1), if_pos (by show i < n; omega)]
    simp [h1]
  · rw [Array.getElem?_append_right (by simpa using h1)]
    by_cases h2 : i < n
    · rw [if_pos h2, Array.getElem?_replicate]
      simp only [List.size_toArray, List.length_map]
      rw [if_pos (by omega)]
      simp [List.getD, List.getElem?_eq_none (Nat.not_lt.1 h1)]
    · rw [if_neg h2, Array.getElem?_replicate]
      simp only [List.size_toArray, List.length_map]
      rw [if_neg (by omega)]

theorem scA_args {args : List Value} {n N : Nat} (h : scbL N args = true) : scA N ⟨{ RV.ofList args with n := n }, []⟩ := by
  refine ⟨fun i _ => ?_, fun d hd => by cases hd⟩
  have hg : ({ RV.ofList args with n := n } : RV).get i = args.getD i undef := RV.get_ofList args i
  simp only [hg]
  by_cases h1 : i < args.length
  · exact scbL_iff.1 h _ (by simp only [List.getD, List.getElem?_eq_getElem h1, Option.getD_some]; exact List.getElem_mem _)
  · rw [List.getD, List.getElem?_eq_none (Nat.not_lt.1 h1)]; exact scb_undef N

theorem marksOff_run {F : Fence} {n : Nat} {fn : Func} {tmps : Array Value} {R : Ending → World → Prop} {u : FrameMode} (hu : u ≠ .run) :
    ∀ (ds : List Deferred) (H : AHeap) (w : World) (H2 : AHeap), marksOff ds H = some H2 → Rel P ρ H w → (∀ d ∈ ds, ∃ r, d = ⟨.collected r, #[]⟩ ∧ r < H.next) →
      (∀ w2, St P ρ H w ρ H2 w2 → LeavesInM F n P fn tmps R [] u w2) → LeavesInM F n P fn tmps R (ds.map ρ.dfr) u w
  | [], H, w, H2, h, r, _, k => by
    simp only [marksOff, Option.some.injEq] at h
    subst h
    exact k w (St.refl r)
  | d :: ds, H, w, H2, h, r, hs, k => by
    obtain ⟨x, rfl, hx⟩ := hs d (List.mem_cons_self ..)
    simp only [marksOff] at h
    split at h
    · rename_i o v hg
      obtain ⟨o', hw, hf⟩ := r.obj _ _ hg
      simp only [Fits] at hf
      subst hf
      obtain ⟨k1, k2, k3⟩ := setObj_heap (w := w) (ρ.blk x) _ (.deferred none) hw
      have hst : St P ρ H w ρ (H.upd x (some ⟨.deferred none, false, ⟨[], 0⟩⟩)) { w with heap := w.heap.setIfInBounds (ρ.blk x) (.deferred none) } :=
        St.upd r (ne_none hg) (by simp [sco]) (by simp [Fits]) k1 k2 k3 rfl rfl rfl
      have ih := marksOff_run hu ds _ _ H2 h hst.rel (fun d hd => hs d (List.mem_cons_of_mem _ hd)) (fun w2 h2 => k w2 (hst.trans h2))
      refine ⟨hu, .inl ⟨ρ.blk x, _, rfl, ?_, ih⟩⟩
      simp [Instr.takeDeferred, getObj, Sem.run, hw, run_setObj (P := P) (o' := .deferred none) hw (fun _ _ _ => by simp)]
    · cases h

def resSem (tmps : Array Value) : ResultVar → Sem Value
  | .tmp t => pure (tmps.getD t undef)
  | .cell x t => do loadVar t (← asAddr (tmps.getD x undef))

theorem resVal_run (r : Rel P ρ H w) {a : AAct} : ∀ {rs : List ResultVar} {vs : List Value}, resVal P H a rs = some vs → (rs.mapM (resSem (ρ.act a).tmps)).run P w = .ok (vs.map ρ.val) w
  | [], vs, h => by simp only [resVal, Option.some.injEq] at h; subst h; simp
  | .tmp t :: rs, vs, h => by
    simp only [resVal, Option.bind_eq_bind, Option.bind_eq_some_iff, Option.some.injEq] at h
    obtain ⟨us, hu, rfl⟩ := h
    rw [List.mapM_cons]
    have h0 : resSem (ρ.act a).tmps (.tmp t) = pure (ρ.val (a.tmp t)) := by simp only [resSem, act_tmp]
    simp [resVal_run r hu, h0]
  | .cell x t :: rs, vs, h => by
    simp only [resVal, Option.bind_eq_bind, Option.bind_eq_some_iff, Option.some.injEq] at h
    obtain ⟨v, hv, us, hu, rfl⟩ := h
    rw [List.mapM_cons]
    obtain ⟨n, off, hp⟩ := aLoad_ptr hv
    have hl := aLoad_var r (by rw [← hp]; exact hv)
    have h0 : (resSem (ρ.act a).tmps (.cell x t)).run P w = .ok (ρ.val v) w := by
      simp only [resSem, act_tmp, hp, val_ptr, asAddr, Sem.run_bind, Sem.run_pure, Result.andThen_ok, hl]
    simp [resVal_run r hu, h0]

theorem tup_val (ρ : Ren) (vs : List Value) : (if h : (vs.map ρ.val).toArray.size = 1 then (vs.map ρ.val).toArray[0] else .tuple (vs.map ρ.val).toArray) = ρ.val (tup vs) := by
  cases vs with
  | nil => simp [tup, Ren.val, Ren.valA, Ren.valL]
  | cons v r =>
    cases r with
    | nil => simp [tup]
    | cons u r => simp [tup, Ren.val, Ren.valA, Ren.valL_eq]

theorem results_run (r : Rel P ρ H w) {a : AAct} {fn : Func} {vs : List Value} (h : resVal P H a fn.results.toList = some vs) :
    (results fn (ρ.act a).tmps).run P w = .ok (ρ.val (tup vs)) w := by
  have h1 := resVal_run r h
  have h2 : results fn (ρ.act a).tmps = (do
      let vs ← fn.results.mapM (resSem (ρ.act a).tmps)
      pure (if h : vs.size = 1 then vs[0] else .tuple vs)) := by
    unfold results
    congr 2
  rw [h2, Array.mapM_eq_mapM_toList]
  simp only [Sem.run_bind, Sem.run_map, h1, Result.andThen_ok, Sem.run_pure, tup_val]

theorem RCalls.plain {F : Fence} {n : Nat} {f : FuncId} {args : Array Value} {R : Ending → World → Prop} (h : CallsIn F.plain n P f args w R) : CallsIn F n P f args w R := h

/-- what is asked behind a call -/
def OutR (P : Program) (ρ : Ren) (H : AHeap) (w : World) (out : Out) (H1 : AHeap) (R : Ending → World → Prop) : Prop :=
  ∀ ρ1 w1, St P ρ H w ρ1 H1 w1 → match out with
    | .ok v => R (.returned (ρ1.val v)) w1
    | .error ch => (∀ p ∈ ch, scb H1.next p.v = true) → R (.panicked (ch.map ρ1.pe)) w1

theorem marks_next : ∀ (ds : List Deferred) {H H2 : AHeap}, marksOff ds H = some H2 → H2.next = H.next
  | [], H, H2, h => by simp only [marksOff, Option.some.injEq] at h; subst h; rfl
  | ⟨.collected r, _⟩ :: ds, H, H2, h => by
    simp only [marksOff] at h
    split at h
    · have e := marks_next ds h
      exact e
    · cases h
  | ⟨.fn .., _⟩ :: _, _, _, h => by simp [marksOff] at h
  | ⟨.nil, _⟩ :: _, _, _, h => by simp [marksOff] at h
  | ⟨.builtin .., _⟩ :: _, _, _, h => by simp [marksOff] at h
  | ⟨.coroexit .., _⟩ :: _, _, _, h => by simp [marksOff] at h

theorem enterF_run {rec : Rec} (hrec : Sound P rec) (r : Rel P ρ H w) {f : FuncId} {args : List Value} {out : Out} {H1 : AHeap} (h : enterF P rec f args H = some (out, H1))
    {F : Fence} {n : Nat} {R : Ending → World → Prop} (hF : WideF F) (hR : OutR P ρ H w out H1 R) : CallsIn F n P f (args.map ρ.val).toArray w R := by
  simp only [enterF, Option.bind_eq_bind, Option.bind_eq_some_iff] at h
  obtain ⟨fn, hfn, c, hc, h⟩ := h
  split at h
  · rename_i hcond
    simp only [Bool.and_eq_true] at hcond
    obtain ⟨hsc, hle⟩ := hcond
    have hle := ble_le hle
    simp only [Option.bind_eq_some_iff] at h
    obtain ⟨⟨e, a1, H2⟩, hr, h⟩ := h
    refine RCalls.plain (callsIn_of_wp_marks hfn hc (hF.plain.fn f) ?_ rfl)
    have hact : ({ tmps := (args.map ρ.val).toArray ++ Array.replicate (fn.ntmps - (args.map ρ.val).toArray.size) undef, defers := [] } : Act) = ρ.act ⟨{ RV.ofList args with n := fn.ntmps }, []⟩ := by
      rw [args_tmps ρ args fn.ntmps hle]; rfl
    rw [hact]
    refine hrec.run none c _ H e a1 H2 hr ρ w F.plain n _ hF.plain rfl (fun l hl => by cases hl) r (scA_args hsc) ?_
    intro ρ1 w1 hst hsa hsx
    have hleave : ∀ {out : Out} {H3 : AHeap}, leaveF P fn a1 H2 = some (out, H3) → OutR P ρ H w out H3 R → LeavesInM F.plain n P fn (ρ1.act a1).tmps R (ρ1.act a1).defers .returning w1 := by
      intro out H3 hl hR
      simp only [leaveF, Option.bind_eq_bind, Option.bind_eq_some_iff, Option.some.injEq, Prod.mk.injEq] at hl
      obtain ⟨H4, hm, vs, hvs, rfl, rfl⟩ := hl
      refine marksOff_run (by simp) a1.defers H2 w1 H4 hm hst.rel hsa.2 ?_
      intro w2 hst2
      refine ⟨_, results_run hst2.rel hvs, ?_⟩
      exact hR ρ1 w2 (hst.trans hst2)
    cases e with
    | normal => exact hleave h hR
    | ret => exact hleave h hR
    | panic ch =>
      simp only [endF, Option.map_eq_some_iff, Prod.mk.injEq] at h
      obtain ⟨H4, hm, rfl, rfl⟩ := h
      refine marksOff_run (by simp) a1.defers H2 w1 H4 hm hst.rel hsa.2 ?_
      intro w2 hst2
      refine hR ρ1 w2 (hst.trans hst2) (fun p hp => ?_)
      rw [marks_next _ hm]; exact hsx p hp
    | exit id => simp [endF] at h
    | goto l => simp [endF] at h
    | outgrown => simp [endF] at h
  · cases h

theorem getLoop_get {l : Nat} {lp : Loop} {e : RV} (h : getLoop H l = some (lp, e)) : ∃ o, H.get l = some ⟨.loop lp, o, e⟩ := by
  unfold getLoop at h
  split at h
  · rename_i r o e' hg
    simp only [Option.some.injEq, Prod.mk.injEq] at h
    obtain ⟨rfl, rfl⟩ := h
    exact ⟨o, hg⟩
  · cases h

/-- a loop's record is turned -/
theorem setLoop_run (r : Rel P ρ H w) {l : Nat} {lp lp' : Loop} {e : RV} (h : getLoop H l = some (lp, e)) (hd : lp'.defers = lp.defers) :
    ∃ fn, (Instr.getLoop (ρ.blk l)).run P w = .ok { lp with fn := fn, tmps := ρ.tmps e, defers := ρ.blk lp.defers } w ∧
      ∃ w1, (setObj (ρ.blk l) (.loop { lp' with fn := fn, tmps := ρ.tmps e, defers := ρ.blk lp.defers })).run P w = .ok () w1 ∧ St P ρ H w ρ (setLoop H l lp' e) w1 := by
  obtain ⟨o, hg⟩ := getLoop_get h
  obtain ⟨fn, hw, hgl⟩ := run_getLoop r hg
  refine ⟨fn, hgl, _, run_setObj hw (fun _ _ _ => by simp), ?_⟩
  obtain ⟨k1, k2, k3⟩ := setObj_heap (w := w) (ρ.blk l) _ (.loop { lp' with fn := fn, tmps := ρ.tmps e, defers := ρ.blk lp.defers }) hw
  have hs := (r.dom _ _ hg).2
  simp only [sco] at hs
  refine St.upd r (ne_none hg) ?_ ?_ k1 k2 k3 rfl rfl rfl
  · simp only [sco, hd]; exact hs
  · simp only [Fits, hd]; exact ⟨fn, rfl⟩

theorem scE_iff {N : Nat} {e : RV} (h : scE N e = true) : ∀ i, i < e.n → scb N (e.get i) = true := by
  intro i hi
  refine scbL_iff.1 h _ ?_
  rw [RV.gets_eq]
  exact List.mem_map.2 ⟨i, List.mem_range.2 hi, by simp⟩

theorem St.below (r : Rel P ρ H w) {w1 : World} (h : RowKit.Below w.heap.size w w1) : St P ρ H w ρ H w1 := by
  refine ⟨Ext.refl _ _, Le.refl _, ⟨r.base, r.glob, r.inj, r.dom, fun n o ho => ?_⟩, h.os, h.tape, h.output, h.size, fun b hb _ => h.block b hb, fun n hn hg => absurd (r.lt hg) (by omega)⟩
  rw [h.block _ (r.blk_lt (ne_none ho))]
  exact r.obj n o ho

theorem map_af (ρ : Ren) : ∀ (l : List Value), (∀ x ∈ l, af x = true) → l.map ρ.val = l
  | [], _ => rfl
  | x :: l, h => by
    rw [List.map_cons, val_af ρ x (h x (List.mem_cons_self ..)), map_af ρ l (fun y hy => h y (List.mem_cons_of_mem _ hy))]

theorem callF_run {rec : Rec} (hrec : Sound P rec) (r : Rel P ρ H w) {f : FuncId} {args : List Value} {out : Out} {H1 : AHeap} (h : callF P rec f args H = some (out, H1))
    {F : Fence} {n : Nat} {R : Ending → World → Prop} (hF : WideF F) (hR : OutR P ρ H w out H1 R) : CallsIn F n P f (args.map ρ.val).toArray w R := by
  unfold callF at h
  split at h
  · rename_i v hk
    simp only [Option.some.injEq, Prod.mk.injEq] at h
    obtain ⟨rfl, rfl⟩ := h
    obtain ⟨h1, h2, h3⟩ := hrec.know f args v hk
    rw [map_af ρ args h1]
    refine (h3 F n w hF).mono ?_
    rintro e w1 ⟨rfl, hb⟩
    have := hR ρ w1 (St.below r hb)
    simp only [val_af ρ v h2] at this
    exact this
  · exact enterF_run hrec r h hF hR

theorem roundF_run {rec : Rec} (hrec : Sound P rec) (r : Rel P ρ H w) {rd : Round} {out : Out} {H1 : AHeap} (h : roundF rec rd H = some (out, H1)) (hl : rd.l < H.next)
    {F : Fence} {n : Nat} {f : FuncId} {R : Ending → World → Prop} (hF : WideF F) (hR : OutR P ρ H w out H1 R) : RoundIn F n P (ρ.blk rd.l) f (ρ.tmps rd.env) rd.assign rd.body w R := by
  unfold roundF at h
  split at h
  · rename_i hsc
    simp only [Option.bind_eq_bind, Option.bind_eq_some_iff] at h
    obtain ⟨⟨e, a1, H2⟩, hr, h⟩ := h
    refine roundIn_of_wpIn (hF.fn f) ?_
    have hact : ({ tmps := ρ.tmps rd.env, defers := [] } : Act) = ρ.act ⟨rd.env, []⟩ := rfl
    rw [hact]
    refine hrec.run (some rd.l) rd.assign _ H e a1 H2 hr ρ w (F.inRound (ρ.blk rd.l)) n _ (hF.inRound _) rfl (fun l e => by cases e; exact hl) r ⟨scE_iff hsc, fun d hd => by cases hd⟩ ?_
    intro ρ1 w1 hst hsa hsx
    cases e with
    | normal =>
      simp only [Option.bind_eq_some_iff] at h
      obtain ⟨⟨lp, le⟩, hlp, h⟩ := h
      simp only at h
      split at h
      · rename_i hready
        simp only [Option.bind_eq_some_iff] at h
        obtain ⟨⟨e2, a2, H3⟩, hr2, j, hj, ⟨lp2, le2⟩, hlp2, h⟩ := h
        simp only [Option.some.injEq, Prod.mk.injEq] at h
        obtain ⟨rfl, rfl⟩ := h
        have hblk : ρ1.blk rd.l = ρ.blk rd.l := hst.ext.blk _ hl
        obtain ⟨fn, hgl, w2, hset, hst2⟩ := setLoop_run hst.rel (lp' := { lp with state := .busy }) hlp rfl
        rw [hblk] at hgl hset
        refine ⟨w2, ?_, ?_⟩
        · simp only [Instr.beginRound, Sem.run_bind, hgl, Result.andThen_ok]
          rw [show ({ ({ lp with fn := fn, tmps := ρ1.tmps le, defers := ρ1.blk lp.defers } : Loop) with state := .busy } : Loop) = { ({ lp with state := .busy } : Loop) with fn := fn, tmps := ρ1.tmps le, defers := ρ1.blk lp.defers } from rfl, hset]
          simp [hready]
        · have hn2 : (setLoop H2 rd.l { lp with state := .busy } le).next = H2.next := rfl
          have hl2 : rd.l < H2.next := Nat.lt_of_lt_of_le hl hst.le.next
          refine hrec.run (some rd.l) rd.body a1 _ e2 a2 H3 hr2 ρ1 w2 (F.inRound (ρ.blk rd.l)) n _ (hF.inRound _) (by simp [hblk]) (fun l e => by cases e; rw [hn2]; exact hl2) hst2.rel hsa ?_
          intro ρ2 w3 hst3 hsa3 hsx3
          have hblk2 : ρ2.blk rd.l = ρ.blk rd.l := (hst3.ext.blk _ (by rw [hn2]; exact hl2)).trans hblk
          obtain ⟨fn2, hgl2, w4, hset4, hst4⟩ := setLoop_run hst3.rel (lp' := { lp2 with state := if j.isNone then .ready else .done, pending := j }) hlp2 rfl
          rw [hblk2] at hgl2 hset4
          have hend : (Instr.endRound (ρ.blk rd.l) j).run P w3 = .ok (.bool j.isNone) w4 := by
            simp only [Instr.endRound, Sem.run_bind, hgl2, Result.andThen_ok]
            rw [show ({ ({ lp2 with fn := fn2, tmps := ρ2.tmps le2, defers := ρ2.blk lp2.defers } : Loop) with state := if j.isNone then .ready else .done, pending := j } : Loop) =
              { ({ lp2 with state := if j.isNone then .ready else .done, pending := j } : Loop) with fn := fn2, tmps := ρ2.tmps le2, defers := ρ2.blk lp2.defers } from rfl, hset4]
            simp
          have hfin := hR ρ2 w4 (((hst.trans hst2).trans hst3).trans hst4)
          simp only [Ren.val] at hfin
          cases e2 with
          | normal => simp only [jumpOf, Option.some.injEq] at hj; subst hj; exact ⟨_, _, hend, hfin⟩
          | ret => simp only [jumpOf, Option.some.injEq] at hj; subst hj; exact ⟨_, _, hend, hfin⟩
          | exit id => simp only [jumpOf, Option.some.injEq] at hj; subst hj; exact ⟨_, _, hend, hfin⟩
          | goto t => simp only [jumpOf, Option.some.injEq] at hj; subst hj; exact ⟨_, _, hend, hfin⟩
          | panic ch => simp [jumpOf] at hj
          | outgrown => simp [jumpOf] at hj
      · cases h
    | exit id => cases h
    | goto l => cases h
    | ret => cases h
    | panic ch => cases h
    | outgrown => cases h
  · cases h

end
end Go.Ax
