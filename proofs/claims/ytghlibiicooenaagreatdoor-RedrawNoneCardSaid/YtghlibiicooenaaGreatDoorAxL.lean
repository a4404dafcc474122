/- The abstract executor: calls, rounds, straight regions. -/
import Derived.Test.YtghlibiicooenaaGreatDoorAxK
import Derived.Below
namespace Go.Ax

/-- a mark, or a call of a function with what it holds -/
def scD (N : Nat) (d : Deferred) : Prop :=
  (∃ r, d = ⟨.collected r, #[]⟩ ∧ r < N) ∨ ∃ f cap as, d = ⟨.fn (.func f) cap, as⟩ ∧ scbA N cap = true ∧ scbA N as = true

theorem scD.mono {N M : Nat} {d : Deferred} (h : scD N d) (hle : N ≤ M) : scD M d := by
  rcases h with ⟨r, e, hr⟩ | ⟨f, cap, as, e, h1, h2⟩
  · exact .inl ⟨r, e, by omega⟩
  · exact .inr ⟨f, cap, as, e, scbA_mono hle _ h1, scbA_mono hle _ h2⟩

theorem dfr_ext {N : Nat} {ρ ρ' : Ren} (e : Ext N ρ ρ') {d : Deferred} (h : scD N d) : ρ'.dfr d = ρ.dfr d := by
  rcases h with ⟨r, rfl, hr⟩ | ⟨f, cap, as, rfl, h1, h2⟩
  · simp [Ren.dfr, e.blk r hr]
  · simp [Ren.dfr, Ren.fn, valA_ext e _ h1, valA_ext e _ h2]

def scA (N : Nat) (a : AAct) : Prop := (∀ i, i < a.env.n → scb N (a.env.get i) = true) ∧ ∀ d ∈ a.defers, scD N d

theorem scA.mono {N M : Nat} {a : AAct} (h : scA N a) (hle : N ≤ M) : scA M a :=
  ⟨fun i hi => scb_mono hle _ (h.1 i hi), fun d hd => (h.2 d hd).mono hle⟩

theorem act_ext {N : Nat} {ρ ρ' : Ren} (e : Ext N ρ ρ') {a : AAct} (h : scA N a) : ρ'.act a = ρ.act a := by
  unfold Ren.act
  rw [Ren.tmps_ext e _ h.1]
  congr 1
  apply List.map_congr_left
  intro d hd
  exact dfr_ext e (h.2 d hd)

theorem scA.put {N : Nat} {a : AAct} (h : scA N a) (dst : Option Tmp) {v : Value} (hv : scb N v = true) : scA N (a.put dst v) := by
  cases dst with
  | none => exact h
  | some d =>
    simp only [AAct.put]
    split
    · refine ⟨fun i hi => ?_, h.2⟩
      simp only [RV.n_set] at hi
      simp only [RV.get_set]
      split
      · exact hv
      · exact h.1 i hi
    · exact h

def Ren.pe (ρ : Ren) (p : PanicEntry) : PanicEntry := { p with v := ρ.val p.v }

def Ren.exit (ρ : Ren) : Exit → Exit
  | .panic ch => .panic (ch.map ρ.pe)
  | e => e

def scX (N : Nat) : Exit → Prop
  | .panic ch => ∀ p ∈ ch, scb N p.v = true
  | _ => True

structure WideF (F : Fence) : Prop where
  fn : ∀ f, F.fn f
  depth : F.depth = none

theorem WideF.inRound {F : Fence} (h : WideF F) (l : Nat) : WideF (F.inRound l) := ⟨h.fn, h.depth⟩
theorem WideF.plain {F : Fence} (h : WideF F) : WideF F.plain := ⟨h.fn, h.depth⟩
theorem WideF.deep {F : Fence} (h : WideF F) {n : Nat} : F.depth.isSome = true → 1 ≤ n := fun e => by rw [h.depth] at e; cases e

/-- a piece of code comes to an end, whatever the world that the heap stands for -/
def Runs (P : Program) (ro : Option Nat) (c : Code) (a : AAct) (H : AHeap) (e : Exit) (a1 : AAct) (H1 : AHeap) : Prop :=
  ∀ (ρ : Ren) (w : World) (F : Fence) (n : Nat) (Q : Exit → Act → World → Prop), WideF F → F.round = ro.map ρ.blk → (∀ l, ro = some l → l < H.next) → Rel P ρ H w → scA H.next a →
    (∀ ρ1 w1, St P ρ H w ρ1 H1 w1 → scA H1.next a1 → scX H1.next e → Q (ρ1.exit e) (ρ1.act a1) w1) → c.wpIn F n P Q (ρ.act a) w

/-- what is asked of the executor one level below -/
structure Sound (P : Program) (rec : Rec) : Prop where
  run : ∀ (ro : Option Nat) (c : Code) (a : AAct) (H : AHeap) (e : Exit) (a1 : AAct) (H1 : AHeap), rec.run ro c a H = some (e, a1, H1) → Runs P ro c a H e a1 H1
  know : ∀ (f : FuncId) (args : List Value) (v : Value), rec.know f args = some v → (∀ x ∈ args, af x = true) ∧ af v = true ∧
    ∀ (F : Fence) (n : Nat) (w : World), WideF F → CallsIn F n P f args.toArray w (fun e w' => e = .returned v ∧ RowKit.Below w.heap.size w w')

section
variable {P : Program} {ρ : Ren} {H : AHeap} {w : World}

theorem args_tmps (ρ : Ren) (args : List Value) (n : Nat) (h : args.length ≤ n) :
    (args.map ρ.val).toArray ++ Array.replicate (n - (args.map ρ.val).toArray.size) undef = ρ.tmps { RV.ofList args with n := n } := by
  apply Array.ext_getElem?
  intro i
  rw [tmps_get?]
  have hg : ({ RV.ofList args with n := n } : RV).get i = args.getD i undef := RV.get_ofList args i
  rw [hg]
  by_cases h1 : i < args.length
  · rw [Array.getElem?_append_left (by simpa using h1), if_pos (by show i < n; omega)]
    simp [h1]
  · rw [Array.getElem?_append_right (by simpa using h1)]
    by_cases h2 : i < n
    · rw [if_pos h2, Array.getElem?_replicate]
      simp only [List.size_toArray, List.length_map]
      rw [if_pos (by omega)]
      simp [List.getD, List.getElem?_eq_none (Nat.not_lt.1 h1)]
    · rw [if_neg h2, Array.getElem?_replicate]
      simp only [List.size_toArray, List.length_map]
      rw [if_neg (by omega)]

theorem scA_args {args : List Value} {n N : Nat} (h : scbL N args = true) : scA N ⟨{ RV.ofList args with n := n }, []⟩ := by
  refine ⟨fun i _ => ?_, fun d hd => by cases hd⟩
  have hg : ({ RV.ofList args with n := n } : RV).get i = args.getD i undef := RV.get_ofList args i
  simp only [hg]
  by_cases h1 : i < args.length
  · exact scbL_iff.1 h _ (by simp only [List.getD, List.getElem?_eq_getElem h1, Option.getD_some]; exact List.getElem_mem _)
  · rw [List.getD, List.getElem?_eq_none (Nat.not_lt.1 h1)]; exact scb_undef N

theorem tmp_bool (ρ : Ren) {v : Value} {b : Bool} : ρ.val v = .bool b ↔ v = .bool b := by
  constructor
  · intro h
    cases v with
    | pointer a => cases a <;> simp [Ren.val] at h
    | slice a _ _ => cases a <;> simp [Ren.val] at h
    | map a => cases a <;> simp [Ren.val] at h
    | chan a =>
      cases a with
      | none => simp [Ren.val] at h
      | some k => rw [Ren.val] at h; have := ρ.op1 k; rw [h] at this; cases this
    | bool c => simpa [Ren.val] using h
    | _ => simp [Ren.val] at h
  · rintro rfl; simp [Ren.val]

theorem yielded_act (ρ : Ren) (ops : Array Oper) (a : AAct) (j : Nat) :
    yielded ops (ρ.act a).tmps j = match (ops[j]?).bind (·.dst) with
      | some d => (match a.tmp d with
        | .bool b => some b
        | _ => none)
      | none => none := by
  unfold yielded
  cases hd : (ops[j]?).bind (·.dst) with
  | none => simp
  | some d =>
    simp only [Option.bind_some, Ren.act, tmps_get?, AAct.tmp]
    by_cases h : d < a.env.n
    · rw [if_pos h, blt_of h, if_pos rfl]
      cases hv : a.env.get d with
      | bool b => simp [Ren.val]
      | pointer p => cases p <;> simp [Ren.val]
      | slice p _ _ => cases p <;> simp [Ren.val]
      | map p => cases p <;> simp [Ren.val]
      | chan p =>
        cases p with
        | none => simp [Ren.val]
        | some k =>
          have h1 := ρ.op1 k
          rw [Ren.val]
          cases hk : ρ.op k with
          | bool b => rw [hk] at h1; cases h1
          | _ => rfl
      | _ => simp [Ren.val]
    · rw [if_neg h, blt_false h]
      simp [undef]

theorem want_run (ρ : Ren) {ops : Array Oper} {a : AAct} {o : Oper} {b : Bool} (h : wantA ops a o = some b) : Region.wanted o (yielded ops (ρ.act a).tmps) = b := by
  unfold wantA at h
  unfold Region.wanted
  split at h
  · rename_i hg
    simp only [Option.some.injEq] at h
    rw [hg]; simpa using h
  · rename_i j want hg
    rw [hg]
    simp only [yielded_act]
    split at h
    · rename_i oj hoj
      rw [hoj]
      simp only [Option.bind_some]
      split at h
      · rename_i d hd
        rw [hd]
        simp only
        split at h
        · rename_i bb hb
          simp only [Option.some.injEq] at h
          rw [hb]
          simpa using h
        · rename_i hb
          simp only [Option.some.injEq] at h
          subst h
          split
          · rename_i bb hbb; exact absurd hbb (hb bb)
          · rfl
      · rename_i hd
        simp only [Option.some.injEq] at h
        subst h
        rw [hd]; rfl
    · rename_i hoj
      simp only [Option.some.injEq] at h
      subst h
      rw [hoj]; rfl

def resSem (tmps : Array Value) : ResultVar → Sem Value
  | .tmp t => pure (tmps.getD t undef)
  | .cell x t => do loadVar t (← asAddr (tmps.getD x undef))

theorem resVal_run (r : Rel P ρ H w) {a : AAct} : ∀ {rs : List ResultVar} {vs : List Value}, resVal P H a rs = some vs → (rs.mapM (resSem (ρ.act a).tmps)).run P w = .ok (vs.map ρ.val) w
  | [], vs, h => by simp only [resVal, Option.some.injEq] at h; subst h; simp
  | .tmp t :: rs, vs, h => by
    simp only [resVal, Option.bind_eq_bind, Option.bind_eq_some_iff, Option.some.injEq] at h
    obtain ⟨us, hu, rfl⟩ := h
    rw [List.mapM_cons]
    have h0 : resSem (ρ.act a).tmps (.tmp t) = pure (ρ.val (a.tmp t)) := by simp only [resSem, act_tmp]
    simp [resVal_run r hu, h0]
  | .cell x t :: rs, vs, h => by
    simp only [resVal, Option.bind_eq_bind, Option.bind_eq_some_iff, Option.some.injEq] at h
    obtain ⟨v, hv, us, hu, rfl⟩ := h
    rw [List.mapM_cons]
    obtain ⟨n, off, hp⟩ := aLoad_ptr hv
    have hl := aLoad_var r (by rw [← hp]; exact hv)
    have h0 : (resSem (ρ.act a).tmps (.cell x t)).run P w = .ok (ρ.val v) w := by
      simp only [resSem, act_tmp, hp, val_ptr, asAddr, Sem.run_bind, Sem.run_pure, Result.andThen_ok, hl]
    simp [resVal_run r hu, h0]

theorem tup_val (ρ : Ren) (vs : List Value) : (if h : (vs.map ρ.val).toArray.size = 1 then (vs.map ρ.val).toArray[0] else .tuple (vs.map ρ.val).toArray) = ρ.val (tup vs) := by
  cases vs with
  | nil => simp [tup, Ren.val, Ren.valA, Ren.valL]
  | cons v r =>
    cases r with
    | nil => simp [tup]
    | cons u r => simp [tup, Ren.val, Ren.valA, Ren.valL_eq]

theorem results_run (r : Rel P ρ H w) {a : AAct} {fn : Func} {vs : List Value} (h : resVal P H a fn.results.toList = some vs) :
    (results fn (ρ.act a).tmps).run P w = .ok (ρ.val (tup vs)) w := by
  have h1 := resVal_run r h
  have h2 : results fn (ρ.act a).tmps = (do
      let vs ← fn.results.mapM (resSem (ρ.act a).tmps)
      pure (if h : vs.size = 1 then vs[0] else .tuple vs)) := by
    unfold results
    congr 2
  rw [h2, Array.mapM_eq_mapM_toList]
  simp only [Sem.run_bind, Sem.run_map, h1, Result.andThen_ok, Sem.run_pure, tup_val]

theorem RCalls.plain {F : Fence} {n : Nat} {f : FuncId} {args : Array Value} {R : Ending → World → Prop} (h : CallsIn F.plain n P f args w R) : CallsIn F n P f args w R := h

/-- what is asked behind a call -/
def OutR (P : Program) (ρ : Ren) (H : AHeap) (w : World) (out : Out) (H1 : AHeap) (R : Ending → World → Prop) : Prop :=
  ∀ ρ1 w1, St P ρ H w ρ1 H1 w1 → match out with
    | .ok v => R (.returned (ρ1.val v)) w1
    | .error ch => (∀ p ∈ ch, scb H1.next p.v = true) → R (.panicked (ch.map ρ1.pe)) w1

/-! the mode of the frame that deferred a call -/
def Ren.mode (ρ : Ren) : FrameMode → FrameMode
  | .panicking ch => .panicking (ch.map ρ.pe)
  | u => u

def scM (N : Nat) : FrameMode → Prop
  | .panicking ch => ∀ p ∈ ch, scb N p.v = true
  | _ => True

theorem scM.mono {N M : Nat} {u : FrameMode} (h : scM N u) (hle : N ≤ M) : scM M u := by
  cases u with
  | panicking ch => exact fun p hp => scb_mono hle _ (h p hp)
  | _ => trivial

theorem pes_ext {N : Nat} {ρ ρ' : Ren} (e : Ext N ρ ρ') {ch : List PanicEntry} (h : ∀ p ∈ ch, scb N p.v = true) : ch.map ρ'.pe = ch.map ρ.pe := by
  apply List.map_congr_left
  intro p hp
  simp only [Ren.pe, val_ext e _ (h p hp)]

theorem mode_ext {N : Nat} {ρ ρ' : Ren} (e : Ext N ρ ρ') {u : FrameMode} (h : scM N u) : ρ'.mode u = ρ.mode u := by
  cases u with
  | panicking ch => simp only [Ren.mode, pes_ext e h]
  | _ => rfl

theorem drop_pes (ρ : Ren) : ∀ (l : List PanicEntry), (l.map ρ.pe).dropWhile (!·.goexit) = (l.dropWhile (!·.goexit)).map ρ.pe
  | [] => rfl
  | p :: l => by
    simp only [List.map_cons, List.dropWhile_cons, Ren.pe]
    split
    · exact drop_pes ρ l
    · rfl

theorem mem_drop {l : List PanicEntry} {p : PanicEntry} (h : p ∈ l.dropWhile (!·.goexit)) : p ∈ l := (List.dropWhile_sublist _).subset h

theorem settle_mode (ρ : Ren) (u : FrameMode) : settle (ρ.mode u) = ρ.mode (settle u) := by
  cases u with
  | panicking ch =>
    cases ch with
    | nil => rfl
    | cons p l =>
      obtain ⟨v, r, g⟩ := p
      cases r with
      | false => rfl
      | true =>
        simp only [Ren.mode, List.map_cons, Ren.pe, settle]
        rw [show List.map ρ.pe l = l.map ρ.pe from rfl, drop_pes]
        cases l.dropWhile (!·.goexit) <;> rfl
  | _ => rfl

theorem scM_settle {N : Nat} {u : FrameMode} (h : scM N u) : scM N (settle u) := by
  cases u with
  | panicking ch =>
    cases ch with
    | nil => exact h
    | cons p l =>
      obtain ⟨v, r, g⟩ := p
      cases r with
      | false => exact h
      | true =>
        simp only [settle]
        cases e : l.dropWhile (!·.goexit) with
        | nil => trivial
        | cons q l' =>
          intro p hp
          exact h p (List.mem_cons_of_mem _ (mem_drop (by rw [e]; exact hp)))
  | _ => trivial

theorem raised_mode (ρ : Ren) (u : FrameMode) (ch : List PanicEntry) : raised (ρ.mode u) (ch.map ρ.pe) = ρ.mode (raised u ch) := by
  cases u <;> simp [Ren.mode, raised]

theorem scM_raised {N : Nat} {u : FrameMode} {ch : List PanicEntry} (h : scM N u) (hc : ∀ p ∈ ch, scb N p.v = true) : scM N (raised u ch) := by
  cases u with
  | panicking old =>
    intro p hp
    rcases List.mem_append.1 hp with hp | hp
    · exact hc p hp
    · exact h p hp
  | _ => exact hc

theorem isRec_run {e : Operand → Value} {o : Oper} (h : isRec o.op = true) : (execOp e o).run P w = .ok .recover w := by
  obtain ⟨dst, op, ty, af, gd, ps⟩ := o
  simp only at h
  unfold isRec at h
  split at h
  · simp [execOp, resolve, invoke, builtin]
  · cases h

theorem recoverU_run (ρ : Ren) {c0 : Frame} {u : FrameMode} (hu : c0.mode = ρ.mode u) (cs : List Frame) :
    recoverD (c0 :: cs) = some (ρ.val (recoverU u).1, { c0 with mode := ρ.mode (recoverU u).2 } :: cs) ∨ (recoverD (c0 :: cs) = none ∧ recoverU u = (.nilIface, u)) := by
  cases u with
  | panicking ch =>
    cases ch with
    | nil => right; simp only [Ren.mode, List.map_nil] at hu; simp [recoverD, hu, recoverU]
    | cons p l =>
      obtain ⟨v, r, g⟩ := p
      simp only [Ren.mode, List.map_cons, Ren.pe] at hu
      cases r with
      | true => right; simp [recoverD, hu, recoverU]
      | false =>
        cases g with
        | true => right; simp [recoverD, hu, recoverU]
        | false => left; simp [recoverD, hu, recoverU, Ren.mode, Ren.pe]
  | run => right; simp only [Ren.mode] at hu; simp [recoverD, hu, recoverU]
  | returning => right; simp only [Ren.mode] at hu; simp [recoverD, hu, recoverU]

theorem scM_recoverU {N : Nat} {u : FrameMode} (h : scM N u) : scb N (recoverU u).1 = true ∧ scM N (recoverU u).2 := by
  unfold recoverU
  split
  · rename_i v older
    refine ⟨h _ (List.mem_cons_self ..), fun p hp => ?_⟩
    rcases List.mem_cons.1 hp with rfl | hp
    · exact h ⟨v, false, false⟩ (List.mem_cons_self ..)
    · exact h p (List.mem_cons_of_mem _ hp)
  · exact ⟨by simp [scb], h⟩

/-- what is asked behind a piece of a deferred function -/
def DefQ (P : Program) (ρ : Ren) (H : AHeap) (w : World) (c0 : Frame) (cs : List Frame) (e : Exit) (a1 : AAct) (u1 : FrameMode) (H1 : AHeap) (Q : Exit → Act → List Frame → World → Prop) : Prop :=
  ∀ ρ1 w1, St P ρ H w ρ1 H1 w1 → scA H1.next a1 → scX H1.next e → scM H1.next u1 → Q (ρ1.exit e) (ρ1.act a1) ({ c0 with mode := ρ1.mode u1 } :: cs) w1

theorem mode_self {c : Frame} {u : FrameMode} (h : c.mode = u) : ({ c with mode := u } : Frame) = c := by subst h; rfl

theorem runOpsS_run {ops : Array Oper} {F : Fence} {n : Nat} {Q : Exit → Act → List Frame → World → Prop} (hF : WideF F) {cs : List Frame} :
    ∀ (rest : List Oper) (k : Nat) (ρ : Ren) (H : AHeap) (w : World) (a : AAct) (u : FrameMode) (c0 : Frame) (e : Exit) (a1 : AAct) (u1 : FrameMode) (H1 : AHeap), ops.toList.drop k = rest → runOpsS P ops rest a u H = some (e, a1, u1, H1) →
      Rel P ρ H w → scA H.next a → scM H.next u → c0.mode = ρ.mode u → DefQ P ρ H w c0 cs e a1 u1 H1 Q → wpOpsSIn F n P ops Q (List.range' k rest.length) (ρ.act a) (c0 :: cs) w
  | [], k, ρ, H, w, a, u, c0, e, a1, u1, H1, _, h, r, hs, hm, hu, hQ => by
    simp only [runOpsS, Option.some.injEq, Prod.mk.injEq] at h
    obtain ⟨rfl, rfl, rfl, rfl⟩ := h
    have := hQ ρ w (St.refl r) hs trivial hm
    rw [mode_self hu] at this
    exact this
  | o :: rest, k, ρ, H, w, a, u, c0, e, a1, u1, H1, hd, h, r, hs, hm, hu, hQ => by
    have hk : ops[k]? = some o := by
      have := congrArg (·[0]?) hd
      simpa using this
    have hd' : ops.toList.drop (k + 1) = rest := by
      have := congrArg List.tail hd
      simpa using this
    have next : ∀ (ρ1 : Ren) (g : AHeap) (w1 : World) (v : Value) (u' : FrameMode) (c1 : Frame), St P ρ H w ρ1 g w1 → scb g.next v = true → scM g.next u' → c1.mode = ρ1.mode u' → (∀ m, ({ c1 with mode := m } : Frame) = { c0 with mode := m }) →
        runOpsS P ops rest (a.put o.dst v) u' g = some (e, a1, u1, H1) → wpOpsSIn F n P ops Q (List.range' (k + 1) rest.length) ((ρ.act a).put o.dst (ρ1.val v)) (c1 :: cs) w1 := by
      intro ρ1 g w1 v u' c1 s hsc hm' hu' hc hrun
      rw [← act_ext s.ext hs, act_put]
      refine runOpsS_run hF rest (k + 1) ρ1 g w1 _ u' c1 e a1 u1 H1 hd' hrun s.rel ((hs.mono s.le.next).put _ hsc) hm' hu' ?_
      intro ρ2 w2 s2 h1 h2 h3
      rw [hc]
      exact hQ ρ2 w2 (s.trans s2) h1 h2 h3
    simp only [List.length_cons, List.range'_succ, wpOpsSIn, hk]
    refine ⟨fun f _ => hF.fn f, ?_⟩
    simp only [runOpsS] at h
    split at h
    · rename_i hw
      rw [want_run ρ hw, if_pos rfl]
      split at h
      · rename_i hrec
        rw [isRec_run hrec]
        simp only
        obtain ⟨q1, q2⟩ := scM_recoverU hm
        rcases recoverU_run ρ hu cs with h0 | ⟨h0, h1⟩
        · rw [h0]
          exact next ρ H w _ _ _ (St.refl r) q1 q2 rfl (fun _ => rfl) h
        · rw [h0]
          rw [h1] at h
          have := next ρ H w .nilIface u c0 (St.refl r) (by simp [scb]) hm hu (fun _ => rfl) h
          rw [show ρ.val .nilIface = .nilIface from by simp [Ren.val]] at this
          exact this
      · split at h
        · rename_i v g hx
          obtain ⟨⟨ρ1, w1, s, hrun⟩, _⟩ := aop_run r hx
          simp only [NRun] at hrun
          rw [hrun]
          split at h
          · rename_i hsc
            exact next ρ1 g w1 v u c0 s hsc (hm.mono s.le.next) (by rw [hu, mode_ext s.ext hm]) (fun _ => rfl) h
          · cases h
        · rename_i g hx
          obtain ⟨⟨ρ1, w1, s, hrun⟩, _⟩ := aop_run r hx
          simp only [NRun] at hrun
          rw [hrun]
          have := next ρ1 g w1 undef u c0 s (scb_undef _) (hm.mono s.le.next) (by rw [hu, mode_ext s.ext hm]) (fun _ => rfl) h
          rw [Ren.val_undef] at this
          exact this
        · rename_i v g hx
          obtain ⟨⟨ρ1, w1, s, hrun⟩, _⟩ := aop_run r hx
          simp only [NRun] at hrun
          rw [hrun]
          split at h
          · rename_i hsc
            simp only [Option.some.injEq, Prod.mk.injEq] at h
            obtain ⟨rfl, rfl, rfl, rfl⟩ := h
            have := hQ ρ1 w1 s (hs.mono s.le.next) (fun p hp => by simp at hp; subst hp; exact hsc) (hm.mono s.le.next)
            rw [act_ext s.ext hs, mode_ext s.ext hm, mode_self hu] at this
            exact this
          · cases h
        · cases h
    · rename_i hw
      rw [want_run ρ hw]
      simp only [Bool.false_eq_true, if_false]
      have := next ρ H w undef u c0 (St.refl r) (scb_undef _) hm hu (fun _ => rfl) h
      rw [Ren.val_undef] at this
      exact this
    · cases h

theorem runS_run {rec : Rec} (hrec : Sound P rec) {F : Fence} {n : Nat} (hF : WideF F) (hFr : F.round = none) {cs : List Frame} :
    ∀ (c : Code) (ρ : Ren) (H : AHeap) (w : World) (a : AAct) (u : FrameMode) (c0 : Frame) (e : Exit) (a1 : AAct) (u1 : FrameMode) (H1 : AHeap) (Q : Exit → Act → List Frame → World → Prop), runS P rec c a u H = some (e, a1, u1, H1) →
      Rel P ρ H w → scA H.next a → scM H.next u → c0.mode = ρ.mode u → DefQ P ρ H w c0 cs e a1 u1 H1 Q → c.wpSIn F n P Q (ρ.act a) (c0 :: cs) w := by
  have lift : ∀ (c : Code) (ρ : Ren) (H : AHeap) (w : World) (a : AAct) (u : FrameMode) (c0 : Frame) (e : Exit) (a1 : AAct) (u1 : FrameMode) (H1 : AHeap) (Q : Exit → Act → List Frame → World → Prop),
      (rec.run none c a H).map (fun r => (r.1, r.2.1, u, r.2.2)) = some (e, a1, u1, H1) →
      Rel P ρ H w → scA H.next a → scM H.next u → c0.mode = ρ.mode u → DefQ P ρ H w c0 cs e a1 u1 H1 Q → c.wpSIn F n P Q (ρ.act a) (c0 :: cs) w := by
    intro c ρ H w a u c0 e a1 u1 H1 Q h r hs hm hu hQ
    simp only [Option.map_eq_some_iff, Prod.mk.injEq] at h
    obtain ⟨⟨e', a', H'⟩, hr, rfl, rfl, rfl, rfl⟩ := h
    refine wpSIn_of_wpIn hFr (hrec.run none c a H _ _ _ hr ρ w F n _ hF (by rw [hFr]; rfl) (fun l hl => by cases hl) r hs ?_)
    intro ρ1 w1 s h1 h2
    have := hQ ρ1 w1 s h1 h2 (hm.mono s.le.next)
    rw [mode_ext s.ext hm, mode_self hu] at this
    exact this
  intro c
  induction c with
  | seq x y ihx ihy =>
    intro ρ H w a u c0 e a1 u1 H1 Q h r hs hm hu hQ
    simp only [runS] at h
    refine wpSIn_seq ?_
    split at h
    · rename_i a2 u2 H2 hx
      refine ihx ρ H w a u c0 .normal a2 u2 H2 _ hx r hs hm hu ?_
      intro ρ1 w1 s h1 _ h3
      refine ihy ρ1 H2 w1 a2 u2 _ e a1 u1 H1 Q h s.rel h1 h3 rfl ?_
      intro ρ2 w2 s2 k1 k2 k3
      exact hQ ρ2 w2 (s.trans s2) k1 k2 k3
    · rename_i hne
      refine ihx ρ H w a u c0 e a1 u1 H1 _ h r hs hm hu ?_
      intro ρ1 w1 s h1 h2 h3
      have := hQ ρ1 w1 s h1 h2 h3
      cases e with
      | normal => exact absurd h (hne a1 u1 H1)
      | _ => exact this
  | cond c x y ihx ihy =>
    intro ρ H w a u c0 e a1 u1 H1 Q h r hs hm hu hQ
    simp only [runS] at h
    split at h
    · rename_i hc
      refine wpSIn_cond (t := true) (by rw [aeval_run r hc]; simp [Ren.val]) ?_
      exact ihx ρ H w a u c0 e a1 u1 H1 Q h r hs hm hu hQ
    · rename_i hc
      refine wpSIn_cond (t := false) (by rw [aeval_run r hc]; simp [Ren.val]) ?_
      exact ihy ρ H w a u c0 e a1 u1 H1 Q h r hs hm hu hQ
    · cases h
  | region id ops draw =>
    intro ρ H w a u c0 e a1 u1 H1 Q h r hs hm hu hQ
    cases draw with
    | true => exact lift _ ρ H w a u c0 e a1 u1 H1 Q h r hs hm hu hQ
    | false =>
      simp only [runS] at h
      split at h
      · refine wpSIn_region ?_
        rw [List.range_eq_range']
        have := runOpsS_run (n := n) (Q := Q) hF (cs := cs) ops.toList 0 ρ H w a u c0 e a1 u1 H1 (by simp) h r hs hm hu hQ
        simpa using this
      · exact lift _ ρ H w a u c0 e a1 u1 H1 Q h r hs hm hu hQ
  | _ =>
    intro ρ H w a u c0 e a1 u1 H1 Q h r hs hm hu hQ
    exact lift _ ρ H w a u c0 e a1 u1 H1 Q h r hs hm hu hQ

/-- what is asked behind a deferred call -/
def OutD (P : Program) (ρ : Ren) (H : AHeap) (w : World) (out : Out) (u1 : FrameMode) (H1 : AHeap) (R : Ending → FrameMode → World → Prop) : Prop :=
  ∀ ρ1 w1, St P ρ H w ρ1 H1 w1 → scM H1.next u1 → match out with
    | .ok v => R (.returned (ρ1.val v)) (ρ1.mode u1) w1
    | .error ch => (∀ p ∈ ch, scb H1.next p.v = true) → R (.panicked (ch.map ρ1.pe)) (ρ1.mode u1) w1

theorem enterD_run {rec : Rec} (hrec : Sound P rec) (r : Rel P ρ H w) {f : FuncId} {args : List Value} {u : FrameMode} {out : Out} {u1 : FrameMode} {H1 : AHeap} (h : enterD P rec f args u H = some (out, u1, H1)) (hm : scM H.next u)
    {F : Fence} {n : Nat} {R : Ending → FrameMode → World → Prop} (hF : WideF F) (hFr : F.round = none) (hR : OutD P ρ H w out u1 H1 R) : CallsDIn F n P f (args.map ρ.val).toArray (ρ.mode u) w R := by
  simp only [enterD, Option.bind_eq_bind, Option.bind_eq_some_iff] at h
  obtain ⟨fn, hfn, c, hc, h⟩ := h
  split at h
  · rename_i hcond
    simp only [Bool.and_eq_true] at hcond
    obtain ⟨hsc, hle⟩ := hcond
    have hle := ble_le hle
    simp only [Option.bind_eq_some_iff] at h
    obtain ⟨⟨e, a1, u2, H2⟩, hr, h⟩ := h
    refine callsDIn_of_wpSIn hfn hc (hF.fn f) (fun c0 cs hu => ?_)
    have hact : ({ tmps := (args.map ρ.val).toArray ++ Array.replicate (fn.ntmps - (args.map ρ.val).toArray.size) undef, defers := [] } : Act) = ρ.act ⟨{ RV.ofList args with n := fn.ntmps }, []⟩ := by
      rw [args_tmps ρ args fn.ntmps hle]; rfl
    rw [hact]
    refine runS_run hrec hF hFr c ρ H w _ u c0 e a1 u2 H2 _ hr r (scA_args hsc) hm hu ?_
    intro ρ1 w1 s h1 h2 h3
    obtain ⟨env, ds⟩ := a1
    unfold endD at h
    split at h
    · rename_i e' u' H' heq
      simp only [Prod.mk.injEq, AAct.mk.injEq] at heq
      obtain ⟨rfl, ⟨rfl, rfl⟩, rfl, rfl⟩ := heq
      simp only [Option.map_eq_some_iff, Prod.mk.injEq] at h
      obtain ⟨vs, hvs, rfl, rfl, rfl⟩ := h
      exact ⟨rfl, _, rfl, _, results_run s.rel hvs, hR ρ1 w1 s h3⟩
    · rename_i e' u' H' heq
      simp only [Prod.mk.injEq, AAct.mk.injEq] at heq
      obtain ⟨rfl, ⟨rfl, rfl⟩, rfl, rfl⟩ := heq
      simp only [Option.map_eq_some_iff, Prod.mk.injEq] at h
      obtain ⟨vs, hvs, rfl, rfl, rfl⟩ := h
      exact ⟨rfl, _, rfl, _, results_run s.rel hvs, hR ρ1 w1 s h3⟩
    · rename_i ch e' u' H' heq
      simp only [Prod.mk.injEq, AAct.mk.injEq] at heq
      obtain ⟨rfl, ⟨rfl, rfl⟩, rfl, rfl⟩ := heq
      simp only [Option.some.injEq, Prod.mk.injEq] at h
      obtain ⟨rfl, rfl, rfl⟩ := h
      exact ⟨rfl, _, rfl, hR ρ1 w1 s h3 h2⟩
    · cases h
  · cases h

theorem map_run (ρ : Ren) (c : Array Value) : ρ.valA c = (c.toList.map ρ.val).toArray := by
  rw [Ren.valA_eq]; apply Array.ext'; simp

theorem leaveF_run {rec : Rec} (hrec : Sound P rec) {F : Fence} {n : Nat} (hF : WideF F) (hFr : F.round = none) {fn : Func} {a1 : AAct} {R : Ending → World → Prop} :
    ∀ (ds : List Deferred) (u : FrameMode) (H : AHeap) (w : World) (ρ : Ren) (out : Out) (H1 : AHeap), leaveF P rec fn a1 ds u H = some (out, H1) → Rel P ρ H w → scA H.next a1 → (∀ d ∈ ds, scD H.next d) → scM H.next u →
      OutR P ρ H w out H1 R → LeavesInM F n P fn (ρ.act a1).tmps R (ds.map ρ.dfr) (ρ.mode u) w
  | [], u, H, w, ρ, out, H1, h, r, hs, hd, hm, hR => by
    cases u with
    | run => simp [leaveF] at h
    | returning =>
      simp only [leaveF, Option.map_eq_some_iff, Prod.mk.injEq] at h
      obtain ⟨vs, hvs, rfl, rfl⟩ := h
      exact ⟨_, results_run r hvs, hR ρ w (St.refl r)⟩
    | panicking ch =>
      simp only [leaveF, Option.some.injEq, Prod.mk.injEq] at h
      obtain ⟨rfl, rfl⟩ := h
      exact hR ρ w (St.refl r) hm
  | d :: ds, u, H, w, ρ, out, H1, h, r, hs, hd, hm, hR => by
    have hne : ρ.mode u ≠ .run := by
      cases u with
      | run => simp [leaveF] at h
      | _ => simp [Ren.mode]
    refine ⟨hne, ?_⟩
    rcases hd d (List.mem_cons_self ..) with ⟨x, rfl, hx⟩ | ⟨f, cap, as, rfl, hcap, has⟩
    · have h' : (match (generalizing := false) H.get x with
          | some ⟨.deferred (some []), _, _⟩ => leaveF P rec fn a1 ds u (H.upd x (some ⟨.deferred none, false, ⟨[], 0⟩⟩))
          | _ => none) = some (out, H1) := by
        cases u with
        | run => simp [leaveF] at h
        | _ => simp only [leaveF] at h; exact h
      clear h
      split at h'
      · rename_i o v hg
        obtain ⟨o', hw, hf⟩ := r.obj _ _ hg
        simp only [Fits] at hf
        subst hf
        obtain ⟨k1, k2, k3⟩ := setObj_heap (w := w) (ρ.blk x) _ (.deferred none) hw
        have hst : St P ρ H w ρ (H.upd x (some ⟨.deferred none, false, ⟨[], 0⟩⟩)) { w with heap := w.heap.setIfInBounds (ρ.blk x) (.deferred none) } :=
          St.upd r (ne_none hg) (by simp [sco]) (by simp [Fits]) k1 k2 k3 rfl rfl rfl
        have ih := leaveF_run hrec hF hFr (n := n) (R := R) ds u _ _ ρ out H1 h' hst.rel hs (fun d hd' => hd d (List.mem_cons_of_mem _ hd')) hm (fun ρ1 w1 s => hR ρ1 w1 (hst.trans s))
        refine .inl ⟨ρ.blk x, _, rfl, ?_, ih⟩
        simp [Instr.takeDeferred, getObj, Sem.run, hw, run_setObj (P := P) (o' := .deferred none) hw (fun _ _ _ => by simp)]
      · cases h'
    · have h' : (if hasBody P f then
          match (generalizing := false) enterD P rec f (as.toList ++ cap.toList) u H with
          | some (.ok _, u1, H1) => leaveF P rec fn a1 ds (settle u1) H1
          | some (.error ch, u1, H1) => leaveF P rec fn a1 ds (raised u1 ch) H1
          | none => none
        else none) = some (out, H1) := by
        cases u with
        | run => simp [leaveF] at h
        | _ => simp only [leaveF] at h; exact h
      clear h
      split at h'
      · rename_i hb
        have hargs : ρ.valA as ++ ρ.valA cap = ((as.toList ++ cap.toList).map ρ.val).toArray := by
          rw [map_run, map_run]; simp
        refine .inr ⟨hF.deep, .func f, ρ.valA cap, f, ((as.toList ++ cap.toList).map ρ.val).toArray, rfl, ?_, fun g _ => hF.fn g, ?_⟩
        · simp only [Ren.dfr, Ren.fn, invoke, hargs]
          exact hasBody_run hb
        · split at h'
          · rename_i v u1 H2 hen
            refine enterD_run hrec r hen hm hF hFr ?_
            intro ρ1 w1 s hm1
            simp only
            rw [settle_mode, ← act_ext s.ext hs, show ds.map ρ.dfr = ds.map ρ1.dfr from List.map_congr_left fun d hd' => (dfr_ext s.ext (hd d (List.mem_cons_of_mem _ hd'))).symm]
            exact leaveF_run hrec hF hFr ds _ H2 w1 ρ1 out H1 h' s.rel (hs.mono s.le.next) (fun d hd' => (hd d (List.mem_cons_of_mem _ hd')).mono s.le.next) (scM_settle hm1) (fun ρ2 w2 s2 => hR ρ2 w2 (s.trans s2))
          · rename_i ch u1 H2 hen
            refine enterD_run hrec r hen hm hF hFr ?_
            intro ρ1 w1 s hm1 hch
            simp only
            rw [raised_mode, ← act_ext s.ext hs, show ds.map ρ.dfr = ds.map ρ1.dfr from List.map_congr_left fun d hd' => (dfr_ext s.ext (hd d (List.mem_cons_of_mem _ hd'))).symm]
            exact leaveF_run hrec hF hFr ds _ H2 w1 ρ1 out H1 h' s.rel (hs.mono s.le.next) (fun d hd' => (hd d (List.mem_cons_of_mem _ hd')).mono s.le.next) (scM_raised hm1 hch) (fun ρ2 w2 s2 => hR ρ2 w2 (s.trans s2))
          · cases h'
      · cases h'

/-- a call that comes to an outcome, whatever the world that the heap stands for -/
def CallS (P : Program) (f : FuncId) (args : List Value) (H : AHeap) (out : Out) (H1 : AHeap) : Prop :=
  ∀ (ρ : Ren) (w : World), Rel P ρ H w → scbL H.next args = true → ∀ (F : Fence) (n : Nat) (R : Ending → World → Prop), WideF F → OutR P ρ H w out H1 R → CallsIn F n P f (args.map ρ.val).toArray w R

theorem enter_core {rec : Rec} (hrec : Sound P rec) {f : FuncId} {args : List Value} {fn : Func} {c : Code} {e : Exit} {a1 : AAct} {H2 H1 : AHeap} {out : Out} (hfn : P.funcs[f]? = some fn) (hc : fn.body = some c) (hle : args.length ≤ fn.ntmps)
    (hr : Runs P none c ⟨{ RV.ofList args with n := fn.ntmps }, []⟩ H e a1 H2) (h : endF P rec fn (e, a1, H2) = some (out, H1)) : CallS P f args H out H1 := by
  intro ρ w r hsc F n R hF hR
  refine RCalls.plain (callsIn_of_wp_marks hfn hc (hF.plain.fn f) ?_ rfl)
  have hact : ({ tmps := (args.map ρ.val).toArray ++ Array.replicate (fn.ntmps - (args.map ρ.val).toArray.size) undef, defers := [] } : Act) = ρ.act ⟨{ RV.ofList args with n := fn.ntmps }, []⟩ := by
    rw [args_tmps ρ args fn.ntmps hle]; rfl
  rw [hact]
  refine hr ρ w F.plain n _ hF.plain rfl (fun l hl => by cases hl) r (scA_args hsc) ?_
  intro ρ1 w1 hst hsa hsx
  have key : ∀ (u : FrameMode), leaveF P rec fn a1 a1.defers u H2 = some (out, H1) → scM H2.next u → LeavesInM F.plain n P fn (ρ1.act a1).tmps R (ρ1.act a1).defers (ρ1.mode u) w1 :=
    fun u hl hu => leaveF_run hrec hF.plain rfl a1.defers u H2 w1 ρ1 out H1 hl hst.rel hsa hsa.2 hu (fun ρ2 w2 s2 => hR ρ2 w2 (hst.trans s2))
  cases e with
  | normal => exact key .returning h trivial
  | ret => exact key .returning h trivial
  | panic ch => exact key (.panicking ch) h hsx
  | exit id => simp [endF] at h
  | goto l => simp [endF] at h
  | outgrown => simp [endF] at h

theorem enterF_run {rec : Rec} (hrec : Sound P rec) (r : Rel P ρ H w) {f : FuncId} {args : List Value} {out : Out} {H1 : AHeap} (h : enterF P rec f args H = some (out, H1))
    {F : Fence} {n : Nat} {R : Ending → World → Prop} (hF : WideF F) (hR : OutR P ρ H w out H1 R) : CallsIn F n P f (args.map ρ.val).toArray w R := by
  simp only [enterF, Option.bind_eq_bind, Option.bind_eq_some_iff] at h
  obtain ⟨fn, hfn, c, hc, h⟩ := h
  split at h
  · rename_i hcond
    simp only [Bool.and_eq_true] at hcond
    obtain ⟨hsc, hle⟩ := hcond
    simp only [Option.bind_eq_some_iff] at h
    obtain ⟨⟨e, a1, H2⟩, hr, h⟩ := h
    exact enter_core hrec hfn hc (ble_le hle) (hrec.run none c _ H e a1 H2 hr) h ρ w r hsc F n R hF hR
  · cases h

theorem getLoop_get {l : Nat} {lp : Loop} {e : RV} (h : getLoop H l = some (lp, e)) : ∃ o, H.get l = some ⟨.loop lp, o, e⟩ := by
  unfold getLoop at h
  split at h
  · rename_i r o e' hg
    simp only [Option.some.injEq, Prod.mk.injEq] at h
    obtain ⟨rfl, rfl⟩ := h
    exact ⟨o, hg⟩
  · cases h

/-- a loop's record is turned -/
theorem setLoop_run (r : Rel P ρ H w) {l : Nat} {lp lp' : Loop} {e : RV} (h : getLoop H l = some (lp, e)) (hd : lp'.defers = lp.defers) :
    ∃ fn, (Instr.getLoop (ρ.blk l)).run P w = .ok { lp with fn := fn, tmps := ρ.tmps e, defers := ρ.blk lp.defers } w ∧
      ∃ w1, (setObj (ρ.blk l) (.loop { lp' with fn := fn, tmps := ρ.tmps e, defers := ρ.blk lp.defers })).run P w = .ok () w1 ∧ St P ρ H w ρ (setLoop H l lp' e) w1 := by
  obtain ⟨o, hg⟩ := getLoop_get h
  obtain ⟨fn, hw, hgl⟩ := run_getLoop r hg
  refine ⟨fn, hgl, _, run_setObj hw (fun _ _ _ => by simp), ?_⟩
  obtain ⟨k1, k2, k3⟩ := setObj_heap (w := w) (ρ.blk l) _ (.loop { lp' with fn := fn, tmps := ρ.tmps e, defers := ρ.blk lp.defers }) hw
  have hs := (r.dom _ _ hg).2
  simp only [sco] at hs
  refine St.upd r (ne_none hg) ?_ ?_ k1 k2 k3 rfl rfl rfl
  · simp only [sco, hd]; exact hs
  · simp only [Fits, hd]; exact ⟨fn, rfl⟩

theorem scE_iff {N : Nat} {e : RV} (h : scE N e = true) : ∀ i, i < e.n → scb N (e.get i) = true := by
  intro i hi
  refine scbL_iff.1 h _ ?_
  rw [RV.gets_eq]
  exact List.mem_map.2 ⟨i, List.mem_range.2 hi, by simp⟩

theorem St.below (r : Rel P ρ H w) {w1 : World} (h : RowKit.Below w.heap.size w w1) : St P ρ H w ρ H w1 := by
  refine ⟨Ext.refl _ _, Le.refl _, ⟨r.base, r.glob, r.inj, r.dom, fun n o ho => ?_⟩, h.os, h.tape, h.output, h.size, fun b hb _ => h.block b hb, fun n hn hg => absurd (r.lt hg) (by omega)⟩
  rw [h.block _ (r.blk_lt (ne_none ho))]
  exact r.obj n o ho

theorem map_af (ρ : Ren) : ∀ (l : List Value), (∀ x ∈ l, af x = true) → l.map ρ.val = l
  | [], _ => rfl
  | x :: l, h => by
    rw [List.map_cons, val_af ρ x (h x (List.mem_cons_self ..)), map_af ρ l (fun y hy => h y (List.mem_cons_of_mem _ hy))]

theorem callF_run {rec : Rec} (hrec : Sound P rec) (r : Rel P ρ H w) {f : FuncId} {args : List Value} {out : Out} {H1 : AHeap} (h : callF P rec f args H = some (out, H1))
    {F : Fence} {n : Nat} {R : Ending → World → Prop} (hF : WideF F) (hR : OutR P ρ H w out H1 R) : CallsIn F n P f (args.map ρ.val).toArray w R := by
  unfold callF at h
  split at h
  · rename_i v hk
    simp only [Option.some.injEq, Prod.mk.injEq] at h
    obtain ⟨rfl, rfl⟩ := h
    obtain ⟨h1, h2, h3⟩ := hrec.know f args v hk
    rw [map_af ρ args h1]
    refine (h3 F n w hF).mono ?_
    rintro e w1 ⟨rfl, hb⟩
    have := hR ρ w1 (St.below r hb)
    simp only [val_af ρ v h2] at this
    exact this
  · exact enterF_run hrec r h hF hR

/-- a round that comes to an outcome -/
def RoundS (P : Program) (rd : Round) (H : AHeap) (out : Out) (H1 : AHeap) : Prop :=
  ∀ (ρ : Ren) (w : World), Rel P ρ H w → rd.l < H.next → ∀ (F : Fence) (n : Nat) (f : FuncId) (R : Ending → World → Prop), WideF F → OutR P ρ H w out H1 R → RoundIn F n P (ρ.blk rd.l) f (ρ.tmps rd.env) rd.assign rd.body w R

theorem round_core {rd : Round} {a1 a2 : AAct} {H2 H3 : AHeap} {e2 : Exit} {lp lp2 : Loop} {le le2 : RV} {j : Option Code} (hsc : scE H.next rd.env = true) (hr : Runs P (some rd.l) rd.assign ⟨rd.env, []⟩ H .normal a1 H2)
    (hlp : getLoop H2 rd.l = some (lp, le)) (hready : lp.state = .ready) (hr2 : Runs P (some rd.l) rd.body a1 (setLoop H2 rd.l { lp with state := .busy } le) e2 a2 H3) (hj : jumpOf e2 = some j) (hlp2 : getLoop H3 rd.l = some (lp2, le2)) :
    RoundS P rd H (.ok (.bool j.isNone)) (setLoop H3 rd.l { lp2 with state := if j.isNone then .ready else .done, pending := j } le2) := by
  intro ρ w r hl F n f R hF hR
  refine roundIn_of_wpIn (hF.fn f) ?_
  have hact : ({ tmps := ρ.tmps rd.env, defers := [] } : Act) = ρ.act ⟨rd.env, []⟩ := rfl
  rw [hact]
  refine hr ρ w (F.inRound (ρ.blk rd.l)) n _ (hF.inRound _) rfl (fun l e => by cases e; exact hl) r ⟨scE_iff hsc, fun d hd => by cases hd⟩ ?_
  intro ρ1 w1 hst hsa hsx
  have hblk : ρ1.blk rd.l = ρ.blk rd.l := hst.ext.blk _ hl
  obtain ⟨fn, hgl, w2, hset, hst2⟩ := setLoop_run hst.rel (lp' := { lp with state := .busy }) hlp rfl
  rw [hblk] at hgl hset
  refine ⟨w2, ?_, ?_⟩
  · simp only [Instr.beginRound, Sem.run_bind, hgl, Result.andThen_ok]
    rw [show ({ ({ lp with fn := fn, tmps := ρ1.tmps le, defers := ρ1.blk lp.defers } : Loop) with state := .busy } : Loop) = { ({ lp with state := .busy } : Loop) with fn := fn, tmps := ρ1.tmps le, defers := ρ1.blk lp.defers } from rfl, hset]
    simp [hready]
  · have hn2 : (setLoop H2 rd.l { lp with state := .busy } le).next = H2.next := rfl
    have hl2 : rd.l < H2.next := Nat.lt_of_lt_of_le hl hst.le.next
    refine hr2 ρ1 w2 (F.inRound (ρ.blk rd.l)) n _ (hF.inRound _) (by simp [hblk]) (fun l e => by cases e; rw [hn2]; exact hl2) hst2.rel hsa ?_
    intro ρ2 w3 hst3 hsa3 hsx3
    have hblk2 : ρ2.blk rd.l = ρ.blk rd.l := (hst3.ext.blk _ (by rw [hn2]; exact hl2)).trans hblk
    obtain ⟨fn2, hgl2, w4, hset4, hst4⟩ := setLoop_run hst3.rel (lp' := { lp2 with state := if j.isNone then .ready else .done, pending := j }) hlp2 rfl
    rw [hblk2] at hgl2 hset4
    have hend : (Instr.endRound (ρ.blk rd.l) j).run P w3 = .ok (.bool j.isNone) w4 := by
      simp only [Instr.endRound, Sem.run_bind, hgl2, Result.andThen_ok]
      rw [show ({ ({ lp2 with fn := fn2, tmps := ρ2.tmps le2, defers := ρ2.blk lp2.defers } : Loop) with state := if j.isNone then .ready else .done, pending := j } : Loop) =
        { ({ lp2 with state := if j.isNone then .ready else .done, pending := j } : Loop) with fn := fn2, tmps := ρ2.tmps le2, defers := ρ2.blk lp2.defers } from rfl, hset4]
      simp
    have hfin := hR ρ2 w4 (((hst.trans hst2).trans hst3).trans hst4)
    simp only [Ren.val] at hfin
    cases e2 with
    | normal => simp only [jumpOf, Option.some.injEq] at hj; subst hj; exact ⟨_, _, hend, hfin⟩
    | ret => simp only [jumpOf, Option.some.injEq] at hj; subst hj; exact ⟨_, _, hend, hfin⟩
    | exit id => simp only [jumpOf, Option.some.injEq] at hj; subst hj; exact ⟨_, _, hend, hfin⟩
    | goto t => simp only [jumpOf, Option.some.injEq] at hj; subst hj; exact ⟨_, _, hend, hfin⟩
    | panic ch => simp [jumpOf] at hj
    | outgrown => simp [jumpOf] at hj

theorem roundF_runS {rec : Rec} (hrec : Sound P rec) {rd : Round} {out : Out} {H1 : AHeap} (h : roundF rec rd H = some (out, H1)) : RoundS P rd H out H1 := by
  unfold roundF at h
  split at h
  · rename_i hsc
    simp only [Option.bind_eq_bind, Option.bind_eq_some_iff] at h
    obtain ⟨⟨e, a1, H2⟩, hr, h⟩ := h
    cases e with
    | normal =>
      simp only [Option.bind_eq_some_iff] at h
      obtain ⟨⟨lp, le⟩, hlp, h⟩ := h
      simp only at h
      split at h
      · rename_i hready
        simp only [Option.bind_eq_some_iff] at h
        obtain ⟨⟨e2, a2, H3⟩, hr2, j, hj, ⟨lp2, le2⟩, hlp2, h⟩ := h
        simp only [Option.some.injEq, Prod.mk.injEq] at h
        obtain ⟨rfl, rfl⟩ := h
        exact round_core hsc (hrec.run _ _ _ _ _ _ _ hr) hlp hready (hrec.run _ _ _ _ _ _ _ hr2) hj hlp2
      · cases h
    | exit id => cases h
    | goto l => cases h
    | ret => cases h
    | panic ch => cases h
    | outgrown => cases h
  · cases h

theorem roundF_run {rec : Rec} (hrec : Sound P rec) (r : Rel P ρ H w) {rd : Round} {out : Out} {H1 : AHeap} (h : roundF rec rd H = some (out, H1)) (hl : rd.l < H.next)
    {F : Fence} {n : Nat} {f : FuncId} {R : Ending → World → Prop} (hF : WideF F) (hR : OutR P ρ H w out H1 R) : RoundIn F n P (ρ.blk rd.l) f (ρ.tmps rd.env) rd.assign rd.body w R :=
  roundF_runS hrec h ρ w r hl F n f R hF hR

end
end Go.Ax
