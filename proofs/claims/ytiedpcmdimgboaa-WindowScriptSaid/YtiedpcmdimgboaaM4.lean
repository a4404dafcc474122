/- Parts of the proof, one behind the other. -/
import Derived.Test.YtiedpcmdimgboaaM3
import Derived.Laws.StructEq
import Derived.Test.YtiedpcmdimgboaaProg
import Derived.KernelRfl
set_option linter.all false

/- Walks over abstract heaps: loops over functions; append. -/
namespace Go.Ax
section
variable {P : Program} {ro : Option Nat} {H : AHeap} {N : Nat} {E : Env} {ds : List Deferred} {L : List Bl}

def CallY (P : Program) (l : Nat) (args : List Value) (H : AHeap) (R : Out → AHeap → Prop) : Prop :=
  match aYield H l args with
  | some (.round rd) => RoundA P rd H R
  | _ => False

theorem w_callY {l : Nat} {x : Operand} {args : List Operand} {ts : Array TypeId} {dst : Option Nat} {ops : Array Oper} {rest : List Oper} {ty : TypeId} {pos : String} {after : Array Edge} {Q : Exit → AAct → AHeap → Prop} (hx : opOk N x = true) (hv : opv E x = .func (.yield l) ⟨[]⟩ ⟨[]⟩) (ha : args.all (opOk N) = true)
    (h : CallY P l (args.map (opv E)) H (opC P ro ops rest (mkA N E ds) dst Q)) :
    wpOps P ro ops (⟨dst, .call ⟨.value x, ⟨args⟩, ts⟩, ty, pos, after, none⟩ :: rest) (mkA N E ds) H Q := by
  rw [w_op rfl rfl]
  unfold CallY at h
  split at h
  · rename_i rd hy
    simp only [opA, aop, xCall, aevals_opv ha, aeval_opv hx, hv, Option.bind_eq_bind, Option.bind_some, callV, aInvoke, List.nil_append, hy, Option.map_some, nextA]
    exact h
  · exact h.elim

theorem CallY.mono {l : Nat} {args : List Value} {R R' : Out → AHeap → Prop} (h : CallY P l args H R) (hR : ∀ out H1, R out H1 → R' out H1) : CallY P l args H R' := by
  unfold CallY at *
  split at h
  · obtain ⟨out, H1, h1, h2⟩ := h
    exact ⟨out, H1, h1, hR _ _ h2⟩
  · exact h.elim

def LoopAt (H : AHeap) (l : Nat) (lp : Loop) (e : RV) : Prop := ∃ o, H.get l = some ⟨.loop lp, o, e⟩

theorem LoopAt.get {l : Nat} {lp : Loop} {e : RV} (h : LoopAt H l lp e) : getLoop H l = some (lp, e) := by
  obtain ⟨o, h⟩ := h
  simp only [getLoop, h]
theorem LoopAt.of {G : AHeap} {l : Nat} {lp : Loop} {e : RV} (h : LoopAt H l lp e) (hg : G.get l = H.get l) : LoopAt G l lp e := by
  obtain ⟨o, h⟩ := h
  exact ⟨o, hg.trans h⟩
theorem LoopAt.set (l : Nat) (lp : Loop) (e : RV) : LoopAt (setLoop H l lp e) l lp e := ⟨false, by rw [setLoop, AHeap.get_upd, if_pos rfl]⟩

theorem roundA_of (hmix : P.follows .mixedOrders = true) {rd : Round} {R : Out → AHeap → Prop}
    (h : wpA P (some rd.l) rd.assign (fun e a1 H2 => e = .normal ∧ ∃ lp le, getLoop H2 rd.l = some (lp, le) ∧ lp.state = .ready ∧
      wpA P (some rd.l) rd.body (fun e2 _ H3 => ∃ j lp2 le2, jumpOf e2 = some j ∧ getLoop H3 rd.l = some (lp2, le2) ∧ R (.ok (.bool j.isNone)) (setLoop H3 rd.l { lp2 with state := if j.isNone then .ready else .done, pending := j } le2)) a1 (setLoop H2 rd.l { lp with state := .busy } le)) ⟨rd.env, []⟩ H) : RoundA P rd H R := by
  obtain ⟨e, a1, H2, hr, rfl, lp, le, h1, h2, h3⟩ := wpA_sound hmix _ _ _ _ h
  obtain ⟨e2, a2, H3, hr2, j, lp2, le2, h4, h5, h6⟩ := wpA_sound hmix _ _ _ _ h3
  exact ⟨_, _, round_core hr h1 h2 hr2 h4 h5, h6⟩

def asgC (P : Program) (l : Nat) (body : Code) (R : Out → AHeap → Prop) : Exit → AAct → AHeap → Prop := fun e a1 H2 => e = .normal ∧ ∃ lp le, getLoop H2 l = some (lp, le) ∧ lp.state = .ready ∧
      wpA P (some l) body (fun e2 _ H3 => ∃ j lp2 le2, jumpOf e2 = some j ∧ getLoop H3 l = some (lp2, le2) ∧ R (.ok (.bool j.isNone)) (setLoop H3 l { lp2 with state := if j.isNone then .ready else .done, pending := j } le2)) a1 (setLoop H2 l { lp with state := .busy } le)
def rndC (l : Nat) (R : Out → AHeap → Prop) : Exit → AAct → AHeap → Prop := fun e2 _ H3 => ∃ j lp2 le2, jumpOf e2 = some j ∧ getLoop H3 l = some (lp2, le2) ∧ R (.ok (.bool j.isNone)) (setLoop H3 l { lp2 with state := if j.isNone then .ready else .done, pending := j } le2)
theorem asgC_normal {l : Nat} {body : Code} {R : Out → AHeap → Prop} {a : AAct} : asgC P l body R .normal a H = ∃ lp le, getLoop H l = some (lp, le) ∧ lp.state = .ready ∧ wpA P (some l) body (rndC l R) a (setLoop H l { lp with state := .busy } le) := by
  simp only [asgC, true_and]
  rfl
theorem rndC_normal {l : Nat} {R : Out → AHeap → Prop} {a : AAct} : rndC l R .normal a H = ∃ lp2 le2, getLoop H l = some (lp2, le2) ∧ R (.ok (.bool true)) (setLoop H l { lp2 with state := .ready, pending := none } le2) := by
  simp [rndC, jumpOf]
theorem rndC_ret {l : Nat} {R : Out → AHeap → Prop} {a : AAct} : rndC l R .ret a H = ∃ lp2 le2, getLoop H l = some (lp2, le2) ∧ R (.ok (.bool false)) (setLoop H l { lp2 with state := .done, pending := some .ret } le2) := by
  simp [rndC, jumpOf]
theorem rndC_exit {l id : Nat} {R : Out → AHeap → Prop} {a : AAct} : rndC l R (.exit id) a H = ∃ lp2 le2, getLoop H l = some (lp2, le2) ∧ R (.ok (.bool false)) (setLoop H l { lp2 with state := .done, pending := some (.exit id) } le2) := by
  simp [rndC, jumpOf]

theorem callY_of (hmix : P.follows .mixedOrders = true) {l d : Nat} {ps : List Tmp} {assign body : Code} {args : List Value} {E1 : Env} {R : Out → AHeap → Prop}
    (hl : LoopAt H l { state := .ready, pending := none, fn := 0, tmps := #[], params := ⟨ps⟩, assign, body, defers := d } (rvOf N E)) (hlen : args.length = ps.length) (hE : zipSet ps args (rvOf N E) = rvOf N E1)
    (h : wpA P (some l) assign (asgC P l body R) (mkA N E1 []) H) : CallY P l args H R := by
  obtain ⟨o, hl⟩ := hl
  unfold CallY aYield
  rw [hl]
  simp only [hlen, if_true]
  refine roundA_of hmix ?_
  rw [hE]
  exact h

theorem zip_one {t : Tmp} {v : Value} (h : t < N) : zipSet [t] [v] (rvOf N E) = rvOf N (upd E t v) := by
  have hb : Nat.blt t (rvOf N E).n = true := blt_of h
  simp only [zipSet, hb, if_true]
  exact rvOf_set N E t v h
theorem zip_two {t u : Tmp} {v w : Value} (h : t < N) (h2 : u < N) : zipSet [t, u] [v, w] (rvOf N E) = rvOf N (upd (upd E t v) u w) := by
  have hb : Nat.blt t (rvOf N E).n = true := blt_of h
  have hb2 : Nat.blt u (rvOf N (upd E t v)).n = true := blt_of h2
  simp only [zipSet, hb, if_true, rvOf_set N E t v h, hb2]
  exact rvOf_set N _ u w h2

theorem w_env {c : Code} {Q : Exit → AAct → AHeap → Prop} (h : ∀ E', E' = E → wpA P ro c Q (mkA N E' ds) H) : wpA P ro c Q (mkA N E ds) H := h E rfl

def joinC (N : Nat) (ds : List Deferred) (I : Env → AHeap → Prop) : Exit → AAct → AHeap → Prop
  | .normal, a, H => ∃ E, a = mkA N E ds ∧ I E H
  | _, _, _ => False
theorem joinC_normal {I : Env → AHeap → Prop} : joinC N ds I .normal (mkA N E ds) H = ∃ E', mkA N E ds = mkA N E' ds ∧ I E' H := by simp only [joinC]
theorem condC_join {x y z : Code} {Q : Exit → AAct → AHeap → Prop} {b : Bool} (I : Env → AHeap → Prop) (h1 : b = true → wpA P ro x (joinC N ds I) (mkA N E ds) H) (h2 : b = false → wpA P ro y (joinC N ds I) (mkA N E ds) H) (h3 : ∀ E H, I E H → wpA P ro z Q (mkA N E ds) H) : condC P ro x y (seqC P ro z Q) (mkA N E ds) H (.bool b) := by
  have key : ∀ e a H, joinC N ds I e a H → seqC P ro z Q e a H := by
    intro e a H h
    cases e with
    | normal =>
      obtain ⟨E', rfl, hI⟩ := h
      exact h3 E' H hI
    | _ => exact h.elim
  exact condC_split (fun hb => wpA_mono x _ H key (h1 hb)) (fun hb => wpA_mono y _ H key (h2 hb))

def loopH (H : AHeap) (N : Nat) (E : Env) (ds : List Deferred) (ps : List Tmp) (assign body : Code) : AHeap := (H.new ⟨.deferred (some []), false, ⟨[], 0⟩⟩).new (newLoop (mkA N E ds) ⟨ps⟩ assign body H.next)

theorem loopH_next {ps : List Tmp} {assign body : Code} : (loopH H N E ds ps assign body).next = H.next + 2 := rfl
theorem loopH_loop {ps : List Tmp} {assign body : Code} : LoopAt (loopH H N E ds ps assign body) (H.next + 1) { state := .ready, pending := none, fn := 0, tmps := #[], params := ⟨ps⟩, assign, body, defers := H.next } (rvOf N E) := by
  refine ⟨false, ?_⟩
  unfold loopH
  rw [AHeap.get_new, if_pos (show H.next + 1 = (H.new ⟨.deferred (some []), false, ⟨[], 0⟩⟩).next from rfl)]
  rfl
theorem loopH_dfr {ps : List Tmp} {assign body : Code} : (loopH H N E ds ps assign body).get H.next = some ⟨.deferred (some []), false, ⟨[], 0⟩⟩ := by
  unfold loopH
  rw [AHeap.get_new, if_neg (show H.next ≠ (H.new ⟨.deferred (some []), false, ⟨[], 0⟩⟩).next by simp only [AHeap.new]; omega), AHeap.get_new, if_pos rfl]
theorem loopH_mod {W : List Nat} {ps : List Tmp} {assign body : Code} (hok : H.base ≤ H.next) : Mod W H (loopH H N E ds ps assign body) :=
  (Mod.new hok).trans (Mod.new (show H.base ≤ H.next + 1 by omega))

def afterC (N : Nat) (E : Env) (ds : List Deferred) (l d : Nat) (Q : Exit → AAct → AHeap → Prop) : Out → AHeap → Prop := fun out H2 => match out with
  | .ok _ => ∃ lp le e, getLoop H2 l = some (lp, le) ∧ lp.state ≠ .busy ∧ pendE lp.pending = some e ∧ Q e (mkA N E ({ target := .collected d, args := #[] } :: ds)) (setLoop H2 l { lp with state := .exhausted } le)
  | .error ch => Q (.panic ch) (mkA N E ({ target := .collected d, args := #[] } :: ds)) H2

theorem w_range {t : Tmp} {ps : List Tmp} {assign body : Code} {f : FuncId} {ca : List Value} {Q : Exit → AAct → AHeap → Prop} (ht : t < N) (hv : E t = .func (.func f) ⟨[]⟩ ⟨ca⟩) (hb : hasBody P f = true)
    (h : CallA P f (.func (.yield (H.next + 1)) ⟨[]⟩ ⟨[]⟩ :: ca) (loopH H N E ds ps assign body) (afterC N E ds (H.next + 1) H.next Q)) : wpA P none (.rangeFunc (.tmp t) ⟨ps⟩ assign body) Q (mkA N E ds) H := by
  simp only [wpA, aeval_tmp N E ds t ht, hv, rangeA, enterLoop, aInvoke, enterN, hb, if_true, List.nil_append, List.cons_append]
  refine h.mono fun out H2 hq => ?_
  cases out with
  | ok v => exact hq
  | error ch => exact hq

theorem w_rangeK {t : Tmp} {ps : List Tmp} {assign body : Code} {f : FuncId} {ca : List Value} {Q : Exit → AAct → AHeap → Prop} (hok : H.base ≤ H.next) (ht : t < N) (hv : E t = .func (.func f) ⟨[]⟩ ⟨ca⟩) (hb : hasBody P f = true)
    (h : ∀ K, LoopAt K (H.next + 1) { state := .ready, pending := none, fn := 0, tmps := #[], params := ⟨ps⟩, assign, body, defers := H.next } (rvOf N E) → K.get H.next = some ⟨.deferred (some []), false, ⟨[], 0⟩⟩ → (∀ W, Mod W H K) → K.next = H.next + 2 →
      CallA P f (.func (.yield (H.next + 1)) ⟨[]⟩ ⟨[]⟩ :: ca) K (afterC N E ds (H.next + 1) H.next Q)) : wpA P none (.rangeFunc (.tmp t) ⟨ps⟩ assign body) Q (mkA N E ds) H :=
  w_range ht hv hb (h _ loopH_loop loopH_dfr (fun _ => loopH_mod hok) loopH_next)

theorem lv_mark {fn : Func} {a : AAct} {R : Out → AHeap → Prop} {d : Nat} {ds : List Deferred} (h : ∃ o v, H.get d = some ⟨.deferred (some []), o, v⟩) (hR : leaveA P fn a ds .returning (H.upd d (some ⟨.deferred none, false, ⟨[], 0⟩⟩)) R) :
    leaveA P fn a ({ target := .collected d, args := #[] } :: ds) .returning H R := ⟨h, hR⟩

theorem w_func {f : FuncId} {first captured : List Operand} {ops : Array Oper} {rest : List Oper} {d : Nat} {ty : TypeId} {pos : String} {after : Array Edge} {Q : Exit → AAct → AHeap → Prop} (h1 : first.all (opOk N) = true) (h2 : captured.all (opOk N) = true) (hd : d < N) :
    wpOps P ro ops (⟨some d, .makeFunc (.func f) ⟨first⟩ ⟨captured⟩, ty, pos, after, none⟩ :: rest) (mkA N E ds) H Q = wpOps P ro ops rest (mkA N (upd E d (.func (.func f) ⟨first.map (opv E)⟩ ⟨captured.map (opv E)⟩)) ds) H Q := by
  rw [w_op rfl rfl]
  simp only [opA, aop, xFunc, aevals_opv h1, aevals_opv h2, Option.bind_eq_bind, Option.bind_some, funcV, nextA, opC, put_some N E ds d _ hd]

theorem ok_nilfunc : opOk N (.const .nilFunc) = true := by simp only [opOk, af]

theorem all_sub {l : List Value} (h : l.all one = true) (a b : Nat) : ((l.drop a).take b).all one = true := by
  rw [List.all_eq_true] at h ⊢
  exact fun x hx => h x (List.mem_of_mem_drop (List.mem_of_mem_take hx))

theorem first_bk {sz cnt n off len cap : Nat} {s : Option Nat} {b : Bl} (h : bk H n = some b) (hle : off + cnt * sz ≤ b.l.length) : firstC H sz cnt (.slice (some ⟨n, off, s⟩) len cap) = some ((b.l.drop off).take (cnt * sz)) := by
  obtain ⟨rv, h1, h2, h3⟩ := bk_blk h
  simp only [firstC, h1, Option.bind_eq_bind, Option.bind_some]
  rw [if_pos (by rw [Nat.ble_eq]; omega), Blk.gets h2 h3 _ _ hle]

theorem app_nil {st xt e : TypeId} {sz by1 n off cnt cap : Nat} {s : Option Nat} {z : Value} {b : Bl} (hu : P.underlying st = some (.slice e)) (hsz : szOf P e = some sz) (hby : bytesOf P e = some by1) (hz : zeroOf P e = some z) (hzl : z.cells.toList.length = sz) (hi : intTy P xt = some false)
    (hb : bk H n = some b) (hle : off + cnt * sz ≤ b.l.length) (hone : b.l.all one = true) (hc : 0 < cnt) (hsm : small cnt by1 = true) :
    aBuiltin P H .append ⟨[st, xt]⟩ [.slice none 0 0, .slice (some ⟨n, off, s⟩) cnt cap] = (aNew H e ((b.l.drop off).take (cnt * sz)) true).map fun g => (.slice (some ⟨H.next, 0, none⟩) cnt cnt, g) := by
  have hl : ((b.l.drop off).take (cnt * sz)).length = cnt * sz := by simp; omega
  simp only [aBuiltin, aAppend, hu, hsz, hby, hz, hi, Option.bind_eq_bind, Option.bind_some, lenV, first_bk hb hle, hl, hzl, Nat.zero_add, hsm, and_self, if_true, aAppend2]
  rw [if_neg (by omega)]
  simp only [firstC, Option.bind_some, List.length_nil, Nat.zero_mul, List.all_nil, all_sub hone, decide_true, Bool.and_self, if_true, List.nil_append]
  cases aNew H e ((b.l.drop off).take (cnt * sz)) true <;> rfl

theorem app_open {st xt e : TypeId} {sz by1 m k n off cnt cap : Nat} {s : Option Nat} {z : Value} {b : Bl} {old : List Value} (hu : P.underlying st = some (.slice e)) (hsz : szOf P e = some sz) (hby : bytesOf P e = some by1) (hz : zeroOf P e = some z) (hzl : z.cells.toList.length = sz) (hi : intTy P xt = some false)
    (hm : bk H m = some ⟨e, true, old⟩) (ho : old.length = k * sz) (hoo : old.all one = true)
    (hb : bk H n = some b) (hle : off + cnt * sz ≤ b.l.length) (hone : b.l.all one = true) (hc : 0 < cnt) (hsm : small (k + cnt) by1 = true) :
    aBuiltin P H .append ⟨[st, xt]⟩ [.slice (some ⟨m, 0, none⟩) k k, .slice (some ⟨n, off, s⟩) cnt cap] = (aNew (H.upd m none) e (old ++ (b.l.drop off).take (cnt * sz)) true).map fun g => (.slice (some ⟨H.next, 0, none⟩) (k + cnt) (k + cnt), g) := by
  have hl : ((b.l.drop off).take (cnt * sz)).length = cnt * sz := by simp; omega
  obtain ⟨rv, h1, h2, h3⟩ := bk_blk hm
  have hop : isOpen H m = some true := by
    unfold cellsAt at h1
    unfold isOpen
    split at h1
    · cases h1
      rfl
    · cases h1
  simp only at h1 h2 h3
  have hf := first_bk (sz := sz) (cnt := k) (off := 0) (len := k) (cap := k) (s := none) hm (by simp only; omega)
  simp only [List.drop_zero] at hf
  rw [List.take_of_length_le (by omega)] at hf
  simp only [aBuiltin, aAppend, hu, hsz, hby, hz, hi, Option.bind_eq_bind, Option.bind_some, lenV, first_bk hb hle, hl, hzl, hsm, and_self, if_true, aAppend2]
  rw [if_neg (by omega)]
  simp only [hf, Option.bind_some, ho, hoo, all_sub hone, decide_true, Bool.and_self, if_true, exactAt, hop, Option.map_some, Bool.not_true, h1]
  rw [if_pos ⟨trivial, by rw [Nat.ble_eq]; omega⟩]
  cases aNew (H.upd m none) e (old ++ (b.l.drop off).take (cnt * sz)) true <;> rfl

theorem app_exact {st xt e : TypeId} {sz by1 m k n off cnt cap : Nat} {s : Option Nat} {z : Value} {b bm : Bl} (hu : P.underlying st = some (.slice e)) (hsz : szOf P e = some sz) (hby : bytesOf P e = some by1) (hz : zeroOf P e = some z) (hzl : z.cells.toList.length = sz) (hi : intTy P xt = some false)
    (hm : bk H m = some bm) (ho : k * sz ≤ bm.l.length) (hoo : bm.l.all one = true)
    (hb : bk H n = some b) (hle : off + cnt * sz ≤ b.l.length) (hone : b.l.all one = true) (hc : 0 < cnt) (hsm : small (k + cnt) by1 = true) :
    aBuiltin P H .append ⟨[st, xt]⟩ [.slice (some ⟨m, 0, some 0⟩) k k, .slice (some ⟨n, off, s⟩) cnt cap] = (aNew H e (bm.l.take (k * sz) ++ (b.l.drop off).take (cnt * sz)) true).map fun g => (.slice (some ⟨H.next, 0, none⟩) (k + cnt) (k + cnt), g) := by
  have hl : ((b.l.drop off).take (cnt * sz)).length = cnt * sz := by simp; omega
  have hl2 : (bm.l.take (k * sz)).length = k * sz := by simp; omega
  have hf := first_bk (sz := sz) (cnt := k) (off := 0) (len := k) (cap := k) (s := some 0) hm (by omega)
  simp only [List.drop_zero] at hf
  have hoo2 := all_sub hoo 0 (k * sz)
  simp only [List.drop_zero] at hoo2
  simp only [aBuiltin, aAppend, hu, hsz, hby, hz, hi, Option.bind_eq_bind, Option.bind_some, lenV, first_bk hb hle, hl, hzl, hsm, and_self, if_true, aAppend2]
  rw [if_neg (by omega)]
  simp only [hf, Option.bind_some, hl2, hoo2, all_sub hone, decide_true, Bool.and_self, if_true, exactAt]
  cases aNew H e (bm.l.take (k * sz) ++ (b.l.drop off).take (cnt * sz)) true <;> rfl

def dp (H : AHeap) (m : Nat) : AHeap := H.upd m none
theorem dp_next {m : Nat} : (dp H m).next = H.next := rfl
theorem dp_base {m : Nat} : (dp H m).base = H.base := rfl
theorem dp_get {m n : Nat} (h : n ≠ m) : (dp H m).get n = H.get n := by rw [dp, AHeap.get_upd, if_neg h]
theorem bk_dp {m n : Nat} (h : n ≠ m) : bk (dp H m) n = bk H n := bk_get (dp_get h)
theorem ext_dp {m : Nat} (h : m < H.next) : (ext H L).upd m none = ext (dp H m) L := ext_upd_old h
theorem ext_setLoop {l : Nat} {lp : Loop} {e : RV} (h : l < H.next) : setLoop (ext H L) l lp e = ext (setLoop H l lp e) L := ext_upd_old h
theorem setLoop_next {l : Nat} {lp : Loop} {e : RV} : (setLoop H l lp e).next = H.next := rfl
theorem setLoop_base {l : Nat} {lp : Loop} {e : RV} : (setLoop H l lp e).base = H.base := rfl
theorem setLoop_get {l n : Nat} {lp : Loop} {e : RV} (h : n ≠ l) : (setLoop H l lp e).get n = H.get n := by rw [setLoop, AHeap.get_upd, if_neg h]
theorem bk_setLoop {l n : Nat} {lp : Loop} {e : RV} (h : n ≠ l) : bk (setLoop H l lp e) n = bk H n := bk_get (setLoop_get h)


def rangeOf : Code → Option (Code × Code)
  | .seq x y => (match rangeOf x with
    | some r => some r
    | none => rangeOf y)
  | .cond _ x y => (match rangeOf x with
    | some r => some r
    | none => rangeOf y)
  | .block _ b => rangeOf b
  | .scope b => rangeOf b
  | .loop b => rangeOf b
  | .rangeFunc _ _ a b => some (a, b)
  | _ => none

structure Yld (P : Program) (l : Nat) (α : Type) (enc : α → List Value) (go : α → Bool) (cap : Nat) where
  Inv : List α → List Nat → List Nat → AHeap → Prop
  sub : ∀ {rs F W G}, Inv rs F W G → ∀ n ∈ W, n ∈ F
  dom : ∀ {rs F W G}, Inv rs F W G → ∀ n ∈ F, G.get n ≠ none ∧ n < G.next
  loc : ∀ {rs F W G G'}, Inv rs F W G → G.next ≤ G'.next → (∀ n ∈ F, G'.get n = G.get n) → Inv rs F W G'
  step : ∀ {rs F W G r}, Inv rs F W G → (∀ x ∈ rs, go x = true) → rs.length < cap → G.base ≤ G.next → CallY P l (enc r) G (fun out G' => out = .ok (.bool (go r)) ∧ ∃ F' W', Inv (rs ++ [r]) F' W' G' ∧ Mod W G G' ∧ (∀ n ∈ F', n ∈ F ∨ G.next ≤ n) ∧ (∀ n ∈ W', n ∈ W ∨ G.next ≤ n))

def upto {α : Type} (go : α → Bool) : List α → List α
  | [] => []
  | x :: r => if go x then x :: upto go r else [x]

theorem upto_all {α : Type} {go : α → Bool} : ∀ {l : List α}, l.all go = true → upto go l = l
  | [], _ => rfl
  | x :: r, h => by
    simp only [List.all_cons, Bool.and_eq_true] at h
    simp only [upto, h.1, if_true, upto_all h.2]
theorem upto_append {α : Type} {go : α → Bool} : ∀ {l m : List α}, l.all go = true → upto go (l ++ m) = l ++ upto go m
  | [], _, _ => rfl
  | x :: r, m, h => by
    simp only [List.all_cons, Bool.and_eq_true] at h
    simp only [List.cons_append, upto, h.1, if_true, upto_append h.2]
theorem upto_stop {α : Type} {go : α → Bool} : ∀ {l m : List α}, l.all go = false → upto go (l ++ m) = upto go l
  | [], _, h => by cases h
  | x :: r, m, h => by
    simp only [List.all_cons, Bool.and_eq_false_iff] at h
    simp only [List.cons_append, upto]
    by_cases hx : go x = true
    · simp only [hx, if_true]
      rw [upto_stop (h.elim (fun h => by rw [hx] at h; cases h) id)]
    · simp [hx]

theorem le_new {b i k : Nat} : (b + i ≤ b + k) = (i ≤ k) := by simp
theorem idsB_some {x : Bl} : (match (some x : Option Bl) with
    | some x => idsL x.l
    | none => []) = idsL x.l := rfl
def idsB : Option Bl → List Nat
  | some x => idsL x.l
  | none => []
theorem idsB_eq {e : TypeId} {o : Bool} {l : List Value} : idsB (some ⟨e, o, l⟩) = idsL l := by simp only [idsB]
theorem ids_at {b i : Nat} (h : H.next = b) (hi : i < L.length) : idsAt (ext H L) (b + i) = idsB L[i]? := by
  rw [ids_new h hi]
  cases L[i]? <;> rfl

def lenS (n : Nat) : Option TypeDesc → Option Value
  | some (.slice _) => some (goInt n)
  | some (.array m _) => some (goInt m)
  | _ => none
def lenR (n : Nat) : Option TypeDesc → Option Value
  | some (.slice _) => some (goInt n)
  | _ => none
theorem lenS_slice {n : Nat} {e : TypeId} : lenS n (some (.slice e)) = some (goInt n) := by simp only [lenS]
theorem lenR_slice {n : Nat} {e : TypeId} : lenR n (some (.slice e)) = some (goInt n) := by simp only [lenR]
theorem bt_lenS {t : TypeId} {x : Option Addr} {n c : Nat} : aBuiltin P H .len ⟨[t]⟩ [.slice x n c] = (lenS n (P.underlying t)).map fun v => (v, H) := by
  simp only [aBuiltin, aLen]
  cases P.underlying t with
  | none => rfl
  | some d => cases d <;> rfl
theorem rb_lenS {t : TypeId} {x : Option Addr} {n c : Nat} : regBt P .len ⟨[t]⟩ [.slice x n c] = lenR n (P.underlying t) := by
  simp only [regBt]
  cases P.underlying t with
  | none => rfl
  | some d => cases d <;> rfl
theorem go_int {n : Int} : goInt n = .int .i64 n := by simp only [goInt]
theorem ia_slice {t e : TypeId} {sz n off len cap : Nat} {s : Option Nat} {k : IntKind} {i : Int} (hu : P.underlying t = some (.slice e)) (hsz : szOf P e = some sz) (h0 : 0 ≤ i) (h1 : i < len) : aIndexAddr P t (.slice (some ⟨n, off, s⟩) len cap) (.int k i) = some (.pointer (some ⟨n, off + i.toNat * sz, none⟩)) := by
  simp only [aIndexAddr, hu, hsz, Option.bind_eq_bind, Option.bind_some, h0, h1, and_self, if_true]
theorem idsOk_new {anc j lo hi : Nat} {F W O : List Nat} {fps : List Fp} : IdsOk anc (⟨j, F, W, lo, hi⟩ :: fps) O = ((lo < hi → anc.testBit j = true ∨ ∀ n ∈ O, n < lo ∨ hi ≤ n) ∧ IdsOk anc fps O) := by simp [IdsOk]
theorem idsOk_anc {anc j lo hi : Nat} {F W O : List Nat} {fps : List Fp} (h : anc.testBit j = true) : IdsOk anc (⟨j, F, W, lo, hi⟩ :: fps) O = IdsOk anc fps O := by simp [IdsOk, h]
theorem meets_bit {anc j lo hi : Nat} {F W F' W' O : List Nat} (h : anc.testBit j = true) : Meets anc F W O ⟨j, F', W', lo, hi⟩ = True := by simp [Meets, h]
theorem meets_anc {anc j lo hi : Nat} {F W F' W' O : List Nat} {fps : List Fp} (h : anc.testBit j = true) : (∀ r ∈ (⟨j, F', W', lo, hi⟩ : Fp) :: fps, Meets anc F W O r) = ∀ r ∈ fps, Meets anc F W O r := by simp [Meets, h]

end
end Go.Ax

/- Walks over abstract heaps: pointers compared. -/
namespace Go.Ax
section
variable {P : Program} {ro : Option Nat} {H : AHeap} {N : Nat} {E : Env} {ds : List Deferred} {L : List Bl}

theorem isOpen_bk {n : Nat} {b : Bl} (h : bk H n = some b) : isOpen H n = some b.o := by
  unfold bk at h
  cases hc : cellsAt H n with
  | none => rw [hc] at h; cases h
  | some x =>
    rw [hc] at h
    obtain ⟨rv, e, o⟩ := x
    cases h
    unfold cellsAt at hc
    unfold isOpen
    split at hc
    · cases hc; rfl
    · cases hc

def ptrTy (P : Program) (t : TypeId) : Bool :=
  match P.underlying t with
  | some (.pointer e) => (match szOf P e with
    | some (_ + 1) => true
    | _ => false)
  | _ => false

theorem aBin_ptr {op : BinOp} {t : TypeId} {a b : Addr} {b1 b2 : Bl} (ht : ptrTy P t = true) (h1 : bk H a.block = some b1) (h2 : bk H b.block = some b2) (o1 : b1.o = false) (o2 : b2.o = false) : aBin P H op t (.pointer (some a)) (.pointer (some b)) = eqOp op (a == b) := by
  unfold ptrTy at ht
  split at ht
  · rename_i e hu
    split at ht
    · rename_i k hs
      have i1 := isOpen_bk h1
      have i2 := isOpen_bk h2
      rw [o1] at i1
      rw [o2] at i2
      simp only [aBin, aBinAddr, aEq, hu, hs, i1, i2, Option.bind_some]
    · cases ht
  · cases ht

theorem addr_beq {n o m o' : Nat} : ((⟨n, o, none⟩ : Addr) == ⟨m, o', none⟩) = decide (n = m ∧ o = o') := by
  have : ((⟨n, o, none⟩ : Addr) == ⟨m, o', none⟩) = decide ((⟨n, o, none⟩ : Addr) = ⟨m, o', none⟩) := by
    first
      | rfl
      | (by_cases h : (⟨n, o, none⟩ : Addr) = ⟨m, o', none⟩
         · rw [h]; simp
         · simp [h])
  rw [this]
  simp

section
variable {ops : Array Oper} {anc : List Nat} {d : Nat} {ty : TypeId} {pos : String} {after : Array Edge} {rest : List Oper} {i : Nat} {fps : List Fp} {Q : AAct → AHeap → Prop}

theorem wd_ptr {op : BinOp} {t u : TypeId} {x y : Operand} {a b : Addr} {b1 b2 : Bl} {r : Bool} (hop : eqOp op (a == b) = some (.bool r)) (hx : opOk N x = true) (hy : opOk N y = true) (hd : d < N) (ht : ptrTy P t = true) (ha : opv E x = .pointer (some a)) (hb : opv E y = .pointer (some b)) (h1 : bk H a.block = some b1) (h2 : bk H b.block = some b2) (o1 : b1.o = false) (o2 : b2.o = false)
    (hm : ∀ r ∈ fps, Meets (anc.getD i 0) [a.block, b.block] [] [] r) (h : wkD P ops anc rest (i + 1) (⟨i, [a.block, b.block], [], H.next, H.next⟩ :: fps) (mkA N (upd E d (.bool r)) ds) H Q) :
    wkD P ops anc (⟨some d, .binOp op t x y u, ty, pos, after, none⟩ :: rest) i fps (mkA N E ds) H Q := by
  simp only [wkD, wantA, stepD, pureOp, binD, aeval_opv hx, aeval_opv hy, ha, hb, regBin]
  have hn := restrict_next H [a.block, b.block]
  have g1 : bk (H.restrict [a.block, b.block]) a.block = some b1 := (bk_get (by rw [restrict_get, if_pos (by simp)])).trans h1
  have g2 : bk (H.restrict [a.block, b.block]) b.block = some b2 := (bk_get (by rw [restrict_get, if_pos (by simp)])).trans h2
  refine ⟨[a.block, b.block], .bool r, H.restrict [a.block, b.block], ?_, ?_, (by rw [hn.2.2]; simp), fun r hr => fpOk_of ?_, ?_⟩
  · refine opS_of (x := .value (.bool r)) (g := H.restrict [a.block, b.block]) ?_ ⟨rfl, rfl⟩
    simp only [aop, xBin, aeval_opv hx, aeval_opv hy, ha, hb, Option.bind_eq_bind, Option.bind_some, binV, aBin_ptr ht g1 g2 o1 o2, hop]
  · intro n hn
    simp only [List.mem_cons, List.not_mem_nil, or_false] at hn
    rcases hn with rfl | rfl
    · exact bk_ne h1
    · exact bk_ne h2
  · simp only [outIds, hn.2.2, hn.1, Nat.sub_self, rangeFrom, List.append_nil, List.flatMap_nil, idsV]
    exact hm r hr
  · rw [merge_self, hn.2.2, hn.1]
    simp only [put_some N E ds d _ hd]
    exact h
end
end
end Go.Ax

/- Walks over abstract heaps: where ways meet again, some of which may have left the function. -/
namespace Go.Ax
section
variable {P : Program} {ro : Option Nat} {H : AHeap} {N : Nat} {E : Env} {ds : List Deferred} {L : List Bl}

def joinR (N : Nat) (ds : List Deferred) (J : Env → AHeap → Prop) (Q : Exit → AAct → AHeap → Prop) : Exit → AAct → AHeap → Prop
  | .normal, a, H => ∃ E, a = mkA N E ds ∧ J E H
  | e, a, H => Q e a H
theorem joinR_normal {J : Env → AHeap → Prop} {Q : Exit → AAct → AHeap → Prop} (h : J E H) : joinR N ds J Q .normal (mkA N E ds) H := ⟨E, rfl, h⟩
theorem joinR_ret {J : Env → AHeap → Prop} {Q : Exit → AAct → AHeap → Prop} {a : AAct} : joinR N ds J Q .ret a H = Q .ret a H := Eq.trans rfl rfl
theorem joinR_exit {J : Env → AHeap → Prop} {Q : Exit → AAct → AHeap → Prop} {a : AAct} {id : Nat} : joinR N ds J Q (.exit id) a H = Q (.exit id) a H := Eq.trans rfl rfl

theorem joinR_seq {J : Env → AHeap → Prop} {Q : Exit → AAct → AHeap → Prop} {z : Code} (h3 : ∀ E H, J E H → wpA P ro z Q (mkA N E ds) H) : ∀ e a H, joinR N ds J Q e a H → seqC P ro z Q e a H := by
  intro e a H h
  cases e with
  | normal =>
    obtain ⟨E', rfl, hI⟩ := h
    exact h3 E' H hI
  | _ => exact h

theorem condC_meet {x y z : Code} {Q : Exit → AAct → AHeap → Prop} {v : Value} (J : Env → AHeap → Prop) (h1 : condC P ro x y (joinR N ds J Q) (mkA N E ds) H v) (h3 : ∀ E H, J E H → wpA P ro z Q (mkA N E ds) H) : condC P ro x y (seqC P ro z Q) (mkA N E ds) H v := by
  cases v with
  | bool b =>
    cases b with
    | true => rw [condC_true] at h1 ⊢; exact wpA_mono x _ H (joinR_seq h3) h1
    | false => rw [condC_false] at h1 ⊢; exact wpA_mono y _ H (joinR_seq h3) h1
  | _ => exact h1

theorem blockC_meet {c z : Code} {id : Nat} {Q : Exit → AAct → AHeap → Prop} (J : Env → AHeap → Prop) (h1 : wpA P ro c (blockC id (joinR N ds J Q)) (mkA N E ds) H) (h3 : ∀ E H, J E H → wpA P ro z Q (mkA N E ds) H) : wpA P ro c (blockC id (seqC P ro z Q)) (mkA N E ds) H := by
  refine wpA_mono c _ H (fun e a H h => ?_) h1
  exact joinR_seq h3 _ _ _ h

theorem w_meet {c z : Code} {Q : Exit → AAct → AHeap → Prop} (J : Env → AHeap → Prop) (h1 : wpA P ro c (joinR N ds J Q) (mkA N E ds) H) (h3 : ∀ E H, J E H → wpA P ro z Q (mkA N E ds) H) : wpA P ro c (seqC P ro z Q) (mkA N E ds) H :=
  wpA_mono c _ H (joinR_seq h3) h1

theorem loopC_next {K : Env → AHeap → Prop} {Q : Exit → AAct → AHeap → Prop} (h : K E H) : loopC N ds K Q .normal (mkA N E ds) H := by
  rw [loopC_normal]
  exact ⟨E, rfl, h⟩

theorem putL_same : ∀ (l : List Value) (o : Nat) (v : Value), l[o]? = some v → putL l o [v] = l
  | [], o, v, h => by simp at h
  | x :: r, 0, v, h => by
    simp only [List.getElem?_cons_zero, Option.some.injEq] at h
    subst h
    cases r <;> rfl
  | x :: r, o + 1, v, h => by
    simp only [putL, putL_same r o v (by simpa using h)]
end
end Go.Ax

/- Walks over abstract heaps: structs compared, whose parts are numbers, truth values and strings. -/
namespace Go.Ax
section
variable {P : Program}

theorem peval_bind {α β : Type} (s : Sem α) (f : α → Sem β) : peval P (s >>= f) = (peval P s).bind fun a => peval P (f a) := by
  show peval P (Sem.bind s f) = _
  induction s with
  | pure x => rfl
  | program k ih => simp only [Sem.bind, peval]; exact ih P
  | mark m k ih => simp only [Sem.bind, peval]; exact ih
  | load | store | new | shape | freeze | frozen | getObj | setObj | choose | sys | halt => simp [Sem.bind, peval]

theorem peval_pure {α : Type} (a : α) : peval P (pure a : Sem α) = some a := rfl
theorem peval_program : peval P Go.program = some P := rfl

theorem peval_und {t : TypeId} {d : TypeDesc} (h : P.underlying t = some d) : peval P (underlying t) = some d := by
  simp only [underlying, peval_bind, peval_program, Option.bind_some, h, peval_pure]

theorem peval_agg {t : TypeId} {b : Bool} (h : aggT P t = some b) : peval P (isAgg t) = some b := by
  unfold aggT at h
  cases e : P.underlying t with
  | none => rw [e] at h; cases h
  | some d =>
    rw [e] at h
    simp only [isAgg, peval_bind, peval_und e, Option.bind_some]
    cases d <;> simp only [peval_pure] <;> simpa using h

theorem peval_size {t : TypeId} {n : Nat} (h : szOf P t = some n) : peval P (sizeOf t) = some n := by
  unfold szOf at h
  cases e : P.info? t with
  | none => rw [e] at h; cases h
  | some i =>
    rw [e] at h
    simp only [sizeOf, typeInfo, peval_bind, peval_program, Option.bind_some, e, peval_pure]
    simpa using h

def fit1 (P : Program) (t : TypeId) (v : Value) : Bool :=
  match P.underlying t, v with
  | some .bool, .bool _ => true
  | some (.int k), .int k' _ => k == k'
  | some .string, .string _ => true
  | _, _ => false
def fits (P : Program) : List TypeId → List Value → Bool
  | [], [] => true
  | t :: ts, v :: vs => fit1 P t v && fits P ts vs
  | _, _ => false
def eq1 : Value → Value → Bool
  | .bool a, .bool b => a == b
  | .int _ a, .int _ b => a == b
  | .string a, .string b => a == b
  | _, _ => false
def eqL : List Value → List Value → Bool
  | [], [] => true
  | x :: xs, y :: ys => eq1 x y && eqL xs ys
  | _, _ => false

def flatF (P : Program) (fl : TypeId → Option (List TypeId)) : List Field → Nat → Option (List TypeId)
  | [], _ => some []
  | f :: fs, o =>
    if f.name ≠ "_" ∧ f.offset = o then
      (match fl f.type with
      | some a => if szOf P f.type = some a.length then (match flatF P fl fs (o + a.length) with
        | some b => some (a ++ b)
        | none => none) else none
      | none => none)
    else none
def flat (P : Program) : Nat → TypeId → Option (List TypeId)
  | 0, _ => none
  | d + 1, t =>
    match P.underlying t with
    | some .bool => some [t]
    | some (.int _) => some [t]
    | some .string => some [t]
    | some (.struct fs) => if P.stoodInHeld t then none else flatF P (flat P d) fs.toList 0
    | _ => none

theorem peval_eq1 {d : Nat} {t : TypeId} {x y : Value} (hx : fit1 P t x = true) (hy : fit1 P t y = true) : peval P (Op.equalIn (d + 1) t x y) = some (eq1 x y) := by
  unfold fit1 at hx hy
  split at hx
  · rename_i a e
    rw [e] at hy
    cases y <;> simp only [Bool.false_eq_true] at hy
    simp only [Op.equalIn, peval_bind, peval_und e, Option.bind_some, peval_pure, eq1]
  · rename_i k k1 a e
    rw [e] at hy
    cases y <;> simp only [Bool.false_eq_true] at hy
    simp only [Op.equalIn, peval_bind, peval_und e, Option.bind_some, peval_pure, eq1]
    rw [if_pos ((eq_of_beq hx).symm.trans (eq_of_beq hy))]
    rfl
  · rename_i a e
    rw [e] at hy
    cases y <;> simp only [Bool.false_eq_true] at hy
    simp only [Op.equalIn, peval_bind, peval_und e, Option.bind_some, peval_pure, eq1]
  · cases hx

theorem fits_split : ∀ {ts us : List TypeId} {vs : List Value}, fits P (ts ++ us) vs = true → fits P ts (vs.take ts.length) = true ∧ fits P us (vs.drop ts.length) = true ∧ ts.length ≤ vs.length
  | [], us, vs, h => by simpa [fits] using h
  | t :: ts, us, [], h => by simp [fits] at h
  | t :: ts, us, v :: vs, h => by
    simp only [List.cons_append, fits, Bool.and_eq_true] at h
    have := fits_split h.2
    simp only [List.length_cons, List.take_succ_cons, List.drop_succ_cons, fits, h.1, this.1, this.2.1, Bool.and_self, true_and]
    omega
theorem eqL_split : ∀ {n : Nat} {xs ys : List Value}, n ≤ xs.length → n ≤ ys.length → eqL xs ys = (eqL (xs.take n) (ys.take n) && eqL (xs.drop n) (ys.drop n))
  | 0, xs, ys, _, _ => by simp [eqL]
  | n + 1, [], _, h, _ => by simp at h
  | n + 1, _ :: _, [], _, h => by simp at h
  | n + 1, x :: xs, y :: ys, h1, h2 => by
    simp only [List.length_cons, Nat.add_le_add_iff_right] at h1 h2
    simp only [List.take_succ_cons, List.drop_succ_cons, eqL, eqL_split h1 h2, Bool.and_assoc]
theorem fits_length : ∀ {ts : List TypeId} {vs : List Value}, fits P ts vs = true → ts.length = vs.length
  | [], [], _ => rfl
  | [], _ :: _, h => by simp [fits] at h
  | _ :: _, [], h => by simp [fits] at h
  | t :: ts, v :: vs, h => by
    simp only [fits, Bool.and_eq_true] at h
    simp only [List.length_cons, fits_length h.2]

theorem peval_struct {d : Nat} {t : TypeId} {xs ys : Array Value} {fs : Array Field} (ht : P.underlying t = some (.struct fs)) (hp : P.stoodInHeld t = false) :
    peval P (Op.equalIn (d + 1) t (.agg xs) (.agg ys)) = peval P (Op.eqFields d xs ys fs.toList) := by
  simp only [Op.equalIn, peval_bind, peval_und ht, Option.bind_some, peval_program, hp, Bool.false_eq_true, if_false]
  rw [← Array.forIn_toList]
  generalize fs.toList = l
  clear ht
  induction l with
  | nil => simp [Op.eqFields, peval_pure, peval_bind]
  | cons f fs ih =>
    simp only [List.forIn_cons, Op.eqFields, peval_bind]
    split
    · simp only [peval_bind]
      cases peval P (part f.type xs f.offset) with
      | none => rfl
      | some a =>
        simp only [Option.bind_some]
        cases peval P (part f.type ys f.offset) with
        | none => rfl
        | some b =>
          simp only [Option.bind_some]
          cases peval P (Op.equalIn d f.type a b) with
          | none => rfl
          | some r =>
            cases r
            · simp [peval_pure]
            · simp only [Option.bind_some, Bool.not_true, Bool.false_eq_true, if_false, peval_pure, peval_bind]
              rw [← ih]
    · simp only [peval_pure, peval_bind, Option.bind_some]
      rw [← ih]

theorem peval_part {t : TypeId} {sz o : Nat} {b : Bool} {xs : List Value} (ha : aggT P t = some b) (hs : szOf P t = some sz) (h1 : b = false → sz = 1) (hle : o + sz ≤ xs.length) :
    peval P (part t ⟨xs⟩ o) = some (if b then .agg ⟨(xs.drop o).take sz⟩ else xs.getD o undef) := by
  cases b with
  | true => 
    simp only [part, peval_bind, peval_agg ha, Option.bind_some, if_true, peval_size hs, peval_pure, Option.some.injEq, Value.agg.injEq]
    apply Array.ext'
    simp [Array.toList_extract, List.extract_eq_take_drop]
  | false =>
    have := h1 rfl
    have hlt : o < xs.length := by omega
    simp only [part, peval_bind, peval_agg ha, Option.bind_some, Bool.false_eq_true, if_false]
    simp [List.getElem?_eq_getElem hlt, peval_pure, List.getD_eq_getElem?_getD]

theorem flat_scalar {d : Nat} {t : TypeId} {ts : List TypeId} (h : flat P (d + 1) t = some ts) (ha : aggT P t = some false) : ts = [t] := by
  simp only [flat] at h
  unfold aggT at ha
  cases e : P.underlying t with
  | none => rw [e] at ha; cases ha
  | some td => rw [e] at h ha; cases td <;> simp_all

theorem flat_und {d : Nat} {t : TypeId} {ts : List TypeId} (h : flat P (d + 1) t = some ts) : ∃ b, aggT P t = some b := by
  simp only [flat] at h
  unfold aggT
  cases e : P.underlying t with
  | none => rw [e] at h; cases h
  | some td => rw [e] at h; cases td <;> simp_all

theorem peval_fields {d : Nat} (ih : ∀ t ts xs ys, flat P d t = some ts → aggT P t = some true → fits P ts xs = true → fits P ts ys = true → peval P (Op.equalIn d t (.agg ⟨xs⟩) (.agg ⟨ys⟩)) = some (eqL xs ys)) :
    ∀ (fs : List Field) (o : Nat) (ts : List TypeId) (xs ys : List Value), flatF P (flat P d) fs o = some ts → o ≤ xs.length → o ≤ ys.length → fits P ts (xs.drop o) = true → fits P ts (ys.drop o) = true → peval P (Op.eqFields d ⟨xs⟩ ⟨ys⟩ fs) = some (eqL (xs.drop o) (ys.drop o))
  | [], o, ts, xs, ys, h, _, _, hx, hy => by
    simp only [flatF, Option.some.injEq] at h
    subst h
    have h1 := fits_length hx
    have h2 := fits_length hy
    rw [List.eq_nil_of_length_eq_zero h1.symm, List.eq_nil_of_length_eq_zero h2.symm]
    rfl
  | f :: fs, o, ts, xs, ys, h, hox, hoy, hx, hy => by
    simp only [flatF] at h
    split at h
    · rename_i hf
      obtain ⟨hn, ho⟩ := hf
      cases e1 : flat P d f.type with
      | none => rw [e1] at h; cases h
      | some a =>
        rw [e1] at h
        simp only at h
        split at h
        · rename_i hsz
          cases e2 : flatF P (flat P d) fs (o + a.length) with
          | none => rw [e2] at h; cases h
          | some b =>
            rw [e2] at h
            simp only [Option.some.injEq] at h
            subst h
            obtain ⟨hx1, hx2, hxl⟩ := fits_split hx
            obtain ⟨hy1, hy2, hyl⟩ := fits_split hy
            have hsp := eqL_split hxl hyl
            rw [List.drop_drop] at hx2 hy2
            rw [List.drop_drop, List.drop_drop] at hsp
            rw [List.length_drop] at hxl hyl
            have key := peval_fields ih fs (o + a.length) b xs ys e2 (by omega) (by omega) hx2 hy2
            cases d with
            | zero => simp [flat] at e1
            | succ d =>
              obtain ⟨bb, hag⟩ := flat_und e1
              have h1 : bb = false → a.length = 1 := fun hb => by subst hb; rw [flat_scalar e1 hag]; rfl
              simp only [Op.eqFields, hn, ne_eq, not_false_eq_true, if_true, peval_bind, ho]
              rw [peval_part hag hsz h1 (by omega), peval_part hag hsz h1 (by omega)]
              simp only [Option.bind_some]
              have hr : peval P (Op.equalIn (d + 1) f.type (if bb then .agg ⟨(xs.drop o).take a.length⟩ else xs.getD o undef) (if bb then .agg ⟨(ys.drop o).take a.length⟩ else ys.getD o undef)) = some (eqL ((xs.drop o).take a.length) ((ys.drop o).take a.length)) := by
                cases bb with
                | true => simp only [if_true]; exact ih f.type a _ _ e1 hag hx1 hy1
                | false =>
                  have ha := flat_scalar e1 hag
                  have hl := h1 rfl
                  subst ha
                  have hlx : o < xs.length := by omega
                  have hly : o < ys.length := by omega
                  have gx : (xs.drop o).take 1 = [xs.getD o undef] := by rw [List.take_one, List.head?_drop, List.getElem?_eq_getElem hlx, List.getD_eq_getElem?_getD, List.getElem?_eq_getElem hlx]; rfl
                  have gy : (ys.drop o).take 1 = [ys.getD o undef] := by rw [List.take_one, List.head?_drop, List.getElem?_eq_getElem hly, List.getD_eq_getElem?_getD, List.getElem?_eq_getElem hly]; rfl
                  simp only [List.length_singleton, gx, gy, fits, Bool.and_true] at hx1 hy1 ⊢
                  simp only [Bool.false_eq_true, if_false, peval_eq1 hx1 hy1, eqL, Bool.and_true]
              rw [hr, Option.bind_some, hsp]
              cases eqL ((xs.drop o).take a.length) ((ys.drop o).take a.length) with
              | true => simp only [Bool.not_true, Bool.false_eq_true, if_false, Bool.true_and]; exact key
              | false => simp only [Bool.not_false, if_true, peval_pure, Bool.false_and]
        · cases h
    · cases h

theorem peval_eqS : ∀ (d : Nat) (t : TypeId) (ts : List TypeId) (xs ys : List Value), flat P d t = some ts → aggT P t = some true → fits P ts xs = true → fits P ts ys = true → peval P (Op.equalIn d t (.agg ⟨xs⟩) (.agg ⟨ys⟩)) = some (eqL xs ys)
  | 0, t, ts, xs, ys, h, _, _, _ => by simp [flat] at h
  | d + 1, t, ts, xs, ys, h, ha, hx, hy => by
    simp only [flat] at h
    unfold aggT at ha
    cases e : P.underlying t with
    | none => rw [e] at ha; cases ha
    | some td =>
      rw [e] at h ha
      cases td <;> simp only [reduceCtorEq, Option.some.injEq, Bool.false_eq_true] at ha h
      rename_i fs
      split at h
      · cases h
      · rename_i hp
        rw [peval_struct e (by simpa using hp)]
        exact peval_fields (peval_eqS d) fs.toList 0 ts xs ys h (Nat.zero_le _) (Nat.zero_le _) hx hy

theorem plain_eqS {op : BinOp} {t : TypeId} {ts : List TypeId} {xs ys : List Value} {x y : Operand} {r : Bool} (h : flat P 10000 t = some ts) (ha : aggT P t = some true) (hg : P.eqGuardType P.depth t = false) (hx : fits P ts xs = true) (hy : fits P ts ys = true) (hop : eqOp op (eqL xs ys) = some (.bool r)) :
    aPlain P (do eqGuard op t x y (.agg ⟨xs⟩) (.agg ⟨ys⟩); binOp op t (.agg ⟨xs⟩) (.agg ⟨ys⟩)) = some (.value (.bool r)) := by
  have key := peval_eqS 10000 t ts xs ys h ha hx hy
  cases op <;> simp only [eqOp, Option.some.injEq, Value.bool.injEq, reduceCtorEq] at hop
  all_goals
    subst hop
    simp only [aPlain, peval_bind, eqGuard, peval_program, peval_pure, Option.bind_some, hg, Bool.not_false, Bool.not_true, if_true, Bool.false_eq_true, if_false, binOp, Op.equal, Op.maxDepth, key, af]

theorem aBin_agg {H : AHeap} {op : BinOp} {t : TypeId} {xs : Array Value} {y : Value} : aBin P H op t (.agg xs) y = none := by
  cases y <;> rfl
theorem fits_af : ∀ {ts : List TypeId} {vs : List Value}, fits P ts vs = true → afL vs = true
  | [], [], _ => rfl
  | [], _ :: _, h => by simp [fits] at h
  | _ :: _, [], h => by simp [fits] at h
  | t :: ts, v :: vs, h => by
    simp only [fits, Bool.and_eq_true] at h
    have h1 := h.1
    unfold fit1 at h1
    have : af v = true := by split at h1 <;> first | rfl | cases h1
    simp only [afL, this, fits_af h.2, Bool.and_self]

variable {ro : Option Nat} {H : AHeap} {N : Nat} {E : Env} {ds : List Deferred}
theorem wd_same {op : Op} {ops : Array Oper} {anc : List Nat} {d : Nat} {ty : TypeId} {pos : String} {after : Array Edge} {rest : List Oper} {i : Nat} {fps : List Fp} {Q : AAct → AHeap → Prop} {v : Value}
    (hn : stepD P ⟨some d, op, ty, pos, after, none⟩ (mkA N E ds) H (anc.getD i 0) i fps = genD P ⟨some d, op, ty, pos, after, none⟩ (mkA N E ds) H (anc.getD i 0) i fps) (hx : ∀ G, aop op P (mkA N E ds) G = some (.value v, G)) (hv : idsV v = []) (hd : d < N)
    (h : wkD P ops anc rest (i + 1) (⟨i, [], [], H.next, H.next⟩ :: fps) (mkA N (upd E d v) ds) H Q) : wkD P ops anc (⟨some d, op, ty, pos, after, none⟩ :: rest) i fps (mkA N E ds) H Q := by
  have hr := restrict_next H []
  simp only [wkD, wantA]
  rw [hn]
  refine ⟨[], v, H.restrict [], opS_of (hx _) ⟨rfl, rfl⟩, by simp, (by rw [hr.2.2]; simp), fun r _ => fpOk_of ?_, ?_⟩
  · simp only [outIds, hr.2.2, hr.1, Nat.sub_self, rangeFrom, List.append_nil, List.flatMap_nil, hv]
    exact .inr ⟨by simp, by simp, fun _ => ⟨by simp, by simp⟩⟩
  · rw [merge_self, hr.2.2, hr.1]
    simp only [put_some N E ds d _ hd]
    exact h

theorem wd_eqS {op : BinOp} {t u : TypeId} {x y : Operand} {ts : List TypeId} {xs ys : List Value} {r : Bool} {ops : Array Oper} {anc : List Nat} {d : Nat} {ty : TypeId} {pos : String} {after : Array Edge} {rest : List Oper} {i : Nat} {fps : List Fp} {Q : AAct → AHeap → Prop}
    (h : flat P 10000 t = some ts) (ha : aggT P t = some true) (hg : P.eqGuardType P.depth t = false) (hop : eqOp op (eqL xs ys) = some (.bool r)) (hx : opOk N x = true) (hy : opOk N y = true) (hd : d < N) (hvx : opv E x = .agg ⟨xs⟩) (hvy : opv E y = .agg ⟨ys⟩) (fx : fits P ts xs = true) (fy : fits P ts ys = true)
    (hk : wkD P ops anc rest (i + 1) (⟨i, [], [], H.next, H.next⟩ :: fps) (mkA N (upd E d (.bool r)) ds) H Q) : wkD P ops anc (⟨some d, .binOp op t x y u, ty, pos, after, none⟩ :: rest) i fps (mkA N E ds) H Q := by
  refine wd_same ?_ (fun G => ?_) rfl hd hk
  · funext K
    simp only [stepD, pureOp, binD, aeval_opv hx, aeval_opv hy, hvx, hvy, regBin]
  · simp only [aop, xBin, aeval_opv hx, aeval_opv hy, hvx, hvy, Option.bind_eq_bind, Option.bind_some, binV, aBin_agg, af, afA, fits_af fx, fits_af fy, Bool.and_self, if_true, plain_eqS h ha hg fx fy hop, Option.map_some]

theorem w_eqS {op : BinOp} {t u : TypeId} {x y : Operand} {ts : List TypeId} {xs ys : List Value} {r : Bool} {ops : Array Oper} {d : Nat} {ty : TypeId} {pos : String} {after : Array Edge} {rest : List Oper} {Q : Exit → AAct → AHeap → Prop}
    (h : flat P 10000 t = some ts) (ha : aggT P t = some true) (hg : P.eqGuardType P.depth t = false) (hop : eqOp op (eqL xs ys) = some (.bool r)) (hx : opOk N x = true) (hy : opOk N y = true) (hd : d < N) (hvx : opv E x = .agg ⟨xs⟩) (hvy : opv E y = .agg ⟨ys⟩) (fx : fits P ts xs = true) (fy : fits P ts ys = true)
    (hk : wpOps P ro ops rest (mkA N (upd E d (.bool r)) ds) H Q) : wpOps P ro ops (⟨some d, .binOp op t x y u, ty, pos, after, none⟩ :: rest) (mkA N E ds) H Q := by
  rw [w_rv (x := some (.bool r)) rfl ?_ hd, valC_some]
  · exact hk
  · simp only [aop, xBin, aeval_opv hx, aeval_opv hy, hvx, hvy, Option.bind_eq_bind, Option.bind_some, binV, aBin_agg, af, afA, fits_af fx, fits_af fy, Bool.and_self, if_true, plain_eqS h ha hg fx fy hop, Option.map_some]
    rfl
end
end Go.Ax

/- Walks over abstract heaps: methods called through interfaces. -/
namespace Go.Ax
section
variable {P : Program} {ro : Option Nat} {H : AHeap}

theorem genV_modE {N : Nat} {E : Env} {ds : List Deferred} {ops : Array Oper} {anc : List Nat} {o : Oper} {vals : List Value} {W : List Nat} {rest : List Oper} {i : Nat} {fps : List Fp} {Q : AAct → AHeap → Prop} {f : FuncId} {v : Value} {g : AHeap}
    (F : List Nat) (hok : H.base ≤ H.next) (hx : ∀ G, aop o.op P (mkA N E ds) G = some (.enter f vals, G)) (hF : ∀ n ∈ F, H.get n ≠ none) (hlt : ∀ n ∈ F, n < H.next) (hW : ∀ n ∈ W, n ∈ F)
    (hc : CallS P f vals (H.restrict F) (.ok v) g) (hmod : Mod W (H.restrict F) g)
    (hm : ∀ r ∈ fps, (anc.getD i 0).testBit r.i = true ∨ (r.hi ≤ r.lo ∧ (∀ n ∈ r.W, n ∉ F) ∧ (∀ n ∈ r.F, n ∉ W)))
    (h : ∀ H' D, Mod W H H' → (∀ n ∈ F, H'.get n = g.get n) → (∀ n, H.next ≤ n → n < g.next → H'.get n = g.get n) → H'.next = g.next → (∀ n ∈ D, n ∈ W) → wkD P ops anc rest (i + 1) (⟨i, F, D, H.next, g.next⟩ :: fps) ((mkA N E ds).put o.dst v) H' Q) :
    genV P ops anc o rest i fps (mkA N E ds) H Q := by
  have hn := restrict_next H F
  have hd : ∀ n ∈ g.dirty, n ∈ W := by
    intro n hg
    rcases hmod.dirty n hg with h | h
    · rw [hn.2.2] at h; cases h
    · exact h.1
  have hle : H.next ≤ g.next := by have := hmod.next; rw [hn.1] at this; exact this
  have hgF : ∀ n ∈ F, (H.merge g).get n = g.get n := by
    intro n hnF
    by_cases hgd : n ∈ g.dirty
    · exact merge_pos H g hle (.inl hgd)
    · rw [merge_neg H g hle]
      · rw [hmod.keep n (by rw [hn.2.1]; exact hlt n hnF) hgd, restrict_get, if_pos hnF]
      · rintro (h' | h')
        · exact hgd h'
        · have := hlt n hnF; omega
  have hmf := merge_facts H g
  refine ⟨F, v, g, ?_, hF, fun n h' => hW n (hd n h'), fun r hr => fpOk_of ?_, ?_⟩
  · exact opS_of (x := .enter f vals) (g := H.restrict F) (hx _) hc
  · rcases hm r hr with h' | ⟨h1, h2, h3⟩
    · exact .inl h'
    · exact .inr ⟨h2, fun n hnr hng => h3 n hnr (hd n hng), fun hlt' => absurd hlt' (by omega)⟩
  · refine h (H.merge g) g.dirty ⟨by rw [hmf.1]; exact hle, hmf.2.1, fun n hnl hnW => ?_, hmf.2.2.1, fun n hnd => ?_, fun n hnb hnd => ?_⟩ hgF (fun n h1 h2 => merge_pos H g hle (.inr ⟨h1, h2⟩)) hmf.1 hd
    · rw [merge_neg H g hle]
      rintro (h' | h')
      · exact hnW (hd n h')
      · omega
    · rcases merge_dirty H g n hnd with h' | h'
      · exact .inl h'
      · exact .inr ⟨hd n h'.1, h'.2⟩
    · by_cases hgd : n ∈ g.dirty
      · exact absurd (hmf.2.2.2 n hgd hnb) hnd
      · rw [merge_neg H g hle]
        rintro (h' | h')
        · exact hgd h'
        · omega

variable {N : Nat} {E : Env} {ds : List Deferred} {ops : Array Oper} {anc : List Nat} {ty : TypeId} {pos : String} {after : Array Edge} {rest : List Oper} {i : Nat} {fps : List Fp}

theorem wd_invoke {Q : AAct → AHeap → Prop} {x : Operand} {name : String} {args : Array Operand} {ts : Array TypeId} {dst : Option Nat} : wkD P ops anc (⟨dst, .call ⟨.invoke x name, args, ts⟩, ty, pos, after, none⟩ :: rest) i fps (mkA N E ds) H Q = genV P ops anc ⟨dst, .call ⟨.invoke x name, args, ts⟩, ty, pos, after, none⟩ rest i fps (mkA N E ds) H Q := by
  simp only [wkD, wantA, stepD, pureOp, restD, newOp, genV]

theorem invoke_enter {x : Operand} {name : String} {args : List Operand} {ts : Array TypeId} {f : FuncId} {vals : List Value} {G : AHeap} (hx : opOk N x = true) (ha : args.all (opOk N) = true) (hi : aInvoke P G (.method name) (opv E x :: args.map (opv E)) [] = some (.enter f vals)) :
    aop (.call ⟨.invoke x name, ⟨args⟩, ts⟩) P (mkA N E ds) G = some (.enter f vals, G) := by
  simp only [aop, xCall, aevals_opv ha, aeval_opv hx, Option.bind_eq_bind, Option.bind_some, hi, Option.map_some]

theorem w_invoke {Q : Exit → AAct → AHeap → Prop} {x : Operand} {name : String} {args : List Operand} {ts : Array TypeId} {dst : Option Nat} {f : FuncId} {vals : List Value} (hx : opOk N x = true) (ha : args.all (opOk N) = true) (hi : aInvoke P H (.method name) (opv E x :: args.map (opv E)) [] = some (.enter f vals))
    (h : CallA P f vals H (opC P ro ops rest (mkA N E ds) dst Q)) : wpOps P ro ops (⟨dst, .call ⟨.invoke x name, ⟨args⟩, ts⟩, ty, pos, after, none⟩ :: rest) (mkA N E ds) H Q := by
  rw [w_op rfl rfl]
  simp only [opA, invoke_enter hx ha hi, nextA]
  exact h
end
end Go.Ax

/- Walks over abstract heaps: append within a slice's capacity, to nil, of noughts; cap; slices from the begin. -/
namespace Go.Ax
section
variable {P : Program} {H : AHeap}

theorem app_in {st xt e : TypeId} {sz by1 m off k cap n : Nat} {sp : Option Nat} {z x : Value} {new : List Value} (hu : P.underlying st = some (.slice e)) (hsz : szOf P e = some sz) (hby : bytesOf P e = some by1) (hz : zeroOf P e = some z) (hzl : z.cells.toList.length = sz) (hi : intTy P xt = some false)
    (hx : lenV x = some n) (hf : firstC H sz n x = some new) (hl : new.length = n * sz) (hc : k + n ≤ cap) (hsm : small (k + n) by1 = true) :
    aBuiltin P H .append ⟨[st, xt]⟩ [.slice (some ⟨m, off, sp⟩) k cap, x] = (aWrite H m (off + k * sz) new).map fun g => (.slice (some ⟨m, off, sp⟩) (k + n) cap, g) := by
  simp only [aBuiltin, aAppend, hu, hsz, hby, hz, hi, Option.bind_eq_bind, Option.bind_some, hx, hf, hl, hzl, hsm, and_self, if_true, aAppend2, hc]
  cases aWrite H m (off + k * sz) new <;> rfl

theorem app_nn {st xt e : TypeId} {sz by1 : Nat} {z x : Value} (hu : P.underlying st = some (.slice e)) (hsz : szOf P e = some sz) (hby : bytesOf P e = some by1) (hz : zeroOf P e = some z) (hzl : z.cells.toList.length = sz) (hi : intTy P xt = some false)
    (hx : lenV x = some 0) (hf : firstC H sz 0 x = some []) :
    aBuiltin P H .append ⟨[st, xt]⟩ [.slice none 0 0, x] = some (.slice none 0 0, H) := by
  have hsm : small (0 + 0) by1 = true := by simp [small]
  simp only [aBuiltin, aAppend, hu, hsz, hby, hz, hi, Option.bind_eq_bind, Option.bind_some, hx, hf, List.length_nil, Nat.zero_mul, hzl, hsm, and_self, if_true, aAppend2, Nat.le_refl, Nat.zero_add]

theorem app_zero {st xt e : TypeId} {sz by1 n : Nat} {z : Value} (hu : P.underlying st = some (.slice e)) (hsz : szOf P e = some sz) (hby : bytesOf P e = some by1) (hz : zeroOf P e = some z) (hzl : z.cells.toList.length = sz) (hi : intTy P xt = some true)
    (hn : 0 < n) (ho : (zerosL z.cells.toList n).all one = true) (hsm : small n by1 = true) :
    aBuiltin P H .append ⟨[st, xt]⟩ [.slice none 0 0, .int .i64 (n : Int)] = (aNew H e (zerosL z.cells.toList n) true).map fun g => (.slice (some ⟨H.next, 0, none⟩) n n, g) := by
  have h0 : (0 : Int) ≤ (n : Int) := by omega
  simp only [aBuiltin, aAppend, hu, hsz, hby, hz, hi, Option.bind_eq_bind, Option.bind_some, hzl, Int.toNat_natCast, Nat.zero_add, hsm, h0, and_self, if_true, aAppend2]
  rw [if_neg (by omega)]
  simp only [firstC, Option.bind_some, List.length_nil, Nat.zero_mul, List.all_nil, ho, decide_true, Bool.and_self, if_true, List.nil_append]
  cases aNew H e (zerosL z.cells.toList n) true <;> rfl

theorem bt_capN {t e : TypeId} {l c : Nat} (h : P.underlying t = some (.slice e)) : aBuiltin P H .cap ⟨[t]⟩ [.slice none l c] = some (goInt c, H) := by
  simp only [aBuiltin, aCap, h, Option.map_some]

theorem sl_nil {t e : TypeId} {sz l c : Nat} (h : P.underlying t = some (.slice e)) (hs : szOf P e = some sz) : aSlice P H t (.slice none l c) none (some (.int .i64 0)) none = some (.slice none 0 c, H) := by
  simp only [aSlice, h, hs, Option.bind_eq_bind, Option.bind_some, aSlice2, bound, Int.le_refl, if_true, Int.toNat_zero, Nat.zero_le, and_self, Nat.sub_zero]

theorem sl_open {t e : TypeId} {sz n off l c : Nat} {b : Bl} (h : P.underlying t = some (.slice e)) (hs : szOf P e = some sz) (hb : bk H n = some b) (ho : b.o = true) : aSlice P H t (.slice (some ⟨n, off, none⟩) l c) none (some (.int .i64 0)) none = some (.slice (some ⟨n, off, none⟩) 0 c, H) := by
  simp only [aSlice, h, hs, Option.bind_eq_bind, Option.bind_some, aSlice2, bound, Int.le_refl, if_true, Int.toNat_zero, Nat.zero_le, and_self, exactAt, isOpen_bk hb, ho, Option.map_some, Bool.not_true]

theorem zerosL_length {z : List Value} : ∀ n, (zerosL z n).length = n * z.length
  | 0 => by simp [zerosL]
  | n + 1 => by simp only [zerosL, List.length_append, zerosL_length n, Nat.succ_mul]; omega
theorem zerosL_one {z : List Value} (h : z.all one = true) : ∀ n, (zerosL z n).all one = true
  | 0 => rfl
  | n + 1 => by simp only [zerosL, List.all_append, h, zerosL_one h n, Bool.and_self]
theorem zerosL_sc {z : List Value} {N : Nat} (h : scbL N z = true) : ∀ n, scbL N (zerosL z n) = true
  | 0 => rfl
  | n + 1 => scbL_append h (zerosL_sc h n)
theorem zerosL_drop {z : List Value} : ∀ n k, (zerosL z n).drop (k * z.length) = zerosL z (n - k)
  | n, 0 => by simp
  | 0, k + 1 => by simp [zerosL]
  | n + 1, k + 1 => by
    rw [show (k + 1) * z.length = z.length + k * z.length by rw [Nat.succ_mul]; omega, ← List.drop_drop]
    simp only [zerosL, List.drop_left, Nat.reduceSubDiff]
    exact zerosL_drop n k

theorem genV_modO {N : Nat} {E : Env} {ds : List Deferred} {ops : Array Oper} {anc : List Nat} {o : Oper} {W : List Nat} {rest : List Oper} {i : Nat} {fps : List Fp} {Q : AAct → AHeap → Prop} {v : Value} {g : AHeap}
    (F : List Nat) (hok : H.base ≤ H.next) (hF : ∀ n ∈ F, H.get n ≠ none) (hlt : ∀ n ∈ F, n < H.next) (hW : ∀ n ∈ W, n ∈ F)
    (hc : OpS P (mkA N E ds) (H.restrict F) o (.ok v) g) (hmod : Mod W (H.restrict F) g)
    (hm : ∀ r ∈ fps, (anc.getD i 0).testBit r.i = true ∨ (r.hi ≤ r.lo ∧ (∀ n ∈ r.W, n ∉ F) ∧ (∀ n ∈ r.F, n ∉ W)))
    (h : ∀ H' D, Mod W H H' → (∀ n ∈ F, H'.get n = g.get n) → (∀ n, H.next ≤ n → n < g.next → H'.get n = g.get n) → H'.next = g.next → (∀ n ∈ D, n ∈ W) → wkD P ops anc rest (i + 1) (⟨i, F, D, H.next, g.next⟩ :: fps) ((mkA N E ds).put o.dst v) H' Q) :
    genV P ops anc o rest i fps (mkA N E ds) H Q := by
  have hn := restrict_next H F
  have hd : ∀ n ∈ g.dirty, n ∈ W := by
    intro n hg
    rcases hmod.dirty n hg with h | h
    · rw [hn.2.2] at h; cases h
    · exact h.1
  have hle : H.next ≤ g.next := by have := hmod.next; rw [hn.1] at this; exact this
  have hgF : ∀ n ∈ F, (H.merge g).get n = g.get n := by
    intro n hnF
    by_cases hgd : n ∈ g.dirty
    · exact merge_pos H g hle (.inl hgd)
    · rw [merge_neg H g hle]
      · rw [hmod.keep n (by rw [hn.2.1]; exact hlt n hnF) hgd, restrict_get, if_pos hnF]
      · rintro (h' | h')
        · exact hgd h'
        · have := hlt n hnF; omega
  have hmf := merge_facts H g
  refine ⟨F, v, g, ?_, hF, fun n h' => hW n (hd n h'), fun r hr => fpOk_of ?_, ?_⟩
  · exact hc
  · rcases hm r hr with h' | ⟨h1, h2, h3⟩
    · exact .inl h'
    · exact .inr ⟨h2, fun n hnr hng => h3 n hnr (hd n hng), fun hlt' => absurd hlt' (by omega)⟩
  · refine h (H.merge g) g.dirty ⟨by rw [hmf.1]; exact hle, hmf.2.1, fun n hnl hnW => ?_, hmf.2.2.1, fun n hnd => ?_, fun n hnb hnd => ?_⟩ hgF (fun n h1 h2 => merge_pos H g hle (.inr ⟨h1, h2⟩)) hmf.1 hd
    · rw [merge_neg H g hle]
      rintro (h' | h')
      · exact hnW (hd n h')
      · omega
    · rcases merge_dirty H g n hnd with h' | h'
      · exact .inl h'
      · exact .inr ⟨hd n h'.1, h'.2⟩
    · by_cases hgd : n ∈ g.dirty
      · exact absurd (hmf.2.2.2 n hgd hnb) hnd
      · rw [merge_neg H g hle]
        rintro (h' | h')
        · exact hgd h'
        · omega

theorem wd_app {N : Nat} {E : Env} {ds : List Deferred} {ops : Array Oper} {anc : List Nat} {ty : TypeId} {pos : String} {after : Array Edge} {rest : List Oper} {i : Nat} {fps : List Fp} {Q : AAct → AHeap → Prop} {args : List Operand} {ts : Array TypeId} {dst : Option Nat} (ha : args.all (opOk N) = true) : wkD P ops anc (⟨dst, .call ⟨.builtin .append, ⟨args⟩, ts⟩, ty, pos, after, none⟩ :: rest) i fps (mkA N E ds) H Q = genV P ops anc ⟨dst, .call ⟨.builtin .append, ⟨args⟩, ts⟩, ty, pos, after, none⟩ rest i fps (mkA N E ds) H Q := by
  simp only [wkD, wantA, stepD, pureOp, restD, newOp, genV, aevals_opv ha, btD, regBt]

theorem app_op {N : Nat} {E : Env} {ds : List Deferred} {ty : TypeId} {pos : String} {after : Array Edge} {args : List Operand} {ts : Array TypeId} {dst : Option Nat} {v : Value} {G : AHeap} (ha : args.all (opOk N) = true) (h : aBuiltin P H .append ts (args.map (opv E)) = some (v, G)) : OpS P (mkA N E ds) H ⟨dst, .call ⟨.builtin .append, ⟨args⟩, ts⟩, ty, pos, after, none⟩ (.ok v) G :=
  opS_of (x := .value v) (g := G) (by simp only [aop, xCall, aevals_opv ha, Option.bind_eq_bind, Option.bind_some, h, rvh, Option.map_some]) ⟨rfl, rfl⟩

theorem genV_extO {N : Nat} {E : Env} {ds : List Deferred} {ops : Array Oper} {anc : List Nat} {o : Oper} {d : Nat} {rest : List Oper} {i : Nat} {fps : List Fp} {Q : AAct → AHeap → Prop} {v : Value} {M : List Bl} (F : List Nat) (hdst : o.dst = some d) (hd : d < N) (hF : ∀ n ∈ F, H.get n ≠ none)
    (hc : ∀ G : AHeap, G.next = H.next → (∀ n ∈ F, G.get n = H.get n) → OpS P (mkA N E ds) G o (.ok v) (ext G M)) (hm : ∀ r ∈ fps, Meets (anc.getD i 0) F [] (idsV v ++ M.flatMap fun x => idsL x.l) r)
    (h : wkD P ops anc rest (i + 1) (⟨i, F, [], H.next, H.next + M.length⟩ :: fps) (mkA N (upd E d v) ds) (ext H M) Q) : genV P ops anc o rest i fps (mkA N E ds) H Q := by
  have hn := restrict_next H F
  have hd' : (ext (H.restrict F) M).dirty = [] := by rw [ext_dirty, hn.2.2]
  have hnx : (ext (H.restrict F) M).next = H.next + M.length := by rw [ext_next, hn.1]
  have hget : ∀ j, j < M.length → (ext (H.restrict F) M).get (H.next + j) = M[j]?.map Bl.obj := by
    intro j hj
    rw [← hn.1]
    exact ext_get_new hj
  have hmn : ∀ (M : List Bl) (K g : AHeap) (m : Nat), K.next = m → (∀ j, j < M.length → g.get (m + j) = M[j]?.map Bl.obj) → ∀ h', h' = AHeap.mergeN K g m M.length → (⟨h'.root, m + M.length, h'.base, h'.dirty⟩ : AHeap) = ext K M := by
    intro M
    induction M with
    | nil => intro K g m hK _ h' hh; subst hK; subst hh; rfl
    | cons x M ih =>
      intro K g m hK hg h' hh
      have h0 := hg 0 (by simp)
      simp only [Nat.add_zero, List.getElem?_cons_zero, Option.map_some] at h0
      rw [List.length_cons] at hh
      simp only [AHeap.mergeN, h0] at hh
      have := ih (nw K x.e x.l x.o) g (m + 1) (by rw [nw_next, hK]) (fun j hj => by
        have := hg (j + 1) (by simpa using hj)
        simp only [List.getElem?_cons_succ] at this
        rw [show m + 1 + j = m + (j + 1) by omega]
        exact this) (AHeap.mergeN (nw K x.e x.l x.o) g (m + 1) M.length) rfl
      have key : ∀ (A B : AHeap) (n k : Nat), A.root = B.root → A.base = B.base → A.dirty = B.dirty → (AHeap.mergeN A g n k).root = (AHeap.mergeN B g n k).root ∧ (AHeap.mergeN A g n k).base = (AHeap.mergeN B g n k).base ∧ (AHeap.mergeN A g n k).dirty = (AHeap.mergeN B g n k).dirty := by
        intro A B n k
        induction k generalizing A B n with
        | zero => exact fun h1 h2 h3 => ⟨h1, h2, h3⟩
        | succ k ihk =>
          intro h1 h2 h3
          simp only [AHeap.mergeN]
          exact ihk _ _ _ (by simp only [AHeap.put, h1]) h2 h3
      have k2 := key (nw K x.e x.l x.o) (K.put m (some x.obj)) (m + 1) M.length (by simp only [nw, AHeap.new, AHeap.put, hK, Bl.obj]) rfl rfl
      rw [ext, ← this, hh, k2.1, k2.2.1, k2.2.2, List.length_cons, show m + (M.length + 1) = m + 1 + M.length by omega]
  have hmg : H.merge (ext (H.restrict F) M) = ext H M := by
    unfold AHeap.merge
    rw [hd', hnx, Nat.add_sub_cancel_left]
    simp only [AHeap.mergeW]
    exact hmn M H _ H.next rfl hget _ rfl
  refine ⟨F, v, ext (H.restrict F) M, ?_, hF, (by rw [hd']; simp), fun r hr => fpOk_of ?_, ?_⟩
  · exact hc _ hn.1 (fun n hn' => by rw [restrict_get, if_pos hn'])
  · have hids : ∀ (k s : Nat), s + k = M.length → (rangeFrom (H.next + s) k).flatMap (idsAt (ext (H.restrict F) M)) = (M.drop s).flatMap fun x => idsL x.l := by
      intro k
      induction k with
      | zero => intro s hs; rw [rangeFrom, List.drop_eq_nil_of_le (by omega)]; rfl
      | succ k ih =>
        intro s hs
        have hlt : s < M.length := by omega
        rw [rangeFrom, List.flatMap_cons, List.drop_eq_getElem_cons hlt, List.flatMap_cons]
        have := ih (s + 1) (by omega)
        rw [show H.next + (s + 1) = H.next + s + 1 by omega] at this
        rw [this]
        congr 1
        simp only [idsAt, hget s hlt, List.getElem?_eq_getElem hlt, Option.map_some, Bl.obj, idsO, RV.n_ofList, RV.gets_ofList]
    have := hids M.length 0 (by omega)
    simp only [Nat.add_zero, List.drop_zero] at this
    rw [hd']
    simp only [outIds, hd', hnx, Nat.add_sub_cancel_left, List.nil_append, this]
    exact hm r hr
  · rw [hmg, hd', hnx]
    simp only [hdst, put_some N E ds d v hd]
    exact h

theorem putL_at : ∀ (pre old new : List Value), new.length ≤ old.length → putL (pre ++ old) pre.length new = pre ++ (new ++ old.drop new.length)
  | [], old, new, h => by
    simp only [List.nil_append, List.length_nil]
    induction new generalizing old with
    | nil => cases old <;> rfl
    | cons y ys ih =>
      cases old with
      | nil => simp at h
      | cons x xs =>
        simp only [List.length_cons, Nat.add_le_add_iff_right] at h
        simp only [putL, ih xs h, List.length_cons, List.drop_succ_cons, List.cons_append]
  | p :: pre, old, new, h => by
    simp only [List.cons_append, List.length_cons, putL, putL_at pre old new h]

end
section
variable {P : Program} {ro : Option Nat} {H : AHeap} {N : Nat} {E : Env} {ds : List Deferred}
variable {ops : Array Oper} {anc : List Nat} {d : Nat} {ty : TypeId} {pos : String} {after : Array Edge} {rest : List Oper} {i : Nat} {fps : List Fp} {Q : AAct → AHeap → Prop}
theorem wd_not {x : Operand} {t : TypeId} (hx : opOk N x = true) (hd : d < N) (h : (notV (opv E x)).isSome = true) : wkD P ops anc (⟨some d, .unOp .not t x, ty, pos, after, none⟩ :: rest) i fps (mkA N E ds) H Q = valD P ops anc rest i fps N E ds d H Q (notV (opv E x)) :=
  wd_rv rfl (by
    simp only [aop, xUn, aeval_opv hx, Option.bind_eq_bind, Option.bind_some]
    cases hv : opv E x with
    | bool b => rfl
    | _ => rw [hv] at h; cases h) hd
end
end Go.Ax

/- The lists of rewriting rules, by a program of ours (wip/tools/lists.py). -/
namespace Go.Ax
theorem m_bind_some {α β : Type} (a : α) (f : α → Option β) : (some a).bind f = f a := rfl
theorem m_map_some {α β : Type} (a : α) (f : α → β) : (some a).map f = some (f a) := rfl
theorem m_map_cons {α β : Type} (f : α → β) (a : α) (l : List α) : (a :: l).map f = f a :: l.map f := rfl
theorem m_map_nil {α β : Type} (f : α → β) : ([] : List α).map f = [] := rfl
theorem m_getElem_cons_zero {α : Type} (a : α) (l : List α) : (a :: l)[0]? = some a := rfl
theorem m_getElem_cons_succ {α : Type} (a : α) (l : List α) (i : Nat) : (a :: l)[i + 1]? = l[i]? := List.getElem?_cons_succ
theorem m_ne_eq {α : Type} (a b : α) : (a ≠ b) = ¬ a = b := rfl
theorem m_not_false_eq_true : (¬ False) = True := not_false_eq_true
theorem m_not_false : (!false) = true := rfl
theorem m_not_true : (!true) = false := rfl
theorem m_length_cons {α : Type} (a : α) (l : List α) : (a :: l).length = l.length + 1 := rfl
theorem m_length_nil {α : Type} : ([] : List α).length = 0 := rfl
theorem m_set_cons_zero {α : Type} (a b : α) (l : List α) : (a :: l).set 0 b = b :: l := rfl
theorem m_set_cons_succ {α : Type} (a b : α) (l : List α) (i : Nat) : (a :: l).set (i + 1) b = a :: l.set i b := rfl
theorem m_nil_append {α : Type} (l : List α) : [] ++ l = l := rfl
theorem m_cons_append {α : Type} (a : α) (l m : List α) : (a :: l) ++ m = a :: (l ++ m) := rfl
theorem m_drop_succ_cons {α : Type} (a : α) (l : List α) (i : Nat) : (a :: l).drop (i + 1) = l.drop i := rfl
theorem m_drop_zero {α : Type} (l : List α) : l.drop 0 = l := rfl
theorem m_take_succ_cons {α : Type} (a : α) (l : List α) (i : Nat) : (a :: l).take (i + 1) = a :: l.take i := rfl
theorem m_take_zero {α : Type} (l : List α) : l.take 0 = [] := List.take_zero
theorem m_if_true {α : Type} (a b : α) : (if True then a else b) = a := if_true a b
theorem m_true_and (p : Prop) : (True ∧ p) = p := true_and p
theorem m_and_true (p : Prop) : (p ∧ True) = p := and_true p
theorem m_or_true (p : Prop) : (p ∨ True) = True := or_true p
theorem m_true_or (p : Prop) : (True ∨ p) = True := true_or p
theorem m_and_self (p : Prop) : (p ∧ p) = p := and_self p
theorem m_implies_true (p : Prop) : (p → True) = True := eq_true fun _ => trivial
theorem m_false_implies (p : Prop) : (False → p) = True := eq_true fun h => h.elim
theorem m_true_implies (p : Prop) : (True → p) = p := propext ⟨fun h => h trivial, fun h _ => h⟩
theorem m_all_true {α : Type} : (α → True) = True := eq_true fun _ => trivial
theorem m_not_true_eq_false : (¬ True) = False := not_true_eq_false
theorem ruU : type_of% (And.intro (And.intro (And.intro (And.intro (And.intro (@upd_same) (@upd_ne)) (And.intro (@ok_tmp) (@ok_int))) (And.intro (And.intro (@ok_bool) (@ok_string)) (And.intro (@ok_nilptr) (@ok_nilslice)))) (And.intro (And.intro (And.intro (@ok_niliface) (@ok_nilmap)) (And.intro (@ok_nilfunc) (@ok_func))) (And.intro (And.intro (@opv_const) (@opv_tmp)) (And.intro (@opv_func) (@all_nil))))) (And.intro (And.intro (And.intro (And.intro (@all_cons) (@and_tt)) (And.intro (@pok_nil) (@pok_cons))) (And.intro (And.intro (@pmap_nil) (@pmap_cons)) (And.intro (@pairs_ok) (@isSome_some)))) (And.intro (And.intro (And.intro (@m_bind_some) (@m_map_cons)) (And.intro (@m_map_nil) (@m_getElem_cons_zero))) (And.intro (And.intro (@m_getElem_cons_succ) (@m_ne_eq)) (And.intro (@m_not_false_eq_true) (And.intro (@m_not_false) (@m_not_true))))))) :=
  And.intro (And.intro (And.intro (And.intro (And.intro (@upd_same) (@upd_ne)) (And.intro (@ok_tmp) (@ok_int))) (And.intro (And.intro (@ok_bool) (@ok_string)) (And.intro (@ok_nilptr) (@ok_nilslice)))) (And.intro (And.intro (And.intro (@ok_niliface) (@ok_nilmap)) (And.intro (@ok_nilfunc) (@ok_func))) (And.intro (And.intro (@opv_const) (@opv_tmp)) (And.intro (@opv_func) (@all_nil))))) (And.intro (And.intro (And.intro (And.intro (@all_cons) (@and_tt)) (And.intro (@pok_nil) (@pok_cons))) (And.intro (And.intro (@pmap_nil) (@pmap_cons)) (And.intro (@pairs_ok) (@isSome_some)))) (And.intro (And.intro (And.intro (@m_bind_some) (@m_map_cons)) (And.intro (@m_map_nil) (@m_getElem_cons_zero))) (And.intro (And.intro (@m_getElem_cons_succ) (@m_ne_eq)) (And.intro (@m_not_false_eq_true) (And.intro (@m_not_false) (@m_not_true))))))
theorem ruW : type_of% (And.intro (And.intro (And.intro (And.intro (And.intro (And.intro (And.intro (@w_gd) (@gdC_some)) (And.intro (@guardC_true) (And.intro (@guardC_ff) (@guardC_tt)))) (And.intro (And.intro (@put_at) (@dst_list)) (And.intro (@w_seq) (And.intro (@w_region) (@w_move))))) (And.intro (And.intro (And.intro (@w_assign) (@w_nil)) (And.intro (@w_cond) (And.intro (@w_ret) (@w_skip)))) (And.intro (And.intro (@w_exit) (And.intro (@w_block) (@w_typeAssert))) (And.intro (@w_extract) (And.intro (@w_not) (@w_neg)))))) (And.intro (And.intro (And.intro (And.intro (@w_build) (@w_call)) (And.intro (@w_builtin) (And.intro (@w_bin) (@w_nilCheck)))) (And.intro (And.intro (@w_fieldAddr) (@w_field)) (And.intro (@w_indexAddr) (And.intro (@w_index) (@w_load))))) (And.intro (And.intro (And.intro (@w_store) (@w_box)) (And.intro (@w_alloc) (And.intro (@w_buildSlice) (@w_makeSlice)))) (And.intro (And.intro (@w_slice) (And.intro (@bnds_none) (@bnds_some))) (And.intro (@bndsOk_none) (And.intro (@bndsOk_some) (@w_pick))))))) (And.intro (And.intro (And.intro (And.intro (And.intro (@w_iface) (@w_func)) (And.intro (@valC_some) (And.intro (@heapC_some) (@heapC_skip)))) (And.intro (And.intro (@storeC_some) (@seqC_normal)) (And.intro (@seqC_ret) (And.intro (@seqC_exit) (@blockC_normal))))) (And.intro (And.intro (And.intro (@blockC_ret) (@blockC_exit)) (And.intro (@loopC_exit) (And.intro (@loopC_ret) (@condC_true)))) (And.intro (And.intro (@condC_false) (And.intro (@endA_ret) (@endA_normal))) (And.intro (@opC_ok) (And.intro (@opC_skip) (@exV_tuple)))))) (And.intro (And.intro (And.intro (And.intro (@notV_bool) (@negV_int)) (And.intro (@nilW_ptr) (And.intro (@pickV_true) (@pickV_false)))) (And.intro (And.intro (@bin_add) (And.intro (@bin_sub) (@bin_mul))) (And.intro (@bin_quo) (And.intro (@bin_rem) (@bin_eql))))) (And.intro (And.intro (And.intro (@bin_neq) (@bin_lss)) (And.intro (@bin_leq) (And.intro (@bin_gtr) (@bin_geq)))) (And.intro (And.intro (@bin_eqb) (And.intro (@bin_neb) (@bt_max))) (And.intro (@bt_min) (And.intro (@bt_lenS) (@lenS_slice)))))))) (And.intro (And.intro (And.intro (And.intro (And.intro (And.intro (@lenR_slice) (@go_int)) (And.intro (@new_nw) (And.intro (@ext_append) (@ext_next)))) (And.intro (And.intro (@ext_base) (@load_bk)) (And.intro (@bk_at) (And.intro (@bk_old) (@ld_one))))) (And.intro (And.intro (And.intro (@ld_agg) (@store_new)) (And.intro (@store_old) (And.intro (@stB_ok) (@uw_next)))) (And.intro (And.intro (@uw_base) (And.intro (@bk_uw_ne) (@bk_uw_eq))) (And.intro (@putB_eq) (And.intro (@allocV_some) (@new_ext)))))) (And.intro (And.intro (And.intro (And.intro (@m_map_some) (@cells_int)) (And.intro (@cells_bool) (And.intro (@cells_ptr) (@cells_slice)))) (And.intro (And.intro (@cells_iface) (And.intro (@cells_niliface) (@cells_string))) (And.intro (@cells_func) (And.intro (@cells_nilfunc) (@cells_agg))))) (And.intro (And.intro (And.intro (@allOne_nil) (@allOne_cons)) (And.intro (@one_int) (And.intro (@one_bool) (@one_ptr)))) (And.intro (And.intro (@one_slice) (And.intro (@one_iface) (@one_niliface))) (And.intro (@one_string) (And.intro (@one_func) (@one_nilfunc))))))) (And.intro (And.intro (And.intro (And.intro (And.intro (@sc_nil) (@sc_cons)) (And.intro (@sc_int) (And.intro (@sc_bool) (@sc_string)))) (And.intro (And.intro (@sc_nilptr) (@sc_nilslice)) (And.intro (@sc_niliface) (And.intro (@sc_nilfunc) (@sc_iface))))) (And.intro (And.intro (And.intro (@sc_agg) (@sc_tuple)) (And.intro (@sc_func) (And.intro (@sc_yield) (@sc_ptr)))) (And.intro (And.intro (@sc_slice) (And.intro (@sc_add) (@sc_addL))) (And.intro (@lt_new) (And.intro (@lt_old) (@ne_new)))))) (And.intro (And.intro (And.intro (And.intro (@ne_old) (@ne_old')) (And.intro (@add_add) (And.intro (@m_length_cons) (@m_length_nil)))) (And.intro (And.intro (@m_set_cons_zero) (And.intro (@m_set_cons_succ) (@m_nil_append))) (And.intro (@m_cons_append) (And.intro (@m_drop_succ_cons) (@m_drop_zero))))) (And.intro (And.intro (And.intro (@m_take_succ_cons) (@m_take_zero)) (And.intro (@m_if_true) (And.intro (@lv_nil) (@leaveO_some)))) (And.intro (And.intro (@rs_nil) (And.intro (@rs_tmp) (@rs_cell))) (And.intro (@tup_nil) (And.intro (@tup_one) (@tup_two))))))))) :=
  And.intro (And.intro (And.intro (And.intro (And.intro (And.intro (And.intro (@w_gd) (@gdC_some)) (And.intro (@guardC_true) (And.intro (@guardC_ff) (@guardC_tt)))) (And.intro (And.intro (@put_at) (@dst_list)) (And.intro (@w_seq) (And.intro (@w_region) (@w_move))))) (And.intro (And.intro (And.intro (@w_assign) (@w_nil)) (And.intro (@w_cond) (And.intro (@w_ret) (@w_skip)))) (And.intro (And.intro (@w_exit) (And.intro (@w_block) (@w_typeAssert))) (And.intro (@w_extract) (And.intro (@w_not) (@w_neg)))))) (And.intro (And.intro (And.intro (And.intro (@w_build) (@w_call)) (And.intro (@w_builtin) (And.intro (@w_bin) (@w_nilCheck)))) (And.intro (And.intro (@w_fieldAddr) (@w_field)) (And.intro (@w_indexAddr) (And.intro (@w_index) (@w_load))))) (And.intro (And.intro (And.intro (@w_store) (@w_box)) (And.intro (@w_alloc) (And.intro (@w_buildSlice) (@w_makeSlice)))) (And.intro (And.intro (@w_slice) (And.intro (@bnds_none) (@bnds_some))) (And.intro (@bndsOk_none) (And.intro (@bndsOk_some) (@w_pick))))))) (And.intro (And.intro (And.intro (And.intro (And.intro (@w_iface) (@w_func)) (And.intro (@valC_some) (And.intro (@heapC_some) (@heapC_skip)))) (And.intro (And.intro (@storeC_some) (@seqC_normal)) (And.intro (@seqC_ret) (And.intro (@seqC_exit) (@blockC_normal))))) (And.intro (And.intro (And.intro (@blockC_ret) (@blockC_exit)) (And.intro (@loopC_exit) (And.intro (@loopC_ret) (@condC_true)))) (And.intro (And.intro (@condC_false) (And.intro (@endA_ret) (@endA_normal))) (And.intro (@opC_ok) (And.intro (@opC_skip) (@exV_tuple)))))) (And.intro (And.intro (And.intro (And.intro (@notV_bool) (@negV_int)) (And.intro (@nilW_ptr) (And.intro (@pickV_true) (@pickV_false)))) (And.intro (And.intro (@bin_add) (And.intro (@bin_sub) (@bin_mul))) (And.intro (@bin_quo) (And.intro (@bin_rem) (@bin_eql))))) (And.intro (And.intro (And.intro (@bin_neq) (@bin_lss)) (And.intro (@bin_leq) (And.intro (@bin_gtr) (@bin_geq)))) (And.intro (And.intro (@bin_eqb) (And.intro (@bin_neb) (@bt_max))) (And.intro (@bt_min) (And.intro (@bt_lenS) (@lenS_slice)))))))) (And.intro (And.intro (And.intro (And.intro (And.intro (And.intro (@lenR_slice) (@go_int)) (And.intro (@new_nw) (And.intro (@ext_append) (@ext_next)))) (And.intro (And.intro (@ext_base) (@load_bk)) (And.intro (@bk_at) (And.intro (@bk_old) (@ld_one))))) (And.intro (And.intro (And.intro (@ld_agg) (@store_new)) (And.intro (@store_old) (And.intro (@stB_ok) (@uw_next)))) (And.intro (And.intro (@uw_base) (And.intro (@bk_uw_ne) (@bk_uw_eq))) (And.intro (@putB_eq) (And.intro (@allocV_some) (@new_ext)))))) (And.intro (And.intro (And.intro (And.intro (@m_map_some) (@cells_int)) (And.intro (@cells_bool) (And.intro (@cells_ptr) (@cells_slice)))) (And.intro (And.intro (@cells_iface) (And.intro (@cells_niliface) (@cells_string))) (And.intro (@cells_func) (And.intro (@cells_nilfunc) (@cells_agg))))) (And.intro (And.intro (And.intro (@allOne_nil) (@allOne_cons)) (And.intro (@one_int) (And.intro (@one_bool) (@one_ptr)))) (And.intro (And.intro (@one_slice) (And.intro (@one_iface) (@one_niliface))) (And.intro (@one_string) (And.intro (@one_func) (@one_nilfunc))))))) (And.intro (And.intro (And.intro (And.intro (And.intro (@sc_nil) (@sc_cons)) (And.intro (@sc_int) (And.intro (@sc_bool) (@sc_string)))) (And.intro (And.intro (@sc_nilptr) (@sc_nilslice)) (And.intro (@sc_niliface) (And.intro (@sc_nilfunc) (@sc_iface))))) (And.intro (And.intro (And.intro (@sc_agg) (@sc_tuple)) (And.intro (@sc_func) (And.intro (@sc_yield) (@sc_ptr)))) (And.intro (And.intro (@sc_slice) (And.intro (@sc_add) (@sc_addL))) (And.intro (@lt_new) (And.intro (@lt_old) (@ne_new)))))) (And.intro (And.intro (And.intro (And.intro (@ne_old) (@ne_old')) (And.intro (@add_add) (And.intro (@m_length_cons) (@m_length_nil)))) (And.intro (And.intro (@m_set_cons_zero) (And.intro (@m_set_cons_succ) (@m_nil_append))) (And.intro (@m_cons_append) (And.intro (@m_drop_succ_cons) (@m_drop_zero))))) (And.intro (And.intro (And.intro (@m_take_succ_cons) (@m_take_zero)) (And.intro (@m_if_true) (And.intro (@lv_nil) (@leaveO_some)))) (And.intro (And.intro (@rs_nil) (And.intro (@rs_tmp) (@rs_cell))) (And.intro (@tup_nil) (And.intro (@tup_one) (@tup_two))))))))
theorem ruD : type_of% (And.intro (And.intro (And.intro (And.intro (And.intro (And.intro (@wd_store) (@storeV_some)) (And.intro (@wd_alloc) (And.intro (@wd_box) (@wd_buildSlice)))) (And.intro (And.intro (@newV_some) (And.intro (@wd_builtin) (@rb_max))) (And.intro (@rb_min) (And.intro (@rb_lenS) (@wd_gd))))) (And.intro (And.intro (And.intro (@gdV_some) (@guardV_true)) (And.intro (@guardV_ff) (And.intro (@guardV_tt) (@wd_move)))) (And.intro (And.intro (@wd_assign) (And.intro (@wd_nil) (@wd_not))) (And.intro (@wd_nilCheck) (And.intro (@wd_fieldAddr) (@wd_field)))))) (And.intro (And.intro (And.intro (And.intro (@wd_indexAddr) (@wd_load)) (And.intro (@wd_call) (And.intro (@wd_typeAssert) (@wd_extract)))) (And.intro (And.intro (@wd_build) (And.intro (@wd_pick) (@wd_iface))) (And.intro (@wd_bin) (And.intro (@reg_add) (@reg_sub))))) (And.intro (And.intro (And.intro (@reg_mul) (@reg_quo)) (And.intro (@reg_rem) (And.intro (@reg_lss) (@reg_leq)))) (And.intro (And.intro (@reg_gtr) (And.intro (@reg_geq) (@reg_eql))) (And.intro (@reg_neq) (And.intro (@reg_eqb) (@reg_neb))))))) (And.intro (And.intro (And.intro (And.intro (And.intro (@valD_some) (@loadV_some)) (And.intro (@plainPtr_eq) (And.intro (@ptrB_eq) (@wd_index)))) (And.intro (And.intro (@idsOk_nil) (And.intro (@idsOk_quiet) (@idsOk_empty))) (And.intro (@ids_int) (And.intro (@ids_bool) (@ids_func))))) (And.intro (And.intro (And.intro (@ids_nil) (@ids_ptr)) (And.intro (@meets_nil) (And.intro (@meets_quiet) (@m_true_and)))) (And.intro (And.intro (@idsOk_anc) (And.intro (@idsOk_new) (@m_false_implies))) (And.intro (@m_true_implies) (And.intro (@meets_anc) (@meets_bit)))))) (And.intro (And.intro (And.intro (And.intro (@meets_cons) (@meets_eq)) (And.intro (@meets_newer) (And.intro (@ids_at) (@idsB_eq)))) (And.intro (And.intro (@ids_iface) (And.intro (@ids_agg) (@idsL_nil))) (And.intro (@idsL_cons) (And.intro (@le_new) (@all2_nil))))) (And.intro (And.intro (And.intro (@all2_cons) (@nmem_one)) (And.intro (@nmem_nil) (And.intro (@nmem_cons) (@m_not_true_eq_false)))) (And.intro (And.intro (@m_implies_true) (And.intro (@m_and_true) (@m_or_true))) (And.intro (@m_true_or) (And.intro (@m_and_self) (@m_all_true)))))))) :=
  And.intro (And.intro (And.intro (And.intro (And.intro (And.intro (@wd_store) (@storeV_some)) (And.intro (@wd_alloc) (And.intro (@wd_box) (@wd_buildSlice)))) (And.intro (And.intro (@newV_some) (And.intro (@wd_builtin) (@rb_max))) (And.intro (@rb_min) (And.intro (@rb_lenS) (@wd_gd))))) (And.intro (And.intro (And.intro (@gdV_some) (@guardV_true)) (And.intro (@guardV_ff) (And.intro (@guardV_tt) (@wd_move)))) (And.intro (And.intro (@wd_assign) (And.intro (@wd_nil) (@wd_not))) (And.intro (@wd_nilCheck) (And.intro (@wd_fieldAddr) (@wd_field)))))) (And.intro (And.intro (And.intro (And.intro (@wd_indexAddr) (@wd_load)) (And.intro (@wd_call) (And.intro (@wd_typeAssert) (@wd_extract)))) (And.intro (And.intro (@wd_build) (And.intro (@wd_pick) (@wd_iface))) (And.intro (@wd_bin) (And.intro (@reg_add) (@reg_sub))))) (And.intro (And.intro (And.intro (@reg_mul) (@reg_quo)) (And.intro (@reg_rem) (And.intro (@reg_lss) (@reg_leq)))) (And.intro (And.intro (@reg_gtr) (And.intro (@reg_geq) (@reg_eql))) (And.intro (@reg_neq) (And.intro (@reg_eqb) (@reg_neb))))))) (And.intro (And.intro (And.intro (And.intro (And.intro (@valD_some) (@loadV_some)) (And.intro (@plainPtr_eq) (And.intro (@ptrB_eq) (@wd_index)))) (And.intro (And.intro (@idsOk_nil) (And.intro (@idsOk_quiet) (@idsOk_empty))) (And.intro (@ids_int) (And.intro (@ids_bool) (@ids_func))))) (And.intro (And.intro (And.intro (@ids_nil) (@ids_ptr)) (And.intro (@meets_nil) (And.intro (@meets_quiet) (@m_true_and)))) (And.intro (And.intro (@idsOk_anc) (And.intro (@idsOk_new) (@m_false_implies))) (And.intro (@m_true_implies) (And.intro (@meets_anc) (@meets_bit)))))) (And.intro (And.intro (And.intro (And.intro (@meets_cons) (@meets_eq)) (And.intro (@meets_newer) (And.intro (@ids_at) (@idsB_eq)))) (And.intro (And.intro (@ids_iface) (And.intro (@ids_agg) (@idsL_nil))) (And.intro (@idsL_cons) (And.intro (@le_new) (@all2_nil))))) (And.intro (And.intro (And.intro (@all2_cons) (@nmem_one)) (And.intro (@nmem_nil) (And.intro (@nmem_cons) (@m_not_true_eq_false)))) (And.intro (And.intro (@m_implies_true) (And.intro (@m_and_true) (@m_or_true))) (And.intro (@m_true_or) (And.intro (@m_and_self) (@m_all_true)))))))
end Go.Ax

/- Facts about the types and the functions of the program, by a program of ours (wip/tools/facts.py). -/
namespace Go.Proofs.Ytiedpcmdimgboaa
open Go.Ax
set_option maxRecDepth 100000

theorem xU4 : Try.prog.underlying 4 = some .bool := by kernel_rfl
theorem mixed : Try.prog.follows .mixedOrders = true := by kernel_rfl

theorem xFA :
    (∀ n off : Nat, aFieldAddr Try.prog 31 (.pointer (some ⟨n, off, none⟩)) 0 = some (.pointer (some ⟨n, off, none⟩))) ∧
    (∀ n off : Nat, aFieldAddr Try.prog 31 (.pointer (some ⟨n, off, none⟩)) 1 = some (.pointer (some ⟨n, off + 1, none⟩))) ∧
    (∀ n off : Nat, aFieldAddr Try.prog 31 (.pointer (some ⟨n, off, none⟩)) 2 = some (.pointer (some ⟨n, off + 2, none⟩))) ∧
    (∀ n off : Nat, aFieldAddr Try.prog 31 (.pointer (some ⟨n, off, none⟩)) 3 = some (.pointer (some ⟨n, off + 3, none⟩))) ∧
    (∀ n off : Nat, aFieldAddr Try.prog 31 (.pointer (some ⟨n, off, none⟩)) 4 = some (.pointer (some ⟨n, off + 4, none⟩))) ∧
    (∀ n off : Nat, aFieldAddr Try.prog 35 (.pointer (some ⟨n, off, none⟩)) 0 = some (.pointer (some ⟨n, off, none⟩))) ∧
    (∀ n off : Nat, aFieldAddr Try.prog 35 (.pointer (some ⟨n, off, none⟩)) 1 = some (.pointer (some ⟨n, off + 1, none⟩))) ∧
    (∀ n off : Nat, aFieldAddr Try.prog 35 (.pointer (some ⟨n, off, none⟩)) 2 = some (.pointer (some ⟨n, off + 2, none⟩))) ∧
    (∀ n off : Nat, aFieldAddr Try.prog 35 (.pointer (some ⟨n, off, none⟩)) 3 = some (.pointer (some ⟨n, off + 3, none⟩))) ∧
    (∀ n off : Nat, aFieldAddr Try.prog 35 (.pointer (some ⟨n, off, none⟩)) 4 = some (.pointer (some ⟨n, off + 4, none⟩))) ∧
    (∀ n off : Nat, aFieldAddr Try.prog 60 (.pointer (some ⟨n, off, none⟩)) 0 = some (.pointer (some ⟨n, off, none⟩))) ∧
    (∀ n off : Nat, aFieldAddr Try.prog 60 (.pointer (some ⟨n, off, none⟩)) 1 = some (.pointer (some ⟨n, off + 1, none⟩))) ∧
    (∀ n off : Nat, aFieldAddr Try.prog 60 (.pointer (some ⟨n, off, none⟩)) 2 = some (.pointer (some ⟨n, off + 2, none⟩))) ∧
    (∀ n off : Nat, aFieldAddr Try.prog 60 (.pointer (some ⟨n, off, none⟩)) 3 = some (.pointer (some ⟨n, off + 3, none⟩))) ∧
    (∀ n off : Nat, aFieldAddr Try.prog 60 (.pointer (some ⟨n, off, none⟩)) 4 = some (.pointer (some ⟨n, off + 4, none⟩))) ∧
    (∀ n off : Nat, aFieldAddr Try.prog 65 (.pointer (some ⟨n, off, none⟩)) 0 = some (.pointer (some ⟨n, off, none⟩))) ∧
    (∀ n off : Nat, aFieldAddr Try.prog 69 (.pointer (some ⟨n, off, none⟩)) 0 = some (.pointer (some ⟨n, off, none⟩))) ∧
    (∀ n off : Nat, aFieldAddr Try.prog 69 (.pointer (some ⟨n, off, none⟩)) 1 = some (.pointer (some ⟨n, off + 1, none⟩))) ∧
    (∀ n off : Nat, aFieldAddr Try.prog 69 (.pointer (some ⟨n, off, none⟩)) 2 = some (.pointer (some ⟨n, off + 2, none⟩))) ∧
    (∀ n off : Nat, aFieldAddr Try.prog 69 (.pointer (some ⟨n, off, none⟩)) 3 = some (.pointer (some ⟨n, off + 3, none⟩))) ∧
    (∀ n off : Nat, aFieldAddr Try.prog 69 (.pointer (some ⟨n, off, none⟩)) 4 = some (.pointer (some ⟨n, off + 4, none⟩))) ∧
    (∀ n off : Nat, aFieldAddr Try.prog 80 (.pointer (some ⟨n, off, none⟩)) 0 = some (.pointer (some ⟨n, off, none⟩))) ∧
    (∀ n off : Nat, aFieldAddr Try.prog 80 (.pointer (some ⟨n, off, none⟩)) 1 = some (.pointer (some ⟨n, off + 1, none⟩))) ∧
    (∀ n off : Nat, aFieldAddr Try.prog 80 (.pointer (some ⟨n, off, none⟩)) 2 = some (.pointer (some ⟨n, off + 2, none⟩))) ∧
    (∀ n off : Nat, aFieldAddr Try.prog 83 (.pointer (some ⟨n, off, none⟩)) 0 = some (.pointer (some ⟨n, off, none⟩))) ∧
    (∀ n off : Nat, aFieldAddr Try.prog 83 (.pointer (some ⟨n, off, none⟩)) 1 = some (.pointer (some ⟨n, off + 1, none⟩))) ∧
    (∀ n off : Nat, aFieldAddr Try.prog 83 (.pointer (some ⟨n, off, none⟩)) 2 = some (.pointer (some ⟨n, off + 2, none⟩))) ∧
    (∀ n off : Nat, aFieldAddr Try.prog 83 (.pointer (some ⟨n, off, none⟩)) 3 = some (.pointer (some ⟨n, off + 3, none⟩))) ∧
    (∀ n off : Nat, aFieldAddr Try.prog 83 (.pointer (some ⟨n, off, none⟩)) 4 = some (.pointer (some ⟨n, off + 4, none⟩))) ∧
    (∀ n off : Nat, aFieldAddr Try.prog 85 (.pointer (some ⟨n, off, none⟩)) 0 = some (.pointer (some ⟨n, off, none⟩))) ∧
    (∀ n off : Nat, aFieldAddr Try.prog 85 (.pointer (some ⟨n, off, none⟩)) 1 = some (.pointer (some ⟨n, off + 1, none⟩))) ∧
    (∀ n off : Nat, aFieldAddr Try.prog 100 (.pointer (some ⟨n, off, none⟩)) 0 = some (.pointer (some ⟨n, off, none⟩))) ∧
    (∀ n off : Nat, aFieldAddr Try.prog 100 (.pointer (some ⟨n, off, none⟩)) 1 = some (.pointer (some ⟨n, off + 1, none⟩))) ∧
    (∀ n off : Nat, aFieldAddr Try.prog 100 (.pointer (some ⟨n, off, none⟩)) 2 = some (.pointer (some ⟨n, off + 2, none⟩))) ∧
    (∀ n off : Nat, aFieldAddr Try.prog 100 (.pointer (some ⟨n, off, none⟩)) 3 = some (.pointer (some ⟨n, off + 3, none⟩))) ∧
    (∀ n off : Nat, aFieldAddr Try.prog 100 (.pointer (some ⟨n, off, none⟩)) 4 = some (.pointer (some ⟨n, off + 4, none⟩))) := by
  refine ⟨?_, ?_, ?_, ?_, ?_, ?_, ?_, ?_, ?_, ?_, ?_, ?_, ?_, ?_, ?_, ?_, ?_, ?_, ?_, ?_, ?_, ?_, ?_, ?_, ?_, ?_, ?_, ?_, ?_, ?_, ?_, ?_, ?_, ?_, ?_, ?_⟩
  all_goals first | trivial | (intros; kernel_rfl)

theorem xFD :
    (True) := by
  refine ?_
  all_goals first | trivial | (intros; kernel_rfl)

theorem xIA :
    (∀ n off : Nat, aIndexAddr Try.prog 78 (.pointer (some ⟨n, off, none⟩)) (.int .i64 0) = some (.pointer (some ⟨n, off, none⟩))) ∧
    (∀ n off : Nat, aIndexAddr Try.prog 78 (.pointer (some ⟨n, off, none⟩)) (.int .i64 1) = some (.pointer (some ⟨n, off + 1, none⟩))) ∧
    (∀ n off : Nat, aIndexAddr Try.prog 123 (.pointer (some ⟨n, off, none⟩)) (.int .i64 0) = some (.pointer (some ⟨n, off, none⟩))) ∧
    (∀ n off : Nat, aIndexAddr Try.prog 123 (.pointer (some ⟨n, off, none⟩)) (.int .i64 1) = some (.pointer (some ⟨n, off + 5, none⟩))) := by
  refine ⟨?_, ?_, ?_, ?_⟩
  all_goals first | trivial | (intros; kernel_rfl)

theorem xSz :
    (szOf Try.prog 3 = some 1) ∧
    (aggT Try.prog 3 = some false) ∧
    (szOf Try.prog 4 = some 1) ∧
    (aggT Try.prog 4 = some false) ∧
    (szOf Try.prog 24 = some 1) ∧
    (aggT Try.prog 24 = some false) ∧
    (szOf Try.prog 31 = some 5) ∧
    (aggT Try.prog 31 = some true) ∧
    (szOf Try.prog 32 = some 1) ∧
    (aggT Try.prog 32 = some false) ∧
    (szOf Try.prog 35 = some 5) ∧
    (aggT Try.prog 35 = some true) ∧
    (szOf Try.prog 58 = some 1) ∧
    (aggT Try.prog 58 = some false) ∧
    (szOf Try.prog 60 = some 5) ∧
    (aggT Try.prog 60 = some true) ∧
    (szOf Try.prog 65 = some 1) ∧
    (aggT Try.prog 65 = some true) ∧
    (szOf Try.prog 67 = some 1) ∧
    (aggT Try.prog 67 = some false) ∧
    (szOf Try.prog 69 = some 5) ∧
    (aggT Try.prog 69 = some true) ∧
    (szOf Try.prog 80 = some 4) ∧
    (aggT Try.prog 80 = some true) ∧
    (szOf Try.prog 82 = some 1) ∧
    (aggT Try.prog 82 = some false) ∧
    (szOf Try.prog 83 = some 5) ∧
    (aggT Try.prog 83 = some true) ∧
    (szOf Try.prog 85 = some 6) ∧
    (aggT Try.prog 85 = some true) ∧
    (szOf Try.prog 100 = some 5) ∧
    (aggT Try.prog 100 = some true) ∧
    (szOf Try.prog 123 = some 10) ∧
    (aggT Try.prog 123 = some true) := by
  refine ⟨?_, ?_, ?_, ?_, ?_, ?_, ?_, ?_, ?_, ?_, ?_, ?_, ?_, ?_, ?_, ?_, ?_, ?_, ?_, ?_, ?_, ?_, ?_, ?_, ?_, ?_, ?_, ?_, ?_, ?_, ?_, ?_, ?_, ?_⟩
  all_goals first | trivial | (intros; kernel_rfl)

theorem xZ :
    (zeroOf Try.prog 3 = some (.int .i64 0)) ∧
    (zeroOf Try.prog 4 = some (.bool false)) ∧
    (zeroOf Try.prog 24 = some (.pointer none)) ∧
    (zeroOf Try.prog 31 = some (.agg #[.int .i64 0, .int .i64 0, .int .i64 0, .int .i64 0, .bool false])) ∧
    (zeroOf Try.prog 32 = some (.slice none 0 0)) ∧
    (zeroOf Try.prog 35 = some (.agg #[.int .i64 0, .int .i64 0, .int .i64 0, .int .i64 0, .int .i64 0])) ∧
    (zeroOf Try.prog 60 = some (.agg #[.pointer none, .int .i64 0, .int .i64 0, .int .i64 0, .int .i64 0])) ∧
    (zeroOf Try.prog 65 = some (.agg #[.int .i64 0])) ∧
    (zeroOf Try.prog 69 = some (.agg #[.nilIface, .int .i64 0, .int .i64 0, .int .i64 0, .int .i64 0])) ∧
    (zeroOf Try.prog 80 = some (.agg #[.bool false, .int .i64 0, .nilIface, .nilIface])) ∧
    (zeroOf Try.prog 83 = some (.agg #[.int .i64 0, .int .i64 0, .int .i64 0, .int .i64 0, .int .i64 0])) ∧
    (zeroOf Try.prog 85 = some (.agg #[.pointer none, .int .i64 0, .int .i64 0, .int .i64 0, .int .i64 0, .int .i64 0])) ∧
    (zeroOf Try.prog 100 = some (.agg #[.int .i64 0, .bool false, .int .i64 0, .pointer none, .pointer none])) ∧
    (zeroOf Try.prog 123 = some (.agg #[.int .i64 0, .int .i64 0, .int .i64 0, .int .i64 0, .int .i64 0, .int .i64 0, .int .i64 0, .int .i64 0, .int .i64 0, .int .i64 0])) := by
  refine ⟨?_, ?_, ?_, ?_, ?_, ?_, ?_, ?_, ?_, ?_, ?_, ?_, ?_, ?_⟩
  all_goals first | trivial | (intros; kernel_rfl)

theorem xSl :
    (Try.prog.underlying 22 = some (.slice 31)) ∧
    (Try.prog.underlying 32 = some (.slice 35)) ∧
    (Try.prog.underlying 75 = some (.slice 85)) ∧
    (Try.prog.underlying 94 = some (.slice 3)) ∧
    (Try.prog.underlying 124 = some (.slice 32)) ∧
    (Try.prog.underlying 3 = some (.int .i64)) ∧
    (bytesOf Try.prog 3 = some 8) ∧
    (bytesOf Try.prog 31 = some 40) ∧
    (bytesOf Try.prog 32 = some 24) ∧
    (bytesOf Try.prog 35 = some 40) ∧
    (bytesOf Try.prog 85 = some 48) ∧
    (intTy Try.prog 22 = some false) ∧
    (intTy Try.prog 32 = some false) ∧
    (intTy Try.prog 75 = some false) ∧
    (intTy Try.prog 94 = some false) ∧
    (intTy Try.prog 124 = some false) ∧
    (intTy Try.prog 3 = some true) := by
  refine ⟨?_, ?_, ?_, ?_, ?_, ?_, ?_, ?_, ?_, ?_, ?_, ?_, ?_, ?_, ?_, ?_, ?_⟩
  all_goals first | trivial | (intros; kernel_rfl)

theorem xBd :
    (aBuild Try.prog 35 [] = some (.agg #[.int .i64 0, .int .i64 0, .int .i64 0, .int .i64 0, .int .i64 0])) ∧
    (∀ (x1 : Int) (x2 : Int) (x3 : Int) (x4 : Int), aBuild Try.prog 35 [(0, .int .i64 x1), (1, .int .i64 x2), (3, .int .i64 x3), (4, .int .i64 x4)] = some (.agg #[.int .i64 x1, .int .i64 x2, .int .i64 0, .int .i64 x3, .int .i64 x4])) ∧
    (∀ (x5 : Int) (x6 : Int) (x7 : Int), aBuild Try.prog 35 [(0, .int .i64 x5), (3, .int .i64 x6), (4, .int .i64 x7)] = some (.agg #[.int .i64 x5, .int .i64 0, .int .i64 0, .int .i64 x6, .int .i64 x7])) ∧
    (∀ (x8 : Int) (x9 : Int) (x10 : Int) (x11 : Int), aBuild Try.prog 35 [(1, .int .i64 x8), (2, .int .i64 x9), (3, .int .i64 x10), (4, .int .i64 x11)] = some (.agg #[.int .i64 0, .int .i64 x8, .int .i64 x9, .int .i64 x10, .int .i64 x11])) ∧
    (∀ (x12 : Int) (x13 : Int), aBuild Try.prog 35 [(3, .int .i64 x12), (4, .int .i64 x13)] = some (.agg #[.int .i64 0, .int .i64 0, .int .i64 0, .int .i64 x12, .int .i64 x13])) ∧
    (∀ (x14 : Option Addr) (x15 : Int) (x16 : Int) (x17 : Int) (x18 : Int), aBuild Try.prog 60 [(0, .pointer x14), (1, .int .i64 x15), (2, .int .i64 x16), (3, .int .i64 x17), (4, .int .i64 x18)] = some (.agg #[.pointer x14, .int .i64 x15, .int .i64 x16, .int .i64 x17, .int .i64 x18])) ∧
    (∀ (x19 : Int), aBuild Try.prog 65 [(0, .int .i64 x19)] = some (.agg #[.int .i64 x19])) ∧
    (∀ (x20 : TypeId) (y20 : Value) (x21 : Int) (x22 : Int) (x23 : Int) (x24 : Int), aBuild Try.prog 69 [(0, .iface x20 y20), (1, .int .i64 x21), (2, .int .i64 x22), (3, .int .i64 x23), (4, .int .i64 x24)] = some (.agg #[.iface x20 y20, .int .i64 x21, .int .i64 x22, .int .i64 x23, .int .i64 x24])) ∧
    (∀ (x21 : Int) (x22 : Int) (x23 : Int) (x24 : Int), aBuild Try.prog 69 [(0, .nilIface), (1, .int .i64 x21), (2, .int .i64 x22), (3, .int .i64 x23), (4, .int .i64 x24)] = some (.agg #[.nilIface, .int .i64 x21, .int .i64 x22, .int .i64 x23, .int .i64 x24])) ∧
    (∀ (x25 : TypeId) (y25 : Value) (x26 : TypeId) (y26 : Value), aBuild Try.prog 78 [(0, .iface x25 y25), (1, .iface x26 y26)] = some (.agg #[.iface x25 y25, .iface x26 y26])) ∧
    (∀ (x25 : TypeId) (y25 : Value), aBuild Try.prog 78 [(0, .iface x25 y25), (1, .nilIface)] = some (.agg #[.iface x25 y25, .nilIface])) ∧
    (∀ (x26 : TypeId) (y26 : Value), aBuild Try.prog 78 [(0, .nilIface), (1, .iface x26 y26)] = some (.agg #[.nilIface, .iface x26 y26])) ∧
    (aBuild Try.prog 78 [(0, .nilIface), (1, .nilIface)] = some (.agg #[.nilIface, .nilIface])) ∧
    (∀ (x27 : Bool) (x28 : Int) (c29_0 c29_1 : Value), aBuild Try.prog 80 [(0, .bool x27), (1, .int .i64 x28), (2, .agg #[c29_0, c29_1])] = some (.agg #[.bool x27, .int .i64 x28, c29_0, c29_1])) ∧
    (∀ (x30 : Int) (x31 : Int), aBuild Try.prog 83 [(3, .int .i64 x30), (4, .int .i64 x31)] = some (.agg #[.int .i64 0, .int .i64 0, .int .i64 0, .int .i64 x30, .int .i64 x31])) ∧
    (∀ (x32 : Option Addr) (c33_0 c33_1 c33_2 c33_3 c33_4 : Value), aBuild Try.prog 85 [(0, .pointer x32), (1, .agg #[c33_0, c33_1, c33_2, c33_3, c33_4])] = some (.agg #[.pointer x32, c33_0, c33_1, c33_2, c33_3, c33_4])) ∧
    (∀ (x34 : Int), aBuild Try.prog 100 [(0, .int .i64 x34)] = some (.agg #[.int .i64 x34, .bool false, .int .i64 0, .pointer none, .pointer none])) ∧
    (∀ (x35 : Bool) (x36 : Int) (x37 : Option Addr) (x38 : Option Addr), aBuild Try.prog 100 [(1, .bool x35), (2, .int .i64 x36), (3, .pointer x37), (4, .pointer x38)] = some (.agg #[.int .i64 0, .bool x35, .int .i64 x36, .pointer x37, .pointer x38])) ∧
    (∀ (x39 : Fn) (y39 z39 : Array Value) (x40 : Fn) (y40 z40 : Array Value), aBuild Try.prog 109 [(0, .func x39 y39 z39), (1, .func x40 y40 z40)] = some (.agg #[.func x39 y39 z39, .func x40 y40 z40])) ∧
    (∀ (x39 : Fn) (y39 z39 : Array Value), aBuild Try.prog 109 [(0, .func x39 y39 z39), (1, .nilFunc)] = some (.agg #[.func x39 y39 z39, .nilFunc])) ∧
    (∀ (x40 : Fn) (y40 z40 : Array Value), aBuild Try.prog 109 [(0, .nilFunc), (1, .func x40 y40 z40)] = some (.agg #[.nilFunc, .func x40 y40 z40])) ∧
    (aBuild Try.prog 109 [(0, .nilFunc), (1, .nilFunc)] = some (.agg #[.nilFunc, .nilFunc])) ∧
    (∀ (x41 : Int) (x42 : Int), aBuild Try.prog 111 [(0, .int .i64 x41), (1, .int .i64 x42)] = some (.agg #[.int .i64 x41, .int .i64 x42])) ∧
    (aBuild Try.prog 123 [] = some (.agg #[.int .i64 0, .int .i64 0, .int .i64 0, .int .i64 0, .int .i64 0, .int .i64 0, .int .i64 0, .int .i64 0, .int .i64 0, .int .i64 0])) := by
  refine ⟨?_, ?_, ?_, ?_, ?_, ?_, ?_, ?_, ?_, ?_, ?_, ?_, ?_, ?_, ?_, ?_, ?_, ?_, ?_, ?_, ?_, ?_, ?_, ?_⟩
  all_goals first | trivial | (intros; kernel_rfl)

theorem xBs :
    (∀ H : AHeap, ∀ (c43_0 c43_1 c43_2 c43_3 c43_4 : Value), aBuildSlice Try.prog H 32 1 [(0, .agg #[c43_0, c43_1, c43_2, c43_3, c43_4])] = (aNew H 35 [c43_0, c43_1, c43_2, c43_3, c43_4] false).map fun g => (.slice (some ⟨H.next, 0, some 0⟩) 1 1, g)) ∧
    (∀ H : AHeap, ∀ (c44_0 c44_1 c44_2 c44_3 c44_4 : Value) (c45_0 c45_1 c45_2 c45_3 c45_4 : Value), aBuildSlice Try.prog H 32 2 [(0, .agg #[c44_0, c44_1, c44_2, c44_3, c44_4]), (1, .agg #[c45_0, c45_1, c45_2, c45_3, c45_4])] = (aNew H 35 [c44_0, c44_1, c44_2, c44_3, c44_4, c45_0, c45_1, c45_2, c45_3, c45_4] false).map fun g => (.slice (some ⟨H.next, 0, some 0⟩) 2 2, g)) ∧
    (∀ H : AHeap, ∀ (c46_0 c46_1 c46_2 c46_3 c46_4 c46_5 : Value), aBuildSlice Try.prog H 75 1 [(0, .agg #[c46_0, c46_1, c46_2, c46_3, c46_4, c46_5])] = (aNew H 85 [c46_0, c46_1, c46_2, c46_3, c46_4, c46_5] false).map fun g => (.slice (some ⟨H.next, 0, some 0⟩) 1 1, g)) ∧
    (∀ H : AHeap, ∀ (x47 : Option Addr) (y47 z47 : Nat) (x48 : Option Addr) (y48 z48 : Nat) (x49 : Option Addr) (y49 z49 : Nat), aBuildSlice Try.prog H 124 3 [(0, .slice x47 y47 z47), (1, .slice x48 y48 z48), (2, .slice x49 y49 z49)] = (aNew H 32 [.slice x47 y47 z47, .slice x48 y48 z48, .slice x49 y49 z49] false).map fun g => (.slice (some ⟨H.next, 0, some 0⟩) 3 3, g)) := by
  refine ⟨?_, ?_, ?_, ?_⟩
  all_goals first | trivial | (intros; kernel_rfl)

theorem xTA :
    (∀ v : Value, aTypeAssert Try.prog (.iface 9 v) 63 true = some (.tuple #[.pointer none, .bool false])) ∧
    (∀ v : Value, aTypeAssert Try.prog (.iface 63 v) 63 true = some (.tuple #[v, .bool true])) ∧
    (∀ v : Value, aTypeAssert Try.prog (.iface 81 v) 63 true = some (.tuple #[.pointer none, .bool false])) ∧
    (∀ v : Value, aTypeAssert Try.prog (.iface 81 v) 81 false = some (v)) ∧
    (∀ v : Value, aTypeAssert Try.prog (.iface 9 v) 81 true = some (.tuple #[.pointer none, .bool false])) ∧
    (∀ v : Value, aTypeAssert Try.prog (.iface 63 v) 81 true = some (.tuple #[.pointer none, .bool false])) ∧
    (∀ v : Value, aTypeAssert Try.prog (.iface 81 v) 81 true = some (.tuple #[v, .bool true])) := by
  refine ⟨?_, ?_, ?_, ?_, ?_, ?_, ?_⟩
  all_goals first | trivial | (intros; kernel_rfl)

theorem xMI :
    (∀ v : Value, ifaceW Try.prog 9 v = some (.iface 9 v)) ∧
    (∀ v : Value, ifaceW Try.prog 63 v = some (.iface 63 v)) ∧
    (∀ v : Value, ifaceW Try.prog 81 v = some (.iface 81 v)) := by
  refine ⟨?_, ?_, ?_⟩
  all_goals first | trivial | (intros; kernel_rfl)

theorem xCm :
    (∀ (H : AHeap) (a : Addr), aBin Try.prog H .eql 24 (.pointer (some a)) (.pointer none) = some (.bool false)) ∧
    (∀ (H : AHeap), aBin Try.prog H .eql 24 (.pointer none) (.pointer none) = some (.bool true)) ∧
    (∀ (H : AHeap) (a : Addr), aBin Try.prog H .neq 24 (.pointer (some a)) (.pointer none) = some (.bool true)) ∧
    (∀ (H : AHeap), aBin Try.prog H .neq 24 (.pointer none) (.pointer none) = some (.bool false)) ∧
    (∀ (H : AHeap) (a : Addr), aBin Try.prog H .eql 52 (.pointer (some a)) (.pointer none) = some (.bool false)) ∧
    (∀ (H : AHeap), aBin Try.prog H .eql 52 (.pointer none) (.pointer none) = some (.bool true)) ∧
    (∀ (H : AHeap) (a : Addr), aBin Try.prog H .neq 52 (.pointer (some a)) (.pointer none) = some (.bool true)) ∧
    (∀ (H : AHeap), aBin Try.prog H .neq 52 (.pointer none) (.pointer none) = some (.bool false)) ∧
    (∀ (H : AHeap) (a : Addr), aBin Try.prog H .eql 58 (.pointer (some a)) (.pointer none) = some (.bool false)) ∧
    (∀ (H : AHeap), aBin Try.prog H .eql 58 (.pointer none) (.pointer none) = some (.bool true)) ∧
    (∀ (H : AHeap) (a : Addr), aBin Try.prog H .neq 58 (.pointer (some a)) (.pointer none) = some (.bool true)) ∧
    (∀ (H : AHeap), aBin Try.prog H .neq 58 (.pointer none) (.pointer none) = some (.bool false)) ∧
    (∀ (H : AHeap) (u : TypeId) (v : Value), aBin Try.prog H .eql 67 (.iface u v) (.nilIface) = some (.bool false)) ∧
    (∀ (H : AHeap) (u : TypeId) (v : Value), aBin Try.prog H .neq 67 (.iface u v) (.nilIface) = some (.bool true)) ∧
    (∀ (H : AHeap) (a : Addr) (n c : Nat), aBin Try.prog H .eql 75 (.slice (some a) n c) (.slice none 0 0) = some (.bool false)) ∧
    (∀ (H : AHeap) (n c : Nat), aBin Try.prog H .eql 75 (.slice none n c) (.slice none 0 0) = some (.bool true)) ∧
    (∀ (H : AHeap) (a : Addr) (n c : Nat), aBin Try.prog H .neq 75 (.slice (some a) n c) (.slice none 0 0) = some (.bool true)) ∧
    (∀ (H : AHeap) (n c : Nat), aBin Try.prog H .neq 75 (.slice none n c) (.slice none 0 0) = some (.bool false)) ∧
    (∀ (H : AHeap) (a : Addr), aBin Try.prog H .eql 82 (.pointer (some a)) (.pointer none) = some (.bool false)) ∧
    (∀ (H : AHeap), aBin Try.prog H .eql 82 (.pointer none) (.pointer none) = some (.bool true)) ∧
    (∀ (H : AHeap) (a : Addr), aBin Try.prog H .neq 82 (.pointer (some a)) (.pointer none) = some (.bool true)) ∧
    (∀ (H : AHeap), aBin Try.prog H .neq 82 (.pointer none) (.pointer none) = some (.bool false)) := by
  refine ⟨?_, ?_, ?_, ?_, ?_, ?_, ?_, ?_, ?_, ?_, ?_, ?_, ?_, ?_, ?_, ?_, ?_, ?_, ?_, ?_, ?_, ?_⟩
  all_goals first | trivial | (intros; kernel_rfl)

theorem xHB :
    (hasBody Try.prog 3 = true) ∧
    (hasBody Try.prog 4 = true) ∧
    (hasBody Try.prog 5 = true) ∧
    (hasBody Try.prog 7 = true) ∧
    (hasBody Try.prog 8 = true) ∧
    (hasBody Try.prog 9 = true) ∧
    (hasBody Try.prog 10 = true) ∧
    (hasBody Try.prog 11 = true) ∧
    (hasBody Try.prog 12 = true) ∧
    (hasBody Try.prog 13 = true) ∧
    (hasBody Try.prog 14 = true) ∧
    (hasBody Try.prog 15 = true) ∧
    (hasBody Try.prog 16 = true) ∧
    (hasBody Try.prog 17 = true) ∧
    (hasBody Try.prog 18 = true) ∧
    (hasBody Try.prog 19 = true) ∧
    (hasBody Try.prog 20 = true) ∧
    (hasBody Try.prog 21 = true) ∧
    (hasBody Try.prog 22 = true) ∧
    (hasBody Try.prog 23 = true) ∧
    (hasBody Try.prog 24 = true) ∧
    (hasBody Try.prog 25 = true) ∧
    (hasBody Try.prog 26 = true) ∧
    (hasBody Try.prog 27 = true) ∧
    (hasBody Try.prog 28 = true) ∧
    (hasBody Try.prog 29 = true) ∧
    (hasBody Try.prog 30 = true) ∧
    (hasBody Try.prog 31 = true) ∧
    (hasBody Try.prog 32 = true) ∧
    (hasBody Try.prog 33 = true) ∧
    (hasBody Try.prog 34 = true) ∧
    (hasBody Try.prog 35 = true) ∧
    (hasBody Try.prog 36 = true) ∧
    (hasBody Try.prog 37 = true) ∧
    (hasBody Try.prog 38 = true) ∧
    (hasBody Try.prog 39 = true) ∧
    (hasBody Try.prog 40 = true) ∧
    (hasBody Try.prog 41 = true) ∧
    (hasBody Try.prog 42 = true) ∧
    (hasBody Try.prog 43 = true) ∧
    (hasBody Try.prog 44 = true) ∧
    (hasBody Try.prog 45 = true) ∧
    (hasBody Try.prog 46 = true) ∧
    (hasBody Try.prog 47 = true) ∧
    (hasBody Try.prog 48 = true) ∧
    (hasBody Try.prog 49 = true) ∧
    (hasBody Try.prog 50 = true) ∧
    (hasBody Try.prog 51 = true) ∧
    (hasBody Try.prog 52 = true) ∧
    (hasBody Try.prog 53 = true) ∧
    (hasBody Try.prog 54 = true) ∧
    (hasBody Try.prog 55 = true) ∧
    (hasBody Try.prog 56 = true) ∧
    (hasBody Try.prog 57 = true) ∧
    (hasBody Try.prog 58 = true) ∧
    (hasBody Try.prog 59 = true) ∧
    (hasBody Try.prog 60 = true) ∧
    (hasBody Try.prog 61 = true) ∧
    (hasBody Try.prog 62 = true) ∧
    (hasBody Try.prog 63 = true) ∧
    (hasBody Try.prog 64 = true) ∧
    (hasBody Try.prog 65 = true) ∧
    (hasBody Try.prog 66 = true) ∧
    (hasBody Try.prog 67 = true) ∧
    (hasBody Try.prog 68 = true) ∧
    (hasBody Try.prog 69 = true) ∧
    (hasBody Try.prog 70 = true) ∧
    (hasBody Try.prog 71 = true) ∧
    (hasBody Try.prog 72 = true) ∧
    (hasBody Try.prog 73 = true) ∧
    (hasBody Try.prog 74 = true) ∧
    (hasBody Try.prog 75 = true) ∧
    (hasBody Try.prog 76 = true) ∧
    (hasBody Try.prog 77 = true) ∧
    (hasBody Try.prog 78 = true) ∧
    (hasBody Try.prog 79 = true) ∧
    (hasBody Try.prog 80 = true) ∧
    (hasBody Try.prog 81 = true) ∧
    (hasBody Try.prog 82 = true) ∧
    (hasBody Try.prog 83 = true) ∧
    (hasBody Try.prog 84 = true) ∧
    (hasBody Try.prog 85 = true) ∧
    (hasBody Try.prog 86 = true) ∧
    (hasBody Try.prog 87 = true) ∧
    (hasBody Try.prog 88 = true) ∧
    (hasBody Try.prog 89 = true) ∧
    (hasBody Try.prog 106 = true) ∧
    (hasBody Try.prog 107 = true) := by
  refine ⟨?_, ?_, ?_, ?_, ?_, ?_, ?_, ?_, ?_, ?_, ?_, ?_, ?_, ?_, ?_, ?_, ?_, ?_, ?_, ?_, ?_, ?_, ?_, ?_, ?_, ?_, ?_, ?_, ?_, ?_, ?_, ?_, ?_, ?_, ?_, ?_, ?_, ?_, ?_, ?_, ?_, ?_, ?_, ?_, ?_, ?_, ?_, ?_, ?_, ?_, ?_, ?_, ?_, ?_, ?_, ?_, ?_, ?_, ?_, ?_, ?_, ?_, ?_, ?_, ?_, ?_, ?_, ?_, ?_, ?_, ?_, ?_, ?_, ?_, ?_, ?_, ?_, ?_, ?_, ?_, ?_, ?_, ?_, ?_, ?_, ?_, ?_, ?_⟩
  all_goals first | trivial | (intros; kernel_rfl)

theorem xF : type_of% (And.intro @xFA ( And.intro @xFD ( And.intro @xIA ( And.intro @xSz ( And.intro @xZ ( And.intro @xSl ( And.intro @xBd ( And.intro @xBs ( And.intro @xTA ( And.intro @xMI ( And.intro @xCm ( And.intro @xHB (@xU4))))))))))))) :=
  And.intro @xFA ( And.intro @xFD ( And.intro @xIA ( And.intro @xSz ( And.intro @xZ ( And.intro @xSl ( And.intro @xBd ( And.intro @xBs ( And.intro @xTA ( And.intro @xMI ( And.intro @xCm ( And.intro @xHB (@xU4))))))))))))

end Go.Proofs.Ytiedpcmdimgboaa

/- Trees of windows in the abstract heap; what the small functions of package window come to. -/
namespace Go.Proofs.Ytiedpcmdimgboaa
open Go.Ax
set_option linter.unusedSimpArgs false
set_option maxRecDepth 10000

abbrev Pure (f : FuncId) (args : List Value) (H : AHeap) (v : Value) : Prop := CallS Try.prog f args H (.ok v) H

structure Rc where
  id : Int
  top : Int
  left : Int
  h : Int
  w : Int
deriving DecidableEq

def Rc.cells (r : Rc) : List Value := [.int .i64 r.id, .int .i64 r.top, .int .i64 r.left, .int .i64 r.h, .int .i64 r.w]
def Rc.val (r : Rc) : Value := .agg #[.int .i64 r.id, .int .i64 r.top, .int .i64 r.left, .int .i64 r.h, .int .i64 r.w]
def Rc.size (r : Rc) (be : Bool) : Int := if be then r.h else r.w

abbrev w64 (n : Int) : Int := IntKind.i64.wrap n

theorem index_c (b : Bool) (H : AHeap) : Pure 72 [.bool b] H (.int .i64 (if b then 1 else 0)) := by
  refine callS_fn mixed Try.func72 rfl Try.ntmps72 (Nat.le_of_ble_eq_true rfl) fun wf hsc => ?_
  cases b <;>
  (simp (maxDischargeDepth := 6) only [Try.results72, ruW, putL, Nat.reduceLeDiff, xF, ruU, entryE, Nat.reduceLT, Nat.reduceAdd, Nat.reduceMul, Nat.reduceEqDiff]
   exact Fin.pure rfl)

theorem width_c (r : Rc) (H : AHeap) : Pure 70 [r.val] H (.int .i64 r.w) := by
  obtain ⟨b, hb⟩ : ∃ b, H.next = b := ⟨_, rfl⟩
  refine callS_fn mixed Try.func70 rfl Try.ntmps70 (Nat.le_of_ble_eq_true rfl) fun wf hsc => ?_
  simp (maxDischargeDepth := 6) only [Rc.val, hb, Try.results70, ruW, putL, Nat.reduceLeDiff, xF, ruU, entryE, Nat.reduceLT, Nat.reduceAdd, Nat.reduceMul, Nat.reduceEqDiff]
  exact Fin.pure rfl

theorem height_c (r : Rc) (H : AHeap) : Pure 71 [r.val] H (.int .i64 r.h) := by
  obtain ⟨b, hb⟩ : ∃ b, H.next = b := ⟨_, rfl⟩
  refine callS_fn mixed Try.func71 rfl Try.ntmps71 (Nat.le_of_ble_eq_true rfl) fun wf hsc => ?_
  simp (maxDischargeDepth := 6) only [Rc.val, hb, Try.results71, ruW, putL, Nat.reduceLeDiff, xF, ruU, entryE, Nat.reduceLT, Nat.reduceAdd, Nat.reduceMul, Nat.reduceEqDiff]
  exact Fin.pure rfl

def bar (be : Bool) : Int := if be then 0 else 1

theorem bar_c (be : Bool) (H : AHeap) : Pure 43 [.bool be] H (.int .i64 (bar be)) := by
  refine callS_fn mixed Try.func43 rfl Try.ntmps43 (Nat.le_of_ble_eq_true rfl) fun wf hsc => ?_
  simp (maxDischargeDepth := 6) only [ruW, putL, Nat.reduceLeDiff, xF, ruU, entryE, Nat.reduceLT, Nat.reduceAdd, Nat.reduceMul, Nat.reduceEqDiff]
  refine (index_c be _).to ?_
  simp (maxDischargeDepth := 6) only [Try.results43, ruW, putL, Nat.reduceLeDiff, xF, ruU, entryE, Nat.reduceLT, Nat.reduceAdd, Nat.reduceMul, Nat.reduceEqDiff]
  cases be <;> exact Fin.pure rfl


theorem ix109 (b : Bool) : aIndex Try.prog 109 (.agg #[.func (.func 70) #[] #[], .func (.func 71) #[] #[]]) (.int .i64 (if b then 1 else 0)) = some (.func (.func (if b then 71 else 70)) #[] #[]) := by cases b <;> kernel_rfl
theorem ix111 (x y : Int) (b : Bool) : aIndex Try.prog 111 (.agg #[.int .i64 x, .int .i64 y]) (.int .i64 (if b then 1 else 0)) = some (.int .i64 (if b then y else x)) := by cases b <;> kernel_rfl

theorem size_c (r : Rc) (be : Bool) (H : AHeap) : Pure 42 [r.val, .bool be] H (.int .i64 (r.size be)) := by
  obtain ⟨b, hb⟩ : ∃ b, H.next = b := ⟨_, rfl⟩
  refine callS_fn mixed Try.func42 rfl Try.ntmps42 (Nat.le_of_ble_eq_true rfl) fun wf hsc => ?_
  simp (maxDischargeDepth := 6) only [Rc.val, hb, ruW, putL, Nat.reduceLeDiff, xF, ruU, entryE, Nat.reduceLT, Nat.reduceAdd, Nat.reduceMul, Nat.reduceEqDiff]
  refine w_drawB [] [] (by kernel_rfl) rfl rfl fun ops anc hA hG => ?_
  simp (maxDischargeDepth := 6) only [hb, ruD, ruW, putL, Nat.reduceLeDiff, xF, ruU, entryE, Nat.reduceLT, Nat.reduceAdd, Nat.reduceMul, Nat.reduceEqDiff]
  refine genV_quiet (v := .int .i64 (if be then 1 else 0)) [] (by simp (maxDischargeDepth := 6) only [ruU, entryE, Nat.reduceLT, Nat.reduceAdd, Nat.reduceMul, Nat.reduceEqDiff]) (by kernel_rfl) (by decide) (by simp) (fun G hn _ => ?_) (by simp (maxDischargeDepth := 6) only [ruD, ruW, putL, Nat.reduceLeDiff, xF, ruU, entryE, Nat.reduceLT, Nat.reduceAdd, Nat.reduceMul, Nat.reduceEqDiff]) ?_
  · simp only [ruU, entryE, Nat.reduceLT, Nat.reduceAdd, Nat.reduceMul, Nat.reduceEqDiff]
    exact index_c be G
  simp (maxDischargeDepth := 6) only [ix109, hb, ruD, ruW, putL, Nat.reduceLeDiff, xF, ruU, entryE, Nat.reduceLT, Nat.reduceAdd, Nat.reduceMul, Nat.reduceEqDiff]
  refine genV_quietV (f := if be then 71 else 70) (ca := []) (v := .int .i64 (r.size be)) [] (by simp (maxDischargeDepth := 6) only [ruU, entryE, Nat.reduceLT, Nat.reduceAdd, Nat.reduceMul, Nat.reduceEqDiff]) (by simp (maxDischargeDepth := 6) only [ruU, entryE, Nat.reduceLT, Nat.reduceAdd, Nat.reduceMul, Nat.reduceEqDiff]) (by simp (maxDischargeDepth := 6) only [ruU, entryE, Nat.reduceLT, Nat.reduceAdd, Nat.reduceMul, Nat.reduceEqDiff]) (by cases be <;> kernel_rfl) (by decide) (by simp) (fun G hn _ => ?_) (by simp (maxDischargeDepth := 6) only [ruD, ruW, putL, Nat.reduceLeDiff, xF, ruU, entryE, Nat.reduceLT, Nat.reduceAdd, Nat.reduceMul, Nat.reduceEqDiff]) ?_
  · simp only [ruU, entryE, Nat.reduceLT, Nat.reduceAdd, Nat.reduceMul, Nat.reduceEqDiff, List.append_nil]
    cases be
    · exact width_c r G
    · exact height_c r G
  simp (maxDischargeDepth := 6) only [Try.results42, hb, ruD, ruW, putL, Nat.reduceLeDiff, xF, ruU, entryE, Nat.reduceLT, Nat.reduceAdd, Nat.reduceMul, Nat.reduceEqDiff]
  exact Fin.pure rfl

inductive Tr where
  | leaf (b : Nat) (id : Int)
  | split (b : Nat) (be : Bool) (f : Int) (l r : Tr)

def Tr.val : Tr → Value
  | .leaf b _ => .iface 63 (.pointer (some ⟨b, 0, none⟩))
  | .split b _ _ _ _ => .iface 81 (.pointer (some ⟨b, 0, none⟩))

theorem Tr.one (t : Tr) : Go.Ax.one t.val = true := by cases t <;> rfl

def TreeAt (H : AHeap) : Tr → Prop
  | .leaf b id => bk H b = some ⟨65, false, [.int .i64 id]⟩
  | .split b be f l r => bk H b = some ⟨80, false, [.bool be, .int .i64 f, l.val, r.val]⟩ ∧ TreeAt H l ∧ TreeAt H r

def Tr.blks : Tr → List Nat
  | .leaf b _ => [b]
  | .split b _ _ l r => b :: (l.blks ++ r.blks)

def Tr.root : Tr → Nat
  | .leaf b _ => b
  | .split b _ _ _ _ => b

theorem Tr.root_mem (t : Tr) : t.root ∈ t.blks := by cases t <;> simp [Tr.root, Tr.blks]

theorem TreeAt.of {G H : AHeap} : ∀ {t : Tr}, (∀ n ∈ t.blks, G.get n = H.get n) → TreeAt H t → TreeAt G t
  | .leaf b id, hg, h => (bk_get (hg b (by simp [Tr.blks]))).trans h
  | .split b be f l r, hg, h => ⟨(bk_get (hg b (by simp [Tr.blks]))).trans h.1, TreeAt.of (fun n hn => hg n (by simp [Tr.blks, hn])) h.2.1, TreeAt.of (fun n hn => hg n (by simp [Tr.blks, hn])) h.2.2⟩

theorem TreeAt.ne {H : AHeap} : ∀ {t : Tr}, TreeAt H t → ∀ n ∈ t.blks, H.get n ≠ none
  | .leaf b id, h, n, hn => by simp only [Tr.blks, List.mem_singleton] at hn; subst hn; exact bk_ne h
  | .split b be f l r, h, n, hn => by
    simp only [Tr.blks, List.mem_cons, List.mem_append] at hn
    rcases hn with rfl | hn | hn
    · exact bk_ne h.1
    · exact TreeAt.ne h.2.1 n hn
    · exact TreeAt.ne h.2.2 n hn

theorem TreeAt.lt {H : AHeap} (w : WF Try.prog H) {t : Tr} (h : TreeAt H t) : ∀ n ∈ t.blks, n < H.next := by
  intro n hn
  cases hg : H.get n with
  | none => exact absurd hg (h.ne n hn)
  | some o => exact (w.dom n o hg).1

theorem TreeAt.ext {H : AHeap} {L : List Bl} (w : WF Try.prog H) {t : Tr} (h : TreeAt H t) : TreeAt (Go.Ax.ext H L) t :=
  h.of fun n hn => ext_get_old (h.lt w n hn)

theorem TreeAt.sc {H : AHeap} (w : WF Try.prog H) {t : Tr} (h : TreeAt H t) : scb H.next t.val = true := by
  have := h.lt w t.root t.root_mem
  cases t <;> exact blt_of this

def partA (be : Bool) (f : Int) (r : Rc) : Rc := if be then { r with h := f } else { r with w := f }
def partB (be : Bool) (f : Int) (r : Rc) : Rc := if be then { r with top := w64 (r.top + f), h := w64 (r.h - f) } else { r with left := w64 (w64 (r.left + f) + 1), w := w64 (w64 (r.w - f) - 1) }

theorem parts_c (n : Nat) (be : Bool) (f : Int) (vl vr : Value) (r : Rc) (H : AHeap) (hn : bk H n = some ⟨80, false, [.bool be, .int .i64 f, vl, vr]⟩) :
    Pure 48 [.pointer (some ⟨n, 0, none⟩), r.val] H (.tuple #[(partA be f r).val, (partB be f r).val]) := by
  obtain ⟨b, hb⟩ : ∃ b, H.next = b := ⟨_, rfl⟩
  refine callS_fn mixed Try.func48 rfl Try.ntmps48 (Nat.le_of_ble_eq_true rfl) fun wf hsc => ?_
  have hlt : n < b := hb ▸ wf.lt hn
  have hbase : H.base ≤ b := hb ▸ wf.base
  simp (maxDischargeDepth := 6) only [Rc.val, hb, ruW, putL, Nat.reduceLeDiff, xF, ruU, entryE, Nat.reduceLT, Nat.reduceAdd, Nat.reduceMul, Nat.reduceEqDiff]
  refine w_drawB [(2, 0), (3, 1)] [] (by kernel_rfl) (by kernel_rfl) rfl fun ops anc hA hG => ?_
  simp only [all2_cons] at hA
  simp (maxDischargeDepth := 6) only [hb, hbase, hlt, hn, hA, ruD, ruW, putL, Nat.reduceLeDiff, xF, ruU, entryE, Nat.reduceLT, Nat.reduceAdd, Nat.reduceMul, Nat.reduceEqDiff]
  refine condC_split (fun hbe => ?_) (fun hbe => ?_)
  · subst hbe
    simp (maxDischargeDepth := 6) only [ruW, putL, Nat.reduceLeDiff, xF, ruU, entryE, Nat.reduceLT, Nat.reduceAdd, Nat.reduceMul, Nat.reduceEqDiff]
    refine w_drawB [(23, 21)] [] (by kernel_rfl) (by kernel_rfl) rfl fun ops anc hA hG => ?_
    simp only [all2_cons] at hA
    simp (maxDischargeDepth := 6) only [hb, hbase, hlt, hn, hA, ruD, ruW, putL, Nat.reduceLeDiff, xF, ruU, entryE, Nat.reduceLT, Nat.reduceAdd, Nat.reduceMul, Nat.reduceEqDiff]
    refine w_drawB [(2, 0), (3, 1)] [] (by kernel_rfl) (by kernel_rfl) rfl fun ops anc hA hG => ?_
    simp only [all2_cons] at hA
    simp (maxDischargeDepth := 6) only [hb, hbase, hlt, hn, hA, Try.results48, ruD, ruW, putL, Nat.reduceLeDiff, xF, ruU, entryE, Nat.reduceLT, Nat.reduceAdd, Nat.reduceMul, Nat.reduceEqDiff]
    exact Fin.pure rfl
  · subst hbe
    simp (maxDischargeDepth := 6) only [ruW, putL, Nat.reduceLeDiff, xF, ruU, entryE, Nat.reduceLT, Nat.reduceAdd, Nat.reduceMul, Nat.reduceEqDiff]
    refine w_drawB [(25, 23)] [] (by kernel_rfl) (by kernel_rfl) rfl fun ops anc hA hG => ?_
    simp only [all2_cons] at hA
    simp (maxDischargeDepth := 6) only [hb, hbase, hlt, hn, hA, ruD, ruW, putL, Nat.reduceLeDiff, xF, ruU, entryE, Nat.reduceLT, Nat.reduceAdd, Nat.reduceMul, Nat.reduceEqDiff]
    refine w_drawB [(2, 0), (3, 1)] [] (by kernel_rfl) (by kernel_rfl) rfl fun ops anc hA hG => ?_
    simp only [all2_cons] at hA
    simp (maxDischargeDepth := 6) only [hb, hbase, hlt, hn, hA, Try.results48, ruD, ruW, putL, Nat.reduceLeDiff, xF, ruU, entryE, Nat.reduceLT, Nat.reduceAdd, Nat.reduceMul, Nat.reduceEqDiff]
    exact Fin.pure rfl

end Go.Proofs.Ytiedpcmdimgboaa

/- What the functions of package window come to that look at trees. -/
namespace Go.Proofs.Ytiedpcmdimgboaa
open Go.Ax
set_option linter.unusedSimpArgs false
set_option maxRecDepth 10000

def inside (h w : Int) : Bool := decide (2 ≤ h) && decide (h ≤ 200) && decide (4 ≤ w) && decide (w ≤ 1000)

theorem within_c (h w : Int) (H : AHeap) : Pure 37 [.int .i64 h, .int .i64 w] H (.bool (inside h w)) := by
  refine callS_fn mixed Try.func37 rfl Try.ntmps37 (Nat.le_of_ble_eq_true rfl) fun wf hsc => ?_
  unfold inside
  simp (maxDischargeDepth := 6) only [Try.results37, ruW, putL, Nat.reduceLeDiff, xF, ruU, entryE, Nat.reduceLT, Nat.reduceAdd, Nat.reduceMul, Nat.reduceEqDiff]
  cases decide (2 ≤ h) <;> simp (maxDischargeDepth := 6) only [Try.results37, ruW, putL, Nat.reduceLeDiff, xF, ruU, entryE, Nat.reduceLT, Nat.reduceAdd, Nat.reduceMul, Nat.reduceEqDiff]
  · exact Fin.pure rfl
  cases decide (h ≤ 200) <;> simp (maxDischargeDepth := 6) only [Try.results37, ruW, putL, Nat.reduceLeDiff, xF, ruU, entryE, Nat.reduceLT, Nat.reduceAdd, Nat.reduceMul, Nat.reduceEqDiff]
  · exact Fin.pure rfl
  cases decide (4 ≤ w) <;> simp (maxDischargeDepth := 6) only [Try.results37, ruW, putL, Nat.reduceLeDiff, xF, ruU, entryE, Nat.reduceLT, Nat.reduceAdd, Nat.reduceMul, Nat.reduceEqDiff]
  · exact Fin.pure rfl
  exact Fin.pure rfl

structure Wn where
  root : Tr
  h : Int
  w : Int
  last : Int
  sel : Int

def Wn.cells (x : Wn) : List Value := [x.root.val, .int .i64 x.h, .int .i64 x.w, .int .i64 x.last, .int .i64 x.sel]
def WnAt (H : AHeap) (T : Nat) (x : Wn) : Prop := bk H T = some ⟨69, false, x.cells⟩ ∧ TreeAt H x.root

theorem made_c (T : Nat) (x : Wn) (H : AHeap) (h : WnAt H T x) : Pure 46 [.pointer (some ⟨T, 0, none⟩)] H (.bool true) := by
  obtain ⟨b, hb⟩ : ∃ b, H.next = b := ⟨_, rfl⟩
  refine callS_fn mixed Try.func46 rfl Try.ntmps46 (Nat.le_of_ble_eq_true rfl) fun wf hsc => ?_
  obtain ⟨root, hh, ww, la, se⟩ := x
  have h1 := h.1
  simp only [Wn.cells] at h1
  have hlt : T < b := hb ▸ wf.lt h1
  cases root <;>
  (simp only [Tr.val] at h1
   simp (maxDischargeDepth := 6) only [Try.results46, hb, hlt, h1, ruW, putL, Nat.reduceLeDiff, xF, ruU, entryE, Nat.reduceLT, Nat.reduceAdd, Nat.reduceMul, Nat.reduceEqDiff]
   exact Fin.pure rfl)

theorem made_nil (H : AHeap) : Pure 46 [.pointer none] H (.bool false) := by
  refine callS_fn mixed Try.func46 rfl Try.ntmps46 (Nat.le_of_ble_eq_true rfl) fun wf hsc => ?_
  simp (maxDischargeDepth := 6) only [Try.results46, ruW, putL, Nat.reduceLeDiff, xF, ruU, entryE, Nat.reduceLT, Nat.reduceAdd, Nat.reduceMul, Nat.reduceEqDiff]
  exact Fin.pure rfl

theorem frame_c (T : Nat) (x : Wn) (H : AHeap) (h : bk H T = some ⟨69, false, x.cells⟩) : Pure 52 [.pointer (some ⟨T, 0, none⟩)] H (Rc.mk 0 0 0 x.h x.w).val := by
  obtain ⟨b, hb⟩ : ∃ b, H.next = b := ⟨_, rfl⟩
  refine callS_fn mixed Try.func52 rfl Try.ntmps52 (Nat.le_of_ble_eq_true rfl) fun wf hsc => ?_
  have hlt : T < b := hb ▸ wf.lt h
  have hbase : H.base ≤ b := hb ▸ wf.base
  simp only [Wn.cells] at h
  simp (maxDischargeDepth := 6) only [hb, ruW, putL, Nat.reduceLeDiff, xF, ruU, entryE, Nat.reduceLT, Nat.reduceAdd, Nat.reduceMul, Nat.reduceEqDiff]
  refine w_drawB [] [] (by kernel_rfl) rfl rfl fun ops anc hA hG => ?_
  simp (maxDischargeDepth := 6) only [hb, hlt, hbase, h, Try.results52, ruD, ruW, putL, Nat.reduceLeDiff, xF, ruU, entryE, Nat.reduceLT, Nat.reduceAdd, Nat.reduceMul, Nat.reduceEqDiff]
  exact Fin.pure rfl

def mins (be : Bool) : Int := if be then 2 else 4

def least (be : Bool) : Tr → Int
  | .leaf _ _ => mins be
  | .split _ b _ l r => if b = be then w64 (w64 (least be l + least be r) + bar be) else max (least be l) (least be r)

theorem least_c (be : Bool) : ∀ (t : Tr) (H : AHeap), TreeAt H t → Pure 44 [t.val, .bool be] H (.int .i64 (least be t))
  | .leaf b id, H, _ => by
    refine callS_fn mixed Try.func44 rfl Try.ntmps44 (Nat.le_of_ble_eq_true rfl) fun wf hsc => ?_
    simp (maxDischargeDepth := 6) only [Tr.val, ruW, putL, Nat.reduceLeDiff, xF, ruU, entryE, Nat.reduceLT, Nat.reduceAdd, Nat.reduceMul, Nat.reduceEqDiff]
    refine (index_c be _).to ?_
    simp (maxDischargeDepth := 6) only [ix111, Try.results44, ruW, putL, Nat.reduceLeDiff, xF, ruU, entryE, Nat.reduceLT, Nat.reduceAdd, Nat.reduceMul, Nat.reduceEqDiff]
    exact Fin.pure rfl
  | .split n bb f l r, H, h => by
    have ihl := least_c be l
    have ihr := least_c be r
    obtain ⟨b, hb⟩ : ∃ b, H.next = b := ⟨_, rfl⟩
    obtain ⟨hn, hl, hr⟩ := h
    refine callS_fn mixed Try.func44 rfl Try.ntmps44 (Nat.le_of_ble_eq_true rfl) fun wf hsc => ?_
    have hlt : n < b := hb ▸ wf.lt hn
    simp (maxDischargeDepth := 6) only [Tr.val, ruW, putL, Nat.reduceLeDiff, xF, ruU, entryE, Nat.reduceLT, Nat.reduceAdd, Nat.reduceMul, Nat.reduceEqDiff]
    refine w_drawB [] [] (by kernel_rfl) rfl rfl fun ops anc hA hG => ?_
    simp (maxDischargeDepth := 6) only [hb, hlt, hn, ruD, ruW, putL, Nat.reduceLeDiff, xF, ruU, entryE, Nat.reduceLT, Nat.reduceAdd, Nat.reduceMul, Nat.reduceEqDiff]
    refine genV_quiet (v := .int .i64 (least be l)) l.blks (by simp (maxDischargeDepth := 6) only [ruU, entryE, Nat.reduceLT, Nat.reduceAdd, Nat.reduceMul, Nat.reduceEqDiff]) (by kernel_rfl) (by decide) (hl.ne) (fun G _ hg => ?_) (by simp (maxDischargeDepth := 6) only [ruD, ruW, putL, Nat.reduceLeDiff, xF, ruU, entryE, Nat.reduceLT, Nat.reduceAdd, Nat.reduceMul, Nat.reduceEqDiff]) ?_
    · simp only [ruU, entryE, Nat.reduceLT, Nat.reduceAdd, Nat.reduceMul, Nat.reduceEqDiff]
      exact ihl G (hl.of hg)
    simp (maxDischargeDepth := 6) only [hb, hlt, hn, ruD, ruW, putL, Nat.reduceLeDiff, xF, ruU, entryE, Nat.reduceLT, Nat.reduceAdd, Nat.reduceMul, Nat.reduceEqDiff]
    refine genV_quiet (v := .int .i64 (least be r)) r.blks (by simp (maxDischargeDepth := 6) only [ruU, entryE, Nat.reduceLT, Nat.reduceAdd, Nat.reduceMul, Nat.reduceEqDiff]) (by kernel_rfl) (by decide) (hr.ne) (fun G _ hg => ?_) (by simp (maxDischargeDepth := 6) only [ruD, ruW, putL, Nat.reduceLeDiff, xF, ruU, entryE, Nat.reduceLT, Nat.reduceAdd, Nat.reduceMul, Nat.reduceEqDiff]) ?_
    · simp only [ruU, entryE, Nat.reduceLT, Nat.reduceAdd, Nat.reduceMul, Nat.reduceEqDiff]
      exact ihr G (hr.of hg)
    simp (maxDischargeDepth := 6) only [hb, hlt, hn, ruD, ruW, putL, Nat.reduceLeDiff, xF, ruU, entryE, Nat.reduceLT, Nat.reduceAdd, Nat.reduceMul, Nat.reduceEqDiff]
    refine condC_split (fun h => ?_) (fun h => ?_)
    · have h := of_decide_eq_true h
      simp (maxDischargeDepth := 6) only [ruW, putL, Nat.reduceLeDiff, xF, ruU, entryE, Nat.reduceLT, Nat.reduceAdd, Nat.reduceMul, Nat.reduceEqDiff]
      refine (bar_c be _).to ?_
      simp (maxDischargeDepth := 6) only [Try.results44, ruW, putL, Nat.reduceLeDiff, xF, ruU, entryE, Nat.reduceLT, Nat.reduceAdd, Nat.reduceMul, Nat.reduceEqDiff, least, if_pos h]
      exact Fin.pure rfl
    · have h := of_decide_eq_false h
      simp (maxDischargeDepth := 6) only [Try.results44, ruW, putL, Nat.reduceLeDiff, xF, ruU, entryE, Nat.reduceLT, Nat.reduceAdd, Nat.reduceMul, Nat.reduceEqDiff, least, if_neg h]
      exact Fin.pure rfl

def weight (be : Bool) : Tr → Int
  | .leaf _ _ => 1
  | .split _ b _ l r => if b = be then w64 (weight be l + weight be r) else max (weight be l) (weight be r)

theorem weight_c (be : Bool) : ∀ (t : Tr) (H : AHeap), TreeAt H t → Pure 86 [t.val, .bool be] H (.int .i64 (weight be t))
  | .leaf b id, H, _ => by
    refine callS_fn mixed Try.func86 rfl Try.ntmps86 (Nat.le_of_ble_eq_true rfl) fun wf hsc => ?_
    simp (maxDischargeDepth := 6) only [Tr.val, Try.results86, ruW, putL, Nat.reduceLeDiff, xF, ruU, entryE, Nat.reduceLT, Nat.reduceAdd, Nat.reduceMul, Nat.reduceEqDiff]
    exact Fin.pure rfl
  | .split n bb f l r, H, h => by
    have ihl := weight_c be l
    have ihr := weight_c be r
    obtain ⟨b, hb⟩ : ∃ b, H.next = b := ⟨_, rfl⟩
    obtain ⟨hn, hl, hr⟩ := h
    refine callS_fn mixed Try.func86 rfl Try.ntmps86 (Nat.le_of_ble_eq_true rfl) fun wf hsc => ?_
    have hlt : n < b := hb ▸ wf.lt hn
    simp (maxDischargeDepth := 6) only [Tr.val, ruW, putL, Nat.reduceLeDiff, xF, ruU, entryE, Nat.reduceLT, Nat.reduceAdd, Nat.reduceMul, Nat.reduceEqDiff]
    refine w_drawB [] [] (by kernel_rfl) rfl rfl fun ops anc hA hG => ?_
    simp (maxDischargeDepth := 6) only [hb, hlt, hn, ruD, ruW, putL, Nat.reduceLeDiff, xF, ruU, entryE, Nat.reduceLT, Nat.reduceAdd, Nat.reduceMul, Nat.reduceEqDiff]
    refine genV_quiet (v := .int .i64 (weight be l)) l.blks (by simp (maxDischargeDepth := 6) only [ruU, entryE, Nat.reduceLT, Nat.reduceAdd, Nat.reduceMul, Nat.reduceEqDiff]) (by kernel_rfl) (by decide) (hl.ne) (fun G _ hg => ?_) (by simp (maxDischargeDepth := 6) only [ruD, ruW, putL, Nat.reduceLeDiff, xF, ruU, entryE, Nat.reduceLT, Nat.reduceAdd, Nat.reduceMul, Nat.reduceEqDiff]) ?_
    · simp only [ruU, entryE, Nat.reduceLT, Nat.reduceAdd, Nat.reduceMul, Nat.reduceEqDiff]
      exact ihl G (hl.of hg)
    simp (maxDischargeDepth := 6) only [hb, hlt, hn, ruD, ruW, putL, Nat.reduceLeDiff, xF, ruU, entryE, Nat.reduceLT, Nat.reduceAdd, Nat.reduceMul, Nat.reduceEqDiff]
    refine genV_quiet (v := .int .i64 (weight be r)) r.blks (by simp (maxDischargeDepth := 6) only [ruU, entryE, Nat.reduceLT, Nat.reduceAdd, Nat.reduceMul, Nat.reduceEqDiff]) (by kernel_rfl) (by decide) (hr.ne) (fun G _ hg => ?_) (by simp (maxDischargeDepth := 6) only [ruD, ruW, putL, Nat.reduceLeDiff, xF, ruU, entryE, Nat.reduceLT, Nat.reduceAdd, Nat.reduceMul, Nat.reduceEqDiff]) ?_
    · simp only [ruU, entryE, Nat.reduceLT, Nat.reduceAdd, Nat.reduceMul, Nat.reduceEqDiff]
      exact ihr G (hr.of hg)
    simp (maxDischargeDepth := 6) only [hb, hlt, hn, ruD, ruW, putL, Nat.reduceLeDiff, xF, ruU, entryE, Nat.reduceLT, Nat.reduceAdd, Nat.reduceMul, Nat.reduceEqDiff]
    refine condC_split (fun h => ?_) (fun h => ?_)
    · have h := of_decide_eq_true h
      simp (maxDischargeDepth := 6) only [Try.results86, ruW, putL, Nat.reduceLeDiff, xF, ruU, entryE, Nat.reduceLT, Nat.reduceAdd, Nat.reduceMul, Nat.reduceEqDiff, weight, if_pos h]
      exact Fin.pure rfl
    · have h := of_decide_eq_false h
      simp (maxDischargeDepth := 6) only [Try.results86, ruW, putL, Nat.reduceLeDiff, xF, ruU, entryE, Nat.reduceLT, Nat.reduceAdd, Nat.reduceMul, Nat.reduceEqDiff, weight, if_neg h]
      exact Fin.pure rfl

def Tr.first : Tr → Int
  | .leaf _ id => id
  | .split _ _ _ l _ => l.first

end Go.Proofs.Ytiedpcmdimgboaa

/- What the functions of package window come to that look at trees: first, resize, New. -/
namespace Go.Proofs.Ytiedpcmdimgboaa
open Go.Ax
set_option linter.unusedSimpArgs false
set_option maxRecDepth 10000

def Tr.size : Tr → Nat
  | .leaf _ _ => 0
  | .split _ _ _ l r => l.size + r.size + 1

theorem first_c (t : Tr) (H : AHeap) (h : TreeAt H t) : Pure 49 [t.val] H (.int .i64 t.first) := by
  obtain ⟨b, hb⟩ : ∃ b, H.next = b := ⟨_, rfl⟩
  refine callS_fn mixed Try.func49 rfl Try.ntmps49 (Nat.le_of_ble_eq_true rfl) fun wf hsc => ?_
  simp (maxDischargeDepth := 6) only [ruW, putL, Nat.reduceLeDiff, xF, ruU, entryE, Nat.reduceLT, Nat.reduceAdd, Nat.reduceMul, Nat.reduceEqDiff]
  refine w_loop (fun (s : Tr) E H' => H' = ext H [] ∧ TreeAt H s ∧ E 0 = s.val ∧ s.first = t.first) Tr.size t ⟨rfl, h, by simp only [ruU, entryE, Nat.reduceLT, Nat.reduceAdd, Nat.reduceMul, Nat.reduceEqDiff], rfl⟩ ?_
  rintro s E H' ⟨hH, hs, h0, hf⟩
  rw [hH]
  cases s with
  | leaf n id =>
    have hlt : n < b := hb ▸ wf.lt hs
    simp only [TreeAt] at hs
    simp only [Tr.val] at h0
    simp (maxDischargeDepth := 6) only [h0, hb, hlt, hs, Try.results49, ruW, putL, Nat.reduceLeDiff, xF, ruU, entryE, Nat.reduceLT, Nat.reduceAdd, Nat.reduceMul, Nat.reduceEqDiff]
    exact Fin.pureE (by rw [← hf]; rfl) rfl
  | split n be f l r =>
    obtain ⟨hn, hl, hr⟩ := hs
    have hlt : n < b := hb ▸ wf.lt hn
    simp only [Tr.val] at h0
    simp (maxDischargeDepth := 6) only [h0, hb, hlt, hn, Try.results49, ruW, putL, Nat.reduceLeDiff, xF, ruU, entryE, Nat.reduceLT, Nat.reduceAdd, Nat.reduceMul, Nat.reduceEqDiff]
    rw [loopC_normal]
    exact ⟨_, rfl, l, by simp only [Tr.size]; omega, rfl, hl, by simp only [ruU, entryE, Nat.reduceLT, Nat.reduceAdd, Nat.reduceMul, Nat.reduceEqDiff], hf⟩

def Tr.resize (be : Bool) (old now : Int) : Tr → Tr
  | .leaf b id => .leaf b id
  | .split b bb f l r =>
    if bb = be then
      let second := w64 (w64 (old - f) - bar be)
      let after := max (w64 (w64 (second + now) - old)) (least be r)
      let f' := w64 (w64 (now - after) - bar be)
      .split b bb f' (l.resize be f f') (r.resize be second after)
    else .split b bb f (l.resize be old now) (r.resize be old now)

theorem Tr.resize_val (be : Bool) (old now : Int) (t : Tr) : (t.resize be old now).val = t.val := by
  cases t with
  | leaf => rfl
  | split => unfold Tr.resize; split <;> rfl
theorem Tr.resize_blks (be : Bool) : ∀ (t : Tr) (old now : Int), (t.resize be old now).blks = t.blks
  | .leaf _ _, _, _ => rfl
  | .split b bb f l r, old, now => by
    unfold Tr.resize
    split <;> simp only [Tr.blks, Tr.resize_blks be l, Tr.resize_blks be r]


theorem TreeAt.mod {W : List Nat} {H H1 : AHeap} {t : Tr} (h : TreeAt H t) (m : Mod W H H1) (hlt : ∀ n ∈ t.blks, n < H.next) (hW : ∀ n ∈ t.blks, n ∉ W) : TreeAt H1 t :=
  h.of fun n hn => m.get n (hlt n hn) (hW n hn)

theorem resize_c (be : Bool) : ∀ (t : Tr) (old now : Int) (H : AHeap), H.base ≤ H.next → TreeAt H t → (∀ n ∈ t.blks, n < H.next) → t.blks.Nodup →
    CallA Try.prog 45 [t.val, .bool be, .int .i64 old, .int .i64 now] H (fun out H1 => out = .ok (.tuple #[]) ∧ Mod t.blks H H1 ∧ TreeAt H1 (t.resize be old now))
  | .leaf n id, old, now, H, hok, h, hlt, hnd => by
    refine callE_fn mixed Try.func45 rfl Try.ntmps45 (Nat.le_of_ble_eq_true rfl) ?_
    simp (maxDischargeDepth := 6) only [Tr.val, Try.results45, ruW, putL, Nat.reduceLeDiff, xF, ruU, entryE, Nat.reduceLT, Nat.reduceAdd, Nat.reduceMul, Nat.reduceEqDiff]
    exact ⟨trivial, Mod.refl, h⟩
  | .split n bb f l r, old, now, H, hok, h, hlt, hnd => by
    have ihl := resize_c be l
    have ihr := resize_c be r
    obtain ⟨b, hb⟩ : ∃ b, H.next = b := ⟨_, rfl⟩
    obtain ⟨hn, hl, hr⟩ := h
    have hnb : n < b := hb ▸ hlt n (by simp [Tr.blks])
    have hll : ∀ m ∈ l.blks, m < H.next := fun m hm => hlt m (by simp [Tr.blks, hm])
    have hlr : ∀ m ∈ r.blks, m < H.next := fun m hm => hlt m (by simp [Tr.blks, hm])
    simp only [Tr.blks, List.nodup_cons, List.nodup_append, List.mem_append, not_or] at hnd
    obtain ⟨⟨hnl, hnr⟩, hndl, hndr, hlr'⟩ := hnd
    have hlr2 : ∀ m ∈ l.blks, m ∉ r.blks := fun m h1 h2 => hlr' m h1 m h2 rfl
    have hlr3 : ∀ m ∈ r.blks, m ∉ l.blks := fun m h1 h2 => hlr' m h2 m h1 rfl
    have sl : ∀ m ∈ l.blks, m ∈ (Tr.split n bb f l r).blks := fun m hm => by simp [Tr.blks, hm]
    have sr : ∀ m ∈ r.blks, m ∈ (Tr.split n bb f l r).blks := fun m hm => by simp [Tr.blks, hm]
    refine callE_fn mixed Try.func45 rfl Try.ntmps45 (Nat.le_of_ble_eq_true rfl) ?_
    simp (maxDischargeDepth := 6) only [Tr.val, hb, hnb, hn, ruW, putL, Nat.reduceLeDiff, xF, ruU, entryE, Nat.reduceLT, Nat.reduceAdd, Nat.reduceMul, Nat.reduceEqDiff]
    refine condC_split (fun hd => ?_) (fun hd => ?_)
    · have hd : ¬ bb = be := by simpa using hd
      simp (maxDischargeDepth := 6) only [Tr.val, hb, hnb, hn, ruW, putL, Nat.reduceLeDiff, xF, ruU, entryE, Nat.reduceLT, Nat.reduceAdd, Nat.reduceMul, Nat.reduceEqDiff]
      refine (ihl old now (ext H []) hok hl hll hndl).mono ?_
      rintro _ H1 ⟨rfl, m1, t1⟩
      have hn1 := (m1.bk (n := n) (hb ▸ hnb) hnl).trans hn
      have hb1 : n < H1.next := m1.lt (hb ▸ hnb)
      rw [show H1 = ext H1 [] from rfl]
      simp (maxDischargeDepth := 6) only [hb1, hn1, ruW, putL, Nat.reduceLeDiff, xF, ruU, entryE, Nat.reduceLT, Nat.reduceAdd, Nat.reduceMul, Nat.reduceEqDiff]
      refine (ihr old now (ext H1 []) (m1.ok hok) (hr.mod m1 hlr hlr3) (fun m hm => m1.lt (hlr m hm)) hndr).mono ?_
      rintro _ H2 ⟨rfl, m2, t2⟩
      simp (maxDischargeDepth := 6) only [Try.results45, ruW, putL, Nat.reduceLeDiff, xF, ruU, entryE, Nat.reduceLT, Nat.reduceAdd, Nat.reduceMul, Nat.reduceEqDiff]
      refine ⟨trivial, (m1.mono sl).trans (m2.mono sr), ?_⟩
      simp only [Tr.resize, if_neg hd]
      refine ⟨?_, t1.mod m2 (fun m hm => ?_) (fun m hm => ?_), t2⟩
      · rw [(m2.bk hb1 hnr).trans hn1, Tr.resize_val, Tr.resize_val]
      · rw [Tr.resize_blks] at hm; exact m1.lt (hll m hm)
      · rw [Tr.resize_blks] at hm; exact hlr2 m hm
    · have hd : bb = be := by simpa using hd
      subst hd
      simp (maxDischargeDepth := 6) only [ruW, putL, Nat.reduceLeDiff, xF, ruU, entryE, Nat.reduceLT, Nat.reduceAdd, Nat.reduceMul, Nat.reduceEqDiff]
      refine w_drawB [] [] (by kernel_rfl) rfl rfl fun ops anc hA hG => ?_
      simp (maxDischargeDepth := 6) only [hb, hnb, hn, ruD, ruW, putL, Nat.reduceLeDiff, xF, ruU, entryE, Nat.reduceLT, Nat.reduceAdd, Nat.reduceMul, Nat.reduceEqDiff]
      refine genV_quiet (v := .int .i64 (bar bb)) [] (by simp (maxDischargeDepth := 6) only [ruU, entryE, Nat.reduceLT, Nat.reduceAdd, Nat.reduceMul, Nat.reduceEqDiff]) (by kernel_rfl) (by decide) (by simp) (fun G _ hg => ?_) (by simp (maxDischargeDepth := 6) only [ruD, ruW, putL, Nat.reduceLeDiff, xF, ruU, entryE, Nat.reduceLT, Nat.reduceAdd, Nat.reduceMul, Nat.reduceEqDiff]) ?_
      · simp only [ruU, entryE, Nat.reduceLT, Nat.reduceAdd, Nat.reduceMul, Nat.reduceEqDiff]
        exact bar_c bb G
      simp (maxDischargeDepth := 6) only [hb, hnb, hn, ruD, ruW, putL, Nat.reduceLeDiff, xF, ruU, entryE, Nat.reduceLT, Nat.reduceAdd, Nat.reduceMul, Nat.reduceEqDiff]
      refine (least_c bb r (ext H []) hr).to ?_
      simp (maxDischargeDepth := 6) only [hb, hnb, hn, ruW, putL, Nat.reduceLeDiff, xF, ruU, entryE, Nat.reduceLT, Nat.reduceAdd, Nat.reduceMul, Nat.reduceEqDiff]
      refine (bar_c bb _).to ?_
      simp (maxDischargeDepth := 6) only [hb, hnb, hn, ruW, putL, Nat.reduceLeDiff, xF, ruU, entryE, Nat.reduceLT, Nat.reduceAdd, Nat.reduceMul, Nat.reduceEqDiff]
      refine w_drawB [(11, 4), (11, 10)] [] (by kernel_rfl) (by kernel_rfl) rfl fun ops anc hA hG => ?_
      simp only [all2_cons] at hA
      simp (maxDischargeDepth := 6) only [hb, hnb, hn, ruD, ruW, putL, Nat.reduceLeDiff, xF, ruU, entryE, Nat.reduceLT, Nat.reduceAdd, Nat.reduceMul, Nat.reduceEqDiff]
      generalize hf' : IntKind.i64.wrap (IntKind.i64.wrap (now - max (IntKind.i64.wrap (IntKind.i64.wrap (IntKind.i64.wrap (IntKind.i64.wrap (old - f) - bar bb) + now) - old)) (least bb r)) - bar bb) = f'
      generalize hU : uw H n 1 [.int .i64 f'] = U
      have mU : Mod [n] H U := hU ▸ Mod.uw (by simp)
      have hnU : bk U n = some ⟨80, false, [.bool bb, .int .i64 f', l.val, r.val]⟩ := by rw [← hU, bk_uw_eq, hn]; rfl
      have hUn : n < U.next := mU.lt (hb ▸ hnb)
      have hlU : TreeAt U l := hl.mod mU hll (fun m hm h => hnl (by simp at h; exact h ▸ hm))
      have hrU : TreeAt U r := hr.mod mU hlr (fun m hm h => hnr (by simp at h; exact h ▸ hm))
      have hrn := restrict_next U l.blks
      obtain ⟨_, g, hc, rfl, m1, t1⟩ := ihl f f' (U.restrict l.blks) (by rw [hrn.1, hrn.2.1]; exact Nat.le_refl _) (hlU.of fun m hm => by rw [restrict_get, if_pos hm]) (fun m hm => by rw [hrn.1]; exact mU.lt (hll m hm)) hndl
      refine genV_mod (H := ext U []) (W := l.blks) l.blks (mU.ok hok) (by simp only [ruU, entryE, Nat.reduceLT, Nat.reduceAdd, Nat.reduceMul, Nat.reduceEqDiff]) (by kernel_rfl) hlU.ne (fun m hm => mU.lt (hll m hm)) (fun _ h => h) (v := .tuple #[]) (g := g) (by simp only [ruU, entryE, Nat.reduceLT, Nat.reduceAdd, Nat.reduceMul, Nat.reduceEqDiff]; exact hc) m1 (by simp only [all2_cons, hA, true_or, and_true, all2_nil]) ?_
      intro H1 D mH1 hF _ _ _
      have t1' : TreeAt H1 (l.resize bb f f') := t1.of fun m hm => hF m (by rw [Tr.resize_blks] at hm; exact hm)
      have hn1 := (mH1.bk hUn hnl).trans hnU
      have hb1 : n < H1.next := mH1.lt hUn
      rw [show H1 = ext H1 [] from rfl]
      simp (maxDischargeDepth := 6) only [hb1, hn1, ruD, ruW, putL, Nat.reduceLeDiff, xF, ruU, entryE, Nat.reduceLT, Nat.reduceAdd, Nat.reduceMul, Nat.reduceEqDiff]
      refine (ihr _ _ (ext H1 []) (mH1.ok (mU.ok hok)) (hrU.mod mH1 (fun m hm => mU.lt (hlr m hm)) hlr3) (fun m hm => mH1.lt (mU.lt (hlr m hm))) hndr).mono ?_
      rintro _ H2 ⟨rfl, m2, t2⟩
      simp (maxDischargeDepth := 6) only [Try.results45, ruW, putL, Nat.reduceLeDiff, xF, ruU, entryE, Nat.reduceLT, Nat.reduceAdd, Nat.reduceMul, Nat.reduceEqDiff]
      refine ⟨trivial, ((mU.mono (by simp [Tr.blks])).trans (mH1.mono sl)).trans (m2.mono sr), ?_⟩
      simp only [Tr.resize, if_true, hf']
      refine ⟨?_, t1'.mod m2 (fun m hm => ?_) (fun m hm => ?_), t2⟩
      · rw [(m2.bk hb1 hnr).trans hn1, Tr.resize_val, Tr.resize_val]
      · rw [Tr.resize_blks] at hm; exact mH1.lt (mU.lt (hll m hm))
      · rw [Tr.resize_blks] at hm; exact hlr2 m hm

end Go.Proofs.Ytiedpcmdimgboaa

/- What the functions of package window come to: New, balance. -/
namespace Go.Proofs.Ytiedpcmdimgboaa
open Go.Ax
set_option linter.unusedSimpArgs false
set_option maxRecDepth 10000

theorem new_ok (h w : Int) (H : AHeap) (hin : inside h w = true) : CallS Try.prog 10 [.int .i64 h, .int .i64 w] H (.ok (.tuple #[.pointer (some ⟨H.next + 1, 0, none⟩), .int .i64 0]))
    (ext H [⟨65, false, [.int .i64 1]⟩, ⟨69, false, [.iface 63 (.pointer (some ⟨H.next + 0, 0, none⟩)), .int .i64 h, .int .i64 w, .int .i64 1, .int .i64 1]⟩]) := by
  obtain ⟨b, hb⟩ : ∃ b, H.next = b := ⟨_, rfl⟩
  refine callS_fn mixed Try.func10 rfl Try.ntmps10 (Nat.le_of_ble_eq_true rfl) fun wf hsc => ?_
  simp (maxDischargeDepth := 6) only [ruW, putL, Nat.reduceLeDiff, xF, ruU, entryE, Nat.reduceLT, Nat.reduceAdd, Nat.reduceMul, Nat.reduceEqDiff]
  refine (within_c h w (ext H [])).to ?_
  simp (maxDischargeDepth := 6) only [hb, hin, Try.results10, ruW, putL, Nat.reduceLeDiff, xF, ruU, entryE, Nat.reduceLT, Nat.reduceAdd, Nat.reduceMul, Nat.reduceEqDiff]
  exact Fin.same

theorem new_no (h w : Int) (H : AHeap) (hin : inside h w = false) : CallS Try.prog 10 [.int .i64 h, .int .i64 w] H (.ok (.tuple #[.pointer none, .int .i64 3])) H := by
  obtain ⟨b, hb⟩ : ∃ b, H.next = b := ⟨_, rfl⟩
  refine callS_fn mixed Try.func10 rfl Try.ntmps10 (Nat.le_of_ble_eq_true rfl) fun wf hsc => ?_
  simp (maxDischargeDepth := 6) only [ruW, putL, Nat.reduceLeDiff, xF, ruU, entryE, Nat.reduceLT, Nat.reduceAdd, Nat.reduceMul, Nat.reduceEqDiff]
  refine (within_c h w (ext H [])).to ?_
  simp (maxDischargeDepth := 6) only [hb, hin, Try.results10, ruW, putL, Nat.reduceLeDiff, xF, ruU, entryE, Nat.reduceLT, Nat.reduceAdd, Nat.reduceMul, Nat.reduceEqDiff]
  exact Fin.pure rfl

theorem wrap_sm {n : Int} (h1 : -4000000000000 < n) (h2 : n < 4000000000000) : w64 n = n := by
  simp only [w64, IntKind.wrap, IntKind.signed, IntKind.bits]
  simp
  omega

theorem weight_pos (be : Bool) : ∀ t : Tr, (t.size : Int) < 1000000 → 1 ≤ weight be t ∧ weight be t ≤ t.size + 1
  | .leaf _ _ => fun _ => by simp [weight, Tr.size]
  | .split _ b _ l r => fun h => by
    simp only [Tr.size] at h
    have h1 := weight_pos be l (by omega)
    have h2 := weight_pos be r (by omega)
    simp only [weight, Tr.size]
    split
    · rw [wrap_sm (by omega) (by omega)]; omega
    · omega

def Tr.balance : Tr → Rc → Tr
  | .leaf b id, _ => .leaf b id
  | .split b be _ l r, rc =>
    let whole := w64 (rc.size be - bar be)
    let f1 := max (w64 ((w64 (whole * weight be l)).tdiv (w64 (weight be l + weight be r)))) (least be l)
    let f2 := min f1 (w64 (whole - least be r))
    .split b be f2 (l.balance (partA be f2 rc)) (r.balance (partB be f2 rc))

theorem Tr.balance_val (t : Tr) (rc : Rc) : (t.balance rc).val = t.val := by cases t <;> rfl
theorem Tr.balance_blks : ∀ (t : Tr) (rc : Rc), (t.balance rc).blks = t.blks
  | .leaf _ _, _ => rfl
  | .split b be f l r, rc => by simp only [Tr.balance, Tr.blks, Tr.balance_blks l, Tr.balance_blks r]

theorem balance_c : ∀ (t : Tr) (rc : Rc) (H : AHeap), H.base ≤ H.next → TreeAt H t → (∀ n ∈ t.blks, n < H.next) → t.blks.Nodup → (t.size : Int) < 1000000 →
    CallA Try.prog 65 [t.val, rc.val] H (fun out H1 => out = .ok (.tuple #[]) ∧ Mod t.blks H H1 ∧ TreeAt H1 (t.balance rc))
  | .leaf n id => fun rc H hok h hlt hnd _ => by
    obtain ⟨b, hb⟩ : ∃ b, H.next = b := ⟨_, rfl⟩
    have hnb : n < H.next := hlt n (by simp [Tr.blks])
    refine callE_fn mixed Try.func65 rfl Try.ntmps65 (Nat.le_of_ble_eq_true rfl) ?_
    simp (maxDischargeDepth := 6) only [Tr.val, Rc.val, hb, Try.results65, ruW, putL, Nat.reduceLeDiff, xF, ruU, entryE, Nat.reduceLT, Nat.reduceAdd, Nat.reduceMul, Nat.reduceEqDiff]
    exact ⟨trivial, Mod.ext hok, (bk_old hnb).trans h⟩
  | .split n be f l r => fun rc H hok h hlt hnd hsz => by
    simp only [Tr.size] at hsz
    have ihl := fun rc H a b c d => balance_c l rc H a b c d (by omega)
    have ihr := fun rc H a b c d => balance_c r rc H a b c d (by omega)
    have hq : ¬ IntKind.i64.wrap (weight be l + weight be r) = 0 := by
      have h1 := weight_pos be l (by omega)
      have h2 := weight_pos be r (by omega)
      have h3 : IntKind.i64.wrap (weight be l + weight be r) = _ := wrap_sm (n := weight be l + weight be r) (by omega) (by omega)
      rw [h3]; omega
    obtain ⟨b, hb⟩ : ∃ b, H.next = b := ⟨_, rfl⟩
    obtain ⟨hn, hl, hr⟩ := h
    have hnb : n < b := hb ▸ hlt n (by simp [Tr.blks])
    have hbase : H.base ≤ b := hb ▸ hok
    have hll : ∀ m ∈ l.blks, m < H.next := fun m hm => hlt m (by simp [Tr.blks, hm])
    have hlr : ∀ m ∈ r.blks, m < H.next := fun m hm => hlt m (by simp [Tr.blks, hm])
    simp only [Tr.blks, List.nodup_cons, List.nodup_append, List.mem_append, not_or] at hnd
    obtain ⟨⟨hnl, hnr⟩, hndl, hndr, hlr'⟩ := hnd
    have hlr2 : ∀ m ∈ l.blks, m ∉ r.blks := fun m h1 h2 => hlr' m h1 m h2 rfl
    have hlr3 : ∀ m ∈ r.blks, m ∉ l.blks := fun m h1 h2 => hlr' m h2 m h1 rfl
    have sl : ∀ m ∈ l.blks, m ∈ (Tr.split n be f l r).blks := fun m hm => by simp [Tr.blks, hm]
    have sr : ∀ m ∈ r.blks, m ∈ (Tr.split n be f l r).blks := fun m hm => by simp [Tr.blks, hm]
    refine callE_fn mixed Try.func65 rfl Try.ntmps65 (Nat.le_of_ble_eq_true rfl) ?_
    simp (maxDischargeDepth := 6) only [Tr.val, Rc.val, hb, hnb, hn, ruW, putL, Nat.reduceLeDiff, xF, ruU, entryE, Nat.reduceLT, Nat.reduceAdd, Nat.reduceMul, Nat.reduceEqDiff]
    refine w_drawB [] [] (by kernel_rfl) rfl rfl fun ops anc hA hG => ?_
    simp (maxDischargeDepth := 6) only [hb, hnb, hn, ruD, ruW, putL, Nat.reduceLeDiff, xF, ruU, entryE, Nat.reduceLT, Nat.reduceAdd, Nat.reduceMul, Nat.reduceEqDiff]
    refine genV_quiet (v := .int .i64 (rc.size be)) [] (by simp (maxDischargeDepth := 6) only [ruU, entryE, Nat.reduceLT, Nat.reduceAdd, Nat.reduceMul, Nat.reduceEqDiff]) (by kernel_rfl) (by decide) (by simp) (fun G _ hg => ?_) (by simp (maxDischargeDepth := 6) only [ruD, ruW, putL, Nat.reduceLeDiff, xF, ruU, entryE, Nat.reduceLT, Nat.reduceAdd, Nat.reduceMul, Nat.reduceEqDiff]) ?_
    · simp only [ruU, entryE, Nat.reduceLT, Nat.reduceAdd, Nat.reduceMul, Nat.reduceEqDiff]
      exact size_c rc be G
    simp (maxDischargeDepth := 6) only [hb, hnb, hn, ruD, ruW, putL, Nat.reduceLeDiff, xF, ruU, entryE, Nat.reduceLT, Nat.reduceAdd, Nat.reduceMul, Nat.reduceEqDiff]
    refine genV_quiet (v := .int .i64 (bar be)) [] (by simp (maxDischargeDepth := 6) only [ruU, entryE, Nat.reduceLT, Nat.reduceAdd, Nat.reduceMul, Nat.reduceEqDiff]) (by kernel_rfl) (by decide) (by simp) (fun G _ hg => ?_) (by simp (maxDischargeDepth := 6) only [ruD, ruW, putL, Nat.reduceLeDiff, xF, ruU, entryE, Nat.reduceLT, Nat.reduceAdd, Nat.reduceMul, Nat.reduceEqDiff]) ?_
    · simp only [ruU, entryE, Nat.reduceLT, Nat.reduceAdd, Nat.reduceMul, Nat.reduceEqDiff]
      exact bar_c be G
    simp (maxDischargeDepth := 6) only [hb, hnb, hn, ruD, ruW, putL, Nat.reduceLeDiff, xF, ruU, entryE, Nat.reduceLT, Nat.reduceAdd, Nat.reduceMul, Nat.reduceEqDiff]
    refine w_drawB [] [] (by kernel_rfl) rfl rfl fun ops anc hA hG => ?_
    simp (maxDischargeDepth := 6) only [hb, hnb, hn, ruD, ruW, putL, Nat.reduceLeDiff, xF, ruU, entryE, Nat.reduceLT, Nat.reduceAdd, Nat.reduceMul, Nat.reduceEqDiff]
    have gl : ∀ m ∈ l.blks, (ext H [⟨83, false, rc.cells⟩]).get m = H.get m := fun m hm => ext_get_old (hll m hm)
    have gr : ∀ m ∈ r.blks, (ext H [⟨83, false, rc.cells⟩]).get m = H.get m := fun m hm => ext_get_old (hlr m hm)
    refine genV_quiet (v := .int .i64 (weight be l)) l.blks (by simp (maxDischargeDepth := 6) only [ruU, entryE, Nat.reduceLT, Nat.reduceAdd, Nat.reduceMul, Nat.reduceEqDiff]) (by kernel_rfl) (by decide) (hl.of gl).ne (fun G _ hg => ?_) (by simp (maxDischargeDepth := 6) only [ruD, ruW, putL, Nat.reduceLeDiff, xF, ruU, entryE, Nat.reduceLT, Nat.reduceAdd, Nat.reduceMul, Nat.reduceEqDiff]) ?_
    · simp only [ruU, entryE, Nat.reduceLT, Nat.reduceAdd, Nat.reduceMul, Nat.reduceEqDiff]
      exact weight_c be l G ((hl.of gl).of hg)
    simp (maxDischargeDepth := 6) only [hb, hnb, hn, ruD, ruW, putL, Nat.reduceLeDiff, xF, ruU, entryE, Nat.reduceLT, Nat.reduceAdd, Nat.reduceMul, Nat.reduceEqDiff]
    refine genV_quiet (v := .int .i64 (weight be r)) r.blks (by simp (maxDischargeDepth := 6) only [ruU, entryE, Nat.reduceLT, Nat.reduceAdd, Nat.reduceMul, Nat.reduceEqDiff]) (by kernel_rfl) (by decide) (hr.of gr).ne (fun G _ hg => ?_) (by simp (maxDischargeDepth := 6) only [ruD, ruW, putL, Nat.reduceLeDiff, xF, ruU, entryE, Nat.reduceLT, Nat.reduceAdd, Nat.reduceMul, Nat.reduceEqDiff]) ?_
    · simp only [ruU, entryE, Nat.reduceLT, Nat.reduceAdd, Nat.reduceMul, Nat.reduceEqDiff]
      exact weight_c be r G ((hr.of gr).of hg)
    simp (maxDischargeDepth := 6) only [hb, hnb, hn, ruD, ruW, putL, Nat.reduceLeDiff, xF, ruU, entryE, Nat.reduceLT, Nat.reduceAdd, Nat.reduceMul, Nat.reduceEqDiff]
    refine w_drawB [(21, 12), (21, 16), (21, 17)] [] (by kernel_rfl) (by kernel_rfl) rfl fun ops anc hA hG => ?_
    simp only [all2_cons] at hA
    simp (maxDischargeDepth := 6) only [hb, hnb, hn, hq, ruD, ruW, putL, Nat.reduceLeDiff, xF, ruU, entryE, Nat.reduceLT, Nat.reduceAdd, Nat.reduceMul, Nat.reduceEqDiff]
    refine genV_quiet (v := .int .i64 (least be l)) l.blks (by simp (maxDischargeDepth := 6) only [ruU, entryE, Nat.reduceLT, Nat.reduceAdd, Nat.reduceMul, Nat.reduceEqDiff]) (by kernel_rfl) (by decide) (hl.of gl).ne (fun G _ hg => ?_) (by simp (maxDischargeDepth := 6) only [ruD, ruW, putL, Nat.reduceLeDiff, xF, ruU, entryE, Nat.reduceLT, Nat.reduceAdd, Nat.reduceMul, Nat.reduceEqDiff]) ?_
    · simp only [ruU, entryE, Nat.reduceLT, Nat.reduceAdd, Nat.reduceMul, Nat.reduceEqDiff]
      exact least_c be l G ((hl.of gl).of hg)
    simp (maxDischargeDepth := 6) only [hb, hnb, hn, hA, ruD, ruW, putL, Nat.reduceLeDiff, xF, ruU, entryE, Nat.reduceLT, Nat.reduceAdd, Nat.reduceMul, Nat.reduceEqDiff]
    refine w_drawB [(20, 4), (20, 10), (20, 14), (20, 15)] [] (by kernel_rfl) (by kernel_rfl) rfl fun ops anc hA hG => ?_
    simp only [all2_cons] at hA
    simp (maxDischargeDepth := 6) only [hb, hnb, hn, ruD, ruW, putL, Nat.reduceLeDiff, xF, ruU, entryE, Nat.reduceLT, Nat.reduceAdd, Nat.reduceMul, Nat.reduceEqDiff]
    generalize hf1 : max (IntKind.i64.wrap ((IntKind.i64.wrap (IntKind.i64.wrap (rc.size be - bar be) * weight be l)).tdiv (IntKind.i64.wrap (weight be l + weight be r)))) (least be l) = f1
    generalize hU : uw H n 1 [.int .i64 f1] = U
    have mU : Mod [n] H U := hU ▸ Mod.uw (by simp)
    have hnU : bk U n = some ⟨80, false, [.bool be, .int .i64 f1, l.val, r.val]⟩ := by rw [← hU, bk_uw_eq, hn]; rfl
    have hbU : U.next = b := by rw [← hU, uw_next, hb]
    have hbaseU : U.base ≤ b := by rw [← hU, uw_base]; exact hbase
    have hrU : TreeAt U r := hr.mod mU hlr (fun m hm h => hnr (by simp at h; exact h ▸ hm))
    have hlU : TreeAt U l := hl.mod mU hll (fun m hm h => hnl (by simp at h; exact h ▸ hm))
    have gr' : ∀ m ∈ r.blks, (ext U [⟨83, false, rc.cells⟩]).get m = U.get m := fun m hm => ext_get_old (mU.lt (hlr m hm))
    refine genV_quiet (v := .int .i64 (least be r)) r.blks (by simp (maxDischargeDepth := 6) only [ruU, entryE, Nat.reduceLT, Nat.reduceAdd, Nat.reduceMul, Nat.reduceEqDiff]) (by kernel_rfl) (by decide) (hrU.of gr').ne (fun G _ hg => ?_) (by simp (maxDischargeDepth := 6) only [ruD, ruW, putL, Nat.reduceLeDiff, xF, ruU, entryE, Nat.reduceLT, Nat.reduceAdd, Nat.reduceMul, Nat.reduceEqDiff]) ?_
    · simp only [ruU, entryE, Nat.reduceLT, Nat.reduceAdd, Nat.reduceMul, Nat.reduceEqDiff]
      exact least_c be r G ((hrU.of gr').of hg)
    simp (maxDischargeDepth := 6) only [hbU, hnb, hnU, hA, ruD, ruW, putL, Nat.reduceLeDiff, xF, ruU, entryE, Nat.reduceLT, Nat.reduceAdd, Nat.reduceMul, Nat.reduceEqDiff]
    generalize hf2 : min f1 (IntKind.i64.wrap (IntKind.i64.wrap (rc.size be - bar be) - least be r)) = f2
    generalize hV : uw U n 1 [.int .i64 f2] = V
    have mV : Mod [n] U V := hV ▸ Mod.uw (by simp)
    have hnV : bk V n = some ⟨80, false, [.bool be, .int .i64 f2, l.val, r.val]⟩ := by rw [← hV, bk_uw_eq, hnU]; rfl
    have hbV : V.next = b := by rw [← hV, uw_next, hbU]
    have hbaseV : V.base ≤ b := by rw [← hV, uw_base]; exact hbaseU
    have hrV : TreeAt V r := hrU.mod mV (fun m hm => mU.lt (hlr m hm)) (fun m hm h => hnr (by simp at h; exact h ▸ hm))
    have hlV : TreeAt V l := hlU.mod mV (fun m hm => mU.lt (hll m hm)) (fun m hm h => hnl (by simp at h; exact h ▸ hm))
    have mHV := mU.trans mV
    refine (parts_c n be f2 l.val r.val rc (ext V _) ((bk_old (hbV.symm ▸ hnb)).trans hnV)).to ?_
    simp (maxDischargeDepth := 6) only [Rc.val, hbV, hnb, hnV, hbaseV, ruW, putL, Nat.reduceLeDiff, xF, ruU, entryE, Nat.reduceLT, Nat.reduceAdd, Nat.reduceMul, Nat.reduceEqDiff]
    refine w_drawB [(6, 4), (6, 5)] [] (by kernel_rfl) (by kernel_rfl) rfl fun ops anc hA hG => ?_
    simp only [all2_cons] at hA
    simp (maxDischargeDepth := 6) only [hbV, hnb, hnV, hbaseV, ruD, ruW, putL, Nat.reduceLeDiff, xF, ruU, entryE, Nat.reduceLT, Nat.reduceAdd, Nat.reduceMul, Nat.reduceEqDiff]
    generalize hX : ext V _ = X
    have mX : Mod [n] V X := hX ▸ Mod.ext (hbV ▸ hbaseV)
    have mHX := mHV.trans mX
    have hlX : TreeAt X l := hlV.mod mX (fun m hm => mHV.lt (hll m hm)) (fun m hm h => hnl (by simp at h; exact h ▸ hm))
    have hrX : TreeAt X r := hrV.mod mX (fun m hm => mHV.lt (hlr m hm)) (fun m hm h => hnr (by simp at h; exact h ▸ hm))
    have hnX : bk X n = some ⟨80, false, [.bool be, .int .i64 f2, l.val, r.val]⟩ := by rw [← hX, bk_old (hbV.symm ▸ hnb), hnV]
    have h2X : bk X (b + 2) = some ⟨83, false, (partB be f2 rc).cells⟩ := by rw [← hX, bk_at hbV (by simp)]; rfl
    have l2X : b + 2 < X.next := by rw [← hX, ext_next, hbV]; simp
    have hrn := restrict_next X l.blks
    obtain ⟨_, g, hc, rfl, m1, t1⟩ := ihl (partA be f2 rc) (X.restrict l.blks) (by rw [hrn.1, hrn.2.1]; exact Nat.le_refl _) (hlX.of fun m hm => by rw [restrict_get, if_pos hm]) (fun m hm => by rw [hrn.1]; exact mHX.lt (hll m hm)) hndl
    refine genV_mod (W := l.blks) l.blks (mHX.ok hok) (by simp only [ruU, entryE, Nat.reduceLT, Nat.reduceAdd, Nat.reduceMul, Nat.reduceEqDiff]) (by kernel_rfl) hlX.ne (fun m hm => mHX.lt (hll m hm)) (fun _ h => h) (v := .tuple #[]) (g := g) (by simp only [ruU, entryE, Nat.reduceLT, Nat.reduceAdd, Nat.reduceMul, Nat.reduceEqDiff]; exact hc) m1 (by simp only [all2_cons, hA, true_or, and_true, all2_nil]) ?_
    intro H1 D mH1 hF _ _ _
    have t1' : TreeAt H1 (l.balance (partA be f2 rc)) := t1.of fun m hm => hF m (by rw [Tr.balance_blks] at hm; exact hm)
    have hn1 := (mH1.bk (mHX.lt (hb ▸ hnb)) hnl).trans hnX
    have hb1 : n < H1.next := mH1.lt (mHX.lt (hb ▸ hnb))
    have h21 := (mH1.bk l2X (fun h => absurd (hll _ h) (by omega))).trans h2X
    have l21 := mH1.lt l2X
    rw [show H1 = ext H1 [] from rfl]
    simp only [Rc.cells] at h21
    simp (maxDischargeDepth := 6) only [ruD, ruW, putL, Nat.reduceLeDiff, xF, ruU, entryE, Nat.reduceLT, Nat.reduceAdd, Nat.reduceMul, Nat.reduceEqDiff]
    refine w_drawB [(6, 4), (6, 5)] [] (by kernel_rfl) (by kernel_rfl) rfl fun ops anc hA hG => ?_
    simp only [all2_cons] at hA
    simp (maxDischargeDepth := 6) only [hb1, hn1, h21, l21, ruD, ruW, putL, Nat.reduceLeDiff, xF, ruU, entryE, Nat.reduceLT, Nat.reduceAdd, Nat.reduceMul, Nat.reduceEqDiff]
    have hr1 : TreeAt H1 r := hrX.mod mH1 (fun m hm => mHX.lt (hlr m hm)) hlr3
    have hrn1 := restrict_next H1 r.blks
    obtain ⟨_, g2, hc2, rfl, m2, t2⟩ := ihr (partB be f2 rc) (H1.restrict r.blks) (by rw [hrn1.1, hrn1.2.1]; exact Nat.le_refl _) (hr1.of fun m hm => by rw [restrict_get, if_pos hm]) (fun m hm => by rw [hrn1.1]; exact mH1.lt (mHX.lt (hlr m hm))) hndr
    refine genV_mod (H := ext H1 []) (W := r.blks) r.blks (mH1.ok (mHX.ok hok)) (by simp only [ruU, entryE, Nat.reduceLT, Nat.reduceAdd, Nat.reduceMul, Nat.reduceEqDiff]) (by kernel_rfl) hr1.ne (fun m hm => mH1.lt (mHX.lt (hlr m hm))) (fun _ h => h) (v := .tuple #[]) (g := g2) (by simp only [ruU, entryE, Nat.reduceLT, Nat.reduceAdd, Nat.reduceMul, Nat.reduceEqDiff]; exact hc2) m2 (by simp only [all2_cons, hA, true_or, and_true, all2_nil]) ?_
    intro H2 D2 mH2 hF2 _ _ _
    simp (maxDischargeDepth := 6) only [Try.results65, ruD, ruW, putL, Nat.reduceLeDiff, xF, ruU, entryE, Nat.reduceLT, Nat.reduceAdd, Nat.reduceMul, Nat.reduceEqDiff]
    refine ⟨((mHX.mono (by simp [Tr.blks])).trans (mH1.mono sl)).trans (mH2.mono sr), ?_⟩
    simp only [Tr.balance, hf1, hf2]
    refine ⟨?_, t1'.mod mH2 (fun m hm => ?_) (fun m hm => ?_), t2.of fun m hm => hF2 m (by rw [Tr.balance_blks] at hm; exact hm)⟩
    · rw [(mH2.bk hb1 hnr).trans hn1, Tr.balance_val, Tr.balance_val]
    · rw [Tr.balance_blks] at hm; exact mH1.lt (mHX.lt (hll m hm))
    · rw [Tr.balance_blks] at hm; exact hlr2 m hm

end Go.Proofs.Ytiedpcmdimgboaa

/- What windows comes to, whatever its yield does. -/
namespace Go.Proofs.Ytiedpcmdimgboaa
open Go.Ax
set_option linter.unusedSimpArgs false
set_option maxRecDepth 10000

def rects : Tr → Rc → List Rc
  | .leaf _ id, r => [{ r with id := id }]
  | .split _ be f l r, rc => rects l (partA be f rc) ++ rects r (partB be f rc)

def encR (r : Rc) : List Value := [r.val]

def WinPost {l cap : Nat} {go : Rc → Bool} (Y : Yld Try.prog l Rc encR go cap) (rs : List Rc) (F W : List Nat) (G : AHeap) (k : List Rc) (out : Out) (G' : AHeap) : Prop :=
  out = .ok (.bool (k.all go)) ∧ ∃ F' W', Y.Inv (rs ++ upto go k) F' W' G' ∧ Mod W G G' ∧ (∀ n ∈ F', n ∈ F ∨ G.next ≤ n) ∧ (∀ n ∈ W', n ∈ W ∨ G.next ≤ n)

theorem windows_c {l cap : Nat} {go : Rc → Bool} (Y : Yld Try.prog l Rc encR go cap) : ∀ (t : Tr) (rc : Rc) (rs : List Rc) (F W : List Nat) (G : AHeap), Y.Inv rs F W G → (∀ x ∈ rs, go x = true) → rs.length + (rects t rc).length ≤ cap → G.base ≤ G.next → TreeAt G t → (∀ n ∈ t.blks, n < G.next) → (∀ n ∈ t.blks, n ∉ W) →
    CallA Try.prog 68 [t.val, rc.val, .func (.yield l) #[] #[]] G (WinPost Y rs F W G (rects t rc))
  | .leaf n id, rc, rs, F, W, G, hI, hgo, hcap, hok, h, hlt, hW => by
    obtain ⟨b, hb⟩ : ∃ b, G.next = b := ⟨_, rfl⟩
    have hnb : n < b := hb ▸ hlt n (by simp [Tr.blks])
    have hbase : G.base ≤ b := hb ▸ hok
    simp only [TreeAt] at h
    refine callE_fn mixed Try.func68 rfl Try.ntmps68 (Nat.le_of_ble_eq_true rfl) ?_
    simp (maxDischargeDepth := 6) only [Tr.val, Rc.val, hb, hnb, h, hbase, ruW, putL, Nat.reduceLeDiff, xF, ruU, entryE, Nat.reduceLT, Nat.reduceAdd, Nat.reduceMul, Nat.reduceEqDiff]
    refine w_callY (l := l) (by simp only [ruU, entryE, Nat.reduceLT, Nat.reduceAdd, Nat.reduceMul, Nat.reduceEqDiff]) (by simp only [ruU, entryE, Nat.reduceLT, Nat.reduceAdd, Nat.reduceMul, Nat.reduceEqDiff]) (by simp only [ruU, entryE, Nat.reduceLT, Nat.reduceAdd, Nat.reduceMul, Nat.reduceEqDiff]) ?_
    simp only [ruU, entryE, Nat.reduceLT, Nat.reduceAdd, Nat.reduceMul, Nat.reduceEqDiff]
    generalize hX : ext G _ = X
    have mX : Mod W G X := hX ▸ Mod.ext hok
    have hIX : Y.Inv rs F W X := Y.loc hI mX.next (fun m hm => hX ▸ ext_get_old ((Y.dom hI m hm).2))
    refine (Y.step (r := { rc with id := id }) hIX hgo (by simp only [rects, List.length_singleton] at hcap; omega) (mX.ok hok)).mono ?_
    rintro _ G' ⟨rfl, F', W', h1, h2, h3, h4⟩
    simp (maxDischargeDepth := 6) only [Try.results68, ruW, putL, Nat.reduceLeDiff, xF, ruU, entryE, Nat.reduceLT, Nat.reduceAdd, Nat.reduceMul, Nat.reduceEqDiff]
    refine ⟨by simp [rects], F', W', ?_, mX.trans h2, fun m hm => (h3 m hm).imp (fun h => h) (fun h => Nat.le_trans mX.next h), fun m hm => (h4 m hm).imp (fun h => h) (fun h => Nat.le_trans mX.next h)⟩
    simp only [rects, upto]
    split <;> exact h1
  | .split n be f tl tr, rc, rs, F, W, G, hI, hgo, hcap, hok, h, hlt, hW => by
    have ihl := windows_c Y tl
    have ihr := windows_c Y tr
    obtain ⟨b, hb⟩ : ∃ b, G.next = b := ⟨_, rfl⟩
    obtain ⟨hn, hl, hr⟩ := h
    have hnb : n < b := hb ▸ hlt n (by simp [Tr.blks])
    have hbase : G.base ≤ b := hb ▸ hok
    have hll : ∀ m ∈ tl.blks, m < G.next := fun m hm => hlt m (by simp [Tr.blks, hm])
    have hlr : ∀ m ∈ tr.blks, m < G.next := fun m hm => hlt m (by simp [Tr.blks, hm])
    have hWn : n ∉ W := hW n (by simp [Tr.blks])
    have hWl : ∀ m ∈ tl.blks, m ∉ W := fun m hm => hW m (by simp [Tr.blks, hm])
    have hWr : ∀ m ∈ tr.blks, m ∉ W := fun m hm => hW m (by simp [Tr.blks, hm])
    refine callE_fn mixed Try.func68 rfl Try.ntmps68 (Nat.le_of_ble_eq_true rfl) ?_
    simp (maxDischargeDepth := 6) only [Tr.val, Rc.val, hb, hnb, hn, hbase, ruW, putL, Nat.reduceLeDiff, xF, ruU, entryE, Nat.reduceLT, Nat.reduceAdd, Nat.reduceMul, Nat.reduceEqDiff]
    refine (parts_c n be f tl.val tr.val rc (ext G _) ((bk_old (hb.symm ▸ hnb)).trans hn)).to ?_
    simp (maxDischargeDepth := 6) only [Rc.val, hb, hnb, hn, hbase, ruW, putL, Nat.reduceLeDiff, xF, ruU, entryE, Nat.reduceLT, Nat.reduceAdd, Nat.reduceMul, Nat.reduceEqDiff]
    refine w_drawB [(7, 4), (7, 5), (8, 7), (9, 7), (10, 7), (11, 7), (12, 7), (13, 7), (14, 7), (15, 7), (16, 7), (17, 7), (18, 7), (16, 13), (16, 14), (17, 16), (18, 16), (16, 4), (16, 5)] [(8, 40)] (by kernel_rfl) (by kernel_rfl) (by kernel_rfl) fun ops anc hA hG => ?_
    simp only [all2_cons] at hA hG
    simp (maxDischargeDepth := 6) only [hb, hnb, hn, hbase, hA, hG, ruD, ruW, putL, Nat.reduceLeDiff, xF, ruU, entryE, Nat.reduceLT, Nat.reduceAdd, Nat.reduceMul, Nat.reduceEqDiff]
    generalize hX : ext G _ = X
    have mX : Mod W G X := hX ▸ Mod.ext hok
    have hIX : Y.Inv rs F W X := Y.loc hI mX.next (fun m hm => hX ▸ ext_get_old ((Y.dom hI m hm).2))
    have hlX : TreeAt X tl := hl.mod mX hll hWl
    have hrX : TreeAt X tr := hr.mod mX hlr hWr
    have hnX : bk X n = some ⟨80, false, [.bool be, .int .i64 f, tl.val, tr.val]⟩ := by rw [← hX, bk_old (hb.symm ▸ hnb), hn]
    have h2X : bk X (b + 2) = some ⟨83, false, (partB be f rc).cells⟩ := by rw [← hX, bk_at hb (by simp)]; rfl
    have l2X : b + 2 < X.next := by rw [← hX, ext_next, hb]; simp
    have hrn := restrict_next X (tl.blks ++ F)
    have gF : ∀ m ∈ tl.blks ++ F, (X.restrict (tl.blks ++ F)).get m = X.get m := fun m hm => by rw [restrict_get, if_pos hm]
    obtain ⟨_, g, hc, rfl, F1, W1, hI1, m1, hF1, hW1⟩ := ihl (partA be f rc) rs F W (X.restrict (tl.blks ++ F)) (Y.loc hIX (Nat.le_of_eq hrn.1.symm) (fun m hm => gF m (by simp [hm]))) hgo (by simp only [rects, List.length_append] at hcap; omega) (by rw [hrn.1, hrn.2.1]; exact Nat.le_refl _)
      (hlX.of fun m hm => gF m (by simp [hm])) (fun m hm => by rw [hrn.1]; exact mX.lt (hll m hm)) hWl
    refine genV_mod (W := W) (tl.blks ++ F) (mX.ok hok) (by simp only [ruU, entryE, Nat.reduceLT, Nat.reduceAdd, Nat.reduceMul, Nat.reduceEqDiff]) (by kernel_rfl) ?_ ?_ (fun m hm => by simp [Y.sub hI m hm]) (v := .bool ((rects tl (partA be f rc)).all go)) (g := g) (by simp only [ruU, entryE, Nat.reduceLT, Nat.reduceAdd, Nat.reduceMul, Nat.reduceEqDiff]; exact hc) m1 (by simp only [all2_cons, hA, true_or, and_true, all2_nil]) ?_
    · intro m hm
      rcases List.mem_append.1 hm with hm | hm
      · exact hlX.ne m hm
      · exact (Y.dom hIX m hm).1
    · intro m hm
      rcases List.mem_append.1 hm with hm | hm
      · exact mX.lt (hll m hm)
      · exact (Y.dom hIX m hm).2
    intro X1 D mX1 hgF hgN hX1n _
    rw [hrn.1] at hF1 hW1
    have hIX1 : Y.Inv (rs ++ upto go (rects tl (partA be f rc))) F1 W1 X1 := by
      refine Y.loc hI1 (Nat.le_of_eq hX1n.symm) (fun m hm => ?_)
      rcases hF1 m hm with h | h
      · exact hgF m (by simp [h])
      · exact hgN m h ((Y.dom hI1 m hm).2)
    have mGX1 : Mod W G X1 := mX.trans mX1
    have hF1' : ∀ m ∈ F1, m ∈ F ∨ G.next ≤ m := fun m hm => (hF1 m hm).imp (fun h => h) (fun h => Nat.le_trans mX.next h)
    have hW1' : ∀ m ∈ W1, m ∈ W ∨ G.next ≤ m := fun m hm => (hW1 m hm).imp (fun h => h) (fun h => Nat.le_trans mX.next h)
    cases hall : (rects tl (partA be f rc)).all go with
    | false =>
      rw [show X1 = ext X1 [] from rfl]
      simp (maxDischargeDepth := 6) only [hA, hG, Try.results68, ruD, ruW, putL, Nat.reduceLeDiff, xF, ruU, entryE, Nat.reduceLT, Nat.reduceAdd, Nat.reduceMul, Nat.reduceEqDiff]
      refine ⟨?_, F1, W1, ?_, mGX1, hF1', hW1'⟩
      · simp only [rects, List.all_append, hall, Bool.false_and]
      · simp only [rects, upto_stop hall]
        exact hIX1
    | true =>
      have hn1 := (mX1.bk (mX.lt (hb ▸ hnb)) hWn).trans hnX
      have hb1 : n < X1.next := mX1.lt (mX.lt (hb ▸ hnb))
      have h21 := (mX1.bk l2X (fun h => absurd (Y.dom hI _ (Y.sub hI _ h)).2 (by omega))).trans h2X
      have l21 := mX1.lt l2X
      simp only [Rc.cells] at h21
      rw [upto_all hall] at hIX1
      have hgo1 : ∀ x ∈ rs ++ rects tl (partA be f rc), go x = true := fun x hx => (List.mem_append.1 hx).elim (hgo x) (List.all_eq_true.1 hall x)
      have hWl1 : ∀ m ∈ tr.blks, m ∉ W1 := fun m hm h => (hW1' m h).elim (hWr m hm) (by have := hlr m hm; omega)
      have hr1 : TreeAt X1 tr := hrX.mod mX1 (fun m hm => mX.lt (hlr m hm)) hWr
      rw [show X1 = ext X1 [] from rfl]
      simp (maxDischargeDepth := 6) only [hb1, hn1, h21, l21, hA, hG, ruD, ruW, putL, Nat.reduceLeDiff, xF, ruU, entryE, Nat.reduceLT, Nat.reduceAdd, Nat.reduceMul, Nat.reduceEqDiff]
      have hrn2 := restrict_next X1 (tr.blks ++ F1)
      have gF2 : ∀ m ∈ tr.blks ++ F1, (X1.restrict (tr.blks ++ F1)).get m = X1.get m := fun m hm => by rw [restrict_get, if_pos hm]
      obtain ⟨_, g2, hc2, rfl, F2, W2, hI2, m2, hF2, hW2⟩ := ihr (partB be f rc) _ F1 W1 (X1.restrict (tr.blks ++ F1)) (Y.loc hIX1 (Nat.le_of_eq hrn2.1.symm) (fun m hm => gF2 m (by simp [hm]))) hgo1 (by simp only [rects, List.length_append] at hcap ⊢; omega) (by rw [hrn2.1, hrn2.2.1]; exact Nat.le_refl _)
        (hr1.of fun m hm => gF2 m (by simp [hm])) (fun m hm => by rw [hrn2.1]; exact mGX1.lt (hlr m hm)) hWl1
      refine genV_mod (H := ext X1 []) (W := W1) (tr.blks ++ F1) (mGX1.ok hok) (by simp only [ruU, entryE, Nat.reduceLT, Nat.reduceAdd, Nat.reduceMul, Nat.reduceEqDiff]) (by kernel_rfl) ?_ ?_ (fun m hm => by simp [Y.sub hIX1 m hm]) (v := .bool ((rects tr (partB be f rc)).all go)) (g := g2) (by simp only [ruU, entryE, Nat.reduceLT, Nat.reduceAdd, Nat.reduceMul, Nat.reduceEqDiff]; exact hc2) m2 (by simp only [all2_cons, hA, true_or, and_true, all2_nil]) ?_
      · intro m hm
        rcases List.mem_append.1 hm with hm | hm
        · exact hr1.ne m hm
        · exact (Y.dom hIX1 m hm).1
      · intro m hm
        rcases List.mem_append.1 hm with hm | hm
        · exact mGX1.lt (hlr m hm)
        · exact (Y.dom hIX1 m hm).2
      intro X2 D2 mX2 hgF2 hgN2 hX2n _
      rw [hrn2.1] at hF2 hW2
      have hIX2 : Y.Inv (rs ++ rects tl (partA be f rc) ++ upto go (rects tr (partB be f rc))) F2 W2 X2 := by
        refine Y.loc hI2 (Nat.le_of_eq hX2n.symm) (fun m hm => ?_)
        rcases hF2 m hm with h | h
        · exact hgF2 m (by simp [h])
        · exact hgN2 m h ((Y.dom hI2 m hm).2)
      have mX2' : Mod W1 X1 X2 := mX2
      rw [show X2 = ext X2 [] from rfl]
      simp (maxDischargeDepth := 6) only [hA, hG, Try.results68, ruD, ruW, putL, Nat.reduceLeDiff, xF, ruU, entryE, Nat.reduceLT, Nat.reduceAdd, Nat.reduceMul, Nat.reduceEqDiff]
      refine ⟨?_, F2, W2, ?_, mGX1.step mX2' hok hW1', fun m hm => (hF2 m hm).elim (hF1' m) (fun h => .inr (Nat.le_trans mGX1.next h)), fun m hm => (hW2 m hm).elim (hW1' m) (fun h => .inr (Nat.le_trans mGX1.next h))⟩
      · simp only [rects, List.all_append, hall, Bool.true_and]
      · simp only [rects, upto_append hall]
        rw [← List.append_assoc]
        exact hIX2

end Go.Proofs.Ytiedpcmdimgboaa

/- What Rects comes to. -/
namespace Go.Proofs.Ytiedpcmdimgboaa
open Go.Ax
set_option linter.unusedSimpArgs false
set_option maxRecDepth 10000

def Wn.frame (x : Wn) : Rc := ⟨0, 0, 0, x.h, x.w⟩
def Wn.rects (x : Wn) : List Rc := Go.Proofs.Ytiedpcmdimgboaa.rects x.root x.frame

theorem all_c (T : Nat) (H : AHeap) : CallS Try.prog 40 [.pointer (some ⟨T, 0, none⟩)] H (.ok (.func (.func 67) #[] #[.pointer (some ⟨H.next + 0, 0, none⟩)])) (ext H [⟨24, false, [.pointer (some ⟨T, 0, none⟩)]⟩]) := by
  obtain ⟨b, hb⟩ : ∃ b, H.next = b := ⟨_, rfl⟩
  refine callS_fn mixed Try.func40 rfl Try.ntmps40 (Nat.le_of_ble_eq_true rfl) fun wf hsc => ?_
  have hT : T < b := by
    rw [hb] at hsc
    simp only [scbL, scb, Bool.and_true] at hsc
    exact blt_lt hsc
  simp (maxDischargeDepth := 6) only [hb, hT, Try.results40, ruW, putL, Nat.reduceLeDiff, xF, ruU, entryE, Nat.reduceLT, Nat.reduceAdd, Nat.reduceMul, Nat.reduceEqDiff]
  exact Fin.same

def AllPost {l cap : Nat} {go : Rc → Bool} (Y : Yld Try.prog l Rc encR go cap) (F W : List Nat) (G : AHeap) (k : List Rc) (out : Out) (G' : AHeap) : Prop :=
  out = .ok (.tuple #[]) ∧ ∃ F' W', Y.Inv (upto go k) F' W' G' ∧ Mod W G G' ∧ (∀ n ∈ F', n ∈ F ∨ G.next ≤ n) ∧ (∀ n ∈ W', n ∈ W ∨ G.next ≤ n)

theorem allf_c {l cap : Nat} {go : Rc → Bool} (Y : Yld Try.prog l Rc encR go cap) (c T : Nat) (x : Wn) (F W : List Nat) (G : AHeap) (hI : Y.Inv [] F W G) (hcap : x.rects.length ≤ cap) (hok : G.base ≤ G.next) (hc : bk G c = some ⟨24, false, [.pointer (some ⟨T, 0, none⟩)]⟩) (hlc : c < G.next) (hT : WnAt G T x) (hlT : T < G.next)
    (hlt : ∀ n ∈ x.root.blks, n < G.next) (hW : ∀ n ∈ x.root.blks, n ∉ W) : CallA Try.prog 67 [.func (.yield l) #[] #[], .pointer (some ⟨c, 0, none⟩)] G (AllPost Y F W G x.rects) := by
  have h1 := hT.1
  simp only [Wn.cells] at h1
  refine callE_fn mixed Try.func67 rfl Try.ntmps67 (Nat.le_of_ble_eq_true rfl) ?_
  simp (maxDischargeDepth := 6) only [hlc, hc, ruW, putL, Nat.reduceLeDiff, xF, ruU, entryE, Nat.reduceLT, Nat.reduceAdd, Nat.reduceMul, Nat.reduceEqDiff]
  refine (made_c T x (ext G []) hT).to ?_
  simp (maxDischargeDepth := 6) only [ruW, putL, Nat.reduceLeDiff, xF, ruU, entryE, Nat.reduceLT, Nat.reduceAdd, Nat.reduceMul, Nat.reduceEqDiff]
  refine w_drawB [(7, 0), (7, 3), (7, 4), (7, 5)] [] (by kernel_rfl) (by kernel_rfl) rfl fun ops anc hA hG => ?_
  simp only [all2_cons] at hA
  simp (maxDischargeDepth := 6) only [hlc, hc, hlT, h1, hA, ruD, ruW, putL, Nat.reduceLeDiff, xF, ruU, entryE, Nat.reduceLT, Nat.reduceAdd, Nat.reduceMul, Nat.reduceEqDiff]
  refine genV_quiet (v := x.frame.val) [T] (by simp (maxDischargeDepth := 6) only [ruU, entryE, Nat.reduceLT, Nat.reduceAdd, Nat.reduceMul, Nat.reduceEqDiff]) (by kernel_rfl) (by decide) (fun m hm => by simp (maxDischargeDepth := 6) only [List.mem_singleton] at hm; subst hm; exact bk_ne (H := G) h1) (fun K _ hg => ?_) (by simp (maxDischargeDepth := 6) only [ruD, ruW, putL, Nat.reduceLeDiff, xF, ruU, entryE, Nat.reduceLT, Nat.reduceAdd, Nat.reduceMul, Nat.reduceEqDiff]) ?_
  · simp only [ruU, entryE, Nat.reduceLT, Nat.reduceAdd, Nat.reduceMul, Nat.reduceEqDiff]
    exact frame_c T x K ((bk_get (hg T (by simp))).trans hT.1)
  simp (maxDischargeDepth := 6) only [hA, ruD, ruW, putL, Nat.reduceLeDiff, xF, ruU, entryE, Nat.reduceLT, Nat.reduceAdd, Nat.reduceMul, Nat.reduceEqDiff]
  have hrn := restrict_next G (x.root.blks ++ F)
  have gF : ∀ m ∈ x.root.blks ++ F, (G.restrict (x.root.blks ++ F)).get m = G.get m := fun m hm => by rw [restrict_get, if_pos hm]
  obtain ⟨_, g, hcg, rfl, F1, W1, hI1, m1, hF1, hW1⟩ := windows_c Y x.root x.frame [] F W (G.restrict (x.root.blks ++ F)) (Y.loc hI (Nat.le_of_eq hrn.1.symm) (fun m hm => gF m (by simp [hm]))) (by simp) (by simp only [List.length_nil, Nat.zero_add]; exact hcap) (by rw [hrn.1, hrn.2.1]; exact Nat.le_refl _)
    (hT.2.of fun m hm => gF m (by simp [hm])) (fun m hm => by rw [hrn.1]; exact hlt m hm) hW
  refine genV_mod (H := ext G []) (W := W) (x.root.blks ++ F) hok (by simp only [ruU, entryE, Nat.reduceLT, Nat.reduceAdd, Nat.reduceMul, Nat.reduceEqDiff]) (by kernel_rfl) ?_ ?_ (fun m hm => by simp [Y.sub hI m hm]) (v := .bool ((rects x.root x.frame).all go)) (g := g) (by simp only [ruU, entryE, Nat.reduceLT, Nat.reduceAdd, Nat.reduceMul, Nat.reduceEqDiff]; exact hcg) m1 (by simp only [all2_cons, hA, true_or, and_true, all2_nil]) ?_
  · intro m hm
    rcases List.mem_append.1 hm with hm | hm
    · exact hT.2.ne m hm
    · exact (Y.dom hI m hm).1
  · intro m hm
    rcases List.mem_append.1 hm with hm | hm
    · exact hlt m hm
    · exact (Y.dom hI m hm).2
  intro X1 D mX1 hgF hgN hX1n _
  rw [hrn.1] at hF1 hW1
  rw [show X1 = ext X1 [] from rfl]
  simp (maxDischargeDepth := 6) only [Try.results67, ruD, ruW, putL, Nat.reduceLeDiff, xF, ruU, entryE, Nat.reduceLT, Nat.reduceAdd, Nat.reduceMul, Nat.reduceEqDiff]
  refine ⟨rfl, F1, W1, ?_, mX1, hF1, hW1⟩
  refine Y.loc hI1 (Nat.le_of_eq hX1n.symm) (fun m hm => ?_)
  rcases hF1 m hm with h | h
  · exact hgF m (by simp [h])
  · exact hgN m h ((Y.dom hI1 m hm).2)

end Go.Proofs.Ytiedpcmdimgboaa

/- What Rects comes to: the rows gathered. -/
namespace Go.Proofs.Ytiedpcmdimgboaa
open Go.Ax
set_option linter.unusedSimpArgs false
set_option maxRecDepth 10000

def rowsOf (rs : List Rc) : List Value := rs.flatMap Rc.cells
theorem rowsOf_length (rs : List Rc) : (rowsOf rs).length = rs.length * 5 := by
  induction rs with
  | nil => rfl
  | cons r rs ih => simp only [rowsOf, List.flatMap_cons, List.length_append] at ih ⊢; rw [ih]; simp only [Rc.cells, List.length_cons, List.length_nil]; omega
theorem rowsOf_one (rs : List Rc) : (rowsOf rs).all one = true := by
  induction rs with
  | nil => rfl
  | cons r rs ih => simp only [rowsOf, List.flatMap_cons, List.all_append] at ih ⊢; rw [ih]; rfl
theorem rowsOf_sc (rs : List Rc) (n : Nat) : scbL n (rowsOf rs) = true := by
  induction rs with
  | nil => rfl
  | cons r rs ih =>
    simp only [rowsOf, List.flatMap_cons, Rc.cells, List.cons_append, List.nil_append] at ih ⊢
    simp only [scbL, scb, ih, Bool.and_self]

def lpApp (asg bod : Code) (d : Nat) : Loop := { state := .ready, pending := none, fn := 0, tmps := #[], params := ⟨[7]⟩, assign := asg, body := bod, defers := d }

def AppInv (l B : Nat) (lp : Loop) (e : RV) (rs : List Rc) (F W : List Nat) (G : AHeap) : Prop :=
  LoopAt G l lp e ∧ l < G.next ∧ B < G.next ∧ B ≠ l ∧ F = W ∧
  ((rs = [] ∧ W = [B, l] ∧ bk G B = some ⟨32, false, [.slice none 0 0]⟩) ∨
   (∃ m, rs ≠ [] ∧ m ≠ B ∧ m ≠ l ∧ m < G.next ∧ W = [B, l, m] ∧ bk G B = some ⟨32, false, [.slice (some ⟨m, 0, none⟩) rs.length rs.length]⟩ ∧ bk G m = some ⟨35, true, rowsOf rs⟩))

theorem app_step {asg bod : Code} (hab : some (asg, bod) = Try.f66.body.bind rangeOf) {l B d : Nat} {E : Env} (hE : E 2 = .pointer (some ⟨B, 0, none⟩)) {rs : List Rc} {F W : List Nat} {G : AHeap} {r : Rc} (hI : AppInv l B (lpApp asg bod d) (rvOf 13 E) rs F W G) (hcap : rs.length < 10000) (hok : G.base ≤ G.next) :
    CallY Try.prog l (encR r) G (fun out G' => out = .ok (.bool true) ∧ ∃ F' W', AppInv l B (lpApp asg bod d) (rvOf 13 E) (rs ++ [r]) F' W' G' ∧ Mod W G G' ∧ (∀ n ∈ F', n ∈ F ∨ G.next ≤ n) ∧ (∀ n ∈ W', n ∈ W ∨ G.next ≤ n)) := by
  obtain ⟨hl, hll, hlB, hBl, rfl, hI⟩ := hI
  obtain ⟨b, hb⟩ : ∃ b, G.next = b := ⟨_, rfl⟩
  have hbase : G.base ≤ b := hb ▸ hok
  have hlB' : B < b := hb ▸ hlB
  refine callY_of (H := ext G []) (N := 13) (E := E) mixed hl rfl (zip_one (by decide)) ?_
  have h2 : Try.f66.body.bind rangeOf = some (_, _) := rfl
  cases hab.trans h2
  simp (maxDischargeDepth := 6) only [Rc.val, hE, hb, hbase, ruW, putL, Nat.reduceLeDiff, xF, ruU, entryE, Nat.reduceLT, Nat.reduceAdd, Nat.reduceMul, Nat.reduceEqDiff]
  rw [asgC_normal]
  refine ⟨_, _, (hl.of (ext_get_old hll)).get, rfl, ?_⟩
  rw [ext_setLoop hll]
  generalize hG1 : setLoop G l _ _ = G1
  have mG1 : Mod F G G1 := hG1 ▸ Mod.upd (by rcases hI with ⟨_, h, _⟩ | ⟨m, _, _, _, _, h, _⟩ <;> simp [h])
  have hb1 : G1.next = b := by rw [← hG1, setLoop_next, hb]
  have hbase1 : G1.base ≤ b := by rw [← hG1, setLoop_base]; exact hbase
  have hB1 : bk G1 B = bk G B := by rw [← hG1, bk_setLoop hBl]
  rcases hI with ⟨rfl, rfl, hB⟩ | ⟨m, hne, hmB, hml, hlm, rfl, hB, hm⟩
  · rw [hB] at hB1
    have happ := app_nil (P := Try.prog) (H := ext G1 [⟨35, false, r.cells⟩, ⟨35, false, r.cells⟩]) (st := 32) (xt := 32) (e := 35) (sz := 5) (by1 := 40) (z := .agg #[.int .i64 0, .int .i64 0, .int .i64 0, .int .i64 0, .int .i64 0]) (n := b + 1) (off := 0) (cnt := 1) (cap := 1) (s := some 0) (b := ⟨35, false, r.cells⟩) (by kernel_rfl) (by kernel_rfl) (by kernel_rfl) (by kernel_rfl) rfl (by kernel_rfl) (by rw [bk_at hb1 (by simp)]; rfl) (by simp [Rc.cells]) rfl (by decide) (by decide)
    simp only [Rc.cells] at happ
    simp (maxDischargeDepth := 6) only [hE, hb1, hB1, hlB', hbase1, happ, ruW, putL, Nat.reduceLeDiff, xF, ruU, entryE, Nat.reduceLT, Nat.reduceAdd, Nat.reduceMul, Nat.reduceEqDiff]
    rw [rndC_normal]
    have hl1 : LoopAt G1 l _ (rvOf 13 E) := hG1 ▸ LoopAt.set l _ _
    refine ⟨_, _, ((hl1.of (uw_get (Ne.symm hBl))).of (ext_get_old (by rw [uw_next, hb1, ← hb]; exact hll))).get, rfl, [B, l, b + 2], [B, l, b + 2], ?_⟩
    rw [ext_setLoop (by rw [uw_next, hb1, ← hb]; exact hll)]
    generalize hG2 : uw G1 B 0 _ = G2
    have mG2 : Mod [B, l] G1 G2 := hG2 ▸ Mod.uw (by simp)
    have hB2 : bk G2 B = some ⟨32, false, [.slice (some ⟨b + 2, 0, none⟩) 1 1]⟩ := by rw [← hG2, bk_uw_eq, hB1]; rfl
    have hb2 : G2.next = b := by rw [← hG2, uw_next, hb1]
    generalize hG3 : setLoop G2 l _ _ = G3
    have mG3 : Mod [B, l] G2 G3 := hG3 ▸ Mod.upd (by simp)
    have hb3 : G3.next = b := by rw [← hG3, setLoop_next, hb2]
    have hl3 : LoopAt G3 l _ (rvOf 13 E) := hG3 ▸ LoopAt.set l _ _
    have hB3 : bk G3 B = bk G2 B := by rw [← hG3, bk_setLoop hBl]
    have mA := (mG1.trans mG2).trans mG3
    refine ⟨⟨hl3.of (ext_get_old (by rw [hb3, ← hb]; exact hll)), ?_, ?_, hBl, rfl, .inr ⟨b + 2, by simp, ?_, ?_, ?_, rfl, ?_, ?_⟩⟩, mA.trans (Mod.ext (mA.ok hok)), ?_, ?_⟩
    · rw [ext_next, hb3]; omega
    · rw [ext_next, hb3]; omega
    · omega
    · omega
    · rw [ext_next, hb3]; simp
    · rw [bk_old (by rw [hb3]; exact hlB'), hB3, hB2]; rfl
    · rw [bk_at hb3 (by simp)]; rfl
    · intro n hn
      simp only [List.mem_cons, List.not_mem_nil, or_false] at hn ⊢
      omega
    · intro n hn
      simp only [List.mem_cons, List.not_mem_nil, or_false] at hn ⊢
      omega
  · rw [hB] at hB1
    have hm1 : bk G1 m = some ⟨35, true, rowsOf rs⟩ := by rw [← hG1, bk_setLoop hml, hm]
    have hlm' : m < b := hb ▸ hlm
    have happ := app_open (P := Try.prog) (H := ext G1 [⟨35, false, r.cells⟩, ⟨35, false, r.cells⟩]) (st := 32) (xt := 32) (e := 35) (sz := 5) (by1 := 40) (z := .agg #[.int .i64 0, .int .i64 0, .int .i64 0, .int .i64 0, .int .i64 0]) (m := m) (k := rs.length) (old := rowsOf rs) (n := b + 1) (off := 0) (cnt := 1) (cap := 1) (s := some 0) (b := ⟨35, false, r.cells⟩)
      (by kernel_rfl) (by kernel_rfl) (by kernel_rfl) (by kernel_rfl) rfl (by kernel_rfl) (by rw [bk_old (by rw [hb1]; exact hlm'), hm1]) (rowsOf_length rs) (rowsOf_one rs) (by rw [bk_at hb1 (by simp)]; rfl) (by simp [Rc.cells]) rfl (by decide)
      (by simp only [small, Bool.and_eq_true, Nat.ble_eq]; omega)
    rw [ext_dp (by rw [hb1]; exact hlm')] at happ
    simp only [Rc.cells] at happ
    have hlmB : ¬ B = m := fun h => hmB h.symm
    have hsr := rowsOf_sc rs
    have hBd : bk (dp G1 m) B = some ⟨32, false, [.slice (some ⟨m, 0, none⟩) rs.length rs.length]⟩ := by rw [bk_dp hlmB, hB1]
    have hsr2 : scbL (b + 2) (rowsOf rs ++ [.int .i64 r.id, .int .i64 r.top, .int .i64 r.left, .int .i64 r.h, .int .i64 r.w]) = true := by
      have := rowsOf_sc (rs ++ [r]) (b + 2)
      simpa [rowsOf, Rc.cells] using this
    have hbd : (dp G1 m).next = b := hb1
    simp (maxDischargeDepth := 6) only [hE, hb1, hB1, hBd, hlB', hbase1, happ, hsr2, hbd, ruW, putL, Nat.reduceLeDiff, xF, ruU, entryE, Nat.reduceLT, Nat.reduceAdd, Nat.reduceMul, Nat.reduceEqDiff]
    rw [rndC_normal]
    have hl1 : LoopAt G1 l _ (rvOf 13 E) := hG1 ▸ LoopAt.set l _ _
    refine ⟨_, _, (((hl1.of (dp_get (Ne.symm hml))).of (uw_get (Ne.symm hBl))).of (ext_get_old (by rw [uw_next, hbd, ← hb]; exact hll))).get, rfl, [B, l, b + 2], [B, l, b + 2], ?_⟩
    rw [ext_setLoop (by rw [uw_next, hbd, ← hb]; exact hll)]
    have mD : Mod [B, l, m] G1 (dp G1 m) := Mod.upd (by simp)
    generalize hG2 : uw (dp G1 m) B 0 _ = G2
    have mG2 : Mod [B, l, m] (dp G1 m) G2 := hG2 ▸ Mod.uw (by simp)
    have hB2 : bk G2 B = some ⟨32, false, [.slice (some ⟨b + 2, 0, none⟩) (rs.length + 1) (rs.length + 1)]⟩ := by rw [← hG2, bk_uw_eq, hBd]; rfl
    have hb2 : G2.next = b := by rw [← hG2, uw_next, hbd]
    generalize hG3 : setLoop G2 l _ _ = G3
    have mG3 : Mod [B, l, m] G2 G3 := hG3 ▸ Mod.upd (by simp)
    have hb3 : G3.next = b := by rw [← hG3, setLoop_next, hb2]
    have hl3 : LoopAt G3 l _ (rvOf 13 E) := hG3 ▸ LoopAt.set l _ _
    have hB3 : bk G3 B = bk G2 B := by rw [← hG3, bk_setLoop hBl]
    have mA := ((mG1.trans mD).trans mG2).trans mG3
    refine ⟨⟨hl3.of (ext_get_old (by rw [hb3, ← hb]; exact hll)), ?_, ?_, hBl, rfl, .inr ⟨b + 2, by simp, ?_, ?_, ?_, rfl, ?_, ?_⟩⟩, mA.trans (Mod.ext (mA.ok hok)), ?_, ?_⟩
    · rw [ext_next, hb3]; omega
    · rw [ext_next, hb3]; omega
    · omega
    · omega
    · rw [ext_next, hb3]; simp
    · rw [bk_old (by rw [hb3]; exact hlB'), hB3, hB2]; simp
    · rw [bk_at hb3 (by simp)]
      simp only [List.getElem?_cons_succ, List.getElem?_cons_zero, rowsOf, List.flatMap_append, List.flatMap_cons, List.flatMap_nil, List.append_nil, Rc.cells]
    · intro n hn
      simp only [List.mem_cons, List.not_mem_nil, or_false] at hn ⊢
      omega
    · intro n hn
      simp only [List.mem_cons, List.not_mem_nil, or_false] at hn ⊢
      omega

def yApp {asg bod : Code} (hab : some (asg, bod) = Try.f66.body.bind rangeOf) {l B d : Nat} {E : Env} (hE : E 2 = .pointer (some ⟨B, 0, none⟩)) : Yld Try.prog l Rc encR (fun _ => true) 10000 where
  Inv := AppInv l B (lpApp asg bod d) (rvOf 13 E)
  sub := by
    rintro rs F W G ⟨_, _, _, _, rfl, _⟩ n hn
    exact hn
  dom := by
    rintro rs F W G ⟨⟨o, hl⟩, hll, hlB, _, rfl, ⟨_, rfl, hB⟩ | ⟨m, _, _, _, hlm, rfl, hB, hm⟩⟩ n hn <;> simp only [List.mem_cons, List.not_mem_nil, or_false] at hn
    · rcases hn with rfl | rfl
      · exact ⟨bk_ne hB, hlB⟩
      · exact ⟨by rw [hl]; simp, hll⟩
    · rcases hn with rfl | rfl | rfl
      · exact ⟨bk_ne hB, hlB⟩
      · exact ⟨by rw [hl]; simp, hll⟩
      · exact ⟨bk_ne hm, hlm⟩
  loc := by
    rintro rs F W G G' ⟨hl, hll, hlB, hBl, rfl, hI⟩ hn hg
    refine ⟨hl.of (hg l ?_), by omega, by omega, hBl, rfl, ?_⟩
    · rcases hI with ⟨_, h, _⟩ | ⟨m, _, _, _, _, h, _⟩ <;> simp [h]
    · rcases hI with ⟨h1, rfl, hB⟩ | ⟨m, h1, h2, h3, hlm, rfl, hB, hm⟩
      · exact .inl ⟨h1, rfl, (bk_get (hg B (by simp))).trans hB⟩
      · exact .inr ⟨m, h1, h2, h3, by omega, rfl, (bk_get (hg B (by simp))).trans hB, (bk_get (hg m (by simp))).trans hm⟩
  step := fun hI _ hcap hok => app_step hab hE hI hcap hok

theorem rects_ne : ∀ (t : Tr) (r : Rc), rects t r ≠ []
  | .leaf _ _, _ => by simp [rects]
  | .split _ be f l r, rc => by
    have := rects_ne l (partA be f rc)
    simp [rects, this]

theorem appendSeq_c (c T : Nat) (x : Wn) (H : AHeap) (hcap : x.rects.length ≤ 10000) (hc : bk H c = some ⟨24, false, [.pointer (some ⟨T, 0, none⟩)]⟩) (hT : WnAt H T x) :
    CallS Try.prog 66 [.slice none 0 0, .func (.func 67) #[] #[.pointer (some ⟨c, 0, none⟩)]] H (.ok (.slice (some ⟨H.next, 0, none⟩) x.rects.length x.rects.length)) (ext H [⟨35, true, rowsOf x.rects⟩]) := by
  refine callS_one (fun wf hsc => ?_) (fun _ _ => rowsOf_sc _ _)
  obtain ⟨b, hb⟩ : ∃ b, H.next = b := ⟨_, rfl⟩
  have hok := wf.base
  have hbase : H.base ≤ b := hb ▸ hok
  refine callE_fn mixed Try.func66 rfl Try.ntmps66 (Nat.le_of_ble_eq_true rfl) ?_
  simp (maxDischargeDepth := 6) only [hb, hbase, ruW, putL, Nat.reduceLeDiff, xF, ruU, entryE, Nat.reduceLT, Nat.reduceAdd, Nat.reduceMul, Nat.reduceEqDiff]
  refine w_env fun E hE => ?_
  have h2 : E 2 = .pointer (some ⟨b + 0, 0, none⟩) := by rw [hE]; simp only [ruU, entryE, Nat.reduceLT, Nat.reduceAdd, Nat.reduceMul, Nat.reduceEqDiff]
  have h6 : E 6 = .func (.func 67) #[] #[.pointer (some ⟨c, 0, none⟩)] := by rw [hE]; simp only [ruU, entryE, Nat.reduceLT, Nat.reduceAdd, Nat.reduceMul, Nat.reduceEqDiff]
  clear hE
  generalize hX : ext H _ = X
  have mX : Mod [] H X := hX ▸ Mod.ext hok
  have hbX : X.next = b + 1 := by rw [← hX, ext_next, hb]; rfl
  have hBX : bk X (b + 0) = some ⟨32, false, [.slice none 0 0]⟩ := by rw [← hX, bk_at hb (by simp)]; rfl
  refine w_rangeK (f := 67) (ca := [.pointer (some ⟨c, 0, none⟩)]) (mX.ok hok) (by decide) h6 (by kernel_rfl) fun K hlp hdf mK hbK => ?_
  replace mK := mK []
  rw [hbX] at hlp hdf hbK ⊢
  have mHK := mX.trans mK
  have lc : c < H.next := wf.lt hc
  have lT : T < H.next := wf.lt hT.1
  have lt := hT.2.lt wf
  have hI : (yApp (l := b + 1 + 1) (B := b + 0) (d := b + 1) rfl h2).Inv [] [b + 0, b + 1 + 1] [b + 0, b + 1 + 1] K :=
    ⟨hlp, by omega, by omega, by omega, rfl, .inl ⟨rfl, rfl, (mK.bk (by omega) (by simp)).trans hBX⟩⟩
  refine (allf_c _ c T x _ _ K hI hcap (mHK.ok hok) ((mHK.bk lc (by simp)).trans hc) (mHK.lt lc) ⟨(mHK.bk lT (by simp)).trans hT.1, hT.2.mod mHK lt (by simp)⟩ (mHK.lt lT) (fun n hn => mHK.lt (lt n hn)) (fun n hn h => ?_)).mono ?_
  · have := lt n hn
    simp only [List.mem_cons, List.not_mem_nil, or_false] at h
    omega
  rintro _ K1 ⟨rfl, F1, W1, ⟨hl1, hll1, hlB1, hBl1, rfl, hI1⟩, m1, hF1, hW1⟩
  rw [upto_all (by simp)] at hI1
  rcases hI1 with ⟨h, _⟩ | ⟨m, _, hmB, hml, hlm, rfl, hB1, hm1⟩
  · exact absurd h (rects_ne _ _)
  refine ⟨_, _, _, hl1.get, by simp [lpApp], rfl, ?_⟩
  generalize hK2 : setLoop K1 (b + 1 + 1) _ _ = K2
  have hbK2 : K2.next = K1.next := hK2 ▸ rfl
  have hB2 : bk K2 (b + 0) = _ := (hK2 ▸ bk_setLoop (by omega) : bk K2 (b + 0) = bk K1 (b + 0)).trans hB1
  have hm2 : bk K2 m = _ := (hK2 ▸ bk_setLoop hml : bk K2 m = bk K1 m).trans hm1
  have mK2 : Mod [b + 1 + 1] K1 K2 := hK2 ▸ Mod.upd (by simp)
  have hdK1 : K1.get (b + 1) = K.get (b + 1) := m1.get (b + 1) (by omega) (by simp)
  have hdK2 : K2.get (b + 1) = K1.get (b + 1) := hK2 ▸ setLoop_get (by omega)
  rw [show K2 = ext K2 [] from rfl]
  simp (maxDischargeDepth := 6) only [h2, hB2, show b + 0 < K2.next by omega, ruW, putL, Nat.reduceLeDiff, xF, ruU, entryE, Nat.reduceLT, Nat.reduceAdd, Nat.reduceMul, Nat.reduceEqDiff]
  refine lv_mark ⟨_, _, hdK2.trans (hdK1.trans hdf)⟩ ?_
  simp (maxDischargeDepth := 6) only [Try.results66, ruW, putL, Nat.reduceLeDiff, xF, ruU, entryE, Nat.reduceLT, Nat.reduceAdd, Nat.reduceMul, Nat.reduceEqDiff]
  refine ⟨m, rfl, ?_, ?_, ?_⟩
  · have := hW1 m (by simp)
    simp only [List.mem_cons, List.not_mem_nil, or_false] at this
    omega
  · have hne : m ≠ b + 1 := by
      have := hW1 m (by simp)
      simp only [List.mem_cons, List.not_mem_nil, or_false] at this
      omega
    exact (bk_get (by rw [ext_nil, AHeap.get_upd, if_neg hne])).trans hm2
  · have e1 := mHK.step m1 hok (fun n hn => by simp only [List.mem_cons, List.not_mem_nil, or_false] at hn; right; omega)
    have e2 := e1.step mK2 hok (fun n hn => by simp only [List.mem_cons, List.not_mem_nil, or_false] at hn; right; omega)
    exact e2.step (Mod.upd (W := [b + 1]) (by simp)) hok (fun n hn => by simp only [List.mem_cons, List.not_mem_nil, or_false] at hn; right; omega)

theorem collect_c (c T : Nat) (x : Wn) (H : AHeap) (hcap : x.rects.length ≤ 10000) (hc : bk H c = some ⟨24, false, [.pointer (some ⟨T, 0, none⟩)]⟩) (hT : WnAt H T x) :
    CallS Try.prog 39 [.func (.func 67) #[] #[.pointer (some ⟨c, 0, none⟩)]] H (.ok (.slice (some ⟨H.next, 0, none⟩) x.rects.length x.rects.length)) (ext H [⟨35, true, rowsOf x.rects⟩]) := by
  refine callS_fn mixed Try.func39 rfl Try.ntmps39 (Nat.le_of_ble_eq_true rfl) fun wf hsc => ?_
  simp (maxDischargeDepth := 6) only [ruW, putL, Nat.reduceLeDiff, xF, ruU, entryE, Nat.reduceLT, Nat.reduceAdd, Nat.reduceMul, Nat.reduceEqDiff]
  refine (appendSeq_c c T x (ext H []) hcap hc hT).to ?_
  simp (maxDischargeDepth := 6) only [Try.results39, ruW, putL, Nat.reduceLeDiff, xF, ruU, entryE, Nat.reduceLT, Nat.reduceAdd, Nat.reduceMul, Nat.reduceEqDiff]
  exact Fin.same

theorem rects_c (T : Nat) (x : Wn) (H : AHeap) (hcap : x.rects.length ≤ 10000) (hT : WnAt H T x) :
    CallS Try.prog 12 [.pointer (some ⟨T, 0, none⟩)] H (.ok (.slice (some ⟨H.next, 0, none⟩) x.rects.length x.rects.length)) (ext H [⟨35, true, rowsOf x.rects⟩]) := by
  refine callS_one (fun wf hsc => ?_) (fun _ _ => rowsOf_sc _ _)
  obtain ⟨b, hb⟩ : ∃ b, H.next = b := ⟨_, rfl⟩
  have lT : T < H.next := wf.lt hT.1
  have lt := hT.2.lt wf
  refine callE_fn mixed Try.func12 rfl Try.ntmps12 (Nat.le_of_ble_eq_true rfl) ?_
  simp (maxDischargeDepth := 6) only [ruW, putL, Nat.reduceLeDiff, xF, ruU, entryE, Nat.reduceLT, Nat.reduceAdd, Nat.reduceMul, Nat.reduceEqDiff]
  refine (all_c T (ext H [])).to ?_
  simp (maxDischargeDepth := 6) only [ext_append, ruW, putL, Nat.reduceLeDiff, xF, ruU, entryE, Nat.reduceLT, Nat.reduceAdd, Nat.reduceMul, Nat.reduceEqDiff]
  have m1 : Mod [] H (ext H [⟨24, false, [.pointer (some ⟨T, 0, none⟩)]⟩]) := Mod.ext wf.base
  refine (collect_c (H.next + 0) T x (ext H [⟨24, false, [.pointer (some ⟨T, 0, none⟩)]⟩]) hcap (by rw [bk_at rfl (by simp)]; rfl) ⟨(m1.bk lT (by simp)).trans hT.1, hT.2.mod m1 lt (by simp)⟩).to ?_
  simp (maxDischargeDepth := 6) only [ext_append, Try.results12, ruW, putL, Nat.reduceLeDiff, xF, ruU, entryE, Nat.reduceLT, Nat.reduceAdd, Nat.reduceMul, Nat.reduceEqDiff]
  refine ⟨H.next + 1, rfl, by omega, by rw [bk_at rfl (by simp)]; rfl, Mod.ext wf.base⟩

end Go.Proofs.Ytiedpcmdimgboaa

/- What path and find come to. -/
namespace Go.Proofs.Ytiedpcmdimgboaa
open Go.Ax
set_option linter.unusedSimpArgs false
set_option maxRecDepth 10000

structure Pl where
  a : Nat
  o : Nat
  r : Rc

def Pl.cells (p : Pl) : List Value := .pointer (some ⟨p.a, p.o, none⟩) :: p.r.cells
def plsOf (ps : List Pl) : List Value := ps.flatMap Pl.cells
theorem plsOf_cons (p : Pl) (ps : List Pl) : plsOf (p :: ps) = p.cells ++ plsOf ps := by simp [plsOf]
theorem plsOf_length (ps : List Pl) : (plsOf ps).length = ps.length * 6 := by
  induction ps with
  | nil => rfl
  | cons r rs ih => rw [plsOf_cons, List.length_append, ih]; simp only [Pl.cells, Rc.cells, List.length_cons, List.length_nil]; omega
theorem plsOf_one (ps : List Pl) : (plsOf ps).all one = true := by
  induction ps with
  | nil => rfl
  | cons r rs ih => rw [plsOf_cons, List.all_append, ih]; rfl
theorem plsOf_sc {N : Nat} {ps : List Pl} (h : ∀ p ∈ ps, p.a < N) : scbL N (plsOf ps) = true := by
  induction ps with
  | nil => rfl
  | cons r rs ih =>
    rw [plsOf_cons]
    have h1 := blt_of (h r (by simp))
    have h2 := ih (fun p hp => h p (by simp [hp]))
    simp only [Pl.cells, Rc.cells, List.cons_append, List.nil_append, scbL, scb, h1, h2, Bool.and_self]

def pathT (a o : Nat) : Tr → Rc → Int → List Pl
  | .leaf _ i, rc, id => if i = id then [⟨a, o, rc⟩] else []
  | .split b be f l r, rc, id =>
    if pathT b 2 l (partA be f rc) id ≠ [] then ⟨a, o, rc⟩ :: pathT b 2 l (partA be f rc) id
    else if pathT b 3 r (partB be f rc) id ≠ [] then ⟨a, o, rc⟩ :: pathT b 3 r (partB be f rc) id else []

theorem pathT_blks : ∀ (t : Tr) (a o : Nat) (rc : Rc) (id : Int), ∀ p ∈ pathT a o t rc id, p.a = a ∨ p.a ∈ t.blks
  | .leaf _ i, a, o, rc, id, p, hp => by
    simp only [pathT] at hp
    split at hp
    · simp only [List.mem_singleton] at hp; subst hp; exact .inl rfl
    · cases hp
  | .split b be f l r, a, o, rc, id, p, hp => by
    simp only [pathT] at hp
    split at hp
    · rcases List.mem_cons.1 hp with rfl | hp
      · exact .inl rfl
      · rcases pathT_blks l _ _ _ _ p hp with h | h
        · exact .inr (by simp [Tr.blks, h])
        · exact .inr (by simp [Tr.blks, h])
    · split at hp
      · rcases List.mem_cons.1 hp with rfl | hp
        · exact .inl rfl
        · rcases pathT_blks r _ _ _ _ p hp with h | h
          · exact .inr (by simp [Tr.blks, h])
          · exact .inr (by simp [Tr.blks, h])
      · cases hp

theorem pathT_len : ∀ (t : Tr) (a o : Nat) (rc : Rc) (id : Int), (pathT a o t rc id).length ≤ t.size + 1
  | .leaf _ i, a, o, rc, id => by simp only [pathT]; split <;> simp
  | .split b be f l r, a, o, rc, id => by
    have h1 := pathT_len l b 2 (partA be f rc) id
    have h2 := pathT_len r b 3 (partB be f rc) id
    simp only [pathT, Tr.size]
    split
    · simp only [List.length_cons]; omega
    · split
      · simp only [List.length_cons]; omega
      · simp

def Tr.spot : Tr → Option Nat
  | .leaf _ _ => some 0
  | .split _ _ _ _ _ => none
def Tr.opn : Tr → Bool
  | .leaf _ _ => false
  | .split _ _ _ _ _ => true

def pathV (N : Nat) (t : Tr) (ps : List Pl) : Value := if ps = [] then .slice none 0 0 else .slice (some ⟨N, 0, t.spot⟩) ps.length ps.length
def pathM (t : Tr) (ps : List Pl) : List Bl := if ps = [] then [] else [⟨85, t.opn, plsOf ps⟩]

theorem path_c (id : Int) : ∀ (t : Tr) (a o : Nat) (rc : Rc) (H : AHeap) (ba : Bl), t.size < 10000 → TreeAt H t → bk H a = some ba → ba.l[o]? = some t.val →
    CallS Try.prog 69 [.pointer (some ⟨a, o, none⟩), rc.val, .int .i64 id] H (.ok (pathV H.next t (pathT a o t rc id))) (ext H (pathM t (pathT a o t rc id)))
  | .leaf n i => fun a o rc H ba _ h ha hao => by
    obtain ⟨b, hb⟩ : ∃ b, H.next = b := ⟨_, rfl⟩
    obtain ⟨ea, oa, la⟩ := ba
    simp only [TreeAt] at h
    simp only [Tr.val] at hao
    refine callS_fn mixed Try.func69 rfl Try.ntmps69 (Nat.le_of_ble_eq_true rfl) fun wf hsc => ?_
    have hnb : n < b := hb ▸ wf.lt h
    have hab : a < b := hb ▸ wf.lt ha
    have hbase : H.base ≤ b := hb ▸ wf.base
    simp (maxDischargeDepth := 6) only [Rc.val, hb, hnb, hab, hbase, h, ha, hao, ruW, putL, Nat.reduceLeDiff, xF, ruU, entryE, Nat.reduceLT, Nat.reduceAdd, Nat.reduceMul, Nat.reduceEqDiff]
    refine condC_split (fun hd => ?_) (fun hd => ?_)
    · have hd := of_decide_eq_true hd
      simp (maxDischargeDepth := 6) only [hb, hnb, hab, hbase, h, ha, Try.results69, ruW, putL, Nat.reduceLeDiff, xF, ruU, entryE, Nat.reduceLT, Nat.reduceAdd, Nat.reduceMul, Nat.reduceEqDiff]
      simp only [pathT, hd, if_true, pathV, pathM, Tr.spot, Tr.opn, List.cons_ne_nil, if_false]
      refine Fin.one 2 ?_ rfl ?_ ?_
      · simp only [rnV, kp, hb]
        simp
      · rw [hb]; simp only [plsOf, Pl.cells, Rc.cells, List.flatMap_cons, List.flatMap_nil, List.append_nil, List.cons_append, List.nil_append, scbL, scb, blt_of hab, Bool.and_self]
      · rw [hb]; simp only [scb, blt_of (Nat.lt_succ_self b)]
    · have hd := of_decide_eq_false hd
      simp (maxDischargeDepth := 6) only [hb, hnb, hab, hbase, h, ha, Try.results69, ruW, putL, Nat.reduceLeDiff, xF, ruU, entryE, Nat.reduceLT, Nat.reduceAdd, Nat.reduceMul, Nat.reduceEqDiff]
      simp only [pathT, hd, if_false, pathV, pathM, if_true]
      exact Fin.pure rfl
  | .split n be f l r => fun a o rc H ba hsz h ha hao => by
    simp only [Tr.size] at hsz
    have ihl := fun a o rc H ba => path_c id l a o rc H ba (by omega)
    have ihr := fun a o rc H ba => path_c id r a o rc H ba (by omega)
    obtain ⟨b, hb⟩ : ∃ b, H.next = b := ⟨_, rfl⟩
    obtain ⟨ea, oa, la⟩ := ba
    obtain ⟨hn, hl, hr⟩ := h
    simp only [Tr.val] at hao
    refine callS_fn mixed Try.func69 rfl Try.ntmps69 (Nat.le_of_ble_eq_true rfl) fun wf hsc => ?_
    have hnb : n < b := hb ▸ wf.lt hn
    have hab : a < b := hb ▸ wf.lt ha
    have hbase : H.base ≤ b := hb ▸ wf.base
    have hll := hl.lt wf
    have hlr := hr.lt wf
    simp (maxDischargeDepth := 6) only [Rc.val, hb, hnb, hab, hbase, hn, ha, hao, ruW, putL, Nat.reduceLeDiff, xF, ruU, entryE, Nat.reduceLT, Nat.reduceAdd, Nat.reduceMul, Nat.reduceEqDiff]
    refine (parts_c n be f l.val r.val rc (ext H _) ((bk_old (hb.symm ▸ hnb)).trans hn)).to ?_
    simp (maxDischargeDepth := 6) only [Rc.val, hb, hnb, hab, hbase, hn, ha, ruW, putL, Nat.reduceLeDiff, xF, ruU, entryE, Nat.reduceLT, Nat.reduceAdd, Nat.reduceMul, Nat.reduceEqDiff]
    generalize hX : ext H (_ :: _) = X
    have hX3 : X.next = b + 3 := by rw [← hX, ext_next, hb]; rfl
    obtain ⟨c, hX'⟩ : ∃ c, X.next = c := ⟨_, rfl⟩
    have hc3 : c = b + 3 := hX'.symm.trans hX3
    have mX : Mod [] H X := hX ▸ Mod.ext wf.base
    have hnX := (mX.bk (hb ▸ hnb) (by simp)).trans hn
    have hlX := hl.mod mX hll (by simp)
    have hrX := hr.mod mX hlr (by simp)
    have h1X : bk X (b + 1) = some ⟨85, false, (Pl.mk a o rc).cells⟩ := by rw [← hX, bk_at hb (by simp)]; rfl
    have h2X : bk X (b + 2) = some ⟨123, false, (partA be f rc).cells ++ (partB be f rc).cells⟩ := by rw [← hX, bk_at hb (by simp)]; rfl
    have l1X : b + 1 < c := by omega
    have l2X : b + 2 < c := by omega
    have lnX : n < c := by omega
    have laX : a < c := by omega
    simp only [Pl.cells, Rc.cells, List.cons_append, List.nil_append] at h1X h2X
    refine w_env fun E hE => ?_
    have g2 : E 2 = .int .i64 id := by rw [hE]; simp only [ruU, entryE, Nat.reduceLT, Nat.reduceAdd, Nat.reduceMul, Nat.reduceEqDiff]
    have g7 : E 7 = .pointer (some ⟨b + 1, 0, none⟩) := by rw [hE]; simp only [ruU, entryE, Nat.reduceLT, Nat.reduceAdd, Nat.reduceMul, Nat.reduceEqDiff]
    have g9 : E 9 = .pointer (some ⟨n, 0, none⟩) := by rw [hE]; simp only [ruU, entryE, Nat.reduceLT, Nat.reduceAdd, Nat.reduceMul, Nat.reduceEqDiff]
    have g10 : E 10 = .pointer (some ⟨b + 2, 0, none⟩) := by rw [hE]; simp only [ruU, entryE, Nat.reduceLT, Nat.reduceAdd, Nat.reduceMul, Nat.reduceEqDiff]
    have g42 : E 42 = .int .i64 0 := by rw [hE]; simp only [ruU, entryE, Nat.reduceLT, Nat.reduceAdd, Nat.reduceMul, Nat.reduceEqDiff]
    clear hE
    refine w_loop (fun (i : Nat) E' H' => H' = ext X [] ∧ E' 42 = .int .i64 i ∧ E' 9 = .pointer (some ⟨n, 0, none⟩) ∧ E' 2 = .int .i64 id ∧ E' 7 = .pointer (some ⟨b + 1, 0, none⟩) ∧ E' 10 = .pointer (some ⟨b + 2, 0, none⟩) ∧ i ≤ 2 ∧ (1 ≤ i → pathT n 2 l (partA be f rc) id = []) ∧ (2 ≤ i → pathT n 3 r (partB be f rc) id = []))
      (fun i => 2 - i) 0 ⟨rfl, g42, g9, g2, g7, g10, by decide, fun h => absurd h (by decide), fun h => absurd h (by decide)⟩ ?_
    clear g2 g7 g9 g10 g42 E
    rintro i E H' ⟨hH, h42, h9, h2, h7, h10, hi, hp1, hp2⟩
    rw [hH]
    rcases (by omega : i = 0 ∨ i = 1 ∨ i = 2) with rfl | rfl | rfl
    · replace h42 : E 42 = .int .i64 0 := h42
      simp (maxDischargeDepth := 6) only [h2, h7, h9, h10, h42, hX', Int.reduceLT, decide_true, ruW, putL, Nat.reduceLeDiff, xF, ruU, entryE, Nat.reduceLT, Nat.reduceAdd, Nat.reduceMul, Nat.reduceEqDiff]
      refine w_drawB [(10, 9)] [] (by kernel_rfl) (by kernel_rfl) rfl fun ops anc hA hG => ?_
      simp only [all2_cons] at hA
      simp (maxDischargeDepth := 6) only [h2, h7, h9, h10, h42, hX', hnX, h2X, l2X, lnX, ruD, ruW, putL, Nat.reduceLeDiff, xF, ruU, entryE, Nat.reduceLT, Nat.reduceAdd, Nat.reduceMul, Nat.reduceEqDiff]
      have gT : ∀ m ∈ n :: l.blks, X.get m ≠ none := by
        intro m hm
        rcases List.mem_cons.1 hm with rfl | hm
        · exact bk_ne hnX
        · exact hlX.ne m hm
      by_cases hp : pathT n 2 l (partA be f rc) id = []
      · refine genV_quiet (v := .slice none 0 0) (n :: l.blks) (by simp (maxDischargeDepth := 6) only [ruU, entryE, Nat.reduceLT, Nat.reduceAdd, Nat.reduceMul, Nat.reduceEqDiff]) (by kernel_rfl) (by decide) gT (fun G _ hg => ?_) (by simp (maxDischargeDepth := 6) only [ruD, ruW, putL, Nat.reduceLeDiff, xF, ruU, entryE, Nat.reduceLT, Nat.reduceAdd, Nat.reduceMul, Nat.reduceEqDiff]) ?_
        · simp only [ruU, entryE, Nat.reduceLT, Nat.reduceAdd, Nat.reduceMul, Nat.reduceEqDiff]
          have := ihl n 2 (partA be f rc) G _ (hlX.of fun m hm => hg m (by simp [hm])) ((bk_get (hg n (by simp))).trans hnX) rfl
          simp only [hp, pathV, pathM, if_true] at this
          exact this
        simp (maxDischargeDepth := 6) only [h2, h7, h9, h10, h42, hA, ruD, ruW, putL, Nat.reduceLeDiff, xF, ruU, entryE, Nat.reduceLT, Nat.reduceAdd, Nat.reduceMul, Nat.reduceEqDiff]
        rw [loopC_normal]
        exact ⟨_, rfl, 1, by decide, rfl, by simp only [ruU, entryE, Nat.reduceLT, Nat.reduceAdd, Nat.reduceMul, Nat.reduceEqDiff]; rfl, by simp only [h9, ruU, entryE, Nat.reduceLT, Nat.reduceAdd, Nat.reduceMul, Nat.reduceEqDiff], by simp only [h2, ruU, entryE, Nat.reduceLT, Nat.reduceAdd, Nat.reduceMul, Nat.reduceEqDiff], by simp only [h7, ruU, entryE, Nat.reduceLT, Nat.reduceAdd, Nat.reduceMul, Nat.reduceEqDiff], by simp only [h10, ruU, entryE, Nat.reduceLT, Nat.reduceAdd, Nat.reduceMul, Nat.reduceEqDiff], by decide, fun _ => hp, fun h => absurd h (by decide)⟩
      · refine genV_ext (v := .slice (some ⟨X.next + 0, 0, l.spot⟩) (pathT n 2 l (partA be f rc) id).length (pathT n 2 l (partA be f rc) id).length) (M := [⟨85, l.opn, plsOf (pathT n 2 l (partA be f rc) id)⟩]) (n :: l.blks) (by simp (maxDischargeDepth := 6) only [ruU, entryE, Nat.reduceLT, Nat.reduceAdd, Nat.reduceMul, Nat.reduceEqDiff]) (by kernel_rfl) (by decide) gT (fun G hGn hg => ?_) (by simp (maxDischargeDepth := 6) only [ruD, ruW, putL, Nat.reduceLeDiff, xF, ruU, entryE, Nat.reduceLT, Nat.reduceAdd, Nat.reduceMul, Nat.reduceEqDiff]) ?_
        · simp only [ruU, entryE, Nat.reduceLT, Nat.reduceAdd, Nat.reduceMul, Nat.reduceEqDiff]
          have := ihl n 2 (partA be f rc) G _ (hlX.of fun m hm => hg m (by simp [hm])) ((bk_get (hg n (by simp))).trans hnX) rfl
          simp only [hp, pathV, pathM, if_false] at this
          rw [hGn] at this
          exact this
        have hlen := pathT_len l n 2 (partA be f rc) id
        have hlp : 0 < (pathT n 2 l (partA be f rc) id).length := List.length_pos_iff.2 hp
        have happ := app_exact (P := Try.prog) (H := ext X [⟨85, l.opn, plsOf (pathT n 2 l (partA be f rc) id)⟩, ⟨85, false, (Pl.mk a o rc).cells⟩]) (st := 75) (xt := 75) (e := 85) (sz := 6) (by1 := 48) (z := .agg #[.pointer none, .int .i64 0, .int .i64 0, .int .i64 0, .int .i64 0, .int .i64 0]) (m := c + 1) (k := 1) (bm := ⟨85, false, (Pl.mk a o rc).cells⟩) (n := c + 0) (off := 0)
          (cnt := (pathT n 2 l (partA be f rc) id).length) (cap := (pathT n 2 l (partA be f rc) id).length) (s := l.spot) (b := ⟨85, l.opn, plsOf (pathT n 2 l (partA be f rc) id)⟩)
          (by kernel_rfl) (by kernel_rfl) (by kernel_rfl) (by kernel_rfl) rfl (by kernel_rfl) (by rw [bk_at hX' (by simp)]; rfl) (by simp [Pl.cells, Rc.cells]) rfl (by rw [bk_at hX' (by simp)]; rfl) (by simp only [plsOf_length]; omega) (plsOf_one _) hlp
          (by simp only [small, Bool.and_eq_true, Nat.ble_eq]; omega)
        simp only [List.drop_zero, List.take_of_length_le (Nat.le_of_eq (plsOf_length (pathT n 2 l (partA be f rc) id))), Pl.cells, Rc.cells, List.take_succ_cons, Nat.reduceMul, List.take_zero] at happ
        have hsc2 : scbL c (plsOf (pathT n 2 l (partA be f rc) id)) = true := plsOf_sc fun p hp => by
          rcases pathT_blks l _ _ _ _ p hp with h | h
          · omega
          · have := hll _ h; omega
        simp (maxDischargeDepth := 6) only [h2, h7, h9, h10, h42, hX', h1X, l1X, laX, hA, happ, hsc2, List.cons_append, List.nil_append, Try.results69, ruD, ruW, putL, Nat.reduceLeDiff, xF, ruU, entryE, Nat.reduceLT, Nat.reduceAdd, Nat.reduceMul, Nat.reduceEqDiff]
        have hpt : pathT a o (Tr.split n be f l r) rc id = ⟨a, o, rc⟩ :: pathT n 2 l (partA be f rc) id := by simp only [pathT, ne_eq, hp, not_false_eq_true, if_true]
        rw [← hX, ext_append]
        simp only [hpt, pathV, pathM, List.cons_ne_nil, if_false, Tr.spot, Tr.opn]
        refine Fin.one 5 ?_ rfl ?_ ?_
        · simp only [rnV, kp, hb]
          simp only [List.length_cons, Nat.lt_irrefl, if_false, Nat.sub_self, List.getD_cons_zero]
          rw [hc3, Nat.add_comm 1]
        · rw [hb]
          exact plsOf_sc fun p hp => by
            rcases List.mem_cons.1 hp with rfl | hp
            · exact hab
            · rcases pathT_blks l _ _ _ _ p hp with h | h
              · omega
              · have := hll _ h; omega
        · rw [hb]; simp only [scb, blt_of (Nat.lt_succ_self b)]
    · replace h42 : E 42 = .int .i64 1 := h42
      simp (maxDischargeDepth := 6) only [h2, h7, h9, h10, h42, hX', Int.reduceLT, decide_true, ruW, putL, Nat.reduceLeDiff, xF, ruU, entryE, Nat.reduceLT, Nat.reduceAdd, Nat.reduceMul, Nat.reduceEqDiff]
      refine w_drawB [(10, 9)] [] (by kernel_rfl) (by kernel_rfl) rfl fun ops anc hA hG => ?_
      simp only [all2_cons] at hA
      simp (maxDischargeDepth := 6) only [h2, h7, h9, h10, h42, hX', hnX, h2X, l2X, lnX, ruD, ruW, putL, Nat.reduceLeDiff, xF, ruU, entryE, Nat.reduceLT, Nat.reduceAdd, Nat.reduceMul, Nat.reduceEqDiff]
      have gT : ∀ m ∈ n :: r.blks, X.get m ≠ none := by
        intro m hm
        rcases List.mem_cons.1 hm with rfl | hm
        · exact bk_ne hnX
        · exact hrX.ne m hm
      by_cases hp : pathT n 3 r (partB be f rc) id = []
      · refine genV_quiet (v := .slice none 0 0) (n :: r.blks) (by simp (maxDischargeDepth := 6) only [ruU, entryE, Nat.reduceLT, Nat.reduceAdd, Nat.reduceMul, Nat.reduceEqDiff]) (by kernel_rfl) (by decide) gT (fun G _ hg => ?_) (by simp (maxDischargeDepth := 6) only [ruD, ruW, putL, Nat.reduceLeDiff, xF, ruU, entryE, Nat.reduceLT, Nat.reduceAdd, Nat.reduceMul, Nat.reduceEqDiff]) ?_
        · simp only [ruU, entryE, Nat.reduceLT, Nat.reduceAdd, Nat.reduceMul, Nat.reduceEqDiff]
          have := ihr n 3 (partB be f rc) G _ (hrX.of fun m hm => hg m (by simp [hm])) ((bk_get (hg n (by simp))).trans hnX) rfl
          simp only [hp, pathV, pathM, if_true] at this
          exact this
        simp (maxDischargeDepth := 6) only [h2, h7, h9, h10, h42, hA, ruD, ruW, putL, Nat.reduceLeDiff, xF, ruU, entryE, Nat.reduceLT, Nat.reduceAdd, Nat.reduceMul, Nat.reduceEqDiff]
        rw [loopC_normal]
        exact ⟨_, rfl, 2, by decide, rfl, by simp only [ruU, entryE, Nat.reduceLT, Nat.reduceAdd, Nat.reduceMul, Nat.reduceEqDiff]; rfl, by simp only [h9, ruU, entryE, Nat.reduceLT, Nat.reduceAdd, Nat.reduceMul, Nat.reduceEqDiff], by simp only [h2, ruU, entryE, Nat.reduceLT, Nat.reduceAdd, Nat.reduceMul, Nat.reduceEqDiff], by simp only [h7, ruU, entryE, Nat.reduceLT, Nat.reduceAdd, Nat.reduceMul, Nat.reduceEqDiff], by simp only [h10, ruU, entryE, Nat.reduceLT, Nat.reduceAdd, Nat.reduceMul, Nat.reduceEqDiff], by decide, fun _ => hp1 (by decide), fun _ => hp⟩
      · refine genV_ext (v := .slice (some ⟨X.next + 0, 0, r.spot⟩) (pathT n 3 r (partB be f rc) id).length (pathT n 3 r (partB be f rc) id).length) (M := [⟨85, r.opn, plsOf (pathT n 3 r (partB be f rc) id)⟩]) (n :: r.blks) (by simp (maxDischargeDepth := 6) only [ruU, entryE, Nat.reduceLT, Nat.reduceAdd, Nat.reduceMul, Nat.reduceEqDiff]) (by kernel_rfl) (by decide) gT (fun G hGn hg => ?_) (by simp (maxDischargeDepth := 6) only [ruD, ruW, putL, Nat.reduceLeDiff, xF, ruU, entryE, Nat.reduceLT, Nat.reduceAdd, Nat.reduceMul, Nat.reduceEqDiff]) ?_
        · simp only [ruU, entryE, Nat.reduceLT, Nat.reduceAdd, Nat.reduceMul, Nat.reduceEqDiff]
          have := ihr n 3 (partB be f rc) G _ (hrX.of fun m hm => hg m (by simp [hm])) ((bk_get (hg n (by simp))).trans hnX) rfl
          simp only [hp, pathV, pathM, if_false] at this
          rw [hGn] at this
          exact this
        have hlen := pathT_len r n 3 (partB be f rc) id
        have hlp : 0 < (pathT n 3 r (partB be f rc) id).length := List.length_pos_iff.2 hp
        have happ := app_exact (P := Try.prog) (H := ext X [⟨85, r.opn, plsOf (pathT n 3 r (partB be f rc) id)⟩, ⟨85, false, (Pl.mk a o rc).cells⟩]) (st := 75) (xt := 75) (e := 85) (sz := 6) (by1 := 48) (z := .agg #[.pointer none, .int .i64 0, .int .i64 0, .int .i64 0, .int .i64 0, .int .i64 0]) (m := c + 1) (k := 1) (bm := ⟨85, false, (Pl.mk a o rc).cells⟩) (n := c + 0) (off := 0)
          (cnt := (pathT n 3 r (partB be f rc) id).length) (cap := (pathT n 3 r (partB be f rc) id).length) (s := r.spot) (b := ⟨85, r.opn, plsOf (pathT n 3 r (partB be f rc) id)⟩)
          (by kernel_rfl) (by kernel_rfl) (by kernel_rfl) (by kernel_rfl) rfl (by kernel_rfl) (by rw [bk_at hX' (by simp)]; rfl) (by simp [Pl.cells, Rc.cells]) rfl (by rw [bk_at hX' (by simp)]; rfl) (by simp only [plsOf_length]; omega) (plsOf_one _) hlp
          (by simp only [small, Bool.and_eq_true, Nat.ble_eq]; omega)
        simp only [List.drop_zero, List.take_of_length_le (Nat.le_of_eq (plsOf_length (pathT n 3 r (partB be f rc) id))), Pl.cells, Rc.cells, List.take_succ_cons, Nat.reduceMul, List.take_zero] at happ
        have hsc2 : scbL c (plsOf (pathT n 3 r (partB be f rc) id)) = true := plsOf_sc fun p hp => by
          rcases pathT_blks r _ _ _ _ p hp with h | h
          · omega
          · have := hlr _ h; omega
        simp (maxDischargeDepth := 6) only [h2, h7, h9, h10, h42, hX', h1X, l1X, laX, hA, happ, hsc2, List.cons_append, List.nil_append, Try.results69, ruD, ruW, putL, Nat.reduceLeDiff, xF, ruU, entryE, Nat.reduceLT, Nat.reduceAdd, Nat.reduceMul, Nat.reduceEqDiff]
        have hpt : pathT a o (Tr.split n be f l r) rc id = ⟨a, o, rc⟩ :: pathT n 3 r (partB be f rc) id := by simp only [pathT, hp1 (by decide), ne_eq, hp, not_false_eq_true, if_true, not_true_eq_false, if_false]
        rw [← hX, ext_append]
        simp only [hpt, pathV, pathM, List.cons_ne_nil, if_false, Tr.spot, Tr.opn]
        refine Fin.one 5 ?_ rfl ?_ ?_
        · simp only [rnV, kp, hb]
          simp only [List.length_cons, Nat.lt_irrefl, if_false, Nat.sub_self, List.getD_cons_zero]
          rw [hc3, Nat.add_comm 1]
        · rw [hb]
          exact plsOf_sc fun p hp => by
            rcases List.mem_cons.1 hp with rfl | hp
            · exact hab
            · rcases pathT_blks r _ _ _ _ p hp with h | h
              · omega
              · have := hlr _ h; omega
        · rw [hb]; simp only [scb, blt_of (Nat.lt_succ_self b)]
    · replace h42 : E 42 = .int .i64 2 := h42
      simp (maxDischargeDepth := 6) only [h42, Int.reduceLT, decide_false, Try.results69, ruW, putL, Nat.reduceLeDiff, xF, ruU, entryE, Nat.reduceLT, Nat.reduceAdd, Nat.reduceMul, Nat.reduceEqDiff]
      have hpt : pathT a o (Tr.split n be f l r) rc id = [] := by simp only [pathT, hp1 (by decide), hp2 (by decide), ne_eq, not_true_eq_false, if_false]
      simp only [hpt, pathV, pathM, if_true]
      rw [← hX]
      exact Fin.pure rfl

end Go.Proofs.Ytiedpcmdimgboaa

/- Ways through trees: the way to a window, the part of a tree at its end, a tree with another part. -/
namespace Go.Proofs.Ytiedpcmdimgboaa
open Go.Ax
set_option linter.unusedSimpArgs false

def findD (id : Int) : Tr → Option (List Bool)
  | .leaf _ i => if i = id then some [] else none
  | .split _ _ _ l r => (match findD id l with
    | some d => some (false :: d)
    | none => (match findD id r with
      | some d => some (true :: d)
      | none => none))

def subAt : Tr → List Bool → Option Tr
  | t, [] => some t
  | .split _ _ _ l _, false :: d => subAt l d
  | .split _ _ _ _ r, true :: d => subAt r d
  | .leaf _ _, _ :: _ => none

theorem subAt_leaf {b : Nat} {i : Int} {x : Bool} {d : List Bool} : subAt (.leaf b i) (x :: d) = none := by cases x <;> rfl

def rectAt : Tr → Rc → List Bool → Rc
  | _, rc, [] => rc
  | .split _ be f l _, rc, false :: d => rectAt l (partA be f rc) d
  | .split _ be f _ r, rc, true :: d => rectAt r (partB be f rc) d
  | .leaf _ _, rc, _ :: _ => rc

def cellAt (a o : Nat) : Tr → List Bool → Nat × Nat
  | _, [] => (a, o)
  | .split b _ _ l _, false :: d => cellAt b 2 l d
  | .split b _ _ _ r, true :: d => cellAt b 3 r d
  | .leaf _ _, _ :: _ => (a, o)

def setAt : Tr → List Bool → Tr → Tr
  | _, [], n => n
  | .split b be f l r, false :: d, n => .split b be f (setAt l d n) r
  | .split b be f l r, true :: d, n => .split b be f l (setAt r d n)
  | .leaf b i, _ :: _, _ => .leaf b i

def places (a o : Nat) : Tr → Rc → List Bool → List Pl
  | _, rc, [] => [⟨a, o, rc⟩]
  | .split b be f l _, rc, false :: d => ⟨a, o, rc⟩ :: places b 2 l (partA be f rc) d
  | .split b be f _ r, rc, true :: d => ⟨a, o, rc⟩ :: places b 3 r (partB be f rc) d
  | .leaf _ _, rc, _ :: _ => [⟨a, o, rc⟩]

theorem places_ne (a o : Nat) (t : Tr) (rc : Rc) (d : List Bool) : places a o t rc d ≠ [] := by
  cases d with
  | nil => cases t <;> simp [places]
  | cons x d => cases t <;> cases x <;> simp [places]

theorem pathT_eq (id : Int) : ∀ (t : Tr) (a o : Nat) (rc : Rc), pathT a o t rc id = (match findD id t with
    | some d => places a o t rc d
    | none => [])
  | .leaf b i, a, o, rc => by
    simp only [pathT, findD]
    split <;> rfl
  | .split b be f l r, a, o, rc => by
    have hl := pathT_eq id l b 2 (partA be f rc)
    have hr := pathT_eq id r b 3 (partB be f rc)
    simp only [pathT, findD]
    rw [hl, hr]
    cases h1 : findD id l with
    | some d =>
      simp only [h1] at hl ⊢
      rw [if_pos (places_ne _ _ _ _ _)]
      rfl
    | none =>
      simp only [ne_eq, not_true_eq_false, if_false]
      cases h2 : findD id r with
      | some d =>
        simp only
        rw [if_pos (places_ne _ _ _ _ _)]
        rfl
      | none => simp

theorem findD_sub (id : Int) : ∀ (t : Tr) (d : List Bool), findD id t = some d → ∃ b, subAt t d = some (.leaf b id)
  | .leaf b i, d, h => by
    simp only [findD] at h
    split at h
    · rename_i hi
      simp only [Option.some.injEq] at h
      subst h hi
      exact ⟨b, rfl⟩
    · cases h
  | .split b be f l r, d, h => by
    simp only [findD] at h
    cases h1 : findD id l with
    | some d1 =>
      rw [h1] at h
      simp only [Option.some.injEq] at h
      subst h
      exact findD_sub id l d1 h1
    | none =>
      rw [h1] at h
      cases h2 : findD id r with
      | some d2 =>
        rw [h2] at h
        simp only [Option.some.injEq] at h
        subst h
        exact findD_sub id r d2 h2
      | none => rw [h2] at h; cases h

theorem places_length : ∀ (t : Tr) (d : List Bool) (a o : Nat) (rc : Rc), subAt t d ≠ none → (places a o t rc d).length = d.length + 1
  | t, [], a, o, rc, _ => by cases t <;> rfl
  | .split b be f l r, false :: d, a, o, rc, h => by
    simp only [places, List.length_cons]
    rw [places_length l d b 2 _ h]
  | .split b be f l r, true :: d, a, o, rc, h => by
    simp only [places, List.length_cons]
    rw [places_length r d b 3 _ h]
  | .leaf _ _, _ :: _, _, _, _, h => absurd subAt_leaf h

theorem places_get : ∀ (t : Tr) (d e : List Bool) (a o : Nat) (rc : Rc), subAt t (d ++ e) ≠ none → (places a o t rc (d ++ e))[d.length]? = some ⟨(cellAt a o t d).1, (cellAt a o t d).2, rectAt t rc d⟩
  | t, [], e, a, o, rc, _ => by
    cases e with
    | nil => cases t <;> rfl
    | cons x e => cases t <;> cases x <;> rfl
  | .split b be f l r, false :: d, e, a, o, rc, h => by
    simp only [places, List.cons_append, List.length_cons, List.getElem?_cons_succ, cellAt, rectAt]
    exact places_get l d e b 2 _ h
  | .split b be f l r, true :: d, e, a, o, rc, h => by
    simp only [places, List.cons_append, List.length_cons, List.getElem?_cons_succ, cellAt, rectAt]
    exact places_get r d e b 3 _ h
  | .leaf _ _, _ :: _, _, _, _, _, h => absurd subAt_leaf h

theorem subAt_append : ∀ (t : Tr) (d e : List Bool), subAt t (d ++ e) = (subAt t d).bind fun s => subAt s e
  | t, [], e => by cases t <;> rfl
  | .split b be f l r, false :: d, e => subAt_append l d e
  | .split b be f l r, true :: d, e => subAt_append r d e
  | .leaf _ _, _ :: _, _ => by rw [List.cons_append, subAt_leaf, subAt_leaf]; rfl

theorem sub_blks : ∀ (t : Tr) (d : List Bool) (s : Tr), subAt t d = some s → ∀ n ∈ s.blks, n ∈ t.blks
  | t, [], s, h, n, hn => by cases t <;> (simp only [subAt, Option.some.injEq] at h; subst h; exact hn)
  | .split b be f l r, false :: d, s, h, n, hn => by
    have := sub_blks l d s h n hn
    simp [Tr.blks, this]
  | .split b be f l r, true :: d, s, h, n, hn => by
    have := sub_blks r d s h n hn
    simp [Tr.blks, this]
  | .leaf _ _, _ :: _, _, h, _, _ => by rw [subAt_leaf] at h; cases h

theorem sub_nodup : ∀ (t : Tr) (d : List Bool) (s : Tr), subAt t d = some s → t.blks.Nodup → s.blks.Nodup
  | t, [], s, h, hn => by cases t <;> (simp only [subAt, Option.some.injEq] at h; subst h; exact hn)
  | .split b be f l r, false :: d, s, h, hn => by
    simp only [Tr.blks, List.nodup_cons, List.nodup_append] at hn
    exact sub_nodup l d s h hn.2.1
  | .split b be f l r, true :: d, s, h, hn => by
    simp only [Tr.blks, List.nodup_cons, List.nodup_append] at hn
    exact sub_nodup r d s h hn.2.2.1
  | .leaf _ _, _ :: _, _, h, _ => by rw [subAt_leaf] at h; cases h

theorem sub_tree {H : AHeap} : ∀ (t : Tr) (d : List Bool) (s : Tr), subAt t d = some s → TreeAt H t → TreeAt H s
  | t, [], s, h, ht => by cases t <;> (simp only [subAt, Option.some.injEq] at h; subst h; exact ht)
  | .split b be f l r, false :: d, s, h, ht => sub_tree l d s h ht.2.1
  | .split b be f l r, true :: d, s, h, ht => sub_tree r d s h ht.2.2
  | .leaf _ _, _ :: _, _, h, _ => by rw [subAt_leaf] at h; cases h

theorem cell_mem : ∀ (t : Tr) (d : List Bool) (s : Tr) (a o : Nat), d ≠ [] → subAt t d = some s → (cellAt a o t d).1 ∈ t.blks
  | t, [], s, a, o, h, _ => absurd rfl h
  | .split b be f l r, false :: d, s, a, o, _, h => by
    cases d with
    | nil => cases l <;> simp [cellAt, Tr.blks]
    | cons x d =>
      have := cell_mem l (x :: d) s b 2 (by simp) h
      simp [cellAt, Tr.blks, this]
  | .split b be f l r, true :: d, s, a, o, _, h => by
    cases d with
    | nil => cases r <;> simp [cellAt, Tr.blks]
    | cons x d =>
      have := cell_mem r (x :: d) s b 3 (by simp) h
      simp [cellAt, Tr.blks, this]
  | .leaf _ _, _ :: _, _, _, _, _, h => by rw [subAt_leaf] at h; cases h

theorem cell_not : ∀ (t : Tr) (d : List Bool) (s : Tr) (a o : Nat), d ≠ [] → subAt t d = some s → t.blks.Nodup → (cellAt a o t d).1 ∉ s.blks
  | t, [], s, a, o, h, _, _ => absurd rfl h
  | .split b be f l r, false :: d, s, a, o, _, h, hn => by
    simp only [Tr.blks, List.nodup_cons, List.nodup_append, List.mem_append, not_or] at hn
    cases d with
    | nil =>
      simp only [subAt] at h
      have : s = l := by cases l <;> (simp only [subAt, Option.some.injEq] at h; exact h.symm)
      subst this
      cases s <;> (simp only [cellAt]; exact hn.1.1)
    | cons x d => exact cell_not l (x :: d) s b 2 (by simp) h hn.2.1
  | .split b be f l r, true :: d, s, a, o, _, h, hn => by
    simp only [Tr.blks, List.nodup_cons, List.nodup_append, List.mem_append, not_or] at hn
    cases d with
    | nil =>
      simp only [subAt] at h
      have : s = r := by cases r <;> (simp only [subAt, Option.some.injEq] at h; exact h.symm)
      subst this
      cases s <;> (simp only [cellAt]; exact hn.1.2)
    | cons x d => exact cell_not r (x :: d) s b 3 (by simp) h hn.2.2.1
  | .leaf _ _, _ :: _, _, _, _, _, h, _ => by rw [subAt_leaf] at h; cases h

def CellIs (H : AHeap) (a o : Nat) (t : Tr) : Prop := ∃ ba, bk H a = some ba ∧ ba.l[o]? = some t.val

theorem cell_holds {H : AHeap} : ∀ (t : Tr) (d : List Bool) (s : Tr) (a o : Nat), subAt t d = some s → TreeAt H t → CellIs H a o t → CellIs H (cellAt a o t d).1 (cellAt a o t d).2 s
  | t, [], s, a, o, h, ht, hc => by cases t <;> (simp only [subAt, Option.some.injEq] at h; subst h; exact hc)
  | .split b be f l r, false :: d, s, a, o, h, ht, _ => cell_holds l d s b 2 h ht.2.1 ⟨_, ht.1, rfl⟩
  | .split b be f l r, true :: d, s, a, o, h, ht, _ => cell_holds r d s b 3 h ht.2.2 ⟨_, ht.1, rfl⟩
  | .leaf _ _, _ :: _, _, _, _, h, _, _ => by rw [subAt_leaf] at h; cases h

theorem setAt_val {t : Tr} {d : List Bool} {n : Tr} (h : d ≠ []) : (setAt t d n).val = t.val := by
  cases d with
  | nil => exact absurd rfl h
  | cons x d => cases t <;> cases x <;> rfl

theorem setAt_tree {H H1 : AHeap} {n : Tr} : ∀ (t : Tr) (d : List Bool) (s : Tr) (a o : Nat), subAt t d = some s → t.blks.Nodup → TreeAt H t → TreeAt H1 n →
    (∀ m ∈ t.blks, m ∉ s.blks → m ≠ (cellAt a o t d).1 → H1.get m = H.get m) → (d ≠ [] → ∃ ba, bk H (cellAt a o t d).1 = some ba ∧ bk H1 (cellAt a o t d).1 = some (putB (cellAt a o t d).2 [n.val] ba)) → TreeAt H1 (setAt t d n)
  | t, [], s, a, o, h, hn, ht, h1, hg, hc => by cases t <;> exact h1
  | .split b be f l r, false :: d, s, a, o, h, hn, ht, h1, hg, hc => by
    have hn' := hn
    simp only [Tr.blks, List.nodup_cons, List.nodup_append, List.mem_append, not_or] at hn
    obtain ⟨⟨hbl, hbr⟩, hnl, hnr, hlr⟩ := hn
    have hsl := sub_blks l d s h
    have hr1 : TreeAt H1 r := ht.2.2.of fun m hm => by
      refine hg m (by simp [Tr.blks, hm]) (fun hs => hlr m (hsl m hs) m hm rfl) (fun e => ?_)
      cases d with
      | nil =>
        have e2 : (cellAt a o (.split b be f l r) [false]).1 = b := by cases l <;> rfl
        rw [e2] at e
        exact hbr (e ▸ hm)
      | cons x d =>
        have := cell_mem l (x :: d) s b 2 (by simp) h
        exact hlr _ this m hm e.symm
    cases d with
    | nil =>
      have e2 : cellAt a o (.split b be f l r) [false] = (b, 2) := by cases l <;> rfl
      obtain ⟨ba, hb1, hb2⟩ := hc (by simp)
      rw [e2] at hb1 hb2
      rw [ht.1] at hb1
      cases hb1
      have e3 : setAt (.split b be f l r) [false] n = .split b be f n r := by cases l <;> rfl
      rw [e3]
      exact ⟨hb2, h1, hr1⟩
    | cons x d =>
      have hcm := cell_mem l (x :: d) s b 2 (by simp) h
      refine ⟨?_, setAt_tree l (x :: d) s b 2 h hnl ht.2.1 h1 (fun m hm hs hne => hg m (by simp [Tr.blks, hm]) hs hne) (fun _ => hc (by simp)), hr1⟩
      rw [setAt_val (by simp), ← ht.1]
      refine bk_get (hg b (by simp [Tr.blks]) (fun hs => hbl (hsl b hs)) (fun e => hbl ?_))
      have : b = (cellAt b 2 l (x :: d)).1 := e
      rw [this]; exact hcm
  | .split b be f l r, true :: d, s, a, o, h, hn, ht, h1, hg, hc => by
    have hn' := hn
    simp only [Tr.blks, List.nodup_cons, List.nodup_append, List.mem_append, not_or] at hn
    obtain ⟨⟨hbl, hbr⟩, hnl, hnr, hlr⟩ := hn
    have hsr := sub_blks r d s h
    have hl1 : TreeAt H1 l := ht.2.1.of fun m hm => by
      refine hg m (by simp [Tr.blks, hm]) (fun hs => hlr m hm m (hsr m hs) rfl) (fun e => ?_)
      cases d with
      | nil =>
        have e2 : (cellAt a o (.split b be f l r) [true]).1 = b := by cases r <;> rfl
        rw [e2] at e
        exact hbl (e ▸ hm)
      | cons x d =>
        have := cell_mem r (x :: d) s b 3 (by simp) h
        exact hlr m hm _ this e
    cases d with
    | nil =>
      have e2 : cellAt a o (.split b be f l r) [true] = (b, 3) := by cases r <;> rfl
      obtain ⟨ba, hb1, hb2⟩ := hc (by simp)
      rw [e2] at hb1 hb2
      rw [ht.1] at hb1
      cases hb1
      have e3 : setAt (.split b be f l r) [true] n = .split b be f l n := by cases r <;> rfl
      rw [e3]
      exact ⟨hb2, hl1, h1⟩
    | cons x d =>
      have hcm := cell_mem r (x :: d) s b 3 (by simp) h
      refine ⟨?_, hl1, setAt_tree r (x :: d) s b 3 h hnr ht.2.2 h1 (fun m hm hs hne => hg m (by simp [Tr.blks, hm]) hs hne) (fun _ => hc (by simp))⟩
      rw [setAt_val (by simp), ← ht.1]
      refine bk_get (hg b (by simp [Tr.blks]) (fun hs => hbr (hsr b hs)) (fun e => hbr ?_))
      have : b = (cellAt b 3 r (x :: d)).1 := e
      rw [this]; exact hcm
  | .leaf _ _, _ :: _, _, _, _, h, _, _, _, _, _ => by rw [subAt_leaf] at h; cases h

end Go.Proofs.Ytiedpcmdimgboaa

/- What the methods of Tree come to: find, Selected, Size, Select, Only, Balance, SetSize. -/
namespace Go.Proofs.Ytiedpcmdimgboaa
open Go.Ax
set_option linter.unusedSimpArgs false
set_option maxRecDepth 10000

structure Good (H : AHeap) (T : Nat) (x : Wn) : Prop where
  wn : WnAt H T x
  lt : T < H.next
  lts : ∀ n ∈ x.root.blks, n < H.next
  nd : x.root.blks.Nodup
  nT : T ∉ x.root.blks
  ok : H.base ≤ H.next
  sz : x.root.size < 10000

structure Step (H : AHeap) (T : Nat) (x : Wn) (H1 : AHeap) (x' : Wn) : Prop where
  good : Good H1 T x'
  mod : Mod (T :: x.root.blks) H H1
  new : ∀ n ∈ x'.root.blks, n ∈ x.root.blks ∨ H.next ≤ n

def Wn.path (x : Wn) (T : Nat) (id : Int) : List Pl := pathT T 0 x.root x.frame id

theorem find_c (T : Nat) (x : Wn) (id : Int) (H : AHeap) (hx : WnAt H T x) (hsz : x.root.size < 10000) :
    CallS Try.prog 41 [.pointer (some ⟨T, 0, none⟩), .int .i64 id] H (.ok (.tuple #[pathV H.next x.root (x.path T id), .int .i64 (if x.path T id = [] then 8 else 0)])) (ext H (pathM x.root (x.path T id))) := by
  obtain ⟨b, hb⟩ : ∃ b, H.next = b := ⟨_, rfl⟩
  have h1 := hx.1
  simp only [Wn.cells] at h1
  refine callS_fn mixed Try.func41 rfl Try.ntmps41 (Nat.le_of_ble_eq_true rfl) fun wf hsc => ?_
  have hT : T < b := hb ▸ wf.lt h1
  simp (maxDischargeDepth := 6) only [ruW, putL, Nat.reduceLeDiff, xF, ruU, entryE, Nat.reduceLT, Nat.reduceAdd, Nat.reduceMul, Nat.reduceEqDiff]
  refine (made_c T x (ext H []) hx).to ?_
  simp (maxDischargeDepth := 6) only [ruW, putL, Nat.reduceLeDiff, xF, ruU, entryE, Nat.reduceLT, Nat.reduceAdd, Nat.reduceMul, Nat.reduceEqDiff]
  refine w_drawB [(6, 4), (7, 6)] [] (by kernel_rfl) (by kernel_rfl) rfl fun ops anc hA hG => ?_
  simp only [all2_cons] at hA
  simp (maxDischargeDepth := 6) only [hb, hT, h1, hA, ruD, ruW, putL, Nat.reduceLeDiff, xF, ruU, entryE, Nat.reduceLT, Nat.reduceAdd, Nat.reduceMul, Nat.reduceEqDiff]
  refine genV_quiet (v := x.frame.val) [T] (by simp (maxDischargeDepth := 6) only [ruU, entryE, Nat.reduceLT, Nat.reduceAdd, Nat.reduceMul, Nat.reduceEqDiff]) (by kernel_rfl) (by decide) (fun m hm => by simp (maxDischargeDepth := 6) only [List.mem_singleton] at hm; subst hm; exact bk_ne (H := H) h1) (fun K _ hg => ?_) (by simp (maxDischargeDepth := 6) only [ruD, ruW, putL, Nat.reduceLeDiff, xF, ruU, entryE, Nat.reduceLT, Nat.reduceAdd, Nat.reduceMul, Nat.reduceEqDiff]) ?_
  · simp only [ruU, entryE, Nat.reduceLT, Nat.reduceAdd, Nat.reduceMul, Nat.reduceEqDiff]
    exact frame_c T x K ((bk_get (hg T (by simp))).trans hx.1)
  simp (maxDischargeDepth := 6) only [hb, hA, ruD, ruW, putL, Nat.reduceLeDiff, xF, ruU, entryE, Nat.reduceLT, Nat.reduceAdd, Nat.reduceMul, Nat.reduceEqDiff]
  have gT : ∀ m ∈ T :: x.root.blks, H.get m ≠ none := by
    intro m hm
    rcases List.mem_cons.1 hm with rfl | hm
    · exact bk_ne h1
    · exact hx.2.ne m hm
  refine genV_ext (v := pathV b x.root (x.path T id)) (M := pathM x.root (x.path T id)) (T :: x.root.blks) (by simp (maxDischargeDepth := 6) only [ruU, entryE, Nat.reduceLT, Nat.reduceAdd, Nat.reduceMul, Nat.reduceEqDiff]) (by kernel_rfl) (by decide) gT (fun G hGn hg => ?_) (by simp (maxDischargeDepth := 6) only [hA, ruD, ruW, putL, Nat.reduceLeDiff, xF, ruU, entryE, Nat.reduceLT, Nat.reduceAdd, Nat.reduceMul, Nat.reduceEqDiff]) ?_
  · simp only [ruU, entryE, Nat.reduceLT, Nat.reduceAdd, Nat.reduceMul, Nat.reduceEqDiff]
    have := path_c id x.root T 0 x.frame G _ hsz (hx.2.of fun m hm => hg m (by simp [hm])) ((bk_get (hg T (by simp))).trans hx.1) rfl
    rw [hGn, ext_nil, hb] at this
    exact this
  by_cases hp : x.path T id = []
  · simp only [hp, pathV, pathM, if_true]
    simp (maxDischargeDepth := 6) only [hb, hA, Try.results41, ruD, ruW, putL, Nat.reduceLeDiff, xF, ruU, entryE, Nat.reduceLT, Nat.reduceAdd, Nat.reduceMul, Nat.reduceEqDiff]
    exact Fin.same
  · simp only [hp, pathV, pathM, if_false]
    simp (maxDischargeDepth := 6) only [hb, hA, Try.results41, ruD, ruW, putL, Nat.reduceLeDiff, xF, ruU, entryE, Nat.reduceLT, Nat.reduceAdd, Nat.reduceMul, Nat.reduceEqDiff]
    exact Fin.same

theorem selected_c (T : Nat) (x : Wn) (H : AHeap) (hx : WnAt H T x) : Pure 17 [.pointer (some ⟨T, 0, none⟩)] H (.int .i64 x.sel) := by
  obtain ⟨b, hb⟩ : ∃ b, H.next = b := ⟨_, rfl⟩
  have h1 := hx.1
  simp only [Wn.cells] at h1
  refine callS_fn mixed Try.func17 rfl Try.ntmps17 (Nat.le_of_ble_eq_true rfl) fun wf hsc => ?_
  have hT : T < b := hb ▸ wf.lt h1
  simp (maxDischargeDepth := 6) only [ruW, putL, Nat.reduceLeDiff, xF, ruU, entryE, Nat.reduceLT, Nat.reduceAdd, Nat.reduceMul, Nat.reduceEqDiff]
  refine (made_c T x (ext H []) hx).to ?_
  simp (maxDischargeDepth := 6) only [hb, hT, h1, Try.results17, ruW, putL, Nat.reduceLeDiff, xF, ruU, entryE, Nat.reduceLT, Nat.reduceAdd, Nat.reduceMul, Nat.reduceEqDiff]
  exact Fin.pure rfl

theorem size32_c (T : Nat) (x : Wn) (H : AHeap) (hx : WnAt H T x) : Pure 32 [.pointer (some ⟨T, 0, none⟩)] H (.tuple #[.int .i64 x.h, .int .i64 x.w]) := by
  obtain ⟨b, hb⟩ : ∃ b, H.next = b := ⟨_, rfl⟩
  have h1 := hx.1
  simp only [Wn.cells] at h1
  refine callS_fn mixed Try.func32 rfl Try.ntmps32 (Nat.le_of_ble_eq_true rfl) fun wf hsc => ?_
  have hT : T < b := hb ▸ wf.lt h1
  simp (maxDischargeDepth := 6) only [ruW, putL, Nat.reduceLeDiff, xF, ruU, entryE, Nat.reduceLT, Nat.reduceAdd, Nat.reduceMul, Nat.reduceEqDiff]
  refine (made_c T x (ext H []) hx).to ?_
  simp (maxDischargeDepth := 6) only [ruW, putL, Nat.reduceLeDiff, xF, ruU, entryE, Nat.reduceLT, Nat.reduceAdd, Nat.reduceMul, Nat.reduceEqDiff]
  refine w_drawB [] [] (by kernel_rfl) rfl rfl fun ops anc hA hG => ?_
  simp (maxDischargeDepth := 6) only [hb, hT, h1, Try.results32, ruD, ruW, putL, Nat.reduceLeDiff, xF, ruU, entryE, Nat.reduceLT, Nat.reduceAdd, Nat.reduceMul, Nat.reduceEqDiff]
  exact Fin.pure rfl

def Wn.select (x : Wn) (T : Nat) (id : Int) : Int × Wn := if x.path T id = [] then (8, x) else (0, { x with sel := id })

theorem Good.mod {H H1 : AHeap} {T : Nat} {x : Wn} {W : List Nat} (g : Good H T x) (m : Mod W H H1) (hT : T ∉ W) (hW : ∀ n ∈ x.root.blks, n ∉ W) : Good H1 T x :=
  ⟨⟨(m.bk g.lt hT).trans g.wn.1, g.wn.2.mod m g.lts hW⟩, m.lt g.lt, fun n hn => m.lt (g.lts n hn), g.nd, g.nT, m.ok g.ok, g.sz⟩

theorem Step.same {H H1 : AHeap} {T : Nat} {x : Wn} (g : Good H T x) (m : Mod [] H H1) : Step H T x H1 x :=
  ⟨g.mod m (by simp) (by simp), m.mono (by simp), fun n hn => .inl hn⟩

theorem Step.own {H H1 : AHeap} {T : Nat} {x x' : Wn} (g : Good H T x) (m : Mod [T] H H1) (hr : x'.root = x.root) (hc : bk H1 T = some ⟨69, false, x'.cells⟩) : Step H T x H1 x' := by
  have hW : ∀ n ∈ x.root.blks, n ∉ [T] := fun n hn h => g.nT (by simp only [List.mem_singleton] at h; exact h ▸ hn)
  refine ⟨⟨⟨hc, hr ▸ g.wn.2.mod m g.lts hW⟩, m.lt g.lt, fun n hn => m.lt (g.lts n (hr ▸ hn)), hr ▸ g.nd, hr ▸ g.nT, m.ok g.ok, hr ▸ g.sz⟩, m.mono (by simp), fun n hn => .inl (hr ▸ hn)⟩

theorem select_c (T : Nat) (x : Wn) (id : Int) (H : AHeap) (g : Good H T x) : CallA Try.prog 24 [.pointer (some ⟨T, 0, none⟩), .int .i64 id] H (fun out H1 => out = .ok (.int .i64 (x.select T id).1) ∧ Step H T x H1 (x.select T id).2) := by
  obtain ⟨b, hb⟩ : ∃ b, H.next = b := ⟨_, rfl⟩
  have h1 := g.wn.1
  simp only [Wn.cells] at h1
  have hT : T < b := hb ▸ g.lt
  have hbase : H.base ≤ b := hb ▸ g.ok
  refine callE_fn mixed Try.func24 rfl Try.ntmps24 (Nat.le_of_ble_eq_true rfl) ?_
  simp (maxDischargeDepth := 6) only [ruW, putL, Nat.reduceLeDiff, xF, ruU, entryE, Nat.reduceLT, Nat.reduceAdd, Nat.reduceMul, Nat.reduceEqDiff]
  refine (find_c T x id (ext H []) g.wn g.sz).to ?_
  unfold Wn.select
  by_cases hp : x.path T id = []
  · simp only [hp, pathV, pathM, if_true]
    simp (maxDischargeDepth := 6) only [hb, hT, h1, Int.reduceEq, decide_false, decide_true, Try.results24, ruW, putL, Nat.reduceLeDiff, xF, ruU, entryE, Nat.reduceLT, Nat.reduceAdd, Nat.reduceMul, Nat.reduceEqDiff]
    exact ⟨trivial, Step.same g Mod.refl⟩
  · simp only [hp, pathV, pathM, if_false]
    simp (maxDischargeDepth := 6) only [hb, hT, h1, hbase, Int.reduceEq, decide_false, decide_true, Try.results24, ruW, putL, Nat.reduceLeDiff, xF, ruU, entryE, Nat.reduceLT, Nat.reduceAdd, Nat.reduceMul, Nat.reduceEqDiff]
    refine ⟨trivial, ?_⟩
    generalize hU : uw H T 4 [.int .i64 id] = U
    have mU : Mod [T] H U := hU ▸ Mod.uw (by simp)
    refine Step.own g (mU.trans (Mod.ext (mU.ok g.ok))) rfl ?_
    rw [bk_old (mU.lt g.lt), ← hU, bk_uw_eq, h1]
    rfl

end Go.Proofs.Ytiedpcmdimgboaa
