/- Parts of the proof, one behind the other. -/
import Derived.Test.YtpohjcacnkhnkaaDoorM3
import Derived.Laws.StructEq
import Derived.Test.YtpohjcacnkhnkaaDoorProg
import Derived.KernelRfl
import Derived.Test.YtpohjcacnkhnkaaDoorM2
import Derived.Below
import Derived.WideShapes
import Derived.ChangeSlices
import Derived.ChangeAnyMap
import GoSem.ClaimJoined
set_option linter.all false

/- Walks over abstract heaps: loops over functions; append. -/
namespace Go.Ax
section
variable {P : Program} {ro : Option Nat} {H : AHeap} {N : Nat} {E : Env} {ds : List Deferred} {L : List Bl}

def CallY (P : Program) (l : Nat) (args : List Value) (H : AHeap) (R : Out → AHeap → Prop) : Prop :=
  match aYield H l args with
  | some (.round rd) => RoundA P rd H R
  | _ => False

theorem w_callY {l : Nat} {x : Operand} {args : List Operand} {ts : Array TypeId} {dst : Option Nat} {ops : Array Oper} {rest : List Oper} {ty : TypeId} {pos : String} {after : Array Edge} {Q : Exit → AAct → AHeap → Prop} (hx : opOk P N x = true) (hv : opv E x = .func (.yield l) ⟨[]⟩ ⟨[]⟩) (ha : args.all (opOk P N) = true)
    (h : CallY P l (args.map (opv E)) H (opC P ro ops rest (mkA N E ds) dst Q)) :
    wpOps P ro ops (⟨dst, .call ⟨.value x, ⟨args⟩, ts⟩, ty, pos, after, none⟩ :: rest) (mkA N E ds) H Q := by
  rw [w_op rfl rfl]
  unfold CallY at h
  split at h
  · rename_i rd hy
    simp only [opA, aop, xCall, aevals_opv ha, aeval_opv hx, hv, Option.bind_eq_bind, Option.bind_some, callV, aInvoke, List.nil_append, hy, Option.map_some, nextA]
    exact h
  · exact h.elim

theorem CallY.mono {l : Nat} {args : List Value} {R R' : Out → AHeap → Prop} (h : CallY P l args H R) (hR : ∀ out H1, R out H1 → R' out H1) : CallY P l args H R' := by
  unfold CallY at *
  split at h
  · obtain ⟨out, H1, h1, h2⟩ := h
    exact ⟨out, H1, h1, hR _ _ h2⟩
  · exact h.elim

def LoopAt (H : AHeap) (l : Nat) (lp : Loop) (e : RV) : Prop := ∃ o, H.get l = some ⟨.loop lp, o, e⟩

theorem LoopAt.get {l : Nat} {lp : Loop} {e : RV} (h : LoopAt H l lp e) : getLoop H l = some (lp, e) := by
  obtain ⟨o, h⟩ := h
  simp only [getLoop, h]
theorem LoopAt.of {G : AHeap} {l : Nat} {lp : Loop} {e : RV} (h : LoopAt H l lp e) (hg : G.get l = H.get l) : LoopAt G l lp e := by
  obtain ⟨o, h⟩ := h
  exact ⟨o, hg.trans h⟩
theorem LoopAt.set (l : Nat) (lp : Loop) (e : RV) : LoopAt (setLoop H l lp e) l lp e := ⟨false, by rw [setLoop, AHeap.get_upd, if_pos rfl]⟩

theorem roundA_of (hmix : P.follows .mixedOrders = true) {rd : Round} {R : Out → AHeap → Prop}
    (h : wpA P (some rd.l) rd.assign (fun e a1 H2 => e = .normal ∧ ∃ lp le, getLoop H2 rd.l = some (lp, le) ∧ lp.state = .ready ∧
      wpA P (some rd.l) rd.body (fun e2 _ H3 => ∃ j lp2 le2, jumpOf e2 = some j ∧ getLoop H3 rd.l = some (lp2, le2) ∧ R (.ok (.bool j.isNone)) (setLoop H3 rd.l { lp2 with state := if j.isNone then .ready else .done, pending := j } le2)) a1 (setLoop H2 rd.l { lp with state := .busy } le)) ⟨rd.env, []⟩ H) : RoundA P rd H R := by
  obtain ⟨e, a1, H2, hr, rfl, lp, le, h1, h2, h3⟩ := wpA_sound hmix _ _ _ _ h
  obtain ⟨e2, a2, H3, hr2, j, lp2, le2, h4, h5, h6⟩ := wpA_sound hmix _ _ _ _ h3
  exact ⟨_, _, round_core hr h1 h2 hr2 h4 h5, h6⟩

def asgC (P : Program) (l : Nat) (body : Code) (R : Out → AHeap → Prop) : Exit → AAct → AHeap → Prop := fun e a1 H2 => e = .normal ∧ ∃ lp le, getLoop H2 l = some (lp, le) ∧ lp.state = .ready ∧
      wpA P (some l) body (fun e2 _ H3 => ∃ j lp2 le2, jumpOf e2 = some j ∧ getLoop H3 l = some (lp2, le2) ∧ R (.ok (.bool j.isNone)) (setLoop H3 l { lp2 with state := if j.isNone then .ready else .done, pending := j } le2)) a1 (setLoop H2 l { lp with state := .busy } le)
def rndC (l : Nat) (R : Out → AHeap → Prop) : Exit → AAct → AHeap → Prop := fun e2 _ H3 => ∃ j lp2 le2, jumpOf e2 = some j ∧ getLoop H3 l = some (lp2, le2) ∧ R (.ok (.bool j.isNone)) (setLoop H3 l { lp2 with state := if j.isNone then .ready else .done, pending := j } le2)
theorem asgC_normal {l : Nat} {body : Code} {R : Out → AHeap → Prop} {a : AAct} : asgC P l body R .normal a H = ∃ lp le, getLoop H l = some (lp, le) ∧ lp.state = .ready ∧ wpA P (some l) body (rndC l R) a (setLoop H l { lp with state := .busy } le) := by
  simp only [asgC, true_and]
  rfl
theorem rndC_normal {l : Nat} {R : Out → AHeap → Prop} {a : AAct} : rndC l R .normal a H = ∃ lp2 le2, getLoop H l = some (lp2, le2) ∧ R (.ok (.bool true)) (setLoop H l { lp2 with state := .ready, pending := none } le2) := by
  simp [rndC, jumpOf]
theorem rndC_ret {l : Nat} {R : Out → AHeap → Prop} {a : AAct} : rndC l R .ret a H = ∃ lp2 le2, getLoop H l = some (lp2, le2) ∧ R (.ok (.bool false)) (setLoop H l { lp2 with state := .done, pending := some .ret } le2) := by
  simp [rndC, jumpOf]
theorem rndC_exit {l id : Nat} {R : Out → AHeap → Prop} {a : AAct} : rndC l R (.exit id) a H = ∃ lp2 le2, getLoop H l = some (lp2, le2) ∧ R (.ok (.bool false)) (setLoop H l { lp2 with state := .done, pending := some (.exit id) } le2) := by
  simp [rndC, jumpOf]

theorem callY_of (hmix : P.follows .mixedOrders = true) {l d : Nat} {ps : List Tmp} {assign body : Code} {args : List Value} {E1 : Env} {R : Out → AHeap → Prop}
    (hl : LoopAt H l { state := .ready, pending := none, fn := 0, tmps := #[], params := ⟨ps⟩, assign, body, defers := d } (rvOf N E)) (hlen : args.length = ps.length) (hE : zipSet ps args (rvOf N E) = rvOf N E1)
    (h : wpA P (some l) assign (asgC P l body R) (mkA N E1 []) H) : CallY P l args H R := by
  obtain ⟨o, hl⟩ := hl
  unfold CallY aYield
  rw [hl]
  simp only [hlen, if_true]
  refine roundA_of hmix ?_
  rw [hE]
  exact h

theorem zip_one {t : Tmp} {v : Value} (h : t < N) : zipSet [t] [v] (rvOf N E) = rvOf N (upd E t v) := by
  have hb : Nat.blt t (rvOf N E).n = true := blt_of h
  simp only [zipSet, hb, if_true]
  exact rvOf_set N E t v h
theorem zip_two {t u : Tmp} {v w : Value} (h : t < N) (h2 : u < N) : zipSet [t, u] [v, w] (rvOf N E) = rvOf N (upd (upd E t v) u w) := by
  have hb : Nat.blt t (rvOf N E).n = true := blt_of h
  have hb2 : Nat.blt u (rvOf N (upd E t v)).n = true := blt_of h2
  simp only [zipSet, hb, if_true, rvOf_set N E t v h, hb2]
  exact rvOf_set N _ u w h2

theorem w_env {c : Code} {Q : Exit → AAct → AHeap → Prop} (h : ∀ E', E' = E → wpA P ro c Q (mkA N E' ds) H) : wpA P ro c Q (mkA N E ds) H := h E rfl

def joinC (N : Nat) (ds : List Deferred) (I : Env → AHeap → Prop) : Exit → AAct → AHeap → Prop
  | .normal, a, H => ∃ E, a = mkA N E ds ∧ I E H
  | _, _, _ => False
theorem joinC_normal {I : Env → AHeap → Prop} : joinC N ds I .normal (mkA N E ds) H = ∃ E', mkA N E ds = mkA N E' ds ∧ I E' H := by simp only [joinC]
theorem condC_join {x y z : Code} {Q : Exit → AAct → AHeap → Prop} {b : Bool} (I : Env → AHeap → Prop) (h1 : b = true → wpA P ro x (joinC N ds I) (mkA N E ds) H) (h2 : b = false → wpA P ro y (joinC N ds I) (mkA N E ds) H) (h3 : ∀ E H, I E H → wpA P ro z Q (mkA N E ds) H) : condC P ro x y (seqC P ro z Q) (mkA N E ds) H (.bool b) := by
  have key : ∀ e a H, joinC N ds I e a H → seqC P ro z Q e a H := by
    intro e a H h
    cases e with
    | normal =>
      obtain ⟨E', rfl, hI⟩ := h
      exact h3 E' H hI
    | _ => exact h.elim
  exact condC_split (fun hb => wpA_mono x _ H key (h1 hb)) (fun hb => wpA_mono y _ H key (h2 hb))

def loopH (H : AHeap) (N : Nat) (E : Env) (ds : List Deferred) (ps : List Tmp) (assign body : Code) : AHeap := (H.new ⟨.deferred (some []), false, ⟨[], 0⟩⟩).new (newLoop (mkA N E ds) ⟨ps⟩ assign body H.next)

theorem loopH_next {ps : List Tmp} {assign body : Code} : (loopH H N E ds ps assign body).next = H.next + 2 := rfl
theorem loopH_loop {ps : List Tmp} {assign body : Code} : LoopAt (loopH H N E ds ps assign body) (H.next + 1) { state := .ready, pending := none, fn := 0, tmps := #[], params := ⟨ps⟩, assign, body, defers := H.next } (rvOf N E) := by
  refine ⟨false, ?_⟩
  unfold loopH
  rw [AHeap.get_new, if_pos (show H.next + 1 = (H.new ⟨.deferred (some []), false, ⟨[], 0⟩⟩).next from rfl)]
  rfl
theorem loopH_dfr {ps : List Tmp} {assign body : Code} : (loopH H N E ds ps assign body).get H.next = some ⟨.deferred (some []), false, ⟨[], 0⟩⟩ := by
  unfold loopH
  rw [AHeap.get_new, if_neg (show H.next ≠ (H.new ⟨.deferred (some []), false, ⟨[], 0⟩⟩).next by simp only [AHeap.new]; omega), AHeap.get_new, if_pos rfl]
theorem loopH_mod {W : List Nat} {ps : List Tmp} {assign body : Code} (hok : H.base ≤ H.next) : Mod W H (loopH H N E ds ps assign body) :=
  (Mod.new hok).trans (Mod.new (show H.base ≤ H.next + 1 by omega))

def afterC (N : Nat) (E : Env) (ds : List Deferred) (l d : Nat) (Q : Exit → AAct → AHeap → Prop) : Out → AHeap → Prop := fun out H2 => match out with
  | .ok _ => ∃ lp le e, getLoop H2 l = some (lp, le) ∧ lp.state ≠ .busy ∧ pendE lp.pending = some e ∧ Q e (mkA N E ({ target := .collected d, args := #[] } :: ds)) (setLoop H2 l { lp with state := .exhausted } le)
  | .error ch => Q (.panic ch) (mkA N E ({ target := .collected d, args := #[] } :: ds)) H2

theorem w_range {t : Tmp} {ps : List Tmp} {assign body : Code} {f : FuncId} {ca : List Value} {Q : Exit → AAct → AHeap → Prop} (ht : t < N) (hv : E t = .func (.func f) ⟨[]⟩ ⟨ca⟩) (hb : hasBody P f = true)
    (h : CallA P f (.func (.yield (H.next + 1)) ⟨[]⟩ ⟨[]⟩ :: ca) (loopH H N E ds ps assign body) (afterC N E ds (H.next + 1) H.next Q)) : wpA P none (.rangeFunc (.tmp t) ⟨ps⟩ assign body) Q (mkA N E ds) H := by
  simp only [wpA, aeval_tmp N E ds t ht, hv, rangeA, enterLoop, aInvoke, enterN, hb, if_true, List.nil_append, List.cons_append]
  refine h.mono fun out H2 hq => ?_
  cases out with
  | ok v => exact hq
  | error ch => exact hq

theorem w_rangeK {t : Tmp} {ps : List Tmp} {assign body : Code} {f : FuncId} {ca : List Value} {Q : Exit → AAct → AHeap → Prop} (hok : H.base ≤ H.next) (ht : t < N) (hv : E t = .func (.func f) ⟨[]⟩ ⟨ca⟩) (hb : hasBody P f = true)
    (h : ∀ K, LoopAt K (H.next + 1) { state := .ready, pending := none, fn := 0, tmps := #[], params := ⟨ps⟩, assign, body, defers := H.next } (rvOf N E) → K.get H.next = some ⟨.deferred (some []), false, ⟨[], 0⟩⟩ → (∀ W, Mod W H K) → K.next = H.next + 2 →
      CallA P f (.func (.yield (H.next + 1)) ⟨[]⟩ ⟨[]⟩ :: ca) K (afterC N E ds (H.next + 1) H.next Q)) : wpA P none (.rangeFunc (.tmp t) ⟨ps⟩ assign body) Q (mkA N E ds) H :=
  w_range ht hv hb (h _ loopH_loop loopH_dfr (fun _ => loopH_mod hok) loopH_next)

theorem lv_mark {fn : Func} {a : AAct} {R : Out → AHeap → Prop} {d : Nat} {ds : List Deferred} (h : ∃ o v, H.get d = some ⟨.deferred (some []), o, v⟩) (hR : leaveA P fn a ds .returning (H.upd d (some ⟨.deferred none, false, ⟨[], 0⟩⟩)) R) :
    leaveA P fn a ({ target := .collected d, args := #[] } :: ds) .returning H R := ⟨h, hR⟩

theorem w_func {f : FuncId} {first captured : List Operand} {ops : Array Oper} {rest : List Oper} {d : Nat} {ty : TypeId} {pos : String} {after : Array Edge} {Q : Exit → AAct → AHeap → Prop} (h1 : first.all (opOk P N) = true) (h2 : captured.all (opOk P N) = true) (hd : d < N) :
    wpOps P ro ops (⟨some d, .makeFunc (.func f) ⟨first⟩ ⟨captured⟩, ty, pos, after, none⟩ :: rest) (mkA N E ds) H Q = wpOps P ro ops rest (mkA N (upd E d (.func (.func f) ⟨first.map (opv E)⟩ ⟨captured.map (opv E)⟩)) ds) H Q := by
  rw [w_op rfl rfl]
  simp only [opA, aop, xFunc, aevals_opv h1, aevals_opv h2, Option.bind_eq_bind, Option.bind_some, funcV, nextA, opC, put_some N E ds d _ hd]

theorem ok_nilfunc : opOk P N (.const .nilFunc) = true := by simp only [opOk, af]

theorem all_sub {l : List Value} (h : l.all one = true) (a b : Nat) : ((l.drop a).take b).all one = true := by
  rw [List.all_eq_true] at h ⊢
  exact fun x hx => h x (List.mem_of_mem_drop (List.mem_of_mem_take hx))

theorem first_bk {sz cnt n off len cap : Nat} {s : Option Nat} {b : Bl} (h : bk H n = some b) (hle : off + cnt * sz ≤ b.l.length) : firstC H sz cnt (.slice (some ⟨n, off, s⟩) len cap) = some ((b.l.drop off).take (cnt * sz)) := by
  obtain ⟨rv, h1, h2, h3⟩ := bk_blk h
  simp only [firstC, h1, Option.bind_eq_bind, Option.bind_some]
  rw [if_pos (by rw [Nat.ble_eq]; omega), Blk.gets h2 h3 _ _ hle]

theorem app_nil {st xt e : TypeId} {sz by1 n off cnt cap : Nat} {s : Option Nat} {z : Value} {b : Bl} (hu : P.underlying st = some (.slice e)) (hsz : szOf P e = some sz) (hby : bytesOf P e = some by1) (hz : zeroOf P e = some z) (hzl : z.cells.toList.length = sz) (hi : intTy P xt = some false)
    (hb : bk H n = some b) (hle : off + cnt * sz ≤ b.l.length) (hone : b.l.all one = true) (hc : 0 < cnt) (hsm : small cnt by1 = true) :
    aBuiltin P H .append ⟨[st, xt]⟩ [.slice none 0 0, .slice (some ⟨n, off, s⟩) cnt cap] = (aNew H e ((b.l.drop off).take (cnt * sz)) true).map fun g => (.slice (some ⟨H.next, 0, none⟩) cnt cnt, g) := by
  have hl : ((b.l.drop off).take (cnt * sz)).length = cnt * sz := by simp; omega
  simp only [aBuiltin, aAppend, hu, hsz, hby, hz, hi, Option.bind_eq_bind, Option.bind_some, lenV, first_bk hb hle, hl, hzl, Nat.zero_add, hsm, and_self, if_true, aAppend2]
  rw [if_neg (by omega)]
  simp only [firstC, Option.bind_some, List.length_nil, Nat.zero_mul, List.all_nil, all_sub hone, decide_true, Bool.and_self, if_true, List.nil_append]
  cases aNew H e ((b.l.drop off).take (cnt * sz)) true <;> rfl

theorem app_open {st xt e : TypeId} {sz by1 m k n off cnt cap : Nat} {s : Option Nat} {z : Value} {b : Bl} {old : List Value} (hu : P.underlying st = some (.slice e)) (hsz : szOf P e = some sz) (hby : bytesOf P e = some by1) (hz : zeroOf P e = some z) (hzl : z.cells.toList.length = sz) (hi : intTy P xt = some false)
    (hm : bk H m = some ⟨e, true, old⟩) (ho : old.length = k * sz) (hoo : old.all one = true)
    (hb : bk H n = some b) (hle : off + cnt * sz ≤ b.l.length) (hone : b.l.all one = true) (hc : 0 < cnt) (hsm : small (k + cnt) by1 = true) :
    aBuiltin P H .append ⟨[st, xt]⟩ [.slice (some ⟨m, 0, none⟩) k k, .slice (some ⟨n, off, s⟩) cnt cap] = (aNew (H.upd m none) e (old ++ (b.l.drop off).take (cnt * sz)) true).map fun g => (.slice (some ⟨H.next, 0, none⟩) (k + cnt) (k + cnt), g) := by
  have hl : ((b.l.drop off).take (cnt * sz)).length = cnt * sz := by simp; omega
  obtain ⟨rv, h1, h2, h3⟩ := bk_blk hm
  have hop : isOpen H m = some true := by
    unfold cellsAt at h1
    unfold isOpen
    split at h1
    · cases h1
      rfl
    · cases h1
  simp only at h1 h2 h3
  have hf := first_bk (sz := sz) (cnt := k) (off := 0) (len := k) (cap := k) (s := none) hm (by simp only; omega)
  simp only [List.drop_zero] at hf
  rw [List.take_of_length_le (by omega)] at hf
  simp only [aBuiltin, aAppend, hu, hsz, hby, hz, hi, Option.bind_eq_bind, Option.bind_some, lenV, first_bk hb hle, hl, hzl, hsm, and_self, if_true, aAppend2]
  rw [if_neg (by omega)]
  simp only [hf, Option.bind_some, ho, hoo, all_sub hone, decide_true, Bool.and_self, if_true, exactAp, exactAt, hop, Option.map_some, Bool.not_true, h1]
  rw [if_pos ⟨trivial, by rw [Nat.ble_eq]; omega⟩]
  cases aNew (H.upd m none) e (old ++ (b.l.drop off).take (cnt * sz)) true <;> rfl

theorem app_exact {st xt e : TypeId} {sz by1 m k n off cnt cap : Nat} {s : Option Nat} {z : Value} {b bm : Bl} (hu : P.underlying st = some (.slice e)) (hsz : szOf P e = some sz) (hby : bytesOf P e = some by1) (hz : zeroOf P e = some z) (hzl : z.cells.toList.length = sz) (hi : intTy P xt = some false)
    (hm : bk H m = some bm) (ho : k * sz ≤ bm.l.length) (hoo : bm.l.all one = true)
    (hb : bk H n = some b) (hle : off + cnt * sz ≤ b.l.length) (hone : b.l.all one = true) (hc : 0 < cnt) (hsm : small (k + cnt) by1 = true) :
    aBuiltin P H .append ⟨[st, xt]⟩ [.slice (some ⟨m, 0, some 0⟩) k k, .slice (some ⟨n, off, s⟩) cnt cap] = (aNew H e (bm.l.take (k * sz) ++ (b.l.drop off).take (cnt * sz)) true).map fun g => (.slice (some ⟨H.next, 0, none⟩) (k + cnt) (k + cnt), g) := by
  have hl : ((b.l.drop off).take (cnt * sz)).length = cnt * sz := by simp; omega
  have hl2 : (bm.l.take (k * sz)).length = k * sz := by simp; omega
  have hf := first_bk (sz := sz) (cnt := k) (off := 0) (len := k) (cap := k) (s := some 0) hm (by omega)
  simp only [List.drop_zero] at hf
  have hoo2 := all_sub hoo 0 (k * sz)
  simp only [List.drop_zero] at hoo2
  simp only [aBuiltin, aAppend, hu, hsz, hby, hz, hi, Option.bind_eq_bind, Option.bind_some, lenV, first_bk hb hle, hl, hzl, hsm, and_self, if_true, aAppend2]
  rw [if_neg (by omega)]
  simp only [hf, Option.bind_some, hl2, hoo2, all_sub hone, decide_true, Bool.and_self, if_true, exactAp, exactAt]
  cases aNew H e (bm.l.take (k * sz) ++ (b.l.drop off).take (cnt * sz)) true <;> rfl

def dp (H : AHeap) (m : Nat) : AHeap := H.upd m none
theorem dp_next {m : Nat} : (dp H m).next = H.next := rfl
theorem dp_base {m : Nat} : (dp H m).base = H.base := rfl
theorem dp_get {m n : Nat} (h : n ≠ m) : (dp H m).get n = H.get n := by rw [dp, AHeap.get_upd, if_neg h]
theorem bk_dp {m n : Nat} (h : n ≠ m) : bk (dp H m) n = bk H n := bk_get (dp_get h)
theorem ext_dp {m : Nat} (h : m < H.next) : (ext H L).upd m none = ext (dp H m) L := ext_upd_old h
theorem ext_setLoop {l : Nat} {lp : Loop} {e : RV} (h : l < H.next) : setLoop (ext H L) l lp e = ext (setLoop H l lp e) L := ext_upd_old h
theorem setLoop_next {l : Nat} {lp : Loop} {e : RV} : (setLoop H l lp e).next = H.next := rfl
theorem setLoop_base {l : Nat} {lp : Loop} {e : RV} : (setLoop H l lp e).base = H.base := rfl
theorem setLoop_get {l n : Nat} {lp : Loop} {e : RV} (h : n ≠ l) : (setLoop H l lp e).get n = H.get n := by rw [setLoop, AHeap.get_upd, if_neg h]
theorem bk_setLoop {l n : Nat} {lp : Loop} {e : RV} (h : n ≠ l) : bk (setLoop H l lp e) n = bk H n := bk_get (setLoop_get h)


def rangeOf : Code → Option (Code × Code)
  | .seq x y => (match rangeOf x with
    | some r => some r
    | none => rangeOf y)
  | .cond _ x y => (match rangeOf x with
    | some r => some r
    | none => rangeOf y)
  | .block _ b => rangeOf b
  | .scope b => rangeOf b
  | .loop b => rangeOf b
  | .rangeFunc _ _ a b => some (a, b)
  | _ => none

structure Yld (P : Program) (l : Nat) (α : Type) (enc : α → List Value) (go : α → Bool) (cap : Nat) where
  Inv : List α → List Nat → List Nat → AHeap → Prop
  sub : ∀ {rs F W G}, Inv rs F W G → ∀ n ∈ W, n ∈ F
  dom : ∀ {rs F W G}, Inv rs F W G → ∀ n ∈ F, G.get n ≠ none ∧ n < G.next
  loc : ∀ {rs F W G G'}, Inv rs F W G → G.next ≤ G'.next → (∀ n ∈ F, G'.get n = G.get n) → Inv rs F W G'
  step : ∀ {rs F W G r}, Inv rs F W G → (∀ x ∈ rs, go x = true) → rs.length < cap → G.base ≤ G.next → CallY P l (enc r) G (fun out G' => out = .ok (.bool (go r)) ∧ ∃ F' W', Inv (rs ++ [r]) F' W' G' ∧ Mod W G G' ∧ (∀ n ∈ F', n ∈ F ∨ G.next ≤ n) ∧ (∀ n ∈ W', n ∈ W ∨ G.next ≤ n))

def upto {α : Type} (go : α → Bool) : List α → List α
  | [] => []
  | x :: r => if go x then x :: upto go r else [x]

theorem upto_all {α : Type} {go : α → Bool} : ∀ {l : List α}, l.all go = true → upto go l = l
  | [], _ => rfl
  | x :: r, h => by
    simp only [List.all_cons, Bool.and_eq_true] at h
    simp only [upto, h.1, if_true, upto_all h.2]
theorem upto_append {α : Type} {go : α → Bool} : ∀ {l m : List α}, l.all go = true → upto go (l ++ m) = l ++ upto go m
  | [], _, _ => rfl
  | x :: r, m, h => by
    simp only [List.all_cons, Bool.and_eq_true] at h
    simp only [List.cons_append, upto, h.1, if_true, upto_append h.2]
theorem upto_stop {α : Type} {go : α → Bool} : ∀ {l m : List α}, l.all go = false → upto go (l ++ m) = upto go l
  | [], _, h => by cases h
  | x :: r, m, h => by
    simp only [List.all_cons, Bool.and_eq_false_iff] at h
    simp only [List.cons_append, upto]
    by_cases hx : go x = true
    · simp only [hx, if_true]
      rw [upto_stop (h.elim (fun h => by rw [hx] at h; cases h) id)]
    · simp [hx]

theorem le_new {b i k : Nat} : (b + i ≤ b + k) = (i ≤ k) := by simp
theorem idsB_some {x : Bl} : (match (some x : Option Bl) with
    | some x => idsL x.l
    | none => []) = idsL x.l := rfl
def idsB : Option Bl → List Nat
  | some x => idsL x.l
  | none => []
theorem idsB_eq {e : TypeId} {o : Bool} {l : List Value} : idsB (some ⟨e, o, l⟩) = idsL l := by simp only [idsB]
theorem ids_at {b i : Nat} (h : H.next = b) (hi : i < L.length) : idsAt (ext H L) (b + i) = idsB L[i]? := by
  rw [ids_new h hi]
  cases L[i]? <;> rfl

def lenS (n : Nat) : Option TypeDesc → Option Value
  | some (.slice _) => some (goInt n)
  | some (.array m _) => some (goInt m)
  | _ => none
def lenR (n : Nat) : Option TypeDesc → Option Value
  | some (.slice _) => some (goInt n)
  | _ => none
theorem lenS_slice {n : Nat} {e : TypeId} : lenS n (some (.slice e)) = some (goInt n) := by simp only [lenS]
theorem lenR_slice {n : Nat} {e : TypeId} : lenR n (some (.slice e)) = some (goInt n) := by simp only [lenR]
theorem bt_lenS {t : TypeId} {x : Option Addr} {n c : Nat} : aBuiltin P H .len ⟨[t]⟩ [.slice x n c] = (lenS n (P.underlying t)).map fun v => (v, H) := by
  simp only [aBuiltin, aLen]
  cases P.underlying t with
  | none => rfl
  | some d => cases d <;> rfl
theorem rb_lenS {t : TypeId} {x : Option Addr} {n c : Nat} : regBt P .len ⟨[t]⟩ [.slice x n c] = lenR n (P.underlying t) := by
  simp only [regBt]
  cases P.underlying t with
  | none => rfl
  | some d => cases d <;> rfl
theorem go_int {n : Int} : goInt n = .int .i64 n := by simp only [goInt]
theorem ia_slice {t e : TypeId} {sz n off len cap : Nat} {s : Option Nat} {k : IntKind} {i : Int} (hu : P.underlying t = some (.slice e)) (hsz : szOf P e = some sz) (h0 : 0 ≤ i) (h1 : i < len) : aIndexAddr P t (.slice (some ⟨n, off, s⟩) len cap) (.int k i) = some (.pointer (some ⟨n, off + i.toNat * sz, none⟩)) := by
  simp only [aIndexAddr, hu, hsz, Option.bind_eq_bind, Option.bind_some, h0, h1, and_self, if_true]
theorem idsOk_new {anc j lo hi : Nat} {F W O : List Nat} {fps : List Fp} : IdsOk anc (⟨j, F, W, lo, hi⟩ :: fps) O = ((lo < hi → anc.testBit j = true ∨ ∀ n ∈ O, n < lo ∨ hi ≤ n) ∧ IdsOk anc fps O) := by simp [IdsOk]
theorem idsOk_anc {anc j lo hi : Nat} {F W O : List Nat} {fps : List Fp} (h : anc.testBit j = true) : IdsOk anc (⟨j, F, W, lo, hi⟩ :: fps) O = IdsOk anc fps O := by simp [IdsOk, h]
theorem meets_bit {anc j lo hi : Nat} {F W F' W' O : List Nat} (h : anc.testBit j = true) : Meets anc F W O ⟨j, F', W', lo, hi⟩ = True := by simp [Meets, h]
theorem meets_anc {anc j lo hi : Nat} {F W F' W' O : List Nat} {fps : List Fp} (h : anc.testBit j = true) : (∀ r ∈ (⟨j, F', W', lo, hi⟩ : Fp) :: fps, Meets anc F W O r) = ∀ r ∈ fps, Meets anc F W O r := by simp [Meets, h]

end
end Go.Ax

/- Walks over abstract heaps: pointers compared. -/
namespace Go.Ax
section
variable {P : Program} {ro : Option Nat} {H : AHeap} {N : Nat} {E : Env} {ds : List Deferred} {L : List Bl}

theorem isOpen_bk {n : Nat} {b : Bl} (h : bk H n = some b) : isOpen H n = some b.o := by
  unfold bk at h
  cases hc : cellsAt H n with
  | none => rw [hc] at h; cases h
  | some x =>
    rw [hc] at h
    obtain ⟨rv, e, o⟩ := x
    cases h
    unfold cellsAt at hc
    unfold isOpen
    split at hc
    · cases hc; rfl
    · cases hc

def ptrTy (P : Program) (t : TypeId) : Bool :=
  match P.underlying t with
  | some (.pointer e) => (match szOf P e with
    | some (_ + 1) => true
    | _ => false)
  | _ => false

theorem aBin_ptr {op : BinOp} {t : TypeId} {a b : Addr} {b1 b2 : Bl} (ht : ptrTy P t = true) (h1 : bk H a.block = some b1) (h2 : bk H b.block = some b2) (o1 : b1.o = false) (o2 : b2.o = false) : aBin P H op t (.pointer (some a)) (.pointer (some b)) = eqOp op (a == b) := by
  unfold ptrTy at ht
  split at ht
  · rename_i e hu
    split at ht
    · rename_i k hs
      have i1 := isOpen_bk h1
      have i2 := isOpen_bk h2
      rw [o1] at i1
      rw [o2] at i2
      simp only [aBin, aBinAddr, aEq, hu, hs, i1, i2, Option.bind_some]
    · cases ht
  · cases ht

theorem addr_beq {n o m o' : Nat} : ((⟨n, o, none⟩ : Addr) == ⟨m, o', none⟩) = decide (n = m ∧ o = o') := by
  have : ((⟨n, o, none⟩ : Addr) == ⟨m, o', none⟩) = decide ((⟨n, o, none⟩ : Addr) = ⟨m, o', none⟩) := by
    first
      | rfl
      | (by_cases h : (⟨n, o, none⟩ : Addr) = ⟨m, o', none⟩
         · rw [h]; simp
         · simp [h])
  rw [this]
  simp

section
variable {ops : Array Oper} {anc : List Nat} {d : Nat} {ty : TypeId} {pos : String} {after : Array Edge} {rest : List Oper} {i : Nat} {fps : List Fp} {Q : AAct → AHeap → Prop}

theorem wd_ptr {op : BinOp} {t u : TypeId} {x y : Operand} {a b : Addr} {b1 b2 : Bl} {r : Bool} (hop : eqOp op (a == b) = some (.bool r)) (hx : opOk P N x = true) (hy : opOk P N y = true) (hd : d < N) (ht : ptrTy P t = true) (ha : opv E x = .pointer (some a)) (hb : opv E y = .pointer (some b)) (h1 : bk H a.block = some b1) (h2 : bk H b.block = some b2) (o1 : b1.o = false) (o2 : b2.o = false)
    (hm : ∀ r ∈ fps, Meets (anc.getD i 0) [a.block, b.block] [] [] r) (h : wkD P ops anc rest (i + 1) (⟨i, [a.block, b.block], [], H.next, H.next⟩ :: fps) (mkA N (upd E d (.bool r)) ds) H Q) :
    wkD P ops anc (⟨some d, .binOp op t x y u, ty, pos, after, none⟩ :: rest) i fps (mkA N E ds) H Q := by
  simp only [wkD, wantA, stepD, pureOp, binD, aeval_opv hx, aeval_opv hy, ha, hb, regBin]
  have hn := restrict_next H [a.block, b.block]
  have g1 : bk (H.restrict [a.block, b.block]) a.block = some b1 := (bk_get (by rw [restrict_get, if_pos (by simp)])).trans h1
  have g2 : bk (H.restrict [a.block, b.block]) b.block = some b2 := (bk_get (by rw [restrict_get, if_pos (by simp)])).trans h2
  refine ⟨[a.block, b.block], .bool r, H.restrict [a.block, b.block], ?_, ?_, (by rw [hn.2.2]; simp), fun r hr => fpOk_of ?_, ?_⟩
  · refine opS_of (x := .value (.bool r)) (g := H.restrict [a.block, b.block]) ?_ ⟨rfl, rfl⟩
    simp only [aop, xBin, aeval_opv hx, aeval_opv hy, ha, hb, Option.bind_eq_bind, Option.bind_some, binV, aBin_ptr ht g1 g2 o1 o2, hop]
  · intro n hn
    simp only [List.mem_cons, List.not_mem_nil, or_false] at hn
    rcases hn with rfl | rfl
    · exact bk_ne h1
    · exact bk_ne h2
  · simp only [outIds, hn.2.2, hn.1, Nat.sub_self, rangeFrom, List.append_nil, List.flatMap_nil, idsV]
    exact hm r hr
  · rw [merge_self, hn.2.2, hn.1]
    simp only [put_some N E ds d _ hd]
    exact h
end
end
end Go.Ax

/- Walks over abstract heaps: where ways meet again, some of which may have left the function. -/
namespace Go.Ax
section
variable {P : Program} {ro : Option Nat} {H : AHeap} {N : Nat} {E : Env} {ds : List Deferred} {L : List Bl}

def joinR (N : Nat) (ds : List Deferred) (J : Env → AHeap → Prop) (Q : Exit → AAct → AHeap → Prop) : Exit → AAct → AHeap → Prop
  | .normal, a, H => ∃ E, a = mkA N E ds ∧ J E H
  | e, a, H => Q e a H
theorem joinR_normal {J : Env → AHeap → Prop} {Q : Exit → AAct → AHeap → Prop} (h : J E H) : joinR N ds J Q .normal (mkA N E ds) H := ⟨E, rfl, h⟩
theorem joinR_ret {J : Env → AHeap → Prop} {Q : Exit → AAct → AHeap → Prop} {a : AAct} : joinR N ds J Q .ret a H = Q .ret a H := Eq.trans rfl rfl
theorem joinR_exit {J : Env → AHeap → Prop} {Q : Exit → AAct → AHeap → Prop} {a : AAct} {id : Nat} : joinR N ds J Q (.exit id) a H = Q (.exit id) a H := Eq.trans rfl rfl

theorem joinR_seq {J : Env → AHeap → Prop} {Q : Exit → AAct → AHeap → Prop} {z : Code} (h3 : ∀ E H, J E H → wpA P ro z Q (mkA N E ds) H) : ∀ e a H, joinR N ds J Q e a H → seqC P ro z Q e a H := by
  intro e a H h
  cases e with
  | normal =>
    obtain ⟨E', rfl, hI⟩ := h
    exact h3 E' H hI
  | _ => exact h

theorem condC_meet {x y z : Code} {Q : Exit → AAct → AHeap → Prop} {v : Value} (J : Env → AHeap → Prop) (h1 : condC P ro x y (joinR N ds J Q) (mkA N E ds) H v) (h3 : ∀ E H, J E H → wpA P ro z Q (mkA N E ds) H) : condC P ro x y (seqC P ro z Q) (mkA N E ds) H v := by
  cases v with
  | bool b =>
    cases b with
    | true => rw [condC_true] at h1 ⊢; exact wpA_mono x _ H (joinR_seq h3) h1
    | false => rw [condC_false] at h1 ⊢; exact wpA_mono y _ H (joinR_seq h3) h1
  | _ => exact h1

theorem blockC_meet {c z : Code} {id : Nat} {Q : Exit → AAct → AHeap → Prop} (J : Env → AHeap → Prop) (h1 : wpA P ro c (blockC id (joinR N ds J Q)) (mkA N E ds) H) (h3 : ∀ E H, J E H → wpA P ro z Q (mkA N E ds) H) : wpA P ro c (blockC id (seqC P ro z Q)) (mkA N E ds) H := by
  refine wpA_mono c _ H (fun e a H h => ?_) h1
  exact joinR_seq h3 _ _ _ h

theorem w_meet {c z : Code} {Q : Exit → AAct → AHeap → Prop} (J : Env → AHeap → Prop) (h1 : wpA P ro c (joinR N ds J Q) (mkA N E ds) H) (h3 : ∀ E H, J E H → wpA P ro z Q (mkA N E ds) H) : wpA P ro c (seqC P ro z Q) (mkA N E ds) H :=
  wpA_mono c _ H (joinR_seq h3) h1

theorem loopC_next {K : Env → AHeap → Prop} {Q : Exit → AAct → AHeap → Prop} (h : K E H) : loopC N ds K Q .normal (mkA N E ds) H := by
  rw [loopC_normal]
  exact ⟨E, rfl, h⟩

theorem putL_same : ∀ (l : List Value) (o : Nat) (v : Value), l[o]? = some v → putL l o [v] = l
  | [], o, v, h => by simp at h
  | x :: r, 0, v, h => by
    simp only [List.getElem?_cons_zero, Option.some.injEq] at h
    subst h
    cases r <;> rfl
  | x :: r, o + 1, v, h => by
    simp only [putL, putL_same r o v (by simpa using h)]
end
end Go.Ax

/- Walks over abstract heaps: structs compared, whose parts are numbers, truth values and strings. -/
namespace Go.Ax
section
variable {P : Program}

theorem peval_bind {α β : Type} (s : Sem α) (f : α → Sem β) : peval P (s >>= f) = (peval P s).bind fun a => peval P (f a) := by
  show peval P (Sem.bind s f) = _
  induction s with
  | pure x => rfl
  | program k ih => simp only [Sem.bind, peval]; exact ih P
  | mark m k ih => simp only [Sem.bind, peval]; exact ih
  | load | store | new | shape | freeze | frozen | getObj | setObj | choose | sys | halt => simp [Sem.bind, peval]

theorem peval_pure {α : Type} (a : α) : peval P (pure a : Sem α) = some a := rfl
theorem peval_program : peval P Go.program = some P := rfl

theorem peval_und {t : TypeId} {d : TypeDesc} (h : P.underlying t = some d) : peval P (underlying t) = some d := by
  simp only [underlying, peval_bind, peval_program, Option.bind_some, h, peval_pure]

theorem peval_agg {t : TypeId} {b : Bool} (h : aggT P t = some b) : peval P (isAgg t) = some b := by
  unfold aggT at h
  cases e : P.underlying t with
  | none => rw [e] at h; cases h
  | some d =>
    rw [e] at h
    simp only [isAgg, peval_bind, peval_und e, Option.bind_some]
    cases d <;> simp only [peval_pure] <;> simpa using h

theorem peval_size {t : TypeId} {n : Nat} (h : szOf P t = some n) : peval P (sizeOf t) = some n := by
  unfold szOf at h
  cases e : P.info? t with
  | none => rw [e] at h; cases h
  | some i =>
    rw [e] at h
    simp only [sizeOf, typeInfo, peval_bind, peval_program, Option.bind_some, e, peval_pure]
    simpa using h

def fit1 (P : Program) (t : TypeId) (v : Value) : Bool :=
  match P.underlying t, v with
  | some .bool, .bool _ => true
  | some (.int k), .int k' _ => k == k'
  | some .string, .string _ => true
  | _, _ => false
def fits (P : Program) : List TypeId → List Value → Bool
  | [], [] => true
  | t :: ts, v :: vs => fit1 P t v && fits P ts vs
  | _, _ => false
def eq1 : Value → Value → Bool
  | .bool a, .bool b => a == b
  | .int _ a, .int _ b => a == b
  | .string a, .string b => a == b
  | _, _ => false
def eqL : List Value → List Value → Bool
  | [], [] => true
  | x :: xs, y :: ys => eq1 x y && eqL xs ys
  | _, _ => false

def flatF (P : Program) (fl : TypeId → Option (List TypeId)) : List Field → Nat → Option (List TypeId)
  | [], _ => some []
  | f :: fs, o =>
    if f.name ≠ "_" ∧ f.offset = o then
      (match fl f.type with
      | some a => if szOf P f.type = some a.length then (match flatF P fl fs (o + a.length) with
        | some b => some (a ++ b)
        | none => none) else none
      | none => none)
    else none
def flat (P : Program) : Nat → TypeId → Option (List TypeId)
  | 0, _ => none
  | d + 1, t =>
    match P.underlying t with
    | some .bool => some [t]
    | some (.int _) => some [t]
    | some .string => some [t]
    | some (.struct fs) => if P.stoodInHeld t then none else flatF P (flat P d) fs.toList 0
    | _ => none

theorem peval_eq1 {d : Nat} {t : TypeId} {x y : Value} (hx : fit1 P t x = true) (hy : fit1 P t y = true) : peval P (Op.equalIn (d + 1) t x y) = some (eq1 x y) := by
  unfold fit1 at hx hy
  split at hx
  · rename_i a e
    rw [e] at hy
    cases y <;> simp only [Bool.false_eq_true] at hy
    simp only [Op.equalIn, peval_bind, peval_und e, Option.bind_some, peval_pure, eq1]
  · rename_i k k1 a e
    rw [e] at hy
    cases y <;> simp only [Bool.false_eq_true] at hy
    simp only [Op.equalIn, peval_bind, peval_und e, Option.bind_some, peval_pure, eq1]
    rw [if_pos ((eq_of_beq hx).symm.trans (eq_of_beq hy))]
    rfl
  · rename_i a e
    rw [e] at hy
    cases y <;> simp only [Bool.false_eq_true] at hy
    simp only [Op.equalIn, peval_bind, peval_und e, Option.bind_some, peval_pure, eq1]
  · cases hx

theorem fits_split : ∀ {ts us : List TypeId} {vs : List Value}, fits P (ts ++ us) vs = true → fits P ts (vs.take ts.length) = true ∧ fits P us (vs.drop ts.length) = true ∧ ts.length ≤ vs.length
  | [], us, vs, h => by simpa [fits] using h
  | t :: ts, us, [], h => by simp [fits] at h
  | t :: ts, us, v :: vs, h => by
    simp only [List.cons_append, fits, Bool.and_eq_true] at h
    have := fits_split h.2
    simp only [List.length_cons, List.take_succ_cons, List.drop_succ_cons, fits, h.1, this.1, this.2.1, Bool.and_self, true_and]
    omega
theorem eqL_split : ∀ {n : Nat} {xs ys : List Value}, n ≤ xs.length → n ≤ ys.length → eqL xs ys = (eqL (xs.take n) (ys.take n) && eqL (xs.drop n) (ys.drop n))
  | 0, xs, ys, _, _ => by simp [eqL]
  | n + 1, [], _, h, _ => by simp at h
  | n + 1, _ :: _, [], _, h => by simp at h
  | n + 1, x :: xs, y :: ys, h1, h2 => by
    simp only [List.length_cons, Nat.add_le_add_iff_right] at h1 h2
    simp only [List.take_succ_cons, List.drop_succ_cons, eqL, eqL_split h1 h2, Bool.and_assoc]
theorem fits_length : ∀ {ts : List TypeId} {vs : List Value}, fits P ts vs = true → ts.length = vs.length
  | [], [], _ => rfl
  | [], _ :: _, h => by simp [fits] at h
  | _ :: _, [], h => by simp [fits] at h
  | t :: ts, v :: vs, h => by
    simp only [fits, Bool.and_eq_true] at h
    simp only [List.length_cons, fits_length h.2]

theorem peval_struct {d : Nat} {t : TypeId} {xs ys : Array Value} {fs : Array Field} (ht : P.underlying t = some (.struct fs)) (hp : P.stoodInHeld t = false) :
    peval P (Op.equalIn (d + 1) t (.agg xs) (.agg ys)) = peval P (Op.eqFields d xs ys fs.toList) := by
  simp only [Op.equalIn, peval_bind, peval_und ht, Option.bind_some, peval_program, hp, Bool.false_eq_true, if_false]
  rw [← Array.forIn_toList]
  generalize fs.toList = l
  clear ht
  induction l with
  | nil => simp [Op.eqFields, peval_pure, peval_bind]
  | cons f fs ih =>
    simp only [List.forIn_cons, Op.eqFields, peval_bind]
    split
    · simp only [peval_bind]
      cases peval P (part f.type xs f.offset) with
      | none => rfl
      | some a =>
        simp only [Option.bind_some]
        cases peval P (part f.type ys f.offset) with
        | none => rfl
        | some b =>
          simp only [Option.bind_some]
          cases peval P (Op.equalIn d f.type a b) with
          | none => rfl
          | some r =>
            cases r
            · simp [peval_pure]
            · simp only [Option.bind_some, Bool.not_true, Bool.false_eq_true, if_false, peval_pure, peval_bind]
              rw [← ih]
    · simp only [peval_pure, peval_bind, Option.bind_some]
      rw [← ih]

theorem peval_part {t : TypeId} {sz o : Nat} {b : Bool} {xs : List Value} (ha : aggT P t = some b) (hs : szOf P t = some sz) (h1 : b = false → sz = 1) (hle : o + sz ≤ xs.length) :
    peval P (part t ⟨xs⟩ o) = some (if b then .agg ⟨(xs.drop o).take sz⟩ else xs.getD o undef) := by
  cases b with
  | true => 
    simp only [part, peval_bind, peval_agg ha, Option.bind_some, if_true, peval_size hs, peval_pure, Option.some.injEq, Value.agg.injEq]
    apply Array.ext'
    simp [Array.toList_extract, List.extract_eq_take_drop]
  | false =>
    have := h1 rfl
    have hlt : o < xs.length := by omega
    simp only [part, peval_bind, peval_agg ha, Option.bind_some, Bool.false_eq_true, if_false]
    simp [List.getElem?_eq_getElem hlt, peval_pure, List.getD_eq_getElem?_getD]

theorem flat_scalar {d : Nat} {t : TypeId} {ts : List TypeId} (h : flat P (d + 1) t = some ts) (ha : aggT P t = some false) : ts = [t] := by
  simp only [flat] at h
  unfold aggT at ha
  cases e : P.underlying t with
  | none => rw [e] at ha; cases ha
  | some td => rw [e] at h ha; cases td <;> simp_all

theorem flat_und {d : Nat} {t : TypeId} {ts : List TypeId} (h : flat P (d + 1) t = some ts) : ∃ b, aggT P t = some b := by
  simp only [flat] at h
  unfold aggT
  cases e : P.underlying t with
  | none => rw [e] at h; cases h
  | some td => rw [e] at h; cases td <;> simp_all

theorem peval_fields {d : Nat} (ih : ∀ t ts xs ys, flat P d t = some ts → aggT P t = some true → fits P ts xs = true → fits P ts ys = true → peval P (Op.equalIn d t (.agg ⟨xs⟩) (.agg ⟨ys⟩)) = some (eqL xs ys)) :
    ∀ (fs : List Field) (o : Nat) (ts : List TypeId) (xs ys : List Value), flatF P (flat P d) fs o = some ts → o ≤ xs.length → o ≤ ys.length → fits P ts (xs.drop o) = true → fits P ts (ys.drop o) = true → peval P (Op.eqFields d ⟨xs⟩ ⟨ys⟩ fs) = some (eqL (xs.drop o) (ys.drop o))
  | [], o, ts, xs, ys, h, _, _, hx, hy => by
    simp only [flatF, Option.some.injEq] at h
    subst h
    have h1 := fits_length hx
    have h2 := fits_length hy
    rw [List.eq_nil_of_length_eq_zero h1.symm, List.eq_nil_of_length_eq_zero h2.symm]
    rfl
  | f :: fs, o, ts, xs, ys, h, hox, hoy, hx, hy => by
    simp only [flatF] at h
    split at h
    · rename_i hf
      obtain ⟨hn, ho⟩ := hf
      cases e1 : flat P d f.type with
      | none => rw [e1] at h; cases h
      | some a =>
        rw [e1] at h
        simp only at h
        split at h
        · rename_i hsz
          cases e2 : flatF P (flat P d) fs (o + a.length) with
          | none => rw [e2] at h; cases h
          | some b =>
            rw [e2] at h
            simp only [Option.some.injEq] at h
            subst h
            obtain ⟨hx1, hx2, hxl⟩ := fits_split hx
            obtain ⟨hy1, hy2, hyl⟩ := fits_split hy
            have hsp := eqL_split hxl hyl
            rw [List.drop_drop] at hx2 hy2
            rw [List.drop_drop, List.drop_drop] at hsp
            rw [List.length_drop] at hxl hyl
            have key := peval_fields ih fs (o + a.length) b xs ys e2 (by omega) (by omega) hx2 hy2
            cases d with
            | zero => simp [flat] at e1
            | succ d =>
              obtain ⟨bb, hag⟩ := flat_und e1
              have h1 : bb = false → a.length = 1 := fun hb => by subst hb; rw [flat_scalar e1 hag]; rfl
              simp only [Op.eqFields, hn, ne_eq, not_false_eq_true, if_true, peval_bind, ho]
              rw [peval_part hag hsz h1 (by omega), peval_part hag hsz h1 (by omega)]
              simp only [Option.bind_some]
              have hr : peval P (Op.equalIn (d + 1) f.type (if bb then .agg ⟨(xs.drop o).take a.length⟩ else xs.getD o undef) (if bb then .agg ⟨(ys.drop o).take a.length⟩ else ys.getD o undef)) = some (eqL ((xs.drop o).take a.length) ((ys.drop o).take a.length)) := by
                cases bb with
                | true => simp only [if_true]; exact ih f.type a _ _ e1 hag hx1 hy1
                | false =>
                  have ha := flat_scalar e1 hag
                  have hl := h1 rfl
                  subst ha
                  have hlx : o < xs.length := by omega
                  have hly : o < ys.length := by omega
                  have gx : (xs.drop o).take 1 = [xs.getD o undef] := by rw [List.take_one, List.head?_drop, List.getElem?_eq_getElem hlx, List.getD_eq_getElem?_getD, List.getElem?_eq_getElem hlx]; rfl
                  have gy : (ys.drop o).take 1 = [ys.getD o undef] := by rw [List.take_one, List.head?_drop, List.getElem?_eq_getElem hly, List.getD_eq_getElem?_getD, List.getElem?_eq_getElem hly]; rfl
                  simp only [List.length_singleton, gx, gy, fits, Bool.and_true] at hx1 hy1 ⊢
                  simp only [Bool.false_eq_true, if_false, peval_eq1 hx1 hy1, eqL, Bool.and_true]
              rw [hr, Option.bind_some, hsp]
              cases eqL ((xs.drop o).take a.length) ((ys.drop o).take a.length) with
              | true => simp only [Bool.not_true, Bool.false_eq_true, if_false, Bool.true_and]; exact key
              | false => simp only [Bool.not_false, if_true, peval_pure, Bool.false_and]
        · cases h
    · cases h

theorem peval_eqS : ∀ (d : Nat) (t : TypeId) (ts : List TypeId) (xs ys : List Value), flat P d t = some ts → aggT P t = some true → fits P ts xs = true → fits P ts ys = true → peval P (Op.equalIn d t (.agg ⟨xs⟩) (.agg ⟨ys⟩)) = some (eqL xs ys)
  | 0, t, ts, xs, ys, h, _, _, _ => by simp [flat] at h
  | d + 1, t, ts, xs, ys, h, ha, hx, hy => by
    simp only [flat] at h
    unfold aggT at ha
    cases e : P.underlying t with
    | none => rw [e] at ha; cases ha
    | some td =>
      rw [e] at h ha
      cases td <;> simp only [reduceCtorEq, Option.some.injEq, Bool.false_eq_true] at ha h
      rename_i fs
      split at h
      · cases h
      · rename_i hp
        rw [peval_struct e (by simpa using hp)]
        exact peval_fields (peval_eqS d) fs.toList 0 ts xs ys h (Nat.zero_le _) (Nat.zero_le _) hx hy

theorem plain_eqS {op : BinOp} {t : TypeId} {ts : List TypeId} {xs ys : List Value} {x y : Operand} {r : Bool} (h : flat P 10000 t = some ts) (ha : aggT P t = some true) (hg : P.eqGuardType P.depth t = false) (hx : fits P ts xs = true) (hy : fits P ts ys = true) (hop : eqOp op (eqL xs ys) = some (.bool r)) :
    aPlain P (do eqGuard op t x y (.agg ⟨xs⟩) (.agg ⟨ys⟩); binOp op t (.agg ⟨xs⟩) (.agg ⟨ys⟩)) = some (.value (.bool r)) := by
  have key := peval_eqS 10000 t ts xs ys h ha hx hy
  cases op <;> simp only [eqOp, Option.some.injEq, Value.bool.injEq, reduceCtorEq] at hop
  all_goals
    subst hop
    simp only [aPlain, peval_bind, eqGuard, peval_program, peval_pure, Option.bind_some, hg, Bool.not_false, Bool.not_true, if_true, Bool.false_eq_true, if_false, binOp, Op.equal, Op.maxDepth, key, af]

theorem aBin_agg {H : AHeap} {op : BinOp} {t : TypeId} {xs : Array Value} {y : Value} : aBin P H op t (.agg xs) y = none := by
  cases y <;> rfl
theorem fits_af : ∀ {ts : List TypeId} {vs : List Value}, fits P ts vs = true → afL vs = true
  | [], [], _ => rfl
  | [], _ :: _, h => by simp [fits] at h
  | _ :: _, [], h => by simp [fits] at h
  | t :: ts, v :: vs, h => by
    simp only [fits, Bool.and_eq_true] at h
    have h1 := h.1
    unfold fit1 at h1
    have : af v = true := by split at h1 <;> first | rfl | cases h1
    simp only [afL, this, fits_af h.2, Bool.and_self]

variable {ro : Option Nat} {H : AHeap} {N : Nat} {E : Env} {ds : List Deferred}
theorem wd_same {op : Op} {ops : Array Oper} {anc : List Nat} {d : Nat} {ty : TypeId} {pos : String} {after : Array Edge} {rest : List Oper} {i : Nat} {fps : List Fp} {Q : AAct → AHeap → Prop} {v : Value}
    (hn : stepD P ⟨some d, op, ty, pos, after, none⟩ (mkA N E ds) H (anc.getD i 0) i fps = genD P ⟨some d, op, ty, pos, after, none⟩ (mkA N E ds) H (anc.getD i 0) i fps) (hx : ∀ G, aop op P (mkA N E ds) G = some (.value v, G)) (hv : idsV v = []) (hd : d < N)
    (h : wkD P ops anc rest (i + 1) (⟨i, [], [], H.next, H.next⟩ :: fps) (mkA N (upd E d v) ds) H Q) : wkD P ops anc (⟨some d, op, ty, pos, after, none⟩ :: rest) i fps (mkA N E ds) H Q := by
  have hr := restrict_next H []
  simp only [wkD, wantA]
  rw [hn]
  refine ⟨[], v, H.restrict [], opS_of (hx _) ⟨rfl, rfl⟩, by simp, (by rw [hr.2.2]; simp), fun r _ => fpOk_of ?_, ?_⟩
  · simp only [outIds, hr.2.2, hr.1, Nat.sub_self, rangeFrom, List.append_nil, List.flatMap_nil, hv]
    exact .inr ⟨by simp, by simp, fun _ => ⟨by simp, by simp⟩⟩
  · rw [merge_self, hr.2.2, hr.1]
    simp only [put_some N E ds d _ hd]
    exact h

theorem wd_eqS {op : BinOp} {t u : TypeId} {x y : Operand} {ts : List TypeId} {xs ys : List Value} {r : Bool} {ops : Array Oper} {anc : List Nat} {d : Nat} {ty : TypeId} {pos : String} {after : Array Edge} {rest : List Oper} {i : Nat} {fps : List Fp} {Q : AAct → AHeap → Prop}
    (h : flat P 10000 t = some ts) (ha : aggT P t = some true) (hg : P.eqGuardType P.depth t = false) (hop : eqOp op (eqL xs ys) = some (.bool r)) (hx : opOk P N x = true) (hy : opOk P N y = true) (hd : d < N) (hvx : opv E x = .agg ⟨xs⟩) (hvy : opv E y = .agg ⟨ys⟩) (fx : fits P ts xs = true) (fy : fits P ts ys = true)
    (hk : wkD P ops anc rest (i + 1) (⟨i, [], [], H.next, H.next⟩ :: fps) (mkA N (upd E d (.bool r)) ds) H Q) : wkD P ops anc (⟨some d, .binOp op t x y u, ty, pos, after, none⟩ :: rest) i fps (mkA N E ds) H Q := by
  refine wd_same ?_ (fun G => ?_) rfl hd hk
  · funext K
    simp only [stepD, pureOp, binD, aeval_opv hx, aeval_opv hy, hvx, hvy, regBin]
  · simp only [aop, xBin, aeval_opv hx, aeval_opv hy, hvx, hvy, Option.bind_eq_bind, Option.bind_some, binV, aBin_agg, af, afA, fits_af fx, fits_af fy, Bool.and_self, if_true, plain_eqS h ha hg fx fy hop, Option.map_some]

theorem w_eqS {op : BinOp} {t u : TypeId} {x y : Operand} {ts : List TypeId} {xs ys : List Value} {r : Bool} {ops : Array Oper} {d : Nat} {ty : TypeId} {pos : String} {after : Array Edge} {rest : List Oper} {Q : Exit → AAct → AHeap → Prop}
    (h : flat P 10000 t = some ts) (ha : aggT P t = some true) (hg : P.eqGuardType P.depth t = false) (hop : eqOp op (eqL xs ys) = some (.bool r)) (hx : opOk P N x = true) (hy : opOk P N y = true) (hd : d < N) (hvx : opv E x = .agg ⟨xs⟩) (hvy : opv E y = .agg ⟨ys⟩) (fx : fits P ts xs = true) (fy : fits P ts ys = true)
    (hk : wpOps P ro ops rest (mkA N (upd E d (.bool r)) ds) H Q) : wpOps P ro ops (⟨some d, .binOp op t x y u, ty, pos, after, none⟩ :: rest) (mkA N E ds) H Q := by
  rw [w_rv (x := some (.bool r)) rfl ?_ hd, valC_some]
  · exact hk
  · simp only [aop, xBin, aeval_opv hx, aeval_opv hy, hvx, hvy, Option.bind_eq_bind, Option.bind_some, binV, aBin_agg, af, afA, fits_af fx, fits_af fy, Bool.and_self, if_true, plain_eqS h ha hg fx fy hop, Option.map_some]
    rfl
end
end Go.Ax

/- Walks over abstract heaps: methods called through interfaces. -/
namespace Go.Ax
section
variable {P : Program} {ro : Option Nat} {H : AHeap}

theorem genV_modE {N : Nat} {E : Env} {ds : List Deferred} {ops : Array Oper} {anc : List Nat} {o : Oper} {vals : List Value} {W : List Nat} {rest : List Oper} {i : Nat} {fps : List Fp} {Q : AAct → AHeap → Prop} {f : FuncId} {v : Value} {g : AHeap}
    (F : List Nat) (hok : H.base ≤ H.next) (hx : ∀ G, aop o.op P (mkA N E ds) G = some (.enter f vals, G)) (hF : ∀ n ∈ F, H.get n ≠ none) (hlt : ∀ n ∈ F, n < H.next) (hW : ∀ n ∈ W, n ∈ F)
    (hc : CallS P f vals (H.restrict F) (.ok v) g) (hmod : Mod W (H.restrict F) g)
    (hm : ∀ r ∈ fps, (anc.getD i 0).testBit r.i = true ∨ (r.hi ≤ r.lo ∧ (∀ n ∈ r.W, n ∉ F) ∧ (∀ n ∈ r.F, n ∉ W)))
    (h : ∀ H' D, Mod W H H' → (∀ n ∈ F, H'.get n = g.get n) → (∀ n, H.next ≤ n → n < g.next → H'.get n = g.get n) → H'.next = g.next → (∀ n ∈ D, n ∈ W) → wkD P ops anc rest (i + 1) (⟨i, F, D, H.next, g.next⟩ :: fps) ((mkA N E ds).put o.dst v) H' Q) :
    genV P ops anc o rest i fps (mkA N E ds) H Q := by
  have hn := restrict_next H F
  have hd : ∀ n ∈ g.dirty, n ∈ W := by
    intro n hg
    rcases hmod.dirty n hg with h | h
    · rw [hn.2.2] at h; cases h
    · exact h.1
  have hle : H.next ≤ g.next := by have := hmod.next; rw [hn.1] at this; exact this
  have hgF : ∀ n ∈ F, (H.merge g).get n = g.get n := by
    intro n hnF
    by_cases hgd : n ∈ g.dirty
    · exact merge_pos H g hle (.inl hgd)
    · rw [merge_neg H g hle]
      · rw [hmod.keep n (by rw [hn.2.1]; exact hlt n hnF) hgd, restrict_get, if_pos hnF]
      · rintro (h' | h')
        · exact hgd h'
        · have := hlt n hnF; omega
  have hmf := merge_facts H g
  refine ⟨F, v, g, ?_, hF, fun n h' => hW n (hd n h'), fun r hr => fpOk_of ?_, ?_⟩
  · exact opS_of (x := .enter f vals) (g := H.restrict F) (hx _) hc
  · rcases hm r hr with h' | ⟨h1, h2, h3⟩
    · exact .inl h'
    · exact .inr ⟨h2, fun n hnr hng => h3 n hnr (hd n hng), fun hlt' => absurd hlt' (by omega)⟩
  · refine h (H.merge g) g.dirty ⟨by rw [hmf.1]; exact hle, hmf.2.1, fun n hnl hnW => ?_, hmf.2.2.1, fun n hnd => ?_, fun n hnb hnd => ?_⟩ hgF (fun n h1 h2 => merge_pos H g hle (.inr ⟨h1, h2⟩)) hmf.1 hd
    · rw [merge_neg H g hle]
      rintro (h' | h')
      · exact hnW (hd n h')
      · omega
    · rcases merge_dirty H g n hnd with h' | h'
      · exact .inl h'
      · exact .inr ⟨hd n h'.1, h'.2⟩
    · by_cases hgd : n ∈ g.dirty
      · exact absurd (hmf.2.2.2 n hgd hnb) hnd
      · rw [merge_neg H g hle]
        rintro (h' | h')
        · exact hgd h'
        · omega

variable {N : Nat} {E : Env} {ds : List Deferred} {ops : Array Oper} {anc : List Nat} {ty : TypeId} {pos : String} {after : Array Edge} {rest : List Oper} {i : Nat} {fps : List Fp}

theorem wd_invoke {Q : AAct → AHeap → Prop} {x : Operand} {name : String} {args : Array Operand} {ts : Array TypeId} {dst : Option Nat} : wkD P ops anc (⟨dst, .call ⟨.invoke x name, args, ts⟩, ty, pos, after, none⟩ :: rest) i fps (mkA N E ds) H Q = genV P ops anc ⟨dst, .call ⟨.invoke x name, args, ts⟩, ty, pos, after, none⟩ rest i fps (mkA N E ds) H Q := by
  simp only [wkD, wantA, stepD, pureOp, restD, newOp, genV]

theorem invoke_enter {x : Operand} {name : String} {args : List Operand} {ts : Array TypeId} {f : FuncId} {vals : List Value} {G : AHeap} (hx : opOk P N x = true) (ha : args.all (opOk P N) = true) (hi : aInvoke P G (.method name) (opv E x :: args.map (opv E)) [] = some (.enter f vals)) :
    aop (.call ⟨.invoke x name, ⟨args⟩, ts⟩) P (mkA N E ds) G = some (.enter f vals, G) := by
  simp only [aop, xCall, aevals_opv ha, aeval_opv hx, Option.bind_eq_bind, Option.bind_some, hi, Option.map_some]

theorem w_invoke {Q : Exit → AAct → AHeap → Prop} {x : Operand} {name : String} {args : List Operand} {ts : Array TypeId} {dst : Option Nat} {f : FuncId} {vals : List Value} (hx : opOk P N x = true) (ha : args.all (opOk P N) = true) (hi : aInvoke P H (.method name) (opv E x :: args.map (opv E)) [] = some (.enter f vals))
    (h : CallA P f vals H (opC P ro ops rest (mkA N E ds) dst Q)) : wpOps P ro ops (⟨dst, .call ⟨.invoke x name, ⟨args⟩, ts⟩, ty, pos, after, none⟩ :: rest) (mkA N E ds) H Q := by
  rw [w_op rfl rfl]
  simp only [opA, invoke_enter hx ha hi, nextA]
  exact h
end
end Go.Ax

/- Walks over abstract heaps: append within a slice's capacity, to nil, of noughts; cap; slices from the begin. -/
namespace Go.Ax
section
variable {P : Program} {H : AHeap}

theorem app_in {st xt e : TypeId} {sz by1 m off k cap n : Nat} {sp : Option Nat} {z x : Value} {new : List Value} (hu : P.underlying st = some (.slice e)) (hsz : szOf P e = some sz) (hby : bytesOf P e = some by1) (hz : zeroOf P e = some z) (hzl : z.cells.toList.length = sz) (hi : intTy P xt = some false)
    (hx : lenV x = some n) (hf : firstC H sz n x = some new) (hl : new.length = n * sz) (hc : k + n ≤ cap) (hsm : small (k + n) by1 = true) :
    aBuiltin P H .append ⟨[st, xt]⟩ [.slice (some ⟨m, off, sp⟩) k cap, x] = (aWrite H m (off + k * sz) new).map fun g => (.slice (some ⟨m, off, sp⟩) (k + n) cap, g) := by
  simp only [aBuiltin, aAppend, hu, hsz, hby, hz, hi, Option.bind_eq_bind, Option.bind_some, hx, hf, hl, hzl, hsm, and_self, if_true, aAppend2, hc]
  cases aWrite H m (off + k * sz) new <;> rfl

theorem app_nn {st xt e : TypeId} {sz by1 : Nat} {z x : Value} (hu : P.underlying st = some (.slice e)) (hsz : szOf P e = some sz) (hby : bytesOf P e = some by1) (hz : zeroOf P e = some z) (hzl : z.cells.toList.length = sz) (hi : intTy P xt = some false)
    (hx : lenV x = some 0) (hf : firstC H sz 0 x = some []) :
    aBuiltin P H .append ⟨[st, xt]⟩ [.slice none 0 0, x] = some (.slice none 0 0, H) := by
  have hsm : small (0 + 0) by1 = true := by simp [small]
  simp only [aBuiltin, aAppend, hu, hsz, hby, hz, hi, Option.bind_eq_bind, Option.bind_some, hx, hf, List.length_nil, Nat.zero_mul, hzl, hsm, and_self, if_true, aAppend2, Nat.le_refl, Nat.zero_add]

theorem app_zero {st xt e : TypeId} {sz by1 n : Nat} {z : Value} (hu : P.underlying st = some (.slice e)) (hsz : szOf P e = some sz) (hby : bytesOf P e = some by1) (hz : zeroOf P e = some z) (hzl : z.cells.toList.length = sz) (hi : intTy P xt = some true)
    (hn : 0 < n) (ho : (zerosL z.cells.toList n).all one = true) (hsm : small n by1 = true) :
    aBuiltin P H .append ⟨[st, xt]⟩ [.slice none 0 0, .int .i64 (n : Int)] = (aNew H e (zerosL z.cells.toList n) true).map fun g => (.slice (some ⟨H.next, 0, none⟩) n n, g) := by
  have h0 : (0 : Int) ≤ (n : Int) := by omega
  simp only [aBuiltin, aAppend, hu, hsz, hby, hz, hi, Option.bind_eq_bind, Option.bind_some, hzl, Int.toNat_natCast, Nat.zero_add, hsm, h0, and_self, if_true, aAppend2]
  rw [if_neg (by omega)]
  simp only [firstC, Option.bind_some, List.length_nil, Nat.zero_mul, List.all_nil, ho, decide_true, Bool.and_self, if_true, List.nil_append]
  cases aNew H e (zerosL z.cells.toList n) true <;> rfl

theorem bt_capN {t e : TypeId} {l c : Nat} (h : P.underlying t = some (.slice e)) : aBuiltin P H .cap ⟨[t]⟩ [.slice none l c] = some (goInt c, H) := by
  simp only [aBuiltin, aCap, h, Option.map_some]

theorem sl_nil {t e : TypeId} {sz l c : Nat} (h : P.underlying t = some (.slice e)) (hs : szOf P e = some sz) : aSlice P H t (.slice none l c) none (some (.int .i64 0)) none = some (.slice none 0 c, H) := by
  simp only [aSlice, h, hs, Option.bind_eq_bind, Option.bind_some, aSlice2, bound, Int.le_refl, if_true, Int.toNat_zero, Nat.zero_le, and_self, Nat.sub_zero]

theorem sl_open {t e : TypeId} {sz n off l c : Nat} {b : Bl} (h : P.underlying t = some (.slice e)) (hs : szOf P e = some sz) (hb : bk H n = some b) (ho : b.o = true) : aSlice P H t (.slice (some ⟨n, off, none⟩) l c) none (some (.int .i64 0)) none = some (.slice (some ⟨n, off, none⟩) 0 c, H) := by
  simp only [aSlice, h, hs, Option.bind_eq_bind, Option.bind_some, aSlice2, bound, Int.le_refl, if_true, Int.toNat_zero, Nat.zero_le, and_self, exactAt, isOpen_bk hb, ho, Option.map_some, Bool.not_true]

theorem zerosL_length {z : List Value} : ∀ n, (zerosL z n).length = n * z.length
  | 0 => by simp [zerosL]
  | n + 1 => by simp only [zerosL, List.length_append, zerosL_length n, Nat.succ_mul]; omega
theorem zerosL_one {z : List Value} (h : z.all one = true) : ∀ n, (zerosL z n).all one = true
  | 0 => rfl
  | n + 1 => by simp only [zerosL, List.all_append, h, zerosL_one h n, Bool.and_self]
theorem zerosL_sc {z : List Value} {N : Nat} (h : scbL N z = true) : ∀ n, scbL N (zerosL z n) = true
  | 0 => rfl
  | n + 1 => scbL_append h (zerosL_sc h n)
theorem zerosL_drop {z : List Value} : ∀ n k, (zerosL z n).drop (k * z.length) = zerosL z (n - k)
  | n, 0 => by simp
  | 0, k + 1 => by simp [zerosL]
  | n + 1, k + 1 => by
    rw [show (k + 1) * z.length = z.length + k * z.length by rw [Nat.succ_mul]; omega, ← List.drop_drop]
    simp only [zerosL, List.drop_left, Nat.reduceSubDiff]
    exact zerosL_drop n k

theorem genV_modO {N : Nat} {E : Env} {ds : List Deferred} {ops : Array Oper} {anc : List Nat} {o : Oper} {W : List Nat} {rest : List Oper} {i : Nat} {fps : List Fp} {Q : AAct → AHeap → Prop} {v : Value} {g : AHeap}
    (F : List Nat) (hok : H.base ≤ H.next) (hF : ∀ n ∈ F, H.get n ≠ none) (hlt : ∀ n ∈ F, n < H.next) (hW : ∀ n ∈ W, n ∈ F)
    (hc : OpS P (mkA N E ds) (H.restrict F) o (.ok v) g) (hmod : Mod W (H.restrict F) g)
    (hm : ∀ r ∈ fps, (anc.getD i 0).testBit r.i = true ∨ (r.hi ≤ r.lo ∧ (∀ n ∈ r.W, n ∉ F) ∧ (∀ n ∈ r.F, n ∉ W)))
    (h : ∀ H' D, Mod W H H' → (∀ n ∈ F, H'.get n = g.get n) → (∀ n, H.next ≤ n → n < g.next → H'.get n = g.get n) → H'.next = g.next → (∀ n ∈ D, n ∈ W) → wkD P ops anc rest (i + 1) (⟨i, F, D, H.next, g.next⟩ :: fps) ((mkA N E ds).put o.dst v) H' Q) :
    genV P ops anc o rest i fps (mkA N E ds) H Q := by
  have hn := restrict_next H F
  have hd : ∀ n ∈ g.dirty, n ∈ W := by
    intro n hg
    rcases hmod.dirty n hg with h | h
    · rw [hn.2.2] at h; cases h
    · exact h.1
  have hle : H.next ≤ g.next := by have := hmod.next; rw [hn.1] at this; exact this
  have hgF : ∀ n ∈ F, (H.merge g).get n = g.get n := by
    intro n hnF
    by_cases hgd : n ∈ g.dirty
    · exact merge_pos H g hle (.inl hgd)
    · rw [merge_neg H g hle]
      · rw [hmod.keep n (by rw [hn.2.1]; exact hlt n hnF) hgd, restrict_get, if_pos hnF]
      · rintro (h' | h')
        · exact hgd h'
        · have := hlt n hnF; omega
  have hmf := merge_facts H g
  refine ⟨F, v, g, ?_, hF, fun n h' => hW n (hd n h'), fun r hr => fpOk_of ?_, ?_⟩
  · exact hc
  · rcases hm r hr with h' | ⟨h1, h2, h3⟩
    · exact .inl h'
    · exact .inr ⟨h2, fun n hnr hng => h3 n hnr (hd n hng), fun hlt' => absurd hlt' (by omega)⟩
  · refine h (H.merge g) g.dirty ⟨by rw [hmf.1]; exact hle, hmf.2.1, fun n hnl hnW => ?_, hmf.2.2.1, fun n hnd => ?_, fun n hnb hnd => ?_⟩ hgF (fun n h1 h2 => merge_pos H g hle (.inr ⟨h1, h2⟩)) hmf.1 hd
    · rw [merge_neg H g hle]
      rintro (h' | h')
      · exact hnW (hd n h')
      · omega
    · rcases merge_dirty H g n hnd with h' | h'
      · exact .inl h'
      · exact .inr ⟨hd n h'.1, h'.2⟩
    · by_cases hgd : n ∈ g.dirty
      · exact absurd (hmf.2.2.2 n hgd hnb) hnd
      · rw [merge_neg H g hle]
        rintro (h' | h')
        · exact hgd h'
        · omega

theorem wd_app {N : Nat} {E : Env} {ds : List Deferred} {ops : Array Oper} {anc : List Nat} {ty : TypeId} {pos : String} {after : Array Edge} {rest : List Oper} {i : Nat} {fps : List Fp} {Q : AAct → AHeap → Prop} {args : List Operand} {ts : Array TypeId} {dst : Option Nat} (ha : args.all (opOk P N) = true) : wkD P ops anc (⟨dst, .call ⟨.builtin .append, ⟨args⟩, ts⟩, ty, pos, after, none⟩ :: rest) i fps (mkA N E ds) H Q = genV P ops anc ⟨dst, .call ⟨.builtin .append, ⟨args⟩, ts⟩, ty, pos, after, none⟩ rest i fps (mkA N E ds) H Q := by
  simp only [wkD, wantA, stepD, pureOp, restD, newOp, genV, aevals_opv ha, btD, regBt]

theorem app_op {N : Nat} {E : Env} {ds : List Deferred} {ty : TypeId} {pos : String} {after : Array Edge} {args : List Operand} {ts : Array TypeId} {dst : Option Nat} {v : Value} {G : AHeap} (ha : args.all (opOk P N) = true) (h : aBuiltin P H .append ts (args.map (opv E)) = some (v, G)) : OpS P (mkA N E ds) H ⟨dst, .call ⟨.builtin .append, ⟨args⟩, ts⟩, ty, pos, after, none⟩ (.ok v) G :=
  opS_of (x := .value v) (g := G) (by simp only [aop, xCall, aevals_opv ha, Option.bind_eq_bind, Option.bind_some, h, rvh, Option.map_some]) ⟨rfl, rfl⟩

theorem genV_extO {N : Nat} {E : Env} {ds : List Deferred} {ops : Array Oper} {anc : List Nat} {o : Oper} {d : Nat} {rest : List Oper} {i : Nat} {fps : List Fp} {Q : AAct → AHeap → Prop} {v : Value} {M : List Bl} (F : List Nat) (hdst : o.dst = some d) (hd : d < N) (hF : ∀ n ∈ F, H.get n ≠ none)
    (hc : ∀ G : AHeap, G.next = H.next → (∀ n ∈ F, G.get n = H.get n) → OpS P (mkA N E ds) G o (.ok v) (ext G M)) (hm : ∀ r ∈ fps, Meets (anc.getD i 0) F [] (idsV v ++ M.flatMap fun x => idsL x.l) r)
    (h : wkD P ops anc rest (i + 1) (⟨i, F, [], H.next, H.next + M.length⟩ :: fps) (mkA N (upd E d v) ds) (ext H M) Q) : genV P ops anc o rest i fps (mkA N E ds) H Q := by
  have hn := restrict_next H F
  have hd' : (ext (H.restrict F) M).dirty = [] := by rw [ext_dirty, hn.2.2]
  have hnx : (ext (H.restrict F) M).next = H.next + M.length := by rw [ext_next, hn.1]
  have hget : ∀ j, j < M.length → (ext (H.restrict F) M).get (H.next + j) = M[j]?.map Bl.obj := by
    intro j hj
    rw [← hn.1]
    exact ext_get_new hj
  have hmn : ∀ (M : List Bl) (K g : AHeap) (m : Nat), K.next = m → (∀ j, j < M.length → g.get (m + j) = M[j]?.map Bl.obj) → ∀ h', h' = AHeap.mergeN K g m M.length → (⟨h'.root, m + M.length, h'.base, h'.dirty⟩ : AHeap) = ext K M := by
    intro M
    induction M with
    | nil => intro K g m hK _ h' hh; subst hK; subst hh; rfl
    | cons x M ih =>
      intro K g m hK hg h' hh
      have h0 := hg 0 (by simp)
      simp only [Nat.add_zero, List.getElem?_cons_zero, Option.map_some] at h0
      rw [List.length_cons] at hh
      simp only [AHeap.mergeN, h0] at hh
      have := ih (nw K x.e x.l x.o) g (m + 1) (by rw [nw_next, hK]) (fun j hj => by
        have := hg (j + 1) (by simpa using hj)
        simp only [List.getElem?_cons_succ] at this
        rw [show m + 1 + j = m + (j + 1) by omega]
        exact this) (AHeap.mergeN (nw K x.e x.l x.o) g (m + 1) M.length) rfl
      have key : ∀ (A B : AHeap) (n k : Nat), A.root = B.root → A.base = B.base → A.dirty = B.dirty → (AHeap.mergeN A g n k).root = (AHeap.mergeN B g n k).root ∧ (AHeap.mergeN A g n k).base = (AHeap.mergeN B g n k).base ∧ (AHeap.mergeN A g n k).dirty = (AHeap.mergeN B g n k).dirty := by
        intro A B n k
        induction k generalizing A B n with
        | zero => exact fun h1 h2 h3 => ⟨h1, h2, h3⟩
        | succ k ihk =>
          intro h1 h2 h3
          simp only [AHeap.mergeN]
          exact ihk _ _ _ (by simp only [AHeap.put, h1]) h2 h3
      have k2 := key (nw K x.e x.l x.o) (K.put m (some x.obj)) (m + 1) M.length (by simp only [nw, AHeap.new, AHeap.put, hK, Bl.obj]) rfl rfl
      rw [ext, ← this, hh, k2.1, k2.2.1, k2.2.2, List.length_cons, show m + (M.length + 1) = m + 1 + M.length by omega]
  have hmg : H.merge (ext (H.restrict F) M) = ext H M := by
    unfold AHeap.merge
    rw [hd', hnx, Nat.add_sub_cancel_left]
    simp only [AHeap.mergeW]
    exact hmn M H _ H.next rfl hget _ rfl
  refine ⟨F, v, ext (H.restrict F) M, ?_, hF, (by rw [hd']; simp), fun r hr => fpOk_of ?_, ?_⟩
  · exact hc _ hn.1 (fun n hn' => by rw [restrict_get, if_pos hn'])
  · have hids : ∀ (k s : Nat), s + k = M.length → (rangeFrom (H.next + s) k).flatMap (idsAt (ext (H.restrict F) M)) = (M.drop s).flatMap fun x => idsL x.l := by
      intro k
      induction k with
      | zero => intro s hs; rw [rangeFrom, List.drop_eq_nil_of_le (by omega)]; rfl
      | succ k ih =>
        intro s hs
        have hlt : s < M.length := by omega
        rw [rangeFrom, List.flatMap_cons, List.drop_eq_getElem_cons hlt, List.flatMap_cons]
        have := ih (s + 1) (by omega)
        rw [show H.next + (s + 1) = H.next + s + 1 by omega] at this
        rw [this]
        congr 1
        simp only [idsAt, hget s hlt, List.getElem?_eq_getElem hlt, Option.map_some, Bl.obj, idsO, RV.n_ofList, RV.gets_ofList]
    have := hids M.length 0 (by omega)
    simp only [Nat.add_zero, List.drop_zero] at this
    rw [hd']
    simp only [outIds, hd', hnx, Nat.add_sub_cancel_left, List.nil_append, this]
    exact hm r hr
  · rw [hmg, hd', hnx]
    simp only [hdst, put_some N E ds d v hd]
    exact h

theorem putL_at : ∀ (pre old new : List Value), new.length ≤ old.length → putL (pre ++ old) pre.length new = pre ++ (new ++ old.drop new.length)
  | [], old, new, h => by
    simp only [List.nil_append, List.length_nil]
    induction new generalizing old with
    | nil => cases old <;> rfl
    | cons y ys ih =>
      cases old with
      | nil => simp at h
      | cons x xs =>
        simp only [List.length_cons, Nat.add_le_add_iff_right] at h
        simp only [putL, ih xs h, List.length_cons, List.drop_succ_cons, List.cons_append]
  | p :: pre, old, new, h => by
    simp only [List.cons_append, List.length_cons, putL, putL_at pre old new h]

end
section
variable {P : Program} {ro : Option Nat} {H : AHeap} {N : Nat} {E : Env} {ds : List Deferred}
variable {ops : Array Oper} {anc : List Nat} {d : Nat} {ty : TypeId} {pos : String} {after : Array Edge} {rest : List Oper} {i : Nat} {fps : List Fp} {Q : AAct → AHeap → Prop}
theorem wd_not {x : Operand} {t : TypeId} (hx : opOk P N x = true) (hd : d < N) (h : (notV (opv E x)).isSome = true) : wkD P ops anc (⟨some d, .unOp .not t x, ty, pos, after, none⟩ :: rest) i fps (mkA N E ds) H Q = valD P ops anc rest i fps N E ds d H Q (notV (opv E x)) :=
  wd_rv rfl (by
    simp only [aop, xUn, aeval_opv hx, Option.bind_eq_bind, Option.bind_some]
    cases hv : opv E x with
    | bool b => rfl
    | _ => rw [hv] at h; cases h) hd
theorem guardC_un {N : Nat} {E : Env} {ds : List Deferred} {ro : Option Nat} {ops : Array Oper} {o : Oper} {rest : List Oper} {Q : Exit → AAct → AHeap → Prop} {want : Bool} : guardC P ro ops o rest N E ds H Q want undef = wpOps P ro ops rest ((mkA N E ds).put o.dst undef) H Q := by simp only [guardC, undef]
theorem guardV_un {N : Nat} {E : Env} {ds : List Deferred} {ops : Array Oper} {anc : List Nat} {o : Oper} {rest : List Oper} {i : Nat} {fps : List Fp} {Q : AAct → AHeap → Prop} {want : Bool} : guardV P ops anc o rest i fps N E ds H Q want undef = wkD P ops anc rest (i + 1) fps ((mkA N E ds).put o.dst undef) H Q := by simp only [guardV, undef]

end
end Go.Ax

/- The lists of rewriting rules, by a program of ours (wip/tools/lists.py). -/
namespace Go.Ax
theorem m_bind_some {α β : Type} (a : α) (f : α → Option β) : (some a).bind f = f a := rfl
theorem m_map_some {α β : Type} (a : α) (f : α → β) : (some a).map f = some (f a) := rfl
theorem m_map_cons {α β : Type} (f : α → β) (a : α) (l : List α) : (a :: l).map f = f a :: l.map f := rfl
theorem m_map_nil {α β : Type} (f : α → β) : ([] : List α).map f = [] := rfl
theorem m_getElem_cons_zero {α : Type} (a : α) (l : List α) : (a :: l)[0]? = some a := rfl
theorem m_getElem_cons_succ {α : Type} (a : α) (l : List α) (i : Nat) : (a :: l)[i + 1]? = l[i]? := List.getElem?_cons_succ
theorem m_ne_eq {α : Type} (a b : α) : (a ≠ b) = ¬ a = b := rfl
theorem m_not_false_eq_true : (¬ False) = True := not_false_eq_true
theorem m_not_false : (!false) = true := rfl
theorem m_not_true : (!true) = false := rfl
theorem m_length_cons {α : Type} (a : α) (l : List α) : (a :: l).length = l.length + 1 := rfl
theorem m_length_nil {α : Type} : ([] : List α).length = 0 := rfl
theorem m_set_cons_zero {α : Type} (a b : α) (l : List α) : (a :: l).set 0 b = b :: l := rfl
theorem m_set_cons_succ {α : Type} (a b : α) (l : List α) (i : Nat) : (a :: l).set (i + 1) b = a :: l.set i b := rfl
theorem m_nil_append {α : Type} (l : List α) : [] ++ l = l := rfl
theorem m_cons_append {α : Type} (a : α) (l m : List α) : (a :: l) ++ m = a :: (l ++ m) := rfl
theorem m_drop_succ_cons {α : Type} (a : α) (l : List α) (i : Nat) : (a :: l).drop (i + 1) = l.drop i := rfl
theorem m_drop_zero {α : Type} (l : List α) : l.drop 0 = l := rfl
theorem m_take_succ_cons {α : Type} (a : α) (l : List α) (i : Nat) : (a :: l).take (i + 1) = a :: l.take i := rfl
theorem m_take_zero {α : Type} (l : List α) : l.take 0 = [] := List.take_zero
theorem m_if_true {α : Type} (a b : α) : (if True then a else b) = a := if_true a b
theorem m_true_and (p : Prop) : (True ∧ p) = p := true_and p
theorem m_and_true (p : Prop) : (p ∧ True) = p := and_true p
theorem m_or_true (p : Prop) : (p ∨ True) = True := or_true p
theorem m_true_or (p : Prop) : (True ∨ p) = True := true_or p
theorem m_and_self (p : Prop) : (p ∧ p) = p := and_self p
theorem m_implies_true (p : Prop) : (p → True) = True := eq_true fun _ => trivial
theorem m_false_implies (p : Prop) : (False → p) = True := eq_true fun h => h.elim
theorem m_true_implies (p : Prop) : (True → p) = p := propext ⟨fun h => h trivial, fun h _ => h⟩
theorem m_all_true {α : Type} : (α → True) = True := eq_true fun _ => trivial
theorem m_not_true_eq_false : (¬ True) = False := not_true_eq_false
theorem ruU : type_of% (And.intro (And.intro (And.intro (And.intro (And.intro (@upd_same) (@upd_ne)) (And.intro (@ok_tmp) (@ok_int))) (And.intro (And.intro (@ok_bool) (@ok_string)) (And.intro (@ok_nilptr) (@ok_nilslice)))) (And.intro (And.intro (And.intro (@ok_niliface) (@ok_nilmap)) (And.intro (@ok_nilfunc) (@ok_func))) (And.intro (And.intro (@opv_const) (@opv_tmp)) (And.intro (@opv_func) (And.intro (@opv_global) (@all_nil)))))) (And.intro (And.intro (And.intro (And.intro (@all_cons) (@and_tt)) (And.intro (@pok_nil) (@pok_cons))) (And.intro (And.intro (@pmap_nil) (@pmap_cons)) (And.intro (@pairs_ok) (@isSome_some)))) (And.intro (And.intro (And.intro (@m_bind_some) (@m_map_cons)) (And.intro (@m_map_nil) (@m_getElem_cons_zero))) (And.intro (And.intro (@m_getElem_cons_succ) (@m_ne_eq)) (And.intro (@m_not_false_eq_true) (And.intro (@m_not_false) (@m_not_true))))))) :=
  And.intro (And.intro (And.intro (And.intro (And.intro (@upd_same) (@upd_ne)) (And.intro (@ok_tmp) (@ok_int))) (And.intro (And.intro (@ok_bool) (@ok_string)) (And.intro (@ok_nilptr) (@ok_nilslice)))) (And.intro (And.intro (And.intro (@ok_niliface) (@ok_nilmap)) (And.intro (@ok_nilfunc) (@ok_func))) (And.intro (And.intro (@opv_const) (@opv_tmp)) (And.intro (@opv_func) (And.intro (@opv_global) (@all_nil)))))) (And.intro (And.intro (And.intro (And.intro (@all_cons) (@and_tt)) (And.intro (@pok_nil) (@pok_cons))) (And.intro (And.intro (@pmap_nil) (@pmap_cons)) (And.intro (@pairs_ok) (@isSome_some)))) (And.intro (And.intro (And.intro (@m_bind_some) (@m_map_cons)) (And.intro (@m_map_nil) (@m_getElem_cons_zero))) (And.intro (And.intro (@m_getElem_cons_succ) (@m_ne_eq)) (And.intro (@m_not_false_eq_true) (And.intro (@m_not_false) (@m_not_true))))))
theorem ruW : type_of% (And.intro (And.intro (And.intro (And.intro (And.intro (And.intro (And.intro (@w_gd) (@gdC_some)) (And.intro (@guardC_true) (And.intro (@guardC_ff) (@guardC_tt)))) (And.intro (And.intro (@guardC_un) (@put_at)) (And.intro (@dst_list) (And.intro (@w_seq) (@w_region))))) (And.intro (And.intro (And.intro (@w_move) (@w_assign)) (And.intro (@w_nil) (And.intro (@w_cond) (@w_ret)))) (And.intro (And.intro (@w_skip) (And.intro (@w_exit) (@w_block))) (And.intro (@w_typeAssert) (And.intro (@w_extract) (@w_not)))))) (And.intro (And.intro (And.intro (And.intro (@w_neg) (@w_build)) (And.intro (@w_call) (And.intro (@w_builtin) (@w_bin)))) (And.intro (And.intro (@w_nilCheck) (And.intro (@w_fieldAddr) (@w_field))) (And.intro (@w_indexAddr) (And.intro (@w_index) (@w_load))))) (And.intro (And.intro (And.intro (@w_store) (@w_box)) (And.intro (@w_alloc) (And.intro (@w_buildSlice) (@w_makeSlice)))) (And.intro (And.intro (@w_slice) (And.intro (@bnds_none) (@bnds_some))) (And.intro (@bndsOk_none) (And.intro (@bndsOk_some) (@w_pick))))))) (And.intro (And.intro (And.intro (And.intro (And.intro (@w_iface) (@w_func)) (And.intro (@valC_some) (And.intro (@heapC_some) (@heapC_skip)))) (And.intro (And.intro (@storeC_some) (@seqC_normal)) (And.intro (@seqC_ret) (And.intro (@seqC_exit) (@blockC_normal))))) (And.intro (And.intro (And.intro (@blockC_ret) (@blockC_exit)) (And.intro (@loopC_exit) (And.intro (@loopC_ret) (@condC_true)))) (And.intro (And.intro (@condC_false) (And.intro (@endA_ret) (@endA_normal))) (And.intro (@opC_ok) (And.intro (@opC_skip) (@exV_tuple)))))) (And.intro (And.intro (And.intro (And.intro (@notV_bool) (@negV_int)) (And.intro (@nilW_ptr) (And.intro (@pickV_true) (@pickV_false)))) (And.intro (And.intro (@bin_add) (And.intro (@bin_sub) (@bin_mul))) (And.intro (@bin_quo) (And.intro (@bin_rem) (@bin_eql))))) (And.intro (And.intro (And.intro (@bin_neq) (@bin_lss)) (And.intro (@bin_leq) (And.intro (@bin_gtr) (@bin_geq)))) (And.intro (And.intro (@bin_eqb) (And.intro (@bin_neb) (@bt_max))) (And.intro (@bt_min) (And.intro (@bt_lenS) (@lenS_slice)))))))) (And.intro (And.intro (And.intro (And.intro (And.intro (And.intro (@lenR_slice) (@go_int)) (And.intro (@new_nw) (And.intro (@ext_append) (@ext_next)))) (And.intro (And.intro (@ext_base) (@load_bk)) (And.intro (@bk_at) (And.intro (@bk_old) (@ld_one))))) (And.intro (And.intro (And.intro (@ld_agg) (@store_new)) (And.intro (@store_old) (And.intro (@stB_ok) (@uw_next)))) (And.intro (And.intro (@uw_base) (And.intro (@bk_uw_ne) (@bk_uw_eq))) (And.intro (@putB_eq) (And.intro (@allocV_some) (@new_ext)))))) (And.intro (And.intro (And.intro (And.intro (@m_map_some) (@cells_int)) (And.intro (@cells_bool) (And.intro (@cells_ptr) (@cells_slice)))) (And.intro (And.intro (@cells_iface) (And.intro (@cells_niliface) (@cells_string))) (And.intro (@cells_func) (And.intro (@cells_nilfunc) (@cells_agg))))) (And.intro (And.intro (And.intro (@allOne_nil) (@allOne_cons)) (And.intro (@one_int) (And.intro (@one_bool) (@one_ptr)))) (And.intro (And.intro (@one_slice) (And.intro (@one_iface) (@one_niliface))) (And.intro (@one_string) (And.intro (@one_func) (@one_nilfunc))))))) (And.intro (And.intro (And.intro (And.intro (And.intro (@sc_nil) (@sc_cons)) (And.intro (@sc_int) (And.intro (@sc_bool) (@sc_string)))) (And.intro (And.intro (@sc_nilptr) (@sc_nilslice)) (And.intro (@sc_niliface) (And.intro (@sc_nilfunc) (@sc_iface))))) (And.intro (And.intro (And.intro (@sc_agg) (@sc_tuple)) (And.intro (@sc_func) (And.intro (@sc_yield) (@sc_ptr)))) (And.intro (And.intro (@sc_slice) (And.intro (@sc_add) (@sc_addL))) (And.intro (@lt_new) (And.intro (@lt_old) (@ne_new)))))) (And.intro (And.intro (And.intro (And.intro (@ne_old) (@ne_old')) (And.intro (@add_add) (And.intro (@m_length_cons) (@m_length_nil)))) (And.intro (And.intro (@m_set_cons_zero) (And.intro (@m_set_cons_succ) (@m_nil_append))) (And.intro (@m_cons_append) (And.intro (@m_drop_succ_cons) (@m_drop_zero))))) (And.intro (And.intro (And.intro (@m_take_succ_cons) (@m_take_zero)) (And.intro (@m_if_true) (And.intro (@lv_nil) (@leaveO_some)))) (And.intro (And.intro (@rs_nil) (And.intro (@rs_tmp) (@rs_cell))) (And.intro (@tup_nil) (And.intro (@tup_one) (@tup_two))))))))) :=
  And.intro (And.intro (And.intro (And.intro (And.intro (And.intro (And.intro (@w_gd) (@gdC_some)) (And.intro (@guardC_true) (And.intro (@guardC_ff) (@guardC_tt)))) (And.intro (And.intro (@guardC_un) (@put_at)) (And.intro (@dst_list) (And.intro (@w_seq) (@w_region))))) (And.intro (And.intro (And.intro (@w_move) (@w_assign)) (And.intro (@w_nil) (And.intro (@w_cond) (@w_ret)))) (And.intro (And.intro (@w_skip) (And.intro (@w_exit) (@w_block))) (And.intro (@w_typeAssert) (And.intro (@w_extract) (@w_not)))))) (And.intro (And.intro (And.intro (And.intro (@w_neg) (@w_build)) (And.intro (@w_call) (And.intro (@w_builtin) (@w_bin)))) (And.intro (And.intro (@w_nilCheck) (And.intro (@w_fieldAddr) (@w_field))) (And.intro (@w_indexAddr) (And.intro (@w_index) (@w_load))))) (And.intro (And.intro (And.intro (@w_store) (@w_box)) (And.intro (@w_alloc) (And.intro (@w_buildSlice) (@w_makeSlice)))) (And.intro (And.intro (@w_slice) (And.intro (@bnds_none) (@bnds_some))) (And.intro (@bndsOk_none) (And.intro (@bndsOk_some) (@w_pick))))))) (And.intro (And.intro (And.intro (And.intro (And.intro (@w_iface) (@w_func)) (And.intro (@valC_some) (And.intro (@heapC_some) (@heapC_skip)))) (And.intro (And.intro (@storeC_some) (@seqC_normal)) (And.intro (@seqC_ret) (And.intro (@seqC_exit) (@blockC_normal))))) (And.intro (And.intro (And.intro (@blockC_ret) (@blockC_exit)) (And.intro (@loopC_exit) (And.intro (@loopC_ret) (@condC_true)))) (And.intro (And.intro (@condC_false) (And.intro (@endA_ret) (@endA_normal))) (And.intro (@opC_ok) (And.intro (@opC_skip) (@exV_tuple)))))) (And.intro (And.intro (And.intro (And.intro (@notV_bool) (@negV_int)) (And.intro (@nilW_ptr) (And.intro (@pickV_true) (@pickV_false)))) (And.intro (And.intro (@bin_add) (And.intro (@bin_sub) (@bin_mul))) (And.intro (@bin_quo) (And.intro (@bin_rem) (@bin_eql))))) (And.intro (And.intro (And.intro (@bin_neq) (@bin_lss)) (And.intro (@bin_leq) (And.intro (@bin_gtr) (@bin_geq)))) (And.intro (And.intro (@bin_eqb) (And.intro (@bin_neb) (@bt_max))) (And.intro (@bt_min) (And.intro (@bt_lenS) (@lenS_slice)))))))) (And.intro (And.intro (And.intro (And.intro (And.intro (And.intro (@lenR_slice) (@go_int)) (And.intro (@new_nw) (And.intro (@ext_append) (@ext_next)))) (And.intro (And.intro (@ext_base) (@load_bk)) (And.intro (@bk_at) (And.intro (@bk_old) (@ld_one))))) (And.intro (And.intro (And.intro (@ld_agg) (@store_new)) (And.intro (@store_old) (And.intro (@stB_ok) (@uw_next)))) (And.intro (And.intro (@uw_base) (And.intro (@bk_uw_ne) (@bk_uw_eq))) (And.intro (@putB_eq) (And.intro (@allocV_some) (@new_ext)))))) (And.intro (And.intro (And.intro (And.intro (@m_map_some) (@cells_int)) (And.intro (@cells_bool) (And.intro (@cells_ptr) (@cells_slice)))) (And.intro (And.intro (@cells_iface) (And.intro (@cells_niliface) (@cells_string))) (And.intro (@cells_func) (And.intro (@cells_nilfunc) (@cells_agg))))) (And.intro (And.intro (And.intro (@allOne_nil) (@allOne_cons)) (And.intro (@one_int) (And.intro (@one_bool) (@one_ptr)))) (And.intro (And.intro (@one_slice) (And.intro (@one_iface) (@one_niliface))) (And.intro (@one_string) (And.intro (@one_func) (@one_nilfunc))))))) (And.intro (And.intro (And.intro (And.intro (And.intro (@sc_nil) (@sc_cons)) (And.intro (@sc_int) (And.intro (@sc_bool) (@sc_string)))) (And.intro (And.intro (@sc_nilptr) (@sc_nilslice)) (And.intro (@sc_niliface) (And.intro (@sc_nilfunc) (@sc_iface))))) (And.intro (And.intro (And.intro (@sc_agg) (@sc_tuple)) (And.intro (@sc_func) (And.intro (@sc_yield) (@sc_ptr)))) (And.intro (And.intro (@sc_slice) (And.intro (@sc_add) (@sc_addL))) (And.intro (@lt_new) (And.intro (@lt_old) (@ne_new)))))) (And.intro (And.intro (And.intro (And.intro (@ne_old) (@ne_old')) (And.intro (@add_add) (And.intro (@m_length_cons) (@m_length_nil)))) (And.intro (And.intro (@m_set_cons_zero) (And.intro (@m_set_cons_succ) (@m_nil_append))) (And.intro (@m_cons_append) (And.intro (@m_drop_succ_cons) (@m_drop_zero))))) (And.intro (And.intro (And.intro (@m_take_succ_cons) (@m_take_zero)) (And.intro (@m_if_true) (And.intro (@lv_nil) (@leaveO_some)))) (And.intro (And.intro (@rs_nil) (And.intro (@rs_tmp) (@rs_cell))) (And.intro (@tup_nil) (And.intro (@tup_one) (@tup_two))))))))
theorem ruD : type_of% (And.intro (And.intro (And.intro (And.intro (And.intro (And.intro (@wd_store) (@storeV_some)) (And.intro (@wd_alloc) (And.intro (@wd_box) (@wd_buildSlice)))) (And.intro (And.intro (@newV_some) (And.intro (@wd_builtin) (@rb_max))) (And.intro (@rb_min) (And.intro (@rb_lenS) (@wd_gd))))) (And.intro (And.intro (And.intro (@gdV_some) (@guardV_true)) (And.intro (@guardV_ff) (And.intro (@guardV_tt) (@guardV_un)))) (And.intro (And.intro (@wd_move) (And.intro (@wd_assign) (@wd_nil))) (And.intro (@wd_not) (And.intro (@wd_nilCheck) (@wd_fieldAddr)))))) (And.intro (And.intro (And.intro (And.intro (@wd_field) (@wd_indexAddr)) (And.intro (@wd_load) (And.intro (@wd_call) (@wd_typeAssert)))) (And.intro (And.intro (@wd_extract) (And.intro (@wd_build) (@wd_pick))) (And.intro (@wd_iface) (And.intro (@wd_bin) (@reg_add))))) (And.intro (And.intro (And.intro (@reg_sub) (@reg_mul)) (And.intro (@reg_quo) (And.intro (@reg_rem) (@reg_lss)))) (And.intro (And.intro (@reg_leq) (And.intro (@reg_gtr) (@reg_geq))) (And.intro (@reg_eql) (And.intro (@reg_neq) (@reg_eqb))))))) (And.intro (And.intro (And.intro (And.intro (And.intro (@reg_neb) (@valD_some)) (And.intro (@loadV_some) (And.intro (@plainPtr_eq) (@ptrB_eq)))) (And.intro (And.intro (@wd_index) (And.intro (@idsOk_nil) (@idsOk_quiet))) (And.intro (@idsOk_empty) (And.intro (@ids_int) (@ids_bool))))) (And.intro (And.intro (And.intro (@ids_func) (@ids_nil)) (And.intro (@ids_ptr) (And.intro (@meets_nil) (@meets_quiet)))) (And.intro (And.intro (@m_true_and) (And.intro (@idsOk_anc) (@idsOk_new))) (And.intro (@m_false_implies) (And.intro (@m_true_implies) (@meets_anc)))))) (And.intro (And.intro (And.intro (And.intro (@meets_bit) (@meets_cons)) (And.intro (@meets_eq) (And.intro (@meets_newer) (@ids_at)))) (And.intro (And.intro (@idsB_eq) (And.intro (@ids_iface) (@ids_agg))) (And.intro (@idsL_nil) (And.intro (@idsL_cons) (@le_new))))) (And.intro (And.intro (And.intro (@all2_nil) (And.intro (@all2_cons) (@nmem_one))) (And.intro (@nmem_nil) (And.intro (@nmem_cons) (@m_not_true_eq_false)))) (And.intro (And.intro (@m_implies_true) (And.intro (@m_and_true) (@m_or_true))) (And.intro (@m_true_or) (And.intro (@m_and_self) (@m_all_true)))))))) :=
  And.intro (And.intro (And.intro (And.intro (And.intro (And.intro (@wd_store) (@storeV_some)) (And.intro (@wd_alloc) (And.intro (@wd_box) (@wd_buildSlice)))) (And.intro (And.intro (@newV_some) (And.intro (@wd_builtin) (@rb_max))) (And.intro (@rb_min) (And.intro (@rb_lenS) (@wd_gd))))) (And.intro (And.intro (And.intro (@gdV_some) (@guardV_true)) (And.intro (@guardV_ff) (And.intro (@guardV_tt) (@guardV_un)))) (And.intro (And.intro (@wd_move) (And.intro (@wd_assign) (@wd_nil))) (And.intro (@wd_not) (And.intro (@wd_nilCheck) (@wd_fieldAddr)))))) (And.intro (And.intro (And.intro (And.intro (@wd_field) (@wd_indexAddr)) (And.intro (@wd_load) (And.intro (@wd_call) (@wd_typeAssert)))) (And.intro (And.intro (@wd_extract) (And.intro (@wd_build) (@wd_pick))) (And.intro (@wd_iface) (And.intro (@wd_bin) (@reg_add))))) (And.intro (And.intro (And.intro (@reg_sub) (@reg_mul)) (And.intro (@reg_quo) (And.intro (@reg_rem) (@reg_lss)))) (And.intro (And.intro (@reg_leq) (And.intro (@reg_gtr) (@reg_geq))) (And.intro (@reg_eql) (And.intro (@reg_neq) (@reg_eqb))))))) (And.intro (And.intro (And.intro (And.intro (And.intro (@reg_neb) (@valD_some)) (And.intro (@loadV_some) (And.intro (@plainPtr_eq) (@ptrB_eq)))) (And.intro (And.intro (@wd_index) (And.intro (@idsOk_nil) (@idsOk_quiet))) (And.intro (@idsOk_empty) (And.intro (@ids_int) (@ids_bool))))) (And.intro (And.intro (And.intro (@ids_func) (@ids_nil)) (And.intro (@ids_ptr) (And.intro (@meets_nil) (@meets_quiet)))) (And.intro (And.intro (@m_true_and) (And.intro (@idsOk_anc) (@idsOk_new))) (And.intro (@m_false_implies) (And.intro (@m_true_implies) (@meets_anc)))))) (And.intro (And.intro (And.intro (And.intro (@meets_bit) (@meets_cons)) (And.intro (@meets_eq) (And.intro (@meets_newer) (@ids_at)))) (And.intro (And.intro (@idsB_eq) (And.intro (@ids_iface) (@ids_agg))) (And.intro (@idsL_nil) (And.intro (@idsL_cons) (@le_new))))) (And.intro (And.intro (And.intro (@all2_nil) (And.intro (@all2_cons) (@nmem_one))) (And.intro (@nmem_nil) (And.intro (@nmem_cons) (@m_not_true_eq_false)))) (And.intro (And.intro (@m_implies_true) (And.intro (@m_and_true) (@m_or_true))) (And.intro (@m_true_or) (And.intro (@m_and_self) (@m_all_true)))))))
end Go.Ax

/- Facts about the types and the functions of the program, by a program of ours (wip/tools/facts.py). -/
namespace Go.Proofs.YtpohjcacnkhnkaaDoor
open Go.Ax
set_option maxRecDepth 100000

theorem xU4 : Tryd.prog.underlying 4 = some .bool := by kernel_rfl
theorem mixed : Tryd.prog.follows .mixedOrders = true := by kernel_rfl

theorem xFA :
    (∀ n off : Nat, aFieldAddr Tryd.prog 35 (.pointer (some ⟨n, off, none⟩)) 0 = some (.pointer (some ⟨n, off, none⟩))) ∧
    (∀ n off : Nat, aFieldAddr Tryd.prog 35 (.pointer (some ⟨n, off, none⟩)) 1 = some (.pointer (some ⟨n, off + 1, none⟩))) ∧
    (∀ n off : Nat, aFieldAddr Tryd.prog 35 (.pointer (some ⟨n, off, none⟩)) 2 = some (.pointer (some ⟨n, off + 2, none⟩))) ∧
    (∀ n off : Nat, aFieldAddr Tryd.prog 39 (.pointer (some ⟨n, off, none⟩)) 0 = some (.pointer (some ⟨n, off, none⟩))) ∧
    (∀ n off : Nat, aFieldAddr Tryd.prog 39 (.pointer (some ⟨n, off, none⟩)) 1 = some (.pointer (some ⟨n, off + 1, none⟩))) ∧
    (∀ n off : Nat, aFieldAddr Tryd.prog 39 (.pointer (some ⟨n, off, none⟩)) 2 = some (.pointer (some ⟨n, off + 2, none⟩))) ∧
    (∀ n off : Nat, aFieldAddr Tryd.prog 39 (.pointer (some ⟨n, off, none⟩)) 3 = some (.pointer (some ⟨n, off + 3, none⟩))) ∧
    (∀ n off : Nat, aFieldAddr Tryd.prog 39 (.pointer (some ⟨n, off, none⟩)) 4 = some (.pointer (some ⟨n, off + 4, none⟩))) ∧
    (∀ n off : Nat, aFieldAddr Tryd.prog 47 (.pointer (some ⟨n, off, none⟩)) 0 = some (.pointer (some ⟨n, off, none⟩))) ∧
    (∀ n off : Nat, aFieldAddr Tryd.prog 47 (.pointer (some ⟨n, off, none⟩)) 1 = some (.pointer (some ⟨n, off + 1, none⟩))) ∧
    (∀ n off : Nat, aFieldAddr Tryd.prog 47 (.pointer (some ⟨n, off, none⟩)) 2 = some (.pointer (some ⟨n, off + 2, none⟩))) ∧
    (∀ n off : Nat, aFieldAddr Tryd.prog 49 (.pointer (some ⟨n, off, none⟩)) 0 = some (.pointer (some ⟨n, off, none⟩))) ∧
    (∀ n off : Nat, aFieldAddr Tryd.prog 49 (.pointer (some ⟨n, off, none⟩)) 1 = some (.pointer (some ⟨n, off + 7, none⟩))) ∧
    (∀ n off : Nat, aFieldAddr Tryd.prog 49 (.pointer (some ⟨n, off, none⟩)) 2 = some (.pointer (some ⟨n, off + 14, none⟩))) ∧
    (∀ n off : Nat, aFieldAddr Tryd.prog 49 (.pointer (some ⟨n, off, none⟩)) 3 = some (.pointer (some ⟨n, off + 15, none⟩))) ∧
    (∀ n off : Nat, aFieldAddr Tryd.prog 49 (.pointer (some ⟨n, off, none⟩)) 4 = some (.pointer (some ⟨n, off + 16, none⟩))) ∧
    (∀ n off : Nat, aFieldAddr Tryd.prog 49 (.pointer (some ⟨n, off, none⟩)) 5 = some (.pointer (some ⟨n, off + 17, none⟩))) ∧
    (∀ n off : Nat, aFieldAddr Tryd.prog 49 (.pointer (some ⟨n, off, none⟩)) 6 = some (.pointer (some ⟨n, off + 18, none⟩))) ∧
    (∀ n off : Nat, aFieldAddr Tryd.prog 49 (.pointer (some ⟨n, off, none⟩)) 7 = some (.pointer (some ⟨n, off + 19, none⟩))) ∧
    (∀ n off : Nat, aFieldAddr Tryd.prog 49 (.pointer (some ⟨n, off, none⟩)) 8 = some (.pointer (some ⟨n, off + 20, none⟩))) ∧
    (∀ n off : Nat, aFieldAddr Tryd.prog 49 (.pointer (some ⟨n, off, none⟩)) 9 = some (.pointer (some ⟨n, off + 21, none⟩))) ∧
    (∀ n off : Nat, aFieldAddr Tryd.prog 49 (.pointer (some ⟨n, off, none⟩)) 10 = some (.pointer (some ⟨n, off + 22, none⟩))) ∧
    (∀ n off : Nat, aFieldAddr Tryd.prog 56 (.pointer (some ⟨n, off, none⟩)) 0 = some (.pointer (some ⟨n, off, none⟩))) ∧
    (∀ n off : Nat, aFieldAddr Tryd.prog 56 (.pointer (some ⟨n, off, none⟩)) 1 = some (.pointer (some ⟨n, off + 1, none⟩))) ∧
    (∀ n off : Nat, aFieldAddr Tryd.prog 77 (.pointer (some ⟨n, off, none⟩)) 0 = some (.pointer (some ⟨n, off, none⟩))) ∧
    (∀ n off : Nat, aFieldAddr Tryd.prog 77 (.pointer (some ⟨n, off, none⟩)) 1 = some (.pointer (some ⟨n, off + 1, none⟩))) ∧
    (∀ n off : Nat, aFieldAddr Tryd.prog 93 (.pointer (some ⟨n, off, none⟩)) 0 = some (.pointer (some ⟨n, off, none⟩))) ∧
    (∀ n off : Nat, aFieldAddr Tryd.prog 93 (.pointer (some ⟨n, off, none⟩)) 1 = some (.pointer (some ⟨n, off + 1, none⟩))) := by
  refine ⟨?_, ?_, ?_, ?_, ?_, ?_, ?_, ?_, ?_, ?_, ?_, ?_, ?_, ?_, ?_, ?_, ?_, ?_, ?_, ?_, ?_, ?_, ?_, ?_, ?_, ?_, ?_, ?_⟩
  all_goals first | trivial | (intros; kernel_rfl)

theorem xFD :
    (∀ a0 a1 a2 : Value, aField Tryd.prog 35 (.agg #[a0, a1, a2]) 0 = some (a0)) := by
  refine ?_
  all_goals first | trivial | (intros; kernel_rfl)

theorem xIA :
    (∀ n off : Nat, aIndexAddr Tryd.prog 52 (.pointer (some ⟨n, off, none⟩)) (.int .i64 0) = some (.pointer (some ⟨n, off, none⟩))) ∧
    (∀ n off : Nat, aIndexAddr Tryd.prog 52 (.pointer (some ⟨n, off, none⟩)) (.int .i64 1) = some (.pointer (some ⟨n, off + 1, none⟩))) ∧
    (∀ n off : Nat, aIndexAddr Tryd.prog 52 (.pointer (some ⟨n, off, none⟩)) (.int .i64 2) = some (.pointer (some ⟨n, off + 2, none⟩))) ∧
    (∀ n off : Nat, aIndexAddr Tryd.prog 52 (.pointer (some ⟨n, off, none⟩)) (.int .i64 3) = some (.pointer (some ⟨n, off + 3, none⟩))) ∧
    (∀ n off : Nat, aIndexAddr Tryd.prog 52 (.pointer (some ⟨n, off, none⟩)) (.int .i64 4) = some (.pointer (some ⟨n, off + 4, none⟩))) ∧
    (∀ n off : Nat, aIndexAddr Tryd.prog 75 (.pointer (some ⟨n, off, none⟩)) (.int .i64 0) = some (.pointer (some ⟨n, off, none⟩))) ∧
    (∀ n off : Nat, aIndexAddr Tryd.prog 75 (.pointer (some ⟨n, off, none⟩)) (.int .i64 1) = some (.pointer (some ⟨n, off + 1, none⟩))) ∧
    (∀ n off : Nat, aIndexAddr Tryd.prog 75 (.pointer (some ⟨n, off, none⟩)) (.int .i64 2) = some (.pointer (some ⟨n, off + 2, none⟩))) ∧
    (∀ n off : Nat, aIndexAddr Tryd.prog 75 (.pointer (some ⟨n, off, none⟩)) (.int .i64 3) = some (.pointer (some ⟨n, off + 3, none⟩))) ∧
    (∀ n off : Nat, aIndexAddr Tryd.prog 75 (.pointer (some ⟨n, off, none⟩)) (.int .i64 4) = some (.pointer (some ⟨n, off + 4, none⟩))) ∧
    (∀ n off : Nat, aIndexAddr Tryd.prog 75 (.pointer (some ⟨n, off, none⟩)) (.int .i64 5) = some (.pointer (some ⟨n, off + 5, none⟩))) ∧
    (∀ n off : Nat, aIndexAddr Tryd.prog 75 (.pointer (some ⟨n, off, none⟩)) (.int .i64 6) = some (.pointer (some ⟨n, off + 6, none⟩))) ∧
    (∀ n off : Nat, aIndexAddr Tryd.prog 75 (.pointer (some ⟨n, off, none⟩)) (.int .i64 7) = some (.pointer (some ⟨n, off + 7, none⟩))) ∧
    (∀ n off : Nat, aIndexAddr Tryd.prog 75 (.pointer (some ⟨n, off, none⟩)) (.int .i64 8) = some (.pointer (some ⟨n, off + 8, none⟩))) ∧
    (∀ n off : Nat, aIndexAddr Tryd.prog 75 (.pointer (some ⟨n, off, none⟩)) (.int .i64 9) = some (.pointer (some ⟨n, off + 9, none⟩))) ∧
    (∀ n off : Nat, aIndexAddr Tryd.prog 75 (.pointer (some ⟨n, off, none⟩)) (.int .i64 10) = some (.pointer (some ⟨n, off + 10, none⟩))) ∧
    (∀ n off : Nat, aIndexAddr Tryd.prog 75 (.pointer (some ⟨n, off, none⟩)) (.int .i64 11) = some (.pointer (some ⟨n, off + 11, none⟩))) ∧
    (∀ n off : Nat, aIndexAddr Tryd.prog 78 (.pointer (some ⟨n, off, none⟩)) (.int .i64 0) = some (.pointer (some ⟨n, off, none⟩))) ∧
    (∀ n off : Nat, aIndexAddr Tryd.prog 78 (.pointer (some ⟨n, off, none⟩)) (.int .i64 1) = some (.pointer (some ⟨n, off + 2, none⟩))) ∧
    (∀ n off : Nat, aIndexAddr Tryd.prog 78 (.pointer (some ⟨n, off, none⟩)) (.int .i64 2) = some (.pointer (some ⟨n, off + 4, none⟩))) ∧
    (∀ n off : Nat, aIndexAddr Tryd.prog 78 (.pointer (some ⟨n, off, none⟩)) (.int .i64 3) = some (.pointer (some ⟨n, off + 6, none⟩))) ∧
    (∀ n off : Nat, aIndexAddr Tryd.prog 78 (.pointer (some ⟨n, off, none⟩)) (.int .i64 4) = some (.pointer (some ⟨n, off + 8, none⟩))) ∧
    (∀ n off : Nat, aIndexAddr Tryd.prog 78 (.pointer (some ⟨n, off, none⟩)) (.int .i64 5) = some (.pointer (some ⟨n, off + 10, none⟩))) ∧
    (∀ n off : Nat, aIndexAddr Tryd.prog 78 (.pointer (some ⟨n, off, none⟩)) (.int .i64 6) = some (.pointer (some ⟨n, off + 12, none⟩))) ∧
    (∀ n off : Nat, aIndexAddr Tryd.prog 78 (.pointer (some ⟨n, off, none⟩)) (.int .i64 7) = some (.pointer (some ⟨n, off + 14, none⟩))) ∧
    (∀ n off : Nat, aIndexAddr Tryd.prog 78 (.pointer (some ⟨n, off, none⟩)) (.int .i64 8) = some (.pointer (some ⟨n, off + 16, none⟩))) ∧
    (∀ n off : Nat, aIndexAddr Tryd.prog 78 (.pointer (some ⟨n, off, none⟩)) (.int .i64 9) = some (.pointer (some ⟨n, off + 18, none⟩))) ∧
    (∀ n off : Nat, aIndexAddr Tryd.prog 78 (.pointer (some ⟨n, off, none⟩)) (.int .i64 10) = some (.pointer (some ⟨n, off + 20, none⟩))) ∧
    (∀ n off : Nat, aIndexAddr Tryd.prog 78 (.pointer (some ⟨n, off, none⟩)) (.int .i64 11) = some (.pointer (some ⟨n, off + 22, none⟩))) := by
  refine ⟨?_, ?_, ?_, ?_, ?_, ?_, ?_, ?_, ?_, ?_, ?_, ?_, ?_, ?_, ?_, ?_, ?_, ?_, ?_, ?_, ?_, ?_, ?_, ?_, ?_, ?_, ?_, ?_, ?_⟩
  all_goals first | trivial | (intros; kernel_rfl)

theorem xSz :
    (szOf Tryd.prog 3 = some 1) ∧
    (aggT Tryd.prog 3 = some false) ∧
    (szOf Tryd.prog 4 = some 1) ∧
    (aggT Tryd.prog 4 = some false) ∧
    (szOf Tryd.prog 5 = some 1) ∧
    (aggT Tryd.prog 5 = some false) ∧
    (szOf Tryd.prog 21 = some 1) ∧
    (aggT Tryd.prog 21 = some false) ∧
    (szOf Tryd.prog 29 = some 1) ∧
    (aggT Tryd.prog 29 = some false) ∧
    (szOf Tryd.prog 33 = some 1) ∧
    (aggT Tryd.prog 33 = some false) ∧
    (szOf Tryd.prog 35 = some 3) ∧
    (aggT Tryd.prog 35 = some true) ∧
    (szOf Tryd.prog 39 = some 5) ∧
    (aggT Tryd.prog 39 = some true) ∧
    (szOf Tryd.prog 42 = some 1) ∧
    (aggT Tryd.prog 42 = some false) ∧
    (szOf Tryd.prog 47 = some 7) ∧
    (aggT Tryd.prog 47 = some true) ∧
    (szOf Tryd.prog 49 = some 23) ∧
    (aggT Tryd.prog 49 = some true) ∧
    (szOf Tryd.prog 51 = some 1) ∧
    (aggT Tryd.prog 51 = some false) ∧
    (szOf Tryd.prog 52 = some 5) ∧
    (aggT Tryd.prog 52 = some true) ∧
    (szOf Tryd.prog 56 = some 6) ∧
    (aggT Tryd.prog 56 = some true) ∧
    (szOf Tryd.prog 77 = some 2) ∧
    (aggT Tryd.prog 77 = some true) ∧
    (szOf Tryd.prog 93 = some 2) ∧
    (aggT Tryd.prog 93 = some true) ∧
    (szOf Tryd.prog 94 = some 14) ∧
    (aggT Tryd.prog 94 = some true) ∧
    (szOf Tryd.prog 95 = some 28) ∧
    (aggT Tryd.prog 95 = some true) ∧
    (szOf Tryd.prog 97 = some 1) ∧
    (aggT Tryd.prog 97 = some false) := by
  refine ⟨?_, ?_, ?_, ?_, ?_, ?_, ?_, ?_, ?_, ?_, ?_, ?_, ?_, ?_, ?_, ?_, ?_, ?_, ?_, ?_, ?_, ?_, ?_, ?_, ?_, ?_, ?_, ?_, ?_, ?_, ?_, ?_, ?_, ?_, ?_, ?_, ?_, ?_⟩
  all_goals first | trivial | (intros; kernel_rfl)

theorem xZ :
    (zeroOf Tryd.prog 3 = some (.int .i64 0)) ∧
    (zeroOf Tryd.prog 5 = some (.int .u8 0)) ∧
    (zeroOf Tryd.prog 21 = some (.int .i32 0)) ∧
    (zeroOf Tryd.prog 35 = some (.agg #[.slice none 0 0, .int .i64 0, .int .i64 0])) ∧
    (zeroOf Tryd.prog 39 = some (.agg #[.int .i64 0, .int .i64 0, .bool false, .bool false, .bool false])) ∧
    (zeroOf Tryd.prog 42 = some (.slice none 0 0)) ∧
    (zeroOf Tryd.prog 49 = some (.agg #[.int .i64 0, .int .i64 0, .int .i64 0, .int .i64 0, .bool false, .bool false, .bool false, .int .i64 0, .int .i64 0, .int .i64 0, .int .i64 0, .bool false, .bool false, .bool false, .slice none 0 0, .bool false, .int .i64 0, .int .i64 0, .int .i64 0, .slice none 0 0, .slice none 0 0, .bool false, .int .u8 0])) ∧
    (zeroOf Tryd.prog 52 = some (.agg #[.nilFunc, .nilFunc, .nilFunc, .nilFunc, .nilFunc])) ∧
    (zeroOf Tryd.prog 56 = some (.agg #[.int .i64 0, .int .i64 0, .int .i64 0, .bool false, .bool false, .bool false])) ∧
    (zeroOf Tryd.prog 77 = some (.agg #[.int .u8 0, .int .u8 0])) ∧
    (zeroOf Tryd.prog 93 = some (.agg #[.int .i64 0, .int .i64 0])) ∧
    (zeroOf Tryd.prog 94 = some (.agg #[.int .i64 0, .int .i64 0, .int .i64 0, .int .i64 0, .int .i64 0, .int .i64 0, .int .i64 0, .int .i64 0, .int .i64 0, .int .i64 0, .int .i64 0, .int .i64 0, .int .i64 0, .int .i64 0])) ∧
    (zeroOf Tryd.prog 95 = some (.agg #[.int .i64 0, .int .i64 0, .int .i64 0, .int .i64 0, .int .i64 0, .int .i64 0, .int .i64 0, .int .i64 0, .int .i64 0, .int .i64 0, .int .i64 0, .int .i64 0, .int .i64 0, .int .i64 0, .int .i64 0, .int .i64 0, .int .i64 0, .int .i64 0, .int .i64 0, .int .i64 0, .int .i64 0, .int .i64 0, .int .i64 0, .int .i64 0, .int .i64 0, .int .i64 0, .int .i64 0, .int .i64 0])) ∧
    (zeroOf Tryd.prog 97 = some (.slice none 0 0)) := by
  refine ⟨?_, ?_, ?_, ?_, ?_, ?_, ?_, ?_, ?_, ?_, ?_, ?_, ?_, ?_⟩
  all_goals first | trivial | (intros; kernel_rfl)

theorem xSl :
    (Tryd.prog.underlying 22 = some (.slice 3)) ∧
    (Tryd.prog.underlying 29 = some (.slice 5)) ∧
    (Tryd.prog.underlying 33 = some (.slice 42)) ∧
    (Tryd.prog.underlying 42 = some (.slice 56)) ∧
    (Tryd.prog.underlying 61 = some (.slice 21)) ∧
    (Tryd.prog.underlying 97 = some (.slice 93)) ∧
    (Tryd.prog.underlying 3 = some (.int .i64)) ∧
    (Tryd.prog.underlying 9 = some .string) ∧
    (bytesOf Tryd.prog 3 = some 8) ∧
    (bytesOf Tryd.prog 5 = some 1) ∧
    (bytesOf Tryd.prog 21 = some 4) ∧
    (bytesOf Tryd.prog 42 = some 24) ∧
    (bytesOf Tryd.prog 56 = some 32) ∧
    (bytesOf Tryd.prog 93 = some 16) ∧
    (intTy Tryd.prog 22 = some false) ∧
    (intTy Tryd.prog 29 = some false) ∧
    (intTy Tryd.prog 33 = some false) ∧
    (intTy Tryd.prog 42 = some false) ∧
    (intTy Tryd.prog 61 = some false) ∧
    (intTy Tryd.prog 97 = some false) ∧
    (intTy Tryd.prog 3 = some true) := by
  refine ⟨?_, ?_, ?_, ?_, ?_, ?_, ?_, ?_, ?_, ?_, ?_, ?_, ?_, ?_, ?_, ?_, ?_, ?_, ?_, ?_, ?_⟩
  all_goals first | trivial | (intros; kernel_rfl)

theorem xBd :
    (aBuild Tryd.prog 35 [] = some (.agg #[.slice none 0 0, .int .i64 0, .int .i64 0])) ∧
    (∀ (x1 : Int), aBuild Tryd.prog 35 [(1, .int .i64 x1)] = some (.agg #[.slice none 0 0, .int .i64 x1, .int .i64 0])) ∧
    (aBuild Tryd.prog 39 [] = some (.agg #[.int .i64 0, .int .i64 0, .bool false, .bool false, .bool false])) ∧
    (∀ (x2 : Int), aBuild Tryd.prog 49 [(5, .int .i64 x2)] = some (.agg #[.int .i64 0, .int .i64 0, .int .i64 0, .int .i64 0, .bool false, .bool false, .bool false, .int .i64 0, .int .i64 0, .int .i64 0, .int .i64 0, .bool false, .bool false, .bool false, .slice none 0 0, .bool false, .int .i64 0, .int .i64 x2, .int .i64 0, .slice none 0 0, .slice none 0 0, .bool false, .int .u8 0])) ∧
    (∀ (x3 : Fn) (y3 z3 : Array Value) (x4 : Fn) (y4 z4 : Array Value) (x5 : Fn) (y5 z5 : Array Value) (x6 : Fn) (y6 z6 : Array Value) (x7 : Fn) (y7 z7 : Array Value), aBuild Tryd.prog 52 [(0, .func x3 y3 z3), (1, .func x4 y4 z4), (2, .func x5 y5 z5), (3, .func x6 y6 z6), (4, .func x7 y7 z7)] = some (.agg #[.func x3 y3 z3, .func x4 y4 z4, .func x5 y5 z5, .func x6 y6 z6, .func x7 y7 z7])) ∧
    (∀ (x3 : Fn) (y3 z3 : Array Value) (x4 : Fn) (y4 z4 : Array Value) (x5 : Fn) (y5 z5 : Array Value) (x6 : Fn) (y6 z6 : Array Value), aBuild Tryd.prog 52 [(0, .func x3 y3 z3), (1, .func x4 y4 z4), (2, .func x5 y5 z5), (3, .func x6 y6 z6), (4, .nilFunc)] = some (.agg #[.func x3 y3 z3, .func x4 y4 z4, .func x5 y5 z5, .func x6 y6 z6, .nilFunc])) ∧
    (∀ (x3 : Fn) (y3 z3 : Array Value) (x4 : Fn) (y4 z4 : Array Value) (x5 : Fn) (y5 z5 : Array Value) (x7 : Fn) (y7 z7 : Array Value), aBuild Tryd.prog 52 [(0, .func x3 y3 z3), (1, .func x4 y4 z4), (2, .func x5 y5 z5), (3, .nilFunc), (4, .func x7 y7 z7)] = some (.agg #[.func x3 y3 z3, .func x4 y4 z4, .func x5 y5 z5, .nilFunc, .func x7 y7 z7])) ∧
    (∀ (x3 : Fn) (y3 z3 : Array Value) (x4 : Fn) (y4 z4 : Array Value) (x5 : Fn) (y5 z5 : Array Value), aBuild Tryd.prog 52 [(0, .func x3 y3 z3), (1, .func x4 y4 z4), (2, .func x5 y5 z5), (3, .nilFunc), (4, .nilFunc)] = some (.agg #[.func x3 y3 z3, .func x4 y4 z4, .func x5 y5 z5, .nilFunc, .nilFunc])) ∧
    (∀ (x3 : Fn) (y3 z3 : Array Value) (x4 : Fn) (y4 z4 : Array Value) (x6 : Fn) (y6 z6 : Array Value) (x7 : Fn) (y7 z7 : Array Value), aBuild Tryd.prog 52 [(0, .func x3 y3 z3), (1, .func x4 y4 z4), (2, .nilFunc), (3, .func x6 y6 z6), (4, .func x7 y7 z7)] = some (.agg #[.func x3 y3 z3, .func x4 y4 z4, .nilFunc, .func x6 y6 z6, .func x7 y7 z7])) ∧
    (∀ (x3 : Fn) (y3 z3 : Array Value) (x4 : Fn) (y4 z4 : Array Value) (x6 : Fn) (y6 z6 : Array Value), aBuild Tryd.prog 52 [(0, .func x3 y3 z3), (1, .func x4 y4 z4), (2, .nilFunc), (3, .func x6 y6 z6), (4, .nilFunc)] = some (.agg #[.func x3 y3 z3, .func x4 y4 z4, .nilFunc, .func x6 y6 z6, .nilFunc])) ∧
    (∀ (x3 : Fn) (y3 z3 : Array Value) (x4 : Fn) (y4 z4 : Array Value) (x7 : Fn) (y7 z7 : Array Value), aBuild Tryd.prog 52 [(0, .func x3 y3 z3), (1, .func x4 y4 z4), (2, .nilFunc), (3, .nilFunc), (4, .func x7 y7 z7)] = some (.agg #[.func x3 y3 z3, .func x4 y4 z4, .nilFunc, .nilFunc, .func x7 y7 z7])) ∧
    (∀ (x3 : Fn) (y3 z3 : Array Value) (x4 : Fn) (y4 z4 : Array Value), aBuild Tryd.prog 52 [(0, .func x3 y3 z3), (1, .func x4 y4 z4), (2, .nilFunc), (3, .nilFunc), (4, .nilFunc)] = some (.agg #[.func x3 y3 z3, .func x4 y4 z4, .nilFunc, .nilFunc, .nilFunc])) ∧
    (∀ (x3 : Fn) (y3 z3 : Array Value) (x5 : Fn) (y5 z5 : Array Value) (x6 : Fn) (y6 z6 : Array Value) (x7 : Fn) (y7 z7 : Array Value), aBuild Tryd.prog 52 [(0, .func x3 y3 z3), (1, .nilFunc), (2, .func x5 y5 z5), (3, .func x6 y6 z6), (4, .func x7 y7 z7)] = some (.agg #[.func x3 y3 z3, .nilFunc, .func x5 y5 z5, .func x6 y6 z6, .func x7 y7 z7])) ∧
    (∀ (x3 : Fn) (y3 z3 : Array Value) (x5 : Fn) (y5 z5 : Array Value) (x6 : Fn) (y6 z6 : Array Value), aBuild Tryd.prog 52 [(0, .func x3 y3 z3), (1, .nilFunc), (2, .func x5 y5 z5), (3, .func x6 y6 z6), (4, .nilFunc)] = some (.agg #[.func x3 y3 z3, .nilFunc, .func x5 y5 z5, .func x6 y6 z6, .nilFunc])) ∧
    (∀ (x3 : Fn) (y3 z3 : Array Value) (x5 : Fn) (y5 z5 : Array Value) (x7 : Fn) (y7 z7 : Array Value), aBuild Tryd.prog 52 [(0, .func x3 y3 z3), (1, .nilFunc), (2, .func x5 y5 z5), (3, .nilFunc), (4, .func x7 y7 z7)] = some (.agg #[.func x3 y3 z3, .nilFunc, .func x5 y5 z5, .nilFunc, .func x7 y7 z7])) ∧
    (∀ (x3 : Fn) (y3 z3 : Array Value) (x5 : Fn) (y5 z5 : Array Value), aBuild Tryd.prog 52 [(0, .func x3 y3 z3), (1, .nilFunc), (2, .func x5 y5 z5), (3, .nilFunc), (4, .nilFunc)] = some (.agg #[.func x3 y3 z3, .nilFunc, .func x5 y5 z5, .nilFunc, .nilFunc])) ∧
    (∀ (x3 : Fn) (y3 z3 : Array Value) (x6 : Fn) (y6 z6 : Array Value) (x7 : Fn) (y7 z7 : Array Value), aBuild Tryd.prog 52 [(0, .func x3 y3 z3), (1, .nilFunc), (2, .nilFunc), (3, .func x6 y6 z6), (4, .func x7 y7 z7)] = some (.agg #[.func x3 y3 z3, .nilFunc, .nilFunc, .func x6 y6 z6, .func x7 y7 z7])) ∧
    (∀ (x3 : Fn) (y3 z3 : Array Value) (x6 : Fn) (y6 z6 : Array Value), aBuild Tryd.prog 52 [(0, .func x3 y3 z3), (1, .nilFunc), (2, .nilFunc), (3, .func x6 y6 z6), (4, .nilFunc)] = some (.agg #[.func x3 y3 z3, .nilFunc, .nilFunc, .func x6 y6 z6, .nilFunc])) ∧
    (∀ (x3 : Fn) (y3 z3 : Array Value) (x7 : Fn) (y7 z7 : Array Value), aBuild Tryd.prog 52 [(0, .func x3 y3 z3), (1, .nilFunc), (2, .nilFunc), (3, .nilFunc), (4, .func x7 y7 z7)] = some (.agg #[.func x3 y3 z3, .nilFunc, .nilFunc, .nilFunc, .func x7 y7 z7])) ∧
    (∀ (x3 : Fn) (y3 z3 : Array Value), aBuild Tryd.prog 52 [(0, .func x3 y3 z3), (1, .nilFunc), (2, .nilFunc), (3, .nilFunc), (4, .nilFunc)] = some (.agg #[.func x3 y3 z3, .nilFunc, .nilFunc, .nilFunc, .nilFunc])) ∧
    (∀ (x4 : Fn) (y4 z4 : Array Value) (x5 : Fn) (y5 z5 : Array Value) (x6 : Fn) (y6 z6 : Array Value) (x7 : Fn) (y7 z7 : Array Value), aBuild Tryd.prog 52 [(0, .nilFunc), (1, .func x4 y4 z4), (2, .func x5 y5 z5), (3, .func x6 y6 z6), (4, .func x7 y7 z7)] = some (.agg #[.nilFunc, .func x4 y4 z4, .func x5 y5 z5, .func x6 y6 z6, .func x7 y7 z7])) ∧
    (∀ (x4 : Fn) (y4 z4 : Array Value) (x5 : Fn) (y5 z5 : Array Value) (x6 : Fn) (y6 z6 : Array Value), aBuild Tryd.prog 52 [(0, .nilFunc), (1, .func x4 y4 z4), (2, .func x5 y5 z5), (3, .func x6 y6 z6), (4, .nilFunc)] = some (.agg #[.nilFunc, .func x4 y4 z4, .func x5 y5 z5, .func x6 y6 z6, .nilFunc])) ∧
    (∀ (x4 : Fn) (y4 z4 : Array Value) (x5 : Fn) (y5 z5 : Array Value) (x7 : Fn) (y7 z7 : Array Value), aBuild Tryd.prog 52 [(0, .nilFunc), (1, .func x4 y4 z4), (2, .func x5 y5 z5), (3, .nilFunc), (4, .func x7 y7 z7)] = some (.agg #[.nilFunc, .func x4 y4 z4, .func x5 y5 z5, .nilFunc, .func x7 y7 z7])) ∧
    (∀ (x4 : Fn) (y4 z4 : Array Value) (x5 : Fn) (y5 z5 : Array Value), aBuild Tryd.prog 52 [(0, .nilFunc), (1, .func x4 y4 z4), (2, .func x5 y5 z5), (3, .nilFunc), (4, .nilFunc)] = some (.agg #[.nilFunc, .func x4 y4 z4, .func x5 y5 z5, .nilFunc, .nilFunc])) ∧
    (∀ (x4 : Fn) (y4 z4 : Array Value) (x6 : Fn) (y6 z6 : Array Value) (x7 : Fn) (y7 z7 : Array Value), aBuild Tryd.prog 52 [(0, .nilFunc), (1, .func x4 y4 z4), (2, .nilFunc), (3, .func x6 y6 z6), (4, .func x7 y7 z7)] = some (.agg #[.nilFunc, .func x4 y4 z4, .nilFunc, .func x6 y6 z6, .func x7 y7 z7])) ∧
    (∀ (x4 : Fn) (y4 z4 : Array Value) (x6 : Fn) (y6 z6 : Array Value), aBuild Tryd.prog 52 [(0, .nilFunc), (1, .func x4 y4 z4), (2, .nilFunc), (3, .func x6 y6 z6), (4, .nilFunc)] = some (.agg #[.nilFunc, .func x4 y4 z4, .nilFunc, .func x6 y6 z6, .nilFunc])) ∧
    (∀ (x4 : Fn) (y4 z4 : Array Value) (x7 : Fn) (y7 z7 : Array Value), aBuild Tryd.prog 52 [(0, .nilFunc), (1, .func x4 y4 z4), (2, .nilFunc), (3, .nilFunc), (4, .func x7 y7 z7)] = some (.agg #[.nilFunc, .func x4 y4 z4, .nilFunc, .nilFunc, .func x7 y7 z7])) ∧
    (∀ (x4 : Fn) (y4 z4 : Array Value), aBuild Tryd.prog 52 [(0, .nilFunc), (1, .func x4 y4 z4), (2, .nilFunc), (3, .nilFunc), (4, .nilFunc)] = some (.agg #[.nilFunc, .func x4 y4 z4, .nilFunc, .nilFunc, .nilFunc])) ∧
    (∀ (x5 : Fn) (y5 z5 : Array Value) (x6 : Fn) (y6 z6 : Array Value) (x7 : Fn) (y7 z7 : Array Value), aBuild Tryd.prog 52 [(0, .nilFunc), (1, .nilFunc), (2, .func x5 y5 z5), (3, .func x6 y6 z6), (4, .func x7 y7 z7)] = some (.agg #[.nilFunc, .nilFunc, .func x5 y5 z5, .func x6 y6 z6, .func x7 y7 z7])) ∧
    (∀ (x5 : Fn) (y5 z5 : Array Value) (x6 : Fn) (y6 z6 : Array Value), aBuild Tryd.prog 52 [(0, .nilFunc), (1, .nilFunc), (2, .func x5 y5 z5), (3, .func x6 y6 z6), (4, .nilFunc)] = some (.agg #[.nilFunc, .nilFunc, .func x5 y5 z5, .func x6 y6 z6, .nilFunc])) ∧
    (∀ (x5 : Fn) (y5 z5 : Array Value) (x7 : Fn) (y7 z7 : Array Value), aBuild Tryd.prog 52 [(0, .nilFunc), (1, .nilFunc), (2, .func x5 y5 z5), (3, .nilFunc), (4, .func x7 y7 z7)] = some (.agg #[.nilFunc, .nilFunc, .func x5 y5 z5, .nilFunc, .func x7 y7 z7])) ∧
    (∀ (x5 : Fn) (y5 z5 : Array Value), aBuild Tryd.prog 52 [(0, .nilFunc), (1, .nilFunc), (2, .func x5 y5 z5), (3, .nilFunc), (4, .nilFunc)] = some (.agg #[.nilFunc, .nilFunc, .func x5 y5 z5, .nilFunc, .nilFunc])) ∧
    (∀ (x6 : Fn) (y6 z6 : Array Value) (x7 : Fn) (y7 z7 : Array Value), aBuild Tryd.prog 52 [(0, .nilFunc), (1, .nilFunc), (2, .nilFunc), (3, .func x6 y6 z6), (4, .func x7 y7 z7)] = some (.agg #[.nilFunc, .nilFunc, .nilFunc, .func x6 y6 z6, .func x7 y7 z7])) ∧
    (∀ (x6 : Fn) (y6 z6 : Array Value), aBuild Tryd.prog 52 [(0, .nilFunc), (1, .nilFunc), (2, .nilFunc), (3, .func x6 y6 z6), (4, .nilFunc)] = some (.agg #[.nilFunc, .nilFunc, .nilFunc, .func x6 y6 z6, .nilFunc])) ∧
    (∀ (x7 : Fn) (y7 z7 : Array Value), aBuild Tryd.prog 52 [(0, .nilFunc), (1, .nilFunc), (2, .nilFunc), (3, .nilFunc), (4, .func x7 y7 z7)] = some (.agg #[.nilFunc, .nilFunc, .nilFunc, .nilFunc, .func x7 y7 z7])) ∧
    (aBuild Tryd.prog 52 [(0, .nilFunc), (1, .nilFunc), (2, .nilFunc), (3, .nilFunc), (4, .nilFunc)] = some (.agg #[.nilFunc, .nilFunc, .nilFunc, .nilFunc, .nilFunc])) ∧
    (∀ (x8 : Int), aBuild Tryd.prog 56 [(0, .int .i64 x8)] = some (.agg #[.int .i64 x8, .int .i64 0, .int .i64 0, .bool false, .bool false, .bool false])) ∧
    (∀ (x9 : Int) (c10_0 c10_1 c10_2 c10_3 c10_4 : Value), aBuild Tryd.prog 56 [(0, .int .i64 x9), (1, .agg #[c10_0, c10_1, c10_2, c10_3, c10_4])] = some (.agg #[.int .i64 x9, c10_0, c10_1, c10_2, c10_3, c10_4])) ∧
    (∀ (x11 : Int) (x12 : Int), aBuild Tryd.prog 93 [(0, .int .i64 x11), (1, .int .i64 x12)] = some (.agg #[.int .i64 x11, .int .i64 x12])) ∧
    (∀ (c13_0 c13_1 : Value) (c14_0 c14_1 : Value) (c15_0 c15_1 : Value) (c16_0 c16_1 : Value) (c17_0 c17_1 : Value) (c18_0 c18_1 : Value) (c19_0 c19_1 : Value), aBuild Tryd.prog 94 [(0, .agg #[c13_0, c13_1]), (1, .agg #[c14_0, c14_1]), (2, .agg #[c15_0, c15_1]), (3, .agg #[c16_0, c16_1]), (4, .agg #[c17_0, c17_1]), (5, .agg #[c18_0, c18_1]), (6, .agg #[c19_0, c19_1])] = some (.agg #[c13_0, c13_1, c14_0, c14_1, c15_0, c15_1, c16_0, c16_1, c17_0, c17_1, c18_0, c18_1, c19_0, c19_1])) ∧
    (∀ (c20_0 c20_1 : Value) (c21_0 c21_1 : Value) (c22_0 c22_1 : Value) (c23_0 c23_1 : Value) (c24_0 c24_1 : Value) (c25_0 c25_1 : Value) (c26_0 c26_1 : Value) (c27_0 c27_1 : Value) (c28_0 c28_1 : Value) (c29_0 c29_1 : Value) (c30_0 c30_1 : Value) (c31_0 c31_1 : Value) (c32_0 c32_1 : Value) (c33_0 c33_1 : Value), aBuild Tryd.prog 95 [(0, .agg #[c20_0, c20_1]), (1, .agg #[c21_0, c21_1]), (2, .agg #[c22_0, c22_1]), (3, .agg #[c23_0, c23_1]), (4, .agg #[c24_0, c24_1]), (5, .agg #[c25_0, c25_1]), (6, .agg #[c26_0, c26_1]), (7, .agg #[c27_0, c27_1]), (8, .agg #[c28_0, c28_1]), (9, .agg #[c29_0, c29_1]), (10, .agg #[c30_0, c30_1]), (11, .agg #[c31_0, c31_1]), (12, .agg #[c32_0, c32_1]), (13, .agg #[c33_0, c33_1])] = some (.agg #[c20_0, c20_1, c21_0, c21_1, c22_0, c22_1, c23_0, c23_1, c24_0, c24_1, c25_0, c25_1, c26_0, c26_1, c27_0, c27_1, c28_0, c28_1, c29_0, c29_1, c30_0, c30_1, c31_0, c31_1, c32_0, c32_1, c33_0, c33_1])) := by
  refine ⟨?_, ?_, ?_, ?_, ?_, ?_, ?_, ?_, ?_, ?_, ?_, ?_, ?_, ?_, ?_, ?_, ?_, ?_, ?_, ?_, ?_, ?_, ?_, ?_, ?_, ?_, ?_, ?_, ?_, ?_, ?_, ?_, ?_, ?_, ?_, ?_, ?_, ?_, ?_, ?_, ?_⟩
  all_goals first | trivial | (intros; kernel_rfl)

theorem xBs :
    (∀ H : AHeap, ∀ (x34 : Int), aBuildSlice Tryd.prog H 22 1 [(0, .int .i64 x34)] = (aNew H 3 [.int .i64 x34] false).map fun g => (.slice (some ⟨H.next, 0, some 0⟩) 1 1, g)) ∧
    (∀ H : AHeap, aBuildSlice Tryd.prog H 29 0 [] = (aNew H 5 [] false).map fun g => (.slice (some ⟨H.next, 0, some 0⟩) 0 0, g)) ∧
    (∀ H : AHeap, ∀ (x35 : Int), aBuildSlice Tryd.prog H 29 1 [(0, .int .u8 x35)] = (aNew H 5 [.int .u8 x35] false).map fun g => (.slice (some ⟨H.next, 0, some 0⟩) 1 1, g)) ∧
    (∀ H : AHeap, ∀ (x36 : Int) (x37 : Int) (x38 : Int) (x39 : Int), aBuildSlice Tryd.prog H 29 4 [(0, .int .u8 x36), (1, .int .u8 x37), (2, .int .u8 x38), (3, .int .u8 x39)] = (aNew H 5 [.int .u8 x36, .int .u8 x37, .int .u8 x38, .int .u8 x39] false).map fun g => (.slice (some ⟨H.next, 0, some 0⟩) 4 4, g)) ∧
    (∀ H : AHeap, ∀ (x40 : Int) (x41 : Int) (x42 : Int) (x43 : Int) (x44 : Int) (x45 : Int) (x46 : Int) (x47 : Int) (x48 : Int) (x49 : Int) (x50 : Int) (x51 : Int) (x52 : Int) (x53 : Int), aBuildSlice Tryd.prog H 29 14 [(0, .int .u8 x40), (1, .int .u8 x41), (2, .int .u8 x42), (3, .int .u8 x43), (4, .int .u8 x44), (5, .int .u8 x45), (6, .int .u8 x46), (7, .int .u8 x47), (8, .int .u8 x48), (9, .int .u8 x49), (10, .int .u8 x50), (11, .int .u8 x51), (12, .int .u8 x52), (13, .int .u8 x53)] = (aNew H 5 [.int .u8 x40, .int .u8 x41, .int .u8 x42, .int .u8 x43, .int .u8 x44, .int .u8 x45, .int .u8 x46, .int .u8 x47, .int .u8 x48, .int .u8 x49, .int .u8 x50, .int .u8 x51, .int .u8 x52, .int .u8 x53] false).map fun g => (.slice (some ⟨H.next, 0, some 0⟩) 14 14, g)) ∧
    (∀ H : AHeap, ∀ (x54 : Option Addr) (y54 z54 : Nat), aBuildSlice Tryd.prog H 33 1 [(0, .slice x54 y54 z54)] = (aNew H 42 [.slice x54 y54 z54] false).map fun g => (.slice (some ⟨H.next, 0, some 0⟩) 1 1, g)) ∧
    (∀ H : AHeap, aBuildSlice Tryd.prog H 42 0 [] = (aNew H 56 [] false).map fun g => (.slice (some ⟨H.next, 0, some 0⟩) 0 0, g)) ∧
    (∀ H : AHeap, ∀ (c55_0 c55_1 c55_2 c55_3 c55_4 c55_5 : Value), aBuildSlice Tryd.prog H 42 1 [(0, .agg #[c55_0, c55_1, c55_2, c55_3, c55_4, c55_5])] = (aNew H 56 [c55_0, c55_1, c55_2, c55_3, c55_4, c55_5] false).map fun g => (.slice (some ⟨H.next, 0, some 0⟩) 1 1, g)) ∧
    (∀ H : AHeap, aBuildSlice Tryd.prog H 61 0 [] = (aNew H 21 [] false).map fun g => (.slice (some ⟨H.next, 0, some 0⟩) 0 0, g)) ∧
    (∀ H : AHeap, ∀ (x56 : Int), aBuildSlice Tryd.prog H 61 1 [(0, .int .i32 x56)] = (aNew H 21 [.int .i32 x56] false).map fun g => (.slice (some ⟨H.next, 0, some 0⟩) 1 1, g)) := by
  refine ⟨?_, ?_, ?_, ?_, ?_, ?_, ?_, ?_, ?_, ?_⟩
  all_goals first | trivial | (intros; kernel_rfl)

theorem xTA :
    (True) := by
  refine ?_
  all_goals first | trivial | (intros; kernel_rfl)

theorem xMI :
    (∀ v : Value, ifaceW Tryd.prog 9 v = some (.iface 9 v)) := by
  refine ?_
  all_goals first | trivial | (intros; kernel_rfl)

theorem xCm :
    (∀ (H : AHeap) (a : Addr), aBin Tryd.prog H .eql 24 (.pointer (some a)) (.pointer none) = some (.bool false)) ∧
    (∀ (H : AHeap), aBin Tryd.prog H .eql 24 (.pointer none) (.pointer none) = some (.bool true)) ∧
    (∀ (H : AHeap) (a : Addr), aBin Tryd.prog H .neq 24 (.pointer (some a)) (.pointer none) = some (.bool true)) ∧
    (∀ (H : AHeap), aBin Tryd.prog H .neq 24 (.pointer none) (.pointer none) = some (.bool false)) ∧
    (∀ (H : AHeap) (a : Addr) (n c : Nat), aBin Tryd.prog H .eql 29 (.slice (some a) n c) (.slice none 0 0) = some (.bool false)) ∧
    (∀ (H : AHeap) (n c : Nat), aBin Tryd.prog H .eql 29 (.slice none n c) (.slice none 0 0) = some (.bool true)) ∧
    (∀ (H : AHeap) (a : Addr) (n c : Nat), aBin Tryd.prog H .neq 29 (.slice (some a) n c) (.slice none 0 0) = some (.bool true)) ∧
    (∀ (H : AHeap) (n c : Nat), aBin Tryd.prog H .neq 29 (.slice none n c) (.slice none 0 0) = some (.bool false)) ∧
    (∀ (H : AHeap) (a : Addr) (n c : Nat), aBin Tryd.prog H .eql 42 (.slice (some a) n c) (.slice none 0 0) = some (.bool false)) ∧
    (∀ (H : AHeap) (n c : Nat), aBin Tryd.prog H .eql 42 (.slice none n c) (.slice none 0 0) = some (.bool true)) ∧
    (∀ (H : AHeap) (a : Addr) (n c : Nat), aBin Tryd.prog H .neq 42 (.slice (some a) n c) (.slice none 0 0) = some (.bool true)) ∧
    (∀ (H : AHeap) (n c : Nat), aBin Tryd.prog H .neq 42 (.slice none n c) (.slice none 0 0) = some (.bool false)) ∧
    (∀ (H : AHeap) (f : Fn) (a b : Array Value), aBin Tryd.prog H .eql 80 (.func f a b) (.nilFunc) = some (.bool false)) ∧
    (∀ (H : AHeap) (f : Fn) (a b : Array Value), aBin Tryd.prog H .neq 80 (.func f a b) (.nilFunc) = some (.bool true)) := by
  refine ⟨?_, ?_, ?_, ?_, ?_, ?_, ?_, ?_, ?_, ?_, ?_, ?_, ?_, ?_⟩
  all_goals first | trivial | (intros; kernel_rfl)

theorem xHB :
    (hasBody Tryd.prog 3 = true) ∧
    (hasBody Tryd.prog 4 = true) ∧
    (hasBody Tryd.prog 5 = true) ∧
    (hasBody Tryd.prog 6 = true) ∧
    (hasBody Tryd.prog 7 = true) ∧
    (hasBody Tryd.prog 8 = true) ∧
    (hasBody Tryd.prog 9 = true) ∧
    (hasBody Tryd.prog 10 = true) ∧
    (hasBody Tryd.prog 11 = true) ∧
    (hasBody Tryd.prog 12 = true) ∧
    (hasBody Tryd.prog 13 = true) ∧
    (hasBody Tryd.prog 14 = true) ∧
    (hasBody Tryd.prog 15 = true) ∧
    (hasBody Tryd.prog 16 = true) ∧
    (hasBody Tryd.prog 17 = true) ∧
    (hasBody Tryd.prog 18 = true) ∧
    (hasBody Tryd.prog 19 = true) ∧
    (hasBody Tryd.prog 20 = true) ∧
    (hasBody Tryd.prog 21 = true) ∧
    (hasBody Tryd.prog 22 = true) ∧
    (hasBody Tryd.prog 23 = true) ∧
    (hasBody Tryd.prog 24 = true) ∧
    (hasBody Tryd.prog 25 = true) ∧
    (hasBody Tryd.prog 26 = true) ∧
    (hasBody Tryd.prog 27 = true) ∧
    (hasBody Tryd.prog 28 = true) ∧
    (hasBody Tryd.prog 29 = true) ∧
    (hasBody Tryd.prog 30 = true) ∧
    (hasBody Tryd.prog 31 = true) ∧
    (hasBody Tryd.prog 32 = true) ∧
    (hasBody Tryd.prog 33 = true) ∧
    (hasBody Tryd.prog 34 = true) ∧
    (hasBody Tryd.prog 35 = true) ∧
    (hasBody Tryd.prog 36 = true) ∧
    (hasBody Tryd.prog 37 = true) ∧
    (hasBody Tryd.prog 38 = true) ∧
    (hasBody Tryd.prog 39 = true) ∧
    (hasBody Tryd.prog 40 = true) ∧
    (hasBody Tryd.prog 41 = true) ∧
    (hasBody Tryd.prog 42 = true) ∧
    (hasBody Tryd.prog 43 = true) ∧
    (hasBody Tryd.prog 44 = true) ∧
    (hasBody Tryd.prog 45 = true) ∧
    (hasBody Tryd.prog 46 = true) ∧
    (hasBody Tryd.prog 47 = true) ∧
    (hasBody Tryd.prog 48 = true) ∧
    (hasBody Tryd.prog 49 = true) ∧
    (hasBody Tryd.prog 50 = true) ∧
    (hasBody Tryd.prog 51 = true) ∧
    (hasBody Tryd.prog 52 = true) ∧
    (hasBody Tryd.prog 53 = true) ∧
    (hasBody Tryd.prog 54 = true) ∧
    (hasBody Tryd.prog 55 = true) ∧
    (hasBody Tryd.prog 56 = true) ∧
    (hasBody Tryd.prog 57 = true) ∧
    (hasBody Tryd.prog 58 = true) ∧
    (hasBody Tryd.prog 59 = true) ∧
    (hasBody Tryd.prog 60 = true) ∧
    (hasBody Tryd.prog 61 = true) ∧
    (hasBody Tryd.prog 62 = true) ∧
    (hasBody Tryd.prog 63 = true) ∧
    (hasBody Tryd.prog 64 = true) ∧
    (hasBody Tryd.prog 65 = true) ∧
    (hasBody Tryd.prog 66 = true) ∧
    (hasBody Tryd.prog 67 = true) ∧
    (hasBody Tryd.prog 68 = true) ∧
    (hasBody Tryd.prog 69 = true) ∧
    (hasBody Tryd.prog 70 = true) := by
  refine ⟨?_, ?_, ?_, ?_, ?_, ?_, ?_, ?_, ?_, ?_, ?_, ?_, ?_, ?_, ?_, ?_, ?_, ?_, ?_, ?_, ?_, ?_, ?_, ?_, ?_, ?_, ?_, ?_, ?_, ?_, ?_, ?_, ?_, ?_, ?_, ?_, ?_, ?_, ?_, ?_, ?_, ?_, ?_, ?_, ?_, ?_, ?_, ?_, ?_, ?_, ?_, ?_, ?_, ?_, ?_, ?_, ?_, ?_, ?_, ?_, ?_, ?_, ?_, ?_, ?_, ?_, ?_, ?_⟩
  all_goals first | trivial | (intros; kernel_rfl)

theorem xGl :
    (∀ N : Nat, opOk Tryd.prog N (.global 0) = true) ∧
    (∀ N : Nat, opOk Tryd.prog N (.global 1) = true) := by
  refine ⟨?_, ?_⟩
  all_goals first | trivial | (intros; kernel_rfl)

theorem xF : type_of% (And.intro @xFA ( And.intro @xFD ( And.intro @xIA ( And.intro @xSz ( And.intro @xZ ( And.intro @xSl ( And.intro @xBd ( And.intro @xBs ( And.intro @xTA ( And.intro @xMI ( And.intro @xCm ( And.intro @xHB ( And.intro @xGl (@xU4)))))))))))))) :=
  And.intro @xFA ( And.intro @xFD ( And.intro @xIA ( And.intro @xSz ( And.intro @xZ ( And.intro @xSl ( And.intro @xBd ( And.intro @xBs ( And.intro @xTA ( And.intro @xMI ( And.intro @xCm ( And.intro @xHB ( And.intro @xGl (@xU4)))))))))))))

end Go.Proofs.YtpohjcacnkhnkaaDoor

/- The plain terminal: what the methods of term.Terminal make of its state, with no program in sight. -/
namespace Go.Proofs.YtpohjcacnkhnkaaDoor

structure Lk where
  fore : Int
  back : Int
  bold : Bool
  under : Bool
  inv : Bool
deriving DecidableEq
def Lk.no : Lk := ⟨0, 0, false, false, false⟩

structure Ce where
  rune : Int
  look : Lk
deriving DecidableEq
def sp : Ce := ⟨32, Lk.no⟩

structure Uni where
  wd : Int → Nat
  full : List UInt8 → Bool
  dec : List UInt8 → Int × Nat

structure Tm where
  row : Int
  col : Int
  pen : Lk
  srow : Int
  scol : Int
  spen : Lk
  grid : List (List Ce)
  shown : Bool
  top : Int
  bottom : Int
  mode : Nat
  rest : List UInt8
  params : List UInt8
  middle : Bool
  last : UInt8
deriving DecidableEq

def Tm.new (h w : Nat) : Tm := ⟨0, 0, .no, 0, 0, .no, List.replicate h (List.replicate w sp), false, 0, h - 1, 0, [], [], false, 0⟩
def Tm.height (t : Tm) : Int := t.grid.length
def Tm.width (t : Tm) : Int := (t.grid.headD []).length
def Tm.inside (t : Tm) : Int := min t.col (t.width - 1)

def blankL (l : List Ce) (a b : Nat) : List Ce :=
  let l := if a < b ∧ (l.getD a sp).rune = -1 then l.set (a - 1) sp else l
  let l := if a < b ∧ b < l.length ∧ (l.getD b sp).rune = -1 then l.set b sp else l
  l.take a ++ List.replicate (b - a) sp ++ l.drop (max a b)

def Tm.onRow (t : Tm) (k : Nat) (f : List Ce → List Ce) : Tm := { t with grid := t.grid.set k (f (t.grid.getD k [])) }
def Tm.blank (t : Tm) (k a b : Int) : Tm := t.onRow k.toNat fun l => blankL l a.toNat b.toNat

def Tm.write (u : Uni) (t : Tm) (c : Int) : Tm :=
  let n := u.wd c
  if n = 0 ∨ t.col + n > t.width then t else
  let t := t.blank t.row t.col (t.col + n)
  let t := t.onRow t.row.toNat fun l => l.set t.col.toNat ⟨c, t.pen⟩
  let t := if n = 2 then t.onRow t.row.toNat fun l => l.set (t.col.toNat + 1) ⟨-1, t.pen⟩ else t
  { t with col := t.col + n }

def rollG (w : Nat) (g : List (List Ce)) (top bottom n : Nat) (up : Bool) : List (List Ce) :=
  let len := bottom + 1 - top
  let n := min n len
  let seg := (g.drop top).take len
  let new := List.replicate n (List.replicate w sp)
  g.take top ++ (if up then seg.drop n ++ new else new ++ seg.take (len - n)) ++ g.drop (top + len)
def Tm.roll (t : Tm) (top bottom n : Int) (up : Bool) : Tm := { t with grid := rollG t.width.toNat t.grid top.toNat bottom.toNat n.toNat up }

def Tm.control (t : Tm) (c : Int) : Tm :=
  if c = 8 then { t with col := max 0 (t.inside - 1) }
  else if c = 9 then { t with col := min (t.width - 1) (t.col - t.col % 8 + 8) }
  else if c = 10 then (if t.row = t.bottom then t.roll t.top t.bottom 1 true else { t with row := min (t.row + 1) (t.height - 1) })
  else if c = 13 then { t with col := 0 }
  else t

def Tm.character (u : Uni) (t : Tm) (c : Int) : Tm := if c < 32 ∨ c = 127 then t.control c else t.write u c

def Tm.drain (u : Uni) : Nat → Tm → Tm × Nat
  | 0, t => (t, 0)
  | k + 1, t =>
    if t.rest ≠ [] ∧ u.full t.rest = true then
      if t.rest.headD 0 = 27 then ({ t with rest := [] }, 1)
      else
        let (r, n) := u.dec t.rest
        let t := if r ≠ 65533 ∨ n > 1 then t.character u r else t
        Tm.drain u k { t with rest := t.rest.drop n }
    else (t, 0)
def Tm.plain (u : Uni) (t : Tm) (c : UInt8) : Tm × Nat := Tm.drain u (t.rest.length + 2) { t with rest := t.rest ++ [c] }

def Tm.second (t : Tm) (c : UInt8) : Tm × Nat :=
  if c = 91 then ({ t with params := [], middle := false }, 3)
  else if c = 93 then ({ t with last := 0 }, 4)
  else if c = 27 then (t, 1)
  else if 32 ≤ c ∧ c < 48 then (t, 2)
  else if c = 55 then ({ t with srow := t.row, scol := t.col, spen := t.pen }, 0)
  else if c = 56 then ({ t with row := t.srow, col := t.scol, pen := t.spen }, 0)
  else if c = 99 then (Tm.new t.height.toNat t.width.toNat, 0)
  else if c = 77 ∧ t.row = t.top then (t.roll t.top t.bottom 1 false, 0)
  else if c = 77 then ({ t with row := max 0 (t.row - 1) }, 0)
  else (t, 0)

def count (p : List Int) : Int := max 1 (p.headD 0)
def snd (p : List Int) : Int := p.getD 1 0
def Tm.moveTo (t : Tm) (r c : Int) : Tm := { t with row := max 0 (min r (t.height - 1)), col := max 0 (min c (t.width - 1)) }
def Tm.eraseRow (t : Tm) (p : List Int) : Tm :=
  if p.headD 0 = 0 then t.blank t.row t.inside t.width
  else if p.headD 0 = 1 then t.blank t.row 0 (t.inside + 1)
  else if p.headD 0 = 2 then t.blank t.row 0 t.width
  else t
def Tm.eraseRows (p : List Int) : Nat → Nat → Tm → Tm
  | _, 0, t => t
  | i, k + 1, t =>
    let m := p.headD 0
    let t := if (i < t.row ∧ (m = 1 ∨ m = 2)) ∨ (i > t.row ∧ (m = 0 ∨ m = 2)) then t.blank i 0 t.width else t
    Tm.eraseRows p (i + 1) k t
def Tm.eraseAll (t : Tm) (p : List Int) : Tm := Tm.eraseRows p 0 t.grid.length (t.eraseRow p)
def Tm.lines (t : Tm) (n : Int) (up : Bool) : Tm := if t.row ≥ t.top ∧ t.row ≤ t.bottom then t.roll t.row t.bottom n up else t
def Tm.region (t : Tm) (p : List Int) : Tm :=
  let top := count p - 1
  let b := snd p - 1
  let b := if b < 0 ∨ b ≥ t.height then t.height - 1 else b
  if top ≤ b then Tm.moveTo { t with top := top, bottom := b } 0 0 else t
def Lk.attribute (l : Lk) (n : Int) : Lk :=
  if n = 0 then .no
  else if n = 1 ∨ n = 22 then { l with bold := n = 1 }
  else if n = 4 ∨ n = 24 then { l with under := n = 4 }
  else if n = 7 ∨ n = 27 then { l with inv := n = 7 }
  else if n = 39 then { l with fore := 0 }
  else if n = 49 then { l with back := 0 }
  else l
def Lk.attributes : List Int → Lk → Lk
  | [], l => l
  | n :: p, l =>
    if n = 38 ∨ n = 48 then
      (match p with
      | a :: b :: p => if a ≠ 5 ∨ b > 255 then l else Lk.attributes p (if n = 38 then { l with fore := b + 1 } else { l with back := b + 1 })
      | _ => l)
    else if 30 ≤ n ∧ n ≤ 37 then Lk.attributes p { l with fore := n - 29 }
    else if 40 ≤ n ∧ n ≤ 47 then Lk.attributes p { l with back := n - 39 }
    else Lk.attributes p (l.attribute n)

def numbers : List UInt8 → List Int → Int → Option (List Int)
  | [], done, last => some (done ++ [last])
  | c :: r, done, last =>
    if c = 59 then numbers r (done ++ [last]) 0
    else if 48 ≤ c ∧ c ≤ 57 then numbers r done (min 9999 (last * 10 + ((c.toNat : Int) - 48)))
    else none

def Tm.doFinal (t : Tm) (f : UInt8) (p : List Int) : Tm :=
  if f = 65 then t.moveTo (t.row - count p) t.col
  else if f = 66 then t.moveTo (t.row + count p) t.col
  else if f = 67 then t.moveTo t.row (t.inside + count p)
  else if f = 68 then t.moveTo t.row (t.inside - count p)
  else if f = 71 then t.moveTo t.row (count p - 1)
  else if f = 100 then t.moveTo (count p - 1) t.col
  else if f = 72 ∨ f = 102 then t.moveTo (count p - 1) (max 1 (snd p) - 1)
  else if f = 74 then t.eraseAll p
  else if f = 75 then t.eraseRow p
  else if f = 76 then t.lines (count p) false
  else if f = 77 then t.lines (count p) true
  else if f = 109 then { t with pen := Lk.attributes p t.pen }
  else if f = 114 then t.region p
  else t
def Tm.execute (t : Tm) (f : UInt8) : Tm :=
  if t.params = [63, 50, 53] ∧ (f = 104 ∨ f = 108) then { t with shown := f = 104 }
  else match numbers t.params [] 0 with
    | some p => t.doFinal f p
    | none => t
def Tm.parameter (t : Tm) (c : UInt8) : Tm × Nat :=
  if c = 27 then (t, 1)
  else if 64 ≤ c ∧ c ≤ 126 then (if t.params.length ≤ 64 then t.execute c else t, 0)
  else if c < 32 ∨ c > 126 ∨ (c ≥ 48 ∧ t.middle = true) then (t, 0)
  else
    let t := { t with middle := t.middle || c < 48 }
    ((if t.params.length ≤ 64 then { t with params := t.params ++ [c] } else t), 3)
def Tm.ignore (t : Tm) (c : UInt8) : Tm × Nat := if c = 7 ∨ (c = 92 ∧ t.last = 27) then (t, 0) else ({ t with last := c }, 4)

def Tm.step (u : Uni) (t : Tm) (c : UInt8) : Tm :=
  let (t, m) := match t.mode with
    | 0 => t.plain u c
    | 1 => t.second c
    | 2 => (t, 0)
    | 3 => t.parameter c
    | _ => t.ignore c
  { t with mode := m }
def Tm.feed (u : Uni) (t : Tm) (b : List UInt8) : Tm := b.foldl (Tm.step u) t

theorem Tm.feed_append (u : Uni) (t : Tm) (a b : List UInt8) : t.feed u (a ++ b) = (t.feed u a).feed u b := List.foldl_append

end Go.Proofs.YtpohjcacnkhnkaaDoor

/- The executor at work: a call that it walks to 'true' answers true, and keeps all that was. -/
namespace Go.Ax

def Ren.same : Ren := ⟨fun n => n, fun _ => 0, fun _ => 0, fun _ => .nilIface, fun _ => rfl⟩

theorem rel_none (P : Program) (w : World) : Rel P Ren.same (AHeap.none P.globals.size) w :=
  ⟨Nat.le_refl _, ⟨Nat.le_refl _, fun _ _ => ⟨rfl, rfl⟩⟩, fun m _ h => absurd (none_get _ m) h, fun n o h => (by rw [none_get] at h; cases h), fun n o h => (by rw [none_get] at h; cases h)⟩

theorem wide_wide : WideF Fence.wide := ⟨fun _ => trivial, rfl⟩

theorem call_in {P : Program} (hmix : P.follows .mixedOrders = true) {K : FuncId → List Value → Option Value} (hK : Known P K) {fuel : Nat} {f : FuncId} {args : List Value} {v : Value} {H H1 : AHeap} {ρ : Ren} {w : World} (r : Rel P ρ H w)
    (h : call P K fuel f args H = some (.ok v, H1)) (hsc : scbL H.next args = true) {F : Fence} {n : Nat} (hF : WideF F) : CallsIn F n P f (args.map ρ.val).toArray w (fun e w' => ∃ ρ1, e = .returned (ρ1.val v) ∧ St P ρ H w ρ1 H1 w') :=
  enterF_run (exec_sound hmix hK fuel).1 r h hsc hF (fun ρ1 w1 s _ => ⟨ρ1, rfl, s⟩)

theorem sameV_eq {u v : Value} (h : sameV u v = true) : u = v ∧ af v = true := by
  unfold sameV at h
  split at h
  · simp only [Bool.and_eq_true, decide_eq_true_eq] at h
    obtain ⟨rfl, rfl⟩ := h
    exact ⟨rfl, rfl⟩
  · simp only [beq_iff_eq] at h
    subst h
    exact ⟨rfl, rfl⟩
  · cases h

theorem sameL_eq : ∀ {u v : List Value}, sameL u v = true → u = v ∧ ∀ x ∈ v, af x = true
  | [], [], _ => ⟨rfl, fun _ h => by cases h⟩
  | a :: r, b :: q, h => by
    simp only [sameL, Bool.and_eq_true] at h
    obtain ⟨h1, h2⟩ := sameV_eq h.1
    obtain ⟨h3, h4⟩ := sameL_eq h.2
    refine ⟨by rw [h1, h3], fun x hx => ?_⟩
    rcases List.mem_cons.1 hx with rfl | hx
    · exact h2
    · exact h4 x hx
  | [], _ :: _, h => by cases h
  | _ :: _, [], h => by cases h

theorem afL_of : ∀ {l : List Value}, (∀ x ∈ l, af x = true) → afL l = true
  | [], _ => rfl
  | x :: l, h => by rw [afL, h x (List.mem_cons_self ..), afL_of fun y hy => h y (List.mem_cons_of_mem _ hy)]; rfl

theorem sameW_eq {u v : Value} (h : sameW u v = true) : u = v ∧ af v = true := by
  unfold sameW at h
  split at h
  · rename_i a b
    obtain ⟨h1, h2⟩ := sameL_eq h
    obtain ⟨a⟩ := a
    obtain ⟨b⟩ := b
    simp only at h1 h2
    subst h1
    exact ⟨rfl, by rw [af, afA]; exact afL_of h2⟩
  · rename_i a b
    obtain ⟨h1, h2⟩ := sameL_eq h
    obtain ⟨a⟩ := a
    obtain ⟨b⟩ := b
    simp only at h1 h2
    subst h1
    exact ⟨rfl, by rw [af, afA]; exact afL_of h2⟩
  · exact sameV_eq h

theorem sameM_eq : ∀ {u v : List Value}, sameM u v = true → u = v ∧ ∀ x ∈ v, af x = true
  | [], [], _ => ⟨rfl, fun _ h => by cases h⟩
  | a :: r, b :: q, h => by
    simp only [sameM, Bool.and_eq_true] at h
    obtain ⟨h1, h2⟩ := sameW_eq h.1
    obtain ⟨h3, h4⟩ := sameM_eq h.2
    refine ⟨by rw [h1, h3], fun x hx => ?_⟩
    rcases List.mem_cons.1 hx with rfl | hx
    · exact h2
    · exact h4 x hx
  | [], _ :: _, h => by cases h
  | _ :: _, [], h => by cases h

theorem ans_in {P : Program} (hmix : P.follows .mixedOrders = true) {K : FuncId → List Value → Option Value} (hK : Known P K) {fuel : Nat} {f : FuncId} {args : List Value} {v : Value} (ha : args.all af = true) (h : ansB P K fuel f args v = true) (F : Fence) (n : Nat) (w : World) (hF : WideF F) :
    CallsIn F n P f args.toArray w (fun e w' => e = .returned v ∧ RowKit.Below w.heap.size w w') := by
  unfold ansB at h
  split at h
  · rename_i u H1 hc
    obtain ⟨rfl, hv⟩ := sameW_eq h
    have := call_in hmix hK (rel_none P w) hc (scbL_of_af _ (afL_of fun x hx => List.all_eq_true.1 ha x hx)) (F := F) (n := n) hF
    rw [map_af _ args (fun x hx => List.all_eq_true.1 ha x hx)] at this
    refine this.mono ?_
    rintro e w' ⟨ρ1, rfl, s⟩
    exact ⟨by rw [val_af ρ1 _ hv], s.os, s.tape, s.output, s.size, fun b hb => s.old b hb fun n _ _ hg => absurd (none_get _ n) hg⟩
  · cases h

theorem known_nil (P : Program) : Known P (lookK []) := fun f args v h => by cases h

theorem known_cons {P : Program} (hmix : P.follows .mixedOrders = true) {L : List (FuncId × List Value × Value)} (hK : Known P (lookK L)) (fuel : Nat) {f : FuncId} {args : List Value} {v : Value} (ha : args.all af = true) (h : ansB P (lookK L) fuel f args v = true) :
    Known P (lookK ((f, args, v) :: L)) := by
  intro g bs u hu
  unfold lookK at hu
  split at hu
  · rename_i hc
    simp only [Bool.and_eq_true] at hc
    have h1 : f = g := Nat.eq_of_beq_eq_true hc.1
    obtain ⟨h2, _⟩ := sameM_eq hc.2
    subst h1 h2
    simp only [Option.some.injEq] at hu
    subst hu
    have hv : af v = true := by
      unfold ansB at h
      split at h
      · exact (sameW_eq h).2
      · cases h
    exact ⟨fun x hx => List.all_eq_true.1 ha x hx, hv, fun F n w hF => ans_in hmix hK ha h F n w hF⟩
  · exact hK g bs u hu

theorem true_calls {P : Program} (hmix : P.follows .mixedOrders = true) {K : FuncId → List Value → Option Value} (hK : Known P K) {fuel : Nat} {f : FuncId} (h : ansB P K fuel f [] (.bool true) = true) (w : World) :
    Calls P f #[] w (fun e w' => e = .returned (.bool true) ∧ RowKit.Below w.heap.size w w') :=
  (callsIn_wide (n := 0)).1 (ans_in hmix hK rfl h Fence.wide 0 w wide_wide)

end Go.Ax

/- A call's arguments, one of which is a slice of structs of numbers, truth values and strings: an abstract heap that holds its cells. -/
namespace Go.Ax
open Go.ChangeShapes
section
variable {P : Program} {K : Type} {enc : TypeId × Value → K} {w : World} {base : Nat} {spare : Nat → Bool} {held : Bool}

theorem mapM_each {α β : Type} {g : α → Option β} : ∀ {l : List α} {r : List β}, l.mapM g = some r → ∀ x ∈ l, ∃ y, g x = some y
  | [], _, _, x, hx => by cases hx
  | a :: l, r, h, x, hx => by
    rw [List.mapM_cons] at h
    cases hg : g a with
    | none => rw [hg] at h; cases h
    | some y =>
      rw [hg] at h
      cases hl : l.mapM g with
      | none => simp [hl] at h
      | some r' =>
        rcases List.mem_cons.1 hx with rfl | hx
        · exact ⟨y, hg⟩
        · exact mapM_each hl x hx

theorem fits_append : ∀ {ts us : List TypeId} {a b : List Value}, fits P ts a = true → fits P us b = true → fits P (ts ++ us) (a ++ b) = true
  | [], us, [], b, _, h => h
  | [], _, _ :: _, _, h, _ => by simp [fits] at h
  | _ :: _, _, [], _, h, _ => by simp [fits] at h
  | t :: ts, us, v :: a, b, h, h2 => by
    simp only [fits, Bool.and_eq_true] at h
    simp only [List.cons_append, fits, h.1, fits_append h.2 h2, Bool.and_self]

theorem trod_fieldsF {fuel d : Nat} {cs : List Value} (ih : ∀ (t : TypeId) (ts : List TypeId) (cs : List Value) (x : DataW K × List MemPlace), flat P d t = some ts → szOf P t = some ts.length → DataW.trod enc P w base spare held fuel t cs = some x → fits P ts cs = true) :
    ∀ (fs : List Field) (o : Nat) (ts : List TypeId), flatF P (flat P d) fs o = some ts → (∀ f ∈ fs, ∃ y, DataW.trod enc P w base spare held fuel f.type ((cs.drop f.offset).take (P.cellsOf f.type)) = some y) → o + ts.length ≤ cs.length → fits P ts ((cs.drop o).take ts.length) = true
  | [], o, ts, h, _, _ => by
    simp only [flatF, Option.some.injEq] at h
    subst h
    rfl
  | f :: fs, o, ts, h, hy, hle => by
    simp only [flatF] at h
    split at h
    · rename_i hf
      obtain ⟨_, ho⟩ := hf
      cases e1 : flat P d f.type with
      | none => rw [e1] at h; cases h
      | some a =>
        rw [e1] at h
        simp only at h
        split at h
        · rename_i hsz
          cases e2 : flatF P (flat P d) fs (o + a.length) with
          | none => rw [e2] at h; cases h
          | some b =>
            rw [e2] at h
            simp only [Option.some.injEq] at h
            subst h
            rw [List.length_append] at hle
            obtain ⟨y, hy0⟩ := hy f (by simp)
            rw [ho, cellsOf_szOf hsz] at hy0
            have h1 := ih f.type a _ y e1 hsz hy0
            have h2 := trod_fieldsF ih fs (o + a.length) b e2 (fun g hg => hy g (by simp [hg])) (by omega)
            have : (cs.drop o).take (a ++ b).length = (cs.drop o).take a.length ++ (cs.drop (o + a.length)).take b.length := by
              rw [List.length_append, List.take_add, List.drop_drop]
            rw [this]
            exact fits_append h1 h2
        · cases h
    · cases h

theorem trod_fits : ∀ (fuel d : Nat) (t : TypeId) (ts : List TypeId) (cs : List Value) (x : DataW K × List MemPlace), flat P d t = some ts → szOf P t = some ts.length → DataW.trod enc P w base spare held fuel t cs = some x → fits P ts cs = true
  | 0, _, _, _, _, _, _, _, h => by simp [DataW.trod] at h
  | _ + 1, 0, _, _, _, _, h, _, _ => by simp [flat] at h
  | fuel + 1, d + 1, t, ts, cs, x, hf, hs, h => by
    simp only [flat] at hf
    unfold DataW.trod at h
    cases e : P.underlying t with
    | none => rw [e] at hf; cases hf
    | some td =>
      rw [e] at hf h
      cases td with
      | bool =>
        simp only [Option.some.injEq] at hf
        subst hf
        split at h <;> first | cases h | skip
        all_goals first | (rename_i hh; cases hh; done) | skip
        all_goals simp_all [fits, fit1]
      | int k =>
        simp only [Option.some.injEq] at hf
        subst hf
        split at h <;> simp_all [fits, fit1]
      | string =>
        simp only [Option.some.injEq] at hf
        subst hf
        split at h <;> simp_all [fits, fit1]
      | struct fs =>
        simp only at hf
        split at hf
        · cases hf
        · simp only at h
          split at h
          · rename_i hlen
            rw [cellsOf_szOf hs] at hlen
            cases hm : fs.toList.mapM fun f => DataW.trod enc P w base spare held fuel f.type ((cs.drop f.offset).take (P.cellsOf f.type)) with
            | none => rw [hm] at h; cases h
            | some xs =>
              have := trod_fieldsF (cs := cs) (fun t ts cs x => trod_fits fuel d t ts cs x) fs.toList 0 ts hf (mapM_each hm) (by omega)
              rw [List.drop_zero, List.take_of_length_le (by omega)] at this
              exact this
          · cases h
      | _ => simp at hf

theorem trod_slice {fuel : Nat} {t e : TypeId} {ts : List TypeId} {D : Nat} (ht : P.underlying t = some (.slice e)) (hsz : szOf P e = some ts.length) (hfl : flat P D e = some ts) {b off len cap : Nat} {x : DataW K × List MemPlace}
    (h : DataW.trod enc P w 0 spare held fuel t [.slice (some ⟨b, off, none⟩) len cap] = some x) (hnf : w.noneFrozen x.2) :
    len ≤ cap ∧ (len * ts.length = 0 ∨ ∃ (c : Array Value) (e' : TypeId) (fz : Nat × Nat) (vs : List Value), w.heap[b]? = some (.cells c e' fz) ∧ vs.length = len * ts.length ∧ (∀ i, i < vs.length → c[off + i]? = some (vs.getD i undef)) ∧
      (∀ i, i < len → fits P ts ((vs.drop (i * ts.length)).take ts.length) = true) ∧ ∀ i, off ≤ i → i < off + len * ts.length → ¬ (fz.1 ≤ i ∧ i < fz.2)) := by
  cases fuel with
  | zero => simp [DataW.trod] at h
  | succ fuel =>
    unfold DataW.trod at h
    rw [ht] at h
    simp only [cellsOf_szOf hsz] at h
    split at h
    · rename_i hc
      refine ⟨hc.2.1, ?_⟩
      by_cases h0 : len * ts.length = 0
      · exact .inl h0
      right
      cases hm : (List.range len).mapM fun i => (w.cells? 0 ((⟨b, off, none⟩ : Addr).add (i * ts.length)) ts.length).bind (DataW.trod enc P w 0 spare held fuel e) with
      | none => rw [hm] at h; cases h
      | some elems =>
        rw [hm, Option.bind_some] at h
        have hel : elems.length = len := by have := mapM_len hm; simpa using this
        have each : ∀ i, i < len → ∃ cs y, w.cells? 0 ((⟨b, off, none⟩ : Addr).add (i * ts.length)) ts.length = some cs ∧ DataW.trod enc P w 0 spare held fuel e cs = some y := fun i hi => by
          obtain ⟨y, hy⟩ := mapM_each hm i (by simpa using hi)
          cases hcs : w.cells? 0 ((⟨b, off, none⟩ : Addr).add (i * ts.length)) ts.length with
          | none => rw [hcs] at hy; cases hy
          | some cs => rw [hcs] at hy; exact ⟨cs, y, rfl, hy⟩
        have cell : ∀ i, i < len * ts.length → ∃ v, w.cell? ⟨b, off + i, none⟩ = some v := fun i hi => by
          have hp : 0 < ts.length := Nat.pos_of_ne_zero fun h => h0 (by rw [h, Nat.mul_zero])
          have hq : i / ts.length < len := (Nat.div_lt_iff_lt_mul hp).2 hi
          obtain ⟨cs, y, hcs, _⟩ := each _ hq
          unfold World.cells? at hcs
          rw [if_pos (Nat.zero_le _)] at hcs
          obtain ⟨v, hv⟩ := mapM_each hcs (i % ts.length) (by simpa using Nat.mod_lt _ hp)
          rw [addr_add, addr_add] at hv
          have : off + i / ts.length * ts.length + i % ts.length = off + i := by rw [Nat.add_assoc, Nat.mul_comm, Nat.div_add_mod]
          rw [this] at hv
          exact ⟨v, hv⟩
        obtain ⟨v0, hv0⟩ := cell 0 (by omega)
        unfold World.cell? at hv0
        cases hb : w.heap[b]? with
        | none => simp [hb] at hv0
        | some o =>
          cases o with
          | cells c e' fz =>
            have cell' : ∀ i, i < len * ts.length → ∃ v, c[off + i]? = some v := fun i hi => by
              obtain ⟨v, hv⟩ := cell i hi
              simp only [World.cell?, hb] at hv
              exact ⟨v, by simpa using hv⟩
            obtain ⟨vs, hvs⟩ : ∃ vs : List Value, vs = (List.range (len * ts.length)).map fun i => (c[off + i]?).getD undef := ⟨_, rfl⟩
            have hvl : vs.length = len * ts.length := by simp [hvs]
            have hvg : ∀ i, i < vs.length → c[off + i]? = some (vs.getD i undef) := fun i hi => by
              rw [hvl] at hi
              obtain ⟨v, hv⟩ := cell' i hi
              simp [hvs, hi, hv, List.getD_eq_getElem?_getD]
            refine ⟨c, e', fz, vs, rfl, hvl, hvg, fun i hi => ?_, fun i h1 h2 => ?_⟩
            · obtain ⟨cs, y, hcs, hy⟩ := each i hi
              have hcs' : (vs.drop (i * ts.length)).take ts.length = cs := by
                unfold World.cells? at hcs
                rw [if_pos (Nat.zero_le _)] at hcs
                have hin : i * ts.length + ts.length ≤ len * ts.length := by rw [← Nat.succ_mul]; exact Nat.mul_le_mul_right _ hi
                have hr := mapM_range_of (f := fun j => w.cell? (((⟨b, off, none⟩ : Addr).add (i * ts.length)).add j)) (g := fun j => vs.getD (i * ts.length + j) undef) ts.length (fun j hj => by
                  have h3 := hvg (i * ts.length + j) (by rw [hvl]; omega)
                  rw [addr_add, addr_add, Nat.add_assoc]
                  simp [World.cell?, hb, h3])
                rw [hr] at hcs
                cases hcs
                apply List.ext_getElem?
                intro j
                by_cases hj : j < ts.length
                · rw [List.getElem?_take, if_pos hj, List.getElem?_drop, List.getElem?_map, List.getElem?_range hj, List.getElem?_eq_getElem (by rw [hvl]; omega)]
                  simp only [Option.map_some, List.getD_eq_getElem?_getD]
                  rw [List.getElem?_eq_getElem (by rw [hvl]; omega)]
                  rfl
                · rw [List.getElem?_eq_none (by simp; omega), List.getElem?_eq_none (by simp; omega)]
              rw [hcs']
              exact trod_fits fuel D e ts cs y hfl hsz hy
            · have hmem : MemPlace.cell b i ∈ x.2 := by
                cases hrest : (if spare b then (List.range (cap - len)).mapM fun j => (w.cells? 0 ((⟨b, off, none⟩ : Addr).add ((len + j) * ts.length)) ts.length).bind (DataW.trod enc P w 0 spare held fuel e) else some []) with
                | none => rw [hrest] at h; cases h
                | some rest =>
                  rw [hrest] at h
                  simp only [Option.map_some, Option.some.injEq] at h
                  subst h
                  simp only [List.mem_append]
                  left
                  unfold MemPlace.row
                  rw [List.mem_map]
                  refine ⟨i - off, ?_, by simp only [MemPlace.cell.injEq, true_and]; omega⟩
                  rw [List.mem_range, hel, Nat.add_mul]
                  omega
              have := hnf b i hmem
              intro hh
              simp only [World.frozen?, hb] at this
              simp [hh.1, hh.2] at this
          | _ => simp [hb] at hv0
    · cases h

def enH (N : Nat) (e : TypeId) (vs : List Value) : AHeap := { nw (AHeap.none N) e vs true with base := N + 1 }
theorem enH_next {N : Nat} {e : TypeId} {vs : List Value} : (enH N e vs).next = N + 1 := rfl
theorem enH_bk {N : Nat} {e : TypeId} {vs : List Value} : bk (enH N e vs) N = some ⟨e, true, vs⟩ := by
  have := blk_bk (Blk.nw_new (H := AHeap.none N) e true vs)
  exact this
theorem enH_get {N m : Nat} {e : TypeId} {vs : List Value} (h : m ≠ N) : (enH N e vs).get m = none := by
  have := nw_get (H := AHeap.none N) e vs true (m := m) h
  rw [none_get] at this
  exact this

def enR (N b off : Nat) : Ren := ⟨fun n => if n = N then b else n, fun n => if n = N then off else 0, fun _ => 0, fun _ => .nilIface, fun _ => rfl⟩

theorem rel_en {N b off : Nat} {e : TypeId} {vs : List Value} {c : Array Value} {fz : Nat × Nat} (hN : P.globals.size ≤ N) (hb : w.heap[b]? = some (.cells c e fz)) (hc : ∀ i, i < vs.length → c[off + i]? = some (vs.getD i undef)) (h0 : 0 < vs.length) (ha : afL vs = true) (hf : ∀ i, off ≤ i → i < off + vs.length → ¬ (fz.1 ≤ i ∧ i < fz.2)) :
    Rel P (enR N b off) (enH N e vs) w := by
  have hget : (enH N e vs).get N = some ⟨.cells #[] e, true, RV.ofList vs⟩ := by
    have : (nw (AHeap.none N) e vs true).get N = some ⟨.cells #[] e, true, RV.ofList vs⟩ := by rw [nw, AHeap.get_new, if_pos (show N = (AHeap.none N).next from rfl)]
    exact this
  have hav : ∀ x ∈ vs, af x = true := by
    intro x hx
    clear hc hf hget h0
    induction vs with
    | nil => cases hx
    | cons y ys ih =>
      simp only [afL, Bool.and_eq_true] at ha
      rcases List.mem_cons.1 hx with rfl | hx
      · exact ha.1
      · exact ih ha.2 hx
  have hgd : ∀ i, i < vs.length → af (vs.getD i undef) = true := fun i hi => hav _ (by simp [List.getD_eq_getElem?_getD, List.getElem?_eq_getElem hi])
  refine ⟨Nat.le_refl _, ⟨Nat.le_succ_of_le hN, fun g hg => ?_⟩, fun m n hm hn _ => ?_, fun n o hn => ?_, fun n o hn => ?_⟩
  · have : g ≠ N := by omega
    exact ⟨if_neg this, if_neg this⟩
  · have e1 : m = N := Decidable.byContradiction fun h => hm (enH_get h)
    have e2 : n = N := Decidable.byContradiction fun h => hn (enH_get h)
    rw [e1, e2]
  · by_cases h : n = N
    · subst h
      rw [hget] at hn
      cases hn
      refine ⟨Nat.lt_succ_self _, ?_⟩
      simp only [sco, RV.n_ofList, RV.get_ofList]
      intro i hi
      exact scb_of_af _ (hgd i hi)
    · rw [enH_get h] at hn; cases hn
  · by_cases h : n = N
    · subst h
      rw [hget] at hn
      cases hn
      refine ⟨_, by simp only [enR, if_pos]; exact hb, ?_⟩
      simp only [Fits]
      refine ⟨c, fz, rfl, fun i hi => ?_, fun h => (by cases h), fun _ => ⟨?_, ?_⟩⟩
      · simp only [RV.n_ofList] at hi
        rw [RV.get_ofList, val_af _ _ (hgd i hi)]
        simp only [enR, if_pos]
        rw [Nat.add_comm]
        exact hc i hi
      · simp only [enR, if_pos, RV.n_ofList, Nat.zero_mul, Nat.add_zero]
        have := hc (vs.length - 1) (by omega)
        rcases Nat.lt_or_ge (off + (vs.length - 1)) c.size with h1 | h1
        · omega
        · rw [Array.getElem?_eq_none h1] at this; cases this
      · simp only [enR, if_pos, RV.n_ofList, Nat.zero_mul, Nat.add_zero]
        exact hf
    · rw [enH_get h] at hn; cases hn

theorem rel_calls {f : FuncId} {args : List Value} {H : AHeap} {ρ : Ren} (r : Rel P ρ H w) (hsc : scbL H.next args = true) (hbase : H.base = H.next) (hd : H.dirty = []) (h : CallA P f args H fun out H1 => out = .ok (.bool true) ∧ Mod [] H H1) :
    Calls P f (args.map ρ.val).toArray w (fun e w' => e = .returned (.bool true) ∧ RowKit.Below w.heap.size w w') := by
  obtain ⟨_, H1, hc, rfl, m⟩ := h
  refine (callsIn_wide (n := 0)).1 (hc ρ w r hsc Fence.wide 0 _ wide_wide ?_)
  intro ρ1 w1 s _
  refine ⟨by rw [Ren.val], s.os, s.tape, s.output, s.size, fun b hb => s.old b hb fun n hn hor _ => ?_⟩
  rcases hor with h | h
  · omega
  · rcases m.dirty n h with h | h
    · rw [hd] at h; cases h
    · exact absurd h.1 (by simp)

theorem callS_ans (hmix : P.follows .mixedOrders = true) {L : FuncId → List Value → Option Value} (hK : Known P L) {fuel : Nat} {f : FuncId} {args : List Value} {v : Value} (ha : args.all af = true) (h : ansB P L fuel f args v = true) (H : AHeap) : CallS P f args H (.ok v) H := by
  intro ρ w r hsc F n R hF hR
  rw [map_af ρ args (fun x hx => List.all_eq_true.1 ha x hx)]
  have hv : af v = true := by
    unfold ansB at h
    split at h
    · exact (sameW_eq h).2
    · cases h
  refine (ans_in hmix hK ha h F n w hF).mono ?_
  rintro e w' ⟨rfl, hb⟩
  have := hR ρ w' (St.below r hb) (scb_of_af _ hv)
  rwa [val_af ρ _ hv] at this
end
end Go.Ax

/- Walks over abstract heaps: conversions of numbers, copy, slices of exact slices. -/
namespace Go.Ax
section
variable {P : Program} {H : AHeap} {N : Nat} {E : Env} {ds : List Deferred} {ro : Option Nat} {ops : Array Oper} {rest : List Oper} {d : Nat} {ty : TypeId} {pos : String} {after : Array Edge}

theorem w_convert {Q : Exit → AAct → AHeap → Prop} {x : Operand} {s t : TypeId} (hx : opOk P N x = true) : wpOps P ro ops (⟨some d, .convert s t x, ty, pos, after, none⟩ :: rest) (mkA N E ds) H Q = heapC P ro ops rest N E ds (some d) Q (aConvert P H s t (opv E x)) :=
  w_rvh rfl (by simp only [aop, xConvert, aeval_opv hx, Option.bind_eq_bind, Option.bind_some])

theorem cv_int {s t : TypeId} {u : TypeDesc} {k k0 : IntKind} {n : Int} (hs : P.underlying s = some u) (ht : P.underlying t = some (.int k)) : aConvert P H s t (.int k0 n) = some (.int k (k.wrap n), H) := by
  simp only [aConvert, hs, ht]

theorem mk_slice {t e : TypeId} {sz by1 n : Nat} {z : Value} (hu : P.underlying t = some (.slice e)) (hsz : szOf P e = some sz) (hby : bytesOf P e = some by1) (hz : zeroOf P e = some z) (hzl : z.cells.toList.length = sz) (hsm : small n by1 = true) :
    aMakeSlice P H t (.int .i64 (n : Int)) (.int .i64 (n : Int)) = (aNew H e (zerosL z.cells.toList n) false).map fun g => (.slice (some ⟨H.next, 0, some 0⟩) n n, g) := by
  simp only [aMakeSlice, hu, hsz, hby, hz, Option.bind_eq_bind, Option.bind_some, Int.toNat_natCast]
  rw [if_pos ⟨by omega, Int.le_refl _, hsm, hzl⟩]
  cases aNew H e (zerosL z.cells.toList n) false <;> rfl

theorem cp_slice {dt st e : TypeId} {sz m off dl dc n off2 sl sc : Nat} {s s2 : Option Nat} {b : Bl} (hu : P.underlying dt = some (.slice e)) (hsz : szOf P e = some sz) (hs : s.getD 0 = 0) (hb : bk H n = some b) (hle : off2 + Nat.min sl dl * sz ≤ b.l.length) :
    aBuiltin P H .copy ⟨[dt, st]⟩ [.slice (some ⟨m, off, s⟩) dl dc, .slice (some ⟨n, off2, s2⟩) sl sc] = (aWrite H m off ((b.l.drop off2).take (Nat.min sl dl * sz))).map fun g => (goInt (Nat.min sl dl), g) := by
  simp only [aBuiltin, aCopy, hu, hsz, Option.bind_eq_bind, Option.bind_some, lenV, first_bk hb hle]
  rw [if_pos (.inl hs)]
  cases aWrite H m off ((b.l.drop off2).take (Nat.min sl dl * sz)) <;> rfl

theorem sl_exact {t e : TypeId} {sz n off len cap : Nat} {lo hi : Option Value} {l h : Nat} (hu : P.underlying t = some (.slice e)) (hsz : szOf P e = some sz) (hl : bound 0 lo = some l) (hh : bound len hi = some h) (h1 : h ≤ cap) (h2 : l ≤ h) (h3 : l < cap) :
    aSlice P H t (.slice (some ⟨n, off, some 0⟩) len cap) lo hi none = some (.slice (some ⟨n, off + l * sz, some 0⟩) (h - l) (cap - l), H) := by
  simp only [aSlice, hu, hsz, aSlice2, hl, hh, Option.bind_eq_bind, Option.bind_some, exactAt]
  rw [if_pos ⟨h1, h2⟩, if_neg (by omega)]

theorem wd_slice {Q : AAct → AHeap → Prop} {i : Nat} {fps : List Fp} {anc : List Nat} {t : TypeId} {x : Operand} {lo hi mx : Option Operand} {dst : Option Nat} :
    wkD P ops anc (⟨dst, .slice t x lo hi mx, ty, pos, after, none⟩ :: rest) i fps (mkA N E ds) H Q = genV P ops anc ⟨dst, .slice t x lo hi mx, ty, pos, after, none⟩ rest i fps (mkA N E ds) H Q := by
  simp only [wkD, wantA, stepD, pureOp, restD, newOp, genV]
theorem wd_copy {Q : AAct → AHeap → Prop} {i : Nat} {fps : List Fp} {anc : List Nat} {args : List Operand} {ts : Array TypeId} {dst : Option Nat} (ha : args.all (opOk P N) = true) :
    wkD P ops anc (⟨dst, .call ⟨.builtin .copy, ⟨args⟩, ts⟩, ty, pos, after, none⟩ :: rest) i fps (mkA N E ds) H Q = genV P ops anc ⟨dst, .call ⟨.builtin .copy, ⟨args⟩, ts⟩, ty, pos, after, none⟩ rest i fps (mkA N E ds) H Q := by
  simp only [wkD, wantA, stepD, pureOp, restD, newOp, genV, aevals_opv ha, btD, regBt]

theorem genV_val {o : Oper} {Q : AAct → AHeap → Prop} {i : Nat} {fps : List Fp} {anc : List Nat} {v : Value} (hdst : o.dst = some d) (hd : d < N) (hop : ∀ G, aop o.op P (mkA N E ds) G = some (.value v, G)) (hm : ∀ r ∈ fps, Meets (anc.getD i 0) [] [] (idsV v ++ ([] : List Bl).flatMap fun x => idsL x.l) r)
    (h : wkD P ops anc rest (i + 1) (⟨i, [], [], H.next, H.next + 0⟩ :: fps) (mkA N (upd E d v) ds) H Q) : genV P ops anc o rest i fps (mkA N E ds) H Q :=
  genV_extO (v := v) (M := []) [] hdst hd (fun _ h => by cases h) (fun G _ _ => opS_of (x := .value v) (g := G) (hop G) ⟨rfl, rfl⟩) hm h

theorem slice_aop {t : TypeId} {x : Operand} {lo hi mx : Option Operand} {v : Value} {G : AHeap} (hx : opOk P N x = true) (h1 : bndsOk P N lo = true) (h2 : bndsOk P N hi = true) (h3 : bndsOk P N mx = true) (h : aSlice P G t (opv E x) (bnds E lo) (bnds E hi) (bnds E mx) = some (v, G)) :
    aop (.slice t x lo hi mx) P (mkA N E ds) G = some (.value v, G) := by
  simp only [aop, xSlice, aeval_opv hx, optEval_b h1, optEval_b h2, optEval_b h3, Option.bind_eq_bind, Option.bind_some, h, rvh, Option.map_some]
theorem builtin_op {args : List Operand} {b : Builtin} {ts : Array TypeId} {dst : Option Nat} {v : Value} {G : AHeap} (ha : args.all (opOk P N) = true) (h : aBuiltin P H b ts (args.map (opv E)) = some (v, G)) : OpS P (mkA N E ds) H ⟨dst, .call ⟨.builtin b, ⟨args⟩, ts⟩, ty, pos, after, none⟩ (.ok v) G :=
  opS_of (x := .value v) (g := G) (by simp only [aop, xCall, aevals_opv ha, Option.bind_eq_bind, Option.bind_some, h, rvh, Option.map_some]) ⟨rfl, rfl⟩

end
end Go.Ax

/- Package variables whose contents are known (tables of numbers): heaps that hold them. -/
namespace Go.Ax
section
variable {P : Program} {K : Type} {enc : TypeId × Value → K} {w : World} {base : Nat} {spare : Nat → Bool} {held : Bool}

mutual
def dc : DataW K → List Value
  | .lit (.int k z) => [.int k z]
  | .lit (.bool b) => [.bool b]
  | .agg l => dcL l
  | _ => []
def dcL : List (DataW K) → List Value
  | [] => []
  | d :: r => dc d ++ dcL r
end
mutual
def dok : DataW K → Bool
  | .lit (.int _ _) => true
  | .lit (.bool _) => true
  | .agg l => dokL l
  | _ => false
def dokL : List (DataW K) → Bool
  | [] => true
  | d :: r => dok d && dokL r
end

theorem mapM_cons_some {α β : Type} {g : α → Option β} {a : α} {l : List α} {r : List β} (h : (a :: l).mapM g = some r) : ∃ y ys, g a = some y ∧ l.mapM g = some ys ∧ r = y :: ys := by
  rw [List.mapM_cons] at h
  cases hg : g a with
  | none => rw [hg] at h; cases h
  | some y =>
    rw [hg] at h
    cases hl : l.mapM g with
    | none => simp [hl] at h
    | some ys => simp [hl] at h; exact ⟨y, ys, rfl, rfl, h.symm⟩

theorem trod_fieldsD {fuel d : Nat} {cs : List Value} (ih : ∀ (t : TypeId) (ts : List TypeId) (cs : List Value) (x : DataW K × List MemPlace), flat P d t = some ts → szOf P t = some ts.length → DataW.trod enc P w base spare held fuel t cs = some x → dok x.1 = true → cs = dc x.1) :
    ∀ (fs : List Field) (o : Nat) (ts : List TypeId) (xs : List (DataW K × List MemPlace)), flatF P (flat P d) fs o = some ts → (fs.mapM fun f => DataW.trod enc P w base spare held fuel f.type ((cs.drop f.offset).take (P.cellsOf f.type))) = some xs → dokL (xs.map (·.1)) = true → o + ts.length ≤ cs.length → (cs.drop o).take ts.length = dcL (xs.map (·.1))
  | [], o, ts, xs, h, hm, _, _ => by
    simp only [flatF, Option.some.injEq] at h
    subst h
    simp at hm
    subst hm
    simp [dcL]
  | f :: fs, o, ts, xs, h, hm, hk, hle => by
    simp only [flatF] at h
    split at h
    · rename_i hf
      obtain ⟨_, ho⟩ := hf
      cases e1 : flat P d f.type with
      | none => rw [e1] at h; cases h
      | some a =>
        rw [e1] at h
        simp only at h
        split at h
        · rename_i hsz
          cases e2 : flatF P (flat P d) fs (o + a.length) with
          | none => rw [e2] at h; cases h
          | some b =>
            rw [e2] at h
            simp only [Option.some.injEq] at h
            subst h
            rw [List.length_append] at hle
            obtain ⟨y, ys, hy, hys, rfl⟩ := mapM_cons_some hm
            simp only [List.map_cons, dokL, Bool.and_eq_true] at hk
            rw [ho, cellsOf_szOf hsz] at hy
            have h1 := ih f.type a _ y e1 hsz hy hk.1
            have h2 := trod_fieldsD ih fs (o + a.length) b ys e2 hys hk.2 (by omega)
            have : (cs.drop o).take (a ++ b).length = (cs.drop o).take a.length ++ (cs.drop (o + a.length)).take b.length := by
              rw [List.length_append, List.take_add, List.drop_drop]
            rw [this, h1, h2]
            simp only [List.map_cons, dcL]
        · cases h
    · cases h

theorem trod_dc : ∀ (fuel d : Nat) (t : TypeId) (ts : List TypeId) (cs : List Value) (x : DataW K × List MemPlace), flat P d t = some ts → szOf P t = some ts.length → DataW.trod enc P w base spare held fuel t cs = some x → dok x.1 = true → cs = dc x.1
  | 0, _, _, _, _, _, _, _, h, _ => by simp [DataW.trod] at h
  | _ + 1, 0, _, _, _, _, h, _, _, _ => by simp [flat] at h
  | fuel + 1, d + 1, t, ts, cs, x, hf, hs, h, hk => by
    simp only [flat] at hf
    unfold DataW.trod at h
    cases e : P.underlying t with
    | none => rw [e] at hf; cases hf
    | some td =>
      rw [e] at hf h
      cases td with
      | bool =>
        simp only at h
        split at h <;> first | (simp only [Option.some.injEq] at h; subst h; rfl) | cases h | skip
        all_goals (rename_i hh; cases hh)
      | int k =>
        simp only at h
        split at h <;> first | (simp only [Option.some.injEq] at h; subst h; simp_all [dc]; done) | cases h | skip
        all_goals simp_all [dc]
        all_goals (obtain ⟨h1, rfl⟩ := h; simp [dc])
      | string =>
        simp only at h
        split at h <;> first | (simp only [Option.some.injEq] at h; subst h; simp [dok] at hk; done) | cases h | skip
        all_goals simp_all
        all_goals (obtain ⟨_, rfl⟩ := h; simp [dok] at hk)
      | struct fs =>
        simp only at hf
        split at hf
        · cases hf
        · simp only at h
          split at h
          · rename_i hlen
            rw [cellsOf_szOf hs] at hlen
            cases hm : fs.toList.mapM fun f => DataW.trod enc P w base spare held fuel f.type ((cs.drop f.offset).take (P.cellsOf f.type)) with
            | none => rw [hm] at h; cases h
            | some xs =>
              rw [hm] at h
              simp only [Option.map_some, Option.some.injEq] at h
              subst h
              simp only [dok] at hk
              have := trod_fieldsD (cs := cs) (fun t ts cs x => trod_dc fuel d t ts cs x) fs.toList 0 ts xs hf hm hk (by omega)
              rw [List.drop_zero, List.take_of_length_le (by omega)] at this
              rw [this, dc]
          · cases h
      | _ => simp at hf

theorem cut_flat {α : Type} {m : Nat} : ∀ (n : Nat) (cs : List α), cs.length = n * m → cs = ((List.range n).map fun i => (cs.drop (i * m)).take m).flatten
  | 0, cs, h => by
    have : cs = [] := List.eq_nil_of_length_eq_zero (by simpa using h)
    subst this
    rfl
  | n + 1, cs, h => by
    have h1 : (cs.drop m).length = n * m := by rw [List.length_drop, h, Nat.succ_mul]; omega
    have h2 := cut_flat n (cs.drop m) h1
    rw [List.range_succ_eq_map, List.map_cons, List.flatten_cons, List.map_map, Nat.zero_mul, List.drop_zero]
    have : ((List.range n).map ((fun i => (cs.drop (i * m)).take m) ∘ Nat.succ)) = (List.range n).map fun i => ((cs.drop m).drop (i * m)).take m := by
      apply List.map_congr_left
      intro i _
      simp only [Function.comp, List.drop_drop, Nat.succ_mul]
      rw [Nat.add_comm]
    rw [this, ← h2, List.take_append_drop]

theorem dcL_flat : ∀ (ds : List (DataW K)), dcL ds = (ds.map dc).flatten
  | [] => rfl
  | d :: r => by simp only [dcL, List.map_cons, List.flatten_cons, dcL_flat r]
theorem dokL_all : ∀ {ds : List (DataW K)}, dokL ds = true → ∀ d ∈ ds, dok d = true
  | [], _, _, h => by cases h
  | d :: r, h, x, hx => by
    simp only [dokL, Bool.and_eq_true] at h
    rcases List.mem_cons.1 hx with rfl | hx
    · exact h.1
    · exact dokL_all h.2 x hx

theorem mapM_map {α β γ : Type} {f : α → Option β} {g : α → γ} {h : β → γ} : ∀ {l : List α} {r : List β}, l.mapM f = some r → (∀ a ∈ l, ∀ b ∈ r, f a = some b → g a = h b) → l.map g = r.map h
  | [], r, hm, _ => by simp at hm; subst hm; rfl
  | a :: l, r, hm, hg => by
    obtain ⟨y, ys, h1, h2, rfl⟩ := mapM_cons_some hm
    rw [List.map_cons, List.map_cons, hg a (by simp) y (by simp) h1, mapM_map h2 fun a ha b hb => hg a (by simp [ha]) b (by simp [hb])]

theorem trod_arr {fuel : Nat} {t e : TypeId} {ts : List TypeId} {D n : Nat} {cs : List Value} {x : DataW K × List MemPlace} (hu : P.underlying t = some (.array n e)) (hsz : szOf P e = some ts.length) (hfl : flat P D e = some ts) (hst : szOf P t = some (n * ts.length))
    (h : DataW.trod enc P w base spare held fuel t cs = some x) (hk : dok x.1 = true) : cs = dc x.1 := by
  cases fuel with
  | zero => simp [DataW.trod] at h
  | succ fuel =>
    unfold DataW.trod at h
    rw [hu] at h
    simp only [cellsOf_szOf hsz, cellsOf_szOf hst] at h
    split at h
    · rename_i hl
      cases hm : (List.range n).mapM fun i => DataW.trod enc P w base spare held fuel e ((cs.drop (i * ts.length)).take ts.length) with
      | none => rw [hm] at h; cases h
      | some xs =>
        rw [hm] at h
        simp only [Option.map_some, Option.some.injEq] at h
        subst h
        simp only [dok] at hk
        rw [dc, dcL_flat, List.map_map]
        refine (cut_flat n cs hl).trans (congrArg List.flatten (mapM_map hm fun i _ y hy hf => ?_))
        exact trod_dc fuel D e ts _ y hfl hsz hf (dokL_all hk _ (List.mem_map_of_mem hy))
    · cases h

theorem laid_at : ∀ {laid : List (String × DataW Unit)} {ps : List MemPlace}, DataW.LaidVars P w laid ps → ∀ {x : String × DataW Unit}, x ∈ laid → ∃ g t cs fuel p, P.globalNamed x.1 = some g ∧ (P.globals[g]?).map (·.type) = some t ∧ w.var? P x.1 = some cs ∧ DataW.trod (fun _ => ()) P w 0 (fun _ => true) false fuel t cs.toList = some (x.2, p) ∧ ∀ y ∈ MemPlace.row ⟨g, 0, none⟩ cs.size, y ∈ ps
  | [], _, _, _, hx => by cases hx
  | (n, d) :: r, ps, h, x, hx => by
    obtain ⟨g, t, cs, fuel, p, q, h1, h2, h3, h4, h5, rfl⟩ := h
    rcases List.mem_cons.1 hx with rfl | hx
    · exact ⟨g, t, cs, fuel, p, h1, h2, h3, h4, fun y hy => by simp [hy]⟩
    · obtain ⟨g, t, cs, fuel, p, k1, k2, k3, k4, k5⟩ := laid_at h5 hx
      exact ⟨g, t, cs, fuel, p, k1, k2, k3, k4, fun y hy => by simp [k5 y hy]⟩

theorem laid_tab {laid : List (String × DataW Unit)} (h : laidMet P laid w) {name : String} {d : DataW Unit} (hx : (name, d) ∈ laid) {g : Nat} {t e : TypeId} {ts : List TypeId} {D n : Nat} (hg : P.globalNamed name = some g) (ht : (P.globals[g]?).map (·.type) = some t)
    (hu : P.underlying t = some (.array n e)) (hsz : szOf P e = some ts.length) (hfl : flat P D e = some ts) (hst : szOf P t = some (n * ts.length)) (hk : dok d = true) (hpos : 0 < (dc d).length) :
    ∃ (c : Array Value) (ty : TypeId), w.heap[g]? = some (.cells c ty (0, 0)) ∧ c.toList = dc d := by
  obtain ⟨ps, hl, _, hz⟩ := h
  obtain ⟨g', t', cs, fuel, p, h1, h2, h3, h4, h5⟩ := laid_at hl hx
  obtain rfl := Option.some.inj (hg.symm.trans h1)
  obtain rfl := Option.some.inj (ht.symm.trans h2)
  have hcs := trod_arr hu hsz hfl hst h4 hk
  have hpos' : 0 < cs.size := by rw [← hcs] at hpos; simpa using hpos
  obtain ⟨⟨c, ty, hb⟩, _⟩ := hz g 0 (h5 _ (by unfold MemPlace.row; rw [List.mem_map]; exact ⟨0, by simpa using hpos', rfl⟩))
  refine ⟨c, ty, hb, ?_⟩
  have : w.var? P name = some c := by simp only [World.var?, hg, Option.bind_some, hb]
  obtain rfl := Option.some.inj (this.symm.trans h3)
  exact hcs

def tabO (e : TypeId) (vs : List Value) : AObj := ⟨.cells #[] e, false, RV.ofList vs⟩

theorem rel_tab {ρ : Ren} {H : AHeap} {g : Nat} {e : TypeId} {c : Array Value} {vs : List Value} (r : Rel P ρ H w) (hg : g < P.globals.size) (hex : ρ.ex g = 0) (hinj : ∀ n, H.get n ≠ none → ρ.blk n = g → n = g)
    (hb : w.heap[g]? = some (.cells c e (0, 0))) (hc : c.toList = vs) (ha : afL vs = true) : Rel P ρ (H.put g (some (tabO e vs))) w := by
  obtain ⟨hbk, hsh⟩ := r.glob.2 g hg
  have hav : ∀ x ∈ vs, af x = true := by
    intro x hx
    clear hc hinj
    induction vs with
    | nil => cases hx
    | cons y ys ih =>
      simp only [afL, Bool.and_eq_true] at ha
      rcases List.mem_cons.1 hx with rfl | hx
      · exact ha.1
      · exact ih ha.2 hx
  have hgd : ∀ i, i < vs.length → af (vs.getD i undef) = true := fun i hi => hav _ (by simp [List.getD_eq_getElem?_getD, List.getElem?_eq_getElem hi])
  have hget : ∀ m, (H.put g (some (tabO e vs))).get m = if m = g then some (tabO e vs) else H.get m := fun m => AHeap.get_put H g _ m
  refine ⟨r.base, r.glob, fun m n hm hn he => ?_, fun n o hn => ?_, fun n o hn => ?_⟩
  · rw [hget] at hm hn
    by_cases h1 : m = g
    · subst h1
      by_cases h2 : n = m
      · exact h2.symm
      · rw [if_neg h2] at hn
        exact (hinj n hn (he.symm.trans hbk)).symm
    · rw [if_neg h1] at hm
      by_cases h2 : n = g
      · subst h2
        exact hinj m hm (he.trans hbk)
      · rw [if_neg h2] at hn
        exact r.inj m n hm hn he
  · rw [hget] at hn
    by_cases h : n = g
    · subst h
      rw [if_pos rfl] at hn
      cases hn
      refine ⟨Nat.lt_of_lt_of_le hg r.glob.1, ?_⟩
      simp only [sco, tabO, RV.n_ofList, RV.get_ofList]
      intro i hi
      exact scb_of_af _ (hgd i hi)
    · rw [if_neg h] at hn
      exact r.dom n o hn
  · rw [hget] at hn
    by_cases h : n = g
    · subst h
      rw [if_pos rfl] at hn
      cases hn
      refine ⟨_, by rw [hbk]; exact hb, ?_⟩
      have hcs : c.size = vs.length := by rw [← hc]; simp
      simp only [Fits, tabO]
      refine ⟨c, (0, 0), rfl, fun i hi => ?_, fun _ => ⟨by rw [RV.n_ofList, hcs], hsh, hex, rfl⟩, fun h => (by cases h)⟩
      simp only [RV.n_ofList] at hi
      rw [RV.get_ofList, val_af _ _ (hgd i hi), hsh, Nat.add_zero]
      subst hc
      have : i < c.size := by simpa using hi
      simp [List.getD_eq_getElem?_getD, this]
    · rw [if_neg h] at hn
      exact r.obj n o hn

def tabsH (N : Nat) : List (Nat × TypeId × List Value) → AHeap
  | [] => AHeap.none N
  | (g, e, vs) :: r => (tabsH N r).put g (some (tabO e vs))
theorem tabsH_next (N : Nat) : ∀ T, (tabsH N T).next = N ∧ (tabsH N T).base = N ∧ (tabsH N T).dirty = []
  | [] => ⟨rfl, rfl, rfl⟩
  | (_, _, _) :: r => tabsH_next N r

def ansT (P : Program) (K : FuncId → List Value → Option Value) (fuel : Nat) (f : FuncId) (args : List Value) (v : Value) (T : List (Nat × TypeId × List Value)) : Bool :=
  match call P K fuel f args (tabsH P.globals.size T) with
  | some (.ok u, H1) => sameW u v && H1.dirty.isEmpty
  | _ => false

theorem rel_tabs : ∀ (T : List (Nat × TypeId × List Value)), (∀ x ∈ T, x.1 < P.globals.size ∧ afL x.2.2 = true ∧ ∃ c, w.heap[x.1]? = some (.cells c x.2.1 (0, 0)) ∧ c.toList = x.2.2) → Rel P Ren.same (tabsH P.globals.size T) w
  | [], _ => rel_none P w
  | (g, e, vs) :: r, h => by
    obtain ⟨h1, h2, c, h3, h4⟩ := h (g, e, vs) (by simp)
    exact rel_tab (rel_tabs r fun x hx => h x (by simp [hx])) h1 rfl (fun n _ hn => hn) h3 h4 h2

theorem ansT_in (hmix : P.follows .mixedOrders = true) {L : FuncId → List Value → Option Value} (hK : Known P L) {fuel : Nat} {f : FuncId} {args : List Value} {v : Value} {T : List (Nat × TypeId × List Value)} (ha : args.all af = true) (h : ansT P L fuel f args v T = true)
    (hT : ∀ x ∈ T, x.1 < P.globals.size ∧ afL x.2.2 = true ∧ ∃ c, w.heap[x.1]? = some (.cells c x.2.1 (0, 0)) ∧ c.toList = x.2.2) (F : Fence) (n : Nat) (hF : WideF F) :
    CallsIn F n P f args.toArray w (fun e w' => e = .returned v ∧ RowKit.Below w.heap.size w w') ∧ af v = true := by
  unfold ansT at h
  split at h
  · rename_i u H1 hc
    simp only [Bool.and_eq_true] at h
    obtain ⟨h, hd⟩ := h
    obtain ⟨rfl, hv⟩ := sameW_eq h
    refine ⟨?_, hv⟩
    have := call_in hmix hK (rel_tabs T hT) hc (scbL_of_af _ (afL_of fun x hx => List.all_eq_true.1 ha x hx)) (F := F) (n := n) hF
    rw [map_af _ args (fun x hx => List.all_eq_true.1 ha x hx)] at this
    refine this.mono ?_
    rintro e w' ⟨ρ1, rfl, s⟩
    refine ⟨by rw [val_af ρ1 _ hv], s.os, s.tape, s.output, s.size, fun b hb => s.old b hb fun n hn hor _ => ?_⟩
    obtain ⟨t1, t2, _⟩ := tabsH_next P.globals.size T
    rcases hor with h | h
    · omega
    · rw [List.isEmpty_iff.1 hd] at h
      cases h
  · cases h

theorem tab_world {ρ : Ren} {H : AHeap} {g : Nat} {e : TypeId} {vs : List Value} (r : Rel P ρ H w) (hg : g < P.globals.size) (hb : bk H g = some ⟨e, false, vs⟩) (ha : afL vs = true) : ∃ c, w.heap[g]? = some (.cells c e (0, 0)) ∧ c.toList = vs := by
  obtain ⟨hbk, hsh⟩ := r.glob.2 g hg
  have hav : ∀ x ∈ vs, af x = true := by
    intro x hx
    clear hb
    induction vs with
    | nil => cases hx
    | cons y ys ih =>
      simp only [afL, Bool.and_eq_true] at ha
      rcases List.mem_cons.1 hx with rfl | hx
      · exact ha.1
      · exact ih ha.2 hx
  simp only [bk, Option.map_eq_some_iff] at hb
  obtain ⟨⟨rv, e', o⟩, hc, hx⟩ := hb
  simp only [Bl.mk.injEq] at hx
  obtain ⟨rfl, rfl, rfl⟩ := hx
  obtain ⟨z, q, hgt⟩ := cellsAt_get hc
  obtain ⟨o', hw, hfit⟩ := r.obj _ _ hgt
  simp only [Fits] at hfit
  obtain ⟨c, fz, rfl, hcs, hcl, _⟩ := hfit
  obtain ⟨k1, k2, k3, rfl⟩ := hcl trivial
  rw [hbk] at hw
  refine ⟨c, hw, ?_⟩
  apply List.ext_getElem?
  intro i
  rw [RV.gets_eq]
  by_cases hi : i < rv.n
  · have h1 := hcs i hi
    rw [k2, Nat.add_zero] at h1
    have h2 : rv.get i ∈ rv.gets 0 rv.n := by rw [RV.gets_eq, List.mem_map]; exact ⟨i, by simpa using hi, by simp⟩
    rw [val_af ρ _ (hav _ h2)] at h1
    rw [List.getElem?_map, List.getElem?_range hi]
    simpa using h1
  · rw [List.getElem?_eq_none (by simp; omega), List.getElem?_eq_none (by simp; omega)]

theorem callS_tab (hmix : P.follows .mixedOrders = true) {L : FuncId → List Value → Option Value} (hK : Known P L) {fuel : Nat} {f : FuncId} {args : List Value} {v : Value} {T : List (Nat × TypeId × List Value)} {H : AHeap} (ha : args.all af = true) (h : ansT P L fuel f args v T = true)
    (hT : ∀ x ∈ T, x.1 < P.globals.size ∧ afL x.2.2 = true ∧ bk H x.1 = some ⟨x.2.1, false, x.2.2⟩) : CallS P f args H (.ok v) H := by
  intro ρ w r hsc F n R hF hR
  rw [map_af ρ args (fun x hx => List.all_eq_true.1 ha x hx)]
  obtain ⟨h1, hv⟩ := ansT_in (w := w) hmix hK ha h (fun x hx => ⟨(hT x hx).1, (hT x hx).2.1, tab_world r (hT x hx).1 (hT x hx).2.2 (hT x hx).2.1⟩) F n hF
  refine h1.mono ?_
  rintro e w' ⟨rfl, hb⟩
  have := hR ρ w' (St.below r hb) (scb_of_af _ hv)
  rwa [val_af ρ _ hv] at this
end
end Go.Ax

/- Cells, rows of cells and bytes in the abstract heap. -/
namespace Go.Proofs.YtpohjcacnkhnkaaDoor
open Go.Ax
set_option linter.unusedSimpArgs false
set_option maxRecDepth 10000

abbrev Pure (f : FuncId) (args : List Value) (H : AHeap) (v : Value) : Prop := CallS Tryd.prog f args H (.ok v) H

abbrev w64 (n : Int) : Int := IntKind.i64.wrap n
theorem wrap_sm {n : Int} (h1 : -4000000000000 < n) (h2 : n < 4000000000000) : w64 n = n := by
  simp only [w64, IntKind.wrap, IntKind.signed, IntKind.bits]
  simp
  omega
theorem wrap_succ {k : Nat} (h : k < 1000000) : IntKind.i64.wrap ((k : Int) + 1) = ((k + 1 : Nat) : Int) := by
  have := wrap_sm (n := (k : Int) + 1) (by omega) (by omega)
  rw [show IntKind.i64.wrap ((k : Int) + 1) = _ from this]; omega

def Ce.cells (c : Ce) : List Value := [.int .i64 c.rune, .int .i64 c.look.fore, .int .i64 c.look.back, .bool c.look.bold, .bool c.look.under, .bool c.look.inv]
def Ce.val (c : Ce) : Value := .agg #[.int .i64 c.rune, .int .i64 c.look.fore, .int .i64 c.look.back, .bool c.look.bold, .bool c.look.under, .bool c.look.inv]
def csOf (l : List Ce) : List Value := l.flatMap Ce.cells
theorem csOf_cons (c : Ce) (l : List Ce) : csOf (c :: l) = c.cells ++ csOf l := rfl
theorem csOf_append (l m : List Ce) : csOf (l ++ m) = csOf l ++ csOf m := by simp [csOf]
theorem csOf_length (l : List Ce) : (csOf l).length = l.length * 6 := by
  induction l with
  | nil => rfl
  | cons c l ih => rw [csOf_cons, List.length_append, ih]; simp [Ce.cells]; omega
theorem csOf_one (l : List Ce) : (csOf l).all one = true := by
  induction l with
  | nil => rfl
  | cons c l ih => rw [csOf_cons, List.all_append, ih]; rfl
theorem csOf_sc (l : List Ce) (n : Nat) : scbL n (csOf l) = true := by
  induction l with
  | nil => rfl
  | cons c l ih =>
    rw [csOf_cons]
    simp only [Ce.cells, List.cons_append, List.nil_append, scbL, scb, ih, Bool.and_self]
theorem csOf_take (l : List Ce) (k : Nat) : (csOf l).take (k * 6) = csOf (l.take k) := by
  induction l generalizing k with
  | nil => simp [csOf]
  | cons c l ih =>
    cases k with
    | zero => simp [csOf]
    | succ k => rw [csOf_cons, List.take_succ_cons, csOf_cons, show (k + 1) * 6 = c.cells.length + k * 6 by simp [Ce.cells]; omega, List.take_append, List.take_of_length_le (by omega), Nat.add_sub_cancel_left, ih]
theorem csOf_drop (l : List Ce) (k : Nat) : (csOf l).drop (k * 6) = csOf (l.drop k) := by
  induction l generalizing k with
  | nil => simp [csOf]
  | cons c l ih =>
    cases k with
    | zero => simp [csOf]
    | succ k => rw [csOf_cons, List.drop_succ_cons, show (k + 1) * 6 = c.cells.length + k * 6 by simp [Ce.cells]; omega, List.drop_append, List.drop_eq_nil_of_le (by omega), List.nil_append, Nat.add_sub_cancel_left, ih]
theorem csOf_at {l : List Ce} {k : Nat} {c : Ce} (h : l[k]? = some c) : ((csOf l).drop (k * 6)).take 6 = c.cells := by
  rw [csOf_drop]
  have := csOf_take (l.drop k) 1
  rw [Nat.one_mul] at this
  rw [this]
  have h2 : (l.drop k).take 1 = [c] := by
    rw [List.take_one, List.head?_drop, h]; rfl
  rw [h2]
  rfl
theorem csOf_rune {l : List Ce} {k : Nat} {c : Ce} (h : l[k]? = some c) : (csOf l)[k * 6]? = some (.int .i64 c.rune) := by
  have := csOf_at h
  have h2 : (((csOf l).drop (k * 6)).take 6)[0]? = some (.int .i64 c.rune) := by rw [this]; rfl
  simpa using h2
theorem csOf_put (pre new old : List Ce) (h : new.length ≤ old.length) : putL (csOf (pre ++ old)) (pre.length * 6) (csOf new) = csOf (pre ++ (new ++ old.drop new.length)) := by
  have e : pre.length * 6 = (csOf pre).length := (csOf_length pre).symm
  rw [csOf_append, e, putL_at _ _ _ (by rw [csOf_length, csOf_length]; omega), csOf_length, csOf_drop, csOf_append, csOf_append]
theorem csOf_set (l : List Ce) (k : Nat) (c : Ce) (h : k < l.length) : putL (csOf l) (k * 6) c.cells = csOf (l.set k c) := by
  have h1 := csOf_put (l.take k) [c] (l.drop k) (by simp; omega)
  rw [List.take_append_drop, List.length_take, Nat.min_eq_left (by omega)] at h1
  have h2 : csOf [c] = c.cells := by simp [csOf]
  rw [h2] at h1
  rw [h1, List.set_eq_take_append_cons_drop, if_pos h]
  simp [List.drop_drop]

theorem ag56 : aggT Tryd.prog 56 = some true := by kernel_rfl
theorem sz56 : szOf Tryd.prog 56 = some 6 := by kernel_rfl
theorem cell_load {l : List Ce} {k : Nat} {c : Ce} {e : TypeId} {o : Bool} (hk : l[k]? = some c) : ldB Tryd.prog 56 (k * 6) (some ⟨e, o, csOf l⟩) = some c.val := by
  have hlt : k < l.length := by
    rcases Nat.lt_or_ge k l.length with h' | h'
    · exact h'
    · rw [List.getElem?_eq_none h'] at hk; cases hk
  simp only [ldB, ag56, sz56, Option.bind_some, csOf_at hk]
  rw [if_pos (by rw [csOf_length]; omega)]
  rfl
theorem rune_load {l : List Ce} {k : Nat} {c : Ce} {e : TypeId} {o : Bool} (hk : l[k]? = some c) : ldB Tryd.prog 3 (k * 6) (some ⟨e, o, csOf l⟩) = some (.int .i64 c.rune) := by
  have h1 : aggT Tryd.prog 3 = some false := by kernel_rfl
  rw [ld_one h1, csOf_rune hk]

theorem row_ia {len cap n : Nat} {s : Option Nat} {i : Int} {k : Nat} (hi : i = k) (hk : k < len) : aIndexAddr Tryd.prog 42 (.slice (some ⟨n, 0, s⟩) len cap) (.int .i64 i) = some (.pointer (some ⟨n, k * 6, none⟩)) := by
  subst hi
  rw [ia_slice (e := 56) (sz := 6) (by kernel_rfl) (by kernel_rfl) (by omega) (by omega)]
  simp
theorem rows_ia {len cap n : Nat} {s : Option Nat} {i : Int} {k : Nat} (hi : i = k) (hk : k < len) : aIndexAddr Tryd.prog 33 (.slice (some ⟨n, 0, s⟩) len cap) (.int .i64 i) = some (.pointer (some ⟨n, k, none⟩)) := by
  subst hi
  rw [ia_slice (e := 42) (sz := 1) (by kernel_rfl) (by kernel_rfl) (by omega) (by omega)]
  simp
theorem byte_ia {len cap n off : Nat} {s : Option Nat} {i : Int} {k : Nat} (hi : i = k) (hk : k < len) : aIndexAddr Tryd.prog 29 (.slice (some ⟨n, off, s⟩) len cap) (.int .i64 i) = some (.pointer (some ⟨n, off + k, none⟩)) := by
  subst hi
  rw [ia_slice (e := 5) (sz := 1) (by kernel_rfl) (by kernel_rfl) (by omega) (by omega)]
  simp
theorem int_ia {len cap n off : Nat} {s : Option Nat} {i : Int} {k : Nat} (hi : i = k) (hk : k < len) : aIndexAddr Tryd.prog 22 (.slice (some ⟨n, off, s⟩) len cap) (.int .i64 i) = some (.pointer (some ⟨n, off + k, none⟩)) := by
  subst hi
  rw [ia_slice (e := 3) (sz := 1) (by kernel_rfl) (by kernel_rfl) (by omega) (by omega)]
  simp

abbrev u8v (c : UInt8) : Value := .int .u8 (c.toNat : Int)
theorem bytesV_cons (c : UInt8) (l : List UInt8) : bytesV (c :: l) = u8v c :: bytesV l := rfl
theorem bytesV_append (l m : List UInt8) : bytesV (l ++ m) = bytesV l ++ bytesV m := by simp [bytesV]
theorem bytesV_length (l : List UInt8) : (bytesV l).length = l.length := by simp [bytesV]
theorem bytesV_get (l : List UInt8) (k : Nat) : (bytesV l)[k]? = l[k]?.map u8v := by simp [bytesV]
theorem bytesV_one (l : List UInt8) : (bytesV l).all one = true := by simp [bytesV, one]
theorem bytesV_sc (l : List UInt8) (n : Nat) : scbL n (bytesV l) = true := by
  induction l with
  | nil => rfl
  | cons c l ih => simp only [bytesV_cons, scbL, scb, ih, Bool.and_self]
theorem bytesV_drop (l : List UInt8) (k : Nat) : (bytesV l).drop k = bytesV (l.drop k) := by simp [bytesV]
theorem bytesV_take (l : List UInt8) (k : Nat) : (bytesV l).take k = bytesV (l.take k) := by simp [bytesV]

def BytesAt (H : AHeap) (v : Value) (l : List UInt8) : Prop :=
  (l = [] ∧ v = .slice none 0 0) ∨
  (l ≠ [] ∧ ∃ n pre, v = .slice (some ⟨n, List.length pre, none⟩) l.length l.length ∧ bk H n = some ⟨5, true, bytesV (pre ++ l)⟩) ∨
  (l = [] ∧ ∃ n off k L, v = .slice (some ⟨n, off, some (k + 1)⟩) 0 0 ∧ bk H n = some ⟨5, true, L⟩ ∧ off ≤ L.length) ∨
  (l = [] ∧ ∃ n, v = .slice (some ⟨n, 0, some 0⟩) 0 0 ∧ bk H n = some ⟨5, false, []⟩)
theorem BytesAt.sl {H : AHeap} {v : Value} {l : List UInt8} (h : BytesAt H v l) : ∃ a, v = .slice a l.length l.length := by
  rcases h with ⟨rfl, rfl⟩ | ⟨_, n, pre, rfl, _⟩ | ⟨rfl, n, off, k, L, rfl, _⟩ | ⟨rfl, n, rfl, _⟩ <;> exact ⟨_, rfl⟩
theorem BytesAt.of {H G : AHeap} {v : Value} {l : List UInt8} (h : BytesAt H v l) (hg : ∀ n ∈ idsV v, G.get n = H.get n) : BytesAt G v l := by
  rcases h with ⟨rfl, rfl⟩ | ⟨h, n, pre, rfl, hb⟩ | ⟨rfl, n, off, k, L, rfl, hb, hle⟩ | ⟨rfl, n, rfl, hb⟩
  · exact .inl ⟨rfl, rfl⟩
  · exact .inr (.inl ⟨h, n, pre, rfl, (bk_get (hg n (by simp [idsV]))).trans hb⟩)
  · exact .inr (.inr (.inl ⟨rfl, n, off, k, L, rfl, (bk_get (hg n (by simp [idsV]))).trans hb, hle⟩))
  · exact .inr (.inr (.inr ⟨rfl, n, rfl, (bk_get (hg n (by simp [idsV]))).trans hb⟩))
theorem BytesAt.ne {H : AHeap} {v : Value} {l : List UInt8} (h : BytesAt H v l) : ∀ n ∈ idsV v, H.get n ≠ none := by
  rcases h with ⟨rfl, rfl⟩ | ⟨h, n, pre, rfl, hb⟩ | ⟨rfl, n, off, k, L, rfl, hb, hle⟩ | ⟨rfl, n, rfl, hb⟩ <;> intro m hm <;> simp only [idsV, List.mem_singleton, List.not_mem_nil] at hm
  all_goals (subst hm; exact bk_ne hb)
theorem BytesAt.get {H : AHeap} {v : Value} {l : List UInt8} (h : BytesAt H v l) {k : Nat} {c : UInt8} (hk : l[k]? = some c) : ∃ n off, aIndexAddr Tryd.prog 29 v (.int .i64 (k : Int)) = some (.pointer (some ⟨n, off, none⟩)) ∧ n ∈ idsV v ∧ ldB Tryd.prog 5 off (bk H n) = some (u8v c) := by
  have hlt : k < l.length := by
    rcases Nat.lt_or_ge k l.length with h' | h'
    · exact h'
    · rw [List.getElem?_eq_none h'] at hk; cases hk
  rcases h with ⟨rfl, rfl⟩ | ⟨h, n, pre, rfl, hb⟩ | ⟨rfl, n, off, _, L, rfl, hb, _⟩ | ⟨rfl, n, rfl, hb⟩
  · simp at hlt
  · have h1 : aggT Tryd.prog 5 = some false := by kernel_rfl
    refine ⟨n, pre.length + k, byte_ia rfl hlt, by simp [idsV], ?_⟩
    rw [hb, ld_one h1, bytesV_get, List.getElem?_append_right (by omega), Nat.add_sub_cancel_left, hk]
    rfl
  · simp at hlt
  · simp at hlt

end Go.Proofs.YtpohjcacnkhnkaaDoor
