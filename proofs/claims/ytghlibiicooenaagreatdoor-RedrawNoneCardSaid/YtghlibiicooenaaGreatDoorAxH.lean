/- The abstract executor: comparisons and arithmetic are the model's. -/
import Derived.Test.YtghlibiicooenaaGreatDoorAxG
namespace Go.Ax
section
variable {P : Program} {ρ : Ren} {H : AHeap} {w : World}

/-- a Sem's value, or its panic, is the abstract one's -/
def ROk (P : Program) (ρ : Ren) (H : AHeap) (w : World) (s : Sem Value) (x : ANext) (H1 : AHeap) : Prop :=
  ∃ ρ1 w1, St P ρ H w ρ1 H1 w1 ∧ match x with
    | .value v => s.run P w = .ok (ρ1.val v) w1
    | .panic v => s.run P w = .halt (.panic (ρ1.val v)) w1
    | _ => False

theorem ROk.val (r : Rel P ρ H w) {s : Sem Value} {v : Value} (h : s.run P w = .ok (ρ.val v) w) : ROk P ρ H w s (.value v) H := ⟨ρ, w, St.refl r, h⟩
theorem ROk.of {s : Sem Value} {v : Value} {H1 : AHeap} (h : VOk P ρ H w s v H1) : ROk P ρ H w s (.value v) H1 := h

theorem shut_facts (r : Rel P ρ H w) {n : Nat} (h : isOpen H n = some false) :
    H.get n ≠ none ∧ ρ.sh n = 0 ∧ (∀ o, w.frozen? ⟨ρ.blk n, o, none⟩ = false) ∧ (∀ o s, w.frozen? ⟨ρ.blk n, o, s⟩ = false) ∧ ∃ e k, w.shape? (ρ.blk n) = some (e, k) := by
  obtain ⟨v, e, hc⟩ := isOpen_cells h
  obtain ⟨c, fz, hC⟩ := r.cells hc
  obtain ⟨c0, f0, hg⟩ := cellsAt_get hc
  obtain ⟨h1, h2, h3, h4⟩ := hC.shut rfl
  subst h4
  refine ⟨ne_none hg, h2, fun o => by simp [World.frozen?, hC.at_], fun o s => by simp [World.frozen?, hC.at_], e, c.size, by simp [World.shape?, hC.at_]⟩

theorem sameAddr_run (r : Rel P ρ H w) {a b : Addr} (ha : isOpen H a.block = some false) (hb : isOpen H b.block = some false) :
    (sameAddr ⟨ρ.blk a.block, a.off + ρ.sh a.block, a.spot⟩ ⟨ρ.blk b.block, b.off + ρ.sh b.block, b.spot⟩).run P w = .ok (a == b) w := by
  obtain ⟨a1, a2, a3, a4, ea, ka, a5⟩ := shut_facts r ha
  obtain ⟨b1, b2, b3, b4, eb, kb, b5⟩ := shut_facts r hb
  by_cases h : a.block = b.block
  · have hs : (ρ.blk a.block == ρ.blk b.block) = true := by simp [h]
    simp only [sameAddr, hs, if_true, Sem.run_pure]
    congr 1
    rw [Bool.eq_iff_iff]
    simp only [beq_iff_eq]
    obtain ⟨ab, ao, as⟩ := a
    obtain ⟨bb, bo, bs⟩ := b
    simp only at h ⊢
    subst h
    simp
  · have hne : (ρ.blk a.block == ρ.blk b.block) = false := by
      simp only [beq_eq_false_iff_ne]
      exact fun e => h (r.inj _ _ a1 b1 e)
    have hab : (a == b) = false := by
      simp only [beq_eq_false_iff_ne]
      exact fun e => h (by rw [e])
    simp [sameAddr, hne, a4, b4, noView, viewAt, a5, b5, mayBeOne, stringish, hab]

theorem aEq_run (r : Rel P ρ H w) : ∀ (d : Nat) {t : TypeId} {x y : Value} {b : Bool}, aEq P H d t x y = some b → ∀ k, d ≤ k → (Op.equalIn k t (ρ.val x) (ρ.val y)).run P w = .ok b w
  | 0, t, x, y, b, h, k, hk => by simp [aEq] at h
  | d + 1, t, x, y, b, h, 0, hk => by omega
  | d + 1, t, x, y, b, h, k + 1, hk => by
    unfold aEq at h
    split at h
    · rename_i e q hu
      simp only [Option.some.injEq] at h
      subst h
      cases q <;> simp [Op.equalIn, run_und hu, Ren.val]
    · rename_i e q hu
      simp only [Option.some.injEq] at h
      subst h
      simp [Op.equalIn, run_und hu, Ren.val]
    · rename_i e p q hu
      split at h
      · rename_i sz hsz ha hb
        simp only [Option.some.injEq] at h
        subst h
        simp only [Op.equalIn, Ren.val, Sem.run_bind, run_und hu, Result.andThen_ok, run_szOf hsz]
        simp [sameAddr_run r ha hb]
      · cases h
    · rename_i e n1 c1 q n2 c2 hu
      simp only [Option.some.injEq] at h
      subst h
      cases q <;> simp [Op.equalIn, run_und hu, Ren.val]
    · rename_i e q n1 c1 n2 c2 hu
      simp only [Option.some.injEq] at h
      subst h
      simp [Op.equalIn, run_und hu, Ren.val]
    · rename_i e1 e2 q hu
      simp only [Option.some.injEq] at h
      subst h
      cases q <;> simp [Op.equalIn, run_und hu, Ren.val]
    · rename_i e1 e2 q hu
      simp only [Option.some.injEq] at h
      subst h
      simp [Op.equalIn, run_und hu, Ren.val]
    · rename_i e1 e2 e3 f1 f2 f3 hu
      simp only [Option.some.injEq] at h
      subst h
      simp [Op.equalIn, run_und hu, Ren.val]
    · rename_i e1 e2 e3 f1 f2 f3 hu
      simp only [Option.some.injEq] at h
      subst h
      simp [Op.equalIn, run_und hu, Ren.val]
    · rename_i ms t1 v1 hu
      simp only [Option.some.injEq] at h
      subst h
      simp [Op.equalIn, run_und hu, Ren.val]
    · rename_i ms t1 v1 hu
      simp only [Option.some.injEq] at h
      subst h
      simp [Op.equalIn, run_und hu, Ren.val]
    · rename_i ms tx vx ty vy hu
      split at h
      · rename_i hne
        simp only [Option.some.injEq] at h
        subst h
        simp [Op.equalIn, run_und hu, Ren.val, hne]
      · rename_i heq
        have heq : tx = ty := by simpa using heq
        subst heq
        split at h
        · rename_i i hi
          split at h
          · rename_i hcmp
            have := aEq_run r d h k (by omega)
            simp [Op.equalIn, run_und hu, Ren.val, run_info hi, hcmp, this]
          · cases h
        · cases h
    · cases h

def addrish : Value → Bool
  | .pointer _ => true
  | .slice _ _ _ => true
  | .map _ => true
  | .func _ _ _ => true
  | .nilFunc => true
  | .iface _ _ => true
  | .nilIface => true
  | _ => false

theorem aEq_addrish {d : Nat} {t : TypeId} {x y : Value} {b : Bool} (h : aEq P H d t x y = some b) : addrish x = true ∧ addrish y = true := by
  cases d with
  | zero => simp [aEq] at h
  | succ d =>
    unfold aEq at h
    split at h <;> first
      | exact ⟨rfl, rfl⟩
      | cases h

theorem addrish_val (ρ : Ren) {x : Value} (h : addrish x = true) : addrish (ρ.val x) = true := by
  cases x with
  | pointer a => cases a <;> simp [Ren.val, addrish]
  | slice a _ _ => cases a <;> simp [Ren.val, addrish]
  | map a => cases a <;> simp [Ren.val, addrish]
  | func f a b => simp [Ren.val, addrish]
  | nilFunc => simp [Ren.val, addrish]
  | iface t v => simp [Ren.val, addrish]
  | nilIface => simp [Ren.val, addrish]
  | _ => simp [addrish] at h

theorem binOp_eql {t : TypeId} {x y : Value} (h : addrish x = true) : binOp .eql t x y = (do pure (.bool (← Op.equal t x y))) := by
  cases x <;> first
    | rfl
    | (simp [addrish] at h; done)

theorem binOp_neq {t : TypeId} {x y : Value} (h : addrish x = true) : binOp .neq t x y = (do pure (.bool (!(← Op.equal t x y)))) := by
  cases x <;> first
    | rfl
    | (simp [addrish] at h; done)

/-- neither two nil interface values nor two aggregates -/
def noGuard (a b : Value) : Bool :=
  match a, b with
  | .nilIface, .nilIface => false
  | .agg _, .agg _ => false
  | _, _ => true

theorem run_if {c : Prop} [Decidable c] {A B : Sem Unit} (h1 : c → A.run P w = .ok () w) (h2 : ¬ c → B.run P w = .ok () w) : (if c then A else B).run P w = .ok () w := by
  by_cases h : c
  · rw [if_pos h]; exact h1 h
  · rw [if_neg h]; exact h2 h

theorem eqGuard_run {op : BinOp} {t : TypeId} {x y : Operand} {a b : Value} (h : noGuard a b = true) : (eqGuard op t x y a b).run P w = .ok () w := by
  unfold eqGuard
  refine run_if (fun _ => rfl) (fun _ => ?_)
  split
  · simp [noGuard] at h
  · simp [noGuard] at h
  · rfl

theorem noGuard_addr (ρ : Ren) {x y : Value} (hx : addrish x = true) (hy : addrish y = true) (h : ¬ (x = .nilIface ∧ y = .nilIface)) : noGuard (ρ.val x) (ρ.val y) = true := by
  cases x with
  | pointer a => cases a <;> simp [Ren.val, noGuard]
  | slice a _ _ => cases a <;> simp [Ren.val, noGuard]
  | map a => cases a <;> simp [Ren.val, noGuard]
  | func f a b => simp [Ren.val, noGuard]
  | nilFunc => simp [Ren.val, noGuard]
  | iface t v => simp [Ren.val, noGuard]
  | nilIface =>
    cases y with
    | nilIface => exact absurd ⟨rfl, rfl⟩ h
    | pointer a => cases a <;> simp [Ren.val, noGuard]
    | slice a _ _ => cases a <;> simp [Ren.val, noGuard]
    | map a => cases a <;> simp [Ren.val, noGuard]
    | chan a => simp [addrish] at hy
    | _ => simp [Ren.val, noGuard]
  | _ => simp [addrish] at hx

theorem aBinAddr_run (r : Rel P ρ H w) {op : BinOp} {t : TypeId} {x y : Operand} {p q v : Value} (h : aBinAddr P H op t p q = some v) :
    (do eqGuard op t x y (ρ.val p) (ρ.val q); binOp op t (ρ.val p) (ρ.val q) : Sem Value).run P w = .ok (ρ.val v) w := by
  have hmain : ∀ b, aEq P H 100 t p q = some b → eqOp op b = some v → ¬ (p = .nilIface ∧ q = .nilIface) →
      (do eqGuard op t x y (ρ.val p) (ρ.val q); binOp op t (ρ.val p) (ρ.val q) : Sem Value).run P w = .ok (ρ.val v) w := by
    intro b hb hv hn
    obtain ⟨hx, hy⟩ := aEq_addrish hb
    have he := aEq_run r 100 hb Op.maxDepth (by decide)
    simp only [Sem.run_bind, eqGuard_run (noGuard_addr ρ hx hy hn), Result.andThen_ok]
    cases op <;> simp [eqOp] at hv
    · subst hv
      rw [binOp_eql (addrish_val ρ hx)]
      simp [Op.equal, he, Ren.val]
    · subst hv
      rw [binOp_neq (addrish_val ρ hx)]
      simp [Op.equal, he, Ren.val]
  unfold aBinAddr at h
  split at h
  · cases h
  · cases h
  · rename_i hn1 hn2
    simp only [Option.bind_eq_some_iff] at h
    obtain ⟨b, hb, hv⟩ := h
    exact hmain b hb hv (fun e => hn2 e.1 e.2)

theorem aBin_run (r : Rel P ρ H w) {op : BinOp} {t : TypeId} {x y : Operand} {p q v : Value} (h : aBin P H op t p q = some v) :
    (do eqGuard op t x y (ρ.val p) (ρ.val q); binOp op t (ρ.val p) (ρ.val q) : Sem Value).run P w = .ok (ρ.val v) w := by
  unfold aBin at h
  split at h
  · rename_i k a k' b
    split at h
    · rename_i hk
      subst hk
      have hg : (eqGuard op t x y (.int k a) (.int k b)).run P w = .ok () w := eqGuard_run rfl
      simp only [Ren.val, Sem.run_bind, hg, Result.andThen_ok]
      cases op <;> simp only [intBin, Option.some.injEq] at h <;> first
        | (subst h; simp [binOp, Op.intArith, Op.intCmp, Ren.val]; done)
        | (split at h
           · cases h
           · rename_i hz
             simp only [Option.some.injEq] at h
             subst h
             simp [binOp, Op.intDiv, hz, Ren.val])
        | cases h
    · cases h
  · rename_i a b
    split at h
    · rename_i hu
      have hg : (eqGuard op t x y (.bool a) (.bool b)).run P w = .ok () w := eqGuard_run rfl
      simp only [Ren.val, Sem.run_bind, hg, Result.andThen_ok]
      have he : (Op.equal t (.bool a) (.bool b)).run P w = .ok (a == b) w := by
        have : ∀ k, (Op.equalIn (k + 1) t (.bool a) (.bool b)).run P w = .ok (a == b) w := fun k => by simp [Op.equalIn, run_und hu]
        exact this 9999
      have h1 : binOp .eql t (.bool a) (.bool b) = (do pure (.bool (← Op.equal t (.bool a) (.bool b)))) := rfl
      have h2 : binOp .neq t (.bool a) (.bool b) = (do pure (.bool (!(← Op.equal t (.bool a) (.bool b))))) := rfl
      cases op <;> simp only [eqOp, Option.some.injEq] at h <;> first
        | (subst h; rw [h1]; simp only [Sem.run_bind, he, Result.andThen_ok, Sem.run_pure, Ren.val]; done)
        | (subst h; rw [h2]; simp only [Sem.run_bind, he, Result.andThen_ok, Sem.run_pure, Ren.val]; done)
        | cases h
    · cases h
  · exact aBinAddr_run r h

theorem aPlain_run (r : Rel P ρ H w) {s : Sem Value} {x : ANext} (h : aPlain P s = some x) : ROk P ρ H w s x H := by
  unfold aPlain at h
  split at h
  · rename_i v hv
    split at h
    · rename_i ha
      simp only [Option.some.injEq] at h
      subst h
      exact ROk.val r (by rw [peval_run s hv w, val_af ρ v ha])
    · cases h
  · split at h
    · rename_i v hv
      split at h
      · rename_i ha
        simp only [Option.some.injEq] at h
        subst h
        exact ⟨ρ, w, St.refl r, by show s.run P w = .halt (.panic (ρ.val v)) w; rw [ppanic_run s hv w, val_af ρ v ha]⟩
      · cases h
    · cases h

theorem binV_run (r : Rel P ρ H w) {op : BinOp} {t : TypeId} {x y : Operand} {p q : Value} {nx : ANext} {H1 : AHeap} (h : binV P H op t x y p q = some (nx, H1)) :
    ROk P ρ H w (do eqGuard op t x y (ρ.val p) (ρ.val q); binOp op t (ρ.val p) (ρ.val q)) nx H1 := by
  unfold binV at h
  split at h
  · rename_i v hv
    simp only [Option.some.injEq, Prod.mk.injEq] at h
    obtain ⟨rfl, rfl⟩ := h
    exact ROk.val r (aBin_run r hv)
  · split at h
    · rename_i ha
      simp only [Bool.and_eq_true] at ha
      simp only [Option.map_eq_some_iff, Prod.mk.injEq] at h
      obtain ⟨z, hz, rfl, rfl⟩ := h
      rw [val_af ρ p ha.1, val_af ρ q ha.2]
      exact aPlain_run r hz
    · cases h

theorem unV_run (r : Rel P ρ H w) {op : UnOp} {p : Value} {nx : ANext} {H1 : AHeap} (h : unV P H op p = some (nx, H1)) :
    ROk P ρ H w (Op.unary op (ρ.val p)) nx H1 := by
  unfold unV at h
  split at h
  · simp only [Option.some.injEq, Prod.mk.injEq] at h
    obtain ⟨rfl, rfl⟩ := h
    exact ROk.val r (by simp [Op.unary, Ren.val])
  · simp only [Option.some.injEq, Prod.mk.injEq] at h
    obtain ⟨rfl, rfl⟩ := h
    exact ROk.val r (by simp [Op.unary, Op.intArith, Ren.val])
  · split at h
    · rename_i ha
      simp only [Option.map_eq_some_iff, Prod.mk.injEq] at h
      obtain ⟨z, hz, rfl, rfl⟩ := h
      rw [val_af ρ _ ha]
      exact aPlain_run r hz
    · cases h

theorem indexV_run (r : Rel P ρ H w) {t : TypeId} {p q : Value} {nx : ANext} {H1 : AHeap} (h : indexV P H t p q = some (nx, H1)) :
    ROk P ρ H w (Instr.index t (ρ.val p) (ρ.val q)) nx H1 := by
  unfold indexV at h
  split at h
  · rename_i v hv
    simp only [Option.some.injEq, Prod.mk.injEq] at h
    obtain ⟨rfl, rfl⟩ := h
    exact ROk.val r (aIndex_run hv)
  · split at h
    · rename_i ha
      simp only [Bool.and_eq_true] at ha
      simp only [Option.map_eq_some_iff, Prod.mk.injEq] at h
      obtain ⟨z, hz, rfl, rfl⟩ := h
      rw [val_af ρ p ha.1, val_af ρ q ha.2]
      exact aPlain_run r hz
    · cases h

end
end Go.Ax
