/- Proved: copyistlaw38.FrameKnown, called with no argument, returns true in every order of evaluation that Go leaves open, and leaves all memory that was there as it was. Conditions: those of the given card frameKnownCard (the listed tables of Go's library hold what their texts lay), and no more. -/
import Derived.Test.YtfpckllenkifkaaDoorTie
import Derived.Test.YtfpckllenkifkaaDoorCards
import Derived.Test.YtfpckllenkifkaaDoorM7
import Derived.ProofKit
import Derived.OpenShut
import Derived.LaidMore
import Derived.Lay
import Derived.Carry
import Derived.SevenTiedAt
import Derived.Stop.Joined
set_option linter.all false

namespace Go.Proofs.YtfpckllenkifkaaDoor
open Go.ChangeShapes Go.WideShapes Go.ChangeAt Go.RowKit Go.Ax
set_option maxRecDepth 10000

theorem ownK : ownKnob Tryd.prog.godebug = none := by kernel_rfl

def Laid (w : World) (e1 e2 e3 e4 e5 : TypeId) : Prop := (∃ c, w.heap[0]? = some (.cells c e1 (0, 0)) ∧ c.toList = dc fstD) ∧ (∃ c, w.heap[1]? = some (.cells c e2 (0, 0)) ∧ c.toList = dc accD) ∧ (∃ c, w.heap[3]? = some (.cells c e3 (0, 0)) ∧ c.toList = dc powD) ∧ (∃ c, w.heap[4]? = some (.cells c e4 (0, 0)) ∧ c.toList = dc b32D) ∧ (∃ c, w.heap[5]? = some (.cells c e5 (0, 0)) ∧ c.toList = dc b64D)
theorem tabs_laid {w : World} (h : laidMet Tryd.prog Rows.frameKnownRow.laid w) : ∃ e1 e2 e3 e4 e5, Laid w e1 e2 e3 e4 e5 := by
  obtain ⟨c1, t1, a1, b1⟩ := laid_tab h (name := "unicode/utf8.first") (d := fstD) (.tail _ (.tail _ (.tail _ (.tail _ (.head _))))) (g := 0) (t := 138) (e := 5) (ts := [5]) (D := 1000) (n := 256) (by kernel_rfl) (by kernel_rfl) (by kernel_rfl) (by kernel_rfl) (by kernel_rfl) (by kernel_rfl) (by kernel_rfl) (blt_lt (by kernel_rfl))
  obtain ⟨c2, t2, a2, b2⟩ := laid_tab h (name := "unicode/utf8.acceptRanges") (d := accD) (.tail _ (.tail _ (.tail _ (.head _)))) (g := 1) (t := 141) (e := 140) (ts := [5, 5]) (D := 1000) (n := 16) (by kernel_rfl) (by kernel_rfl) (by kernel_rfl) (by kernel_rfl) (by kernel_rfl) (by kernel_rfl) (by kernel_rfl) (blt_lt (by kernel_rfl))
  obtain ⟨c3, t3, a3, b3⟩ := laid_tab h (name := "internal/strconv.uint64pow10") (d := powD) (.tail _ (.tail _ (.head _))) (g := 3) (t := 157) (e := 124) (ts := [124]) (D := 1000) (n := 20) (by kernel_rfl) (by kernel_rfl) (by kernel_rfl) (by kernel_rfl) (by kernel_rfl) (by kernel_rfl) (by kernel_rfl) (blt_lt (by kernel_rfl))
  obtain ⟨c4, t4, a4, b4⟩ := laid_tab h (name := "math/bits.deBruijn32tab") (d := b32D) (.head _) (g := 4) (t := 162) (e := 5) (ts := [5]) (D := 1000) (n := 32) (by kernel_rfl) (by kernel_rfl) (by kernel_rfl) (by kernel_rfl) (by kernel_rfl) (by kernel_rfl) (by kernel_rfl) (blt_lt (by kernel_rfl))
  obtain ⟨c5, t5, a5, b5⟩ := laid_tab h (name := "math/bits.deBruijn64tab") (d := b64D) (.tail _ (.head _)) (g := 5) (t := 163) (e := 5) (ts := [5]) (D := 1000) (n := 64) (by kernel_rfl) (by kernel_rfl) (by kernel_rfl) (by kernel_rfl) (by kernel_rfl) (by kernel_rfl) (by kernel_rfl) (blt_lt (by kernel_rfl))
  exact ⟨t1, t2, t3, t4, t5, ⟨c1, a1, b1⟩, ⟨c2, a2, b2⟩, ⟨c3, a3, b3⟩, ⟨c4, a4, b4⟩, c5, a5, b5⟩

theorem tab_hyps {w : World} {e1 e2 e3 e4 e5 : TypeId} (h : Laid w e1 e2 e3 e4 e5) : ∀ x ∈ tabT e1 e2 e3 e4 e5, x.1 < Tryd.prog.globals.size ∧ afL x.2.2 = true ∧ ∃ c, w.heap[x.1]? = some (.cells c x.2.1 (0, 0)) ∧ c.toList = x.2.2 := by
  intro x hx
  simp only [tabT, List.mem_cons, List.not_mem_nil, or_false] at hx
  rcases hx with rfl | rfl | rfl | rfl | rfl
  · exact ⟨show 0 < Tryd.prog.globals.size by decide +kernel, by kernel_rfl, h.1⟩
  · exact ⟨show 1 < Tryd.prog.globals.size by decide +kernel, by kernel_rfl, h.2.1⟩
  · exact ⟨show 3 < Tryd.prog.globals.size by decide +kernel, by kernel_rfl, h.2.2.1⟩
  · exact ⟨show 4 < Tryd.prog.globals.size by decide +kernel, by kernel_rfl, h.2.2.2.1⟩
  · exact ⟨show 5 < Tryd.prog.globals.size by decide +kernel, by kernel_rfl, h.2.2.2.2⟩

set_option maxRecDepth 100000 in
theorem known_lifted (os : Os) (started : os.Started) (H : Type) (enc : TypeId × Value → H) :
    ReturnsInHanded {} Tryd.checked os 5 .any (fun w args => (Rows.frameKnownSpec.pre enc Tryd.prog Tryd.f5 Rows.frameKnownRow.domain false w args ∧ laidMetH Tryd.prog Rows.frameKnownRow.laid w) ∧ sizedMet enc Tryd.prog Tryd.f5 (OpenSpec.ofChange Rows.frameKnownSpec) false w args)
      (Rows.frameKnownSpec.post enc Tryd.prog Tryd.f5 false true false false) := by
  refine returnsInHanded_of_change_and (C := Tryd.checked) (X := fun w _ => laidMetH Tryd.prog Rows.frameKnownRow.laid w) (fun _ _ _ hh h => h.of_heap hh) ownK started (by kernel_rfl) Tryd.func5
    (ChangeSpec.witness_shaped (enc := enc) (C := Tryd.checked) (os := os) (X := fun w _ => laidMetH Tryd.prog Rows.frameKnownRow.laid w) false (World.laidAll Tryd.prog os Rows.frameKnownRow.laid) #[] 8 (World.laidAll_os _ _ _)
      (World.shaped_of_ZipB (by kernel_rfl) (by kernel_rfl)) (by kernel_rfl) (by kernel_rfl) (by kernel_rfl)
      (by rw [MakeChecks.laidMetH_plain _ _ _ (by kernel_rfl)]; exact laidMet_laidAll _ (by kernel_rfl) (by kernel_rfl))) ?_
  intro W base args ds gs before hval0 hW hc _ hL _
  have hW' := hW
  obtain ⟨p, q, hA0, hV, rfl, _, _⟩ := hW
  have hA : DataW.TrodAll enc Tryd.prog W 0 (fun _ => true) true Tryd.f5.params.toList args.toList ds p := hA0
  rw [Tryd.params5] at hA
  obtain ⟨h1, rfl, rfl⟩ := trodAll_none hA
  obtain ⟨rfl, rfl⟩ := trodVars_none hV
  obtain rfl : args = #[] := by simpa using h1
  clear hA0 hval0
  rw [MakeChecks.laidMetH_plain _ _ _ (by kernel_rfl)] at hL
  obtain ⟨e1, e2, e3, e4, e5, hl⟩ := tabs_laid hL
  refine ((callsIn_wide (n := 0)).1 (ansT_in mixed knoR rfl (known_true e1 e2 e3 e4 e5) (tab_hyps hl) Fence.wide 0 wide_wide).1).mono fun e W' ⟨he, hb⟩ => ?_
  subst he
  exact ⟨_, rfl, _, _, _, [], [], [], hW', trodAll_mk1 (shut_bool Tryd.underlying4 true), trodAll_mk0, rfl, hb.frame _, fun h => by cases h⟩

theorem known_holds : Rows.FrameKnownSaid :=
  OpenClaim.holds_of_wide 5 Tryd.f5 rfl rfl rfl rfl rfl rfl rfl ⟨rfl, rfl, rfl, rfl, rfl⟩ rfl rfl rfl rfl rfl (by kernel_rfl) Tryd.func5 (by kernel_rfl)
    (of_decide_eq_true (by kernel_rfl)) (by unfold Func.isWrapper; first | (rw [if_pos (by decide +kernel)]; kernel_rfl) | (rw [if_neg (by decide +kernel)]; exact ⟨rfl, rfl⟩))
    (fun os started H enc _ => known_lifted os started H enc)

theorem frameKnown_card : Rows.FrameKnownCardSaid :=
  Claim7.holds_tied_plain_at .later [] [.data, .data, .data, .data, .pinned] true (true, "c412a8a6c49cd6b2fe09513aac06e59844865c9657dc0ece8d7212a31978a57b") false known_holds (fun _ h => by cases h) (by kernel_rfl) (fun _ h => by cases h) frameKnown_row_tie rfl ⟨rfl, rfl⟩ (by kernel_rfl) rfl
    (fun f fn hf hfn => by
      obtain rfl : f = 5 := Option.some.inj ((show Tryd.prog.funcNamed "copyist/copyistlaw38.FrameKnown" = some 5 by kernel_rfl).symm.trans hf) |>.symm
      obtain rfl : fn = Tryd.f5 := (Option.some.inj (Tryd.func5.symm.trans hfn)).symm
      exact ⟨by kernel_rfl, fun j t ht => by
        rw [Tryd.params5] at ht
        simp at ht⟩)
    (by kernel_rfl)

end Go.Proofs.YtfpckllenkifkaaDoor
