import Derived.Test.YtnpljffnopmaiaaRows
import Derived.Test.YtnpljffnopmaiaaFoK
import Derived.Test.YtnpljffnopmaiaaFoXMerges
import Derived.Test.YtnpljffnopmaiaaJZ
import Derived.WalkKit
import Derived.ProofKit
/-
  THE LAW 'eyotlaw2.FoldMerges', PROVED: whatever the input, the call returns true, and the input reads as it did. Conditions: none beyond the row's own.
-/
set_option linter.all false
namespace Go.Proofs.Ytnpljffnopmaiaa
open Go.ChangeShapes Go.WideShapes Go.ChangeAt Go.RowKit Go.Pi
set_option linter.unusedVariables false

theorem ownFoldMerges : ownKnob Try.prog.godebug = none := by kernel_rfl
theorem kidsFoldMerges : Kids Try.prog (fun x => x < Try.prog.types.size) := kids_rows (by kernel_rfl) (by kernel_rfl)
theorem fullFoldMerges : ∀ (t e : Nat), t < Try.prog.types.size → Try.prog.underlying t = some (TypeDesc.slice e) → 0 < Try.prog.cellsOf e := slices_full_of Try.prog (by kernel_rfl)

/-- THE LAW, within the abstract interpreter. -/
theorem run_trueFoldMerges (x0 x1 : D) (h0 : TyD Try.prog 3 22 [x0]) (h1 : TyD Try.prog 3 22 [x1]) : Runs Go.Pi.prog 2 [x0, x1] [] (fun d _ => d = .bool true) := by
  obtain ⟨a0, w0, l0, v0⟩ := tyd_list (c := fD) (W := FlW) (sz := 1) Try.underlying22 (by kernel_rfl) (fun x h => tyd_flt2 Try.underlying23 h) (fun a => ⟨by simp [Nr], trivial⟩) h0
  obtain ⟨a1, w1, l1, v1⟩ := tyd_list (c := fD) (W := FlW) (sz := 1) Try.underlying22 (by kernel_rfl) (fun x h => tyd_flt2 Try.underlying23 h) (fun a => ⟨by simp [Nr], trivial⟩) h1
  obtain ⟨k, hk⟩ := merges_pure a0 a1 w0 l0 w1 l1
  refine (eyotlaw2_FoldMerges_ok k a0 a1 true hk).true ?_
  simp only [VRs]
  exact ⟨v0, v1, trivial⟩

set_option maxRecDepth 100000 in
theorem liftedFoldMerges (os : Os) (started : os.Started) (H : Type) (enc : TypeId × Value → H) :
    ReturnsInHanded {} Try.checked os 5 .any (Rows.foldMergesSpec.pre6 enc Try.prog Try.f5 Rows.foldMergesRow.domain false) (Rows.foldMergesSpec.post enc Try.prog Try.f5 false true false false) := by
  refine returnsInHanded_of_change (C := Try.checked) ownFoldMerges started (by kernel_rfl) Try.func5
    (ChangeSpec.witness6 (enc := enc) (C := Try.checked) false ⟨#[], #[.slice none 0 0, .slice none 0 0], []⟩ 8 (by kernel_rfl) (by kernel_rfl) (by kernel_rfl) (by kernel_rfl)) ?_
  intro W base args ds gs before hval0 hW hcnd _
  have hval : ∀ (j : Nat) t v, Try.f5.params[j]? = some t → args[j]? = some v → Value.okWide Try.prog W .any base t v := hval0
  have hW' := hW
  obtain ⟨p, q, hA0, hV, rfl, hfz, hnd⟩ := hW
  have hA : DataW.TrodAll enc Try.prog W 0 (fun _ => true) true Try.f5.params.toList args.toList ds p := hA0
  rw [Try.params5] at hA hval
  obtain ⟨v0, vs0, d0, ds0, p0, q0, hargs, rfl, rfl, h0, r0⟩ := trodAll_cons hA
  obtain ⟨v1, vs1, d1, ds1, p1, q1, rfl, rfl, rfl, h1, r1⟩ := trodAll_cons r0
  obtain ⟨rfl, rfl, rfl⟩ := trodAll_nil r1
  obtain rfl : args = #[v0, v1] := by cases args; simp_all
  obtain ⟨rfl, rfl⟩ := trodVars_none hV
  obtain ⟨x0, t0, c0⟩ := arg_data (fm := fmS) (m := 3) (by kernel_rfl) Try.underlying22 rfl (hval 0 22 v0 rfl rfl) h0
  obtain ⟨x1, t1, c1⟩ := arg_data (fm := fmS) (m := 3) (by kernel_rfl) Try.underlying22 rfl (hval 1 22 v1 rfl rfl) h1
  refine (calls_true Go.Pi.mixed Go.Pi.linked Go.Pi.linkU (f := 2) (ds := [x0, x1]) rfl (fun j v x hv hx => ?_) (run_trueFoldMerges x0 x1 t0 t1)).mono ?_
  · rcases j with _ | _ | j
    · simp at hv hx; subst hv; subst hx; exact c0
    · simp at hv hx; subst hv; subst hx; exact c1
    · simp at hv
  · rintro e W' ⟨rfl, hk, hsz⟩
    refine ⟨_, rfl, post_true kidsFoldMerges fullFoldMerges (b := 4) ?_ Try.underlying4 (by kernel_rfl) rfl hW' rfl hk hsz⟩
    intro t ht
    rw [Try.params5] at ht
    simp at ht
    subst ht; show _ < _; decide +kernel

theorem overFoldMerges : Rows.FoldMergesSaid :=
  OpenClaim.holds_of_wide 5 Try.f5 rfl rfl rfl rfl rfl rfl rfl ⟨rfl, rfl, rfl, rfl, rfl⟩ rfl rfl rfl rfl rfl (by kernel_rfl) Try.func5 (by kernel_rfl)
    (of_decide_eq_true (by kernel_rfl)) (by unfold Func.isWrapper; first | (rw [if_pos (by decide +kernel)]; kernel_rfl) | (rw [if_neg (by decide +kernel)]; exact ⟨rfl, rfl⟩))
    (fun os started H enc _ => liftedFoldMerges os started H enc)
end Go.Proofs.Ytnpljffnopmaiaa

