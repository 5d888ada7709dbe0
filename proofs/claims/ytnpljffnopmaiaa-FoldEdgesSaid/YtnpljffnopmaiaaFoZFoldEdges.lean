import Derived.Test.YtnpljffnopmaiaaRows
import Derived.Test.YtnpljffnopmaiaaFoK
import Derived.Test.YtnpljffnopmaiaaFoXEdges
import Derived.Test.YtnpljffnopmaiaaJZ
import Derived.WalkKit
import Derived.ProofKit
/-
  THE LAW 'eyotlaw2.FoldEdges', PROVED: whatever the input, the call returns true, and the input reads as it did. Conditions: none beyond the row's own.
-/
set_option linter.all false
namespace Go.Proofs.Ytnpljffnopmaiaa
open Go.ChangeShapes Go.WideShapes Go.ChangeAt Go.RowKit Go.Pi
set_option linter.unusedVariables false

theorem ownFoldEdges : ownKnob Try.prog.godebug = none := by kernel_rfl
theorem kidsFoldEdges : Kids Try.prog (fun x => x < Try.prog.types.size) := kids_rows (by kernel_rfl) (by kernel_rfl)
theorem fullFoldEdges : ∀ (t e : Nat), t < Try.prog.types.size → Try.prog.underlying t = some (TypeDesc.slice e) → 0 < Try.prog.cellsOf e := slices_full_of Try.prog (by kernel_rfl)

/-- THE LAW, within the abstract interpreter. -/
theorem run_trueFoldEdges : Runs Go.Pi.prog 5 [] [] (fun d _ => d = .bool true) := by
  obtain ⟨k, hk⟩ := edges_pureF
  refine (eyotlaw2_FoldEdges_ok k true hk).true ?_
  trivial

set_option maxRecDepth 100000 in
theorem liftedFoldEdges (os : Os) (started : os.Started) (H : Type) (enc : TypeId × Value → H) :
    ReturnsInHanded {} Try.checked os 8 .any (Rows.foldEdgesSpec.pre6 enc Try.prog Try.f8 Rows.foldEdgesRow.domain false) (Rows.foldEdgesSpec.post enc Try.prog Try.f8 false true false false) := by
  refine returnsInHanded_of_change (C := Try.checked) ownFoldEdges started (by kernel_rfl) Try.func8
    (ChangeSpec.witness6 (enc := enc) (C := Try.checked) false ⟨#[], #[], []⟩ 8 (by kernel_rfl) (by kernel_rfl) (by kernel_rfl) (by kernel_rfl)) ?_
  intro W base args ds gs before hval0 hW hcnd _
  have hval : ∀ (j : Nat) t v, Try.f8.params[j]? = some t → args[j]? = some v → Value.okWide Try.prog W .any base t v := hval0
  have hW' := hW
  obtain ⟨p, q, hA0, hV, rfl, hfz, hnd⟩ := hW
  have hA : DataW.TrodAll enc Try.prog W 0 (fun _ => true) true Try.f8.params.toList args.toList ds p := hA0
  rw [Try.params8] at hA hval
  obtain ⟨hargs, rfl, rfl⟩ := trodAll_nil hA
  obtain rfl : args = #[] := by cases args; simp_all
  obtain ⟨rfl, rfl⟩ := trodVars_none hV
  refine (calls_true Go.Pi.mixed Go.Pi.linked Go.Pi.linkU (f := 5) (ds := []) rfl (fun j v x hv hx => ?_) (run_trueFoldEdges)).mono ?_
  · simp at hv
  · rintro e W' ⟨rfl, hk, hsz⟩
    refine ⟨_, rfl, post_true kidsFoldEdges fullFoldEdges (b := 4) ?_ Try.underlying4 (by kernel_rfl) rfl hW' rfl hk hsz⟩
    intro t ht
    rw [Try.params8] at ht
    simp at ht

theorem overFoldEdges : Rows.FoldEdgesSaid :=
  OpenClaim.holds_of_wide 8 Try.f8 rfl rfl rfl rfl rfl rfl rfl ⟨rfl, rfl, rfl, rfl, rfl⟩ rfl rfl rfl rfl rfl (by kernel_rfl) Try.func8 (by kernel_rfl)
    (of_decide_eq_true (by kernel_rfl)) (by unfold Func.isWrapper; first | (rw [if_pos (by decide +kernel)]; kernel_rfl) | (rw [if_neg (by decide +kernel)]; exact ⟨rfl, rfl⟩))
    (fun os started H enc _ => liftedFoldEdges os started H enc)
end Go.Proofs.Ytnpljffnopmaiaa

