import Derived.Test.YthapdljociabjaaRows
import Derived.Test.YthapdljociabjaaWeK
import Derived.Test.YthapdljociabjaaWeXForms
import Derived.Test.YthapdljociabjaaJZ
import Derived.WalkKit
import Derived.ProofKit
/-
  THE LAW 'eyotlaw1.WeighForms', PROVED: whatever the input, the call returns true, and the input reads as it did. Conditions: none beyond the row's own.
-/
set_option linter.all false
namespace Go.Proofs.Ythapdljociabjaa
open Go.ChangeShapes Go.WideShapes Go.ChangeAt Go.RowKit Go.Pi
set_option linter.unusedVariables false

theorem ownWeighForms : ownKnob Try.prog.godebug = none := by kernel_rfl
theorem kidsWeighForms : Kids Try.prog (fun x => x < Try.prog.types.size) := kids_rows (by kernel_rfl) (by kernel_rfl)
theorem fullWeighForms : ∀ (t e : Nat), t < Try.prog.types.size → Try.prog.underlying t = some (TypeDesc.slice e) → 0 < Try.prog.cellsOf e := slices_full_of Try.prog (by kernel_rfl)

/-- THE LAW, within the abstract interpreter. -/
theorem run_trueWeighForms : Runs Go.Pi.prog 8 [] [] (fun d _ => d = .bool true) := by
  obtain ⟨k, hk⟩ := forms_pure
  refine (eyotlaw1_WeighForms_ok k true hk).true ?_
  trivial

set_option maxRecDepth 100000 in
theorem liftedWeighForms (os : Os) (started : os.Started) (H : Type) (enc : TypeId × Value → H) :
    ReturnsInHanded {} Try.checked os 11 .any (Rows.weighFormsSpec.pre6 enc Try.prog Try.f11 Rows.weighFormsRow.domain false) (Rows.weighFormsSpec.post enc Try.prog Try.f11 false true false false) := by
  refine returnsInHanded_of_change (C := Try.checked) ownWeighForms started (by kernel_rfl) Try.func11
    (ChangeSpec.witness6 (enc := enc) (C := Try.checked) false ⟨#[], #[], []⟩ 8 (by kernel_rfl) (by kernel_rfl) (by kernel_rfl) (by kernel_rfl)) ?_
  intro W base args ds gs before hval0 hW hcnd _
  have hval : ∀ (j : Nat) t v, Try.f11.params[j]? = some t → args[j]? = some v → Value.okWide Try.prog W .any base t v := hval0
  have hW' := hW
  obtain ⟨p, q, hA0, hV, rfl, hfz, hnd⟩ := hW
  have hA : DataW.TrodAll enc Try.prog W 0 (fun _ => true) true Try.f11.params.toList args.toList ds p := hA0
  rw [Try.params11] at hA hval
  obtain ⟨hargs, rfl, rfl⟩ := trodAll_nil hA
  obtain rfl : args = #[] := by cases args; simp_all
  obtain ⟨rfl, rfl⟩ := trodVars_none hV
  refine (calls_true Go.Pi.mixed Go.Pi.linked Go.Pi.linkU (f := 8) (ds := []) rfl (fun j v x hv hx => ?_) (run_trueWeighForms)).mono ?_
  · simp at hv
  · rintro e W' ⟨rfl, hk, hsz⟩
    refine ⟨_, rfl, post_true kidsWeighForms fullWeighForms (b := 4) ?_ Try.underlying4 (by kernel_rfl) rfl hW' rfl hk hsz⟩
    intro t ht
    rw [Try.params11] at ht
    simp at ht

theorem overWeighForms : Rows.WeighFormsSaid :=
  OpenClaim.holds_of_wide 11 Try.f11 rfl rfl rfl rfl rfl rfl rfl ⟨rfl, rfl, rfl, rfl, rfl⟩ rfl rfl rfl rfl rfl (by kernel_rfl) Try.func11 (by kernel_rfl)
    (of_decide_eq_true (by kernel_rfl)) (by unfold Func.isWrapper; first | (rw [if_pos (by decide +kernel)]; kernel_rfl) | (rw [if_neg (by decide +kernel)]; exact ⟨rfl, rfl⟩))
    (fun os started H enc _ => liftedWeighForms os started H enc)
end Go.Proofs.Ythapdljociabjaa

