import Derived.Test.YthapdljociabjaaRows
import Derived.Test.YthapdljociabjaaWeK
import Derived.Test.YthapdljociabjaaWeXDigits
import Derived.Test.YthapdljociabjaaJZ
import Derived.WalkKit
import Derived.ProofKit
/-
  THE LAW 'eyotlaw1.WeighDigits', PROVED: whatever the input, the call returns true, and the input reads as it did. Conditions: none beyond the row's own.
-/
set_option linter.all false
namespace Go.Proofs.Ythapdljociabjaa
open Go.ChangeShapes Go.WideShapes Go.ChangeAt Go.RowKit Go.Pi
set_option linter.unusedVariables false

theorem ownWeighDigits : ownKnob Try.prog.godebug = none := by kernel_rfl
theorem kidsWeighDigits : Kids Try.prog (fun x => x < Try.prog.types.size) := kids_rows (by kernel_rfl) (by kernel_rfl)
theorem fullWeighDigits : ∀ (t e : Nat), t < Try.prog.types.size → Try.prog.underlying t = some (TypeDesc.slice e) → 0 < Try.prog.cellsOf e := slices_full_of Try.prog (by kernel_rfl)

/-- THE LAW, within the abstract interpreter. -/
theorem run_trueWeighDigits (x0 x1 x2 : D) (h0 : TyD Try.prog 1 40 [x0]) (h1 : TyD Try.prog 1 5 [x1]) (h2 : TyD Try.prog 1 5 [x2]) : Runs Go.Pi.prog 4 [x0, x1, x2] [] (fun d _ => d = .bool true) := by
  obtain ⟨a0, w0, e0⟩ := tyd_int Try.underlying40 h0
  injection e0 with e0
  subst e0
  obtain ⟨a1, w1, e1⟩ := tyd_int Try.underlying5 h1
  injection e1 with e1
  subst e1
  obtain ⟨a2, w2, e2⟩ := tyd_int Try.underlying5 h2
  injection e2 with e2
  subst e2
  obtain ⟨k, hk⟩ := digits_pure a0 a1 a2 w0 w1 w2
  refine (eyotlaw1_WeighDigits_ok k a0 a1 a2 true hk).true ?_
  simp only [VRs]
  exact ⟨by simp only [VR], by simp only [VR], by simp only [VR], trivial⟩

set_option maxRecDepth 100000 in
theorem liftedWeighDigits (os : Os) (started : os.Started) (H : Type) (enc : TypeId × Value → H) :
    ReturnsInHanded {} Try.checked os 7 .any (Rows.weighDigitsSpec.pre6 enc Try.prog Try.f7 Rows.weighDigitsRow.domain false) (Rows.weighDigitsSpec.post enc Try.prog Try.f7 false true false false) := by
  refine returnsInHanded_of_change (C := Try.checked) ownWeighDigits started (by kernel_rfl) Try.func7
    (ChangeSpec.witness6 (enc := enc) (C := Try.checked) false ⟨#[], #[.int .u32 0, .int .u8 0, .int .u8 0], []⟩ 8 (by kernel_rfl) (by kernel_rfl) (by kernel_rfl) (by kernel_rfl)) ?_
  intro W base args ds gs before hval0 hW hcnd _
  have hval : ∀ (j : Nat) t v, Try.f7.params[j]? = some t → args[j]? = some v → Value.okWide Try.prog W .any base t v := hval0
  have hW' := hW
  obtain ⟨p, q, hA0, hV, rfl, hfz, hnd⟩ := hW
  have hA : DataW.TrodAll enc Try.prog W 0 (fun _ => true) true Try.f7.params.toList args.toList ds p := hA0
  rw [Try.params7] at hA hval
  obtain ⟨v0, vs0, d0, ds0, p0, q0, hargs, rfl, rfl, h0, r0⟩ := trodAll_cons hA
  obtain ⟨v1, vs1, d1, ds1, p1, q1, rfl, rfl, rfl, h1, r1⟩ := trodAll_cons r0
  obtain ⟨v2, vs2, d2, ds2, p2, q2, rfl, rfl, rfl, h2, r2⟩ := trodAll_cons r1
  obtain ⟨rfl, rfl, rfl⟩ := trodAll_nil r2
  obtain rfl : args = #[v0, v1, v2] := by cases args; simp_all
  obtain ⟨rfl, rfl⟩ := trodVars_none hV
  obtain ⟨x0, t0, c0⟩ := arg_data (fm := fmS) (m := 1) (by kernel_rfl) Try.underlying40 rfl (hval 0 40 v0 rfl rfl) h0
  obtain ⟨x1, t1, c1⟩ := arg_data (fm := fmS) (m := 1) (by kernel_rfl) Try.underlying5 rfl (hval 1 5 v1 rfl rfl) h1
  obtain ⟨x2, t2, c2⟩ := arg_data (fm := fmS) (m := 1) (by kernel_rfl) Try.underlying5 rfl (hval 2 5 v2 rfl rfl) h2
  refine (calls_true Go.Pi.mixed Go.Pi.linked Go.Pi.linkU (f := 4) (ds := [x0, x1, x2]) rfl (fun j v x hv hx => ?_) (run_trueWeighDigits x0 x1 x2 t0 t1 t2)).mono ?_
  · rcases j with _ | _ | _ | j
    · simp at hv hx; subst hv; subst hx; exact c0
    · simp at hv hx; subst hv; subst hx; exact c1
    · simp at hv hx; subst hv; subst hx; exact c2
    · simp at hv
  · rintro e W' ⟨rfl, hk, hsz⟩
    refine ⟨_, rfl, post_true kidsWeighDigits fullWeighDigits (b := 4) ?_ Try.underlying4 (by kernel_rfl) rfl hW' rfl hk hsz⟩
    intro t ht
    rw [Try.params7] at ht
    simp at ht
    rcases ht with rfl | rfl | rfl <;> (show _ < _; decide +kernel)

theorem overWeighDigits : Rows.WeighDigitsSaid :=
  OpenClaim.holds_of_wide 7 Try.f7 rfl rfl rfl rfl rfl rfl rfl ⟨rfl, rfl, rfl, rfl, rfl⟩ rfl rfl rfl rfl rfl (by kernel_rfl) Try.func7 (by kernel_rfl)
    (of_decide_eq_true (by kernel_rfl)) (by unfold Func.isWrapper; first | (rw [if_pos (by decide +kernel)]; kernel_rfl) | (rw [if_neg (by decide +kernel)]; exact ⟨rfl, rfl⟩))
    (fun os started H enc _ => liftedWeighDigits os started H enc)
end Go.Proofs.Ythapdljociabjaa

