import Derived.Test.YtnpljffnopmaiaaRows
import Derived.Test.YtnpljffnopmaiaaFoK
import Derived.Test.YtnpljffnopmaiaaFoXSorts
import Derived.Test.YtnpljffnopmaiaaJZ
import Derived.WalkKit
import Derived.ProofKit
/-
  THE LAW 'eyotlaw2.FoldSorts', PROVED: whatever the input, the call returns true, and the input reads as it did. Conditions: none beyond the row's own.
-/
set_option linter.all false
namespace Go.Proofs.Ytnpljffnopmaiaa
open Go.ChangeShapes Go.WideShapes Go.ChangeAt Go.RowKit Go.Pi
set_option linter.unusedVariables false

theorem ownFoldSorts : ownKnob Try.prog.godebug = none := by kernel_rfl
theorem kidsFoldSorts : Kids Try.prog (fun x => x < Try.prog.types.size) := kids_rows (by kernel_rfl) (by kernel_rfl)
theorem fullFoldSorts : ∀ (t e : Nat), t < Try.prog.types.size → Try.prog.underlying t = some (TypeDesc.slice e) → 0 < Try.prog.cellsOf e := slices_full_of Try.prog (by kernel_rfl)

/-- THE LAW, within the abstract interpreter. -/
theorem run_trueFoldSorts (x0 x1 : D) (h0 : TyD Try.prog 3 22 [x0]) (h1 : TyD Try.prog 1 5 [x1]) : Runs Go.Pi.prog 1 [x0, x1] [] (fun d _ => d = .bool true) := by
  obtain ⟨a0, w0, l0, v0⟩ := tyd_list (c := fD) (W := FlW) (sz := 1) Try.underlying22 (by kernel_rfl) (fun x h => tyd_flt2 Try.underlying23 h) (fun a => ⟨by simp [Nr], trivial⟩) h0
  obtain ⟨a1, w1, e1⟩ := tyd_int Try.underlying5 h1
  injection e1 with e1
  subst e1
  obtain ⟨k, hk⟩ := sorts_pure a0 a1 w0 l0 w1
  refine (eyotlaw2_FoldSorts_ok k a0 a1 true hk).true ?_
  simp only [VRs]
  exact ⟨v0, by simp only [VR], trivial⟩

set_option maxRecDepth 100000 in
theorem liftedFoldSorts (os : Os) (started : os.Started) (H : Type) (enc : TypeId × Value → H) :
    ReturnsInHanded {} Try.checked os 4 .any (Rows.foldSortsSpec.pre6 enc Try.prog Try.f4 Rows.foldSortsRow.domain false) (Rows.foldSortsSpec.post enc Try.prog Try.f4 false true false false) := by
  refine returnsInHanded_of_change (C := Try.checked) ownFoldSorts started (by kernel_rfl) Try.func4
    (ChangeSpec.witness6 (enc := enc) (C := Try.checked) false ⟨#[], #[.slice none 0 0, .int .u8 0], []⟩ 8 (by kernel_rfl) (by kernel_rfl) (by kernel_rfl) (by kernel_rfl)) ?_
  intro W base args ds gs before hval0 hW hcnd _
  have hval : ∀ (j : Nat) t v, Try.f4.params[j]? = some t → args[j]? = some v → Value.okWide Try.prog W .any base t v := hval0
  have hW' := hW
  obtain ⟨p, q, hA0, hV, rfl, hfz, hnd⟩ := hW
  have hA : DataW.TrodAll enc Try.prog W 0 (fun _ => true) true Try.f4.params.toList args.toList ds p := hA0
  rw [Try.params4] at hA hval
  obtain ⟨v0, vs0, d0, ds0, p0, q0, hargs, rfl, rfl, h0, r0⟩ := trodAll_cons hA
  obtain ⟨v1, vs1, d1, ds1, p1, q1, rfl, rfl, rfl, h1, r1⟩ := trodAll_cons r0
  obtain ⟨rfl, rfl, rfl⟩ := trodAll_nil r1
  obtain rfl : args = #[v0, v1] := by cases args; simp_all
  obtain ⟨rfl, rfl⟩ := trodVars_none hV
  obtain ⟨x0, t0, c0⟩ := arg_data (fm := fmS) (m := 3) (by kernel_rfl) Try.underlying22 rfl (hval 0 22 v0 rfl rfl) h0
  obtain ⟨x1, t1, c1⟩ := arg_data (fm := fmS) (m := 1) (by kernel_rfl) Try.underlying5 rfl (hval 1 5 v1 rfl rfl) h1
  refine (calls_true Go.Pi.mixed Go.Pi.linked Go.Pi.linkU (f := 1) (ds := [x0, x1]) rfl (fun j v x hv hx => ?_) (run_trueFoldSorts x0 x1 t0 t1)).mono ?_
  · rcases j with _ | _ | j
    · simp at hv hx; subst hv; subst hx; exact c0
    · simp at hv hx; subst hv; subst hx; exact c1
    · simp at hv
  · rintro e W' ⟨rfl, hk, hsz⟩
    refine ⟨_, rfl, post_true kidsFoldSorts fullFoldSorts (b := 4) ?_ Try.underlying4 (by kernel_rfl) rfl hW' rfl hk hsz⟩
    intro t ht
    rw [Try.params4] at ht
    simp at ht
    rcases ht with rfl | rfl <;> (show _ < _; decide +kernel)

theorem overFoldSorts : Rows.FoldSortsSaid :=
  OpenClaim.holds_of_wide 4 Try.f4 rfl rfl rfl rfl rfl rfl rfl ⟨rfl, rfl, rfl, rfl, rfl⟩ rfl rfl rfl rfl rfl (by kernel_rfl) Try.func4 (by kernel_rfl)
    (of_decide_eq_true (by kernel_rfl)) (by unfold Func.isWrapper; first | (rw [if_pos (by decide +kernel)]; kernel_rfl) | (rw [if_neg (by decide +kernel)]; exact ⟨rfl, rfl⟩))
    (fun os started H enc _ => liftedFoldSorts os started H enc)
end Go.Proofs.Ytnpljffnopmaiaa

