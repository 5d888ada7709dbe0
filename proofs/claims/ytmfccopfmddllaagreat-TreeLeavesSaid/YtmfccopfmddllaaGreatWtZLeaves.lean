import Derived.Test.YtmfccopfmddllaaGreatRows
import Derived.Test.YtmfccopfmddllaaGreatWtT
import Derived.Test.YtmfccopfmddllaaGreatWtVLeaves
import Derived.Test.YtmfccopfmddllaaGreatLP
import Derived.WalkKit
import Derived.ProofKit
/-
 THE LAW 'eyotlaw18.TreeLeaves', PROVED: whatever the input, the call returns true, and the input reads as it did. Conditions: none beyond the row's own.
-/
set_option linter.all false
namespace Go.Proofs.YtmfccopfmddllaaGreat
open Go.ChangeShapes Go.WideShapes Go.ChangeAt Go.RowKit Go.Pi
set_option linter.all false
theorem ownTreeLeaves : ownKnob Tryz.prog.godebug = none := by kernel_rfl
theorem kidsTreeLeaves : Kids Tryz.prog (fun x => x < Tryz.prog.types.size) := kids_rows (by kernel_rfl) (by kernel_rfl)
theorem fullTreeLeaves : ∀ (t e : Nat), t < Tryz.prog.types.size → Tryz.prog.underlying t = some (TypeDesc.slice e) → 0 < Tryz.prog.cellsOf e := slices_full_of Tryz.prog (by kernel_rfl)
set_option maxRecDepth 100000 in
theorem run_trueTreeLeaves (x0 x1 : D) (h0 : TyD Tryz.prog 1 5 [x0]) (h1 : TyD Tryz.prog 3 22 [x1]) : ZL Go.Pi.prog 143 [x0, x1] [] (fun d _ => d = .bool true) := by
 obtain ⟨a0, w0, e0⟩ := UC Tryz.underlying5 h0
 injection e0 with e0
 subst e0
 obtain ⟨a1, w1, l1, v1⟩ := zdx (S := SyS) (k := .u8) Tryz.underlying22 Tryz.underlying5 (by kernel_rfl) h1
 exact (zql K0).true (zqj w0 w1) ⟨zeY, v1, trivial⟩
set_option maxRecDepth 100000 in
theorem liftedTreeLeaves (os : Os) (started : os.Started) (H : Type) (enc : TypeId × Value → H) :
  ReturnsInHanded {} Tryz.checked os 5 .any (Rows.treeLeavesSpec.pre6 enc Tryz.prog Tryz.f5 Rows.treeLeavesRow.domain false) (Rows.treeLeavesSpec.post enc Tryz.prog Tryz.f5 false true false false) := by
 refine returnsInHanded_of_change (C := Tryz.checked) ownTreeLeaves started (by kernel_rfl) Tryz.func5
  (ChangeSpec.witness6 (enc := enc) (C := Tryz.checked) false ⟨#[], #[.int .u8 0, .slice none 0 0], []⟩ 8 (by kernel_rfl) (by kernel_rfl) (by kernel_rfl) (by kernel_rfl)) ?_
 intro W base args ds gs before hval0 hW hcnd _
 have hval : ∀ (j : Nat) t v, Tryz.f5.params[j]? = some t → args[j]? = some v → Value.okWide Tryz.prog W .any base t v := hval0
 have hW' := hW
 obtain ⟨p, q, hA0, hV, rfl, hfz, hnd⟩ := hW
 have hA : DataW.TrodAll enc Tryz.prog W 0 (fun _ => true) true Tryz.f5.params.toList args.toList ds p := hA0
 rw [Tryz.params5] at hA hval
 obtain ⟨v0, vs0, d0, ds0, p0, q0, hargs, rfl, rfl, h0, r0⟩ := trodAll_cons hA
 obtain ⟨v1, vs1, d1, ds1, p1, q1, rfl, rfl, rfl, h1, r1⟩ := trodAll_cons r0
 obtain ⟨rfl, rfl, rfl⟩ := trodAll_nil r1
 obtain rfl : args = #[v0, v1] := by cases args; simp_all
 obtain ⟨rfl, rfl⟩ := trodVars_none hV
 obtain ⟨x0, t0, c0⟩ := XX (fm := fmS) (m := 1) (by kernel_rfl) Tryz.underlying5 rfl (hval 0 5 v0 rfl rfl) h0
 obtain ⟨x1, t1, c1⟩ := XX (fm := fmS) (m := 3) (by kernel_rfl) Tryz.underlying22 rfl (hval 1 22 v1 rfl rfl) h1
 refine (zb8 Go.Pi.mixed Go.Pi.linked Go.Pi.zpO (f := 143) (ds := [x0, x1]) rfl (fun j v x hv hx => ?_) (run_trueTreeLeaves x0 x1 t0 t1)).mono ?_
 ·rcases j with _ | _ | j
  ·simp at hv hx; subst hv; subst hx; exact c0
  ·simp at hv hx; subst hv; subst hx; exact c1
  ·simp at hv
 ·rintro e W' ⟨rfl, hk, hsz⟩
  refine ⟨_, rfl, zdI kidsTreeLeaves fullTreeLeaves (b := 4) ?_ Tryz.underlying4 (by kernel_rfl) rfl hW' rfl hk hsz⟩
  intro t ht
  rw [Tryz.params5] at ht
  simp at ht
  rcases ht with rfl | rfl <;> (show _ < _; decide +kernel)
theorem overTreeLeaves : Rows.TreeLeavesSaid :=
 OpenClaim.holds_of_wide 5 Tryz.f5 rfl rfl rfl rfl rfl rfl rfl ⟨rfl, rfl, rfl, rfl, rfl⟩ rfl rfl rfl rfl rfl (by kernel_rfl) Tryz.func5 (by kernel_rfl)
  (of_decide_eq_true (by kernel_rfl)) (by unfold Func.isWrapper; first | (rw [if_pos (by decide +kernel)]; kernel_rfl) | (rw [if_neg (by decide +kernel)]; exact ⟨rfl, rfl⟩))
  (fun os started H enc _ => liftedTreeLeaves os started H enc)
end Go.Proofs.YtmfccopfmddllaaGreat

