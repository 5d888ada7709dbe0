import Derived.Test.YtmfccopfmddllaaGreatRows
import Derived.Test.YtmfccopfmddllaaGreatWtT
import Derived.Test.YtmfccopfmddllaaGreatWtVDown
import Derived.Test.YtmfccopfmddllaaGreatLP
import Derived.WalkKit
import Derived.ProofKit
/-
 THE LAW 'eyotlaw18.TreeDown', PROVED: whatever the input, the call returns true, and the input reads as it did. Conditions: none beyond the row's own.
-/
set_option linter.all false
namespace Go.Proofs.YtmfccopfmddllaaGreat
open Go.ChangeShapes Go.WideShapes Go.ChangeAt Go.RowKit Go.Pi
set_option linter.all false
theorem ownTreeDown : ownKnob Tryz.prog.godebug = none := by kernel_rfl
theorem kidsTreeDown : Kids Tryz.prog (fun x => x < Tryz.prog.types.size) := kids_rows (by kernel_rfl) (by kernel_rfl)
theorem fullTreeDown : ∀ (t e : Nat), t < Tryz.prog.types.size → Tryz.prog.underlying t = some (TypeDesc.slice e) → 0 < Tryz.prog.cellsOf e := slices_full_of Tryz.prog (by kernel_rfl)
set_option maxRecDepth 100000 in
theorem run_trueTreeDown (x0 x1 x2 : D) (h0 : TyD Tryz.prog 1 5 [x0]) (h1 : TyD Tryz.prog 3 22 [x1]) (h2 : TyD Tryz.prog 1 5 [x2]) : ZL Go.Pi.prog 142 [x0, x1, x2] [] (fun d _ => d = .bool true) := by
 obtain ⟨a0, w0, e0⟩ := UC Tryz.underlying5 h0
 injection e0 with e0
 subst e0
 obtain ⟨a1, w1, l1, v1⟩ := zdx (S := SyS) (k := .u8) Tryz.underlying22 Tryz.underlying5 (by kernel_rfl) h1
 obtain ⟨a2, w2, e2⟩ := UC Tryz.underlying5 h2
 injection e2 with e2
 subst e2
 exact (zqc K0).true (zp9 w0 w1 w2) ⟨zeY, v1, zeY, trivial⟩
set_option maxRecDepth 100000 in
theorem liftedTreeDown (os : Os) (started : os.Started) (H : Type) (enc : TypeId × Value → H) :
  ReturnsInHanded {} Tryz.checked os 4 .any (Rows.treeDownSpec.pre6 enc Tryz.prog Tryz.f4 Rows.treeDownRow.domain false) (Rows.treeDownSpec.post enc Tryz.prog Tryz.f4 false true false false) := by
 refine returnsInHanded_of_change (C := Tryz.checked) ownTreeDown started (by kernel_rfl) Tryz.func4
  (ChangeSpec.witness6 (enc := enc) (C := Tryz.checked) false ⟨#[], #[.int .u8 0, .slice none 0 0, .int .u8 0], []⟩ 8 (by kernel_rfl) (by kernel_rfl) (by kernel_rfl) (by kernel_rfl)) ?_
 intro W base args ds gs before hval0 hW hcnd _
 have hval : ∀ (j : Nat) t v, Tryz.f4.params[j]? = some t → args[j]? = some v → Value.okWide Tryz.prog W .any base t v := hval0
 have hW' := hW
 obtain ⟨p, q, hA0, hV, rfl, hfz, hnd⟩ := hW
 have hA : DataW.TrodAll enc Tryz.prog W 0 (fun _ => true) true Tryz.f4.params.toList args.toList ds p := hA0
 rw [Tryz.params4] at hA hval
 obtain ⟨v0, vs0, d0, ds0, p0, q0, hargs, rfl, rfl, h0, r0⟩ := trodAll_cons hA
 obtain ⟨v1, vs1, d1, ds1, p1, q1, rfl, rfl, rfl, h1, r1⟩ := trodAll_cons r0
 obtain ⟨v2, vs2, d2, ds2, p2, q2, rfl, rfl, rfl, h2, r2⟩ := trodAll_cons r1
 obtain ⟨rfl, rfl, rfl⟩ := trodAll_nil r2
 obtain rfl : args = #[v0, v1, v2] := by cases args; simp_all
 obtain ⟨rfl, rfl⟩ := trodVars_none hV
 obtain ⟨x0, t0, c0⟩ := XX (fm := fmS) (m := 1) (by kernel_rfl) Tryz.underlying5 rfl (hval 0 5 v0 rfl rfl) h0
 obtain ⟨x1, t1, c1⟩ := XX (fm := fmS) (m := 3) (by kernel_rfl) Tryz.underlying22 rfl (hval 1 22 v1 rfl rfl) h1
 obtain ⟨x2, t2, c2⟩ := XX (fm := fmS) (m := 1) (by kernel_rfl) Tryz.underlying5 rfl (hval 2 5 v2 rfl rfl) h2
 refine (zb8 Go.Pi.mixed Go.Pi.linked Go.Pi.zpO (f := 142) (ds := [x0, x1, x2]) rfl (fun j v x hv hx => ?_) (run_trueTreeDown x0 x1 x2 t0 t1 t2)).mono ?_
 ·rcases j with _ | _ | _ | j
  ·simp at hv hx; subst hv; subst hx; exact c0
  ·simp at hv hx; subst hv; subst hx; exact c1
  ·simp at hv hx; subst hv; subst hx; exact c2
  ·simp at hv
 ·rintro e W' ⟨rfl, hk, hsz⟩
  refine ⟨_, rfl, zdI kidsTreeDown fullTreeDown (b := 4) ?_ Tryz.underlying4 (by kernel_rfl) rfl hW' rfl hk hsz⟩
  intro t ht
  rw [Tryz.params4] at ht
  simp at ht
  rcases ht with rfl | rfl | rfl <;> (show _ < _; decide +kernel)
theorem overTreeDown : Rows.TreeDownSaid :=
 OpenClaim.holds_of_wide 4 Tryz.f4 rfl rfl rfl rfl rfl rfl rfl ⟨rfl, rfl, rfl, rfl, rfl⟩ rfl rfl rfl rfl rfl (by kernel_rfl) Tryz.func4 (by kernel_rfl)
  (of_decide_eq_true (by kernel_rfl)) (by unfold Func.isWrapper; first | (rw [if_pos (by decide +kernel)]; kernel_rfl) | (rw [if_neg (by decide +kernel)]; exact ⟨rfl, rfl⟩))
  (fun os started H enc _ => liftedTreeDown os started H enc)
end Go.Proofs.YtmfccopfmddllaaGreat

