import Derived.Test.YtakonddhaabobaaRows
import Derived.Test.YtakonddhaabobaaSlK
import Derived.Test.YtakonddhaabobaaSlZ
import Derived.Test.YtakonddhaabobaaLP
import Derived.WalkKit
import Derived.ProofKit
/-
 THE LAW 'eyotlaw20.SyncLines', PROVED: whatever the input, the call returns true, and the input reads as it did. Conditions: none beyond the row's own.
-/
set_option linter.all false
namespace Go.Proofs.Ytakonddhaabobaa
open Go.ChangeShapes Go.WideShapes Go.ChangeAt Go.RowKit Go.Pi
set_option linter.all false
theorem ownSyncLines : ownKnob Try.prog.godebug = none := by kernel_rfl
theorem kidsSyncLines : Kids Try.prog (fun x => x < Try.prog.types.size) := kids_rows (by kernel_rfl) (by kernel_rfl)
theorem fullSyncLines : ∀ (t e : Nat), t < Try.prog.types.size → Try.prog.underlying t = some (TypeDesc.slice e) → 0 < Try.prog.cellsOf e := slices_full_of Try.prog (by kernel_rfl)
set_option maxRecDepth 100000 in
theorem run_trueSyncLines (x0 : D) (h0 : TyD Try.prog 3 22 [x0]) : Runs Go.Pi.prog 110 [x0] [] (fun d _ => d = .bool true) := by
 obtain ⟨a0, w0, l0, v0⟩ := tyd_intsK (S := SyS) (k := .u8) Try.underlying22 Try.underlying5 (by kernel_rfl) h0
 exact (ok110 1000).true (law110 (by8 w0)) ⟨v0, trivial⟩
set_option maxRecDepth 100000 in
theorem liftedSyncLines (os : Os) (started : os.Started) (H : Type) (enc : TypeId × Value → H) :
  ReturnsInHanded {} Try.checked os 3 .any (Rows.syncLinesSpec.pre6 enc Try.prog Try.f3 Rows.syncLinesRow.domain false) (Rows.syncLinesSpec.post enc Try.prog Try.f3 false true false false) := by
 refine returnsInHanded_of_change (C := Try.checked) ownSyncLines started (by kernel_rfl) Try.func3
  (ChangeSpec.witness6 (enc := enc) (C := Try.checked) false ⟨#[], #[.slice none 0 0], []⟩ 8 (by kernel_rfl) (by kernel_rfl) (by kernel_rfl) (by kernel_rfl)) ?_
 intro W base args ds gs before hval0 hW hcnd _
 have hval : ∀ (j : Nat) t v, Try.f3.params[j]? = some t → args[j]? = some v → Value.okWide Try.prog W .any base t v := hval0
 have hW' := hW
 obtain ⟨p, q, hA0, hV, rfl, hfz, hnd⟩ := hW
 have hA : DataW.TrodAll enc Try.prog W 0 (fun _ => true) true Try.f3.params.toList args.toList ds p := hA0
 rw [Try.params3] at hA hval
 obtain ⟨v0, vs0, d0, ds0, p0, q0, hargs, rfl, rfl, h0, r0⟩ := trodAll_cons hA
 obtain ⟨rfl, rfl, rfl⟩ := trodAll_nil r0
 obtain rfl : args = #[v0] := by cases args; simp_all
 obtain ⟨rfl, rfl⟩ := trodVars_none hV
 obtain ⟨x0, t0, c0⟩ := arg_data (fm := fmS) (m := 3) (by kernel_rfl) Try.underlying22 rfl (hval 0 22 v0 rfl rfl) h0
 refine (calls_slim Go.Pi.mixed Go.Pi.linked Go.Pi.linkU (f := 110) (ds := [x0]) rfl (fun j v x hv hx => ?_) (run_trueSyncLines x0 t0)).mono ?_
 ·rcases j with _ | j
  ·simp at hv hx; subst hv; subst hx; exact c0
  ·simp at hv
 ·rintro e W' ⟨rfl, hk, hsz⟩
  refine ⟨_, rfl, post_true kidsSyncLines fullSyncLines (b := 4) ?_ Try.underlying4 (by kernel_rfl) rfl hW' rfl hk hsz⟩
  intro t ht
  rw [Try.params3] at ht
  simp at ht
  subst ht; show _ < _; decide +kernel
theorem overSyncLines : Rows.SyncLinesSaid :=
 OpenClaim.holds_of_wide 3 Try.f3 rfl rfl rfl rfl rfl rfl rfl ⟨rfl, rfl, rfl, rfl, rfl⟩ rfl rfl rfl rfl rfl (by kernel_rfl) Try.func3 (by kernel_rfl)
  (of_decide_eq_true (by kernel_rfl)) (by unfold Func.isWrapper; first | (rw [if_pos (by decide +kernel)]; kernel_rfl) | (rw [if_neg (by decide +kernel)]; exact ⟨rfl, rfl⟩))
  (fun os started H enc _ => liftedSyncLines os started H enc)
end Go.Proofs.Ytakonddhaabobaa

