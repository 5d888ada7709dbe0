/-
  THE LAW 'eyotlaw18.TreeAll', PROVED: whatever the input, the call returns true, and the input reads as it did. Conditions: none beyond the row's own.
-/
import Derived.Test.YtghncdeldlknnaaRows
import Derived.Test.YtghncdeldlknnaaTxK
import Derived.Test.YtghncdeldlknnaaTxU
import Derived.Test.YtghncdeldlknnaaJZ
import Derived.WalkKit
import Derived.ProofKit
set_option linter.all false
namespace Go.Proofs.Ytghncdeldlknnaa
open Go.ChangeShapes Go.WideShapes Go.ChangeAt Go.RowKit Go.Pi
set_option linter.unusedVariables false

theorem own : ownKnob Try.prog.godebug = none := by kernel_rfl
theorem kids : Kids Try.prog (fun x => x < Try.prog.types.size) := kids_rows (by kernel_rfl) (by kernel_rfl)
theorem full : ∀ (t e : Nat), t < Try.prog.types.size → Try.prog.underlying t = some (TypeDesc.slice e) → 0 < Try.prog.cellsOf e := slices_full_of Try.prog (by kernel_rfl)
theorem node_of {x : List D} (h : TyD Try.prog 4 49 x) : ∃ a : NodeT, NodeW a ∧ x = a.D := by
  obtain ⟨hl, hf⟩ := tyd_struct Try.underlying49 h
  have hc3 : Try.prog.cellsOf 3 = 1 := by kernel_rfl
  have hc : Try.prog.cellsOf 49 = 5 := by kernel_rfl
  rw [hc] at hl
  obtain ⟨x0, x1, x2, x3, x4, rfl⟩ : ∃ a b c d e, x = [a, b, c, d, e] := by
    match x, hl with
    | [a, b, c, d, e], _ => exact ⟨a, b, c, d, e, rfl⟩
  have h0 := hf _ (by simp; exact .inl rfl)
  have h1 := hf _ (by simp; exact .inr (.inl rfl))
  have h2 := hf _ (by simp; exact .inr (.inr (.inl rfl)))
  have h3 := hf _ (by simp; exact .inr (.inr (.inr (.inl rfl))))
  have h4 := hf _ (by simp; exact .inr (.inr (.inr (.inr rfl))))
  simp only [hc3] at h0 h1 h2 h3 h4
  obtain ⟨n0, w0, e0⟩ := tyd_int Try.underlying3 h0
  obtain ⟨n1, w1, e1⟩ := tyd_int Try.underlying3 h1
  obtain ⟨n2, w2, e2⟩ := tyd_int Try.underlying3 h2
  obtain ⟨n3, w3, e3⟩ := tyd_int Try.underlying3 h3
  obtain ⟨n4, w4, e4⟩ := tyd_int Try.underlying3 h4
  simp at e0 e1 e2 e3 e4
  subst e0; subst e1; subst e2; subst e3; subst e4
  exact ⟨⟨n0, n1, n2, n3, n4⟩, ⟨w0, w1, w2, w3, w4⟩, rfl⟩
theorem node_nr (a : NodeT) : All2 Nr a.D a.D := by simp [NodeT.D, All2, Nr]

/-- THE LAW, within the abstract interpreter. -/
theorem run_true (l i at' : D) (hl : TyD Try.prog 5 22 [l]) (hi : TyD Try.prog 1 3 [i]) (ha : TyD Try.prog 1 3 [at']) : Runs Go.Pi.prog 107 [l, i, at'] [] (fun d _ => d = .bool true) := by
  obtain ⟨L, hL, hlen, hV⟩ := tyd_list (c := NodeT.D) (W := NodeW) (sz := 5) Try.underlying22 (by kernel_rfl) (fun x h => node_of h) node_nr hl
  obtain ⟨n, wn, en⟩ := tyd_int Try.underlying3 hi
  obtain ⟨q, wq, eq⟩ := tyd_int Try.underlying3 ha
  injection en with en
  injection eq with eq
  subst en; subst eq
  obtain ⟨k, hk⟩ := tree_all_pure L n q hL wn wq
  refine (eyotlaw18_TreeAll_ok k L n q true hk).true ?_
  simp only [VRs]
  exact ⟨hV, by simp only [VR], by simp only [VR], trivial⟩

set_option maxRecDepth 100000 in
theorem lifted (os : Os) (started : os.Started) (H : Type) (enc : TypeId × Value → H) :
    ReturnsInHanded {} Try.checked os 3 .any (Rows.treeAllSpec.pre6 enc Try.prog Try.f3 Rows.treeAllRow.domain false) (Rows.treeAllSpec.post enc Try.prog Try.f3 false true false false) := by
  refine returnsInHanded_of_change (C := Try.checked) own started (by kernel_rfl) Try.func3
    (ChangeSpec.witness6 (enc := enc) (C := Try.checked) false ⟨#[], #[.slice none 0 0, .int .i64 0, .int .i64 0], []⟩ 8 (by kernel_rfl) (by kernel_rfl) (by kernel_rfl) (by kernel_rfl)) ?_
  intro W base args ds gs before hval0 hW hcnd _
  have hval : ∀ (j : Nat) t v, Try.f3.params[j]? = some t → args[j]? = some v → Value.okWide Try.prog W .any base t v := hval0
  have hW' := hW
  obtain ⟨p, q, hA0, hV, rfl, hfz, hnd⟩ := hW
  have hA : DataW.TrodAll enc Try.prog W 0 (fun _ => true) true Try.f3.params.toList args.toList ds p := hA0
  rw [Try.params3] at hA hval
  obtain ⟨v0, vs0, d0, ds0, p0, q0, hargs, rfl, rfl, h0, r0⟩ := trodAll_cons hA
  obtain ⟨v1, vs1, d1, ds1, p1, q1, rfl, rfl, rfl, h1, r1⟩ := trodAll_cons r0
  obtain ⟨v2, vs2, d2, ds2, p2, q2, rfl, rfl, rfl, h2, r2⟩ := trodAll_cons r1
  obtain ⟨rfl, rfl, rfl⟩ := trodAll_nil r2
  obtain rfl : args = #[v0, v1, v2] := by cases args; simp_all
  obtain ⟨rfl, rfl⟩ := trodVars_none hV
  obtain ⟨x0, t0, c0⟩ := arg_data (fm := fmS) (m := 5) (by kernel_rfl) Try.underlying22 rfl (hval 0 22 v0 rfl rfl) h0
  obtain ⟨x1, t1, c1⟩ := arg_data (fm := fmS) (m := 1) (by kernel_rfl) Try.underlying3 rfl (hval 1 3 v1 rfl rfl) h1
  obtain ⟨x2, t2, c2⟩ := arg_data (fm := fmS) (m := 1) (by kernel_rfl) Try.underlying3 rfl (hval 2 3 v2 rfl rfl) h2
  refine (calls_true Go.Pi.mixed Go.Pi.linked Go.Pi.linkU (f := 107) (ds := [x0, x1, x2]) rfl (fun j v x hv hx => ?_) (run_true x0 x1 x2 t0 t1 t2)).mono ?_
  · rcases j with _ | _ | _ | j
    · simp at hv hx; subst hv; subst hx; exact c0
    · simp at hv hx; subst hv; subst hx; exact c1
    · simp at hv hx; subst hv; subst hx; exact c2
    · simp at hv
  · rintro e W' ⟨rfl, hk, hsz⟩
    refine ⟨_, rfl, post_true kids full (b := 4) ?_ Try.underlying4 (by kernel_rfl) rfl hW' rfl hk hsz⟩
    intro t ht
    rw [Try.params3] at ht
    simp at ht
    rcases ht with rfl | rfl <;> (show _ < _; decide +kernel)

theorem over : Rows.TreeAllSaid :=
  OpenClaim.holds_of_wide 3 Try.f3 rfl rfl rfl rfl rfl rfl rfl ⟨rfl, rfl, rfl, rfl, rfl⟩ rfl rfl rfl rfl rfl (by kernel_rfl) Try.func3 (by kernel_rfl)
    (of_decide_eq_true (by kernel_rfl)) (by unfold Func.isWrapper; first | (rw [if_pos (by decide +kernel)]; kernel_rfl) | (rw [if_neg (by decide +kernel)]; exact ⟨rfl, rfl⟩))
    (fun os started H enc _ => lifted os started H enc)
end Go.Proofs.Ytghncdeldlknnaa
