import Derived.Test.YtnpljffnopmaiaaFoS6
/-
  FoldAll, in plain words.
-/
set_option linter.all false
namespace Go.Pi
theorem all_pure (l : List Fl) (b : Nat) (n : Int) (hw : ∀ w ∈ l, FlW w) (hl : l.length ≤ lenMax) (hb : b < 18446744073709551616) (hn : IntKind.min .i64 ≤ n ∧ n ≤ IntKind.max .i64) : ∃ k, eyotlaw2_FoldAll k l (some b) n = some true := by
  refine ⟨100, ?_⟩
  unfold eyotlaw2_FoldAll
  rw [begun_fold, Option.bind_some, Bool.not_true, cond_false]
  by_cases h : 30 < l.length
  · rw [decide_pos (by omega), cond_true]
  rw [decide_neg (by omega), cond_false]
  obtain ⟨a, a1, a2⟩ := least_ok l (by omega) hw
  obtain ⟨c, c1, c2⟩ := most_ok l (by omega) hw
  obtain ⟨d, d1, d2⟩ := refLeast_is l (by omega) hw
  obtain ⟨e, e1, e2⟩ := refMost_is l (by omega) hw
  obtain ⟨X, x1, x2, x3⟩ := foldSort_is l (by omega) hw
  obtain ⟨Y, y1, y2, y3⟩ := refSort_is l (by omega) hw
  obtain ⟨p1, p2⟩ := a2.same d2 (fun _ => Iff.rfl)
  obtain ⟨q1, q2⟩ := c2.same e2 (fun _ => Iff.rfl)
  have t1 : fold_Times 100 (some b) n = some (fMul (some b) (some (FloatKind.f64.nearest n))) := rfl
  have t2 : eyotref1_Times 100 (some b) n = some (fMul (some b) (some (FloatKind.f64.nearest n))) := rfl
  have hs := sameAll_ok X Y (by rw [x3.length_eq]; omega) (rises_eq x2 y2 (x3.trans y3.symm)) (fun x hx => hw x (x3.mem_iff.1 hx)) (fun y hy => hw y (y3.mem_iff.1 hy))
  rw [a1, Option.bind_some, c1, Option.bind_some, d1, Option.bind_some, e1, Option.bind_some, fold_Sum_eq l (by omega), Option.bind_some, refSum_is l (by omega), Option.bind_some, ref_Same _ _ _ (sumF_W l) (sumF_W l), decide_pos rfl, Option.bind_some, cond_true,
    t1, Option.bind_some, t2, Option.bind_some, ref_Same _ _ _ (fMul_W _ _) (fMul_W _ _), decide_pos rfl, Option.bind_some, cond_true, ← p1, beq_self_eq_true, cond_true, ref_Same _ _ _ (a2.W hw) (d2.W hw), decide_pos p2, Option.bind_some, cond_true,
    ← q1, beq_self_eq_true, cond_true, ref_Same _ _ _ (c2.W hw) (e2.W hw), decide_pos q2, Option.bind_some, cond_true, x1, Option.bind_some, y1, Option.bind_some, hs]
  rfl
end Go.Pi

