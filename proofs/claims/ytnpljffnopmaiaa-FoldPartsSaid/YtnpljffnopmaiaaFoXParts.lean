import Derived.Test.YtnpljffnopmaiaaFoQ
/-
  FoldParts, in plain words.
-/
set_option linter.all false
namespace Go.Pi
theorem parts_pure (l : List Fl) (b : Nat) (hw : ∀ w ∈ l, FlW w) (hl : l.length ≤ lenMax) (hb : b < 18446744073709551616) : ∃ k, eyotlaw2_FoldParts k l (some b) = some true := by
  refine ⟨100, ?_⟩
  unfold eyotlaw2_FoldParts
  rw [begun_fold, Option.bind_some, Bool.not_true, cond_false]
  by_cases h : 20 < l.length
  · rw [decide_pos (by omega), cond_true]
  rw [decide_neg (by omega), cond_false]
  have hw2 : ∀ w ∈ l ++ l, FlW w := fun w hm => by
    rcases List.mem_append.1 hm with hm | hm <;> exact hw w hm
  obtain ⟨p, p1, p2⟩ := least_ok l (by omega) hw
  obtain ⟨q, q1, q2⟩ := least_ok (l ++ l) (by simp; omega) hw2
  obtain ⟨r, r1, r2⟩ := most_ok l (by omega) hw
  obtain ⟨s, s1, s2⟩ := most_ok (l ++ l) (by simp; omega) hw2
  have hm : ∀ w, w ∈ l ↔ w ∈ l ++ l := fun w => by simp
  obtain ⟨a1, a2⟩ := p2.same q2 hm
  obtain ⟨a3, a4⟩ := r2.same s2 hm
  have a5 := p2.two r2
  rw [room8 (by simp; omega), room8 (by simp; omega), room8 (by simp; omega), room8 (by simp; omega), List.nil_append, p1, Option.bind_some, q1, Option.bind_some, r1, Option.bind_some, s1, Option.bind_some, fold_Sum_eq _ (by simp; omega), Option.bind_some, fold_Sum_eq _ (by omega), Option.bind_some]
  have e : sumF (l ++ [some b]) = fAdd (sumF l) (some b) := by unfold sumF; rw [List.foldl_append]; rfl
  rw [e, ref_Same _ _ _ (fAdd_W _ _) (fAdd_W _ _), decide_pos rfl, Option.bind_some, cond_true, ← a1, beq_self_eq_true, cond_true, ref_Same _ _ _ (p2.W hw) (q2.W hw2), decide_pos a2, Option.bind_some, cond_true, ← a3, beq_self_eq_true, cond_true,
    ref_Same _ _ _ (r2.W hw) (s2.W hw2), decide_pos a4, Option.bind_some, cond_true, a5, beq_self_eq_true]
  rfl
end Go.Pi

