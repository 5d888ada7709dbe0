import Derived.Test.YtnpljffnopmaiaaFoQ
import Derived.Test.YtnpljffnopmaiaaFoM
/-
  FoldSides, in plain words.
-/
set_option linter.all false
namespace Go.Pi
theorem near_one : FloatKind.f64.nearest 1 = 4607182418800017408 := by decide +kernel
theorem near_two : FloatKind.f64.nearest 2 = 4611686018427387904 := by decide +kernel
theorem sides_pureF (b : Nat) (n : Int) (hb : b < 18446744073709551616) (hn : IntKind.min .i64 ≤ n ∧ n ≤ IntKind.max .i64) : ∃ k, eyotlaw2_FoldSides k (some b) n = some true := by
  refine ⟨100, ?_⟩
  have ht : ∀ (a : Fl) (n : Int), fold_Times 100 a n = some (fMul a (some (FloatKind.f64.nearest n))) := fun _ _ => rfl
  unfold eyotlaw2_FoldSides
  rw [begun_fold, Option.bind_some, Bool.not_true, cond_false]
  by_cases h1 : n < 0
  · rw [decide_pos h1, cond_true, Option.bind_some, cond_true]
  rw [decide_neg h1, cond_false]
  by_cases h2 : n > 1000000
  · rw [decide_pos h2, Option.bind_some, cond_true]
  rw [decide_neg h2, Option.bind_some, cond_false]
  have hbw : FlW (some b) := hb
  rw [ht, Option.bind_some, ht, Option.bind_some, mul_turn hb]
  have hW : FlW (fNeg (fMul (some b) (some (FloatKind.f64.nearest n)))) := by
    rw [← mul_turn hb]; exact fMul_W _ _
  rw [ref_Same _ _ _ hW hW, decide_pos rfl, Option.bind_some, cond_true, ht, Option.bind_some, near_one]
  have h3 : keyF (fMul (some b) (some 4607182418800017408)) = keyF (some b) := by
    by_cases hn : isNum b
    · rw [mul_one hb hn]
    · have e1 : fMul (some b) (some 4607182418800017408) = none := by
        show Ieee.double.mul b 4607182418800017408 = none
        unfold Ieee.Format.mul
        rcases read_cases b with ⟨_, t, e⟩ | ⟨h, _⟩ | ⟨h, _⟩
        · rw [e]
          cases Ieee.double.read 4607182418800017408 <;> rfl
        · unfold isNum at hn; omega
        · unfold isNum at hn; omega
      rw [e1, keyF_not (a := some b) hn]
      rfl
  rw [ref_Same _ _ _ (fMul_W _ _) hbw, decide_pos h3, Option.bind_some, cond_true, ht, Option.bind_some, near_two, twice_eq, ref_Same _ _ _ (fAdd_W _ _) (fAdd_W _ _), decide_pos rfl, Option.bind_some, cond_true, ne_selfF]
  by_cases hf : isF (some b)
  · rw [decide_pos hf, Bool.not_true, cond_false, fold_Sum_eq _ (by simp), Option.bind_some]
    have hnum : isNum b := hf
    have e1 : sumF [some b, some b] = fAdd (fAdd (some 0) (some b)) (some b) := rfl
    rw [e1, zero_add hb hnum]
    by_cases h0 : rung b = 0
    · rw [if_pos h0, zero_add hb hnum, if_pos h0]
      have hb2 : b = 0 ∨ b = 9223372036854775808 := by unfold rung at h0; omega
      have e2 : (fOrd (fAdd (some b) (some b)) (some 0) == some .eq) = true := by
        rcases hb2 with rfl | rfl <;> decide +kernel
      rw [e2]
      rfl
    · rw [if_neg h0]
      obtain ⟨c, c1, c2⟩ := add_self_num hnum
      have e2 : (fOrd (fAdd (some b) (some b)) (fAdd (some b) (some b)) == some .eq) = true := by
        rw [c1, fOrd_num c2 c2, Int.compare_eq_eq.2 rfl]
        rfl
      rw [e2]
      rfl
  · rw [decide_neg hf, Bool.not_false, cond_true]
    rfl
end Go.Pi

