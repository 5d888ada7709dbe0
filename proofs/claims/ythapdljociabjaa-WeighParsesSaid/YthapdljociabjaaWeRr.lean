import Derived.Test.YthapdljociabjaaWeR
/-
  THE REFERENCE's ORDER: by cases; it is the order of the keys.
-/
set_option linter.all false
namespace Go.Pi
/-- The order of two floats, as the reference has it. -/
theorem eyotref1_Order_eq (k a b : Nat) (ha : a < 18446744073709551616) (hb : b < 18446744073709551616) : eyotref1_Order k (some a) (some b) = some (cmpN (keyN a) (keyN b)) := by
  unfold eyotref1_Order cmpN keyN
  rw [ne_self, ne_self]
  by_cases na : isNum a
  · by_cases nb : isNum b
    · rw [fOrd_num na nb, fOrd_num na num_zero, cmpI_lt, cmpI_gt, cmpI_eq, sg_zero, math_Signbit_eq k a ha, math_Signbit_eq k b hb]
      simp only [na, nb, decide_true, Bool.not_true, cond_false, if_true, Option.bind_some]
      have sa := sgB_eq ha
      have sb := sgB_eq hb
      rw [isNum_iff ha] at na
      rw [isNum_iff hb] at nb
      by_cases h1 : sgB a < sgB b
      · rw [decide_pos h1, cond_true, if_pos]
        split at sa <;> split at sb <;> (repeat' split) <;> omega
      · rw [decide_neg h1, cond_false]
        by_cases h2 : sgB b < sgB a
        · rw [decide_pos h2, cond_true, if_neg, if_pos]
          · split at sa <;> split at sb <;> (repeat' split) <;> omega
          · split at sa <;> split at sb <;> (repeat' split) <;> omega
        · rw [decide_neg h2, cond_false]
          by_cases h3 : sgB a = 0
          · rw [decide_pos h3, cond_true]
            simp only [Option.bind_some]
            by_cases h4 : 9223372036854775808 ≤ a
            · rw [if_neg (by omega)] at sa
              by_cases h5 : 9223372036854775808 ≤ b
              · rw [if_neg (by omega)] at sb
                rw [decide_pos h4, decide_pos h5, if_neg, if_neg]
                · rfl
                · split <;> split <;> omega
                · split <;> split <;> omega
              · rw [if_pos (by omega)] at sb
                rw [decide_pos h4, decide_neg h5, if_pos]
                · rfl
                · split <;> split <;> omega
            · rw [if_pos (by omega)] at sa
              by_cases h5 : 9223372036854775808 ≤ b
              · rw [if_neg (by omega)] at sb
                rw [decide_neg h4, decide_pos h5, if_neg, if_pos]
                · rfl
                · split <;> split <;> omega
                · split <;> split <;> omega
              · rw [if_pos (by omega)] at sb
                rw [decide_neg h4, decide_neg h5, if_neg, if_neg]
                · rfl
                · split <;> split <;> omega
                · split <;> split <;> omega
          · rw [decide_neg h3, cond_false]
            simp only [Option.bind_some, cond_false]
            rw [if_neg, if_neg]
            · split at sa <;> split at sb <;> (repeat' split) <;> omega
            · split at sa <;> split at sb <;> (repeat' split) <;> omega
    · simp only [na, nb, decide_true, decide_false, Bool.not_true, Bool.not_false, cond_false, cond_true, if_true, if_false, Option.bind_some]
      rw [isNum_iff ha] at na
      rw [if_pos]
      split <;> omega
  · by_cases nb : isNum b
    · simp only [na, nb, decide_true, decide_false, Bool.not_true, Bool.not_false, cond_false, cond_true, if_true, if_false, Option.bind_some]
      rw [isNum_iff hb] at nb
      rw [if_neg, if_pos]
      · split <;> omega
      · split <;> omega
    · simp only [na, nb, decide_false, Bool.not_false, cond_true, if_false, Option.bind_some]
      rw [if_neg (by omega), if_neg (by omega)]
theorem eyotref1_Same_eq (k a b : Nat) (ha : a < 18446744073709551616) (hb : b < 18446744073709551616) : eyotref1_Same k (some a) (some b) = some (decide (keyN a = keyN b)) := by
  unfold eyotref1_Same
  rw [eyotref1_Order_eq k a b ha hb]
  simp only [Option.bind_some]
  congr 1
  unfold cmpN
  split
  · simp; omega
  · split
    · simp; omega
    · simp; omega
end Go.Pi

