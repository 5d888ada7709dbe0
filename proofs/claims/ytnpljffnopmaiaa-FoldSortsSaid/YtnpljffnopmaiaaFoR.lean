import Derived.Test.YtnpljffnopmaiaaFoF
import Derived.Test.YtnpljffnopmaiaaWeB
import Derived.Test.YtnpljffnopmaiaaJZ
import Derived.Laws.BitsLemmas
/-
  KEYS AND ORDER: what the program computes, in whole numbers.
-/
set_option linter.all false
namespace Go.Pi
set_option maxRecDepth 100000
def keyN (b : Nat) : Nat := if isNum b then (if b < 9223372036854775808 then b + 9223372036854775808 else 18446744073709551615 - b) else 18446744073709551615
def keyF (a : Fl) : Nat := match a with
  | some b => keyN b
  | none => 18446744073709551615
def FlW (a : Fl) : Prop := match a with
  | some b => b < 18446744073709551616
  | none => True
theorem weigh_Key_eq (k : Nat) (a : Fl) (h : FlW a) : weigh_Key k a = some (keyF a : Int) := by
  unfold weigh_Key
  cases a with
  | none => rfl
  | some b =>
    have hb : b < 18446744073709551616 := h
    simp only [fcase]
    rw [ne_self]
    unfold keyF keyN
    simp only
    by_cases hn : isNum b
    · simp only [hn, decide_true, Bool.not_true, cond_false, if_true]
      by_cases h1 : b < 9223372036854775808
      · have e : decide ((b : Int) ≥ 9223372036854775808) = false := by simp; omega
        rw [e, cond_false, ixor_sign hb, if_pos h1, if_pos h1]
      · have e : decide ((b : Int) ≥ 9223372036854775808) = true := by simp; omega
        rw [e, cond_true, ixor_max hb, if_neg h1]
    · simp only [hn, decide_false, Bool.not_false, cond_true, if_false]
      rfl
def cmpN (a b : Nat) : Int := if a < b then -1 else if b < a then 1 else 0
theorem cmp_Compare_eq (k a b : Nat) : cmp_Compare k a b = some (cmpN a b) := by
  unfold cmp_Compare cmp_isNaN cmpN
  have e1 : ((a : Int) != a) = false := by simp
  have e2 : ((b : Int) != b) = false := by simp
  simp only [e1, e2, Option.bind_some, cond_false]
  by_cases h : a < b
  · have : decide ((a : Int) < b) = true := by simp; omega
    rw [this, cond_true, if_pos h]
  · have : decide ((a : Int) < b) = false := by simp; omega
    rw [this, cond_false, if_neg h]
    by_cases h2 : b < a
    · have : decide ((a : Int) > b) = true := by simp; omega
      rw [this, cond_true, if_pos h2]
    · have : decide ((a : Int) > b) = false := by simp; omega
      rw [this, cond_false, if_neg h2]
theorem weigh_Order_eq (k : Nat) (a b : Fl) (ha : FlW a) (hb : FlW b) : weigh_Order k a b = some (cmpN (keyF a) (keyF b)) := by
  unfold weigh_Order
  rw [weigh_Key_eq k a ha, weigh_Key_eq k b hb]
  simp only [Option.bind_some, cmp_Compare_eq]
theorem sgB_eq {b : Nat} (h : b < 18446744073709551616) : sgB b = if b < 9223372036854775808 then (b : Int) else -((b : Int) - 9223372036854775808) := by
  unfold sgB sgI negB rung
  by_cases h1 : b < 9223372036854775808
  · have e : (b / 9223372036854775808 % 2 == 1) = false := by
      have : b / 9223372036854775808 = 0 := by omega
      rw [this]; rfl
    rw [e, if_pos h1, if_neg (by simp)]
    omega
  · have e : (b / 9223372036854775808 % 2 == 1) = true := by
      have : b / 9223372036854775808 = 1 := by omega
      rw [this]; rfl
    rw [e, if_neg h1, if_pos rfl]
    omega
theorem isNum_iff {b : Nat} (h : b < 18446744073709551616) : isNum b ↔ (b ≤ 9218868437227405312 ∨ (9223372036854775808 ≤ b ∧ b ≤ 18442240474082181120)) := by
  unfold isNum rung INF; omega
theorem math_Signbit_eq (k b : Nat) (h : b < 18446744073709551616) : math_Signbit k (some b) = some (decide (9223372036854775808 ≤ b)) := by
  unfold math_Signbit
  simp only [fcase]
  congr 1
  rw [IntKind.wrap_i64]
  simp
  omega
theorem cmpI_lt {a b : Int} : (some (compare a b) == some Ordering.lt) = decide (a < b) := by
  rcases Int.lt_trichotomy a b with h | h | h
  · rw [Int.compare_eq_lt.2 h]; simp [h]
  · rw [Int.compare_eq_eq.2 h]; simp; omega
  · rw [Int.compare_eq_gt.2 h]; simp; omega
theorem cmpI_gt {a b : Int} : (some (compare a b) == some Ordering.gt) = decide (b < a) := by
  rcases Int.lt_trichotomy a b with h | h | h
  · rw [Int.compare_eq_lt.2 h]; simp; omega
  · rw [Int.compare_eq_eq.2 h]; simp; omega
  · rw [Int.compare_eq_gt.2 h]; simp [h]
theorem cmpI_eq {a b : Int} : (some (compare a b) == some Ordering.eq) = decide (a = b) := by
  rcases Int.lt_trichotomy a b with h | h | h
  · rw [Int.compare_eq_lt.2 h]; simp; omega
  · rw [Int.compare_eq_eq.2 h]; simp [h]
  · rw [Int.compare_eq_gt.2 h]; simp; omega
theorem decide_pos {p : Prop} [Decidable p] (h : p) : decide p = true := by simp [h]
theorem decide_neg {p : Prop} [Decidable p] (h : ¬ p) : decide p = false := by simp [h]
theorem num_zero : isNum 0 := by unfold isNum rung INF; omega
theorem sg_zero : sgB 0 = 0 := by rw [sgB_eq (by omega)]; rfl
/-- The order of two floats, as the reference has it. -/
theorem eyotref1_Order_eq (k a b : Nat) (ha : a < 18446744073709551616) (hb : b < 18446744073709551616) : eyotref1_Order k (some a) (some b) = some (cmpN (keyN a) (keyN b)) := by
  unfold eyotref1_Order cmpN keyN
  rw [ne_self, ne_self]
  by_cases na : isNum a
  · by_cases nb : isNum b
    · rw [fOrd_num na nb, fOrd_num na num_zero, cmpI_lt, cmpI_gt, cmpI_eq, sg_zero, math_Signbit_eq k a ha, math_Signbit_eq k b hb]
      simp only [na, nb, decide_true, Bool.not_true, cond_false, if_true, Option.bind_some]
      have sa := sgB_eq ha
      have sb := sgB_eq hb
      rw [isNum_iff ha] at na
      rw [isNum_iff hb] at nb
      by_cases h1 : sgB a < sgB b
      · rw [decide_pos h1, cond_true, if_pos]
        split at sa <;> split at sb <;> (repeat' split) <;> omega
      · rw [decide_neg h1, cond_false]
        by_cases h2 : sgB b < sgB a
        · rw [decide_pos h2, cond_true, if_neg, if_pos]
          · split at sa <;> split at sb <;> (repeat' split) <;> omega
          · split at sa <;> split at sb <;> (repeat' split) <;> omega
        · rw [decide_neg h2, cond_false]
          by_cases h3 : sgB a = 0
          · rw [decide_pos h3, cond_true]
            simp only [Option.bind_some]
            by_cases h4 : 9223372036854775808 ≤ a
            · rw [if_neg (by omega)] at sa
              by_cases h5 : 9223372036854775808 ≤ b
              · rw [if_neg (by omega)] at sb
                rw [decide_pos h4, decide_pos h5, if_neg, if_neg]
                · rfl
                · split <;> split <;> omega
                · split <;> split <;> omega
              · rw [if_pos (by omega)] at sb
                rw [decide_pos h4, decide_neg h5, if_pos]
                · rfl
                · split <;> split <;> omega
            · rw [if_pos (by omega)] at sa
              by_cases h5 : 9223372036854775808 ≤ b
              · rw [if_neg (by omega)] at sb
                rw [decide_neg h4, decide_pos h5, if_neg, if_pos]
                · rfl
                · split <;> split <;> omega
                · split <;> split <;> omega
              · rw [if_pos (by omega)] at sb
                rw [decide_neg h4, decide_neg h5, if_neg, if_neg]
                · rfl
                · split <;> split <;> omega
                · split <;> split <;> omega
          · rw [decide_neg h3, cond_false]
            simp only [Option.bind_some, cond_false]
            rw [if_neg, if_neg]
            · split at sa <;> split at sb <;> (repeat' split) <;> omega
            · split at sa <;> split at sb <;> (repeat' split) <;> omega
    · simp only [na, nb, decide_true, decide_false, Bool.not_true, Bool.not_false, cond_false, cond_true, if_true, if_false, Option.bind_some]
      rw [isNum_iff ha] at na
      rw [if_pos]
      split <;> omega
  · by_cases nb : isNum b
    · simp only [na, nb, decide_true, decide_false, Bool.not_true, Bool.not_false, cond_false, cond_true, if_true, if_false, Option.bind_some]
      rw [isNum_iff hb] at nb
      rw [if_neg, if_pos]
      · split <;> omega
      · split <;> omega
    · simp only [na, nb, decide_false, Bool.not_false, cond_true, if_false, Option.bind_some]
      rw [if_neg (by omega), if_neg (by omega)]
theorem tyd_flt2 {P : Program} {m t : Nat} {ds : List D} (hu : P.underlying t = some (.float .f64)) (h : TyD P (m + 1) t ds) : ∃ a : Fl, FlW a ∧ ds = fD a := by
  obtain ⟨b, h1, rfl⟩ := tyd_flt hu h
  exact ⟨some b, h1, rfl⟩
theorem fOrd_none (a : Fl) : fOrd none a = none := rfl
theorem fOrd_none2 (a : Fl) : fOrd a none = none := by cases a <;> rfl
theorem keyN_le {b : Nat} (h : b < 18446744073709551616) : keyN b ≤ 18446744073709551615 := by unfold keyN; split <;> (try split) <;> omega
theorem keyF_le {a : Fl} (h : FlW a) : keyF a ≤ 18446744073709551615 := by
  cases a with
  | none => exact Nat.le_refl _
  | some b => exact keyN_le h
/-- Whether it is none. -/
def isF (a : Fl) : Prop := match a with
  | some b => isNum b
  | none => False
instance (a : Fl) : Decidable (isF a) := by unfold isF; cases a <;> infer_instance
theorem ne_selfF (a : Fl) : (fOrd a a != some .eq) = !decide (isF a) := by
  cases a with
  | none => rfl
  | some b => exact ne_self b
theorem keyF_not {a : Fl} (h : ¬ isF a) : keyF a = 18446744073709551615 := by
  cases a with
  | none => rfl
  | some b => show keyN b = _; unfold keyN; rw [if_neg (show ¬ isNum b from h)]
theorem keyF_num {a : Fl} (hw : FlW a) (h : isF a) : keyF a < 18446744073709551615 := by
  cases a with
  | none => exact h.elim
  | some b =>
    have hb : b < 18446744073709551616 := hw
    have hn : isNum b := h
    show keyN b < _
    unfold keyN
    rw [if_pos hn]
    rw [isNum_iff hb] at hn
    split <;> omega
theorem isF_key {a : Fl} (hw : FlW a) : isF a ↔ keyF a < 18446744073709551615 := by
  refine ⟨keyF_num hw, fun h => ?_⟩
  by_cases hn : isF a
  · exact hn
  · rw [keyF_not hn] at h; omega
theorem ref_Order (k : Nat) (a b : Fl) (ha : FlW a) (hb : FlW b) : eyotref1_Order k a b = some (cmpN (keyF a) (keyF b)) := by
  cases a with
  | none =>
    cases b with
    | none => rfl
    | some b =>
      unfold eyotref1_Order
      rw [ne_selfF, ne_selfF]
      have h0 : decide (isF none) = false := rfl
      rw [h0, Bool.not_false, cond_true, cond_true]
      by_cases hb' : isF (some b)
      · rw [decide_pos hb', Bool.not_true]
        simp only [Option.bind_some, cond_false]
        have := keyF_num hb hb'
        have e : keyF none = 18446744073709551615 := rfl
        rw [e]
        unfold cmpN
        rw [if_neg (by omega), if_pos (by omega)]
      · rw [decide_neg hb', Bool.not_false]
        simp only [Option.bind_some, cond_true]
        rw [keyF_not hb', show keyF none = 18446744073709551615 from rfl]
        unfold cmpN
        rw [if_neg (by omega), if_neg (by omega)]
  | some a =>
    cases b with
    | none =>
      unfold eyotref1_Order
      rw [ne_selfF, ne_selfF]
      have h0 : decide (isF none) = false := rfl
      rw [h0, Bool.not_false]
      by_cases ha' : isF (some a)
      · rw [decide_pos ha', Bool.not_true, cond_false, Option.bind_some, cond_false, cond_false, cond_true]
        have := keyF_num ha ha'
        have e : keyF none = 18446744073709551615 := rfl
        rw [e]
        unfold cmpN
        rw [if_pos (by omega)]
      · rw [decide_neg ha', Bool.not_false, cond_true, Option.bind_some, cond_true, keyF_not ha', show keyF none = 18446744073709551615 from rfl]
        unfold cmpN
        rw [if_neg (by omega), if_neg (by omega)]
    | some b => exact eyotref1_Order_eq k a b ha hb
theorem cmpN_zero {a b : Nat} : (cmpN a b == 0) = decide (a = b) := by
  unfold cmpN
  split
  · rw [decide_neg (by omega)]; rfl
  · split
    · rw [decide_neg (by omega)]; rfl
    · rw [decide_pos (by omega)]; rfl
theorem ref_Same (k : Nat) (a b : Fl) (ha : FlW a) (hb : FlW b) : eyotref1_Same k a b = some (decide (keyF a = keyF b)) := by
  unfold eyotref1_Same
  rw [ref_Order k a b ha hb, Option.bind_some, cmpN_zero]
theorem begun_fold : eyotlaw2_begun 100 = some true := by kernel_rfl
end Go.Pi

