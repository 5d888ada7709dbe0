import Derived.Test.YthapdljociabjaaWeQ
import Derived.Test.YthapdljociabjaaWeB
import Derived.Laws.BitsLemmas
/-
  KEYS, ORDER, KINDS: what the program computes, in whole numbers.
-/
set_option linter.all false
namespace Go.Pi
def B63 : Nat := 9223372036854775808
def B64 : Nat := 18446744073709551616
def keyN (b : Nat) : Nat := if isNum b then (if b < 9223372036854775808 then b + 9223372036854775808 else 18446744073709551615 - b) else 18446744073709551615
def keyF (a : Fl) : Nat := match a with
  | some b => keyN b
  | none => 18446744073709551615
def FlW (a : Fl) : Prop := match a with
  | some b => b < 18446744073709551616
  | none => True
theorem nan_none : (fOrd none none != some .eq) = true := rfl
theorem not_beq (n : Nat) (m : Int) (h : (n : Int) = m) : ((n : Int) != m) = false := by simp [h]
theorem weigh_Key_eq (k : Nat) (a : Fl) (h : FlW a) : weigh_Key k a = some (keyF a : Int) := by
  unfold weigh_Key
  cases a with
  | none => rfl
  | some b =>
    have hb : b < 18446744073709551616 := h
    simp only [fcase]
    rw [ne_self]
    unfold keyF keyN
    simp only
    by_cases hn : isNum b
    · simp only [hn, decide_true, Bool.not_true, cond_false, if_true]
      by_cases h1 : b < 9223372036854775808
      · have e : decide ((b : Int) ≥ 9223372036854775808) = false := by simp; omega
        rw [e, cond_false, ixor_sign hb, if_pos h1, if_pos h1]
      · have e : decide ((b : Int) ≥ 9223372036854775808) = true := by simp; omega
        rw [e, cond_true, ixor_max hb, if_neg h1]
    · simp only [hn, decide_false, Bool.not_false, cond_true, if_false]
      rfl
def cmpN (a b : Nat) : Int := if a < b then -1 else if b < a then 1 else 0
theorem cmp_Compare_eq (k a b : Nat) : cmp_Compare k a b = some (cmpN a b) := by
  unfold cmp_Compare cmp_isNaN cmpN
  have e1 : ((a : Int) != a) = false := by simp
  have e2 : ((b : Int) != b) = false := by simp
  simp only [e1, e2, Option.bind_some, cond_false]
  by_cases h : a < b
  · have : decide ((a : Int) < b) = true := by simp; omega
    rw [this, cond_true, if_pos h]
  · have : decide ((a : Int) < b) = false := by simp; omega
    rw [this, cond_false, if_neg h]
    by_cases h2 : b < a
    · have : decide ((a : Int) > b) = true := by simp; omega
      rw [this, cond_true, if_pos h2]
    · have : decide ((a : Int) > b) = false := by simp; omega
      rw [this, cond_false, if_neg h2]
theorem weigh_Order_eq (k : Nat) (a b : Fl) (ha : FlW a) (hb : FlW b) : weigh_Order k a b = some (cmpN (keyF a) (keyF b)) := by
  unfold weigh_Order
  rw [weigh_Key_eq k a ha, weigh_Key_eq k b hb]
  simp only [Option.bind_some, cmp_Compare_eq]
theorem weigh_Same_eq (k : Nat) (a b : Fl) (ha : FlW a) (hb : FlW b) : weigh_Same k a b = some (decide (keyF a = keyF b)) := by
  unfold weigh_Same
  rw [weigh_Order_eq k a b ha hb]
  simp only [Option.bind_some]
  congr 1
  unfold cmpN
  split
  · simp; omega
  · split
    · simp; omega
    · simp; omega
/-- Whose key it is. -/
def unkey (q : Nat) : Nat := if q < 9223372036854775808 then 18446744073709551615 - q else q - 9223372036854775808
def ofN (q : Nat) : Nat := if keyN (unkey q) = q then unkey q else 9221120237041090561
theorem unkey_lt {q : Nat} (h : q < 18446744073709551616) : unkey q < 18446744073709551616 := by unfold unkey; split <;> omega
theorem weigh_Of_eq (k q : Nat) (h : q < 18446744073709551616) : weigh_Of k (q : Int) = some (some (ofN q)) := by
  unfold weigh_Of ofN
  have hu := unkey_lt h
  by_cases h1 : q < 9223372036854775808
  · have e : decide ((q : Int) < 9223372036854775808) = true := by simp; omega
    rw [e, cond_true, ixor_max h, Int.toNat_natCast]
    have eu : 18446744073709551615 - q = unkey q := by unfold unkey; rw [if_pos h1]
    rw [eu, weigh_Key_eq k (some (unkey q)) hu]
    simp only [Option.bind_some, keyF]
    by_cases h2 : keyN (unkey q) = q
    · rw [not_beq _ _ (by rw [h2]), cond_false, if_pos h2]
    · have : ((keyN (unkey q) : Int) != (q : Int)) = true := by simp; omega
      rw [this, cond_true, if_neg h2]
      rfl
  · have e : decide ((q : Int) < 9223372036854775808) = false := by simp; omega
    rw [e, cond_false, ixor_sign h, Int.toNat_natCast, if_neg h1]
    have eu : q - 9223372036854775808 = unkey q := by unfold unkey; rw [if_neg h1]
    rw [eu, weigh_Key_eq k (some (unkey q)) hu]
    simp only [Option.bind_some, keyF]
    by_cases h2 : keyN (unkey q) = q
    · rw [not_beq _ _ (by rw [h2]), cond_false, if_pos h2]
    · have : ((keyN (unkey q) : Int) != (q : Int)) = true := by simp; omega
      rw [this, cond_true, if_neg h2]
      rfl
theorem sgB_eq {b : Nat} (h : b < 18446744073709551616) : sgB b = if b < 9223372036854775808 then (b : Int) else -((b : Int) - 9223372036854775808) := by
  unfold sgB sgI negB rung
  by_cases h1 : b < 9223372036854775808
  · have e : (b / 9223372036854775808 % 2 == 1) = false := by
      have : b / 9223372036854775808 = 0 := by omega
      rw [this]; rfl
    rw [e, if_pos h1, if_neg (by simp)]
    omega
  · have e : (b / 9223372036854775808 % 2 == 1) = true := by
      have : b / 9223372036854775808 = 1 := by omega
      rw [this]; rfl
    rw [e, if_neg h1, if_pos rfl]
    omega
theorem isNum_iff {b : Nat} (h : b < 18446744073709551616) : isNum b ↔ (b ≤ 9218868437227405312 ∨ (9223372036854775808 ≤ b ∧ b ≤ 18442240474082181120)) := by
  unfold isNum rung INF; omega
theorem math_Signbit_eq (k b : Nat) (h : b < 18446744073709551616) : math_Signbit k (some b) = some (decide (9223372036854775808 ≤ b)) := by
  unfold math_Signbit
  simp only [fcase]
  congr 1
  rw [IntKind.wrap_i64]
  simp
  omega
def kindN (b : Nat) : Nat := if isNum b then (if b = 18442240474082181120 then 1 else if 9223372036854775808 < b then 2 else if b = 9223372036854775808 then 3 else if b = 0 then 4 else if b = 9218868437227405312 then 6 else 5) else 0
theorem cmpI_lt {a b : Int} : (some (compare a b) == some Ordering.lt) = decide (a < b) := by
  rcases Int.lt_trichotomy a b with h | h | h
  · rw [Int.compare_eq_lt.2 h]; simp [h]
  · rw [Int.compare_eq_eq.2 h]; simp; omega
  · rw [Int.compare_eq_gt.2 h]; simp; omega
theorem cmpI_gt {a b : Int} : (some (compare a b) == some Ordering.gt) = decide (b < a) := by
  rcases Int.lt_trichotomy a b with h | h | h
  · rw [Int.compare_eq_lt.2 h]; simp; omega
  · rw [Int.compare_eq_eq.2 h]; simp; omega
  · rw [Int.compare_eq_gt.2 h]; simp [h]
theorem cmpI_eq {a b : Int} : (some (compare a b) == some Ordering.eq) = decide (a = b) := by
  rcases Int.lt_trichotomy a b with h | h | h
  · rw [Int.compare_eq_lt.2 h]; simp; omega
  · rw [Int.compare_eq_eq.2 h]; simp [h]
  · rw [Int.compare_eq_gt.2 h]; simp; omega
theorem decide_pos {p : Prop} [Decidable p] (h : p) : decide p = true := by simp [h]
theorem decide_neg {p : Prop} [Decidable p] (h : ¬ p) : decide p = false := by simp [h]
theorem neg_num {b : Nat} (h : b < 18446744073709551616) (hn : isNum b) : ∃ c, fNeg (some b) = some c ∧ c < 18446744073709551616 ∧ isNum c ∧ sgB c = - sgB b ∧ c = (if b < 9223372036854775808 then b + 9223372036854775808 else b - 9223372036854775808) := by
  refine ⟨_, fNeg_eq h, by split <;> omega, ?_, ?_, rfl⟩
  · rw [isNum_iff (by split <;> omega)]
    rw [isNum_iff h] at hn
    split <;> omega
  · rw [sgB_eq (by split <;> omega), sgB_eq h]
    split <;> split <;> omega
theorem num_max : isNum 9218868437227405311 := by unfold isNum rung INF; omega
theorem sg_max : sgB 9218868437227405311 = 9218868437227405311 := by rw [sgB_eq (by omega)]; rfl
theorem num_zero : isNum 0 := by unfold isNum rung INF; omega
theorem sg_zero : sgB 0 = 0 := by rw [sgB_eq (by omega)]; rfl
theorem weigh_Kind_eq (k b : Nat) (h : b < 18446744073709551616) : weigh_Kind k (some b) = some (kindN b : Int) := by
  unfold weigh_Kind kindN math_IsInf
  rw [ne_self]
  by_cases hn : isNum b
  case neg => simp [hn]
  obtain ⟨c, hc1, hc2, hc3, hc4, _⟩ := neg_num h hn
  simp only [hn, decide_true, Bool.not_true, cond_false, if_true, hc1]
  rw [fOrd_num hc3 num_max, fOrd_num hn num_zero, fOrd_num hn num_max, cmpI_gt, cmpI_lt, cmpI_gt, cmpI_gt, sg_max, sg_zero, hc4, math_Signbit_eq k b h]
  have hs := sgB_eq h
  rw [isNum_iff h] at hn
  have a1 : ((-1 : Int) == 0) = false := rfl
  have a2 : decide ((-1 : Int) < 0) = true := rfl
  have a3 : ((1 : Int) == 0) = false := rfl
  have a4 : decide ((1 : Int) < 0) = false := rfl
  simp only [a1, a2, a3, a4, cond_false, cond_true, Option.bind_some]
  by_cases b1 : b < 9223372036854775808
  · rw [if_pos b1] at hs
    rw [if_neg (by omega), if_neg (by omega), if_neg (by omega), decide_neg (by omega), cond_false, decide_neg (by omega), cond_false]
    by_cases b2 : b = 0
    · rw [if_pos b2, decide_neg (by omega), cond_false, decide_neg (by omega), cond_false, decide_neg (by omega), cond_false]; rfl
    · rw [if_neg b2]
      by_cases b3 : b = 9218868437227405312
      · rw [if_pos b3, decide_pos (by omega), cond_true]; rfl
      · rw [if_neg b3, decide_neg (by omega), cond_false, decide_pos (by omega), cond_true]; rfl
  · rw [if_neg b1] at hs
    by_cases b2 : b = 18442240474082181120
    · rw [if_pos b2, decide_pos (by omega), cond_true]; rfl
    · rw [if_neg b2, decide_neg (by omega), cond_false]
      by_cases b3 : 9223372036854775808 < b
      · rw [if_pos b3, decide_pos (by omega), cond_true]; rfl
      · rw [if_neg b3, if_pos (by omega), decide_neg (by omega), cond_false, decide_neg (by omega), cond_false, decide_neg (by omega), cond_false, decide_pos (by omega), cond_true]; rfl
end Go.Pi

