import Derived.Test.YthapdljociabjaaWeR
/-
  WeighSides, in plain words: turned numbers have turned keys and kinds.
-/
set_option linter.all false
namespace Go.Pi
theorem neg_lt {b : Nat} (h : b < 18446744073709551616) : ∃ c, fNeg (some b) = some c ∧ c < 18446744073709551616 := ⟨_, fNeg_eq h, by split <;> omega⟩
theorem neg_key {b c : Nat} (h : b < 18446744073709551616) (hn : isNum b) (hc : isNum c) (e : c = (if b < 9223372036854775808 then b + 9223372036854775808 else b - 9223372036854775808)) : keyN c + keyN b = 18446744073709551615 := by
  have hn' := (isNum_iff h).1 hn
  unfold keyN
  rw [if_pos hn, if_pos hc]
  split at e <;> (repeat' split) <;> omega
theorem neg_kind {b c : Nat} (h : b < 18446744073709551616) (hn : isNum b) (hc : isNum c) (e : c = (if b < 9223372036854775808 then b + 9223372036854775808 else b - 9223372036854775808)) : kindN c + kindN b = 7 ∧ 1 ≤ kindN b ∧ kindN b ≤ 6 := by
  have hn' := (isNum_iff h).1 hn
  unfold kindN
  rw [if_pos hn, if_pos hc]
  split at e <;> (repeat' split) <;> omega
theorem cmpN_cases (a b : Nat) : (a < b ∧ cmpN a b = -1 ∧ cmpN b a = 1) ∨ (a = b ∧ cmpN a b = 0 ∧ cmpN b a = 0) ∨ (b < a ∧ cmpN a b = 1 ∧ cmpN b a = -1) := by
  unfold cmpN
  rcases Nat.lt_trichotomy a b with h | h | h
  · exact .inl ⟨h, by rw [if_pos h], by rw [if_neg (by omega), if_pos h]⟩
  · exact .inr (.inl ⟨h, by rw [if_neg (by omega), if_neg (by omega)], by rw [if_neg (by omega), if_neg (by omega)]⟩)
  · exact .inr (.inr ⟨h, by rw [if_neg (by omega), if_pos h], by rw [if_pos h]⟩)
theorem kind_nan : kindN 9221120237041090561 = 0 := by
  unfold kindN
  rw [if_neg (by unfold isNum rung INF; omega)]
theorem sides_nan {a b : Nat} (ha : a < 18446744073709551616) (hb : b < 18446744073709551616) (h : ¬ (isNum a ∧ isNum b)) : eyotlaw1_WeighSides 1 (some a) (some b) = some true := by
  unfold eyotlaw1_WeighSides
  obtain ⟨c, hc, hcl⟩ := neg_lt ha
  have w0 : IntKind.i64.wrap (0 - (0 : Int)) = 0 := by decide +kernel
  have w1 : IntKind.i64.wrap (0 - (1 : Int)) = -1 := by decide +kernel
  have w2 : IntKind.i64.wrap (0 - (-1 : Int)) = 1 := by decide +kernel
  have hy : (cond (fOrd (some a) (some a) != some .eq) (some true) (some (fOrd (some b) (some b) != some .eq))) = some true := by
    rw [ne_self, ne_self]
    by_cases na : isNum a
    · have nb : ¬ isNum b := fun e => h ⟨na, e⟩
      simp [na, nb]
    · simp [na]
  rw [begun_true, Option.bind_some, Bool.not_true, cond_false, hy, Option.bind_some, cond_true, hc, weigh_Order_eq _ (some a) (some c) ha hcl, weigh_Order_eq _ (some c) (some a) hcl ha]
  unfold math_NaN
  rw [Option.bind_some, show (9221120237041090561 : Int).toNat = 9221120237041090561 from rfl, weigh_Kind_eq _ _ (by omega), kind_nan, Option.bind_some]
  rw [show ((((0 : Nat) : Int)) == 0) = true from rfl, cond_true, Option.bind_some, Option.bind_some, show keyF (some a) = keyN a from rfl, show keyF (some c) = keyN c from rfl]
  rcases cmpN_cases (keyN a) (keyN c) with ⟨_, e1, e2⟩ | ⟨_, e1, e2⟩ | ⟨_, e1, e2⟩ <;> rw [e1, e2]
  · rw [w1]; rfl
  · rw [w0]; rfl
  · rw [w2]; rfl
theorem turned (n m : Nat) (h : m + n = 7) (h1 : 1 ≤ n) (h2 : n ≤ 6) : at? ([(0 : Int), (6 : Int), (5 : Int), (4 : Int), (3 : Int), (2 : Int), (1 : Int)] : List Int) (n : Int) = some (m : Int) := by
  have : n = 1 ∨ n = 2 ∨ n = 3 ∨ n = 4 ∨ n = 5 ∨ n = 6 := by omega
  rcases this with rfl | rfl | rfl | rfl | rfl | rfl
  · obtain rfl : m = 6 := by omega
    rfl
  · obtain rfl : m = 5 := by omega
    rfl
  · obtain rfl : m = 4 := by omega
    rfl
  · obtain rfl : m = 3 := by omega
    rfl
  · obtain rfl : m = 2 := by omega
    rfl
  · obtain rfl : m = 1 := by omega
    rfl
theorem sides_num {a b : Nat} (ha : a < 18446744073709551616) (hb : b < 18446744073709551616) (na : isNum a) (nb : isNum b) : eyotlaw1_WeighSides 1 (some a) (some b) = some true := by
  unfold eyotlaw1_WeighSides
  obtain ⟨c, hc, hcl, hcn, _, ec⟩ := neg_num ha na
  obtain ⟨d, hd, hdl, hdn, _, ed⟩ := neg_num hb nb
  have k1 := neg_key ha na hcn ec
  have k2 := neg_key hb nb hdn ed
  obtain ⟨q1, q2, q3⟩ := neg_kind ha na hcn ec
  have hy : (cond (fOrd (some a) (some a) != some .eq) (some true) (some (fOrd (some b) (some b) != some .eq))) = some false := by
    rw [ne_self, ne_self]
    simp [na, nb]
  rw [begun_true, Option.bind_some, Bool.not_true, cond_false, hy, Option.bind_some, cond_false, weigh_Kind_eq _ _ ha, Option.bind_some, hc, hd, weigh_Order_eq _ (some a) (some b) ha hb, weigh_Order_eq _ (some d) (some c) hdl hcl,
    weigh_Kind_eq _ _ hcl, weigh_Same_eq _ (some a) (some b) ha hb, weigh_Same_eq _ (some c) (some d) hcl hdl]
  rw [show keyF (some a) = keyN a from rfl, show keyF (some b) = keyN b from rfl, show keyF (some c) = keyN c from rfl, show keyF (some d) = keyN d from rfl]
  have e1 : cmpN (keyN d) (keyN c) = cmpN (keyN a) (keyN b) := by unfold cmpN; (repeat' split) <;> omega
  have e2 : (keyN c = keyN d) = (keyN a = keyN b) := by
    apply propext; omega
  have d1 : decide ((kindN a : Int) ≥ 1) = true := by simp; omega
  have d2 : decide ((kindN a : Int) ≤ 6) = true := by simp; omega
  have d3 : decide (keyN c = keyN d) = decide (keyN a = keyN b) := by
    by_cases h : keyN a = keyN b
    · rw [decide_pos h, decide_pos (by omega)]
    · rw [decide_neg h, decide_neg (by omega)]
  rw [Option.bind_some, Option.bind_some, e1, beq_self_eq_true, cond_true, d1, cond_true, d2, cond_true, Option.bind_some, turned _ _ q1 q2 q3, Option.bind_some, beq_self_eq_true, cond_true, Option.bind_some, Option.bind_some, d3]
  cases decide (keyN a = keyN b) <;> rfl
theorem sides_pure (a b : Nat) (ha : a < 18446744073709551616) (hb : b < 18446744073709551616) : ∃ k, eyotlaw1_WeighSides k (some a) (some b) = some true := by
  refine ⟨1, ?_⟩
  by_cases h : isNum a ∧ isNum b
  · exact sides_num ha hb h.1 h.2
  · exact sides_nan ha hb h
end Go.Pi

