import Derived.Test.YthapdljociabjaaWeR
/-
  WeighLine, in plain words: keys are whole numbers, and whole numbers stand in a line.
-/
set_option linter.all false
namespace Go.Pi
theorem keyN_lt {b : Nat} (h : b < 18446744073709551616) : keyN b < 18446744073709551616 := by
  unfold keyN
  split
  · split <;> omega
  · omega
/-- The key of whose key it is. -/
theorem key_of_key {b : Nat} (h : b < 18446744073709551616) : keyN (ofN (keyN b)) = keyN b := by
  have hk := keyN_lt h
  unfold ofN
  by_cases e : keyN (unkey (keyN b)) = keyN b
  · rw [if_pos e]; exact e
  · exfalso
    apply e
    by_cases hn : isNum b
    · have e1 : unkey (keyN b) = b := by
        unfold unkey keyN
        rw [isNum_iff h] at hn
        rw [if_pos ((isNum_iff h).2 hn)]
        split <;> split <;> omega
      rw [e1]
    · have e1 : keyN b = 18446744073709551615 := by unfold keyN; rw [if_neg hn]
      rw [e1]
      have e2 : unkey 18446744073709551615 = 9223372036854775807 := by unfold unkey; rfl
      have e3 : ¬ isNum 9223372036854775807 := by unfold isNum rung INF; omega
      rw [e2]
      unfold keyN
      rw [if_neg e3]
theorem ofN_lt {q : Nat} (h : q < 18446744073709551616) : ofN q < 18446744073709551616 := by
  unfold ofN
  split
  · exact unkey_lt h
  · omega
theorem cmpN_cases (a b : Nat) : (a < b ∧ cmpN a b = -1 ∧ cmpN b a = 1) ∨ (a = b ∧ cmpN a b = 0 ∧ cmpN b a = 0) ∨ (b < a ∧ cmpN a b = 1 ∧ cmpN b a = -1) := by
  unfold cmpN
  rcases Nat.lt_trichotomy a b with h | h | h
  · exact .inl ⟨h, by rw [if_pos h], by rw [if_neg (by omega), if_pos h]⟩
  · exact .inr (.inl ⟨h, by rw [if_neg (by omega), if_neg (by omega)], by rw [if_neg (by omega), if_neg (by omega)]⟩)
  · exact .inr (.inr ⟨h, by rw [if_neg (by omega), if_pos h], by rw [if_pos h]⟩)
theorem cmpN_self (a : Nat) : cmpN a a = 0 := by unfold cmpN; rw [if_neg (by omega), if_neg (by omega)]
theorem line_pure (a b c : Nat) (ha : a < 18446744073709551616) (hb : b < 18446744073709551616) (hc : c < 18446744073709551616) : ∃ k, eyotlaw1_WeighLine k (some a) (some b) (some c) = some true := by
  refine ⟨1, ?_⟩
  have hk := keyN_lt ha
  have ho := ofN_lt hk
  have w0 : IntKind.i64.wrap (0 - (0 : Int)) = 0 := by decide +kernel
  have w1 : IntKind.i64.wrap (0 - (1 : Int)) = -1 := by decide +kernel
  have w2 : IntKind.i64.wrap (0 - (-1 : Int)) = 1 := by decide +kernel
  have k0 := key_of_key ha
  unfold eyotlaw1_WeighLine
  rw [begun_true, weigh_Order_eq _ (some a) (some b) ha hb, weigh_Order_eq _ (some b) (some c) hb hc, weigh_Order_eq _ (some a) (some c) ha hc, weigh_Order_eq _ (some b) (some a) hb ha, weigh_Order_eq _ (some a) (some a) ha ha,
    weigh_Key_eq _ (some a) ha, weigh_Key_eq _ (some b) hb]
  simp only [Option.bind_some, Bool.not_true, cond_false, keyF, weigh_Of_eq _ _ hk, weigh_Same_eq _ (some (ofN (keyN a))) (some a) ho ha, weigh_Key_eq _ (some (ofN (keyN a))) ho, k0, cmpN_self]
  generalize keyN a = x at *
  generalize keyN b = y at *
  generalize keyN c = z at *
  rcases cmpN_cases x y with ⟨h1, e1, e2⟩ | ⟨h1, e1, e2⟩ | ⟨h1, e1, e2⟩ <;> rcases cmpN_cases y z with ⟨h2, e3, _⟩ | ⟨h2, e3, _⟩ | ⟨h2, e3, _⟩ <;> rcases cmpN_cases x z with ⟨h3, e5, _⟩ | ⟨h3, e5, _⟩ | ⟨h3, e5, _⟩ <;>
    first | omega | (simp only [e1, e2, e3, e5, w0, w1, w2]; first | (simp [h1]; done) | (simp [h1, Nat.ne_of_gt h1, Nat.lt_asymm h1]; done) | (subst h1; simp))
end Go.Pi

