import Derived.Test.YthapdljociabjaaWeRr
/-
  WeighOrders, in plain words: the two orders, keys and kinds are one.
-/
set_option linter.all false
namespace Go.Pi
theorem eyotref1_Of_eq (k q : Nat) (h : q < 18446744073709551616) : eyotref1_Of k (q : Int) = some (some (ofN q)) := by
  unfold eyotref1_Of ofN
  have hu := unkey_lt h
  rw [shr_sign]
  by_cases h1 : q < 9223372036854775808
  · have e : (((q / 9223372036854775808 : Nat) : Int) == 1) = false := by
      have : q / 9223372036854775808 = 0 := by omega
      rw [this]; rfl
    rw [e, cond_false, ixor_max h, Int.toNat_natCast]
    have eu : 18446744073709551615 - q = unkey q := by unfold unkey; rw [if_pos h1]
    rw [eu, eyotref1_Key_eq k (unkey q) hu]
    simp only [Option.bind_some]
    by_cases h2 : keyN (unkey q) = q
    · rw [not_beq _ _ (by rw [h2]), cond_false, if_pos h2]
    · have : ((keyN (unkey q) : Int) != (q : Int)) = true := by simp; omega
      rw [this, cond_true, if_neg h2]
      rfl
  · have e : (((q / 9223372036854775808 : Nat) : Int) == 1) = true := by
      have : q / 9223372036854775808 = 1 := by omega
      rw [this]; rfl
    rw [e, cond_true, ixor_sign h, Int.toNat_natCast, if_neg h1]
    have eu : q - 9223372036854775808 = unkey q := by unfold unkey; rw [if_neg h1]
    rw [eu, eyotref1_Key_eq k (unkey q) hu]
    simp only [Option.bind_some]
    by_cases h2 : keyN (unkey q) = q
    · rw [not_beq _ _ (by rw [h2]), cond_false, if_pos h2]
    · have : ((keyN (unkey q) : Int) != (q : Int)) = true := by simp; omega
      rw [this, cond_true, if_neg h2]
      rfl
theorem num_lo : isNum 18442240474082181119 := by unfold isNum rung INF; omega
theorem sg_lo : sgB 18442240474082181119 = -9218868437227405311 := by rw [sgB_eq (by omega)]; rfl
theorem eyotref1_Kind_eq (k b : Nat) (h : b < 18446744073709551616) : eyotref1_Kind k (some b) = some (kindN b : Int) := by
  unfold eyotref1_Kind kindN
  rw [ne_self]
  by_cases hn : isNum b
  case neg => simp [hn]
  simp only [hn, decide_true, Bool.not_true, cond_false, if_true]
  rw [fOrd_num hn num_lo, fOrd_num hn num_zero, fOrd_num hn num_max, cmpI_gt, cmpI_lt, cmpI_lt, cmpI_eq, sg_max, sg_zero, sg_lo, math_Signbit_eq k b h]
  have hs := sgB_eq h
  rw [isNum_iff h] at hn
  simp only [Option.bind_some]
  by_cases b1 : b < 9223372036854775808
  · rw [if_pos b1] at hs
    rw [if_neg (by omega), if_neg (by omega), if_neg (by omega), decide_neg (by omega), cond_false, decide_neg (by omega), cond_false]
    by_cases b2 : b = 0
    · rw [if_pos b2, decide_pos (by omega), cond_true]
      simp only [Option.bind_some]
      rw [decide_neg (by omega), cond_false, cond_true]; rfl
    · rw [if_neg b2, decide_neg (by omega), cond_false]
      simp only [Option.bind_some, cond_false]
      by_cases b3 : b = 9218868437227405312
      · rw [if_pos b3, decide_pos (by omega), cond_true]; rfl
      · rw [if_neg b3, decide_neg (by omega), cond_false]; rfl
  · rw [if_neg b1] at hs
    by_cases b2 : b = 18442240474082181120
    · rw [if_pos b2, decide_pos (by omega), cond_true]; rfl
    · rw [if_neg b2, decide_neg (by omega), cond_false]
      by_cases b3 : 9223372036854775808 < b
      · rw [if_pos b3, decide_pos (by omega), cond_true]; rfl
      · rw [if_neg b3, if_pos (by omega), decide_neg (by omega), cond_false, decide_pos (by omega), cond_true]
        simp only [Option.bind_some]
        rw [decide_pos (by omega), cond_true]; rfl
theorem ofN_lt {q : Nat} (h : q < 18446744073709551616) : ofN q < 18446744073709551616 := by
  unfold ofN
  split
  · exact unkey_lt h
  · omega
theorem orders_pure (a b : Nat) (c : Int) (ha : a < 18446744073709551616) (hb : b < 18446744073709551616) (hc : IntKind.min .u64 ≤ c ∧ c ≤ IntKind.max .u64) : ∃ k, eyotlaw1_WeighOrders k (some a) (some b) c = some true := by
  refine ⟨1, ?_⟩
  have h0 : (0 : Int) ≤ c := hc.1
  have h1 : c ≤ 18446744073709551615 := hc.2
  obtain ⟨q, rfl⟩ := Int.eq_ofNat_of_zero_le h0
  have hq : q < 18446744073709551616 := by omega
  unfold eyotlaw1_WeighOrders
  rw [begun_true, weigh_Of_eq _ _ hq, weigh_Order_eq _ (some a) (some b) ha hb, eyotref1_Order_eq _ _ _ ha hb, weigh_Same_eq _ (some a) (some b) ha hb, eyotref1_Same_eq _ _ _ ha hb, weigh_Key_eq _ (some a) ha,
    eyotref1_Key_eq _ _ ha, eyotref1_Of_eq _ _ hq, weigh_Kind_eq _ _ ha, eyotref1_Kind_eq _ _ ha]
  simp only [Option.bind_some, Bool.not_true, cond_false, cond_true, keyF, beq_self_eq_true, eyotref1_Same_eq _ _ _ (ofN_lt hq) (ofN_lt hq), decide_true]
  by_cases h : keyN a = keyN b <;> simp [h]
end Go.Pi

