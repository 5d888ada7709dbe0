import Derived.Test.YthapdljociabjaaWeR
/-
  WeighNext, in plain words: the next key is the next number's.
-/
set_option linter.all false
namespace Go.Pi
theorem ofN_lt {q : Nat} (h : q < 18446744073709551616) : ofN q < 18446744073709551616 := by
  unfold ofN
  split
  · exact unkey_lt h
  · omega
def nextN (a : Nat) : Nat := if 9223372036854775808 < a then a - 1 else if a = 9223372036854775808 then 0 else a + 1
theorem next_num {a : Nat} (h : a < 18446744073709551616) (hn : isNum a) (hi : a ≠ 9218868437227405312) : nextN a < 18446744073709551616 ∧ isNum (nextN a) ∧ keyN (nextN a) = keyN a + 1 ∧ ofN (keyN a + 1) = nextN a ∧ keyN a + 1 < 18446744073709551616 := by
  have e0 : nextN a < 18446744073709551616 := by unfold nextN; (repeat' split) <;> omega
  have hn' := (isNum_iff h).1 hn
  have e1 : isNum (nextN a) := by rw [isNum_iff e0]; unfold nextN; (repeat' split) <;> omega
  have e2 : keyN (nextN a) = keyN a + 1 := by
    unfold keyN
    rw [if_pos e1, if_pos hn]
    unfold nextN
    (repeat' split) <;> omega
  have e3 : unkey (keyN a + 1) = nextN a := by
    unfold keyN unkey nextN
    rw [if_pos hn]
    (repeat' split) <;> omega
  refine ⟨e0, e1, e2, by unfold ofN; rw [e3, if_pos e2], ?_⟩
  unfold keyN
  rw [if_pos hn]
  split <;> omega
theorem next_inf {a : Nat} (ha : a < 18446744073709551616) (hn : isNum a) (hi : a = 9218868437227405312) : ofN (keyN a + 1) = 9221120237041090561 ∧ keyN a = 18442240474082181120 ∧ kindN a = 6 := by
  have e : keyN a = 18442240474082181120 := by
    unfold keyN
    rw [if_pos hn, if_pos (by omega)]
    omega
  refine ⟨?_, e, ?_⟩
  · have e2 : unkey (keyN a + 1) = 9218868437227405313 := by
      unfold unkey
      rw [e, if_neg (by omega)]
    have e3 : keyN 9218868437227405313 = 18446744073709551615 := by
      unfold keyN
      rw [if_neg (by unfold isNum rung INF; omega)]
    unfold ofN
    rw [e2, e3, e, if_neg (by omega)]
  · unfold kindN
    rw [if_pos hn, if_neg (by omega), if_neg (by omega), if_neg (by omega), if_neg (by omega), if_pos hi]
theorem nan_no : ¬ isNum 9221120237041090561 := by unfold isNum rung INF; omega
theorem kind_cases {b : Nat} (h : b < 18446744073709551616) (hn : isNum b) : (b = 18442240474082181120 ∧ kindN b = 1) ∨ (9223372036854775808 < b ∧ kindN b = 2 ∧ b ≠ 18442240474082181120) ∨ (b = 9223372036854775808 ∧ kindN b = 3) ∨ (b = 0 ∧ kindN b = 4) ∨ (b = 9218868437227405312 ∧ kindN b = 6) ∨ (0 < b ∧ b < 9218868437227405312 ∧ kindN b = 5) := by
  have hn' := (isNum_iff h).1 hn
  unfold kindN
  rw [if_pos hn]
  (repeat' split) <;> omega

theorem next_pure (a : Nat) (ha : a < 18446744073709551616) : ∃ k, eyotlaw1_WeighNext k (some a) = some true := by
  refine ⟨1, ?_⟩
  unfold eyotlaw1_WeighNext
  rw [begun_true, ne_self, weigh_Key_eq _ (some a) ha, weigh_Kind_eq _ _ ha]
  rw [show keyF (some a) = keyN a from rfl, Option.bind_some, Bool.not_true, cond_false, Option.bind_some]
  by_cases hn : isNum a
  case neg =>
    rw [decide_neg hn, Bool.not_false, cond_true]
    have e : keyN a = 18446744073709551615 := by unfold keyN; rw [if_neg hn]
    rw [e]
    rfl
  rw [decide_pos hn, Bool.not_true, cond_false, Option.bind_some]
  by_cases hi : a = 9218868437227405312
  · obtain ⟨e1, e2, e3⟩ := next_inf ha hn hi
    have hk : keyN a + 1 < 18446744073709551616 := by omega
    have ew : IntKind.u64.wrap (((keyN a : Nat) : Int) + 1) = ((keyN a + 1 : Nat) : Int) := by
      have := u64_in (keyN a + 1) hk
      simpa using this
    rw [ew, weigh_Of_eq _ _ hk, e1, e3]
    simp only [Option.bind_some]
    rw [ne_self, decide_neg nan_no]
    rfl
  · obtain ⟨n1, n2, n3, n4, n5⟩ := next_num ha hn hi
    have ew : IntKind.u64.wrap (((keyN a : Nat) : Int) + 1) = ((keyN a + 1 : Nat) : Int) := by
      have := u64_in (keyN a + 1) n5
      simpa using this
    rw [ew, weigh_Of_eq _ _ n5, n4]
    simp only [Option.bind_some]
    rw [weigh_Order_eq _ (some a) (some (nextN a)) ha n1, weigh_Key_eq _ (some (nextN a)) n1, weigh_Kind_eq _ _ n1, fOrd_num n2 hn, cmpI_gt]
    rw [show keyF (some a) = keyN a from rfl, show keyF (some (nextN a)) = keyN (nextN a) from rfl, n3]
    simp only [Option.bind_some]
    have ec : cmpN (keyN a) (keyN a + 1) = -1 := by unfold cmpN; rw [if_pos (by omega)]
    rw [ec]
    have sa := sgB_eq ha
    have sn := sgB_eq n1
    have k1 := kind_cases ha hn
    have k2 := kind_cases n1 n2
    have d : nextN a = if 9223372036854775808 < a then a - 1 else if a = 9223372036854775808 then 0 else a + 1 := rfl
    have hn' := (isNum_iff ha).1 hn
    generalize kindN a = ka at *
    generalize kindN (nextN a) = kb at *
    have e6 : ((ka : Int) == 6) = false := by simp; omega
    have e3 : ((ka : Int) == 3) = ((kb : Int) == 4) := by
      rw [Bool.eq_iff_iff]
      simp
      (repeat' split at d) <;> omega
    rw [e6, e3]
    simp only [cond_false, beq_self_eq_true, cond_true]
    by_cases hg : sgB a < sgB (nextN a)
    · rw [decide_pos hg]
      simp
    · rw [decide_neg hg]
      have : kb = 4 := by
        (repeat' split at d) <;> (repeat' split at sa) <;> (repeat' split at sn) <;> omega
      simp [this]
end Go.Pi

