import Derived.Test.YtnpljffnopmaiaaWeN
/-
  FLOAT64: what is exact. A number that the format has is written as it is.
-/
set_option linter.all false
namespace Go.Pi
open Ieee
def BN : Nat := 4503599627370496
theorem cut_zero (s : Bool) (n : Nat) : Toward.even.cut s n 0 = n := by
  unfold Toward.cut
  simp [Nat.mod_one]
theorem cut_exact (s : Bool) (K d : Nat) (hK : 0 < K) : Toward.even.cut s (K * 2 ^ d) d = K := by
  unfold Toward.cut
  have hl : d ≤ (K * 2 ^ d).log2 := by
    rw [Nat.le_log2 (Nat.ne_of_gt (Nat.mul_pos hK (Nat.two_pow_pos _)))]
    exact Nat.le_mul_of_pos_left _ hK
  have hm : min d ((K * 2 ^ d).log2 + 2) = d := by omega
  simp only [hm, Nat.one_shiftLeft]
  rw [Nat.mul_div_cancel _ (Nat.two_pow_pos _), Nat.mul_mod_left]
  simp
theorem log2_mul_pow (n k : Nat) (h : 0 < n) : (n * 2 ^ k).log2 = n.log2 + k := by
  have h1 : n * 2 ^ k ≠ 0 := Nat.ne_of_gt (Nat.mul_pos h (Nat.two_pow_pos _))
  have h2 : n ≠ 0 := by omega
  refine Nat.le_antisymm ?_ ?_
  · have : (n * 2 ^ k).log2 < n.log2 + k + 1 := by
      rw [Nat.log2_lt h1, show n.log2 + k + 1 = (n.log2 + 1) + k by omega, Nat.pow_add]
      exact Nat.mul_lt_mul_of_pos_right (Nat.lt_log2_self) (Nat.two_pow_pos _)
    omega
  · rw [Nat.le_log2 h1, Nat.pow_add]
    exact Nat.mul_le_mul_right _ (Nat.log2_self_le h2)
theorem magR_log (r : Nat) (h : 0 < r) : (magR BN r).log2 - 52 = r / BN - 1 ∧ magR BN r = (r - (r / BN - 1) * BN) * 2 ^ (r / BN - 1) ∧ (r / BN - 1) * BN + (r - (r / BN - 1) * BN) = r ∧ 0 < r - (r / BN - 1) * BN := by
  unfold magR
  have hB : BN = 2 ^ 52 := by decide +kernel
  have hm : r % BN < BN := Nat.mod_lt _ (by decide)
  have hd := Nat.div_add_mod r BN
  by_cases h1 : r < BN
  · rw [if_pos h1]
    have e : r / BN = 0 := Nat.div_eq_of_lt h1
    have hl : r.log2 < 52 := by rw [Nat.log2_lt (by omega), ← hB]; exact h1
    rw [e]
    refine ⟨by omega, by simp, by simp, by simp; exact h⟩
  · rw [if_neg h1]
    have hq : 1 ≤ r / BN := (Nat.one_le_div_iff (by decide)).2 (by omega)
    obtain ⟨q, hq⟩ : ∃ q, r / BN = q + 1 := ⟨r / BN - 1, by omega⟩
    rw [hq] at hd ⊢
    have e0 : BN * (q + 1) = q * BN + BN := by rw [Nat.mul_add, Nat.mul_comm]; simp
    have e1 : r - (q + 1 - 1) * BN = BN + r % BN := by simp; omega
    have hl : (BN + r % BN).log2 = 52 := by
      refine Nat.le_antisymm ?_ ?_
      · have : (BN + r % BN).log2 < 53 := by rw [Nat.log2_lt (by omega)]; omega
        omega
      · rw [Nat.le_log2 (by omega), ← hB]; omega
    refine ⟨?_, ?_, ?_, ?_⟩
    · rw [log2_mul_pow _ _ (by omega), hl]; omega
    · rw [e1]
    · rw [e1]; simp; omega
    · rw [e1]; omega
/-- EXACT: a number of the format's own, however it is told. -/
theorem nearest_exact (s : Bool) (M p q r : Nat) (hr : 0 < r) (hi : r < INF) (hM : M * 2 ^ p = magR BN r * 2 ^ q) : double.nearest s M (-1074 + (p : Int) - (q : Int)) = double.word s r := by
  obtain ⟨l1, l2, l3, l4⟩ := magR_log r hr
  have hV : 0 < magR BN r := by rw [l2]; exact Nat.mul_pos l4 (Nat.two_pow_pos _)
  have hM0 : 0 < M := by
    rcases Nat.eq_zero_or_pos M with h | h
    · exfalso
      rw [h, Nat.zero_mul] at hM
      have := Nat.mul_pos hV (Nat.two_pow_pos q)
      omega
    · exact h
  have hlog : M.log2 + p = (magR BN r).log2 + q := by rw [← log2_mul_pow _ _ hM0, ← log2_mul_pow _ _ hV, hM]
  unfold Format.nearest
  rw [if_neg (by omega)]
  have hfb : double.fractionBits = 52 := rfl
  simp only [f64_least, f64_bn, f64_infr, hfb]
  obtain ⟨L, hL⟩ : ∃ L, L = r / BN - 1 := ⟨_, rfl⟩
  rw [← hL] at l1 l2 l3 l4
  obtain ⟨K, hK⟩ : ∃ K, K = r - L * BN := ⟨_, rfl⟩
  rw [← hK] at l2 l3 l4
  have hlast : max (-1074 + (p : Int) - (q : Int) + (M.log2 : Int) - ((52 : Nat) : Int)) (-1074) = -1074 + (L : Int) := by omega
  rw [hlast]
  have e1 : (-1074 + (L : Int) - -1074).toNat = L := by omega
  have hkept : Toward.even.cut s (M <<< (-1074 + (p : Int) - (q : Int) - (-1074 + (L : Int))).toNat) (-1074 + (L : Int) - (-1074 + (p : Int) - (q : Int))).toNat = K := by
    rcases Nat.le_total (L + q) p with h | h
    · have a1 : (-1074 + (p : Int) - (q : Int) - (-1074 + (L : Int))).toNat = p - (L + q) := by omega
      have a2 : (-1074 + (L : Int) - (-1074 + (p : Int) - (q : Int))).toNat = 0 := by omega
      rw [a1, a2, cut_zero, Nat.shiftLeft_eq]
      have a3 : M * 2 ^ (p - (L + q)) * 2 ^ (L + q) = K * 2 ^ (L + q) := by
        rw [Nat.mul_assoc, ← Nat.pow_add, Nat.sub_add_cancel h, hM, l2, Nat.pow_add, Nat.mul_assoc]
      exact Nat.eq_of_mul_eq_mul_right (Nat.two_pow_pos _) a3
    · have a1 : (-1074 + (p : Int) - (q : Int) - (-1074 + (L : Int))).toNat = 0 := by omega
      have a2 : (-1074 + (L : Int) - (-1074 + (p : Int) - (q : Int))).toNat = L + q - p := by omega
      rw [a1, a2, Nat.shiftLeft_zero]
      have a3 : M * 2 ^ p = K * 2 ^ (L + q - p) * 2 ^ p := by
        rw [Nat.mul_assoc, ← Nat.pow_add, Nat.sub_add_cancel h, hM, l2, Nat.pow_add, Nat.mul_assoc]
      rw [Nat.eq_of_mul_eq_mul_right (Nat.two_pow_pos _) a3]
      exact cut_exact s K _ l4
  rw [hkept, e1]
  have : L * 4503599627370496 + K = r := l3
  rw [this, Nat.min_eq_left (by omega)]
end Go.Pi

