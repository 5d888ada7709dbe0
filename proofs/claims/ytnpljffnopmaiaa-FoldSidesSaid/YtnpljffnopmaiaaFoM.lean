import Derived.Test.YtnpljffnopmaiaaWeE
import Derived.Test.YtnpljffnopmaiaaWeB
/-
  FLOAT64: products and sums told otherwise; the sign; once and twice.
-/
set_option linter.all false
namespace Go.Pi
open Ieee
theorem cut_scale (s : Bool) (M d e : Nat) (hM : 0 < M) : Toward.even.cut s (M * 2 ^ d) (d + e) = Toward.even.cut s M e := by
  unfold Toward.cut
  have hl : (M * 2 ^ d).log2 = M.log2 + d := log2_mul_pow M d hM
  have hm : min (d + e) ((M * 2 ^ d).log2 + 2) = min e (M.log2 + 2) + d := by rw [hl]; omega
  rw [hm]
  generalize min e (M.log2 + 2) = g
  simp only [Nat.one_shiftLeft]
  have hp : 2 ^ (g + d) = 2 ^ g * 2 ^ d := Nat.pow_add 2 g d
  have hd := Nat.two_pow_pos d
  rw [hp, Nat.mul_div_mul_right _ _ hd, Nat.mul_mod_mul_right]
  generalize 2 ^ g = G
  generalize M % G = R
  generalize M / G = Q
  generalize 2 ^ d = T at *
  have k1 : (decide (G * T < 2 * (R * T)) : Bool) = decide (G < 2 * R) := by
    have : G * T < 2 * (R * T) ↔ G < 2 * R := by rw [← Nat.mul_assoc]; exact Nat.mul_lt_mul_right hd
    simp only [this]
  have k2 : (G * T == 2 * (R * T)) = (G == 2 * R) := by
    have : G * T = 2 * (R * T) ↔ G = 2 * R := by rw [← Nat.mul_assoc]; exact Nat.mul_left_inj (by omega)
    rw [Bool.eq_iff_iff]
    simp only [beq_iff_eq, this]
  simp only [k1, k2]
theorem nearest_scale (s : Bool) (M d : Nat) (pl : Int) : double.nearest s (M * 2 ^ d) (pl - (d : Int)) = double.nearest s M pl := by
  rcases Nat.eq_zero_or_pos M with h | h
  · subst h
    unfold Format.nearest
    rw [Nat.zero_mul, if_pos rfl, if_pos rfl]
  · unfold Format.nearest
    rw [if_neg (Nat.ne_of_gt (Nat.mul_pos h (Nat.two_pow_pos _))), if_neg (by omega)]
    rw [log2_mul_pow M d h]
    have hlast : max (pl - (d : Int) + ((M.log2 + d : Nat) : Int) - (double.fractionBits : Int)) double.leastPlace = max (pl + (M.log2 : Int) - (double.fractionBits : Int)) double.leastPlace := by
      congr 1
      omega
    simp only [hlast]
    generalize max (pl + (M.log2 : Int) - (double.fractionBits : Int)) double.leastPlace = last
    have hk : Toward.even.cut s ((M * 2 ^ d) <<< (pl - (d : Int) - last).toNat) (last - (pl - (d : Int))).toNat = Toward.even.cut s (M <<< (pl - last).toNat) (last - pl).toNat := by
      by_cases hx : pl < last
      · have e1 : (pl - (d : Int) - last).toNat = 0 := by omega
        have e2 : (last - (pl - (d : Int))).toNat = d + (last - pl).toNat := by omega
        have e3 : (pl - last).toNat = 0 := by omega
        rw [e1, e2, e3, Nat.shiftLeft_zero, Nat.shiftLeft_zero, cut_scale s M d _ h]
      · obtain ⟨x, hx'⟩ : ∃ x : Nat, pl - last = (x : Int) := ⟨(pl - last).toNat, by omega⟩
        have e4 : (last - pl).toNat = 0 := by omega
        have e3 : (pl - last).toNat = x := by omega
        rw [e3, e4, cut_zero]
        rcases Nat.lt_or_ge x d with hd | hd
        · have e1 : (pl - (d : Int) - last).toNat = 0 := by omega
          have e2 : (last - (pl - (d : Int))).toNat = d - x := by omega
          rw [e1, e2, Nat.shiftLeft_zero, Nat.shiftLeft_eq]
          have : M * 2 ^ d = M * 2 ^ x * 2 ^ (d - x) := by rw [Nat.mul_assoc, ← Nat.pow_add, show x + (d - x) = d by omega]
          rw [this]
          exact cut_exact s _ _ (Nat.mul_pos h (Nat.two_pow_pos _))
        · have e1 : (pl - (d : Int) - last).toNat = x - d := by omega
          have e2 : (last - (pl - (d : Int))).toNat = 0 := by omega
          rw [e1, e2, cut_zero, Nat.shiftLeft_eq, Nat.shiftLeft_eq, Nat.mul_assoc, ← Nat.pow_add, show d + (x - d) = x by omega]
    rw [hk]
/-! ### the sign -/
theorem word_turn (s : Bool) (r : Nat) (hr : r < 9223372036854775808) : fNeg (some (double.word s r)) = some (double.word (!s) r) := by
  have hb : double.word s r < 18446744073709551616 := by unfold Format.word; rw [f64_sgn]; cases s <;> simp <;> omega
  rw [fNeg_eq hb]
  refine congrArg some ?_
  unfold Format.word
  rw [f64_sgn]
  cases s
  · simp only [Bool.false_eq_true, if_false, Bool.not_false, if_true]
    rw [if_pos hr]; omega
  · simp only [if_true, Bool.not_true, Bool.false_eq_true, if_false]
    rw [if_neg (by omega)]; omega
theorem nearest_word (s : Bool) (M : Nat) (pl : Int) : ∃ r, r ≤ INF ∧ double.nearest s M pl = double.word s r ∧ double.nearest (!s) M pl = double.word (!s) r := by
  unfold Format.nearest
  by_cases h : M = 0
  · rw [if_pos h, if_pos h]
    exact ⟨0, Nat.zero_le _, rfl, rfl⟩
  · rw [if_neg h, if_neg h]
    simp only [f64_infr]
    refine ⟨_, Nat.min_le_right _ _, rfl, ?_⟩
    rfl
theorem write_turn (d : Datum) (hd : ∀ s t, d ≠ .nan s t) : fNeg (some (double.write d)) = some (double.write d.opposite) := by
  cases d with
  | nan s t => exact absurd rfl (hd s t)
  | infinity s =>
    simp only [Format.write, Datum.opposite, f64_infr]
    exact word_turn s INF (by unfold INF; omega)
  | number s m pl =>
    simp only [Format.write, Datum.opposite]
    obtain ⟨r, r1, r2, r3⟩ := nearest_word s m pl
    rw [r2, r3]
    exact word_turn s r (by unfold INF at r1; omega)
theorem product_turn (d e : Datum) : d.opposite.product e = (d.product e).map Datum.opposite := by
  cases d <;> cases e <;> simp [Datum.opposite, Datum.product]
  · split <;> simp [Datum.opposite]
  · split <;> simp [Datum.opposite]
theorem product_num (d e f : Datum) (h : d.product e = some f) : ∀ s t, f ≠ .nan s t := by
  intro s t hf
  subst hf
  cases d <;> cases e <;> simp [Datum.product] at h
theorem read_turn {b c : Nat} (hb : b < 18446744073709551616) (hc : fNeg (some b) = some c) : double.read c = (double.read b).opposite := by
  rw [fNeg_eq hb] at hc
  injection hc with hc
  unfold Format.read
  simp only [f64_sgn, f64_bn, f64_infr, f64_least]
  have e1 : c % 9223372036854775808 = b % 9223372036854775808 := by rw [← hc]; split <;> omega
  have e2 : (c / 9223372036854775808 % 2 == 1) = !(b / 9223372036854775808 % 2 == 1) := by
    by_cases h : b < 9223372036854775808
    · rw [if_pos h] at hc
      have a1 : b / 9223372036854775808 = 0 := by omega
      have a2 : c / 9223372036854775808 = 1 := by omega
      rw [a1, a2]; rfl
    · rw [if_neg h] at hc
      have a1 : b / 9223372036854775808 = 1 := by omega
      have a2 : c / 9223372036854775808 = 0 := by omega
      rw [a1, a2]; rfl
  rw [e1, e2]
  generalize (b / 9223372036854775808 % 2 == 1) = s
  generalize b % 9223372036854775808 = r
  split
  · rfl
  · split
    · rfl
    · split <;> rfl
/-- The sign of a factor is the product's. -/
theorem mul_turn {b : Nat} (hb : b < 18446744073709551616) (y : Fl) : fMul (fNeg (some b)) y = fNeg (fMul (some b) y) := by
  cases y with
  | none => rfl
  | some y =>
    obtain ⟨c, hc⟩ : ∃ c, fNeg (some b) = some c := ⟨_, rfl⟩
    rw [hc]
    show double.mul c y = fNeg (double.mul b y)
    unfold Format.mul
    rw [read_turn hb hc, product_turn]
    cases hp : (double.read b).product (double.read y) with
    | none => rfl
    | some f =>
      simp only [Option.map_some]
      exact (write_turn f (product_num _ _ _ hp)).symm
/-! ### once, twice -/
theorem read_one : double.read 4607182418800017408 = .number false 4503599627370496 (-52) := by decide +kernel
theorem read_two : double.read 4611686018427387904 = .number false 4503599627370496 (-51) := by decide +kernel
theorem bn_pow : (4503599627370496 : Nat) = 2 ^ 52 := by decide +kernel
theorem word_b {b : Nat} (hb : b < 18446744073709551616) : double.word (negB b) (rung b) = b := by
  unfold Format.word negB rung
  rw [f64_sgn]
  by_cases h : b < 9223372036854775808
  · have e : b / 9223372036854775808 = 0 := by omega
    rw [e]
    simp; omega
  · have e : b / 9223372036854775808 = 1 := by omega
    rw [e]
    simp; omega
/-- What is read is written again. -/
theorem write_read {b m p : Nat} (hb : b < 18446744073709551616) (h : rung b < INF) (hm : m * 2 ^ p = magR 4503599627370496 (rung b)) : double.nearest (negB b) m (-1074 + (p : Nat)) = b := by
  rcases Nat.eq_zero_or_pos (rung b) with h0 | h0
  · have hz : magR 4503599627370496 (rung b) = 0 := by rw [h0]; unfold magR; rw [if_pos (by decide)]
    rw [hz] at hm
    have : m = 0 := by
      rcases Nat.eq_zero_or_pos m with k | k
      · exact k
      · have := Nat.mul_pos k (Nat.two_pow_pos p); omega
    subst this
    unfold Format.nearest
    rw [if_pos rfl]
    have := word_b hb
    rw [h0] at this
    exact this
  · have := nearest_exact (negB b) m p 0 (rung b) h0 h (by rw [hm, Nat.pow_zero, Nat.mul_one]; rfl)
    rw [show -1074 + (p : Int) - ((0 : Nat) : Int) = -1074 + ((p : Nat) : Int) by omega] at this
    rw [this]
    exact word_b hb
theorem mul_one {b : Nat} (hb : b < 18446744073709551616) (hn : isNum b) : fMul (some b) (some 4607182418800017408) = some b := by
  show double.mul b 4607182418800017408 = some b
  unfold Format.mul
  rw [read_one]
  rcases read_cases b with ⟨h, _⟩ | ⟨h, e⟩ | ⟨h, m, p, e, hm⟩
  · unfold isNum at hn; omega
  · rw [e]
    simp only [Datum.product, Option.map_some, Bool.xor_false]
    rw [if_neg (by decide)]
    simp only [Option.map_some, Format.write, f64_infr]
    rw [← h, word_b hb]
  · rw [e]
    simp only [Datum.product, Option.map_some, Format.write, Bool.xor_false]
    refine congrArg some ?_
    have := nearest_scale (negB b) m 52 (-1074 + ((p : Nat) : Int))
    rw [← bn_pow, show -1074 + ((p : Nat) : Int) - ((52 : Nat) : Int) = -1074 + ((p : Nat) : Int) + -52 by omega] at this
    rw [this]
    exact write_read hb h hm
theorem twice_eq {b : Nat} : fMul (some b) (some 4611686018427387904) = fAdd (some b) (some b) := by
  show double.mul b 4611686018427387904 = double.add b b
  unfold Format.mul Format.add
  rw [read_two]
  rcases read_cases b with ⟨h, t, e⟩ | ⟨h, e⟩ | ⟨h, m, p, e, hm⟩
  · rw [e]; rfl
  · rw [e]
    simp only [Datum.product, Datum.sum, Bool.xor_false, if_true]
    rw [if_neg (by decide)]
  · rw [e]
    simp only [Datum.product, Datum.sum, Option.map_some, Format.write, Bool.xor_false]
    refine congrArg some ?_
    have h1 := nearest_scale (negB b) (2 * m) 51 (-1074 + ((p : Nat) : Int))
    have e1 : 2 * m * 2 ^ 51 = m * 4503599627370496 := by
      have : (2 : Nat) ^ 51 = 2251799813685248 := by decide +kernel
      omega
    rw [e1, show -1074 + ((p : Nat) : Int) - ((51 : Nat) : Int) = -1074 + ((p : Nat) : Int) + -51 by omega] at h1
    rw [h1]
    have hmin : min (-1074 + ((p : Nat) : Int)) (-1074 + ((p : Nat) : Int)) = -1074 + ((p : Nat) : Int) := by omega
    rw [hmin]
    have e0 : (-1074 + ((p : Nat) : Int) - (-1074 + ((p : Nat) : Int))).toNat = 0 := by omega
    rw [e0, signed_sg]
    unfold sgI
    rw [Nat.pow_zero, Nat.mul_one]
    cases negB b
    · simp only [Bool.false_eq_true, if_false, Bool.and_self]
      have e2 : ((m : Int) + (m : Int)).natAbs = 2 * m := by omega
      have e3 : (if (m : Int) + (m : Int) = 0 then false else decide ((m : Int) + (m : Int) < 0)) = false := by
        split
        · rfl
        · exact decide_eq_false (by omega)
      rw [e2, e3]
    · simp only [if_true, Bool.and_self]
      have e2 : (-(m : Int) + -(m : Int)).natAbs = 2 * m := by omega
      have e3 : (if -(m : Int) + -(m : Int) = 0 then true else decide (-(m : Int) + -(m : Int) < 0)) = true := by
        split
        · rfl
        · exact decide_eq_true (by omega)
      rw [e2, e3]
theorem word_num (s : Bool) {r : Nat} (h : r ≤ INF) : isNum (double.word s r) := by
  unfold isNum rung Format.word
  rw [f64_sgn]
  unfold INF at *
  cases s <;> simp <;> omega
theorem read_zero : double.read 0 = .number false 0 (-1074) := by decide +kernel
/-- Nought and a number. -/
theorem zero_add {b : Nat} (hb : b < 18446744073709551616) (hn : isNum b) : fAdd (some 0) (some b) = if rung b = 0 then some 0 else some b := by
  show double.add 0 b = _
  unfold Format.add
  rw [read_zero]
  rcases read_cases b with ⟨h, _⟩ | ⟨h, e⟩ | ⟨h, m, p, e, hm⟩
  · unfold isNum at hn; omega
  · rw [e]
    simp only [Datum.sum, Option.map_some, Format.write, f64_infr]
    rw [if_neg (by rw [h]; decide), ← h, word_b hb]
  · rw [e]
    simp only [Datum.sum, Option.map_some, Format.write]
    have hmin : min (-1074 : Int) (-1074 + ((p : Nat) : Int)) = -1074 := by omega
    rw [hmin]
    have e0 : ((-1074 : Int) - -1074).toNat = 0 := by omega
    have e1 : (-1074 + ((p : Nat) : Int) - -1074).toNat = p := by omega
    rw [e0, e1, signed_sg, signed_sg, hm]
    by_cases h0 : rung b = 0
    · rw [if_pos h0, h0]
      have : magR 4503599627370496 0 = 0 := by unfold magR; rw [if_pos (by decide)]
      rw [this]
      cases negB b <;> rfl
    · rw [if_neg h0]
      refine congrArg some ?_
      have hr : 0 < rung b := by omega
      have hmag : 0 < magR 4503599627370496 (rung b) := by
        have := magR_lt 4503599627370496 (by decide) hr
        omega
      have hx := nearest_exact (negB b) (magR BN (rung b)) 0 0 (rung b) hr h (by simp)
      rw [show -1074 + ((0 : Nat) : Int) - ((0 : Nat) : Int) = -1074 by omega, word_b hb] at hx
      have hmag' : 0 < magR BN (rung b) := hmag
      have hmg : magR 4503599627370496 (rung b) = magR BN (rung b) := rfl
      rw [hmg]
      generalize magR BN (rung b) = V at *
      unfold sgI
      cases hs : negB b
      · rw [hs] at hx
        simp only [Bool.false_eq_true, if_false, Bool.false_and]
        have a1 : ((0 * 2 ^ 0 : Nat) : Int) + (V : Int) = (V : Int) := by omega
        rw [a1, Int.natAbs_natCast, if_neg (by omega), decide_eq_false (by omega)]
        exact hx
      · rw [hs] at hx
        simp only [Bool.false_eq_true, if_false, if_true, Bool.false_and]
        have a1 : ((0 * 2 ^ 0 : Nat) : Int) + -(V : Int) = -(V : Int) := by omega
        rw [a1, Int.natAbs_neg, Int.natAbs_natCast, if_neg (by omega), decide_eq_true (by omega)]
        exact hx
/-- A number with itself: a number. -/
theorem add_self_num {b : Nat} (hn : isNum b) : ∃ c, fAdd (some b) (some b) = some c ∧ isNum c := by
  show ∃ c, double.add b b = some c ∧ isNum c
  unfold Format.add
  rcases read_cases b with ⟨h, _⟩ | ⟨h, e⟩ | ⟨h, m, p, e, hm⟩
  · unfold isNum at hn; omega
  · rw [e]
    simp only [Datum.sum, if_true, Option.map_some, Format.write, f64_infr]
    exact ⟨_, rfl, word_num _ (Nat.le_refl _)⟩
  · rw [e]
    simp only [Datum.sum, Option.map_some, Format.write]
    obtain ⟨r, r1, r2, _⟩ := nearest_word (if signed (negB b) m (-1074 + ((p : Nat) : Int) - min (-1074 + ((p : Nat) : Int)) (-1074 + ((p : Nat) : Int))).toNat + signed (negB b) m (-1074 + ((p : Nat) : Int) - min (-1074 + ((p : Nat) : Int)) (-1074 + ((p : Nat) : Int))).toNat = 0 then negB b && negB b
        else decide (signed (negB b) m (-1074 + ((p : Nat) : Int) - min (-1074 + ((p : Nat) : Int)) (-1074 + ((p : Nat) : Int))).toNat + signed (negB b) m (-1074 + ((p : Nat) : Int) - min (-1074 + ((p : Nat) : Int)) (-1074 + ((p : Nat) : Int))).toNat < 0))
        (signed (negB b) m (-1074 + ((p : Nat) : Int) - min (-1074 + ((p : Nat) : Int)) (-1074 + ((p : Nat) : Int))).toNat + signed (negB b) m (-1074 + ((p : Nat) : Int) - min (-1074 + ((p : Nat) : Int)) (-1074 + ((p : Nat) : Int))).toNat).natAbs (min (-1074 + ((p : Nat) : Int)) (-1074 + ((p : Nat) : Int)))
    exact ⟨_, rfl, by rw [r2]; exact word_num _ r1⟩
end Go.Pi

