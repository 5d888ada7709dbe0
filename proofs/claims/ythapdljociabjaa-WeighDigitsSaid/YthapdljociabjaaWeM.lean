import Derived.Test.YthapdljociabjaaWeD
/-
  FLOAT64: sums and products that are exact; quotients that rise.
-/
set_option linter.all false
namespace Go.Pi
open Ieee
theorem magR_zero : magR BN 0 = 0 := by unfold magR; rw [if_pos (by decide)]
theorem magR_inj {r q : Nat} (h : magR BN r = magR BN q) : r = q := by
  rcases Nat.lt_trichotomy r q with k | k | k
  · have := magR_lt BN (by decide) k; omega
  · exact k
  · have := magR_lt BN (by decide) k; omega
theorem magR_lt_iff {r q : Nat} : magR BN r < magR BN q ↔ r < q := by
  refine ⟨fun h => ?_, magR_lt BN (by decide)⟩
  rcases Nat.lt_or_ge r q with k | k
  · exact k
  · rcases Nat.lt_or_ge q r with k2 | k2
    · have := magR_lt BN (by decide) k2; omega
    · obtain rfl : r = q := by omega
      omega
theorem nearest_pos (M d q r : Nat) (hi : r < INF) (h : M * 2 ^ d = magR BN r * 2 ^ q) : double.nearest false M (-1074 + (d : Int) - (q : Int)) = r := by
  rcases Nat.eq_zero_or_pos r with h0 | h0
  · subst h0
    rw [magR_zero, Nat.zero_mul] at h
    have hM : M = 0 := by
      rcases Nat.eq_zero_or_pos M with k | k
      · exact k
      · have := Nat.mul_pos k (Nat.two_pow_pos d); omega
    subst hM
    unfold Format.nearest
    rw [if_pos rfl]
    rfl
  · rw [nearest_exact false M d q r h0 hi h]
    rfl
theorem nearest_posU (M d k U r : Nat) (hU : U = 2 ^ k) (hi : r < INF) (h : M * 2 ^ d = magR BN r * U) : double.nearest false M (-1074 + (d : Int) - (k : Int)) = r := by
  subst hU; exact nearest_pos M d k r hi h
theorem U74_eq : U74 = 2 ^ E74 := by unfold U74; rfl
theorem add_exact {x y r : Nat} (hx : x < INF) (hy : y < INF) (hr : r < INF) (h : magR BN r = magR BN x + magR BN y) : double.add x y = some r := by
  obtain ⟨a1, a2⟩ := rung_pos hx
  obtain ⟨b1, b2⟩ := rung_pos hy
  obtain ⟨m, p, ex, vx, _, _⟩ := read_num (x := x) (by rw [a1]; exact hx)
  obtain ⟨n, q, ey, vy, _, _⟩ := read_num (x := y) (by rw [b1]; exact hy)
  rw [a1] at vx; rw [b1] at vy; rw [a2] at ex; rw [b2] at ey
  unfold Format.add
  rw [ex, ey]
  simp only [Datum.sum, Option.map_some, Format.write]
  congr 1
  obtain ⟨d, hd⟩ : ∃ d : Nat, d = min p q := ⟨_, rfl⟩
  have hmin : min (-1074 + (p : Int)) (-1074 + (q : Int)) = -1074 + (d : Int) := by omega
  rw [hmin]
  have e1 : (-1074 + (p : Int) - (-1074 + (d : Int))).toNat = p - d := by omega
  have e2 : (-1074 + (q : Int) - (-1074 + (d : Int))).toNat = q - d := by omega
  rw [e1, e2, signed_sg, signed_sg]
  have ht : sgI false (m * 2 ^ (p - d)) + sgI false (n * 2 ^ (q - d)) = ((m * 2 ^ (p - d) + n * 2 ^ (q - d) : Nat) : Int) := by
    show ((m * 2 ^ (p - d) : Nat) : Int) + ((n * 2 ^ (q - d) : Nat) : Int) = _
    omega
  rw [ht, Int.natAbs_natCast]
  have hs : (if ((m * 2 ^ (p - d) + n * 2 ^ (q - d) : Nat) : Int) = 0 then (false && false) else decide (((m * 2 ^ (p - d) + n * 2 ^ (q - d) : Nat) : Int) < 0)) = false := by
    split
    · rfl
    · exact decide_eq_false (by omega)
  rw [hs]
  have key := nearest_pos (m * 2 ^ (p - d) + n * 2 ^ (q - d)) d 0 r hr (by
    rw [h, Nat.pow_zero, Nat.mul_one, Nat.add_mul, Nat.mul_assoc, Nat.mul_assoc, ← Nat.pow_add, ← Nat.pow_add, Nat.sub_add_cancel (by omega), Nat.sub_add_cancel (by omega), vx, vy])
  rw [show -1074 + (d : Int) - ((0 : Nat) : Int) = -1074 + (d : Int) by omega] at key
  exact key
theorem mul_exact {x y r : Nat} (hx : x < INF) (hy : y < INF) (hr : r < INF) (h : magR BN r * U74 = magR BN x * magR BN y) : double.mul x y = some r := by
  obtain ⟨a1, a2⟩ := rung_pos hx
  obtain ⟨b1, b2⟩ := rung_pos hy
  obtain ⟨m, p, ex, vx, _, _⟩ := read_num (x := x) (by rw [a1]; exact hx)
  obtain ⟨n, q, ey, vy, _, _⟩ := read_num (x := y) (by rw [b1]; exact hy)
  rw [a1] at vx; rw [b1] at vy; rw [a2] at ex; rw [b2] at ey
  unfold Format.mul
  rw [ex, ey]
  simp only [Datum.product, Option.map_some, Format.write]
  refine congrArg some ?_
  have e : m * n * 2 ^ (p + q) = magR BN r * U74 := by rw [h, ← vx, ← vy, Nat.pow_add, Nat.mul_assoc, Nat.mul_assoc, Nat.mul_left_comm n]
  have key := nearest_posU (m * n) (p + q) E74 U74 r U74_eq hr e
  have hp : -1074 + (p : Int) + (-1074 + (q : Int)) = -1074 + ((p + q : Nat) : Int) - ((E74 : Nat) : Int) := by have := E74_eq; omega
  rw [hp]
  exact key
/-- What is no less comes to no less. -/
theorem RN_ge (r A B : Nat) (hr : 0 < r) (hB : 0 < B) (h : magR BN r * B ≤ A) : r ≤ RN A B := by
  obtain ⟨l1, l2, l3, l4⟩ := magR_log r hr
  have hbn : BN = 4503599627370496 := rfl
  have h52 : BN = 2 ^ 52 := by decide +kernel
  have hV : 0 < magR BN r := by rw [l2]; exact Nat.mul_pos l4 (Nat.two_pow_pos _)
  have hq : magR BN r ≤ A / B := (Nat.le_div_iff_mul_le hB).2 h
  have hlog : (magR BN r).log2 ≤ (A / B).log2 := (Nat.le_log2 (by omega)).2 (Nat.le_trans (Nat.log2_self_le (by omega)) hq)
  have hLL : r / BN - 1 ≤ rnL A B := by unfold rnL; omega
  have hlow : rnL A B * BN + A / (B * 2 ^ rnL A B) ≤ RN A B := by unfold RN rnK; omega
  rcases Nat.lt_or_ge (r / BN - 1) (rnL A B) with k | k
  · have h1 : 2 ^ (52 + rnL A B) ≤ A / B := by
      have e : 52 + rnL A B = (A / B).log2 := by unfold rnL at k ⊢; omega
      rw [e]
      exact Nat.log2_self_le (by omega)
    have h2 : BN ≤ A / (B * 2 ^ rnL A B) := by
      rw [← Nat.div_div_eq_div_mul, Nat.le_div_iff_mul_le (Nat.two_pow_pos _), h52, ← Nat.pow_add]
      exact h1
    have h3 : r < (r / BN + 1) * BN := by
      have := Nat.lt_succ_self (r / BN)
      rw [← Nat.div_lt_iff_lt_mul (by omega)]
      exact this
    have h4 : (r / BN + 1) * BN ≤ (rnL A B + 1) * BN := Nat.mul_le_mul_right _ (by omega)
    have h5 : (rnL A B + 1) * BN = rnL A B * BN + BN := by rw [Nat.add_mul, Nat.one_mul]
    omega
  · have e : r / BN - 1 = rnL A B := by omega
    rw [e] at l2 l3
    have h2 : r - rnL A B * BN ≤ A / (B * 2 ^ rnL A B) := by
      rw [← Nat.div_div_eq_div_mul, Nat.le_div_iff_mul_le (Nat.two_pow_pos _), ← l2]
      exact hq
    omega
end Go.Pi

