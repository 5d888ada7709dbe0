import Derived.Test.YthapdljociabjaaWeE
/-
  FLOAT64: a quotient is the nearest number to the true quotient, whatever its terms.
-/
set_option linter.all false
namespace Go.Pi
open Ieee
def rnL (A B : Nat) : Nat := (A / B).log2 - 52
def rnK (A B L : Nat) : Nat := A / (B * 2 ^ L) + (if B * 2 ^ L < 2 * (A % (B * 2 ^ L)) ∨ (B * 2 ^ L = 2 * (A % (B * 2 ^ L)) ∧ A / (B * 2 ^ L) % 2 = 1) then 1 else 0)
/-- The rung nearest to A / B, in units of the least place. -/
def RN (A B : Nat) : Nat := rnL A B * BN + rnK A B (rnL A B)
theorem RN_scale (A B c : Nat) (hc : 0 < c) : RN (A * c) (B * c) = RN A B := by
  have e1 : rnL (A * c) (B * c) = rnL A B := by unfold rnL; rw [Nat.mul_div_mul_right _ _ hc]
  have e2 : ∀ L, rnK (A * c) (B * c) L = rnK A B L := by
    intro L
    unfold rnK
    have g : B * c * 2 ^ L = B * 2 ^ L * c := by rw [Nat.mul_assoc, Nat.mul_comm c, Nat.mul_assoc]
    rw [g, Nat.mul_div_mul_right _ _ hc, Nat.mul_mod_mul_right]
    generalize B * 2 ^ L = G
    generalize A % G = R
    have k1 : G * c < 2 * (R * c) ↔ G < 2 * R := by rw [← Nat.mul_assoc]; exact Nat.mul_lt_mul_right hc
    have k2 : G * c = 2 * (R * c) ↔ G = 2 * R := by rw [← Nat.mul_assoc]; exact Nat.mul_left_inj (by omega)
    simp only [k1, k2]
  unfold RN
  rw [e1, e2]
theorem log2_eq {n k : Nat} (h1 : 2 ^ k ≤ n) (h2 : n < 2 ^ (k + 1)) : n.log2 = k := by
  have hn : n ≠ 0 := by have := Nat.two_pow_pos k; omega
  refine Nat.le_antisymm ?_ ((Nat.le_log2 hn).2 h1)
  have := (Nat.log2_lt hn).2 h2
  omega
theorem log2_div (D n c : Nat) (hn : 0 < n) (hQ : 0 < D / n) : ((D * 2 ^ c) / n).log2 = (D / n).log2 + c := by
  have h1 : 2 ^ (D / n).log2 ≤ D / n := Nat.log2_self_le (by omega)
  have h2 : D / n < 2 ^ ((D / n).log2 + 1) := Nat.lt_log2_self
  generalize (D / n).log2 = k at *
  refine log2_eq ?_ ?_
  · rw [Nat.le_div_iff_mul_le hn, Nat.pow_add]
    have := (Nat.le_div_iff_mul_le hn).1 h1
    calc 2 ^ k * 2 ^ c * n = 2 ^ k * n * 2 ^ c := by rw [Nat.mul_assoc, Nat.mul_comm (2 ^ c), Nat.mul_assoc]
      _ ≤ D * 2 ^ c := Nat.mul_le_mul_right _ this
  · rw [Nat.div_lt_iff_lt_mul hn]
    have := (Nat.div_lt_iff_lt_mul hn).1 h2
    calc D * 2 ^ c < 2 ^ (k + 1) * n * 2 ^ c := Nat.mul_lt_mul_of_pos_right this (Nat.two_pow_pos _)
      _ = 2 ^ (k + c + 1) * n := by rw [Nat.mul_assoc, Nat.mul_comm n, ← Nat.mul_assoc, ← Nat.pow_add]; congr 2; omega
theorem log2_shr (Q c : Nat) (hQ : 0 < Q) (h : c ≤ Q.log2) : (Q / 2 ^ c).log2 = Q.log2 - c := by
  have h1 : 2 ^ Q.log2 ≤ Q := Nat.log2_self_le (by omega)
  have h2 : Q < 2 ^ (Q.log2 + 1) := Nat.lt_log2_self
  generalize Q.log2 = k at *
  obtain ⟨d, rfl⟩ : ∃ d, k = d + c := ⟨k - c, by omega⟩
  refine log2_eq ?_ ?_
  · rw [Nat.le_div_iff_mul_le (Nat.two_pow_pos _), ← Nat.pow_add]
    simpa using h1
  · rw [Nat.div_lt_iff_lt_mul (Nat.two_pow_pos _), ← Nat.pow_add]
    rw [show d + c - c + 1 + c = d + c + 1 by omega]
    exact h2
theorem rnL_eq (D n a b : Nat) (hn : 0 < n) (hQ : 0 < D / n) : rnL (D * 2 ^ a) (n * 2 ^ b) = (D / n).log2 + a - (b + 52) := by
  unfold rnL
  rcases Nat.le_total b a with h | h
  · obtain ⟨c, rfl⟩ : ∃ c, a = c + b := ⟨a - b, by omega⟩
    rw [Nat.pow_add, ← Nat.mul_assoc, Nat.mul_div_mul_right _ _ (Nat.two_pow_pos _), log2_div D n c hn hQ]
    omega
  · obtain ⟨c, rfl⟩ : ∃ c, b = c + a := ⟨b - a, by omega⟩
    rw [Nat.pow_add, ← Nat.mul_assoc, Nat.mul_div_mul_right _ _ (Nat.two_pow_pos _), ← Nat.div_div_eq_div_mul]
    rcases Nat.le_total c (D / n).log2 with k | k
    · rw [log2_shr _ _ hQ k]; omega
    · have : (D / n / 2 ^ c).log2 = 0 := by
        rcases Nat.lt_or_ge (D / n).log2 c with k2 | k2
        · rw [Nat.div_eq_of_lt]
          · rfl
          · exact Nat.lt_of_lt_of_le Nat.lt_log2_self (Nat.pow_le_pow_right (by decide) k2)
        · rw [log2_shr _ _ hQ k2]; omega
      rw [this]; omega
/-- The digits that are kept of a quotient with a last digit for what is left over. -/
theorem cut_quot (s : Bool) (D n d : Nat) (hn : 0 < n) (hd : 1 ≤ d) : Toward.even.cut s (2 * (D / n) + (D % n != 0).toNat) (d + 1) =
    D / (n * 2 ^ d) + (if n * 2 ^ d < 2 * (D % (n * 2 ^ d)) ∨ (n * 2 ^ d = 2 * (D % (n * 2 ^ d)) ∧ D / (n * 2 ^ d) % 2 = 1) then 1 else 0) := by
  have hR : D % n < n := Nat.mod_lt _ hn
  have hst : (D % n != 0).toNat = if D % n = 0 then 0 else 1 := by
    by_cases h : D % n = 0 <;> simp [h]
  have hDq : D / (n * 2 ^ d) = D / n / 2 ^ d := by rw [Nat.div_div_eq_div_mul]
  have hDm : D % (n * 2 ^ d) = n * ((D / n) % 2 ^ d) + D % n := by
    have := Nat.mod_mul (x := D) (a := n) (b := 2 ^ d)
    omega
  rw [hDq, hDm, hst]
  generalize D / n = Q at *
  generalize D % n = R at *
  obtain ⟨e, rfl⟩ : ∃ e, d = e + 1 := ⟨d - 1, by omega⟩
  have hp : (2 : Nat) ^ (e + 1) = 2 * 2 ^ e := by rw [Nat.pow_succ, Nat.mul_comm]
  have hp2 : (2 : Nat) ^ (e + 1 + 1) = 2 * (2 * 2 ^ e) := by rw [Nat.pow_succ, hp, Nat.mul_comm]
  have hu : Q % 2 ^ (e + 1) < 2 * 2 ^ e := by rw [← hp]; exact Nat.mod_lt _ (Nat.two_pow_pos _)
  have hQ := Nat.div_add_mod Q (2 ^ (e + 1))
  rw [hp] at hu hQ ⊢
  generalize hh : 2 ^ e = h at *
  have hpos : 0 < h := by rw [← hh]; exact Nat.two_pow_pos _
  generalize hU : Q % (2 * h) = u at *
  generalize hV : Q / (2 * h) = v at *
  obtain ⟨t, ht⟩ : ∃ t, t = (if R = 0 then 0 else 1) := ⟨_, rfl⟩
  rw [← ht]
  have ht2 : t ≤ 1 ∧ (t = 0 ↔ R = 0) := by rw [ht]; split <;> omega
  -- the two tests
  have k1 : (n * (2 * h) < 2 * (n * u + R)) ↔ (2 * h < 2 * u + t) := by
    have e1 : n * (2 * h) = 2 * (n * h) := by rw [Nat.mul_left_comm]
    rw [e1]
    constructor
    · intro hlt
      rcases Nat.lt_trichotomy h u with k | k | k
      · omega
      · subst k; omega
      · have : n * u + n ≤ n * h := by
          have := Nat.mul_le_mul_left n k
          rw [Nat.mul_succ] at this
          exact this
        omega
    · intro hlt
      rcases Nat.lt_trichotomy h u with k | k | k
      · have : n * h + n ≤ n * u := by
          have := Nat.mul_le_mul_left n k
          rw [Nat.mul_succ] at this
          exact this
        omega
      · subst k; omega
      · omega
  have k2 : (n * (2 * h) = 2 * (n * u + R)) ↔ (2 * h = 2 * u + t) := by
    have e1 : n * (2 * h) = 2 * (n * h) := by rw [Nat.mul_left_comm]
    rw [e1]
    constructor
    · intro hlt
      rcases Nat.lt_trichotomy h u with k | k | k
      · have : n * h + n ≤ n * u := by
          have := Nat.mul_le_mul_left n k
          rw [Nat.mul_succ] at this
          exact this
        omega
      · subst k; omega
      · have : n * u + n ≤ n * h := by
          have := Nat.mul_le_mul_left n k
          rw [Nat.mul_succ] at this
          exact this
        omega
    · intro hlt
      have : h = u := by omega
      subst this
      omega
  simp only [k1, k2]
  unfold Toward.cut
  have hM : 2 * Q + t = v * (2 * (2 * h)) + (2 * u + t) := by
    rw [← hQ]
    have : 2 * (2 * h * v + u) = v * (2 * (2 * h)) + 2 * u := by rw [Nat.mul_add, Nat.mul_comm v]; simp [Nat.mul_assoc]
    omega
  by_cases hcap : e + 1 + 1 ≤ (2 * Q + t).log2 + 2
  · rw [Nat.min_eq_left hcap, Nat.one_shiftLeft, hp2]
    have d1 : (2 * Q + t) / (2 * (2 * h)) = v := by
      rw [hM, Nat.mul_comm v, Nat.mul_add_div (by omega), Nat.div_eq_of_lt (by omega)]; rfl
    have d2 : (2 * Q + t) % (2 * (2 * h)) = 2 * u + t := by
      rw [hM, Nat.mul_comm v, Nat.mul_add_mod, Nat.mod_eq_of_lt (by omega)]
    simp only [d1, d2]
    congr 1
    by_cases c1 : 2 * h < 2 * u + t
    · have : 2 * (2 * h) < 2 * (2 * u + t) := by omega
      simp [c1, this]
    · have n1 : ¬ 2 * (2 * h) < 2 * (2 * u + t) := by omega
      by_cases c2 : 2 * h = 2 * u + t
      · have : 2 * (2 * h) = 2 * (2 * u + t) := by omega
        by_cases c3 : v % 2 = 1
        · simp [c1, c2, c3]
        · simp [c1, c2, c3]
      · have n2 : ¬ 2 * (2 * h) = 2 * (2 * u + t) := by omega
        simp [c1, c2, n1, n2]
  · rw [Nat.min_eq_right (by omega), Nat.one_shiftLeft]
    have l1 : 2 * Q + t < 2 ^ ((2 * Q + t).log2 + 1) := Nat.lt_log2_self
    have l2 : 2 ^ ((2 * Q + t).log2 + 2) = 2 * 2 ^ ((2 * Q + t).log2 + 1) := by rw [Nat.pow_succ, Nat.mul_comm]
    have l3 : 2 ^ ((2 * Q + t).log2 + 1) ≤ h := by rw [← hh]; exact Nat.pow_le_pow_right (by decide) (by omega)
    generalize 2 ^ ((2 * Q + t).log2 + 1) = G at *
    have hv0 : v = 0 := by
      rcases Nat.eq_zero_or_pos v with k | k
      · exact k
      · have := Nat.mul_le_mul_right (2 * (2 * h)) k
        omega
    have d1 : (2 * Q + t) / (2 * G) = 0 := Nat.div_eq_of_lt (by omega)
    have d2 : (2 * Q + t) % (2 * G) = 2 * Q + t := Nat.mod_eq_of_lt (by omega)
    rw [l2]
    simp only [d1, d2]
    rw [hv0] at hM ⊢
    have n1 : ¬ 2 * G < 2 * (2 * Q + t) := by omega
    have n2 : ¬ 2 * G = 2 * (2 * Q + t) := by omega
    have n3 : ¬ 2 * h < 2 * u + t := by omega
    have n4 : ¬ 2 * h = 2 * u + t := by omega
    simp [n1, n2, n3, n4]
end Go.Pi
namespace Go.Pi
open Ieee
theorem nearest_quot (s : Bool) (D n a b : Nat) (hn : 0 < n) (hQ : 2 ^ 53 ≤ D / n) :
    double.nearest s (2 * (D / n) + (D % n != 0).toNat) (-1074 + (a : Int) - ((b : Int) + 1)) = double.word s (min (RN (D * 2 ^ a) (n * 2 ^ b)) INF) := by
  have hQ0 : 0 < D / n := by have := Nat.two_pow_pos 53; omega
  have hst : (D % n != 0).toNat ≤ 1 := by cases (D % n != 0) <;> simp
  have hlog : (2 * (D / n) + (D % n != 0).toNat).log2 = (D / n).log2 + 1 := by
    have h1 : 2 ^ (D / n).log2 ≤ D / n := Nat.log2_self_le (by omega)
    have h2 : D / n < 2 ^ ((D / n).log2 + 1) := Nat.lt_log2_self
    refine log2_eq ?_ ?_
    · rw [Nat.pow_succ]; omega
    · rw [Nat.pow_succ]; omega
  have h53 : 53 ≤ (D / n).log2 := (Nat.le_log2 (by omega)).2 hQ
  unfold Format.nearest
  rw [if_neg (by omega)]
  have hfb : double.fractionBits = 52 := rfl
  simp only [f64_least, f64_bn, f64_infr, hfb, hlog]
  unfold RN
  rw [rnL_eq D n a b hn hQ0]
  generalize hk : (D / n).log2 = k at *
  obtain ⟨L, hL⟩ : ∃ L, L = k + a - (b + 52) := ⟨_, rfl⟩
  rw [← hL]
  have hlast : max (-1074 + (a : Int) - ((b : Int) + 1) + ((k + 1 : Nat) : Int) - ((52 : Nat) : Int)) (-1074) = -1074 + (L : Int) := by omega
  rw [hlast]
  have e1 : (-1074 + (L : Int) - -1074).toNat = L := by omega
  obtain ⟨d, hd⟩ : ∃ d, a + d = L + b := ⟨L + b - a, by omega⟩
  have hd1 : 1 ≤ d := by omega
  have a1 : (-1074 + (a : Int) - ((b : Int) + 1) - (-1074 + (L : Int))).toNat = 0 := by omega
  have a2 : (-1074 + (L : Int) - (-1074 + (a : Int) - ((b : Int) + 1))).toNat = d + 1 := by omega
  rw [e1, a1, a2, Nat.shiftLeft_zero, cut_quot s D n d hn hd1]
  have hg : n * 2 ^ b * 2 ^ L = n * 2 ^ d * 2 ^ a := by
    rw [Nat.mul_assoc, ← Nat.pow_add, Nat.mul_assoc, ← Nat.pow_add, show b + L = d + a by omega]
  have hK : rnK (D * 2 ^ a) (n * 2 ^ b) L = D / (n * 2 ^ d) + (if n * 2 ^ d < 2 * (D % (n * 2 ^ d)) ∨ (n * 2 ^ d = 2 * (D % (n * 2 ^ d)) ∧ D / (n * 2 ^ d) % 2 = 1) then 1 else 0) := by
    unfold rnK
    have hp : 0 < 2 ^ a := Nat.two_pow_pos _
    rw [hg, Nat.mul_div_mul_right _ _ hp, Nat.mul_mod_mul_right]
    generalize n * 2 ^ d = G
    generalize D % G = R
    generalize 2 ^ a = c at hp
    have k1 : G * c < 2 * (R * c) ↔ G < 2 * R := by rw [← Nat.mul_assoc]; exact Nat.mul_lt_mul_right hp
    have k2 : G * c = 2 * (R * c) ↔ G = 2 * R := by rw [← Nat.mul_assoc]; exact Nat.mul_left_inj (by omega)
    simp only [k1, k2]
  rw [hK]
  rfl
/-- A word's sign, rung, and what it is worth. -/
theorem read_num {x : Nat} (h : rung x < INF) : ∃ m p, double.read x = .number (negB x) m (-1074 + (p : Nat)) ∧ m * 2 ^ p = magR BN (rung x) ∧ (0 < rung x → 0 < m) ∧ m < 2 ^ 53 := by
  have h0 := read_cases x
  unfold Format.read
  simp only [f64_sgn, f64_bn, f64_infr, f64_least]
  have e : x % 9223372036854775808 = rung x := rfl
  have e2 : (x / 9223372036854775808 % 2 == 1) = negB x := rfl
  rw [e, e2]
  by_cases h1 : rung x < 4503599627370496
  · refine ⟨rung x, 0, by rw [if_pos h1]; simp, ?_, fun h => h, by omega⟩
    unfold magR BN
    rw [if_pos h1]; simp
  · refine ⟨4503599627370496 + rung x % 4503599627370496, rung x / 4503599627370496 - 1, by rw [if_neg h1, if_pos h], ?_, fun _ => by omega, ?_⟩
    · unfold magR BN
      rw [if_neg h1]
    · have : rung x % 4503599627370496 < 4503599627370496 := Nat.mod_lt _ (by decide)
      omega
/-- One, in units of the least place. -/
def E74 : Nat := 1074
theorem E74_eq : E74 = 1074 := rfl
def U74 : Nat := 2 ^ E74
theorem U74_pos : 0 < U74 := Nat.two_pow_pos E74
theorem pow74 (p : Nat) : 2 ^ (p + E74) = 2 ^ p * U74 := Nat.pow_add 2 p E74
/-- DIVISION: the nearest number to the true quotient. -/
theorem div_RN {x y : Nat} (hx : rung x < INF) (hx0 : 0 < rung x) (hy : rung y < INF) (hy0 : 0 < rung y) :
    double.div x y = some (double.word (negB x ^^ negB y) (min (RN (magR BN (rung x) * U74) (magR BN (rung y))) INF)) := by
  obtain ⟨m, p, ex, vx, mx, lx⟩ := read_num hx
  obtain ⟨n, q, ey, vy, my, ly⟩ := read_num hy
  have hm := mx hx0
  have hn := my hy0
  unfold Format.div
  rw [ex, ey]
  simp only [Datum.quotient]
  rw [if_neg (by omega)]
  simp only [Option.map_some, Format.write]
  congr 1
  have hfb : double.fractionBits = 52 := rfl
  rw [hfb]
  have hlm : m.log2 ≤ 52 := by
    have : m.log2 < 53 := (Nat.log2_lt (by omega)).2 lx
    omega
  obtain ⟨r, hr⟩ : ∃ r, r = 52 + 2 + n.log2 - m.log2 := ⟨_, rfl⟩
  rw [← hr, Nat.shiftLeft_eq]
  have hQ : 2 ^ 53 ≤ m * 2 ^ r / n := by
    rw [Nat.le_div_iff_mul_le hn]
    have h1 : n < 2 ^ (n.log2 + 1) := Nat.lt_log2_self
    have h2 : 2 ^ m.log2 ≤ m := Nat.log2_self_le (by omega)
    calc 2 ^ 53 * n ≤ 2 ^ 53 * 2 ^ (n.log2 + 1) := Nat.mul_le_mul_left _ (by omega)
      _ = 2 ^ m.log2 * 2 ^ r := by rw [← Nat.pow_add, ← Nat.pow_add, show 53 + (n.log2 + 1) = m.log2 + r by omega]
      _ ≤ m * 2 ^ r := Nat.mul_le_mul_right _ h2
  have := nearest_quot (negB x ^^ negB y) (m * 2 ^ r) n (p + E74) (q + r) hn hQ
  have hpl : -1074 + (p : Int) - (-1074 + (q : Int)) - (r : Int) - 1 = -1074 + ((p + E74 : Nat) : Int) - (((q + r : Nat) : Int) + 1) := by have := E74_eq; omega
  have e1 : m * 2 ^ r * 2 ^ (p + E74) = magR BN (rung x) * U74 * 2 ^ r := by
    rw [← vx, pow74]
    generalize 2 ^ r = A
    generalize 2 ^ p = B
    generalize U74 = C
    rw [Nat.mul_assoc m, Nat.mul_assoc m, Nat.mul_assoc m]
    congr 1
    rw [Nat.mul_comm A]
  have e2 : n * 2 ^ (q + r) = magR BN (rung y) * 2 ^ r := by rw [← vy, Nat.pow_add, Nat.mul_assoc]
  rw [hpl, this, e1, e2, RN_scale _ _ _ (Nat.two_pow_pos _)]
/-- What the format has is its own nearest. -/
theorem RN_self (r A B : Nat) (hr : 0 < r) (hB : 0 < B) (h : A = magR BN r * B) : RN A B = r := by
  subst h
  obtain ⟨l1, l2, l3, l4⟩ := magR_log r hr
  have e : RN (magR BN r * B) B = RN (magR BN r) 1 := by
    have := RN_scale (magR BN r) 1 B hB
    rwa [Nat.one_mul] at this
  rw [e]
  unfold RN
  have eL : rnL (magR BN r) 1 = r / BN - 1 := by unfold rnL; rw [Nat.div_one]; exact l1
  rw [eL]
  generalize r / BN - 1 = L at *
  have eK : rnK (magR BN r) 1 L = r - L * BN := by
    unfold rnK
    rw [Nat.one_mul, l2, Nat.mul_div_cancel _ (Nat.two_pow_pos _), Nat.mul_mod_left]
    have := Nat.two_pow_pos L
    rw [if_neg (by omega), Nat.add_zero]
  rw [eK]
  exact l3
end Go.Pi
namespace Go.Pi
open Ieee
/-- Numbers of no more than 53 digits are the format's. -/
theorem rep (n e : Nat) (hn : 0 < n) (h1 : n < 2 ^ 53) (h2 : 52 ≤ n.log2 + e) (h3 : n.log2 + e ≤ 2090) : ∃ r, 0 < r ∧ r < INF ∧ magR BN r = n * 2 ^ e := by
  have hB : BN = 2 ^ 52 := by decide +kernel
  have hl : n.log2 ≤ 52 := by
    have : n.log2 < 53 := (Nat.log2_lt (by omega)).2 h1
    omega
  have a1 : 2 ^ n.log2 ≤ n := Nat.log2_self_le (by omega)
  have a2 : n < 2 ^ (n.log2 + 1) := Nat.lt_log2_self
  generalize n.log2 = k at *
  obtain ⟨K, hK⟩ : ∃ K, K = n * 2 ^ (52 - k) := ⟨_, rfl⟩
  have b1 : BN ≤ K := by
    rw [hB, hK, show (52 : Nat) = k + (52 - k) by omega, Nat.pow_add, show k + (52 - k) - k = 52 - k by omega]
    exact Nat.mul_le_mul_right _ a1
  have b2 : K < 2 * BN := by
    have : 2 * BN = 2 ^ (k + 1) * 2 ^ (52 - k) := by rw [← Nat.pow_add, hB, show k + 1 + (52 - k) = 52 + 1 by omega, Nat.pow_succ, Nat.mul_comm]
    rw [this, hK]
    exact Nat.mul_lt_mul_of_pos_right a2 (Nat.two_pow_pos _)
  have hbn : BN = 4503599627370496 := rfl
  refine ⟨(k + e - 52) * BN + K, by omega, ?_, ?_⟩
  · unfold INF
    have : (k + e - 52) * BN ≤ 2038 * BN := Nat.mul_le_mul_right _ (by omega)
    omega
  · have c1 : ((k + e - 52) * BN + K) / BN = k + e - 52 + 1 := by
      rw [Nat.mul_comm, Nat.mul_add_div (by omega)]
      have : K / BN = 1 := by
        have := Nat.div_eq_of_lt_le (m := K) (n := BN) (k := 1) (by omega) (by omega)
        exact this
      omega
    have c2 : ((k + e - 52) * BN + K) % BN = K - BN := by
      rw [Nat.mul_comm, Nat.mul_add_mod, Nat.mod_eq_sub_mod b1, Nat.mod_eq_of_lt (by omega)]
    unfold magR
    rw [if_neg (by have : BN ≤ (k + e - 52) * BN + K := by omega
                   omega), c1, c2]
    have : BN + (K - BN) = K := by omega
    rw [this, hK, Nat.mul_assoc, ← Nat.pow_add, show 52 - k + (k + e - 52 + 1 - 1) = e by omega]
theorem int_near (n : Nat) (hn : 0 < n) (h1 : n < 2 ^ 53) : ∃ r, 0 < r ∧ r < INF ∧ magR BN r = n * U74 ∧ FloatKind.f64.nearest (n : Int) = r := by
  have hl : n.log2 ≤ 52 := by
    have : n.log2 < 53 := (Nat.log2_lt (by omega)).2 h1
    omega
  obtain ⟨r, r1, r2, r3⟩ := rep n E74 hn h1 (by have := E74_eq; omega) (by have := E74_eq; omega)
  refine ⟨r, r1, r2, r3, ?_⟩
  have h := nearest_exact false n E74 0 r r1 r2 (by rw [r3]; exact (Nat.mul_one _).symm)
  have e1 : FloatKind.f64.nearest (n : Int) = double.nearest false n 0 := by
    show double.nearest (decide ((n : Int) < 0)) (n : Int).natAbs 0 = _
    rw [decide_eq_false (by omega), Int.natAbs_natCast]
  rw [e1]
  have e2 : -1074 + ((E74 : Nat) : Int) - ((0 : Nat) : Int) = 0 := by have := E74_eq; omega
  rw [e2] at h
  rw [h]
  rfl
theorem near_zero : FloatKind.f64.nearest 0 = 0 := by decide +kernel
/-- A word without a sign. -/
theorem rung_pos {r : Nat} (h : r < INF) : rung r = r ∧ negB r = false := by
  unfold rung negB INF at *
  have h1 : r % 9223372036854775808 = r := Nat.mod_eq_of_lt (by omega)
  have h2 : r / 9223372036854775808 = 0 := Nat.div_eq_of_lt (by omega)
  exact ⟨h1, by rw [h2]; rfl⟩
theorem word_pos (n : Nat) : double.word (false ^^ false) n = n := by unfold Format.word; simp
theorem div_pos {x y : Nat} (hx : x < INF) (hx0 : 0 < x) (hy : y < INF) (hy0 : 0 < y) : double.div x y = some (min (RN (magR BN x * U74) (magR BN y)) INF) := by
  obtain ⟨a1, a2⟩ := rung_pos hx
  obtain ⟨b1, b2⟩ := rung_pos hy
  rw [div_RN (by rw [a1]; exact hx) (by rw [a1]; exact hx0) (by rw [b1]; exact hy) (by rw [b1]; exact hy0), a1, b1, a2, b2, word_pos]
/-- The quotient of two whole numbers. -/
theorem div_int {n m : Nat} (hn : 0 < n) (h1 : n < 2 ^ 53) (hm : 0 < m) (h2 : m < 2 ^ 53) : FloatKind.f64.format.div (FloatKind.f64.nearest (n : Int)) (FloatKind.f64.nearest (m : Int)) = some (min (RN (n * U74) m) INF) := by
  obtain ⟨r, r1, r2, r3, r4⟩ := int_near n hn h1
  obtain ⟨q, q1, q2, q3, q4⟩ := int_near m hm h2
  have h := div_pos r2 r1 q2 q1
  rw [r3, q3] at h
  have e := RN_scale (n * U74) m U74 U74_pos
  rw [e] at h
  rw [r4, q4]
  exact h
theorem div_one {n : Nat} (h1 : n < 2 ^ 53) : FloatKind.f64.format.div (FloatKind.f64.nearest (n : Int)) (FloatKind.f64.nearest (1 : Int)) = some (FloatKind.f64.nearest (n : Int)) := by
  rcases Nat.eq_zero_or_pos n with h | h
  · subst h; decide +kernel
  · obtain ⟨r, r1, r2, r3, r4⟩ := int_near n h h1
    have := div_int h h1 (m := 1) (by decide) (by decide)
    rw [show ((1 : Nat) : Int) = 1 from rfl] at this
    rw [this, r4, RN_self r (n * U74) 1 r1 (by decide) (by rw [r3, Nat.mul_one]), Nat.min_eq_left (by omega)]
theorem div_zero {m : Nat} (hm : 0 < m) (h2 : m < 2 ^ 53) : FloatKind.f64.format.div (FloatKind.f64.nearest (0 : Int)) (FloatKind.f64.nearest (m : Int)) = some 0 := by
  obtain ⟨q, q1, q2, q3, q4⟩ := int_near m hm h2
  rw [q4, near_zero]
  obtain ⟨b1, b2⟩ := rung_pos q2
  obtain ⟨n, p, ey, vy, my, ly⟩ := read_num (x := q) (by rw [b1]; exact q2)
  have hn := my (by rw [b1]; exact q1)
  show double.div 0 q = _
  unfold Format.div
  have e0 : double.read 0 = .number false 0 (-1074) := by decide +kernel
  rw [e0, ey, b2]
  simp only [Datum.quotient]
  rw [if_neg (by omega)]
  simp only [Option.map_some, Format.write, Nat.zero_shiftLeft, Nat.zero_div, Nat.zero_mod]
  rfl
end Go.Pi

