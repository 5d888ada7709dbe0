import Derived.Test.YtnpljffnopmaiaaJM
/-
  FLOAT64, BY WHOLE NUMBERS: how two stand is how their signed rungs stand.
-/
set_option linter.all false
namespace Go.Pi
open Ieee

/-- The magnitude of a rung, in units of the least place. -/
def magR (B r : Nat) : Nat := if r < B then r else (B + r % B) * 2 ^ (r / B - 1)
theorem magR_succ (B r : Nat) (hB : 0 < B) : magR B r < magR B (r + 1) := by
  unfold magR
  by_cases h : r + 1 < B
  · rw [if_pos (by omega), if_pos h]; omega
  · rw [if_neg h]
    by_cases h1 : r < B
    · rw [if_pos h1]
      have e : r + 1 = B := by omega
      rw [e]
      simp [Nat.div_self hB]
      omega
    · rw [if_neg h1]
      have hd : 1 ≤ r / B := (Nat.one_le_div_iff hB).2 (by omega)
      have hm : r % B < B := Nat.mod_lt _ hB
      by_cases h2 : r % B + 1 < B
      · have e1 : (r + 1) / B = r / B := by
          rw [Nat.succ_div]
          have : ¬ B ∣ r + 1 := by
            intro hd
            have := Nat.mod_eq_zero_of_dvd hd
            rw [Nat.add_mod, Nat.mod_eq_of_lt (show 1 < B by omega), Nat.mod_eq_of_lt h2] at this
            omega
          rw [if_neg this]; rfl
        have e2 : (r + 1) % B = r % B + 1 := by
          rw [Nat.add_mod, Nat.mod_eq_of_lt (show 1 < B by omega), Nat.mod_eq_of_lt h2]
        rw [e1, e2]
        exact Nat.mul_lt_mul_of_pos_right (by omega) (Nat.two_pow_pos _)
      · have h3 : r % B + 1 = B := by omega
        have hdv : B ∣ r + 1 := by
          refine Nat.dvd_of_mod_eq_zero ?_
          have := Nat.div_add_mod r B
          rw [show r + 1 = B * (r / B) + (r % B + 1) by omega, h3]
          simp
        have e1 : (r + 1) / B = r / B + 1 := by rw [Nat.succ_div, if_pos hdv]
        have e2 : (r + 1) % B = 0 := Nat.mod_eq_zero_of_dvd hdv
        rw [e1, e2]
        have e3 : 2 ^ (r / B + 1 - 1) = 2 ^ (r / B - 1) * 2 := by
          rw [← Nat.pow_succ]; congr 1; omega
        rw [e3]
        have hp : 0 < 2 ^ (r / B - 1) := Nat.two_pow_pos _
        have : (B + r % B) * 2 ^ (r / B - 1) < (B * 2) * 2 ^ (r / B - 1) := Nat.mul_lt_mul_of_pos_right (by omega) hp
        calc (B + r % B) * 2 ^ (r / B - 1) < (B * 2) * 2 ^ (r / B - 1) := this
          _ = (B + 0) * (2 ^ (r / B - 1) * 2) := by simp [Nat.mul_comm, Nat.mul_left_comm, Nat.mul_assoc]
theorem magR_lt (B : Nat) (hB : 0 < B) {r q : Nat} (h : r < q) : magR B r < magR B q := by
  induction q with
  | zero => omega
  | succ q ih =>
    rcases Nat.lt_or_ge r q with k | k
    · exact Nat.lt_trans (ih k) (magR_succ B q hB)
    · obtain rfl : r = q := by omega
      exact magR_succ B r hB
/-- A number with its sign. -/
def sgI (neg : Bool) (n : Nat) : Int := if neg then -(n : Int) else n
theorem cmp_sg (B : Nat) (hB : 0 < B) (s t : Bool) (r q : Nat) : compare (sgI s (magR B r)) (sgI t (magR B q)) = compare (sgI s r) (sgI t q) := by
  have h0 : magR B 0 = 0 := by unfold magR; rw [if_pos hB]
  have hz : ∀ x, 0 < x → 0 < magR B x := fun x hx => by have := magR_lt B hB hx; omega
  have key : ∀ x y, (magR B x < magR B y ↔ x < y) := fun x y => by
    refine ⟨fun h => ?_, magR_lt B hB⟩
    rcases Nat.lt_trichotomy x y with k | k | k
    · exact k
    · subst k; omega
    · have := magR_lt B hB k; omega
  have k1 := key r q
  have k2 := key q r
  have k3 := key 0 r
  have k4 := key 0 q
  rw [h0] at k3 k4
  have hlt : (sgI s (magR B r) < sgI t (magR B q)) ↔ (sgI s r < sgI t q) := by
    cases s <;> cases t <;> simp only [sgI, if_true, if_false, Bool.false_eq_true] <;> omega
  have hgt : (sgI t (magR B q) < sgI s (magR B r)) ↔ (sgI t q < sgI s r) := by
    cases s <;> cases t <;> simp only [sgI, if_true, if_false, Bool.false_eq_true] <;> omega
  rcases Int.lt_trichotomy (sgI s r) (sgI t q) with h | h | h
  · rw [Int.compare_eq_lt.2 (hlt.2 h), Int.compare_eq_lt.2 h]
  · have e : sgI s (magR B r) = sgI t (magR B q) := by omega
    rw [Int.compare_eq_eq.2 e, Int.compare_eq_eq.2 h]
  · rw [Int.compare_eq_gt.2 (hgt.2 h), Int.compare_eq_gt.2 h]
end Go.Pi
namespace Go.Pi
open Ieee
def INF : Nat := 9218868437227405312
def rung (b : Nat) : Nat := b % 9223372036854775808
def negB (b : Nat) : Bool := b / 9223372036854775808 % 2 == 1
/-- Its sign and rung, as one whole number. -/
def sgB (b : Nat) : Int := sgI (negB b) (rung b)
def isNum (b : Nat) : Prop := rung b ≤ INF
/-- A datum's place among all numbers. -/
inductive DatAt : Datum → Int → Prop where
  | num (s : Bool) (m : Nat) (p : Nat) : DatAt (.number s m (-1074 + (p : Int))) (sgI s (m * 2 ^ p))
theorem f64_sgn : double.signWeight = 9223372036854775808 := by decide +kernel
theorem f64_bn : double.binade = 4503599627370496 := by decide +kernel
theorem f64_infr : double.infRung = INF := by decide +kernel
theorem f64_least : double.leastPlace = -1074 := by decide +kernel
theorem read_cases (b : Nat) : (INF < rung b ∧ ∃ t, double.read b = .nan (negB b) t) ∨ (rung b = INF ∧ double.read b = .infinity (negB b)) ∨
    (rung b < INF ∧ ∃ m p, double.read b = .number (negB b) m (-1074 + (p : Nat)) ∧ m * 2 ^ p = magR 4503599627370496 (rung b)) := by
  unfold Format.read
  simp only [f64_sgn, f64_bn, f64_infr, f64_least]
  show (INF < rung b ∧ _) ∨ _
  have e : b % 9223372036854775808 = rung b := rfl
  have e2 : (b / 9223372036854775808 % 2 == 1) = negB b := rfl
  rw [e, e2]
  by_cases h1 : rung b < 4503599627370496
  · refine .inr (.inr ⟨by unfold INF; omega, rung b, 0, by rw [if_pos h1]; simp, ?_⟩)
    unfold magR
    rw [if_pos h1]; simp
  · by_cases h2 : rung b < INF
    · refine .inr (.inr ⟨h2, 4503599627370496 + rung b % 4503599627370496, rung b / 4503599627370496 - 1, by rw [if_neg h1, if_pos h2], ?_⟩)
      unfold magR
      rw [if_neg h1]
    · by_cases h3 : rung b = INF
      · exact .inr (.inl ⟨h3, by rw [if_neg h1, if_neg h2, if_pos h3]⟩)
      · exact .inl ⟨by omega, rung b - INF, by rw [if_neg h1, if_neg h2, if_neg h3]⟩
theorem signed_sg (s : Bool) (m p : Nat) : signed s m p = sgI s (m * 2 ^ p) := by
  unfold signed sgI
  rw [Nat.shiftLeft_eq]
theorem cmp_scale (a b : Int) (k : Nat) (hk : 0 < k) : compare (a * k) (b * k) = compare a b := by
  have hk' : (0 : Int) < k := by omega
  rcases Int.lt_trichotomy a b with h | h | h
  · rw [Int.compare_eq_lt.2 h, Int.compare_eq_lt.2 (Int.mul_lt_mul_of_pos_right h hk')]
  · subst h; rw [Int.compare_eq_eq.2 rfl, Int.compare_eq_eq.2 rfl]
  · rw [Int.compare_eq_gt.2 h, Int.compare_eq_gt.2 (Int.mul_lt_mul_of_pos_right h hk')]
theorem sgI_mul (s : Bool) (m k : Nat) : sgI s m * k = sgI s (m * k) := by
  cases s <;> simp [sgI, Int.neg_mul]
theorem order_num (s t : Bool) (m n p q : Nat) : (Datum.number s m (-1074 + (p : Int))).order (.number t n (-1074 + (q : Int))) = some (compare (sgI s (m * 2 ^ p)) (sgI t (n * 2 ^ q))) := by
  simp only [Datum.order, signed_sg]
  congr 1
  obtain ⟨d, hd⟩ : ∃ d : Nat, (d : Int) = min (p : Int) q := ⟨min p q, by omega⟩
  have hmin : min (-1074 + (p : Int)) (-1074 + q) = -1074 + d := by omega
  rw [hmin]
  have hp : ((-1074 + (p : Int)) - (-1074 + d)).toNat = p - d := by omega
  have hq : ((-1074 + (q : Int)) - (-1074 + d)).toNat = q - d := by omega
  rw [hp, hq, ← cmp_scale _ _ (2 ^ d) (Nat.two_pow_pos _), sgI_mul, sgI_mul, Nat.mul_assoc, Nat.mul_assoc, ← Nat.pow_add, ← Nat.pow_add, Nat.sub_add_cancel (by omega), Nat.sub_add_cancel (by omega)]
theorem cmp_lt {a b : Int} (h : a < b) : compare a b = .lt := Int.compare_eq_lt.2 h
theorem cmp_gt {a b : Int} (h : b < a) : compare a b = .gt := Int.compare_eq_gt.2 h
/-- HOW TWO NUMBERS STAND. -/
theorem f64_order {a b : Nat} (ha : isNum a) (hb : isNum b) : double.order a b = some (compare (sgB a) (sgB b)) := by
  unfold Format.order isNum at *
  unfold sgB
  rcases read_cases a with ⟨h, _⟩ | ⟨h, e⟩ | ⟨h, m, p, e, hm⟩
  · omega
  · rcases read_cases b with ⟨k, _⟩ | ⟨k, f⟩ | ⟨k, n, q, f, hn⟩
    · omega
    · rw [e, f, h, k]
      simp only [Datum.order]
      cases negB a <;> cases negB b <;> decide
    · rw [e, f, h]
      simp only [Datum.order]
      congr 1
      cases negB a <;> cases negB b <;> simp only [sgI, if_true, if_false, Bool.false_eq_true]
      · exact (cmp_gt (by omega)).symm
      · exact (cmp_gt (by omega)).symm
      · exact (cmp_lt (by omega)).symm
      · exact (cmp_lt (by omega)).symm
  · rcases read_cases b with ⟨k, _⟩ | ⟨k, f⟩ | ⟨k, n, q, f, hn⟩
    · omega
    · rw [e, f, k]
      simp only [Datum.order]
      congr 1
      cases negB a <;> cases negB b <;> simp only [sgI, if_true, if_false, Bool.false_eq_true]
      · exact (cmp_lt (by omega)).symm
      · exact (cmp_gt (by omega)).symm
      · exact (cmp_lt (by omega)).symm
      · exact (cmp_gt (by omega)).symm
    · rw [e, f, order_num, hm, hn, cmp_sg _ (by decide)]
theorem f64_order_nan {a b : Nat} (h : ¬ isNum a ∨ ¬ isNum b) : double.order a b = none := by
  unfold Format.order isNum at *
  rcases h with h | h
  · rcases read_cases a with ⟨_, t, e⟩ | ⟨k, _⟩ | ⟨k, _⟩
    · rw [e]; cases double.read b <;> rfl
    · omega
    · omega
  · rcases read_cases b with ⟨_, t, e⟩ | ⟨k, _⟩ | ⟨k, _⟩
    · rw [e]; cases double.read a <;> rfl
    · omega
    · omega
instance (b : Nat) : Decidable (isNum b) := by unfold isNum; infer_instance
/-- Whether it is none. -/
theorem ne_self (a : Nat) : (fOrd (some a) (some a) != some .eq) = !decide (isNum a) := by
  show (double.order a a != some .eq) = _
  by_cases h : isNum a
  · rw [f64_order h h, Int.compare_eq_eq.2 rfl]; simp [h]
  · rw [f64_order_nan (.inl h)]; simp [h]
theorem fOrd_num {a b : Nat} (ha : isNum a) (hb : isNum b) : fOrd (some a) (some b) = some (compare (sgB a) (sgB b)) := f64_order ha hb
end Go.Pi

