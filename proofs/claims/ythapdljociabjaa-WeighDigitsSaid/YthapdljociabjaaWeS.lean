import Derived.Test.YthapdljociabjaaWeD
import Derived.Test.YthapdljociabjaaWeB
import Derived.Laws.BitsLemmas
/-
  TEXTS OF NUMBERS, in plain words: two ways of reading one come to the same.
-/
set_option linter.all false
namespace Go.Pi
/-- Behind the point. -/
def phB : List UInt8 → Nat → Nat → Option (Nat × Nat)
  | [], N, K => some (N, K)
  | c :: r, N, K => if isDig c = true ∧ K < 15 then phB r (N * 10 + (c.toNat - 48)) (K + 1) else none
/-- Ahead of it. -/
def phA : List UInt8 → Nat → Nat → Nat → Option (Nat × Nat × Int)
  | [], _, N, K => some (N, K, -1)
  | c :: r, i, N, K => if c = 46 ∧ 0 < i then (phB r N K).map fun x => (x.1, x.2, (i : Int)) else if isDig c = true ∧ K < 15 then phA r (i + 1) (N * 10 + (c.toNat - 48)) (K + 1) else none
theorem dig46 : isDig 46 = false := by decide
theorem isDig_iff {c : UInt8} : isDig c = true ↔ (48 ≤ c.toNat ∧ c.toNat ≤ 57) := by simp [isDig]
theorem digF_len : ∀ {r : List UInt8} {N K n k : Nat} {q : List UInt8}, digF r N K = some (n, k, q) → k + q.length = K + r.length ∧ (K ≤ 15 → k ≤ 15) ∧ 1 ≤ k ∧ (N < 10 ^ K → n < 10 ^ k) ∧ K ≤ k
  | [], N, K, n, k, q, h => by
    simp only [digF] at h
    split at h
    · cases h
    · injection h with h; injection h with e1 h; injection h with e2 e3
      subst e1; subst e2; subst e3
      exact ⟨rfl, fun h => h, by omega, fun h => h, Nat.le_refl _⟩
  | c :: r, N, K, n, k, q, h => by
    simp only [digF] at h
    split at h
    · rename_i hc
      split at h
      · cases h
      · obtain ⟨h1, h2, h3, h4, h5⟩ := digF_len h
        have hd := isDig_iff.1 hc
        refine ⟨by simp; omega, fun _ => h2 (by omega), h3, fun hN => h4 (by rw [Nat.pow_succ]; omega), by omega⟩
    · split at h
      · cases h
      · injection h with h; injection h with e1 h; injection h with e2 e3
        subst e1; subst e2; subst e3
        exact ⟨rfl, fun h => h, by omega, fun h => h, Nat.le_refl _⟩
/-- Digits alone, counted on from another number. -/
theorem phB_digF : ∀ (r : List UInt8) (K a j n : Nat), j ≤ K → K ≤ 15 → r ≠ [] ∨ 0 < j → phB r (a * 10 ^ j + n) K = match digF r n j with
    | some (m, l, []) => if K + (l - j) ≤ 15 then some (a * 10 ^ l + m, K + (l - j)) else none
    | _ => none
  | [], K, a, j, n, hj, hK, h => by
    rcases h with h | h
    · exact absurd rfl h
    · simp only [phB, digF]
      rw [if_neg (by omega)]
      simp only [Nat.sub_self, Nat.add_zero]
      rw [if_pos hK]
  | c :: r, K, a, j, n, hj, hK, _ => by
    simp only [phB, digF]
    by_cases hc : isDig c = true
    · rw [if_pos hc]
      by_cases hk : K < 15
      · rw [if_pos ⟨hc, hk⟩, if_neg (by omega)]
        have e : (a * 10 ^ j + n) * 10 + (c.toNat - 48) = a * 10 ^ (j + 1) + (n * 10 + (c.toNat - 48)) := by
          rw [Nat.pow_succ, Nat.add_mul, Nat.mul_assoc]; omega
        rw [e, phB_digF r (K + 1) a (j + 1) (n * 10 + (c.toNat - 48)) (by omega) (by omega) (.inr (by omega))]
        cases hq : digF r (n * 10 + (c.toNat - 48)) (j + 1) with
        | none => rfl
        | some x =>
          obtain ⟨m, l, q⟩ := x
          cases q with
          | cons _ _ => rfl
          | nil =>
            have hl := (digF_len hq).1
            simp at hl
            have e2 : K + 1 + (l - (j + 1)) = K + (l - j) := by omega
            simp only [e2]
      · rw [if_neg (fun h => hk h.2)]
        by_cases hj2 : 15 < j + 1
        · rw [if_pos hj2]
        · rw [if_neg hj2]
          cases hq : digF r (n * 10 + (c.toNat - 48)) (j + 1) with
          | none => rfl
          | some x =>
            obtain ⟨m, l, q⟩ := x
            cases q with
            | cons _ _ => rfl
            | nil =>
              have hl := (digF_len hq).1
              simp at hl
              simp only []
              rw [if_neg (by omega)]
    · rw [if_neg hc, if_neg (fun h => hc h.1)]
      by_cases hj2 : j = 0
      · rw [if_pos hj2]
      · rw [if_neg hj2]
theorem phB_eq (r : List UInt8) (N K : Nat) (hK : K ≤ 15) (hr : r ≠ []) : phB r N K = match digF r 0 0 with
    | some (m, l, []) => if K + l ≤ 15 then some (N * 10 ^ l + m, K + l) else none
    | _ => none := by
  have := phB_digF r K N 0 0 (by omega) hK (.inl hr)
  simpa using this
/-- All of it, against digF: none where a digit ought to stand first is for the end to tell. -/
theorem phA_digF : ∀ (r : List UInt8) (i N K : Nat), K ≤ 15 → (K = 0 ↔ i = 0) → phA r i N K = (match digF r N K with
    | none => if K = 0 ∧ r = [] then some (N, 0, -1) else none
    | some (n, k, []) => some (n, k, -1)
    | some (n, k, c :: q) => if c = 46 then (phB q n k).map fun x => (x.1, x.2, ((i + (k - K) : Nat) : Int)) else none)
  | [], i, N, K, hK, hi => by
    simp only [phA, digF]
    by_cases h : K = 0
    · subst h; rw [if_pos rfl]; simp
    · rw [if_neg h]
  | c :: r, i, N, K, hK, hi => by
    simp only [phA, digF]
    by_cases hc : isDig c = true
    · have h46 : ¬ (c = 46 ∧ 0 < i) := fun h => by rw [h.1, dig46] at hc; cases hc
      rw [if_neg h46, if_pos hc]
      by_cases hk : K < 15
      · rw [if_pos ⟨hc, hk⟩, if_neg (by omega), phA_digF r (i + 1) _ (K + 1) (by omega) (by omega)]
        cases hq : digF r (N * 10 + (c.toNat - 48)) (K + 1) with
        | none => simp
        | some x =>
          obtain ⟨n, k, q⟩ := x
          cases q with
          | nil => rfl
          | cons d q =>
            have hl := (digF_len hq).2.2.2.2
            have e : i + 1 + (k - (K + 1)) = i + (k - K) := by omega
            simp only [e]
      · rw [if_neg (fun h => hk h.2), if_pos (by omega)]
        simp
    · rw [if_neg hc]
      by_cases h0 : K = 0
      · have hi0 : i = 0 := hi.1 h0
        rw [if_pos h0, if_neg (by omega), if_neg (fun h => hc h.1)]
        simp
      · have hi0 : ¬ i = 0 := fun h => h0 (hi.2 h)
        rw [if_neg h0]
        simp only [Nat.sub_self, Nat.add_zero]
        by_cases h46 : c = 46
        · rw [if_pos ⟨h46, by omega⟩, if_pos h46]
        · rw [if_neg (fun h => h46 h.1), if_neg h46, if_neg (fun h => hc h.1)]
end Go.Pi

