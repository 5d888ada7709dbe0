import Derived.Test.YthapdljociabjaaWeRr
import Derived.Test.YthapdljociabjaaWeS
import Derived.Laws.FloatBits
/-
  WeighParses, in plain words: the two ways of reading a text give one number.
-/
set_option linter.all false
namespace Go.Pi
theorem w64p {n : Int} (h0 : -9223372036854775808 ≤ n) (h1 : n < 9223372036854775808) : IntKind.i64.wrap n = n := by
  rw [IntKind.wrap_i64]; omega
theorem at_drop {s r : List UInt8} {i : Nat} {c : UInt8} (h : s.drop i = c :: r) : at? s (i : Int) = some c ∧ s.drop (i + 1) = r ∧ i < s.length := by
  have hl : i < s.length := by
    rcases Nat.lt_or_ge i s.length with k | k
    · exact k
    · rw [List.drop_of_length_le k] at h; cases h
  rw [List.drop_eq_getElem_cons hl] at h
  injection h with h1 h2
  refine ⟨?_, h2, hl⟩
  unfold at?
  rw [if_pos (by omega)]
  simp only [Int.toNat_natCast]
  rw [List.getElem?_eq_getElem hl, h1]
theorem drop_nil {s : List UInt8} {i : Nat} (h : s.drop i = []) : s.length ≤ i := by simpa using h
/-- One digit more. -/
theorem dig_step {N K : Nat} {c : UInt8} (hc : isDig c = true) (hK : K < 15) (hN : N < 10 ^ K) :
    IntKind.i64.wrap (IntKind.i64.wrap ((N : Int) * 10) + IntKind.i64.wrap (IntKind.u8.wrap (((c.toNat : Nat) : Int) - 48))) = ((N * 10 + (c.toNat - 48) : Nat) : Int) ∧ IntKind.i64.wrap ((K : Int) + 1) = ((K + 1 : Nat) : Int) ∧ N * 10 + (c.toNat - 48) < 10 ^ (K + 1) := by
  have hd := isDig_iff.1 hc
  have hp : 10 ^ (K + 1) ≤ 10 ^ 15 := Nat.pow_le_pow_right (by decide) (by omega)
  have hlt : N * 10 + (c.toNat - 48) < 10 ^ (K + 1) := by rw [Nat.pow_succ]; omega
  have h15 : (10 : Nat) ^ 15 = 1000000000000000 := by decide
  refine ⟨?_, by rw [w64p (by omega) (by omega)]; omega, hlt⟩
  have e1 : IntKind.u8.wrap (((c.toNat : Nat) : Int) - 48) = ((c.toNat : Nat) : Int) - 48 := by rw [IntKind.wrap_u8]; omega
  rw [e1, w64p (n := (N : Int) * 10) (by omega) (by omega), w64p (n := ((c.toNat : Nat) : Int) - 48) (by omega) (by omega), w64p (by omega) (by omega)]
  omega
theorem l2_B (s : List UInt8) (y : Bool) (p : Nat) (hs : s.length < 4611686018427387904) : ∀ (r : List UInt8) (f i N K : Nat), s.drop i = r → r.length < f → N < 10 ^ K → eyotref1_Parse_l2 s y f N K p i = match phB r N K with
    | some (n, k) => some (.inl ((n : Int), (k : Int), (p : Int)))
    | none => some (.inr ())
  | [], f + 1, i, N, K, hr, hf, hN => by
    have := drop_nil hr
    rw [eyotref1_Parse_l2, decide_neg (by omega)]
    rfl
  | c :: r, f + 1, i, N, K, hr, hf, hN => by
    obtain ⟨h1, h2, h3⟩ := at_drop hr
    rw [eyotref1_Parse_l2, decide_pos (by omega), cond_true, h1]
    have hi : IntKind.i64.wrap ((i : Int) + 1) = ((i + 1 : Nat) : Int) := by rw [w64p (by omega) (by omega)]; omega
    have hp : decide ((p : Int) < 0) = false := decide_neg (by omega)
    simp only [Option.bind_some, hp, cond_false, hi]
    have hy : (cond ((((c.toNat : Nat) : Int)) == 46) (some false) (some false)) = some false := by cases ((((c.toNat : Nat) : Int)) == 46) <;> rfl
    rw [hy]
    simp only [Option.bind_some, cond_false]
    simp only [phB]
    by_cases hc : isDig c = true
    · have hd := isDig_iff.1 hc
      rw [decide_pos (by omega), decide_pos (by omega), cond_true, cond_true]
      by_cases hK : K < 15
      · obtain ⟨g1, g2, g3⟩ := dig_step hc hK hN
        rw [decide_pos (by omega)]
        simp only [Option.bind_some, cond_true, g1, g2]
        rw [l2_B s y p hs r f (i + 1) _ (K + 1) h2 (by simp at hf; omega) g3, if_pos ⟨hc, hK⟩]
      · rw [decide_neg (by omega), if_neg (fun h => hK h.2)]
        rfl
    · rw [if_neg (fun h => hc h.1)]
      have hd : c.toNat < 48 ∨ 57 < c.toNat := by
        rcases Nat.lt_or_ge c.toNat 48 with k | k
        · exact .inl k
        · rcases Nat.lt_or_ge 57 c.toNat with k2 | k2
          · exact .inr k2
          · exact absurd (isDig_iff.2 ⟨k, k2⟩) hc
      rcases hd with hd | hd
      · rw [decide_neg (by omega)]; rfl
      · rw [decide_pos (by omega), decide_neg (by omega)]; rfl
theorem l2_A (s : List UInt8) (y : Bool) (hs : s.length < 4611686018427387904) : ∀ (r : List UInt8) (f i N K : Nat), s.drop i = r → r.length < f → N < 10 ^ K → eyotref1_Parse_l2 s y f N K (-1) i = match phA r i N K with
    | some (n, k, p) => some (.inl ((n : Int), (k : Int), p))
    | none => some (.inr ())
  | [], f + 1, i, N, K, hr, hf, hN => by
    have := drop_nil hr
    rw [eyotref1_Parse_l2, decide_neg (by omega)]
    rfl
  | c :: r, f + 1, i, N, K, hr, hf, hN => by
    obtain ⟨h1, h2, h3⟩ := at_drop hr
    rw [eyotref1_Parse_l2, decide_pos (by omega), cond_true, h1]
    have hi : IntKind.i64.wrap ((i : Int) + 1) = ((i + 1 : Nat) : Int) := by rw [w64p (by omega) (by omega)]; omega
    have hp : decide ((-1 : Int) < 0) = true := rfl
    simp only [Option.bind_some, hp, cond_true, hi]
    simp only [phA]
    by_cases h46 : c = 46 ∧ 0 < i
    · rw [if_pos h46]
      obtain ⟨rfl, hi0⟩ := h46
      rw [show ((((46 : UInt8).toNat : Nat) : Int) == 46) = true from rfl, cond_true, decide_pos (by omega)]
      simp only [Option.bind_some, cond_true]
      rw [l2_B s y i hs r f (i + 1) N K h2 (by simp at hf; omega) hN]
      cases phB r N K with
      | none => rfl
      | some x => rfl
    · rw [if_neg h46]
      have hy : (cond ((((c.toNat : Nat) : Int)) == 46) (some (decide ((i : Int) > 0))) (some false)) = some false := by
        by_cases hc : c = 46
        · subst hc
          have : ¬ 0 < i := fun h => h46 ⟨rfl, h⟩
          rw [decide_neg (by omega)]; rfl
        · have : ((((c.toNat : Nat) : Int)) == 46) = false := by
            have : c.toNat ≠ 46 := fun e => hc (UInt8.toNat_inj.1 (by rw [e]; rfl))
            simp; omega
          rw [this]; rfl
      rw [hy]
      simp only [Option.bind_some, cond_false]
      by_cases hc : isDig c = true
      · have hd := isDig_iff.1 hc
        rw [decide_pos (by omega), decide_pos (by omega), cond_true, cond_true]
        by_cases hK : K < 15
        · obtain ⟨g1, g2, g3⟩ := dig_step hc hK hN
          rw [decide_pos (by omega)]
          simp only [Option.bind_some, cond_true, g1, g2]
          rw [l2_A s y hs r f (i + 1) _ (K + 1) h2 (by simp at hf; omega) g3, if_pos ⟨hc, hK⟩]
        · rw [decide_neg (by omega), if_neg (fun h => hK h.2)]
          rfl
      · rw [if_neg (fun h => hc h.1)]
        have hd : c.toNat < 48 ∨ 57 < c.toNat := by
          rcases Nat.lt_or_ge c.toNat 48 with k | k
          · exact .inl k
          · rcases Nat.lt_or_ge 57 c.toNat with k2 | k2
            · exact .inr k2
            · exact absurd (isDig_iff.2 ⟨k, k2⟩) hc
        rcases hd with hd | hd
        · rw [decide_neg (by omega)]; rfl
        · rw [decide_pos (by omega), decide_neg (by omega)]; rfl
def withS (s : List UInt8) : ((Int × Int × Int) ⊕ Unit) → ((List UInt8 × Int × Int × Int) ⊕ Unit)
  | .inl x => .inl (s, x.1, x.2.1, x.2.2)
  | .inr _ => .inr ()
theorem l0_l2 (s : List UInt8) (y : Bool) : ∀ (f : Nat) (N K p i : Int), eyotref1_Parse_l0 y f s N K p i = (eyotref1_Parse_l2 s y f N K p i).map (withS s)
  | 0, _, _, _, _ => rfl
  | f + 1, N, K, p, i => by
    rw [eyotref1_Parse_l0, eyotref1_Parse_l2]
    cases decide (i < (s.length : Int)) with
    | false => rfl
    | true =>
      simp only [cond_true]
      generalize ((at? s i).bind fun w107 => cond (((w107.toNat : Nat) : Int) == (46 : Int)) (cond (decide (p < (0 : Int))) (some (decide (i > (0 : Int)))) (some false)) (some false)) = A
      cases A with
      | none => rfl
      | some b =>
        simp only [Option.bind_some]
        cases b with
        | true =>
          simp only [cond_true, Option.bind_some]
          exact l0_l2 s y f N K i _
        | false =>
          simp only [cond_false]
          generalize ((at? s i).bind fun w115 => cond (decide (((w115.toNat : Nat) : Int) ≥ (48 : Int))) ((at? s i).bind fun w118 => cond (decide (((w118.toNat : Nat) : Int) ≤ (57 : Int))) (some (decide (K < (15 : Int)))) (some false)) (some false)) = C
          cases C with
          | none => rfl
          | some b =>
            simp only [Option.bind_some]
            cases b with
            | true =>
              simp only [cond_true]
              cases at? s i with
              | none => rfl
              | some w => exact l0_l2 s y f _ _ p _
            | false => rfl
end Go.Pi

namespace Go.Pi
theorem ten_step {j : Nat} (h : j < 15) : IntKind.i64.wrap (((10 ^ j : Nat) : Int) * 10) = ((10 ^ (j + 1) : Nat) : Int) := by
  have h1 : 10 ^ (j + 1) ≤ 10 ^ 15 := Nat.pow_le_pow_right (by decide) (by omega)
  have h2 : 10 ^ (j + 1) = 10 ^ j * 10 := Nat.pow_succ ..
  have h15 : (10 : Nat) ^ 15 = 1000000000000000 := by decide
  rw [w64p (by omega) (by omega)]
  omega
theorem l3_ten (s : List UInt8) (y : Bool) (n : Int) (p : Nat) (hs : s.length < 4611686018427387904) : ∀ (t f j i : Nat), s.length - i = t → t < f → j + t ≤ 15 → eyotref1_Parse_l3 s y n p f ((10 ^ j : Nat) : Int) i = some (((10 ^ (j + t) : Nat) : Int))
  | 0, f + 1, j, i, ht, hf, hj => by
    rw [eyotref1_Parse_l3, decide_pos (by omega), cond_true, decide_neg (by omega)]
    rfl
  | t + 1, f + 1, j, i, ht, hf, hj => by
    rw [eyotref1_Parse_l3, decide_pos (by omega), cond_true, decide_pos (by omega)]
    have hi : IntKind.i64.wrap ((i : Int) + 1) = ((i + 1 : Nat) : Int) := by rw [w64p (by omega) (by omega)]; omega
    simp only [Option.bind_some, cond_true, hi, ten_step (show j < 15 by omega)]
    rw [l3_ten s y n p hs t f (j + 1) (i + 1) (by omega) (by omega) (by omega), show j + 1 + t = j + (t + 1) by omega]
theorem l3_one (s : List UInt8) (y : Bool) (n : Int) (f : Nat) (i : Int) : eyotref1_Parse_l3 s y n (-1) (f + 1) 1 i = some 1 := by
  rw [eyotref1_Parse_l3]; rfl
theorem l1_l3 (s : List UInt8) (y : Bool) (n p : Int) : ∀ (f : Nat) (x i : Int), eyotref1_Parse_l1 y s n p f x i = eyotref1_Parse_l3 s y n p f x i
  | 0, _, _ => rfl
  | f + 1, x, i => by
    rw [eyotref1_Parse_l1, eyotref1_Parse_l3]
    generalize (cond (decide (p ≥ (0 : Int))) (some (decide (i < (s.length : Int)))) (some false)) = A
    cases A with
    | none => rfl
    | some b =>
      cases b with
      | true => exact l1_l3 s y n p f _ _
      | false => rfl
/-- What stands behind the loop. -/
def tailF (k : Nat) (y : Bool) (s : List UInt8) (fin : Fl → Option (Fl × Int)) : Option (Fl × Int) :=
  (eyotref1_Parse_l2 s y k 0 0 (-1) 0).bind fun v => match v with
    | Sum.inl (n, d, p) => (cond (d == (0 : Int)) (some true) (cond (p == (IntKind.i64.wrap ((s.length : Int) - (1 : Int)))) (some (decide (p ≥ (0 : Int)))) (some false))).bind fun z => cond z (some ((some 0 : Fl), (2 : Int)))
        ((eyotref1_Parse_l3 s y n p k (1 : Int) (IntKind.i64.wrap (p + (1 : Int)))).bind fun t => fin (fDiv (some (FloatKind.f64.nearest n) : Fl) (some (FloatKind.f64.nearest t) : Fl)))
    | Sum.inr _ => some ((some 0 : Fl), (2 : Int))
theorem tail_eq (k : Nat) (y : Bool) (s : List UInt8) (fin : Fl → Option (Fl × Int)) (hs : s.length ≤ 60) (hk : 70 ≤ k) : tailF k y s fin = match plainF s with
    | none => some (some 0, 2)
    | some x => fin x := by
  unfold tailF
  have h := l2_A s y (by omega) s k 0 0 0 rfl (by omega) (by decide)
  have e := phA_digF s 0 0 0 (by omega) (by omega)
  rw [e] at h
  have h' : eyotref1_Parse_l2 s y k 0 0 (-1) 0 = _ := h
  rw [h']
  clear h h' e
  unfold plainF
  cases hd : digF s 0 0 with
  | none =>
    simp only []
    by_cases hn : s = []
    · subst hn; rfl
    · rw [if_neg (fun h => hn h.2)]
      rfl
  | some x =>
    obtain ⟨n, d, q⟩ := x
    obtain ⟨g1, g2, g3, g4, _⟩ := digF_len hd
    have hd0 : ((d : Int) == 0) = false := by simp; omega
    cases q with
    | nil =>
      simp only []
      rw [Option.bind_some]
      simp only [hd0, cond_false]
      have hp : ((-1 : Int) == IntKind.i64.wrap ((s.length : Int) - 1)) = false := by
        simp at g1
        rw [w64p (by omega) (by omega)]
        simp; omega
      rw [hp]
      simp only [cond_false, Option.bind_some]
      obtain ⟨k', rfl⟩ : ∃ k', k = k' + 1 := ⟨k - 1, by omega⟩
      rw [l3_one]
      simp only [Option.bind_some]
      have hlt : n < 2 ^ 53 := by
        have := g4 (by decide)
        have h10 : 10 ^ d ≤ 10 ^ 15 := Nat.pow_le_pow_right (by decide) (by omega)
        have h15 : (10 : Nat) ^ 15 = 1000000000000000 := by decide
        omega
      have := div_one hlt
      show fin (FloatKind.f64.format.div (FloatKind.f64.nearest (n : Int)) (FloatKind.f64.nearest (1 : Int))) = _
      rw [this]
    | cons c q =>
      simp only []
      by_cases h46 : c = 46
      · rw [if_pos h46, if_pos h46]
        simp at g1
        by_cases hq : q = []
        · subst hq
          have hp : ((((0 + (d - 0) : Nat) : Int)) == IntKind.i64.wrap ((s.length : Int) - 1)) = true := by
            simp at g1
            rw [w64p (by omega) (by omega)]
            simp; omega
          simp only [phB, Option.map_some, Option.bind_some, hd0, cond_false, hp, cond_true]
          rw [decide_pos (by omega)]
          rfl
        · rw [phB_eq q n d (by omega) hq]
          cases hq2 : digF q 0 0 with
          | none => rfl
          | some x =>
            obtain ⟨m, l, r⟩ := x
            obtain ⟨k1, k2, k3, k4, _⟩ := digF_len hq2
            cases r with
            | cons _ _ => simp only []; rw [if_neg (by simp)]; rfl
            | nil =>
              simp only []
              by_cases hl : d + l ≤ 15
              · rw [if_pos hl, if_pos ⟨trivial, hl⟩]
                simp at k1
                have hdl : (((d + l : Nat) : Int) == 0) = false := by simp; omega
                have hp : ((((0 + (d - 0) : Nat) : Int)) == IntKind.i64.wrap ((s.length : Int) - 1)) = false := by
                  rw [w64p (by omega) (by omega)]
                  simp; omega
                simp only [Option.map_some, Option.bind_some, hdl, cond_false, hp]
                have hw : IntKind.i64.wrap ((((0 + (d - 0) : Nat) : Int)) + 1) = ((d + 1 : Nat) : Int) := by rw [w64p (by omega) (by omega)]; omega
                rw [hw]
                have ht := l3_ten s y ((n * 10 ^ l + m : Nat) : Int) (0 + (d - 0)) (by omega) l k 0 (d + 1) (by omega) (by omega) (by omega)
                rw [Nat.zero_add l] at ht
                have ht' : eyotref1_Parse_l3 s y ((n * 10 ^ l + m : Nat) : Int) ((0 + (d - 0) : Nat) : Int) k 1 ((d + 1 : Nat) : Int) = some ((10 ^ l : Nat) : Int) := ht
                rw [ht']
                rfl
              · rw [if_neg hl, if_neg (fun h => hl h.2)]
                rfl
      · rw [if_neg h46, if_neg h46]
        rfl
end Go.Pi
namespace Go.Pi
theorem copysign_eq (k b : Nat) : math_Copysign k (some b) (some 13830554455654793216 : Fl) = some (some (copyNeg b)) := rfl
theorem plain_num {s : List UInt8} (h : plainF s = some none) : False := by
  unfold plainF at h
  cases hd : digF s 0 0 with
  | none => rw [hd] at h; cases h
  | some x =>
    obtain ⟨n, d, q⟩ := x
    rw [hd] at h
    obtain ⟨g1, g2, g3, g4, _⟩ := digF_len hd
    cases q with
    | nil => simp at h
    | cons c q =>
      simp only at h
      split at h
      · cases hq : digF q 0 0 with
        | none => rw [hq] at h; cases h
        | some x =>
          obtain ⟨m, l, r⟩ := x
          rw [hq] at h
          simp only at h
          split at h
          · rename_i hl
            obtain ⟨k1, k2, k3, k4, _⟩ := digF_len hq
            have h10 : 10 ^ (d + l) ≤ 10 ^ 15 := Nat.pow_le_pow_right (by decide) hl.2
            have h15 : (10 : Nat) ^ 15 = 1000000000000000 := by decide
            have hd' := g4 (by decide)
            have hl' := k4 (by decide)
            have hn : n * 10 ^ l + m < 10 ^ (d + l) := by
              rw [Nat.pow_add]
              have : (n + 1) * 10 ^ l ≤ 10 ^ d * 10 ^ l := Nat.mul_le_mul_right _ hd'
              rw [Nat.add_mul] at this
              omega
            have ht : 10 ^ l ≤ 10 ^ (d + l) := Nat.pow_le_pow_right (by decide) (by omega)
            have hp : 0 < 10 ^ l := Nat.pow_pos (by decide)
            rcases Nat.eq_zero_or_pos (n * 10 ^ l + m) with h0 | h0
            · rw [h0] at h
              have := div_zero (m := 10 ^ l) hp (by omega)
              rw [show ((0 : Nat) : Int) = 0 from rfl, this] at h
              cases h
            · rw [div_int h0 (by omega) hp (by omega)] at h
              cases h
          · cases h
      · cases h
/-- What the reference gives for a text, told as the program's contract is. -/
theorem ref_parse (k : Nat) (s : List UInt8) (hs : s.length ≤ 60) (hk : 70 ≤ k) : eyotref1_Parse k s = parseF s := by
  unfold eyotref1_Parse parseF numberF
  by_cases h1 : s = [110, 97, 110]
  · rw [if_pos h1, h1]; rfl
  · rw [if_neg h1, show (s == ([110, 97, 110] : List UInt8)) = false by simpa using h1, cond_false]
    by_cases h2 : s = [105, 110, 102]
    · rw [if_pos h2, h2]; rfl
    · rw [if_neg h2, show (s == ([105, 110, 102] : List UInt8)) = false by simpa using h2, cond_false]
      by_cases h3 : s = [45, 105, 110, 102]
      · rw [if_pos h3, h3]; rfl
      · rw [if_neg h3, show (s == ([45, 105, 110, 102] : List UInt8)) = false by simpa using h3, cond_false]
        have hlast : ∀ (x : Option (Option Nat)), x ≠ some none → (match x with
            | none => some (some 0, 2)
            | some x => (some (x, (0 : Int)) : Option (Fl × Int))) = match x with
            | none => some (some 0, 2)
            | some (some b) => some (some b, 0)
            | some none => none := by
          intro x hx
          cases x with
          | none => rfl
          | some x => cases x with
            | none => exact absurd rfl hx
            | some b => rfl
        cases s with
        | nil => 
          have := tail_eq k false [] (fun x => some (x, 0)) (by decide) hk
          refine Eq.trans (b := tailF k false [] (fun x => some (x, 0))) rfl ?_
          rw [this]
          exact hlast (plainF []) (fun h => plain_num h)
        | cons c t =>
          have hlen : decide (((c :: t).length : Int) > 0) = true := decide_pos (by simp)
          have hat : at? (c :: t) (0 : Int) = some c := rfl
          rw [hlen, cond_true, hat]
          simp only [Option.bind_some]
          by_cases hc : c = 45
          · subst hc
            rw [show ((((45 : UInt8).toNat : Nat) : Int) == 45) = true from rfl]
            simp only [cond_true, if_true]
            have hcut : cutI ((45 : UInt8) :: t).length (some (1 : Int)) none = some (1, t.length + 1) := by
              unfold cutI
              simp only [List.length_cons]
              rw [if_pos (by omega)]
              rfl
            have hsl : sl ((45 : UInt8) :: t) (1, t.length + 1) = t := by
              unfold sl
              simp
            rw [hcut]
            simp only [Option.bind_some, hsl]
            rw [l0_l2]
            have := tail_eq k true t (fun x => (math_Copysign k x (some 13830554455654793216 : Fl)).bind fun r => some (r, (0 : Int))) (by simp at hs; omega) hk
            refine Eq.trans (b := tailF k true t (fun x => (math_Copysign k x (some 13830554455654793216 : Fl)).bind fun r => some (r, (0 : Int)))) ?_ ?_
            · unfold tailF
              generalize eyotref1_Parse_l2 t true k 0 0 (-1) 0 = A
              cases A with
              | none => rfl
              | some x =>
                cases x with
                | inr _ => rfl
                | inl x =>
                  obtain ⟨n, d, p⟩ := x
                  simp only [Option.map_some, Option.bind_some, withS, l1_l3]
            · rw [this]
              cases hp : plainF t with
              | none => rfl
              | some x =>
                cases x with
                | none => exact absurd hp (fun h => plain_num h)
                | some b => rfl
          · have hc' : ((((c.toNat : Nat) : Int)) == 45) = false := by
              have : c.toNat ≠ 45 := fun e => hc (UInt8.toNat_inj.1 (by rw [e]; rfl))
              simp; omega
            rw [hc', if_neg hc]
            simp only [cond_false]
            have := tail_eq k false (c :: t) (fun x => some (x, 0)) hs hk
            refine Eq.trans (b := tailF k false (c :: t) (fun x => some (x, 0))) rfl ?_
            rw [this]
            exact hlast _ (fun h => plain_num h)
end Go.Pi

namespace Go.Pi
theorem near_lt (n : Int) : FloatKind.f64.nearest n < 18446744073709551616 := by
  have := Ieee.Format.nearest_lt Ieee.double (decide (n < 0)) n.natAbs 0
  exact this
theorem plain_lt {s : List UInt8} {b : Nat} (h : plainF s = some (some b)) : b < 18446744073709551616 := by
  unfold plainF at h
  cases hd : digF s 0 0 with
  | none => rw [hd] at h; cases h
  | some x =>
    obtain ⟨n, d, q⟩ := x
    rw [hd] at h
    cases q with
    | nil =>
      simp only [Option.some.injEq] at h
      rw [← h]; exact near_lt _
    | cons c q =>
      simp only at h
      split at h
      · cases hq : digF q 0 0 with
        | none => rw [hq] at h; cases h
        | some x =>
          obtain ⟨m, l, r⟩ := x
          rw [hq] at h
          simp only at h
          split at h
          · simp only [Option.some.injEq] at h
            exact Ieee.Format.div_lt Ieee.double h
          · cases h
      · cases h
theorem number_num {s : List UInt8} (h : numberF s = some none) : False := by
  unfold numberF at h
  split at h
  · cases h
  · split at h
    · cases h
    · split at h
      · cases h
      · split at h
        · split at h
          · rename_i c t _ _ _ _
            cases hp : plainF t with
            | none => rw [hp] at h; cases h
            | some x =>
              cases x with
              | none => exact plain_num hp
              | some b => rw [hp] at h; cases h
          · exact plain_num h
        · exact plain_num h
theorem number_lt {s : List UInt8} {b : Nat} (h : numberF s = some (some b)) : b < 18446744073709551616 := by
  unfold numberF at h
  split at h
  · cases h; decide
  · split at h
    · cases h; decide
    · split at h
      · cases h; decide
      · split at h
        · split at h
          · rename_i c t _ _ _ _
            cases hp : plainF t with
            | none => rw [hp] at h; cases h
            | some x =>
              cases x with
              | none => rw [hp] at h; cases h
              | some c =>
                rw [hp] at h
                simp only [Option.map_some, Option.some.injEq] at h
                have hc := plain_lt hp
                rw [← h, copyNeg_eq hc]
                split <;> omega
          · exact plain_lt h
        · exact plain_lt h
/-- What is read is a number, and the error tells whether it is one. -/
theorem parse_some (s : List UInt8) : ∃ b e, parseF s = some (some b, e) ∧ b < 18446744073709551616 := by
  unfold parseF
  cases h : numberF s with
  | none => exact ⟨0, 2, rfl, by decide⟩
  | some x =>
    cases x with
    | none => exact (number_num h).elim
    | some b => exact ⟨b, 0, rfl, number_lt h⟩
theorem weigh_parse (k : Nat) (s : List UInt8) (hs : s.length ≤ lenMax) : weigh_Parse k s = parseF s := by
  unfold weigh_Parse
  rw [if_pos hs]
theorem parses_pure (s : List UInt8) (hs : s.length ≤ lenMax) : ∃ k, eyotlaw1_WeighParses k s = some true := by
  refine ⟨100, ?_⟩
  unfold eyotlaw1_WeighParses
  have hb : eyotlaw1_begun 100 = some true := by kernel_rfl
  rw [hb, Option.bind_some, Bool.not_true, cond_false]
  by_cases h60 : s.length ≤ 60
  · rw [decide_neg (by omega), cond_false, weigh_parse _ _ hs, ref_parse 100 s h60 (by decide)]
    obtain ⟨b, e, hp, hlt⟩ := parse_some s
    rw [hp]
    simp only [Option.bind_some, beq_self_eq_true, cond_true]
    rw [weigh_Same_eq _ (some b) (some b) hlt hlt, eyotref1_Same_eq _ _ _ hlt hlt, decide_pos rfl, decide_pos rfl]
    rfl
  · rw [decide_pos (by omega)]; rfl
end Go.Pi

