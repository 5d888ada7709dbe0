import Derived.Test.YthapdljociabjaaWeG
/-
  WeighGrows, in plain words: a digit more makes no less.
-/
set_option linter.all false
namespace Go.Pi
theorem w64g {n : Int} (h0 : -9223372036854775808 ≤ n) (h1 : n < 9223372036854775808) : IntKind.i64.wrap n = n := by
  rw [IntKind.wrap_i64]; omega
theorem byte_dg {w : Int} (h0 : 0 ≤ w) (h1 : w ≤ 255) : bytesL [IntKind.u8.wrap (48 + Int.tmod w 10)] = [dg (w.toNat % 10)] := by
  obtain ⟨n, rfl⟩ := Int.eq_ofNat_of_zero_le h0
  have e : Int.tmod (n : Int) 10 = ((n % 10 : Nat) : Int) := by rw [Int.tmod_eq_emod_of_nonneg (by omega)]; omega
  rw [e]
  have e2 : IntKind.u8.wrap (48 + ((n % 10 : Nat) : Int)) = ((48 + n % 10 : Nat) : Int) := by rw [IntKind.wrap_u8]; omega
  rw [e2]
  rfl
theorem room_in {α : Type} {n : Nat} {m : Option α} (h : n ≤ 1000) : room n 1 m = m := by
  unfold room roomy
  rw [if_pos (by omega)]
theorem at_dropI {s r : List Int} {i : Nat} {c : Int} (h : s.drop i = c :: r) : at? s (i : Int) = some c ∧ s.drop (i + 1) = r ∧ i < s.length := by
  have hl : i < s.length := by
    rcases Nat.lt_or_ge i s.length with k | k
    · exact k
    · rw [List.drop_of_length_le k] at h; cases h
  rw [List.drop_eq_getElem_cons hl] at h
  injection h with h1 h2
  refine ⟨?_, h2, hl⟩
  unfold at?
  rw [if_pos (by omega)]
  simp only [Int.toNat_natCast]
  rw [List.getElem?_eq_getElem hl, h1]
theorem grows_l0 (l : List Int) (a1 : Int) (hl : l.length ≤ 6) (hw : ∀ w ∈ l, 0 ≤ w ∧ w ≤ 255) : ∀ (r : List Int) (f i : Nat) (acc : List UInt8), l.drop i = r → r.length < f → acc.length ≤ 6 - r.length →
    eyotlaw1_WeighGrows_l0 l a1 f acc i = some (acc ++ (r.map fun w => w.toNat % 10).map dg)
  | [], f + 1, i, acc, hr, hf, ha => by
    have : l.length ≤ i := by simpa using hr
    rw [eyotlaw1_WeighGrows_l0, decide_neg (by omega), cond_false]
    simp
  | c :: r, f + 1, i, acc, hr, hf, ha => by
    obtain ⟨h1, h2, h3⟩ := at_dropI hr
    have hrl : (c :: r).length ≤ 6 := by rw [← hr, List.length_drop]; omega
    simp only [List.length_cons] at hrl hf ha
    have hc : c ∈ l := List.mem_of_mem_drop (by rw [hr]; simp : c ∈ l.drop i)
    obtain ⟨c0, c1⟩ := hw c hc
    rw [eyotlaw1_WeighGrows_l0, decide_pos (by omega), cond_true, h1]
    simp only [Option.bind_some, byte_dg c0 c1]
    have hi : IntKind.i64.wrap ((i : Int) + 1) = ((i + 1 : Nat) : Int) := by rw [w64g (by omega) (by omega)]; omega
    rw [room_in (by simp; omega), hi, grows_l0 l a1 hl hw r f (i + 1) _ h2 (by omega) (by simp; omega)]
    simp
theorem key_pos {b : Nat} (h : b < INF) : keyF (some b) = b + 9223372036854775808 := by
  unfold keyF keyN
  simp only []
  unfold INF at h
  rw [if_pos (by unfold isNum rung INF; omega), if_pos (by omega)]
theorem num_pos {b : Nat} (h : b < INF) : isNum b ∧ b < 18446744073709551616 := by
  unfold isNum rung
  unfold INF at *
  omega
/-- A whole number's word: its rung, and what it is worth. -/
theorem int_word (n : Nat) (h : n < 2 ^ 53) : ∃ r, r < INF ∧ magR BN r = n * U74 ∧ FloatKind.f64.nearest (n : Int) = r := by
  rcases Nat.eq_zero_or_pos n with h0 | h0
  · subst h0
    exact ⟨0, by decide, by rw [magR_zero, Nat.zero_mul], near_zero⟩
  · obtain ⟨r, _, r2, r3, r4⟩ := int_near n h0 h
    exact ⟨r, r2, r3, r4⟩
def E73 : Nat := 1073
theorem E73_eq : E73 = 1073 := rfl
def P73 : Nat := 2 ^ E73
theorem P73_pos : 0 < P73 := Nat.two_pow_pos E73
theorem E74_succ : E74 = E73 + 1 := rfl
theorem U74_P : U74 = P73 * 2 := by
  unfold U74 P73
  rw [E74_succ, Nat.pow_succ]
theorem half_word : magR BN 4602678819172646912 = P73 := by
  obtain ⟨r, r1, r2, r3⟩ := rep 1 E73 (by decide) (by decide) (by decide) (by decide)
  have e : r = 4602678819172646912 := by
    have h := nearest_exact false 1 E73 0 r r1 r2 (by rw [r3, Nat.pow_zero, Nat.mul_one])
    have e2 : Ieee.double.nearest false 1 (-1074 + ((E73 : Nat) : Int) - ((0 : Nat) : Int)) = 4602678819172646912 := by decide +kernel
    rw [e2] at h
    rw [h]
    unfold Ieee.Format.word
    simp
  rw [← e, r3, Nat.one_mul]
  rfl
theorem ten_word : FloatKind.f64.nearest ((10 : Nat) : Int) = 4621819117588971520 := by decide +kernel
/-- The number with a five behind. -/
theorem half_up (N : Nat) (h : N < 1000000) : ∃ r, 0 < r ∧ r < INF ∧ magR BN r = (2 * N + 1) * P73 ∧
    FloatKind.f64.format.div (FloatKind.f64.nearest ((N * 10 + 5 : Nat) : Int)) (FloatKind.f64.nearest ((10 : Nat) : Int)) = some r := by
  have hl : (2 * N + 1).log2 ≤ 52 := by
    have : (2 * N + 1).log2 < 53 := (Nat.log2_lt (by omega)).2 (by omega)
    omega
  obtain ⟨r, r1, r2, r3⟩ := rep (2 * N + 1) E73 (by omega) (by omega) (by have := E73_eq; omega) (by have := E73_eq; omega)
  have r4 : magR BN r = (2 * N + 1) * P73 := r3
  refine ⟨r, r1, r2, r4, ?_⟩
  rw [div_int (by omega) (by omega) (by decide) (by decide), RN_self r _ _ r1 (by decide), Nat.min_eq_left (by omega)]
  rw [r4, U74_P]
  have hp := P73_pos
  generalize P73 = P at *
  rw [← Nat.mul_assoc, Nat.mul_right_comm, Nat.mul_right_comm (2 * N + 1)]
  congr 1
  omega
theorem half_more (N d : Nat) (h : N < 1000000) (hd : d < 10) (r : Nat) (r1 : 0 < r) (r2 : r < INF) (hr : magR BN r = (2 * N + 1) * P73) : ∃ b, r ≤ b ∧ b ≤ INF ∧
    FloatKind.f64.format.div (FloatKind.f64.nearest ((N * 100 + 50 + d : Nat) : Int)) (FloatKind.f64.nearest ((100 : Nat) : Int)) = some b := by
  refine ⟨min (RN ((N * 100 + 50 + d) * U74) 100) INF, ?_, Nat.min_le_right _ _, div_int (by omega) (by omega) (by decide) (by decide)⟩
  refine Nat.le_min.2 ⟨RN_ge r _ _ r1 (by decide) ?_, by omega⟩
  rw [hr, U74_P, ← Nat.mul_assoc, Nat.mul_right_comm, Nat.mul_right_comm (N * 100 + 50 + d)]
  exact Nat.mul_le_mul_right _ (by omega)
theorem weigh_parseG (k : Nat) (s : List UInt8) (hs : s.length ≤ 1000) : weigh_Parse k s = parseF s := by
  unfold weigh_Parse lenMax
  rw [if_pos (by omega)]
theorem ord_self {b : Nat} (h : isNum b) : (fOrd (some b) (some b) == some .eq) = true := by
  rw [fOrd_num h h, Int.compare_eq_eq.2 rfl]; rfl
theorem cmpN_le {a b : Nat} (h : a ≤ b) : decide (cmpN a b ≤ 0) = true := by
  unfold cmpN
  split
  · rfl
  · rw [if_neg (by omega)]; rfl
theorem cmpN_lt {a b : Nat} (h : a < b) : decide (cmpN a b < 0) = true := by
  unfold cmpN
  rw [if_pos h]; rfl
theorem grows_core (k : Nat) (ds : List Nat) (d : Nat) (h1 : ds ≠ []) (h2 : ds.length ≤ 6) (hd : ∀ x ∈ ds, x < 10) (hd2 : d < 10) : ∃ a b c h, a ≤ INF ∧ b ≤ INF ∧ c ≤ INF ∧ h ≤ INF ∧ a ≤ b ∧ c < a ∧ c ≤ h ∧
    weigh_Parse k (ds.map dg ++ [46, 53]) = some (some a, 0) ∧ weigh_Parse k (ds.map dg ++ [46, 53] ++ [dg d]) = some (some b, 0) ∧ weigh_Parse k (ds.map dg) = some (some c, 0) ∧ weigh_Parse k (ds.map dg ++ [dg d]) = some (some h, 0) ∧
    fAdd (fMul (some c) (some 4621819117588971520)) (some (FloatKind.f64.nearest (d : Int))) = some h ∧ fAdd (some c) (some 4602678819172646912) = some a := by
  have hN : decD 0 ds < 10 ^ (0 + ds.length) := decD_lt (K := 0) hd (by decide)
  have hN2 : 10 ^ (0 + ds.length) ≤ 10 ^ 6 := Nat.pow_le_pow_right (by decide) (by omega)
  have e5 : decD 0 (ds ++ [5]) = decD 0 ds * 10 + 5 := by rw [decD_app]; rfl
  have e5d : decD 0 (ds ++ [5, d]) = decD 0 ds * 100 + 50 + d := by
    rw [decD_app]
    show (decD 0 ds * 10 + 5) * 10 + d = _
    omega
  have ed : decD 0 (ds ++ [d]) = decD 0 ds * 10 + d := by rw [decD_app]; rfl
  obtain ⟨N, hNe⟩ : ∃ N, N = decD 0 ds := ⟨_, rfl⟩
  rw [← hNe] at e5 e5d ed hN
  have hN3 : N < 1000000 := by
    have : (10 : Nat) ^ 6 = 1000000 := by decide
    omega
  obtain ⟨a, a1, a2, a3, a4⟩ := half_up N hN3
  obtain ⟨b, b1, b2, b3⟩ := half_more N d hN3 hd2 a a1 a2 a3
  obtain ⟨c, c1, c2, c3⟩ := int_word N (by omega)
  obtain ⟨h, g1, g2, g3⟩ := int_word (N * 10 + d) (by omega)
  obtain ⟨t, t1, t2, t3⟩ := int_word 10 (by decide)
  obtain ⟨u, u1, u2, u3⟩ := int_word (N * 10) (by omega)
  obtain ⟨v, v1, v2, v3⟩ := int_word d (by omega)
  rw [ten_word] at t3
  have hp := P73_pos
  refine ⟨a, b, c, h, by omega, b2, by omega, by omega, b1, ?_, ?_, ?_, ?_, ?_, ?_, ?_, ?_⟩
  · rw [← magR_lt_iff, a3, c2, U74_P]
    generalize P73 = P at *
    rw [← Nat.mul_assoc, Nat.mul_right_comm]
    exact Nat.mul_lt_mul_of_pos_right (by omega) hp
  · rcases Nat.lt_or_ge h c with q | q
    · rw [← magR_lt_iff, g2, c2] at q
      have : N * U74 ≤ (N * 10 + d) * U74 := Nat.mul_le_mul_right _ (by omega)
      omega
    · exact q
  · rw [weigh_parseG _ _ (by simp; omega)]
    refine parse_point (es := [5]) hd (by simp) h1 (by simp) (by simp; omega) ?_
    rw [e5]
    exact a4
  · rw [weigh_parseG _ _ (by simp; omega), List.append_assoc]
    refine parse_point (es := [5, d]) hd (by simp; omega) h1 (by simp) (by simp; omega) ?_
    rw [e5d]
    exact b3
  · rw [weigh_parseG _ _ (by simp; omega), parse_digits hd h1 (by omega), ← hNe, c3]
  · have : ds.map dg ++ [dg d] = (ds ++ [d]).map dg := by simp
    rw [this, weigh_parseG _ _ (by simp; omega), parse_digits (by simp; intro x hx; rcases hx with hx | hx; exact hd x hx; omega) (by simp) (by simp; omega), ed, g3]
  · have m1 : Ieee.double.mul c 4621819117588971520 = some u := by
      rw [t3]
      refine mul_exact c1 t1 u1 ?_
      rw [u2, c2, t2]
      generalize U74 = U
      rw [Nat.mul_assoc, Nat.mul_assoc, Nat.mul_assoc, Nat.mul_left_comm 10]
    have m2 : Ieee.double.add u v = some h := by
      refine add_exact u1 v1 g1 ?_
      rw [g2, u2, v2, Nat.add_mul]
    show fAdd (Ieee.double.mul c 4621819117588971520) _ = _
    rw [m1, v3]
    exact m2
  · refine add_exact c1 (by decide) a2 ?_
    rw [a3, c2, half_word, U74_P, Nat.add_mul, Nat.one_mul, Nat.mul_comm P73 2, ← Nat.mul_assoc, Nat.mul_comm N 2]
theorem key_posE {b : Nat} (h : b ≤ INF) : keyF (some b) = b + 9223372036854775808 := by
  unfold keyF keyN
  simp only []
  unfold INF at h
  rw [if_pos (by unfold isNum rung INF; omega), if_pos (by omega)]
theorem num_posE {b : Nat} (h : b ≤ INF) : isNum b ∧ b < 18446744073709551616 := by
  unfold isNum rung
  unfold INF at *
  omega
theorem grows_pure (l : List Int) (d : Int) (hl : ∀ w ∈ l, IntKind.min .u8 ≤ w ∧ w ≤ IntKind.max .u8) (hn : l.length ≤ lenMax) (hd : IntKind.min .u8 ≤ d ∧ d ≤ IntKind.max .u8) : ∃ k, eyotlaw1_WeighGrows k l d = some true := by
  refine ⟨100, ?_⟩
  unfold eyotlaw1_WeighGrows
  have hb : eyotlaw1_begun 100 = some true := by kernel_rfl
  rw [hb, Option.bind_some, Bool.not_true, cond_false]
  by_cases h1 : l.length < 1
  · rw [decide_pos (by omega), cond_true]; rfl
  rw [decide_neg (by omega), cond_false]
  by_cases h2 : 6 < l.length
  · rw [decide_pos (by omega)]; rfl
  rw [decide_neg (by omega)]
  simp only [Option.bind_some, cond_false]
  have hw : ∀ w ∈ l, 0 ≤ w ∧ w ≤ 255 := hl
  have hd1 : (0 : Int) ≤ d := hd.1
  have hd2 : d ≤ 255 := hd.2
  have el := grows_l0 l d (by omega) hw l 100 0 [] rfl (by omega) (by simp)
  have el2 : eyotlaw1_WeighGrows_l0 l d 100 [] 0 = some ([] ++ List.map dg (List.map (fun w => w.toNat % 10) l)) := el
  rw [el2]
  obtain ⟨a, b, c, h, ha, hb, hc, hh, o1, o2, o3, p1, p2, p3, p4, q1, q2⟩ := grows_core 100 (l.map fun w => w.toNat % 10) (d.toNat % 10) (by intro e; have := congrArg List.length e; simp at this; subst this; simp at h1) (by simp; omega) (by intro x hx; simp at hx; obtain ⟨w, _, rfl⟩ := hx; omega) (by omega)
  have ed : Int.tmod d 10 = ((d.toNat % 10 : Nat) : Int) := by rw [Int.tmod_eq_emod_of_nonneg (by omega)]; omega
  rw [byte_dg hd1 hd2, ed]
  simp only [Option.bind_some, List.nil_append]
  rw [room_in (by simp; omega), p1, Option.bind_some, room_in (by simp; omega), room_in (by simp; omega), p2, Option.bind_some, p3, Option.bind_some, room_in (by simp; omega), p4, Option.bind_some]
  rw [q1, q2]
  obtain ⟨na, wa⟩ := num_posE ha
  obtain ⟨nb, wb⟩ := num_posE hb
  obtain ⟨nc, wc⟩ := num_posE hc
  obtain ⟨nh, wh⟩ := num_posE hh
  rw [weigh_Order_eq _ (some a) (some b) wa wb, weigh_Order_eq _ (some c) (some a) wc wa, weigh_Order_eq _ (some c) (some h) wc wh, key_posE ha, key_posE hb, key_posE hc, key_posE hh]
  have z : ((0 : Int) == 0) = true := rfl
  rw [z, cond_true, cond_true, cond_true, cond_true, Option.bind_some, cmpN_le (by omega), cond_true, Option.bind_some, cmpN_lt (by omega), cond_true, Option.bind_some, cmpN_le (by omega), cond_true, ord_self na, ord_self nh, cond_true, Option.bind_some]
end Go.Pi

