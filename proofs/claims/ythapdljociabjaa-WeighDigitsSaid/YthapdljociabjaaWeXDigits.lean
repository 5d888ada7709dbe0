import Derived.Test.YthapdljociabjaaWeG
/-
  WeighDigits, in plain words: a decimal text, with noughts ahead and behind, is its number; the sign turns it.
-/
set_option linter.all false
namespace Go.Pi
theorem room_inD {α : Type} {n : Nat} {m : Option α} (h : n ≤ 1000) : room n 1 m = m := by
  unfold room roomy
  rw [if_pos (by omega)]
theorem weigh_parseD (k : Nat) (s : List UInt8) (hs : s.length ≤ 1000) : weigh_Parse k s = parseF s := by
  unfold weigh_Parse lenMax
  rw [if_pos (by omega)]
theorem byte_dgD (n : Nat) (hn : n < 4294967296) : bytesL [IntKind.u8.wrap (IntKind.u32.wrap (48 + Int.tmod (n : Int) 10))] = [dg (n % 10)] := by
  have e : Int.tmod (n : Int) 10 = ((n % 10 : Nat) : Int) := by rw [Int.tmod_eq_emod_of_nonneg (by omega)]; omega
  have e2 : IntKind.u8.wrap (IntKind.u32.wrap (48 + ((n % 10 : Nat) : Int))) = ((48 + n % 10 : Nat) : Int) := by rw [IntKind.wrap_u8, IntKind.wrap_u32]; omega
  rw [e, e2]
  rfl
theorem div10 (n : Nat) (hn : n < 4294967296) : IntKind.u32.wrap (Int.tdiv (n : Int) 10) = ((n / 10 : Nat) : Int) := by
  rw [Int.tdiv_eq_ediv_of_nonneg (by omega), IntKind.wrap_u32]; omega
theorem digits_l0 (a0 a1 a2 : Int) : ∀ (m n f : Nat) (acc : List Nat), n < 10 ^ m → n < 4294967296 → m < f → acc ≠ [] → acc.length + m ≤ 11 → (∀ x ∈ acc, x < 10) →
    ∃ D, eyotlaw1_WeighDigits_l0 a0 a1 a2 f (acc.map dg) (n : Int) = some (D.map dg) ∧ D ≠ [] ∧ (∀ x ∈ D, x < 10) ∧ D.length ≤ 11 ∧ decD 0 D = n * 10 ^ acc.length + decD 0 acc
  | m, 0, f + 1, acc, h1, h2, h3, h4, h5, h6 => by
    refine ⟨acc, ?_, h4, h6, by omega, by simp⟩
    have e : (acc.map dg == ([] : List UInt8)) = false := by cases acc with
      | nil => exact absurd rfl h4
      | cons _ _ => rfl
    rw [eyotlaw1_WeighDigits_l0, decide_neg (by omega), cond_false, e]
    rfl
  | 0, n + 1, f + 1, acc, h1, h2, h3, h4, h5, h6 => by simp at h1
  | m + 1, n + 1, f + 1, acc, h1, h2, h3, h4, h5, h6 => by
    have hd : (n + 1) / 10 < 10 ^ m := by rw [Nat.pow_succ] at h1; omega
    obtain ⟨D, d1, d2, d3, d4, d5⟩ := digits_l0 a0 a1 a2 m ((n + 1) / 10) f ((n + 1) % 10 :: acc) hd (by omega) (by omega) (by simp) (by simp; omega) (by simp; exact ⟨by omega, h6⟩)
    refine ⟨D, ?_, d2, d3, d4, ?_⟩
    · rw [eyotlaw1_WeighDigits_l0, decide_pos (by omega), cond_true, Option.bind_some, cond_true, byte_dgD _ h2, div10 _ h2, room_inD (by simp; omega)]
      exact d1
    · rw [d5]
      have e : decD 0 ((n + 1) % 10 :: acc) = (n + 1) % 10 * 10 ^ acc.length + decD 0 acc := by
        have := decD_pow acc ((n + 1) % 10)
        rw [← this]
        show decD (0 * 10 + (n + 1) % 10) acc = _
        rw [Nat.zero_mul, Nat.zero_add]
      rw [e, List.length_cons, Nat.pow_succ]
      generalize 10 ^ acc.length = T
      have h10 : n + 1 = (n + 1) / 10 * 10 + (n + 1) % 10 := by omega
      calc (n + 1) / 10 * (T * 10) + ((n + 1) % 10 * T + decD 0 acc) = ((n + 1) / 10 * 10 + (n + 1) % 10) * T + decD 0 acc := by rw [Nat.add_mul, Nat.mul_comm T 10, ← Nat.mul_assoc, Nat.add_assoc]
        _ = (n + 1) * T + decD 0 acc := by rw [← h10]
theorem digits_text (a1 a2 : Int) (n f : Nat) (h : n < 4294967296) (hf : 11 < f) : ∃ D, eyotlaw1_WeighDigits_l0 (n : Int) a1 a2 f [] (n : Int) = some (D.map dg) ∧ D ≠ [] ∧ (∀ x ∈ D, x < 10) ∧ D.length ≤ 11 ∧ decD 0 D = n := by
  cases f with
  | zero => omega
  | succ f =>
    have h10 : n / 10 < 10 ^ 10 := by
      have : (10 : Nat) ^ 10 = 10000000000 := by decide
      omega
    obtain ⟨D, d1, d2, d3, d4, d5⟩ := digits_l0 (n : Int) a1 a2 10 (n / 10) f [n % 10] h10 (by omega) (by omega) (by simp) (by simp) (by simp; omega)
    refine ⟨D, ?_, d2, d3, d4, ?_⟩
    · have e : (cond (decide ((n : Int) > 0)) (some true) (some (([] : List UInt8) == []))) = some true := by cases decide ((n : Int) > 0) <;> rfl
      rw [eyotlaw1_WeighDigits_l0, e, Option.bind_some, cond_true, byte_dgD _ h, div10 _ h, room_inD (by simp)]
      exact d1
    · rw [d5]
      show n / 10 * 10 ^ 1 + (0 * 10 + n % 10) = n
      omega
theorem ten_step : ∀ i : Nat, i < 12 → fMul (some (FloatKind.f64.nearest ((10 ^ i : Nat) : Int))) (some 4621819117588971520) = some (FloatKind.f64.nearest ((10 ^ (i + 1) : Nat) : Int)) := by decide +kernel
theorem one_word : FloatKind.f64.nearest ((10 ^ 0 : Nat) : Int) = 4607182418800017408 := by decide +kernel
theorem ten_loop {F : Nat → Fl → Int → Option Fl} {m : Nat} (hm : m ≤ 12)
    (hF : ∀ f x i, F (f + 1) x i = cond (decide (i < (m : Int))) (F f (fMul x (some 4621819117588971520)) (IntKind.i64.wrap (i + 1))) (some x)) :
    ∀ (j i f : Nat), i + j = m → j < f → F f (some (FloatKind.f64.nearest ((10 ^ i : Nat) : Int))) (i : Int) = some (some (FloatKind.f64.nearest ((10 ^ m : Nat) : Int)))
  | 0, i, f + 1, h, hf => by
    obtain rfl : i = m := by omega
    rw [hF, decide_neg (by omega), cond_false]
  | j + 1, i, f + 1, h, hf => by
    have hi : IntKind.i64.wrap ((i : Int) + 1) = ((i + 1 : Nat) : Int) := by rw [IntKind.wrap_i64]; omega
    rw [hF, decide_pos (by omega), cond_true, ten_step i (by omega), hi]
    exact ten_loop hm hF j (i + 1) f (by omega) (by omega)
theorem ten_all {F : Nat → Fl → Int → Option Fl} {m : Nat} (hm : m ≤ 12)
    (hF : ∀ f x i, F (f + 1) x i = cond (decide (i < (m : Int))) (F f (fMul x (some 4621819117588971520)) (IntKind.i64.wrap (i + 1))) (some x)) :
    F 100 (some 4607182418800017408) 0 = some (some (FloatKind.f64.nearest ((10 ^ m : Nat) : Int))) := by
  have := ten_loop hm hF m 0 100 (by omega) (by omega)
  rw [one_word] at this
  exact this
theorem parse_minus {ds : List Nat} (hd : ∀ d ∈ ds, d < 10) (h1 : ds ≠ []) (h2 : ds.length ≤ 15) : parseF (45 :: ds.map dg) = some (some (copyNeg (FloatKind.f64.nearest ((decD 0 ds : Nat) : Int))), 0) := by
  unfold parseF
  cases ds with
  | nil => exact absurd rfl h1
  | cons d ds =>
    have e := number_minus (d := d) (t := ds.map dg) (hd d (by simp))
    rw [List.map_cons, e, ← List.map_cons, plain_digits hd h1 h2]
    rfl
theorem parse_minus_point {ds es : List Nat} {b : Nat} (hd : ∀ d ∈ ds, d < 10) (he : ∀ d ∈ es, d < 10) (h1 : ds ≠ []) (h2 : es ≠ []) (h3 : ds.length + es.length ≤ 15)
    (hb : FloatKind.f64.format.div (FloatKind.f64.nearest ((decD 0 (ds ++ es) : Nat) : Int)) (FloatKind.f64.nearest ((10 ^ es.length : Nat) : Int)) = some b) : parseF (45 :: (ds.map dg ++ 46 :: es.map dg)) = some (some (copyNeg b), 0) := by
  unfold parseF
  have hp := plain_point hd he h1 h2 h3
  cases ds with
  | nil => exact absurd rfl h1
  | cons d ds =>
    have e := number_minus (d := d) (t := ds.map dg ++ 46 :: es.map dg) (hd d (by simp))
    rw [List.map_cons, List.cons_append] at hp ⊢
    rw [e, hp, hb]
    rfl
/-- The quotient by a power of ten: it is there, and noughts change nothing. -/
theorem quo_ten (n m : Nat) (h : n < 4294967296) (hm : m ≤ 11) : ∃ b, b ≤ INF ∧ FloatKind.f64.format.div (FloatKind.f64.nearest (n : Int)) (FloatKind.f64.nearest ((10 ^ m : Nat) : Int)) = some b ∧
    FloatKind.f64.format.div (FloatKind.f64.nearest ((n * 10 : Nat) : Int)) (FloatKind.f64.nearest ((10 ^ (m + 1) : Nat) : Int)) = some b := by
  have hp : 0 < 10 ^ m := Nat.pow_pos (by decide)
  have hp2 : 10 ^ m ≤ 10 ^ 11 := Nat.pow_le_pow_right (by decide) hm
  have h11 : (10 : Nat) ^ 11 = 100000000000 := by decide
  have hs : 10 ^ (m + 1) = 10 ^ m * 10 := Nat.pow_succ 10 m
  rw [hs]
  generalize 10 ^ m = T at *
  rcases Nat.eq_zero_or_pos n with h0 | h0
  · subst h0
    exact ⟨0, by decide, div_zero hp (by omega), div_zero (m := T * 10) (by omega) (by omega)⟩
  · refine ⟨_, Nat.min_le_right _ _, div_int h0 (by omega) hp (by omega), ?_⟩
    rw [div_int (by omega) (by omega) (by omega) (by omega), Nat.mul_right_comm n 10, RN_scale _ _ 10 (by decide)]
theorem num_posD {b : Nat} (h : b ≤ INF) : isNum b ∧ b < 18446744073709551616 := by
  unfold isNum rung
  unfold INF at *
  omega
theorem turn {b : Nat} (h : b ≤ INF) : fNeg (some b) = some (copyNeg b) ∧ copyNeg b < 18446744073709551616 := by
  unfold INF at h
  rw [fNeg_eq (by omega), copyNeg_eq (by omega), if_pos (by omega), if_pos (by omega)]
  exact ⟨rfl, by omega⟩
/-- WHAT IS ASKED of the three numbers. -/
theorem digits_block {F : (Fl × Int) → (Fl × Int) → (Fl × Int) → Option Fl} {k : Nat} {P L : List UInt8} {b : Nat} {a0 : Int} {t : Fl} (hb : b ≤ INF)
    (h1 : weigh_Parse k P = some (some b, 0)) (h2 : weigh_Parse k L = some (some b, 0)) (h3 : weigh_Parse k ([45] ++ P) = some (some (copyNeg b), 0)) (hl : P.length ≤ 900)
    (hF : F (some b, 0) (some b, 0) (some (copyNeg b), 0) = some t) (hq : fDiv (some (FloatKind.f64.nearest a0)) t = some b) :
    ((weigh_Parse k P).bind fun r42 => (weigh_Parse k L).bind fun r45 => room (([45] : List UInt8).length + P.length) 1 ((weigh_Parse k (([45] : List UInt8) ++ P)).bind fun r48 => (F r42 r45 r48).bind fun y54 => (cond (r42.2 == (0 : Int)) (cond (r45.2 == (0 : Int)) (cond (r48.2 == (0 : Int)) ((weigh_Same k r42.1 r45.1).bind fun r64 => cond r64 ((weigh_Same k r48.1 (fNeg r42.1)).bind fun r67 => cond r67 (some (fOrd r42.1 (fDiv (some (FloatKind.f64.nearest a0) : Fl) y54) == some .eq)) (some false)) (some false)) (some false)) (some false)) (some false)).bind fun y59 => some y59)) = some true := by
  obtain ⟨n1, w1⟩ := num_posD hb
  obtain ⟨t1, t2⟩ := turn hb
  have z : ((0 : Int) == 0) = true := rfl
  rw [h1, Option.bind_some, h2, Option.bind_some, room_inD (by simp; omega), h3, Option.bind_some, hF, Option.bind_some]
  rw [z, cond_true, cond_true, cond_true, t1, weigh_Same_eq _ (some b) (some b) w1 w1, weigh_Same_eq _ (some (copyNeg b)) (some (copyNeg b)) t2 t2, Option.bind_some, decide_pos rfl, cond_true, Option.bind_some, decide_pos rfl, cond_true,
    hq, Option.bind_some, fOrd_num n1 n1, Int.compare_eq_eq.2 rfl]
  rfl
/-- The three texts, with a point. -/
theorem three_point (k n : Nat) (S B : List Nat) (hn : n < 4294967296) (hv : decD 0 (S ++ B) = n) (hS : S ≠ []) (hB : B ≠ []) (h1 : ∀ x ∈ S, x < 10) (h2 : ∀ x ∈ B, x < 10) (hl : S.length + B.length ≤ 12) (hb : B.length ≤ 11) :
    ∃ b, b ≤ INF ∧ weigh_Parse k (S.map dg ++ [46] ++ B.map dg) = some (some b, 0) ∧ weigh_Parse k ([48] ++ (S.map dg ++ [46] ++ B.map dg)) = some (some b, 0) ∧ weigh_Parse k ([48] ++ (S.map dg ++ [46] ++ B.map dg) ++ [48]) = some (some b, 0) ∧
      weigh_Parse k ([45] ++ (S.map dg ++ [46] ++ B.map dg)) = some (some (copyNeg b), 0) ∧ fDiv (some (FloatKind.f64.nearest (n : Int))) (some (FloatKind.f64.nearest ((10 ^ B.length : Nat) : Int))) = some b := by
  obtain ⟨b, b1, b2, b3⟩ := quo_ten n B.length hn hb
  have e0 : decD 0 ((0 :: S) ++ B) = n := by rw [← hv]; rfl
  have e1 : decD 0 ((0 :: S) ++ (B ++ [0])) = n * 10 := by rw [← List.append_assoc, decD_app, e0]; rfl
  have t0 : S.map dg ++ [46] ++ B.map dg = S.map dg ++ 46 :: B.map dg := by simp
  have t1 : [48] ++ (S.map dg ++ 46 :: B.map dg) = (0 :: S).map dg ++ 46 :: B.map dg := rfl
  have t2 : [48] ++ (S.map dg ++ 46 :: B.map dg) ++ [48] = (0 :: S).map dg ++ 46 :: (B ++ [0]).map dg := by
    rw [t1, List.map_append, List.append_assoc]; rfl
  have h10 : ∀ x ∈ 0 :: S, x < 10 := by simp; exact h1
  have h20 : ∀ x ∈ B ++ [0], x < 10 := by
    intro x hx
    rcases List.mem_append.1 hx with hx | hx
    · exact h2 x hx
    · simp at hx; omega
  refine ⟨b, b1, ?_, ?_, ?_, ?_, b2⟩
  · rw [t0, weigh_parseD _ _ (by simp; omega)]
    exact parse_point h1 h2 hS hB (by omega) (by rw [hv]; exact b2)
  · rw [t0, weigh_parseD _ _ (by simp; omega), t1]
    exact parse_point h10 h2 (by simp) hB (by simp; omega) (by rw [e0]; exact b2)
  · rw [t0, weigh_parseD _ _ (by simp; omega), t2]
    exact parse_point h10 h20 (by simp) (by simp) (by simp; omega) (by rw [e1, List.length_append]; exact b3)
  · rw [t0, weigh_parseD _ _ (by simp; omega)]
    exact parse_minus_point h1 h2 hS hB (by omega) (by rw [hv]; exact b2)
/-- The three texts, without a point. -/
theorem three_plain (k n : Nat) (S : List Nat) (hn : n < 4294967296) (hv : decD 0 S = n) (hS : S ≠ []) (h1 : ∀ x ∈ S, x < 10) (hl : S.length ≤ 12) :
    ∃ b, b ≤ INF ∧ weigh_Parse k (S.map dg) = some (some b, 0) ∧ weigh_Parse k ([48] ++ S.map dg) = some (some b, 0) ∧ weigh_Parse k ([45] ++ S.map dg) = some (some (copyNeg b), 0) ∧
      fDiv (some (FloatKind.f64.nearest (n : Int))) (some (FloatKind.f64.nearest ((10 ^ 0 : Nat) : Int))) = some b := by
  obtain ⟨b, b1, b2, _⟩ := quo_ten n 0 hn (by omega)
  have hb : FloatKind.f64.nearest (n : Int) = b := by
    have := div_one (n := n) (by omega)
    have e : FloatKind.f64.format.div (FloatKind.f64.nearest (n : Int)) (FloatKind.f64.nearest (1 : Int)) = some b := b2
    rw [this] at e
    injection e
  have e0 : decD 0 (0 :: S) = n := by rw [← hv]; rfl
  have t1 : [48] ++ S.map dg = (0 :: S).map dg := rfl
  refine ⟨b, b1, ?_, ?_, ?_, b2⟩
  · rw [weigh_parseD _ _ (by simp; omega), parse_digits h1 hS (by omega), hv, hb]
  · rw [weigh_parseD _ _ (by simp; omega), t1, parse_digits (by simp; exact h1) (by simp) (by simp; omega), e0, hb]
  · rw [weigh_parseD _ _ (by simp; omega), ← hb, ← hv]
    exact parse_minus h1 hS (by omega)
theorem isNilF {D : List Nat} (h : D ≠ []) : (D.map dg == ([] : List UInt8)) = false := by
  cases D with
  | nil => exact absurd rfl h
  | cons _ _ => rfl
theorem digits_pure (n0 p m : Int) (h0 : IntKind.min .u32 ≤ n0 ∧ n0 ≤ IntKind.max .u32) (hp : IntKind.min .u8 ≤ p ∧ p ≤ IntKind.max .u8) (hm : IntKind.min .u8 ≤ m ∧ m ≤ IntKind.max .u8) : ∃ k, eyotlaw1_WeighDigits k n0 p m = some true := by
  refine ⟨100, ?_⟩
  have h00 : (0 : Int) ≤ n0 := h0.1
  have h01 : n0 ≤ 4294967295 := h0.2
  have hp0 : (0 : Int) ≤ p := hp.1
  have hp1 : p ≤ 255 := hp.2
  obtain ⟨n, rfl⟩ := Int.eq_ofNat_of_zero_le h00
  obtain ⟨q, rfl⟩ := Int.eq_ofNat_of_zero_le hp0
  unfold eyotlaw1_WeighDigits
  have hb : eyotlaw1_begun 100 = some true := by kernel_rfl
  rw [hb, Option.bind_some, Bool.not_true, cond_false]
  obtain ⟨D, d1, d2, d3, d4, d5⟩ := digits_text (q : Int) m n 100 (by omega) (by omega)
  have hlen : (D.map dg).length = D.length := by simp
  have hpos : 0 < D.length := List.length_pos_iff.2 d2
  obtain ⟨t, ht⟩ : ∃ t, t = q % (D.length + 1) := ⟨_, rfl⟩
  have htl : t ≤ D.length := by
    have := Nat.mod_lt q (show 0 < D.length + 1 by omega)
    omega
  have e1 : IntKind.i64.wrap (((D.map dg).length : Int) + 1) = ((D.length + 1 : Nat) : Int) := by rw [IntKind.wrap_i64, hlen]; omega
  have eat : Int.tmod (IntKind.i64.wrap (q : Int)) (IntKind.i64.wrap (((D.map dg).length : Int) + 1)) = (t : Int) := by
    have e2 : IntKind.i64.wrap (q : Int) = (q : Int) := by rw [IntKind.wrap_i64]; omega
    rw [e1, e2, ht]
    rfl
  have ecut : IntKind.i64.wrap (((D.map dg).length : Int) - (t : Int)) = ((D.length - t : Nat) : Int) := by rw [IntKind.wrap_i64, hlen]; omega
  have c1 : cutI (D.map dg).length none (some ((D.length - t : Nat) : Int)) = some (0, D.length - t) := by
    unfold cutI
    rw [hlen]
    simp only []
    rw [if_pos (by omega)]
    rfl
  have c2 : cutI (D.map dg).length (some ((D.length - t : Nat) : Int)) none = some (D.length - t, D.length) := by
    unfold cutI
    rw [hlen]
    simp only []
    rw [if_pos (by omega)]
    rfl
  have s1 : sl (D.map dg) (0, D.length - t) = (D.take (D.length - t)).map dg := by unfold sl; simp
  have s2 : sl (D.map dg) (D.length - t, D.length) = (D.drop (D.length - t)).map dg := by
    unfold sl
    rw [List.map_drop]
    exact List.take_of_length_le (by simp)
  rw [d1, Option.bind_some, eat, ecut, c1, Option.bind_some, s1, c2]
  simp only [Option.bind_some, s2]
  unfold nz
  rw [if_neg (by rw [e1]; omega)]
  obtain ⟨S, hS⟩ : ∃ S, S = D.take (D.length - t) := ⟨_, rfl⟩
  obtain ⟨B, hB⟩ : ∃ B, B = D.drop (D.length - t) := ⟨_, rfl⟩
  have hSB : S ++ B = D := by rw [hS, hB]; exact List.take_append_drop _ _
  have hBl : B.length = t := by rw [hB, List.length_drop]; omega
  have hSl : S.length + B.length = D.length := by rw [← hSB, List.length_append]
  have hSd : ∀ x ∈ S, x < 10 := fun x hx => d3 x (by rw [← hSB]; exact List.mem_append_left _ hx)
  have hBd : ∀ x ∈ B, x < 10 := fun x hx => d3 x (by rw [← hSB]; exact List.mem_append_right _ hx)
  have hSn : S.length = 0 → S = [] := List.length_eq_zero_iff.1
  rw [← hS, ← hB]
  by_cases hs : S = []
  · have hB0 : B ≠ [] := by
      intro e
      rw [hs, e] at hSB
      exact d2 hSB.symm
    obtain ⟨b, b1, b2, b3, b4, b5, b6⟩ := three_point 100 n [0] B (by omega) (by
      have : decD 0 ([0] ++ B) = decD 0 B := rfl
      rw [this, ← d5, ← hSB, hs]; rfl) (by simp) hB0 (by simp) hBd (by simp; omega) (by omega)
    rw [hBl] at b6
    have hnil : (S.map dg == ([] : List UInt8)) = true := by rw [hs]; rfl
    rw [hnil, cond_true, isNilF hB0, Bool.not_false, cond_true, cond_true, room_inD (by simp), room_inD (by simp; omega), room_inD (by simp; omega)]
    simp only [Option.bind_some]
    cases hmo : (Int.tmod m 2 == 1)
    · rw [cond_false]
      refine digits_block b1 b2 b3 b5 (by simp; omega) (t := some (FloatKind.f64.nearest ((10 ^ t : Nat) : Int))) ?_ b6
      exact ten_all (F := eyotlaw1_WeighDigits_l2 n q (D.map dg) (some b, 0) (some b, 0) (some (copyNeg b), 0)) (by omega) (fun f x i => by rw [eyotlaw1_WeighDigits_l2, eat])
    · rw [cond_true, room_inD (by simp; omega)]
      refine digits_block b1 b2 b4 b5 (by simp; omega) (t := some (FloatKind.f64.nearest ((10 ^ t : Nat) : Int))) ?_ b6
      exact ten_all (F := eyotlaw1_WeighDigits_l1 n q (D.map dg) (some b, 0) (some b, 0) (some (copyNeg b), 0)) (by omega) (fun f x i => by rw [eyotlaw1_WeighDigits_l1, eat])
  · rw [isNilF hs, cond_false]
    by_cases hb0 : B = []
    · have hnil : (B.map dg == ([] : List UInt8)) = true := by rw [hb0]; rfl
      have hS0 : S = D := by rw [← hSB, hb0, List.append_nil]
      obtain ⟨b, b1, b2, b3, b5, b6⟩ := three_plain 100 n S (by omega) (by rw [hS0]; exact d5) hs hSd (by omega)
      have ht0 : t = 0 := by rw [← hBl, hb0]; rfl
      rw [hnil, Bool.not_true, cond_false, cond_false, room_inD (by simp; omega)]
      simp only [Option.bind_some, cond_false]
      refine digits_block b1 b2 b3 b5 (by simp; omega) (t := some (FloatKind.f64.nearest ((10 ^ 0 : Nat) : Int))) ?_ b6
      exact ten_all (F := eyotlaw1_WeighDigits_l8 n q (D.map dg) (some b, 0) (some b, 0) (some (copyNeg b), 0)) (by omega) (fun f x i => by rw [eyotlaw1_WeighDigits_l8, eat, ht0])
    · obtain ⟨b, b1, b2, b3, b4, b5, b6⟩ := three_point 100 n S B (by omega) (by rw [hSB]; exact d5) hs hb0 hSd hBd (by omega) (by omega)
      rw [hBl] at b6
      rw [isNilF hb0, Bool.not_false, cond_true, cond_true, room_inD (by simp; omega), room_inD (by simp; omega), room_inD (by simp; omega)]
      simp only [Option.bind_some]
      cases hmo : (Int.tmod m 2 == 1)
      · rw [cond_false]
        refine digits_block b1 b2 b3 b5 (by simp; omega) (t := some (FloatKind.f64.nearest ((10 ^ t : Nat) : Int))) ?_ b6
        exact ten_all (F := eyotlaw1_WeighDigits_l6 n q (D.map dg) (some b, 0) (some b, 0) (some (copyNeg b), 0)) (by omega) (fun f x i => by rw [eyotlaw1_WeighDigits_l6, eat])
      · rw [cond_true, room_inD (by simp; omega)]
        refine digits_block b1 b2 b4 b5 (by simp; omega) (t := some (FloatKind.f64.nearest ((10 ^ t : Nat) : Int))) ?_ b6
        exact ten_all (F := eyotlaw1_WeighDigits_l5 n q (D.map dg) (some b, 0) (some b, 0) (some (copyNeg b), 0)) (by omega) (fun f x i => by rw [eyotlaw1_WeighDigits_l5, eat])
end Go.Pi

