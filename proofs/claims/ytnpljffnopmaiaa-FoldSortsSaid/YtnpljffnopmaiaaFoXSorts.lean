import Derived.Test.YtnpljffnopmaiaaFoS5
/-
  FoldSorts, in plain words.
-/
set_option linter.all false
namespace Go.Pi
theorem sorts_l0 (l X : List Fl) (h : Rises X) (hn : X.length ≤ 90) (hX : ∀ x ∈ X, FlW x) : ∀ (n f i : Nat), 0 < i → X.length - i = n → n < f → eyotlaw2_FoldSorts_l0 l X f (i : Int) = some (Sum.inl ())
  | 0, f + 1, i, h0, h1, h2 => by rw [eyotlaw2_FoldSorts_l0, decide_neg (by omega), cond_false]
  | n + 1, f + 1, i, h0, h1, h2 => by
    obtain ⟨x, x1, x2⟩ := get_some (l := X) (i := i - 1) (by omega)
    obtain ⟨y, y1, y2⟩ := get_some (l := X) (i := i) (by omega)
    have w1 : IntKind.i64.wrap ((i : Int) - 1) = ((i - 1 : Nat) : Int) := by rw [w64f (by omega) (by omega)]; omega
    have w2 : IntKind.i64.wrap ((i : Int) + 1) = ((i + 1 : Nat) : Int) := by rw [w64f (by omega) (by omega)]; omega
    have hk : keyF x ≤ keyF y := sorted_get h x1 y1 (by omega)
    have hc : decide (cmpN (keyF x) (keyF y) > 0) = false := by
      unfold cmpN
      split
      · rfl
      · rw [if_neg (by omega)]; rfl
    rw [eyotlaw2_FoldSorts_l0, decide_pos (by omega), cond_true, w1, at_nat, at_nat, x1, y1, Option.bind_some, Option.bind_some, ref_Order f x y (hX x x2) (hX y y2), Option.bind_some, hc, cond_false, w2]
    exact sorts_l0 l X h hn hX n f (i + 1) (by omega) (by omega) (by omega)
theorem sorts_pure (l : List Fl) (t : Int) (hw : ∀ w ∈ l, FlW w) (hl : l.length ≤ lenMax) (ht : IntKind.min .u8 ≤ t ∧ t ≤ IntKind.max .u8) : ∃ k, eyotlaw2_FoldSorts k l t = some true := by
  refine ⟨100, ?_⟩
  have t0 : (0 : Int) ≤ t := ht.1
  have t1 : t ≤ 255 := ht.2
  obtain ⟨q, rfl⟩ := Int.eq_ofNat_of_zero_le t0
  unfold eyotlaw2_FoldSorts
  rw [begun_fold, Option.bind_some, Bool.not_true, cond_false]
  by_cases h0 : l.length = 0
  · have : (((l.length : Nat) : Int) == 0) = true := by rw [h0]; rfl
    rw [this, cond_true, Option.bind_some, cond_true]
  have h0' : (((l.length : Nat) : Int) == 0) = false := by rw [beq_eq_false_iff_ne]; omega
  rw [h0', cond_false]
  by_cases h : 30 < l.length
  · rw [decide_pos (by omega), Option.bind_some, cond_true]
  rw [decide_neg (by omega), Option.bind_some, cond_false]
  unfold nz
  rw [if_neg (by omega)]
  obtain ⟨s, hs⟩ : ∃ s, s = q % l.length := ⟨_, rfl⟩
  have hsl : s < l.length := by rw [hs]; exact Nat.mod_lt _ (by omega)
  have et : Int.tmod (IntKind.i64.wrap (q : Int)) ((l.length : Nat) : Int) = (s : Int) := by
    rw [w64f (by omega) (by omega), hs]; rfl
  have c1 : cutI l.length (some (s : Int)) none = some (s, l.length) := by
    unfold cutI
    simp only []
    rw [if_pos (by omega)]
    rfl
  have c2 : cutI l.length none (some (s : Int)) = some (0, s) := by
    unfold cutI
    simp only []
    rw [if_pos (by omega)]
    rfl
  have s1 : sl l (s, l.length) = l.drop s := by unfold sl; exact List.take_of_length_le (by simp)
  have s2 : sl l (0, s) = l.take s := by unfold sl; simp
  obtain ⟨X, x1, x2, x3⟩ := foldSort_is l (by omega) hw
  have hp : (l.drop s ++ l.take s).Perm l := by
    have := List.perm_append_comm (l₁ := l.drop s) (l₂ := l.take s)
    rwa [List.take_append_drop] at this
  obtain ⟨Y, y1, y2, y3⟩ := foldSort_is (l.drop s ++ l.take s) (by rw [hp.length_eq]; omega) (fun w hm => hw w (hp.mem_iff.1 hm))
  have hX : ∀ x ∈ X, FlW x := fun x hx => hw x (x3.mem_iff.1 hx)
  have hY : ∀ y ∈ Y, FlW y := fun y hy => hw y (hp.mem_iff.1 (y3.mem_iff.1 hy))
  have hsame := sameAll_ok X Y (by rw [x3.length_eq]; omega) (rises_eq x2 y2 (x3.trans (y3.trans hp).symm)) hX hY
  obtain ⟨a, a1, a2⟩ := least_ok l (by omega) hw
  obtain ⟨c, c1', c2'⟩ := most_ok l (by omega) hw
  have hlen : (((X.length : Nat) : Int) != ((l.length : Nat) : Int)) = false := by rw [x3.length_eq]; simp
  have hl0 := sorts_l0 l X x2 (by rw [x3.length_eq]; omega) hX (X.length - 1) 100 1 (by omega) rfl (by rw [x3.length_eq]; omega)
  have hl0' : eyotlaw2_FoldSorts_l0 l X 100 1 = some (Sum.inl ()) := hl0
  rw [x1, Option.bind_some, et, c1, Option.bind_some, room8 (by rw [s1]; simp; omega), c2, Option.bind_some, room8 (by rw [s1, s2]; simp; omega), s1, s2, List.nil_append, y1, Option.bind_some, hlen, cond_false, hsame, Option.bind_some, Bool.not_true, Option.bind_some, cond_false, hl0', Option.bind_some]
  have htw := a2.two c2'
  cases X with
  | nil => have := x3.length_eq; simp at this; omega
  | cons x X =>
    have hx0 : at? (x :: X) (0 : Int) = some x := rfl
    have hxl : x ∈ l := x3.mem_iff.1 (by simp)
    have hmin : ∀ w ∈ l, keyF x ≤ keyF w := fun w hm => by
      rcases List.mem_cons.1 (x3.mem_iff.2 hm) with rfl | hm
      · exact Nat.le_refl _
      · exact (List.pairwise_cons.1 x2).1 w hm
    obtain ⟨av, ab⟩ := a
    obtain ⟨cv, cb⟩ := c
    simp only at htw
    subst htw
    show ((fold_Least 100 l).bind fun r56 => (fold_Most 100 l).bind fun r59 => _) = some true
    rw [a1, Option.bind_some, c1', Option.bind_some]
    cases hab : ab with
    | false =>
      have hxf : ¬ isF x := (a2.none hab).2 x hxl
      rw [Bool.not_false, cond_true, cond_true, hx0, Option.bind_some, Option.bind_some, ne_selfF, decide_neg hxf]
      rfl
    | true =>
      obtain ⟨i1, i2, i3⟩ := a2.some hab
      obtain ⟨j1, j2, j3⟩ := c2'.some hab
      have hxf : isF x := (isF_key (hw x hxl)).2 (by
        have g1 := hmin _ i1
        have g2 := keyF_num (hw _ i1) i2
        omega)
      have k1 : keyF av = keyF x := by
        have g1 : keyF x ≤ keyF av := hmin _ i1
        have g2 : keyF av ≤ keyF x := by simpa using i3 x hxl hxf
        omega
      have k2 : keyF av ≤ keyF cv := by simpa using i3 _ j1 j2
      have hc : decide (cmpN (keyF av) (keyF cv) ≤ 0) = true := by
        unfold cmpN
        split
        · rfl
        · rw [if_neg (by omega)]; rfl
      rw [Bool.not_true, cond_false, cond_true, hx0, Option.bind_some, ref_Same _ _ _ (a2.W hw) (hw x hxl), decide_pos k1, Option.bind_some, cond_true, ref_Order _ _ _ (a2.W hw) (c2'.W hw), Option.bind_some, hc, cond_true, eq_self, decide_pos j2]
      rfl
end Go.Pi

