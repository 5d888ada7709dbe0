import Derived.Test.YtnpljffnopmaiaaFoQ
/-
  FoldMerges, in plain words.
-/
set_option linter.all false
namespace Go.Pi
theorem merges_pure (l m : List Fl) (hl : ∀ w ∈ l, FlW w) (nl : l.length ≤ lenMax) (hm : ∀ w ∈ m, FlW w) (nm : m.length ≤ lenMax) : ∃ k, eyotlaw2_FoldMerges k l m = some true := by
  refine ⟨100, ?_⟩
  unfold eyotlaw2_FoldMerges
  rw [begun_fold, Option.bind_some, Bool.not_true, cond_false]
  by_cases h : 15 < l.length
  · rw [decide_pos (by omega), cond_true, Option.bind_some, cond_true]
  rw [decide_neg (by omega), cond_false]
  by_cases h' : 15 < m.length
  · rw [decide_pos (by omega), Option.bind_some, cond_true]
  rw [decide_neg (by omega), Option.bind_some, cond_false]
  have hw2 : ∀ w ∈ l ++ m, FlW w := fun w hh => by
    rcases List.mem_append.1 hh with hh | hh
    · exact hl w hh
    · exact hm w hh
  obtain ⟨a, a1, a2⟩ := least_ok l (by omega) hl
  obtain ⟨b, b1, b2⟩ := least_ok m (by omega) hm
  obtain ⟨c, c1, c2⟩ := least_ok (l ++ m) (by simp; omega) hw2
  obtain ⟨x, x1, x2⟩ := most_ok l (by omega) hl
  obtain ⟨y, y1, y2⟩ := most_ok m (by omega) hm
  obtain ⟨z, z1, z2⟩ := most_ok (l ++ m) (by simp; omega) hw2
  have e1 := a2.two x2
  have e2 := b2.two y2
  have e3 := c2.two z2
  have ha := a2.W hl
  have hb := b2.W hm
  have hc := c2.W hw2
  have hx := x2.W hl
  have hy := y2.W hm
  have hz := z2.W hw2
  rw [room8 (by simp; omega), room8 (by simp; omega), List.nil_append, a1, Option.bind_some, b1, Option.bind_some, c1, Option.bind_some, x1, Option.bind_some, y1, Option.bind_some, z1, Option.bind_some]
  rw [ref_Order _ _ _ hb ha, ref_Order _ _ _ hy hx, ref_Same _ _ _ hc hb, ref_Same _ _ _ hz hy, ref_Same _ _ _ hz hx, ref_Same _ _ _ hc ha]
  obtain ⟨av, ab⟩ := a
  obtain ⟨bv, bb⟩ := b
  obtain ⟨cv, cb⟩ := c
  obtain ⟨xv, xb⟩ := x
  obtain ⟨yv, yb⟩ := y
  obtain ⟨zv, zb⟩ := z
  simp only at e1 e2 e3
  subst e1 e2 e3
  have cl : cb = (ab || bb) := by
    cases hcb : cb with
    | false =>
      have := (c2.none hcb).2
      cases hab : ab with
      | true => exact absurd (a2.some hab).2.1 (this _ (List.mem_append_left _ (a2.some hab).1))
      | false =>
        cases hbb : bb with
        | true => exact absurd (b2.some hbb).2.1 (this _ (List.mem_append_right _ (b2.some hbb).1))
        | false => rfl
    | true =>
      obtain ⟨q1, q2, _⟩ := c2.some hcb
      rcases List.mem_append.1 q1 with q1 | q1
      · cases hab : ab with
        | true => rfl
        | false => exact absurd q2 ((a2.none hab).2 _ q1)
      · cases hbb : bb with
        | true => simp
        | false => exact absurd q2 ((b2.none hbb).2 _ q1)
  have f1 : ∀ (hcb : cb = true) (hab : ab = true), keyF cv ≤ keyF av ∧ keyF xv ≤ keyF zv := fun hcb hab =>
    ⟨by simpa using (c2.some hcb).2.2 av (List.mem_append_left _ (a2.some hab).1) (a2.some hab).2.1, by simpa using (z2.some hcb).2.2 xv (List.mem_append_left _ (x2.some hab).1) (x2.some hab).2.1⟩
  have f2 : ∀ (hcb : cb = true) (hbb : bb = true), keyF cv ≤ keyF bv ∧ keyF yv ≤ keyF zv := fun hcb hbb =>
    ⟨by simpa using (c2.some hcb).2.2 bv (List.mem_append_right _ (b2.some hbb).1) (b2.some hbb).2.1, by simpa using (z2.some hcb).2.2 yv (List.mem_append_right _ (y2.some hbb).1) (y2.some hbb).2.1⟩
  have g1 : cb = true → (ab = true ∧ keyF av ≤ keyF cv) ∨ (bb = true ∧ keyF bv ≤ keyF cv) := fun hcb => by
    obtain ⟨q1, q2, _⟩ := c2.some hcb
    rcases List.mem_append.1 q1 with q1 | q1
    · cases hab : ab with
      | true => exact .inl ⟨rfl, by simpa using (a2.some hab).2.2 cv q1 q2⟩
      | false => exact absurd q2 ((a2.none hab).2 _ q1)
    · cases hbb : bb with
      | true => exact .inr ⟨rfl, by simpa using (b2.some hbb).2.2 cv q1 q2⟩
      | false => exact absurd q2 ((b2.none hbb).2 _ q1)
  have g2 : cb = true → (ab = true ∧ keyF zv ≤ keyF xv) ∨ (bb = true ∧ keyF zv ≤ keyF yv) := fun hcb => by
    obtain ⟨q1, q2, _⟩ := z2.some hcb
    rcases List.mem_append.1 q1 with q1 | q1
    · cases hab : ab with
      | true => exact .inl ⟨rfl, by simpa using (x2.some hab).2.2 zv q1 q2⟩
      | false => exact absurd q2 ((x2.none hab).2 _ q1)
    · cases hbb : bb with
      | true => exact .inr ⟨rfl, by simpa using (y2.some hbb).2.2 zv q1 q2⟩
      | false => exact absurd q2 ((y2.none hbb).2 _ q1)
  have lt1 : ∀ p q : Nat, decide (cmpN p q < 0) = decide (p < q) := fun p q => by
    unfold cmpN
    by_cases h : p < q
    · rw [if_pos h, decide_pos h]; rfl
    · rw [if_neg h, decide_neg h]; split <;> rfl
  have gt1 : ∀ p q : Nat, decide (cmpN p q > 0) = decide (q < p) := fun p q => by
    unfold cmpN
    by_cases h : q < p
    · rw [if_neg (by omega), if_pos h, decide_pos h]; rfl
    · rw [if_neg h, decide_neg h]; split <;> rfl
  cases hab : ab with
  | false =>
    cases hbb : bb with
    | false =>
      rw [hab, hbb] at cl
      subst cl
      have z1 := (c2.none rfl).1
      have z2 := (z2.none rfl).1
      simp only at z1 z2
      subst z1 z2
      have z0 : (fOrd (some 0) (some 0) == some Ordering.eq) = true := by decide +kernel
      simp only [Bool.or_self, Bool.not_false, Bool.not_true, cond_false, cond_true, Option.bind_some, beq_self_eq_true, z0]
    | true =>
      rw [hab, hbb] at cl
      subst cl
      have h1 := f2 rfl hbb
      have h2 : keyF bv ≤ keyF cv := by
        rcases g1 rfl with ⟨e, _⟩ | ⟨_, h⟩
        · rw [hab] at e; cases e
        · exact h
      have h3 : keyF zv ≤ keyF yv := by
        rcases g2 rfl with ⟨e, _⟩ | ⟨_, h⟩
        · rw [hab] at e; cases e
        · exact h
      simp only [Bool.false_or, Bool.not_false, Bool.not_true, cond_false, cond_true, Option.bind_some, beq_self_eq_true]
      rw [decide_pos (by omega), decide_pos (by omega)]
      rfl
  | true =>
    rw [hab, Bool.true_or] at cl
    subst cl
    have h1 := f1 rfl hab
    have tt : (true == true) = true := rfl
    simp only [Bool.not_false, Bool.not_true, cond_false, cond_true, Option.bind_some, tt]
    cases hbb : bb with
    | false =>
      have h2 : keyF av ≤ keyF cv := by
        rcases g1 rfl with ⟨_, h⟩ | ⟨e, _⟩
        · exact h
        · rw [hbb] at e; cases e
      have h3 : keyF zv ≤ keyF xv := by
        rcases g2 rfl with ⟨_, h⟩ | ⟨e, _⟩
        · exact h
        · rw [hbb] at e; cases e
      simp only [cond_false, Option.bind_some]
      rw [decide_pos (by omega), decide_pos (by omega)]
      rfl
    | true =>
      have h4 := f2 rfl hbb
      simp only [cond_true, Option.bind_some, lt1, gt1]
      have h2 : keyF av ≤ keyF cv ∨ keyF bv ≤ keyF cv := by
        rcases g1 rfl with ⟨_, h⟩ | ⟨_, h⟩
        · exact .inl h
        · exact .inr h
      have h3 : keyF zv ≤ keyF xv ∨ keyF zv ≤ keyF yv := by
        rcases g2 rfl with ⟨_, h⟩ | ⟨_, h⟩
        · exact .inl h
        · exact .inr h
      by_cases d1 : keyF bv < keyF av
      · rw [decide_pos d1]
        by_cases d2 : keyF xv < keyF yv
        · rw [decide_pos d2, decide_pos (p := keyF cv = keyF bv) (by omega), decide_pos (p := keyF zv = keyF yv) (by omega)]; rfl
        · rw [decide_neg d2, decide_pos (p := keyF cv = keyF bv) (by omega), decide_pos (p := keyF zv = keyF xv) (by omega)]; rfl
      · rw [decide_neg d1]
        by_cases d2 : keyF xv < keyF yv
        · rw [decide_pos d2, decide_pos (p := keyF cv = keyF av) (by omega), decide_pos (p := keyF zv = keyF yv) (by omega)]; rfl
        · rw [decide_neg d2, decide_pos (p := keyF cv = keyF av) (by omega), decide_pos (p := keyF zv = keyF xv) (by omega)]; rfl
end Go.Pi

