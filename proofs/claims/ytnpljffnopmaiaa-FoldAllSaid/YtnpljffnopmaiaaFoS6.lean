import Derived.Test.YtnpljffnopmaiaaFoS5
/-
  THE REFERENCE's LEAST, MOST, SUM.
-/
set_option linter.all false
namespace Go.Pi
theorem eq_self (a : Fl) : (fOrd a a == some .eq) = decide (isF a) := by
  have h := ne_selfF a
  rw [bne, Bool.not_eq_eq_eq_not] at h
  rw [h, Bool.not_not]
theorem sorted_get {X : List Fl} (h : Rises X) {i j : Nat} {x y : Fl} (hi : X[i]? = some x) (hj : X[j]? = some y) (hij : i ≤ j) : K x ≤ K y := by
  by_cases e : i = j
  · subst e; rw [hi] at hj; injection hj with hj; subst hj; exact Nat.le_refl _
  · obtain ⟨a1, a2⟩ := List.getElem?_eq_some_iff.1 hi
    obtain ⟨b1, b2⟩ := List.getElem?_eq_some_iff.1 hj
    have := List.pairwise_iff_getElem.1 h i j a1 b1 (by omega)
    rw [a2, b2] at this
    exact this
theorem refLeast_is (l : List Fl) (hl : l.length ≤ 40) (hw : ∀ x ∈ l, FlW x) : ∃ q, eyotref1_Least 100 l = some q ∧ PickOk false l q := by
  obtain ⟨X, x1, x2, x3⟩ := refSort_is l hl hw
  unfold eyotref1_Least
  rw [x1, Option.bind_some]
  cases X with
  | nil =>
    refine ⟨(some 0, false), rfl, ⟨fun _ => ⟨rfl, fun w hm => ?_⟩, fun e => by cases e⟩⟩
    have := x3.mem_iff.2 hm
    cases this
  | cons x X =>
    have h0 : at? (x :: X) (0 : Int) = some x := rfl
    have hn : ((((x :: X).length : Nat) : Int) == 0) = false := by simp; omega
    have hx : x ∈ l := x3.mem_iff.1 (by simp)
    have hmin : ∀ w ∈ l, K x ≤ K w := fun w hm => by
      have hm := x3.mem_iff.2 hm
      rcases List.mem_cons.1 hm with rfl | hm
      · exact Nat.le_refl _
      · exact (List.pairwise_cons.1 x2).1 w hm
    rw [hn, cond_false, h0, Option.bind_some, Option.bind_some, Option.bind_some, ne_selfF]
    by_cases hf : isF x
    · rw [decide_pos hf, Bool.not_true, cond_false, Option.bind_some]
      exact ⟨(x, true), rfl, ⟨fun e => (by cases e), fun _ => ⟨hx, hf, fun w hm _ => by simpa using hmin w hm⟩⟩⟩
    · rw [decide_neg hf, Bool.not_false, cond_true]
      refine ⟨(some 0, false), rfl, ⟨fun _ => ⟨rfl, fun w hm hwf => ?_⟩, fun e => by cases e⟩⟩
      have a := hmin w hm
      have b := keyF_num (hw w hm) hwf
      have c := keyF_not hf
      have a' : keyF x ≤ keyF w := a
      omega
theorem most_l0 (X : List Fl) (hn : X.length ≤ 90) : ∀ (n f : Nat), n ≤ X.length → n < f → (∀ i z, n ≤ i → X[i]? = some z → ¬ isF z) →
    (eyotref1_Most_l0 X f ((n : Int) - 1) = some (Sum.inl ()) ∧ ∀ z ∈ X, ¬ isF z) ∨ (∃ (i : Nat) (z : Fl), eyotref1_Most_l0 X f ((n : Int) - 1) = some (Sum.inr z) ∧ X[i]? = some z ∧ isF z ∧ ∀ j w, i < j → X[j]? = some w → ¬ isF w)
  | 0, f + 1, h1, h2, h3 => by
    refine .inl ⟨by rw [eyotref1_Most_l0, decide_neg (by omega), cond_false], fun z hz => ?_⟩
    obtain ⟨i, hi, e⟩ := List.getElem_of_mem hz
    exact h3 i z (Nat.zero_le _) (by rw [List.getElem?_eq_getElem hi, e])
  | n + 1, f + 1, h1, h2, h3 => by
    obtain ⟨z, z1, z2⟩ := get_some (l := X) (i := n) (by omega)
    have e1 : (((n + 1 : Nat) : Int) - 1) = (n : Int) := by omega
    have w1 : IntKind.i64.wrap ((n : Int) - 1) = (n : Int) - 1 := w64f (by omega) (by omega)
    rw [e1, eyotref1_Most_l0, decide_pos (by omega), cond_true, at_nat, z1, Option.bind_some, Option.bind_some, Option.bind_some, eq_self, w1]
    by_cases hf : isF z
    · rw [decide_pos hf, cond_true]
      exact .inr ⟨n, z, rfl, z1, hf, fun j w hj hw => h3 j w (by omega) hw⟩
    · rw [decide_neg hf, cond_false]
      refine most_l0 X hn n f (by omega) (by omega) (fun i w hi hw => ?_)
      by_cases e : i = n
      · subst e; rw [z1] at hw; injection hw with hw; subst hw; exact hf
      · exact h3 i w (by omega) hw
theorem refMost_is (l : List Fl) (hl : l.length ≤ 40) (hw : ∀ x ∈ l, FlW x) : ∃ q, eyotref1_Most 100 l = some q ∧ PickOk true l q := by
  obtain ⟨X, x1, x2, x3⟩ := refSort_is l hl hw
  have hn := x3.length_eq
  unfold eyotref1_Most
  have w1 : IntKind.i64.wrap (((X.length : Nat) : Int) - 1) = ((X.length : Nat) : Int) - 1 := w64f (by omega) (by omega)
  rw [x1, Option.bind_some, w1]
  rcases most_l0 X (by omega) X.length 100 (Nat.le_refl _) (by omega) (fun i z h1 h2 => by rw [List.getElem?_eq_none h1] at h2; cases h2) with ⟨h1, h2⟩ | ⟨i, z, h1, h2, h3, h4⟩
  · rw [h1]
    exact ⟨(some 0, false), rfl, ⟨fun _ => ⟨rfl, fun w hm => h2 w (x3.mem_iff.2 hm)⟩, fun e => by cases e⟩⟩
  · rw [h1]
    refine ⟨(z, true), rfl, ⟨fun e => (by cases e), fun _ => ⟨x3.mem_iff.1 (List.mem_of_getElem? h2), h3, fun w hm hwf => ?_⟩⟩⟩
    obtain ⟨j, hj, e⟩ := List.getElem_of_mem (x3.mem_iff.2 hm)
    have hj' : X[j]? = some w := by rw [List.getElem?_eq_getElem hj, e]
    by_cases hji : j ≤ i
    · simpa using sorted_get x2 hj' h2 hji
    · exact absurd hwf (h4 j w (by omega) hj')
theorem refsum_l0 (l : List Fl) (hl : l.length ≤ 1000) : ∀ (r : List Fl) (f i : Nat) (acc : Fl), l.drop i = r → r.length < f → eyotref1_Sum_l0 l f acc i = some (r.foldl fAdd acc)
  | [], f + 1, i, acc, hr, hf => by
    have : l.length ≤ i := by simpa using hr
    rw [eyotref1_Sum_l0, decide_neg (by omega), cond_false]
    rfl
  | c :: r, f + 1, i, acc, hr, hf => by
    obtain ⟨h1, h2, h3⟩ := at_dropF hr
    have hi : IntKind.i64.wrap ((i : Int) + 1) = ((i + 1 : Nat) : Int) := by rw [w64f (by omega) (by omega)]; omega
    rw [eyotref1_Sum_l0, decide_pos (by omega), cond_true, h1, Option.bind_some, hi, refsum_l0 l hl r f (i + 1) _ h2 (by simp at hf; omega)]
    rfl
theorem refSum_is (l : List Fl) (hl : l.length ≤ 90) : eyotref1_Sum 100 l = some (sumF l) := by
  unfold eyotref1_Sum
  have h : eyotref1_Sum_l0 l 100 (some 0) 0 = some (sumF l) := refsum_l0 l (by omega) l 100 0 _ rfl (by omega)
  rw [h]
  rfl
end Go.Pi

