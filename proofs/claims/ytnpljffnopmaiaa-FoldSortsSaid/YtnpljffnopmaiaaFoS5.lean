import Derived.Test.YtnpljffnopmaiaaFoS4
/-
  WHAT fold.Sort GIVES.
-/
set_option linter.all false
namespace Go.Pi
theorem stable_ok (l : List Fl) (hl : l.length ≤ 39) (hw : ∀ x ∈ l, FlW x) : ∃ X, slices_stableCmpFunc 100 l ((l.length : Nat) : Int) = some X ∧ Rises X ∧ X.Perm l := by
  unfold slices_stableCmpFunc
  by_cases h : l.length < 20
  · have e0 : slices_stableCmpFunc_l0 ((l.length : Nat) : Int) 100 0 20 l = some (l, 0) := by rw [slices_stableCmpFunc_l0, decide_neg (by omega), cond_false]
    obtain ⟨X, x1, x2, x3⟩ := ins_ok l [] [] 100 (by omega) (by simp; omega) hw
    have x1' : slices_insertionSortCmpFunc 100 l 0 ((l.length : Nat) : Int) = some X := by simpa using x1
    have hX := x3.length_eq
    have e1 : slices_stableCmpFunc_l1 ((l.length : Nat) : Int) 100 20 X = some X := by rw [slices_stableCmpFunc_l1, decide_neg (by omega), cond_false]
    rw [e0]
    simp only [Option.bind_some]
    rw [x1', Option.bind_some, e1, Option.bind_some, keepL_len hX]
    exact ⟨X, rfl, x2, x3⟩
  · obtain ⟨B, hB⟩ : ∃ B, B = l.take 20 := ⟨_, rfl⟩
    obtain ⟨D, hD⟩ : ∃ D, D = l.drop 20 := ⟨_, rfl⟩
    have hBD : l = B ++ D := by rw [hB, hD, List.take_append_drop]
    have nB : B.length = 20 := by rw [hB, List.length_take]; omega
    have nD : D.length = l.length - 20 := by rw [hD, List.length_drop]
    obtain ⟨X, x1, x2, x3⟩ := ins_ok B [] D 99 (by omega) (by simp; omega) (fun x hx => hw x (by rw [hBD]; exact List.mem_append_left _ hx))
    have nX : X.length = 20 := by rw [x3.length_eq, nB]
    have x1' : slices_insertionSortCmpFunc 99 l 0 20 = some (X ++ D) := by
      have : slices_insertionSortCmpFunc 99 ([] ++ (B ++ D)) ((([] : List Fl).length : Nat) : Int) ((([] ++ B).length : Nat) : Int) = some (X ++ D) := x1
      rw [List.nil_append, List.nil_append, ← hBD, nB] at this
      exact this
    obtain ⟨Y, y1, y2, y3⟩ := ins_ok D X [] 100 (by omega) (by simp; omega) (fun x hx => hw x (by rw [hBD]; exact List.mem_append_right _ hx))
    have nY : Y.length = l.length - 20 := by rw [y3.length_eq, nD]
    have y1' : slices_insertionSortCmpFunc 100 (X ++ D) 20 ((l.length : Nat) : Int) = some (X ++ Y) := by
      have : (((X ++ D).length : Nat) : Int) = ((l.length : Nat) : Int) := by rw [List.length_append]; omega
      rw [List.append_nil, List.append_nil, nX, this] at y1
      exact y1
    have e0 : slices_stableCmpFunc_l0 ((l.length : Nat) : Int) 100 0 20 l = some (X ++ D, 20) := by
      have w : IntKind.i64.wrap (20 + 20) = 40 := by decide
      rw [slices_stableCmpFunc_l0, decide_pos (by omega), cond_true, x1', Option.bind_some, w, slices_stableCmpFunc_l0, decide_neg (by omega), cond_false]
    rw [e0]
    simp only [Option.bind_some]
    rw [y1', Option.bind_some]
    have hperm : (X ++ Y).Perm l := by rw [hBD]; exact x3.append y3
    by_cases hn : l.length = 20
    · have hY : Y = [] := List.length_eq_zero_iff.1 (by omega)
      subst hY
      have e1 : slices_stableCmpFunc_l1 ((l.length : Nat) : Int) 100 20 (X ++ []) = some (X ++ []) := by rw [slices_stableCmpFunc_l1, decide_neg (by omega), cond_false]
      rw [e1, Option.bind_some, keepL_len hperm.length_eq]
      exact ⟨X ++ [], rfl, by rw [List.append_nil]; exact x2, hperm⟩
    · obtain ⟨Z, z1, z2, z3⟩ := sym_ok 99 [] X Y [] (by omega) (by omega) x2 y2 (fun x hx => hw x (hperm.mem_iff.1 hx)) (by omega) (by simp; omega)
      have z1' : slices_symMergeCmpFunc 99 (X ++ Y) 0 20 ((l.length : Nat) : Int) = some Z := by
        rw [List.append_nil, List.nil_append, List.nil_append, List.append_nil] at z1
        have e1 : ((([] : List Fl).length + X.length + Y.length : Nat) : Int) = ((l.length : Nat) : Int) := by simp; omega
        have e2 : ((([] : List Fl).length + X.length : Nat) : Int) = 20 := by simp; omega
        rw [e1, e2] at z1
        exact z1
      have zp : Z.Perm l := z3.trans hperm
      have e1 : slices_stableCmpFunc_l1 ((l.length : Nat) : Int) 100 20 (X ++ Y) = some Z := by
        have w1 : IntKind.i64.wrap (2 * 20) = 40 := by decide
        have w2 : IntKind.i64.wrap (0 + 20) = 20 := by decide
        have w3 : IntKind.i64.wrap (20 * 2) = 40 := by decide
        rw [slices_stableCmpFunc_l1, decide_pos (by omega), cond_true, w1, slices_stableCmpFunc_l2, decide_neg (by omega), cond_false]
        simp only [Option.bind_some]
        rw [w2, decide_pos (by omega), cond_true, z1', Option.bind_some, w3, slices_stableCmpFunc_l1, decide_neg (by omega), cond_false]
      rw [e1, Option.bind_some, keepL_len zp.length_eq]
      exact ⟨Z, rfl, z2, zp⟩
theorem clone_ok (l : List Fl) (hl : l.length ≤ 900) : slices_Clone 100 l = some l := by
  unfold slices_Clone
  rw [room8 (by simp; omega), List.nil_append]
  cases l with
  | nil => rfl
  | cons => rfl
theorem foldSort_is (l : List Fl) (hl : l.length ≤ 39) (hw : ∀ x ∈ l, FlW x) : ∃ X, fold_Sort 100 l = some X ∧ Rises X ∧ X.Perm l := by
  obtain ⟨X, x1, x2, x3⟩ := stable_ok l hl hw
  refine ⟨X, ?_, x2, x3⟩
  unfold fold_Sort slices_SortStableFunc
  rw [clone_ok l (by omega), Option.bind_some, x1, Option.bind_some, keepL_len x3.length_eq]
  rfl
/-! ### two sorted rows of the same numbers are one by keys -/
theorem rises_eq {X Y : List Fl} (h1 : Rises X) (h2 : Rises Y) (h : X.Perm Y) : X.map K = Y.map K := by
  refine List.Perm.eq_of_pairwise (le := fun a b => a ≤ b) (fun a b _ _ p q => Nat.le_antisymm p q) ?_ ?_ (h.map K)
  · exact List.pairwise_map.2 h1
  · exact List.pairwise_map.2 h2
theorem sameAll_l0 (X Y : List Fl) (hn : X.length ≤ 90) (he : X.map K = Y.map K) (hX : ∀ x ∈ X, FlW x) (hY : ∀ y ∈ Y, FlW y) : ∀ (n f i : Nat), X.length - i = n → n < f → eyotref1_SameAll_l0 X Y f (i : Int) = some (Sum.inl ())
  | 0, f + 1, i, h1, h2 => by rw [eyotref1_SameAll_l0, decide_neg (by omega), cond_false]
  | n + 1, f + 1, i, h1, h2 => by
    have hl : X.length = Y.length := by simpa using congrArg List.length he
    obtain ⟨x, x1, x2⟩ := get_some (l := X) (i := i) (by omega)
    obtain ⟨y, y1, y2⟩ := get_some (l := Y) (i := i) (by omega)
    have hk : K x = K y := by
      have := congrArg (fun l => l[i]?) he
      simpa [x1, y1] using this
    have w1 : IntKind.i64.wrap ((i : Int) + 1) = ((i + 1 : Nat) : Int) := by rw [w64f (by omega) (by omega)]; omega
    rw [eyotref1_SameAll_l0, decide_pos (by omega), cond_true, at_nat, at_nat, x1, y1, Option.bind_some, Option.bind_some, ref_Same f x y (hX x x2) (hY y y2), decide_pos hk, Option.bind_some, Bool.not_true, cond_false, w1]
    exact sameAll_l0 X Y hn he hX hY n f (i + 1) (by omega) (by omega)
theorem sameAll_ok (X Y : List Fl) (hn : X.length ≤ 90) (he : X.map K = Y.map K) (hX : ∀ x ∈ X, FlW x) (hY : ∀ y ∈ Y, FlW y) : eyotref1_SameAll 100 X Y = some true := by
  have hl : X.length = Y.length := by simpa using congrArg List.length he
  unfold eyotref1_SameAll
  have h0 : (((X.length : Nat) : Int) != ((Y.length : Nat) : Int)) = false := by simp; omega
  have := sameAll_l0 X Y hn he hX hY X.length 100 0 rfl (by omega)
  have h1 : eyotref1_SameAll_l0 X Y 100 0 = some (Sum.inl ()) := this
  rw [h0, cond_false, h1]
  rfl
theorem eq_self (a : Fl) : (fOrd a a == some .eq) = decide (isF a) := by
  have h := ne_selfF a
  rw [bne, Bool.not_eq_eq_eq_not] at h
  rw [h, Bool.not_not]
theorem sorted_get {X : List Fl} (h : Rises X) {i j : Nat} {x y : Fl} (hi : X[i]? = some x) (hj : X[j]? = some y) (hij : i ≤ j) : K x ≤ K y := by
  by_cases e : i = j
  · subst e; rw [hi] at hj; injection hj with hj; subst hj; exact Nat.le_refl _
  · obtain ⟨a1, a2⟩ := List.getElem?_eq_some_iff.1 hi
    obtain ⟨b1, b2⟩ := List.getElem?_eq_some_iff.1 hj
    have := List.pairwise_iff_getElem.1 h i j a1 b1 (by omega)
    rw [a2, b2] at this
    exact this
end Go.Pi

