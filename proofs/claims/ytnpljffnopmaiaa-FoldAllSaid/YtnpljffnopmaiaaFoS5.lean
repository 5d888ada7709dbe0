import Derived.Test.YtnpljffnopmaiaaFoS4
/-
  WHAT fold.Sort AND THE REFERENCE's Sort GIVE.
-/
set_option linter.all false
namespace Go.Pi
theorem stable_ok (l : List Fl) (hl : l.length ≤ 39) (hw : ∀ x ∈ l, FlW x) : ∃ X, slices_stableCmpFunc 100 l ((l.length : Nat) : Int) = some X ∧ Rises X ∧ X.Perm l := by
  unfold slices_stableCmpFunc
  by_cases h : l.length < 20
  · have e0 : slices_stableCmpFunc_l0 ((l.length : Nat) : Int) 100 0 20 l = some (l, 0) := by rw [slices_stableCmpFunc_l0, decide_neg (by omega), cond_false]
    obtain ⟨X, x1, x2, x3⟩ := ins_ok l [] [] 100 (by omega) (by simp; omega) hw
    have x1' : slices_insertionSortCmpFunc 100 l 0 ((l.length : Nat) : Int) = some X := by simpa using x1
    have hX := x3.length_eq
    have e1 : slices_stableCmpFunc_l1 ((l.length : Nat) : Int) 100 20 X = some X := by rw [slices_stableCmpFunc_l1, decide_neg (by omega), cond_false]
    rw [e0]
    simp only [Option.bind_some]
    rw [x1', Option.bind_some, e1, Option.bind_some, keepL_len hX]
    exact ⟨X, rfl, x2, x3⟩
  · obtain ⟨B, hB⟩ : ∃ B, B = l.take 20 := ⟨_, rfl⟩
    obtain ⟨D, hD⟩ : ∃ D, D = l.drop 20 := ⟨_, rfl⟩
    have hBD : l = B ++ D := by rw [hB, hD, List.take_append_drop]
    have nB : B.length = 20 := by rw [hB, List.length_take]; omega
    have nD : D.length = l.length - 20 := by rw [hD, List.length_drop]
    obtain ⟨X, x1, x2, x3⟩ := ins_ok B [] D 99 (by omega) (by simp; omega) (fun x hx => hw x (by rw [hBD]; exact List.mem_append_left _ hx))
    have nX : X.length = 20 := by rw [x3.length_eq, nB]
    have x1' : slices_insertionSortCmpFunc 99 l 0 20 = some (X ++ D) := by
      have : slices_insertionSortCmpFunc 99 ([] ++ (B ++ D)) ((([] : List Fl).length : Nat) : Int) ((([] ++ B).length : Nat) : Int) = some (X ++ D) := x1
      rw [List.nil_append, List.nil_append, ← hBD, nB] at this
      exact this
    obtain ⟨Y, y1, y2, y3⟩ := ins_ok D X [] 100 (by omega) (by simp; omega) (fun x hx => hw x (by rw [hBD]; exact List.mem_append_right _ hx))
    have nY : Y.length = l.length - 20 := by rw [y3.length_eq, nD]
    have y1' : slices_insertionSortCmpFunc 100 (X ++ D) 20 ((l.length : Nat) : Int) = some (X ++ Y) := by
      have : (((X ++ D).length : Nat) : Int) = ((l.length : Nat) : Int) := by rw [List.length_append]; omega
      rw [List.append_nil, List.append_nil, nX, this] at y1
      exact y1
    have e0 : slices_stableCmpFunc_l0 ((l.length : Nat) : Int) 100 0 20 l = some (X ++ D, 20) := by
      have w : IntKind.i64.wrap (20 + 20) = 40 := by decide
      rw [slices_stableCmpFunc_l0, decide_pos (by omega), cond_true, x1', Option.bind_some, w, slices_stableCmpFunc_l0, decide_neg (by omega), cond_false]
    rw [e0]
    simp only [Option.bind_some]
    rw [y1', Option.bind_some]
    have hperm : (X ++ Y).Perm l := by rw [hBD]; exact x3.append y3
    by_cases hn : l.length = 20
    · have hY : Y = [] := List.length_eq_zero_iff.1 (by omega)
      subst hY
      have e1 : slices_stableCmpFunc_l1 ((l.length : Nat) : Int) 100 20 (X ++ []) = some (X ++ []) := by rw [slices_stableCmpFunc_l1, decide_neg (by omega), cond_false]
      rw [e1, Option.bind_some, keepL_len hperm.length_eq]
      exact ⟨X ++ [], rfl, by rw [List.append_nil]; exact x2, hperm⟩
    · obtain ⟨Z, z1, z2, z3⟩ := sym_ok 99 [] X Y [] (by omega) (by omega) x2 y2 (fun x hx => hw x (hperm.mem_iff.1 hx)) (by omega) (by simp; omega)
      have z1' : slices_symMergeCmpFunc 99 (X ++ Y) 0 20 ((l.length : Nat) : Int) = some Z := by
        rw [List.append_nil, List.nil_append, List.nil_append, List.append_nil] at z1
        have e1 : ((([] : List Fl).length + X.length + Y.length : Nat) : Int) = ((l.length : Nat) : Int) := by simp; omega
        have e2 : ((([] : List Fl).length + X.length : Nat) : Int) = 20 := by simp; omega
        rw [e1, e2] at z1
        exact z1
      have zp : Z.Perm l := z3.trans hperm
      have e1 : slices_stableCmpFunc_l1 ((l.length : Nat) : Int) 100 20 (X ++ Y) = some Z := by
        have w1 : IntKind.i64.wrap (2 * 20) = 40 := by decide
        have w2 : IntKind.i64.wrap (0 + 20) = 20 := by decide
        have w3 : IntKind.i64.wrap (20 * 2) = 40 := by decide
        rw [slices_stableCmpFunc_l1, decide_pos (by omega), cond_true, w1, slices_stableCmpFunc_l2, decide_neg (by omega), cond_false]
        simp only [Option.bind_some]
        rw [w2, decide_pos (by omega), cond_true, z1', Option.bind_some, w3, slices_stableCmpFunc_l1, decide_neg (by omega), cond_false]
      rw [e1, Option.bind_some, keepL_len zp.length_eq]
      exact ⟨Z, rfl, z2, zp⟩
theorem clone_ok (l : List Fl) (hl : l.length ≤ 900) : slices_Clone 100 l = some l := by
  unfold slices_Clone
  rw [room8 (by simp; omega), List.nil_append]
  cases l with
  | nil => rfl
  | cons => rfl
theorem foldSort_is (l : List Fl) (hl : l.length ≤ 39) (hw : ∀ x ∈ l, FlW x) : ∃ X, fold_Sort 100 l = some X ∧ Rises X ∧ X.Perm l := by
  obtain ⟨X, x1, x2, x3⟩ := stable_ok l hl hw
  refine ⟨X, ?_, x2, x3⟩
  unfold fold_Sort slices_SortStableFunc
  rw [clone_ok l (by omega), Option.bind_some, x1, Option.bind_some, keepL_len x3.length_eq]
  rfl
/-! ### the reference -/
theorem ref_l1 (l out : List Fl) (i : Nat) (w : Fl) (hi : l[i]? = some w) (ho : out.length ≤ 900) (hw : FlW w) (hO : ∀ x ∈ out, FlW x) : ∀ (n f : Nat), n ≤ out.length → n < f → (n = out.length ∨ ∀ z, out[n]? = some z → K w < K z) →
    ∃ s : Nat, eyotref1_Sort_l1 l (i : Int) out f (n : Int) = some (s : Int) ∧ s ≤ out.length ∧ (s = 0 ∨ ∀ z, out[s - 1]? = some z → K z ≤ K w) ∧ (s = out.length ∨ ∀ z, out[s]? = some z → K w < K z)
  | 0, f + 1, h1, h2, h3 => by
    refine ⟨0, ?_, h1, .inl rfl, h3⟩
    rw [eyotref1_Sort_l1, decide_neg (by omega), cond_false, Option.bind_some, cond_false]
  | n + 1, f + 1, h1, h2, h3 => by
    obtain ⟨z, z1, z2⟩ := get_some (l := out) (i := n) (by omega)
    have w1 : IntKind.i64.wrap (((n + 1 : Nat) : Int) - 1) = (n : Int) := by rw [w64f (by omega) (by omega)]; omega
    rw [eyotref1_Sort_l1, decide_pos (by omega), cond_true, w1, at_nat, at_nat, z1, hi, Option.bind_some, Option.bind_some, ref_Order f z w (hO z z2) hw, Option.bind_some, Option.bind_some]
    by_cases hlt : K w < K z
    · have hlt' : keyF w < keyF z := hlt
      have : decide (cmpN (keyF z) (keyF w) > 0) = true := by unfold cmpN; rw [if_neg (by omega), if_pos hlt']; rfl
      rw [this, cond_true]
      exact ref_l1 l out i w hi ho hw hO n f (by omega) (by omega) (.inr fun y hy => by rw [z1] at hy; injection hy with hy; subst hy; exact hlt)
    · have hlt' : ¬ keyF w < keyF z := hlt
      have : decide (cmpN (keyF z) (keyF w) > 0) = false := by
        unfold cmpN
        rw [if_neg hlt']
        split <;> rfl
      rw [this, cond_false]
      exact ⟨n + 1, rfl, h1, .inr fun y hy => by rw [Nat.add_sub_cancel, z1] at hy; injection hy with hy; subst hy; omega, h3⟩
theorem put_in {out : List Fl} {w : Fl} {s : Nat} (h : Rises out) (h1 : s = 0 ∨ ∀ z, out[s - 1]? = some z → K z ≤ K w) (h2 : s = out.length ∨ ∀ z, out[s]? = some z → K w < K z) (hs : s ≤ out.length) : Rises (out.take s ++ w :: out.drop s) := by
  have hsplit : Rises (out.take s) ∧ Rises (out.drop s) ∧ ∀ x ∈ out.take s, ∀ y ∈ out.drop s, K x ≤ K y := by
    have : Rises (out.take s ++ out.drop s) := by rw [List.take_append_drop]; exact h
    exact List.pairwise_append.1 this
  have hP : ∀ x ∈ out.take s, K x ≤ K w := last_all hsplit.1 fun z hz => by
    rw [List.getLast?_eq_getElem?, List.getElem?_take, List.length_take] at hz
    split at hz
    · rcases h1 with e | e
      · omega
      · refine e z ?_
        rw [← hz]
        congr 1
        omega
    · cases hz
  have hQ : ∀ y ∈ out.drop s, K w ≤ K y := head_all hsplit.2.1 fun z hz => by
    rw [List.head?_drop] at hz
    rcases h2 with e | e
    · rw [e, List.getElem?_eq_none (Nat.le_refl _)] at hz; cases hz
    · exact Nat.le_of_lt (e z hz)
  exact List.pairwise_append.2 ⟨hsplit.1, List.pairwise_cons.2 ⟨hQ, hsplit.2.1⟩, fun x hx y hy => by
    rcases List.mem_cons.1 hy with rfl | hy
    · exact hP x hx
    · exact hsplit.2.2 x hx y hy⟩
theorem ref_l0 (l : List Fl) (hl : l.length ≤ 40) (hw : ∀ x ∈ l, FlW x) : ∀ (r : List Fl) (f i : Nat) (out : List Fl), l.drop i = r → r.length + 45 < f → Rises out → out.Perm (l.take i) →
    ∃ X, eyotref1_Sort_l0 l f (i : Int) out = some X ∧ Rises X ∧ X.Perm l
  | [], f + 1, i, out, hr, hf, h1, h2 => by
    have hi : l.length ≤ i := by simpa using hr
    refine ⟨out, ?_, h1, by rwa [List.take_of_length_le hi] at h2⟩
    rw [eyotref1_Sort_l0, decide_neg (by omega), cond_false]
  | c :: r, f + 1, i, out, hr, hf, h1, h2 => by
    obtain ⟨d1, d2, d3⟩ := at_dropF hr
    have hc : c ∈ l := List.mem_of_mem_drop (by rw [hr]; simp : c ∈ l.drop i)
    have hi : IntKind.i64.wrap ((i : Int) + 1) = ((i + 1 : Nat) : Int) := by rw [w64f (by omega) (by omega)]; omega
    have ho : out.length = min i l.length := by rw [h2.length_eq, List.length_take]
    have hO : ∀ x ∈ out, FlW x := fun x hx => hw x (List.mem_of_mem_take (h2.mem_iff.1 hx))
    have hc' : l[i]? = some c := by rw [← at_nat]; exact d1
    obtain ⟨s, s1, s2, s3, s4⟩ := ref_l1 l out i c hc' (by omega) (hw c hc) hO out.length f (Nat.le_refl _) (by simp at hf; omega) (.inl rfl)
    have c1 : cutI out.length none (some (s : Int)) = some (0, s) := by
      unfold cutI
      simp only []
      rw [if_pos (by omega)]
      rfl
    have c2 : cutI out.length (some (s : Int)) none = some (s, out.length) := by
      unfold cutI
      simp only []
      rw [if_pos (by omega)]
      rfl
    rw [eyotref1_Sort_l0, decide_pos (by omega), cond_true, s1, Option.bind_some, c1, Option.bind_some, room8 (by simp; omega), d1, Option.bind_some, room8 (by simp; omega), c2, Option.bind_some, room8 (by simp; omega), hi]
    have e : ([] ++ List.take (s - 0) (List.drop (0 + 0) out)) ++ [c] ++ List.take (out.length - s) (List.drop (0 + s) out) = out.take s ++ c :: out.drop s := by
      rw [Nat.zero_add, Nat.zero_add, List.drop_zero, Nat.sub_zero, List.take_of_length_le (l := out.drop s) (by simp)]
      simp
    have ht : l.take (i + 1) = l.take i ++ [c] := by
      rw [List.take_add_one, hc']
      rfl
    obtain ⟨X, x1, x2, x3⟩ := ref_l0 l hl hw r f (i + 1) (out.take s ++ c :: out.drop s) d2 (by simp at hf; omega) (put_in h1 s3 s4 s2) (by
      rw [ht]
      have p1 := List.perm_middle (a := c) (l₁ := out.take s) (l₂ := out.drop s)
      rw [List.take_append_drop] at p1
      exact (p1.trans (List.Perm.cons c h2)).trans (List.perm_append_singleton c (l.take i)).symm)
    refine ⟨X, ?_, x2, x3⟩
    rw [← x1]
    exact congrArg _ e
theorem refSort_is (l : List Fl) (hl : l.length ≤ 40) (hw : ∀ x ∈ l, FlW x) : ∃ X, eyotref1_Sort 100 l = some X ∧ Rises X ∧ X.Perm l := by
  obtain ⟨X, x1, x2, x3⟩ := ref_l0 l hl hw l 100 0 [] rfl (by omega) List.Pairwise.nil (by simp)
  refine ⟨X, ?_, x2, x3⟩
  unfold eyotref1_Sort
  have x1' : eyotref1_Sort_l0 l 100 0 [] = some X := x1
  rw [x1']
  rfl
/-! ### two sorted rows of the same numbers are one by keys -/
theorem rises_eq {X Y : List Fl} (h1 : Rises X) (h2 : Rises Y) (h : X.Perm Y) : X.map K = Y.map K := by
  refine List.Perm.eq_of_pairwise (le := fun a b => a ≤ b) (fun a b _ _ p q => Nat.le_antisymm p q) ?_ ?_ (h.map K)
  · exact List.pairwise_map.2 h1
  · exact List.pairwise_map.2 h2
theorem sameAll_l0 (X Y : List Fl) (hn : X.length ≤ 90) (he : X.map K = Y.map K) (hX : ∀ x ∈ X, FlW x) (hY : ∀ y ∈ Y, FlW y) : ∀ (n f i : Nat), X.length - i = n → n < f → eyotref1_SameAll_l0 X Y f (i : Int) = some (Sum.inl ())
  | 0, f + 1, i, h1, h2 => by rw [eyotref1_SameAll_l0, decide_neg (by omega), cond_false]
  | n + 1, f + 1, i, h1, h2 => by
    have hl : X.length = Y.length := by simpa using congrArg List.length he
    obtain ⟨x, x1, x2⟩ := get_some (l := X) (i := i) (by omega)
    obtain ⟨y, y1, y2⟩ := get_some (l := Y) (i := i) (by omega)
    have hk : K x = K y := by
      have := congrArg (fun l => l[i]?) he
      simpa [x1, y1] using this
    have w1 : IntKind.i64.wrap ((i : Int) + 1) = ((i + 1 : Nat) : Int) := by rw [w64f (by omega) (by omega)]; omega
    rw [eyotref1_SameAll_l0, decide_pos (by omega), cond_true, at_nat, at_nat, x1, y1, Option.bind_some, Option.bind_some, ref_Same f x y (hX x x2) (hY y y2), decide_pos hk, Option.bind_some, Bool.not_true, cond_false, w1]
    exact sameAll_l0 X Y hn he hX hY n f (i + 1) (by omega) (by omega)
theorem sameAll_ok (X Y : List Fl) (hn : X.length ≤ 90) (he : X.map K = Y.map K) (hX : ∀ x ∈ X, FlW x) (hY : ∀ y ∈ Y, FlW y) : eyotref1_SameAll 100 X Y = some true := by
  have hl : X.length = Y.length := by simpa using congrArg List.length he
  unfold eyotref1_SameAll
  have h0 : (((X.length : Nat) : Int) != ((Y.length : Nat) : Int)) = false := by simp; omega
  have := sameAll_l0 X Y hn he hX hY X.length 100 0 rfl (by omega)
  have h1 : eyotref1_SameAll_l0 X Y 100 0 = some (Sum.inl ()) := this
  rw [h0, cond_false, h1]
  rfl
end Go.Pi

