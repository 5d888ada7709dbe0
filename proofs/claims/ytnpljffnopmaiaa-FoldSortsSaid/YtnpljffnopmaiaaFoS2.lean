import Derived.Test.YtnpljffnopmaiaaFoS1
/-
  SORTING, in plain words: insertion, and two sorted halves made one.
-/
set_option linter.all false
namespace Go.Pi
abbrev K (x : Fl) : Nat := keyF x
def Rises (l : List Fl) : Prop := l.Pairwise fun a b => K a ≤ K b
theorem at_nat (l : List Fl) (i : Nat) : at? l (i : Int) = l[i]? := by
  unfold at?
  rw [if_pos (by omega), Int.toNat_natCast]
theorem less_eq (k : Nat) {x y : Fl} (hx : FlW x) (hy : FlW y) : ((weigh_Order k x y).bind fun r => some (decide (r < 0))) = some (decide (K x < K y)) := by
  rw [weigh_Order_eq k x y hx hy, Option.bind_some]
  congr 1
  unfold cmpN
  by_cases h : keyF x < keyF y
  · rw [if_pos h]; simp [h]
  · rw [if_neg h]; split <;> simp [h]
theorem less_eq2 (k : Nat) {α : Type} {x y : Fl} {m0 m1 : Option α} (hx : FlW x) (hy : FlW y) : ((weigh_Order k x y).bind fun r => cond (decide (r < 0)) m1 m0) = if K x < K y then m1 else m0 := by
  rw [weigh_Order_eq k x y hx hy, Option.bind_some]
  unfold cmpN
  by_cases h : keyF x < keyF y
  · rw [if_pos h, if_pos h]; rfl
  · rw [if_neg h, if_neg h]; split <;> rfl
theorem less_eq3 (k : Nat) {α : Type} {x y : Fl} {m0 m1 : Option α} (hx : FlW x) (hy : FlW y) : ((weigh_Order k x y).bind fun r => cond (!(decide (r < 0))) m1 m0) = if K x < K y then m0 else m1 := by
  rw [weigh_Order_eq k x y hx hy, Option.bind_some]
  unfold cmpN
  by_cases h : keyF x < keyF y
  · rw [if_pos h, if_pos h]; rfl
  · rw [if_neg h, if_neg h]; split <;> rfl
/-- Two elements side by side, swapped. -/
theorem adj (B R : List Fl) (z w : Fl) : (B ++ z :: w :: R)[B.length]? = some z ∧ (B ++ z :: w :: R)[B.length + 1]? = some w ∧
    ((B ++ z :: w :: R).set (B.length + 1) z)[B.length]? = some z ∧ ((B ++ z :: w :: R).set (B.length + 1) z).set B.length w = B ++ w :: z :: R ∧
    ((B ++ z :: w :: R).set B.length w)[B.length + 1]? = some w ∧ ((B ++ z :: w :: R).set B.length w).set (B.length + 1) z = B ++ w :: z :: R := by
  have e : B ++ z :: w :: R = (B ++ [z]) ++ w :: R := by simp
  have l1 : B.length + 1 = (B ++ [z]).length := by simp
  have s1 : (B ++ z :: w :: R).set (B.length + 1) z = B ++ z :: z :: R := by rw [e, l1, set_mid rfl]; simp
  have s2 : (B ++ z :: w :: R).set B.length w = B ++ w :: w :: R := set_mid rfl
  refine ⟨by simp, by rw [e, l1]; simp, by rw [s1]; simp, by rw [s1, set_mid rfl], ?_, ?_⟩
  · rw [s2, show B ++ w :: w :: R = (B ++ [w]) ++ w :: R by simp, show B.length + 1 = (B ++ [w]).length by simp]; simp
  · rw [s2, show B ++ w :: w :: R = (B ++ [w]) ++ w :: R by simp, show B.length + 1 = (B ++ [w]).length by simp, set_mid rfl]; simp
theorem snoc_cases : ∀ P : List Fl, P = [] ∨ ∃ Q z, P = Q ++ [z] := fun P => by
  rcases List.eq_nil_or_concat P with h | ⟨Q, z, h⟩
  · exact .inl h
  · exact .inr ⟨Q, z, by rw [h, List.concat_eq_append]⟩
theorem last_all {P : List Fl} {c : Nat} (h : Rises P) (hl : ∀ z, P.getLast? = some z → K z ≤ c) : ∀ x ∈ P, K x ≤ c := by
  intro x hx
  rcases snoc_cases P with rfl | ⟨Q, z, rfl⟩
  · cases hx
  · have hz := hl z (by simp)
    unfold Rises at h
    rw [List.pairwise_append] at h
    rcases List.mem_append.1 hx with hx | hx
    · have := h.2.2 x hx z (by simp)
      omega
    · simp at hx; subst hx; exact hz
theorem head_all {P : List Fl} {c : Nat} (h : Rises P) (hl : ∀ z, P.head? = some z → c ≤ K z) : ∀ x ∈ P, c ≤ K x := by
  intro x hx
  cases P with
  | nil => cases hx
  | cons z Q =>
    have hz := hl z rfl
    unfold Rises at h
    rw [List.pairwise_cons] at h
    rcases List.mem_cons.1 hx with rfl | hx
    · exact hz
    · have := h.1 x hx
      omega
/-! ### insertion -/
theorem ins_l1 : ∀ (n : Nat) (P Q A C : List Fl) (w : Fl) (f : Nat) (b c : Int), P.length = n → n < f → (A ++ (P ++ w :: (Q ++ C))).length ≤ 1000 → (∀ x ∈ P, FlW x) → FlW w →
    ∃ P1 P2, P = P1 ++ P2 ∧ slices_insertionSortCmpFunc_l1 ((A.length : Nat) : Int) b c f (((A ++ P).length : Nat) : Int) (A ++ (P ++ w :: (Q ++ C))) = some (A ++ (P1 ++ w :: (P2 ++ (Q ++ C)))) ∧
      (∀ z, P1.getLast? = some z → K z ≤ K w) ∧ ∀ z ∈ P2, K w < K z
  | 0, P, Q, A, C, w, f + 1, b, c, h1, h2, h3, h4, h5 => by
    obtain rfl := List.length_eq_zero_iff.1 h1
    refine ⟨[], [], rfl, ?_, by simp, by simp⟩
    rw [slices_insertionSortCmpFunc_l1, decide_neg (by simp), cond_false, Option.bind_some, cond_false]
    simp
  | n + 1, P, Q, A, C, w, f + 1, b, c, h1, h2, h3, h4, h5 => by
    rcases snoc_cases P with rfl | ⟨P', z, rfl⟩
    · simp at h1
    · simp only [List.length_append, List.length_cons, List.length_nil] at h1 h3
      have hz : FlW z := h4 z (by simp)
      obtain ⟨a1, a2, a3, a4, _, _⟩ := adj (A ++ P') (Q ++ C) z w
      have e : A ++ ((P' ++ [z]) ++ w :: (Q ++ C)) = (A ++ P') ++ z :: w :: (Q ++ C) := by simp
      have ej : ((A ++ (P' ++ [z])).length : Nat) = (A ++ P').length + 1 := by simp; omega
      have w1 : IntKind.i64.wrap ((((A ++ P').length + 1 : Nat) : Int) - 1) = (((A ++ P').length : Nat) : Int) := by
        simp only [List.length_append]
        rw [w64f (by omega) (by omega)]; omega
      rw [slices_insertionSortCmpFunc_l1, e, ej, decide_pos (by simp; omega), cond_true, w1, at_nat, at_nat, a1, a2, Option.bind_some, Option.bind_some, less_eq f h5 hz, Option.bind_some]
      by_cases hlt : K w < K z
      · rw [decide_pos hlt, cond_true, Option.bind_some, Option.bind_some, Option.bind_some, Int.toNat_natCast, Int.toNat_natCast, at_nat, a3, Option.bind_some, a4]
        obtain ⟨P1, P2, q1, q2, q3, q4⟩ := ins_l1 n P' (z :: Q) A C w f b c (by omega) (by omega) (by simp; omega) (fun x hx => h4 x (by simp [hx])) h5
        have e2 : (A ++ P') ++ w :: z :: (Q ++ C) = A ++ (P' ++ w :: ((z :: Q) ++ C)) := by simp
        rw [e2, q2]
        refine ⟨P1, P2 ++ [z], by rw [q1]; simp, by simp, q3, fun y hy => ?_⟩
        rcases List.mem_append.1 hy with hy | hy
        · exact q4 y hy
        · simp at hy; subst hy; exact hlt
      · rw [decide_neg hlt, cond_false]
        exact ⟨P' ++ [z], [], by simp, by simp, by intro y hy; simp at hy; subst hy; omega, by simp⟩
theorem ins_l0 : ∀ (R S A C : List Fl) (f : Nat), Rises S → S.length + R.length + R.length < f → (A ++ (S ++ (R ++ C))).length ≤ 1000 → (∀ x ∈ S ++ R, FlW x) →
    ∃ X, slices_insertionSortCmpFunc_l0 ((A.length : Nat) : Int) (((A ++ (S ++ R)).length : Nat) : Int) f (((A ++ S).length : Nat) : Int) (A ++ (S ++ (R ++ C))) = some (A ++ (X ++ C)) ∧ Rises X ∧ X.Perm (S ++ R)
  | [], S, A, C, f + 1, h1, h2, h3, h4 => by
    refine ⟨S, ?_, h1, by simp⟩
    rw [slices_insertionSortCmpFunc_l0, decide_neg (by simp), cond_false]
    simp
  | w :: R, S, A, C, f + 1, h1, h2, h3, h4 => by
    simp only [List.length_append, List.length_cons] at h2 h3
    obtain ⟨P1, P2, q1, q2, q3, q4⟩ := ins_l1 S.length S [] A (R ++ C) w f (((A ++ (S ++ w :: R)).length : Nat) : Int) (((A ++ S).length : Nat) : Int) rfl (by omega) (by simp; omega) (fun x hx => h4 x (List.mem_append_left _ hx)) (h4 w (by simp))
    subst q1
    have hs : Rises (P1 ++ w :: P2) := by
      unfold Rises at h1 ⊢
      rw [List.pairwise_append] at h1 ⊢
      have hP1 := last_all h1.1 q3
      refine ⟨h1.1, List.pairwise_cons.2 ⟨fun y hy => Nat.le_of_lt (q4 y hy), h1.2.1⟩, fun x hx y hy => ?_⟩
      rcases List.mem_cons.1 hy with rfl | hy
      · exact hP1 x hx
      · exact h1.2.2 x hx y hy
    have w1 : IntKind.i64.wrap ((((A ++ (P1 ++ P2)).length : Nat) : Int) + 1) = (((A ++ (P1 ++ w :: P2)).length : Nat) : Int) := by
      simp only [List.length_append, List.length_cons] at h3 ⊢
      rw [w64f (by omega) (by omega)]; omega
    have hp : (P1 ++ w :: P2 ++ R).Perm ((P1 ++ P2) ++ w :: R) := by
      have : (P1 ++ w :: P2).Perm (w :: (P1 ++ P2)) := List.perm_middle
      exact (this.append_right R).trans (List.perm_middle (a := w) (l₁ := P1 ++ P2) (l₂ := R)).symm
    obtain ⟨X, x1, x2, x3⟩ := ins_l0 R (P1 ++ w :: P2) A C f hs (by simp at h2 ⊢; omega) (by simp at h3 ⊢; omega) (fun x hx => h4 x (hp.mem_iff.1 hx))
    refine ⟨X, ?_, x2, x3.trans hp⟩
    rw [slices_insertionSortCmpFunc_l0, decide_pos (by simp; omega), cond_true]
    simp only [List.nil_append] at q2
    have e : A ++ (P1 ++ P2 ++ (w :: R ++ C)) = A ++ (P1 ++ P2 ++ w :: (R ++ C)) := by simp
    rw [e, q2, Option.bind_some, w1]
    have e2 : A ++ (P1 ++ w :: (P2 ++ (R ++ C))) = A ++ (P1 ++ w :: P2 ++ (R ++ C)) := by simp
    have e3 : (A ++ (P1 ++ P2 ++ w :: R)).length = (A ++ (P1 ++ w :: P2 ++ R)).length := by simp; omega
    rw [e2, e3]
    exact x1
/-- A block, sorted by insertion. -/
theorem ins_ok (B A C : List Fl) (f : Nat) (h2 : B.length + B.length < f) (h3 : (A ++ (B ++ C)).length ≤ 1000) (h4 : ∀ x ∈ B, FlW x) :
    ∃ X, slices_insertionSortCmpFunc f (A ++ (B ++ C)) ((A.length : Nat) : Int) (((A ++ B).length : Nat) : Int) = some (A ++ (X ++ C)) ∧ Rises X ∧ X.Perm B := by
  simp only [List.length_append] at h3
  unfold slices_insertionSortCmpFunc
  have w1 : IntKind.i64.wrap (((A.length : Nat) : Int) + 1) = ((A.length + 1 : Nat) : Int) := by rw [w64f (by omega) (by omega)]; omega
  rw [w1]
  cases B with
  | nil =>
    refine ⟨[], ?_, List.Pairwise.nil, .refl _⟩
    cases f with
    | zero => simp at h2
    | succ f =>
      rw [slices_insertionSortCmpFunc_l0, decide_neg (by simp; omega), cond_false, Option.bind_some, keepL_len rfl]
  | cons w R =>
    simp only [List.length_cons] at h2 h3
    obtain ⟨X, x1, x2, x3⟩ := ins_l0 R [w] A C f (by unfold Rises; simp) (by simp; omega) (by simp; omega) h4
    refine ⟨X, ?_, x2, x3⟩
    have e1 : ((A ++ [w]).length : Nat) = A.length + 1 := by simp
    rw [e1] at x1
    have e2 : slices_insertionSortCmpFunc_l0 ((A.length : Nat) : Int) (((A ++ w :: R).length : Nat) : Int) f ((A.length + 1 : Nat) : Int) (A ++ (w :: R ++ C)) = some (A ++ (X ++ C)) := by
      have : A ++ ([w] ++ (R ++ C)) = A ++ (w :: R ++ C) := by simp
      rw [← this]
      exact x1
    rw [e2, Option.bind_some, keepL_len]
    have := x3.length_eq
    simp at this ⊢
    omega
end Go.Pi

