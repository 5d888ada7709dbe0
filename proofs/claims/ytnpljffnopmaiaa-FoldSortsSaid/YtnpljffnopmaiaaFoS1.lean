import Derived.Test.YtnpljffnopmaiaaFoQ
/-
  SORTING, in plain words: blocks swapped, blocks turned, halves searched, elements put in.
-/
set_option linter.all false
namespace Go.Pi
theorem at_mid {A B : List Fl} {x : Fl} {i : Int} (h : i = (A.length : Int)) : at? (A ++ x :: B) i = some x := by
  subst h
  unfold at?
  rw [if_pos (by omega)]
  simp
theorem set_mid {A B : List Fl} {x y : Fl} {i : Nat} (h : i = A.length) : (A ++ x :: B).set i y = A ++ y :: B := by
  subst h
  rw [List.set_append_right _ _ (Nat.le_refl _)]
  simp
theorem keepL_len {l m : List Fl} (h : m.length = l.length) : keepL l m = some m := by
  unfold keepL
  rw [if_pos h]
theorem swap_l0 : ∀ (U V A M C : List Fl) (f t a b : Nat), U.length = V.length → U.length < f → A.length = a + t → (A ++ (U ++ M)).length = b + t → (A ++ (U ++ (M ++ (V ++ C)))).length ≤ 1000 →
    slices_swapRangeCmpFunc_l0 (a : Int) (b : Int) ((t + U.length : Nat) : Int) f (t : Int) (A ++ (U ++ (M ++ (V ++ C)))) = some (A ++ (V ++ (M ++ (U ++ C))))
  | [], [], A, M, C, f + 1, t, a, b, h1, h2, h3, h4, h5 => by
    rw [slices_swapRangeCmpFunc_l0, decide_neg (by simp), cond_false]
  | u :: U, v :: V, A, M, C, f + 1, t, a, b, h1, h2, h3, h4, h5 => by
    simp only [List.length_cons, List.length_append] at h1 h2 h3 h4 h5
    have wa : IntKind.i64.wrap ((a : Int) + (t : Int)) = ((A.length : Nat) : Int) := by rw [w64f (by omega) (by omega)]; omega
    have wb : IntKind.i64.wrap ((b : Int) + (t : Int)) = (((A ++ u :: (U ++ M)).length : Nat) : Int) := by
      rw [w64f (by omega) (by omega)]; simp; omega
    have wt : IntKind.i64.wrap ((t : Int) + 1) = ((t + 1 : Nat) : Int) := by rw [w64f (by omega) (by omega)]; omega
    have e1 : A ++ (u :: U ++ (M ++ (v :: V ++ C))) = (A ++ u :: (U ++ M)) ++ v :: (V ++ C) := by simp
    have e2 : A ++ (u :: U ++ (M ++ (v :: V ++ C))) = A ++ u :: (U ++ (M ++ (v :: V ++ C))) := by simp
    have r1 : at? (A ++ (u :: U ++ (M ++ (v :: V ++ C)))) (((A ++ u :: (U ++ M)).length : Nat) : Int) = some v := by rw [e1]; exact at_mid rfl
    have r2 : at? (A ++ (u :: U ++ (M ++ (v :: V ++ C)))) ((A.length : Nat) : Int) = some u := by rw [e2]; exact at_mid rfl
    have r3 : (A ++ (u :: U ++ (M ++ (v :: V ++ C)))).set A.length v = (A ++ v :: (U ++ M)) ++ v :: (V ++ C) := by
      rw [e2, set_mid rfl]; simp
    have lw : (A ++ u :: (U ++ M)).length = (A ++ v :: (U ++ M)).length := by simp
    have r4 : at? ((A ++ v :: (U ++ M)) ++ v :: (V ++ C)) (((A ++ u :: (U ++ M)).length : Nat) : Int) = some v := at_mid (by rw [lw])
    have r5 : ((A ++ v :: (U ++ M)) ++ v :: (V ++ C)).set (A ++ u :: (U ++ M)).length u = (A ++ [v]) ++ (U ++ ((M ++ [u]) ++ (V ++ C))) := by
      rw [set_mid lw]; simp
    rw [slices_swapRangeCmpFunc_l0, decide_pos (by simp; omega), cond_true, wa, wb, wt, r1, Option.bind_some, r2, Option.bind_some, Option.bind_some, Int.toNat_natCast, Int.toNat_natCast, r3, r4, Option.bind_some, r5]
    have := swap_l0 U V (A ++ [v]) (M ++ [u]) C f (t + 1) a b (by omega) (by omega) (by simp; omega) (by simp; omega) (by simp; omega)
    rw [show t + 1 + U.length = t + (u :: U).length by simp; omega] at this
    rw [this]
    simp
/-- Two blocks as long, swapped. -/
theorem swap_ok (U V A M C : List Fl) (f : Nat) (h1 : U.length = V.length) (h2 : U.length < f) (h3 : (A ++ (U ++ (M ++ (V ++ C)))).length ≤ 1000) :
    slices_swapRangeCmpFunc f (A ++ (U ++ (M ++ (V ++ C)))) ((A.length : Nat) : Int) (((A ++ (U ++ M)).length : Nat) : Int) ((U.length : Nat) : Int) = some (A ++ (V ++ (M ++ (U ++ C)))) := by
  unfold slices_swapRangeCmpFunc
  have := swap_l0 U V A M C f 0 A.length (A ++ (U ++ M)).length h1 h2 (by omega) (by omega) h3
  rw [Nat.zero_add] at this
  have e : slices_swapRangeCmpFunc_l0 ((A.length : Nat) : Int) (((A ++ (U ++ M)).length : Nat) : Int) ((U.length : Nat) : Int) f 0 (A ++ (U ++ (M ++ (V ++ C)))) = some (A ++ (V ++ (M ++ (U ++ C)))) := this
  rw [e, Option.bind_some, keepL_len (by simp; omega)]
theorem rotate_l0 : ∀ (n : Nat) (A X Y C : List Fl) (f m : Nat), X.length + Y.length ≤ n → n + n < f → 0 < X.length → 0 < Y.length → m = (A ++ X).length → (A ++ (X ++ (Y ++ C))).length ≤ 1000 →
    ∃ A' X' Y' C' : List Fl, slices_rotateCmpFunc_l0 (m : Int) f ((X.length : Nat) : Int) ((Y.length : Nat) : Int) (A ++ (X ++ (Y ++ C))) = some (A' ++ (X' ++ (Y' ++ C')), ((X'.length : Nat) : Int)) ∧ X'.length = Y'.length ∧ m = (A' ++ X').length ∧
      A' ++ (Y' ++ (X' ++ C')) = A ++ (Y ++ (X ++ C)) ∧ X'.length ≤ n
  | 0, A, X, Y, C, f, m, h1, h2, h3, h4, h5, h6 => by omega
  | n + 1, A, X, Y, C, f + 1, m, h1, h2, h3, h4, h5, h6 => by
    simp only [List.length_append] at h5 h6
    rw [slices_rotateCmpFunc_l0]
    rcases Nat.lt_trichotomy X.length Y.length with h | h | h
    · -- the second is longer
      have hne : (((X.length : Nat) : Int) != ((Y.length : Nat) : Int)) = true := by simp; omega
      rw [hne, cond_true, decide_neg (by omega), cond_false]
      obtain ⟨Y1, Y2, hY, hl⟩ : ∃ Y1 Y2, Y = Y1 ++ Y2 ∧ Y2.length = X.length := ⟨Y.take (Y.length - X.length), Y.drop (Y.length - X.length), (List.take_append_drop _ _).symm, by simp; omega⟩
      subst hY
      simp only [List.length_append] at h1 h h4 h6
      have w1 : IntKind.i64.wrap ((m : Int) - ((X.length : Nat) : Int)) = ((A.length : Nat) : Int) := by rw [w64f (by omega) (by omega)]; omega
      have w2 : IntKind.i64.wrap (IntKind.i64.wrap ((m : Int) + (((Y1 ++ Y2).length : Nat) : Int)) - ((X.length : Nat) : Int)) = (((A ++ (X ++ Y1)).length : Nat) : Int) := by
        simp only [List.length_append]
        rw [w64f (n := (m : Int) + _) (by omega) (by omega), w64f (by omega) (by omega)]; omega
      have w3 : IntKind.i64.wrap ((((Y1 ++ Y2).length : Nat) : Int) - ((X.length : Nat) : Int)) = ((Y1.length : Nat) : Int) := by
        simp only [List.length_append]
        rw [w64f (by omega) (by omega)]; omega
      have e : A ++ (X ++ ((Y1 ++ Y2) ++ C)) = A ++ (X ++ (Y1 ++ (Y2 ++ C))) := by simp
      rw [w1, w2, w3, e, swap_ok X Y2 A Y1 C f hl.symm (by omega) (by simp; omega), Option.bind_some]
      obtain ⟨A', X', Y', C', q1, q2, q3, q4, q5⟩ := rotate_l0 n A Y2 Y1 (X ++ C) f m (by omega) (by omega) (by omega) (by omega) (by simp; omega) (by simp; omega)
      rw [hl] at q1
      exact ⟨A', X', Y', C', q1, q2, q3, by rw [q4]; simp, by omega⟩
    · -- they are as long
      have hne : (((X.length : Nat) : Int) != ((Y.length : Nat) : Int)) = false := by simp; omega
      rw [hne, cond_false]
      exact ⟨A, X, Y, C, rfl, h, by simp; omega, rfl, by omega⟩
    · -- the first is longer
      have hne : (((X.length : Nat) : Int) != ((Y.length : Nat) : Int)) = true := by simp; omega
      rw [hne, cond_true, decide_pos (by omega), cond_true]
      obtain ⟨X1, X2, hX, hl⟩ : ∃ X1 X2, X = X1 ++ X2 ∧ X1.length = Y.length := ⟨X.take Y.length, X.drop Y.length, (List.take_append_drop _ _).symm, by simp; omega⟩
      subst hX
      simp only [List.length_append] at h1 h h3 h5 h6
      have w1 : IntKind.i64.wrap ((m : Int) - (((X1 ++ X2).length : Nat) : Int)) = ((A.length : Nat) : Int) := by
        simp only [List.length_append]
        rw [w64f (by omega) (by omega)]; omega
      have w3 : IntKind.i64.wrap ((((X1 ++ X2).length : Nat) : Int) - ((Y.length : Nat) : Int)) = ((X2.length : Nat) : Int) := by
        simp only [List.length_append]
        rw [w64f (by omega) (by omega)]; omega
      have w2 : (m : Int) = (((A ++ (X1 ++ X2)).length : Nat) : Int) := by simp; omega
      have e : A ++ ((X1 ++ X2) ++ (Y ++ C)) = A ++ (X1 ++ (X2 ++ (Y ++ C))) := by simp
      have hs := swap_ok X1 Y A X2 C f hl (by omega) (by simp; omega)
      rw [hl] at hs
      rw [w1, w3, e]
      have hs' : slices_swapRangeCmpFunc f (A ++ (X1 ++ (X2 ++ (Y ++ C)))) ((A.length : Nat) : Int) (m : Int) ((Y.length : Nat) : Int) = some (A ++ (Y ++ (X2 ++ (X1 ++ C)))) := by rw [w2]; exact hs
      rw [hs', Option.bind_some]
      obtain ⟨A', X', Y', C', q1, q2, q3, q4, q5⟩ := rotate_l0 n (A ++ Y) X2 X1 C f m (by omega) (by omega) (by omega) (by omega) (by simp; omega) (by simp; omega)
      rw [hl] at q1
      refine ⟨A', X', Y', C', ?_, q2, q3, by rw [q4]; simp, by omega⟩
      rw [← q1]
      simp
/-- Two blocks side by side, turned. -/
theorem rotate_ok (A X Y C : List Fl) (f : Nat) (h1 : X.length + Y.length + (X.length + Y.length) < f) (h3 : 0 < X.length) (h4 : 0 < Y.length) (h6 : (A ++ (X ++ (Y ++ C))).length ≤ 1000) :
    slices_rotateCmpFunc f (A ++ (X ++ (Y ++ C))) ((A.length : Nat) : Int) (((A ++ X).length : Nat) : Int) (((A ++ (X ++ Y)).length : Nat) : Int) = some (A ++ (Y ++ (X ++ C))) := by
  obtain ⟨A', X', Y', C', q1, q2, q3, q4, q5⟩ := rotate_l0 (X.length + Y.length) A X Y C f (A ++ X).length (Nat.le_refl _) h1 h3 h4 rfl h6
  have hlen := congrArg List.length q4
  simp only [List.length_append] at hlen h6 q3
  unfold slices_rotateCmpFunc
  have w1 : IntKind.i64.wrap ((((A ++ X).length : Nat) : Int) - ((A.length : Nat) : Int)) = ((X.length : Nat) : Int) := by
    simp only [List.length_append]
    rw [w64f (by omega) (by omega)]; omega
  have w2 : IntKind.i64.wrap ((((A ++ (X ++ Y)).length : Nat) : Int) - (((A ++ X).length : Nat) : Int)) = ((Y.length : Nat) : Int) := by
    simp only [List.length_append]
    rw [w64f (by omega) (by omega)]; omega
  rw [w1, w2, q1]
  simp only [Option.bind_some]
  have w3 : IntKind.i64.wrap ((((A ++ X).length : Nat) : Int) - ((X'.length : Nat) : Int)) = ((A'.length : Nat) : Int) := by
    simp only [List.length_append]
    rw [w64f (by omega) (by omega)]; omega
  have w4 : (((A ++ X).length : Nat) : Int) = (((A' ++ (X' ++ [])).length : Nat) : Int) := by simp; omega
  have hs := swap_ok X' Y' A' [] C' f q2 (by omega) (by simp; omega)
  rw [w3, w4]
  simp only [List.nil_append] at hs
  rw [hs, Option.bind_some, q4, keepL_len (by simp; omega)]
/-! ### half by half -/
theorem mid_eq {i j : Nat} (h : i + j ≤ 4000) : IntKind.i64.wrap (shrI .u64 (IntKind.u64.wrap (IntKind.i64.wrap ((i : Int) + (j : Int)))) 1) = (((i + j) / 2 : Nat) : Int) := by
  have e1 : IntKind.u64.wrap (IntKind.i64.wrap ((i : Int) + (j : Int))) = ((i + j : Nat) : Int) := by rw [w64f (by omega) (by omega), IntKind.wrap_u64]; omega
  rw [e1]
  have e2 : shrI .u64 ((i + j : Nat) : Int) 1 = (((i + j) / 2 : Nat) : Int) := by
    unfold shrI
    have e3 : (2 : Int) ^ min (1 : Int).toNat IntKind.u64.bits = 2 := by decide
    rw [e3, Int.fdiv_eq_ediv_of_nonneg _ (by omega)]
    omega
  rw [e2, w64f (by omega) (by omega)]
/-- What a search finds: where it turns, if it turns. -/
theorem search_ok {F : Nat → Int → Int → Option Int} {p : Nat → Bool} {lo hi : Nat} (h0 : ∀ f (i : Nat), F (f + 1) (i : Int) (i : Int) = some (i : Int))
    (hF : ∀ f (i j : Nat), lo ≤ i → i < j → j ≤ hi → F (f + 1) (i : Int) (j : Int) = if p ((i + j) / 2) = true then F f (((i + j) / 2 + 1 : Nat) : Int) (j : Int) else F f (i : Int) (((i + j) / 2 : Nat) : Int)) :
    ∀ (n i j f : Nat), j - i ≤ n → n < f → lo ≤ i → i ≤ j → j ≤ hi → (i = lo ∨ p (i - 1) = true) → (j = hi ∨ p j = false) → ∃ s : Nat, F f (i : Int) (j : Int) = some (s : Int) ∧ lo ≤ s ∧ s ≤ hi ∧ (s = lo ∨ p (s - 1) = true) ∧ (s = hi ∨ p s = false)
  | n, i, j, f + 1, hn, hf, h1, h2, h3, h4, h5 => by
    by_cases e : i = j
    · subst e
      exact ⟨i, h0 f i, h1, h3, h4, h5⟩
    · rw [hF f i j h1 (by omega) h3]
      cases n with
      | zero => omega
      | succ n =>
        cases hp : p ((i + j) / 2) with
        | true =>
          rw [if_pos rfl]
          exact search_ok h0 hF n ((i + j) / 2 + 1) j f (by omega) (by omega) (by omega) (by omega) h3 (.inr (by simpa using hp)) h5
        | false =>
          rw [if_neg (by simp)]
          exact search_ok h0 hF n i ((i + j) / 2) f (by omega) (by omega) h1 (by omega) (by omega) h4 (.inr hp)
end Go.Pi

