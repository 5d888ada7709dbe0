import Derived.Test.YtnpljffnopmaiaaFoS2
/-
  TWO SORTED HALVES MADE ONE, in place.
-/
set_option linter.all false
namespace Go.Pi
/-- Two rows of a list and what stands where. -/
theorem get_l (A L R C : List Fl) (i : Nat) (h1 : A.length ≤ i) (h2 : i < A.length + L.length) : (A ++ (L ++ (R ++ C)))[i]? = L[i - A.length]? := by
  rw [List.getElem?_append_right h1, List.getElem?_append_left (by omega)]
theorem get_r (A L R C : List Fl) (i : Nat) (h1 : A.length + L.length ≤ i) (h2 : i < A.length + L.length + R.length) : (A ++ (L ++ (R ++ C)))[i]? = R[i - A.length - L.length]? := by
  rw [List.getElem?_append_right (by omega), List.getElem?_append_right (by omega), List.getElem?_append_left (by omega)]
theorem get_some {l : List Fl} {i : Nat} (h : i < l.length) : ∃ x, l[i]? = some x ∧ x ∈ l := ⟨l[i], List.getElem?_eq_getElem h, List.getElem_mem h⟩
/-- Moved to the right, over a block. -/
theorem right_l1 : ∀ (P B R : List Fl) (u : Fl) (f : Nat), P.length < f → (B ++ u :: (P ++ R)).length ≤ 1000 →
    slices_symMergeCmpFunc_l1 (((B.length + P.length + 1 : Nat)) : Int) f ((B.length : Nat) : Int) (B ++ u :: (P ++ R)) = some (B ++ (P ++ u :: R))
  | [], B, R, u, f + 1, h1, h2 => by
    have w1 : IntKind.i64.wrap (((B.length + ([] : List Fl).length + 1 : Nat) : Int) - 1) = ((B.length : Nat) : Int) := by
      simp only [List.length_append, List.length_cons, List.length_nil] at h2 ⊢
      rw [w64f (by omega) (by omega)]; omega
    rw [slices_symMergeCmpFunc_l1, w1, decide_neg (by omega), cond_false]
    rfl
  | z :: P, B, R, u, f + 1, h1, h2 => by
    simp only [List.length_append, List.length_cons] at h1 h2
    have w1 : IntKind.i64.wrap (((B.length + (z :: P).length + 1 : Nat) : Int) - 1) = ((B.length + P.length + 1 : Nat) : Int) := by
      simp only [List.length_cons]
      rw [w64f (by omega) (by omega)]; omega
    have w2 : IntKind.i64.wrap (((B.length : Nat) : Int) + 1) = ((B.length + 1 : Nat) : Int) := by rw [w64f (by omega) (by omega)]; omega
    obtain ⟨a1, a2, _, _, a5, a6⟩ := adj B (P ++ R) u z
    have e : B ++ u :: (z :: P ++ R) = B ++ u :: z :: (P ++ R) := rfl
    rw [slices_symMergeCmpFunc_l1, w1, decide_pos (by omega), cond_true, w2, e, at_nat, at_nat, a1, a2, Option.bind_some, Option.bind_some, Option.bind_some, Int.toNat_natCast, Int.toNat_natCast, at_nat, a5, Option.bind_some, a6]
    have := right_l1 P (B ++ [z]) R u f (by omega) (by simp; omega)
    have e1 : (B ++ [z]).length + P.length + 1 = B.length + (z :: P).length + 1 := by simp; omega
    have e2 : (B ++ [z]).length = B.length + 1 := by simp
    have e3 : (B ++ [z]) ++ u :: (P ++ R) = B ++ z :: u :: (P ++ R) := by simp
    rw [e1, e2, e3] at this
    rw [this]
    simp
/-- Moved to the left, over a block. -/
theorem left_l3 : ∀ (n : Nat) (Q B R : List Fl) (v : Fl) (f : Nat), Q.length = n → n < f → (B ++ (Q ++ v :: R)).length ≤ 1000 →
    slices_symMergeCmpFunc_l3 ((B.length : Nat) : Int) f (((B ++ Q).length : Nat) : Int) (B ++ (Q ++ v :: R)) = some (B ++ v :: (Q ++ R))
  | 0, Q, B, R, v, f + 1, h0, h1, h2 => by
    obtain rfl := List.length_eq_zero_iff.1 h0
    rw [slices_symMergeCmpFunc_l3, decide_neg (by simp), cond_false]
    rfl
  | n + 1, Q, B, R, v, f + 1, h0, h1, h2 => by
    rcases snoc_cases Q with rfl | ⟨Q', z, rfl⟩
    · simp at h0
    · simp only [List.length_append, List.length_cons, List.length_nil] at h0 h2
      have w1 : IntKind.i64.wrap ((((B ++ (Q' ++ [z])).length : Nat) : Int) - 1) = (((B ++ Q').length : Nat) : Int) := by
        simp only [List.length_append, List.length_cons, List.length_nil]
        rw [w64f (by omega) (by omega)]; omega
      have ej : ((B ++ (Q' ++ [z])).length : Nat) = (B ++ Q').length + 1 := by simp; omega
      obtain ⟨a1, a2, a3, a4, _, _⟩ := adj (B ++ Q') R z v
      have e : B ++ ((Q' ++ [z]) ++ v :: R) = (B ++ Q') ++ z :: v :: R := by simp
      rw [slices_symMergeCmpFunc_l3, w1, decide_pos (by simp; omega), cond_true, ej, e, at_nat, at_nat, a1, a2, Option.bind_some, Option.bind_some, Option.bind_some, Int.toNat_natCast, Int.toNat_natCast, at_nat, a3, Option.bind_some, a4]
      have := left_l3 n Q' B (z :: R) v f (by omega) (by omega) (by simp; omega)
      have e3 : (B ++ Q') ++ v :: z :: R = B ++ (Q' ++ v :: z :: R) := by simp
      rw [e3, this]
      simp
/-- Whether the element here is less than that one (no element: no). -/
def ltAt (l : List Fl) (i : Nat) (c : Nat) : Bool := match l[i]? with
  | some x => decide (K x < c)
  | none => false
def leAt (l : List Fl) (i : Nat) (c : Nat) : Bool := match l[i]? with
  | some x => decide (K x ≤ c)
  | none => false
def leTwo (l : List Fl) (i j : Nat) : Bool := match l[i]?, l[j]? with
  | some x, some y => decide (K x ≤ K y)
  | _, _ => false
/-- One element ahead of a sorted block. -/
theorem sym_one (A R C : List Fl) (u : Fl) (f : Nat) (hR : Rises R) (hf : R.length < f) (hl : (A ++ u :: (R ++ C)).length ≤ 1000) (hu : FlW u) (hw : ∀ x ∈ R, FlW x) :
    ∃ X, ((slices_symMergeCmpFunc_l0 (A ++ u :: (R ++ C)) ((A.length : Nat) : Int) f ((A.length + 1 : Nat) : Int) ((A.length + 1 + R.length : Nat) : Int)).bind fun y7 => (slices_symMergeCmpFunc_l1 y7 f ((A.length : Nat) : Int) (A ++ u :: (R ++ C))).bind fun y28 => keepL (A ++ u :: (R ++ C)) y28) = some (A ++ (X ++ C)) ∧ Rises X ∧ X.Perm (u :: R) := by
  simp only [List.length_append, List.length_cons] at hl
  have gu : (A ++ u :: (R ++ C))[A.length]? = some u := by simp
  have e4 : A ++ u :: (R ++ C) = A ++ ([u] ++ (R ++ C)) := rfl
  have gr : ∀ i, A.length + 1 ≤ i → i < A.length + 1 + R.length → (A ++ u :: (R ++ C))[i]? = R[i - A.length - 1]? := fun i h1 h2 => by
    rw [e4]; exact get_r A [u] R C i (by simpa using h1) (by simpa using h2)
  obtain ⟨s, s1, s2, s3, s4, s5⟩ := search_ok (F := slices_symMergeCmpFunc_l0 (A ++ u :: (R ++ C)) ((A.length : Nat) : Int)) (p := fun h => ltAt (A ++ u :: (R ++ C)) h (K u)) (lo := A.length + 1) (hi := A.length + 1 + R.length)
    (fun f i => by rw [slices_symMergeCmpFunc_l0, decide_neg (by omega), cond_false]) (fun f i j h1 h2 h3 => by
      obtain ⟨x, x1, x2⟩ := get_some (l := R) (i := (i + j) / 2 - A.length - 1) (by omega)
      have gx := gr ((i + j) / 2) (by omega) (by omega)
      rw [x1] at gx
      have w1 : IntKind.i64.wrap ((((i + j) / 2 : Nat) : Int) + 1) = (((i + j) / 2 + 1 : Nat) : Int) := by rw [w64f (by omega) (by omega)]; omega
      rw [slices_symMergeCmpFunc_l0, decide_pos (by omega), cond_true, mid_eq (by omega), at_nat, at_nat, gx, gu, Option.bind_some, Option.bind_some, less_eq2 f (hw x x2) hu, w1]
      simp only [ltAt, gx, decide_eq_true_eq])
    R.length (A.length + 1) (A.length + 1 + R.length) f (by omega) hf (Nat.le_refl _) (by omega) (Nat.le_refl _) (.inl rfl) (.inl rfl)
  rw [s1, Option.bind_some]
  obtain ⟨t, ht⟩ : ∃ t, t = s - (A.length + 1) := ⟨_, rfl⟩
  have hs : s = A.length + (R.take t).length + 1 := by rw [List.length_take]; omega
  have hRt : A ++ u :: (R ++ C) = A ++ u :: (R.take t ++ (R.drop t ++ C)) := by rw [← List.append_assoc (R.take t), List.take_append_drop]
  have hrr := right_l1 (R.take t) A (R.drop t ++ C) u f (by rw [List.length_take]; omega) (by rw [← hRt]; simp; omega)
  rw [← hs, ← hRt] at hrr
  rw [hrr, Option.bind_some]
  have hsplit : Rises (R.take t) ∧ Rises (R.drop t) ∧ ∀ x ∈ R.take t, ∀ y ∈ R.drop t, K x ≤ K y := by
    have : Rises (R.take t ++ R.drop t) := by rw [List.take_append_drop]; exact hR
    exact List.pairwise_append.1 this
  have hP : ∀ x ∈ R.take t, K x ≤ K u := last_all hsplit.1 fun z hz => by
    rw [List.getLast?_eq_getElem?, List.getElem?_take, List.length_take] at hz
    split at hz
    · rename_i hlt
      rcases s4 with h | h
      · omega
      · have g := gr (s - 1) (by omega) (by omega)
        have e : s - 1 - A.length - 1 = min t R.length - 1 := by omega
        rw [e, hz] at g
        simp only [ltAt, g, decide_eq_true_eq] at h
        omega
    · cases hz
  have hQ : ∀ y ∈ R.drop t, K u ≤ K y := head_all hsplit.2.1 fun z hz => by
    rw [List.head?_drop] at hz
    have hlt : t < R.length := (List.getElem?_eq_some_iff.1 hz).1
    rcases s5 with h | h
    · omega
    · have g := gr s (by omega) (by omega)
      have e : s - A.length - 1 = t := by omega
      rw [e, hz] at g
      simp only [ltAt, g, decide_eq_false_iff_not] at h
      omega
  refine ⟨R.take t ++ u :: R.drop t, ?_, ?_, ?_⟩
  · rw [keepL_len]
    · simp
    · simp; omega
  · exact List.pairwise_append.2 ⟨hsplit.1, List.pairwise_cons.2 ⟨hQ, hsplit.2.1⟩, fun x hx y hy => by
      rcases List.mem_cons.1 hy with rfl | hy
      · exact hP x hx
      · exact hsplit.2.2 x hx y hy⟩
  · have := List.perm_middle (a := u) (l₁ := R.take t) (l₂ := R.drop t)
    rwa [List.take_append_drop] at this
/-- One element behind a sorted block. -/
theorem sym_two (A L C : List Fl) (v : Fl) (f : Nat) (hL : Rises L) (hf : L.length < f) (hl : (A ++ (L ++ v :: C)).length ≤ 1000) (hv : FlW v) (hw : ∀ x ∈ L, FlW x) :
    ∃ X, ((slices_symMergeCmpFunc_l2 (A ++ (L ++ v :: C)) ((A.length + L.length : Nat) : Int) f ((A.length : Nat) : Int) ((A.length + L.length : Nat) : Int)).bind fun y55 => (slices_symMergeCmpFunc_l3 y55 f ((A.length + L.length : Nat) : Int) (A ++ (L ++ v :: C))).bind fun y76 => keepL (A ++ (L ++ v :: C)) y76) = some (A ++ (X ++ C)) ∧ Rises X ∧ X.Perm (L ++ [v]) := by
  simp only [List.length_append, List.length_cons] at hl
  have e4 : A ++ (L ++ v :: C) = A ++ (L ++ ([v] ++ C)) := rfl
  have gv : (A ++ (L ++ v :: C))[A.length + L.length]? = some v := by rw [e4, get_r A L [v] C _ (Nat.le_refl _) (by simp)]; simp
  have gl : ∀ i, A.length ≤ i → i < A.length + L.length → (A ++ (L ++ v :: C))[i]? = L[i - A.length]? := fun i h1 h2 => by
    rw [e4]; exact get_l A L [v] C i h1 h2
  obtain ⟨s, s1, s2, s3, s4, s5⟩ := search_ok (F := slices_symMergeCmpFunc_l2 (A ++ (L ++ v :: C)) ((A.length + L.length : Nat) : Int)) (p := fun h => leAt (A ++ (L ++ v :: C)) h (K v)) (lo := A.length) (hi := A.length + L.length)
    (fun f i => by rw [slices_symMergeCmpFunc_l2, decide_neg (by omega), cond_false]) (fun f i j h1 h2 h3 => by
      obtain ⟨x, x1, x2⟩ := get_some (l := L) (i := (i + j) / 2 - A.length) (by omega)
      have gx := gl ((i + j) / 2) (by omega) (by omega)
      rw [x1] at gx
      have w1 : IntKind.i64.wrap ((((i + j) / 2 : Nat) : Int) + 1) = (((i + j) / 2 + 1 : Nat) : Int) := by rw [w64f (by omega) (by omega)]; omega
      rw [slices_symMergeCmpFunc_l2, decide_pos (by omega), cond_true, mid_eq (by omega), at_nat, at_nat, gx, gv, Option.bind_some, Option.bind_some, less_eq3 f hv (hw x x2), w1]
      simp only [leAt, gx, decide_eq_true_eq]
      by_cases hh : K v < K x
      · rw [if_pos hh, if_neg (by omega)]
      · rw [if_neg hh, if_pos (by omega)])
    L.length A.length (A.length + L.length) f (by omega) hf (Nat.le_refl _) (by omega) (Nat.le_refl _) (.inl rfl) (.inl rfl)
  rw [s1, Option.bind_some]
  obtain ⟨t, ht⟩ : ∃ t, t = s - A.length := ⟨_, rfl⟩
  have hs : s = (A ++ L.take t).length := by rw [List.length_append, List.length_take]; omega
  have hLt : A ++ (L ++ v :: C) = (A ++ L.take t) ++ (L.drop t ++ v :: C) := by rw [List.append_assoc, ← List.append_assoc (L.take t), List.take_append_drop]
  have hrr := left_l3 (L.drop t).length (L.drop t) (A ++ L.take t) C v f rfl (by rw [List.length_drop]; omega) (by rw [← hLt]; simp; omega)
  have e5 : ((A ++ L.take t) ++ L.drop t).length = A.length + L.length := by rw [List.append_assoc, List.take_append_drop, List.length_append]
  rw [← hs, ← hLt, e5] at hrr
  rw [hrr, Option.bind_some]
  have hsplit : Rises (L.take t) ∧ Rises (L.drop t) ∧ ∀ x ∈ L.take t, ∀ y ∈ L.drop t, K x ≤ K y := by
    have : Rises (L.take t ++ L.drop t) := by rw [List.take_append_drop]; exact hL
    exact List.pairwise_append.1 this
  have hP : ∀ x ∈ L.take t, K x ≤ K v := last_all hsplit.1 fun z hz => by
    rw [List.getLast?_eq_getElem?, List.getElem?_take, List.length_take] at hz
    split at hz
    · rename_i hlt
      rcases s4 with h | h
      · omega
      · have g := gl (s - 1) (by omega) (by omega)
        have e : s - 1 - A.length = min t L.length - 1 := by omega
        rw [e, hz] at g
        simp only [leAt, g, decide_eq_true_eq] at h
        exact h
    · cases hz
  have hQ : ∀ y ∈ L.drop t, K v ≤ K y := head_all hsplit.2.1 fun z hz => by
    rw [List.head?_drop] at hz
    have hlt : t < L.length := (List.getElem?_eq_some_iff.1 hz).1
    rcases s5 with h | h
    · omega
    · have g := gl s (by omega) (by omega)
      have e : s - A.length = t := by omega
      rw [e, hz] at g
      simp only [leAt, g, decide_eq_false_iff_not] at h
      omega
  refine ⟨L.take t ++ v :: L.drop t, ?_, ?_, ?_⟩
  · rw [keepL_len]
    · simp
    · simp; omega
  · exact List.pairwise_append.2 ⟨hsplit.1, List.pairwise_cons.2 ⟨hQ, hsplit.2.1⟩, fun x hx y hy => by
      rcases List.mem_cons.1 hy with rfl | hy
      · exact hP x hx
      · exact hsplit.2.2 x hx y hy⟩
  · have h1 := List.perm_middle (a := v) (l₁ := L.take t) (l₂ := L.drop t)
    rw [List.take_append_drop] at h1
    exact h1.trans (List.perm_append_singleton v L).symm
end Go.Pi

