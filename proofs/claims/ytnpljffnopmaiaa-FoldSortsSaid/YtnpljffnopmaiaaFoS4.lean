import Derived.Test.YtnpljffnopmaiaaFoS3
/-
  TWO SORTED HALVES MADE ONE, in place: turned about the middle, then each half again.
-/
set_option linter.all false
namespace Go.Pi
abbrev W64 (n : Int) : Int := IntKind.i64.wrap n
abbrev midI (a b : Int) : Int := IntKind.i64.wrap (shrI .u64 (IntKind.u64.wrap (IntKind.i64.wrap (a + b))) (1 : Int))
def symRec2 (rec : List Fl → Int → Int → Int → Option (List Fl)) (a0 l : List Fl) (mid e a3 : Int) : Option (List Fl) :=
  (cond (decide (mid < e)) (some (decide (e < a3))) (some false)).bind fun y => cond y ((rec l mid e a3).bind fun r => keepL a0 r) (keepL a0 l)
def symRec1 (rec : List Fl → Int → Int → Int → Option (List Fl)) (a0 l : List Fl) (a1 s mid e a3 : Int) : Option (List Fl) :=
  (cond (decide (a1 < s)) (some (decide (s < mid))) (some false)).bind fun y => cond y ((rec l a1 s mid).bind fun r => symRec2 rec a0 r mid e a3) (symRec2 rec a0 l mid e a3)
def symTail (k : Nat) (rec : List Fl → Int → Int → Int → Option (List Fl)) (a0 : List Fl) (a1 a2 a3 mid s e : Int) : Option (List Fl) :=
  (cond (decide (s < a2)) (some (decide (a2 < e))) (some false)).bind fun y => cond y ((slices_rotateCmpFunc k a0 s a2 e).bind fun r => symRec1 rec a0 r a1 s mid e a3) (symRec1 rec a0 a0 a1 s mid e a3)
theorem sym_body_eq (k : Nat) (rec : List Fl → Int → Int → Int → Option (List Fl)) (a0 : List Fl) (a1 a2 a3 : Int) : slices_symMergeCmpFunc_body k rec a0 a1 a2 a3 =
    cond (W64 (a2 - a1) == 1) ((slices_symMergeCmpFunc_l0 a0 a1 k a2 a3).bind fun y7 => (slices_symMergeCmpFunc_l1 y7 k a1 a0).bind fun y28 => keepL a0 y28)
    (cond (W64 (a3 - a2) == 1) ((slices_symMergeCmpFunc_l2 a0 a2 k a1 a2).bind fun y55 => (slices_symMergeCmpFunc_l3 y55 k a2 a0).bind fun y76 => keepL a0 y76)
    (cond (decide (a2 > midI a1 a3)) ((slices_symMergeCmpFunc_l4 a0 a1 a2 a3 k (W64 (W64 (midI a1 a3 + a2) - a3)) (midI a1 a3)).bind fun s => symTail k rec a0 a1 a2 a3 (midI a1 a3) s (W64 (W64 (midI a1 a3 + a2) - s)))
      ((slices_symMergeCmpFunc_l5 a0 a1 a2 a3 k a1 a2).bind fun s => symTail k rec a0 a1 a2 a3 (midI a1 a3) s (W64 (W64 (midI a1 a3 + a2) - s))))) := rfl
theorem sym_search {a0 : List Fl} {a m b M : Nat} {F : Nat → Int → Int → Option Int} (hM : midI (a : Int) (b : Int) = (M : Int)) (hF : ∀ k x y, F (k + 1) x y = cond (decide (x < y)) ((at? a0 (IntKind.i64.wrap ((IntKind.i64.wrap ((IntKind.i64.wrap ((midI (a : Int) (b : Int)) + (m : Int))) - (1 : Int))) - (IntKind.i64.wrap (shrI .u64 (IntKind.u64.wrap (IntKind.i64.wrap (x + y))) (1 : Int)))))).bind fun w112 => (at? a0 (IntKind.i64.wrap (shrI .u64 (IntKind.u64.wrap (IntKind.i64.wrap (x + y))) (1 : Int)))).bind fun w116 => (weigh_Order k w112 w116).bind fun r120 => cond (!(decide (r120 < (0 : Int)))) (F k (IntKind.i64.wrap ((IntKind.i64.wrap (shrI .u64 (IntKind.u64.wrap (IntKind.i64.wrap (x + y))) (1 : Int))) + (1 : Int))) y) (F k x (IntKind.i64.wrap (shrI .u64 (IntKind.u64.wrap (IntKind.i64.wrap (x + y))) (1 : Int))))) (some x))
    {lo hi f : Nat} (hlh : lo ≤ hi) (hb : M + m ≤ 3000) (hh : hi ≤ 1000) (hf : hi - lo < f) (hhi : hi < M + m) (hi1 : ∀ c, lo ≤ c → c < hi → ∃ x, a0[c]? = some x ∧ FlW x) (hi2 : ∀ c, lo ≤ c → c < hi → ∃ x, a0[M + m - 1 - c]? = some x ∧ FlW x) :
    ∃ s : Nat, F f (lo : Int) (hi : Int) = some (s : Int) ∧ lo ≤ s ∧ s ≤ hi ∧ (s = lo ∨ leTwo a0 (s - 1) (M + m - 1 - (s - 1)) = true) ∧ (s = hi ∨ leTwo a0 s (M + m - 1 - s) = false) := by
  refine search_ok (F := F) (p := fun c => leTwo a0 c (M + m - 1 - c)) (lo := lo) (hi := hi) (fun f i => by rw [hF, decide_neg (by omega), cond_false]) (fun f i j h1 h2 h3 => ?_) (hi - lo) lo hi f (Nat.le_refl _) hf (Nat.le_refl _) hlh (Nat.le_refl _) (.inl rfl) (.inl rfl)
  obtain ⟨x, x1, x2⟩ := hi1 ((i + j) / 2) (by omega) (by omega)
  obtain ⟨y, y1, y2⟩ := hi2 ((i + j) / 2) (by omega) (by omega)
  have w1 : IntKind.i64.wrap ((((i + j) / 2 : Nat) : Int) + 1) = (((i + j) / 2 + 1 : Nat) : Int) := by rw [w64f (by omega) (by omega)]; omega
  have w2 : IntKind.i64.wrap ((IntKind.i64.wrap ((IntKind.i64.wrap ((midI (a : Int) (b : Int)) + (m : Int))) - (1 : Int))) - (((i + j) / 2 : Nat) : Int)) = ((M + m - 1 - (i + j) / 2 : Nat) : Int) := by
    rw [hM, w64f (n := (M : Int) + (m : Int)) (by omega) (by omega), w64f (n := (M : Int) + (m : Int) - 1) (by omega) (by omega), w64f (by omega) (by omega)]; omega
  rw [hF, decide_pos (by omega), cond_true, mid_eq (by omega), w2, at_nat, at_nat, x1, y1, Option.bind_some, Option.bind_some, less_eq3 f y2 x2, w1]
  simp only [leTwo, x1, y1, decide_eq_true_eq]
  by_cases hlt : K y < K x
  · rw [if_pos hlt, if_neg (by omega)]
  · rw [if_neg hlt, if_pos (by omega)]
theorem two_of {l : List Fl} {i j : Nat} {x y : Fl} (hx : l[i]? = some x) (hy : l[j]? = some y) : leTwo l i j = decide (K x ≤ K y) := by
  simp only [leTwo, hx, hy]
/-- Two sorted blocks side by side come to one. -/
theorem sym_ok : ∀ (f : Nat) (A L R C : List Fl), 0 < L.length → 0 < R.length → Rises L → Rises R → (∀ x ∈ L ++ R, FlW x) → 2 * (L.length + R.length) + 10 ≤ f → (A ++ (L ++ (R ++ C))).length ≤ 1000 →
    ∃ X, slices_symMergeCmpFunc f (A ++ (L ++ (R ++ C))) ((A.length : Nat) : Int) ((A.length + L.length : Nat) : Int) ((A.length + L.length + R.length : Nat) : Int) = some (A ++ (X ++ C)) ∧ Rises X ∧ X.Perm (L ++ R)
  | 0, A, L, R, C, h1, h2, h3, h4, h5, h6, h7 => by omega
  | f + 1, A, L, R, C, h1, h2, h3, h4, h5, h6, h7 => by
    have hlen := h7
    simp only [List.length_append] at hlen
    rw [slices_symMergeCmpFunc, sym_body_eq]
    have w1 : W64 (((A.length + L.length : Nat) : Int) - ((A.length : Nat) : Int)) = ((L.length : Nat) : Int) := by unfold W64; rw [w64f (by omega) (by omega)]; omega
    have w2 : W64 (((A.length + L.length + R.length : Nat) : Int) - ((A.length + L.length : Nat) : Int)) = ((R.length : Nat) : Int) := by unfold W64; rw [w64f (by omega) (by omega)]; omega
    rw [w1, w2]
    by_cases c1 : L.length = 1
    · have hc : (((L.length : Nat) : Int) == 1) = true := by simp; omega
      rw [hc, cond_true]
      obtain ⟨u, rfl⟩ := List.length_eq_one_iff.1 c1
      exact sym_one A R C u f h4 (by omega) h7 (h5 u (by simp)) (fun x hx => h5 x (by simp [hx]))
    have hc : (((L.length : Nat) : Int) == 1) = false := by simp; omega
    rw [hc, cond_false]
    by_cases c2 : R.length = 1
    · have hc : (((R.length : Nat) : Int) == 1) = true := by simp; omega
      rw [hc, cond_true]
      obtain ⟨v, rfl⟩ := List.length_eq_one_iff.1 c2
      exact sym_two A L C v f h3 (by omega) h7 (h5 v (by simp)) (fun x hx => h5 x (by simp [hx]))
    have hc : (((R.length : Nat) : Int) == 1) = false := by simp; omega
    rw [hc, cond_false]
    obtain ⟨a, ha⟩ : ∃ a, a = A.length := ⟨_, rfl⟩
    obtain ⟨m, hm⟩ : ∃ m, m = A.length + L.length := ⟨_, rfl⟩
    obtain ⟨b, hb⟩ : ∃ b, b = A.length + L.length + R.length := ⟨_, rfl⟩
    obtain ⟨M, hMd⟩ : ∃ M, M = (a + b) / 2 := ⟨_, rfl⟩
    have hM : midI (a : Int) (b : Int) = (M : Int) := by unfold midI; rw [mid_eq (by omega), hMd]
    have gl : ∀ i, a ≤ i → i < m → ∃ x, (A ++ (L ++ (R ++ C)))[i]? = some x ∧ L[i - a]? = some x ∧ FlW x := fun i i1 i2 => by
      obtain ⟨x, x1, x2⟩ := get_some (l := L) (i := i - a) (by omega)
      exact ⟨x, by rw [get_l A L R C i (by omega) (by omega), ← ha, x1], x1, h5 x (List.mem_append_left _ x2)⟩
    have gr : ∀ i, m ≤ i → i < b → ∃ x, (A ++ (L ++ (R ++ C)))[i]? = some x ∧ R[i - m]? = some x ∧ FlW x := fun i i1 i2 => by
      obtain ⟨x, x1, x2⟩ := get_some (l := R) (i := i - m) (by omega)
      refine ⟨x, ?_, x1, h5 x (List.mem_append_right _ x2)⟩
      rw [get_r A L R C i (by omega) (by omega), show i - A.length - L.length = i - m by omega, x1]
    rw [← hb, ← hm, ← ha, hM]
    obtain ⟨s, hs, s1, s2, s3, s4, s5, k1, k2⟩ : ∃ s : Nat, (cond (decide ((m : Int) > (M : Int))) ((slices_symMergeCmpFunc_l4 (A ++ (L ++ (R ++ C))) (a : Int) (m : Int) (b : Int) f (W64 (W64 ((M : Int) + (m : Int)) - (b : Int))) (M : Int)).bind fun s => symTail f (fun x0 x1 x2 x3 => slices_symMergeCmpFunc f x0 x1 x2 x3) (A ++ (L ++ (R ++ C))) (a : Int) (m : Int) (b : Int) (M : Int) s (W64 (W64 ((M : Int) + (m : Int)) - s)))
        ((slices_symMergeCmpFunc_l5 (A ++ (L ++ (R ++ C))) (a : Int) (m : Int) (b : Int) f (a : Int) (m : Int)).bind fun s => symTail f (fun x0 x1 x2 x3 => slices_symMergeCmpFunc f x0 x1 x2 x3) (A ++ (L ++ (R ++ C))) (a : Int) (m : Int) (b : Int) (M : Int) s (W64 (W64 ((M : Int) + (m : Int)) - s))))
        = symTail f (fun x0 x1 x2 x3 => slices_symMergeCmpFunc f x0 x1 x2 x3) (A ++ (L ++ (R ++ C))) (a : Int) (m : Int) (b : Int) (M : Int) (s : Int) ((M + m - s : Nat) : Int) ∧ a ≤ s ∧ s ≤ m ∧ s ≤ M ∧ m ≤ M + m - s ∧ M + m - s ≤ b ∧
        (a < s → M + m - s < b → leTwo (A ++ (L ++ (R ++ C))) (s - 1) (M + m - s) = true) ∧ (s < m → s < M → leTwo (A ++ (L ++ (R ++ C))) s (M + m - 1 - s) = false) := by
      by_cases hmM : M < m
      · rw [decide_pos (by omega), cond_true]
        have w3 : W64 (W64 ((M : Int) + (m : Int)) - (b : Int)) = ((M + m - b : Nat) : Int) := by unfold W64; rw [w64f (n := (M : Int) + m) (by omega) (by omega), w64f (by omega) (by omega)]; omega
        obtain ⟨s, q1, q2, q3, q4, q5⟩ := sym_search (a0 := A ++ (L ++ (R ++ C))) (F := slices_symMergeCmpFunc_l4 (A ++ (L ++ (R ++ C))) (a : Int) (m : Int) (b : Int)) hM (fun k x y => by rw [slices_symMergeCmpFunc_l4]) (lo := M + m - b) (hi := M) (f := f) (by omega) (by omega) (by omega) (by omega) (by omega)
          (fun c c1 c2 => by obtain ⟨x, x1, _, x3⟩ := gl c (by omega) (by omega); exact ⟨x, x1, x3⟩) (fun c c1 c2 => by obtain ⟨x, x1, _, x3⟩ := gr (M + m - 1 - c) (by omega) (by omega); exact ⟨x, x1, x3⟩)
        have w4 : W64 (W64 ((M : Int) + (m : Int)) - (s : Int)) = ((M + m - s : Nat) : Int) := by unfold W64; rw [w64f (n := (M : Int) + m) (by omega) (by omega), w64f (by omega) (by omega)]; omega
        refine ⟨s, by rw [w3, q1, Option.bind_some, w4], by omega, by omega, q3, by omega, by omega, fun _ hh => ?_, fun _ hh => ?_⟩
        · rcases q4 with q4 | q4
          · omega
          · rwa [show M + m - 1 - (s - 1) = M + m - s by omega] at q4
        · rcases q5 with q5 | q5
          · omega
          · exact q5
      · rw [decide_neg (by omega), cond_false]
        obtain ⟨s, q1, q2, q3, q4, q5⟩ := sym_search (a0 := A ++ (L ++ (R ++ C))) (F := slices_symMergeCmpFunc_l5 (A ++ (L ++ (R ++ C))) (a : Int) (m : Int) (b : Int)) hM (fun k x y => by rw [slices_symMergeCmpFunc_l5]) (lo := a) (hi := m) (f := f) (by omega) (by omega) (by omega) (by omega) (by omega)
          (fun c c1 c2 => by obtain ⟨x, x1, _, x3⟩ := gl c (by omega) (by omega); exact ⟨x, x1, x3⟩) (fun c c1 c2 => by obtain ⟨x, x1, _, x3⟩ := gr (M + m - 1 - c) (by omega) (by omega); exact ⟨x, x1, x3⟩)
        have w4 : W64 (W64 ((M : Int) + (m : Int)) - (s : Int)) = ((M + m - s : Nat) : Int) := by unfold W64; rw [w64f (n := (M : Int) + m) (by omega) (by omega), w64f (by omega) (by omega)]; omega
        refine ⟨s, by rw [q1, Option.bind_some, w4], by omega, by omega, by omega, by omega, by omega, fun hh _ => ?_, fun hh _ => ?_⟩
        · rcases q4 with q4 | q4
          · omega
          · rwa [show M + m - 1 - (s - 1) = M + m - s by omega] at q4
        · rcases q5 with q5 | q5
          · omega
          · exact q5
    rw [hs]
    obtain ⟨e, he⟩ : ∃ e, e = M + m - s := ⟨_, rfl⟩
    rw [← he] at k1 s4 s5 ⊢
    -- the four parts
    obtain ⟨L1, hL1⟩ : ∃ l, l = L.take (s - a) := ⟨_, rfl⟩
    obtain ⟨L2, hL2⟩ : ∃ l, l = L.drop (s - a) := ⟨_, rfl⟩
    obtain ⟨R1, hR1⟩ : ∃ l, l = R.take (e - m) := ⟨_, rfl⟩
    obtain ⟨R2, hR2⟩ : ∃ l, l = R.drop (e - m) := ⟨_, rfl⟩
    have hL : L = L1 ++ L2 := by rw [hL1, hL2, List.take_append_drop]
    have hR : R = R1 ++ R2 := by rw [hR1, hR2, List.take_append_drop]
    have n1 : L1.length = s - a := by rw [hL1, List.length_take]; omega
    have n2 : L2.length = m - s := by rw [hL2, List.length_drop]; omega
    have n3 : R1.length = e - m := by rw [hR1, List.length_take]; omega
    have n4 : R2.length = b - e := by rw [hR2, List.length_drop]; omega
    have hLs := h3
    rw [hL] at hLs
    have hLs := List.pairwise_append.1 hLs
    have hRs := h4
    rw [hR] at hRs
    have hRs := List.pairwise_append.1 hRs
    have x12 : ∀ x ∈ L1, ∀ y ∈ R2, K x ≤ K y := by
      intro x hx y hy
      refine last_all (P := L1) hLs.1 (fun z hz => head_all (P := R2) hRs.2.1 (fun w hw => ?_) y hy) x hx
      have p1 : 0 < L1.length := List.length_pos_of_mem hx
      have p2 : 0 < R2.length := List.length_pos_of_mem hy
      have hk := k1 (by omega) (by omega)
      obtain ⟨z', z1, z2, _⟩ := gl (s - 1) (by omega) (by omega)
      obtain ⟨w', y1, y2, _⟩ := gr e (by omega) (by omega)
      rw [two_of z1 y1, decide_eq_true_eq] at hk
      rw [List.getLast?_eq_getElem?, n1, hL1, List.getElem?_take, if_pos (by omega), show s - a - 1 = s - 1 - a by omega, z2] at hz
      rw [hR2, List.head?_drop, y2] at hw
      injection hz with hz; injection hw with hw
      subst hz hw
      exact hk
    have x21 : ∀ x ∈ R1, ∀ y ∈ L2, K x ≤ K y := by
      intro x hx y hy
      refine last_all (P := R1) hRs.1 (fun z hz => head_all (P := L2) hLs.2.1 (fun w hw => ?_) y hy) x hx
      have p1 : 0 < R1.length := List.length_pos_of_mem hx
      have p2 : 0 < L2.length := List.length_pos_of_mem hy
      have hk := k2 (by omega) (by omega)
      obtain ⟨w', y1, y2, _⟩ := gl s (by omega) (by omega)
      obtain ⟨z', z1, z2, _⟩ := gr (M + m - 1 - s) (by omega) (by omega)
      rw [two_of y1 z1, decide_eq_false_iff_not] at hk
      rw [List.getLast?_eq_getElem?, n3, hR1, List.getElem?_take, if_pos (by omega), show e - m - 1 = M + m - 1 - s - m by omega, z2] at hz
      rw [hL2, List.head?_drop, y2] at hw
      injection hz with hz; injection hw with hw
      subst hz hw
      omega
    have hperm : ((L1 ++ R1) ++ (L2 ++ R2)).Perm (L ++ R) := by
      rw [hL, hR, List.append_assoc, List.append_assoc]
      refine List.Perm.append_left L1 ?_
      rw [← List.append_assoc, ← List.append_assoc]
      exact List.perm_append_comm.append_right R2
    have hmem : ∀ x ∈ (L1 ++ R1) ++ (L2 ++ R2), FlW x := fun x hx => h5 x (hperm.mem_iff.1 hx)
    have hdat : A ++ (L ++ (R ++ C)) = A ++ (L1 ++ (L2 ++ (R1 ++ (R2 ++ C)))) := by rw [hL, hR]; simp
    -- turned
    have t1 : symTail f (fun x0 x1 x2 x3 => slices_symMergeCmpFunc f x0 x1 x2 x3) (A ++ (L ++ (R ++ C))) (a : Int) (m : Int) (b : Int) (M : Int) (s : Int) (e : Int) =
        symRec1 (fun x0 x1 x2 x3 => slices_symMergeCmpFunc f x0 x1 x2 x3) (A ++ (L ++ (R ++ C))) (A ++ (L1 ++ (R1 ++ (L2 ++ (R2 ++ C))))) (a : Int) (s : Int) (M : Int) (e : Int) (b : Int) := by
      unfold symTail
      by_cases d1 : s < m
      · rw [decide_pos (by omega), cond_true, Option.bind_some]
        by_cases d2 : m < e
        · rw [decide_pos (by omega), cond_true]
          have hr := rotate_ok (A ++ L1) L2 R1 (R2 ++ C) f (by omega) (by omega) (by omega) (by simp; omega)
          have i1 : ((A ++ L1).length : Nat) = s := by rw [List.length_append]; omega
          have i2 : (((A ++ L1) ++ L2).length : Nat) = m := by rw [List.length_append, List.length_append]; omega
          have i3 : (((A ++ L1) ++ (L2 ++ R1)).length : Nat) = e := by simp only [List.length_append]; omega
          rw [i1, i2, i3] at hr
          have j1 : (A ++ L1) ++ (L2 ++ (R1 ++ (R2 ++ C))) = A ++ (L ++ (R ++ C)) := by rw [hdat]; simp
          have j2 : (A ++ L1) ++ (R1 ++ (L2 ++ (R2 ++ C))) = A ++ (L1 ++ (R1 ++ (L2 ++ (R2 ++ C)))) := by simp
          rw [j1, j2] at hr
          rw [hr, Option.bind_some]
        · rw [decide_neg (by omega), cond_false]
          have : R1 = [] := List.length_eq_zero_iff.1 (by omega)
          rw [hdat, this]
          rfl
      · rw [decide_neg (by omega), cond_false, Option.bind_some, cond_false]
        have : L2 = [] := List.length_eq_zero_iff.1 (by omega)
        rw [hdat, this]
        rfl
    -- the first half
    obtain ⟨X, t2, X1, X2⟩ : ∃ X, symRec1 (fun x0 x1 x2 x3 => slices_symMergeCmpFunc f x0 x1 x2 x3) (A ++ (L ++ (R ++ C))) (A ++ (L1 ++ (R1 ++ (L2 ++ (R2 ++ C))))) (a : Int) (s : Int) (M : Int) (e : Int) (b : Int) =
        symRec2 (fun x0 x1 x2 x3 => slices_symMergeCmpFunc f x0 x1 x2 x3) (A ++ (L ++ (R ++ C))) (A ++ (X ++ (L2 ++ (R2 ++ C)))) (M : Int) (e : Int) (b : Int) ∧ Rises X ∧ X.Perm (L1 ++ R1) := by
      unfold symRec1
      by_cases d1 : a < s
      · by_cases d2 : s < M
        · obtain ⟨X, q1, q2, q3⟩ := sym_ok f A L1 R1 (L2 ++ (R2 ++ C)) (by omega) (by omega) hLs.1 hRs.1 (fun x hx => hmem x (List.mem_append_left _ hx)) (by omega) (by simp; omega)
          rw [show A.length + L1.length = s by omega, show s + R1.length = M by omega, ← ha] at q1
          have q1' : (fun x0 x1 x2 x3 => slices_symMergeCmpFunc f x0 x1 x2 x3) (A ++ (L1 ++ (R1 ++ (L2 ++ (R2 ++ C))))) (a : Int) (s : Int) (M : Int) = some (A ++ (X ++ (L2 ++ (R2 ++ C)))) := q1
          exact ⟨X, by rw [decide_pos (by omega), cond_true, Option.bind_some, decide_pos (by omega), cond_true, q1', Option.bind_some], q2, q3⟩
        · have : R1 = [] := List.length_eq_zero_iff.1 (by omega)
          refine ⟨L1, by rw [decide_pos (by omega), cond_true, Option.bind_some, decide_neg (by omega), cond_false, this]; rfl, hLs.1, by rw [this, List.append_nil]⟩
      · have : L1 = [] := List.length_eq_zero_iff.1 (by omega)
        refine ⟨R1, by rw [decide_neg (by omega), cond_false, Option.bind_some, cond_false, this]; rfl, hRs.1, by rw [this, List.nil_append]⟩
    have nX : X.length = M - a := by
      have := X2.length_eq
      rw [List.length_append] at this
      omega
    -- the second half
    obtain ⟨Y, t3, Y1, Y2⟩ : ∃ Y, symRec2 (fun x0 x1 x2 x3 => slices_symMergeCmpFunc f x0 x1 x2 x3) (A ++ (L ++ (R ++ C))) (A ++ (X ++ (L2 ++ (R2 ++ C)))) (M : Int) (e : Int) (b : Int) =
        keepL (A ++ (L ++ (R ++ C))) (A ++ (X ++ (Y ++ C))) ∧ Rises Y ∧ Y.Perm (L2 ++ R2) := by
      unfold symRec2
      by_cases d1 : M < e
      · by_cases d2 : e < b
        · obtain ⟨Y, q1, q2, q3⟩ := sym_ok f (A ++ X) L2 R2 C (by omega) (by omega) hLs.2.1 hRs.2.1 (fun x hx => hmem x (List.mem_append_right _ hx)) (by omega) (by simp; omega)
          rw [show (A ++ X).length = M by rw [List.length_append]; omega, show M + L2.length = e by omega, show e + R2.length = b by omega, List.append_assoc, List.append_assoc] at q1
          have q1' : (fun x0 x1 x2 x3 => slices_symMergeCmpFunc f x0 x1 x2 x3) (A ++ (X ++ (L2 ++ (R2 ++ C)))) (M : Int) (e : Int) (b : Int) = some (A ++ (X ++ (Y ++ C))) := q1
          exact ⟨Y, by rw [decide_pos (by omega), cond_true, Option.bind_some, decide_pos (by omega), cond_true, q1', Option.bind_some], q2, q3⟩
        · have : R2 = [] := List.length_eq_zero_iff.1 (by omega)
          refine ⟨L2, by rw [decide_pos (by omega), cond_true, Option.bind_some, decide_neg (by omega), cond_false, this]; rfl, hLs.2.1, by rw [this, List.append_nil]⟩
      · have : L2 = [] := List.length_eq_zero_iff.1 (by omega)
        refine ⟨R2, by rw [decide_neg (by omega), cond_false, Option.bind_some, cond_false, this]; rfl, hRs.2.1, by rw [this, List.nil_append]⟩
    refine ⟨X ++ Y, ?_, ?_, (X2.append Y2).trans hperm⟩
    · rw [t1, t2, t3, keepL_len]
      · simp
      · have := ((X2.append Y2).trans hperm).length_eq
        simp only [List.length_append] at this ⊢
        omega
    · refine List.pairwise_append.2 ⟨X1, Y1, fun x hx y hy => ?_⟩
      have hx := X2.mem_iff.1 hx
      have hy := Y2.mem_iff.1 hy
      rcases List.mem_append.1 hx with hx | hx
      · rcases List.mem_append.1 hy with hy | hy
        · exact hLs.2.2 x hx y hy
        · exact x12 x hx y hy
      · rcases List.mem_append.1 hy with hy | hy
        · exact x21 x hx y hy
        · exact hRs.2.2 x hx y hy
end Go.Pi

