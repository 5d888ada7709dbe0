import Derived.Test.YtghncdeldlknnaaTxQ
/-
  TREES: which lists are trees, in both texts.
-/
set_option linter.all false
namespace Go.Pi
set_option linter.unusedVariables false

/-! ### by the document -/
/-- The kid ahead of one, in a list of kids. -/
theorem kr_mem {l : List NodeT} {p : Nat} : ∀ {m j : Nat} {x : Int}, x ∈ kr l p j m → ∃ t : Nat, x = (t : Int) ∧ j ≤ t ∧ t < j + m ∧ prI l t = (p : Int)
  | 0, _, _, h => by simp [kr] at h
  | m + 1, j, x, h => by
    unfold kr at h
    split at h
    · rename_i c
      simp at h
      rcases h with rfl | h
      · exact ⟨j, rfl, by omega, by omega, c⟩
      · obtain ⟨t, h1, h2, h3, h4⟩ := kr_mem h
        exact ⟨t, h1, by omega, by omega, h4⟩
    · obtain ⟨t, h1, h2, h3, h4⟩ := kr_mem h
      exact ⟨t, h1, by omega, by omega, h4⟩
/-- Every two that follow each other in the list of kids: the one ahead ends ere i begins, where the one behind is i. -/
def pairsOk (l : List NodeT) (i : Nat) : List Int → Prop
  | a :: b :: r => (b = (i : Int) → (nd l a.toNat).to_ ≤ (nd l i).from_) ∧ pairsOk l i (b :: r)
  | _ => True
theorem may_l1 {l : List NodeT} {i : Nat} {K : List Int} (hK : ∀ x ∈ K, ∃ t : Nat, x = (t : Int) ∧ t < l.length) (hl : l.length ≤ 1000) (hKl : K.length ≤ 1000) :
    ∀ {m j k : Nat}, j + m = K.length → 1 ≤ j → m < k →
      ((pairsOk l i (K.drop (j - 1)) → eyotref18_May_l1 l i (nd l i) K k j = some (Sum.inl ())) ∧ (¬ pairsOk l i (K.drop (j - 1)) → eyotref18_May_l1 l i (nd l i) K k j = some (Sum.inr ())))
  | 0, j, k, hj, h1, hk => by
    obtain ⟨k, rfl⟩ : ∃ m, k = m + 1 := ⟨k - 1, by omega⟩
    rw [eyotref18_May_l1]
    have : decide ((j : Int) < ((K.length : Nat) : Int)) = false := by simp; omega
    rw [this]
    refine ⟨fun _ => rfl, fun h => absurd ?_ h⟩
    have hlen : (K.drop (j - 1)).length ≤ 1 := by simp; omega
    match K.drop (j - 1), hlen with
    | [], _ => trivial
    | [_], _ => trivial
  | m + 1, j, k, hj, h1, hk => by
    obtain ⟨k, rfl⟩ : ∃ m, k = m + 1 := ⟨k - 1, by omega⟩
    obtain ⟨j, rfl⟩ : ∃ q, j = q + 1 := ⟨j - 1, by omega⟩
    have hj1 : j + 1 < K.length := by omega
    have e1 : K[j + 1]? = some K[j + 1] := List.getElem?_eq_getElem hj1
    have e0 : K[j]? = some K[j] := List.getElem?_eq_getElem (by omega)
    obtain ⟨t, t1, t2⟩ := hK K[j] (List.getElem_mem _)
    have hd : K.drop (j + 1 - 1) = K[j] :: K[j + 1] :: K.drop (j + 2) := by
      rw [Nat.add_sub_cancel, List.drop_eq_getElem_cons (by omega), List.drop_eq_getElem_cons hj1]
    have ih := may_l1 (i := i) hK hl hKl (m := m) (j := j + 2) (k := k) (by omega) (by omega) (by omega)
    have hd2 : K.drop (j + 2 - 1) = K[j + 1] :: K.drop (j + 2) := by
      rw [show j + 2 - 1 = j + 1 by omega, List.drop_eq_getElem_cons hj1]
    rw [hd2] at ih
    rw [hd, eyotref18_May_l1]
    have c0 : decide (((j + 1 : Nat) : Int) < ((K.length : Nat) : Int)) = true := by simp; omega
    rw [c0, at_get (j := j + 1) rfl e1, w64 (by omega) (by omega), w64 (by omega) (by omega), at_get (j := j) (by omega) e0, t1]
    have e2 : ((j + 1 : Nat) : Int) + 1 = ((j + 2 : Nat) : Int) := by omega
    simp only [cond_true, Option.bind_some, e2, pairsOk, Int.toNat_natCast, at_nd t2]
    by_cases c : K[j + 1] = (i : Int)
    · have c' : (K[j + 1] == (i : Int)) = true := by simpa using c
      rw [c']
      simp only [cond_true, Option.bind_some]
      by_cases c2 : (nd l i).from_ < (nd l t).to_
      · have c2' : decide ((nd l i).from_ < (nd l t).to_) = true := by simpa using c2
        rw [c2']
        simp only [cond_true]
        exact ⟨fun h => by have := h.1 c; omega, fun _ => trivial⟩
      · have c2' : decide ((nd l i).from_ < (nd l t).to_) = false := by simpa using c2
        rw [c2']
        simp only [cond_false]
        exact ⟨fun h => ih.1 h.2, fun h => ih.2 fun h2 => h ⟨fun _ => by omega, h2⟩⟩
    · have c' : (K[j + 1] == (i : Int)) = false := by simpa using c
      rw [c']
      simp only [cond_false, Option.bind_some]
      exact ⟨fun h => ih.1 h.2, fun h => ih.2 fun h2 => h ⟨fun e => absurd e c, h2⟩⟩
theorem pairs_none {l : List NodeT} {i : Nat} : ∀ {K : List Int}, (∀ x ∈ K.tail, x ≠ (i : Int)) → pairsOk l i K
  | [], _ => trivial
  | [_], _ => trivial
  | a :: b :: r, h => ⟨fun e => absurd e (h b (by simp)), pairs_none fun x hx => h x (by simp at hx ⊢; exact .inr hx)⟩
/-- What the pairs ask of i: what stands ahead of it ends ere it begins. -/
theorem pairs_lend {l : List NodeT} {n p i : Nat} (h : okT l n) (hin : i ≤ n) (hp : par l (nd l i).Depth i = some p) (hf : (nd l p).from_ ≤ (nd l i).from_) :
    ∀ {m j : Nat} (pl : List Int), p < j → j ≤ i → i < j + m → ((pl = [] ∧ lend l p (j - p - 1) = (nd l p).from_) ∨ ∃ t : Nat, pl = [(t : Int)] ∧ lend l p (j - p - 1) = (nd l t).to_) →
      (pairsOk l i (pl ++ kr l p j m) ↔ lend l p (i - p - 1) ≤ (nd l i).from_)
  | 0, j, pl, h1, h2, h3, _ => by omega
  | m + 1, j, pl, hpj, hji, him, hx => by
    obtain ⟨q1, q2, q3⟩ := par_some.1 hp
    by_cases e : j = i
    · subst e
      have hk : kr l p j (m + 1) = (j : Int) :: kr l p (j + 1) m := by
        conv => lhs; unfold kr
        rw [if_pos (prI_eq.2 hp)]
      have hrest : ∀ x ∈ kr l p (j + 1) m, x ≠ (j : Int) := by
        intro x hx e
        obtain ⟨t, t1, t2, t3, t4⟩ := kr_mem hx
        omega
      rw [hk]
      rcases hx with ⟨rfl, hx⟩ | ⟨t, rfl, hx⟩
      · simp only [List.nil_append]
        exact ⟨fun _ => by omega, fun _ => pairs_none hrest⟩
      · simp only [List.cons_append, List.nil_append, pairsOk, Int.toNat_natCast]
        exact ⟨fun hh => by have := hh.1 trivial; omega, fun hh => ⟨fun _ => by omega, pairs_none hrest⟩⟩
    · have hlt : j < i := by omega
      have hsub : ∀ s, p < s → s < i → (nd l s).Depth > (nd l p).Depth := fun s a b => by have := q3 s a b; omega
      by_cases c : prI l j = (p : Int)
      · have hdj := (h.dpar (show j < n by omega) (prI_eq.1 c)).2.1
        have hk : kr l p j (m + 1) = (j : Int) :: kr l p (j + 1) m := by
          conv => lhs; unfold kr
          rw [if_pos c]
        have hl : lend l p (j + 1 - p - 1) = (nd l j).to_ := by
          obtain ⟨w, hw⟩ : ∃ w, j = p + 1 + w := ⟨j - p - 1, by omega⟩
          have e2 : j + 1 - p - 1 = w + 1 := by omega
          rw [e2, lend, ← hw, if_pos (by omega)]
        have ih := pairs_lend h hin hp hf (m := m) (j := j + 1) [(j : Int)] (by omega) (by omega) (by omega) (.inr ⟨j, rfl, hl⟩)
        rw [hk, ← ih]
        rcases hx with ⟨rfl, hx⟩ | ⟨t, rfl, hx⟩
        · simp
        · simp only [List.cons_append, List.nil_append, pairsOk]
          exact ⟨fun hh => hh.2, fun hh => ⟨fun e => by omega, hh⟩⟩
      · have hk : kr l p j (m + 1) = kr l p (j + 1) m := by
          conv => lhs; unfold kr
          rw [if_neg c]
        have hl : lend l p (j + 1 - p - 1) = lend l p (j - p - 1) := by
          obtain ⟨w, hw⟩ : ∃ w, j = p + 1 + w := ⟨j - p - 1, by omega⟩
          have e2 : j + 1 - p - 1 = w + 1 := by omega
          have e3 : j - p - 1 = w := by omega
          rw [e2, e3, lend, ← hw, if_neg]
          intro hd
          exact c (prI_eq.2 (kid_par hpj hd fun s a b => hsub s a (by omega)))
        rw [hk]
        exact pairs_lend h hin hp hf (m := m) (j := j + 1) pl (by omega) (by omega) (by omega) (by rw [hl]; exact hx)
theorem kr_len {l : List NodeT} {p : Nat} : ∀ {m j : Nat}, (kr l p j m).length ≤ m
  | 0, _ => by simp [kr]
  | m + 1, j => by
    unfold kr
    have := kr_len (l := l) (p := p) (m := m) (j := j + 1)
    split <;> simp <;> omega
theorem kr_has {l : List NodeT} {p t : Nat} : ∀ {m j : Nat}, j ≤ t → t < j + m → prI l t = (p : Int) → (t : Int) ∈ kr l p j m
  | 0, j, h1, h2, _ => by omega
  | m + 1, j, h1, h2, h3 => by
    unfold kr
    by_cases e : j = t
    · subst e
      rw [if_pos h3]; simp
    · have := kr_has (m := m) (j := j + 1) (by omega) (by omega) h3
      split
      · simp [this]
      · exact this
theorem mayw_iff (a : NodeT) : mayw a = true ↔ ((0 ≤ a.Token ∧ a.Rule = -1) ∨ (a.Token = -1 ∧ 0 ≤ a.Rule)) := by
  simp [mayw]
def stepR (ok : Prop) (x : Option (Unit ⊕ Unit)) (y : Option (Unit ⊕ Unit)) : Prop := (ok → x = y) ∧ (¬ ok → x = some (Sum.inr ()))
theorem stepR.no {ok : Prop} {x y : Option (Unit ⊕ Unit)} (h : ¬ ok) (hx : x = some (Sum.inr ())) : stepR ok x y := ⟨fun o => absurd o h, fun _ => hx⟩
theorem stepR.yes {ok : Prop} {x y : Option (Unit ⊕ Unit)} (h : ok) (hx : x = y) : stepR ok x y := ⟨fun _ => hx, fun o => absurd h o⟩
theorem mw_bind {β : Type} (a : NodeT) (f : Bool → Option β) : ((cond (decide (a.Token ≥ (0 : Int))) (some (a.Rule == (-1 : Int))) (some false)).bind fun y => (cond (!y) (cond (decide (a.Rule ≥ (0 : Int))) (some (!(a.Token == (-1 : Int)))) (some true)) (some false)).bind f) = f (!mayw a) := by
  have e : mayw a = ((decide (a.Token ≥ (0 : Int)) && a.Rule == -1) || (a.Token == -1 && decide (a.Rule ≥ (0 : Int)))) := rfl
  rw [e]
  cases h1 : decide (a.Token ≥ (0 : Int)) <;> cases h2 : (a.Rule == (-1 : Int)) <;> cases h3 : (a.Token == (-1 : Int)) <;> cases h4 : decide (a.Rule ≥ (0 : Int)) <;> first | rfl | (exfalso; simp at h1 h2 h3 h4; omega)
theorem y10_bind {β : Type} {a b c : Bool} {f : Bool → Option β} : (cond a (some true) (cond b (some true) (some c))).bind f = f (a || b || c) := by cases a <;> cases b <;> rfl
theorem y2_bind {β : Type} {a c : Bool} {f : Bool → Option β} : (cond a (some true) (some c)).bind f = f (a || c) := by cases a <;> rfl
/-- One round, by the document. -/
theorem may_l0 {l : List NodeT} (hw : ∀ a ∈ l, NodeW a) (hl : l.length ≤ 1000) {i k : Nat} (hi : i < l.length) (hk : 3 * l.length + 10 < k) (h : okT l i) :
    stepR (okN l i) (eyotref18_May_l0 l (k + 1) i) (eyotref18_May_l0 l k ((i + 1 : Nat) : Int)) := by
  have c0 : decide ((i : Int) < ((l.length : Nat) : Int)) = true := by simp; omega
  have e1 : IntKind.i64.wrap ((i : Int) + 1) = ((i + 1 : Nat) : Int) := by rw [w64 (by omega) (by omega)]; omega
  rw [eyotref18_May_l0, c0, at_nd hi, e1]
  simp only [cond_true, Option.bind_some]
  rcases Nat.eq_zero_or_pos i with rfl | h0
  · -- the root
    simp only [Int.natCast_zero, beq_self_eq_true, cond_true, show decide ((0 : Int) > 0) = false from rfl, cond_false, y2_bind, mw_bind]
    by_cases d0 : ((nd l 0).Depth != 0 || decide ((nd l 0).from_ > (nd l 0).to_)) = true
    · simp only [d0, cond_true, Option.bind_some]
      refine .no (fun ok => ?_) rfl
      have h1 := ok.1
      have h2 := ok.2.2.1 rfl
      simp [h2] at d0
      omega
    · simp only [Bool.not_eq_true] at d0
      simp only [d0, cond_false]
      cases hm : mayw (nd l 0) with
      | false => exact .no (fun ok => by have := ok.2.1; rw [hm] at this; cases this) rfl
      | true =>
        refine .yes ⟨?_, hm, fun _ => ?_, fun h => by omega⟩ rfl
        · simp at d0; omega
        · simp at d0; omega
  · have i0 : ((i : Int) == (0 : Int)) = false := by simp; omega
    have i1 : decide ((i : Int) > (0 : Int)) = true := by simp; omega
    have e2 : (i : Int) - 1 = ((i - 1 : Nat) : Int) := by omega
    have hd := h.depth (i := i - 1) (by omega)
    simp only [i0, i1, cond_false, cond_true, e2, w64 (n := ((i - 1 : Nat) : Int)) (by omega) (by omega), at_nd (show i - 1 < l.length by omega), Option.bind_some, w64 (n := (nd l (i - 1)).Depth + 1) (by omega) (by omega), y10_bind, mw_bind]
    by_cases d0 : (decide ((nd l i).Depth < 1) || decide ((nd l i).Depth > (nd l (i - 1)).Depth + 1) || decide ((nd l i).from_ > (nd l i).to_)) = true
    · simp only [d0, cond_true, Option.bind_some]
      refine .no (fun ok => ?_) rfl
      have h1 := ok.1
      have h2 := ok.2.2.2 h0
      simp at d0
      omega
    · simp only [Bool.not_eq_true] at d0
      simp only [d0, cond_false]
      simp at d0
      obtain ⟨⟨d1, d2⟩, d3⟩ := d0
      cases hm : mayw (nd l i) with
      | false => exact .no (fun ok => by have := ok.2.1; rw [hm] at this; cases this) rfl
      | true =>
        obtain ⟨p, p1, p2, p3⟩ := h.has_par (Nat.le_refl i) h0 (by omega) (by omega)
        have hp : p < l.length := by omega
        have hpr : prI l i = (p : Int) := prI_eq.2 p1
        have q3 := (par_some.1 p1).2.2
        have hsub : ∀ s, p < s → s < i → (nd l s).Depth > (nd l p).Depth := fun s a b => by have := q3 s a b; omega
        simp only [Bool.not_true, cond_false, parent_eq hi hl (show i < k by omega), Option.bind_some, hpr, at_nd hp, y10_bind, kidsR_eq hl hp (show 2 * l.length + 1 < k by omega)]
        have hlow : (nd l p).from_ ≤ lend l p (i - p - 1) := by
          have := lend_mono h (p := p) (m := 0) (m' := i - p - 1) (by omega) (by omega) (fun s a b => hsub s a (by omega))
          simpa only [lend] using this
        by_cases y : (decide ((nd l i).from_ < (nd l p).from_) || decide ((nd l i).to_ > (nd l p).to_) || decide ((nd l p).Token ≥ 0)) = true
        · simp only [y, cond_true, Option.bind_some]
          refine .no (fun ok => ?_) rfl
          have := (ok.2.2.2 h0).2.2 p p1
          simp at y
          omega
        · simp only [Bool.not_eq_true] at y
          simp only [y, cond_false]
          simp at y
          obtain ⟨⟨y1, y2⟩, y3⟩ := y
          have hK : ∀ x ∈ kidsR l p, ∃ t : Nat, x = (t : Int) ∧ t < l.length := fun x hx => by
            obtain ⟨t, t1, t2, t3, _⟩ := kr_mem hx
            exact ⟨t, t1, by omega⟩
          have hKl : (kidsR l p).length ≤ 1000 := by
            have := kr_len (l := l) (p := p) (m := l.length - (p + 1)) (j := p + 1)
            unfold kidsR; omega
          have hKl2 : (kidsR l p).length ≤ l.length := by
            have := kr_len (l := l) (p := p) (m := l.length - (p + 1)) (j := p + 1)
            unfold kidsR; omega
          have hne : 1 ≤ (kidsR l p).length := List.length_pos_of_mem (kr_has (t := i) (by omega) (by omega) hpr)
          have hm1 := may_l1 (i := i) hK hl hKl (m := (kidsR l p).length - 1) (j := 1) (k := k) (by omega) (by omega) (by omega)
          have hpl := pairs_lend (n := i) h (Nat.le_refl i) p1 (by omega) (m := l.length - (p + 1)) (j := p + 1) [] (by omega) (by omega) (by omega) (.inl ⟨rfl, by rw [show p + 1 - p - 1 = 0 by omega]; rfl⟩)
          simp only [Nat.sub_self, List.drop_zero, Int.natCast_one] at hm1
          simp only [List.nil_append] at hpl
          by_cases c : lend l p (i - p - 1) ≤ (nd l i).from_
          · rw [hm1.1 (hpl.2 c)]
            refine .yes ⟨by omega, hm, fun e => by omega, fun _ => ⟨by omega, by omega, fun p' hp' => ?_⟩⟩ rfl
            rw [p1] at hp'
            injection hp' with hp'
            subst hp'
            exact ⟨by omega, by omega, c⟩
          · rw [hm1.2 (fun hh => c (hpl.1 hh))]
            exact .no (fun ok => c ((ok.2.2.2 h0).2.2 p p1).2.2) rfl
/-- Which lists are trees. -/
def isT (l : List NodeT) : Prop := 0 < l.length ∧ okT l l.length
theorem may_rounds {l : List NodeT} {f : Nat → Nat → Option (Unit ⊕ Unit)} (hend : ∀ k, f (k + 1) l.length = some (Sum.inl ())) (hst : ∀ i k, i < l.length → 3 * l.length + 10 < k → okT l i → stepR (okN l i) (f (k + 1) i) (f k (i + 1))) :
    ∀ {m i k : Nat}, i + m = l.length → m + 3 * l.length + 11 < k → okT l i → stepR (okT l l.length) (f k i) (some (Sum.inl ()))
  | 0, i, k, hi, hk, h => by
    obtain ⟨k, rfl⟩ : ∃ m, k = m + 1 := ⟨k - 1, by omega⟩
    obtain rfl : i = l.length := by omega
    exact .yes h (hend k)
  | m + 1, i, k, hi, hk, h => by
    obtain ⟨k, rfl⟩ : ∃ m, k = m + 1 := ⟨k - 1, by omega⟩
    obtain ⟨s1, s2⟩ := hst i k (by omega) (by omega) h
    by_cases c : okN l i
    · rw [s1 c]
      exact may_rounds hend hst (m := m) (by omega) (by omega) (fun j hj => by
        by_cases e : j = i
        · rw [e]; exact c
        · exact h j (by omega))
    · exact .no (fun ok => c (ok i (by omega))) (s2 c)
theorem mayR {l : List NodeT} (hw : ∀ a ∈ l, NodeW a) (hl : l.length ≤ 1000) {k : Nat} (hk : 4 * l.length + 12 < k) : ∃ b, eyotref18_May k l = some b ∧ (b = true ↔ isT l) := by
  have hend : ∀ k, eyotref18_May_l0 l (k + 1) ((l.length : Nat) : Int) = some (Sum.inl ()) := fun k => by
    rw [eyotref18_May_l0]; simp
  obtain ⟨h1, h2⟩ := may_rounds (f := fun k i => eyotref18_May_l0 l k ((i : Nat) : Int)) hend (fun i k hi hk h => may_l0 hw hl hi hk h) (m := l.length) (i := 0) (k := k) (by omega) (by omega) (fun j hj => by omega)
  unfold eyotref18_May
  by_cases c : okT l l.length
  · have := h1 c
    simp only [Int.natCast_zero] at this
    rw [this]
    refine ⟨decide (0 < l.length), by simp, by simp [isT, c]⟩
  · have := h2 c
    simp only [Int.natCast_zero] at this
    rw [this]
    exact ⟨false, rfl, by simp [isT, c]⟩
end Go.Pi
