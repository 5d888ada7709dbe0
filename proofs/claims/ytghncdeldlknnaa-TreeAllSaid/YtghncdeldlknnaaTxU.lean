import Derived.Test.YtghncdeldlknnaaTxS
/-
  TREES: the way down; the law.
-/
set_option linter.all false
namespace Go.Pi
set_option linter.unusedVariables false
def hold (a : NodeT) (q : Int) : Prop := a.from_ ≤ q ∧ q < a.to_
instance (a : NodeT) (q : Int) : Decidable (hold a q) := by unfold hold; exact inferInstance
theorem hold_bind {β : Type} (a : NodeT) (q : Int) (k : Nat) (f : Bool → Option β) : (tree_holds k (⟨a.Depth, a.Rule, a.Token, a.from_, a.to_⟩ : NodeT) q).bind f = f (decide (hold a q)) := by
  unfold tree_holds
  by_cases h1 : a.from_ ≤ q <;> by_cases h2 : q < a.to_ <;> simp [hold, h1, h2]
/-- By the program. -/
def pp (l : List NodeT) (q : Int) : Nat → Nat → List Int → List Int
  | _, 0, acc => acc
  | j, m + 1, acc => pp l q (j + 1) m (if hold (nd l j) q ∧ (nd l j).Depth = acc.length then acc ++ [(j : Int)] else acc)
theorem pps {l : List NodeT} {q : Int} (hl : l.length ≤ 1000) : ∀ {m j k : Nat} {acc : List Int}, j + m = l.length → acc.length + m ≤ 10000 → m + 1 < k → tree_Path_l0 l q k j acc = some (pp l q j m acc)
  | 0, j, k, acc, hj, ha, hk => by
    obtain ⟨k, rfl⟩ : ∃ m, k = m + 1 := ⟨k - 1, by omega⟩
    rw [tree_Path_l0]
    have : decide ((j : Int) < ((l.length : Nat) : Int)) = false := by simp; omega
    rw [this]; rfl
  | m + 1, j, k, acc, hj, ha, hk => by
    obtain ⟨k, rfl⟩ : ∃ m, k = m + 1 := ⟨k - 1, by omega⟩
    rw [tree_Path_l0]
    have : decide ((j : Int) < ((l.length : Nat) : Int)) = true := by simp; omega
    have e : (j : Int) + 1 = ((j + 1 : Nat) : Int) := by omega
    rw [this, at_nd (show j < l.length by omega), w64 (by omega) (by omega), e]
    simp only [cond_true, Option.bind_some, hold_bind, pp]
    by_cases h1 : hold (nd l j) q
    · simp only [h1, decide_true, cond_true, Option.bind_some, true_and]
      by_cases h2 : (nd l j).Depth = acc.length
      · have h2' : ((nd l j).Depth == ((acc.length : Nat) : Int)) = true := by simpa using h2
        rw [h2', cond_true, if_pos h2, room_ok (by simp; omega) (by omega)]
        simp only [Option.bind_some]
        exact pps hl (m := m) (by omega) (by simp; omega) (by omega)
      · have h2' : ((nd l j).Depth == ((acc.length : Nat) : Int)) = false := by simpa using h2
        rw [h2', cond_false, if_neg h2]
        simp only [Option.bind_some]
        exact pps hl (m := m) (by omega) (by omega) (by omega)
    · simp only [h1, decide_false, cond_false, Option.bind_some, false_and, if_false]
      exact pps hl (m := m) (by omega) (by omega) (by omega)
/-- By the document: the last kid that holds it. -/
def nx (l : List NodeT) (q : Int) : List Int → Int → Int
  | [], x => x
  | a :: K, x => nx l q K (if hold (nd l a.toNat) q then a else x)
theorem nxs {l : List NodeT} {q : Int} {acc K : List Int} (hK : ∀ x ∈ K, ∃ t : Nat, x = (t : Int) ∧ t < l.length) (hKl : K.length ≤ 1000) : ∀ {m j k : Nat} {x : Int}, j + m = K.length → m < k → eyotref18_Path_l1 l q acc K k x j = some (nx l q (K.drop j) x)
  | 0, j, k, x, hj, hk => by
    obtain ⟨k, rfl⟩ : ∃ m, k = m + 1 := ⟨k - 1, by omega⟩
    rw [eyotref18_Path_l1]
    have : decide ((j : Int) < ((K.length : Nat) : Int)) = false := by simp; omega
    rw [this, List.drop_eq_nil_of_le (by omega)]; rfl
  | m + 1, j, k, x, hj, hk => by
    obtain ⟨k, rfl⟩ : ∃ m, k = m + 1 := ⟨k - 1, by omega⟩
    rw [eyotref18_Path_l1]
    have c0 : decide ((j : Int) < ((K.length : Nat) : Int)) = true := by simp; omega
    have e0 : K[j]? = some K[j] := List.getElem?_eq_getElem (by omega)
    obtain ⟨t, t1, t2⟩ := hK K[j] (List.getElem_mem _)
    have e : (j : Int) + 1 = ((j + 1 : Nat) : Int) := by omega
    rw [c0, at_get (j := j) rfl e0, t1, w64 (by omega) (by omega), List.drop_eq_getElem_cons (by omega), t1]
    simp only [cond_true, Option.bind_some, at_nd t2, nx, Int.toNat_natCast]
    have ih : ∀ x, eyotref18_Path_l1 l q acc K k x ((j : Int) + 1) = some (nx l q (K.drop (j + 1)) x) := fun x => by rw [e]; exact nxs (acc := acc) (q := q) hK hKl (m := m) (j := j + 1) (k := k) (x := x) (by omega) (by omega)
    by_cases h1 : (nd l t).from_ ≤ q <;> by_cases h2 : q < (nd l t).to_ <;> simp [hold, h1, h2, ih]
/-- The way down. -/
def rd (l : List NodeT) (q : Int) : Nat → Nat → List Int → List Int
  | 0, _, acc => acc
  | m + 1, p, acc => let y := nx l q (kidsR l p) (-1); if y < 0 then acc else rd l q m y.toNat (acc ++ [y])
theorem nx_mem {l : List NodeT} {q : Int} : ∀ {K : List Int} {x : Int}, nx l q K x = x ∨ nx l q K x ∈ K
  | [], x => .inl rfl
  | a :: K, x => by
    unfold nx
    rcases nx_mem (l := l) (q := q) (K := K) (x := if hold (nd l a.toNat) q then a else x) with h | h
    · rw [h]
      split
      · right; simp
      · left; rfl
    · right; simp [h]
theorem rds {l : List NodeT} {q : Int} (hl : l.length ≤ 1000) : ∀ {m p k : Nat} {acc : List Int}, p < l.length → l.length - p ≤ m → acc.getLast? = some (p : Int) → acc.length + m ≤ 10000 → m + 3 * l.length + 10 < k → eyotref18_Path_l0 l q k acc = some (rd l q m p acc)
  | 0, p, k, acc, hp, hm, _, _, hk => by omega
  | m + 1, p, k, acc, hp, hm, hlast, hacc, hk => by
    obtain ⟨k, rfl⟩ : ∃ m, k = m + 1 := ⟨k - 1, by omega⟩
    have hpos : 0 < acc.length := by
      cases acc with
      | nil => simp at hlast
      | cons => simp
    have e1 : ((acc.length : Nat) : Int) - 1 = ((acc.length - 1 : Nat) : Int) := by omega
    have hg : acc[acc.length - 1]? = some (p : Int) := by rw [← hlast, List.getLast?_eq_getElem?]
    have hK : ∀ x ∈ kidsR l p, ∃ t : Nat, x = (t : Int) ∧ t < l.length := fun x hx => by
      obtain ⟨t, t1, t2, t3, _⟩ := kr_mem hx
      exact ⟨t, t1, by omega⟩
    have hKl : (kidsR l p).length ≤ l.length := by
      have := kr_len (l := l) (p := p) (m := l.length - (p + 1)) (j := p + 1)
      unfold kidsR; omega
    have hn := nxs (q := q) (acc := acc) hK (by omega) (m := (kidsR l p).length) (j := 0) (k := k) (x := -1) (by omega) (by omega)
    simp only [Int.natCast_zero, List.drop_zero] at hn
    rw [eyotref18_Path_l0, e1, w64 (by omega) (by omega), at_get (j := acc.length - 1) rfl hg]
    simp only [Option.bind_some, kidsR_eq hl hp (show 2 * l.length + 1 < k by omega), hn, rd]
    by_cases c : nx l q (kidsR l p) (-1) < 0
    · simp [c]
    · have hmem : nx l q (kidsR l p) (-1) ∈ kidsR l p := by
        rcases nx_mem (l := l) (q := q) (K := kidsR l p) (x := -1) with h | h
        · omega
        · exact h
      obtain ⟨t, t1, t2, t3, _⟩ := kr_mem hmem
      have c' : decide (nx l q (kidsR l p) (-1) < 0) = false := by simpa using c
      rw [c', cond_false, if_neg c, room_ok (by simp; omega) (by omega), t1]
      simp only [Int.toNat_natCast]
      exact rds hl (m := m) (p := t) (by omega) (by omega) (by simp) (by simp; omega) (by omega)
/-- None of the kids holds it, or the one. -/
theorem nx_none {l : List NodeT} {q : Int} : ∀ {K : List Int} {x : Int}, (∀ a ∈ K, ¬ hold (nd l a.toNat) q) → nx l q K x = x
  | [], x, _ => rfl
  | a :: K, x, h => by
    unfold nx
    rw [if_neg (h a (by simp))]
    exact nx_none fun b hb => h b (by simp [hb])
theorem nx_one {l : List NodeT} {q : Int} {c : Int} : ∀ {K : List Int} {x : Int}, c ∈ K → hold (nd l c.toNat) q → (∀ a ∈ K, hold (nd l a.toNat) q → a = c) → nx l q K x = c
  | [], x, h, _, _ => by simp at h
  | a :: K, x, h, hc, hu => by
    unfold nx
    by_cases e : a = c
    · subst e
      rw [if_pos hc]
      by_cases hm : a ∈ K
      · exact nx_one hm hc fun b hb hh => hu b (by simp [hb]) hh
      · exact nx_none fun b hb hh => hm (by rw [← hu b (by simp [hb]) hh]; exact hb)
    · have hm : c ∈ K := by simp at h; rcases h with h | h; exact absurd h.symm e; exact h
      exact nx_one hm hc fun b hb hh => hu b (by simp [hb]) hh
/-- Nothing is added where no node of the depth holds it. -/
theorem pp_none {l : List NodeT} {q : Int} : ∀ {m j : Nat} {acc : List Int}, (∀ t, j ≤ t → t < j + m → (nd l t).Depth = acc.length → ¬ hold (nd l t) q) → pp l q j m acc = acc
  | 0, _, _, _ => rfl
  | m + 1, j, acc, h => by
    unfold pp
    rw [if_neg]
    · exact pp_none fun t h1 h2 h3 => h t (by omega) (by omega) h3
    · rintro ⟨h1, h2⟩
      exact h j (by omega) (by omega) h2 h1
theorem pp_one {l : List NodeT} {q : Int} {acc : List Int} {c : Nat} : ∀ {m j : Nat}, j ≤ c → c < j + m → (nd l c).Depth = acc.length → hold (nd l c) q → (∀ t, j ≤ t → t < c → (nd l t).Depth = acc.length → ¬ hold (nd l t) q) →
    pp l q j m acc = pp l q (c + 1) (j + m - (c + 1)) (acc ++ [(c : Int)])
  | 0, j, h1, h2, _, _, _ => by omega
  | m + 1, j, h1, h2, hd, hh, h => by
    conv => lhs; unfold pp
    by_cases e : j = c
    · subst e
      rw [if_pos ⟨hh, hd⟩, show j + (m + 1) - (j + 1) = m by omega]
    · rw [if_neg]
      · rw [pp_one (c := c) (m := m) (j := j + 1) (by omega) (by omega) hd hh fun t a b => h t (by omega) b, show j + 1 + m - (c + 1) = j + (m + 1) - (c + 1) by omega]
      · rintro ⟨a, b⟩
        exact h j (by omega) (by omega) b a
theorem hold_par {l : List NodeT} {n i p : Nat} {q : Int} (h : okT l n) (hi : i < n) (hp : par l (nd l i).Depth i = some p) (hh : hold (nd l i) q) : hold (nd l p) q := by
  obtain ⟨_, _, h0⟩ := h.dpar hi hp
  have h1 := from_le h hi hp
  have h2 := (((h i hi).2.2.2 h0).2.2 p hp).2.1
  unfold hold at *
  omega
theorem hold_one {l : List NodeT} {n i j : Nat} {q : Int} (h : okT l n) (hi : i < n) (hj : j < n) (hd : (nd l i).Depth = (nd l j).Depth) (h1 : hold (nd l i) q) (h2 : hold (nd l j) q) : i = j := by
  unfold hold at *
  rcases Nat.lt_trichotomy i j with c | c | c
  · have := disj h j hj i c hd; omega
  · exact c
  · have := disj h i hi j c hd.symm; omega
/-- The two ways down. -/
theorem down {l : List NodeT} {q : Int} (h : okT l l.length) : ∀ {m p : Nat} {acc : List Int}, p < l.length → l.length - p ≤ m → (nd l p).Depth + 1 = acc.length → hold (nd l p) q → pp l q (p + 1) (l.length - (p + 1)) acc = rd l q m p acc
  | 0, p, acc, hp, hm, _, _ => by omega
  | m + 1, p, acc, hp, hm, hd, hh => by
    unfold rd
    simp only
    have kid : ∀ t, p < t → t < l.length → (nd l t).Depth = acc.length → hold (nd l t) q → prI l t = (p : Int) := by
      intro t h1 h2 h3 h4
      have h0 : 0 < t := by omega
      have ot := (h t h2).2.2.2 h0
      obtain ⟨s, s1, s2, s3⟩ := h.has_par (Nat.le_of_lt h2) h0 ot.1 ot.2.1
      have := hold_one h (show s < l.length by omega) hp (by omega) (hold_par h h2 s1 h4) hh
      subst this
      exact prI_eq.2 s1
    by_cases c : ∃ t, p < t ∧ t < l.length ∧ prI l t = (p : Int) ∧ hold (nd l t) q
    · obtain ⟨t, t1, t2, t3, t4⟩ := c
      have td := (h.dpar t2 (prI_eq.1 t3)).2.1
      have hmem : (t : Int) ∈ kidsR l p := kr_has (by omega) (by omega) t3
      have hnx : nx l q (kidsR l p) (-1) = (t : Int) := by
        refine nx_one hmem (by simpa using t4) fun a ha hq => ?_
        obtain ⟨s, rfl, s2, s3, s4⟩ := kr_mem ha
        simp only [Int.toNat_natCast] at hq
        have sd := (h.dpar (show s < l.length by omega) (prI_eq.1 s4)).2.1
        rw [hold_one h (show s < l.length by omega) t2 (by omega) hq t4]
      rw [hnx, if_neg (by omega)]
      simp only [Int.toNat_natCast]
      rw [pp_one (c := t) (by omega) (by omega) (by omega) t4 fun s a b d hs => by
        have := hold_one h (show s < l.length by omega) t2 (by omega) hs t4
        omega]
      have e : p + 1 + (l.length - (p + 1)) - (t + 1) = l.length - (t + 1) := by omega
      rw [e]
      exact down h (m := m) (p := t) t2 (by omega) (by simp; omega) t4
    · have hnx : nx l q (kidsR l p) (-1) = -1 := by
        refine nx_none fun a ha hq => ?_
        obtain ⟨s, rfl, s2, s3, s4⟩ := kr_mem ha
        simp only [Int.toNat_natCast] at hq
        exact c ⟨s, by omega, by omega, s4, hq⟩
      rw [hnx, if_pos (by omega)]
      exact pp_none fun t a b d hs => c ⟨t, by omega, by omega, kid t (by omega) (by omega) d hs, hs⟩
def pathOf (l : List NodeT) (q : Int) : List Int := pp l q 0 l.length []
theorem path_same {l : List NodeT} {q : Int} {k : Nat} (hT : isT l) (hl : l.length ≤ 1000) (hk : 4 * l.length + 20 < k) : eyotref18_Path k l q = some (pathOf l q) := by
  obtain ⟨hn, h⟩ := hT
  have hr := (h 0 hn).2.2.1 rfl
  have c0 : (((l.length : Nat) : Int) == (0 : Int)) = false := beq_eq_false_iff_ne.2 (by omega)
  have a0 := at_nd (l := l) (j := 0) hn
  simp only [Int.natCast_zero] at a0
  unfold eyotref18_Path pathOf
  simp only [c0, cond_false, a0, Option.bind_some]
  have hroot : ∀ t, 0 < t → t < l.length → (nd l t).Depth ≠ 0 := fun t a b e => by have := (h.depth b).2.2 e; omega
  by_cases hh : hold (nd l 0) q
  · have h1 : decide ((nd l 0).from_ ≤ q) = true := by simpa using hh.1
    have h2 : decide (q < (nd l 0).to_) = true := by simpa using hh.2
    simp only [h1, h2, cond_true, Bool.not_true, Option.bind_some, cond_false]
    rw [rds hl (m := l.length) (p := 0) hn (by omega) rfl (by simp; omega) (by omega)]
    simp only [Option.bind_some]
    rw [pp_one (c := 0) (by omega) (by omega) (by simpa using hr) hh fun t a b => by omega]
    have e : 0 + l.length - (0 + 1) = l.length - (0 + 1) := by omega
    rw [e, ← down h hn (by omega) (by simp [hr]) hh]
    rfl
  · have hb : ∀ f : Bool → Option (List Int), (cond (decide ((nd l 0).from_ ≤ q)) (some (!decide (q < (nd l 0).to_))) (some true)).bind f = f true := by
      intro f
      by_cases h1 : (nd l 0).from_ ≤ q
      · have h2 : ¬ q < (nd l 0).to_ := fun h2 => hh ⟨h1, h2⟩
        simp [h1, h2]
      · simp [h1]
    rw [hb]
    simp only [cond_true]
    rw [pp_none]
    intro t a b d hs
    by_cases e : t = 0
    · subst e; exact hh hs
    · exact hroot t (by omega) (by omega) (by simpa using d)
theorem sames {a : List Int} : ∀ {m j k : Nat}, j + m = a.length → a.length ≤ 10000 → m < k → eyotref13_SameInts_l0 a a k j = some (Sum.inl ())
  | 0, j, k, hj, ha, hk => by
    obtain ⟨k, rfl⟩ : ∃ m, k = m + 1 := ⟨k - 1, by omega⟩
    rw [eyotref13_SameInts_l0]
    have : decide ((j : Int) < ((a.length : Nat) : Int)) = false := by simp; omega
    rw [this]; rfl
  | m + 1, j, k, hj, ha, hk => by
    obtain ⟨k, rfl⟩ : ∃ m, k = m + 1 := ⟨k - 1, by omega⟩
    rw [eyotref13_SameInts_l0]
    have c0 : decide ((j : Int) < ((a.length : Nat) : Int)) = true := by simp; omega
    have e : (j : Int) + 1 = ((j + 1 : Nat) : Int) := by omega
    rw [c0, at_get (j := j) rfl (List.getElem?_eq_getElem (show j < a.length by omega)), w64 (by omega) (by omega), e]
    simp only [cond_true, Option.bind_some, bne_self_eq_false, cond_false]
    exact sames (a := a) (m := m) (j := j + 1) (k := k) (by omega) ha (by omega)
theorem same_self {a : List Int} {k : Nat} (ha : a.length ≤ 10000) (hk : a.length < k) : eyotref13_SameInts k a a = some true := by
  unfold eyotref13_SameInts
  have := sames (a := a) (m := a.length) (j := 0) (k := k) (by omega) ha hk
  simp only [Int.natCast_zero] at this
  simp [this]
theorem pp_len {l : List NodeT} {q : Int} : ∀ {m j : Nat} {acc : List Int}, (pp l q j m acc).length ≤ acc.length + m
  | 0, _, _ => Nat.le_refl _
  | m + 1, j, acc => by
    unfold pp
    by_cases c : hold (nd l j) q ∧ (nd l j).Depth = acc.length
    · rw [if_pos c]
      have := pp_len (l := l) (q := q) (m := m) (j := j + 1) (acc := acc ++ [(j : Int)])
      simp at this
      omega
    · rw [if_neg c]
      have := pp_len (l := l) (q := q) (m := m) (j := j + 1) (acc := acc)
      omega
theorem kp_len {l : List NodeT} {p : Nat} : ∀ {m j : Nat}, (kp l p j m).length ≤ m
  | 0, _ => by simp [kp]
  | m + 1, j => by
    unfold kp
    have := kp_len (l := l) (p := p) (m := m) (j := j + 1)
    split
    · split <;> simp <;> omega
    · simp
theorem begun_true : eyotlaw18_begun 1000 = some true := by kernel_rfl
/-- The law. -/
theorem tree_all_pure (l : List NodeT) (i q : Int) (hw : ∀ a ∈ l, NodeW a) (hi : inK .i64 i) (hq : inK .i64 q) : ∃ k, eyotlaw18_TreeAll k l i q = some true := by
  refine ⟨1000, ?_⟩
  unfold eyotlaw18_TreeAll
  rw [begun_true]
  simp only [Option.bind_some, Bool.not_true, cond_false]
  by_cases hlen : ((l.length : Nat) : Int) > 20
  · simp [hlen]
  · have hlen' : decide (((l.length : Nat) : Int) > 20) = false := by simpa using hlen
    have hl : l.length ≤ 20 := by omega
    rw [hlen', cond_false]
    obtain ⟨b, b1, b2⟩ := mayR hw (by omega) (k := 1000) (by omega)
    obtain ⟨c, c1, c2⟩ := mayP (l := l) (by omega) (k := 1000) (by omega)
    have hbc : c = b := by
      cases b <;> cases c <;> simp at b2 c2 ⊢
      · exact b2 c2
      · exact c2 b2
    subst hbc
    rw [b1, c1]
    simp only [Option.bind_some, beq_self_eq_true, Bool.not_true, cond_false]
    have hKids : tree_Kids 1000 l i = if c = true ∧ 0 ≤ i ∧ i < l.length then some (kidsR l i.toNat) else some [] := by
      unfold tree_Kids
      rw [c1]
      simp only [Option.bind_some]
      cases hc : c with
      | false => simp
      | true =>
        simp only [Bool.not_true, cond_false, true_and]
        by_cases i0 : i < 0
        · have : ¬ (0 ≤ i ∧ i < l.length) := by omega
          simp [i0, this]
        · by_cases i1 : i ≥ l.length
          · have : ¬ (0 ≤ i ∧ i < l.length) := by omega
            simp [i0, i1, this]
          · have h01 : 0 ≤ i ∧ i < l.length := by omega
            rw [if_pos h01]
            obtain ⟨n, rfl⟩ : ∃ n : Nat, i = n := ⟨i.toNat, by omega⟩
            have i0' : decide ((n : Int) < 0) = false := by simp
            have i1' : decide ((n : Int) ≥ ((l.length : Nat) : Int)) = false := by simpa using i1
            simp only [i0', i1', cond_false, Option.bind_some]
            have hT := c2.1 hc
            have hd := hT.2.depth (i := n) (by omega)
            have e : (n : Int) + 1 = ((n + 1 : Nat) : Int) := by omega
            rw [w64 (by omega) (by omega), e, kps (m := l.length - (n + 1)) (by omega) (show n < l.length by omega) (by omega) hd.1 (by omega) (by simp; omega) (by omega)]
            simp [kids_eq hT.2 (show n < l.length by omega)]
    have hPath : tree_Path 1000 l q = if c = true then some (pathOf l q) else some [] := by
      unfold tree_Path
      rw [c1]
      simp only [Option.bind_some]
      cases hc : c with
      | false => simp
      | true =>
        simp only [Bool.not_true, cond_false, if_true]
        have := pps (l := l) (q := q) (by omega) (m := l.length) (j := 0) (k := 1000) (acc := []) (by omega) (by simp; omega) (by omega)
        simp only [Int.natCast_zero] at this
        rw [this]; rfl
    cases hc : c with
    | false =>
      rw [hKids, hPath, hc]
      simp
      rfl
    | true =>
      have hT := c2.1 hc
      have hpl : (pathOf l q).length ≤ 10000 := by
        have := pp_len (l := l) (q := q) (m := l.length) (j := 0) (acc := [])
        simp at this
        unfold pathOf; omega
      have hpl2 : (pathOf l q).length < 1000 := by
        have := pp_len (l := l) (q := q) (m := l.length) (j := 0) (acc := [])
        simp at this
        unfold pathOf; omega
      have hP := path_same (q := q) (k := 1000) hT (by omega) (by omega)
      rw [hc] at hKids hPath
      simp only [true_and, if_true] at hKids hPath
      simp only [Bool.not_true, cond_false, hPath, hP, Option.bind_some, same_self hpl hpl2]
      by_cases h01 : 0 ≤ i ∧ i < l.length
      · obtain ⟨n, rfl⟩ : ∃ n : Nat, i = n := ⟨i.toNat, by omega⟩
        have i0' : decide ((n : Int) < 0) = false := by simp
        have i1' : decide ((n : Int) ≥ ((l.length : Nat) : Int)) = false := by simp; omega
        rw [if_pos h01] at hKids
        simp only [Int.toNat_natCast] at hKids
        have hkl : (kidsR l n).length ≤ l.length := by
          have := kr_len (l := l) (p := n) (m := l.length - (n + 1)) (j := n + 1)
          unfold kidsR; omega
        simp only [i0', i1', cond_false, Option.bind_some, hKids, kidsR_eq (k := 1000) (show l.length ≤ 1000 by omega) (show n < l.length by omega) (by omega), same_self (a := kidsR l n) (k := 1000) (by omega) (by omega), cond_true]
      · rw [if_neg h01] at hKids
        have : (cond (decide (i < 0)) (some true) (some (decide (i ≥ ((l.length : Nat) : Int))))) = some true := by
          by_cases i0 : i < 0
          · simp [i0]
          · have : i ≥ l.length := by omega
            simp [i0, this]
        rw [this]
        simp [hKids]
end Go.Pi
