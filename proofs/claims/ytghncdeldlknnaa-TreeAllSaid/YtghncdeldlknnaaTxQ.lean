import Derived.Test.YtghncdeldlknnaaTxF
import Derived.Test.YtghncdeldlknnaaJZ
/-
  TREES: the two texts' answers are one.
-/
set_option linter.all false
namespace Go.Pi
set_option linter.unusedVariables false
def NodeW (a : NodeT) : Prop := inK .i64 a.Depth ∧ inK .i64 a.Rule ∧ inK .i64 a.Token ∧ inK .i64 a.from_ ∧ inK .i64 a.to_
theorem w64 {n : Int} (h0 : -9223372036854775808 ≤ n) (h1 : n < 9223372036854775808) : IntKind.i64.wrap n = n := by
  simp [IntKind.wrap, IntKind.signed, IntKind.bits]; omega
def nd (l : List NodeT) (j : Nat) : NodeT := l.getD j default
theorem at_nd {l : List NodeT} {j : Nat} (h : j < l.length) : at? l (j : Int) = some (nd l j) := by
  unfold at? nd
  rw [if_pos (by omega)]
  simp [List.getD_eq_getElem?_getD, h]
theorem at_get {α : Type} {l : List α} {j : Nat} {z : Int} (hz : z = (j : Int)) {a : α} (h : l[j]? = some a) : at? l z = some a := by
  subst hz
  unfold at?
  rw [if_pos (by omega)]
  simpa using h
theorem room_ok {α : Type} {n b : Nat} {m : Option α} (h1 : n ≤ 1000000) (h2 : b ≤ 1000) : room n b m = m := by
  unfold room
  rw [if_pos]
  unfold roomy
  refine ⟨by omega, ?_⟩
  calc n * b ≤ 1000000 * 1000 := Nat.mul_le_mul h1 h2
    _ ≤ _ := by decide

/-! ### whom a node belongs to -/
def par (l : List NodeT) (dk : Int) : Nat → Option Nat
  | 0 => none
  | j + 1 => if (nd l j).Depth < dk then some j else par l dk j
theorem par_some {l : List NodeT} {dk : Int} : ∀ {j p : Nat}, par l dk j = some p ↔ p < j ∧ (nd l p).Depth < dk ∧ ∀ t, p < t → t < j → ¬ (nd l t).Depth < dk
  | 0, p => by simp [par]
  | j + 1, p => by
    unfold par
    split
    · rename_i h
      constructor
      · intro e
        injection e with e
        subst e
        exact ⟨by omega, h, fun t h1 h2 => by omega⟩
      · rintro ⟨h1, h2, h3⟩
        by_cases e : p = j
        · rw [e]
        · exact absurd h (h3 j (by omega) (by omega))
    · rename_i h
      rw [par_some]
      constructor
      · rintro ⟨h1, h2, h3⟩
        exact ⟨by omega, h2, fun t a b => by
          by_cases e : t = j
          · rw [e]; exact h
          · exact h3 t a (by omega)⟩
      · rintro ⟨h1, h2, h3⟩
        have : p ≠ j := fun e => h (e ▸ h2)
        exact ⟨by omega, h2, fun t a b => h3 t a (by omega)⟩
def prI (l : List NodeT) (i : Nat) : Int := match par l (nd l i).Depth i with | none => -1 | some p => p
theorem prI_eq {l : List NodeT} {i p : Nat} : prI l i = (p : Int) ↔ par l (nd l i).Depth i = some p := by
  unfold prI
  cases par l (nd l i).Depth i with
  | none => simp
  | some q => simp; omega
theorem parent_l0 {l : List NodeT} {i : Nat} (hi : i < l.length) (hl : l.length ≤ 1000) : ∀ {j k : Nat}, j ≤ i → j < k →
    eyotref18_parent_l0 l i k ((j : Int) - 1) = some (match par l (nd l i).Depth j with | none => Sum.inl () | some p => Sum.inr (p : Int))
  | 0, k, _, hk => by
    obtain ⟨k, rfl⟩ : ∃ m, k = m + 1 := ⟨k - 1, by omega⟩
    simp [eyotref18_parent_l0, par]
  | j + 1, k, hj, hk => by
    obtain ⟨k, rfl⟩ : ∃ m, k = m + 1 := ⟨k - 1, by omega⟩
    have e : ((j + 1 : Nat) : Int) - 1 = (j : Int) := by omega
    rw [eyotref18_parent_l0, e, at_nd (show j < l.length by omega), at_nd hi]
    have h0 : decide ((j : Int) ≥ 0) = true := by simp
    rw [h0]
    simp only [cond_true, Option.bind_some]
    unfold par
    by_cases h : (nd l j).Depth < (nd l i).Depth
    · simp [h]
    · have := parent_l0 hi hl (j := j) (k := k) (by omega) (by omega)
      rw [w64 (by omega) (by omega)]
      simp [h, this]
theorem parent_eq {l : List NodeT} {i k : Nat} (hi : i < l.length) (hl : l.length ≤ 1000) (hk : i < k) : eyotref18_parent k l i = some (prI l i) := by
  unfold eyotref18_parent prI
  rw [w64 (by omega) (by omega), parent_l0 hi hl (Nat.le_refl i) hk]
  cases par l (nd l i).Depth i <;> rfl

/-! ### what belongs to whom, by the document -/
def kr (l : List NodeT) (p : Nat) : Nat → Nat → List Int
  | _, 0 => []
  | j, m + 1 => if prI l j = (p : Int) then (j : Int) :: kr l p (j + 1) m else kr l p (j + 1) m
theorem krs {l : List NodeT} {p : Nat} (hl : l.length ≤ 1000) : ∀ {m j k : Nat} {acc : List Int}, j + m = l.length → acc.length + m ≤ 10000 → m + l.length + 1 < k →
    eyotref18_Kids_l0 l p k j acc = some (acc ++ kr l p j m)
  | 0, j, k, acc, hj, ha, hk => by
    obtain ⟨k, rfl⟩ : ∃ m, k = m + 1 := ⟨k - 1, by omega⟩
    rw [eyotref18_Kids_l0]
    have : decide ((j : Int) < ((l.length : Nat) : Int)) = false := by simp; omega
    rw [this]
    simp [kr]
  | m + 1, j, k, acc, hj, ha, hk => by
    obtain ⟨k, rfl⟩ : ∃ m, k = m + 1 := ⟨k - 1, by omega⟩
    rw [eyotref18_Kids_l0]
    have : decide ((j : Int) < ((l.length : Nat) : Int)) = true := by simp; omega
    rw [this, parent_eq (by omega) hl (by omega), w64 (by omega) (by omega)]
    have e : (j : Int) + 1 = ((j + 1 : Nat) : Int) := by omega
    simp only [cond_true, Option.bind_some, e]
    unfold kr
    by_cases h : prI l j = (p : Int)
    · have h' : (prI l j == (p : Int)) = true := by simpa using h
      rw [if_pos h, h', cond_true, room_ok (by simp; omega) (by omega)]
      simp only [Option.bind_some]
      rw [krs (m := m) hl (by omega) (by simp; omega) (by omega)]
      simp
    · have h' : (prI l j == (p : Int)) = false := by simpa using h
      rw [if_neg h, h', cond_false]
      simp only [Option.bind_some]
      rw [krs (m := m) hl (by omega) (by omega) (by omega)]
def kidsR (l : List NodeT) (p : Nat) : List Int := kr l p (p + 1) (l.length - (p + 1))
theorem kidsR_eq {l : List NodeT} {p k : Nat} (hl : l.length ≤ 1000) (hp : p < l.length) (hk : 2 * l.length + 1 < k) : eyotref18_Kids k l p = some (kidsR l p) := by
  unfold eyotref18_Kids kidsR
  rw [w64 (by omega) (by omega)]
  have e : (p : Int) + 1 = ((p + 1 : Nat) : Int) := by omega
  rw [e, krs (m := l.length - (p + 1)) hl (by omega) (by simp; omega) (by omega)]
  simp
/-! ### by the program -/
def kp (l : List NodeT) (p : Nat) : Nat → Nat → List Int
  | _, 0 => []
  | j, m + 1 => if (nd l j).Depth > (nd l p).Depth then (if (nd l j).Depth = (nd l p).Depth + 1 then (j : Int) :: kp l p (j + 1) m else kp l p (j + 1) m) else []
theorem kps {l : List NodeT} {p : Nat} (hl : l.length ≤ 1000) (hp : p < l.length) (hd : (nd l p).Depth ≤ 1000) (hd0 : 0 ≤ (nd l p).Depth) : ∀ {m j k : Nat} {acc : List Int}, j + m = l.length → acc.length + m ≤ 10000 → m + 1 < k →
    tree_Kids_l0 l p k j acc = some (acc ++ kp l p j m)
  | 0, j, k, acc, hj, ha, hk => by
    obtain ⟨k, rfl⟩ : ∃ m, k = m + 1 := ⟨k - 1, by omega⟩
    rw [tree_Kids_l0]
    have : decide ((j : Int) < ((l.length : Nat) : Int)) = false := by simp; omega
    rw [this]
    simp [kp]
  | m + 1, j, k, acc, hj, ha, hk => by
    obtain ⟨k, rfl⟩ : ∃ m, k = m + 1 := ⟨k - 1, by omega⟩
    rw [tree_Kids_l0]
    have : decide ((j : Int) < ((l.length : Nat) : Int)) = true := by simp; omega
    rw [this, at_nd (show j < l.length by omega), at_nd hp, w64 (n := (j : Int) + 1) (by omega) (by omega)]
    have e : (j : Int) + 1 = ((j + 1 : Nat) : Int) := by omega
    simp only [cond_true, Option.bind_some, e, w64 (n := (nd l p).Depth + 1) (by omega) (by omega)]
    unfold kp
    by_cases h : (nd l j).Depth > (nd l p).Depth
    · have h' : decide ((nd l j).Depth > (nd l p).Depth) = true := by simpa using h
      rw [if_pos h, h', cond_true]
      by_cases h2 : (nd l j).Depth = (nd l p).Depth + 1
      · have h2' : ((nd l j).Depth == (nd l p).Depth + 1) = true := by simpa using h2
        rw [if_pos h2, h2', cond_true, room_ok (by simp; omega) (by omega)]
        simp only [Option.bind_some]
        rw [kps (m := m) hl hp hd hd0 (by omega) (by simp; omega) (by omega)]
        simp
      · have h2' : ((nd l j).Depth == (nd l p).Depth + 1) = false := by simpa using h2
        rw [if_neg h2, h2', cond_false]
        simp only [Option.bind_some]
        rw [kps (m := m) hl hp hd hd0 (by omega) (by omega) (by omega)]
    · have h' : decide ((nd l j).Depth > (nd l p).Depth) = false := by simpa using h
      rw [if_neg h, h']
      simp
/-! ### trees -/
/-- Where the next kid may begin. -/
def lend (l : List NodeT) (p : Nat) : Nat → Int
  | 0 => (nd l p).from_
  | m + 1 => if (nd l (p + 1 + m)).Depth = (nd l p).Depth + 1 then (nd l (p + 1 + m)).to_ else lend l p m
def mayw (a : NodeT) : Bool := (decide (0 ≤ a.Token) && a.Rule == -1) || (a.Token == -1 && decide (0 ≤ a.Rule))
def okN (l : List NodeT) (i : Nat) : Prop :=
  (nd l i).from_ ≤ (nd l i).to_ ∧ mayw (nd l i) = true ∧ (i = 0 → (nd l i).Depth = 0) ∧
  (0 < i → 1 ≤ (nd l i).Depth ∧ (nd l i).Depth ≤ (nd l (i - 1)).Depth + 1 ∧ ∀ p, par l (nd l i).Depth i = some p → (nd l p).Token < 0 ∧ (nd l i).to_ ≤ (nd l p).to_ ∧ lend l p (i - p - 1) ≤ (nd l i).from_)
def okT (l : List NodeT) (n : Nat) : Prop := ∀ i, i < n → okN l i
theorem okT.depth {l : List NodeT} {n : Nat} (h : okT l n) : ∀ {i : Nat}, i < n → 0 ≤ (nd l i).Depth ∧ (nd l i).Depth ≤ i ∧ ((nd l i).Depth = 0 → i = 0)
  | 0, hi => by have := (h 0 hi).2.2.1 rfl; omega
  | i + 1, hi => by
    have h1 := h.depth (i := i) (by omega)
    have h2 := (h (i + 1) hi).2.2.2 (by omega)
    simp only [Nat.add_sub_cancel] at h2
    omega
/-- Everyone but the root belongs to one of the depth ahead. -/
theorem okT.has_par {l : List NodeT} {n : Nat} (h : okT l n) {i : Nat} (hi : i ≤ n) (h0 : 0 < i) (hd : 1 ≤ (nd l i).Depth) (hd2 : (nd l i).Depth ≤ (nd l (i - 1)).Depth + 1) : ∃ p, par l (nd l i).Depth i = some p ∧ p < i ∧ (nd l p).Depth + 1 = (nd l i).Depth := by
  have key : ∀ m, m ≤ i → 1 ≤ m → (nd l i).Depth ≤ (nd l (m - 1)).Depth + 1 → ∃ p, par l (nd l i).Depth m = some p ∧ p < m ∧ (nd l p).Depth + 1 = (nd l i).Depth := by
    intro m
    induction m with
    | zero => intro _ h; omega
    | succ m ih =>
      intro h1 _ h3
      simp only [Nat.add_sub_cancel] at h3
      unfold par
      by_cases c : (nd l m).Depth < (nd l i).Depth
      · rw [if_pos c]; exact ⟨m, rfl, by omega, by omega⟩
      · rw [if_neg c]
        have hm : 0 < m := by
          rcases Nat.eq_zero_or_pos m with e | e
          · subst e
            have := (h 0 (by omega)).2.2.1 rfl
            omega
          · exact e
        have hb := (h m (by omega)).2.2.2 hm
        obtain ⟨p, p1, p2, p3⟩ := ih (by omega) hm (by omega)
        exact ⟨p, p1, by omega, p3⟩
  exact key i (Nat.le_refl i) h0 hd2
theorem okT.dpar {l : List NodeT} {n : Nat} (h : okT l n) {i p : Nat} (hi : i < n) (hp : par l (nd l i).Depth i = some p) : p < i ∧ (nd l p).Depth + 1 = (nd l i).Depth ∧ 0 < i := by
  have h0 : 0 < i := by have := (par_some.1 hp).1; omega
  have h1 := (h i hi).2.2.2 h0
  obtain ⟨q, q1, q2, q3⟩ := h.has_par (Nat.le_of_lt hi) h0 h1.1 h1.2.1
  rw [hp] at q1
  injection q1 with q1
  subst q1
  exact ⟨q2, q3, h0⟩
/-- A node within a subtree, one deeper: a kid. -/
theorem kid_par {l : List NodeT} {p t : Nat} (hpt : p < t) (hd : (nd l t).Depth = (nd l p).Depth + 1) (hs : ∀ s, p < s → s < t → (nd l s).Depth > (nd l p).Depth) : par l (nd l t).Depth t = some p :=
  par_some.2 ⟨hpt, by omega, fun s h1 h2 => by have := hs s h1 h2; omega⟩
theorem lend_mono {l : List NodeT} {n p : Nat} (h : okT l n) : ∀ {m m' : Nat}, m ≤ m' → p + 1 + m' ≤ n → (∀ s, p < s → s < p + 1 + m' → (nd l s).Depth > (nd l p).Depth) → lend l p m ≤ lend l p m'
  | m, 0, hm, _, _ => by obtain rfl : m = 0 := by omega
                         exact Int.le_refl _
  | m, m' + 1, hm, hn, hs => by
    rcases Nat.lt_or_ge m (m' + 1) with hm' | hm'
    · have ih := lend_mono h (m := m) (m' := m') (by omega) (by omega) (fun s h1 h2 => hs s h1 (by omega))
      refine Int.le_trans ih ?_
      rw [lend]
      split
      · rename_i hd
        have hp := kid_par (l := l) (p := p) (t := p + 1 + m') (by omega) hd (fun s h1 h2 => hs s h1 (by omega))
        have ho := h (p + 1 + m') (by omega)
        have h1 := (ho.2.2.2 (by omega)).2.2 p hp
        have e : p + 1 + m' - p - 1 = m' := by omega
        rw [e] at h1
        have := ho.1
        omega
      · exact Int.le_refl _
    · obtain rfl : m = m' + 1 := by omega
      exact Int.le_refl _
theorem from_le {l : List NodeT} {n i p : Nat} (h : okT l n) (hi : i < n) (hp : par l (nd l i).Depth i = some p) : (nd l p).from_ ≤ (nd l i).from_ := by
  obtain ⟨h1, h2, h3⟩ := par_some.1 hp
  obtain ⟨g1, g2, g3⟩ := h.dpar hi hp
  have := ((h i hi).2.2.2 g3).2.2 p hp
  have hm := lend_mono h (p := p) (m := 0) (m' := i - p - 1) (by omega) (by omega) (fun s a b => by have := h3 s a (by omega); omega)
  simp only [lend] at hm
  omega
/-- Of one depth, they do not meet. -/
theorem disj {l : List NodeT} {n : Nat} (h : okT l n) : ∀ (j : Nat), j < n → ∀ i, i < j → (nd l i).Depth = (nd l j).Depth → (nd l i).to_ ≤ (nd l j).from_ := by
  intro j
  induction j using Nat.strongRecOn with
  | ind j ih =>
    intro hj i hij hd
    have di := h.depth (i := i) (by omega)
    have dj := h.depth hj
    have hi0 : 0 < i := by
      rcases Nat.eq_zero_or_pos i with e | e
      · subst e; omega
      · exact e
    have oi := (h i (by omega)).2.2.2 hi0
    have oj := (h j hj).2.2.2 (by omega)
    obtain ⟨p, p1, p2, p3⟩ := h.has_par (show i ≤ n by omega) hi0 oi.1 oi.2.1
    obtain ⟨q, q1, q2, q3⟩ := h.has_par (Nat.le_of_lt hj) (by omega) oj.1 oj.2.1
    obtain ⟨a1, a2, a3⟩ := par_some.1 p1
    obtain ⟨b1, b2, b3⟩ := par_some.1 q1
    by_cases e : p = q
    · subst e
      have hm := lend_mono h (p := p) (m := i - p) (m' := j - p - 1) (by omega) (by omega) (fun s a b => by have := b3 s a (by omega); omega)
      have hl : lend l p (i - p) = (nd l i).to_ := by
        obtain ⟨m, hm⟩ : ∃ m, i - p = m + 1 := ⟨i - p - 1, by omega⟩
        have e2 : p + 1 + m = i := by omega
        rw [hm, lend, e2, if_pos (by omega)]
      have := (oj.2.2 p q1).2.2
      omega
    · have hpq : p < q := by
        rcases Nat.lt_or_ge p q with c | c
        · exact c
        · exfalso
          have := b3 p (by omega) (by omega)
          omega
      have h1 := ih q q2 (by omega) p hpq (by omega)
      have h2 := (oi.2.2 p p1).2.1
      have h3 := from_le h hj q1
      omega
/-- What belongs to one: the two ways. -/
theorem kids_same {l : List NodeT} {n p : Nat} (h : okT l n) : ∀ {m j : Nat}, j + m = n → p < j → (∀ t, p < t → t < j → (nd l t).Depth > (nd l p).Depth) → kr l p j m = kp l p j m
  | 0, j, _, _, _ => rfl
  | m + 1, j, hj, hpj, ht => by
    unfold kr kp
    by_cases c : (nd l j).Depth > (nd l p).Depth
    · rw [if_pos c]
      have ih := kids_same h (m := m) (j := j + 1) (p := p) (by omega) (by omega) (fun t h1 h2 => by
        by_cases e : t = j
        · rw [e]; exact c
        · exact ht t h1 (by omega))
      rw [ih]
      by_cases c2 : (nd l j).Depth = (nd l p).Depth + 1
      · rw [if_pos c2, if_pos (prI_eq.2 (kid_par hpj c2 ht))]
      · have hne : ¬ prI l j = (p : Int) := by
          intro e
          have := (h.dpar (show j < n by omega) (prI_eq.1 e)).2.1
          omega
        rw [if_neg c2, if_neg hne]
    · rw [if_neg c]
      have none : ∀ (m' j' : Nat), j ≤ j' → j' + m' = n → kr l p j' m' = [] := by
        intro m'
        induction m' with
        | zero => intro j' _ _; rfl
        | succ m' ih =>
          intro j' h1 h2
          unfold kr
          rw [if_neg, ih (j' + 1) (by omega) (by omega)]
          intro e
          obtain ⟨e1, e2, e3⟩ := par_some.1 (prI_eq.1 e)
          by_cases ej : j' = j
          · subst ej; omega
          · have := e3 j (by omega) (by omega)
            omega
      have := none (m + 1) j (Nat.le_refl j) hj
      unfold kr at this
      exact this
theorem kids_eq {l : List NodeT} {p : Nat} (h : okT l l.length) (hp : p < l.length) : kidsR l p = kp l p (p + 1) (l.length - (p + 1)) :=
  kids_same h (by omega) (by omega) (fun t h1 h2 => by omega)
end Go.Pi
