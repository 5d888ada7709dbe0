import Derived.Test.YtghncdeldlknnaaTxR
/-
  TREES: which lists are trees, by the program.
-/
set_option linter.all false
namespace Go.Pi
set_option linter.unusedVariables false
/-- What stands on the two stacks ahead of a node. -/
def InvP (l : List NodeT) (i : Nat) (op en : List Int) : Prop :=
  (i = 0 → op = [] ∧ en = []) ∧ (0 < i → (op.length : Int) = (nd l (i - 1)).Depth + 1) ∧ en.length = op.length ∧
  ∀ d, d < op.length → ∃ p : Nat, op[d]? = some (p : Int) ∧ p < i ∧ (nd l p).Depth = d ∧ (∀ t, p < t → t < i → (nd l t).Depth > d) ∧ en[d]? = some (lend l p (i - p - 1))
theorem word_bind {β : Type} (a : NodeT) (k : Nat) (f : Bool × Bool → Option β) : (tree_word k (⟨a.Depth, a.Rule, a.Token, a.from_, a.to_⟩ : NodeT)).bind f = f (decide (a.Token ≥ 0), mayw a) := by
  unfold tree_word
  have e : mayw a = ((decide (a.Token ≥ (0 : Int)) && a.Rule == -1) || (a.Token == -1 && decide (a.Rule ≥ (0 : Int)))) := rfl
  rw [e]
  cases h1 : decide (a.Token ≥ (0 : Int)) <;> cases h2 : (a.Rule == (-1 : Int)) <;> cases h3 : (a.Token == (-1 : Int)) <;> cases h4 : decide (a.Rule ≥ (0 : Int)) <;> simp [h1]
theorem hi_some {n : Nat} {z : Int} {d : Nat} (hz : z = (d : Int)) (h : d ≤ n) : hi? n z = some d := by
  subst hz
  unfold hi?
  rw [if_pos (by omega)]
  simp
theorem inv_next {l : List NodeT} {i : Nat} {op en : List Int} {d : Nat} (h : InvP l i op en) (hok : okT l (i + 1)) (hd : (nd l i).Depth = d) (hle : d ≤ op.length) (h0 : 0 < i) (hd0 : 0 < d) :
    InvP l (i + 1) (op.take d ++ [(i : Int)]) (List.take d (List.set en (d - 1) (nd l i).to_) ++ [(nd l i).from_]) := by
  obtain ⟨_, _, hlen, hst⟩ := h
  refine ⟨fun e => by omega, fun _ => ?_, ?_, ?_⟩
  · simp only [Nat.add_sub_cancel, hd, List.length_append, List.length_take, List.length_cons, List.length_nil]
    omega
  · simp; omega
  · intro e he
    simp only [List.length_append, List.length_take, List.length_cons, List.length_nil] at he
    by_cases c : e = d
    · subst c
      refine ⟨i, ?_, by omega, hd, fun t a b => by omega, ?_⟩
      · rw [List.getElem?_append_right (by simp; omega)]
        simp [Nat.min_eq_left hle]
      · rw [List.getElem?_append_right (by simp; omega)]
        have e1 : i + 1 - i - 1 = 0 := by omega
        simp [lend, e1, hlen, Nat.min_eq_left hle]
    · obtain ⟨p, p1, p2, p3, p4, p5⟩ := hst e (by omega)
      refine ⟨p, ?_, by omega, p3, fun t a b => ?_, ?_⟩
      · rw [List.getElem?_append_left (by simp; omega), List.getElem?_take, if_pos (by omega)]
        exact p1
      · by_cases et : t = i
        · subst et; omega
        · exact p4 t a (by omega)
      · rw [List.getElem?_append_left (by simp; omega), List.getElem?_take, if_pos (by omega)]
        obtain ⟨w, hw⟩ : ∃ w, i = p + 1 + w := ⟨i - p - 1, by omega⟩
        have e1 : i + 1 - p - 1 = w + 1 := by omega
        have e2 : i - p - 1 = w := by omega
        rw [e1, lend, ← hw]
        by_cases ce : e = d - 1
        · subst ce
          rw [List.getElem?_set_self (by omega), if_pos (by omega)]
        · rw [List.getElem?_set_ne (by omega), p5, if_neg (by omega), e2]
theorem take_drop0 {α : Type} (l : List α) (n : Nat) : List.take n (List.drop 0 l) = l.take n := by simp
theorem get_take {l : List Int} {n j : Nat} {x : Int} (h : l[j]? = some x) (hj : j < n) : (l.take n)[j]? = some x := by rw [List.getElem?_take, if_pos hj]; exact h
/-- One round, by the program. -/
def stepP (l : List NodeT) (i k : Nat) (ok : Prop) (x : Option (Unit ⊕ Unit)) : Prop := (ok → ∃ op en, InvP l (i + 1) op en ∧ x = tree_May_l0 l k ((i + 1 : Nat) : Int) op en) ∧ (¬ ok → x = some (Sum.inr ()))
theorem stepP.no {l : List NodeT} {i k : Nat} {ok : Prop} {x : Option (Unit ⊕ Unit)} (h : ¬ ok) (hx : x = some (Sum.inr ())) : stepP l i k ok x := ⟨fun o => absurd o h, fun _ => hx⟩
theorem may_l0P {l : List NodeT} (hl : l.length ≤ 1000) (hroot : (nd l 0).Depth = 0) {i k : Nat} {op en : List Int} (hi : i < l.length) (hk : 10 < k) (h : okT l i) (hI : InvP l i op en) :
    stepP l i k (okN l i) (tree_May_l0 l (k + 1) i op en) := by
  have c0 : decide ((i : Int) < ((l.length : Nat) : Int)) = true := by simp; omega
  have e1 : IntKind.i64.wrap ((i : Int) + 1) = ((i + 1 : Nat) : Int) := by rw [w64 (by omega) (by omega)]; omega
  rw [tree_May_l0, c0, at_nd hi, e1]
  simp only [cond_true, Option.bind_some, word_bind]
  cases hm : mayw (nd l i) with
  | false =>
    simp only [Bool.not_false, cond_true, Option.bind_some]
    exact .no (fun ok => by have := ok.2.1; rw [hm] at this; cases this) rfl
  | true =>
    simp only [Bool.not_true, cond_false]
    rcases Nat.eq_zero_or_pos i with rfl | h0
    · obtain ⟨rfl, rfl⟩ := hI.1 rfl
      simp only [Int.natCast_zero, show decide ((0 : Int) > 0) = false from rfl, cond_false, y2_bind, Bool.or_false]
      by_cases f0 : (nd l 0).from_ > (nd l 0).to_
      · simp only [f0, decide_true, cond_true, Option.bind_some]
        exact .no (fun ok => by have := ok.1; omega) rfl
      · simp only [f0, decide_false, cond_false, hroot]
        have hh : hi? ([] : List Int).length 0 = some 0 := rfl
        simp only [hh, Option.bind_some, List.take_zero, List.nil_append]
        rw [room_ok (by simp) (by omega), room_ok (by simp) (by omega)]
        simp only [Option.bind_some]
        refine ⟨fun _ => ⟨_, _, ?_, rfl⟩, fun nok => absurd ⟨by omega, hm, fun _ => hroot, fun h => by omega⟩ nok⟩
        refine ⟨fun e => by omega, fun _ => by simp [hroot], rfl, fun d hd => ?_⟩
        simp at hd
        subst hd
        exact ⟨0, rfl, by omega, hroot, fun t a b => by omega, rfl⟩
    · obtain ⟨_, hI2, hI3, hI4⟩ := hI
      have i1 : decide ((i : Int) > (0 : Int)) = true := by simp; omega
      have e2 : (i : Int) - 1 = ((i - 1 : Nat) : Int) := by omega
      have hd := h.depth (i := i - 1) (by omega)
      have hop := hI2 h0
      simp only [i1, cond_true, e2, w64 (n := ((i - 1 : Nat) : Int)) (by omega) (by omega), at_nd (show i - 1 < l.length by omega), Option.bind_some, w64 (n := (nd l (i - 1)).Depth + 1) (by omega) (by omega)]
      have comb : ∀ {β : Type} (a b c : Bool) (f : Bool → Option β), (cond a (some true) (cond b (some true) (some c))).bind f = f (a || b || c) := fun a b c f => y10_bind
      by_cases d0 : (decide ((nd l i).from_ > (nd l i).to_) || decide ((nd l i).Depth < 1) || decide ((nd l i).Depth > (nd l (i - 1)).Depth + 1)) = true
      · simp only [y10_bind, d0, cond_true]
        refine .no (fun ok => ?_) rfl
        have h1 := ok.1
        have h2 := ok.2.2.2 h0
        simp at d0
        omega
      · simp only [Bool.not_eq_true] at d0
        simp only [y10_bind, d0, cond_false]
        simp at d0
        obtain ⟨⟨d3, d1⟩, d2⟩ := d0
        obtain ⟨d, hdd⟩ : ∃ d : Nat, (nd l i).Depth = (d : Int) := ⟨(nd l i).Depth.toNat, by omega⟩
        have hdp : 0 < d := by omega
        have hdle : d ≤ op.length := by omega
        obtain ⟨p, p1, p2, p3, p4, p5⟩ := hI4 (d - 1) (by omega)
        have hp : p < l.length := by omega
        have hpar : par l (nd l i).Depth i = some p := par_some.2 ⟨p2, by omega, fun t a b => by have := p4 t a b; omega⟩
        have e3 : (nd l i).Depth - 1 = ((d - 1 : Nat) : Int) := by omega
        rw [hi_some hdd hdle, hi_some hdd (by omega)]
        simp only [Option.bind_some, take_drop0, e3, w64 (n := ((d - 1 : Nat) : Int)) (by omega) (by omega), at_get (j := d - 1) rfl (get_take p1 (show d - 1 < d by omega)), at_nd hp, word_bind, at_get (j := d - 1) rfl (get_take p5 (show d - 1 < d by omega)), Int.toNat_natCast, Nat.zero_add]
        by_cases y3 : (nd l p).Token ≥ 0
        · simp only [y3, decide_true, cond_true, Option.bind_some]
          exact .no (fun ok => by have := (ok.2.2.2 h0).2.2 p hpar; omega) rfl
        · simp only [y3, decide_false, cond_false]
          by_cases y1 : (nd l i).from_ < lend l p (i - p - 1)
          · simp only [y1, decide_true, cond_true, Option.bind_some]
            exact .no (fun ok => by have := (ok.2.2.2 h0).2.2 p hpar; omega) rfl
          · simp only [y1, decide_false, cond_false]
            by_cases y2 : (nd l i).to_ > (nd l p).to_
            · simp only [y2, decide_true, cond_true, Option.bind_some]
              exact .no (fun ok => by have := (ok.2.2.2 h0).2.2 p hpar; omega) rfl
            · simp only [y2, decide_false, cond_false]
              rw [room_ok (by simp; omega) (by omega), room_ok (by simp; omega) (by omega)]
              simp only [Option.bind_some]
              have hok : okN l i := ⟨by omega, hm, fun e => by omega, fun _ => ⟨by omega, by omega, fun p' hp' => by
                rw [hpar] at hp'
                injection hp' with hp'
                subst hp'
                exact ⟨by omega, by omega, by omega⟩⟩⟩
              refine ⟨fun _ => ⟨_, _, inv_next ⟨fun e => by omega, hI2, hI3, hI4⟩ (fun j hj => ?_) hdd hdle h0 hdp, rfl⟩, fun nok => absurd hok nok⟩
              by_cases e : j = i
              · rw [e]; exact hok
              · exact h j (by omega)
theorem may_roundsP {l : List NodeT} (hl : l.length ≤ 1000) (hroot : (nd l 0).Depth = 0) :
    ∀ {m i k : Nat} {op en : List Int}, i + m = l.length → m + 12 < k → okT l i → InvP l i op en → stepR (okT l l.length) (tree_May_l0 l k i op en) (some (Sum.inl ()))
  | 0, i, k, op, en, hi, hk, h, hI => by
    obtain ⟨k, rfl⟩ : ∃ m, k = m + 1 := ⟨k - 1, by omega⟩
    obtain rfl : i = l.length := by omega
    exact .yes h (by rw [tree_May_l0]; simp)
  | m + 1, i, k, op, en, hi, hk, h, hI => by
    obtain ⟨k, rfl⟩ : ∃ m, k = m + 1 := ⟨k - 1, by omega⟩
    obtain ⟨s1, s2⟩ := may_l0P (k := k) hl hroot (show i < l.length by omega) (by omega) h hI
    by_cases c : okN l i
    · obtain ⟨op', en', hI', e⟩ := s1 c
      rw [e]
      exact may_roundsP hl hroot (m := m) (by omega) (by omega) (fun j hj => by
        by_cases e : j = i
        · rw [e]; exact c
        · exact h j (by omega)) hI'
    · exact .no (fun ok => c (ok i (by omega))) (s2 c)
theorem mayP {l : List NodeT} (hl : l.length ≤ 1000) {k : Nat} (hk : l.length + 12 < k) : ∃ b, tree_May k l = some b ∧ (b = true ↔ isT l) := by
  unfold tree_May
  by_cases hn : l.length = 0
  · refine ⟨false, ?_, by simp [isT, hn]⟩
    simp [hn]
  · have c0 : (((l.length : Nat) : Int) == (0 : Int)) = false := beq_eq_false_iff_ne.2 (by omega)
    have a0 := at_nd (l := l) (j := 0) (by omega)
    simp only [Int.natCast_zero] at a0
    simp only [c0, cond_false, a0, Option.bind_some]
    by_cases hr : (nd l 0).Depth = 0
    · have hr' : ((nd l 0).Depth != 0) = false := by simpa using hr
      simp only [hr', cond_false]
      have := may_roundsP hl hr (m := l.length) (i := 0) (k := k) (op := []) (en := []) (by omega) (by omega) (fun j hj => by omega) ⟨fun _ => ⟨rfl, rfl⟩, fun h => by omega, rfl, fun d hd => by simp at hd⟩
      simp only [Int.natCast_zero] at this
      by_cases c : okT l l.length
      · rw [this.1 c]
        exact ⟨true, rfl, by simp only [isT, true_iff]; exact ⟨by omega, c⟩⟩
      · rw [this.2 c]
        exact ⟨false, rfl, by simp [isT, c]⟩
    · have hr' : ((nd l 0).Depth != 0) = true := by simpa using hr
      simp only [hr', cond_true]
      refine ⟨false, rfl, ?_⟩
      simp only [Bool.false_eq_true, false_iff]
      rintro ⟨_, ok⟩
      exact hr ((ok 0 (by omega)).2.2.1 rfl)
end Go.Pi
