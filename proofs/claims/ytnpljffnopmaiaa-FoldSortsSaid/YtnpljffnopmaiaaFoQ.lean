import Derived.Test.YtnpljffnopmaiaaFoR
import Derived.Laws.FloatBits
/-
  SUMS, LEAST AND MOST, in plain words.
-/
set_option linter.all false
namespace Go.Pi
open Ieee
theorem w64f {n : Int} (h0 : -9223372036854775808 ≤ n) (h1 : n < 9223372036854775808) : IntKind.i64.wrap n = n := by
  rw [IntKind.wrap_i64]; omega
theorem bind_lt {a b : Fl} {f : Nat → Nat → Fl} (h : ∀ x y r, f x y = some r → r < 18446744073709551616) : FlW (a.bind fun x => b.bind fun y => f x y) := by
  cases a with
  | none => trivial
  | some x =>
    cases b with
    | none => trivial
    | some y =>
      show FlW (f x y)
      cases hf : f x y with
      | none => trivial
      | some r => exact h x y r hf
theorem w64_eq : (2 : Nat) ^ double.width = 18446744073709551616 := by decide +kernel
theorem fAdd_W (a b : Fl) : FlW (fAdd a b) := bind_lt fun x y r h => by
  have := double.add_lt (x := x) (y := y) (r := r) h
  rw [w64_eq] at this
  exact this
theorem fMul_W (a b : Fl) : FlW (fMul a b) := bind_lt fun x y r h => by
  have := double.mul_lt (x := x) (y := y) (r := r) h
  rw [w64_eq] at this
  exact this
theorem at_dropF {s r : List Fl} {i : Nat} {c : Fl} (h : s.drop i = c :: r) : at? s (i : Int) = some c ∧ s.drop (i + 1) = r ∧ i < s.length := by
  have hl : i < s.length := by
    rcases Nat.lt_or_ge i s.length with k | k
    · exact k
    · rw [List.drop_of_length_le k] at h; cases h
  rw [List.drop_eq_getElem_cons hl] at h
  injection h with h1 h2
  refine ⟨?_, h2, hl⟩
  unfold at?
  rw [if_pos (by omega)]
  simp only [Int.toNat_natCast]
  rw [List.getElem?_eq_getElem hl, h1]
theorem room8 {α : Type} {n : Nat} {m : Option α} (h : n ≤ 1000) : room n 8 m = m := by
  unfold room roomy
  rw [if_pos (by omega)]
/-! ### sums -/
theorem sum_l0 (l : List Fl) (hl : l.length ≤ 1000) : ∀ (r : List Fl) (f i : Nat) (acc : Fl), l.drop i = r → r.length < f → fold_Sum_l0 l f acc i = some (r.foldl fAdd acc)
  | [], f + 1, i, acc, hr, hf => by
    have : l.length ≤ i := by simpa using hr
    rw [fold_Sum_l0, decide_neg (by omega), cond_false]
    rfl
  | c :: r, f + 1, i, acc, hr, hf => by
    obtain ⟨h1, h2, h3⟩ := at_dropF hr
    have hi : IntKind.i64.wrap ((i : Int) + 1) = ((i + 1 : Nat) : Int) := by rw [w64f (by omega) (by omega)]; omega
    rw [fold_Sum_l0, decide_pos (by omega), cond_true, h1, Option.bind_some, hi, sum_l0 l hl r f (i + 1) _ h2 (by simp at hf; omega)]
    rfl
def sumF (l : List Fl) : Fl := l.foldl fAdd (some 0)
theorem fold_Sum_eq (l : List Fl) (hl : l.length ≤ 90) : fold_Sum 100 l = some (sumF l) := by
  unfold fold_Sum
  rw [show (0 : Int) = ((0 : Nat) : Int) from rfl, sum_l0 l (by omega) l 100 0 _ rfl (by omega)]
  rfl
theorem sumF_W (l : List Fl) : FlW (sumF l) := by
  unfold sumF
  have : ∀ (l : List Fl) (a : Fl), FlW a → FlW (l.foldl fAdd a) := by
    intro l
    induction l with
    | nil => exact fun a h => h
    | cons c l ih => exact fun a h => ih _ (fAdd_W _ _)
  exact this l _ (show (0 : Nat) < 18446744073709551616 by decide)
/-! ### the least and the greatest -/
/-- What is picked among these (up: the greatest). -/
structure PickOk (up : Bool) (l : List Fl) (r : Fl × Bool) : Prop where
  none : r.2 = false → r.1 = some 0 ∧ ∀ w ∈ l, ¬ isF w
  some : r.2 = true → r.1 ∈ l ∧ isF r.1 ∧ ∀ w ∈ l, isF w → (if up then keyF w ≤ keyF r.1 else keyF r.1 ≤ keyF w)
def pickC (up : Bool) : Int := if up then 1 else -1
theorem cmpN_up {a b : Nat} {up : Bool} : (cmpN a b == pickC up) = decide (if up then b < a else a < b) := by
  unfold cmpN pickC
  cases up
  · simp only [Bool.false_eq_true, if_false]
    by_cases h : a < b
    · rw [if_pos h, decide_pos h]; rfl
    · rw [if_neg h, decide_neg h]; split <;> rfl
  · simp only [if_true]
    by_cases h : b < a
    · rw [if_neg (by omega), if_pos h, decide_pos h]; rfl
    · rw [if_neg h, decide_neg h]; split <;> rfl
theorem pick_l0 (up : Bool) (l : List Fl) (hl : l.length ≤ 1000) (hw : ∀ w ∈ l, FlW w) : ∀ (r : List Fl) (f i : Nat) (p : Fl × Bool), l.drop i = r → r.length < f → PickOk up (l.take i) p → ∃ q, fold_pick_l0 l (pickC up) f p.1 p.2 i = some q ∧ PickOk up l q
  | [], f + 1, i, p, hr, hf, hp => by
    have hi : l.length ≤ i := by simpa using hr
    refine ⟨p, ?_, ?_⟩
    · rw [fold_pick_l0, decide_neg (by omega), cond_false]
    · rwa [List.take_of_length_le hi] at hp
  | c :: r, f + 1, i, p, hr, hf, hp => by
    obtain ⟨h1, h2, h3⟩ := at_dropF hr
    have hi : IntKind.i64.wrap ((i : Int) + 1) = ((i + 1 : Nat) : Int) := by rw [w64f (by omega) (by omega)]; omega
    have hc : c ∈ l := List.mem_of_mem_drop (by rw [hr]; simp : c ∈ l.drop i)
    have ht : l.take (i + 1) = l.take i ++ [c] := by
      rw [List.take_add_one]
      congr 1
      have : (l.drop i)[0]? = some c := by rw [hr]; rfl
      rw [List.getElem?_drop] at this
      simpa using congrArg Option.toList this
    rw [fold_pick_l0, decide_pos (by omega), cond_true, h1, Option.bind_some, ne_selfF]
    have next : ∀ q : Fl × Bool, PickOk up (l.take (i + 1)) q → ∃ q', fold_pick_l0 l (pickC up) f q.1 q.2 ((i + 1 : Nat) : Int) = some q' ∧ PickOk up l q' := fun q hq =>
      pick_l0 up l hl hw r f (i + 1) q h2 (by simp at hf; omega) hq
    by_cases hn : isF c
    · rw [decide_pos hn, Bool.not_true, cond_false]
      have hnew : ∀ (h : p.2 = false ∨ (if up then keyF p.1 < keyF c else keyF c < keyF p.1)), PickOk up (l.take (i + 1)) (c, true) := by
        intro h
        refine ⟨fun e => (by cases e), fun _ => ⟨by rw [ht]; simp, hn, fun w hwm hwn => ?_⟩⟩
        rw [ht, List.mem_append, List.mem_singleton] at hwm
        rcases hwm with hwm | rfl
        · cases hp2 : p.2 with
          | false => exact absurd hwn ((hp.none hp2).2 w hwm)
          | true =>
            have h' := h.resolve_left (by rw [hp2]; simp)
            have := (hp.some hp2).2.2 w hwm hwn
            cases up
            · simp only [Bool.false_eq_true, if_false] at *; omega
            · simp only [if_true] at *; omega
        · cases up
          · simp only [Bool.false_eq_true, if_false]; omega
          · simp only [if_true]; omega
      cases hp2 : p.2 with
      | false =>
        rw [Bool.not_false, cond_true, Option.bind_some, cond_true, Option.bind_some]
        simp only [hi]
        exact next (c, true) (hnew (.inl hp2))
      | true =>
        have hpl := hp.some hp2
        rw [Bool.not_true, cond_false, weigh_Order_eq _ _ _ (hw c hc) (hw _ (List.mem_of_mem_take hpl.1)), Option.bind_some, cmpN_up, Option.bind_some]
        by_cases hlt : (if up then keyF p.1 < keyF c else keyF c < keyF p.1)
        · rw [decide_pos hlt, cond_true, Option.bind_some]
          simp only [hi]
          exact next (c, true) (hnew (.inr hlt))
        · rw [decide_neg hlt, cond_false, Option.bind_some]
          simp only [hi]
          have := next (p.1, true) ⟨fun e => (by cases e), fun _ => ⟨by rw [ht]; simp [hpl.1], hpl.2.1, fun w hwm hwn => ?_⟩⟩
          · exact this
          · rw [ht, List.mem_append, List.mem_singleton] at hwm
            rcases hwm with hwm | rfl
            · exact hpl.2.2 w hwm hwn
            · cases up
              · simp only [Bool.false_eq_true, if_false] at *; omega
              · simp only [if_true] at *; omega
    · rw [decide_neg hn, Bool.not_false, cond_true, Option.bind_some]
      simp only [hi]
      refine next p ⟨fun e => ⟨(hp.none e).1, fun w hwm => ?_⟩, fun e => ⟨?_, (hp.some e).2.1, fun w hwm hwn => ?_⟩⟩
      · rw [ht, List.mem_append, List.mem_singleton] at hwm
        rcases hwm with hwm | rfl
        · exact (hp.none e).2 w hwm
        · exact hn
      · rw [ht]
        exact List.mem_append_left _ (hp.some e).1
      · rw [ht, List.mem_append, List.mem_singleton] at hwm
        rcases hwm with hwm | rfl
        · exact (hp.some e).2.2 w hwm hwn
        · exact absurd hwn hn
theorem pick_ok (up : Bool) (l : List Fl) (hl : l.length ≤ 90) (hw : ∀ w ∈ l, FlW w) : ∃ q, fold_pick 100 l (pickC up) = some q ∧ PickOk up l q := by
  obtain ⟨q, h1, h2⟩ := pick_l0 up l (by omega) hw l 100 0 (some 0, false) rfl (by omega) ⟨fun _ => ⟨rfl, by simp⟩, fun e => by cases e⟩
  refine ⟨q, ?_, h2⟩
  unfold fold_pick
  rw [show (0 : Int) = ((0 : Nat) : Int) from rfl, h1]
  rfl
theorem least_ok (l : List Fl) (hl : l.length ≤ 90) (hw : ∀ w ∈ l, FlW w) : ∃ q, fold_Least 100 l = some q ∧ PickOk false l q := by
  obtain ⟨q, h1, h2⟩ := pick_ok false l hl hw
  refine ⟨q, ?_, h2⟩
  unfold fold_Least
  have : fold_pick 100 l (-1) = some q := h1
  rw [this]
  rfl
theorem most_ok (l : List Fl) (hl : l.length ≤ 90) (hw : ∀ w ∈ l, FlW w) : ∃ q, fold_Most 100 l = some q ∧ PickOk true l q := by
  obtain ⟨q, h1, h2⟩ := pick_ok true l hl hw
  refine ⟨q, ?_, h2⟩
  unfold fold_Most
  have : fold_pick 100 l 1 = some q := h1
  rw [this]
  rfl
theorem PickOk.W {up : Bool} {l : List Fl} {r : Fl × Bool} (h : PickOk up l r) (hw : ∀ w ∈ l, FlW w) : FlW r.1 := by
  cases e : r.2 with
  | false => rw [(h.none e).1]; exact (show (0 : Nat) < 18446744073709551616 by decide)
  | true => exact hw _ (h.some e).1
/-- Two picks among the same numbers are one. -/
theorem PickOk.same {up : Bool} {l m : List Fl} {r q : Fl × Bool} (h : PickOk up l r) (h' : PickOk up m q) (hm : ∀ w, w ∈ l ↔ w ∈ m) : r.2 = q.2 ∧ keyF r.1 = keyF q.1 := by
  cases e : r.2 with
  | false =>
    cases e' : q.2 with
    | false => exact ⟨rfl, by rw [(h.none e).1, (h'.none e').1]⟩
    | true => exact absurd (h'.some e').2.1 ((h.none e).2 _ ((hm _).2 (h'.some e').1))
  | true =>
    cases e' : q.2 with
    | false => exact absurd (h.some e).2.1 ((h'.none e').2 _ ((hm _).1 (h.some e).1))
    | true =>
      refine ⟨rfl, ?_⟩
      have a := (h.some e).2.2 _ ((hm _).2 (h'.some e').1) (h'.some e').2.1
      have b := (h'.some e').2.2 _ ((hm _).1 (h.some e).1) (h.some e).2.1
      cases up
      · simp only [Bool.false_eq_true, if_false] at a b; omega
      · simp only [if_true] at a b; omega
theorem PickOk.two {l : List Fl} {r q : Fl × Bool} {u v : Bool} (h : PickOk u l r) (h' : PickOk v l q) : r.2 = q.2 := by
  cases e : r.2 with
  | false =>
    cases e' : q.2 with
    | false => rfl
    | true => exact absurd (h'.some e').2.1 ((h.none e).2 _ (h'.some e').1)
  | true =>
    cases e' : q.2 with
    | false => exact absurd (h.some e).2.1 ((h'.none e').2 _ (h.some e).1)
    | true => rfl
end Go.Pi

