import Derived.Test.YtnpljffnopmaiaaJI
import Derived.Test.YtnpljffnopmaiaaPY
/-
  FROM DATA OF A TYPE TO TERMS; from a law's term to its run.
-/
set_option linter.all false
namespace Go.Pi
set_option linter.unusedVariables false

def inK (k : IntKind) (n : Int) : Prop := k.min ≤ n ∧ n ≤ k.max
theorem tyd_int {P : Program} {m t : Nat} {k : IntKind} {ds : List D} (hu : P.underlying t = some (.int k)) (h : TyD P (m + 1) t ds) : ∃ n, inK k n ∧ ds = [.int k n] := by
  simp only [TyD, hu] at h
  obtain ⟨n, h1, rfl⟩ := h
  simp only [Lit.wf, Bool.and_eq_true, decide_eq_true_eq] at h1
  exact ⟨n, h1, rfl⟩
theorem tyd_bool {P : Program} {m t : Nat} {ds : List D} (hu : P.underlying t = some .bool) (h : TyD P (m + 1) t ds) : ∃ b, ds = [.bool b] := by
  simpa only [TyD, hu] using h
theorem tyd_flt {P : Program} {m t : Nat} {ds : List D} (hu : P.underlying t = some (.float .f64)) (h : TyD P (m + 1) t ds) : ∃ b, b < 2 ^ 64 ∧ ds = [.flt (some b)] := by
  simp only [TyD, hu] at h
  obtain ⟨b, h1, rfl⟩ := h
  exact ⟨b, by simpa [Lit.wf] using h1, rfl⟩
theorem tyd_str {P : Program} {m t : Nat} {ds : List D} (hu : P.underlying t = some .string) (h : TyD P (m + 1) t ds) : ∃ s : List UInt8, s.length ≤ maxLen ∧ ds = [.str s] := by
  simpa only [TyD, hu] using h
theorem tyd_list {α : Type} {c : α → List D} {W : α → Prop} {P : Program} {m t e sz : Nat} {d : D} (hu : P.underlying t = some (.slice e)) (hc : P.cellsOf e = sz) (hel : ∀ x, TyD P m e x → ∃ a, W a ∧ x = c a) (hn : ∀ a, All2 Nr (c a) (c a)) (h : TyD P (m + 1) t [d]) :
    ∃ l : List α, (∀ a ∈ l, W a) ∧ l.length ≤ maxLen ∧ VR [] (.c 1 (.lst sz (l.map c))) d := by
  simp only [TyD, hu, hc] at h
  rcases h with h | ⟨es, h1, h2, h3⟩
  · injection h with h
    subst h
    exact ⟨[], by simp, by simp [maxLen], by simp only [VR]; exact Cl.plain rfl Nr.mk_nil⟩
  · injection h2 with h2
    subst h2
    have key : ∀ es : List (List D), (∀ x ∈ es, x.length = sz ∧ TyD P m e x) → ∃ l : List α, (∀ a ∈ l, W a) ∧ l.length = es.length ∧ es = l.map c := by
      intro es
      induction es with
      | nil => exact fun _ => ⟨[], by simp, rfl, rfl⟩
      | cons x es ih =>
        intro hx
        obtain ⟨l, l1, l2, l3⟩ := ih fun y hy => hx y (by simp [hy])
        obtain ⟨a, a1, a2⟩ := hel x (hx x (by simp)).2
        exact ⟨a :: l, by simp; exact ⟨a1, l1⟩, by simp [l2], by simp [a2, l3]⟩
    obtain ⟨l, l1, l2, l3⟩ := key es h3
    refine ⟨l, l1, by omega, ?_⟩
    simp only [VR]
    refine Cl.plain rfl ?_
    rw [l3]
    refine Nr.mk_lst ?_
    clear l1 l2 l3
    induction l with
    | nil => trivial
    | cons a l ih => exact ⟨hn a, ih⟩
theorem tyd_struct {P : Program} {m t : Nat} {fs : Array Field} {ds : List D} (hu : P.underlying t = some (.struct fs)) (h : TyD P (m + 1) t ds) : ds.length = P.cellsOf t ∧ ∀ f ∈ fs.toList, TyD P m f.type ((ds.drop f.offset).take (P.cellsOf f.type)) := by
  unfold TyD at h
  rw [hu] at h
  exact h
theorem exp1_bool {H : Heap} {d : D} {t : Bool} {hs rd : List Nat} (h : exp1 H d = some (.bool t, hs, rd)) : d = .bool t := by
  have hfz : ∀ {d : D}, ((frz fuelF d).run H).map (fun x => (x.1, ([] : List Nat), x.2)) = some (.bool t, hs, rd) → d = .bool t := by
    intro d h
    simp only [Option.map_eq_some_iff] at h
    obtain ⟨x, h1, h2⟩ := h
    have hx : x.1 = .bool t := congrArg Prod.fst h2
    cases d <;> simp only [fuelF, frz] at h1
    case ref id off len =>
      obtain ⟨_, _, _, _, h3⟩ := run_get h1
      split at h3
      · obtain ⟨y, _, h4⟩ := run_bind' h3
        simp only [Eff.run, Option.some.injEq] at h4
        rw [← h4] at hx; cases hx
      · simp [Eff.run] at h3
    case ptr id off =>
      obtain ⟨_, _, _, _, h3⟩ := run_get h1
      split at h3
      · obtain ⟨y, _, h4⟩ := run_bind' h3
        simp only [Eff.run, Option.some.injEq] at h4
        rw [← h4] at hx; cases hx
      · simp [Eff.run] at h3
    case agg cs =>
      obtain ⟨y, _, h4⟩ := run_bind' h1
      simp only [Eff.run, Option.some.injEq] at h4
      rw [← h4] at hx; cases hx
    case tup => simp [Eff.run] at h1
    case own => simp [Eff.run] at h1
    all_goals
      simp only [Eff.run, Option.some.injEq] at h1
      rw [← h1] at hx
      exact hx
  cases d <;> try exact hfz h
  rename_i id off len
  simp only [exp1] at h
  split at h
  · split at h
    · simp only [Option.map_eq_some_iff] at h
      obtain ⟨x, _, h2⟩ := h
      cases congrArg Prod.fst h2
    · exact hfz h
  · exact hfz h
/-- A law whose term is true: its run is. -/
theorem CallOk.true {pr : Prog} {f : Nat} {vs : List V} (h : CallOk pr f vs false [.sc (.x (.bool true))]) {ds : List D} (hd : VRs [] vs ds) : Runs pr f ds [] (fun d _ => d = .bool true) := by
  refine (h ds hd).mono ?_
  rintro d H' ⟨h1, xs, hs, rd, h2, _, _, h3⟩
  have hc : comps d = [d] := by cases d <;> simp [tupD] at h1 <;> rfl
  rw [hc] at h2
  simp only [expL, Option.bind_eq_some_iff] at h2
  obtain ⟨x, e1, y, e2, e3⟩ := h2
  simp only [Option.some.injEq] at e2
  subst e2
  simp only [Option.some.injEq, Prod.mk.injEq] at e3
  obtain ⟨rfl, _, _⟩ := e3
  obtain ⟨⟨_, h4⟩, _⟩ := h3
  simp only [VR] at h4
  exact exp1_bool (by rw [e1, ← h4])
end Go.Pi

