import Derived.Test.YtghncdeldlknnaaPiU
/-
  WHAT A PIECE OF CODE COMES TO, told without fuel: the rules.
-/
set_option linter.all false
namespace Go.Pi
set_option linter.unusedVariables false

section
variable (pr : Prog)
def Ends (c : PC) (s : St) (Q : Ex → St → Prop) : Prop := ∃ n ex s', code (runN pr n) n c s = some (ex, s') ∧ Q ex s'
def Steps (b : Nat) (os : List PO) (s : St) (Q : St → Prop) : Prop := ∃ n s', seqR (runN pr n) b os s = some s' ∧ Q s'
def StepsD (b : Nat) (os : List PO) (i : Nat) (seen : List (Nat × Fp)) (s : St) (Q : St → Prop) : Prop := ∃ n s', seqD (runN pr n) b os i seen s = some s' ∧ Q s'
def Runs (f : Nat) (args : List D) (H : Heap) (Q : D → Heap → Prop) : Prop := ∃ n d H', runN pr n f args H = some (d, H') ∧ Q d H'
end

section
variable {pr : Prog} {Q Q' : Ex → St → Prop} {s : St}

theorem Ends.mono {c : PC} (h : Ends pr c s Q) (hq : ∀ ex s', Q ex s' → Q' ex s') : Ends pr c s Q' := by
  obtain ⟨n, ex, s', h1, h2⟩ := h
  exact ⟨n, ex, s', h1, hq _ _ h2⟩
theorem Steps.mono {b : Nat} {os : List PO} {Q Q' : St → Prop} (h : Steps pr b os s Q) (hq : ∀ s', Q s' → Q' s') : Steps pr b os s Q' := by
  obtain ⟨n, s', h1, h2⟩ := h
  exact ⟨n, s', h1, hq _ h2⟩
theorem Runs.mono {f : Nat} {a : List D} {H : Heap} {Q Q' : D → Heap → Prop} (h : Runs pr f a H Q) (hq : ∀ d H', Q d H' → Q' d H') : Runs pr f a H Q' := by
  obtain ⟨n, d, H', h1, h2⟩ := h
  exact ⟨n, d, H', h1, hq _ _ h2⟩

theorem Ends.skip (h : Q .normal s) : Ends pr .skip s Q := ⟨0, _, _, rfl, h⟩
theorem Ends.ret (h : Q .ret s) : Ends pr .ret s Q := ⟨0, _, _, rfl, h⟩
theorem Ends.exit {id : Nat} (h : Q (.exit id) s) : Ends pr (.exit id) s Q := ⟨0, _, _, rfl, h⟩
theorem Ends.region {k : Nat} {os : List PO} (h : Steps pr s.hp.length os ⟨s.ts, s.hp ++ List.replicate k .fresh⟩ (Q .normal)) : Ends pr (.region false k os) s Q := by
  obtain ⟨n, s', h1, h2⟩ := h
  exact ⟨n, .normal, s', by simp [code, h1], h2⟩
theorem Ends.regionD {k : Nat} {os : List PO} (h : StepsD pr s.hp.length os 0 [] ⟨s.ts, s.hp ++ List.replicate k .fresh⟩ (Q .normal)) : Ends pr (.region true k os) s Q := by
  obtain ⟨n, s', h1, h2⟩ := h
  exact ⟨n, .normal, s', by simp [code, h1], h2⟩
/-- Behind the first: where it goes on. -/
def Then (pr : Prog) (b : PC) (Q : Ex → St → Prop) : Ex → St → Prop
  | .normal, s => Ends pr b s Q
  | ex, s => Q ex s
theorem Ends.seq {a b : PC} (h : Ends pr a s (Then pr b Q)) : Ends pr (.seq a b) s Q := by
  obtain ⟨n, ex, s1, h1, h2⟩ := h
  cases ex with
  | normal =>
    obtain ⟨m, ex, s2, h3, h4⟩ := h2
    refine ⟨max n m, ex, s2, ?_, h4⟩
    simp only [code, code_mono (runN_mono pr (Nat.le_max_left n m)) (Nat.le_max_left n m) h1, code_mono (runN_mono pr (Nat.le_max_right n m)) (Nat.le_max_right n m) h3]
  | exit i => exact ⟨n, _, s1, by simp [code, h1], h2⟩
  | ret => exact ⟨n, _, s1, by simp [code, h1], h2⟩
theorem Ends.cond {c : PX} {x y : PC} {b : Bool} (hb : c.ev s.ts = .bool b) (h1 : b = true → Ends pr x s Q) (h2 : b = false → Ends pr y s Q) : Ends pr (.cond c x y) s Q := by
  cases b with
  | true =>
    obtain ⟨n, ex, s', h3, h4⟩ := h1 rfl
    exact ⟨n, ex, s', by simp [code, hb, h3], h4⟩
  | false =>
    obtain ⟨n, ex, s', h3, h4⟩ := h2 rfl
    exact ⟨n, ex, s', by simp [code, hb, h3], h4⟩
def Blocked (id : Nat) (Q : Ex → St → Prop) : Ex → St → Prop
  | .exit j, s => if j = id then Q .normal s else Q (.exit j) s
  | ex, s => Q ex s
theorem Ends.block {id : Nat} {c : PC} (h : Ends pr c s (Blocked id Q)) : Ends pr (.block id c) s Q := by
  obtain ⟨n, ex, s1, h1, h2⟩ := h
  cases ex with
  | normal => exact ⟨n, _, s1, by simp [code, h1], h2⟩
  | ret => exact ⟨n, _, s1, by simp [code, h1], h2⟩
  | exit j =>
    simp only [Blocked] at h2
    split at h2
    · rename_i e; exact ⟨n, _, s1, by simp [code, h1, e], h2⟩
    · rename_i e; exact ⟨n, _, s1, by simp [code, h1, e], h2⟩
/-- A loop: what stands ahead of each round, with what becomes less. -/
def Looped (I : Nat → St → Prop) (k : Nat) (Q : Ex → St → Prop) : Ex → St → Prop
  | .normal, s => ∃ k', k' < k ∧ I k' s
  | ex, s => Q ex s
theorem Ends.loop {c : PC} (I : Nat → St → Prop) (k : Nat) (h0 : I k s) (h : ∀ k s, I k s → Ends pr c s (Looped I k Q)) : Ends pr (.loop c) s Q := by
  suffices ∀ k s, I k s → ∃ n j ex s', loopN (code (runN pr n) n c) j s = some (ex, s') ∧ Q ex s' by
    obtain ⟨n, j, ex, s', h1, h2⟩ := this k s h0
    refine ⟨max n j, ex, s', ?_, h2⟩
    exact loopN_mono (fun s r h => code_mono (runN_mono pr (Nat.le_max_left n j)) (Nat.le_max_left n j) h) (Nat.le_max_right n j) h1
  intro k
  induction k using Nat.strongRecOn with
  | ind k ih =>
    intro s hI
    obtain ⟨n, ex, s1, h1, h2⟩ := h k s hI
    cases ex with
    | normal =>
      obtain ⟨k', hk, hI'⟩ := h2
      obtain ⟨m, j, ex, s2, h3, h4⟩ := ih k' hk s1 hI'
      refine ⟨max n m, j + 1, ex, s2, ?_, h4⟩
      simp only [loopN, code_mono (runN_mono pr (Nat.le_max_left n m)) (Nat.le_max_left n m) h1]
      exact loopN_mono (fun s r h => code_mono (runN_mono pr (Nat.le_max_right n m)) (Nat.le_max_right n m) h) (Nat.le_refl _) h3
    | exit i => exact ⟨n, 1, _, s1, by simp [loopN, h1], h2⟩
    | ret => exact ⟨n, 1, _, s1, by simp [loopN, h1], h2⟩

theorem Steps.nil {b : Nat} {Q : St → Prop} (h : Q s) : Steps pr b [] s Q := ⟨0, s, rfl, h⟩
theorem Steps.cons {b : Nat} {o : PO} {os : List PO} {Q : St → Prop} {n : Nat} {s1 : St} (h : stepO (runN pr n) b o s = some s1) (h2 : Steps pr b os s1 Q) : Steps pr b (o :: os) s Q := by
  obtain ⟨m, s', h3, h4⟩ := h2
  refine ⟨max n m, s', ?_, h4⟩
  simp only [seqR, (stepO_mono (runN_mono pr (Nat.le_max_left n m)) h).1, Option.bind_some]
  exact seqR_mono (runN_mono pr (Nat.le_max_right n m)) h3
/-- An operation that calls nothing. -/
theorem Steps.op {b : Nat} {o : PO} {os : List PO} {Q : St → Prop} {s1 : St} (h : ∀ call, stepO call b o s = some s1) (h2 : Steps pr b os s1 Q) : Steps pr b (o :: os) s Q := Steps.cons (n := 0) (h _) h2
/-- A call by closed data, of a closed result. -/
theorem Steps.call {b : Nat} {dst : Option Nat} {f : Nat} {args : List (Nat × PX)} {g : Option (Nat × Bool)} {l : List Nat} {r : Nat} {os : List PO} {Q : St → Prop} {ds : List D} {Q0 : D → Prop}
    (hg : guardOk s.ts g = true) (hw : wantedP s.ts g = true) (hm : args.all (fun p => p.1 == 0) = true)
    (ha : ∀ H, (prep (args.map fun p => (p.1, p.2.ev s.ts)) 0).run H = some ⟨ds, [], [], []⟩) (hr : Runs pr f ds [] (fun d H => Q0 d ∧ ∃ i, finish (b + r) ⟨ds, [], [], []⟩ d H = some (i, ⟨d, [], []⟩) ∧ i = []))
    (h2 : ∀ d, Q0 d → Steps pr b os ⟨putT s.ts dst d, s.hp⟩ Q) : Steps pr b (⟨dst, .call f args, g, l, r⟩ :: os) s Q := by
  obtain ⟨n, d, H', h3, h4, i, h5, h6⟩ := hr
  subst h6
  refine Steps.cons (n := n) (s1 := ⟨putT s.ts dst d, s.hp⟩) ?_ (h2 d h4)
  unfold stepO
  simp only [hg, hw, if_true, opE, callE, run_bindE, ha, Option.bind_some, List.map_nil, nodup, apart, List.all_nil, Bool.and_self, if_true, h3, h5, newL, Eff.run, Option.map_some]
  rfl

theorem Runs.body {f : Nat} {args : List D} {H : Heap} {Q : D → Heap → Prop} {pf : PF} (hf : pr f = some pf)
    (h : Ends pr pf.body ⟨args ++ List.replicate (pf.ntmps - args.length) .undef, H⟩ (fun ex s => (∀ i, ex ≠ .exit i) ∧ ∃ d, resV s pf.results = some d ∧ Q d s.hp)) : Runs pr f args H Q := by
  obtain ⟨n, ex, s', h1, h2, d, h3, h4⟩ := h
  refine ⟨n + 1, d, s'.hp, ?_, h4⟩
  simp only [runN, hf, h1]
  cases ex with
  | normal => simp [h3]
  | ret => simp [h3]
  | exit i => exact absurd rfl (h2 i)
end
end Go.Pi
