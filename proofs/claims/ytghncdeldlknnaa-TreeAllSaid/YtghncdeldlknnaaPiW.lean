import Derived.Test.YtghncdeldlknnaaPiU
/-
  REGIONS THAT DRAW THEIR ORDER, run in the written order: where no two operations can meet.
-/
set_option linter.all false
namespace Go.Pi
set_option linter.unusedVariables false

/-- 0: touches no row. 1: reads rows. 2: all else. -/
def clsO : POp → Nat
  | .mv _ | .pick _ _ _ | .build _ _ | .bin _ _ _ | .eqB _ _ _ | .eqNS _ _ | .eqNP _ _ | .eqA _ _ _ _ | .un _ _ | .sliceS _ _ _ | .fieldAddr _ _ _ | .field _ _ _ _ | .indexAddrA _ _ _ _ | .index _ _ _ _ _ |
    .indexS _ _ | .extract _ _ | .len _ | .lenS _ | .minmax _ _ _ | .bits _ | .ofBits _ | .nilCheck _ => 0
  | .load _ _ _ | .slice _ _ _ _ | .indexAddr _ _ _ | .conv _ _ | .call _ _ => 1
  | _ => 2
def okPair (p q : Nat) : Bool := p == 0 || q == 0 || (p == 1 && q == 1)
def okPairs (q : PO) : List PO → Nat → Bool
  | [], _ => true
  | p :: ps, j => (q.after.contains j || okPair (clsO p.op) (clsO q.op)) && okPairs q ps (j + 1)
def okRegion : List PO → List PO → Bool
  | _, [] => true
  | pre, q :: qs => okPairs q pre 0 && okRegion (pre ++ [q]) qs
def quietO' (o : PO) : PO := match o.op with
  | .call f args => { o with op := .callQ f args }
  | _ => o
def undraw : PC → PC
  | .region true k ops => if okRegion [] ops then .region false k (ops.map quietO') else .region true k ops
  | .seq a b => .seq (undraw a) (undraw b)
  | .cond c x y => .cond c (undraw x) (undraw y)
  | .block id c => .block id (undraw c)
  | .loop c => .loop (undraw c)
  | c => c
def undrawF (f : PF) : PF := ⟨f.ntmps, f.results, undraw f.body⟩

section
variable {c : CallF} {b : Nat}

def Fp.none (a : Fp) : Prop := a.rd = [] ∧ a.lv = [] ∧ a.wr = [] ∧ a.fz = [] ∧ a.all = false
def Fp.calm (a : Fp) : Prop := a.wr = [] ∧ a.fz = [] ∧ a.all = false
def fpOk (k : Nat) (a : Fp) : Prop := (k = 0 → a.none) ∧ (k = 1 → a.calm)

theorem meets_nil_left (xs : List Nat) : meets [] xs = false := rfl
theorem meets_nil_right (xs : List Nat) : meets xs [] = false := by induction xs <;> simp_all [meets]
theorem clash_of {k m : Nat} {x y : Fp} (h : okPair k m = true) (hx : fpOk k x) (hy : fpOk m y) : clash x y = false := by
  simp only [okPair, Bool.or_eq_true, beq_iff_eq, Bool.and_eq_true] at h
  rcases h with (h | h) | ⟨h1, h2⟩
  · obtain ⟨a, b, c, d, e⟩ := hx.1 h
    simp [clash, Fp.idle, a, b, c, d, e, meets_nil_left, meets_nil_right]
  · obtain ⟨a, b, c, d, e⟩ := hy.1 h
    simp [clash, Fp.idle, a, b, c, d, e, meets_nil_left, meets_nil_right]
  · obtain ⟨a, b, c⟩ := hx.2 h1
    obtain ⟨a', b', c'⟩ := hy.2 h2
    simp [clash, a, b, c, a', b', c', meets_nil_left]

def idleE : Eff Out → Prop
  | .pure o => o.ws = [] ∧ o.fz = []
  | .fail => True
  | _ => False
def calmE : Eff Out → Prop
  | .pure o => o.ws = [] ∧ o.fz = []
  | .fail => True
  | .get _ k => ∀ sz es, calmE (k sz es)
  | _ => False
theorem idle_quiet (d : D) : idleE (quiet d) := ⟨rfl, rfl⟩
theorem idle_quietO (d : Option D) : idleE (quietO d) := by cases d <;> simp [quietO, idleE, quiet]
theorem calm_of_idle : ∀ {e : Eff Out}, idleE e → calmE e
  | .pure _, h => h
  | .fail, h => h
  | .get _ _, h => absurd h (by simp [idleE])
  | .live _ _, h => absurd h (by simp [idleE])
  | .new _ _, h => absurd h (by simp [idleE])
theorem idle_run {e : Eff Out} (h : idleE e) {H : Heap} {x : Out} (hr : e.run H = some x) : x.ws = [] ∧ x.fz = [] ∧ e.rd H = [] ∧ e.lv H = [] := by
  cases e with
  | pure o => simp only [Eff.run, Option.some.injEq] at hr; subst hr; exact ⟨h.1, h.2, rfl, rfl⟩
  | fail => simp [Eff.run] at hr
  | get _ _ => exact absurd h (by simp [idleE])
  | live _ _ => exact absurd h (by simp [idleE])
  | new _ _ => exact absurd h (by simp [idleE])
theorem calm_run : ∀ {e : Eff Out}, calmE e → ∀ {H : Heap} {x : Out}, e.run H = some x → x.ws = [] ∧ x.fz = []
  | .pure o, h, H, x, hr => by simp only [Eff.run, Option.some.injEq] at hr; subst hr; exact h
  | .fail, h, H, x, hr => by simp [Eff.run] at hr
  | .get _ k, h, H, x, hr => by
    simp only [Eff.run] at hr
    split at hr
    · exact calm_run (h _ _) hr
    · cases hr
  | .live _ _, h, _, _, _ => absurd h (by simp [calmE])
  | .new _ _, h, _, _, _ => absurd h (by simp [calmE])
theorem calm_quiet (d : D) : calmE (quiet d) := ⟨rfl, rfl⟩
theorem calm_quietO (d : Option D) : calmE (quietO d) := calm_of_idle (idle_quietO d)

theorem opE_idle {ρ : PX → D} {r : Nat} {op : POp} (hk : clsO op = 0) : idleE (opE c ρ r op) := by
  cases op <;> first | (simp [clsO] at hk; done) | skip
  all_goals simp only [opE]
  all_goals repeat' split
  all_goals first | exact idle_quiet _ | exact idle_quietO _ | exact trivial
theorem opE_calm {ρ : PX → D} {r : Nat} {op : POp} (hk : clsO op = 1) (hc : ∀ f a, op ≠ .call f a) : calmE (opE c ρ r op) := by
  cases op <;> first | (simp [clsO] at hk; done) | skip
  case call f a => exact absurd rfl (hc f a)
  all_goals simp only [opE]
  all_goals repeat' split
  all_goals first | exact calm_quiet _ | exact calm_quietO _ | exact trivial | (intro sz es; simp only []; repeat' split)
  all_goals first | exact calm_quiet _ | exact calm_quietO _ | exact trivial

theorem stepFp_ok {o : PO} {s s' : St} (h : stepO c b (quietO' o) s = some s') : stepO c b o s = some s' ∧ fpOk (clsO o.op) (stepFp c b o s) := by
  obtain ⟨dst, op, g, l, res⟩ := o
  unfold stepO at h
  have hg : (quietO' ⟨dst, op, g, l, res⟩).guard = g ∧ (quietO' ⟨dst, op, g, l, res⟩).dst = dst ∧ (quietO' ⟨dst, op, g, l, res⟩).res = res := by
    unfold quietO'; split <;> simp
  rw [hg.1, hg.2.1, hg.2.2] at h
  split at h
  · rename_i h1
    split at h
    · rename_i h2
      by_cases hcall : ∃ f a, op = .call f a
      · obtain ⟨f, a, rfl⟩ := hcall
        simp only [quietO', opE] at h
        obtain ⟨x, h3, h4⟩ := Option.map_eq_some_iff.1 h
        rw [run_bindE] at h3
        obtain ⟨y, h5, h6⟩ := Option.bind_eq_some_iff.1 h3
        split at h6
        · rename_i hq
          simp only [Eff.run, Option.some.injEq] at h6
          subst h6
          simp only [Bool.and_eq_true, List.isEmpty_iff] at hq
          refine ⟨by simp only [stepO, h1, h2, if_true, opE, h5]; exact congrArg some h4, fun h => absurd h (by simp [clsO]), fun _ => ?_⟩
          simp only [stepFp, h2, if_true, opE, h5, Fp.calm, hq.1, hq.2, List.map_nil, and_self]
        · simp [Eff.run] at h6
      · have hq : quietO' ⟨dst, op, g, l, res⟩ = ⟨dst, op, g, l, res⟩ := by
          unfold quietO'
          split
          · rename_i f a e; exact absurd ⟨f, a, e⟩ hcall
          · rfl
        rw [hq] at h
        refine ⟨by simp only [stepO, h1, h2, if_true]; exact h, ?_⟩
        cases op
        case callH f a => exact ⟨fun h => absurd h (by simp [clsO]), fun h => absurd h (by simp [clsO])⟩
        all_goals
          obtain ⟨x, h3, h4⟩ := Option.map_eq_some_iff.1 h
          refine ⟨fun hk => ?_, fun hk => ?_⟩
          · obtain ⟨a1, a2, a3, a4⟩ := idle_run (opE_idle (c := c) (ρ := PX.ev s.ts) (r := b + res) hk) h3
            simp only [stepFp, h2, if_true, h3, Fp.none, a1, a2, a3, a4, List.map_nil, and_self]
          · obtain ⟨a1, a2⟩ := calm_run (opE_calm (c := c) (ρ := PX.ev s.ts) (r := b + res) hk (fun f a e => hcall ⟨f, a, e⟩)) h3
            simp only [stepFp, h2, if_true, h3, Fp.calm, a1, a2, List.map_nil, and_self]
    · rename_i h2
      refine ⟨by simp only [stepO, h1, h2, if_true]; exact h, ?_⟩
      simp only [stepFp, h2]
      exact ⟨fun _ => ⟨rfl, rfl, rfl, rfl, rfl⟩, fun _ => ⟨rfl, rfl, rfl⟩⟩
  · cases h

/-- What was met stands for the operations ahead. -/
def SeenOk : List PO → List (Nat × Fp) → Prop
  | pre, seen => ∀ p ∈ seen, ∃ o, pre[p.1]? = some o ∧ fpOk (clsO o.op) p.2

theorem okPairs_at {q : PO} : ∀ {pre : List PO} {j : Nat}, okPairs q pre j = true → ∀ k o, pre[k]? = some o → q.after.contains (j + k) = true ∨ okPair (clsO o.op) (clsO q.op) = true
  | [], j, _, k, o, h => by simp at h
  | p :: ps, j, h, k, o, ho => by
    simp only [okPairs, Bool.and_eq_true, Bool.or_eq_true] at h
    cases k with
    | zero => simp at ho; subst ho; exact h.1
    | succ k =>
      have := okPairs_at h.2 k o (by simpa using ho)
      rwa [show j + (k + 1) = j + 1 + k by omega]

theorem seqD_of : ∀ {qs pre : List PO} {seen : List (Nat × Fp)} {s s' : St}, okRegion pre qs = true → SeenOk pre seen → seqR c b (qs.map quietO') s = some s' → seqD c b qs pre.length seen s = some s'
  | [], pre, seen, s, s', _, _, h => h
  | q :: qs, pre, seen, s, s', hok, hs, h => by
    simp only [okRegion, Bool.and_eq_true] at hok
    simp only [List.map_cons, seqR] at h
    obtain ⟨s1, h1, h2⟩ := Option.bind_eq_some_iff.1 h
    obtain ⟨k1, k2⟩ := stepFp_ok h1
    have hall : (seen.all fun p => q.after.contains p.1 || !clash p.2 (stepFp c b q s)) = true := by
      rw [List.all_eq_true]
      intro p hp
      obtain ⟨o, ho, hf⟩ := hs p hp
      rcases okPairs_at hok.1 p.1 o ho with h | h
      · rw [Nat.zero_add] at h; rw [h]; rfl
      · simp [clash_of h hf k2]
    simp only [seqD, hall, if_true, k1, Option.bind_some]
    have := seqD_of (pre := pre ++ [q]) (seen := (pre.length, stepFp c b q s) :: seen) hok.2 (fun p hp => by
      simp only [List.mem_cons] at hp
      rcases hp with rfl | hp
      · exact ⟨q, by simp, k2⟩
      · obtain ⟨o, ho, hf⟩ := hs p hp
        refine ⟨o, ?_, hf⟩
        rw [List.getElem?_append_left (List.getElem?_eq_some_iff.1 ho).1]
        exact ho) h2
    simpa using this

theorem code_undraw {n : Nat} : ∀ {p : PC} {s : St} {r : Ex × St}, code c n (undraw p) s = some r → code c n p s = some r := by
  intro p
  induction p with
  | skip => exact fun h => h
  | region draw k ops =>
    intro s r h
    cases draw with
    | false => exact h
    | true =>
      simp only [undraw] at h
      split at h
      · rename_i hok
        simp only [code, Bool.false_eq_true, if_false] at h
        obtain ⟨s1, h1, h2⟩ := Option.map_eq_some_iff.1 h
        simp only [code, if_true]
        have := seqD_of (pre := []) (seen := []) hok (fun p hp => by simp at hp) h1
        rw [show ([] : List PO).length = 0 from rfl] at this
        rw [this]
        exact congrArg some h2
      · exact h
  | seq a b iha ihb =>
    intro s r h
    simp only [undraw, code] at h ⊢
    cases ha : code c n (undraw a) s with
    | none => rw [ha] at h; cases h
    | some x =>
      rw [iha ha]
      rw [ha] at h
      obtain ⟨ex, s1⟩ := x
      cases ex with
      | normal => exact ihb h
      | exit i => exact h
      | ret => exact h
  | cond q x y ihx ihy =>
    intro s r h
    simp only [undraw, code] at h ⊢
    split at h
    · rename_i b hb
      split at h
      · rename_i e; simp only [e, if_true]; exact ihx h
      · rename_i e; simp only [e]; exact ihy h
    · cases h
  | block id q ih =>
    intro s r h
    simp only [undraw, code] at h ⊢
    cases ha : code c n (undraw q) s with
    | none => rw [ha] at h; cases h
    | some x =>
      rw [ih ha]
      rw [ha] at h
      exact h
  | loop q ih =>
    intro s r h
    exact loopN_mono (fun s r h => ih h) (Nat.le_refl _) h
  | exit id => exact fun h => h
  | ret => exact fun h => h
end

/-- The program, its regions undrawn, gives no other answers. -/
theorem runN_undraw {P P' : Prog} (hp : ∀ f pf', P' f = some pf' → ∃ pf, P f = some pf ∧ pf' = undrawF pf) : ∀ n, CallLe (runN P' n) (runN P n)
  | 0 => fun f a H x h => by simp [runN] at h
  | n + 1 => fun f a H x h => by
    simp only [runN] at h ⊢
    cases hf : P' f with
    | none => rw [hf] at h; cases h
    | some pf' =>
      obtain ⟨pf, h1, rfl⟩ := hp f pf' hf
      rw [hf] at h
      rw [h1]
      simp only [undrawF] at h ⊢
      cases hcode : code (runN P' n) n (undraw pf.body) ⟨a ++ List.replicate (pf.ntmps - a.length) .undef, H⟩ with
      | none => rw [hcode] at h; cases h
      | some r =>
        rw [code_mono (runN_undraw hp n) (Nat.le_refl n) (code_undraw hcode)]
        rw [hcode] at h
        exact h
end Go.Pi
