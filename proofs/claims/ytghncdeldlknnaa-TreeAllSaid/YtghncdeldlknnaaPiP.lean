import Derived.Test.YtghncdeldlknnaaPiO
/-
  A REGION WHOSE ORDER IS DRAWN: in whatever order the operations are carried out, what they come to is what they come to in the text's order, where none clashes with another that is not ordered with it.
-/
set_option linter.all false
namespace Go.Pi
set_option linter.unusedVariables false

/-- What an operation reads of the slots. -/
def POp.xs : POp → List PX
  | .mv x | .box _ x | .load _ _ x | .nilCheck x | .un _ x | .conv _ x | .fieldAddr _ _ x | .field _ _ _ x | .extract x _ | .len x | .lenS x | .eqNS _ x | .eqNP _ x | .mark x | .bits x | .ofBits x => [x]
  | .pick c a b => [c, a, b]
  | .alloc _ => []
  | .build _ ps => ps.map fun p => p.2.2
  | .buildSlice _ _ _ ps => ps.map fun p => p.2
  | .store _ a x | .bin _ a x | .eqB _ a x | .eqA _ _ a x | .makeSlice _ _ _ a x | .indexAddr _ a x | .indexAddrA _ _ a x | .index _ _ _ a x | .indexS a x | .append _ _ a x => [a, x]
  | .slice _ x lo hi | .sliceS x lo hi => x :: (lo.toList ++ hi.toList)
  | .minmax _ x ys => x :: ys
  | .call _ args => args.map fun p => p.2
  | .callH _ args => args
  | .callQ _ args => args.map fun p => p.2

def PO.uses (p : PO) : List Nat := (p.op.xs.filterMap fun | .t i => some i | _ => none) ++ (p.guard.map (·.1)).toList

section
variable {call : CallF} {base : Nat}

theorem opE_congr {ρ ρ' : PX → D} {r : Nat} {op : POp} (h : ∀ x ∈ op.xs, ρ x = ρ' x) : opE call ρ r op = opE call ρ' r op := by
  cases op <;> simp only [POp.xs, List.mem_cons, List.mem_nil_iff, or_false, forall_eq_or_imp, forall_eq, List.mem_append, List.mem_map, forall_exists_index, and_imp, forall_apply_eq_imp_iff₂] at h <;> simp only [opE]
  case build zs ps =>
    have e1 : (ps.map fun p => (p.1, p.2.1, ρ p.2.2)) = ps.map fun p => (p.1, p.2.1, ρ' p.2.2) := List.map_congr_left fun p hp => by rw [h p hp]
    have e2 : (ps.all fun p => (cellsOf (ρ p.2.2)).all one) = ps.all fun p => (cellsOf (ρ' p.2.2)).all one := by
      rw [Bool.eq_iff_iff, List.all_eq_true, List.all_eq_true]
      exact ⟨fun hh p hp => by rw [← h p hp]; exact hh p hp, fun hh p hp => by rw [h p hp]; exact hh p hp⟩
    rw [e1, e2]
  case buildSlice sz n zs ps =>
    have e1 : (ps.map fun p => (p.1, ρ p.2)) = ps.map fun p => (p.1, ρ' p.2) := List.map_congr_left fun p hp => by rw [h p hp]
    have e2 : (ps.all fun p => (cellsOf (ρ p.2)).all one) = ps.all fun p => (cellsOf (ρ' p.2)).all one := by
      rw [Bool.eq_iff_iff, List.all_eq_true, List.all_eq_true]
      exact ⟨fun hh p hp => by rw [← h p hp]; exact hh p hp, fun hh p hp => by rw [h p hp]; exact hh p hp⟩
    rw [e1, e2]
  case slice sz x lo hi =>
    have e1 : lo.map ρ = lo.map ρ' := by cases lo <;> simp; exact h.2 _ (.inl (by simp))
    have e2 : hi.map ρ = hi.map ρ' := by cases hi <;> simp; exact h.2 _ (.inr (by simp))
    rw [h.1, e1, e2]
  case sliceS x lo hi =>
    have e1 : lo.map ρ = lo.map ρ' := by cases lo <;> simp; exact h.2 _ (.inl (by simp))
    have e2 : hi.map ρ = hi.map ρ' := by cases hi <;> simp; exact h.2 _ (.inr (by simp))
    rw [h.1, e1, e2]
  case minmax mx x ys =>
    have e1 : ys.map ρ = ys.map ρ' := List.map_congr_left fun p hp => h.2 p hp
    rw [h.1, e1]
  case call f args =>
    have e1 : (args.map fun p => (p.1, ρ p.2)) = args.map fun p => (p.1, ρ' p.2) := List.map_congr_left fun p hp => by rw [h p hp]
    rw [e1]
  case callQ f args =>
    have e1 : (args.map fun p => (p.1, ρ p.2)) = args.map fun p => (p.1, ρ' p.2) := List.map_congr_left fun p hp => by rw [h p hp]
    rw [e1]
  all_goals first | rfl | (simp only [h])

theorem run_congr {α : Type} {e : Eff α} {x : α} {H1 H2 : Heap} (h : e.run H1 = some x) (hr : ∀ id ∈ e.rd H1, freeze (hat H1 id) = freeze (hat H2 id))
    (hl : ∀ id ∈ e.lv H1, hat H1 id = hat H2 id ∧ (id < H1.length ↔ id < H2.length)) : e.run H2 = some x := by
  induction e with
  | pure a => exact h
  | fail => simp [Eff.run] at h
  | get id k ih =>
    obtain ⟨sz, es, lv, h1, h2⟩ := run_get h
    have e1 : (Eff.get id k).rd H1 = id :: (k sz es).rd H1 := by simp [Eff.rd, h1]
    have e2 : (Eff.get id k).lv H1 = (k sz es).lv H1 := by simp [Eff.lv, h1]
    rw [e1] at hr; rw [e2] at hl
    have := hr id (by simp)
    rw [h1] at this
    cases hx : hat H2 id with
    | fresh => rw [hx] at this; cases this
    | dead => rw [hx] at this; cases this
    | row a b c =>
      rw [hx] at this
      simp only [freeze, Blk.row.injEq] at this
      obtain ⟨rfl, rfl, _⟩ := this
      simp only [Eff.run, hx]
      exact ih _ _ h2 (fun i hi => hr i (by simp [hi])) hl
  | live id k ih =>
    obtain ⟨⟨sz, es, h1⟩, h2⟩ := run_live h
    have := (hl id (by simp [Eff.lv])).1
    rw [h1] at this
    simp only [Eff.run, ← this]
    exact ih h2 hr (fun i hi => hl i (by simp [Eff.lv, hi]))
  | new id k ih =>
    obtain ⟨h0, h1, h2⟩ := run_new h
    have := hl id (by simp [Eff.lv])
    rw [h1] at this
    simp only [Eff.run, ← this.1, if_pos (this.2.1 h0)]
    exact ih h2 hr (fun i hi => hl i (by simp [Eff.lv, hi]))

/-- What an operation did at one state, done at another. -/
def eff (call : CallF) (base : Nat) (p : PO) (s : St) (t : St) : St :=
  if wantedP s.ts p.guard then
    match p.op with
    | .callH f args => match call f (args.map (PX.ev s.ts)) s.hp with
      | some x => ⟨putT t.ts p.dst x.1, x.2⟩
      | none => t
    | op => match (opE call (PX.ev s.ts) (base + p.res) op).run s.hp with
      | some x => ⟨putT t.ts p.dst x.d, x.on t.hp⟩
      | none => t
  else ⟨putT t.ts p.dst .skip, t.hp⟩

theorem on_length (x : Out) (H : Heap) : (x.on H).length = H.length := by
  unfold Out.on
  have : ∀ (is : List Nat) (H : Heap), (doFz H is).length = H.length := by
    intro is
    induction is with
    | nil => intro H; rfl
    | cons i is ih => intro H; simp [doFz, ih]
  rw [this, doWs_length]

theorem doWs_hat : ∀ (ws : List (Nat × Blk)) (H H' : Heap) (id : Nat), hat H id = hat H' id → (id < H.length ↔ id < H'.length) → hat (doWs H ws) id = hat (doWs H' ws) id
  | [], H, H', id, h, _ => h
  | (i, b) :: ws, H, H', id, h, hl => by
    rw [doWs, doWs]
    refine doWs_hat ws _ _ id ?_ (by simpa using hl)
    rw [hat_set, hat_set]
    by_cases e : i = id
    · subst e; simp only [true_and, hl, h]
    · simp [e, h]
theorem doWs_hatF : ∀ (ws : List (Nat × Blk)) (H H' : Heap) (id : Nat), freeze (hat H id) = freeze (hat H' id) → (id < H.length ↔ id < H'.length) → freeze (hat (doWs H ws) id) = freeze (hat (doWs H' ws) id)
  | [], H, H', id, h, _ => h
  | (i, b) :: ws, H, H', id, h, hl => by
    rw [doWs, doWs]
    refine doWs_hatF ws _ _ id ?_ (by simpa using hl)
    rw [hat_set, hat_set]
    by_cases e : i = id
    · subst e
      by_cases hh : i < H.length
      · simp [hh, hl.1 hh]
      · have : ¬ i < H'.length := fun h => hh (hl.2 h)
        simp [hh, this, h]
    · simp [e, h]

theorem putT_comm {ts : List D} {a b : Option Nat} {x y : D} (h : ∀ t, a = some t → b ≠ some t) : putT (putT ts a x) b y = putT (putT ts b y) a x := by
  cases a with
  | none => rfl
  | some i =>
    cases b with
    | none => rfl
    | some j =>
      have : i ≠ j := fun e => h i rfl (by rw [e])
      exact List.set_comm _ _ this

theorem hat_getElem {H : Heap} {i : Nat} (h : i < H.length) : H[i]? = some (hat H i) := by
  unfold hat
  rw [List.getD_eq_getElem?_getD, List.getElem?_eq_getElem h]
  rfl
theorem heap_ext {H H' : Heap} (hl : H.length = H'.length) (h : ∀ i, hat H i = hat H' i) : H = H' := by
  apply List.ext_getElem?
  intro i
  by_cases hi : i < H.length
  · rw [hat_getElem hi, hat_getElem (by omega), h]
  · rw [List.getElem?_eq_none (by omega), List.getElem?_eq_none (by omega)]


/-- What an effect is: a slot, and either rows that are written and closed, or a whole heap. -/
theorem eff_form {p : PO} {s s' : St} (h : stepO call base p s = some s') :
    ∃ d, (∀ t, (eff call base p s t).ts = putT t.ts p.dst d) ∧ eff call base p s s = s' ∧
      (((stepFp call base p s).all = false ∧ ∃ x : Out, x.ws.map (·.1) = (stepFp call base p s).wr ∧ x.fz = (stepFp call base p s).fz ∧ ∀ t, (eff call base p s t).hp = x.on t.hp) ∨
       ((stepFp call base p s).all = true ∧ ∀ t, (eff call base p s t).hp = s'.hp)) := by
  unfold stepO at h
  split at h
  · split at h
    · rename_i hg hw
      by_cases hc : ∃ f args, p.op = .callH f args
      · obtain ⟨f, args, hop⟩ := hc
        rw [hop] at h
        simp only [Option.map_eq_some_iff] at h
        obtain ⟨x, h1, rfl⟩ := h
        refine ⟨x.1, fun t => ?_, ?_, .inr ⟨?_, fun t => ?_⟩⟩ <;> simp [eff, stepFp, hw, hop, h1]
      · have h' : ((opE call (PX.ev s.ts) (base + p.res) p.op).run s.hp).map (fun x => (⟨putT s.ts p.dst x.d, x.on s.hp⟩ : St)) = some s' := by
          split at h
          · exact absurd ⟨_, _, by assumption⟩ hc
          · exact h
        simp only [Option.map_eq_some_iff] at h'
        obtain ⟨x, h1, rfl⟩ := h'
        have e1 : ∀ t, eff call base p s t = ⟨putT t.ts p.dst x.d, x.on t.hp⟩ := by
          intro t
          unfold eff
          rw [if_pos hw]
          split
          · exact absurd ⟨_, _, by assumption⟩ hc
          · simp only [h1]
        have e2 : stepFp call base p s = ⟨(opE call (PX.ev s.ts) (base + p.res) p.op).rd s.hp, (opE call (PX.ev s.ts) (base + p.res) p.op).lv s.hp, x.ws.map (·.1), x.fz, false⟩ := by
          unfold stepFp
          rw [if_pos hw]
          split
          · exact absurd ⟨_, _, by assumption⟩ hc
          · simp only [h1]
        exact ⟨x.d, fun t => by rw [e1], e1 s, .inl ⟨by rw [e2], x, by rw [e2], by rw [e2], fun t => by rw [e1]⟩⟩
    · rename_i hg hw
      simp only [Option.some.injEq] at h
      subst h
      refine ⟨.skip, fun t => by simp [eff, hw], by simp [eff, hw], .inl ⟨by simp [stepFp, hw], ⟨.skip, [], []⟩, by simp [stepFp, hw], by simp [stepFp, hw], fun t => by simp [eff, hw, Out.on, doWs, doFz]⟩⟩
  · cases h

/-- The run in the text's order, with what was met. -/
theorem seqD_run : ∀ {ps : List PO} {i : Nat} {seen : List (Nat × Fp)} {s s' : St}, seqD call base ps i seen s = some s' →
    ∃ st : Nat → St, st 0 = s ∧ st ps.length = s' ∧ (∀ (k : Nat) (p : PO), ps[k]? = some p → stepO call base p (st k) = some (st (k + 1))) ∧
      ∀ (k : Nat) (p : PO), ps[k]? = some p → (∀ q ∈ seen, q.1 ∈ p.after ∨ clash q.2 (stepFp call base p (st k)) = false) ∧
        ∀ (j : Nat) (q : PO), j < k → ps[j]? = some q → i + j ∈ p.after ∨ clash (stepFp call base q (st j)) (stepFp call base p (st k)) = false
  | [], i, seen, s, s', h => by
    simp only [seqD, Option.some.injEq] at h
    subst h
    exact ⟨fun _ => s, rfl, rfl, by simp, by simp⟩
  | p :: ps, i, seen, s, s', h => by
    simp only [seqD] at h
    split at h
    · rename_i hc
      simp only [Option.bind_eq_some_iff] at h
      obtain ⟨s1, h1, h2⟩ := h
      obtain ⟨st, g1, g2, g3, g4⟩ := seqD_run h2
      have hc' : ∀ q ∈ seen, q.1 ∈ p.after ∨ clash q.2 (stepFp call base p s) = false := by
        intro q hq
        have := List.all_eq_true.1 hc q hq
        simpa [List.contains_eq_mem] using this
      refine ⟨fun k => match k with | 0 => s | k + 1 => st k, rfl, by simpa using g2, fun k q hk => ?_, fun k q hk => ?_⟩
      · cases k with
        | zero => simp at hk; subst hk; show stepO call base p s = some (st 0); rw [g1]; exact h1
        | succ k => exact g3 k q (by simpa using hk)
      · cases k with
        | zero => simp at hk; subst hk; exact ⟨hc', fun j q hj => by omega⟩
        | succ k =>
          obtain ⟨k1, k2⟩ := g4 k q (by simpa using hk)
          refine ⟨fun x hx => k1 x (by simp [hx]), fun j r hj hr => ?_⟩
          cases j with
          | zero =>
            simp at hr
            subst hr
            exact k1 (i, stepFp call base p s) (by simp)
          | succ j =>
            rcases k2 j r (by omega) (by simpa using hr) with h | h
            · left; rw [show i + (j + 1) = i + 1 + j by omega]; exact h
            · exact .inr h
    · cases h

theorem clash_split {f g : Fp} (h : clash f g = false) :
    (f.all = true → g.idle = true) ∧ (g.all = true → f.idle = true) ∧ (∀ x ∈ f.wr, x ∉ g.rd ∧ x ∉ g.lv ∧ x ∉ g.wr ∧ x ∉ g.fz) ∧ (∀ x ∈ g.wr, x ∉ f.rd ∧ x ∉ f.lv ∧ x ∉ f.fz) ∧ (∀ x ∈ f.fz, x ∉ g.lv) ∧ (∀ x ∈ g.fz, x ∉ f.lv) := by
  have hm : ∀ {xs ys : List Nat}, meets xs ys = false → ∀ x ∈ xs, x ∉ ys := by
    intro xs ys h x hx hy
    simp only [meets, List.any_eq_false] at h
    have := h x hx
    simp [List.contains_eq_mem, hy] at this
  simp only [clash, Bool.or_eq_false_iff, Bool.and_eq_false_iff, Bool.not_eq_false'] at h
  obtain ⟨⟨⟨⟨⟨⟨⟨⟨⟨⟨h1, h2⟩, h3⟩, h4⟩, h5⟩, h6⟩, h7⟩, h8⟩, h9⟩, h10⟩, h11⟩ := h
  refine ⟨fun e => ?_, fun e => ?_, fun x hx => ⟨hm h3 x hx, hm h4 x hx, hm h5 x hx, hm h6 x hx⟩, fun x hx => ⟨hm h7 x hx, hm h8 x hx, hm h9 x hx⟩, hm h10, hm h11⟩
  · rcases h1 with h | h
    · rw [e] at h; cases h
    · exact h
  · rcases h2 with h | h
    · rw [e] at h; cases h
    · exact h
theorem idle_split {f : Fp} (h : f.idle = true) : f.all = false ∧ f.rd = [] ∧ f.lv = [] ∧ f.wr = [] ∧ f.fz = [] := by
  simp only [Fp.idle, Bool.and_eq_true, Bool.not_eq_true', List.isEmpty_iff] at h
  exact ⟨h.1.1.1.1, h.1.1.1.2, h.1.1.2, h.1.2, h.2⟩

/-! ### some of the operations done -/
variable {ps : List PO} {st : Nat → St}

def pAt (ps : List PO) (k : Nat) : PO := ps.getD k default
def E (call : CallF) (base : Nat) (ps : List PO) (st : Nat → St) (k : Nat) : St → St := eff call base (pAt ps k) (st k)
def fpAt (call : CallF) (base : Nat) (ps : List PO) (st : Nat → St) (k : Nat) : Fp := stepFp call base (pAt ps k) (st k)
def sig (call : CallF) (base : Nat) (ps : List PO) (st : Nat → St) (S : Nat → Bool) : Nat → St
  | 0 => st 0
  | k + 1 => if S k then E call base ps st k (sig call base ps st S k) else sig call base ps st S k

structure Run (call : CallF) (base : Nat) (ps : List PO) (st : Nat → St) : Prop where
  step : ∀ k, k < ps.length → stepO call base (pAt ps k) (st k) = some (st (k + 1))
  clash : ∀ j k, j < k → k < ps.length → j ∈ (pAt ps k).after ∨ clash (fpAt call base ps st j) (fpAt call base ps st k) = false
  tmps : ∀ j k, j < k → k < ps.length → ((∃ t, (pAt ps j).dst = some t ∧ (t ∈ (pAt ps k).uses ∨ (pAt ps k).dst = some t)) ∨ (∃ t, (pAt ps k).dst = some t ∧ t ∈ (pAt ps j).uses)) → j ∈ (pAt ps k).after

section
variable (hR : Run call base ps st)
include hR

theorem E_form {k : Nat} (hk : k < ps.length) : ∃ d, (∀ t, (E call base ps st k t).ts = putT t.ts (pAt ps k).dst d) ∧ E call base ps st k (st k) = st (k + 1) ∧
      (((fpAt call base ps st k).all = false ∧ ∃ x : Out, x.ws.map (·.1) = (fpAt call base ps st k).wr ∧ x.fz = (fpAt call base ps st k).fz ∧ ∀ t, (E call base ps st k t).hp = x.on t.hp) ∨
       ((fpAt call base ps st k).all = true ∧ ∀ t, (E call base ps st k t).hp = (st (k + 1)).hp)) := eff_form (hR.step k hk)

theorem sig_all : ∀ k, k ≤ ps.length → sig call base ps st (fun _ => true) k = st k
  | 0, _ => rfl
  | k + 1, h => by
    simp only [sig, if_true]
    rw [sig_all k (by omega)]
    exact (E_form hR (by omega)).choose_spec.2.1

theorem E_idle {k : Nat} (hk : k < ps.length) (h : (fpAt call base ps st k).idle = true) (t : St) : (E call base ps st k t).hp = t.hp := by
  obtain ⟨i1, _, _, i4, i5⟩ := idle_split h
  obtain ⟨d, _, _, h3⟩ := E_form hR hk
  rcases h3 with ⟨_, x, x1, x2, x3⟩ | ⟨h, _⟩
  · rw [x3]
    rw [i4] at x1; rw [i5] at x2
    have : x.ws = [] := by simpa using x1
    simp [Out.on, this, x2, doWs, doFz]
  · rw [i1] at h; cases h

theorem ts_len (S : Nat → Bool) : ∀ k, k ≤ ps.length → (sig call base ps st S k).ts.length = (st 0).ts.length
  | 0, _ => rfl
  | k + 1, h => by
    simp only [sig]
    split
    · obtain ⟨d, h1, _⟩ := E_form hR (show k < ps.length by omega)
      rw [h1]
      unfold putT
      split <;> simp [ts_len S k (by omega)]
    · exact ts_len S k (by omega)

theorem ts_agree {S : Nat → Bool} {i t : Nat} (hi : i ≤ ps.length) (h : ∀ j, j < ps.length → (pAt ps j).dst = some t → (S j = true ↔ j < i)) :
    ∀ k, k ≤ ps.length → (sig call base ps st S k).ts[t]? = (sig call base ps st (fun _ => true) (min k i)).ts[t]?
  | 0, _ => by simp [sig]
  | k + 1, hk => by
    have ih := ts_agree hi h k (by omega)
    obtain ⟨d, h1, _⟩ := E_form hR (show k < ps.length by omega)
    have put_ne : ∀ (ts : List D), (pAt ps k).dst ≠ some t → (putT ts (pAt ps k).dst d)[t]? = ts[t]? := by
      intro ts hne
      unfold putT
      split
      · rename_i q e
        rw [List.getElem?_set_ne]
        intro hh; subst hh; exact hne e
      · rfl
    have put_eq : ∀ (ts ts' : List D), ts.length = ts'.length → ts[t]? = ts'[t]? → (putT ts (pAt ps k).dst d)[t]? = (putT ts' (pAt ps k).dst d)[t]? := by
      intro ts ts' hl he
      unfold putT
      split
      · rw [List.getElem?_set, List.getElem?_set, hl, he]
      · exact he
    by_cases hki : k < i
    · rw [show min (k + 1) i = k + 1 by omega]
      rw [show min k i = k by omega] at ih
      simp only [sig, if_true]
      split
      · rw [h1, h1]
        exact put_eq _ _ (by rw [ts_len hR _ k (by omega), ts_len hR _ k (by omega)]) ih
      · rename_i hs
        rw [h1, put_ne _ (fun e => hs ((h k (by omega) e).2 hki))]
        exact ih
    · rw [show min (k + 1) i = i by omega]
      rw [show min k i = i by omega] at ih
      simp only [sig]
      split
      · rename_i hs
        rw [h1, put_ne _ (fun e => hki ((h k (by omega) e).1 hs))]
        exact ih
      · exact ih


/-- Rows that nothing but what is ordered with i touches read as they do in the text's order. -/
theorem hp_agree {S : Nat → Bool} {i id : Nat} (hi : i < ps.length) (hS : S i = false)
    (h : ∀ j, j < ps.length → j ≠ i → ((fpAt call base ps st j).all = true ∨ id ∈ (fpAt call base ps st j).wr ∨ id ∈ (fpAt call base ps st j).fz) → (S j = true ↔ j < i)) :
    ∀ k, k ≤ ps.length → hat (sig call base ps st S k).hp id = hat (sig call base ps st (fun _ => true) (min k i)).hp id ∧
      (sig call base ps st S k).hp.length = (sig call base ps st (fun _ => true) (min k i)).hp.length
  | 0, _ => by simp [sig]
  | k + 1, hk => by
    obtain ⟨ih1, ih2⟩ := hp_agree hi hS h k (by omega)
    obtain ⟨d, _, _, h3⟩ := E_form hR (show k < ps.length by omega)
    have still : ¬ ((fpAt call base ps st k).all = true ∨ id ∈ (fpAt call base ps st k).wr ∨ id ∈ (fpAt call base ps st k).fz) → ∀ t, hat (E call base ps st k t).hp id = hat t.hp id ∧ (E call base ps st k t).hp.length = t.hp.length := by
      intro hn t
      rcases h3 with ⟨_, x, x1, x2, x3⟩ | ⟨ha, _⟩
      · rw [x3]
        refine ⟨?_, on_length _ _⟩
        unfold Out.on
        rw [doFz_at, if_neg (fun hh => hn (.inr (.inr (by rw [← x2]; exact hh)))), doWs_other]
        intro y hy e
        exact hn (.inr (.inl (by rw [← x1, ← e]; exact List.mem_map_of_mem hy)))
      · exact absurd (.inl ha) hn
    by_cases hki : k < i
    · rw [show min (k + 1) i = k + 1 by omega]
      rw [show min k i = k by omega] at ih1 ih2
      simp only [sig, if_true]
      split
      · rcases h3 with ⟨_, x, x1, x2, x3⟩ | ⟨ha, hc⟩
        · rw [x3, x3]
          refine ⟨?_, by rw [on_length, on_length]; exact ih2⟩
          unfold Out.on
          rw [doFz_at, doFz_at, doWs_hat x.ws _ _ id ih1 (by rw [ih2])]
        · rw [hc, hc]; exact ⟨rfl, rfl⟩
      · rename_i hs
        have := still (fun hh => hs ((h k (by omega) (by omega) hh).2 hki)) (sig call base ps st (fun _ => true) k)
        rw [this.1, this.2]
        exact ⟨ih1, ih2⟩
    · rw [show min (k + 1) i = i by omega]
      rw [show min k i = i by omega] at ih1 ih2
      simp only [sig]
      split
      · rename_i hs
        have hne : k ≠ i := by rintro rfl; rw [hS] at hs; cases hs
        have := still (fun hh => hki ((h k (by omega) hne hh).1 hs)) (sig call base ps st S k)
        rw [this.1, this.2]
        exact ⟨ih1, ih2⟩
      · exact ⟨ih1, ih2⟩

theorem hp_agreeF {S : Nat → Bool} {i id : Nat} (hi : i < ps.length) (hS : S i = false)
    (h : ∀ j, j < ps.length → j ≠ i → ((fpAt call base ps st j).all = true ∨ id ∈ (fpAt call base ps st j).wr) → (S j = true ↔ j < i)) :
    ∀ k, k ≤ ps.length → freeze (hat (sig call base ps st S k).hp id) = freeze (hat (sig call base ps st (fun _ => true) (min k i)).hp id) ∧
      (sig call base ps st S k).hp.length = (sig call base ps st (fun _ => true) (min k i)).hp.length
  | 0, _ => by simp [sig]
  | k + 1, hk => by
    obtain ⟨ih1, ih2⟩ := hp_agreeF hi hS h k (by omega)
    obtain ⟨d, _, _, h3⟩ := E_form hR (show k < ps.length by omega)
    have fzF : ∀ (is : List Nat) (H : Heap), freeze (hat (doFz H is) id) = freeze (hat H id) := by
      intro is H
      rw [doFz_at]
      split
      · rw [freeze_freeze]
      · rfl
    have still : ¬ ((fpAt call base ps st k).all = true ∨ id ∈ (fpAt call base ps st k).wr) → ∀ t, freeze (hat (E call base ps st k t).hp id) = freeze (hat t.hp id) ∧ (E call base ps st k t).hp.length = t.hp.length := by
      intro hn t
      rcases h3 with ⟨_, x, x1, x2, x3⟩ | ⟨ha, _⟩
      · rw [x3]
        refine ⟨?_, on_length _ _⟩
        unfold Out.on
        rw [fzF, doWs_other]
        intro y hy e
        exact hn (.inr (by rw [← x1, ← e]; exact List.mem_map_of_mem hy))
      · exact absurd (.inl ha) hn
    by_cases hki : k < i
    · rw [show min (k + 1) i = k + 1 by omega]
      rw [show min k i = k by omega] at ih1 ih2
      simp only [sig, if_true]
      split
      · rcases h3 with ⟨_, x, x1, x2, x3⟩ | ⟨ha, hc⟩
        · rw [x3, x3]
          refine ⟨?_, by rw [on_length, on_length]; exact ih2⟩
          unfold Out.on
          rw [fzF, fzF, doWs_hatF x.ws _ _ id ih1 (by rw [ih2])]
        · rw [hc, hc]; exact ⟨rfl, rfl⟩
      · rename_i hs
        have := still (fun hh => hs ((h k (by omega) (by omega) hh).2 hki)) (sig call base ps st (fun _ => true) k)
        rw [this.1, this.2]
        exact ⟨ih1, ih2⟩
    · rw [show min (k + 1) i = i by omega]
      rw [show min k i = i by omega] at ih1 ih2
      simp only [sig]
      split
      · rename_i hs
        have hne : k ≠ i := by rintro rfl; rw [hS] at hs; cases hs
        have := still (fun hh => hki ((h k (by omega) hne hh).1 hs)) (sig call base ps st S k)
        rw [this.1, this.2]
        exact ⟨ih1, ih2⟩
      · exact ⟨ih1, ih2⟩

theorem hp_agreeA {S : Nat → Bool} {i : Nat} (hi : i < ps.length) (hS : S i = false)
    (h : ∀ j, j < ps.length → j ≠ i → (fpAt call base ps st j).idle = false → (S j = true ↔ j < i)) :
    ∀ k, k ≤ ps.length → (sig call base ps st S k).hp = (sig call base ps st (fun _ => true) (min k i)).hp
  | 0, _ => by simp [sig]
  | k + 1, hk => by
    have ih := hp_agreeA hi hS h k (by omega)
    obtain ⟨d, _, _, h3⟩ := E_form hR (show k < ps.length by omega)
    by_cases hki : k < i
    · rw [show min (k + 1) i = k + 1 by omega]
      rw [show min k i = k by omega] at ih
      simp only [sig, if_true]
      split
      · rcases h3 with ⟨_, x, x1, x2, x3⟩ | ⟨ha, hc⟩
        · rw [x3, x3, ih]
        · rw [hc, hc]
      · rename_i hs
        cases hid : (fpAt call base ps st k).idle with
        | true => rw [E_idle hR (by omega) hid]; exact ih
        | false => exact absurd ((h k (by omega) (by omega) hid).2 hki) hs
    · rw [show min (k + 1) i = i by omega]
      rw [show min k i = i by omega] at ih
      simp only [sig]
      split
      · rename_i hs
        have hne : k ≠ i := by rintro rfl; rw [hS] at hs; cases hs
        cases hid : (fpAt call base ps st k).idle with
        | true => rw [E_idle hR (by omega) hid]; exact ih
        | false => exact absurd ((h k (by omega) hne hid).1 hs) hki
      · exact ih

/-- What is done is closed under what must be done ahead of it. -/
def Down (ps : List PO) (S : Nat → Bool) : Prop := ∀ j, j < ps.length → S j = true → ∀ k ∈ (pAt ps j).after, S k = true

/-- An operation that may be next does what it does in the text's order. -/
theorem step_any {S : Nat → Bool} {i : Nat} (hi : i < ps.length) (hS : S i = false) (hd : Down ps S) (hr : ∀ k ∈ (pAt ps i).after, S k = true) :
    stepO call base (pAt ps i) (sig call base ps st S ps.length) = some (E call base ps st i (sig call base ps st S ps.length)) := by
  have hmin : min ps.length i = i := by omega
  have order : ∀ j, j < ps.length → j ≠ i → ((j < i → j ∈ (pAt ps i).after) ∧ (i < j → i ∈ (pAt ps j).after)) → (S j = true ↔ j < i) := by
    intro j hj hne ⟨h1, h2⟩
    constructor
    · intro hs
      by_cases hlt : j < i
      · exact hlt
      · have := hd j hj hs i (h2 (by omega))
        rw [hS] at this; cases this
    · intro hlt
      exact hr j (h1 hlt)
  -- the slots
  have hts : ∀ t ∈ (pAt ps i).uses, (sig call base ps st S ps.length).ts.getD t .undef = (st i).ts.getD t .undef := by
    intro t ht
    have := ts_agree hR (S := S) (i := i) (t := t) (by omega) (fun j hj hdst => by
      by_cases hne : j = i
      · subst hne; rw [hS]; simp
      · refine order j hj hne ⟨fun hlt => hR.tmps j i hlt hi (.inl ⟨t, hdst, .inl ht⟩), fun hlt => hR.tmps i j hlt hj (.inr ⟨t, hdst, ht⟩)⟩) ps.length (Nat.le_refl _)
    rw [hmin, sig_all hR i (by omega)] at this
    rw [List.getD_eq_getElem?_getD, List.getD_eq_getElem?_getD, this]
  have hev : ∀ x ∈ (pAt ps i).op.xs, PX.ev (sig call base ps st S ps.length).ts x = PX.ev (st i).ts x := by
    intro x hx
    cases x with
    | t j => exact hts j (by unfold PO.uses; exact List.mem_append.2 (.inl (List.mem_filterMap.2 ⟨.t j, hx, rfl⟩)))
    | c d => rfl
  have hgd : guardOk (sig call base ps st S ps.length).ts (pAt ps i).guard = guardOk (st i).ts (pAt ps i).guard ∧ wantedP (sig call base ps st S ps.length).ts (pAt ps i).guard = wantedP (st i).ts (pAt ps i).guard := by
    cases hg : (pAt ps i).guard with
    | none => exact ⟨rfl, rfl⟩
    | some q =>
      have := hts q.1 (by unfold PO.uses; rw [hg]; simp)
      constructor <;> simp only [guardOk, wantedP, this]
  have hclash : ∀ j, j < ps.length → j ≠ i → clash (fpAt call base ps st j) (fpAt call base ps st i) = false ∨ clash (fpAt call base ps st i) (fpAt call base ps st j) = false ∨ (S j = true ↔ j < i) := by
    intro j hj hne
    rcases Nat.lt_or_gt_of_ne hne with hlt | hgt
    · rcases hR.clash j i hlt hi with h | h
      · exact .inr (.inr (order j hj hne ⟨fun _ => h, fun hh => by omega⟩))
      · exact .inl h
    · rcases hR.clash i j hgt hj with h | h
      · exact .inr (.inr (order j hj hne ⟨fun hh => by omega, fun _ => h⟩))
      · exact .inr (.inl h)
  have hstep := hR.step i hi
  have hfp : fpAt call base ps st i = stepFp call base (pAt ps i) (st i) := rfl
  have hE : ∀ t, E call base ps st i t = eff call base (pAt ps i) (st i) t := fun t => rfl
  rw [hE]
  generalize hp : pAt ps i = p at hstep hev hgd hfp
  unfold stepO at hstep ⊢
  rw [hgd.1, hgd.2]
  split at hstep
  · rename_i hg
    rw [if_pos hg]
    split at hstep
    · rename_i hw
      rw [if_pos hw]
      by_cases hc : ∃ f args, p.op = .callH f args
      · obtain ⟨f, args, hop⟩ := hc
        rw [hop] at hstep hev ⊢
        simp only [Option.map_eq_some_iff] at hstep
        obtain ⟨x, h1, h2⟩ := hstep
        have hall : (fpAt call base ps st i).all = true := by rw [hfp]; simp [stepFp, hw, hop]
        have hheap := hp_agreeA hR (S := S) hi hS (fun j hj hne hid => by
          rcases hclash j hj hne with h | h | h
          · have := (clash_split h).2.1 hall; rw [hid] at this; cases this
          · have := (clash_split h).1 hall; rw [hid] at this; cases this
          · exact h) ps.length (Nat.le_refl _)
        rw [hmin, sig_all hR i (by omega)] at hheap
        have hargs : args.map (PX.ev (sig call base ps st S ps.length).ts) = args.map (PX.ev (st i).ts) := List.map_congr_left fun y hy => hev y hy
        dsimp only
        rw [hargs, hheap, h1]
        simp [eff, hw, hop, h1]
      · have hop' : ((opE call (PX.ev (st i).ts) (base + p.res) p.op).run (st i).hp).map (fun x => (⟨putT (st i).ts p.dst x.d, x.on (st i).hp⟩ : St)) = some (st (i + 1)) := by
          split at hstep
          · exact absurd ⟨_, _, by assumption⟩ hc
          · exact hstep
        simp only [Option.map_eq_some_iff] at hop'
        obtain ⟨x, h1, h2⟩ := hop'
        have hfp2 : fpAt call base ps st i = ⟨(opE call (PX.ev (st i).ts) (base + p.res) p.op).rd (st i).hp, (opE call (PX.ev (st i).ts) (base + p.res) p.op).lv (st i).hp, x.ws.map (·.1), x.fz, false⟩ := by
          rw [hfp]
          unfold stepFp
          rw [if_pos hw]
          split
          · exact absurd ⟨_, _, by assumption⟩ hc
          · simp only [h1]
        have hcong := opE_congr (call := call) (r := base + p.res) hev
        have hrun : (opE call (PX.ev (st i).ts) (base + p.res) p.op).run (sig call base ps st S ps.length).hp = some x := by
          refine run_congr h1 (fun id hid => ?_) (fun id hid => ?_)
          · have hid' : id ∈ (fpAt call base ps st i).rd := by rw [hfp2]; exact hid
            have := hp_agreeF hR (S := S) (id := id) hi hS (fun j hj hne ht => by
              rcases hclash j hj hne with h | h | h
              · have hs := clash_split h
                rcases ht with ht | ht
                · have := idle_split (hs.1 ht); rw [this.2.1] at hid'; cases hid'
                · exact absurd hid' (hs.2.2.1 id ht).1
              · have hs := clash_split h
                rcases ht with ht | ht
                · have := idle_split (hs.2.1 ht); rw [this.2.1] at hid'; cases hid'
                · exact absurd hid' (hs.2.2.2.1 id ht).1
              · exact h) ps.length (Nat.le_refl _)
            rw [hmin, sig_all hR i (by omega)] at this
            exact this.1.symm
          · have hid' : id ∈ (fpAt call base ps st i).lv := by rw [hfp2]; exact hid
            have := hp_agree hR (S := S) (id := id) hi hS (fun j hj hne ht => by
              rcases hclash j hj hne with h | h | h
              · have hs := clash_split h
                rcases ht with ht | ht | ht
                · have := idle_split (hs.1 ht); rw [this.2.2.1] at hid'; cases hid'
                · exact absurd hid' (hs.2.2.1 id ht).2.1
                · exact absurd hid' (hs.2.2.2.2.1 id ht)
              · have hs := clash_split h
                rcases ht with ht | ht | ht
                · have := idle_split (hs.2.1 ht); rw [this.2.2.1] at hid'; cases hid'
                · exact absurd hid' (hs.2.2.2.1 id ht).2.1
                · exact absurd hid' (hs.2.2.2.2.2 id ht)
              · exact h) ps.length (Nat.le_refl _)
            rw [hmin, sig_all hR i (by omega)] at this
            exact ⟨this.1.symm, by rw [this.2]⟩
        have e1 : eff call base p (st i) (sig call base ps st S ps.length) = ⟨putT (sig call base ps st S ps.length).ts p.dst x.d, x.on (sig call base ps st S ps.length).hp⟩ := by
          unfold eff
          rw [if_pos hw]
          split
          · exact absurd ⟨_, _, by assumption⟩ hc
          · simp only [h1]
        rw [e1]
        split
        · exact absurd ⟨_, _, by assumption⟩ hc
        · rw [hcong, hrun]; rfl
    · rename_i hw
      rw [if_neg hw]
      simp [eff, hw]
  · cases hstep

/-- Two effects that do not clash, either way round. -/
theorem E_comm {i k : Nat} (hik : i < k) (hk : k < ps.length) (hn : i ∉ (pAt ps k).after) (t : St) : E call base ps st k (E call base ps st i t) = E call base ps st i (E call base ps st k t) := by
  have hcl : clash (fpAt call base ps st i) (fpAt call base ps st k) = false := (hR.clash i k hik hk).resolve_left hn
  have hdst : ∀ t, (pAt ps i).dst = some t → (pAt ps k).dst ≠ some t := fun t h1 h2 => hn (hR.tmps i k hik hk (.inl ⟨t, h1, .inr h2⟩))
  obtain ⟨s1, s2, s3, s4, s5, s6⟩ := clash_split hcl
  obtain ⟨d, a1, _, a3⟩ := E_form hR (show i < ps.length by omega)
  obtain ⟨d', b1, _, b3⟩ := E_form hR hk
  have hts : (E call base ps st k (E call base ps st i t)).ts = (E call base ps st i (E call base ps st k t)).ts := by
    rw [b1, a1, a1, b1]
    exact putT_comm hdst
  have hhp : (E call base ps st k (E call base ps st i t)).hp = (E call base ps st i (E call base ps st k t)).hp := by
    rcases a3 with ⟨_, x, x1, x2, x3⟩ | ⟨ha, hca⟩
    · rcases b3 with ⟨_, y, y1, y2, y3⟩ | ⟨hb, hcb⟩
      · rw [y3, x3, x3, y3]
        refine heap_ext (by rw [on_length, on_length, on_length, on_length]) (fun id => ?_)
        unfold Out.on
        have inx : ∀ {id : Nat}, (∀ z ∈ x.ws, z.1 ≠ id) ∨ id ∈ (fpAt call base ps st i).wr := by
          intro id
          by_cases h : ∃ z ∈ x.ws, z.1 = id
          · obtain ⟨z, hz, e⟩ := h
            right; rw [← x1, ← e]; exact List.mem_map_of_mem hz
          · left; exact fun z hz e => h ⟨z, hz, e⟩
        have iny : ∀ {id : Nat}, (∀ z ∈ y.ws, z.1 ≠ id) ∨ id ∈ (fpAt call base ps st k).wr := by
          intro id
          by_cases h : ∃ z ∈ y.ws, z.1 = id
          · obtain ⟨z, hz, e⟩ := h
            right; rw [← y1, ← e]; exact List.mem_map_of_mem hz
          · left; exact fun z hz e => h ⟨z, hz, e⟩
        rcases inx (id := id) with hx | hx
        · rcases iny (id := id) with hy | hy
          · simp only [doFz_at, doWs_other _ _ _ hx, doWs_other _ _ _ hy]
            by_cases f1 : id ∈ x.fz <;> by_cases f2 : id ∈ y.fz <;> simp [f1, f2]
          · have hnf : id ∉ x.fz := fun h => (s4 id hy).2.2 (by rw [← x2]; exact h)
            rw [doFz_at, doFz_at, if_neg hnf]
            have e1 : hat (doWs (doFz (doWs t.hp x.ws) x.fz) y.ws) id = hat (doWs t.hp y.ws) id := by
              refine doWs_hat y.ws _ _ id ?_ ?_
              · rw [doFz_at, if_neg hnf, doWs_other _ _ _ hx]
              · have : (doFz (doWs t.hp x.ws) x.fz).length = t.hp.length := on_length x t.hp
                rw [this]
            have e2 : hat (doWs (doFz (doWs t.hp y.ws) y.fz) x.ws) id = hat (doFz (doWs t.hp y.ws) y.fz) id := doWs_other _ _ _ hx
            rw [e1, e2, doFz_at]
        · have hy : ∀ z ∈ y.ws, z.1 ≠ id := by
            rcases iny (id := id) with h | h
            · exact h
            · exact absurd h (s3 id hx).2.2.1
          have hnf : id ∉ y.fz := fun h => (s3 id hx).2.2.2 (by rw [← y2]; exact h)
          rw [doFz_at, doFz_at, if_neg hnf]
          have e1 : hat (doWs (doFz (doWs t.hp y.ws) y.fz) x.ws) id = hat (doWs t.hp x.ws) id := by
            refine doWs_hat x.ws _ _ id ?_ ?_
            · rw [doFz_at, if_neg hnf, doWs_other _ _ _ hy]
            · have : (doFz (doWs t.hp y.ws) y.fz).length = t.hp.length := on_length y t.hp
              rw [this]
          have e2 : hat (doWs (doFz (doWs t.hp x.ws) x.fz) y.ws) id = hat (doFz (doWs t.hp x.ws) x.fz) id := doWs_other _ _ _ hy
          rw [e1, e2, doFz_at]
      · have hi := s2 hb
        rw [E_idle hR (by omega) hi, hcb, hcb]
    · have hidk := s1 ha
      rw [E_idle hR hk hidk, hca, hca]
  exact St.ext hts hhp

/-- Doing it last, or in its place in the text. -/
theorem sig_add {S : Nat → Bool} {i : Nat} (hi : i < ps.length) (hS : S i = false) (hd : Down ps S) : ∀ k, k ≤ ps.length → i < k →
    sig call base ps st (fun j => S j || j == i) k = E call base ps st i (sig call base ps st S k) := by
  have pre : ∀ k, k ≤ i → sig call base ps st (fun j => S j || j == i) k = sig call base ps st S k := by
    intro k
    induction k with
    | zero => intro _; rfl
    | succ k ih =>
      intro hk
      have : ¬ k = i := by omega
      simp only [sig, ih (by omega)]
      simp [this]
  intro k
  induction k with
  | zero => intro _ h; omega
  | succ k ih =>
    intro hk hik
    by_cases e : k = i
    · subst e
      simp only [sig, pre k (Nat.le_refl _), hS]
      simp
    · have hlt : i < k := by omega
      have := ih (by omega) hlt
      simp only [sig, this]
      have hb : (k == i) = false := by simpa using e
      simp only [hb, Bool.or_false]
      split
      · rename_i hs
        refine E_comm hR hlt (by omega) (fun hin => ?_) _
        have := hd k (by omega) hs i hin
        rw [hS] at this; cases this
      · rfl
end
end
end Go.Pi
