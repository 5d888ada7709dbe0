import Derived.Test.YtakonddhaabobaaGreatPD
import Derived.LoopN
set_option linter.all false
namespace Go.Pi
set_option linter.unusedVariables false
def POp.xs : POp → List PX
 | .mv x | .box _ x | .load _ _ x | .nilCheck x | .un _ x | .conv _ x | .fieldAddr _ _ x | .field _ _ _ x | .extract x _ | .len x | .lenS x | .eqNS _ x | .eqNP _ x | .mark x | .bits x | .ofBits x => [x]
 | .pick c a b => [c, a, b]
 | .alloc _ => []
 | .build _ ps => ps.map fun p => p.2.2
 | .buildSlice _ _ _ ps => ps.map fun p => p.2
 | .store _ a x | .bin _ a x | .eqB _ a x | .eqA _ _ a x | .makeSlice _ _ _ a x | .indexAddr _ a x | .indexAddrA _ _ a x | .index _ _ _ a x | .indexS a x | .append _ _ a x => [a, x]
 | .slice _ x lo hi | .sliceS x lo hi => x :: (lo.toList ++ hi.toList)
 | .minmax _ x ys => x :: ys
 | .call _ args => args.map fun p => p.2
 | .callH _ args => args
 | .callQ _ args => args.map fun p => p.2
 | .callV _ x args => x :: args.map fun p => p.2
def PO.uses (p : PO) : List Nat := (p.op.xs.filterMap fun | .t i => some i | _ => none) ++ (p.guard.map (·.1)).toList
section
variable {call : CallF} {base : Nat}
theorem opE_congr {ρ ρ' : PX → D} {r : Nat} {op : POp} (h : ∀ x ∈ op.xs, ρ x = ρ' x) : opE call ρ r op = opE call ρ' r op := by
 cases op <;> simp only [POp.xs, List.mem_cons, List.mem_nil_iff, or_false, forall_eq_or_imp, forall_eq, List.mem_append, List.mem_map, forall_exists_index, and_imp, forall_apply_eq_imp_iff₂] at h <;> simp only [opE]
 case build zs ps =>
  have e1 : (ps.map fun p => (p.1, p.2.1, ρ p.2.2)) = ps.map fun p => (p.1, p.2.1, ρ' p.2.2) := List.map_congr_left fun p hp => by rw [h p hp]
  have e2 : (ps.all fun p => (cellsOf (ρ p.2.2)).all one) = ps.all fun p => (cellsOf (ρ' p.2.2)).all one := by
   rw [Bool.eq_iff_iff, List.all_eq_true, List.all_eq_true]
   exact ⟨fun hh p hp => by rw [← h p hp]; exact hh p hp, fun hh p hp => by rw [h p hp]; exact hh p hp⟩
  rw [e1, e2]
 case buildSlice sz n zs ps =>
  have e1 : (ps.map fun p => (p.1, ρ p.2)) = ps.map fun p => (p.1, ρ' p.2) := List.map_congr_left fun p hp => by rw [h p hp]
  have e2 : (ps.all fun p => (cellsOf (ρ p.2)).all one) = ps.all fun p => (cellsOf (ρ' p.2)).all one := by
   rw [Bool.eq_iff_iff, List.all_eq_true, List.all_eq_true]
   exact ⟨fun hh p hp => by rw [← h p hp]; exact hh p hp, fun hh p hp => by rw [h p hp]; exact hh p hp⟩
  rw [e1, e2]
 case slice sz x lo hi =>
  have e1 : lo.map ρ = lo.map ρ' := by cases lo <;> simp; exact h.2 _ (.inl (by simp))
  have e2 : hi.map ρ = hi.map ρ' := by cases hi <;> simp; exact h.2 _ (.inr (by simp))
  rw [h.1, e1, e2]
 case sliceS x lo hi =>
  have e1 : lo.map ρ = lo.map ρ' := by cases lo <;> simp; exact h.2 _ (.inl (by simp))
  have e2 : hi.map ρ = hi.map ρ' := by cases hi <;> simp; exact h.2 _ (.inr (by simp))
  rw [h.1, e1, e2]
 case minmax mx x ys =>
  have e1 : ys.map ρ = ys.map ρ' := List.map_congr_left fun p hp => h.2 p hp
  rw [h.1, e1]
 case call f args =>
  have e1 : (args.map fun p => (p.1, ρ p.2)) = args.map fun p => (p.1, ρ' p.2) := List.map_congr_left fun p hp => by rw [h p hp]
  rw [e1]
 case callQ f args =>
  have e1 : (args.map fun p => (p.1, ρ p.2)) = args.map fun p => (p.1, ρ' p.2) := List.map_congr_left fun p hp => by rw [h p hp]
  rw [e1]
 case callV fs x args =>
  have e1 : (args.map fun p => (p.1, ρ p.2)) = args.map fun p => (p.1, ρ' p.2) := List.map_congr_left fun p hp => by rw [h.2 p hp]
  rw [e1, h.1]
 all_goals first | rfl | (simp only [h])
theorem run_congr {α : Type} {e : Eff α} {x : α} {H1 H2 : Heap} (h : e.run H1 = some x) (hr : ∀ id ∈ e.rd H1, freeze (hat H1 id) = freeze (hat H2 id))
  (hl : ∀ id ∈ e.lv H1, hat H1 id = hat H2 id ∧ (id < H1.length ↔ id < H2.length)) : e.run H2 = some x := by
 induction e with
 | pure a => exact h
 | fail => simp [Eff.run] at h
 | get id k ih =>
  obtain ⟨sz, es, lv, h1, h2⟩ := run_get h
  have e1 : (Eff.get id k).rd H1 = id :: (k sz es).rd H1 := by simp [Eff.rd, h1]
  have e2 : (Eff.get id k).lv H1 = (k sz es).lv H1 := by simp [Eff.lv, h1]
  rw [e1] at hr; rw [e2] at hl
  have := hr id (by simp)
  rw [h1] at this
  cases hx : hat H2 id with
  | fresh => rw [hx] at this; cases this
  | dead => rw [hx] at this; cases this
  | row a b c =>
   rw [hx] at this
   simp only [freeze, Blk.row.injEq] at this
   obtain ⟨rfl, rfl, _⟩ := this
   simp only [Eff.run, hx]
   exact ih _ _ h2 (fun i hi => hr i (by simp [hi])) hl
 | live id k ih =>
  obtain ⟨⟨sz, es, h1⟩, h2⟩ := run_live h
  have := (hl id (by simp [Eff.lv])).1
  rw [h1] at this
  simp only [Eff.run, ← this]
  exact ih h2 hr (fun i hi => hl i (by simp [Eff.lv, hi]))
 | new id k ih =>
  obtain ⟨h0, h1, h2⟩ := run_new h
  have := hl id (by simp [Eff.lv])
  rw [h1] at this
  simp only [Eff.run, ← this.1, if_pos (this.2.1 h0)]
  exact ih h2 hr (fun i hi => hl i (by simp [Eff.lv, hi]))
def eff (call : CallF) (base : Nat) (p : PO) (s : St) (t : St) : St :=
 if wantedP s.ts p.guard then
  match p.op with
  | .callH f args => match call f (args.map (PX.ev s.ts)) s.hp with
   | some x => ⟨putT t.ts p.dst x.1, x.2⟩
   | none => t
  | op => match (opE call (PX.ev s.ts) (base + p.res) op).run s.hp with
   | some x => ⟨putT t.ts p.dst x.d, x.on t.hp⟩
   | none => t
 else ⟨putT t.ts p.dst .skip, t.hp⟩
theorem on_length (x : Out) (H : Heap) : (x.on H).length = H.length := by
 unfold Out.on
 have : ∀ (is : List Nat) (H : Heap), (doFz H is).length = H.length := by
  intro is
  induction is with
  | nil => intro H; rfl
  | cons i is ih => intro H; simp [doFz, ih]
 rw [this, doWs_length]
theorem doWs_hat : ∀ (ws : List (Nat × Blk)) (H H' : Heap) (id : Nat), hat H id = hat H' id → (id < H.length ↔ id < H'.length) → hat (doWs H ws) id = hat (doWs H' ws) id
 | [], H, H', id, h, _ => h
 | (i, b) :: ws, H, H', id, h, hl => by
  rw [doWs, doWs]
  refine doWs_hat ws _ _ id ?_ (by simpa using hl)
  rw [hat_set, hat_set]
  by_cases e : i = id
  ·subst e; simp only [true_and, hl, h]
  ·simp [e, h]
theorem doWs_hatF : ∀ (ws : List (Nat × Blk)) (H H' : Heap) (id : Nat), freeze (hat H id) = freeze (hat H' id) → (id < H.length ↔ id < H'.length) → freeze (hat (doWs H ws) id) = freeze (hat (doWs H' ws) id)
 | [], H, H', id, h, _ => h
 | (i, b) :: ws, H, H', id, h, hl => by
  rw [doWs, doWs]
  refine doWs_hatF ws _ _ id ?_ (by simpa using hl)
  rw [hat_set, hat_set]
  by_cases e : i = id
  ·subst e
   by_cases hh : i < H.length
   ·simp [hh, hl.1 hh]
   ·have : ¬ i < H'.length := fun h => hh (hl.2 h)
    simp [hh, this, h]
  ·simp [e, h]
theorem putT_comm {ts : List D} {a b : Option Nat} {x y : D} (h : ∀ t, a = some t → b ≠ some t) : putT (putT ts a x) b y = putT (putT ts b y) a x := by
 cases a with
 | none => rfl
 | some i =>
  cases b with
  | none => rfl
  | some j =>
   have : i ≠ j := fun e => h i rfl (by rw [e])
   exact List.set_comm _ _ this
theorem hat_getElem {H : Heap} {i : Nat} (h : i < H.length) : H[i]? = some (hat H i) := by
 unfold hat
 rw [List.getD_eq_getElem?_getD, List.getElem?_eq_getElem h]
 rfl
theorem heap_ext {H H' : Heap} (hl : H.length = H'.length) (h : ∀ i, hat H i = hat H' i) : H = H' := by
 apply List.ext_getElem?
 intro i
 by_cases hi : i < H.length
 ·rw [hat_getElem hi, hat_getElem (by omega), h]
 ·rw [List.getElem?_eq_none (by omega), List.getElem?_eq_none (by omega)]
theorem eff_form {p : PO} {s s' : St} (h : stepO call base p s = some s') :
  ∃ d, (∀ t, (eff call base p s t).ts = putT t.ts p.dst d) ∧ eff call base p s s = s' ∧
   (((stepFp call base p s).all = false ∧ ∃ x : Out, x.ws.map (·.1) = (stepFp call base p s).wr ∧ x.fz = (stepFp call base p s).fz ∧ ∀ t, (eff call base p s t).hp = x.on t.hp) ∨
    ((stepFp call base p s).all = true ∧ ∀ t, (eff call base p s t).hp = s'.hp)) := by
 unfold stepO at h
 split at h
 ·split at h
  ·rename_i hg hw
   by_cases hc : ∃ f args, p.op = .callH f args
   ·obtain ⟨f, args, hop⟩ := hc
    rw [hop] at h
    simp only [Option.map_eq_some_iff] at h
    obtain ⟨x, h1, rfl⟩ := h
    refine ⟨x.1, fun t => ?_, ?_, .inr ⟨?_, fun t => ?_⟩⟩ <;> simp [eff, stepFp, hw, hop, h1]
   ·have h' : ((opE call (PX.ev s.ts) (base + p.res) p.op).run s.hp).map (fun x => (⟨putT s.ts p.dst x.d, x.on s.hp⟩ : St)) = some s' := by
     split at h
     ·exact absurd ⟨_, _, by assumption⟩ hc
     ·exact h
    simp only [Option.map_eq_some_iff] at h'
    obtain ⟨x, h1, rfl⟩ := h'
    have e1 : ∀ t, eff call base p s t = ⟨putT t.ts p.dst x.d, x.on t.hp⟩ := by
     intro t
     unfold eff
     rw [if_pos hw]
     split
     ·exact absurd ⟨_, _, by assumption⟩ hc
     ·simp only [h1]
    have e2 : stepFp call base p s = ⟨(opE call (PX.ev s.ts) (base + p.res) p.op).rd s.hp, (opE call (PX.ev s.ts) (base + p.res) p.op).lv s.hp, x.ws.map (·.1), x.fz, false⟩ := by
     unfold stepFp
     rw [if_pos hw]
     split
     ·exact absurd ⟨_, _, by assumption⟩ hc
     ·simp only [h1]
    exact ⟨x.d, fun t => by rw [e1], e1 s, .inl ⟨by rw [e2], x, by rw [e2], by rw [e2], fun t => by rw [e1]⟩⟩
  ·rename_i hg hw
   simp only [Option.some.injEq] at h
   subst h
   refine ⟨.skip, fun t => by simp [eff, hw], by simp [eff, hw], .inl ⟨by simp [stepFp, hw], ⟨.skip, [], []⟩, by simp [stepFp, hw], by simp [stepFp, hw], fun t => by simp [eff, hw, Out.on, doWs, doFz]⟩⟩
 ·cases h
theorem seqD_run : ∀ {ps : List PO} {i : Nat} {seen : List (Nat × Fp)} {s s' : St}, seqD call base ps i seen s = some s' →
  ∃ st : Nat → St, st 0 = s ∧ st ps.length = s' ∧ (∀ (k : Nat) (p : PO), ps[k]? = some p → stepO call base p (st k) = some (st (k + 1))) ∧
   ∀ (k : Nat) (p : PO), ps[k]? = some p → (∀ q ∈ seen, q.1 ∈ p.after ∨ clash q.2 (stepFp call base p (st k)) = false) ∧
    ∀ (j : Nat) (q : PO), j < k → ps[j]? = some q → i + j ∈ p.after ∨ clash (stepFp call base q (st j)) (stepFp call base p (st k)) = false
 | [], i, seen, s, s', h => by
  simp only [seqD, Option.some.injEq] at h
  subst h
  exact ⟨fun _ => s, rfl, rfl, by simp, by simp⟩
 | p :: ps, i, seen, s, s', h => by
  simp only [seqD] at h
  split at h
  ·rename_i hc
   simp only [Option.bind_eq_some_iff] at h
   obtain ⟨s1, h1, h2⟩ := h
   obtain ⟨st, g1, g2, g3, g4⟩ := seqD_run h2
   have hc' : ∀ q ∈ seen, q.1 ∈ p.after ∨ clash q.2 (stepFp call base p s) = false := by
    intro q hq
    have := List.all_eq_true.1 hc q hq
    simpa [List.contains_eq_mem] using this
   refine ⟨fun k => match k with | 0 => s | k + 1 => st k, rfl, by simpa using g2, fun k q hk => ?_, fun k q hk => ?_⟩
   ·cases k with
    | zero => simp at hk; subst hk; show stepO call base p s = some (st 0); rw [g1]; exact h1
    | succ k => exact g3 k q (by simpa using hk)
   ·cases k with
    | zero => simp at hk; subst hk; exact ⟨hc', fun j q hj => by omega⟩
    | succ k =>
     obtain ⟨k1, k2⟩ := g4 k q (by simpa using hk)
     refine ⟨fun x hx => k1 x (by simp [hx]), fun j r hj hr => ?_⟩
     cases j with
     | zero =>
      simp at hr
      subst hr
      exact k1 (i, stepFp call base p s) (by simp)
     | succ j =>
      rcases k2 j r (by omega) (by simpa using hr) with h | h
      ·left; rw [show i + (j + 1) = i + 1 + j by omega]; exact h
      ·exact .inr h
  ·cases h
theorem clash_split {f g : Fp} (h : clash f g = false) :
  (f.all = true → g.idle = true) ∧ (g.all = true → f.idle = true) ∧ (∀ x ∈ f.wr, x ∉ g.rd ∧ x ∉ g.lv ∧ x ∉ g.wr ∧ x ∉ g.fz) ∧ (∀ x ∈ g.wr, x ∉ f.rd ∧ x ∉ f.lv ∧ x ∉ f.fz) ∧ (∀ x ∈ f.fz, x ∉ g.lv) ∧ (∀ x ∈ g.fz, x ∉ f.lv) := by
 have hm : ∀ {xs ys : List Nat}, meets xs ys = false → ∀ x ∈ xs, x ∉ ys := by
  intro xs ys h x hx hy
  simp only [meets, List.any_eq_false] at h
  have := h x hx
  simp [List.contains_eq_mem, hy] at this
 simp only [clash, Bool.or_eq_false_iff, Bool.and_eq_false_iff, Bool.not_eq_false'] at h
 obtain ⟨⟨⟨⟨⟨⟨⟨⟨⟨⟨h1, h2⟩, h3⟩, h4⟩, h5⟩, h6⟩, h7⟩, h8⟩, h9⟩, h10⟩, h11⟩ := h
 refine ⟨fun e => ?_, fun e => ?_, fun x hx => ⟨hm h3 x hx, hm h4 x hx, hm h5 x hx, hm h6 x hx⟩, fun x hx => ⟨hm h7 x hx, hm h8 x hx, hm h9 x hx⟩, hm h10, hm h11⟩
 ·rcases h1 with h | h
  ·rw [e] at h; cases h
  ·exact h
 ·rcases h2 with h | h
  ·rw [e] at h; cases h
  ·exact h
theorem idle_split {f : Fp} (h : f.idle = true) : f.all = false ∧ f.rd = [] ∧ f.lv = [] ∧ f.wr = [] ∧ f.fz = [] := by
 simp only [Fp.idle, Bool.and_eq_true, Bool.not_eq_true', List.isEmpty_iff] at h
 exact ⟨h.1.1.1.1, h.1.1.1.2, h.1.1.2, h.1.2, h.2⟩
variable {ps : List PO} {st : Nat → St}
def pAt (ps : List PO) (k : Nat) : PO := ps.getD k default
def E (call : CallF) (base : Nat) (ps : List PO) (st : Nat → St) (k : Nat) : St → St := eff call base (pAt ps k) (st k)
def fpAt (call : CallF) (base : Nat) (ps : List PO) (st : Nat → St) (k : Nat) : Fp := stepFp call base (pAt ps k) (st k)
def sig (call : CallF) (base : Nat) (ps : List PO) (st : Nat → St) (S : Nat → Bool) : Nat → St
 | 0 => st 0
 | k + 1 => if S k then E call base ps st k (sig call base ps st S k) else sig call base ps st S k
structure Run (call : CallF) (base : Nat) (ps : List PO) (st : Nat → St) : Prop where
 step : ∀ k, k < ps.length → stepO call base (pAt ps k) (st k) = some (st (k + 1))
 clash : ∀ j k, j < k → k < ps.length → j ∈ (pAt ps k).after ∨ clash (fpAt call base ps st j) (fpAt call base ps st k) = false
 tmps : ∀ j k, j < k → k < ps.length → ((∃ t, (pAt ps j).dst = some t ∧ (t ∈ (pAt ps k).uses ∨ (pAt ps k).dst = some t)) ∨ (∃ t, (pAt ps k).dst = some t ∧ t ∈ (pAt ps j).uses)) → j ∈ (pAt ps k).after
section
variable (hR : Run call base ps st)
include hR
theorem E_form {k : Nat} (hk : k < ps.length) : ∃ d, (∀ t, (E call base ps st k t).ts = putT t.ts (pAt ps k).dst d) ∧ E call base ps st k (st k) = st (k + 1) ∧
   (((fpAt call base ps st k).all = false ∧ ∃ x : Out, x.ws.map (·.1) = (fpAt call base ps st k).wr ∧ x.fz = (fpAt call base ps st k).fz ∧ ∀ t, (E call base ps st k t).hp = x.on t.hp) ∨
    ((fpAt call base ps st k).all = true ∧ ∀ t, (E call base ps st k t).hp = (st (k + 1)).hp)) := eff_form (hR.step k hk)
theorem sig_all : ∀ k, k ≤ ps.length → sig call base ps st (fun _ => true) k = st k
 | 0, _ => rfl
 | k + 1, h => by
  simp only [sig, if_true]
  rw [sig_all k (by omega)]
  exact (E_form hR (by omega)).choose_spec.2.1
theorem E_idle {k : Nat} (hk : k < ps.length) (h : (fpAt call base ps st k).idle = true) (t : St) : (E call base ps st k t).hp = t.hp := by
 obtain ⟨i1, _, _, i4, i5⟩ := idle_split h
 obtain ⟨d, _, _, h3⟩ := E_form hR hk
 rcases h3 with ⟨_, x, x1, x2, x3⟩ | ⟨h, _⟩
 ·rw [x3]
  rw [i4] at x1; rw [i5] at x2
  have : x.ws = [] := by simpa using x1
  simp [Out.on, this, x2, doWs, doFz]
 ·rw [i1] at h; cases h
theorem ts_len (S : Nat → Bool) : ∀ k, k ≤ ps.length → (sig call base ps st S k).ts.length = (st 0).ts.length
 | 0, _ => rfl
 | k + 1, h => by
  simp only [sig]
  split
  ·obtain ⟨d, h1, _⟩ := E_form hR (show k < ps.length by omega)
   rw [h1]
   unfold putT
   split <;> simp [ts_len S k (by omega)]
  ·exact ts_len S k (by omega)
theorem ts_agree {S : Nat → Bool} {i t : Nat} (hi : i ≤ ps.length) (h : ∀ j, j < ps.length → (pAt ps j).dst = some t → (S j = true ↔ j < i)) :
  ∀ k, k ≤ ps.length → (sig call base ps st S k).ts[t]? = (sig call base ps st (fun _ => true) (min k i)).ts[t]?
 | 0, _ => by simp [sig]
 | k + 1, hk => by
  have ih := ts_agree hi h k (by omega)
  obtain ⟨d, h1, _⟩ := E_form hR (show k < ps.length by omega)
  have put_ne : ∀ (ts : List D), (pAt ps k).dst ≠ some t → (putT ts (pAt ps k).dst d)[t]? = ts[t]? := by
   intro ts hne
   unfold putT
   split
   ·rename_i q e
    rw [List.getElem?_set_ne]
    intro hh; subst hh; exact hne e
   ·rfl
  have put_eq : ∀ (ts ts' : List D), ts.length = ts'.length → ts[t]? = ts'[t]? → (putT ts (pAt ps k).dst d)[t]? = (putT ts' (pAt ps k).dst d)[t]? := by
   intro ts ts' hl he
   unfold putT
   split
   ·rw [List.getElem?_set, List.getElem?_set, hl, he]
   ·exact he
  by_cases hki : k < i
  ·rw [show min (k + 1) i = k + 1 by omega]
   rw [show min k i = k by omega] at ih
   simp only [sig, if_true]
   split
   ·rw [h1, h1]
    exact put_eq _ _ (by rw [ts_len hR _ k (by omega), ts_len hR _ k (by omega)]) ih
   ·rename_i hs
    rw [h1, put_ne _ (fun e => hs ((h k (by omega) e).2 hki))]
    exact ih
  ·rw [show min (k + 1) i = i by omega]
   rw [show min k i = i by omega] at ih
   simp only [sig]
   split
   ·rename_i hs
    rw [h1, put_ne _ (fun e => hki ((h k (by omega) e).1 hs))]
    exact ih
   ·exact ih
theorem hp_agree {S : Nat → Bool} {i id : Nat} (hi : i < ps.length) (hS : S i = false)
  (h : ∀ j, j < ps.length → j ≠ i → ((fpAt call base ps st j).all = true ∨ id ∈ (fpAt call base ps st j).wr ∨ id ∈ (fpAt call base ps st j).fz) → (S j = true ↔ j < i)) :
  ∀ k, k ≤ ps.length → hat (sig call base ps st S k).hp id = hat (sig call base ps st (fun _ => true) (min k i)).hp id ∧
   (sig call base ps st S k).hp.length = (sig call base ps st (fun _ => true) (min k i)).hp.length
 | 0, _ => by simp [sig]
 | k + 1, hk => by
  obtain ⟨ih1, ih2⟩ := hp_agree hi hS h k (by omega)
  obtain ⟨d, _, _, h3⟩ := E_form hR (show k < ps.length by omega)
  have still : ¬ ((fpAt call base ps st k).all = true ∨ id ∈ (fpAt call base ps st k).wr ∨ id ∈ (fpAt call base ps st k).fz) → ∀ t, hat (E call base ps st k t).hp id = hat t.hp id ∧ (E call base ps st k t).hp.length = t.hp.length := by
   intro hn t
   rcases h3 with ⟨_, x, x1, x2, x3⟩ | ⟨ha, _⟩
   ·rw [x3]
    refine ⟨?_, on_length _ _⟩
    unfold Out.on
    rw [doFz_at, if_neg (fun hh => hn (.inr (.inr (by rw [← x2]; exact hh)))), doWs_other]
    intro y hy e
    exact hn (.inr (.inl (by rw [← x1, ← e]; exact List.mem_map_of_mem hy)))
   ·exact absurd (.inl ha) hn
  by_cases hki : k < i
  ·rw [show min (k + 1) i = k + 1 by omega]
   rw [show min k i = k by omega] at ih1 ih2
   simp only [sig, if_true]
   split
   ·rcases h3 with ⟨_, x, x1, x2, x3⟩ | ⟨ha, hc⟩
    ·rw [x3, x3]
     refine ⟨?_, by rw [on_length, on_length]; exact ih2⟩
     unfold Out.on
     rw [doFz_at, doFz_at, doWs_hat x.ws _ _ id ih1 (by rw [ih2])]
    ·rw [hc, hc]; exact ⟨rfl, rfl⟩
   ·rename_i hs
    have := still (fun hh => hs ((h k (by omega) (by omega) hh).2 hki)) (sig call base ps st (fun _ => true) k)
    rw [this.1, this.2]
    exact ⟨ih1, ih2⟩
  ·rw [show min (k + 1) i = i by omega]
   rw [show min k i = i by omega] at ih1 ih2
   simp only [sig]
   split
   ·rename_i hs
    have hne : k ≠ i := by rintro rfl; rw [hS] at hs; cases hs
    have := still (fun hh => hki ((h k (by omega) hne hh).1 hs)) (sig call base ps st S k)
    rw [this.1, this.2]
    exact ⟨ih1, ih2⟩
   ·exact ⟨ih1, ih2⟩
theorem hp_agreeF {S : Nat → Bool} {i id : Nat} (hi : i < ps.length) (hS : S i = false)
  (h : ∀ j, j < ps.length → j ≠ i → ((fpAt call base ps st j).all = true ∨ id ∈ (fpAt call base ps st j).wr) → (S j = true ↔ j < i)) :
  ∀ k, k ≤ ps.length → freeze (hat (sig call base ps st S k).hp id) = freeze (hat (sig call base ps st (fun _ => true) (min k i)).hp id) ∧
   (sig call base ps st S k).hp.length = (sig call base ps st (fun _ => true) (min k i)).hp.length
 | 0, _ => by simp [sig]
 | k + 1, hk => by
  obtain ⟨ih1, ih2⟩ := hp_agreeF hi hS h k (by omega)
  obtain ⟨d, _, _, h3⟩ := E_form hR (show k < ps.length by omega)
  have fzF : ∀ (is : List Nat) (H : Heap), freeze (hat (doFz H is) id) = freeze (hat H id) := by
   intro is H
   rw [doFz_at]
   split
   ·rw [freeze_freeze]
   ·rfl
  have still : ¬ ((fpAt call base ps st k).all = true ∨ id ∈ (fpAt call base ps st k).wr) → ∀ t, freeze (hat (E call base ps st k t).hp id) = freeze (hat t.hp id) ∧ (E call base ps st k t).hp.length = t.hp.length := by
   intro hn t
   rcases h3 with ⟨_, x, x1, x2, x3⟩ | ⟨ha, _⟩
   ·rw [x3]
    refine ⟨?_, on_length _ _⟩
    unfold Out.on
    rw [fzF, doWs_other]
    intro y hy e
    exact hn (.inr (by rw [← x1, ← e]; exact List.mem_map_of_mem hy))
   ·exact absurd (.inl ha) hn
  by_cases hki : k < i
  ·rw [show min (k + 1) i = k + 1 by omega]
   rw [show min k i = k by omega] at ih1 ih2
   simp only [sig, if_true]
   split
   ·rcases h3 with ⟨_, x, x1, x2, x3⟩ | ⟨ha, hc⟩
    ·rw [x3, x3]
     refine ⟨?_, by rw [on_length, on_length]; exact ih2⟩
     unfold Out.on
     rw [fzF, fzF, doWs_hatF x.ws _ _ id ih1 (by rw [ih2])]
    ·rw [hc, hc]; exact ⟨rfl, rfl⟩
   ·rename_i hs
    have := still (fun hh => hs ((h k (by omega) (by omega) hh).2 hki)) (sig call base ps st (fun _ => true) k)
    rw [this.1, this.2]
    exact ⟨ih1, ih2⟩
  ·rw [show min (k + 1) i = i by omega]
   rw [show min k i = i by omega] at ih1 ih2
   simp only [sig]
   split
   ·rename_i hs
    have hne : k ≠ i := by rintro rfl; rw [hS] at hs; cases hs
    have := still (fun hh => hki ((h k (by omega) hne hh).1 hs)) (sig call base ps st S k)
    rw [this.1, this.2]
    exact ⟨ih1, ih2⟩
   ·exact ⟨ih1, ih2⟩
theorem hp_agreeA {S : Nat → Bool} {i : Nat} (hi : i < ps.length) (hS : S i = false)
  (h : ∀ j, j < ps.length → j ≠ i → (fpAt call base ps st j).idle = false → (S j = true ↔ j < i)) :
  ∀ k, k ≤ ps.length → (sig call base ps st S k).hp = (sig call base ps st (fun _ => true) (min k i)).hp
 | 0, _ => by simp [sig]
 | k + 1, hk => by
  have ih := hp_agreeA hi hS h k (by omega)
  obtain ⟨d, _, _, h3⟩ := E_form hR (show k < ps.length by omega)
  by_cases hki : k < i
  ·rw [show min (k + 1) i = k + 1 by omega]
   rw [show min k i = k by omega] at ih
   simp only [sig, if_true]
   split
   ·rcases h3 with ⟨_, x, x1, x2, x3⟩ | ⟨ha, hc⟩
    ·rw [x3, x3, ih]
    ·rw [hc, hc]
   ·rename_i hs
    cases hid : (fpAt call base ps st k).idle with
    | true => rw [E_idle hR (by omega) hid]; exact ih
    | false => exact absurd ((h k (by omega) (by omega) hid).2 hki) hs
  ·rw [show min (k + 1) i = i by omega]
   rw [show min k i = i by omega] at ih
   simp only [sig]
   split
   ·rename_i hs
    have hne : k ≠ i := by rintro rfl; rw [hS] at hs; cases hs
    cases hid : (fpAt call base ps st k).idle with
    | true => rw [E_idle hR (by omega) hid]; exact ih
    | false => exact absurd ((h k (by omega) hne hid).1 hs) hki
   ·exact ih
def Down (ps : List PO) (S : Nat → Bool) : Prop := ∀ j, j < ps.length → S j = true → ∀ k ∈ (pAt ps j).after, S k = true
theorem step_any {S : Nat → Bool} {i : Nat} (hi : i < ps.length) (hS : S i = false) (hd : Down ps S) (hr : ∀ k ∈ (pAt ps i).after, S k = true) :
  stepO call base (pAt ps i) (sig call base ps st S ps.length) = some (E call base ps st i (sig call base ps st S ps.length)) := by
 have hmin : min ps.length i = i := by omega
 have order : ∀ j, j < ps.length → j ≠ i → ((j < i → j ∈ (pAt ps i).after) ∧ (i < j → i ∈ (pAt ps j).after)) → (S j = true ↔ j < i) := by
  intro j hj hne ⟨h1, h2⟩
  constructor
  ·intro hs
   by_cases hlt : j < i
   ·exact hlt
   ·have := hd j hj hs i (h2 (by omega))
    rw [hS] at this; cases this
  ·intro hlt
   exact hr j (h1 hlt)
 have hts : ∀ t ∈ (pAt ps i).uses, (sig call base ps st S ps.length).ts.getD t .undef = (st i).ts.getD t .undef := by
  intro t ht
  have := ts_agree hR (S := S) (i := i) (t := t) (by omega) (fun j hj hdst => by
   by_cases hne : j = i
   ·subst hne; rw [hS]; simp
   ·refine order j hj hne ⟨fun hlt => hR.tmps j i hlt hi (.inl ⟨t, hdst, .inl ht⟩), fun hlt => hR.tmps i j hlt hj (.inr ⟨t, hdst, ht⟩)⟩) ps.length (Nat.le_refl _)
  rw [hmin, sig_all hR i (by omega)] at this
  rw [List.getD_eq_getElem?_getD, List.getD_eq_getElem?_getD, this]
 have hev : ∀ x ∈ (pAt ps i).op.xs, PX.ev (sig call base ps st S ps.length).ts x = PX.ev (st i).ts x := by
  intro x hx
  cases x with
  | t j => exact hts j (by unfold PO.uses; exact List.mem_append.2 (.inl (List.mem_filterMap.2 ⟨.t j, hx, rfl⟩)))
  | c d => rfl
 have hgd : guardOk (sig call base ps st S ps.length).ts (pAt ps i).guard = guardOk (st i).ts (pAt ps i).guard ∧ wantedP (sig call base ps st S ps.length).ts (pAt ps i).guard = wantedP (st i).ts (pAt ps i).guard := by
  cases hg : (pAt ps i).guard with
  | none => exact ⟨rfl, rfl⟩
  | some q =>
   have := hts q.1 (by unfold PO.uses; rw [hg]; simp)
   constructor <;> simp only [guardOk, wantedP, this]
 have hclash : ∀ j, j < ps.length → j ≠ i → clash (fpAt call base ps st j) (fpAt call base ps st i) = false ∨ clash (fpAt call base ps st i) (fpAt call base ps st j) = false ∨ (S j = true ↔ j < i) := by
  intro j hj hne
  rcases Nat.lt_or_gt_of_ne hne with hlt | hgt
  ·rcases hR.clash j i hlt hi with h | h
   ·exact .inr (.inr (order j hj hne ⟨fun _ => h, fun hh => by omega⟩))
   ·exact .inl h
  ·rcases hR.clash i j hgt hj with h | h
   ·exact .inr (.inr (order j hj hne ⟨fun hh => by omega, fun _ => h⟩))
   ·exact .inr (.inl h)
 have hstep := hR.step i hi
 have hfp : fpAt call base ps st i = stepFp call base (pAt ps i) (st i) := rfl
 have hE : ∀ t, E call base ps st i t = eff call base (pAt ps i) (st i) t := fun t => rfl
 rw [hE]
 generalize hp : pAt ps i = p at hstep hev hgd hfp
 unfold stepO at hstep ⊢
 rw [hgd.1, hgd.2]
 split at hstep
 ·rename_i hg
  rw [if_pos hg]
  split at hstep
  ·rename_i hw
   rw [if_pos hw]
   by_cases hc : ∃ f args, p.op = .callH f args
   ·obtain ⟨f, args, hop⟩ := hc
    rw [hop] at hstep hev ⊢
    simp only [Option.map_eq_some_iff] at hstep
    obtain ⟨x, h1, h2⟩ := hstep
    have hall : (fpAt call base ps st i).all = true := by rw [hfp]; simp [stepFp, hw, hop]
    have hheap := hp_agreeA hR (S := S) hi hS (fun j hj hne hid => by
     rcases hclash j hj hne with h | h | h
     ·have := (clash_split h).2.1 hall; rw [hid] at this; cases this
     ·have := (clash_split h).1 hall; rw [hid] at this; cases this
     ·exact h) ps.length (Nat.le_refl _)
    rw [hmin, sig_all hR i (by omega)] at hheap
    have hargs : args.map (PX.ev (sig call base ps st S ps.length).ts) = args.map (PX.ev (st i).ts) := List.map_congr_left fun y hy => hev y hy
    dsimp only
    rw [hargs, hheap, h1]
    simp [eff, hw, hop, h1]
   ·have hop' : ((opE call (PX.ev (st i).ts) (base + p.res) p.op).run (st i).hp).map (fun x => (⟨putT (st i).ts p.dst x.d, x.on (st i).hp⟩ : St)) = some (st (i + 1)) := by
     split at hstep
     ·exact absurd ⟨_, _, by assumption⟩ hc
     ·exact hstep
    simp only [Option.map_eq_some_iff] at hop'
    obtain ⟨x, h1, h2⟩ := hop'
    have hfp2 : fpAt call base ps st i = ⟨(opE call (PX.ev (st i).ts) (base + p.res) p.op).rd (st i).hp, (opE call (PX.ev (st i).ts) (base + p.res) p.op).lv (st i).hp, x.ws.map (·.1), x.fz, false⟩ := by
     rw [hfp]
     unfold stepFp
     rw [if_pos hw]
     split
     ·exact absurd ⟨_, _, by assumption⟩ hc
     ·simp only [h1]
    have hcong := opE_congr (call := call) (r := base + p.res) hev
    have hrun : (opE call (PX.ev (st i).ts) (base + p.res) p.op).run (sig call base ps st S ps.length).hp = some x := by
     refine run_congr h1 (fun id hid => ?_) (fun id hid => ?_)
     ·have hid' : id ∈ (fpAt call base ps st i).rd := by rw [hfp2]; exact hid
      have := hp_agreeF hR (S := S) (id := id) hi hS (fun j hj hne ht => by
       rcases hclash j hj hne with h | h | h
       ·have hs := clash_split h
        rcases ht with ht | ht
        ·have := idle_split (hs.1 ht); rw [this.2.1] at hid'; cases hid'
        ·exact absurd hid' (hs.2.2.1 id ht).1
       ·have hs := clash_split h
        rcases ht with ht | ht
        ·have := idle_split (hs.2.1 ht); rw [this.2.1] at hid'; cases hid'
        ·exact absurd hid' (hs.2.2.2.1 id ht).1
       ·exact h) ps.length (Nat.le_refl _)
      rw [hmin, sig_all hR i (by omega)] at this
      exact this.1.symm
     ·have hid' : id ∈ (fpAt call base ps st i).lv := by rw [hfp2]; exact hid
      have := hp_agree hR (S := S) (id := id) hi hS (fun j hj hne ht => by
       rcases hclash j hj hne with h | h | h
       ·have hs := clash_split h
        rcases ht with ht | ht | ht
        ·have := idle_split (hs.1 ht); rw [this.2.2.1] at hid'; cases hid'
        ·exact absurd hid' (hs.2.2.1 id ht).2.1
        ·exact absurd hid' (hs.2.2.2.2.1 id ht)
       ·have hs := clash_split h
        rcases ht with ht | ht | ht
        ·have := idle_split (hs.2.1 ht); rw [this.2.2.1] at hid'; cases hid'
        ·exact absurd hid' (hs.2.2.2.1 id ht).2.1
        ·exact absurd hid' (hs.2.2.2.2.2 id ht)
       ·exact h) ps.length (Nat.le_refl _)
      rw [hmin, sig_all hR i (by omega)] at this
      exact ⟨this.1.symm, by rw [this.2]⟩
    have e1 : eff call base p (st i) (sig call base ps st S ps.length) = ⟨putT (sig call base ps st S ps.length).ts p.dst x.d, x.on (sig call base ps st S ps.length).hp⟩ := by
     unfold eff
     rw [if_pos hw]
     split
     ·exact absurd ⟨_, _, by assumption⟩ hc
     ·simp only [h1]
    rw [e1]
    split
    ·exact absurd ⟨_, _, by assumption⟩ hc
    ·rw [hcong, hrun]; rfl
  ·rename_i hw
   rw [if_neg hw]
   simp [eff, hw]
 ·cases hstep
theorem E_comm {i k : Nat} (hik : i < k) (hk : k < ps.length) (hn : i ∉ (pAt ps k).after) (t : St) : E call base ps st k (E call base ps st i t) = E call base ps st i (E call base ps st k t) := by
 have hcl : clash (fpAt call base ps st i) (fpAt call base ps st k) = false := (hR.clash i k hik hk).resolve_left hn
 have hdst : ∀ t, (pAt ps i).dst = some t → (pAt ps k).dst ≠ some t := fun t h1 h2 => hn (hR.tmps i k hik hk (.inl ⟨t, h1, .inr h2⟩))
 obtain ⟨s1, s2, s3, s4, s5, s6⟩ := clash_split hcl
 obtain ⟨d, a1, _, a3⟩ := E_form hR (show i < ps.length by omega)
 obtain ⟨d', b1, _, b3⟩ := E_form hR hk
 have hts : (E call base ps st k (E call base ps st i t)).ts = (E call base ps st i (E call base ps st k t)).ts := by
  rw [b1, a1, a1, b1]
  exact putT_comm hdst
 have hhp : (E call base ps st k (E call base ps st i t)).hp = (E call base ps st i (E call base ps st k t)).hp := by
  rcases a3 with ⟨_, x, x1, x2, x3⟩ | ⟨ha, hca⟩
  ·rcases b3 with ⟨_, y, y1, y2, y3⟩ | ⟨hb, hcb⟩
   ·rw [y3, x3, x3, y3]
    refine heap_ext (by rw [on_length, on_length, on_length, on_length]) (fun id => ?_)
    unfold Out.on
    have inx : ∀ {id : Nat}, (∀ z ∈ x.ws, z.1 ≠ id) ∨ id ∈ (fpAt call base ps st i).wr := by
     intro id
     by_cases h : ∃ z ∈ x.ws, z.1 = id
     ·obtain ⟨z, hz, e⟩ := h
      right; rw [← x1, ← e]; exact List.mem_map_of_mem hz
     ·left; exact fun z hz e => h ⟨z, hz, e⟩
    have iny : ∀ {id : Nat}, (∀ z ∈ y.ws, z.1 ≠ id) ∨ id ∈ (fpAt call base ps st k).wr := by
     intro id
     by_cases h : ∃ z ∈ y.ws, z.1 = id
     ·obtain ⟨z, hz, e⟩ := h
      right; rw [← y1, ← e]; exact List.mem_map_of_mem hz
     ·left; exact fun z hz e => h ⟨z, hz, e⟩
    rcases inx (id := id) with hx | hx
    ·rcases iny (id := id) with hy | hy
     ·simp only [doFz_at, doWs_other _ _ _ hx, doWs_other _ _ _ hy]
      by_cases f1 : id ∈ x.fz <;> by_cases f2 : id ∈ y.fz <;> simp [f1, f2]
     ·have hnf : id ∉ x.fz := fun h => (s4 id hy).2.2 (by rw [← x2]; exact h)
      rw [doFz_at, doFz_at, if_neg hnf]
      have e1 : hat (doWs (doFz (doWs t.hp x.ws) x.fz) y.ws) id = hat (doWs t.hp y.ws) id := by
       refine doWs_hat y.ws _ _ id ?_ ?_
       ·rw [doFz_at, if_neg hnf, doWs_other _ _ _ hx]
       ·have : (doFz (doWs t.hp x.ws) x.fz).length = t.hp.length := on_length x t.hp
        rw [this]
      have e2 : hat (doWs (doFz (doWs t.hp y.ws) y.fz) x.ws) id = hat (doFz (doWs t.hp y.ws) y.fz) id := doWs_other _ _ _ hx
      rw [e1, e2, doFz_at]
    ·have hy : ∀ z ∈ y.ws, z.1 ≠ id := by
      rcases iny (id := id) with h | h
      ·exact h
      ·exact absurd h (s3 id hx).2.2.1
     have hnf : id ∉ y.fz := fun h => (s3 id hx).2.2.2 (by rw [← y2]; exact h)
     rw [doFz_at, doFz_at, if_neg hnf]
     have e1 : hat (doWs (doFz (doWs t.hp y.ws) y.fz) x.ws) id = hat (doWs t.hp x.ws) id := by
      refine doWs_hat x.ws _ _ id ?_ ?_
      ·rw [doFz_at, if_neg hnf, doWs_other _ _ _ hy]
      ·have : (doFz (doWs t.hp y.ws) y.fz).length = t.hp.length := on_length y t.hp
       rw [this]
     have e2 : hat (doWs (doFz (doWs t.hp x.ws) x.fz) y.ws) id = hat (doFz (doWs t.hp x.ws) x.fz) id := doWs_other _ _ _ hy
     rw [e1, e2, doFz_at]
   ·have hi := s2 hb
    rw [E_idle hR (by omega) hi, hcb, hcb]
  ·have hidk := s1 ha
   rw [E_idle hR hk hidk, hca, hca]
 exact St.ext hts hhp
theorem sig_add {S : Nat → Bool} {i : Nat} (hi : i < ps.length) (hS : S i = false) (hd : Down ps S) : ∀ k, k ≤ ps.length → i < k →
  sig call base ps st (fun j => S j || j == i) k = E call base ps st i (sig call base ps st S k) := by
 have pre : ∀ k, k ≤ i → sig call base ps st (fun j => S j || j == i) k = sig call base ps st S k := by
  intro k
  induction k with
  | zero => intro _; rfl
  | succ k ih =>
   intro hk
   have : ¬ k = i := by omega
   simp only [sig, ih (by omega)]
   simp [this]
 intro k
 induction k with
 | zero => intro _ h; omega
 | succ k ih =>
  intro hk hik
  by_cases e : k = i
  ·subst e
   simp only [sig, pre k (Nat.le_refl _), hS]
   simp
  ·have hlt : i < k := by omega
   have := ih (by omega) hlt
   simp only [sig, this]
   have hb : (k == i) = false := by simpa using e
   simp only [hb, Bool.or_false]
   split
   ·rename_i hs
    refine E_comm hR hlt (by omega) (fun hin => ?_) _
    have := hd k (by omega) hs i hin
    rw [hS] at this; cases this
   ·rfl
end
end
end Go.Pi
namespace Go.Pi
set_option linter.unusedVariables false
def DrawOk (ps : List PO) : Prop := ∀ j k, j < k → k < ps.length → ((∃ t, (pAt ps j).dst = some t ∧ (t ∈ (pAt ps k).uses ∨ (pAt ps k).dst = some t)) ∨ (∃ t, (pAt ps k).dst = some t ∧ t ∈ (pAt ps j).uses)) → j ∈ (pAt ps k).after
section
variable {P : Program} {fm : Nat → Nat} {B : Base} {w : World} {G : Gh} {o : Oper} {a : Act} {call : CallF}
theorem trL_len {ops : Array Oper} : ∀ {l : List Oper} {ps : List PO} {i : Nat}, TrL P fm ops i l ps → l.length = ps.length
 | [], [], _, .nil => rfl
 | o :: l, p :: ps, _, .cons _ h => by simp [trL_len h]
theorem trL_at {ops : Array Oper} (l : List Oper) : ∀ {ps : List PO} {i : Nat}, TrL P fm ops i l ps → ∀ (k : Nat) (o : Oper), l[k]? = some o → TrPO P fm ops (i + k) o (pAt ps k) := by
 induction l with
 | nil => intro ps i _ k o hk; simp at hk
 | cons o l ih =>
  intro ps i ht k o' hk
  cases ht with
  | cons h htl =>
   cases k with
   | zero => simp at hk; subst hk; exact h
   | succ k =>
    have := ih htl k o' (by simpa using hk)
    rw [show i + (k + 1) = i + 1 + k by omega]
    exact this
def cnt (S : Nat → Bool) : Nat → Nat
 | 0 => 0
 | k + 1 => (if S k then 0 else 1) + cnt S k
theorem cnt_zero {S : Nat → Bool} : ∀ {n : Nat}, cnt S n = 0 → ∀ j, j < n → S j = true
 | n + 1, h, j, hj => by
  simp only [cnt] at h
  by_cases e : j = n
  ·subst e
   cases hs : S j with
   | true => rfl
   | false => rw [hs] at h; simp at h
  ·exact cnt_zero (n := n) (by omega) j (by omega)
theorem cnt_le {S : Nat → Bool} {i : Nat} : ∀ n, cnt (fun j => S j || j == i) n ≤ cnt S n
 | 0 => Nat.le_refl _
 | n + 1 => by
  have := cnt_le (S := S) (i := i) n
  simp only [cnt]
  by_cases h : S n = true
  ·simp [h]; omega
  ·simp [h]; split <;> omega
theorem cnt_add {S : Nat → Bool} {i : Nat} (hS : S i = false) : ∀ n, i < n → cnt (fun j => S j || j == i) n + 1 ≤ cnt S n
 | n + 1, h => by
  by_cases e : i = n
  ·subst e
   have := cnt_le (S := S) (i := i) i
   simp only [cnt, hS]
   simp
   omega
  ·have := cnt_add hS n (by omega)
   simp only [cnt]
   by_cases h' : S n = true
   ·simp [h']; omega
   ·simp [h']; split <;> omega
theorem reach_lt {ops : Array Oper} {ps : List PO} (htl : TrL P fm ops 0 ops.toList ps) {k i : Nat} (h : Reach ops k i) : i < ps.length → k < i := by
 induction h with
 | one ho he hb =>
  intro hi
  have := trL_at _ htl _ _ (by rw [Array.getElem?_toList]; exact ho)
  rw [Nat.zero_add] at this
  exact this.lt _ he hb
 | trans q1 q2 i1 i2 =>
  intro hi
  have h1 := i2 hi
  have h2 := i1 (by omega)
  omega
theorem draw_any (hs : Sound P fm call) {ops : Array Oper} {ps : List PO} (htl : TrL P fm ops 0 ops.toList ps) {base : Nat} {st : Nat → St} (hR : Run call base ps st) {Q : Exit → Act → World → Prop}
  {w0 : World} {G0 : Gh} {H0 : Heap} (hQ : ∀ a' w' G', RelS fm B w' G' (st ps.length) a' → Adv B w0 G0 H0 w' G' (st ps.length).hp → Q .normal a' w') :
  ∀ (fuel : Nat) (listed : Array Bool) (S : Nat → Bool) (w : World) (G : Gh) (a : Act), listed.size = ops.size → (∀ j, j < ps.length → listed.getD j true = S j) → (∀ j, j < ps.length → S j = true → ∀ k, Reach ops k j → S k = true) → cnt S ps.length ≤ fuel →
   RelS fm B w G (sig call base ps st S ps.length) a → Adv B w0 G0 H0 w G (sig call base ps st S ps.length).hp → wpAny P .any ops Q fuel listed a w := by
 have hlen : ops.size = ps.length := by rw [← trL_len htl, Array.length_toList]
 have hall : ∀ {S : Nat → Bool}, (∀ j, j < ps.length → S j = true) → sig call base ps st S ps.length = st ps.length := by
  intro S h
  have : ∀ k, k ≤ ps.length → sig call base ps st S k = st k := by
   intro k
   induction k with
   | zero => intro _; rfl
   | succ k ih =>
    intro hk
    simp only [sig, h k (by omega), if_true, ih (by omega)]
    exact (E_form hR (by omega)).choose_spec.2.1
  exact this _ (Nat.le_refl _)
 have done : ∀ {listed : Array Bool} {S : Nat → Bool}, listed.size = ops.size → (∀ j, j < ps.length → listed.getD j true = S j) → Region.ready .any ops listed = [] → ∀ n j, j < n → j < ps.length → S j = true := by
  intro listed S hsz hl hr n
  induction n with
  | zero => intro j h; omega
  | succ n ih =>
   intro j hj hjl
   cases hsj : S j with
   | true => rfl
   | false =>
    exfalso
    have hj' : j < ops.toList.length := by rw [Array.length_toList, hlen]; exact hjl
    have ht := trL_at _ htl j ops.toList[j] (List.getElem?_eq_getElem hj')
    have : j ∈ Region.ready .any ops listed := by
     rw [mem_ready]
     refine ⟨by rw [hl j hjl, hsj], ops.toList[j], by simp [hlen, hjl], fun e he hb => ?_⟩
     have hlt := ht.lt e (Array.mem_toList_iff.2 he) hb
     have h1 := ih e.on (by omega) (by omega)
     have h2 := hl e.on (by omega)
     rw [h1] at h2
     rw [Array.getD_eq_getD_getElem?] at h2 ⊢
     have : e.on < listed.size := by omega
     simp only [Array.getElem?_eq_getElem this, Option.getD_some] at h2 ⊢
     exact h2
    rw [hr] at this
    cases this
 intro fuel
 induction fuel with
 | zero =>
  intro listed S w G a hsz hl hd hc hrel hadv
  have hS := cnt_zero (show cnt S ps.length = 0 by omega)
  have hr : Region.ready .any ops listed = [] := by
   rw [List.eq_nil_iff_forall_not_mem]
   intro j hj
   rw [mem_ready] at hj
   obtain ⟨h1, o, ho, _⟩ := hj
   have hjl : j < ps.length := by rw [← hlen]; exact (Array.getElem?_eq_some_iff.1 ho).1
   rw [hl j hjl, hS j hjl] at h1
   cases h1
  rw [hall hS] at hrel hadv
  exact ⟨hr, hQ a w G hrel hadv⟩
 | succ fuel ih =>
  intro listed S w G a hsz hl hd hc hrel hadv
  refine ⟨fun hr => ?_, fun i hi => ?_⟩
  ·have hS := fun j hj => done hsz hl hr (j + 1) j (by omega) hj
   rw [hall hS] at hrel hadv
   exact hQ a w G hrel hadv
  ·rw [mem_ready] at hi
   obtain ⟨h1, o, ho, h2⟩ := hi
   have hil : i < ps.length := by rw [← hlen]; exact (Array.getElem?_eq_some_iff.1 ho).1
   have hSi : S i = false := by rw [← hl i hil]; exact h1
   have ht := trL_at _ htl i o (by rw [Array.getElem?_toList]; exact ho)
   simp only [Nat.zero_add] at ht
   have hrr : ∀ k, Reach ops k i → S k = true := by
    intro k hk
    have : ∀ {k i : Nat}, Reach ops k i → (∀ o, ops[i]? = some o → ∀ e ∈ o.after, Region.binds .any e = true → S e.on = true) → (∀ j, Reach ops j i → j < ps.length) → S k = true := by
     intro k i h
     induction h with
     | one ho he hb => exact fun h3 _ => h3 _ ho _ (Array.mem_toList_iff.1 he) hb
     | trans q1 q2 i1 i2 => exact fun h3 h4 => hd _ (h4 _ q2) (i2 h3 h4) _ q1
    refine this hk (fun o' ho' e he hb => ?_) (fun j hj => ?_)
    ·rw [ho] at ho'; injection ho' with ho'; subst ho'
     have hlt := ht.lt e (Array.mem_toList_iff.2 he) hb
     have := h2 e he hb
     rw [← hl e.on (by omega)]
     rw [Array.getD_eq_getD_getElem?] at this ⊢
     have hh : e.on < listed.size := by omega
     simp only [Array.getElem?_eq_getElem hh, Option.getD_some] at this ⊢
     exact this
    ·have := reach_lt htl hj hil
     omega
   have hr : ∀ k ∈ (pAt ps i).after, S k = true := by
    intro k hk
    exact hrr k (ht.after k hk)
   have hdn : Down ps S := by
    intro j hj hs k hk
    have hj' : j < ops.toList.length := by rw [Array.length_toList, hlen]; exact hj
    have := trL_at _ htl j ops.toList[j] (List.getElem?_eq_getElem hj')
    rw [Nat.zero_add] at this
    exact hd j hj hs k (this.after k hk)
   have hstep := step_any hR hil hSi hdn hr
   have hsig := sig_add hR hil hSi hdn ps.length (Nat.le_refl _) hil
   have hd' : ∀ j, j < ps.length → (S j || j == i) = true → ∀ k, Reach ops k j → (S k || k == i) = true := by
    intro j hj hs k hk
    simp only [Bool.or_eq_true, beq_iff_eq] at hs ⊢
    rcases hs with hs | rfl
    ·exact .inl (hd j hj hs k hk)
    ·exact .inl (hrr k hk)
   have hl' : ∀ j, j < ps.length → (listed.setIfInBounds i true).getD j true = (S j || j == i) := by
    intro j hj
    have := hl j hj
    rw [Array.getD_eq_getD_getElem?] at this ⊢
    rw [Array.getElem?_setIfInBounds]
    by_cases e : i = j
    ·subst e
     have : i < listed.size := by omega
     simp [this]
    ·have e' : (j == i) = false := by simp; exact fun h => e h.symm
     simp only [e, if_false, e', Bool.or_false]
     exact this
   have := stepO_ok hs (K := wpAny P .any ops Q fuel (listed.setIfInBounds i true)) (Q := Q) ht hrel hstep (fun a' w' G' hr' ha' => by
    rw [← hsig] at hr' ha'
    exact ih _ _ w' G' a' (by simpa using hsz) hl' hd' (by have := cnt_add hSi ps.length hil; omega) hr' (hadv.trans ha'))
   unfold wpOp
   rw [ho]
   simp only
   split
   ·rename_i hw; rw [if_pos hw] at this; exact .inl this
   ·rename_i hw; rw [if_neg hw] at this; exact this
def toExit : Ex → Exit
 | .normal => .normal
 | .exit id => .exit id
 | .ret => .ret
inductive TrC (P : Program) (fm : Nat → Nat) : Code → PC → Prop where
 | skip : TrC P fm .skip .skip
 | label (l : Nat) : TrC P fm (.label l) .skip
 | region {id n : Nat} {ops : Array Oper} {ps : List PO} (h : TrL P fm ops 0 ops.toList ps) : TrC P fm (.region id ops false) (.region false n ps)
 | regionD {id n : Nat} {ops : Array Oper} {ps : List PO} (h : TrL P fm ops 0 ops.toList ps) (hd : DrawOk ps) : TrC P fm (.region id ops true) (.region true n ps)
 | seq {x y : Code} {px py : PC} (hx : TrC P fm x px) (hy : TrC P fm y py) : TrC P fm (.seq x y) (.seq px py)
 | cond {c : Operand} {pc : PX} {x y : Code} {px py : PC} (hc : TrX fm c pc) (hx : TrC P fm x px) (hy : TrC P fm y py) : TrC P fm (.cond c x y) (.cond pc px py)
 | block {id : Nat} {c : Code} {pc : PC} (h : TrC P fm c pc) : TrC P fm (.block id c) (.block id pc)
 | loop {c : Code} {pc : PC} (h : TrC P fm c pc) : TrC P fm (.loop c) (.loop pc)
 | exit (id : Nat) : TrC P fm (.exit id) (.exit id)
 | ret : TrC P fm .ret .ret
theorem code_ok (hs : Sound P fm call) (hm : P.follows .mixedOrders = true) {fuel : Nat} {c : Code} {pc : PC} (ht : TrC P fm c pc) : ∀ {w : World} {G : Gh} {s s' : St} {a : Act} {ex : Ex} {Q : Exit → Act → World → Prop},
  RelS fm B w G s a → code call fuel pc s = some (ex, s') → (∀ a' w' G', RelS fm B w' G' s' a' → Adv B w G s.hp w' G' s'.hp → Q (toExit ex) a' w') → c.wp P Q a w := by
 induction ht with
 | skip =>
  intro w G s s' a ex Q hrel h hQ
  simp only [code, Option.some.injEq, Prod.mk.injEq] at h
  obtain ⟨rfl, rfl⟩ := h
  exact wp_skip (hQ a w G hrel (Adv.refl _ _ _ _))
 | label l =>
  intro w G s s' a ex Q hrel h hQ
  simp only [code, Option.some.injEq, Prod.mk.injEq] at h
  obtain ⟨rfl, rfl⟩ := h
  exact wp_label (hQ a w G hrel (Adv.refl _ _ _ _))
 | region htl =>
  intro w G s s' a ex Q hrel h hQ
  simp only [code, Bool.false_eq_true, if_false, Option.map_eq_some_iff, Prod.mk.injEq] at h
  obtain ⟨s1, h1, rfl, rfl⟩ := h
  obtain ⟨f1, f2⟩ := inv_free hrel.inv (fm := fm) (n := _)
  exact wp_region_list (seqR_ok hs _ htl (s := ⟨s.ts, s.hp ++ List.replicate _ .fresh⟩) ⟨hrel.ts.mono (fun v d hv => f1.rep hv), f2, hrel.defers⟩ h1 (fun a' w' G' hr ha => hQ a' w' G' hr (f1.trans ha)))
 | regionD htl hd =>
  intro w G s s' a ex Q hrel h hQ
  simp only [code, if_true, Option.map_eq_some_iff, Prod.mk.injEq] at h
  obtain ⟨s1, h1, rfl, rfl⟩ := h
  rename_i id n ops ps
  obtain ⟨f1, f2⟩ := inv_free hrel.inv (fm := fm) (n := n)
  obtain ⟨d1, d2⟩ := inv_drew f2
  obtain ⟨st, g1, g2, g3, g4⟩ := seqD_run h1
  have hpk : ∀ k, k < ps.length → ps[k]? = some (pAt ps k) := fun k hk => by unfold pAt; rw [List.getD_eq_getElem?_getD, List.getElem?_eq_getElem hk]; rfl
  have hR : Run call s.hp.length ps st := ⟨fun k hk => g3 k _ (hpk k hk), fun j k hj hk => by
   have := (g4 k _ (hpk k hk)).2 j _ hj (hpk j (by omega))
   rw [Nat.zero_add] at this
   exact this, hd⟩
  have hlen : ops.size = ps.length := by rw [← trL_len htl, Array.length_toList]
  have hsig0 : ∀ k, sig call s.hp.length ps st (fun _ => false) k = st 0 := by
   intro k
   induction k with
   | zero => rfl
   | succ k ih => simp only [sig, Bool.false_eq_true, if_false, ih]
  refine wp_region_any hm (draw_any (B := B) hs htl hR (w0 := w) (G0 := G) (H0 := s.hp) (fun a' w' G' hr ha => ?_) ops.size (Array.replicate ops.size false) (fun _ => false) w.drew G a (by simp) (fun j hj => by simp [Array.getD_eq_getD_getElem?, hlen, hj])
   (fun j hj h => by cases h) ?_ ?_ ?_)
  ·rw [g2] at hr ha
   exact hQ a' w' G' hr ha
  ·rw [hlen]
   have : ∀ n, cnt (fun _ => false) n ≤ n := by
    intro n
    induction n with
    | zero => exact Nat.le_refl _
    | succ n ih => simp only [cnt]; simp; omega
   exact this _
  ·rw [hsig0, g1]
   exact ⟨hrel.ts.mono (fun v d hv => (f1.trans d1).rep hv), d2, hrel.defers⟩
  ·rw [hsig0, g1]
   exact f1.trans d1
 | seq hx hy ihx ihy =>
  intro w G s s' a ex Q hrel h hQ
  simp only [code] at h
  split at h
  ·rename_i s1 h1
   exact wp_seq (ihx hrel h1 (fun a' w' G' hr ha => ihy hr h (fun a'' w'' G'' hr2 ha2 => hQ a'' w'' G'' hr2 (ha.trans ha2))))
  ·rename_i hne
   refine wp_seq (ihx hrel h (fun a' w' G' hr ha => ?_))
   cases ex with
   | normal => exact absurd h (hne s')
   | exit id => exact hQ a' w' G' hr ha
   | ret => exact hQ a' w' G' hr ha
 | cond hc hx hy ihx ihy =>
  intro w G s s' a ex Q hrel h hQ
  simp only [code] at h
  have hv := ev_rep hrel.ts hc
  split at h
  ·rename_i b e
   rw [e] at hv
   refine wp_cond hv.inv_bool ?_
   cases b with
   | true => exact ihx hrel h hQ
   | false => exact ihy hrel h hQ
  ·cases h
 | block hc ih =>
  intro w G s s' a ex Q hrel h hQ
  rename_i id c pc
  simp only [code] at h
  split at h
  ·rename_i j s1 h1
   refine wp_block (ih hrel h1 (fun a' w' G' hr ha => ?_))
   simp only [toExit, Exit.inBlock]
   split at h
   ·rename_i e
    simp only [Option.some.injEq, Prod.mk.injEq] at h
    obtain ⟨rfl, rfl⟩ := h
    rw [if_pos e]
    exact hQ a' w' G' hr ha
   ·rename_i e
    simp only [Option.some.injEq, Prod.mk.injEq] at h
    obtain ⟨rfl, rfl⟩ := h
    rw [if_neg e]
    exact hQ a' w' G' hr ha
  ·rename_i hne
   refine wp_block (ih hrel h (fun a' w' G' hr ha => ?_))
   cases ex with
   | normal => exact hQ a' w' G' hr ha
   | exit id => exact absurd h (hne id s')
   | ret => exact hQ a' w' G' hr ha
 | loop hc ih =>
  intro w G s s' a ex Q hrel h hQ
  rename_i c pc
  simp only [code] at h
  have key : ∀ n {w : World} {G : Gh} {s : St} {a : Act}, RelS fm B w G s a → loopN (code call fuel pc) n s = some (ex, s') →
    (∀ a' w' G', RelS fm B w' G' s' a' → Adv B w G s.hp w' G' s'.hp → Q (toExit ex) a' w') → Code.rounds P c Q n a w := by
   intro n
   induction n with
   | zero => intro w G s a _ h; simp [loopN] at h
   | succ n ihn =>
    intro w G s a hrel h hQ
    simp only [loopN] at h
    rw [rounds_succ]
    split at h
    ·rename_i s1 h1
     exact ih hrel h1 (fun a' w' G' hr ha => ihn hr h (fun a'' w'' G'' hr2 ha2 => hQ a'' w'' G'' hr2 (ha.trans ha2)))
    ·rename_i hne
     refine ih hrel h (fun a' w' G' hr ha => ?_)
     cases ex with
     | normal => exact absurd h (hne s')
     | exit id => exact hQ a' w' G' hr ha
     | ret => exact hQ a' w' G' hr ha
  exact wp_loop_rounds fuel (key fuel hrel h hQ)
 | exit id =>
  intro w G s s' a ex Q hrel h hQ
  simp only [code, Option.some.injEq, Prod.mk.injEq] at h
  obtain ⟨rfl, rfl⟩ := h
  exact wp_exit (hQ a w G hrel (Adv.refl _ _ _ _))
 | ret =>
  intro w G s s' a ex Q hrel h hQ
  simp only [code, Option.some.injEq, Prod.mk.injEq] at h
  obtain ⟨rfl, rfl⟩ := h
  exact wp_ret (hQ a w G hrel (Adv.refl _ _ _ _))
inductive TrR (P : Program) : List ResultVar → List PR → Prop where
 | nil : TrR P [] []
 | tmp {t : Nat} {rs : List ResultVar} {qs : List PR} (h : TrR P rs qs) : TrR P (.tmp t :: rs) (.tmp t :: qs)
 | cell {a t n : Nat} {ag : Bool} {rs : List ResultVar} {qs : List PR} (hs : Shape P t ag n) (h : TrR P rs qs) : TrR P (.cell a t :: rs) (.cell ag n a :: qs)
structure TrF (P : Program) (fm : Nat → Nat) (fn : Func) (pf : PF) : Prop where
 body : ∃ c, fn.body = some c ∧ TrC P fm c pf.body
 ntmps : fn.ntmps = pf.ntmps
 results : TrR P fn.results.toList pf.results
 orc : pf.orc = none
def resOne (tmps : Array Value) : ResultVar → Sem Value
 | .tmp t => pure (tmps.getD t undef)
 | .cell p t => do loadVar t (← asAddr (tmps.getD p undef))
theorem res_ok {s : St} (hrel : RelS fm B w G s a) : ∀ {rs : List ResultVar} {qs : List PR} {ds : List D}, TrR P rs qs → resL s qs = some ds →
  ∃ vs : List Value, (rs.mapM (resOne a.tmps)).run P w = .ok vs w ∧ vs.length = ds.length ∧
   ∀ (j : Nat) (v : Value) (d : D), vs[j]? = some v → ds[j]? = some d → Rep fm G (okB B G s.hp w) w v d
 | [], [], ds, .nil, h => by
  simp only [resL, Option.some.injEq] at h
  subst h
  exact ⟨[], by simp, rfl, by simp⟩
 | .tmp t :: rs, .tmp _ :: qs, ds, .tmp ht, h => by
  simp only [resL, res1, Option.bind_some, Option.map_eq_some_iff] at h
  obtain ⟨ds', h1, rfl⟩ := h
  obtain ⟨vs, k1, k2, k3⟩ := res_ok hrel ht h1
  refine ⟨a.tmps.getD t undef :: vs, by rw [List.mapM_cons]; simp only [resOne, Sem.run_bind, Sem.run_pure, Result.andThen_ok, k1], by simp [k2], fun j v d hv hd => ?_⟩
  cases j with
  | zero =>
   simp at hv hd
   subst hv; subst hd
   have := hrel.ts.getD (fun v => .closed (.undef v)) t
   simpa using this
  | succ j => exact k3 j v d (by simpa using hv) (by simpa using hd)
 | .cell p t :: rs, .cell ag n _ :: qs, ds, .cell hs ht, h => by
  simp only [resL, Option.bind_eq_some_iff, Option.map_eq_some_iff] at h
  obtain ⟨d0, h0, ds', h1, rfl⟩ := h
  obtain ⟨vs, k1, k2, k3⟩ := res_ok hrel ht h1
  have hp := hrel.ts.getD (fun v => .closed (.undef v)) p
  simp only [res1] at h0
  split at h0
  ·rename_i id e
   rw [e] at hp
   split at h0
   ·rename_i sz e' lv hh
    split at h0
    ·rename_i hl
     obtain ⟨b, cap, g1, g2, g3⟩ := hrel.inv.rows id sz [e'] lv hh
     have hv := hp.inv_ptr g1
     obtain ⟨cs, c1, c2⟩ := g3.range (i := 0) (e := e') rfl
     simp only [Nat.zero_mul] at c2
     obtain ⟨v0, l1, l2⟩ := load_ok (P := P) hs c1 c2 hl h0 (fun vs h => rep_agg_of vs h)
     have hrun : (resOne a.tmps (.cell p t)).run P w = .ok v0 w := by
      simp only [resOne]
      rw [hv]
      simpa [Instr.loadAt, Instr.sureAddr, asAddr] using l1
     refine ⟨v0 :: vs, ?_, by simp [k2], fun j v d hv hd => ?_⟩
     ·rw [List.mapM_cons]
      simp only [Sem.run_bind, hrun, Result.andThen_ok, k1, Sem.run_pure]
     ·cases j with
      | zero =>
       simp at hv hd
       subst hv; subst hd
       exact l2
      | succ j => exact k3 j v d (by simpa using hv) (by simpa using hd)
    ·cases h0
   ·cases h0
  ·cases h0
theorem resV_ok {s : St} (hrel : RelS fm B w G s a) {fn : Func} {qs : List PR} {d : D} (ht : TrR P fn.results.toList qs) (h : resV s qs = some d) :
  ∃ v, (results fn a.tmps).run P w = .ok v w ∧ Rep fm G (okB B G s.hp w) w v d := by
 unfold resV at h
 simp only [Option.map_eq_some_iff] at h
 obtain ⟨ds, h1, h2⟩ := h
 obtain ⟨vs, k1, k2, k3⟩ := res_ok hrel ht h1
 have hrun : (results fn a.tmps).run P w = .ok (if h : vs.toArray.size = 1 then vs.toArray[0] else .tuple vs.toArray) w := by
  have hd : results fn a.tmps = (do
    let vs ← fn.results.mapM (resOne a.tmps)
    pure (if h : vs.size = 1 then vs[0] else .tuple vs)) := rfl
  rw [hd, Sem.run_bind]
  have : (fn.results.mapM (resOne a.tmps)).run P w = .ok vs.toArray w := by
   rw [Array.mapM_eq_mapM_toList]
   simp [k1]
  rw [this]
  rfl
 refine ⟨_, hrun, ?_⟩
 match ds, vs, k2, h2, k3 with
 | [d0], [v0], _, h2, k3 =>
  simp only at h2
  subst h2
  simpa using k3 0 v0 d0 rfl rfl
 | [], [], _, h2, k3 =>
  simp only at h2
  subst h2
  exact .tup [] [] rfl (by simp)
 | d0 :: d1 :: ds, v0 :: v1 :: vs, k2, h2, k3 =>
  simp only at h2
  subst h2
  have : ¬ (v0 :: v1 :: vs).toArray.size = 1 := by simp
  rw [dif_neg this]
  exact .tup _ _ k2 (fun j d v h1 h2 => k3 j v d h2 h1)
def OrcOk (P : Program) (fm : Nat → Nat) (f : Nat) (g : List D → Option D) : Prop :=
 ∀ (args : List D) (d : D), g args = some d → ∀ (B : Base) (w : World) (G : Gh) (H : Heap) (vs : List Value), Inv fm B w G H → vs.length = args.length →
  (∀ (j : Nat) (v : Value) (x : D), vs[j]? = some v → args[j]? = some x → Rep fm G (okB B G H w) w v x) →
  Calls P (fm f) vs.toArray w fun e w' => ∃ v G', e = .returned v ∧ Adv B w G H w' G' H ∧ Inv fm B w' G' H ∧ Rep fm G' (okB B G' H w') w' v d
def Linked (P : Program) (fm : Nat → Nat) (pr : Prog) : Prop := ∀ f pf, pr f = some pf → (∃ fn, P.funcs[fm f]? = some fn ∧ TrF P fm fn pf) ∨ ∃ g, pf.orc = some g ∧ OrcOk P fm f g
theorem runN_sound (hm : P.follows .mixedOrders = true) {pr : Prog} (hl : Linked P fm pr) : ∀ n, Sound P fm (runN pr n) := by
 intro n
 induction n with
 | zero => intro f args H d H' h; simp [runN] at h
 | succ n ih =>
  intro f args H d H' h B w G vs hI hlen hargs
  simp only [runN] at h
  cases hp : pr f with
  | none => rw [hp] at h; cases h
  | some pf =>
   rw [hp] at h
   simp only at h
   rcases hl f pf hp with ⟨fn, hf, ⟨c, hb, hc⟩, hn, hr, ho⟩ | ⟨g, ho, hg⟩
   case inr =>
    rw [ho] at h
    simp only [Option.map_eq_some_iff, Prod.mk.injEq] at h
    obtain ⟨d', hd, rfl, rfl⟩ := h
    exact hg args _ hd B w G H vs hI hlen hargs
   rw [ho] at h
   simp only at h
   have hrel : RelS fm B w G ⟨args ++ List.replicate (pf.ntmps - args.length) .undef, H⟩ { tmps := vs.toArray ++ Array.replicate (fn.ntmps - vs.toArray.size) undef, defers := [] } := by
    refine ⟨⟨?_, fun j x hx => ?_⟩, hI, rfl⟩
    ·simp [hlen, hn]
    ·rw [List.getElem?_append] at hx
     split at hx
     ·rename_i hj
      have hjv : j < vs.length := by omega
      refine ⟨vs[j], by rw [Array.getElem?_append_left (by simpa using hjv)]; simp [hjv], hargs j _ x (List.getElem?_eq_getElem hjv) hx⟩
     ·rename_i hj
      rw [List.getElem?_replicate] at hx
      split at hx
      ·rename_i hk
       injection hx with hx
       subst hx
       refine ⟨undef, ?_, .closed (.undef _)⟩
       rw [Array.getElem?_append_right (by simp; omega), Array.getElem?_replicate]
       simp only [List.size_toArray]
       rw [if_pos (by omega)]
      ·cases hx
   refine calls_of_wp hf hb ?_
   split at h
   ·rename_i s h1
    simp only [Option.map_eq_some_iff, Prod.mk.injEq] at h
    obtain ⟨d', hres, rfl, rfl⟩ := h
    refine code_ok ih hm hc hrel h1 (fun a' w' G' hr' ha => ?_)
    obtain ⟨v, k1, k2⟩ := resV_ok hr' hr hres
    exact ⟨hr'.defers, v, k1, v, G', rfl, ha, hr'.inv, k2⟩
   ·rename_i s h1
    simp only [Option.map_eq_some_iff, Prod.mk.injEq] at h
    obtain ⟨d', hres, rfl, rfl⟩ := h
    refine code_ok ih hm hc hrel h1 (fun a' w' G' hr' ha => ?_)
    obtain ⟨v, k1, k2⟩ := resV_ok hr' hr hres
    exact ⟨hr'.defers, v, k1, v, G', rfl, ha, hr'.inv, k2⟩
   ·cases h
end
end Go.Pi
namespace Go.Pi
set_option linter.unusedVariables false
def valD : Value → Option D
 | .bool b => some (.bool b)
 | .int k n => some (.int k n)
 | .float .f64 b => some (.flt (some b))
 | .string s => some (.str s.data.toList)
 | .slice none 0 0 => some .nil
 | .pointer none => some .nilp
 | _ => none
def valDs : List Value → Option (List D)
 | [] => some []
 | v :: vs => (valD v).bind fun d => (valDs vs).bind fun ds => some (d :: ds)
def valA : Value → Option D
 | .agg cs => (valDs cs.toList).map .agg
 | v => valD v
structure Cfg where
 fi : Nat → Option Nat
 fm : Nat → Nat
 heapy : Nat → Bool
 modes : Nat → List Nat
 ext : Nat → Option Bool
 fns : List Nat
def trX (c : Cfg) : Operand → Option PX
 | .tmp t => some (.t t)
 | .const v => (valA v).map .c
 | .func f => (c.fi f).bind fun p => if c.fm p = f then some (.c (.fn p)) else none
 | .global _ => none
def trXs (c : Cfg) : List Operand → Option (List PX)
 | [] => some []
 | x :: xs => (trX c x).bind fun p => (trXs c xs).bind fun ps => some (p :: ps)
def trA (c : Cfg) : List Operand → List Nat → Option (List (Nat × PX))
 | [], _ => some []
 | x :: xs, ms => (trX c x).bind fun p => (trA c xs ms.tail).bind fun ps => some ((ms.headD 0, p) :: ps)
def trS (c : Cfg) : List (Nat × Operand) → Option (List (Nat × PX))
 | [] => some []
 | (i, x) :: xs => (trX c x).bind fun p => (trS c xs).bind fun ps => some ((i, p) :: ps)
def trO (c : Cfg) : Option Operand → Option (Option PX)
 | none => some none
 | some x => (trX c x).map some
def trP (c : Cfg) (pl : Nat → Option (Nat × Nat)) : List (Nat × Operand) → Option (List (Nat × Nat × PX))
 | [] => some []
 | (i, x) :: xs => (pl i).bind fun q => (trX c x).bind fun p => (trP c pl xs).bind fun ps => some ((q.1, q.2, p) :: ps)
def shapeOf (P : Program) (t : TypeId) : Option (Bool × Nat) :=
 match P.underlying t, P.info? t with
 | some d, some i => some (isRowD d, i.size)
 | _, _ => none
def zeroOf (P : Program) (t : TypeId) : Option (List D) :=
 match P.info? t with
 | some i => match i.zero with
  | some z => valDs z.cells.toList
  | none => none
 | none => none
def trBuild (P : Program) (c : Cfg) (t : TypeId) (parts : List (Nat × Operand)) : Option POp :=
 match P.info? t, P.underlying t with
 | some it, some (.array _ e) =>
  match it.zero, P.info? e with
  | some z, some ie => (valDs z.cells.toList).bind fun zs => (trP c (fun i => some (i * ie.size, ie.size)) parts).bind fun ps => some (.build zs ps)
  | _, _ => none
 | some it, some (.struct fields) =>
  match it.zero, fields.toList.mapM (fun f => (P.info? f.type).map fun i => (f.offset, i.size)) with
  | some z, some places => (valDs z.cells.toList).bind fun zs => (trP c (places.toArray[·]?) parts).bind fun ps => some (.build zs ps)
  | _, _ => none
 | _, _ => none
def trEq (P : Program) (c : Cfg) (op : BinOp) (neg : Bool) (t : TypeId) (x y : Operand) : Option POp :=
 match P.underlying t with
 | some .bool => (trX c x).bind fun px => (trX c y).bind fun py => some (POp.eqB neg px py)
 | some (.slice _) => match y with
  | .const (.slice none 0 0) => (trX c x).bind fun px => some (.eqNS neg px)
  | _ => none
 | some (.pointer _) => match y with
  | .const (.pointer none) => (trX c x).bind fun px => some (.eqNP neg px)
  | _ => none
 | some (.int _) => (trX c x).bind fun px => (trX c y).bind fun py => some (.bin op px py)
 | some .string => (trX c x).bind fun px => (trX c y).bind fun py => some (.bin op px py)
 | some (.float _) => (trX c x).bind fun px => (trX c y).bind fun py => some (.bin op px py)
 | some td => if isRowD td = true ∧ P.eqGuardType P.depth t = false then (lay P 50 t).bind fun ks => (trX c x).bind fun px => (trX c y).bind fun py => some (.eqA neg ks px py) else none
 | _ => none
def trBin (P : Program) (c : Cfg) (op : BinOp) (t : TypeId) (x y : Operand) : Option POp :=
 match op with
 | .eql => trEq P c op false t x y
 | .neq => trEq P c op true t x y
 | _ => (trX c x).bind fun px => (trX c y).bind fun py => some (.bin op px py)
def srcOk (P : Program) (u : TypeId) : Bool := match P.underlying u with | some (.slice _) => true | some .string => true | _ => false
def fnOkB (P : Program) (f : Nat) : Bool := match P.funcs[f]? with | some fn => !(fn.name == "runtime.NumGoroutine") && !fn.body.isNone | none => false
def trCall (P : Program) (c : Cfg) (o : Call) : Option POp :=
 match o.callee, o.args.toList, o.argTypes.toList with
 | .builtin .len, [x], [t] =>
  match P.underlying t with
  | some .string => (trX c x).map .lenS
  | some (.slice _) => (trX c x).map .len
  | _ => none
 | .builtin .append, [x, y], [t, u] =>
  match P.underlying t with
  | some (.slice e) => match P.info? e with
   | some i => match i.zero with
    | some z => if 0 < i.size ∧ z.cells.size = i.size ∧ srcOk P u = true then
      (trX c x).bind fun px => (trX c y).bind fun py => some (.append i.size i.bytes px py)
     else none
    | none => none
   | none => none
  | _ => none
 | .builtin .max, x :: xs, _ => (trX c x).bind fun px => (trXs c xs).map (.minmax true px)
 | .builtin .min, x :: xs, _ => (trX c x).bind fun px => (trXs c xs).map (.minmax false px)
 | .value (.func f), xs, _ => match c.ext f, xs with
  | some true, [x] => (trX c x).map .bits
  | some false, [x] => (trX c x).map .ofBits
  | _, _ => (c.fi f).bind fun p => if c.fm p = f ∧ fnOkB P f = true then
   (if c.heapy p then (trXs c xs).map (.callH p) else (trA c xs (c.modes p)).map (.call p)) else none
 | .value x, xs, _ => (trX c x).bind fun px => if (c.fns.all fun p => fnOkB P (c.fm p)) = true then (trA c xs []).map (.callV c.fns px) else none
 | _, _, _ => none
def trOp (P : Program) (c : Cfg) : Op → Option POp
 | .move x | .assign x => (trX c x).map .mv
 | .pick a x y => (trX c a).bind fun pa => (trX c x).bind fun px => (trX c y).bind fun py => some (.pick pa px py)
 | .alloc e => (zeroOf P e).map .alloc
 | .box e x => (trX c x).bind fun px => (P.info? e).map fun i => .box i.size px
 | .build t parts => trBuild P c t parts.toList
 | .buildSlice t n parts => match P.underlying t with
  | some (.slice e) => match P.info? e with
   | some i => (zeroOf P e).bind fun zs => if 0 < i.size ∧ zs.length = i.size ∧ n * i.size ≤ 16777216 then (trS c parts.toList).map (.buildSlice i.size n zs) else none
   | none => none
  | _ => none
 | .load t x => (shapeOf P t).bind fun s => (trX c x).map (.load s.1 s.2)
 | .store t x y => (P.info? t).bind fun i => (trX c x).bind fun px => (trX c y).map (.store i.size px)
 | .nilCheck x => (trX c x).map .nilCheck
 | .binOp op t x y _ => trBin P c op t x y
 | .unOp op _ x => (trX c x).map (.un op)
 | .convert s d x => match P.underlying s, P.underlying d with
  | some (.slice e), some .string => match P.underlying e with
   | some (.int .u8) => (trX c x).map (.conv .bytesStr)
   | _ => none
  | some .string, some (.slice e) => match P.underlying e with
   | some (.int .u8) => (trX c x).map (.conv .strBytes)
   | _ => none
  | some (.slice e), some (.slice _) => match P.underlying e with
   | some (.int .u8) => if s = d then (trX c x).map .mark else none
   | _ => none
  | some (.int _), some (.int k) => (trX c x).map (.conv (.toInt k))
  | some (.int _), some (.float .f64) => (trX c x).map (.conv .toFlt)
  | _, _ => none
 | .makeSlice t x y => match P.underlying t with
  | some (.slice e) => match P.info? e with
   | some i => (zeroOf P e).bind fun zs => if 0 < i.size ∧ zs.length = i.size then (trX c x).bind fun px => (trX c y).map (.makeSlice i.size i.bytes zs px) else none
   | none => none
  | _ => none
 | .slice t x lo hi none => match P.underlying t with
  | some (.slice e) => match P.info? e with
   | some i => (trX c x).bind fun px => (trO c lo).bind fun pl => (trO c hi).map (.slice i.size px pl)
   | none => none
  | some .string => (trX c x).bind fun px => (trO c lo).bind fun pl => (trO c hi).map (.sliceS px pl)
  | _ => none
 | .fieldAddr s x f => match P.underlying s with
  | some (.struct fs) => match fs[f]? with
   | some fd => match P.info? fd.type with
    | some i => if 0 < i.size then (trX c x).map (.fieldAddr fd.offset i.size) else none
    | none => none
   | none => none
  | _ => none
 | .field s x f => match P.underlying s with
  | some (.struct fs) => match fs[f]? with
   | some fd => (shapeOf P fd.type).bind fun h => (trX c x).map (.field h.1 fd.offset h.2)
   | none => none
  | _ => none
 | .indexAddr t x i => match P.underlying t with
  | some (.slice e) => (P.info? e).bind fun it => (trX c x).bind fun px => (trX c i).map (.indexAddr it.size px)
  | some (.array n e) => (P.info? e).bind fun it => (trX c x).bind fun px => (trX c i).map (.indexAddrA it.size n px)
  | _ => none
 | .index t x i => match P.underlying t with
  | some (.array n e) => (shapeOf P e).bind fun h => (trX c x).bind fun px => (trX c i).map (.index h.1 h.2 n px)
  | some .string => (trX c x).bind fun px => (trX c i).map (.indexS px)
  | _ => none
 | .extract x i => (trX c x).map fun px => .extract px i
 | .call o => trCall P c o
 | _ => none
def need (P : Program) (t : TypeId) : POp → Nat
 | .alloc _ | .box _ _ | .buildSlice _ _ _ _ | .makeSlice _ _ _ _ _ | .append _ _ _ _ => 1
 | .call _ _ => match P.underlying t with
  | some (.tuple ts) => ts.size
  | some (.slice _) => 1
  | _ => 0
 | _ => 0
def afters (i : Nat) : List Edge → Option (List Nat)
 | [] => some []
 | e :: es => if Region.binds .any e then (if e.on < i then (afters i es).map fun l => e.on :: l else none) else afters i es
def trGuard (ops : Array Oper) : Option (Nat × Bool) → Option (Option (Nat × Bool))
 | none => some none
 | some (j, b) => ((ops[j]?).bind (·.dst)).map fun t => some (t, b)
def trPO (P : Program) (c : Cfg) (draw : Bool) (ops : Array Oper) (i res : Nat) (o : Oper) : Option PO :=
 (trOp P c o.op).bind fun po => (trGuard ops o.guard).bind fun g => (afters i o.after.toList).bind fun l =>
  some ⟨o.dst, po, g, if draw then l else [], res⟩
def trL (P : Program) (c : Cfg) (draw : Bool) (ops : Array Oper) : Nat → Nat → List Oper → Option (List PO × Nat)
 | _, res, [] => some ([], res)
 | i, res, o :: l => (trPO P c draw ops i res o).bind fun p => (trL P c draw ops (i + 1) (res + need P o.type p.op) l).bind fun x => some (p :: x.1, x.2)
def pairOkD (p q : PO) (j : Nat) : Bool :=
 q.after.contains j ||
 ((match p.dst with | some t => !q.uses.contains t && !(q.dst == some t) | none => true) && (match q.dst with | some t => !p.uses.contains t | none => true))
def drawRow (q : PO) : List PO → Nat → Bool
 | [], _ => true
 | p :: ps, j => pairOkD p q j && drawRow q ps (j + 1)
def drawAll : List PO → List PO → Bool
 | _, [] => true
 | pre, q :: qs => drawRow q pre 0 && drawAll (pre ++ [q]) qs
def closeA (acc : List PO) (l : List Nat) : List Nat := (l ++ l.flatMap fun j => (pAt acc j).after).eraseDups
def closeL : List PO → List PO → List PO
 | _, [] => []
 | acc, p :: ps => { p with after := closeA acc p.after } :: closeL (acc ++ [{ p with after := closeA acc p.after }]) ps
def trC (P : Program) (c : Cfg) : Code → Option PC
 | .skip => some .skip
 | .label _ => some .skip
 | .region _ ops draw => (trL P c draw ops 0 0 ops.toList).bind fun x => if draw then (if drawAll [] (closeL [] x.1) then some (.region true x.2 (closeL [] x.1)) else none) else some (.region false x.2 x.1)
 | .seq x y => (trC P c x).bind fun px => (trC P c y).bind fun py => some (.seq px py)
 | .cond a x y => (trX c a).bind fun pa => (trC P c x).bind fun px => (trC P c y).bind fun py => some (.cond pa px py)
 | .block id x => (trC P c x).bind fun px => some (.block id px)
 | .loop x => (trC P c x).bind fun px => some (.loop px)
 | .exit id => some (.exit id)
 | .ret => some .ret
 | _ => none
def trRs (P : Program) : List ResultVar → Option (List PR)
 | [] => some []
 | .tmp t :: rs => (trRs P rs).bind fun ps => some (.tmp t :: ps)
 | .cell a t :: rs => (shapeOf P t).bind fun h => (trRs P rs).bind fun ps => some (.cell h.1 h.2 a :: ps)
def trF (P : Program) (c : Cfg) (fn : Func) : Option PF :=
 match fn.body with
 | some b => (trC P c b).bind fun pb => (trRs P fn.results.toList).bind fun rs => some ⟨fn.ntmps, rs, pb, none⟩
 | none => none
section
variable {P : Program} {c : Cfg}
theorem valD_ok {v : Value} {d : D} (h : valD v = some d) : ClosedV c.fm v d ∧ v.oneCell' = true := by
 unfold valD at h
 split at h <;> first | (injection h with h; subst h) | (cases h)
 ·exact ⟨fun _ _ => .bool _, rfl⟩
 ·exact ⟨fun _ _ => .int _ _, rfl⟩
 ·exact ⟨fun _ _ => .flt _ _ rfl, rfl⟩
 ·rename_i s
  refine ⟨fun _ _ => ?_, rfl⟩
  have : s = ⟨s.data.toList.toArray⟩ := by cases s; simp
  rw [this]
  exact .str _
 ·exact ⟨fun _ _ => .nil, rfl⟩
 ·exact ⟨fun _ _ => .nilp, rfl⟩
theorem valDs_ok : ∀ {vs : List Value} {ds : List D}, valDs vs = some ds → CR (ClosedV c.fm) vs ds
 | [], ds, h => by
  simp only [valDs, Option.some.injEq] at h
  subst h
  exact ⟨rfl, by simp⟩
 | v :: vs, ds, h => by
  simp only [valDs, Option.bind_eq_some_iff, Option.some.injEq] at h
  obtain ⟨d, h1, ds', h2, rfl⟩ := h
  obtain ⟨k1, k2⟩ := valDs_ok h2
  obtain ⟨g1, g2⟩ := valD_ok (c := c) h1
  refine ⟨by simp [k1], fun j e hj => ?_⟩
  cases j with
  | zero => simp at hj; subst hj; exact ⟨v, rfl, g2, g1⟩
  | succ j =>
   obtain ⟨u, a1, a2, a3⟩ := k2 j e (by simpa using hj)
   exact ⟨u, by simpa using a1, a2, a3⟩
theorem valA_ok {v : Value} {d : D} (h : valA v = some d) : ClosedV c.fm v d := by
 unfold valA at h
 split at h
 ·rename_i cs
  simp only [Option.map_eq_some_iff] at h
  obtain ⟨ds, h1, rfl⟩ := h
  have := valDs_ok (c := c) h1
  intro ok w
  have h2 := repC_agg_of (fm := c.fm) (ok := ok) (w := w) cs.toList (this.mono (fun v d h => h ok w))
  simpa using h2
 ·exact (valD_ok h).1
theorem trX_ok {x : Operand} {p : PX} (h : trX c x = some p) : TrX c.fm x p := by
 unfold trX at h
 split at h
 ·injection h with h; subst h; exact .tmp _
 ·simp only [Option.map_eq_some_iff] at h
  obtain ⟨d, h1, rfl⟩ := h
  exact .const _ _ (valA_ok h1)
 ·simp only [Option.bind_eq_some_iff] at h
  obtain ⟨p', h1, h2⟩ := h
  split at h2
  ·rename_i e
   injection h2 with h2; subst h2
   exact .func _ _ e
  ·cases h2
 ·cases h
theorem trXs_ok : ∀ {xs : List Operand} {ps : List PX}, trXs c xs = some ps → TrXs c.fm xs ps
 | [], ps, h => by simp only [trXs, Option.some.injEq] at h; subst h; exact .nil
 | x :: xs, ps, h => by
  simp only [trXs, Option.bind_eq_some_iff, Option.some.injEq] at h
  obtain ⟨p, h1, ps', h2, rfl⟩ := h
  exact .cons (trX_ok h1) (trXs_ok h2)
theorem trA_ok : ∀ {xs : List Operand} {ms : List Nat} {ps : List (Nat × PX)}, trA c xs ms = some ps → TrA c.fm xs ps
 | [], ms, ps, h => by simp only [trA, Option.some.injEq] at h; subst h; exact .nil
 | x :: xs, ms, ps, h => by
  simp only [trA, Option.bind_eq_some_iff, Option.some.injEq] at h
  obtain ⟨p, h1, ps', h2, rfl⟩ := h
  exact .cons (trX_ok h1) (trA_ok h2)
theorem trS_ok : ∀ {xs : List (Nat × Operand)} {ps : List (Nat × PX)}, trS c xs = some ps → TrS c.fm xs ps
 | [], ps, h => by simp only [trS, Option.some.injEq] at h; subst h; exact .nil
 | (i, x) :: xs, ps, h => by
  simp only [trS, Option.bind_eq_some_iff, Option.some.injEq] at h
  obtain ⟨p, h1, ps', h2, rfl⟩ := h
  exact .cons (trX_ok h1) (trS_ok h2)
theorem trO_ok {x : Option Operand} {p : Option PX} (h : trO c x = some p) : TrO c.fm x p := by
 cases x with
 | none => simp only [trO, Option.some.injEq] at h; subst h; exact .none
 | some x =>
  simp only [trO, Option.map_eq_some_iff] at h
  obtain ⟨q, h1, rfl⟩ := h
  exact .some (trX_ok h1)
theorem trP_ok {pl : Nat → Option (Nat × Nat)} : ∀ {xs : List (Nat × Operand)} {ps : List (Nat × Nat × PX)}, trP c pl xs = some ps → TrP c.fm pl xs ps
 | [], ps, h => by simp only [trP, Option.some.injEq] at h; subst h; exact .nil
 | (i, x) :: xs, ps, h => by
  simp only [trP, Option.bind_eq_some_iff, Option.some.injEq] at h
  obtain ⟨q, h0, p, h1, ps', h2, rfl⟩ := h
  exact .cons h0 (trX_ok h1) (trP_ok h2)
theorem shapeOf_ok {t : TypeId} {s : Bool × Nat} (h : shapeOf P t = some s) : Shape P t s.1 s.2 := by
 unfold shapeOf at h
 split at h
 ·rename_i d i h1 h2
  injection h with h; subst h
  exact ⟨d, i, h1, rfl, h2, rfl⟩
 ·cases h
theorem zeroOf_ok {t : TypeId} {zs : List D} (h : zeroOf P t = some zs) : ∃ i z, P.info? t = some i ∧ i.zero = some z ∧ CR (ClosedV c.fm) z.cells.toList zs := by
 unfold zeroOf at h
 split at h
 ·rename_i i h1
  split at h
  ·rename_i z h2
   exact ⟨i, z, h1, h2, valDs_ok h⟩
  ·cases h
 ·cases h
theorem trBuild_ok {t : TypeId} {parts : Array (Nat × Operand)} {po : POp} (h : trBuild P c t parts.toList = some po) : TrOp P c.fm (.build t parts) po := by
 unfold trBuild at h
 split at h
 ·rename_i it n e h1 h2
  split at h
  ·rename_i z ie h3 h4
   simp only [Option.bind_eq_some_iff, Option.some.injEq] at h
   obtain ⟨zs, h5, ps, h6, rfl⟩ := h
   exact .build (fun l => by simp only [Program.built, h1, h2, h3, h4]) (valDs_ok h5) (trP_ok h6)
  ·cases h
 ·rename_i it fields h1 h2
  split at h
  ·rename_i z places h3 h4
   simp only [Option.bind_eq_some_iff, Option.some.injEq] at h
   obtain ⟨zs, h5, ps, h6, rfl⟩ := h
   exact .build (fun l => by simp only [Program.built, h1, h2, h3, h4]) (valDs_ok h5) (trP_ok h6)
  ·cases h
 ·cases h
theorem trEq_ok {op : BinOp} {neg : Bool} {t u : TypeId} {x y : Operand} {po : POp} (hop : op = (if neg then .neq else .eql)) (h : trEq P c op neg t x y = some po) :
  TrOp P c.fm (.binOp op t x y u) po := by
 unfold trEq at h
 split at h
 ·rename_i ht
  simp only [Option.bind_eq_some_iff, Option.some.injEq] at h
  obtain ⟨px, h1, py, h2, rfl⟩ := h
  rw [hop]
  exact .eqB ht (trX_ok h1) (trX_ok h2)
 ·rename_i e ht
  split at h
  ·simp only [Option.bind_eq_some_iff, Option.some.injEq] at h
   obtain ⟨px, h1, rfl⟩ := h
   rw [hop]
   exact .eqNs ht (trX_ok h1)
  ·cases h
 ·rename_i e ht
  split at h
  ·simp only [Option.bind_eq_some_iff, Option.some.injEq] at h
   obtain ⟨px, h1, rfl⟩ := h
   rw [hop]
   exact .eqNp ht (trX_ok h1)
  ·cases h
 ·simp only [Option.bind_eq_some_iff, Option.some.injEq] at h
  obtain ⟨px, h1, py, h2, rfl⟩ := h
  exact .bin (trX_ok h1) (trX_ok h2)
 ·simp only [Option.bind_eq_some_iff, Option.some.injEq] at h
  obtain ⟨px, h1, py, h2, rfl⟩ := h
  exact .bin (trX_ok h1) (trX_ok h2)
 ·simp only [Option.bind_eq_some_iff, Option.some.injEq] at h
  obtain ⟨px, h1, py, h2, rfl⟩ := h
  exact .bin (trX_ok h1) (trX_ok h2)
 ·rename_i td _ _ _ _ _ _ ht
  split at h
  ·rename_i hc
   simp only [Option.bind_eq_some_iff, Option.some.injEq] at h
   obtain ⟨ks, h0, px, h1, py, h2, rfl⟩ := h
   rw [hop]
   exact .eqA ht hc.1 hc.2 h0 (by decide) (trX_ok h1) (trX_ok h2)
  ·cases h
 ·cases h
theorem trBin_ok {op : BinOp} {t u : TypeId} {x y : Operand} {po : POp} (h : trBin P c op t x y = some po) : TrOp P c.fm (.binOp op t x y u) po := by
 unfold trBin at h
 split at h
 ·exact trEq_ok (neg := false) rfl h
 ·exact trEq_ok (neg := true) rfl h
 ·simp only [Option.bind_eq_some_iff, Option.some.injEq] at h
  obtain ⟨px, h1, py, h2, rfl⟩ := h
  exact .bin (trX_ok h1) (trX_ok h2)
theorem srcOk_ok {u : TypeId} (h : srcOk P u = true) : (∃ e, P.underlying u = some (.slice e)) ∨ P.underlying u = some .string := by
 unfold srcOk at h
 split at h
 ·exact .inl ⟨_, by assumption⟩
 ·exact .inr (by assumption)
 ·cases h
theorem fnOkB_ok {f : Nat} (h : fnOkB P f = true) : FnOk P f := by
 unfold fnOkB at h
 split at h
 ·rename_i fn hfn
  simp only [Bool.and_eq_true, Bool.not_eq_true'] at h
  exact ⟨fn, hfn, h.1, h.2⟩
 ·cases h
theorem trCall_ok (hext : ∀ f b, c.ext f = some b → ExtOk P f b) {o : Call} {po : POp} (h : trCall P c o = some po) : TrAct P c.fm (.call o) po := by
 obtain ⟨callee, args, argTypes⟩ := o
 unfold trCall at h
 split at h
 ·rename_i x t e1 e2 e3
  simp only at e1 e2 e3
  subst e1
  have ha : args = #[x] := by cases args; simp at e2; simp [e2]
  have hat : argTypes = #[t] := by cases argTypes; simp at e3; simp [e3]
  subst ha; subst hat
  split at h
  ·rename_i ht
   simp only [Option.map_eq_some_iff] at h
   obtain ⟨px, h1, rfl⟩ := h
   exact .op (.lenS ht (trX_ok h1))
  ·rename_i e ht
   simp only [Option.map_eq_some_iff] at h
   obtain ⟨px, h1, rfl⟩ := h
   exact .op (.lenR ht (trX_ok h1))
  ·cases h
 ·rename_i x y t u e1 e2 e3
  simp only at e1 e2 e3
  subst e1
  have ha : args = #[x, y] := by cases args; simp at e2; simp [e2]
  have hat : argTypes = #[t, u] := by cases argTypes; simp at e3; simp [e3]
  subst ha; subst hat
  split at h
  ·rename_i e ht
   split at h
   ·rename_i i hi
    split at h
    ·rename_i z hz
     split at h
     ·rename_i hc
      obtain ⟨c1, c2, c3⟩ := hc
      simp only [Option.bind_eq_some_iff, Option.some.injEq] at h
      obtain ⟨px, h1, py, h2, rfl⟩ := h
      exact .op (.append ht (srcOk_ok c3) hi hz rfl c2 rfl c1 (trX_ok h1) (trX_ok h2))
     ·cases h
    ·cases h
   ·cases h
  ·cases h
 ·rename_i x xs e1 e2
  simp only at e1 e2
  subst e1
  have ha : args = (x :: xs).toArray := by cases args; simp at e2; simp [e2]
  subst ha
  simp only [Option.bind_eq_some_iff, Option.map_eq_some_iff] at h
  obtain ⟨px, h1, ps, h2, rfl⟩ := h
  exact .op (.minmax (mx := true) (trX_ok h1) (trXs_ok h2))
 ·rename_i x xs e1 e2
  simp only at e1 e2
  subst e1
  have ha : args = (x :: xs).toArray := by cases args; simp at e2; simp [e2]
  subst ha
  simp only [Option.bind_eq_some_iff, Option.map_eq_some_iff] at h
  obtain ⟨px, h1, ps, h2, rfl⟩ := h
  exact .op (.minmax (mx := false) (trX_ok h1) (trXs_ok h2))
 ·rename_i f e1
  simp only at e1
  subst e1
  split at h
  ·rename_i x hx1 hx2
   have ha : args = #[x] := by cases args; simp at hx2; simp [hx2]
   subst ha
   simp only [Option.map_eq_some_iff] at h
   obtain ⟨px, h1, rfl⟩ := h
   exact .op (.bits (hext _ _ hx1) (trX_ok h1))
  ·rename_i x hx1 hx2
   have ha : args = #[x] := by cases args; simp at hx2; simp [hx2]
   subst ha
   simp only [Option.map_eq_some_iff] at h
   obtain ⟨px, h1, rfl⟩ := h
   exact .op (.ofBits (hext _ _ hx1) (trX_ok h1))
  ·simp only [Option.bind_eq_some_iff] at h
   obtain ⟨p, h1, h2⟩ := h
   split at h2
   ·rename_i hc
    obtain ⟨c1, c2⟩ := hc
    subst c1
    have hf : FnOk P (c.fm p) := fnOkB_ok c2
    have ha : args = args.toList.toArray := by simp
    rw [ha]
    split at h2
    ·simp only [Option.map_eq_some_iff] at h2
     obtain ⟨qs, h3, rfl⟩ := h2
     exact .callH (trXs_ok h3) hf
    ·simp only [Option.map_eq_some_iff] at h2
     obtain ⟨qs, h3, rfl⟩ := h2
     exact .call (trA_ok h3) hf
   ·cases h2
 ·rename_i x e0 e1
  simp only at e1
  subst e1
  simp only [Option.bind_eq_some_iff] at h
  obtain ⟨px, h1, h2⟩ := h
  split at h2
  ·rename_i hc
   simp only [Option.map_eq_some_iff] at h2
   obtain ⟨qs, h3, rfl⟩ := h2
   have ha : args = args.toList.toArray := by simp
   rw [ha]
   rw [List.all_eq_true] at hc
   exact .callV (trX_ok h1) (trA_ok h3) (fun f hf => fnOkB_ok (hc f hf))
  ·cases h2
 ·cases h
theorem trOp_ok (hext : ∀ f b, c.ext f = some b → ExtOk P f b) {op : Op} {po : POp} (h : trOp P c op = some po) : TrAct P c.fm op po := by
 unfold trOp at h
 split at h
 ·simp only [Option.map_eq_some_iff] at h
  obtain ⟨px, h1, rfl⟩ := h
  exact .op (.move (trX_ok h1))
 ·simp only [Option.map_eq_some_iff] at h
  obtain ⟨px, h1, rfl⟩ := h
  exact .op (.assign (trX_ok h1))
 ·simp only [Option.bind_eq_some_iff, Option.some.injEq] at h
  obtain ⟨pa, h1, px, h2, py, h3, rfl⟩ := h
  exact .op (.pick (trX_ok h1) (trX_ok h2) (trX_ok h3))
 ·simp only [Option.map_eq_some_iff] at h
  obtain ⟨zs, h1, rfl⟩ := h
  obtain ⟨i, z, k1, k2, k3⟩ := zeroOf_ok (c := c) h1
  exact .op (.alloc k1 k2 k3)
 ·simp only [Option.bind_eq_some_iff, Option.map_eq_some_iff] at h
  obtain ⟨px, h1, i, h2, rfl⟩ := h
  exact .op (.box (trX_ok h1))
 ·exact .op (trBuild_ok h)
 ·split at h
  ·rename_i e ht
   split at h
   ·rename_i i hi
    simp only [Option.bind_eq_some_iff] at h
    obtain ⟨zs, h1, h2⟩ := h
    split at h2
    ·rename_i hc
     obtain ⟨c1, c2, c3⟩ := hc
     simp only [Option.map_eq_some_iff] at h2
     obtain ⟨qs, h3, rfl⟩ := h2
     obtain ⟨i', z, k1, k2, k3⟩ := zeroOf_ok (c := c) h1
     rw [hi] at k1
     injection k1 with k1
     subst k1
     exact .op (.buildSlice ht hi k2 rfl c1 k3 c2 c3 (trS_ok h3))
    ·cases h2
   ·cases h
  ·cases h
 ·simp only [Option.bind_eq_some_iff, Option.map_eq_some_iff] at h
  obtain ⟨s, h1, px, h2, rfl⟩ := h
  exact .op (.load (shapeOf_ok h1) (trX_ok h2))
 ·simp only [Option.bind_eq_some_iff, Option.map_eq_some_iff] at h
  obtain ⟨i, h1, px, h2, py, h3, rfl⟩ := h
  exact .op (.store (by rw [h1]; rfl) (trX_ok h2) (trX_ok h3))
 ·simp only [Option.map_eq_some_iff] at h
  obtain ⟨px, h1, rfl⟩ := h
  exact .op (.nilCheck (trX_ok h1))
 ·exact .op (trBin_ok h)
 ·simp only [Option.map_eq_some_iff] at h
  obtain ⟨px, h1, rfl⟩ := h
  exact .op (.un (trX_ok h1))
 ·split at h
  ·rename_i e hs hd
   split at h
   ·rename_i he
    simp only [Option.map_eq_some_iff] at h
    obtain ⟨px, h1, rfl⟩ := h
    exact .op (.convBS hs he hd (trX_ok h1))
   ·cases h
  ·rename_i e hs hd
   split at h
   ·rename_i he
    simp only [Option.map_eq_some_iff] at h
    obtain ⟨px, h1, rfl⟩ := h
    exact .op (.convSB hs hd he (trX_ok h1))
   ·cases h
  ·rename_i e e' hs hd
   split at h
   ·rename_i he
    split at h
    ·rename_i hsd
     subst hsd
     simp only [Option.map_eq_some_iff] at h
     obtain ⟨px, h1, rfl⟩ := h
     exact .op (.mark hs he (trX_ok h1))
    ·cases h
   ·cases h
  ·rename_i k1 k2 hs hd
   simp only [Option.map_eq_some_iff] at h
   obtain ⟨px, h1, rfl⟩ := h
   exact .op (.convInt (by rw [hs]; rfl) hd (trX_ok h1))
  ·rename_i k1 hs hd
   simp only [Option.map_eq_some_iff] at h
   obtain ⟨px, h1, rfl⟩ := h
   exact .op (.toFlt (by rw [hs]; rfl) hd (trX_ok h1))
  ·cases h
 ·split at h
  ·rename_i e ht
   split at h
   ·rename_i i hi
    simp only [Option.bind_eq_some_iff] at h
    obtain ⟨zs, h1, h2⟩ := h
    split at h2
    ·rename_i hc
     obtain ⟨c1, c2⟩ := hc
     simp only [Option.bind_eq_some_iff, Option.map_eq_some_iff] at h2
     obtain ⟨px, h3, py, h4, rfl⟩ := h2
     obtain ⟨i', z, k1, k2, k3⟩ := zeroOf_ok (c := c) h1
     rw [hi] at k1
     injection k1 with k1
     subst k1
     exact .op (.makeSlice ht hi k2 rfl rfl c1 k3 c2 (trX_ok h3) (trX_ok h4))
    ·cases h2
   ·cases h
  ·cases h
 ·split at h
  ·rename_i e ht
   split at h
   ·rename_i i hi
    simp only [Option.bind_eq_some_iff, Option.map_eq_some_iff] at h
    obtain ⟨px, h1, pl, h2, ph, h3, rfl⟩ := h
    exact .op (.slice ht hi rfl (trX_ok h1) (trO_ok h2) (trO_ok h3))
   ·cases h
  ·rename_i ht
   simp only [Option.bind_eq_some_iff, Option.map_eq_some_iff] at h
   obtain ⟨px, h1, pl, h2, ph, h3, rfl⟩ := h
   exact .op (.sliceS ht (trX_ok h1) (trO_ok h2) (trO_ok h3))
  ·cases h
 ·split at h
  ·rename_i fs ht
   split at h
   ·rename_i fd hf
    split at h
    ·rename_i i hi
     split at h
     ·rename_i h0
      simp only [Option.map_eq_some_iff] at h
      obtain ⟨px, h1, rfl⟩ := h
      exact .op (.fieldAddr ht hf rfl (by rw [hi]; rfl) h0 (trX_ok h1))
     ·cases h
    ·cases h
   ·cases h
  ·cases h
 ·split at h
  ·rename_i fs ht
   split at h
   ·rename_i fd hf
    simp only [Option.bind_eq_some_iff, Option.map_eq_some_iff] at h
    obtain ⟨s, h1, px, h2, rfl⟩ := h
    exact .op (.field ht hf rfl (shapeOf_ok h1) (trX_ok h2))
   ·cases h
  ·cases h
 ·split at h
  ·rename_i e ht
   simp only [Option.bind_eq_some_iff, Option.map_eq_some_iff] at h
   obtain ⟨i, h1, px, h2, pi, h3, rfl⟩ := h
   exact .op (.indexAddr ht (by rw [h1]; rfl) (trX_ok h2) (trX_ok h3))
  ·rename_i n e ht
   simp only [Option.bind_eq_some_iff, Option.map_eq_some_iff] at h
   obtain ⟨i, h1, px, h2, pi, h3, rfl⟩ := h
   exact .op (.indexAddrA ht (by rw [h1]; rfl) (trX_ok h2) (trX_ok h3))
  ·cases h
 ·split at h
  ·rename_i n e ht
   simp only [Option.bind_eq_some_iff, Option.map_eq_some_iff] at h
   obtain ⟨s, h1, px, h2, pi, h3, rfl⟩ := h
   exact .op (.index ht (shapeOf_ok h1) (trX_ok h2) (trX_ok h3))
  ·rename_i ht
   simp only [Option.bind_eq_some_iff, Option.map_eq_some_iff] at h
   obtain ⟨px, h2, pi, h3, rfl⟩ := h
   exact .op (.indexS ht (trX_ok h2) (trX_ok h3))
  ·cases h
 ·simp only [Option.map_eq_some_iff] at h
  obtain ⟨px, h1, rfl⟩ := h
  exact .op (.extract (trX_ok h1))
 ·exact trCall_ok hext h
 ·cases h
theorem afters_ok : ∀ {es : List Edge} {i : Nat} {l : List Nat}, afters i es = some l → (∀ k ∈ l, ∃ e ∈ es, e.on = k ∧ Region.binds .any e = true) ∧ ∀ e ∈ es, Region.binds .any e = true → e.on < i
 | [], i, l, h => by simp only [afters, Option.some.injEq] at h; subst h; simp
 | e :: es, i, l, h => by
  simp only [afters] at h
  split at h
  ·rename_i hb
   split at h
   ·rename_i hlt
    simp only [Option.map_eq_some_iff] at h
    obtain ⟨l', h1, rfl⟩ := h
    obtain ⟨k1, k2⟩ := afters_ok h1
    refine ⟨fun k hk => ?_, fun e' he' hb' => ?_⟩
    ·simp only [List.mem_cons] at hk
     rcases hk with rfl | hk
     ·exact ⟨e, by simp, rfl, hb⟩
     ·obtain ⟨e', a1, a2, a3⟩ := k1 k hk
      exact ⟨e', by simp [a1], a2, a3⟩
    ·simp only [List.mem_cons] at he'
     rcases he' with rfl | he'
     ·exact hlt
     ·exact k2 e' he' hb'
   ·cases h
  ·rename_i hb
   obtain ⟨k1, k2⟩ := afters_ok h
   refine ⟨fun k hk => ?_, fun e' he' hb' => ?_⟩
   ·obtain ⟨e', a1, a2, a3⟩ := k1 k hk
    exact ⟨e', by simp [a1], a2, a3⟩
   ·simp only [List.mem_cons] at he'
    rcases he' with rfl | he'
    ·exact absurd hb' hb
    ·exact k2 e' he' hb'
theorem trPO_ok (hext : ∀ f b, c.ext f = some b → ExtOk P f b) {draw : Bool} {ops : Array Oper} {i res : Nat} {o : Oper} {p : PO} (h : trPO P c draw ops i res o = some p) (ho : ops[i]? = some o) : TrPO P c.fm ops i o p := by
 unfold trPO at h
 simp only [Option.bind_eq_some_iff, Option.some.injEq] at h
 obtain ⟨po, h1, g, h2, l, h3, rfl⟩ := h
 obtain ⟨k1, k2⟩ := afters_ok h3
 refine ⟨rfl, trOp_ok hext h1, ?_, fun k hk => ?_, k2⟩
 ·unfold trGuard at h2
  split at h2
  ·rename_i hg
   injection h2 with h2; subst h2
   exact .inl ⟨hg, rfl⟩
  ·rename_i j b hg
   simp only [Option.map_eq_some_iff] at h2
   obtain ⟨t, h4, rfl⟩ := h2
   exact .inr ⟨j, b, t, hg, rfl, h4⟩
 ·cases draw
  ·cases hk
  ·obtain ⟨e, he, rfl, hb⟩ := k1 k hk
   exact .one ho he hb
theorem trL_ok (hext : ∀ f b, c.ext f = some b → ExtOk P f b) {draw : Bool} {ops : Array Oper} : ∀ {l : List Oper} {i res : Nat} {x : List PO × Nat}, (∀ k o, l[k]? = some o → ops[i + k]? = some o) → trL P c draw ops i res l = some x → TrL P c.fm ops i l x.1
 | [], i, res, x, _, h => by simp only [trL, Option.some.injEq] at h; subst h; exact .nil
 | o :: l, i, res, x, hl, h => by
  simp only [trL, Option.bind_eq_some_iff, Option.some.injEq] at h
  obtain ⟨p, h1, y, h2, rfl⟩ := h
  refine .cons (trPO_ok hext h1 (hl 0 o rfl)) (trL_ok hext (fun k o' hk => ?_) h2)
  have := hl (k + 1) o' (by simpa using hk)
  rwa [show i + 1 + k = i + (k + 1) by omega]
theorem closeL_ok {fm : Nat → Nat} {ops : Array Oper} : ∀ {l : List Oper} {ps acc : List PO} {i : Nat}, acc.length = i → (∀ j, j < i → ∀ k ∈ (pAt acc j).after, Reach ops k j) → TrL P fm ops i l ps → TrL P fm ops i l (closeL acc ps)
 | [], [], acc, i, _, _, .nil => .nil
 | o :: l, p :: ps, acc, i, hi, ha, .cons h hs => by
  have hp : ∀ k ∈ closeA acc p.after, Reach ops k i := by
   intro k hk
   unfold closeA at hk
   rw [List.mem_eraseDups, List.mem_append, List.mem_flatMap] at hk
   rcases hk with hk | ⟨j, hj, hk⟩
   ·exact h.after k hk
   ·by_cases hji : j < i
    ·exact .trans (ha j hji k hk) (h.after j hj)
    ·exfalso
     unfold pAt at hk
     rw [List.getD_eq_getElem?_getD, List.getElem?_eq_none (by omega)] at hk
     cases hk
  refine .cons ⟨h.dst, h.op, h.guard, hp, h.lt⟩ (closeL_ok (i := i + 1) (by simp [hi]) (fun j hj k hk => ?_) hs)
  by_cases e : j = i
  ·subst e
   have : pAt (acc ++ [{ p with after := closeA acc p.after }]) j = { p with after := closeA acc p.after } := by unfold pAt; simp [← hi]
   rw [this] at hk
   exact hp k hk
  ·have : pAt (acc ++ [{ p with after := closeA acc p.after }]) j = pAt acc j := by
    unfold pAt
    rw [List.getD_eq_getElem?_getD, List.getD_eq_getElem?_getD, List.getElem?_append_left (by omega)]
   rw [this] at hk
   exact ha j (by omega) k hk
theorem pairOkD_ok {p q : PO} {j : Nat} (h : pairOkD p q j = true) (hc : (∃ t, p.dst = some t ∧ (t ∈ q.uses ∨ q.dst = some t)) ∨ (∃ t, q.dst = some t ∧ t ∈ p.uses)) : j ∈ q.after := by
 unfold pairOkD at h
 simp only [Bool.or_eq_true, List.contains_eq_mem, decide_eq_true_eq, Bool.and_eq_true] at h
 rcases h with h | ⟨h1, h2⟩
 ·exact h
 ·exfalso
  rcases hc with ⟨t, e, hu | hu⟩ | ⟨t, e, hu⟩
  ·rw [e] at h1; simp [hu] at h1
  ·rw [e] at h1; simp [hu] at h1
  ·rw [e] at h2; simp [hu] at h2
theorem drawRow_ok {q : PO} : ∀ {pre : List PO} {j : Nat}, drawRow q pre j = true → ∀ k p, pre[k]? = some p → pairOkD p q (j + k) = true
 | [], j, _, k, p, h => by simp at h
 | p0 :: pre, j, h, k, p, hk => by
  simp only [drawRow, Bool.and_eq_true] at h
  cases k with
  | zero => simp at hk; subst hk; exact h.1
  | succ k =>
   have := drawRow_ok h.2 k p (by simpa using hk)
   rw [show j + (k + 1) = j + 1 + k by omega]; exact this
theorem drawAll_ok : ∀ {qs pre : List PO}, drawAll pre qs = true → ∀ j k, j < k → pre.length ≤ k → k < (pre ++ qs).length → ((∃ t, (pAt (pre ++ qs) j).dst = some t ∧ (t ∈ (pAt (pre ++ qs) k).uses ∨ (pAt (pre ++ qs) k).dst = some t)) ∨
  (∃ t, (pAt (pre ++ qs) k).dst = some t ∧ t ∈ (pAt (pre ++ qs) j).uses)) → j ∈ (pAt (pre ++ qs) k).after
 | [], pre, _, j, k, h1, h2, h3, _ => by simp at h3; omega
 | q :: qs, pre, h, j, k, h1, h2, h3, hc => by
  simp only [drawAll, Bool.and_eq_true] at h
  by_cases e : k = pre.length
  ·subst e
   have hq : pAt (pre ++ q :: qs) pre.length = q := by simp [pAt]
   have hp : pAt (pre ++ q :: qs) j = pAt pre j := by
    unfold pAt
    rw [List.getD_eq_getElem?_getD, List.getD_eq_getElem?_getD, List.getElem?_append_left h1]
   rw [hq, hp] at hc
   rw [hq]
   have hj : pre[j]? = some (pAt pre j) := by unfold pAt; rw [List.getD_eq_getElem?_getD, List.getElem?_eq_getElem h1]; rfl
   have := drawRow_ok h.1 j _ hj
   rw [Nat.zero_add] at this
   exact pairOkD_ok this hc
  ·have ha : pre ++ q :: qs = (pre ++ [q]) ++ qs := by simp
   rw [ha] at h3 hc ⊢
   exact drawAll_ok h.2 j k h1 (by simp; omega) h3 hc
theorem trC_ok (hext : ∀ f b, c.ext f = some b → ExtOk P f b) : ∀ {x : Code} {p : PC}, trC P c x = some p → TrC P c.fm x p := by
 intro x
 induction x with
 | skip => intro p h; simp only [trC, Option.some.injEq] at h; subst h; exact .skip
 | label l => intro p h; simp only [trC, Option.some.injEq] at h; subst h; exact .label l
 | region id ops draw =>
  intro p h
  simp only [trC, Option.bind_eq_some_iff] at h
  obtain ⟨x, h1, h2⟩ := h
  split at h2
  ·rename_i hd
   subst hd
   split at h2
   ·rename_i hall
    simp only [Option.some.injEq] at h2
    subst h2
    refine .regionD (closeL_ok (ps := x.1) rfl (fun j hj => by omega) (trL_ok hext (fun k o hk => by rw [Nat.zero_add, ← Array.getElem?_toList]; exact hk) h1)) (fun j k hjk hk hc => ?_)
    have := drawAll_ok hall j k hjk (Nat.zero_le _) (by simpa using hk) (by simpa using hc)
    simpa using this
   ·cases h2
  ·rename_i hd
   have hd' : draw = false := by simpa using hd
   subst hd'
   simp only [Option.some.injEq] at h2
   subst h2
   exact .region (trL_ok hext (fun k o hk => by rw [Nat.zero_add, ← Array.getElem?_toList]; exact hk) h1)
 | seq x y ihx ihy =>
  intro p h
  simp only [trC, Option.bind_eq_some_iff, Option.some.injEq] at h
  obtain ⟨px, h1, py, h2, rfl⟩ := h
  exact .seq (ihx h1) (ihy h2)
 | cond a x y ihx ihy =>
  intro p h
  simp only [trC, Option.bind_eq_some_iff, Option.some.injEq] at h
  obtain ⟨pa, h0, px, h1, py, h2, rfl⟩ := h
  exact .cond (trX_ok h0) (ihx h1) (ihy h2)
 | block id x ih =>
  intro p h
  simp only [trC, Option.bind_eq_some_iff, Option.some.injEq] at h
  obtain ⟨px, h1, rfl⟩ := h
  exact .block (ih h1)
 | loop x ih =>
  intro p h
  simp only [trC, Option.bind_eq_some_iff, Option.some.injEq] at h
  obtain ⟨px, h1, rfl⟩ := h
  exact .loop (ih h1)
 | exit id => intro p h; simp only [trC, Option.some.injEq] at h; subst h; exact .exit id
 | ret => intro p h; simp only [trC, Option.some.injEq] at h; subst h; exact .ret
 | _ => intro p h; simp [trC] at h
theorem trRs_ok : ∀ {rs : List ResultVar} {ps : List PR}, trRs P rs = some ps → TrR P rs ps
 | [], ps, h => by simp only [trRs, Option.some.injEq] at h; subst h; exact .nil
 | .tmp t :: rs, ps, h => by
  simp only [trRs, Option.bind_eq_some_iff, Option.some.injEq] at h
  obtain ⟨ps', h1, rfl⟩ := h
  exact .tmp (trRs_ok h1)
 | .cell a t :: rs, ps, h => by
  simp only [trRs, Option.bind_eq_some_iff, Option.some.injEq] at h
  obtain ⟨s, h0, ps', h1, rfl⟩ := h
  exact .cell (shapeOf_ok h0) (trRs_ok h1)
theorem trF_ok (hext : ∀ f b, c.ext f = some b → ExtOk P f b) {fn : Func} {pf : PF} (h : trF P c fn = some pf) : TrF P c.fm fn pf := by
 unfold trF at h
 split at h
 ·rename_i b hb
  simp only [Option.bind_eq_some_iff, Option.some.injEq] at h
  obtain ⟨pb, h1, rs, h2, rfl⟩ := h
  exact ⟨⟨b, hb, trC_ok hext h1⟩, rfl, trRs_ok h2, rfl⟩
 ·cases h
end
end Go.Pi
