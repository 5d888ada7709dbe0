import Derived.Test.YtghncdeldlknnaaPiA
/-
  MORE FUEL TURNS NOTHING.
-/
set_option linter.all false
namespace Go.Pi
set_option linter.unusedVariables false

def CallLe (c c' : CallF) : Prop := ∀ f a H x, c f a H = some x → c' f a H = some x

theorem bind_same {α β : Type} {f g : α → Eff β} {H : Heap} : ∀ {e : Eff α} {x : α}, e.run H = some x → f x = g x →
    (e.bind f).run H = (e.bind g).run H ∧ (e.bind f).rd H = (e.bind g).rd H ∧ (e.bind f).lv H = (e.bind g).lv H
  | .pure a, x, h, hf => by simp only [Eff.run, Option.some.injEq] at h; subst h; simp [Eff.bind, hf]
  | .fail, x, h, hf => by simp [Eff.run] at h
  | .get id k, x, h, hf => by
    simp only [Eff.run] at h
    split at h
    · rename_i sz es lv hh
      have := bind_same (e := k sz es) h hf
      simp only [Eff.bind, Eff.run, Eff.rd, Eff.lv, hh]
      exact ⟨this.1, by rw [this.2.1], this.2.2⟩
    · cases h
  | .live id k, x, h, hf => by
    simp only [Eff.run] at h
    split at h
    · rename_i sz es hh
      have := bind_same (e := k) h hf
      simp only [Eff.bind, Eff.run, Eff.rd, Eff.lv, hh]
      exact ⟨this.1, this.2.1, by rw [this.2.2]⟩
    · cases h
  | .new id k, x, h, hf => by
    simp only [Eff.run] at h
    split at h
    · split at h
      · rename_i hh
        have := bind_same (e := k) h hf
        rename_i h1 _
        simp only [Eff.bind, Eff.run, Eff.rd, Eff.lv, hh, h1, if_true]
        exact ⟨this.1, this.2.1, by rw [this.2.2]⟩
      · cases h
    · cases h
theorem run_bindE {α β : Type} {f : α → Eff β} {H : Heap} : ∀ (e : Eff α), (e.bind f).run H = (e.run H).bind fun x => (f x).run H
  | .pure a => rfl
  | .fail => rfl
  | .get id k => by
    simp only [Eff.bind, Eff.run]
    split
    · exact run_bindE _
    · rfl
  | .live id k => by
    simp only [Eff.bind, Eff.run]
    split
    · exact run_bindE _
    · rfl
  | .new id k => by
    simp only [Eff.bind, Eff.run]
    split
    · split
      · exact run_bindE _
      · rfl
    · rfl

theorem rd_bind {α β : Type} {f : α → Eff β} {H : Heap} : ∀ {e : Eff α} {x : α}, e.run H = some x → (e.bind f).rd H = e.rd H ++ (f x).rd H
  | .pure a, x, h => by simp only [Eff.run, Option.some.injEq] at h; subst h; rfl
  | .fail, x, h => by simp [Eff.run] at h
  | .get id k, x, h => by
    simp only [Eff.run] at h
    split at h
    · rename_i sz es lv hh
      simp only [Eff.bind, Eff.rd, hh]
      rw [rd_bind h]; rfl
    · cases h
  | .live id k, x, h => by
    simp only [Eff.run] at h
    split at h
    · simp only [Eff.bind, Eff.rd]; exact rd_bind h
    · cases h
  | .new id k, x, h => by
    simp only [Eff.run] at h
    split at h
    · split at h
      · simp only [Eff.bind, Eff.rd]; exact rd_bind h
      · cases h
    · cases h
theorem lv_bind {α β : Type} {f : α → Eff β} {H : Heap} : ∀ {e : Eff α} {x : α}, e.run H = some x → (e.bind f).lv H = e.lv H ++ (f x).lv H
  | .pure a, x, h => by simp only [Eff.run, Option.some.injEq] at h; subst h; rfl
  | .fail, x, h => by simp [Eff.run] at h
  | .get id k, x, h => by
    simp only [Eff.run] at h
    split at h
    · rename_i sz es lv hh
      simp only [Eff.bind, Eff.lv, hh]
      exact lv_bind h
    · cases h
  | .live id k, x, h => by
    simp only [Eff.run] at h
    split at h
    · simp only [Eff.bind, Eff.lv]; rw [lv_bind h]; rfl
    · cases h
  | .new id k, x, h => by
    simp only [Eff.run] at h
    split at h
    · split at h
      · simp only [Eff.bind, Eff.lv]; rw [lv_bind h]; rfl
      · cases h
    · cases h

section
variable {c c' : CallF} (hc : CallLe c c')

theorem callE_mono (hc : CallLe c c') {r f : Nat} {args : List (Nat × D)} {H : Heap} {o : Out} (h : (callE c r f args).run H = some o) :
    (callE c' r f args).run H = some o ∧ (callE c' r f args).rd H = (callE c r f args).rd H ∧ (callE c' r f args).lv H = (callE c r f args).lv H := by
  have h0 := h
  unfold callE at h
  rw [run_bindE] at h
  obtain ⟨p, h1, h2⟩ := Option.bind_eq_some_iff.1 h
  have key := bind_same (f := fun p => if nodup (p.bs.map (·.1)) && apart (p.bs.map (·.1)) p.ids then
      match c f p.args p.rows with
      | some x => match finish r p x.1 x.2 with
        | some o => newL o.1 (.pure o.2)
        | none => .fail
      | none => .fail
    else .fail) (g := fun p => if nodup (p.bs.map (·.1)) && apart (p.bs.map (·.1)) p.ids then
      match c' f p.args p.rows with
      | some x => match finish r p x.1 x.2 with
        | some o => newL o.1 (.pure o.2)
        | none => .fail
      | none => .fail
    else .fail) h1 (by
      split at h2
      · rename_i hb
        cases hq : c f p.args p.rows with
        | none => rw [hq] at h2; simp [Eff.run] at h2
        | some x => rw [hc _ _ _ _ hq]
      · simp [Eff.run] at h2)
  refine ⟨?_, key.2.1.symm, key.2.2.symm⟩
  rw [← h0]
  exact key.1.symm

theorem opE_mono (hc : CallLe c c') {ρ : PX → D} {r : Nat} {op : POp} {H : Heap} {o : Out} (h : (opE c ρ r op).run H = some o) :
    (opE c' ρ r op).run H = some o ∧ (opE c' ρ r op).rd H = (opE c ρ r op).rd H ∧ (opE c' ρ r op).lv H = (opE c ρ r op).lv H := by
  cases op
  case call f args => exact callE_mono hc h
  case callQ f args =>
    have h0 := h
    simp only [opE] at h ⊢
    rw [run_bindE] at h
    obtain ⟨p, h1, h2⟩ := Option.bind_eq_some_iff.1 h
    obtain ⟨k1, k2, k3⟩ := callE_mono hc h1
    refine ⟨by rw [run_bindE, k1]; exact h2, ?_, ?_⟩
    · rw [rd_bind h1, rd_bind k1, k2]
    · rw [lv_bind h1, lv_bind k1, k3]
  all_goals exact ⟨h, rfl, rfl⟩

theorem stepO_mono (hc : CallLe c c') {b : Nat} {o : PO} {s s' : St} (h : stepO c b o s = some s') : stepO c' b o s = some s' ∧ stepFp c' b o s = stepFp c b o s := by
  unfold stepO at h ⊢
  unfold stepFp
  split at h
  · rename_i hg
    split at h
    · rename_i hw
      simp only [hg, hw, if_true]
      split at h
      · rename_i f args hop
        obtain ⟨x, h1, h2⟩ := Option.map_eq_some_iff.1 h
        exact ⟨by rw [hc _ _ _ _ h1]; exact congrArg some h2, rfl⟩
      · rename_i op hop
        obtain ⟨x, h1, h2⟩ := Option.map_eq_some_iff.1 h
        obtain ⟨k1, k2, k3⟩ := opE_mono hc h1
        exact ⟨by rw [k1]; exact congrArg some h2, by simp only [k1, h1, k2, k3]⟩
    · rename_i hw
      simp only [hg, hw, if_true, if_false]
      exact ⟨h, rfl⟩
  · cases h

theorem seqR_mono (hc : CallLe c c') {b : Nat} : ∀ {os : List PO} {s s' : St}, seqR c b os s = some s' → seqR c' b os s = some s'
  | [], s, s', h => h
  | o :: os, s, s', h => by
    simp only [seqR] at h ⊢
    obtain ⟨s1, h1, h2⟩ := Option.bind_eq_some_iff.1 h
    rw [(stepO_mono hc h1).1]
    exact seqR_mono hc h2
theorem seqD_mono (hc : CallLe c c') {b : Nat} : ∀ {os : List PO} {i : Nat} {seen : List (Nat × Fp)} {s s' : St}, seqD c b os i seen s = some s' → seqD c' b os i seen s = some s'
  | [], i, seen, s, s', h => h
  | o :: os, i, seen, s, s', h => by
    simp only [seqD] at h ⊢
    split at h
    · rename_i hs
      obtain ⟨s1, h1, h2⟩ := Option.bind_eq_some_iff.1 h
      obtain ⟨k1, k2⟩ := stepO_mono hc h1
      rw [k2, if_pos hs, k1]
      exact seqD_mono hc h2
    · cases h
theorem loopN_mono {f g : St → Option (Ex × St)} (hfg : ∀ s r, f s = some r → g s = some r) : ∀ {n m : Nat} {s : St} {r : Ex × St}, n ≤ m → loopN f n s = some r → loopN g m s = some r
  | 0, m, s, r, _, h => by simp [loopN] at h
  | n + 1, 0, s, r, hle, h => by omega
  | n + 1, m + 1, s, r, hle, h => by
    simp only [loopN] at h ⊢
    cases hf : f s with
    | none => rw [hf] at h; cases h
    | some x =>
      rw [hfg _ _ hf]
      rw [hf] at h
      obtain ⟨ex, s1⟩ := x
      cases ex with
      | normal => exact loopN_mono hfg (by omega) h
      | exit i => exact h
      | ret => exact h
theorem code_mono (hc : CallLe c c') {n m : Nat} (hnm : n ≤ m) : ∀ {p : PC} {s : St} {r : Ex × St}, code c n p s = some r → code c' m p s = some r := by
  intro p
  induction p with
  | skip => exact fun h => h
  | region draw nres ops =>
    intro s r h
    simp only [code] at h ⊢
    obtain ⟨s1, h1, h2⟩ := Option.map_eq_some_iff.1 h
    split at h1
    · rename_i hd; simp only [hd, if_true]; rw [seqD_mono hc h1]; exact congrArg some h2
    · rename_i hd; simp only [hd]; rw [if_neg (by simp), seqR_mono hc h1]; exact congrArg some h2
  | seq a b iha ihb =>
    intro s r h
    simp only [code] at h ⊢
    cases ha : code c n a s with
    | none => rw [ha] at h; cases h
    | some x =>
      rw [iha ha]
      rw [ha] at h
      obtain ⟨ex, s1⟩ := x
      cases ex with
      | normal => exact ihb h
      | exit i => exact h
      | ret => exact h
  | cond q x y ihx ihy =>
    intro s r h
    simp only [code] at h ⊢
    split at h
    · rename_i b hb
      split at h
      · rename_i e; simp only [e, if_true]; exact ihx h
      · rename_i e; simp only [e]; exact ihy h
    · cases h
  | block id q ih =>
    intro s r h
    simp only [code] at h ⊢
    cases ha : code c n q s with
    | none => rw [ha] at h; cases h
    | some x =>
      rw [ih ha]
      rw [ha] at h
      exact h
  | loop q ih =>
    intro s r h
    exact loopN_mono (fun s r h => ih h) hnm h
  | exit id => exact fun h => h
  | ret => exact fun h => h
end

theorem runN_mono (P : Prog) : ∀ {n m : Nat}, n ≤ m → CallLe (runN P n) (runN P m)
  | 0, m, _ => fun f a H x h => by simp [runN] at h
  | n + 1, 0, h => by omega
  | n + 1, m + 1, hle => fun f a H x h => by
    simp only [runN] at h ⊢
    cases hp : P f with
    | none => rw [hp] at h; cases h
    | some pf =>
      rw [hp] at h
      simp only at h ⊢
      cases hcode : code (runN P n) n pf.body ⟨a ++ List.replicate (pf.ntmps - a.length) .undef, H⟩ with
      | none => rw [hcode] at h; cases h
      | some r =>
        rw [code_mono (runN_mono P (by omega)) (by omega : n ≤ m) hcode]
        rw [hcode] at h
        exact h
end Go.Pi
