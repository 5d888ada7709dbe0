import Derived.Test.YtakonddhaabobaaGreatPA
set_option linter.all false
namespace Go.Pi
set_option linter.unusedVariables false
def CallLe (c c' : CallF) : Prop := ∀ f a H x, c f a H = some x → c' f a H = some x
theorem bind_same {α β : Type} {f g : α → Eff β} {H : Heap} : ∀ {e : Eff α} {x : α}, e.run H = some x → f x = g x →
  (e.bind f).run H = (e.bind g).run H ∧ (e.bind f).rd H = (e.bind g).rd H ∧ (e.bind f).lv H = (e.bind g).lv H
 | .pure a, x, h, hf => by simp only [Eff.run, Option.some.injEq] at h; subst h; simp [Eff.bind, hf]
 | .fail, x, h, hf => by simp [Eff.run] at h
 | .get id k, x, h, hf => by
  simp only [Eff.run] at h
  split at h
  ·rename_i sz es lv hh
   have := bind_same (e := k sz es) h hf
   simp only [Eff.bind, Eff.run, Eff.rd, Eff.lv, hh]
   exact ⟨this.1, by rw [this.2.1], this.2.2⟩
  ·cases h
 | .live id k, x, h, hf => by
  simp only [Eff.run] at h
  split at h
  ·rename_i sz es hh
   have := bind_same (e := k) h hf
   simp only [Eff.bind, Eff.run, Eff.rd, Eff.lv, hh]
   exact ⟨this.1, this.2.1, by rw [this.2.2]⟩
  ·cases h
 | .new id k, x, h, hf => by
  simp only [Eff.run] at h
  split at h
  ·split at h
   ·rename_i hh
    have := bind_same (e := k) h hf
    rename_i h1 _
    simp only [Eff.bind, Eff.run, Eff.rd, Eff.lv, hh, h1, if_true]
    exact ⟨this.1, this.2.1, by rw [this.2.2]⟩
   ·cases h
  ·cases h
theorem run_bindE {α β : Type} {f : α → Eff β} {H : Heap} : ∀ (e : Eff α), (e.bind f).run H = (e.run H).bind fun x => (f x).run H
 | .pure a => rfl
 | .fail => rfl
 | .get id k => by
  simp only [Eff.bind, Eff.run]
  split
  ·exact run_bindE _
  ·rfl
 | .live id k => by
  simp only [Eff.bind, Eff.run]
  split
  ·exact run_bindE _
  ·rfl
 | .new id k => by
  simp only [Eff.bind, Eff.run]
  split
  ·split
   ·exact run_bindE _
   ·rfl
  ·rfl
theorem rd_bind {α β : Type} {f : α → Eff β} {H : Heap} : ∀ {e : Eff α} {x : α}, e.run H = some x → (e.bind f).rd H = e.rd H ++ (f x).rd H
 | .pure a, x, h => by simp only [Eff.run, Option.some.injEq] at h; subst h; rfl
 | .fail, x, h => by simp [Eff.run] at h
 | .get id k, x, h => by
  simp only [Eff.run] at h
  split at h
  ·rename_i sz es lv hh
   simp only [Eff.bind, Eff.rd, hh]
   rw [rd_bind h]; rfl
  ·cases h
 | .live id k, x, h => by
  simp only [Eff.run] at h
  split at h
  ·simp only [Eff.bind, Eff.rd]; exact rd_bind h
  ·cases h
 | .new id k, x, h => by
  simp only [Eff.run] at h
  split at h
  ·split at h
   ·simp only [Eff.bind, Eff.rd]; exact rd_bind h
   ·cases h
  ·cases h
theorem lv_bind {α β : Type} {f : α → Eff β} {H : Heap} : ∀ {e : Eff α} {x : α}, e.run H = some x → (e.bind f).lv H = e.lv H ++ (f x).lv H
 | .pure a, x, h => by simp only [Eff.run, Option.some.injEq] at h; subst h; rfl
 | .fail, x, h => by simp [Eff.run] at h
 | .get id k, x, h => by
  simp only [Eff.run] at h
  split at h
  ·rename_i sz es lv hh
   simp only [Eff.bind, Eff.lv, hh]
   exact lv_bind h
  ·cases h
 | .live id k, x, h => by
  simp only [Eff.run] at h
  split at h
  ·simp only [Eff.bind, Eff.lv]; rw [lv_bind h]; rfl
  ·cases h
 | .new id k, x, h => by
  simp only [Eff.run] at h
  split at h
  ·split at h
   ·simp only [Eff.bind, Eff.lv]; rw [lv_bind h]; rfl
   ·cases h
  ·cases h
section
variable {c c' : CallF} (hc : CallLe c c')
theorem callE_mono (hc : CallLe c c') {r f : Nat} {args : List (Nat × D)} {H : Heap} {o : Out} (h : (callE c r f args).run H = some o) :
  (callE c' r f args).run H = some o ∧ (callE c' r f args).rd H = (callE c r f args).rd H ∧ (callE c' r f args).lv H = (callE c r f args).lv H := by
 have h0 := h
 unfold callE at h
 rw [run_bindE] at h
 obtain ⟨p, h1, h2⟩ := Option.bind_eq_some_iff.1 h
 have key := bind_same (f := fun p => if nodup (p.bs.map (·.1)) && apart (p.bs.map (·.1)) p.ids then
   match c f p.args p.rows with
   | some x => match finish r p x.1 x.2 with
    | some o => newL o.1 (.pure o.2)
    | none => .fail
   | none => .fail
  else .fail) (g := fun p => if nodup (p.bs.map (·.1)) && apart (p.bs.map (·.1)) p.ids then
   match c' f p.args p.rows with
   | some x => match finish r p x.1 x.2 with
    | some o => newL o.1 (.pure o.2)
    | none => .fail
   | none => .fail
  else .fail) h1 (by
   split at h2
   ·rename_i hb
    cases hq : c f p.args p.rows with
    | none => rw [hq] at h2; simp [Eff.run] at h2
    | some x => rw [hc _ _ _ _ hq]
   ·simp [Eff.run] at h2)
 refine ⟨?_, key.2.1.symm, key.2.2.symm⟩
 rw [← h0]
 exact key.1.symm
theorem opE_mono (hc : CallLe c c') {ρ : PX → D} {r : Nat} {op : POp} {H : Heap} {o : Out} (h : (opE c ρ r op).run H = some o) :
  (opE c' ρ r op).run H = some o ∧ (opE c' ρ r op).rd H = (opE c ρ r op).rd H ∧ (opE c' ρ r op).lv H = (opE c ρ r op).lv H := by
 cases op
 case call f args => exact callE_mono hc h
 case callQ f args =>
  have h0 := h
  simp only [opE] at h ⊢
  rw [run_bindE] at h
  obtain ⟨p, h1, h2⟩ := Option.bind_eq_some_iff.1 h
  obtain ⟨k1, k2, k3⟩ := callE_mono hc h1
  refine ⟨by rw [run_bindE, k1]; exact h2, ?_, ?_⟩
  ·rw [rd_bind h1, rd_bind k1, k2]
  ·rw [lv_bind h1, lv_bind k1, k3]
 case callV fs x args =>
  simp only [opE] at h ⊢
  cases hx : ρ x <;> rw [hx] at h <;> try (simp [Eff.run] at h; done)
  rename_i f
  by_cases hfs : fs.contains f = true
  case neg => simp only [if_neg hfs, Eff.run] at h; cases h
  simp only [if_pos hfs] at h ⊢
  rw [run_bindE] at h
  obtain ⟨p, h1, h2⟩ := Option.bind_eq_some_iff.1 h
  obtain ⟨k1, k2, k3⟩ := callE_mono hc h1
  refine ⟨by rw [run_bindE, k1]; exact h2, ?_, ?_⟩
  ·rw [rd_bind h1, rd_bind k1, k2]
  ·rw [lv_bind h1, lv_bind k1, k3]
 all_goals exact ⟨h, rfl, rfl⟩
theorem stepO_mono (hc : CallLe c c') {b : Nat} {o : PO} {s s' : St} (h : stepO c b o s = some s') : stepO c' b o s = some s' ∧ stepFp c' b o s = stepFp c b o s := by
 unfold stepO at h ⊢
 unfold stepFp
 split at h
 ·rename_i hg
  split at h
  ·rename_i hw
   simp only [hg, hw, if_true]
   split at h
   ·rename_i f args hop
    obtain ⟨x, h1, h2⟩ := Option.map_eq_some_iff.1 h
    exact ⟨by rw [hc _ _ _ _ h1]; exact congrArg some h2, rfl⟩
   ·rename_i op hop
    obtain ⟨x, h1, h2⟩ := Option.map_eq_some_iff.1 h
    obtain ⟨k1, k2, k3⟩ := opE_mono hc h1
    exact ⟨by rw [k1]; exact congrArg some h2, by simp only [k1, h1, k2, k3]⟩
  ·rename_i hw
   simp only [hg, hw, if_true, if_false]
   exact ⟨h, rfl⟩
 ·cases h
theorem seqR_mono (hc : CallLe c c') {b : Nat} : ∀ {os : List PO} {s s' : St}, seqR c b os s = some s' → seqR c' b os s = some s'
 | [], s, s', h => h
 | o :: os, s, s', h => by
  simp only [seqR] at h ⊢
  obtain ⟨s1, h1, h2⟩ := Option.bind_eq_some_iff.1 h
  rw [(stepO_mono hc h1).1]
  exact seqR_mono hc h2
theorem seqD_mono (hc : CallLe c c') {b : Nat} : ∀ {os : List PO} {i : Nat} {seen : List (Nat × Fp)} {s s' : St}, seqD c b os i seen s = some s' → seqD c' b os i seen s = some s'
 | [], i, seen, s, s', h => h
 | o :: os, i, seen, s, s', h => by
  simp only [seqD] at h ⊢
  split at h
  ·rename_i hs
   obtain ⟨s1, h1, h2⟩ := Option.bind_eq_some_iff.1 h
   obtain ⟨k1, k2⟩ := stepO_mono hc h1
   rw [k2, if_pos hs, k1]
   exact seqD_mono hc h2
  ·cases h
theorem loopN_mono {f g : St → Option (Ex × St)} (hfg : ∀ s r, f s = some r → g s = some r) : ∀ {n m : Nat} {s : St} {r : Ex × St}, n ≤ m → loopN f n s = some r → loopN g m s = some r
 | 0, m, s, r, _, h => by simp [loopN] at h
 | n + 1, 0, s, r, hle, h => by omega
 | n + 1, m + 1, s, r, hle, h => by
  simp only [loopN] at h ⊢
  cases hf : f s with
  | none => rw [hf] at h; cases h
  | some x =>
   rw [hfg _ _ hf]
   rw [hf] at h
   obtain ⟨ex, s1⟩ := x
   cases ex with
   | normal => exact loopN_mono hfg (by omega) h
   | exit i => exact h
   | ret => exact h
theorem code_mono (hc : CallLe c c') {n m : Nat} (hnm : n ≤ m) : ∀ {p : PC} {s : St} {r : Ex × St}, code c n p s = some r → code c' m p s = some r := by
 intro p
 induction p with
 | skip => exact fun h => h
 | region draw nres ops =>
  intro s r h
  simp only [code] at h ⊢
  obtain ⟨s1, h1, h2⟩ := Option.map_eq_some_iff.1 h
  split at h1
  ·rename_i hd; simp only [hd, if_true]; rw [seqD_mono hc h1]; exact congrArg some h2
  ·rename_i hd; simp only [hd]; rw [if_neg (by simp), seqR_mono hc h1]; exact congrArg some h2
 | seq a b iha ihb =>
  intro s r h
  simp only [code] at h ⊢
  cases ha : code c n a s with
  | none => rw [ha] at h; cases h
  | some x =>
   rw [iha ha]
   rw [ha] at h
   obtain ⟨ex, s1⟩ := x
   cases ex with
   | normal => exact ihb h
   | exit i => exact h
   | ret => exact h
 | cond q x y ihx ihy =>
  intro s r h
  simp only [code] at h ⊢
  split at h
  ·rename_i b hb
   split at h
   ·rename_i e; simp only [e, if_true]; exact ihx h
   ·rename_i e; simp only [e]; exact ihy h
  ·cases h
 | block id q ih =>
  intro s r h
  simp only [code] at h ⊢
  cases ha : code c n q s with
  | none => rw [ha] at h; cases h
  | some x =>
   rw [ih ha]
   rw [ha] at h
   exact h
 | loop q ih =>
  intro s r h
  exact loopN_mono (fun s r h => ih h) hnm h
 | exit id => exact fun h => h
 | ret => exact fun h => h
end
theorem runN_mono (P : Prog) : ∀ {n m : Nat}, n ≤ m → CallLe (runN P n) (runN P m)
 | 0, m, _ => fun f a H x h => by simp [runN] at h
 | n + 1, 0, h => by omega
 | n + 1, m + 1, hle => fun f a H x h => by
  simp only [runN] at h ⊢
  cases hp : P f with
  | none => rw [hp] at h; cases h
  | some pf =>
   rw [hp] at h
   simp only at h ⊢
   split
   ·rename_i g hg; rw [hg] at h; exact h
   rename_i hg
   rw [hg] at h
   simp only at h ⊢
   cases hcode : code (runN P n) n pf.body ⟨a ++ List.replicate (pf.ntmps - a.length) .undef, H⟩ with
   | none => rw [hcode] at h; cases h
   | some r =>
    rw [code_mono (runN_mono P (by omega)) (by omega : n ≤ m) hcode]
    rw [hcode] at h
    exact h
end Go.Pi
namespace Go.Pi
set_option linter.unusedVariables false
section
variable (pr : Prog)
def Ends (c : PC) (s : St) (Q : Ex → St → Prop) : Prop := ∃ n ex s', code (runN pr n) n c s = some (ex, s') ∧ Q ex s'
def Steps (b : Nat) (os : List PO) (s : St) (Q : St → Prop) : Prop := ∃ n s', seqR (runN pr n) b os s = some s' ∧ Q s'
def StepsD (b : Nat) (os : List PO) (i : Nat) (seen : List (Nat × Fp)) (s : St) (Q : St → Prop) : Prop := ∃ n s', seqD (runN pr n) b os i seen s = some s' ∧ Q s'
def Runs (f : Nat) (args : List D) (H : Heap) (Q : D → Heap → Prop) : Prop := ∃ n d H', runN pr n f args H = some (d, H') ∧ Q d H'
end
section
variable {pr : Prog} {Q Q' : Ex → St → Prop} {s : St}
theorem Ends.mono {c : PC} (h : Ends pr c s Q) (hq : ∀ ex s', Q ex s' → Q' ex s') : Ends pr c s Q' := by
 obtain ⟨n, ex, s', h1, h2⟩ := h
 exact ⟨n, ex, s', h1, hq _ _ h2⟩
theorem Steps.mono {b : Nat} {os : List PO} {Q Q' : St → Prop} (h : Steps pr b os s Q) (hq : ∀ s', Q s' → Q' s') : Steps pr b os s Q' := by
 obtain ⟨n, s', h1, h2⟩ := h
 exact ⟨n, s', h1, hq _ h2⟩
theorem Runs.mono {f : Nat} {a : List D} {H : Heap} {Q Q' : D → Heap → Prop} (h : Runs pr f a H Q) (hq : ∀ d H', Q d H' → Q' d H') : Runs pr f a H Q' := by
 obtain ⟨n, d, H', h1, h2⟩ := h
 exact ⟨n, d, H', h1, hq _ _ h2⟩
theorem Ends.skip (h : Q .normal s) : Ends pr .skip s Q := ⟨0, _, _, rfl, h⟩
theorem Ends.ret (h : Q .ret s) : Ends pr .ret s Q := ⟨0, _, _, rfl, h⟩
theorem Ends.exit {id : Nat} (h : Q (.exit id) s) : Ends pr (.exit id) s Q := ⟨0, _, _, rfl, h⟩
theorem Ends.region {k : Nat} {os : List PO} (h : Steps pr s.hp.length os ⟨s.ts, s.hp ++ List.replicate k .fresh⟩ (Q .normal)) : Ends pr (.region false k os) s Q := by
 obtain ⟨n, s', h1, h2⟩ := h
 exact ⟨n, .normal, s', by simp [code, h1], h2⟩
theorem Ends.regionD {k : Nat} {os : List PO} (h : StepsD pr s.hp.length os 0 [] ⟨s.ts, s.hp ++ List.replicate k .fresh⟩ (Q .normal)) : Ends pr (.region true k os) s Q := by
 obtain ⟨n, s', h1, h2⟩ := h
 exact ⟨n, .normal, s', by simp [code, h1], h2⟩
def Then (pr : Prog) (b : PC) (Q : Ex → St → Prop) : Ex → St → Prop
 | .normal, s => Ends pr b s Q
 | ex, s => Q ex s
theorem Ends.seq {a b : PC} (h : Ends pr a s (Then pr b Q)) : Ends pr (.seq a b) s Q := by
 obtain ⟨n, ex, s1, h1, h2⟩ := h
 cases ex with
 | normal =>
  obtain ⟨m, ex, s2, h3, h4⟩ := h2
  refine ⟨max n m, ex, s2, ?_, h4⟩
  simp only [code, code_mono (runN_mono pr (Nat.le_max_left n m)) (Nat.le_max_left n m) h1, code_mono (runN_mono pr (Nat.le_max_right n m)) (Nat.le_max_right n m) h3]
 | exit i => exact ⟨n, _, s1, by simp [code, h1], h2⟩
 | ret => exact ⟨n, _, s1, by simp [code, h1], h2⟩
theorem Ends.cond {c : PX} {x y : PC} {b : Bool} (hb : c.ev s.ts = .bool b) (h1 : b = true → Ends pr x s Q) (h2 : b = false → Ends pr y s Q) : Ends pr (.cond c x y) s Q := by
 cases b with
 | true =>
  obtain ⟨n, ex, s', h3, h4⟩ := h1 rfl
  exact ⟨n, ex, s', by simp [code, hb, h3], h4⟩
 | false =>
  obtain ⟨n, ex, s', h3, h4⟩ := h2 rfl
  exact ⟨n, ex, s', by simp [code, hb, h3], h4⟩
def Blocked (id : Nat) (Q : Ex → St → Prop) : Ex → St → Prop
 | .exit j, s => if j = id then Q .normal s else Q (.exit j) s
 | ex, s => Q ex s
theorem Ends.block {id : Nat} {c : PC} (h : Ends pr c s (Blocked id Q)) : Ends pr (.block id c) s Q := by
 obtain ⟨n, ex, s1, h1, h2⟩ := h
 cases ex with
 | normal => exact ⟨n, _, s1, by simp [code, h1], h2⟩
 | ret => exact ⟨n, _, s1, by simp [code, h1], h2⟩
 | exit j =>
  simp only [Blocked] at h2
  split at h2
  ·rename_i e; exact ⟨n, _, s1, by simp [code, h1, e], h2⟩
  ·rename_i e; exact ⟨n, _, s1, by simp [code, h1, e], h2⟩
theorem Steps.nil {b : Nat} {Q : St → Prop} (h : Q s) : Steps pr b [] s Q := ⟨0, s, rfl, h⟩
theorem Steps.cons {b : Nat} {o : PO} {os : List PO} {Q : St → Prop} {n : Nat} {s1 : St} (h : stepO (runN pr n) b o s = some s1) (h2 : Steps pr b os s1 Q) : Steps pr b (o :: os) s Q := by
 obtain ⟨m, s', h3, h4⟩ := h2
 refine ⟨max n m, s', ?_, h4⟩
 simp only [seqR, (stepO_mono (runN_mono pr (Nat.le_max_left n m)) h).1, Option.bind_some]
 exact seqR_mono (runN_mono pr (Nat.le_max_right n m)) h3
theorem Runs.body {f : Nat} {args : List D} {H : Heap} {Q : D → Heap → Prop} {pf : PF} (hf : pr f = some pf) (ho : pf.orc = none)
  (h : Ends pr pf.body ⟨args ++ List.replicate (pf.ntmps - args.length) .undef, H⟩ (fun ex s => (∀ i, ex ≠ .exit i) ∧ ∃ d, resV s pf.results = some d ∧ Q d s.hp)) : Runs pr f args H Q := by
 obtain ⟨n, ex, s', h1, h2, d, h3, h4⟩ := h
 refine ⟨n + 1, d, s'.hp, ?_, h4⟩
 simp only [runN, hf, ho, h1]
 cases ex with
 | normal => simp [h3]
 | ret => simp [h3]
 | exit i => exact absurd rfl (h2 i)
end
end Go.Pi
namespace Go.Pi
set_option linter.unusedVariables false
def clsO (nq : Nat → Bool) : POp → Nat
 | .mv _ | .pick _ _ _ | .build _ _ | .bin _ _ _ | .eqB _ _ _ | .eqNS _ _ | .eqNP _ _ | .eqA _ _ _ _ | .un _ _ | .sliceS _ _ _ | .fieldAddr _ _ _ | .field _ _ _ _ | .indexAddrA _ _ _ _ | .index _ _ _ _ _ |
  .indexS _ _ | .extract _ _ | .len _ | .lenS _ | .minmax _ _ _ | .bits _ | .ofBits _ | .nilCheck _ => 0
 | .load _ _ _ | .slice _ _ _ _ | .indexAddr _ _ _ | .conv _ _ | .callV _ _ _ => 1
 | .call f _ => bif nq f then 2 else 1
 | _ => 2
def okPair (p q : Nat) : Bool := p == 0 || q == 0 || (p == 1 && q == 1)
def okPairs (nq : Nat → Bool) (q : PO) : List PO → Nat → Bool
 | [], _ => true
 | p :: ps, j => (q.after.contains j || okPair (clsO nq p.op) (clsO nq q.op)) && okPairs nq q ps (j + 1)
def okRegion (nq : Nat → Bool) : List PO → List PO → Bool
 | _, [] => true
 | pre, q :: qs => okPairs nq q pre 0 && okRegion nq (pre ++ [q]) qs
def quietO' (nq : Nat → Bool) (o : PO) : PO := match o.op with
 | .call f args => bif nq f then o else { o with op := .callQ f args }
 | _ => o
def undraw (nq : Nat → Bool) : PC → PC
 | .region true k ops => if okRegion nq [] ops then .region false k (ops.map (quietO' nq)) else .region true k ops
 | .seq a b => .seq (undraw nq a) (undraw nq b)
 | .cond c x y => .cond c (undraw nq x) (undraw nq y)
 | .block id c => .block id (undraw nq c)
 | .loop c => .loop (undraw nq c)
 | c => c
def undrawF (nq : Nat → Bool) (f : PF) : PF := ⟨f.ntmps, f.results, undraw nq f.body, f.orc⟩
section
variable {c : CallF} {b : Nat} {nq : Nat → Bool}
def Fp.none (a : Fp) : Prop := a.rd = [] ∧ a.lv = [] ∧ a.wr = [] ∧ a.fz = [] ∧ a.all = false
def Fp.calm (a : Fp) : Prop := a.wr = [] ∧ a.fz = [] ∧ a.all = false
def fpOk (k : Nat) (a : Fp) : Prop := (k = 0 → a.none) ∧ (k = 1 → a.calm)
theorem meets_nil_left (xs : List Nat) : meets [] xs = false := rfl
theorem meets_nil_right (xs : List Nat) : meets xs [] = false := by induction xs <;> simp_all [meets]
theorem clash_of {k m : Nat} {x y : Fp} (h : okPair k m = true) (hx : fpOk k x) (hy : fpOk m y) : clash x y = false := by
 simp only [okPair, Bool.or_eq_true, beq_iff_eq, Bool.and_eq_true] at h
 rcases h with (h | h) | ⟨h1, h2⟩
 ·obtain ⟨a, b, c, d, e⟩ := hx.1 h
  simp [clash, Fp.idle, a, b, c, d, e, meets_nil_left, meets_nil_right]
 ·obtain ⟨a, b, c, d, e⟩ := hy.1 h
  simp [clash, Fp.idle, a, b, c, d, e, meets_nil_left, meets_nil_right]
 ·obtain ⟨a, b, c⟩ := hx.2 h1
  obtain ⟨a', b', c'⟩ := hy.2 h2
  simp [clash, a, b, c, a', b', c', meets_nil_left]
def idleE : Eff Out → Prop
 | .pure o => o.ws = [] ∧ o.fz = []
 | .fail => True
 | _ => False
def calmE : Eff Out → Prop
 | .pure o => o.ws = [] ∧ o.fz = []
 | .fail => True
 | .get _ k => ∀ sz es, calmE (k sz es)
 | _ => False
theorem idle_quiet (d : D) : idleE (quiet d) := ⟨rfl, rfl⟩
theorem idle_quietO (d : Option D) : idleE (quietO d) := by cases d <;> simp [quietO, idleE, quiet]
theorem calm_of_idle : ∀ {e : Eff Out}, idleE e → calmE e
 | .pure _, h => h
 | .fail, h => h
 | .get _ _, h => absurd h (by simp [idleE])
 | .live _ _, h => absurd h (by simp [idleE])
 | .new _ _, h => absurd h (by simp [idleE])
theorem idle_run {e : Eff Out} (h : idleE e) {H : Heap} {x : Out} (hr : e.run H = some x) : x.ws = [] ∧ x.fz = [] ∧ e.rd H = [] ∧ e.lv H = [] := by
 cases e with
 | pure o => simp only [Eff.run, Option.some.injEq] at hr; subst hr; exact ⟨h.1, h.2, rfl, rfl⟩
 | fail => simp [Eff.run] at hr
 | get _ _ => exact absurd h (by simp [idleE])
 | live _ _ => exact absurd h (by simp [idleE])
 | new _ _ => exact absurd h (by simp [idleE])
theorem calm_run : ∀ {e : Eff Out}, calmE e → ∀ {H : Heap} {x : Out}, e.run H = some x → x.ws = [] ∧ x.fz = []
 | .pure o, h, H, x, hr => by simp only [Eff.run, Option.some.injEq] at hr; subst hr; exact h
 | .fail, h, H, x, hr => by simp [Eff.run] at hr
 | .get _ k, h, H, x, hr => by
  simp only [Eff.run] at hr
  split at hr
  ·exact calm_run (h _ _) hr
  ·cases hr
 | .live _ _, h, _, _, _ => absurd h (by simp [calmE])
 | .new _ _, h, _, _, _ => absurd h (by simp [calmE])
theorem calm_quiet (d : D) : calmE (quiet d) := ⟨rfl, rfl⟩
theorem calm_quietO (d : Option D) : calmE (quietO d) := calm_of_idle (idle_quietO d)
theorem opE_idle {ρ : PX → D} {r : Nat} {op : POp} (hk : clsO nq op = 0) : idleE (opE c ρ r op) := by
 cases op <;> first | (simp [clsO] at hk; done) | skip
 case call f a =>
  simp only [clsO] at hk
  cases h : nq f <;> rw [h] at hk <;> cases hk
 all_goals simp only [opE]
 all_goals repeat' split
 all_goals first | exact idle_quiet _ | exact idle_quietO _ | exact trivial
theorem opE_calm {ρ : PX → D} {r : Nat} {op : POp} (hk : clsO nq op = 1) (hc : ∀ f a, op ≠ .call f a) (hv : ∀ x y a, op ≠ .callV x y a) : calmE (opE c ρ r op) := by
 cases op <;> first | (simp [clsO] at hk; done) | skip
 case call f a => exact absurd rfl (hc f a)
 case callV f y a => exact absurd rfl (hv f y a)
 all_goals simp only [opE]
 all_goals repeat' split
 all_goals first | exact calm_quiet _ | exact calm_quietO _ | exact trivial | (intro sz es; simp only []; repeat' split)
 all_goals first | exact calm_quiet _ | exact calm_quietO _ | exact trivial
theorem stepFp_ok {o : PO} {s s' : St} (h : stepO c b (quietO' nq o) s = some s') : stepO c b o s = some s' ∧ fpOk (clsO nq o.op) (stepFp c b o s) := by
 obtain ⟨dst, op, g, l, res⟩ := o
 by_cases hn : ∃ f a, op = .call f a ∧ nq f = true
 ·obtain ⟨f, a, rfl, hn⟩ := hn
  rw [show quietO' nq ⟨dst, .call f a, g, l, res⟩ = ⟨dst, .call f a, g, l, res⟩ by simp only [quietO', hn, cond_true]] at h
  exact ⟨h, fun e => by simp [clsO, hn] at e, fun e => by simp [clsO, hn] at e⟩
 unfold stepO at h
 have hg : (quietO' nq ⟨dst, op, g, l, res⟩).guard = g ∧ (quietO' nq ⟨dst, op, g, l, res⟩).dst = dst ∧ (quietO' nq ⟨dst, op, g, l, res⟩).res = res := by
  unfold quietO'
  split
  ·rename_i f a _
   cases nq f <;> simp
  ·simp
 rw [hg.1, hg.2.1, hg.2.2] at h
 split at h
 ·rename_i h1
  split at h
  ·rename_i h2
   by_cases hcall : ∃ f a, op = .call f a
   ·obtain ⟨f, a, rfl⟩ := hcall
    have hn' : nq f = false := by
     cases h : nq f with
     | false => rfl
     | true => exact absurd ⟨f, a, rfl, h⟩ hn
    have hn := hn'
    rw [show quietO' nq ⟨dst, .call f a, g, l, res⟩ = ⟨dst, .callQ f a, g, l, res⟩ by simp only [quietO', hn, cond_false]] at h
    simp only [opE] at h
    obtain ⟨x, h3, h4⟩ := Option.map_eq_some_iff.1 h
    rw [run_bindE] at h3
    obtain ⟨y, h5, h6⟩ := Option.bind_eq_some_iff.1 h3
    split at h6
    ·rename_i hq
     simp only [Eff.run, Option.some.injEq] at h6
     subst h6
     simp only [Bool.and_eq_true, List.isEmpty_iff] at hq
     refine ⟨by simp only [stepO, h1, h2, if_true, opE, h5]; exact congrArg some h4, fun h => absurd h (by simp [clsO, hn]), fun _ => ?_⟩
     simp only [stepFp, h2, if_true, opE, h5, Fp.calm, hq.1, hq.2, List.map_nil, and_self]
    ·simp [Eff.run] at h6
   ·have hq : quietO' nq ⟨dst, op, g, l, res⟩ = ⟨dst, op, g, l, res⟩ := by
     unfold quietO'
     split
     ·rename_i f a e; exact absurd ⟨f, a, e⟩ hcall
     ·rfl
    rw [hq] at h
    refine ⟨by simp only [stepO, h1, h2, if_true]; exact h, ?_⟩
    cases op
    case callH f a => exact ⟨fun h => absurd h (by simp [clsO]), fun h => absurd h (by simp [clsO])⟩
    case callV fs y a =>
     obtain ⟨x, h3, h4⟩ := Option.map_eq_some_iff.1 h
     refine ⟨fun h => absurd h (by simp [clsO]), fun _ => ?_⟩
     have h5 := h3
     simp only [opE] at h5
     split at h5
     ·split at h5
      case isFalse => simp [Eff.run] at h5
      rw [run_bindE] at h5
      obtain ⟨z, h6, h7⟩ := Option.bind_eq_some_iff.1 h5
      split at h7
      ·rename_i hq
       simp only [Eff.run, Option.some.injEq] at h7
       subst h7
       simp only [Bool.and_eq_true, List.isEmpty_iff] at hq
       simp only [stepFp, h2, if_true, h3, Fp.calm, hq.1, hq.2, List.map_nil, and_self]
      ·simp [Eff.run] at h7
     ·simp [Eff.run] at h5
    all_goals
     obtain ⟨x, h3, h4⟩ := Option.map_eq_some_iff.1 h
     refine ⟨fun hk => ?_, fun hk => ?_⟩
     ·obtain ⟨a1, a2, a3, a4⟩ := idle_run (opE_idle (c := c) (ρ := PX.ev s.ts) (r := b + res) hk) h3
      simp only [stepFp, h2, if_true, h3, Fp.none, a1, a2, a3, a4, List.map_nil, and_self]
     ·obtain ⟨a1, a2⟩ := calm_run (opE_calm (c := c) (ρ := PX.ev s.ts) (r := b + res) hk (fun f a e => hcall ⟨f, a, e⟩) (fun _ _ _ e => by cases e)) h3
      simp only [stepFp, h2, if_true, h3, Fp.calm, a1, a2, List.map_nil, and_self]
  ·rename_i h2
   refine ⟨by simp only [stepO, h1, h2, if_true]; exact h, ?_⟩
   simp only [stepFp, h2]
   exact ⟨fun _ => ⟨rfl, rfl, rfl, rfl, rfl⟩, fun _ => ⟨rfl, rfl, rfl⟩⟩
 ·cases h
def SeenOk (nq : Nat → Bool) : List PO → List (Nat × Fp) → Prop
 | pre, seen => ∀ p ∈ seen, ∃ o, pre[p.1]? = some o ∧ fpOk (clsO nq o.op) p.2
theorem okPairs_at {q : PO} : ∀ {pre : List PO} {j : Nat}, okPairs nq q pre j = true → ∀ k o, pre[k]? = some o → q.after.contains (j + k) = true ∨ okPair (clsO nq o.op) (clsO nq q.op) = true
 | [], j, _, k, o, h => by simp at h
 | p :: ps, j, h, k, o, ho => by
  simp only [okPairs, Bool.and_eq_true, Bool.or_eq_true] at h
  cases k with
  | zero => simp at ho; subst ho; exact h.1
  | succ k =>
   have := okPairs_at h.2 k o (by simpa using ho)
   rwa [show j + (k + 1) = j + 1 + k by omega]
theorem seqD_of : ∀ {qs pre : List PO} {seen : List (Nat × Fp)} {s s' : St}, okRegion nq pre qs = true → SeenOk nq pre seen → seqR c b (qs.map (quietO' nq)) s = some s' → seqD c b qs pre.length seen s = some s'
 | [], pre, seen, s, s', _, _, h => h
 | q :: qs, pre, seen, s, s', hok, hs, h => by
  simp only [okRegion, Bool.and_eq_true] at hok
  simp only [List.map_cons, seqR] at h
  obtain ⟨s1, h1, h2⟩ := Option.bind_eq_some_iff.1 h
  obtain ⟨k1, k2⟩ := stepFp_ok h1
  have hall : (seen.all fun p => q.after.contains p.1 || !clash p.2 (stepFp c b q s)) = true := by
   rw [List.all_eq_true]
   intro p hp
   obtain ⟨o, ho, hf⟩ := hs p hp
   rcases okPairs_at hok.1 p.1 o ho with h | h
   ·rw [Nat.zero_add] at h; rw [h]; rfl
   ·simp [clash_of h hf k2]
  simp only [seqD, hall, if_true, k1, Option.bind_some]
  have := seqD_of (pre := pre ++ [q]) (seen := (pre.length, stepFp c b q s) :: seen) hok.2 (fun p hp => by
   simp only [List.mem_cons] at hp
   rcases hp with rfl | hp
   ·exact ⟨q, by simp, k2⟩
   ·obtain ⟨o, ho, hf⟩ := hs p hp
    refine ⟨o, ?_, hf⟩
    rw [List.getElem?_append_left (List.getElem?_eq_some_iff.1 ho).1]
    exact ho) h2
  simpa using this
theorem code_undraw {n : Nat} : ∀ {p : PC} {s : St} {r : Ex × St}, code c n (undraw nq p) s = some r → code c n p s = some r := by
 intro p
 induction p with
 | skip => exact fun h => h
 | region draw k ops =>
  intro s r h
  cases draw with
  | false => exact h
  | true =>
   simp only [undraw] at h
   split at h
   ·rename_i hok
    simp only [code, Bool.false_eq_true, if_false] at h
    obtain ⟨s1, h1, h2⟩ := Option.map_eq_some_iff.1 h
    simp only [code, if_true]
    have := seqD_of (pre := []) (seen := []) hok (fun p hp => by simp at hp) h1
    rw [show ([] : List PO).length = 0 from rfl] at this
    rw [this]
    exact congrArg some h2
   ·exact h
 | seq a b iha ihb =>
  intro s r h
  simp only [undraw, code] at h ⊢
  cases ha : code c n (undraw nq a) s with
  | none => rw [ha] at h; cases h
  | some x =>
   rw [iha ha]
   rw [ha] at h
   obtain ⟨ex, s1⟩ := x
   cases ex with
   | normal => exact ihb h
   | exit i => exact h
   | ret => exact h
 | cond q x y ihx ihy =>
  intro s r h
  simp only [undraw, code] at h ⊢
  split at h
  ·rename_i b hb
   split at h
   ·rename_i e; simp only [e, if_true]; exact ihx h
   ·rename_i e; simp only [e]; exact ihy h
  ·cases h
 | block id q ih =>
  intro s r h
  simp only [undraw, code] at h ⊢
  cases ha : code c n (undraw nq q) s with
  | none => rw [ha] at h; cases h
  | some x =>
   rw [ih ha]
   rw [ha] at h
   exact h
 | loop q ih =>
  intro s r h
  exact loopN_mono (fun s r h => ih h) (Nat.le_refl _) h
 | exit id => exact fun h => h
 | ret => exact fun h => h
end
theorem runN_undraw {nq : Nat → Bool} {P P' : Prog} (hp : ∀ f pf', P' f = some pf' → ∃ pf, P f = some pf ∧ pf' = undrawF nq pf) : ∀ n, CallLe (runN P' n) (runN P n)
 | 0 => fun f a H x h => by simp [runN] at h
 | n + 1 => fun f a H x h => by
  simp only [runN] at h ⊢
  cases hf : P' f with
  | none => rw [hf] at h; cases h
  | some pf' =>
   obtain ⟨pf, h1, rfl⟩ := hp f pf' hf
   rw [hf] at h
   rw [h1]
   simp only [undrawF] at h ⊢
   split
   ·rename_i g hg; rw [hg] at h; exact h
   rename_i hg
   rw [hg] at h
   simp only at h ⊢
   cases hcode : code (runN P' n) n (undraw nq pf.body) ⟨a ++ List.replicate (pf.ntmps - a.length) .undef, H⟩ with
   | none => rw [hcode] at h; cases h
   | some r =>
    rw [code_mono (runN_undraw hp n) (Nat.le_refl n) (code_undraw hcode)]
    rw [hcode] at h
    exact h
end Go.Pi
namespace Go.Pi
set_option linter.unusedVariables false
section
variable {pr : Prog} {b : Nat}
end
end Go.Pi
