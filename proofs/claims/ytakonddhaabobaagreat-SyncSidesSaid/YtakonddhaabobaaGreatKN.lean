import Derived.Test.YtakonddhaabobaaGreatKG
set_option linter.all false
namespace Go.Pi
set_option linter.unusedVariables false
def GhH (H G : Heap) : Prop := H.length = G.length ∧ ∀ id, hat G id = hat H id ∨ ∃ sz es, hat H id = .row sz es true ∧ hat G id = .row sz es false
structure GhK (s g : St) : Prop where
 ts : s.ts = g.ts
 hp : GhH s.hp g.hp
theorem GhH.refl (H : Heap) : GhH H H := ⟨rfl, fun _ => .inl rfl⟩
theorem GhK.refl (s : St) : GhK s s := ⟨rfl, GhH.refl _⟩
theorem GhH.trans {A B C : Heap} (h : GhH A B) (k : GhH B C) : GhH A C := ⟨h.1.trans k.1, fun id => by
 rcases k.2 id with k2 | ⟨sz, es, k2, k3⟩ <;> rcases h.2 id with h2 | ⟨sz', es', h2, h3⟩
 ·exact .inl (k2.trans h2)
 ·exact .inr ⟨sz', es', h2, k2.trans h3⟩
 ·exact .inr ⟨sz, es, h2.symm.trans k2, k3⟩
 ·rw [h3] at k2; cases k2⟩
theorem GhK.trans {a c d : St} (h : GhK a c) (k : GhK c d) : GhK a d := ⟨h.ts.trans k.ts, h.hp.trans k.hp⟩
theorem GhH.row {H G : Heap} (h : GhH H G) {id sz : Nat} {es : List (List D)} {lv : Bool} (k : hat G id = .row sz es lv) : ∃ lv', hat H id = .row sz es lv' ∧ (lv = true → lv' = true) := by
 rcases h.2 id with h2 | ⟨sz', es', h2, h3⟩
 ·exact ⟨lv, h2.symm.trans k, fun q => q⟩
 ·rw [h3] at k
  cases k
  exact ⟨true, h2, fun _ => rfl⟩
theorem eff_gh {α : Type} {H G : Heap} (h : GhH H G) : ∀ {e : Eff α} {a : α}, e.run G = some a → e.run H = some a ∧ e.rd H = e.rd G ∧ e.lv H = e.lv G
 | .pure a, _, k => ⟨k, rfl, rfl⟩
 | .fail, _, k => by cases k
 | .get id f, a, k => by
  simp only [Eff.run] at k
  split at k
  ·rename_i sz es lv hg
   obtain ⟨lv', h1, _⟩ := h.row hg
   obtain ⟨k1, k2, k3⟩ := eff_gh h (e := f sz es) k
   simp only [Eff.run, Eff.rd, Eff.lv, h1, hg, k1, k2, k3, and_self]
  ·cases k
 | .live id f, a, k => by
  simp only [Eff.run] at k
  split at k
  ·rename_i sz es hg
   obtain ⟨lv', h1, h2⟩ := h.row hg
   rw [h2 rfl] at h1
   obtain ⟨k1, k2, k3⟩ := eff_gh h (e := f) k
   simp only [Eff.run, Eff.rd, Eff.lv, h1, k1, k2, k3, and_self]
  ·cases k
 | .new id f, a, k => by
  simp only [Eff.run] at k
  split at k
  ·rename_i hl
   split at k
   ·rename_i hg
    have h1 : hat H id = .fresh := by
     rcases h.2 id with h2 | ⟨sz', es', h2, h3⟩
     ·exact h2.symm.trans hg
     ·rw [h3] at hg; cases hg
    obtain ⟨k1, k2, k3⟩ := eff_gh h (e := f) k
    simp only [Eff.run, Eff.rd, Eff.lv, h.1, hl, h1, k1, k2, k3, if_true, and_self]
   ·cases k
  ·cases k
theorem gh_set {H G : Heap} (h : GhH H G) (id : Nat) (k : Blk) : GhH (H.set id k) (G.set id k) := by
 refine ⟨by simp [h.1], fun j => ?_⟩
 rcases Nat.lt_or_ge id H.length with q | q
 ·rw [hat_setK q, hat_setK (h.1 ▸ q)]
  split
  ·exact .inl rfl
  ·exact h.2 j
 ·rw [List.set_eq_of_length_le q, List.set_eq_of_length_le (h.1 ▸ q)]
  exact h.2 j
theorem hat_mod {H : Heap} {i j : Nat} : hat (H.modify i freeze) j = if j = i then freeze (hat H j) else hat H j := by
 unfold hat
 rw [List.getD_eq_getElem?_getD, List.getD_eq_getElem?_getD, List.getElem?_modify]
 by_cases e : i = j
 ·subst e
  cases H[i]? <;> simp <;> rfl
 ·cases H[j]? <;> simp [e, Ne.symm e]
theorem gh_mod {H G : Heap} (h : GhH H G) (id : Nat) : GhH (H.modify id freeze) (G.modify id freeze) := by
 refine ⟨by simp [h.1], fun j => ?_⟩
 rw [hat_mod, hat_mod]
 split
 ·left
  rcases h.2 j with h2 | ⟨sz', es', h2, h3⟩
  ·rw [h2]
  ·rw [h2, h3]; rfl
 ·exact h.2 j
theorem gh_ws' : ∀ {ws : List (Nat × Blk)} {H G : Heap}, GhH H G → GhH (doWs H ws) (doWs G ws)
 | [], _, _, h => h
 | (i, k) :: ws, _, _, h => gh_ws' (ws := ws) (gh_set h i k)
theorem gh_fz : ∀ {ws : List Nat} {H G : Heap}, GhH H G → GhH (doFz H ws) (doFz G ws)
 | [], _, _, h => h
 | i :: ws, _, _, h => gh_fz (ws := ws) (gh_mod h i)
theorem gh_on {H G : Heap} (h : GhH H G) (x : Out) : GhH (x.on H) (x.on G) := gh_fz (gh_ws' h)
def CallGh (c : CallF) : Prop := ∀ f a H G d G', GhH H G → c f a G = some (d, G') → ∃ H', c f a H = some (d, H') ∧ GhH H' G'
section
variable {c : CallF} (hc : CallGh c)
theorem stepO_gh (hc : CallGh c) {b : Nat} {o : PO} {s g g' : St} (h : GhK s g) (k : stepO c b o g = some g') : ∃ s', stepO c b o s = some s' ∧ GhK s' g' ∧ stepFp c b o s = stepFp c b o g := by
 unfold stepO at k
 unfold stepO stepFp
 rw [h.ts]
 split at k
 ·split at k
  ·rename_i h1 h2
   simp only [if_pos h1, if_pos h2]
   split at k
   ·rename_i f args _
    simp only [Option.map_eq_some_iff] at k
    obtain ⟨⟨d, G'⟩, k1, k2⟩ := k
    obtain ⟨H', k3, k4⟩ := hc _ _ _ _ _ _ h.hp k1
    subst k2
    exact ⟨⟨putT g.ts o.dst d, H'⟩, by simp only [k3, Option.map_some], ⟨rfl, k4⟩, rfl⟩
   ·rename_i hne
    simp only [Option.map_eq_some_iff] at k
    obtain ⟨x, k1, k2⟩ := k
    subst k2
    obtain ⟨k3, k4, k5⟩ := eff_gh h.hp k1
    exact ⟨⟨putT g.ts o.dst x.d, x.on s.hp⟩, by simp only [k3, Option.map_some], ⟨rfl, gh_on h.hp x⟩, by simp only [k1, k3, k4, k5]⟩
  ·rename_i h1 h2
   simp only [if_pos h1, if_neg h2]
   cases k
   exact ⟨_, rfl, ⟨rfl, h.hp⟩, trivial⟩
 ·cases k
theorem seqR_gh (hc : CallGh c) {b : Nat} : ∀ {os : List PO} {s g g' : St}, GhK s g → seqR c b os g = some g' → ∃ s', seqR c b os s = some s' ∧ GhK s' g'
 | [], s, g, g', h, k => by cases k; exact ⟨s, rfl, h⟩
 | o :: os, s, g, g', h, k => by
  simp only [seqR, Option.bind_eq_some_iff] at k
  obtain ⟨g1, k1, k2⟩ := k
  obtain ⟨s1, k3, k4, _⟩ := stepO_gh hc h k1
  obtain ⟨s', k5, k6⟩ := seqR_gh hc k4 k2
  exact ⟨s', by simp only [seqR, k3, Option.bind_some, k5], k6⟩
theorem seqD_gh (hc : CallGh c) {b : Nat} : ∀ {os : List PO} {i : Nat} {seen : List (Nat × Fp)} {s g g' : St}, GhK s g → seqD c b os i seen g = some g' → ∃ s', seqD c b os i seen s = some s' ∧ GhK s' g'
 | [], i, seen, s, g, g', h, k => by cases k; exact ⟨s, rfl, h⟩
 | o :: os, i, seen, s, g, g', h, k => by
  simp only [seqD] at k
  split at k
  ·rename_i hok
   simp only [Option.bind_eq_some_iff] at k
   obtain ⟨g1, k1, k2⟩ := k
   obtain ⟨s1, k3, k4, k7⟩ := stepO_gh hc h k1
   obtain ⟨s', k5, k6⟩ := seqD_gh hc k4 k2
   refine ⟨s', ?_, k6⟩
   simp only [seqD, k7]
   rw [if_pos hok, k3, Option.bind_some, k5]
  ·cases k
theorem loopN_gh {f f' : St → Option (Ex × St)} (hf : ∀ s g ex g', GhK s g → f g = some (ex, g') → ∃ s', f' s = some (ex, s') ∧ GhK s' g') : ∀ {n : Nat} {s g : St} {ex : Ex} {g' : St}, GhK s g → loopN f n g = some (ex, g') → ∃ s', loopN f' n s = some (ex, s') ∧ GhK s' g'
 | 0, _, _, _, _, _, k => by cases k
 | n + 1, s, g, ex, g', h, k => by
  simp only [loopN] at k
  split at k
  ·rename_i g1 hg
   obtain ⟨s1, k1, k2⟩ := hf _ _ _ _ h hg
   obtain ⟨s', k3, k4⟩ := loopN_gh hf k2 k
   exact ⟨s', by simp only [loopN, k1, k3], k4⟩
  ·rename_i hne
   obtain ⟨s1, k1, k2⟩ := hf _ _ _ _ h k
   refine ⟨s1, ?_, k2⟩
   cases ex with
   | normal => exact absurd k (hne g')
   | exit _ => simp only [loopN, k1]
   | ret => simp only [loopN, k1]
theorem code_gh (hc : CallGh c) {n : Nat} : ∀ {p : PC} {s g : St} {ex : Ex} {g' : St}, GhK s g → code c n p g = some (ex, g') → ∃ s', code c n p s = some (ex, s') ∧ GhK s' g'
 | .skip, s, g, ex, g', h, k => by cases k; exact ⟨s, rfl, h⟩
 | .exit j, s, g, ex, g', h, k => by cases k; exact ⟨s, rfl, h⟩
 | .ret, s, g, ex, g', h, k => by cases k; exact ⟨s, rfl, h⟩
 | .region draw nres ops, s, g, ex, g', h, k => by
  simp only [code, Option.map_eq_some_iff] at k
  obtain ⟨g1, k1, k2⟩ := k
  cases k2
  have h0 : GhK ⟨s.ts, s.hp ++ List.replicate nres .fresh⟩ ⟨g.ts, g.hp ++ List.replicate nres .fresh⟩ := ⟨h.ts, by simp [h.hp.1], fun id => by
   unfold hat
   rw [List.getD_eq_getElem?_getD, List.getD_eq_getElem?_getD]
   rcases Nat.lt_or_ge id s.hp.length with q | q
   ·rw [List.getElem?_append_left q, List.getElem?_append_left (h.hp.1 ▸ q)]
    have := h.hp.2 id
    unfold hat at this
    rw [List.getD_eq_getElem?_getD, List.getD_eq_getElem?_getD] at this
    exact this
   ·rw [List.getElem?_append_right q, List.getElem?_append_right (h.hp.1 ▸ q), h.hp.1]
    exact .inl rfl⟩
  cases draw with
  | true =>
   simp only [if_true] at k1
   obtain ⟨s', k3, k4⟩ := seqD_gh hc h0 k1
   exact ⟨s', by simp only [code, if_true]; rw [h.hp.1, k3]; rfl, k4⟩
  | false =>
   simp only [Bool.false_eq_true, if_false] at k1
   obtain ⟨s', k3, k4⟩ := seqR_gh hc h0 k1
   exact ⟨s', by simp only [code, Bool.false_eq_true, if_false]; rw [h.hp.1, k3]; rfl, k4⟩
 | .seq a d, s, g, ex, g', h, k => by
  simp only [code] at k
  split at k
  ·rename_i g1 hg
   obtain ⟨s1, k1, k2⟩ := code_gh hc h hg
   obtain ⟨s', k3, k4⟩ := code_gh hc k2 k
   exact ⟨s', by simp only [code, k1, k3], k4⟩
  ·rename_i hne
   obtain ⟨s1, k1, k2⟩ := code_gh hc h k
   refine ⟨s1, ?_, k2⟩
   cases ex with
   | normal => exact absurd k (hne g')
   | exit _ => simp only [code, k1]
   | ret => simp only [code, k1]
 | .cond x y z, s, g, ex, g', h, k => by
  simp only [code] at k ⊢
  rw [h.ts]
  split at k
  ·split at k <;> rename_i hb
   ·simp only [hb, if_true]; exact code_gh hc h k
   ·simp only [hb]; exact code_gh hc h k
  ·cases k
 | .block id p, s, g, ex, g', h, k => by
  simp only [code] at k
  split at k
  ·rename_i j g1 hg
   obtain ⟨s1, k1, k2⟩ := code_gh hc h hg
   simp only [code, k1]
   split at k <;> cases k <;> rename_i hj
   ·exact ⟨s1, by rw [if_pos hj], k2⟩
   ·exact ⟨s1, by rw [if_neg hj], k2⟩
  ·rename_i hne
   obtain ⟨s1, k1, k2⟩ := code_gh hc h k
   refine ⟨s1, ?_, k2⟩
   cases ex with
   | exit j => exact absurd k (hne j g')
   | normal => simp only [code, k1]
   | ret => simp only [code, k1]
 | .loop p, s, g, ex, g', h, k => by
  simp only [code] at k ⊢
  exact loopN_gh (fun _ _ _ _ h k => code_gh hc h k) h k
end
theorem res1_gh {s g : St} (h : GhK s g) {r : PR} {d : D} (k : res1 g r = some d) : res1 s r = some d := by
 cases r with
 | tmp t => simp only [res1, h.ts]; exact k
 | cell ag n a =>
  simp only [res1] at k ⊢
  rw [h.ts]
  split at k
  ·split at k
   ·rename_i hg
    obtain ⟨lv', h1, _⟩ := h.hp.row hg
    simp only [h1]
    exact k
   ·cases k
  ·cases k
theorem resL_gh {s g : St} (h : GhK s g) : ∀ {rs : List PR} {ds : List D}, resL g rs = some ds → resL s rs = some ds
 | [], _, k => k
 | r :: rs, ds, k => by
  simp only [resL, Option.bind_eq_some_iff, Option.map_eq_some_iff] at k ⊢
  obtain ⟨d, k1, ds', k2, k3⟩ := k
  exact ⟨d, res1_gh h k1, ds', resL_gh h k2, k3⟩
theorem runN_gh (P : Prog) : ∀ n, CallGh (runN P n)
 | 0 => fun _ _ _ _ _ _ _ k => by cases k
 | n + 1 => fun f a H G d G' h k => by
  simp only [runN] at k ⊢
  split at k
  ·cases k
  ·rename_i pf hp
   split at k
   ·rename_i q ho
    simp only [Option.map_eq_some_iff] at k
    obtain ⟨d', k1, k2⟩ := k
    cases k2
    exact ⟨H, by simp only [k1]; rfl, h⟩
   ·rename_i ho
    have h0 : GhK ⟨a ++ List.replicate (pf.ntmps - a.length) .undef, H⟩ ⟨a ++ List.replicate (pf.ntmps - a.length) .undef, G⟩ := ⟨rfl, h⟩
    split at k
    ·rename_i g1 hg
     obtain ⟨s1, k1, k2⟩ := code_gh (runN_gh P n) h0 hg
     simp only [Option.map_eq_some_iff] at k
     obtain ⟨d', k3, k4⟩ := k
     cases k4
     simp only [resV, Option.map_eq_some_iff] at k3
     obtain ⟨ds, k5, k6⟩ := k3
     refine ⟨s1.hp, ?_, k2.hp⟩
     simp only [k1, resV, resL_gh k2 k5, Option.map_some, k6]
    ·rename_i g1 hg
     obtain ⟨s1, k1, k2⟩ := code_gh (runN_gh P n) h0 hg
     simp only [Option.map_eq_some_iff] at k
     obtain ⟨d', k3, k4⟩ := k
     cases k4
     simp only [resV, Option.map_eq_some_iff] at k3
     obtain ⟨ds, k5, k6⟩ := k3
     refine ⟨s1.hp, ?_, k2.hp⟩
     simp only [k1, resV, resL_gh k2 k5, Option.map_some, k6]
    ·cases k
theorem Ends.gh {pr : Prog} {c : PC} {s g : St} {Q : Ex → St → Prop} (h : GhK s g) (k : Ends pr c g Q) : Ends pr c s (fun ex s' => ∃ g', GhK s' g' ∧ Q ex g') := by
 obtain ⟨n, ex, g', k1, k2⟩ := k
 obtain ⟨s', k3, k4⟩ := code_gh (runN_gh pr n) h k1
 exact ⟨n, ex, s', k3, g', k4, k2⟩
end Go.Pi
namespace Go.Pi
set_option linter.unusedVariables false
section
variable {S : Nat → Type} [Sg : Sig S] {ρ ρ' : Rho} {H H' : Heap} {fr : Fr} {b N : Nat} {t : TS S} {s : St} {α : Type}
def fz1 (o n : Nat) (e : Code) (l : List (T S e)) : Val S → Val S
 | .whole q p => (match Nat.beq q o, p with
  | true, [] => .one (n + 1) (.list e) l
  | true, _ => .undef
  | false, p => .whole q p)
 | .win q p off len => (match Nat.beq q o, p with
  | true, [] => .one (n + 1) (.list e) ((l.drop off).take len)
  | true, _ => .undef
  | false, p => .win q p off len)
 | .ptr q p i j => (match Nat.beq q o with
  | true => .undef
  | false => .ptr q p i j)
 | .pa q j z len => (match Nat.beq q o with
  | true => .undef
  | false => .pa q j z len)
 | v => v
def fzV (o n : Nat) (e : Code) (l : List (T S e)) : Val S → Val S
 | .agg vs => .agg (vs.map (fz1 o n e l))
 | .tup vs => .tup (vs.map fun v => match v with
  | .agg vs => .agg (vs.map (fz1 o n e l))
  | v => fz1 o n e l v)
 | v => fz1 o n e l v
def fzO (o n : Nat) (e : Code) (l : List (T S e)) : Obj S → Obj S
 | .box pn vs => .box pn (vs.map (fz1 o n e l))
 | ob => ob
def fzS (o n : Nat) (e : Code) (l : List (T S e)) : List (Nat × Val S) → List (Nat × Val S)
 | [] => []
 | (i, v) :: E => (i, fzV o n e l v) :: fzS o n e l E
def fzH (o n : Nat) (e : Code) (l : List (T S e)) : List (Nat × Obj S) → List (Nat × Obj S)
 | [] => []
 | (i, v) :: E => match Nat.beq i o with
  | true => fzH o n e l E
  | false => (i, fzO o n e l v) :: fzH o n e l E
def TS.freeze (t : TS S) (o : Nat) : Option (TS S) := match look t.hp o with
 | some (.row n e l) => (match isOwn e, Nat.blt 0 (W (S := S) e) with
  | false, true => some { t with sl := fzS o n e l t.sl, hp := fzH o n e l t.hp, gh := true }
  | _, _ => none)
 | _ => none
section
variable {o n : Nat} {e : Code} {l : List (T S e)}
theorem look_fzS : ∀ {E : List (Nat × Val S)} {i : Nat} {v : Val S}, look (fzS o n e l E) i = some v → ∃ w, look E i = some w ∧ v = fzV o n e l w
 | [], _, _, h => nomatch h
 | (k, w) :: E, i, v, h => by
  simp only [fzS, look] at h ⊢
  split at h
  ·cases h
   exact ⟨w, rfl, rfl⟩
  ·exact look_fzS h
theorem look_fzH : ∀ {E : List (Nat × Obj S)} {i : Nat} {v : Obj S}, look (fzH o n e l E) i = some v → i ≠ o ∧ ∃ w, look E i = some w ∧ v = fzO o n e l w
 | [], _, _, h => nomatch h
 | (k, w) :: E, i, v, h => by
  simp only [fzH] at h
  split at h
  ·rename_i q
   obtain ⟨h1, u, h2, h3⟩ := look_fzH h
   refine ⟨h1, u, ?_, h3⟩
   have : Nat.beq k i = false := ne_beq fun z => h1 (z.symm.trans (Nat.eq_of_beq_eq_true q))
   simp only [look, this, h2]
  ·rename_i q
   simp only [look] at h ⊢
   split at h
   ·rename_i z
    cases h
    have := Nat.eq_of_beq_eq_true z
    subst this
    exact ⟨beq_ne q, w, rfl, rfl⟩
   ·exact look_fzH h
structure Fz (ρ : Rho) (H H' : Heap) (o n : Nat) (e : Code) (l : List (T S e)) : Prop where
 x : Ext (del ρ o) H (del ρ o) H'
 w : ∀ d, VS (S := S) ρ H (.whole o []) d → Cl H' (n + 1) (.lst (W (S := S) e) (l.map (en e))) d
 c : ∀ off len d, VS (S := S) ρ H (.win o [] off len) d → Cl H' (n + 1) (.lst (W (S := S) e) (((l.drop off).take len).map (en e))) d
theorem Fz.v1 (f : Fz ρ H H' o n e l) {v : Val S} {d : D} (h : VR1 ρ H v d) : VC (del ρ o) H' (fz1 o n e l v) [d] := by
 have other : ∀ {v : Val S} {d : D}, ment1 (isO o) v = false → (∀ n c x, v ≠ .one n c x) → VR1 ρ H v d → VC (del ρ o) H' v [d] := by
  intro v d hm hn h
  have := (VR1.cut hm h).ext f.x
  cases v with
  | one n c x => exact absurd rfl (hn n c x)
  | _ => exact ⟨d, rfl, this⟩
 cases v with
 | one _ _ _ => exact h.elim
 | agg _ => exact h.elim
 | tup _ => exact h.elim
 | whole q p =>
  simp only [fz1]
  split
  ·rename_i hq
   obtain rfl := Nat.eq_of_beq_eq_true hq
   exact ⟨f.w d h, trivial⟩
  ·exact ⟨d, rfl, trivial⟩
  ·rename_i hq
   exact other hq (fun _ _ _ e => nomatch e) h
 | win q p off len =>
  simp only [fz1]
  split
  ·rename_i hq
   obtain rfl := Nat.eq_of_beq_eq_true hq
   exact ⟨f.c off len d h, trivial⟩
  ·exact ⟨d, rfl, trivial⟩
  ·rename_i hq
   exact other hq (fun _ _ _ e => nomatch e) h
 | ptr q p i j =>
  simp only [fz1]
  split
  ·exact ⟨d, rfl, trivial⟩
  ·rename_i hq
   exact other hq (fun _ _ _ e => nomatch e) h
 | pa q j z len =>
  simp only [fz1]
  split
  ·exact ⟨d, rfl, trivial⟩
  ·rename_i hq
   exact other hq (fun _ _ _ e => nomatch e) h
 | _ => exact other rfl (fun _ _ _ e => nomatch e) h
theorem Fz.vc (f : Fz ρ H H' o n e l) {v : Val S} {ds : List D} (h : VC ρ H v ds) : VC (del ρ o) H' (fz1 o n e l v) ds := by
 cases v with
 | one m c x => exact cls_heap f.x.hle h
 | _ => obtain ⟨d, rfl, h⟩ := h; exact f.v1 h
theorem Fz.vcs (f : Fz ρ H H' o n e l) : ∀ {vs : List (Val S)} {ds : List D}, VCs ρ H vs ds → VCs (del ρ o) H' (vs.map (fz1 o n e l)) ds
 | [], _, h => h
 | _ :: _, _, ⟨a, b, e', h, k⟩ => ⟨a, b, e', f.vc h, Fz.vcs f k⟩
theorem VC.toVSx {v : Val S} {d : D} (h : VC ρ H v [d]) (hv : ∀ n c x, v = .one n c x → isAgg c = false) : VSx ρ H v d := by
 cases v with
 | one n c x => simp only [VSx, hv n c x rfl]; exact h
 | agg _ => obtain ⟨_, _, h⟩ := h; exact h.elim
 | tup _ => obtain ⟨_, _, h⟩ := h; exact h.elim
 | _ => obtain ⟨d', e, h⟩ := h; cases e; exact h
theorem Fz.vsx (f : Fz ρ H H' o n e l) {v : Val S} {d : D} (h : VSx ρ H v d) : VSx (del ρ o) H' (match v with
  | .agg vs => .agg (vs.map (fz1 o n e l))
  | v => fz1 o n e l v) d := by
 have key : ∀ {v : Val S}, (∀ n c x, v ≠ .one n c x) → VR1 ρ H v d → VSx (del ρ o) H' (fz1 o n e l v) d := by
  intro v hn h
  refine VC.toVSx (f.v1 h) fun m c x hx => ?_
  cases v with
  | one m' c' x' => exact absurd rfl (hn m' c' x')
  | whole q p => simp only [fz1] at hx; split at hx <;> cases hx; rfl
  | win q p off len => simp only [fz1] at hx; split at hx <;> cases hx; rfl
  | ptr q p i j => simp only [fz1] at hx; split at hx <;> cases hx
  | pa q j z len => simp only [fz1] at hx; split at hx <;> cases hx
  | _ => cases hx
 cases v with
 | agg vs => exact let ⟨ds, e', h⟩ := h; ⟨ds, e', f.vcs h⟩
 | one m c x => exact VSx.ext (v := .one m c x) ⟨f.x.hle, fun o p x h => h, f.x.row⟩ (VSx.cut (P := isO o) (v := .one m c x) rfl h)
 | _ => exact key (fun _ _ _ e => nomatch e) h
theorem Fz.vs (f : Fz ρ H H' o n e l) {v : Val S} {d : D} (h : VS ρ H v d) : VS (del ρ o) H' (fzV o n e l v) d := by
 cases v with
 | tup vs =>
  obtain ⟨ds, e', h⟩ := h
  refine ⟨ds, e', ?_⟩
  clear e'
  induction vs generalizing ds with
  | nil => cases ds <;> exact h
  | cons v vs ih =>
   cases ds with
   | nil => exact h
   | cons d ds => exact ⟨f.vsx h.1, ih ds h.2⟩
 | agg vs => exact (f.vsx (v := .agg vs) h).toVS
 | _ => simp only [VS] at h; exact (f.vsx h).toVS
end
def Rel (fr : Fr) (b N : Nat) (t : TS S) (s : St) : Prop := ∃ g ρ, GhK s g ∧ RelR fr b N ρ t g
theorem RelR.shut (h : RelR fr b N ρ t s) {o : Nat} {t' : TS S} (ht : t.freeze o = some t') : ∃ g, GhK s g ∧ RelR fr b N (del ρ o) t' g := by
 unfold TS.freeze at ht
 split at ht
 ·rename_i n e l ho
  split at ht
  ·rename_i he hw
   cases ht
   have hw : 0 < W (S := S) e := by simpa using hw
   have fin : ∀ g : St, GhK s g → g.ts = s.ts → Fz ρ s.hp g.hp o n e l → (∀ o' p id, del ρ o o' p = some (some id) → hat g.hp id = hat s.hp id) → (∀ j, hat s.hp j = .fresh → hat g.hp j = .fresh) → (∀ id k, fr id = some k → hat g.hp id = hat s.hp id) → g.hp.length = s.hp.length →
     RelR fr b N (del ρ o) { t with sl := fzS o n e l t.sl, hp := fzH o n e l t.hp, gh := true } g := by
    intro g hg hts f hk hfresh hfr hlen
    refine ⟨by rw [hts]; exact h.len, fun i v hv => ?_, fun q ob hq => ?_, fun o1 p o2 p' id h1 h2 => h.inj _ _ _ _ _ (del_some h1).2 (del_some h2).2, fun o1 p id h1 => ?_, fun q p hq => ?_, fun id k hk' => ?_, h.avl.1, fun r hr => ?_⟩
    ·obtain ⟨w, h1, rfl⟩ := look_fzS hv
     rw [hts]
     exact f.vs (h.sl _ _ h1)
    ·obtain ⟨h1, w, h2, rfl⟩ := look_fzH hq
     have h3 := h.hp _ _ h2
     cases w with
     | row n' e' l' => exact RowR.ext f.x.hle (fun p x hx => by rw [del_ne h1]; exact hx) (fun p id hp => hk q p id (by rw [del_ne h1]; exact hp)) h3
     | box pn vs =>
      obtain ⟨id, ds, k1, k2, k3, k9⟩ := h3
      have k4 := f.vcs k3
      refine ⟨id, ds, by rw [del_ne h1]; exact k1, ?_, k4, k9⟩
      rw [hk q [] id (by rw [del_ne h1]; exact k1), k2, ← k3.len, ← k4.len]
    ·obtain ⟨k1, sz, es, k2⟩ := h.liv _ _ _ (del_some h1).2
     exact ⟨k1, sz, es, by rw [hk _ _ _ h1]; exact k2⟩
    ·have := h.nxt q p hq
     simp only [del, cutR]
     split
     ·rfl
     ·exact this
    ·obtain ⟨k1, k2⟩ := h.frm _ _ hk'
     exact ⟨by rw [hfr _ _ hk']; exact k1, by rw [hlen]; exact k2⟩
    ·obtain ⟨k1, k2, k3⟩ := h.avl.2 r hr
     exact ⟨hfresh _ k1, by rw [hlen]; exact k2, k3⟩
   rcases RowR.els he (show RowR s.hp n e (ρ o) l from h.hp _ _ ho) with ⟨q1, q2⟩ | ⟨id, es, q1, q2, q3⟩
   ·refine ⟨s, GhK.refl s, fin s (GhK.refl s) rfl ⟨Ext.refl _ _, fun d hd => ?_, fun off len d hd => ?_⟩ (fun _ _ _ _ => rfl) (fun _ h => h) (fun _ _ _ => rfl) rfl⟩
    ·rcases hd with ⟨_, _, _, c1, _⟩ | ⟨_, rfl⟩
     ·rw [q1] at c1; cases c1
     ·rw [q2]; exact Cl.plain rfl Nr.mk_nil
    ·rcases hd with ⟨_, _, _, c1, _⟩ | ⟨_, _, _, rfl⟩
     ·rw [q1] at c1; cases c1
     ·rw [q2, List.drop_nil, List.take_nil]; exact Cl.plain rfl Nr.mk_nil
   ·have hlt : id < s.hp.length := hat_ltK (by rw [q2]; simp)
    have hid : ∀ r p, del ρ o r p ≠ some (some id) := fun r p e => by
     obtain ⟨z1, z3⟩ := del_some e
     exact z1 (h.inj _ _ _ _ _ z3 q1).1
    have hf : hat (s.hp.modify id freeze) id = .row (W (S := S) e) es false := by rw [hat_mod, if_pos rfl, q2]; rfl
    have hne : ∀ j, j ≠ id → hat (s.hp.modify id freeze) j = hat s.hp j := fun j hj => by rw [hat_mod, if_neg hj]
    have hle : HLe s.hp (s.hp.modify id freeze) := fun j sz es' hj => by
     rw [hat_mod]
     split
     ·rw [hj]; rfl
     ·exact hj
    have hx : Ext (del ρ o) s.hp (del ρ o) (s.hp.modify id freeze) := ⟨hle, fun _ _ _ h => h, fun o' p id' sz es' k1 k2 => ⟨es', by rw [hne _ (fun e => by subst e; exact hid _ _ k1)]; exact k2, rfl⟩⟩
    have hlen : ∀ d ∈ es, d.length ≤ W (S := S) e := fun d hd => by
     obtain ⟨i, hi, rfl⟩ := List.mem_iff_getElem.mp hd
     obtain ⟨d', h1, h2⟩ := q3.2 i (l[i]'(by rw [← q3.1]; exact hi)) (List.getElem?_eq_getElem _)
     rw [List.getElem?_eq_getElem hi] at h1
     cases h1
     rw [← h2.len, encs_len]
     exact Nat.le_refl _
    have hels : ∀ off len, All2 (All2 (Cl (s.hp.modify id freeze) n)) (((l.drop off).take len).map (en e)) ((es.drop off).take len) := fun off len => by
     have := ((q3.mono (Nat.le_refl _) hle).drop off).take len
     refine All2.of (by rw [List.length_map]; exact this.1.symm) (fun i a d ha hd' => ?_)
     rw [List.getElem?_map, Option.map_eq_some_iff] at ha
     obtain ⟨z, hz, rfl⟩ := ha
     obtain ⟨d', h1, h2⟩ := this.2 i z hz
     rw [hd'] at h1
     cases h1
     exact h2
    have hgh : GhK s ⟨s.ts, s.hp.modify id freeze⟩ := ⟨rfl, by simp, fun j => by
     by_cases e : j = id
     ·subst e; exact .inr ⟨_, _, q2, hf⟩
     ·exact .inl (hne j e)⟩
    refine ⟨⟨s.ts, s.hp.modify id freeze⟩, hgh, fin _ hgh rfl ⟨hx, fun d hd => ?_, fun off len d hd => ?_⟩ (fun o' p id' k1 => hne _ (fun e => by subst e; exact hid _ _ k1)) (fun j hj => by rw [hne j (fun e => by subst e; rw [q2] at hj; cases hj)]; exact hj) (fun j k hk => hne j (fun e => by subst e; rw [(h.liv _ _ _ q1).1] at hk; cases hk)) (by simp)⟩
    ·rcases hd with ⟨id', sz, es', c1, c2, rfl⟩ | ⟨c1, _⟩ <;> rw [q1] at c1 <;> cases c1
     rw [q2] at c2; cases c2
     refine .inr (.inl ⟨_, _, id, 0, es.length, es, rfl, rfl, hf, by simp, ?_, hw, hlen⟩)
     have := hels 0 es.length
     rw [List.drop_zero, List.take_of_length_le (by rw [q3.1]; exact Nat.le_refl _)] at this
     exact this
    ·rcases hd with ⟨id', sz, es', c1, c2, c3, rfl⟩ | ⟨c1, _⟩ <;> rw [q1] at c1 <;> cases c1
     rw [q2] at c2; cases c2
     exact .inr (.inl ⟨_, _, id, off, len, es, rfl, rfl, hf, c3, hels off len, hw, hlen⟩)
  ·cases ht
 ·cases ht
end
end Go.Pi
namespace Go.Pi
set_option linter.unusedVariables false
inductive VSh1 where
 | un
 | skip
 | nil
 | nilp
 | fn (n : Nat)
 | one (n : Nat) (c : Code)
 | whole (o : Nat)
 | ptr (o j : Nat)
 | fp (n : Nat) (c : Code) (j : Nat)
inductive VSh where
 | b (v : VSh1)
 | agg (l : List VSh1)
inductive OSh where
 | row (n : Nat) (e : Code)
 | box (pn : Option Nat) (l : List VSh1)
structure ShapeK where
 sl : List (Nat × VSh)
 hp : List (Nat × OSh)
 nx : Nat
 gh : Bool
def codes1 : VSh1 → List Code → List Code
 | .one _ c, k => c :: k
 | .fp _ c _, k => c :: k
 | _, k => k
def codesL : List VSh1 → List Code → List Code
 | [], k => k
 | v :: vs, k => codes1 v (codesL vs k)
def codesV : VSh → List Code → List Code
 | .b v, k => codes1 v k
 | .agg l, k => codesL l k
def codesS : List (Nat × VSh) → List Code → List Code
 | [], k => k
 | (_, v) :: vs, k => codesV v (codesS vs k)
def codesO : OSh → List Code → List Code
 | .row _ e, k => .list e :: k
 | .box _ l, k => codesL l k
def codesH : List (Nat × OSh) → List Code → List Code
 | [], k => k
 | (_, v) :: vs, k => codesO v (codesH vs k)
def ShapeK.cs (sh : ShapeK) : List Code := codesS sh.sl (codesH sh.hp [])
section
variable {S : Nat → Type} [Sg : Sig S] {ρ ρ' : Rho} {H H' : Heap} {fr : Fr} {b N : Nat} {t : TS S} {s : St} {α : Type}
def open1 : (v : VSh1) → (k : List Code) → Flds S (codes1 v k) → Val S × Flds S k
 | .un, _, p => (.undef, p)
 | .skip, _, p => (.skip, p)
 | .nil, _, p => (.nil, p)
 | .nilp, _, p => (.nilp, p)
 | .fn n, _, p => (.fn n, p)
 | .one n c, _, p => (.one n c p.1, p.2)
 | .whole o, _, p => (.whole o [], p)
 | .ptr o j, _, p => (.ptr o [] 0 j, p)
 | .fp n c j, _, p => (.fp n c p.1 j, p.2)
def openL : (vs : List VSh1) → (k : List Code) → Flds S (codesL vs k) → List (Val S) × Flds S k
 | [], _, p => ([], p)
 | v :: vs, k, p => ((open1 v (codesL vs k) p).1 :: (openL vs k (open1 v (codesL vs k) p).2).1, (openL vs k (open1 v (codesL vs k) p).2).2)
def openV : (v : VSh) → (k : List Code) → Flds S (codesV v k) → Val S × Flds S k
 | .b v, k, p => open1 v k p
 | .agg l, k, p => (.agg (openL l k p).1, (openL l k p).2)
def openS : (vs : List (Nat × VSh)) → (k : List Code) → Flds S (codesS vs k) → List (Nat × Val S) × Flds S k
 | [], _, p => ([], p)
 | (i, v) :: vs, k, p => ((i, (openV v (codesS vs k) p).1) :: (openS vs k (openV v (codesS vs k) p).2).1, (openS vs k (openV v (codesS vs k) p).2).2)
def openO : (v : OSh) → (k : List Code) → Flds S (codesO v k) → Obj S × Flds S k
 | .row n e, _, p => (.row n e p.1, p.2)
 | .box pn l, k, p => (.box pn (openL l k p).1, (openL l k p).2)
def openH : (vs : List (Nat × OSh)) → (k : List Code) → Flds S (codesH vs k) → List (Nat × Obj S) × Flds S k
 | [], _, p => ([], p)
 | (i, v) :: vs, k, p => ((i, (openO v (codesH vs k) p).1) :: (openH vs k (openO v (codesH vs k) p).2).1, (openH vs k (openO v (codesH vs k) p).2).2)
def openSh (sh : ShapeK) (p : Flds S sh.cs) : TS S :=
 { sl := (openS sh.sl (codesH sh.hp []) p).1, hp := (openH sh.hp [] (openS sh.sl (codesH sh.hp []) p).2).1, nx := sh.nx, av := [], gh := sh.gh }
abbrev Sgm := List (Nat × Option Nat)
def bindS (σ : Sgm) (o : Nat) (a : Option Nat) : Option Sgm := match look σ o with
 | none => some ((o, a) :: σ)
 | some a' => match a', a with
  | some x, some y => (match Nat.beq x y with
   | true => some σ
   | false => none)
  | none, none => some σ
  | _, _ => none
def Sub (σ σ' : Sgm) : Prop := ∀ o a, look σ o = some a → look σ' o = some a
theorem Sub.tr {a c d : Sgm} (h : Sub a c) (k : Sub c d) : Sub a d := fun o x q => k o x (h o x q)
theorem bindS_ok {σ σ' : Sgm} {o : Nat} {a : Option Nat} (h : bindS σ o a = some σ') : Sub σ σ' ∧ look σ' o = some a := by
 unfold bindS at h
 split at h
 ·rename_i hn
  cases h
  refine ⟨fun q x hx => ?_, by simp [look]⟩
  simp only [look]
  split
  ·rename_i e
   rw [← Nat.eq_of_beq_eq_true e, hn] at hx
   cases hx
  ·exact hx
 ·rename_i a' ha
  split at h
  ·split at h
   ·rename_i e
    cases h
    rw [Nat.eq_of_beq_eq_true e] at ha
    exact ⟨fun _ _ q => q, ha⟩
   ·cases h
  ·cases h
   exact ⟨fun _ _ q => q, ha⟩
  ·cases h
abbrev KC1 (S : Nat → Type) (k : List Code) := List (Val S) → Sgm → Option (Flds S k)
def cOne {k : List Code} (n : Nat) (c : Code) (ws : List (Val S)) (σ : Sgm) (K : KC1 S k) : Option (T S c × Flds S k) := match cutV fuelV (W (S := S) c) ws, Nat.blt 0 n with
 | some q, true => (match mk n c q.1, K q.2 σ with
  | some x, some p => some (x, p)
  | _, _ => none)
 | _, _ => none
def cFp {k : List Code} (n : Nat) (c : Code) (j : Nat) (ws : List (Val S)) (σ : Sgm) (K : KC1 S k) : Option (T S c × Flds S k) := match ws with
 | .fp n' c' x j' :: ws => (match Nat.ble n' n && Nat.beq j' j, conv c' c x, K ws σ with
  | true, some y, some p => some (y, p)
  | _, _, _ => none)
 | _ => none
def cUn {k : List Code} (ws : List (Val S)) (σ : Sgm) (K : KC1 S k) : Option (Flds S k) := match ws with
 | w :: ws => (match Nat.beq (width w) 1 with
  | true => K ws σ
  | false => none)
 | _ => none
def plainB : VSh1 → Val S → Bool
 | .skip, .skip => true
 | .nil, .nil => true
 | .nilp, .nilp => true
 | .fn n, .fn m => Nat.beq n m
 | _, _ => false
def cPl {k : List Code} (v : VSh1) (ws : List (Val S)) (σ : Sgm) (K : KC1 S k) : Option (Flds S k) := match ws with
 | w :: ws => (match plainB v w with
  | true => K ws σ
  | false => none)
 | _ => none
def cWh {k : List Code} (o : Nat) (ws : List (Val S)) (σ : Sgm) (K : KC1 S k) : Option (Flds S k) := match ws with
 | .whole a p :: ws => (match p, bindS σ o (some a) with
  | [], some σ' => K ws σ'
  | _, _ => none)
 | .nil :: ws => (match bindS σ o none with
  | some σ' => K ws σ'
  | none => none)
 | _ => none
def cPt {k : List Code} (o j : Nat) (ws : List (Val S)) (σ : Sgm) (K : KC1 S k) : Option (Flds S k) := match ws with
 | .ptr a p i j' :: ws => (match p, Nat.beq i 0 && Nat.beq j' j, bindS σ o (some a) with
  | [], true, some σ' => K ws σ'
  | _, _, _ => none)
 | _ => none
def close1 {k : List Code} : (v : VSh1) → List (Val S) → Sgm → KC1 S k → Option (Flds S (codes1 v k))
 | .one n c, ws, σ, K => cOne n c ws σ K
 | .fp n c j, ws, σ, K => cFp n c j ws σ K
 | .un, ws, σ, K => cUn ws σ K
 | .skip, ws, σ, K => cPl .skip ws σ K
 | .nil, ws, σ, K => cPl .nil ws σ K
 | .nilp, ws, σ, K => cPl .nilp ws σ K
 | .fn n, ws, σ, K => cPl (.fn n) ws σ K
 | .whole o, ws, σ, K => cWh o ws σ K
 | .ptr o j, ws, σ, K => cPt o j ws σ K
def closeLK {k : List Code} : (vs : List VSh1) → List (Val S) → Sgm → (Sgm → Option (Flds S k)) → Option (Flds S (codesL vs k))
 | [], ws, σ, K => (match ws with
  | [] => K σ
  | _ :: _ => none)
 | v :: vs, ws, σ, K => close1 v ws σ fun ws σ => closeLK vs ws σ K
def slotV : Val S → Option (Bool × List (Val S))
 | .agg vs => some (true, vs)
 | .tup _ => none
 | .one n c v => some (isAgg c, [.one n c v])
 | v => some (false, [v])
def flagV : VSh → Bool × List VSh1
 | .b (.one n c) => (isAgg c, [.one n c])
 | .b v => (false, [v])
 | .agg l => (true, l)
def beqB : Bool → Bool → Bool
 | true, true => true
 | false, false => true
 | _, _ => false
def closeV {k : List Code} (v : VSh) (w : Val S) (σ : Sgm) (K : Sgm → Option (Flds S k)) : Option (Flds S (codesV v k)) := match slotV w with
 | some (f, ws) => match v with
  | .b v => (match beqB f (flagV (.b v)).1 with
   | true => closeLK (k := k) [v] ws σ K
   | false => none)
  | .agg l => (match f with
   | true => closeLK (k := k) l ws σ K
   | false => none)
 | none => none
def closeS (t : TS S) {k : List Code} : (vs : List (Nat × VSh)) → Sgm → (Sgm → Option (Flds S k)) → Option (Flds S (codesS vs k))
 | [], σ, K => K σ
 | (i, v) :: vs, σ, K => match look t.sl i with
  | some w => closeV v w σ fun σ' => closeS t vs σ' K
  | none => none
def cRow (t : TS S) {k : List Code} (n : Nat) (e : Code) (o : Nat) (σ : Sgm) (K : Sgm → Option (Flds S k)) : Option (List (T S e) × Flds S k) := match look σ o with
 | some (some a) => (match look t.hp a with
  | some (.row n' e' l) => (match Nat.ble n' n, castE e' e l, K σ with
   | true, some m, some p => some (m, p)
   | _, _, _ => none)
  | _ => none)
 | some none => (match K σ with
  | some p => some ([], p)
  | none => none)
 | none => none
def eqO : Option Nat → Option Nat → Bool
 | none, none => true
 | some a, some b => Nat.beq a b
 | _, _ => false
theorem eqO_eq {a b : Option Nat} (h : eqO a b = true) : a = b := by
 cases a <;> cases b <;> first | rfl | cases h | exact congrArg some (Nat.eq_of_beq_eq_true h)
def cBox (t : TS S) {k : List Code} (pn' : Option Nat) (l : List VSh1) (o : Nat) (σ : Sgm) (K : Sgm → Option (Flds S k)) : Option (Flds S (codesL l k)) := match look σ o with
 | some (some a) => (match look t.hp a with
  | some (.box pn vs) => (match eqO pn pn' with
   | true => closeLK l vs σ K
   | false => none)
  | _ => none)
 | _ => none
def closeO (t : TS S) {k : List Code} : (v : OSh) → (o : Nat) → Sgm → (Sgm → Option (Flds S k)) → Option (Flds S (codesO v k))
 | .row n e, o, σ, K => cRow t n e o σ K
 | .box pn l, o, σ, K => cBox t pn l o σ K
def closeH (t : TS S) {k : List Code} : (vs : List (Nat × OSh)) → Sgm → (Sgm → Option (Flds S k)) → Option (Flds S (codesH vs k))
 | [], σ, K => K σ
 | (o, v) :: vs, σ, K => closeO t v o σ fun σ' => closeH t vs σ' K
def injS : Sgm → Bool
 | [] => true
 | (o, a) :: σ => (match a with
  | some x => σ.all fun p => match p.2 with
   | some y => !Nat.beq x y
   | none => true
  | none => true) && injS σ
def okSg (sh : ShapeK) (t : TS S) (σ : Sgm) : Bool := injS σ && (σ.all fun p => Nat.blt p.1 sh.nx) && (sh.gh || !t.gh)
def closeSh (sh : ShapeK) (t : TS S) : Option (Flds S sh.cs) :=
 closeS t sh.sl [] fun σ => closeH t sh.hp σ fun σ' => match okSg sh t σ' with
  | true => some ()
  | false => none
end
end Go.Pi
namespace Go.Pi
set_option linter.unusedVariables false
section
variable {S : Nat → Type} [Sg : Sig S] {ρ ρ' : Rho} {H H' : Heap} {fr : Fr} {b N : Nat} {t : TS S} {s : St} {α : Type}
def Agree (ρ ρ' : Rho) (σ : Sgm) : Prop := ∀ o a, look σ o = some a → match a with
 | some a => ∀ p, ρ' o p = ρ a p
 | none => ρ' o [] = some none
theorem Agree.sub {σ σ' : Sgm} (h : Agree ρ ρ' σ') (k : Sub σ σ') : Agree ρ ρ' σ := fun o a q => h o a (k o a q)
theorem VCs.single {v : Val S} {ds : List D} (h : VC ρ H v ds) : VCs ρ H [v] ds := ⟨ds, [], (List.append_nil _).symm, h, rfl⟩
theorem cOne_ok {k : List Code} {n : Nat} {c : Code} {ws : List (Val S)} {σ : Sgm} {K : KC1 S k} {p : T S c × Flds S k} (h : cOne n c ws σ K = some p) :
  ∃ ws', K ws' σ = some p.2 ∧ ∀ ds, VCs ρ H ws ds → ∃ a b, ds = a ++ b ∧ All2 (Cl H n) (en c p.1) a ∧ VCs ρ H ws' b := by
 unfold cOne at h
 split at h
 ·rename_i q hq hn
  split at h
  ·rename_i x p' hx hp
   cases h
   refine ⟨q.2, hp, fun ds hd => ?_⟩
   obtain ⟨d, e, rfl, h1, h2, h3⟩ := cutV_ok (a := q.1) (b := q.2) hq hd
   exact ⟨d, e, rfl, mk_ok (by simpa using hn) hx h2, h3⟩
  ·cases h
 ·cases h
theorem cFp_ok {k : List Code} {n j : Nat} {c : Code} {ws : List (Val S)} {σ : Sgm} {K : KC1 S k} {p : T S c × Flds S k} (h : cFp n c j ws σ K = some p) :
  ∃ ws', K ws' σ = some p.2 ∧ ∀ ds, VCs ρ H ws ds → ∃ a b, ds = a ++ b ∧ (∃ d, a = [d] ∧ ∃ r, Cl H n (.fptr ((en c p.1).drop j ++ r)) d) ∧ VCs ρ H ws' b := by
 unfold cFp at h
 split at h
 ·rename_i n' c' x j' ws
  split at h
  ·rename_i y p' hb hc hp
   cases h
   simp only [Bool.and_eq_true] at hb
   refine ⟨ws, hp, fun ds hd => ?_⟩
   obtain ⟨a, a', rfl, ⟨d, rfl, r, h1⟩, h2⟩ := hd
   obtain rfl := Nat.eq_of_beq_eq_true hb.2
   exact ⟨[d], a', rfl, ⟨d, rfl, r, by rw [(conv_ok hc).1]; exact h1.up (Nat.le_of_ble_eq_true hb.1)⟩, h2⟩
  ·cases h
 ·cases h
theorem cUn_ok {k : List Code} {ws : List (Val S)} {σ : Sgm} {K : KC1 S k} {p : Flds S k} (h : cUn ws σ K = some p) :
  ∃ ws', K ws' σ = some p ∧ ∀ ds, VCs ρ H ws ds → ∃ a b, ds = a ++ b ∧ (∃ d, a = [d]) ∧ VCs ρ H ws' b := by
 unfold cUn at h
 split at h
 ·rename_i w ws
  split at h
  ·rename_i hw
   refine ⟨ws, h, fun ds hd => ?_⟩
   obtain ⟨a, a', rfl, h1, h2⟩ := hd
   have hl := h1.len
   rw [Nat.eq_of_beq_eq_true hw] at hl
   match a, hl with
   | [d], _ => exact ⟨[d], a', rfl, ⟨d, rfl⟩, h2⟩
  ·cases h
 ·cases h
def valP : VSh1 → Val S
 | .skip => .skip
 | .nil => .nil
 | .nilp => .nilp
 | .fn n => .fn n
 | _ => .undef
theorem plainB_ok {v : VSh1} {w : Val S} (h : plainB v w = true) : w = valP v ∧ ∀ ρ' d, VR1 ρ H w d → VR1 ρ' H (valP (S := S) v) d := by
 unfold plainB at h
 split at h
 ·exact ⟨rfl, fun _ _ h => h⟩
 ·exact ⟨rfl, fun _ _ h => h⟩
 ·exact ⟨rfl, fun _ _ h => h⟩
 ·obtain rfl := Nat.eq_of_beq_eq_true h
  exact ⟨rfl, fun _ _ h => h⟩
 ·cases h
theorem cPl_ok {k : List Code} {v : VSh1} {ws : List (Val S)} {σ : Sgm} {K : KC1 S k} {p : Flds S k} (h : cPl v ws σ K = some p) :
  ∃ ws', K ws' σ = some p ∧ ∀ ρ' ds, VCs ρ H ws ds → ∃ a b, ds = a ++ b ∧ (∃ d, a = [d] ∧ VR1 ρ' H (valP (S := S) v) d) ∧ VCs ρ H ws' b := by
 unfold cPl at h
 split at h
 ·rename_i w ws
  split at h
  ·rename_i hw
   refine ⟨ws, h, fun ρ' ds hd => ?_⟩
   obtain ⟨a, a', rfl, h1, h2⟩ := hd
   obtain ⟨rfl, h3⟩ := plainB_ok (ρ := ρ) (H := H) hw
   have : ∃ d, a = [d] ∧ VR1 ρ H (valP (S := S) v) d := by
    cases v <;> exact h1
   obtain ⟨d, rfl, h4⟩ := this
   exact ⟨[d], a', rfl, ⟨d, rfl, h3 ρ' d h4⟩, h2⟩
  ·cases h
 ·cases h
theorem cWh_ok {k : List Code} {o : Nat} {ws : List (Val S)} {σ : Sgm} {K : KC1 S k} {p : Flds S k} (h : cWh o ws σ K = some p) :
  ∃ ws' σ', Sub σ σ' ∧ K ws' σ' = some p ∧ ∀ ρ', Agree ρ ρ' σ' → ∀ ds, VCs ρ H ws ds → ∃ a b, ds = a ++ b ∧ (∃ d, a = [d] ∧ VR1 (S := S) ρ' H (.whole o []) d) ∧ VCs ρ H ws' b := by
 unfold cWh at h
 split at h
 ·rename_i a p' ws
  split at h
  ·rename_i σ1 hb
   obtain ⟨b1, b2⟩ := bindS_ok hb
   refine ⟨ws, σ1, b1, h, fun ρ' ha ds hd => ?_⟩
   obtain ⟨a0, a', rfl, ⟨d, rfl, h1⟩, h2⟩ := hd
   have hag := ha o _ b2
   refine ⟨[d], a', rfl, ⟨d, rfl, ?_⟩, h2⟩
   simp only [VR1, hag]
   exact h1
  ·cases h
 ·rename_i ws
  split at h
  ·rename_i σ1 hb
   obtain ⟨b1, b2⟩ := bindS_ok hb
   refine ⟨ws, σ1, b1, h, fun ρ' ha ds hd => ?_⟩
   obtain ⟨a0, a', rfl, ⟨d, rfl, h1⟩, h2⟩ := hd
   exact ⟨[d], a', rfl, ⟨d, rfl, .inr ⟨ha o _ b2, h1⟩⟩, h2⟩
  ·cases h
 ·cases h
theorem cPt_ok {k : List Code} {o j : Nat} {ws : List (Val S)} {σ : Sgm} {K : KC1 S k} {p : Flds S k} (h : cPt o j ws σ K = some p) :
  ∃ ws' σ', Sub σ σ' ∧ K ws' σ' = some p ∧ ∀ ρ', Agree ρ ρ' σ' → ∀ ds, VCs ρ H ws ds → ∃ a b, ds = a ++ b ∧ (∃ d, a = [d] ∧ VR1 (S := S) ρ' H (.ptr o [] 0 j) d) ∧ VCs ρ H ws' b := by
 unfold cPt at h
 split at h
 ·rename_i a p' i j' ws
  split at h
  ·rename_i σ1 hb0 hb
   simp only [Bool.and_eq_true] at hb0
   obtain ⟨b1, b2⟩ := bindS_ok hb
   refine ⟨ws, σ1, b1, h, fun ρ' ha ds hd => ?_⟩
   obtain ⟨a0, a', rfl, ⟨d, rfl, h1⟩, h2⟩ := hd
   have hag := ha o _ b2
   obtain rfl := Nat.eq_of_beq_eq_true hb0.1
   obtain rfl := Nat.eq_of_beq_eq_true hb0.2
   refine ⟨[d], a', rfl, ⟨d, rfl, ?_⟩, h2⟩
   simp only [VR1, hag]
   exact h1
  ·cases h
 ·cases h
theorem close1_ok {k : List Code} {v : VSh1} {ws : List (Val S)} {σ : Sgm} {K : KC1 S k} {p : Flds S (codes1 v k)} (h : close1 v ws σ K = some p) :
  ∃ ws' σ' q, Sub σ σ' ∧ K ws' σ' = some q ∧ (open1 v k p).2 = q ∧ ∀ ρ' : Rho, Agree ρ ρ' σ' → ∀ ds, VCs ρ H ws ds → ∃ a b, ds = a ++ b ∧ VC ρ' H (open1 v k p).1 a ∧ VCs ρ H ws' b := by
 have pl : ∀ {v : VSh1} {p : Flds S k}, cPl v ws σ K = some p → ∃ ws' σ', Sub σ σ' ∧ K ws' σ' = some p ∧ ∀ ρ' : Rho, Agree ρ ρ' σ' → ∀ ds, VCs ρ H ws ds → ∃ a b, ds = a ++ b ∧ (∃ d, a = [d] ∧ VR1 ρ' H (valP (S := S) v) d) ∧ VCs ρ H ws' b := fun h => by
  obtain ⟨ws', h1, h2⟩ := cPl_ok (ρ := ρ) (H := H) h
  exact ⟨ws', σ, fun _ _ q => q, h1, fun ρ' _ => h2 ρ'⟩
 cases v with
 | one n c =>
  obtain ⟨ws', h1, h2⟩ := cOne_ok (ρ := ρ) (H := H) h
  exact ⟨ws', σ, p.2, fun _ _ q => q, h1, rfl, fun ρ' _ => h2⟩
 | fp n c j =>
  obtain ⟨ws', h1, h2⟩ := cFp_ok (ρ := ρ) (H := H) h
  exact ⟨ws', σ, p.2, fun _ _ q => q, h1, rfl, fun ρ' _ => h2⟩
 | un =>
  obtain ⟨ws', h1, h2⟩ := cUn_ok (ρ := ρ) (H := H) h
  exact ⟨ws', σ, p, fun _ _ q => q, h1, rfl, fun ρ' _ ds hd => let ⟨a, b, e, ⟨d, h3⟩, h4⟩ := h2 ds hd; ⟨a, b, e, ⟨d, h3, trivial⟩, h4⟩⟩
 | skip => obtain ⟨ws', σ', h1, h2, h3⟩ := pl h; exact ⟨ws', σ', p, h1, h2, rfl, h3⟩
 | nil => obtain ⟨ws', σ', h1, h2, h3⟩ := pl h; exact ⟨ws', σ', p, h1, h2, rfl, h3⟩
 | nilp => obtain ⟨ws', σ', h1, h2, h3⟩ := pl h; exact ⟨ws', σ', p, h1, h2, rfl, h3⟩
 | fn n => obtain ⟨ws', σ', h1, h2, h3⟩ := pl h; exact ⟨ws', σ', p, h1, h2, rfl, h3⟩
 | whole o => obtain ⟨ws', σ', h1, h2, h3⟩ := cWh_ok (ρ := ρ) (H := H) h; exact ⟨ws', σ', p, h1, h2, rfl, h3⟩
 | ptr o j => obtain ⟨ws', σ', h1, h2, h3⟩ := cPt_ok (ρ := ρ) (H := H) h; exact ⟨ws', σ', p, h1, h2, rfl, h3⟩
theorem closeL_okK {k : List Code} : ∀ {vs : List VSh1} {ws : List (Val S)} {σ : Sgm} {K : Sgm → Option (Flds S k)} {p : Flds S (codesL vs k)}, closeLK vs ws σ K = some p →
  ∃ σ' q, Sub σ σ' ∧ K σ' = some q ∧ (openL vs k p).2 = q ∧ ∀ ρ' : Rho, Agree ρ ρ' σ' → ∀ ds, VCs ρ H ws ds → VCs ρ' H (openL vs k p).1 ds
 | [], ws, σ, K, p, h => by
  simp only [closeLK] at h
  split at h
  ·exact ⟨σ, p, fun _ _ q => q, h, rfl, fun ρ' _ ds hd => hd⟩
  ·cases h
 | v :: vs, ws, σ, K, p, h => by
  simp only [closeLK] at h
  obtain ⟨ws1, σ1, q1, z1, z2, z3, z4⟩ := close1_ok (ρ := ρ) (H := H) h
  obtain ⟨σ2, q2, y1, y2, y3, y4⟩ := closeL_okK z2
  refine ⟨σ2, q2, z1.tr y1, y2, by simp only [openL, z3, y3], fun ρ' ha ds hd => ?_⟩
  obtain ⟨a, b, rfl, h1, h2⟩ := z4 ρ' (ha.sub y1) ds hd
  simp only [openL, z3]
  exact ⟨a, b, rfl, h1, y4 ρ' ha b h2⟩
theorem slotV_ok {w : Val S} {f : Bool} {ws : List (Val S)} {d : D} (h : slotV w = some (f, ws)) (k : VS ρ H w d) : ∃ ds, VCs ρ H ws ds ∧ (f = true → d = .agg ds) ∧ (f = false → ds = [d]) := by
 have base : ∀ {w : Val S}, (∀ n c x, w ≠ .one n c x) → VR1 ρ H w d → VCs ρ H [w] [d] := by
  intro w hn h
  refine VCs.single ?_
  cases w with
  | one n c x => exact absurd rfl (hn n c x)
  | _ => exact ⟨d, rfl, h⟩
 cases w with
 | agg vs => cases h; obtain ⟨ds, e, k⟩ := k; exact ⟨ds, k, ⟨fun _ => e, fun e => nomatch e⟩⟩
 | tup _ => cases h
 | one n c v =>
  cases h
  simp only [VS, VSx] at k
  cases hc : isAgg c with
  | true => rw [hc] at k; obtain ⟨ds, e, k⟩ := k; exact ⟨ds, VCs.single k, ⟨fun _ => e, fun e => nomatch e⟩⟩
  | false => rw [hc] at k; exact ⟨[d], VCs.single k, ⟨(fun e => nomatch e), fun _ => rfl⟩⟩
 | _ => cases h; exact ⟨[d], base (fun _ _ _ e => nomatch e) k, ⟨(fun e => nomatch e), fun _ => rfl⟩⟩
theorem closeV_ok {k : List Code} {v : VSh} {w : Val S} {σ : Sgm} {K : Sgm → Option (Flds S k)} {p : Flds S (codesV v k)} (h : closeV v w σ K = some p) :
  ∃ σ' q, Sub σ σ' ∧ K σ' = some q ∧ (openV v k p).2 = q ∧ ∀ ρ' : Rho, Agree ρ ρ' σ' → ∀ d, VS ρ H w d → VS ρ' H (openV v k p).1 d := by
 unfold closeV at h
 split at h
 ·rename_i f ws hw
  split at h
  ·rename_i v
   split at h
   ·rename_i hf
    obtain ⟨σ', q, z1, z2, z3, z4⟩ := closeL_okK (ρ := ρ) (H := H) (vs := [v]) h
    refine ⟨σ', q, z1, z2, z3, fun ρ' ha d hd => ?_⟩
    obtain ⟨ds, k1, k2⟩ := slotV_ok hw hd
    have k3 := z4 ρ' ha ds k1
    have k3 : VCs ρ' H [(open1 v k p).1] ds := k3
    obtain ⟨d1, d2, rfl, k4, k5⟩ := k3
    have k5 : d2 = [] := k5
    subst k5
    rw [List.append_nil] at k2 k1
    show VS ρ' H (open1 v k p).1 d
    cases v with
    | one n c =>
     simp only [open1, VS, VSx]
     have hfc : f = isAgg c := by
      have hf : beqB f (isAgg c) = true := hf
      cases f <;> cases hc : isAgg c <;> rw [hc] at hf <;> first | rfl | cases hf
     subst hfc
     cases hc : isAgg c with
     | true => exact ⟨d1, k2.1 hc, k4⟩
     | false => have k2 := k2.2 hc; subst k2; exact k4
    | _ =>
     have hf : beqB f false = true := hf
     cases f with
     | true => cases hf
     | false =>
      have k2 := k2.2 rfl
      subst k2
      obtain ⟨d', e, k6⟩ := k4
      cases e
      exact k6
   ·cases h
  ·rename_i l
   split at h
   ·obtain ⟨σ', q, z1, z2, z3, z4⟩ := closeL_okK (ρ := ρ) (H := H) (vs := l) h
    refine ⟨σ', q, z1, z2, z3, fun ρ' ha d hd => ?_⟩
    obtain ⟨ds, k1, k2⟩ := slotV_ok hw hd
    exact ⟨ds, k2.1 rfl, z4 ρ' ha ds k1⟩
   ·cases h
 ·cases h
theorem closeS_ok {ts : List D} (hsl : ∀ i v, look t.sl i = some v → VS ρ H v (ts.getD i .undef)) {k : List Code} : ∀ {vs : List (Nat × VSh)} {σ : Sgm} {K : Sgm → Option (Flds S k)} {p : Flds S (codesS vs k)}, closeS t vs σ K = some p →
  ∃ σ' q, Sub σ σ' ∧ K σ' = some q ∧ (openS vs k p).2 = q ∧ ∀ ρ' : Rho, Agree ρ ρ' σ' → ∀ i v, look (openS vs k p).1 i = some v → VS ρ' H v (ts.getD i .undef)
 | [], σ, K, p, h => ⟨σ, p, fun _ _ q => q, h, rfl, fun _ _ i v hv => nomatch hv⟩
 | (i, v) :: vs, σ, K, p, h => by
  simp only [closeS] at h
  split at h
  ·rename_i w hw
   obtain ⟨σ1, q1, z1, z2, z3, z4⟩ := closeV_ok (ρ := ρ) (H := H) h
   obtain ⟨σ2, q2, y1, y2, y3, y4⟩ := closeS_ok hsl z2
   refine ⟨σ2, q2, z1.tr y1, y2, ?_, fun ρ' ha j u hu => ?_⟩
   ·simp only [openS, z3, y3]
   ·simp only [openS, look] at hu
    split at hu
    ·rename_i e
     cases hu
     obtain rfl := Nat.eq_of_beq_eq_true e
     exact z4 ρ' (ha.sub y1) _ (hsl _ _ hw)
    ·rw [z3] at hu
     exact y4 ρ' ha j u hu
  ·cases h
theorem closeO_ok (hh : ∀ o ob, look t.hp o = some ob → ObjR fr ρ H o ob) {k : List Code} {v : OSh} {o : Nat} {σ : Sgm} {K : Sgm → Option (Flds S k)} {p : Flds S (codesO v k)} (h : closeO t v o σ K = some p) :
  ∃ σ' q, Sub σ σ' ∧ K σ' = some q ∧ (openO v k p).2 = q ∧ ∀ ρ' : Rho, Agree ρ ρ' σ' → ObjR fr ρ' H o (openO v k p).1 := by
 cases v with
 | row n e =>
  have h : cRow t n e o σ K = some p := h
  unfold cRow at h
  split at h
  ·rename_i a ha
   split at h
   ·rename_i n' e' l hl
    split at h
    ·rename_i m p' hn hm hp
     cases h
     obtain ⟨he, rfl⟩ := castE_ok hm
     subst he
     refine ⟨σ, p', fun _ _ q => q, hp, rfl, fun ρ' hag => ?_⟩
     have h1 := hag o _ ha
     have h2 : RowR H n' e' (ρ a) l := hh _ _ hl
     exact (h2.ext (HLe.refl _) (fun p x hx => by rw [h1]; exact hx) (fun _ _ _ => rfl)).up (Nat.le_of_ble_eq_true hn)
    ·cases h
   ·cases h
  ·rename_i ha
   split at h
   ·rename_i p' hp
    cases h
    exact ⟨σ, p', fun _ _ q => q, hp, rfl, fun ρ' hag => RowR.of_nil (hag o _ ha)⟩
   ·cases h
  ·cases h
 | box pn' l =>
  have h : cBox t pn' l o σ K = some p := h
  unfold cBox at h
  split at h
  ·rename_i a ha
   split at h
   ·rename_i pn vs hl
    split at h
    ·rename_i hpn
     obtain rfl := eqO_eq hpn
     obtain ⟨σ', q, z1, z2, z3, z4⟩ := closeL_okK (ρ := ρ) (H := H) (vs := l) h
     refine ⟨σ', q, z1, z2, z3, fun ρ' hag => ?_⟩
     have h1 := hag o _ (z1 _ _ ha)
     obtain ⟨id, ds, k1, k2, k3, k9⟩ := hh _ _ hl
     have k4 := z4 ρ' hag ds k3
     exact ⟨id, ds, by rw [h1]; exact k1, by rw [← k4.len, k3.len]; exact k2, k4, k9⟩
    ·cases h
   ·cases h
  ·cases h
theorem closeH_ok (hh : ∀ o ob, look t.hp o = some ob → ObjR fr ρ H o ob) {k : List Code} : ∀ {vs : List (Nat × OSh)} {σ : Sgm} {K : Sgm → Option (Flds S k)} {p : Flds S (codesH vs k)}, closeH t vs σ K = some p →
  ∃ σ' q, Sub σ σ' ∧ K σ' = some q ∧ (openH vs k p).2 = q ∧ ∀ ρ' : Rho, Agree ρ ρ' σ' → ∀ o ob, look (openH vs k p).1 o = some ob → ObjR fr ρ' H o ob
 | [], σ, K, p, h => ⟨σ, p, fun _ _ q => q, h, rfl, fun _ _ i v hv => nomatch hv⟩
 | (o, v) :: vs, σ, K, p, h => by
  simp only [closeH] at h
  obtain ⟨σ1, q1, z1, z2, z3, z4⟩ := closeO_ok (ρ := ρ) (H := H) hh h
  obtain ⟨σ2, q2, y1, y2, y3, y4⟩ := closeH_ok hh z2
  refine ⟨σ2, q2, z1.tr y1, y2, ?_, fun ρ' ha j u hu => ?_⟩
  ·simp only [openH, z3, y3]
  ·simp only [openH, look] at hu
   split at hu
   ·rename_i e
    cases hu
    obtain rfl := Nat.eq_of_beq_eq_true e
    exact z4 ρ' (ha.sub y1)
   ·rw [z3] at hu
    exact y4 ρ' ha j u hu
def rhoG (ρ : Rho) (σ : Sgm) : Rho := fun o p => match look σ o with
 | some (some a) => ρ a p
 | some none => (match p with
  | [] => some none
  | _ => none)
 | none => none
theorem rhoG_agree (σ : Sgm) : Agree ρ (rhoG ρ σ) σ := fun o a h => by
 cases a with
 | some a => intro p; simp only [rhoG, h]
 | none => simp only [rhoG, h]
theorem rhoG_some {σ : Sgm} {o : Nat} {p : List Nat} {id : Nat} (h : rhoG ρ σ o p = some (some id)) : ∃ a, look σ o = some (some a) ∧ ρ a p = some (some id) := by
 unfold rhoG at h
 split at h
 ·rename_i a ha; exact ⟨a, ha, h⟩
 ·split at h <;> cases h
 ·cases h
theorem look_mem {σ : Sgm} : ∀ {o : Nat} {a : Option Nat}, look σ o = some a → (o, a) ∈ σ := by
 induction σ with
 | nil => intro o a h; cases h
 | cons x σ ih =>
  intro o a h
  obtain ⟨k, v⟩ := x
  simp only [look] at h
  split at h
  ·rename_i e
   cases h
   rw [Nat.eq_of_beq_eq_true e]
   exact List.mem_cons_self ..
  ·exact List.mem_cons_of_mem _ (ih h)
theorem injS_ok : ∀ {σ : Sgm}, injS σ = true → ∀ {o o' a : Nat}, look σ o = some (some a) → look σ o' = some (some a) → o = o'
 | [], _, _, _, _, h, _ => nomatch h
 | (k, v) :: σ, h, o, o', a, h1, h2 => by
  simp only [injS, Bool.and_eq_true] at h
  simp only [look] at h1 h2
  have key : ∀ {q : Nat}, v = some a → look σ q = some (some a) → False := fun {q} hv hq => by
   have h0 := h.1
   rw [hv] at h0
   have := List.all_eq_true.mp h0 _ (look_mem hq)
   simp at this
  cases e1 : Nat.beq k o <;> cases e2 : Nat.beq k o' <;> simp only [e1] at h1 <;> simp only [e2] at h2
  ·exact injS_ok h.2 h1 h2
  ·cases h2; exact (key rfl h1).elim
  ·cases h1; exact (key rfl h2).elim
  ·rw [← Nat.eq_of_beq_eq_true e1, ← Nat.eq_of_beq_eq_true e2]
theorem RelR.closeSh (h : RelR fr b N ρ t s) {sh : ShapeK} {p : Flds S sh.cs} (hc : Pi.closeSh sh t = some p) : ∃ ρ', RelR fr b N ρ' (openSh sh p) s := by
 unfold Pi.closeSh at hc
 obtain ⟨σ1, q1, z1, z2, z3, z4⟩ := closeS_ok h.sl hc
 obtain ⟨σ2, q2, y1, y2, y3, y4⟩ := closeH_ok h.hp z2
 split at y2
 ·rename_i hok
  simp only [okSg, Bool.and_eq_true] at hok
  obtain ⟨⟨o1, o2⟩, o3⟩ := hok
  refine ⟨rhoG ρ σ2, h.len, fun i v hv => ?_, fun o ob ho => ?_, fun o p o' p' id h1 h2 => ?_, fun o p id h1 => ?_, fun o p ho => ?_, h.frm, List.nodup_nil, fun r hr => nomatch hr⟩
  ·exact z4 _ ((rhoG_agree σ2).sub y1) i v hv
  ·have ho : look (openH sh.hp [] (openS sh.sl (codesH sh.hp []) p).2).1 o = some ob := ho
   rw [z3] at ho
   exact y4 _ (rhoG_agree σ2) o ob ho
  ·obtain ⟨a, e1, e2⟩ := rhoG_some h1
   obtain ⟨a', e3, e4⟩ := rhoG_some h2
   obtain ⟨rfl, rfl⟩ := h.inj _ _ _ _ _ e2 e4
   exact ⟨injS_ok o1 e1 e3, rfl⟩
  ·obtain ⟨a, e1, e2⟩ := rhoG_some h1
   exact h.liv _ _ _ e2
  ·have ho : sh.nx ≤ o := ho
   unfold rhoG
   cases hl : look σ2 o with
   | none => rfl
   | some a =>
    have := List.all_eq_true.mp o2 _ (look_mem hl)
    have : o < sh.nx := by simpa using this
    omega
 ·cases y2
end
end Go.Pi
namespace Go.Pi
set_option linter.unusedVariables false
section
variable {S : Nat → Type} [Sg : Sig S] {ρ ρ' : Rho} {H H' : Heap} {fr : Fr} {b N : Nat} {t : TS S} {s : St} {α : Type}
def FzR (P : Nat → Prop) (H : Heap) (v d : D) : Prop := ∃ z, (frz 11 d).run H = some z ∧ Nr v z.1 ∧ ∀ i ∈ z.2, dead H i ∨ P i
theorem Cl.fz {P : Nat → Prop} {n : Nat} (hn : n ≤ 11) {v d : D} (h : Cl H n v d) : FzR P H v d := by
 obtain ⟨z, h1, h2, h3⟩ := h.frz
 exact ⟨z, frz_up h1 hn, h2, fun i hi => .inl (h3 i hi)⟩
theorem FzR.each {P : Nat → Prop} : ∀ {vs ds : List D}, All2 (FzR P H) vs ds → ∃ z, (eachC (frz 11) ds).run H = some z ∧ All2 Nr vs z.1 ∧ ∀ i ∈ z.2, dead H i ∨ P i
 | [], [], _ => ⟨([], []), rfl, trivial, by simp⟩
 | v :: vs, d :: ds, h => by
  obtain ⟨x, h1, h2, h3⟩ := h.1
  obtain ⟨y, h4, h5, h6⟩ := FzR.each h.2
  refine ⟨(x.1 :: y.1, x.2 ++ y.2), by simp [eachC, run_bindE, h1, h4, Eff.run], ⟨h2, h5⟩, fun i hi => ?_⟩
  simp at hi
  exact hi.elim (h3 i) (h6 i)
 | [], _ :: _, h | _ :: _, [], h => h.elim
def dp : Code → Nat
 | .own c => dp c + 1
 | _ => 0
theorem eachE_els {P : Nat → Prop} {m : Nat} {f : D → Eff (D × List Nat)} : ∀ {vs ds : List (List D)}, All2 (fun v d => ∃ z, (eachC f d).run H = some z ∧ All2 Nr v z.1 ∧ ∀ i ∈ z.2, dead H i ∨ P i) vs ds →
  ∃ z, (eachE f ds).run H = some z ∧ All2 (All2 Nr) vs z.1 ∧ ∀ i ∈ z.2, dead H i ∨ P i
 | [], [], _ => ⟨([], []), rfl, trivial, by simp⟩
 | v :: vs, d :: ds, h => by
  obtain ⟨x, h1, h2, h3⟩ := h.1
  obtain ⟨y, h4, h5, h6⟩ := eachE_els (m := m) h.2
  refine ⟨(x.1 :: y.1, x.2 ++ y.2), by simp [eachE, run_bindE, h1, h4, Eff.run], ⟨h2, h5⟩, fun i hi => ?_⟩
  simp at hi
  exact hi.elim (h3 i) (h6 i)
 | [], _ :: _, h | _ :: _, [], h => h.elim
theorem cls_each {P : Nat → Prop} {n m : Nat} (hn : n ≤ m) {vs ds : List D} (h : All2 (Cl H n) vs ds) : ∃ z, (eachC (frz m) ds).run H = some z ∧ All2 Nr vs z.1 ∧ ∀ i ∈ z.2, dead H i ∨ P i := by
 obtain ⟨z, h1, h2, h3⟩ := eachC_cl h (f := frz m) (fun v d k => by
  obtain ⟨z, h1, h2, h3⟩ := k.frz
  exact ⟨z, frz_up h1 hn, h2, h3⟩)
 exact ⟨z, h1, h2, fun i hi => .inl (h3 i hi)⟩
theorem row_fz {n : Nat} : ∀ {e : Code} {q : List Nat → Option (Option Nat)} {l : List (T S e)} {m : Nat}, RowR H n e q l → n + dp e ≤ m →
  (∀ id es, q [] = some (some id) → hat H id = .row (W (S := S) e) es true → ∀ off len, off + len ≤ es.length → ∃ z, (frz (m + 1) (.ref id off len)).run H = some z ∧ Nr (.lst (W (S := S) e) (((l.drop off).take len).map (en e))) z.1 ∧ ∀ i ∈ z.2, dead H i ∨ ∃ p, q p = some (some i))
 | e, q, l, m, h, hm => by
  intro id es h1 h2 off len hol
  have fin : ∀ (vs : List (List D)), vs = l.map (en e) → All2 (fun v d => ∃ z, (eachC (frz m) d).run H = some z ∧ All2 Nr v z.1 ∧ ∀ i ∈ z.2, dead H i ∨ ∃ p, q p = some (some i)) vs es →
    ∃ z, (frz (m + 1) (.ref id off len)).run H = some z ∧ Nr (.lst (W (S := S) e) (((l.drop off).take len).map (en e))) z.1 ∧ ∀ i ∈ z.2, dead H i ∨ ∃ p, q p = some (some i) := by
   intro vs hvs hall
   subst hvs
   obtain ⟨z, k1, k2, k3⟩ := eachE_els (m := m) ((hall.drop off).take len)
   rw [← List.map_drop, ← List.map_take] at k2
   refine ⟨(.lst (W (S := S) e) z.1, id :: z.2), by simp only [frz, Eff.run, h2]; rw [if_pos hol, run_bindE, k1]; rfl, Nr.mk_lst k2, fun i hi => ?_⟩
   simp at hi
   rcases hi with rfl | hi
   ·exact .inr ⟨[], h1⟩
   ·exact k3 i hi
  cases ho : isOwn e with
  | false =>
   rcases h.els ho with ⟨c1, _⟩ | ⟨id', es', c1, c2, c3⟩
   ·rw [h1] at c1; cases c1
   ·rw [h1] at c1; cases c1
    rw [h2] at c2; cases c2
    refine fin _ rfl (All2.of (by rw [List.length_map]; exact c3.1.symm) fun i a d ha hd => ?_)
    rw [List.getElem?_map, Option.map_eq_some_iff] at ha
    obtain ⟨v, hv, rfl⟩ := ha
    obtain ⟨d', e1, e2⟩ := c3.2 i v hv
    rw [hd] at e1; cases e1
    exact cls_each (by omega) e2
  | true =>
   cases e with
   | own e =>
    rcases RowB.elts h with ⟨c1, _⟩ | ⟨id', es', c1, c2, c3, c4⟩
    ·rw [h1] at c1; cases c1
    ·rw [h1] at c1; cases c1
     have h2' : hat H id = .row 1 es true := h2
     rw [h2'] at c2; cases c2
     refine fin _ rfl (All2.of (by rw [List.length_map]; exact c3.symm) fun i a d ha hd => ?_)
     rw [List.getElem?_map, Option.map_eq_some_iff] at ha
     obtain ⟨v, hv, rfl⟩ := ha
     obtain ⟨ds, e1, y, e2, rfl, e4⟩ := c4 i v hv
     rw [hd] at e1; cases e1
     obtain ⟨m', rfl⟩ : ∃ m', m = m' + 1 := by
      simp only [dp] at hm
      exact ⟨m - 1, by omega⟩
     have hrec := row_fz (m := m') e4 (by simp only [dp] at hm; omega)
     rcases e4.top with ⟨t1, t2⟩ | ⟨id2, es2, t1, t2, t3⟩
     ·have t1 : q [i] = some none := t1
      rw [e2] at t1; cases t1
      refine ⟨([.nil], []), rfl, ⟨?_, trivial⟩, by simp⟩
      have : v = [] := t2
      subst this
      exact Nr.mk_nil
     ·have t1' : q [i] = some (some id2) := t1
      rw [e2] at t1'; cases t1'
      obtain ⟨z, k1, k2, k3⟩ := hrec id2 es2 t1 t2 0 (List.length v) (by rw [t3]; simp)
      refine ⟨([z.1], z.2), by simp [eachC, run_bindE, refD, k1, Eff.run], ⟨?_, trivial⟩, fun j hj => (k3 j hj).elim .inl fun ⟨p, hp⟩ => .inr ⟨i :: p, hp⟩⟩
      have e5 : ((v : List (T S e)).drop 0).take (List.length v) = v := by rw [List.drop_zero, List.take_of_length_le (Nat.le_refl _)]
      rw [e5] at k2
      exact k2
   | _ => cases ho
def Own (ρ : Rho) (i : Nat) : Prop := ∃ o p, ρ o p = some (some i)
def gA (t : TS S) : Getter S
 | .one n c' v, c => (match Nat.ble n 11 with
  | true => conv c' c v
  | false => none)
 | .nil, .list _ => some []
 | .whole o p, c => (match p, look t.hp o with
  | [], some (.row n e l) => (match Nat.ble (n + dp e + 1) 11 with
   | true => conv (.list e) c l
   | false => none)
  | _, _ => none)
 | .win o p off len, c => (match p, look t.hp o with
  | [], some (.row n e l) => (match Nat.ble (n + dp e + 1) 11 with
   | true => conv (.list e) c ((l.drop off).take len)
   | false => none)
  | _, _ => none)
 | _, _ => none
theorem gA_ok (h : RelR fr b N ρ t s) {v : Val S} {c : Code} {x : T S c} {ds : List D} (hg : gA t v c = some x) (k : VC ρ s.hp v ds) : All2 (FzR (Own ρ) s.hp) (en c x) ds := by
 unfold gA at hg
 split at hg
 ·split at hg
  ·rename_i hn
   rw [(conv_ok hg).1]
   exact All2.mono k fun _ _ _ q => q.fz (Nat.le_of_ble_eq_true hn)
  ·cases hg
 ·cases hg
  obtain ⟨d, rfl, e⟩ := k
  obtain rfl : d = .nil := e
  exact ⟨⟨(.nil, []), rfl, Nr.mk_nil, by simp⟩, trivial⟩
 ·rename_i c' o p
  split at hg
  ·rename_i n e l ho
   split at hg
   ·rename_i hn
    have hn := Nat.le_of_ble_eq_true hn
    obtain ⟨d, rfl, k⟩ := k
    rw [(conv_ok hg).1]
    refine ⟨?_, trivial⟩
    have hrow : RowR s.hp n e (ρ o) l := h.hp _ _ ho
    rcases k with ⟨id, sz, es, c1, c2, rfl⟩ | ⟨c1, rfl⟩
    ·rcases hrow.top with ⟨t1, _⟩ | ⟨id', es', t1, t2, t3⟩
     ·rw [c1] at t1; cases t1
     ·rw [c1] at t1; cases t1
      rw [c2] at t2; cases t2
      obtain ⟨z, k1, k2, k3⟩ := row_fz (m := 10) hrow (by omega) id es c1 c2 0 es.length (by simp)
      rw [List.drop_zero, List.take_of_length_le (by rw [t3]; exact Nat.le_refl _)] at k2
      exact ⟨z, k1, k2, fun i hi => (k3 i hi).elim .inl fun ⟨p, hp⟩ => .inr ⟨o, p, hp⟩⟩
    ·rcases hrow.top with ⟨_, t2⟩ | ⟨id', es', t1, t2, t3⟩
     ·subst t2
      exact ⟨(.nil, []), rfl, Nr.mk_nil, by simp⟩
     ·rw [c1] at t1; cases t1
   ·cases hg
  ·cases hg
 ·rename_i c' o p off len
  split at hg
  ·rename_i n e l ho
   split at hg
   ·rename_i hn
    have hn := Nat.le_of_ble_eq_true hn
    obtain ⟨d, rfl, k⟩ := k
    rw [(conv_ok hg).1]
    refine ⟨?_, trivial⟩
    have hrow : RowR s.hp n e (ρ o) l := h.hp _ _ ho
    rcases k with ⟨id, sz, es, c1, c2, c3, rfl⟩ | ⟨c1, rfl, rfl, rfl⟩
    ·rcases hrow.top with ⟨t1, _⟩ | ⟨id', es', t1, t2, t3⟩
     ·rw [c1] at t1; cases t1
     ·rw [c1] at t1; cases t1
      rw [c2] at t2; cases t2
      obtain ⟨z, k1, k2, k3⟩ := row_fz (m := 10) hrow (by omega) id es c1 c2 off len c3
      exact ⟨z, k1, k2, fun i hi => (k3 i hi).elim .inl fun ⟨p, hp⟩ => .inr ⟨o, p, hp⟩⟩
    ·rcases hrow.top with ⟨_, t2⟩ | ⟨id', es', t1, t2, t3⟩
     ·subst t2
      exact ⟨(.nil, []), rfl, Nr.mk_nil, by simp⟩
     ·rw [c1] at t1; cases t1
   ·cases hg
  ·cases hg
 ·cases hg
theorem FzR.int {P : Nat → Prop} (k : IntKind) (z : Int) : FzR P H (.int k z) (.int k z) := ⟨(.int k z, []), rfl, rfl, by simp⟩
def gF (t : TS S) (own : Bool) : Getter S := match own with
 | true => gA t
 | false => gC 11
theorem gF_ok (h : RelR fr b N ρ t s) {own : Bool} {v : Val S} {c : Code} {x : T S c} {ds : List D} (hg : gF t own v c = some x) (k : VC ρ s.hp v ds) : All2 (FzR (fun i => own = true ∧ Own ρ i) s.hp) (en c x) ds := by
 cases own with
 | true => exact All2.mono (gA_ok h hg k) fun _ _ _ ⟨z, h1, h2, h3⟩ => ⟨z, h1, h2, fun i hi => (h3 i hi).imp id fun q => ⟨rfl, q⟩⟩
 | false => exact All2.mono (gC_ok (by omega) hg k) fun _ _ _ q => q.fz (Nat.le_refl _)
inductive PK where
 | val (c : Code)
 | ptr (c : Code)
 | fn (n : Nat)
def pcs : List PK → List Code
 | [] => []
 | .val c :: ps => c :: pcs ps
 | .ptr c :: ps => c :: pcs ps
 | .fn _ :: ps => pcs ps
def pVals : (ps : List PK) → Flds S (pcs ps) → List (Val S)
 | [], _ => []
 | .val c :: ps, p => .one 1 c p.1 :: pVals ps p.2
 | .ptr c :: ps, p => .fp 1 c p.1 0 :: pVals ps p.2
 | .fn n :: ps, p => .fn n :: pVals ps p
def noRho : Rho := fun _ _ => none
def valAK (t : TS S) (own : Bool) (c : Code) (x : PX) : Option (T S c) := match evK t x with
 | some v => (match slotV v with
  | some (f, vs) => (match beqB f (isAgg c) with
   | true => mkT (gF t own) fuelT c vs
   | false => none)
  | none => none)
 | none => none
def ptrA (t : TS S) (own : Bool) (c : Code) (x : PX) : Option (T S c) := match evK t x with
 | some (.fp n c' v j) => (match Nat.beq j 0 && Nat.ble n 11 with
  | true => conv c' c v
  | false => none)
 | some (.ptr o p i j) => (match p, own && Nat.beq i 0 && Nat.beq j 0, look t.hp o with
  | [], true, some (.box pn vs) => mkT (gF t own) fuelT c vs
  | _, _, _ => none)
 | _ => none
def argsA (t : TS S) (own : Bool) : (ps : List PK) → List (Nat × PX) → Option (Flds S (pcs ps))
 | [], [] => some ()
 | .val c :: ps, (m, x) :: as => (match Nat.beq m 0, valAK t own c x, argsA t own ps as with
  | true, some v, some p => some (v, p)
  | _, _, _ => none)
 | .ptr c :: ps, (m, x) :: as => (match Nat.beq m 0, ptrA t own c x, argsA t own ps as with
  | true, some v, some p => some (v, p)
  | _, _, _ => none)
 | .fn n :: ps, (m, x) :: as => (match Nat.beq m 0, evK t x with
  | true, some (.fn k) => (match Nat.beq k n with
   | true => argsA t own ps as
   | false => none)
  | _, _ => none)
 | _, _ => none
theorem beqB_eq {a c : Bool} (h : beqB a c = true) : a = c := by cases a <;> cases c <;> first | rfl | cases h
theorem nr_cl {v d : D} (hv : cellD v = true) (h : Nr v d) : Cl H 1 v d := by
 refine Cl.plain ?_ h
 cases v with
 | lst sz es => rcases h with ⟨_, rfl⟩ | ⟨_, rfl, _⟩ <;> rfl
 | int _ _ => rw [show d = _ from h]; rfl
 | bool _ => rw [show d = _ from h]; rfl
 | flt _ => rw [show d = _ from h]; rfl
 | str _ => rw [show d = _ from h]; rfl
 | _ => cases hv
theorem nrs_cl {c : Code} {v : T S c} {ds : List D} (h : All2 Nr (en c v) ds) : All2 (Cl H 1) (en c v) ds := h.mono fun a d ha q => nr_cl (en_cell c v a ha) q
theorem valA_okK (h : RelR fr b N ρ t s) {own : Bool} {c : Code} {x : PX} {v : T S c} (hv : valAK t own c x = some v) :
  ∃ z, (frz fuelF (x.ev s.ts)).run s.hp = some z ∧ VS noRho [] (.one 1 c v) z.1 ∧ (∀ i ∈ z.2, dead s.hp i ∨ (own = true ∧ Own ρ i)) := by
 unfold valAK at hv
 split at hv
 ·rename_i w hw
  split at hv
  ·rename_i f vs hs
   split at hv
   ·rename_i hf
    obtain rfl := beqB_eq hf
    obtain ⟨ds, k1, k2, k3⟩ := slotV_ok hs (h.ev hw)
    have k4 := mkT_ok (R := FzR (fun i => own = true ∧ Own ρ i) s.hp) (fun k z => FzR.int k z) (fun v c x ds hg k => gF_ok h hg k) hv k1
    cases hc : isAgg c with
    | true =>
     obtain ⟨z, q1, q2, q3⟩ := FzR.each k4
     rw [k2 hc]
     refine ⟨(.agg z.1, z.2), by simp only [fuelF, frz, run_bindE, q1, Option.bind_some, Eff.run], ?_, q3⟩
     simp only [VS, VSx, hc]
     exact ⟨_, rfl, nrs_cl q2⟩
    | false =>
     have e := k3 hc
     subst e
     have hl := k4.len
     rw [encs_len] at hl
     cases hen : en c v with
     | nil => rw [hen] at k4; exact k4.elim
     | cons a as =>
      have k5 := k4
      rw [hen] at k5
      obtain ⟨⟨z, q1, q2, q3⟩, q4⟩ := k5
      refine ⟨z, frz_up q1 (by decide), ?_, q3⟩
      simp only [VS, VSx, hc]
      refine nrs_cl ?_
      rw [hen]
      refine ⟨q2, ?_⟩
      cases as with
      | nil => trivial
      | cons _ _ => exact q4.elim
   ·cases hv
  ·cases hv
 ·cases hv
theorem ptrA_ok (h : RelR fr b N ρ t s) {own : Bool} {c : Code} {x : PX} {v : T S c} (hv : ptrA t own c x = some v) :
  ∃ z, (frz fuelF (x.ev s.ts)).run s.hp = some z ∧ VS noRho [] (.fp 1 c v 0) z.1 ∧ (∀ i ∈ z.2, dead s.hp i ∨ (own = true ∧ Own ρ i)) := by
 unfold ptrA at hv
 split at hv
 ·rename_i n c' v' j hx
  split at hv
  ·rename_i hn
   simp only [Bool.and_eq_true] at hn
   obtain rfl := Nat.eq_of_beq_eq_true hn.1
   have hn := Nat.le_of_ble_eq_true hn.2
   obtain ⟨r, k⟩ := (h.ev hx).fp
   obtain ⟨z, q1, q2, q3⟩ := k.frz
   refine ⟨z, frz_up q1 (by simp only [fuelF]; omega), ?_, fun i hi => .inl (q3 i hi)⟩
   obtain ⟨ds, e, q4⟩ := q2.fptr
   rw [e]
   obtain ⟨a, a', rfl, q5, q6⟩ := All2.split q4
   refine ⟨a', ?_⟩
   refine Cl.plain rfl (Nr.mk_fptr ?_)
   rw [(conv_ok hv).1]
   exact All2.append q5 (by
    have : ∀ l : List D, All2 Nr l l := fun l => by
     induction l with
     | nil => trivial
     | cons a l ih => exact ⟨Nr.rfl' a, ih⟩
    exact this a')
  ·cases hv
 ·rename_i o p i j hx
  split at hv
  ·rename_i vs hc ho
   simp only [Bool.and_eq_true] at hc
   obtain ⟨⟨hown, hi⟩, hj⟩ := hc
   obtain rfl := Nat.eq_of_beq_eq_true hi
   obtain rfl := Nat.eq_of_beq_eq_true hj
   obtain ⟨id, sz, es, c1, c2, c3, c4⟩ := h.ev hx
   obtain ⟨id', ds, k1, k2, k3, k9⟩ := h.hp _ _ ho
   rw [c1] at k1; cases k1
   rw [c2] at k2; cases k2
   have k4 := mkT_ok (R := FzR (fun i => own = true ∧ Own ρ i) s.hp) (fun k z => FzR.int k z) (fun v c x ds hg k => gF_ok h hg k) hv k3
   obtain ⟨z, q1, q2, q3⟩ := FzR.each k4
   refine ⟨(.fptr z.1, id :: z.2), ?_, ⟨[], by rw [List.drop_zero, List.append_nil]; exact Cl.plain rfl (Nr.mk_fptr q2)⟩, fun i hi => ?_⟩
   ·rw [c4, Nat.zero_mul, Nat.zero_add]
    simp only [fuelF, frz, Eff.run, c2, Nat.zero_div, Nat.zero_mod, List.getElem?_cons_zero, List.drop_zero, run_bindE, q1, Option.bind_some]
   ·simp at hi
    rcases hi with rfl | hi
    ·exact .inr ⟨hown, o, [], c1⟩
    ·exact q3 i hi
  ·cases hv
 ·cases hv
theorem argsA_ok (h : RelR fr b N ρ t s) {own : Bool} : ∀ {ps : List PK} {as : List (Nat × PX)} {p : Flds S (pcs ps)} {j : Nat}, argsA t own ps as = some p →
  ∃ ds ids, (prep (as.map fun p => (p.1, p.2.ev s.ts)) j).run s.hp = some ⟨ds, [], ids, []⟩ ∧ All2 (VS noRho []) (pVals ps p) ds ∧ ∀ i ∈ ids, dead s.hp i ∨ (own = true ∧ Own ρ i)
 | [], [], p, j, _ => ⟨[], [], rfl, trivial, by simp⟩
 | .val c :: ps, (m, x) :: as, p, j, hp => by
  simp only [argsA] at hp
  split at hp
  ·rename_i v q hm hv hq
   cases hp
   obtain rfl := Nat.eq_of_beq_eq_true hm
   obtain ⟨z, h1, h2, h3⟩ := valA_okK h hv
   obtain ⟨ds, ids, h4, h5, h6⟩ := argsA_ok h (j := j) hq
   refine ⟨z.1 :: ds, z.2 ++ ids, by simp only [List.map_cons, prep, run_bindE, h1, h4, Option.bind_some, Eff.run], ⟨h2, h5⟩, fun i hi => ?_⟩
   simp at hi
   exact hi.elim (h3 i) (h6 i)
  ·cases hp
 | .ptr c :: ps, (m, x) :: as, p, j, hp => by
  simp only [argsA] at hp
  split at hp
  ·rename_i v q hm hv hq
   cases hp
   obtain rfl := Nat.eq_of_beq_eq_true hm
   obtain ⟨z, h1, h2, h3⟩ := ptrA_ok h hv
   obtain ⟨ds, ids, h4, h5, h6⟩ := argsA_ok h (j := j) hq
   refine ⟨z.1 :: ds, z.2 ++ ids, by simp only [List.map_cons, prep, run_bindE, h1, h4, Option.bind_some, Eff.run], ⟨h2, h5⟩, fun i hi => ?_⟩
   simp at hi
   exact hi.elim (h3 i) (h6 i)
  ·cases hp
 | .fn n :: ps, (m, x) :: as, p, j, hp => by
  simp only [argsA] at hp
  split at hp
  ·rename_i k hm hx
   split at hp
   ·rename_i hk
    obtain rfl := Nat.eq_of_beq_eq_true hm
    obtain rfl := Nat.eq_of_beq_eq_true hk
    have e : x.ev s.ts = .fn k := h.ev hx
    obtain ⟨ds, ids, h4, h5, h6⟩ := argsA_ok h (j := j) hp
    refine ⟨.fn k :: ds, ids, ?_, ⟨rfl, h5⟩, h6⟩
    simp only [List.map_cons, prep, run_bindE, e, fuelF, frz, h4, Option.bind_some, Eff.run, List.nil_append]
   ·cases hp
  ·cases hp
 | [], _ :: _, _, _, hp | .val _ :: _, [], _, _, hp | .ptr _ :: _, [], _, _, hp | .fn _ :: _, [], _, _, hp => nomatch hp
end
end Go.Pi
namespace Go.Pi
set_option linter.unusedVariables false
def tupD : D → Bool
 | .tup _ => true
 | _ => false
inductive RK where
 | val (c : Code)
 | own (c : Code)
 | cl (c : Code)
 | fp (c : Code)
def rcs : List RK → List Code
 | [] => []
 | .val c :: rs => c :: rcs rs
 | .own c :: rs => .list c :: rcs rs
 | .cl c :: rs => .list c :: rcs rs
 | .fp c :: rs => c :: rcs rs
def tpR : List RK → Bool
 | [_] => false
 | _ => true
section
variable {S : Nat → Type} [Sg : Sig S] {ρ ρ' : Rho} {H H' : Heap} {fr : Fr} {b N : Nat} {t : TS S} {s g : St} {α : Type}
def OwnX (c : Code) (l : List (T S c)) (x : D) : Prop := (x = .nil ∧ l = []) ∨ ∃ es, x = .own (W (S := S) c) es ∧ Els [] 1 c l es
def ResX : (rs : List RK) → Flds S (rcs rs) → List D → Prop
 | [], _, xs => xs = []
 | .val c :: rs, p, x :: xs => VS noRho [] (.one 1 c p.1) x ∧ ResX rs p.2 xs
 | .own c :: rs, p, x :: xs => OwnX c p.1 x ∧ ResX rs p.2 xs
 | .cl c :: rs, p, x :: xs => (VS noRho [] (.one 1 (.list c) p.1) x ∨ OwnX c p.1 x) ∧ ResX rs p.2 xs
 | .fp c :: rs, p, x :: xs => VS noRho [] (.fp 1 c p.1 0) x ∧ ResX rs p.2 xs
 | _ :: _, _, [] => False
def FOk (pr : Prog) (f : Nat) (ps : List PK) (rs : List RK) (F : Flds S (pcs ps) → Option (Flds S (rcs rs))) : Prop :=
 ∀ p r, F p = some r → ∀ ds, All2 (VS noRho []) (pVals ps p) ds → Runs pr f ds [] fun d H' => tupD d = tpR rs ∧ ∃ xs hs rd, expL H' (comps d) = some (xs, hs, rd) ∧ nodup hs = true ∧ apart hs rd = true ∧ ResX rs r xs
def LOk (pr : Prog) (f : Nat) (c : Code) (ps : List PK) (rs : List RK) (F : T S c × Flds S (pcs ps) → Option (T S c × Flds S (rcs rs))) : Prop :=
 ∀ p r, F p = some r → ∀ cs ds, All2 (Cl [] 1) (en c p.1) cs → All2 (VS noRho []) (pVals ps p.2) ds → Runs pr f (.ptr 0 0 :: ds) [.row (W (S := S) c) [cs] true] fun d H' => tupD d = tpR rs ∧ ∃ xs hs rd cs2 ry, expL H' (comps d) = some (xs, hs, rd) ∧ nodup hs = true ∧ apart hs rd = true ∧ ResX rs r.2 xs ∧
  expB H' 0 [(0, true)] = some ([(0, .row (W (S := S) c) [cs2] true)], ry) ∧ All2 (Cl [] 1) (en c r.1) cs2 ∧ apart hs ry = true ∧ apart hs [0] = true ∧ apart [0] rd = true ∧ apart [0] ry = true
theorem RelR.freshK (h : RelR fr b N ρ t g) {r : Nat} {k : Blk} (hr : t.av.contains r = true) :
  RelR fr b N ρ (t.take r) ⟨g.ts, g.hp.set (b + r) k⟩ ∧ Ext ρ g.hp ρ (g.hp.set (b + r) k) ∧ hat (g.hp.set (b + r) k) (b + r) = k ∧
   (∀ o p, ρ o p ≠ some (some (b + r))) ∧ fr (b + r) = none ∧ hat g.hp (b + r) = .fresh ∧ b + r < g.hp.length := by
 have hm : r ∈ t.av := by simpa using hr
 obtain ⟨hn, ha⟩ := h.avl
 obtain ⟨h1, h2, h3⟩ := ha r hm
 have hnot : ∀ o p, ρ o p ≠ some (some (b + r)) := fun o p e => by
  obtain ⟨_, _, _, k⟩ := h.liv _ _ _ e
  rw [h1] at k
  cases k
 have hne : ∀ {j : Nat}, j ≠ b + r → hat (g.hp.set (b + r) k) j = hat g.hp j := fun hj => by rw [hat_setK h2, if_neg hj]
 have hx : Ext ρ g.hp ρ (g.hp.set (b + r) k) := ⟨HLe_set (fun _ _ e => by rw [h1] at e; cases e), fun _ _ _ h => h, fun o p id sz' es' k1 k2 =>
  ⟨es', by rw [hne (fun e => by subst e; exact hnot _ _ k1)]; exact k2, rfl⟩⟩
 refine ⟨⟨h.len, fun i v hv => (h.sl i v hv).ext hx, fun o ob ho => ObjR.ext hx (fun p id k => hne (fun e => by subst e; exact hnot _ _ k)) (h.hp _ _ ho), h.inj, fun o p id k => ?_, h.nxt, fun id k hk => ?_, ?_⟩, hx, by rw [hat_setK h2, if_pos rfl], hnot, h3, h1, h2⟩
 ·obtain ⟨k1, sz', es', k2⟩ := h.liv _ _ _ k
  exact ⟨k1, sz', es', by rw [hne (fun e => by subst e; exact hnot _ _ k)]; exact k2⟩
 ·obtain ⟨k1, k2⟩ := h.frm _ _ hk
  refine ⟨by rw [hne (fun e => by subst e; rw [h3] at hk; cases hk)]; exact k1, by simpa using k2⟩
 ·refine ⟨hn.erase r, fun r' hr' => ?_⟩
  obtain ⟨k1, k2⟩ := (List.Nodup.mem_erase_iff hn).mp (show r' ∈ t.av.erase r from hr')
  obtain ⟨k3, k4, k5⟩ := ha r' k2
  exact ⟨by rw [hne (by omega)]; exact k3, by simpa using k4, k5⟩
def impT : (rs : List RK) → Flds S (rcs rs) → Nat → TS S → Option (List (Val S) × TS S)
 | [], _, _, t => some ([], t)
 | .val c :: rs, p, k, t => (match impT rs p.2 (k + 1) t with
  | some q => some (.one 1 c p.1 :: q.1, q.2)
  | none => none)
 | .fp c :: rs, p, k, t => (match impT rs p.2 (k + 1) t with
  | some q => some (.fp 1 c p.1 0 :: q.1, q.2)
  | none => none)
 | .own c :: rs, p, k, t => (match t.av.contains k && !isOwn c with
  | true => (match impT rs p.2 (k + 1) ((t.take k).add (.row 1 c p.1)) with
   | some q => some (.whole t.nx [] :: q.1, q.2)
   | none => none)
  | false => none)
 | .cl c :: rs, p, k, t => (match t.av.contains k && Nat.blt 0 (W (S := S) c) with
  | true => (match impT rs p.2 (k + 1) { t.take k with gh := true } with
   | some q => some (.one 2 (.list c) p.1 :: q.1, q.2)
   | none => none)
  | false => none)
theorem HLe.nil (H : Heap) : HLe [] H := fun id sz es h => by simp [hat] at h
theorem Ext.tr {ρ1 ρ2 ρ3 : Rho} {H1 H2 H3 : Heap} (h : Ext ρ1 H1 ρ2 H2) (k : Ext ρ2 H2 ρ3 H3) : Ext ρ1 H1 ρ3 H3 := ⟨h.hle.tr k.hle, fun o p x q => k.map _ _ _ (h.map _ _ _ q), fun o p id sz es q1 q2 => by
 obtain ⟨es', e1, e2⟩ := h.row _ _ _ _ _ q1 q2
 obtain ⟨es2, e3, e4⟩ := k.row _ _ _ _ _ (h.map _ _ _ q1) e1
 exact ⟨es2, e3, e4.trans e2⟩⟩
theorem VS.fromNo {v : Val S} {d : D} (h : VS noRho [] v d) : VS ρ H v d := h.ext ⟨HLe.nil H, (fun _ _ _ h => by cases h), (fun _ _ _ _ _ h => by cases h)⟩
theorem cl_notown {n : Nat} {v : D} {sz : Nat} {es : List (List D)} (h : Cl H n v (.own sz es)) (hv : cellD v = true) : False := by
 have := cl_one hv h
 cases this
theorem VS.notown {n : Nat} {c : Code} {v : T S c} {sz : Nat} {es : List (List D)} (h : VS (S := S) ρ H (.one n c v) (.own sz es)) : False := by
 simp only [VS, VSx] at h
 split at h
 ·obtain ⟨_, e, _⟩ := h; cases e
 ·cases hen : en c v with
  | nil => rw [hen] at h; exact h
  | cons a as =>
   have hc := en_cell c v a (by rw [hen]; simp)
   rw [hen] at h
   exact cl_notown h.1 hc
theorem imp1_no {r : Nat} {x : D} (h : ∀ sz es, x ≠ .own sz es) : imp1 r x = (x, []) := by
 cases x <;> first | rfl | exact absurd rfl (h _ _)
theorem VS.toVSx {v : Val S} {d : D} (hv : ∀ vs, v ≠ .tup vs) (h : VS ρ H v d) : VSx ρ H v d := by
 cases v with
 | tup vs => exact absurd rfl (hv vs)
 | _ => exact h
theorem RelR.insX (h : RelR fr b N ρ t g) (q : List Nat → Option (Option Nat)) (H : Heap) : Ext ρ H (ins ρ t.nx q) H := ⟨HLe.refl _, fun o p x hx => by
  rw [ins_ne (fun e => by subst e; rw [h.nxt _ _ (Nat.le_refl _)] at hx; cases hx)]
  exact hx, fun o p id sz es _ he => ⟨es, he, rfl⟩⟩
theorem RelR.newX (h : RelR fr b N ρ t g) {q : Nat} {e : Code} {l : List (T S e)} {x : D} (hq : t.av.contains q = true) (he : isOwn e = false) {es : List (List D)} (hes : Els [] 1 e l es) :
  ∃ ρ', RelR fr b N ρ' ((t.take q).add (.row 1 e l)) ⟨g.ts, g.hp.set (b + q) (.row (W (S := S) e) es true)⟩ ∧ Ext ρ g.hp ρ' (g.hp.set (b + q) (.row (W (S := S) e) es true)) ∧ ρ' t.nx [] = some (some (b + q)) ∧ hat (g.hp.set (b + q) (.row (W (S := S) e) es true)) (b + q) = .row (W (S := S) e) es true := by
 obtain ⟨k1, k2, k3, k4, k5, k6, k7⟩ := h.freshK (r := q) (k := .row (W (S := S) e) es true) hq
 have hnx : (t.take q).nx = t.nx := rfl
 refine ⟨ins ρ t.nx (at0 (some (b + q))), k1.addObj (q := at0 (some (b + q))) (fun p p' id e1 e2 => by rw [(at0_some e1).1, (at0_some e2).1]) (fun p id e => ?_) (fun hx => ?_), k2.tr (h.insX _ _), by rw [ins_eq]; rfl, k3⟩
 ·obtain ⟨rfl, e⟩ := at0_some e
  cases e
  exact ⟨k4, k5, _, es, k3⟩
 ·exact RowR.of_els he (by rw [hnx, ins_eq]; rfl) k3 (hes.mono (Nat.le_refl _) (HLe.nil _))
theorem RelR.newNX (h : RelR fr b N ρ t g) (q : Nat) {e : Code} : ∃ ρ', RelR fr b N ρ' ((t.take q).add (.row 1 e [])) g ∧ Ext ρ g.hp ρ' g.hp ∧ ρ' t.nx [] = some none := by
 have hnx : (t.take q).nx = t.nx := rfl
 refine ⟨_, (h.takeR q).addObj (q := at0 none) (fun p p' id e => ?_) (fun p id e => ?_) (fun hx => RowR.of_nil (by rw [hnx, ins_eq]; rfl)), h.insX _ _, by rw [hnx, ins_eq]; rfl⟩
 ·cases (at0_some e).2
 ·cases (at0_some e).2
theorem RelR.ghT (h : RelR fr b N ρ t g) (x : Bool) : RelR fr b N ρ { t with gh := x } g := ⟨h.len, h.sl, h.hp, h.inj, h.liv, h.nxt, h.frm, h.avl⟩
theorem els_cl {n : Nat} {c : Code} {l : List (T S c)} {es : List (List D)} (h : Els H n c l es) : All2 (All2 (Cl H n)) (l.map (en c)) es := by
 refine All2.of (by rw [List.length_map]; exact h.1.symm) (fun i a d ha hd => ?_)
 rw [List.getElem?_map, Option.map_eq_some_iff] at ha
 obtain ⟨z, hz, rfl⟩ := ha
 obtain ⟨d', h1, h2⟩ := h.2 i z hz
 rw [hd] at h1
 cases h1
 exact h2
theorem els_len {n : Nat} {c : Code} {l : List (T S c)} {es : List (List D)} (h : Els H n c l es) : ∀ d ∈ es, d.length ≤ W (S := S) c := fun d hd => by
 obtain ⟨i, hi, rfl⟩ := List.mem_iff_getElem.mp hd
 obtain ⟨d', h1, h2⟩ := h.2 i (l[i]'(by rw [← h.1]; exact hi)) (List.getElem?_eq_getElem _)
 rw [List.getElem?_eq_getElem hi] at h1
 cases h1
 rw [← h2.len, encs_len]
 exact Nat.le_refl _
theorem imp_ok : ∀ {rs : List RK} {p : Flds S (rcs rs)} {xs : List D} {k : Nat} {t : TS S} {s g : St} {ρ : Rho} {q : List (Val S) × TS S}, ResX rs p xs → GhK s g → RelR fr b N ρ t g → impT rs p k t = some q →
  ∃ g' ρ', GhK ⟨s.ts, doWs s.hp (impL (b + k) xs).2⟩ g' ∧ RelR fr b N ρ' q.2 g' ∧ Ext ρ g.hp ρ' g'.hp ∧ All2 (VSx ρ' g'.hp) q.1 (impL (b + k) xs).1 ∧ (∀ id ∈ (impL (b + k) xs).2.map (·.1), hat s.hp id = .fresh ∧ id < s.hp.length)
 | [], p, xs, k, t, s, g, ρ, q, hx, hg, h, hi => by
  cases hi
  rw [show xs = [] from hx]
  exact ⟨g, ρ, hg, h, Ext.refl _ _, trivial, fun id hid => nomatch hid⟩
 | .val c :: rs, p, x :: xs, k, t, s, g, ρ, q, hx, hg, h, hi => by
  simp only [impT] at hi
  split at hi
  ·rename_i q' hq
   cases hi
   obtain ⟨g', ρ', k1, k2, k3, k4, k5⟩ := imp_ok hx.2 hg h hq
   have e : imp1 (b + k) x = (x, []) := imp1_no fun sz es e => by
    have := hx.1
    rw [e] at this
    exact this.notown
   refine ⟨g', ρ', ?_, k2, k3, ?_, ?_⟩
   ·simp only [impL, e, List.nil_append]; exact k1
   ·simp only [impL, e]
    exact ⟨(hx.1.fromNo (ρ := ρ') (H := g'.hp)).toVSx (fun _ e => nomatch e), k4⟩
   ·simp only [impL, e, List.nil_append]; exact k5
  ·cases hi
 | .fp c :: rs, p, x :: xs, k, t, s, g, ρ, q, hx, hg, h, hi => by
  simp only [impT] at hi
  split at hi
  ·rename_i q' hq
   cases hi
   obtain ⟨g', ρ', k1, k2, k3, k4, k5⟩ := imp_ok hx.2 hg h hq
   have e : imp1 (b + k) x = (x, []) := imp1_no fun sz es e => by
    obtain ⟨r, hr⟩ := hx.1.fp
    rw [e] at hr
    have := fp_one hr
    cases this
   refine ⟨g', ρ', ?_, k2, k3, ?_, ?_⟩
   ·simp only [impL, e, List.nil_append]; exact k1
   ·simp only [impL, e]
    exact ⟨(hx.1.fromNo (ρ := ρ') (H := g'.hp)).toVSx (fun _ e => nomatch e), k4⟩
   ·simp only [impL, e, List.nil_append]; exact k5
  ·cases hi
 | .own c :: rs, p, x :: xs, k, t, s, g, ρ, q, hx, hg, h, hi => by
  simp only [impT] at hi
  split at hi
  ·rename_i hc
   simp only [Bool.and_eq_true, Bool.not_eq_true'] at hc
   split at hi
   ·rename_i q' hq
    cases hi
    rcases hx.1 with ⟨rfl, hl⟩ | ⟨es, rfl, hes⟩
    ·rw [hl] at hq
     obtain ⟨ρ1, z1, z3, z2⟩ := h.newNX k (e := c)
     obtain ⟨g', ρ', k1, k2, k3, k4, k5⟩ := imp_ok hx.2 hg z1 hq
     exact ⟨g', ρ', k1, k2, z3.tr k3, ⟨(wholeN_ok (k3.map _ _ _ z2)).toVSx (fun _ e => nomatch e), k4⟩, k5⟩
    ·obtain ⟨ρ1, z1, z3, z2, z4⟩ := h.newX (x := .nil) hc.1 hc.2 hes
     have hg1 : GhK ⟨s.ts, s.hp.set (b + k) (.row (W (S := S) c) es true)⟩ ⟨g.ts, g.hp.set (b + k) (.row (W (S := S) c) es true)⟩ := ⟨hg.ts, gh_set hg.hp _ _⟩
     obtain ⟨g', ρ', k1, k2, k3, k4, k5⟩ := imp_ok hx.2 hg1 z1 hq
     have hm : k ∈ t.av := by simpa using hc.1
     obtain ⟨f1, f2, _⟩ := h.avl.2 k hm
     have f2' : b + k < s.hp.length := by rw [hg.hp.1]; exact f2
     have f1' : hat s.hp (b + k) = .fresh := by
      rcases hg.hp.2 (b + k) with e | ⟨_, _, _, e⟩
      ·rw [← e]; exact f1
      ·rw [e] at f1; cases f1
     refine ⟨g', ρ', k1, k2, z3.tr k3, ⟨?_, k4⟩, fun id hid => ?_⟩
     ·obtain ⟨es', e1, e2⟩ := k3.row _ _ _ _ _ z2 z4
      exact (whole_ok (k3.map _ _ _ z2) e1 e2).toVSx (fun _ e => nomatch e)
     ·simp only [impL, imp1, List.cons_append, List.nil_append, List.map_cons, List.mem_cons] at hid
      rcases hid with rfl | hid
      ·exact ⟨f1', f2'⟩
      ·obtain ⟨p1, p2⟩ := k5 id (by simpa [Nat.add_assoc] using hid)
       simp only [hat_setK f2'] at p1
       split at p1
       ·cases p1
       ·exact ⟨p1, by simpa using p2⟩
   ·cases hi
  ·cases hi
 | .cl c :: rs, p, x :: xs, k, t, s, g, ρ, q, hx, hg, h, hi => by
  simp only [impT] at hi
  split at hi
  ·rename_i hc
   simp only [Bool.and_eq_true] at hc
   have hw : 0 < W (S := S) c := by simpa using hc.2
   split at hi
   ·rename_i q' hq
    cases hi
    have plainCase : ∀ x : D, (∀ sz es, x ≠ .own sz es) → ResX rs p.2 xs → (∀ (ρ' : Rho) (H' : Heap), VS (S := S) ρ' H' (.one 2 (.list c) p.1) x) →
      ∃ g' ρ', GhK ⟨s.ts, doWs s.hp (impL (b + k) (x :: xs)).2⟩ g' ∧ RelR fr b N ρ' q'.2 g' ∧ Ext ρ g.hp ρ' g'.hp ∧ All2 (VSx ρ' g'.hp) (Val.one 2 (.list c) p.1 :: q'.1) (impL (b + k) (x :: xs)).1 ∧ (∀ id ∈ (impL (b + k) (x :: xs)).2.map (·.1), hat s.hp id = .fresh ∧ id < s.hp.length) := by
     intro x hno hx2 hv
     obtain ⟨g', ρ', k1, k2, k3, k4, k5⟩ := imp_ok hx2 hg ((h.takeR k).ghT true) hq
     have e := imp1_no (r := b + k) hno
     refine ⟨g', ρ', ?_, k2, k3, ?_, ?_⟩
     ·simp only [impL, e, List.nil_append]; exact k1
     ·simp only [impL, e]
      exact ⟨(hv ρ' g'.hp).toVSx (fun _ e => nomatch e), k4⟩
     ·simp only [impL, e, List.nil_append]; exact k5
    rcases hx.1 with hv | ⟨rfl, hl⟩ | ⟨es, rfl, hes⟩
    ·exact plainCase x (fun sz es e => by rw [e] at hv; exact hv.notown) hx.2 fun ρ' H' => VS.mk_lst ((hv.fromNo (ρ := ρ') (H := H')).lst.up (by omega))
    ·exact plainCase .nil (fun _ _ e => nomatch e) hx.2 fun ρ' H' => VS.mk_lst (by rw [hl]; exact Cl.plain rfl Nr.mk_nil)
    ·obtain ⟨z1, z2, z3, z4, z5, z6, z7⟩ := h.freshK (r := k) (k := .row (W (S := S) c) es false) hc.1
     have hg1 : GhK ⟨s.ts, s.hp.set (b + k) (.row (W (S := S) c) es true)⟩ ⟨g.ts, g.hp.set (b + k) (.row (W (S := S) c) es false)⟩ := ⟨hg.ts, by simp [hg.hp.1], fun j => by
      have f2' : b + k < s.hp.length := by rw [hg.hp.1]; exact z7
      rw [hat_setK z7, hat_setK f2']
      split
      ·exact .inr ⟨_, _, rfl, rfl⟩
      ·exact hg.hp.2 j⟩
     obtain ⟨g', ρ', k1, k2, k3, k4, k5⟩ := imp_ok hx.2 hg1 (z1.ghT true) hq
     have f2' : b + k < s.hp.length := by rw [hg.hp.1]; exact z7
     have f1' : hat s.hp (b + k) = .fresh := by
      rcases hg.hp.2 (b + k) with e | ⟨_, _, _, e⟩
      ·rw [← e]; exact z6
      ·rw [e] at z6; cases z6
     refine ⟨g', ρ', k1, k2, z2.tr k3, ⟨?_, k4⟩, fun id hid => ?_⟩
     ·have hh : hat g'.hp (b + k) = .row (W (S := S) c) es false := k3.hle _ _ _ z3
      refine VS.toVSx (fun _ e => nomatch e) (VS.mk_lst ?_)
      refine .inr (.inl ⟨_, _, b + k, 0, es.length, es, rfl, rfl, hh, by simp, ?_, hw, els_len hes⟩)
      rw [List.drop_zero, List.take_of_length_le (Nat.le_refl _)]
      exact els_cl (hes.mono (Nat.le_refl _) (HLe.nil _))
     ·simp only [impL, imp1, List.cons_append, List.nil_append, List.map_cons, List.mem_cons] at hid
      rcases hid with rfl | hid
      ·exact ⟨f1', f2'⟩
      ·obtain ⟨p1, p2⟩ := k5 id (by simpa [Nat.add_assoc] using hid)
       simp only [hat_setK f2'] at p1
       split at p1
       ·cases p1
       ·exact ⟨p1, by simpa using p2⟩
   ·cases hi
  ·cases hi
 | .val _ :: _, _, [], _, _, _, _, _, _, hx, _, _, _ | .own _ :: _, _, [], _, _, _, _, _, _, hx, _, _, _ | .cl _ :: _, _, [], _, _, _, _, _, _, hx, _, _, _ | .fp _ :: _, _, [], _, _, _, _, _, _, hx, _, _, _ => hx.elim
end
end Go.Pi
