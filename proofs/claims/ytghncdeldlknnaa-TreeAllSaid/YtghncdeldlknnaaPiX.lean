import Derived.Test.YtghncdeldlknnaaPiV
/-
  REGIONS WITHOUT CALLS: what they ask and where they end, as a proposition that simp unfolds.
-/
set_option linter.all false
namespace Go.Pi
set_option linter.unusedVariables false
def noCall : CallF := fun _ _ _ => none
theorem noCall_le (c : CallF) : CallLe noCall c := fun _ _ _ _ h => by cases h

def Eff.wp {α : Type} : Eff α → Heap → (α → Prop) → Prop
  | .pure a, _, K => K a
  | .fail, _, _ => False
  | .get id k, H, K => match hat H id with
    | .row sz es _ => (k sz es).wp H K
    | _ => False
  | .live id k, H, K => match hat H id with
    | .row _ _ true => k.wp H K
    | _ => False
  | .new id k, H, K => id < H.length ∧ hat H id = .fresh ∧ k.wp H K
theorem Eff.wp_run {α : Type} : ∀ {e : Eff α} {H : Heap} {K : α → Prop}, e.wp H K → ∃ x, e.run H = some x ∧ K x
  | .pure a, H, K, h => ⟨a, rfl, h⟩
  | .fail, H, K, h => absurd h (by simp [Eff.wp])
  | .get id k, H, K, h => by
    simp only [Eff.wp] at h
    cases hh : hat H id with
    | row sz es lv => rw [hh] at h; simp only [Eff.run, hh]; exact Eff.wp_run h
    | fresh => rw [hh] at h; exact h.elim
    | dead => rw [hh] at h; exact h.elim
  | .live id k, H, K, h => by
    simp only [Eff.wp] at h
    cases hh : hat H id with
    | row sz es lv =>
      cases lv with
      | true => rw [hh] at h; simp only [Eff.run, hh]; exact Eff.wp_run h
      | false => rw [hh] at h; exact h.elim
    | fresh => rw [hh] at h; exact h.elim
    | dead => rw [hh] at h; exact h.elim
  | .new id k, H, K, h => by
    obtain ⟨h1, h2, h3⟩ := h
    simp only [Eff.run, h1, h2, if_true]
    exact Eff.wp_run h3
@[simp] theorem Eff.wp_pure {α : Type} (a : α) (H : Heap) (K : α → Prop) : (Eff.pure a).wp H K = K a := rfl
@[simp] theorem Eff.wp_fail {α : Type} (H : Heap) (K : α → Prop) : (Eff.fail : Eff α).wp H K = False := rfl
@[simp] theorem Eff.wp_ite {α : Type} (p : Prop) [Decidable p] (a b : Eff α) (H : Heap) (K : α → Prop) : (if p then a else b).wp H K = if p then a.wp H K else b.wp H K := by split <;> rfl
theorem Eff.wp_get {α : Type} {id : Nat} {k : Nat → List (List D) → Eff α} {H : Heap} {K : α → Prop} {sz : Nat} {es : List (List D)} {lv : Bool} (h : hat H id = .row sz es lv) : (Eff.get id k).wp H K = (k sz es).wp H K := by
  simp only [Eff.wp, h]
theorem Eff.wp_live {α : Type} {id : Nat} {k : Eff α} {H : Heap} {K : α → Prop} {sz : Nat} {es : List (List D)} (h : hat H id = .row sz es true) : (Eff.live id k).wp H K = k.wp H K := by
  simp only [Eff.wp, h]
theorem Eff.wp_new {α : Type} {id : Nat} {k : Eff α} {H : Heap} {K : α → Prop} : (Eff.new id k).wp H K = (id < H.length ∧ hat H id = .fresh ∧ k.wp H K) := rfl
@[simp] theorem wp_quiet (d : D) (H : Heap) (K : Out → Prop) : (quiet d).wp H K = K ⟨d, [], []⟩ := rfl
@[simp] theorem wp_quietO_some (d : D) (H : Heap) (K : Out → Prop) : (quietO (some d)).wp H K = K ⟨d, [], []⟩ := rfl
@[simp] theorem wp_quietO_ite (p : Prop) [Decidable p] (a b : Option D) (H : Heap) (K : Out → Prop) : (quietO (if p then a else b)).wp H K = if p then (quietO a).wp H K else (quietO b).wp H K := by split <;> rfl
@[simp] theorem wp_quietO_none (H : Heap) (K : Out → Prop) : (quietO none).wp H K = False := rfl

/-- What a list of operations without calls asks, and where it ends. -/
def Seq (b : Nat) : List PO → List D → Heap → (List D → Heap → Prop) → Prop
  | [], ts, H, Q => Q ts H
  | o :: os, ts, H, Q =>
    match o.guard with
    | none => (opE noCall (PX.ev ts) (b + o.res) o.op).wp H fun x => Seq b os (putT ts o.dst x.d) (x.on H) Q
    | some (t, v) => match ts.getD t .undef with
      | .bool c => if c = v then (opE noCall (PX.ev ts) (b + o.res) o.op).wp H fun x => Seq b os (putT ts o.dst x.d) (x.on H) Q
        else Seq b os (putT ts o.dst .skip) H Q
      | .skip => Seq b os (putT ts o.dst .skip) H Q
      | _ => False
/-- One operation, its guard none. -/
theorem Seq.op {b : Nat} {d : Option Nat} {op : POp} {l : List Nat} {r : Nat} {os : List PO} {ts : List D} {H : Heap} {Q : List D → Heap → Prop}
    (h : (opE noCall (PX.ev ts) (b + r) op).wp H fun x => Seq b os (putT ts d x.d) (x.on H) Q) : Seq b (⟨d, op, none, l, r⟩ :: os) ts H Q := h
theorem Eff.run_wp {α : Type} : ∀ {e : Eff α} {H : Heap} {K : α → Prop} {x : α}, e.run H = some x → K x → e.wp H K
  | .pure a, H, K, x, h, k => by simp only [Eff.run, Option.some.injEq] at h; subst h; exact k
  | .fail, H, K, x, h, _ => by simp [Eff.run] at h
  | .get id q, H, K, x, h, k => by
    simp only [Eff.run] at h
    cases hh : hat H id with
    | row sz es lv => rw [hh] at h; simp only [Eff.wp, hh]; exact Eff.run_wp h k
    | fresh => rw [hh] at h; cases h
    | dead => rw [hh] at h; cases h
  | .live id q, H, K, x, h, k => by
    simp only [Eff.run] at h
    cases hh : hat H id with
    | row sz es lv =>
      cases lv with
      | true => rw [hh] at h; simp only [Eff.wp, hh]; exact Eff.run_wp h k
      | false => rw [hh] at h; cases h
    | fresh => rw [hh] at h; cases h
    | dead => rw [hh] at h; cases h
  | .new id q, H, K, x, h, k => by
    simp only [Eff.run] at h
    split at h
    · rename_i h1
      cases hh : hat H id with
      | fresh => rw [hh] at h; exact ⟨h1, hh, Eff.run_wp h k⟩
      | row _ _ _ => rw [hh] at h; cases h
      | dead => rw [hh] at h; cases h
    · cases h
/-- One operation: what it gives, as a goal of its own. -/
theorem Seq.opR {b : Nat} {d : Option Nat} {op : POp} {l : List Nat} {r : Nat} {os : List PO} {ts ts' : List D} {H H' : Heap} {Q : List D → Heap → Prop}
    (h : (opE noCall (PX.ev ts) (b + r) op).wp H fun x => putT ts d x.d = ts' ∧ x.on H = H') (h2 : Seq b os ts' H' Q) : Seq b (⟨d, op, none, l, r⟩ :: os) ts H Q := by
  obtain ⟨x, h3, rfl, rfl⟩ := Eff.wp_run h
  exact Seq.op (Eff.run_wp h3 h2)
/-- A guarded one that is wanted. -/
theorem Seq.opG {b t : Nat} {v : Bool} {d : Option Nat} {op : POp} {l : List Nat} {r : Nat} {os : List PO} {ts ts' : List D} {H H' : Heap} {Q : List D → Heap → Prop} (hg : ts.getD t .undef = .bool v)
    (h : (opE noCall (PX.ev ts) (b + r) op).wp H fun x => putT ts d x.d = ts' ∧ x.on H = H') (h2 : Seq b os ts' H' Q) : Seq b (⟨d, op, some (t, v), l, r⟩ :: os) ts H Q := by
  obtain ⟨x, h3, rfl, rfl⟩ := Eff.wp_run h
  simp only [Seq, hg, if_true]
  exact Eff.run_wp h3 h2
/-- A guarded one that is not. -/
theorem Seq.opS {b t : Nat} {v : Bool} {d : Option Nat} {op : POp} {l : List Nat} {r : Nat} {os : List PO} {ts : List D} {H : Heap} {Q : List D → Heap → Prop} (hg : ts.getD t .undef = .bool (!v) ∨ ts.getD t .undef = .skip)
    (h2 : Seq b os (putT ts d .skip) H Q) : Seq b (⟨d, op, some (t, v), l, r⟩ :: os) ts H Q := by
  rcases hg with hg | hg
  · simp only [Seq, hg]
    rw [if_neg (by cases v <;> simp)]
    exact h2
  · simp only [Seq, hg]
    exact h2
theorem Seq.nil {b : Nat} {ts : List D} {H : Heap} {Q : List D → Heap → Prop} (h : Q ts H) : Seq b [] ts H Q := h
section
variable {pr : Prog} {b : Nat}
theorem stepO_of {o : PO} {ts : List D} {H : Heap} {x : Out} (hg : guardOk ts o.guard = true) (hw : wantedP ts o.guard = true) (h : (opE noCall (PX.ev ts) (b + o.res) o.op).run H = some x) :
    stepO noCall b o ⟨ts, H⟩ = some ⟨putT ts o.dst x.d, x.on H⟩ := by
  obtain ⟨d, op, g, l, r⟩ := o
  unfold stepO
  simp only [hg, hw, if_true]
  cases op
  case callH f a => simp [opE, Eff.run] at h
  all_goals simp only [h, Option.map_some]
theorem Seq.ok : ∀ {os : List PO} {ts : List D} {H : Heap} {Q : List D → Heap → Prop}, Seq b os ts H Q → ∃ s', seqR noCall b os ⟨ts, H⟩ = some s' ∧ Q s'.ts s'.hp
  | [], ts, H, Q, h => ⟨⟨ts, H⟩, rfl, h⟩
  | o :: os, ts, H, Q, h => by
    simp only [Seq] at h
    split at h
    · rename_i hg
      obtain ⟨x, h1, h2⟩ := Eff.wp_run h
      obtain ⟨s', h3, h4⟩ := Seq.ok h2
      exact ⟨s', by simp only [seqR, stepO_of (by rw [hg]; rfl) (by rw [hg]; rfl) h1, Option.bind_some]; exact h3, h4⟩
    · rename_i t v hg
      split at h
      · rename_i c hc
        have hok : guardOk ts o.guard = true := by rw [hg]; simp only [guardOk, hc]
        split at h
        · rename_i e
          obtain ⟨x, h1, h2⟩ := Eff.wp_run h
          obtain ⟨s', h3, h4⟩ := Seq.ok h2
          exact ⟨s', by simp only [seqR, stepO_of hok (by rw [hg]; simp only [wantedP, hc, e, beq_self_eq_true]) h1, Option.bind_some]; exact h3, h4⟩
        · rename_i e
          obtain ⟨s', h3, h4⟩ := Seq.ok h
          refine ⟨s', ?_, h4⟩
          have hw : wantedP ts o.guard = false := by rw [hg]; simp only [wantedP, hc]; simpa using e
          simp only [seqR, stepO, hok, hw, if_true, Bool.false_eq_true, if_false, Option.bind_some]
          exact h3
      · rename_i hc
        have hok : guardOk ts o.guard = true := by rw [hg]; simp only [guardOk, hc]
        obtain ⟨s', h3, h4⟩ := Seq.ok h
        refine ⟨s', ?_, h4⟩
        have hw : wantedP ts o.guard = false := by rw [hg]; simp only [wantedP, hc]
        simp only [seqR, stepO, hok, hw, if_true, Bool.false_eq_true, if_false, Option.bind_some]
        exact h3
      · exact h.elim
theorem Steps.pure {os : List PO} {s : St} {Q : St → Prop} (h : Seq b os s.ts s.hp fun ts H => Q ⟨ts, H⟩) : Steps pr b os s Q := by
  obtain ⟨s', h1, h2⟩ := Seq.ok h
  exact ⟨0, s', seqR_mono (noCall_le _) h1, h2⟩
theorem seqR_append {c : CallF} : ∀ {l m : List PO} {s : St}, seqR c b (l ++ m) s = (seqR c b l s).bind (seqR c b m)
  | [], m, s => rfl
  | o :: l, m, s => by
    simp only [List.cons_append, seqR, Option.bind_assoc]
    congr 1
    funext s1
    exact seqR_append
theorem Steps.append {l m : List PO} {s : St} {Q : St → Prop} (h : Steps pr b l s (fun s1 => Steps pr b m s1 Q)) : Steps pr b (l ++ m) s Q := by
  obtain ⟨n, s1, h1, k, s2, h2, h3⟩ := h
  refine ⟨max n k, s2, ?_, h3⟩
  rw [seqR_append, seqR_mono (runN_mono pr (Nat.le_max_left n k)) h1]
  exact seqR_mono (runN_mono pr (Nat.le_max_right n k)) h2
/-- So many operations without calls, then the rest. -/
theorem Steps.split (k : Nat) {os : List PO} {s : St} {Q : St → Prop} (h : Seq b (os.take k) s.ts s.hp fun ts H => Steps pr b (os.drop k) ⟨ts, H⟩ Q) : Steps pr b os s Q := by
  have := Steps.append (l := os.take k) (m := os.drop k) (s := s) (Q := Q) (pr := pr) (b := b) (Steps.pure h)
  rwa [List.take_append_drop] at this
end
end Go.Pi
