import Derived.Test.YtghncdeldlknnaaJF
/-
  CALLS: what a function gives, told as its caller gets it.
-/
set_option linter.all false
namespace Go.Pi
set_option linter.unusedVariables false

/-- What comes back: a datum as it stands, a closed list, a row that is handed over. -/
inductive RI where
  | sc (v : V)
  | cl (d : D)
  | own (sz : Nat) (es : List (List V))
def scV : V → Bool
  | .x d => scal d && (match d with | .undef => false | _ => true)
  | .agg vs => vs.all fun v => match v with | .x d => scal d | _ => false
  | _ => false
def RIok : RI → D → Prop
  | .sc v, x => scV v = true ∧ VR [] v x
  | .cl d, x => lp d = true ∧ plain x = true ∧ Nr d x
  | .own sz es, x => (x = .nil ∧ es = []) ∨ ∃ es', x = .own sz es' ∧ All2 (VRs []) es es' ∧ flatE es
def RIs : List RI → List D → Prop := All2 RIok
def tupD : D → Bool
  | .tup _ => true
  | _ => false
/-- What a function gives for arguments. -/
def CallOk (pr : Prog) (f : Nat) (vs : List V) (tp : Bool) (Res : List RI) : Prop :=
  ∀ ds, VRs [] vs ds → Runs pr f ds [] fun d H' => tupD d = tp ∧ ∃ xs hs rd, expL H' (comps d) = some (xs, hs, rd) ∧ nodup hs = true ∧ apart hs rd = true ∧ RIs Res xs

/-! ### from a function's body -/
section
variable {pr : Prog} {fr : Nat → Option Blk} {α β γ : Type} {N b : Nat} {av : List Nat} {E : Env} {R : List Rt} {m : Option α} {s : St}

/-- Results, from slots. -/
inductive ROk (H : Heap) (R : List Rt) : V → RI → Prop where
  | sc (v : V) (h : scV v = true) : ROk H R v (.sc v)
  | cl (n : Nat) (d : D) (h : lp d = true) (hn : n ≤ fuelF) : ROk H R (.c n d) (.cl d)
  | nil (sz : Nat) : ROk H R (.x .nil) (.own sz [])
  | own (i : Nat) (o : Option Nat) (sz : Nat) (es : List (List V)) (hR : R[i]? = some ⟨o, sz, es⟩) (hf : flatE es) (h1 : ∀ e ∈ es, ∀ v ∈ e, ∀ d d', VR H v d → (frz 11 d).run H = some d' → VR [] v d'.1) (h2 : ∀ e ∈ es, ∀ v ∈ e, ∀ d, VR H v d → ∃ d', (frz 11 d).run H = some d' ∧ ∀ i ∈ d'.2, dead H i) : ROk H R (.ref o 0 es.length) (.own sz es)

/-- Cells that may be handed over. -/
def outV : V → Bool
  | .x d => sc d
  | .c n d => lp d && leB n 11
  | _ => false
theorem sc_frz {H : Heap} {d : D} (h : sc d = true) (n : Nat) : (frz (n + 1) d).run H = some (d, []) := by cases d <;> simp [sc] at h <;> rfl
theorem plain_frz {H : Heap} {d : D} (h : plain d = true) (n : Nat) : (frz (n + 1) d).run H = some (d, []) := by cases d <;> simp [plain] at h <;> rfl
theorem nr_plain {v d : D} (h : Nr v d) (hl : lp v = true) : plain d = true := by
  cases v <;> simp [lp] at hl
  · simp only [Nr] at h; subst h; rfl
  · rcases h.lst with ⟨_, rfl⟩ | ⟨_, rfl, _⟩ <;> rfl
  · obtain ⟨_, rfl, _⟩ := h.fptr; rfl
theorem outV_frz {H : Heap} {v : V} {d : D} (ho : outV v = true) (h : VR H v d) : ∃ d', (frz 11 d).run H = some d' ∧ (∀ i ∈ d'.2, dead H i) ∧ ∀ H2, VR H2 v d'.1 := by
  cases v <;> simp only [outV] at ho
  · simp only [VR] at h
    subst h
    exact ⟨_, sc_frz ho 10, by simp, fun _ => by simp only [VR]⟩
  · simp only [Bool.and_eq_true, leB_iff] at ho
    simp only [VR] at h
    obtain ⟨x, h1, h2, h3⟩ := (h.up ho.2).frz
    refine ⟨x, h1, h3, fun H2 => ?_⟩
    simp only [VR]
    rename_i n d0
    cases n with
    | zero => exact h.elim
    | succ n => exact nr_cl h2 (.inl ho.1)
  all_goals cases ho
theorem outVs_frz {H : Heap} : ∀ {vs : List V} {ds : List D}, vs.all outV = true → VRs H vs ds → ∃ x, (eachC (frz 11) ds).run H = some x ∧ (∀ i ∈ x.2, dead H i) ∧ ∀ H2, VRs H2 vs x.1
  | [], [], _, _ => ⟨([], []), rfl, by simp, fun _ => by simp [VRs]⟩
  | v :: vs, d :: ds, h, k => by
    simp only [List.all_cons, Bool.and_eq_true] at h
    simp only [VRs] at k
    obtain ⟨x, h1, h2, h3⟩ := outV_frz h.1 k.1
    obtain ⟨y, h4, h5, h6⟩ := outVs_frz h.2 k.2
    refine ⟨(x.1 :: y.1, x.2 ++ y.2), by simp [eachC, run_bindE, h1, h4, Eff.run], fun i hi => ?_, fun H2 => by simp only [VRs]; exact ⟨h3 H2, h6 H2⟩⟩
    simp at hi
    exact hi.elim (h2 i) (h5 i)
  | [], _ :: _, _, h => by simp [VRs] at h
  | _ :: _, [], _, h => by simp [VRs] at h
def outE (es : List (List V)) : Prop := ∀ e ∈ es, e.all outV = true
theorem outEs_frz {H : Heap} : ∀ {vs : List (List V)} {ds : List (List D)}, outE vs → All2 (VRs H) vs ds → ∃ x, (eachE (frz 11) ds).run H = some x ∧ (∀ i ∈ x.2, dead H i) ∧ ∀ H2, All2 (VRs H2) vs x.1
  | [], [], _, _ => ⟨([], []), rfl, by simp, fun _ => trivial⟩
  | v :: vs, d :: ds, h, k => by
    obtain ⟨x, h1, h2, h3⟩ := outVs_frz (h v (by simp)) k.1
    obtain ⟨y, h4, h5, h6⟩ := outEs_frz (fun e he => h e (by simp [he])) k.2
    refine ⟨(x.1 :: y.1, x.2 ++ y.2), by simp [eachE, run_bindE, h1, h4, Eff.run], fun i hi => ?_, fun H2 => ⟨h3 H2, h6 H2⟩⟩
    simp at hi
    exact hi.elim (h2 i) (h5 i)
  | [], _ :: _, _, h => h.elim
  | _ :: _, [], _, h => h.elim
theorem outE_flat {es : List (List V)} (h : outE es) : flatE es := by
  intro e he
  have := h e he
  simp only [List.all_eq_true] at this ⊢
  intro v hv
  have := this v hv
  cases v <;> simp [outV] at this <;> rfl
theorem eachE_up {H : Heap} {n m : Nat} (hm : n ≤ m) : ∀ {ds : List (List D)} {x : List (List D) × List Nat}, (eachE (frz n) ds).run H = some x → (eachE (frz m) ds).run H = some x := by
  have hC : ∀ {ds : List D} {x : List D × List Nat}, (eachC (frz n) ds).run H = some x → (eachC (frz m) ds).run H = some x := by
    intro ds
    induction ds with
    | nil => intro x h; exact h
    | cons d ds ih =>
      intro x h
      simp only [eachC, run_bindE, Option.bind_eq_some_iff] at h ⊢
      obtain ⟨y, h1, z, h2, h3⟩ := h
      exact ⟨y, frz_up h1 hm, z, ih h2, h3⟩
  intro ds
  induction ds with
  | nil => intro x h; exact h
  | cons d ds ih =>
    intro x h
    simp only [eachE, run_bindE, Option.bind_eq_some_iff] at h ⊢
    obtain ⟨y, h1, z, h2, h3⟩ := h
    exact ⟨y, hC h1, z, ih h2, h3⟩
theorem vl_out {c : β → List D} {l : List β} (hc : ∀ a, (cv c a).all outV = true) : outE (vl c l) := by
  intro e he
  simp only [vl, List.mem_map] at he
  obtain ⟨a, _, rfl⟩ := he
  exact hc a

/-- One result, handed over. -/
theorem exp_sc {H : Heap} {v : V} {d : D} (h : scV v = true) (k : VR H v d) : exp1 H d = some (d, [], []) ∧ RIok (.sc v) d := by
  cases v <;> simp only [scV] at h
  · rename_i d0
    simp only [VR] at k
    subst k
    have h' : scal d = true := by simp only [Bool.and_eq_true] at h; exact h.1
    refine ⟨?_, h, by simp only [VR]⟩
    cases d <;> simp [scal] at h' <;> rfl
  case agg vs =>
    simp only [VR] at k
    obtain ⟨ds, rfl, k⟩ := k
    have key : ∀ {vs : List V} {ds : List D}, (vs.all fun v => match v with | .x d => scal d | _ => false) = true → VRs H vs ds → (∀ n, (eachC (frz (n + 1)) ds).run H = some (ds, [])) ∧ VRs [] vs ds := by
      intro vs
      induction vs with
      | nil =>
        intro ds _ k
        cases ds with
        | nil => exact ⟨fun _ => rfl, by simp [VRs]⟩
        | cons => simp [VRs] at k
      | cons v vs ih =>
        intro ds h k
        cases ds with
        | nil => simp [VRs] at k
        | cons d ds =>
          simp only [VRs] at k ⊢
          simp only [List.all_cons, Bool.and_eq_true] at h
          obtain ⟨i1, i2⟩ := ih h.2 k.2
          cases v <;> simp at h
          simp only [VR] at k ⊢
          obtain ⟨rfl, k⟩ := k
          refine ⟨fun n => ?_, rfl, i2⟩
          have : (frz (n + 1) d).run H = some (d, []) := by
            have h' := h.1
            cases d <;> simp [scal] at h' <;> rfl
          simp [eachC, run_bindE, this, i1, Eff.run]
    obtain ⟨k1, k2⟩ := key h k
    refine ⟨?_, h, by simp only [VR]; exact ⟨_, rfl, k2⟩⟩
    show ((frz 12 (.agg ds)).run H).map _ = _
    simp [frz, run_bindE, k1, Eff.run]
  all_goals cases h
theorem exp_cl {H : Heap} {n : Nat} {d0 d : D} (hl : lp d0 = true) (hn : n ≤ fuelF) (k : Cl H n d0 d) : ∃ x rd, exp1 H d = some (x, [], rd) ∧ (∀ i ∈ rd, dead H i) ∧ RIok (.cl d0) x := by
  obtain ⟨x, h1, h2, h3⟩ := (k.up hn).frz
  refine ⟨x.1, x.2, ?_, h3, hl, nr_plain h2 hl, h2⟩
  have hg : ((frz fuelF d).run H).map (fun x => (x.1, ([] : List Nat), x.2)) = some (x.1, [], x.2) := by rw [h1]; rfl
  cases d <;> try exact hg
  rename_i id off len
  have : dead H id := by
    cases n with
    | zero => exact k.elim
    | succ n =>
      rcases k with ⟨k, _⟩ | ⟨sz, es, id', off, len, es0, _, e, h3, _⟩ | ⟨cs, id', i, j, sz, es0, e0, _, e, _⟩ | ⟨cs, ds, _, e, _⟩
      · simp [plain] at k
      · injection e with e1; subst e1; exact ⟨_, _, h3⟩
      · cases e
      · cases e
  obtain ⟨sz, es, hh⟩ := this
  simp only [exp1, hh]
  exact hg
theorem exp_own {H : Heap} {o : Option Nat} {sz : Nat} {es : List (List V)} {d : D} {S : List Nat} (hr : RootR H ⟨o, sz, es⟩ S) (ho : outE es) (k : VR H (.ref o 0 es.length) d) :
    ∃ x hs rd, exp1 H d = some (x, hs, rd) ∧ (∀ i ∈ rd, dead H i) ∧ hs = S ∧ RIok (.own sz es) x := by
  simp only [VR] at k
  rcases hr with ⟨h1, h2, rfl⟩ | ⟨id, es', S', h1, h2, h3, rfl⟩
  · simp at h1 h2
    subst h1; subst h2
    rcases k with ⟨_, e, _⟩ | ⟨_, _, _, rfl⟩
    · cases e
    · exact ⟨.nil, [], [], rfl, by simp, rfl, .inl ⟨rfl, rfl⟩⟩
  · simp at h1 h2 h3
    subst h1
    rcases k with ⟨_, e, rfl⟩ | ⟨e, _⟩
    · injection e with e; subst e
      obtain ⟨ha, rfl⟩ := h3.flat (outE_flat ho)
      obtain ⟨x, q1, q2, q3⟩ := outEs_frz ho ha
      refine ⟨.own sz x.1, [id], x.2, ?_, q2, rfl, .inr ⟨x.1, rfl, q3 [], outE_flat ho⟩⟩
      simp only [exp1, h2]
      rw [if_pos ⟨trivial, ha.len⟩]
      rw [eachE_up (m := fuelF) (by decide) q1]; rfl
    · cases e

/-- The results of a body. -/
inductive Outs (R : List Rt) : List V → List RI → List Nat → Prop where
  | nil : Outs R [] [] []
  | sc {v : V} {vs : List V} {rs : List RI} {is : List Nat} (h : scV v = true) (k : Outs R vs rs is) : Outs R (v :: vs) (.sc v :: rs) is
  | cl {n : Nat} {d : D} {vs : List V} {rs : List RI} {is : List Nat} (h : lp d = true) (hn : leB n fuelF = true) (k : Outs R vs rs is) : Outs R (.c n d :: vs) (.cl d :: rs) is
  | nl {sz : Nat} {vs : List V} {rs : List RI} {is : List Nat} (k : Outs R vs rs is) : Outs R (.x .nil :: vs) (.own sz [] :: rs) is
  | own {i : Nat} {o : Option Nat} {sz : Nat} {es : List (List V)} {vs : List V} {rs : List RI} {is : List Nat} (hR : R[i]? = some ⟨o, sz, es⟩) (ho : outE es) (hi : is.contains i = false) (k : Outs R vs rs is) : Outs R (.ref o 0 es.length :: vs) (.own sz es :: rs) (i :: is)
theorem RR.pick {H : Heap} {R : List Rt} {S : List Nat} (h : RR H R S) {i : Nat} {r : Rt} (hi : R[i]? = some r) : ∃ T, RootR H r T ∧ (∀ x ∈ T, x ∈ S) := by
  obtain ⟨S1, S2, S3, k1, rfl, k2⟩ := h.at hi
  exact ⟨S2, k1, fun x hx => by simp [hx]⟩
theorem RR.disj {H : Heap} : ∀ {R : List Rt} {S : List Nat}, RR H R S → S.Nodup → ∀ {i j : Nat} {r q : Rt} {id : Nat}, R[i]? = some r → R[j]? = some q → r.o = some id → q.o = some id → i = j
  | [], _, _, _, i, j, r, q, id, hi, _, _, _ => by simp at hi
  | r0 :: R, S, h, hn, i, j, r, q, id, hi, hj, h1, h2 => by
    obtain ⟨S1, S2, k1, k2, rfl⟩ := h
    rw [List.nodup_append] at hn
    have root : ∀ {r : Rt} {T : List Nat}, RootR H r T → r.o = some id → id ∈ T := by
      intro r T h e
      rcases h with ⟨h, _⟩ | ⟨id', es', S', h, _, _, rfl⟩
      · rw [h] at e; cases e
      · rw [h] at e; injection e with e; subst e; simp
    cases i with
    | zero =>
      simp at hi; subst hi
      cases j with
      | zero => rfl
      | succ j =>
        obtain ⟨T, t1, t2⟩ := k2.pick (i := j) (r := q) (by simpa using hj)
        exact absurd rfl (hn.2.2 id (root k1 h1) id (t2 _ (root t1 h2)))
    | succ i =>
      cases j with
      | zero =>
        simp at hj; subst hj
        obtain ⟨T, t1, t2⟩ := k2.pick (i := i) (r := r) (by simpa using hi)
        exact absurd rfl (hn.2.2 id (root k1 h2) id (t2 _ (root t1 h1)))
      | succ j => exact congrArg (· + 1) (RR.disj k2 hn.2.1 (i := i) (j := j) (by simpa using hi) (by simpa using hj) h1 h2)
theorem outs_ok {H : Heap} {S : List Nat} (hr : RR H R S) (hn : S.Nodup) : ∀ {vs : List V} {rs : List RI} {is : List Nat}, Outs R vs rs is → ∀ {ds : List D}, VRs H vs ds →
    ∃ xs hs rd, expL H ds = some (xs, hs, rd) ∧ (∀ i ∈ rd, dead H i) ∧ nodup hs = true ∧ (∀ id ∈ hs, ∃ i ∈ is, ∃ r, R[i]? = some r ∧ r.o = some id) ∧ RIs rs xs := by
  intro vs rs is h
  induction h with
  | nil =>
    intro ds k
    cases ds with
    | nil => exact ⟨[], [], [], rfl, by simp, rfl, by simp, trivial⟩
    | cons => simp [VRs] at k
  | sc h k ih =>
    intro ds hv
    cases ds with
    | nil => simp [VRs] at hv
    | cons d ds =>
      simp only [VRs] at hv
      obtain ⟨xs, hs, rd, h1, h2, h3, h4, h5⟩ := ih hv.2
      obtain ⟨e1, e2⟩ := exp_sc h hv.1
      exact ⟨d :: xs, hs, rd, by simp [expL, e1, h1], h2, h3, h4, e2, h5⟩
  | cl h hn k ih =>
    intro ds hv
    cases ds with
    | nil => simp [VRs] at hv
    | cons d ds =>
      simp only [VRs] at hv
      obtain ⟨xs, hs, rd, h1, h2, h3, h4, h5⟩ := ih hv.2
      have := hv.1
      simp only [VR] at this
      obtain ⟨x, rd', e1, e2, e3⟩ := exp_cl h (leB_iff.1 hn) this
      refine ⟨x :: xs, hs, rd' ++ rd, by simp [expL, e1, h1], fun i hi => ?_, h3, h4, e3, h5⟩
      simp at hi
      exact hi.elim (e2 i) (h2 i)
  | nl k ih =>
    intro ds hv
    cases ds with
    | nil => simp [VRs] at hv
    | cons d ds =>
      simp only [VRs] at hv
      obtain ⟨xs, hs, rd, h1, h2, h3, h4, h5⟩ := ih hv.2
      have := hv.1
      simp only [VR] at this
      subst this
      exact ⟨.nil :: xs, hs, rd, by simp [expL, h1, exp1, frz, fuelF, Eff.run], h2, h3, h4, .inl ⟨rfl, rfl⟩, h5⟩
  | @own i o sz es vs rs is hR ho hi k ih =>
    intro ds hv
    cases ds with
    | nil => simp [VRs] at hv
    | cons d ds =>
      simp only [VRs] at hv
      obtain ⟨xs, hs, rd, h1, h2, h3, h4, h5⟩ := ih hv.2
      obtain ⟨T, t1, t2⟩ := hr.pick hR
      obtain ⟨x, hs', rd', e1, e2, rfl, e3⟩ := exp_own t1 ho hv.1
      refine ⟨x :: xs, hs' ++ hs, rd' ++ rd, by simp [expL, e1, h1], fun i hi => ?_, ?_, ?_, e3, h5⟩
      · simp at hi
        exact hi.elim (e2 i) (h2 i)
      · rcases t1 with ⟨_, _, rfl⟩ | ⟨id, es', S', q1, q2, q3, rfl⟩
        · exact h3
        · obtain ⟨_, rfl⟩ := q3.flat (outE_flat ho)
          simp only [List.cons_append, List.nil_append, nodup, Bool.and_eq_true, Bool.not_eq_true', List.contains_eq_mem, decide_eq_false_iff_not]
          refine ⟨fun hm => ?_, h3⟩
          obtain ⟨j, j1, r, j2, j3⟩ := h4 id hm
          have := hr.disj hn hR j2 q1 j3
          subst this
          simp [j1] at hi
      · intro id hid
        simp at hid
        rcases hid with hid | hid
        · rcases t1 with ⟨_, _, rfl⟩ | ⟨id', es', S', q1, q2, q3, rfl⟩
          · cases hid
          · obtain ⟨_, rfl⟩ := q3.flat (outE_flat ho)
            simp at hid
            subst hid
            exact ⟨i, by simp, _, hR, q1⟩
        · obtain ⟨j, j1, r, j2, j3⟩ := h4 id hid
          exact ⟨j, by simp [j1], r, j2, j3⟩

theorem cl_notup {H : Heap} {n : Nat} {v : D} {l : List D} (h : Cl H n v (.tup l)) : False := by
  cases n with
  | zero => exact h.elim
  | succ n =>
    rcases h with ⟨k, _⟩ | ⟨_, _, _, _, _, _, _, e, _⟩ | ⟨_, _, _, _, _, _, _, _, e, _⟩ | ⟨_, _, _, e, _⟩
    · simp [plain] at k
    all_goals cases e
theorem scV_notup {H : Heap} {v : V} {l : List D} (h : scV v = true) (k : VR H v (.tup l)) : False := by
  cases v <;> simp only [VR] at k
  · subst k
    simp [scV, scal] at h
  · exact cl_notup k
  · rcases k with ⟨_, _, e⟩ | ⟨_, _, _, e⟩ <;> cases e
  · cases k
  · obtain ⟨_, e, _⟩ := k; cases e
  · simp [scV] at h
theorem outs_notup {H : Heap} {vs : List V} {rs : List RI} {is : List Nat} {l : List D} (ho : Outs R vs rs is) (hvs : VRs H vs [.tup l]) : False := by
  cases ho with
  | nil => simp [VRs] at hvs
  | sc h k => simp only [VRs] at hvs; exact scV_notup h hvs.1
  | cl h hn k => simp only [VRs, VR] at hvs; exact cl_notup hvs.1
  | nl k => simp only [VRs, VR] at hvs; cases hvs.1
  | own hR ho hi k =>
    simp only [VRs, VR] at hvs
    rcases hvs.1 with ⟨_, _, e⟩ | ⟨_, _, _, e⟩ <;> cases e

def resSlots : List PR → Option (List Nat)
  | [] => some []
  | .tmp t :: rs => match resSlots rs with | some l => some (t :: l) | none => none
  | _ => none
theorem resL_of {s : St} : ∀ {rs : List PR} {ts : List Nat}, resSlots rs = some ts → resL s rs = some (ts.map fun t => s.ts.getD t .undef)
  | [], ts, h => by simp only [resSlots, Option.some.injEq] at h; subst h; rfl
  | .tmp t :: rs, ts, h => by
    simp only [resSlots] at h
    split at h
    · rename_i l hl
      injection h with h
      subst h
      simp [resL, res1, resL_of hl]
    · cases h
  | .cell _ _ _ :: _, _, h => by simp [resSlots] at h
def getL (E : Env) : List Nat → Option (List V)
  | [] => some []
  | t :: ts => match E.get t, getL E ts with
    | some v, some l => some (v :: l)
    | _, _ => none
theorem getL_ok (h : EnvR N E R fr b av s) : ∀ {ts : List Nat} {vs : List V}, getL E ts = some vs → VRs s.hp vs (ts.map fun t => s.ts.getD t .undef)
  | [], vs, hv => by simp only [getL, Option.some.injEq] at hv; subst hv; simp [VRs]
  | t :: ts, vs, hv => by
    simp only [getL] at hv
    split at hv
    · rename_i v l h1 h2
      injection hv with hv
      subst hv
      simp only [List.map_cons, VRs]
      exact ⟨h.sl t v h1, getL_ok h h2⟩
    · cases hv
/-- Where a body ends: the results. -/
def RetA (ts : List Nat) (Res : List RI) (ex : Ex) (E : Env) (R : List Rt) : Prop := (∀ i, ex ≠ .exit i) ∧ ∃ vs is, getL E ts = some vs ∧ Outs R vs Res is
def noFr : Nat → Option Blk := fun _ => none
/-- The slots at the begin. -/
def argE : Nat → List V → Env
  | _, [] => []
  | i, v :: vs => (i, v) :: argE (i + 1) vs
theorem argE_get : ∀ {vs : List V} {ds : List D} {i : Nat} {pre : List D}, pre.length = i → VRs [] vs ds → ∀ {j : Nat} {v : V}, (argE i vs).get j = some v → VR [] v ((pre ++ ds).getD j .undef)
  | [], _, i, pre, _, _, j, v, h => by simp [argE, Env.get] at h
  | v :: vs, [], _, _, _, h, _, _, _ => by simp [VRs] at h
  | v :: vs, d :: ds, i, pre, hp, h, j, w, hw => by
    simp only [VRs] at h
    simp only [argE, Env.get] at hw
    split at hw
    · rename_i e
      have := Nat.eq_of_beq_eq_true e
      subst this
      injection hw with hw
      subst hw
      rw [List.getD_eq_getElem?_getD, List.getElem?_append_right (by omega), hp]
      simpa using h.1
    · have := argE_get (pre := pre ++ [d]) (i := i + 1) (by simp [hp]) h.2 hw
      simpa using this
theorem CallOk.of {f : Nat} {vs : List V} {tp : Bool} {Res : List RI} {pf : PF} {ts : List Nat} {v : α} (hf : pr f = some pf) (hts : resSlots pf.results = some ts) (htp : tp = (match ts with | [_] => false | _ => true)) (hlen : leB vs.length pf.ntmps = true)
    (h : JC pr noFr pf.ntmps (argE 0 vs) [] pf.body (some v) (fun _ => GotA pf.ntmps noFr (RetA ts Res))) : CallOk pr f vs tp Res := by
  intro ds hds
  refine Runs.body hf ?_
  have hl := hds.len
  rw [leB_iff] at hlen
  have h0 : EnvR pf.ntmps (argE 0 vs) [] noFr 0 [] ⟨ds ++ List.replicate (pf.ntmps - ds.length) .undef, []⟩ := by
    refine ⟨by simp; omega, fun i w hw => ?_, ⟨[], rfl, List.nodup_nil, by simp⟩, fun id k hk => by simp [noFr] at hk, List.nodup_nil, by simp⟩
    have hw' := argE_get (pre := []) rfl hds hw
    have hi : i < ds.length := by
      have : ∀ {vs : List V} {k i : Nat} {w : V}, (argE k vs).get i = some w → i < k + vs.length := by
        intro vs
        induction vs with
        | nil => intro k i w h; simp [argE, Env.get] at h
        | cons v vs ih =>
          intro k i w h
          simp only [argE, Env.get] at h
          split at h
          · rename_i e
            have := Nat.eq_of_beq_eq_true e
            subst this
            simp
          · have := ih h
            simp at this ⊢; omega
      have := this hw
      omega
    rw [List.getD_eq_getElem?_getD, List.getElem?_append_left hi, ← List.getD_eq_getElem?_getD]
    simpa using hw'
  refine (h v rfl _ h0).mono ?_
  rintro ex s ⟨E, R, ⟨hex, vs', is, hg, ho⟩, hs⟩
  refine ⟨hex, ?_⟩
  have hvs := getL_ok hs hg
  obtain ⟨S, h1, h2, h3⟩ := hs.ro
  obtain ⟨xs, hd, rd, e1, e2, e3, e4, e5⟩ := outs_ok h1 h2 ho hvs
  have hap : apart hd rd = true := by
    simp only [apart, List.all_eq_true, Bool.not_eq_true', List.contains_eq_mem, decide_eq_false_iff_not]
    intro id hid hm
    obtain ⟨i, _, r, k1, k2⟩ := e4 id hid
    obtain ⟨T, t1, t2⟩ := h1.pick k1
    obtain ⟨_, _, dd⟩ := e2 id hm
    rcases t1 with ⟨q, _⟩ | ⟨id', es', S', q1, q2, _⟩
    · rw [q] at k2; cases k2
    · rw [q1] at k2; injection k2 with k2; subst k2
      rw [q2] at dd; cases dd
  have hres := resL_of (s := s) hts
  cases ts with
  | nil =>
    subst htp
    refine ⟨.tup [], by simp [resV, hres], rfl, xs, hd, rd, e1, e3, hap, e5⟩
  | cons t ts =>
    cases ts with
    | nil =>
      subst htp
      refine ⟨s.ts.getD t .undef, by simp [resV, hres], ?_, xs, hd, rd, ?_, e3, hap, e5⟩
      · cases hd' : s.ts.getD t .undef with
        | tup l =>
          exfalso
          simp only [List.map_cons, List.map_nil] at hvs
          rw [hd'] at hvs
          exact outs_notup ho hvs
        | _ => rfl
      · have : comps (s.ts.getD t .undef) = [s.ts.getD t .undef] := by
          cases hd' : s.ts.getD t .undef with
          | tup l =>
            exfalso
            simp only [List.map_cons, List.map_nil] at hvs
            rw [hd'] at hvs
            exact outs_notup ho hvs
          | _ => rfl
        rw [this]
        simpa using e1
    | cons t2 ts =>
      subst htp
      refine ⟨.tup _, by simp only [resV, hres, List.map_cons, Option.map_some], rfl, xs, hd, rd, e1, e3, hap, e5⟩
end
end Go.Pi
