import Derived.Test.YtghncdeldlknnaaJG
/-
  CALLS: the caller's side.
-/
set_option linter.all false
namespace Go.Pi
set_option linter.unusedVariables false

section
variable {pr : Prog} {fr : Nat → Option Blk} {α β γ : Type} {N b : Nat} {av : List Nat} {E : Env} {R : List Rt} {m : Option α} {s : St}
variable {dst : Option Nat} {g : Option (Nat × Bool)} {aft : List Nat} {res : Nat} {ops : List PO} {Q : α → St → Prop} {x y ix : PX}

/-- An argument, as the callee gets it; which row of the caller's own is met on the way. -/
def ArgOk (N : Nat) (E : Env) (R : List Rt) (fr : Nat → Option Blk) (b : Nat) (av : List Nat) (k : List Nat) (x : PX) (v : V) : Prop :=
  ∀ s, EnvR N E R fr b av s → ∃ z, (frz fuelF (x.ev s.ts)).run s.hp = some z ∧ VR [] v z.1 ∧ ∀ id ∈ z.2, dead s.hp id ∨ ∃ i sz es, i ∈ k ∧ R[i]? = some ⟨some id, sz, es⟩
theorem argX {k : List Nat} {d : D} (hx : evV E x = some (.x d)) (hd : plain d = true) : ArgOk N E R fr b av k x (.x d) := by
  intro s hs
  have := hs.ev hx
  simp only [VR] at this
  rw [this]
  exact ⟨_, plain_frz hd 11, by simp only [VR], by simp⟩
theorem argC {k : List Nat} {n : Nat} {d : D} (hx : evV E x = some (.c n d)) (hl : lp d = true) (hn : leB n fuelF = true) : ArgOk N E R fr b av k x (.c 1 d) := by
  intro s hs
  have := hs.ev hx
  simp only [VR] at this
  obtain ⟨z, h1, h2, h3⟩ := (this.up (leB_iff.1 hn)).frz
  refine ⟨z, h1, ?_, fun id hi => .inl (h3 id hi)⟩
  simp only [VR]
  exact nr_cl h2 (.inl hl)
theorem argN {k : List Nat} {sz : Nat} (hx : evV E x = some (.x .nil)) : ArgOk N E R fr b av k x (.c 1 (.lst sz [])) := by
  intro s hs
  have := hs.ev hx
  simp only [VR] at this
  rw [this]
  refine ⟨(.nil, []), rfl, ?_, by simp⟩
  simp only [VR]
  exact Cl.plain rfl Nr.mk_nil
/-- Cells, closed. -/
def clV : V → V
  | .c n d => .c 1 d
  | v => v
def okA (v : V) : Bool := match v with
  | .x d => plain d
  | .c n d => lp d && leB n 11
  | _ => false
theorem okA_frz {H : Heap} {v : V} {d : D} (ho : okA v = true) (h : VR H v d) : ∃ z, (frz 11 d).run H = some z ∧ VR [] (clV v) z.1 ∧ ∀ i ∈ z.2, dead H i := by
  cases v <;> simp only [okA] at ho
  · simp only [VR] at h
    subst h
    exact ⟨_, plain_frz ho 10, by simp only [clV, VR], by simp⟩
  · simp only [Bool.and_eq_true, leB_iff] at ho
    simp only [VR] at h
    obtain ⟨z, h1, h2, h3⟩ := (h.up ho.2).frz
    exact ⟨z, h1, by simp only [clV, VR]; exact nr_cl h2 (.inl ho.1), h3⟩
  all_goals cases ho
theorem okAs_frz {H : Heap} : ∀ {vs : List V} {ds : List D}, vs.all okA = true → VRs H vs ds → ∃ x, (eachC (frz 11) ds).run H = some x ∧ VRs [] (vs.map clV) x.1 ∧ ∀ i ∈ x.2, dead H i
  | [], [], _, _ => ⟨([], []), rfl, by simp [VRs], by simp⟩
  | v :: vs, d :: ds, h, k => by
    simp only [List.all_cons, Bool.and_eq_true] at h
    simp only [VRs] at k
    obtain ⟨x, h1, h2, h3⟩ := okA_frz h.1 k.1
    obtain ⟨y, h4, h5, h6⟩ := okAs_frz h.2 k.2
    refine ⟨(x.1 :: y.1, x.2 ++ y.2), by simp [eachC, run_bindE, h1, h4, Eff.run], by simp only [List.map_cons, VRs]; exact ⟨h2, h5⟩, fun i hi => ?_⟩
    simp at hi
    exact hi.elim (h3 i) (h6 i)
  | [], _ :: _, _, h => by simp [VRs] at h
  | _ :: _, [], _, h => by simp [VRs] at h
theorem argG {k : List Nat} {vs : List V} (hx : evV E x = some (.agg vs)) (hv : vs.all okA = true) : ArgOk N E R fr b av k x (.agg (vs.map clV)) := by
  intro s hs
  have := hs.ev hx
  simp only [VR] at this
  obtain ⟨ds, e, h⟩ := this
  obtain ⟨z, h1, h2, h3⟩ := okAs_frz hv h
  refine ⟨(.agg z.1, z.2), by rw [e]; simp only [fuelF, frz, run_bindE, h1, Option.bind_some, Eff.run], by simp only [VR]; exact ⟨_, rfl, h2⟩, fun id hi => .inl (h3 id hi)⟩
theorem out_nr {c : β → List D} (hc : ∀ a, (c a).all okc = true) {H : Heap} : ∀ {l : List β} {es : List (List D)}, All2 (VRs H) (vl c l) es → ∃ x, (eachE (frz 11) es).run H = some x ∧ All2 (All2 Nr) (l.map c) x.1 ∧ ∀ i ∈ x.2, dead H i := by
  have hC : ∀ {cs ds : List D}, cs.all okc = true → VRs H (cs.map (cellV 1)) ds → ∃ x, (eachC (frz 11) ds).run H = some x ∧ All2 Nr cs x.1 ∧ ∀ i ∈ x.2, dead H i := by
    intro cs
    induction cs with
    | nil =>
      intro ds _ h
      cases ds with
      | nil => exact ⟨([], []), rfl, trivial, by simp⟩
      | cons => simp [VRs] at h
    | cons c cs ih =>
      intro ds hc h
      cases ds with
      | nil => simp [VRs] at h
      | cons d ds =>
        simp only [List.all_cons, Bool.and_eq_true] at hc
        simp only [List.map_cons, VRs] at h
        obtain ⟨y, h4, h5, h6⟩ := ih hc.2 h.2
        have : ∃ x, (frz 11 d).run H = some x ∧ Nr c x.1 ∧ ∀ i ∈ x.2, dead H i := by
          have h1 := h.1
          unfold cellV at h1
          cases hs : sc c with
          | true =>
            rw [hs] at h1
            simp only [VR] at h1
            subst h1
            exact ⟨_, sc_frz hs 10, Nr.of_sc hs, by simp⟩
          | false =>
            rw [hs] at h1
            simp only [VR] at h1
            exact (h1.up (by decide : 1 ≤ 11)).frz
        obtain ⟨x, h1, h2, h3⟩ := this
        refine ⟨(x.1 :: y.1, x.2 ++ y.2), by simp [eachC, run_bindE, h1, h4, Eff.run], ⟨h2, h5⟩, fun i hi => ?_⟩
        simp at hi
        exact hi.elim (h3 i) (h6 i)
  intro l
  induction l with
  | nil =>
    intro es h
    cases es with
    | nil => exact ⟨([], []), rfl, trivial, by simp⟩
    | cons => exact h.elim
  | cons a l ih =>
    intro es h
    cases es with
    | nil => exact h.elim
    | cons e es =>
      obtain ⟨x, h1, h2, h3⟩ := hC (hc a) h.1
      obtain ⟨y, h4, h5, h6⟩ := ih h.2
      refine ⟨(x.1 :: y.1, x.2 ++ y.2), by simp [eachE, run_bindE, h1, h4, Eff.run], ⟨h2, h5⟩, fun i hi => ?_⟩
      simp at hi
      exact hi.elim (h3 i) (h6 i)
theorem argW {c : β → List D} {l : List β} {o : Option Nat} {off len sz : Nat} {k : List Nat} (i : Nat) (hik : k.contains i = true) (hR : R[i]? = some ⟨o, sz, vl c l⟩) (hx : evV E x = some (.ref o off len)) (hl : off + len ≤ l.length) (hc : ∀ a, (c a).all okc = true) :
    ArgOk N E R fr b av k x (.c 1 (.lst sz (((l.drop off).take len).map c))) := by
  intro s hs
  have h := hs.ev hx
  simp only [VR] at h
  rcases h with ⟨id, rfl, hd⟩ | ⟨rfl, rfl, rfl, hd⟩
  · rcases hs.root hR with ⟨e, _⟩ | ⟨id', es', S', e, hh, hv⟩
    · cases e
    · injection e with e; subst e
      obtain ⟨ha, _⟩ := hv.flat (vl_flat c l)
      have := ha.len
      rw [vl_len] at this
      have hw : All2 (VRs s.hp) (vl c ((l.drop off).take len)) ((es'.drop off).take len) := by
        rw [← vl_take, ← vl_drop]
        exact (ha.drop off).take len
      obtain ⟨x, q1, q2, q3⟩ := out_nr hc hw
      refine ⟨(.lst sz x.1, id :: x.2), ?_, ?_, fun j hj => ?_⟩
      · rw [hd]
        simp only [fuelF, frz, Eff.run, hh]
        rw [if_pos (by omega)]
        simp only [run_bindE, q1, Option.bind_some, Eff.run]
      · simp only [VR]
        exact Cl.plain rfl (Nr.mk_lst q2)
      · simp at hj
        rcases hj with rfl | hj
        · exact .inr ⟨i, sz, _, by simpa using hik, hR⟩
        · exact .inl (q3 j hj)
  · refine ⟨(.nil, []), by rw [hd]; rfl, ?_, by simp⟩
    simp only [VR]
    exact Cl.plain rfl (by simp; exact Nr.mk_nil)
theorem argT {c : β → List D} {l : List β} {o : Option Nat} {sz : Nat} {k : List Nat} (i : Nat) (hik : k.contains i = true) (hR : R[i]? = some ⟨o, sz, vl c l⟩) (hx : evV E x = some (.ref o 0 l.length)) (hc : ∀ a, (c a).all okc = true) :
    ArgOk N E R fr b av k x (.c 1 (.lst sz (l.map c))) := by
  have := argW (N := N) (fr := fr) (b := b) (av := av) i hik hR hx (by simp) hc
  simpa using this
def ArgsOk (N : Nat) (E : Env) (R : List Rt) (fr : Nat → Option Blk) (b : Nat) (av : List Nat) (k : List Nat) : List (Nat × PX) → List V → Prop
  | [], [] => True
  | p :: as, v :: vs => p.1 = 0 ∧ ArgOk N E R fr b av k p.2 v ∧ ArgsOk N E R fr b av k as vs
  | _, _ => False
theorem prep_args (hs : EnvR N E R fr b av s) {k : List Nat} : ∀ {as : List (Nat × PX)} {vs : List V} {j : Nat}, ArgsOk N E R fr b av k as vs →
    ∃ ds ids, (prep (as.map fun p => (p.1, p.2.ev s.ts)) j).run s.hp = some ⟨ds, [], ids, []⟩ ∧ VRs [] vs ds ∧ ∀ id ∈ ids, dead s.hp id ∨ ∃ i sz es, i ∈ k ∧ R[i]? = some ⟨some id, sz, es⟩
  | [], [], j, _ => ⟨[], [], rfl, by simp [VRs], by simp⟩
  | (n, x) :: as, v :: vs, j, h => by
    obtain ⟨h0, h1, h2⟩ := h
    simp only at h0
    subst h0
    obtain ⟨z, q1, q2, q3⟩ := h1 s hs
    obtain ⟨ds, ids, q4, q5, q6⟩ := prep_args hs (j := j) h2
    refine ⟨z.1 :: ds, z.2 ++ ids, ?_, by simp only [VRs]; exact ⟨q2, q5⟩, fun id hi => ?_⟩
    · simp only [List.map_cons, prep, run_bindE, q1, q4, Option.bind_some, Eff.run]
    · simp at hi
      exact hi.elim (q3 id) (q6 id)
  | [], _ :: _, _, h => h.elim
  | _ :: _, [], _, h => h.elim

/-! ### what comes back -/
def impV : List RI → List (Option Nat) → List V
  | [], _ => []
  | .sc v :: rs, os => v :: impV rs os
  | .cl d :: rs, os => .c 1 d :: impV rs os
  | .own sz es :: rs, o :: os => .ref o 0 es.length :: impV rs os
  | .own sz es :: rs, [] => .x .undef :: impV rs []
def impR : List RI → List (Option Nat) → List Rt
  | [], _ => []
  | .sc v :: rs, os => impR rs os
  | .cl d :: rs, os => impR rs os
  | .own sz es :: rs, o :: os => ⟨o, sz, es⟩ :: impR rs os
  | .own sz es :: rs, [] => impR rs []
def impA : List RI → Nat → List Nat → List Nat
  | [], _, av => av
  | .own _ _ :: rs, k, av => impA rs (k + 1) (av.erase k)
  | _ :: rs, k, av => impA rs (k + 1) av
def impK : List RI → Nat → List Nat → Bool
  | [], _, _ => true
  | .own _ _ :: rs, k, av => av.contains k && impK rs (k + 1) (av.erase k)
  | _ :: rs, k, av => impK rs (k + 1) av
def nOwn : List RI → Nat
  | [] => 0
  | .own _ _ :: rs => nOwn rs + 1
  | _ :: rs => nOwn rs
theorem doWs_eq (H : Heap) (i : Nat) (k : Blk) (ws : List (Nat × Blk)) : doWs H ((i, k) :: ws) = doWs (H.set i k) ws := rfl
theorem scV_noown {H : Heap} {v : V} {sz : Nat} {es : List (List D)} (h : scV v = true) (k : VR H v (.own sz es)) : False := by
  cases v <;> simp only [VR] at k
  · subst k
    simp [scV, scal] at h
  · simp [scV] at h
  · rcases k with ⟨_, _, e⟩ | ⟨_, _, _, e⟩ <;> cases e
  · cases k
  · obtain ⟨_, e, _⟩ := k; cases e
  · simp [scV] at h
/-- Rows of a callee's that become the caller's. -/
theorem imp_ok : ∀ {Res : List RI} {xs : List D} {k : Nat} {R : List Rt} {av : List Nat} {s : St}, RIs Res xs → EnvR N E R fr b av s → impK Res k av = true →
    ∃ os, os.length = nOwn Res ∧ (∀ id ∈ (impL (b + k) xs).2.map (·.1), hat s.hp id = .fresh ∧ id < s.hp.length) ∧
      EnvR N E (R ++ impR Res os) fr b (impA Res k av) ⟨s.ts, doWs s.hp (impL (b + k) xs).2⟩ ∧ VRs [] ((impV Res os).map id) (impL (b + k) xs).1 ∧ ∀ r ∈ impR Res os, (∀ id, r.o = some id → hat s.hp id = .fresh) ∧ flatE r.es
  | [], [], k, R, av, s, _, h, _ => ⟨[], rfl, by simp [impL], by simpa [impR, impA, impL, doWs] using h, by simp [impV, impL, VRs], by simp [impR]⟩
  | r :: Res, xx :: xs, k, R, av, s, hr, h, hk => by
    obtain ⟨h1, h2⟩ := hr
    cases r with
    | sc v =>
      obtain ⟨os, o1, o2, o3, o4, o5⟩ := imp_ok (k := k + 1) h2 h (by simpa [impK] using hk)
      have hx : imp1 (b + k) xx = (xx, []) := by
        obtain ⟨hv, hx⟩ := h1
        cases xx <;> try rfl
        exact (scV_noown hv hx).elim
      refine ⟨os, by simpa [nOwn] using o1, ?_, ?_, ?_⟩
      · simpa [impL, hx, Nat.add_assoc] using o2
      · simpa [impL, hx, impR, impA, Nat.add_assoc] using o3
      · simp only [impV, List.map_cons, impL, hx, VRs]
        exact ⟨⟨h1.2, by simpa [Nat.add_assoc] using o4⟩, by simpa [impR] using o5⟩
    | cl d =>
      obtain ⟨os, o1, o2, o3, o4, o5⟩ := imp_ok (k := k + 1) h2 h (by simpa [impK] using hk)
      have hx : imp1 (b + k) xx = (xx, []) := by
        obtain ⟨_, hp, _⟩ := h1
        cases xx <;> simp [plain] at hp <;> rfl
      refine ⟨os, by simpa [nOwn] using o1, ?_, ?_, ?_⟩
      · simpa [impL, hx, Nat.add_assoc] using o2
      · simpa [impL, hx, impR, impA, Nat.add_assoc] using o3
      · simp only [impV, List.map_cons, impL, hx, VRs, id]
        exact ⟨⟨by simp only [VR]; exact Cl.plain h1.2.1 h1.2.2, by simpa [Nat.add_assoc] using o4⟩, by simpa [impR] using o5⟩
    | own sz es =>
      simp only [impK, Bool.and_eq_true] at hk
      have hmem : k ∈ av := by simpa using hk.1
      rcases h1 with ⟨rfl, rfl⟩ | ⟨es', rfl, q1, q2⟩
      · have hE : EnvR N E (R ++ [⟨none, sz, []⟩]) fr b (av.erase k) s := by
          obtain ⟨S, g1, g2, g3⟩ := h.ro
          exact ⟨h.len, h.sl, ⟨S, by simpa using g1.snoc (T := []) (.inl ⟨rfl, rfl, rfl⟩), g2, g3⟩, h.frm, h.avl.1.erase k, fun q hq => h.avl.2 q (List.mem_of_mem_erase hq)⟩
        obtain ⟨os, o1, o2, o3, o4, o5⟩ := imp_ok (k := k + 1) h2 hE hk.2
        have hx : imp1 (b + k) .nil = (.nil, []) := rfl
        refine ⟨none :: os, by simp [nOwn, o1], ?_, ?_, ?_⟩
        · simpa [impL, hx, Nat.add_assoc] using o2
        · simpa [impL, hx, impR, impA, Nat.add_assoc] using o3
        · simp only [impV, List.map_cons, impL, hx, VRs, id]
          refine ⟨⟨by simp only [VR]; exact .inr ⟨trivial, trivial, rfl, trivial⟩, by simpa [Nat.add_assoc] using o4⟩, fun r hr => ?_⟩
          simp only [impR, List.mem_cons] at hr
          rcases hr with rfl | hr
          · exact ⟨fun id e => (by cases e), fun e he => (by cases he)⟩
          · exact o5 r hr
      · have hE := h.new hmem (sz := sz) (es := es) (es' := es') (VOe.of_flat q2 (q1.mono fun _ _ _ h => by
          have hle : HLe [] s.hp := fun id sz es h => by simp [hat] at h
          exact VRs.heap hle h))
        obtain ⟨os, o1, o2, o3, o4, o5⟩ := imp_ok (k := k + 1) h2 hE hk.2
        have hx : imp1 (b + k) (.own sz es') = (.ref (b + k) 0 es'.length, [(b + k, .row sz es' true)]) := rfl
        obtain ⟨f1, f2, f3⟩ := h.avl.2 k hmem
        refine ⟨some (b + k) :: os, by simp [nOwn, o1], ?_, ?_, ?_⟩
        · intro id hid
          simp only [impL, hx, List.cons_append, List.nil_append, List.map_cons, List.mem_cons] at hid
          rcases hid with rfl | hid
          · exact ⟨f1, f2⟩
          · obtain ⟨p1, p2⟩ := o2 id (by simpa [Nat.add_assoc] using hid)
            simp only [hat_setJ f2] at p1
            split at p1
            · cases p1
            · exact ⟨p1, by simpa using p2⟩
        · simpa [impL, hx, impR, impA, Nat.add_assoc, doWs] using o3
        · simp only [impV, List.map_cons, impL, hx, VRs, id]
          refine ⟨⟨by simp only [VR]; exact .inl ⟨_, rfl, by rw [q1.len]⟩, by simpa [Nat.add_assoc] using o4⟩, fun r hr => ?_⟩
          simp only [impR, List.mem_cons] at hr
          rcases hr with rfl | hr
          · exact ⟨fun id e => (by injection e with e; subst e; exact f1), q2⟩
          · obtain ⟨z1, z2⟩ := o5 r hr
            refine ⟨fun id e => ?_, z2⟩
            have := z1 id e
            simp only [hat_setJ f2] at this
            split at this
            · cases this
            · exact this
  | [], _ :: _, _, _, _, _, h, _, _ => h.elim
  | _ :: _, [], _, _, _, _, h, _, _ => h.elim
theorem new_ids {H H' : Heap} {id : Nat} (hn : hat H id ≠ .fresh) : ∀ {R : List Rt} {T : List Nat}, (∀ r ∈ R, (∀ id, r.o = some id → hat H id = .fresh) ∧ flatE r.es) → RR H' R T → id ∉ T
  | [], T, _, h => by rw [h]; simp
  | r :: R, T, k, h => by
    obtain ⟨S1, S2, h1, h2, rfl⟩ := h
    obtain ⟨k1, k2⟩ := k r (by simp)
    have i2 := new_ids hn (fun r hr => k r (by simp [hr])) h2
    intro hm
    simp at hm
    rcases hm with hm | hm
    · rcases h1 with ⟨_, _, rfl⟩ | ⟨id', es', S', a1, a2, a3, rfl⟩
      · cases hm
      · obtain ⟨_, rfl⟩ := a3.flat k2
        simp at hm
        subst hm
        exact hn (k1 _ a1)
    · exact i2 hm
theorem hat_modifyJ {H : Heap} {i j : Nat} : hat (H.modify i freeze) j = if j = i then freeze (hat H j) else hat H j := by
  unfold hat
  rw [List.getD_eq_getElem?_getD, List.getD_eq_getElem?_getD, List.getElem?_modify]
  by_cases e : i = j
  · subst e
    simp only [if_true]
    cases H[i]? <;> rfl
  · have e' : ¬ j = i := fun h => e h.symm
    simp only [e, e', if_false]
    cases H[j]? <;> rfl
theorem modify_dead {H : Heap} {id : Nat} (h : dead H id) : H.modify id freeze = H := by
  obtain ⟨sz, es, hd⟩ := h
  refine List.ext_getElem? fun j => ?_
  rw [List.getElem?_modify]
  by_cases e : id = j
  · subst e
    simp only [if_true]
    unfold hat at hd
    rw [List.getD_eq_getElem?_getD] at hd
    cases hj : H[id]? with
    | none => rfl
    | some k =>
      rw [hj] at hd
      simp at hd
      subst hd
      rfl
  · simp only [e, if_false]
    cases H[j]? <;> rfl
theorem HLe.modify (H : Heap) (i : Nat) : HLe H (H.modify i freeze) := by
  intro j sz' es' hj
  rw [hat_modifyJ]
  split
  · rw [hj]; rfl
  · exact hj
mutual
theorem VO.uniq {H : Heap} : ∀ {v : V} {d : D} {S T : List Nat}, VO H v d S → VO H v d T → S = T
  | .x _, _, _, _, h, k => by simp only [VO] at h k; rw [h.2, k.2]
  | .c _ _, _, _, _, h, k => by simp only [VO] at h k; rw [h.2, k.2]
  | .ref _ _ _, _, _, _, h, k => by simp only [VO] at h k; rw [h.2, k.2]
  | .ptr _ _ _ _, _, _, _, h, k => by simp only [VO] at h k; rw [h.2, k.2]
  | .own sz es, d, S, T, h, k => by
    simp only [VO] at h k
    rcases h with ⟨rfl, _, rfl⟩ | ⟨id, es', S', h1, h2, h3, rfl⟩ <;> rcases k with ⟨e, _, rfl⟩ | ⟨id', es'', T', k1, k2, k3, rfl⟩
    · rfl
    · cases k1
    · rw [h1] at e; cases e
    · rw [h1] at k1
      injection k1 with k1
      subst k1
      rw [h2] at k2
      injection k2 with _ k2
      subst k2
      rw [VOe.uniq h3 k3]
  | .agg vs, _, _, _, h, _ => by simp only [VO] at h
  | .tup vs, _, _, _, h, _ => by simp only [VO] at h
theorem VOs.uniq {H : Heap} : ∀ {v : List V} {d : List D} {S T : List Nat}, VOs H v d S → VOs H v d T → S = T
  | [], [], _, _, h, k => by simp only [VOs] at h k; rw [h, k]
  | v :: vs, d :: ds, S, T, h, k => by
    simp only [VOs] at h k
    obtain ⟨S1, S2, h1, h2, rfl⟩ := h
    obtain ⟨T1, T2, k1, k2, rfl⟩ := k
    rw [VO.uniq h1 k1, VOs.uniq h2 k2]
  | [], _ :: _, _, _, h, _ => by simp [VOs] at h
  | _ :: _, [], _, _, h, _ => by simp [VOs] at h
theorem VOe.uniq {H : Heap} : ∀ {v : List (List V)} {d : List (List D)} {S T : List Nat}, VOe H v d S → VOe H v d T → S = T
  | [], [], _, _, h, k => by simp only [VOe] at h k; rw [h, k]
  | v :: vs, d :: ds, S, T, h, k => by
    simp only [VOe] at h k
    obtain ⟨S1, S2, h1, h2, rfl⟩ := h
    obtain ⟨T1, T2, k1, k2, rfl⟩ := k
    rw [VOs.uniq h1 k1, VOe.uniq h2 k2]
  | [], _ :: _, _, _, h, _ => by simp [VOe] at h
  | _ :: _, [], _, _, h, _ => by simp [VOe] at h
end
theorem RR.uniq {H : Heap} : ∀ {R : List Rt} {S T : List Nat}, RR H R S → RR H R T → S = T
  | [], _, _, h, k => by rw [h, k]
  | r :: R, S, T, h, k => by
    obtain ⟨S1, S2, h1, h2, rfl⟩ := h
    obtain ⟨T1, T2, k1, k2, rfl⟩ := k
    rw [RR.uniq h2 k2]
    congr 1
    rcases h1 with ⟨a1, a2, rfl⟩ | ⟨id, es', S', a1, a2, a3, rfl⟩ <;> rcases k1 with ⟨b1, b2, rfl⟩ | ⟨id', es'', T', b1, b2, b3, rfl⟩
    · rfl
    · rw [a1] at b1; cases b1
    · rw [a1] at b1; cases b1
    · rw [a1] at b1; injection b1 with b1; subst b1
      rw [a2] at b2; injection b2 with _ b2; subst b2
      rw [a3.uniq b3]
/-- A row that nobody owns any more. -/
def Free (fr : Nat → Option Blk) (R : List Rt) (H : Heap) (id : Nat) : Prop := dead H id ∨ (fr id = none ∧ (∃ sz es lv, hat H id = .row sz es lv) ∧ ∀ S, RR H R S → id ∉ S)
/-- Rows that were given away, and rows that are dead: they may be made dead. -/
theorem EnvR.freeze1 (h : EnvR N E R fr b av s) {id : Nat} (hid : Free fr R s.hp id) : EnvR N E R fr b av ⟨s.ts, s.hp.modify id freeze⟩ ∧ ∀ j, Free fr R s.hp j → Free fr R (s.hp.modify id freeze) j := by
  rcases hid with hd | ⟨hfr, ⟨sz, es, lv, hh⟩, h4⟩
  · rw [modify_dead hd]; exact ⟨h, fun j hj => hj⟩
  · have hst : ∀ j, j ≠ id → hat (s.hp.modify id freeze) j = hat s.hp j := fun j hj => by rw [hat_modifyJ, if_neg hj]
    have hle := HLe.modify s.hp id
    obtain ⟨S, h1, h2, h3⟩ := h.ro
    have hS := h4 S h1
    have h1' : RR (s.hp.modify id freeze) R S := h1.heap hle fun j hj => hst j (fun e => hS (e ▸ hj))
    refine ⟨⟨h.len, fun i v hv => (h.sl i v hv).heap hle, ⟨S, h1', h2, h3⟩, fun j k hk => ?_, h.avl.1, fun q hq => ?_⟩, fun j hj => ?_⟩
    · obtain ⟨q1, q2⟩ := h.frm j k hk
      have : j ≠ id := fun e => by rw [e, hfr] at hk; cases hk
      exact ⟨by rw [hst j this]; exact q1, by simpa using q2⟩
    · obtain ⟨g1, g2, g3⟩ := h.avl.2 q hq
      have : b + q ≠ id := fun e => by rw [e, hh] at g1; cases g1
      exact ⟨by rw [hst _ this]; exact g1, by simpa using g2, g3⟩
    · rcases hj with ⟨sz', es', hj⟩ | ⟨j1, ⟨sz', es', lv', j2⟩, j3⟩
      · exact .inl ⟨sz', es', hle _ _ _ hj⟩
      · refine .inr ⟨j1, ?_, fun T hT => ?_⟩
        · by_cases e : j = id
          · exact ⟨sz', es', false, by rw [hat_modifyJ, if_pos e, j2]; rfl⟩
          · exact ⟨sz', es', lv', by rw [hst j e]; exact j2⟩
        · rw [RR.uniq hT h1']; exact j3 S h1
theorem EnvR.freezeL : ∀ {ids : List Nat} {s : St}, EnvR N E R fr b av s → (∀ id ∈ ids, Free fr R s.hp id) → EnvR N E R fr b av ⟨s.ts, doFz s.hp ids⟩
  | [], s, h, _ => h
  | i :: ids, s, h, k => by
    obtain ⟨h1, h2⟩ := h.freeze1 (k i (by simp))
    exact EnvR.freezeL (s := ⟨s.ts, s.hp.modify i freeze⟩) h1 fun id hid => h2 id (k id (by simp [hid]))
end
end Go.Pi
