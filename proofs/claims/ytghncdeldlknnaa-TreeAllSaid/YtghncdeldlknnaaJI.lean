import Derived.Test.YtghncdeldlknnaaJH
/-
  CALLS: the rules.
-/
set_option linter.all false
namespace Go.Pi
set_option linter.unusedVariables false

section
variable {pr : Prog} {fr : Nat → Option Blk} {α β γ : Type} {N b : Nat} {av : List Nat} {E : Env} {R : List Rt} {m : Option α} {s : St}
variable {dst : Option Nat} {g : Option (Nat × Bool)} {aft : List Nat} {res : Nat} {ops : List PO} {Q : α → St → Prop}

def dropO : List Nat → List Rt → List Rt
  | [], R => R
  | [i], R => R.eraseIdx i
  | _, R => R
def retV (tp : Bool) (ws : List V) : V := match tp with
  | true => .tup ws
  | false => ws.headD (.x .undef)
theorem HLe.nil (H : Heap) : HLe [] H := fun id sz es h => by simp [hat] at h
theorem EnvR.dropK (h : EnvR N E R fr b av s) (i : Nat) : EnvR N E (R.eraseIdx i) fr b av s ∧ ∀ id sz es, R[i]? = some ⟨some id, sz, es⟩ → Free fr (R.eraseIdx i) s.hp id := by
  obtain ⟨S, h1, h2, h3⟩ := h.ro
  cases hr : R[i]? with
  | none =>
    have : R.eraseIdx i = R := List.eraseIdx_of_length_le (by simpa using hr)
    rw [this]; exact ⟨h, fun id sz es e => by cases e⟩
  | some r =>
    obtain ⟨S1, S2, S3, k1, rfl, k2⟩ := h1.at hr
    obtain ⟨_, g⟩ := k2 s.hp (HLe.refl _) fun _ _ => rfl
    have hsub : ∀ x ∈ S1 ++ S3, x ∈ S1 ++ S2 ++ S3 := fun x hx => by simp at hx ⊢; rcases hx with hx | hx <;> simp [hx]
    have hs : (S1 ++ S3).Sublist (S1 ++ S2 ++ S3) := by
      rw [List.append_assoc]
      exact (List.Sublist.refl _).append (List.sublist_append_right _ _)
    refine ⟨⟨h.len, h.sl, ⟨_, g, h2.sublist hs, fun id hi => h3 id (hsub id hi)⟩, h.frm, h.avl⟩, fun id sz es e => ?_⟩
    injection e with e
    subst e
    rcases k1 with ⟨e, _⟩ | ⟨id', es', S', e, hh, hv, rfl⟩
    · cases e
    · injection e with e
      subst e
      refine .inr ⟨h3 id (by simp), ⟨_, _, _, hh⟩, fun T hT hm => ?_⟩
      rw [hT.uniq g] at hm
      rw [List.nodup_append, List.nodup_append] at h2
      obtain ⟨⟨n1, n2, n3⟩, n4, n5⟩ := h2
      simp at hm
      rcases hm with hm | hm
      · exact n3 id hm id (by simp) rfl
      · exact n5 id (by simp) id hm rfl
theorem recomp_ok {tp : Bool} {d : D} {l : List D} {ws : List V} {H : Heap} (ht : tupD d = tp) (h : VRs H ws l) (hl : tp = false → l.length = 1) : VR H (retV tp ws) (recomp d l) := by
  cases tp with
  | true =>
    cases d <;> simp [tupD] at ht
    simp only [retV, recomp, VR]
    exact ⟨_, rfl, h⟩
  | false =>
    have hl' := hl rfl
    cases l with
    | nil => cases hl'
    | cons x l =>
      cases ws with
      | nil => simp [VRs] at h
      | cons w ws =>
        simp only [VRs] at h
        have : recomp d (x :: l) = x := by cases d <;> simp [tupD] at ht <;> rfl
        rw [this]
        exact h.1
theorem comps_len {d : D} (h : tupD d = false) : (comps d).length = 1 := by cases d <;> simp [tupD] at h <;> rfl
theorem expL_len {H : Heap} : ∀ {l : List D} {x : List D × List Nat × List Nat}, expL H l = some x → x.1.length = l.length
  | [], x, h => by simp only [expL, Option.some.injEq] at h; subst h; rfl
  | d :: l, x, h => by
    simp only [expL, Option.bind_eq_some_iff] at h
    obtain ⟨y, h1, z, h2, h3⟩ := h
    simp only [Option.some.injEq] at h3
    subst h3
    simp [expL_len h2]
theorem impL_len : ∀ {l : List D} {r : Nat}, (impL r l).1.length = l.length
  | [], r => rfl
  | d :: l, r => by simp [impL, impL_len (l := l)]
theorem newL_run {H : Heap} {e : Eff Out} : ∀ {is : List Nat}, (∀ i ∈ is, hat H i = .fresh ∧ i < H.length) → (newL is e).run H = e.run H
  | [], _ => rfl
  | i :: is, h => by
    obtain ⟨h1, h2⟩ := h i (by simp)
    simp only [newL, Eff.run, h1, h2, if_true]
    exact newL_run fun j hj => h j (by simp [hj])
/-- What a call comes to. -/
theorem call_run {f : Nat} {args : List (Nat × PX)} {vs : List V} {tp : Bool} {Res : List RI} {k : List Nat} (hc : CallOk pr f vs tp Res) (ha : ArgsOk N E R fr b av k args vs) (hK : impK Res res av = true) (hk1 : leB k.length 1 = true) (hd : dstOk N dst = true) (hs : EnvR N E R fr b av s) :
    ∃ n o os, os.length = nOwn Res ∧ (callE (runN pr n) (b + res) f (args.map fun p => (p.1, p.2.ev s.ts))).run s.hp = some o ∧
      EnvR N (putE E dst (retV tp (impV Res os))) (dropO k R ++ impR Res os) fr b (impA Res res av) ⟨putT s.ts dst o.d, o.on s.hp⟩ := by
  obtain ⟨ds, ids, p1, p2, p3⟩ := prep_args (j := 0) hs ha
  obtain ⟨n, d, H', r1, r2, xs, hh, rd, e1, e2, e3, e4⟩ := hc ds p2
  have hs' : EnvR N E (dropO k R) fr b av s ∧ ∀ id ∈ ids, Free fr (dropO k R) s.hp id := by
    cases k with
    | nil =>
      refine ⟨hs, fun id hid => ?_⟩
      rcases p3 id hid with h | ⟨i, sz, es, e, _⟩
      · exact .inl h
      · cases e
    | cons i k =>
      cases k with
      | nil =>
        obtain ⟨q1, q2⟩ := hs.dropK i
        refine ⟨q1, fun id hid => ?_⟩
        rcases p3 id hid with h | ⟨j, sz, es, e, hR⟩
        · exact .inl h
        · simp at e; subst e
          exact q2 id sz es hR
      | cons j k => simp [leB, Nat.ble_eq] at hk1
  obtain ⟨os, o1, o2, o3, o4, o5⟩ := imp_ok e4 hs'.1 hK
  have o4' : VRs [] (impV Res os) (impL (b + res) xs).1 := by simpa using o4
  have hfree : ∀ id ∈ ids, Free fr (dropO k R ++ impR Res os) (doWs s.hp (impL (b + res) xs).2) id := by
    intro id hid
    -- the new rows are others
    have hst : ∀ (ws : List (Nat × Blk)) (H : Heap), (∀ j ∈ ws.map (·.1), hat H j = .fresh ∧ j < H.length) → ∀ j, hat H j ≠ .fresh → hat (doWs H ws) j = hat H j := by
      intro ws
      induction ws with
      | nil => intro H _ j _; rfl
      | cons w ws ih =>
        intro H hw j hj
        obtain ⟨w1, w2⟩ := hw w.1 (by simp)
        have hne : j ≠ w.1 := fun e => hj (e ▸ w1)
        have hat1 : hat (H.set w.1 w.2) j = hat H j := by rw [hat_setJ w2, if_neg hne]
        by_cases hall : ∀ j' ∈ ws.map (·.1), hat (H.set w.1 w.2) j' = .fresh ∧ j' < (H.set w.1 w.2).length
        · have := ih (H.set w.1 w.2) hall j (by rw [hat1]; exact hj)
          show hat (doWs (H.set w.1 w.2) ws) j = _
          rw [this, hat1]
        · -- places may repeat; then still others
          show hat (doWs (H.set w.1 w.2) ws) j = _
          have gen : ∀ (ws : List (Nat × Blk)) (H : Heap), (∀ j' ∈ ws.map (·.1), j ≠ j') → hat (doWs H ws) j = hat H j := by
            intro ws
            induction ws with
            | nil => intro H _; rfl
            | cons u us ihu =>
              intro H hu
              show hat (doWs (H.set u.1 u.2) us) j = _
              rw [ihu (H.set u.1 u.2) fun j' hj' => hu j' (by simp at hj' ⊢; exact .inr hj')]
              unfold hat
              rw [List.getD_eq_getElem?_getD, List.getD_eq_getElem?_getD, List.getElem?_set_ne (fun e => hu u.1 (by simp) e.symm)]
          rw [gen ws _ (fun j' hj' e => hj (by rw [e]; exact (hw j' (by simp at hj' ⊢; exact .inr hj')).1)), hat1]
    rcases hs'.2 id hid with ⟨sz, es, hdd⟩ | ⟨q1, ⟨sz, es, lv, q2⟩, q3⟩
    · exact .inl ⟨sz, es, by rw [hst _ _ o2 id (by rw [hdd]; intro e; cases e)]; exact hdd⟩
    · refine .inr ⟨q1, ⟨sz, es, lv, by rw [hst _ _ o2 id (by rw [q2]; intro e; cases e)]; exact q2⟩, fun T hT hm => ?_⟩
      obtain ⟨S, g1, g2, g3⟩ := hs'.1.ro
      -- the rows of the old ones, and the new ones
      have spl : ∀ {R1 R2 : List Rt} {H : Heap} {T : List Nat}, RR H (R1 ++ R2) T → ∃ T1 T2, RR H R1 T1 ∧ RR H R2 T2 ∧ T = T1 ++ T2 := by
        intro R1
        induction R1 with
        | nil => intro R2 H T h; exact ⟨[], T, rfl, h, rfl⟩
        | cons r R1 ih =>
          intro R2 H T h
          obtain ⟨A, B, a1, a2, rfl⟩ := h
          obtain ⟨T1, T2, b1, b2, rfl⟩ := ih a2
          exact ⟨A ++ T1, T2, ⟨A, T1, a1, b1, rfl⟩, b2, by simp⟩
      obtain ⟨T1, T2, t1, t2, rfl⟩ := spl hT
      have hle : HLe s.hp (doWs s.hp (impL (b + res) xs).2) := fun j sz es hj => by rw [hst _ _ o2 j (by rw [hj]; intro e; cases e)]; exact hj
      have t1' : RR (doWs s.hp (impL (b + res) xs).2) (dropO k R) S := g1.heap hle fun j hj => by
        obtain ⟨_, _, a⟩ := g1.alive j hj
        exact hst _ _ o2 j (by rw [a]; intro e; cases e)
      rw [t1.uniq t1'] at hm
      simp at hm
      rcases hm with hm | hm
      · exact q3 S g1 hm
      · -- the new rows were fresh
        exact new_ids (by rw [q2]; intro e; cases e) o5 t2 hm
  have o3' : EnvR N (putE E dst (retV tp (impV Res os))) (dropO k R ++ impR Res os) fr b (impA Res res av) ⟨putT s.ts dst (recomp d (impL (b + res) xs).1), doWs s.hp (impL (b + res) xs).2⟩ :=
    o3.put hd (recomp_ok r2 (o4'.heap (HLe.nil _)) (fun ht => by rw [impL_len, expL_len e1, comps_len (by rw [r2, ht])]))
  refine ⟨n, ⟨recomp d (impL (b + res) xs).1, (impL (b + res) xs).2, if xs.all scalV then [] else ids⟩, os, o1, ?_, ?_⟩
  · simp only [callE, run_bindE, p1, Option.bind_some, List.map_nil, nodup, apart, List.all_nil, Bool.and_self, if_true, r1, finish, e1, expB, boxKs]
    simp only [e2, List.isEmpty_nil, Bool.true_and, List.nil_append]
    have h1 : (hh.all fun x => !rd.contains x) = true := e3
    have h2 : (hh.all fun x => !([] : List Nat).contains x) = true := by simp
    simp only [h1, h2, Bool.and_self, if_true]
    rw [newL_run o2]
    rfl
  · show EnvR _ _ _ _ _ _ ⟨_, doFz (doWs s.hp _) _⟩
    split
    · exact o3'
    · exact EnvR.freezeL o3' hfree
theorem step_call {f : Nat} {args : List (Nat × PX)} {n : Nat} {o : Out} (hg : guardOk s.ts g = true) (hw : wantedP s.ts g = true) (h : (callE (runN pr n) (b + res) f (args.map fun p => (p.1, p.2.ev s.ts))).run s.hp = some o) :
    stepO (runN pr n) b ⟨dst, .call f args, g, aft, res⟩ s = some ⟨putT s.ts dst o.d, o.on s.hp⟩ := by
  unfold stepO
  simp only [hg, hw, if_true, opE, h, Option.map_some]
theorem step_callQ {f : Nat} {args : List (Nat × PX)} {n : Nat} {o : Out} (hg : guardOk s.ts g = true) (hw : wantedP s.ts g = true) (h : (callE (runN pr n) (b + res) f (args.map fun p => (p.1, p.2.ev s.ts))).run s.hp = some o) (h1 : o.ws = []) (h2 : o.fz = []) :
    stepO (runN pr n) b ⟨dst, .callQ f args, g, aft, res⟩ s = some ⟨putT s.ts dst o.d, o.on s.hp⟩ := by
  unfold stepO
  simp only [hg, hw, if_true, opE, run_bindE, h, Option.bind_some, h1, h2, List.isEmpty_nil, Bool.and_self, Eff.run, Option.map_some]
def allSc : List RI → Bool
  | [] => true
  | .sc _ :: rs => allSc rs
  | _ => false
theorem allSc_iff : ∀ {Res : List RI}, allSc Res = true → (∀ r ∈ Res, ∃ v, r = .sc v) ∧ (∀ os, impR Res os = []) ∧ (∀ k av, impA Res k av = av) ∧ (∀ k av, impK Res k av = true) ∧ nOwn Res = 0
  | [], _ => ⟨by simp, fun _ => rfl, fun _ _ => rfl, fun _ _ => rfl, rfl⟩
  | .sc v :: rs, h => by
    obtain ⟨h1, h2, h3, h4, h5⟩ := allSc_iff (Res := rs) h
    refine ⟨fun r hr => ?_, fun os => h2 os, fun k av => h3 _ _, fun k av => h4 _ _, h5⟩
    simp at hr
    rcases hr with rfl | hr
    · exact ⟨v, rfl⟩
    · exact h1 r hr
  | .cl _ :: _, h => by simp [allSc] at h
  | .own _ _ :: _, h => by simp [allSc] at h
/-- Elements that are no more than numbers and the like. -/
def scX : V → Bool
  | .x d => scal d
  | _ => false
def ScE (es : List (List V)) : Prop := ∀ e ∈ es, e.all scX = true
theorem vl_sc {c : β → List D} {l : List β} (hc : ∀ a, (cv c a).all scX = true) : ScE (vl c l) := by
  intro e he
  simp only [vl, List.mem_map] at he
  obtain ⟨a, _, rfl⟩ := he
  exact hc a
/-- Results in which nothing of the arguments can be. -/
def keepsP : List RI → Prop
  | [] => True
  | .sc _ :: rs => keepsP rs
  | .own _ es :: rs => ScE es ∧ keepsP rs
  | .cl _ :: _ => False
theorem scX_scal {v : V} {x : D} (h : scX v = true) (k : VR [] v x) : scal x = true := by
  cases v <;> simp only [scX] at h
  · simp only [VR] at k; rw [k]; exact h
  all_goals cases h
theorem scXs_scal : ∀ {vs : List V} {xs : List D}, vs.all scX = true → VRs [] vs xs → xs.all scal = true
  | [], [], _, _ => rfl
  | v :: vs, x :: xs, h, k => by
    simp only [VRs] at k
    simp only [List.all_cons, Bool.and_eq_true] at h ⊢
    exact ⟨scX_scal h.1 k.1, scXs_scal h.2 k.2⟩
  | [], _ :: _, _, k => by simp [VRs] at k
  | _ :: _, [], _, k => by simp [VRs] at k
theorem ScE_scal : ∀ {es : List (List V)} {xs : List (List D)}, ScE es → All2 (VRs []) es xs → (xs.all fun e => e.all scal) = true
  | [], [], _, _ => rfl
  | e :: es, x :: xs, h, k => by
    simp only [List.all_cons, Bool.and_eq_true]
    exact ⟨scXs_scal (h e (by simp)) k.1, ScE_scal (fun e he => h e (by simp [he])) k.2⟩
  | [], _ :: _, _, k => k.elim
  | _ :: _, [], _, k => k.elim
theorem scV_scalV {v : V} {x : D} (hv : scV v = true) (hx : VR [] v x) : scalV x = true := by
  cases v <;> simp only [scV, VR] at hv hx
  · subst hx
    simp only [Bool.and_eq_true] at hv
    have := hv.1
    cases x <;> simp [scal] at this <;> rfl
  case agg vs =>
    obtain ⟨ds, rfl, k⟩ := hx
    have h' : vs.all scX = true := by
      simp only [List.all_eq_true] at hv ⊢
      intro v hvm
      have := hv v hvm
      cases v <;> simp at this <;> exact this
    exact scXs_scal h' k
  all_goals cases hv
theorem keeps_scal : ∀ {Res : List RI} {xs : List D}, keepsP Res → RIs Res xs → xs.all scalV = true
  | [], [], _, _ => rfl
  | .sc v :: rs, x :: xs, h, k => by
    simp only [List.all_cons, Bool.and_eq_true]
    exact ⟨scV_scalV k.1.1 k.1.2, keeps_scal (Res := rs) h k.2⟩
  | .own sz es :: rs, x :: xs, h, k => by
    simp only [List.all_cons, Bool.and_eq_true]
    refine ⟨?_, keeps_scal (Res := rs) h.2 k.2⟩
    rcases k.1 with ⟨rfl, _⟩ | ⟨es', rfl, q1, _⟩
    · rfl
    · exact ScE_scal h.1 q1
  | .cl _ :: _, _ :: _, h, _ => h.elim
  | [], _ :: _, _, k => k.elim
  | _ :: _, [], _, k => k.elim
theorem impL_sc : ∀ {Res : List RI} {xs : List D} {r : Nat}, allSc Res = true → RIs Res xs → (impL r xs).2 = []
  | [], [], _, _, _ => rfl
  | .sc v :: rs, x :: xs, r, h, k => by
    obtain ⟨hv, hx⟩ := k.1
    have hx1 : imp1 r x = (x, []) := by
      cases x <;> try rfl
      exact (scV_noown hv hx).elim
    simp [impL, hx1, impL_sc (Res := rs) (r := r + 1) h k.2]
  | .own _ _ :: _, _ :: _, _, h, _ => by simp [allSc] at h
  | .cl _ :: _, _ :: _, _, h, _ => by simp [allSc] at h
  | [], _ :: _, _, _, k => k.elim
  | _ :: _, [], _, _, k => k.elim
theorem allSc_keeps : ∀ {Res : List RI}, allSc Res = true → keepsP Res
  | [], _ => trivial
  | .sc v :: rs, h => allSc_keeps (Res := rs) h
  | .own _ _ :: _, h => by simp [allSc] at h
  | .cl _ :: _, h => by simp [allSc] at h
theorem call_runK {f : Nat} {args : List (Nat × PX)} {vs : List V} {tp : Bool} {Res : List RI} {k : List Nat} (hc : CallOk pr f vs tp Res) (ha : ArgsOk N E R fr b av k args vs) (hK : impK Res res av = true) (hd : dstOk N dst = true) (hk : keepsP Res) (hs : EnvR N E R fr b av s) :
    ∃ n o os, os.length = nOwn Res ∧ (callE (runN pr n) (b + res) f (args.map fun p => (p.1, p.2.ev s.ts))).run s.hp = some o ∧
      EnvR N (putE E dst (retV tp (impV Res os))) (R ++ impR Res os) fr b (impA Res res av) ⟨putT s.ts dst o.d, o.on s.hp⟩ ∧ o.fz = [] ∧ (allSc Res = true → o.ws = []) := by
  obtain ⟨ds, ids, p1, p2, p3⟩ := prep_args (j := 0) hs ha
  obtain ⟨n, d, H', r1, r2, xs, hh, rd, e1, e2, e3, e4⟩ := hc ds p2
  obtain ⟨os, o1, o2, o3, o4, o5⟩ := imp_ok e4 hs hK
  have o4' : VRs [] (impV Res os) (impL (b + res) xs).1 := by simpa using o4
  have o3' : EnvR N (putE E dst (retV tp (impV Res os))) (R ++ impR Res os) fr b (impA Res res av) ⟨putT s.ts dst (recomp d (impL (b + res) xs).1), doWs s.hp (impL (b + res) xs).2⟩ :=
    o3.put hd (recomp_ok r2 (o4'.heap (HLe.nil _)) (fun ht => by rw [impL_len, expL_len e1, comps_len (by rw [r2, ht])]))
  refine ⟨n, ⟨recomp d (impL (b + res) xs).1, (impL (b + res) xs).2, []⟩, os, o1, ?_, o3', rfl, fun h => impL_sc h e4⟩
  simp only [callE, run_bindE, p1, Option.bind_some, List.map_nil, nodup, apart, List.all_nil, Bool.and_self, if_true, r1, finish, e1, expB, boxKs]
  simp only [e2, List.isEmpty_nil, Bool.true_and, List.nil_append, keeps_scal hk e4, if_true]
  have h1 : (hh.all fun x => !rd.contains x) = true := e3
  have h2 : (hh.all fun x => !([] : List Nat).contains x) = true := by simp
  simp only [h1, h2, Bool.and_self, if_true]
  rw [newL_run o2]
  rfl
/-- A call whose results are no rows. -/
theorem JS.callS {f : Nat} {args : List (Nat × PX)} {vs : List V} {tp : Bool} {Res : List RI} (k : List Nat) (hc : CallOk pr f vs tp Res) (ha : ArgsOk N E R fr b av k args vs) (hsc : allSc Res = true) (hg : gst E g = some true) (hd : dstOk N dst = true)
    (h : JS pr fr b av N (putE E dst (retV tp (impV Res []))) R ops m Q) : JS pr fr b av N E R (⟨dst, .call f args, g, aft, res⟩ :: ops) m Q := by
  intro a hm s hs
  obtain ⟨g1, g2⟩ := gst_true hs hg
  obtain ⟨h1, h2, h3, h4, h5⟩ := allSc_iff hsc
  obtain ⟨n, o, os, o1, o2, o3, q2, q1⟩ := call_runK (k := k) hc ha (h4 res av) hd (allSc_keeps hsc) hs
  have q1 := q1 hsc
  have : os = [] := List.length_eq_zero_iff.1 (by rw [o1, h5])
  subst this
  have hon : o.on s.hp = s.hp := by unfold Out.on; rw [q1, q2]; rfl
  refine Steps.cons (step_call g1 g2 o2) (h a hm _ ?_)
  rw [h2, h3, List.append_nil] at o3
  exact o3
theorem JS.callQS {f : Nat} {args : List (Nat × PX)} {vs : List V} {tp : Bool} {Res : List RI} (k : List Nat) (hc : CallOk pr f vs tp Res) (ha : ArgsOk N E R fr b av k args vs) (hsc : allSc Res = true) (hg : gst E g = some true) (hd : dstOk N dst = true)
    (h : JS pr fr b av N (putE E dst (retV tp (impV Res []))) R ops m Q) : JS pr fr b av N E R (⟨dst, .callQ f args, g, aft, res⟩ :: ops) m Q := by
  intro a hm s hs
  obtain ⟨g1, g2⟩ := gst_true hs hg
  obtain ⟨h1, h2, h3, h4, h5⟩ := allSc_iff hsc
  obtain ⟨n, o, os, o1, o2, o3, q2, q1⟩ := call_runK (k := k) hc ha (h4 res av) hd (allSc_keeps hsc) hs
  have q1 := q1 hsc
  have : os = [] := List.length_eq_zero_iff.1 (by rw [o1, h5])
  subst this
  have hon : o.on s.hp = s.hp := by unfold Out.on; rw [q1, q2]; rfl
  refine Steps.cons (step_callQ g1 g2 o2 q1 q2) (h a hm _ ?_)
  rw [h2, h3, List.append_nil] at o3
  exact o3
/-- A call that hands over one row. -/
theorem JS.call1 {f : Nat} {args : List (Nat × PX)} {vs : List V} {tp : Bool} {Res : List RI} (k : List Nat) (hc : CallOk pr f vs tp Res) (ha : ArgsOk N E R fr b av k args vs) (hk1 : leB k.length 1 = true) (hK : impK Res res av = true) (hn : nOwn Res = 1) (hg : gst E g = some true) (hd : dstOk N dst = true)
    (h : ∀ o, JS pr fr b (impA Res res av) N (putE E dst (retV tp (impV Res [o]))) (dropO k R ++ impR Res [o]) ops m Q) : JS pr fr b av N E R (⟨dst, .call f args, g, aft, res⟩ :: ops) m Q := by
  intro a hm s hs
  obtain ⟨g1, g2⟩ := gst_true hs hg
  obtain ⟨n, o, os, o1, o2, o3⟩ := call_run (k := k) hc ha hK hk1 hd hs
  obtain ⟨o', rfl⟩ : ∃ o', os = [o'] := List.length_eq_one_iff.1 (by rw [o1, hn])
  exact Steps.cons (step_call g1 g2 o2) (h o' a hm _ o3)
theorem JS.call0 {f : Nat} {args : List (Nat × PX)} {vs : List V} {tp : Bool} {Res : List RI} (k : List Nat) (hc : CallOk pr f vs tp Res) (ha : ArgsOk N E R fr b av k args vs) (hk1 : leB k.length 1 = true) (hK : impK Res res av = true) (hn : nOwn Res = 0) (hg : gst E g = some true) (hd : dstOk N dst = true)
    (h : JS pr fr b (impA Res res av) N (putE E dst (retV tp (impV Res []))) (dropO k R ++ impR Res []) ops m Q) : JS pr fr b av N E R (⟨dst, .call f args, g, aft, res⟩ :: ops) m Q := by
  intro a hm s hs
  obtain ⟨g1, g2⟩ := gst_true hs hg
  obtain ⟨n, o, os, o1, o2, o3⟩ := call_run (k := k) hc ha hK hk1 hd hs
  have : os = [] := List.length_eq_zero_iff.1 (by rw [o1, hn])
  subst this
  exact Steps.cons (step_call g1 g2 o2) (h a hm _ o3)
theorem JS.call2 {f : Nat} {args : List (Nat × PX)} {vs : List V} {tp : Bool} {Res : List RI} (k : List Nat) (hc : CallOk pr f vs tp Res) (ha : ArgsOk N E R fr b av k args vs) (hk1 : leB k.length 1 = true) (hK : impK Res res av = true) (hn : nOwn Res = 2) (hg : gst E g = some true) (hd : dstOk N dst = true)
    (h : ∀ o o', JS pr fr b (impA Res res av) N (putE E dst (retV tp (impV Res [o, o']))) (dropO k R ++ impR Res [o, o']) ops m Q) : JS pr fr b av N E R (⟨dst, .call f args, g, aft, res⟩ :: ops) m Q := by
  intro a hm s hs
  obtain ⟨g1, g2⟩ := gst_true hs hg
  obtain ⟨n, o, os, o1, o2, o3⟩ := call_run (k := k) hc ha hK hk1 hd hs
  obtain ⟨o', o'', rfl⟩ : ∃ o' o'', os = [o', o''] := by
    rw [hn] at o1
    cases os with
    | nil => cases o1
    | cons x os => cases os with
      | nil => cases o1
      | cons y os => cases os with
        | nil => exact ⟨x, y, rfl⟩
        | cons => simp at o1
  exact Steps.cons (step_call g1 g2 o2) (h o' o'' a hm _ o3)
theorem JS.callK0 {f : Nat} {args : List (Nat × PX)} {vs : List V} {tp : Bool} {Res : List RI} (k : List Nat) (hc : CallOk pr f vs tp Res) (ha : ArgsOk N E R fr b av k args vs) (hkp : keepsP Res) (hK : impK Res res av = true) (hn : nOwn Res = 0) (hg : gst E g = some true) (hd : dstOk N dst = true)
    (h : JS pr fr b (impA Res res av) N (putE E dst (retV tp (impV Res []))) (R ++ impR Res []) ops m Q) : JS pr fr b av N E R (⟨dst, .call f args, g, aft, res⟩ :: ops) m Q := by
  intro a hm s hs
  obtain ⟨g1, g2⟩ := gst_true hs hg
  obtain ⟨n, o, os, o1, o2, o3, _⟩ := call_runK (k := k) hc ha hK hd hkp hs
  have : os = [] := List.length_eq_zero_iff.1 (by rw [o1, hn])
  subst this
  exact Steps.cons (step_call g1 g2 o2) (h a hm _ o3)
theorem JS.callK1 {f : Nat} {args : List (Nat × PX)} {vs : List V} {tp : Bool} {Res : List RI} (k : List Nat) (hc : CallOk pr f vs tp Res) (ha : ArgsOk N E R fr b av k args vs) (hkp : keepsP Res) (hK : impK Res res av = true) (hn : nOwn Res = 1) (hg : gst E g = some true) (hd : dstOk N dst = true)
    (h : ∀ o, JS pr fr b (impA Res res av) N (putE E dst (retV tp (impV Res [o]))) (R ++ impR Res [o]) ops m Q) : JS pr fr b av N E R (⟨dst, .call f args, g, aft, res⟩ :: ops) m Q := by
  intro a hm s hs
  obtain ⟨g1, g2⟩ := gst_true hs hg
  obtain ⟨n, o, os, o1, o2, o3, _⟩ := call_runK (k := k) hc ha hK hd hkp hs
  obtain ⟨o', rfl⟩ : ∃ o', os = [o'] := List.length_eq_one_iff.1 (by rw [o1, hn])
  exact Steps.cons (step_call g1 g2 o2) (h o' a hm _ o3)
theorem JS.callK2 {f : Nat} {args : List (Nat × PX)} {vs : List V} {tp : Bool} {Res : List RI} (k : List Nat) (hc : CallOk pr f vs tp Res) (ha : ArgsOk N E R fr b av k args vs) (hkp : keepsP Res) (hK : impK Res res av = true) (hn : nOwn Res = 2) (hg : gst E g = some true) (hd : dstOk N dst = true)
    (h : ∀ o o', JS pr fr b (impA Res res av) N (putE E dst (retV tp (impV Res [o, o']))) (R ++ impR Res [o, o']) ops m Q) : JS pr fr b av N E R (⟨dst, .call f args, g, aft, res⟩ :: ops) m Q := by
  intro a hm s hs
  obtain ⟨g1, g2⟩ := gst_true hs hg
  obtain ⟨n, o, os, o1, o2, o3, _⟩ := call_runK (k := k) hc ha hK hd hkp hs
  obtain ⟨o', o'', rfl⟩ : ∃ o' o'', os = [o', o''] := by
    rw [hn] at o1
    cases os with
    | nil => cases o1
    | cons x os => cases os with
      | nil => cases o1
      | cons y os => cases os with
        | nil => exact ⟨x, y, rfl⟩
        | cons => simp at o1
  exact Steps.cons (step_call g1 g2 o2) (h o' o'' a hm _ o3)
end
end Go.Pi
