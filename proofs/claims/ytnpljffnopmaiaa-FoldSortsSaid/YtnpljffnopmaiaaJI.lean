import Derived.Test.YtnpljffnopmaiaaJE
import Derived.Test.YtnpljffnopmaiaaPF
/-
  CALLS: the rules.
-/
set_option linter.all false
namespace Go.Pi
set_option linter.unusedVariables false

section
variable {pr : Prog} {fr : Nat → Option Blk} {α β γ : Type} {N b : Nat} {av : List Nat} {E : Env} {R : List Rt} {m : Option α} {s : St}
variable {dst : Option Nat} {g : Option (Nat × Bool)} {aft : List Nat} {res : Nat} {ops : List PO} {Q : α → St → Prop}

def dropO : List Nat → List Rt → List Rt
  | [], R => R
  | [i], R => R.eraseIdx i
  | _, R => R
def retV (tp : Bool) (ws : List V) : V := match tp with
  | true => .tup ws
  | false => ws.headD (.x .undef)
theorem HLe.nil (H : Heap) : HLe [] H := fun id sz es h => by simp [hat] at h
theorem EnvR.dropK (h : EnvR N E R fr b av s) (i : Nat) : EnvR N E (R.eraseIdx i) fr b av s ∧ ∀ id r S, R[i]? = some r → RootR s.hp r S → id ∈ S → Free fr (R.eraseIdx i) s.hp id := by
  obtain ⟨S, h1, h2, h3⟩ := h.ro
  cases hr : R[i]? with
  | none =>
    have : R.eraseIdx i = R := List.eraseIdx_of_length_le (by simpa using hr)
    rw [this]; exact ⟨h, fun id r S e => by cases e⟩
  | some r =>
    obtain ⟨S1, S2, S3, k1, rfl, k2⟩ := h1.at hr
    obtain ⟨_, g⟩ := k2 s.hp (HLe.refl _) fun _ _ => rfl
    have hsub : ∀ x ∈ S1 ++ S3, x ∈ S1 ++ S2 ++ S3 := fun x hx => by simp at hx ⊢; rcases hx with hx | hx <;> simp [hx]
    have hs : (S1 ++ S3).Sublist (S1 ++ S2 ++ S3) := by
      rw [List.append_assoc]
      exact (List.Sublist.refl _).append (List.sublist_append_right _ _)
    refine ⟨⟨h.len, h.sl, ⟨_, g, h2.sublist hs, fun id hi => h3 id (hsub id hi)⟩, h.frm, h.avl⟩, fun id r' T' e hT' hid => ?_⟩
    injection e with e
    subst e
    have := hT'.uniq k1
    subst this
    obtain ⟨_, _, hh⟩ := k1.alive id hid
    refine .inr ⟨h3 id (by simp [hid]), ⟨_, _, _, hh⟩, fun T hT hm => ?_⟩
    rw [hT.uniq g] at hm
    rw [List.nodup_append, List.nodup_append] at h2
    obtain ⟨⟨n1, n2, n3⟩, n4, n5⟩ := h2
    simp at hm
    rcases hm with hm | hm
    · exact n3 id hm id hid rfl
    · exact n5 id (by simp [hid]) id hm rfl
theorem recomp_ok {tp : Bool} {d : D} {l : List D} {ws : List V} {H : Heap} (ht : tupD d = tp) (h : VRs H ws l) (hl : tp = false → l.length = 1) : VR H (retV tp ws) (recomp d l) := by
  cases tp with
  | true =>
    cases d <;> simp [tupD] at ht
    simp only [retV, recomp, VR]
    exact ⟨_, rfl, h⟩
  | false =>
    have hl' := hl rfl
    cases l with
    | nil => cases hl'
    | cons x l =>
      cases ws with
      | nil => simp [VRs] at h
      | cons w ws =>
        simp only [VRs] at h
        have : recomp d (x :: l) = x := by cases d <;> simp [tupD] at ht <;> rfl
        rw [this]
        exact h.1
theorem comps_len {d : D} (h : tupD d = false) : (comps d).length = 1 := by cases d <;> simp [tupD] at h <;> rfl
theorem expL_len {H : Heap} : ∀ {l : List D} {x : List D × List Nat × List Nat}, expL H l = some x → x.1.length = l.length
  | [], x, h => by simp only [expL, Option.some.injEq] at h; subst h; rfl
  | d :: l, x, h => by
    simp only [expL, Option.bind_eq_some_iff] at h
    obtain ⟨y, h1, z, h2, h3⟩ := h
    simp only [Option.some.injEq] at h3
    subst h3
    simp [expL_len h2]
theorem impL_len : ∀ {l : List D} {r : Nat}, (impL r l).1.length = l.length
  | [], r => rfl
  | d :: l, r => by simp [impL, impL_len (l := l)]
theorem newL_run {H : Heap} {e : Eff Out} : ∀ {is : List Nat}, (∀ i ∈ is, hat H i = .fresh ∧ i < H.length) → (newL is e).run H = e.run H
  | [], _ => rfl
  | i :: is, h => by
    obtain ⟨h1, h2⟩ := h i (by simp)
    simp only [newL, Eff.run, h1, h2, if_true]
    exact newL_run fun j hj => h j (by simp [hj])
/-- What a call comes to. -/
theorem call_run {f : Nat} {args : List (Nat × PX)} {vs : List V} {tp : Bool} {Res : List RI} {k : List Nat} (hc : CallOk pr f vs tp Res) (ha : ArgsOk N E R fr b av k args vs) (hK : impK Res res av = true) (hk1 : leB k.length 1 = true) (hd : dstOk N dst = true) (hs : EnvR N E R fr b av s) :
    ∃ n o os, os.length = nOwn Res ∧ (callE (runN pr n) (b + res) f (args.map fun p => (p.1, p.2.ev s.ts))).run s.hp = some o ∧
      EnvR N (putE E dst (retV tp (impV Res os))) (dropO k R ++ impR Res os) fr b (impA Res res av) ⟨putT s.ts dst o.d, o.on s.hp⟩ := by
  obtain ⟨ds, ids, p1, p2, p3⟩ := prep_args (j := 0) hs ha
  obtain ⟨n, d, H', r1, r2, xs, hh, rd, e1, e2, e3, e4⟩ := hc ds p2
  have hs' : EnvR N E (dropO k R) fr b av s ∧ ∀ id ∈ ids, Free fr (dropO k R) s.hp id := by
    cases k with
    | nil =>
      refine ⟨hs, fun id hid => ?_⟩
      rcases p3 id hid with h | ⟨i, r, S, e, _⟩
      · exact .inl h
      · cases e
    | cons i k =>
      cases k with
      | nil =>
        obtain ⟨q1, q2⟩ := hs.dropK i
        refine ⟨q1, fun id hid => ?_⟩
        rcases p3 id hid with h | ⟨j, r, S, e, hR, hT, hm⟩
        · exact .inl h
        · simp at e; subst e
          exact q2 id r S hR hT hm
      | cons j k => simp [leB, Nat.ble_eq] at hk1
  obtain ⟨os, o1, o2, o3, o4, o5⟩ := imp_ok e4 hs'.1 hK
  have o4' : VRs [] (impV Res os) (impL (b + res) xs).1 := by simpa using o4
  have hfree : ∀ id ∈ ids, Free fr (dropO k R ++ impR Res os) (doWs s.hp (impL (b + res) xs).2) id := by
    intro id hid
    -- the new rows are others
    have hst : ∀ (ws : List (Nat × Blk)) (H : Heap), (∀ j ∈ ws.map (·.1), hat H j = .fresh ∧ j < H.length) → ∀ j, hat H j ≠ .fresh → hat (doWs H ws) j = hat H j := by
      intro ws
      induction ws with
      | nil => intro H _ j _; rfl
      | cons w ws ih =>
        intro H hw j hj
        obtain ⟨w1, w2⟩ := hw w.1 (by simp)
        have hne : j ≠ w.1 := fun e => hj (e ▸ w1)
        have hat1 : hat (H.set w.1 w.2) j = hat H j := by rw [hat_setJ w2, if_neg hne]
        by_cases hall : ∀ j' ∈ ws.map (·.1), hat (H.set w.1 w.2) j' = .fresh ∧ j' < (H.set w.1 w.2).length
        · have := ih (H.set w.1 w.2) hall j (by rw [hat1]; exact hj)
          show hat (doWs (H.set w.1 w.2) ws) j = _
          rw [this, hat1]
        · -- places may repeat; then still others
          show hat (doWs (H.set w.1 w.2) ws) j = _
          have gen : ∀ (ws : List (Nat × Blk)) (H : Heap), (∀ j' ∈ ws.map (·.1), j ≠ j') → hat (doWs H ws) j = hat H j := by
            intro ws
            induction ws with
            | nil => intro H _; rfl
            | cons u us ihu =>
              intro H hu
              show hat (doWs (H.set u.1 u.2) us) j = _
              rw [ihu (H.set u.1 u.2) fun j' hj' => hu j' (by simp at hj' ⊢; exact .inr hj')]
              unfold hat
              rw [List.getD_eq_getElem?_getD, List.getD_eq_getElem?_getD, List.getElem?_set_ne (fun e => hu u.1 (by simp) e.symm)]
          rw [gen ws _ (fun j' hj' e => hj (by rw [e]; exact (hw j' (by simp at hj' ⊢; exact .inr hj')).1)), hat1]
    rcases hs'.2 id hid with ⟨sz, es, hdd⟩ | ⟨q1, ⟨sz, es, lv, q2⟩, q3⟩
    · exact .inl ⟨sz, es, by rw [hst _ _ o2 id (by rw [hdd]; intro e; cases e)]; exact hdd⟩
    · refine .inr ⟨q1, ⟨sz, es, lv, by rw [hst _ _ o2 id (by rw [q2]; intro e; cases e)]; exact q2⟩, fun T hT hm => ?_⟩
      obtain ⟨S, g1, g2, g3⟩ := hs'.1.ro
      -- the rows of the old ones, and the new ones
      have spl : ∀ {R1 R2 : List Rt} {H : Heap} {T : List Nat}, RR H (R1 ++ R2) T → ∃ T1 T2, RR H R1 T1 ∧ RR H R2 T2 ∧ T = T1 ++ T2 := by
        intro R1
        induction R1 with
        | nil => intro R2 H T h; exact ⟨[], T, rfl, h, rfl⟩
        | cons r R1 ih =>
          intro R2 H T h
          obtain ⟨A, B, a1, a2, rfl⟩ := h
          obtain ⟨T1, T2, b1, b2, rfl⟩ := ih a2
          exact ⟨A ++ T1, T2, ⟨A, T1, a1, b1, rfl⟩, b2, by simp⟩
      obtain ⟨T1, T2, t1, t2, rfl⟩ := spl hT
      have hle : HLe s.hp (doWs s.hp (impL (b + res) xs).2) := fun j sz es hj => by rw [hst _ _ o2 j (by rw [hj]; intro e; cases e)]; exact hj
      have t1' : RR (doWs s.hp (impL (b + res) xs).2) (dropO k R) S := g1.heap hle fun j hj => by
        obtain ⟨_, _, a⟩ := g1.alive j hj
        exact hst _ _ o2 j (by rw [a]; intro e; cases e)
      rw [t1.uniq t1'] at hm
      simp at hm
      rcases hm with hm | hm
      · exact q3 S g1 hm
      · -- the new rows were fresh
        exact new_ids (by rw [q2]; intro e; cases e) o5 t2 hm
  have o3' : EnvR N (putE E dst (retV tp (impV Res os))) (dropO k R ++ impR Res os) fr b (impA Res res av) ⟨putT s.ts dst (recomp d (impL (b + res) xs).1), doWs s.hp (impL (b + res) xs).2⟩ :=
    o3.put hd (recomp_ok r2 (o4'.heap (HLe.nil _)) (fun ht => by rw [impL_len, expL_len e1, comps_len (by rw [r2, ht])]))
  refine ⟨n, ⟨recomp d (impL (b + res) xs).1, (impL (b + res) xs).2, if xs.all scalV then [] else ids⟩, os, o1, ?_, ?_⟩
  · simp only [callE, run_bindE, p1, Option.bind_some, List.map_nil, nodup, apart, List.all_nil, Bool.and_self, if_true, r1, finish, e1, expB, boxKs]
    simp only [e2, List.isEmpty_nil, Bool.true_and, List.nil_append]
    have h1 : (hh.all fun x => !rd.contains x) = true := e3
    have h2 : (hh.all fun x => !([] : List Nat).contains x) = true := by simp
    simp only [h1, h2, Bool.and_self, if_true]
    rw [newL_run o2]
    rfl
  · show EnvR _ _ _ _ _ _ ⟨_, doFz (doWs s.hp _) _⟩
    split
    · exact o3'
    · exact EnvR.freezeL o3' hfree
theorem step_call {f : Nat} {args : List (Nat × PX)} {n : Nat} {o : Out} (hg : guardOk s.ts g = true) (hw : wantedP s.ts g = true) (h : (callE (runN pr n) (b + res) f (args.map fun p => (p.1, p.2.ev s.ts))).run s.hp = some o) :
    stepO (runN pr n) b ⟨dst, .call f args, g, aft, res⟩ s = some ⟨putT s.ts dst o.d, o.on s.hp⟩ := by
  unfold stepO
  simp only [hg, hw, if_true, opE, h, Option.map_some]
theorem step_callQ {f : Nat} {args : List (Nat × PX)} {n : Nat} {o : Out} (hg : guardOk s.ts g = true) (hw : wantedP s.ts g = true) (h : (callE (runN pr n) (b + res) f (args.map fun p => (p.1, p.2.ev s.ts))).run s.hp = some o) (h1 : o.ws = []) (h2 : o.fz = []) :
    stepO (runN pr n) b ⟨dst, .callQ f args, g, aft, res⟩ s = some ⟨putT s.ts dst o.d, o.on s.hp⟩ := by
  unfold stepO
  simp only [hg, hw, if_true, opE, run_bindE, h, Option.bind_some, h1, h2, List.isEmpty_nil, Bool.and_self, Eff.run, Option.map_some]
def allSc : List RI → Bool
  | [] => true
  | .sc _ :: rs => allSc rs
  | _ => false
theorem allSc_iff : ∀ {Res : List RI}, allSc Res = true → (∀ r ∈ Res, ∃ v, r = .sc v) ∧ (∀ os, impR Res os = []) ∧ (∀ k av, impA Res k av = av) ∧ (∀ k av, impK Res k av = true) ∧ nOwn Res = 0
  | [], _ => ⟨by simp, fun _ => rfl, fun _ _ => rfl, fun _ _ => rfl, rfl⟩
  | .sc v :: rs, h => by
    obtain ⟨h1, h2, h3, h4, h5⟩ := allSc_iff (Res := rs) h
    refine ⟨fun r hr => ?_, fun os => h2 os, fun k av => h3 _ _, fun k av => h4 _ _, h5⟩
    simp at hr
    rcases hr with rfl | hr
    · exact ⟨v, rfl⟩
    · exact h1 r hr
  | .cl _ :: _, h => by simp [allSc] at h
  | .own _ _ :: _, h => by simp [allSc] at h
/-- Elements that are no more than numbers and the like. -/
def scX : V → Bool
  | .x d => scal d
  | _ => false
def ScE (es : List (List V)) : Prop := ∀ e ∈ es, e.all scX = true
theorem vl_sc {c : β → List D} {l : List β} (hc : ∀ a, (cv c a).all scX = true) : ScE (vl c l) := by
  intro e he
  simp only [vl, List.mem_map] at he
  obtain ⟨a, _, rfl⟩ := he
  exact hc a
/-- Results in which nothing of the arguments can be. -/
def keepsP : List RI → Prop
  | [] => True
  | .sc _ :: rs => keepsP rs
  | .own _ es :: rs => ScE es ∧ keepsP rs
  | .cl _ :: _ => False
theorem scX_scal {v : V} {x : D} (h : scX v = true) (k : VR [] v x) : scal x = true := by
  cases v <;> simp only [scX] at h
  · simp only [VR] at k; rw [k]; exact h
  all_goals cases h
theorem scXs_scal : ∀ {vs : List V} {xs : List D}, vs.all scX = true → VRs [] vs xs → xs.all scal = true
  | [], [], _, _ => rfl
  | v :: vs, x :: xs, h, k => by
    simp only [VRs] at k
    simp only [List.all_cons, Bool.and_eq_true] at h ⊢
    exact ⟨scX_scal h.1 k.1, scXs_scal h.2 k.2⟩
  | [], _ :: _, _, k => by simp [VRs] at k
  | _ :: _, [], _, k => by simp [VRs] at k
theorem ScE_scal : ∀ {es : List (List V)} {xs : List (List D)}, ScE es → All2 (VRs []) es xs → (xs.all fun e => e.all scal) = true
  | [], [], _, _ => rfl
  | e :: es, x :: xs, h, k => by
    simp only [List.all_cons, Bool.and_eq_true]
    exact ⟨scXs_scal (h e (by simp)) k.1, ScE_scal (fun e he => h e (by simp [he])) k.2⟩
  | [], _ :: _, _, k => k.elim
  | _ :: _, [], _, k => k.elim
theorem scV_scalV {v : V} {x : D} (hv : scV v = true) (hx : VR [] v x) : scalV x = true := by
  cases v <;> simp only [scV, VR] at hv hx
  · subst hx
    simp only [Bool.and_eq_true] at hv
    have := hv.1
    cases x <;> simp [scal] at this <;> rfl
  case agg vs =>
    obtain ⟨ds, rfl, k⟩ := hx
    have h' : vs.all scX = true := by
      simp only [List.all_eq_true] at hv ⊢
      intro v hvm
      have := hv v hvm
      cases v <;> simp at this <;> exact this
    exact scXs_scal h' k
  all_goals cases hv
theorem keeps_scal : ∀ {Res : List RI} {xs : List D}, keepsP Res → RIs Res xs → xs.all scalV = true
  | [], [], _, _ => rfl
  | .sc v :: rs, x :: xs, h, k => by
    simp only [List.all_cons, Bool.and_eq_true]
    exact ⟨scV_scalV k.1.1 k.1.2, keeps_scal (Res := rs) h k.2⟩
  | .own sz es :: rs, x :: xs, h, k => by
    simp only [List.all_cons, Bool.and_eq_true]
    refine ⟨?_, keeps_scal (Res := rs) h.2 k.2⟩
    rcases k.1 with ⟨rfl, _⟩ | ⟨es', rfl, q1, _⟩
    · rfl
    · exact ScE_scal h.1 q1
  | .cl _ :: _, _ :: _, h, _ => h.elim
  | [], _ :: _, _, k => k.elim
  | _ :: _, [], _, k => k.elim
theorem impL_sc : ∀ {Res : List RI} {xs : List D} {r : Nat}, allSc Res = true → RIs Res xs → (impL r xs).2 = []
  | [], [], _, _, _ => rfl
  | .sc v :: rs, x :: xs, r, h, k => by
    obtain ⟨hv, hx⟩ := k.1
    have hx1 : imp1 r x = (x, []) := by
      cases x <;> try rfl
      exact (scV_noown hv hx).elim
    simp [impL, hx1, impL_sc (Res := rs) (r := r + 1) h k.2]
  | .own _ _ :: _, _ :: _, _, h, _ => by simp [allSc] at h
  | .cl _ :: _, _ :: _, _, h, _ => by simp [allSc] at h
  | [], _ :: _, _, _, k => k.elim
  | _ :: _, [], _, _, k => k.elim
theorem allSc_keeps : ∀ {Res : List RI}, allSc Res = true → keepsP Res
  | [], _ => trivial
  | .sc v :: rs, h => allSc_keeps (Res := rs) h
  | .own _ _ :: _, h => by simp [allSc] at h
  | .cl _ :: _, h => by simp [allSc] at h
theorem call_runK {f : Nat} {args : List (Nat × PX)} {vs : List V} {tp : Bool} {Res : List RI} {k : List Nat} (hc : CallOk pr f vs tp Res) (ha : ArgsOk N E R fr b av k args vs) (hK : impK Res res av = true) (hd : dstOk N dst = true) (hk : keepsP Res) (hs : EnvR N E R fr b av s) :
    ∃ n o os, os.length = nOwn Res ∧ (callE (runN pr n) (b + res) f (args.map fun p => (p.1, p.2.ev s.ts))).run s.hp = some o ∧
      EnvR N (putE E dst (retV tp (impV Res os))) (R ++ impR Res os) fr b (impA Res res av) ⟨putT s.ts dst o.d, o.on s.hp⟩ ∧ o.fz = [] ∧ (allSc Res = true → o.ws = []) := by
  obtain ⟨ds, ids, p1, p2, p3⟩ := prep_args (j := 0) hs ha
  obtain ⟨n, d, H', r1, r2, xs, hh, rd, e1, e2, e3, e4⟩ := hc ds p2
  obtain ⟨os, o1, o2, o3, o4, o5⟩ := imp_ok e4 hs hK
  have o4' : VRs [] (impV Res os) (impL (b + res) xs).1 := by simpa using o4
  have o3' : EnvR N (putE E dst (retV tp (impV Res os))) (R ++ impR Res os) fr b (impA Res res av) ⟨putT s.ts dst (recomp d (impL (b + res) xs).1), doWs s.hp (impL (b + res) xs).2⟩ :=
    o3.put hd (recomp_ok r2 (o4'.heap (HLe.nil _)) (fun ht => by rw [impL_len, expL_len e1, comps_len (by rw [r2, ht])]))
  refine ⟨n, ⟨recomp d (impL (b + res) xs).1, (impL (b + res) xs).2, []⟩, os, o1, ?_, o3', rfl, fun h => impL_sc h e4⟩
  simp only [callE, run_bindE, p1, Option.bind_some, List.map_nil, nodup, apart, List.all_nil, Bool.and_self, if_true, r1, finish, e1, expB, boxKs]
  simp only [e2, List.isEmpty_nil, Bool.true_and, List.nil_append, keeps_scal hk e4, if_true]
  have h1 : (hh.all fun x => !rd.contains x) = true := e3
  have h2 : (hh.all fun x => !([] : List Nat).contains x) = true := by simp
  simp only [h1, h2, Bool.and_self, if_true]
  rw [newL_run o2]
  rfl
/-- A call whose results are no rows. -/
theorem JS.callS {f : Nat} {args : List (Nat × PX)} {vs : List V} {tp : Bool} {Res : List RI} (k : List Nat) (hc : CallOk pr f vs tp Res) (ha : ArgsOk N E R fr b av k args vs) (hsc : allSc Res = true) (hg : gst E g = some true) (hd : dstOk N dst = true)
    (h : JS pr fr b av N (putE E dst (retV tp (impV Res []))) R ops m Q) : JS pr fr b av N E R (⟨dst, .call f args, g, aft, res⟩ :: ops) m Q := by
  intro a hm s hs
  obtain ⟨g1, g2⟩ := gst_true hs hg
  obtain ⟨h1, h2, h3, h4, h5⟩ := allSc_iff hsc
  obtain ⟨n, o, os, o1, o2, o3, q2, q1⟩ := call_runK (k := k) hc ha (h4 res av) hd (allSc_keeps hsc) hs
  have q1 := q1 hsc
  have : os = [] := List.length_eq_zero_iff.1 (by rw [o1, h5])
  subst this
  have hon : o.on s.hp = s.hp := by unfold Out.on; rw [q1, q2]; rfl
  refine Steps.cons (step_call g1 g2 o2) (h a hm _ ?_)
  rw [h2, h3, List.append_nil] at o3
  exact o3
theorem JS.callQS {f : Nat} {args : List (Nat × PX)} {vs : List V} {tp : Bool} {Res : List RI} (k : List Nat) (hc : CallOk pr f vs tp Res) (ha : ArgsOk N E R fr b av k args vs) (hsc : allSc Res = true) (hg : gst E g = some true) (hd : dstOk N dst = true)
    (h : JS pr fr b av N (putE E dst (retV tp (impV Res []))) R ops m Q) : JS pr fr b av N E R (⟨dst, .callQ f args, g, aft, res⟩ :: ops) m Q := by
  intro a hm s hs
  obtain ⟨g1, g2⟩ := gst_true hs hg
  obtain ⟨h1, h2, h3, h4, h5⟩ := allSc_iff hsc
  obtain ⟨n, o, os, o1, o2, o3, q2, q1⟩ := call_runK (k := k) hc ha (h4 res av) hd (allSc_keeps hsc) hs
  have q1 := q1 hsc
  have : os = [] := List.length_eq_zero_iff.1 (by rw [o1, h5])
  subst this
  have hon : o.on s.hp = s.hp := by unfold Out.on; rw [q1, q2]; rfl
  refine Steps.cons (step_callQ g1 g2 o2 q1 q2) (h a hm _ ?_)
  rw [h2, h3, List.append_nil] at o3
  exact o3
/-- A call that hands over one row. -/
theorem JS.call1 {f : Nat} {args : List (Nat × PX)} {vs : List V} {tp : Bool} {Res : List RI} (k : List Nat) (hc : CallOk pr f vs tp Res) (ha : ArgsOk N E R fr b av k args vs) (hk1 : leB k.length 1 = true) (hK : impK Res res av = true) (hn : nOwn Res = 1) (hg : gst E g = some true) (hd : dstOk N dst = true)
    (h : ∀ o, JS pr fr b (impA Res res av) N (putE E dst (retV tp (impV Res [o]))) (dropO k R ++ impR Res [o]) ops m Q) : JS pr fr b av N E R (⟨dst, .call f args, g, aft, res⟩ :: ops) m Q := by
  intro a hm s hs
  obtain ⟨g1, g2⟩ := gst_true hs hg
  obtain ⟨n, o, os, o1, o2, o3⟩ := call_run (k := k) hc ha hK hk1 hd hs
  obtain ⟨o', rfl⟩ : ∃ o', os = [o'] := List.length_eq_one_iff.1 (by rw [o1, hn])
  exact Steps.cons (step_call g1 g2 o2) (h o' a hm _ o3)
theorem JS.call0 {f : Nat} {args : List (Nat × PX)} {vs : List V} {tp : Bool} {Res : List RI} (k : List Nat) (hc : CallOk pr f vs tp Res) (ha : ArgsOk N E R fr b av k args vs) (hk1 : leB k.length 1 = true) (hK : impK Res res av = true) (hn : nOwn Res = 0) (hg : gst E g = some true) (hd : dstOk N dst = true)
    (h : JS pr fr b (impA Res res av) N (putE E dst (retV tp (impV Res []))) (dropO k R ++ impR Res []) ops m Q) : JS pr fr b av N E R (⟨dst, .call f args, g, aft, res⟩ :: ops) m Q := by
  intro a hm s hs
  obtain ⟨g1, g2⟩ := gst_true hs hg
  obtain ⟨n, o, os, o1, o2, o3⟩ := call_run (k := k) hc ha hK hk1 hd hs
  have : os = [] := List.length_eq_zero_iff.1 (by rw [o1, hn])
  subst this
  exact Steps.cons (step_call g1 g2 o2) (h a hm _ o3)
theorem JS.call2 {f : Nat} {args : List (Nat × PX)} {vs : List V} {tp : Bool} {Res : List RI} (k : List Nat) (hc : CallOk pr f vs tp Res) (ha : ArgsOk N E R fr b av k args vs) (hk1 : leB k.length 1 = true) (hK : impK Res res av = true) (hn : nOwn Res = 2) (hg : gst E g = some true) (hd : dstOk N dst = true)
    (h : ∀ o o', JS pr fr b (impA Res res av) N (putE E dst (retV tp (impV Res [o, o']))) (dropO k R ++ impR Res [o, o']) ops m Q) : JS pr fr b av N E R (⟨dst, .call f args, g, aft, res⟩ :: ops) m Q := by
  intro a hm s hs
  obtain ⟨g1, g2⟩ := gst_true hs hg
  obtain ⟨n, o, os, o1, o2, o3⟩ := call_run (k := k) hc ha hK hk1 hd hs
  obtain ⟨o', o'', rfl⟩ : ∃ o' o'', os = [o', o''] := by
    rw [hn] at o1
    cases os with
    | nil => cases o1
    | cons x os => cases os with
      | nil => cases o1
      | cons y os => cases os with
        | nil => exact ⟨x, y, rfl⟩
        | cons => simp at o1
  exact Steps.cons (step_call g1 g2 o2) (h o' o'' a hm _ o3)
theorem JS.callK0 {f : Nat} {args : List (Nat × PX)} {vs : List V} {tp : Bool} {Res : List RI} (k : List Nat) (hc : CallOk pr f vs tp Res) (ha : ArgsOk N E R fr b av k args vs) (hkp : keepsP Res) (hK : impK Res res av = true) (hn : nOwn Res = 0) (hg : gst E g = some true) (hd : dstOk N dst = true)
    (h : JS pr fr b (impA Res res av) N (putE E dst (retV tp (impV Res []))) (R ++ impR Res []) ops m Q) : JS pr fr b av N E R (⟨dst, .call f args, g, aft, res⟩ :: ops) m Q := by
  intro a hm s hs
  obtain ⟨g1, g2⟩ := gst_true hs hg
  obtain ⟨n, o, os, o1, o2, o3, _⟩ := call_runK (k := k) hc ha hK hd hkp hs
  have : os = [] := List.length_eq_zero_iff.1 (by rw [o1, hn])
  subst this
  exact Steps.cons (step_call g1 g2 o2) (h a hm _ o3)
theorem JS.callK1 {f : Nat} {args : List (Nat × PX)} {vs : List V} {tp : Bool} {Res : List RI} (k : List Nat) (hc : CallOk pr f vs tp Res) (ha : ArgsOk N E R fr b av k args vs) (hkp : keepsP Res) (hK : impK Res res av = true) (hn : nOwn Res = 1) (hg : gst E g = some true) (hd : dstOk N dst = true)
    (h : ∀ o, JS pr fr b (impA Res res av) N (putE E dst (retV tp (impV Res [o]))) (R ++ impR Res [o]) ops m Q) : JS pr fr b av N E R (⟨dst, .call f args, g, aft, res⟩ :: ops) m Q := by
  intro a hm s hs
  obtain ⟨g1, g2⟩ := gst_true hs hg
  obtain ⟨n, o, os, o1, o2, o3, _⟩ := call_runK (k := k) hc ha hK hd hkp hs
  obtain ⟨o', rfl⟩ : ∃ o', os = [o'] := List.length_eq_one_iff.1 (by rw [o1, hn])
  exact Steps.cons (step_call g1 g2 o2) (h o' a hm _ o3)
theorem JS.callK2 {f : Nat} {args : List (Nat × PX)} {vs : List V} {tp : Bool} {Res : List RI} (k : List Nat) (hc : CallOk pr f vs tp Res) (ha : ArgsOk N E R fr b av k args vs) (hkp : keepsP Res) (hK : impK Res res av = true) (hn : nOwn Res = 2) (hg : gst E g = some true) (hd : dstOk N dst = true)
    (h : ∀ o o', JS pr fr b (impA Res res av) N (putE E dst (retV tp (impV Res [o, o']))) (R ++ impR Res [o, o']) ops m Q) : JS pr fr b av N E R (⟨dst, .call f args, g, aft, res⟩ :: ops) m Q := by
  intro a hm s hs
  obtain ⟨g1, g2⟩ := gst_true hs hg
  obtain ⟨n, o, os, o1, o2, o3, _⟩ := call_runK (k := k) hc ha hK hd hkp hs
  obtain ⟨o', o'', rfl⟩ : ∃ o' o'', os = [o', o''] := by
    rw [hn] at o1
    cases os with
    | nil => cases o1
    | cons x os => cases os with
      | nil => cases o1
      | cons y os => cases os with
        | nil => exact ⟨x, y, rfl⟩
        | cons => simp at o1
  exact Steps.cons (step_call g1 g2 o2) (h o' o'' a hm _ o3)
end
end Go.Pi
/-
  MORE RULES: bound terms, cut lists, strings, comparisons of structs; the end of a body.
-/
namespace Go.Pi
set_option linter.unusedVariables false

section
variable {pr : Prog} {fr : Nat → Option Blk} {α β γ : Type} {N b : Nat} {av : List Nat} {E : Env} {R : List Rt} {m : Option α} {s : St}
variable {dst : Option Nat} {g : Option (Nat × Bool)} {aft : List Nat} {res : Nat} {ops : List PO} {Q : α → St → Prop} {x y ix : PX}

theorem JS.bind {m1 : Option β} {mm : β → Option α} (h : ∀ r, m1 = some r → JS pr fr b av N E R ops (mm r) Q) : JS pr fr b av N E R ops (m1.bind mm) Q := by
  intro o ho s hs
  obtain ⟨r, h1, h2⟩ := Option.bind_eq_some_iff.1 ho
  exact h r h1 o h2 s hs
theorem JS.conv {m' : Option α} (hm : m = m') (h : JS pr fr b av N E R ops m' Q) : JS pr fr b av N E R ops m Q := by subst hm; exact h
theorem JS.to (E' : Env) (R' : List Rt) (hE : SubE E E') (hR : R = R') (h : JS pr fr b av N E' R' ops m Q) : JS pr fr b av N E R ops m Q := by
  subst hR
  exact fun o ho s hs => h o ho s ⟨hs.len, fun i v hv => hs.sl i v (hE.get hv), hs.ro, hs.frm, hs.avl⟩
theorem CallOk.of' {f : Nat} {vs : List V} {tp : Bool} {Res : α → List RI} {pf : PF} {ts : List Nat} (hf : pr f = some pf) (ho : pf.orc = none) (hts : resSlots pf.results = some ts) (htp : tp = (match ts with | [_] => false | _ => true)) (hlen : leB vs.length pf.ntmps = true)
    (h : JC pr noFr pf.ntmps (argE 0 vs) [] pf.body m (fun r => GotA pf.ntmps noFr (RetA ts (Res r)))) : ∀ r, m = some r → CallOk pr f vs tp (Res r) :=
  fun r hr => CallOk.of (v := r) hf ho hts htp hlen (by
    intro o ho s hs
    cases ho
    exact h r hr s hs)
/-- The end of a body. -/
theorem JC.fin {c : PC} {v : α} {ts : List Nat} {Res : α → List RI} {vs : List V} {is : List Nat} {ex : Ex} (hc : c = exC ex) (hex : ∀ i, ex ≠ .exit i) (hg : getL E ts = some vs) (ho : Outs R vs (Res v) is) :
    JC pr fr N E R c (some v) (fun r => GotA N fr (RetA ts (Res r))) :=
  JC.got (A := fun r => RetA ts (Res r)) hc ⟨hex, vs, is, hg, ho⟩
theorem ret_ne : ∀ i, Ex.ret ≠ .exit i := by intro i h; cases h
theorem normal_ne : ∀ i, Ex.normal ≠ .exit i := by intro i h; cases h

/-! ### structs, compared -/
def eqD : D → D → Bool
  | .int _ a, .int _ c => a == c
  | .bool a, .bool c => a == c
  | .str a, .str c => a == c
  | _, _ => false
def eqDs : List D → List D → Bool
  | [], [] => true
  | x :: xs, y :: ys => eqD x y && eqDs xs ys
  | _, _ => false
def samK : List D → List D → Bool
  | [], [] => true
  | .int k _ :: xs, .int k' _ :: ys => (match decide (k = k') with | true => samK xs ys | false => false)
  | .bool _ :: xs, .bool _ :: ys => samK xs ys
  | .str _ :: xs, .str _ :: ys => samK xs ys
  | _, _ => false
theorem eqCs_of : ∀ {xs ys : List D}, samK xs ys = true → eqCs xs ys = some (eqDs xs ys)
  | [], [], _ => rfl
  | .int k a :: xs, .int k' c :: ys, h => by
    simp only [samK] at h
    split at h
    · rename_i hk
      simp at hk
      subst hk
      simp only [eqCs, eqC, if_true, Option.bind_some, eqDs, eqD]
      rw [eqCs_of h]
      cases a == c <;> rfl
    · cases h
  | .bool a :: xs, .bool c :: ys, h => by
    simp only [samK] at h
    simp only [eqCs, eqC, Option.bind_some, eqDs, eqD]
    rw [eqCs_of h]
    cases a == c <;> rfl
  | .str a :: xs, .str c :: ys, h => by
    simp only [samK] at h
    simp only [eqCs, eqC, Option.bind_some, eqDs, eqD]
    rw [eqCs_of h]
    cases a == c <;> rfl
  | [], _ :: _, h => by simp [samK] at h
  | x :: _, [], h => by cases x <;> simp [samK] at h
  | .int _ _ :: _, y :: _, h => by cases y <;> first | (simp [samK] at h; done) | skip
                                   rename_i k a xs ys k' c
                                   simp only [samK] at h
                                   split at h
                                   · rename_i hk
                                     simp at hk
                                     subst hk
                                     simp only [eqCs, eqC, if_true, Option.bind_some, eqDs, eqD]
                                     rw [eqCs_of h]
                                     cases a == c <;> rfl
                                   · cases h
  | .bool _ :: _, y :: _, h => by cases y <;> first | (simp [samK] at h; done) | skip
                                  rename_i a xs ys c
                                  simp only [samK] at h
                                  simp only [eqCs, eqC, Option.bind_some, eqDs, eqD]
                                  rw [eqCs_of h]
                                  cases a == c <;> rfl
  | .str _ :: _, y :: _, h => by cases y <;> first | (simp [samK] at h; done) | skip
                                 rename_i a xs ys c
                                 simp only [samK] at h
                                 simp only [eqCs, eqC, Option.bind_some, eqDs, eqD]
                                 rw [eqCs_of h]
                                 cases a == c <;> rfl
  | .undef :: _, _ :: _, h => by simp [samK] at h
  | .skip :: _, _ :: _, h => by simp [samK] at h
  | .flt _ :: _, _ :: _, h => by simp [samK] at h
  | .nil :: _, _ :: _, h => by simp [samK] at h
  | .lst _ _ :: _, _ :: _, h => by simp [samK] at h
  | .own _ _ :: _, _ :: _, h => by simp [samK] at h
  | .ref _ _ _ :: _, _ :: _, h => by simp [samK] at h
  | .ptr _ _ :: _, _ :: _, h => by simp [samK] at h
  | .fptr _ :: _, _ :: _, h => by simp [samK] at h
  | .nilp :: _, _ :: _, h => by simp [samK] at h
  | .agg _ :: _, _ :: _, h => by simp [samK] at h
  | .tup _ :: _, _ :: _, h => by simp [samK] at h
  | .fn _ :: _, _ :: _, h => by simp [samK] at h
def beqL : List Nat → List Nat → Bool
  | [], [] => true
  | a :: as, c :: cs => Nat.beq a c && beqL as cs
  | _, _ => false
theorem beqL_eq : ∀ {a c : List Nat}, beqL a c = true → a = c
  | [], [], _ => rfl
  | a :: as, c :: cs, h => by
    simp only [beqL, Bool.and_eq_true] at h
    rw [Nat.eq_of_beq_eq_true h.1, beqL_eq h.2]
  | [], _ :: _, h => by simp [beqL] at h
  | _ :: _, [], h => by simp [beqL] at h
theorem JS.eqA {neg : Bool} {ks : List Nat} {as cs : List D} (hx : exV E x = some (.agg as)) (hy : exV E y = some (.agg cs)) (hk : (samK as cs && beqL (as.map kindD) ks && beqL (cs.map kindD) ks) = true)
    (hg : gst E g = some true) (hd : dstOk N dst = true) (h : JS pr fr b av N (putE E dst (.x (.bool (if neg then !eqDs as cs else eqDs as cs)))) R ops m Q) : JS pr fr b av N E R (⟨dst, .eqA neg ks x y, g, aft, res⟩ :: ops) m Q := by
  refine JS.step hg (fun s hs => ?_) h
  simp only [Bool.and_eq_true] at hk
  obtain ⟨⟨h1, h2⟩, h3⟩ := hk
  refine ⟨⟨.bool (if neg then !eqDs as cs else eqDs as cs), [], []⟩, ?_, hs.put hd (by simp only [VR])⟩
  simp only [opE, hs.ex hx, hs.ex hy]
  rw [if_pos ⟨beqL_eq h2, beqL_eq h3⟩, eqCs_of h1]
  rfl

/-! ### lists, cut -/
def evO (E : Env) : Option PX → Option (Option Int)
  | none => some none
  | some x => match exV E x with
    | some (.int _ n) => some (some n)
    | _ => none
def cutI (len : Nat) (lo hi : Option Int) : Option (Nat × Nat) :=
  match hi with
  | none => (match lo with
    | none => some (0, len)
    | some y => if 0 ≤ y ∧ y ≤ len then some (y.toNat, len) else none)
  | some z => if 0 ≤ z ∧ z ≤ len then (match lo with
    | none => some (0, z.toNat)
    | some y => if 0 ≤ y ∧ y ≤ z then some (y.toNat, z.toNat) else none) else none
theorem cut_of (hs : EnvR N E R fr b av s) {lo hi : Option PX} {l h : Option Int} (hl : evO E lo = some l) (hh : evO E hi = some h) (n : Nat) : cut n (lo.map (PX.ev s.ts)) (hi.map (PX.ev s.ts)) = cutI n l h := by
  have key : ∀ {q : Option PX} {z : Option Int}, evO E q = some z → (q = none ∧ z = none) ∨ ∃ x k n, q = some x ∧ z = some n ∧ x.ev s.ts = .int k n := by
    intro q z hq
    cases q with
    | none => simp only [evO, Option.some.injEq] at hq; exact .inl ⟨rfl, hq.symm⟩
    | some x =>
      simp only [evO] at hq
      split at hq
      · rename_i k n e
        injection hq with hq
        exact .inr ⟨x, k, n, rfl, hq.symm, hs.ex e⟩
      · cases hq
  rcases key hl with ⟨rfl, rfl⟩ | ⟨x1, k1, n1, rfl, rfl, e1⟩ <;> rcases key hh with ⟨rfl, rfl⟩ | ⟨x2, k2, n2, rfl, rfl, e2⟩
  · rfl
  · simp only [cut, Option.map_some, Option.map_none, e2, cutI]
    split <;> simp
  · simp only [cut, Option.map_some, Option.map_none, e1, cutI, Option.bind_some]
  · simp only [cut, Option.map_some, e1, e2, cutI]
    by_cases c : 0 ≤ n2 ∧ n2 ≤ n
    · rw [if_pos c, if_pos c]
      simp only [Option.bind_some]
      have : ((n2.toNat : Nat) : Int) = n2 := by omega
      rw [this]
    · rw [if_neg c, if_neg c]; rfl
theorem cutI_le {n : Nat} {l h : Option Int} {p : Nat × Nat} (hp : cutI n l h = some p) : p.1 ≤ p.2 ∧ p.2 ≤ n := by
  unfold cutI at hp
  split at hp
  · split at hp
    · injection hp with hp; subst hp; simp
    · split at hp
      · injection hp with hp; subst hp; simp; omega
      · cases hp
  · split at hp
    · split at hp
      · injection hp with hp; subst hp; simp; omega
      · split at hp
        · injection hp with hp; subst hp; simp; omega
        · cases hp
    · cases hp
def sl {α : Type} (l : List α) (p : Nat × Nat) : List α := (l.drop p.1).take (p.2 - p.1)
theorem JS.sliceC {c : β → List D} {l : List β} {n sz : Nat} {lo hi : Option PX} {lo' hi' : Option Int} {mm : Nat × Nat → Option α} (hx : evV E x = some (.c n (.lst sz (l.map c)))) (hl : evO E lo = some lo') (hh : evO E hi = some hi')
    (hg : gst E g = some true) (hd : dstOk N dst = true) (h : ∀ p, cutI l.length lo' hi' = some p → JS pr fr b av N (putE E dst (.c n (.lst sz ((sl l p).map c)))) R ops (mm p) Q) :
    JS pr fr b av N E R (⟨dst, .slice sz x lo hi, g, aft, res⟩ :: ops) ((cutI l.length lo' hi').bind mm) Q := by
  refine JS.bind fun p hp => JS.step hg (fun s hs => ?_) (h p hp)
  have hc := hs.ev hx
  simp only [VR] at hc
  have hcut := fun k => cut_of hs hl hh k
  have hsl : (sl l p).map c = ((l.map c).drop p.1).take (p.2 - p.1) := by simp [sl, List.map_take, List.map_drop]
  rcases hc.lst_cases with ⟨he, hd'⟩ | ⟨es', hd', hq⟩ | ⟨k, id, off, len, es0, rfl, hd', h3, h4, hlen, h5, h6, h7⟩
  · have he' : l = [] := by simpa using he
    subst he'
    obtain ⟨q1, q2⟩ := cutI_le hp
    refine ⟨⟨.nil, [], []⟩, ?_, hs.put hd ?_⟩
    · simp only [opE, hd', hcut]
      have : cutI 0 lo' hi' = some p := hp
      rw [this]; rfl
    · simp only [VR, sl, List.drop_nil, List.take_nil, List.map_nil]
      cases n with
      | zero => exact hc.elim
      | succ n => exact .inl ⟨rfl, Nr.mk_nil⟩
  · have hl' : es'.length = l.length := by have := hq.len; simpa using this.symm
    refine ⟨⟨.lst sz ((es'.drop p.1).take (p.2 - p.1)), [], []⟩, ?_, hs.put hd ?_⟩
    · simp only [opE, hd', if_true, hcut, hl', hp]; rfl
    · simp only [VR]
      cases n with
      | zero => exact hc.elim
      | succ n => rw [hsl]; exact Cl.plain rfl (Nr.mk_lst ((hq.drop _).take _))
  · simp at hlen
    subst hlen
    refine ⟨⟨.ref id (off + p.1) (p.2 - p.1), [], []⟩, ?_, hs.put hd ?_⟩
    · simp only [opE, hd', Eff.run, h3, if_true, hcut, hp]; rfl
    · simp only [VR]
      rw [hsl]
      obtain ⟨q1, q2⟩ := cutI_le hp
      refine .inr (.inl ⟨sz, _, id, off + p.1, p.2 - p.1, es0, rfl, rfl, h3, by omega, ?_, h6, h7⟩)
      have := (h5.drop p.1).take (p.2 - p.1)
      rw [List.drop_take, List.drop_drop, List.take_take] at this
      rwa [Nat.min_eq_left (by omega)] at this
/-- A window of a row of the call's own. -/
theorem JS.sliceO {o : Option Nat} {off len sz : Nat} {es : List (List V)} {lo hi : Option PX} {lo' hi' : Option Int} {mm : Nat × Nat → Option α} (i : Nat) (hR : R[i]? = some ⟨o, sz, es⟩) (hx : evV E x = some (.ref o off len)) (hl : evO E lo = some lo') (hh : evO E hi = some hi')
    (hg : gst E g = some true) (hd : dstOk N dst = true) (h : ∀ p, cutI len lo' hi' = some p → JS pr fr b av N (putE E dst (.ref o (off + p.1) (p.2 - p.1))) R ops (mm p) Q) :
    JS pr fr b av N E R (⟨dst, .slice sz x lo hi, g, aft, res⟩ :: ops) ((cutI len lo' hi').bind mm) Q := by
  refine JS.bind fun p hp => JS.step hg (fun s hs => ?_) (h p hp)
  have hc := hs.ev hx
  simp only [VR] at hc
  have hcut := fun k => cut_of hs hl hh k
  rcases hc with ⟨id, rfl, hc⟩ | ⟨rfl, rfl, rfl, hc⟩
  · rcases hs.root hR with ⟨e, _⟩ | ⟨id', es', S', e, hh', hv⟩
    · cases e
    · injection e with e; subst e
      refine ⟨⟨.ref id (off + p.1) (p.2 - p.1), [], []⟩, ?_, hs.put hd (by simp only [VR]; exact .inl ⟨id, rfl, rfl⟩)⟩
      simp only [opE, hc, Eff.run, hh', if_true, hcut, hp]; rfl
  · obtain ⟨q1, q2⟩ := cutI_le hp
    refine ⟨⟨.nil, [], []⟩, ?_, hs.put hd (by simp only [VR]; exact .inr ⟨trivial, by omega, by omega, trivial⟩)⟩
    simp only [opE, hc, hcut, hp]; rfl
theorem JS.sliceO_hi {o : Option Nat} {off len sz : Nat} {es : List (List V)} {hi : PX} {kk : IntKind} {z : Int} {mm : Nat → Option α} (i : Nat) (hR : R[i]? = some ⟨o, sz, es⟩) (hx : evV E x = some (.ref o off len)) (hh : exV E hi = some (.int kk z))
    (hg : gst E g = some true) (hd : dstOk N dst = true) (h : ∀ p, hi? len z = some p → JS pr fr b av N (putE E dst (.ref o off p)) R ops (mm p) Q) :
    JS pr fr b av N E R (⟨dst, .slice sz x none (some hi), g, aft, res⟩ :: ops) ((hi? len z).bind mm) Q := by
  have := JS.sliceO (mm := fun p => mm p.2) (ops := ops) (Q := Q) (aft := aft) (res := res) (lo := none) (hi := some hi) (lo' := none) (hi' := some z) i hR hx rfl (by simp only [evO, hh]) hg hd (fun p hp => by
    unfold cutI at hp
    simp only at hp
    split at hp
    · rename_i c
      injection hp with hp
      subst hp
      exact h z.toNat (by unfold hi?; rw [if_pos c])
    · cases hp)
  refine JS.conv ?_ this
  unfold cutI hi?
  split
  · rename_i c; simp only [if_pos c, Option.bind_some]
  · rename_i c; simp only [if_neg c, Option.bind_none]
theorem JS.sliceC_hi {c : β → List D} {l : List β} {n sz : Nat} {hi : PX} {kk : IntKind} {z : Int} {mm : Nat → Option α} (hx : evV E x = some (.c n (.lst sz (l.map c)))) (hh : exV E hi = some (.int kk z))
    (hg : gst E g = some true) (hd : dstOk N dst = true) (h : ∀ p, hi? l.length z = some p → JS pr fr b av N (putE E dst (.c n (.lst sz ((l.take p).map c)))) R ops (mm p) Q) :
    JS pr fr b av N E R (⟨dst, .slice sz x none (some hi), g, aft, res⟩ :: ops) ((hi? l.length z).bind mm) Q := by
  have := JS.sliceC (mm := fun p => mm p.2) (ops := ops) (Q := Q) (aft := aft) (res := res) (lo := none) (hi := some hi) (lo' := none) (hi' := some z) hx rfl (by simp only [evO, hh]) hg hd (fun p hp => by
    unfold cutI at hp
    simp only at hp
    split at hp
    · rename_i c
      injection hp with hp
      subst hp
      exact h z.toNat (by unfold hi?; rw [if_pos c])
    · cases hp)
  refine JS.conv ?_ this
  unfold cutI hi?
  split
  · rename_i c; simp only [if_pos c, Option.bind_some]
  · rename_i c; simp only [if_neg c, Option.bind_none]
def lo? (len : Nat) (z : Int) : Option Nat := if 0 ≤ z ∧ z ≤ len then some z.toNat else none
theorem JS.sliceC_lo {c : β → List D} {l : List β} {n sz : Nat} {lo : PX} {kk : IntKind} {z : Int} {mm : Nat → Option α} (hx : evV E x = some (.c n (.lst sz (l.map c)))) (hh : exV E lo = some (.int kk z))
    (hg : gst E g = some true) (hd : dstOk N dst = true) (h : ∀ p, lo? l.length z = some p → JS pr fr b av N (putE E dst (.c n (.lst sz ((l.drop p).map c)))) R ops (mm p) Q) :
    JS pr fr b av N E R (⟨dst, .slice sz x (some lo) none, g, aft, res⟩ :: ops) ((lo? l.length z).bind mm) Q := by
  have := JS.sliceC (mm := fun p => mm p.1) (ops := ops) (Q := Q) (aft := aft) (res := res) (lo := some lo) (hi := none) (lo' := some z) (hi' := none) hx (by simp only [evO, hh]) rfl hg hd (fun p hp => by
    unfold cutI at hp
    simp only at hp
    split at hp
    · rename_i c
      injection hp with hp
      subst hp
      have := h z.toNat (by unfold lo?; rw [if_pos c])
      have e : sl l (z.toNat, l.length) = l.drop z.toNat := by simp only [sl]; exact List.take_of_length_le (by simp)
      rw [e]; exact this
    · cases hp)
  refine JS.conv ?_ this
  unfold cutI lo?
  simp only
  split
  · simp only [Option.bind_some]
  · simp only [Option.bind_none]
theorem JS.sliceO_lo {o : Option Nat} {off len sz : Nat} {es : List (List V)} {lo : PX} {kk : IntKind} {z : Int} {mm : Nat → Option α} (i : Nat) (hR : R[i]? = some ⟨o, sz, es⟩) (hx : evV E x = some (.ref o off len)) (hh : exV E lo = some (.int kk z))
    (hg : gst E g = some true) (hd : dstOk N dst = true) (h : ∀ p, lo? len z = some p → JS pr fr b av N (putE E dst (.ref o (off + p) (len - p))) R ops (mm p) Q) :
    JS pr fr b av N E R (⟨dst, .slice sz x (some lo) none, g, aft, res⟩ :: ops) ((lo? len z).bind mm) Q := by
  have := JS.sliceO (mm := fun p => mm p.1) (ops := ops) (Q := Q) (aft := aft) (res := res) (lo := some lo) (hi := none) (lo' := some z) (hi' := none) i hR hx (by simp only [evO, hh]) rfl hg hd (fun p hp => by
    unfold cutI at hp
    simp only at hp
    split at hp
    · rename_i c
      injection hp with hp
      subst hp
      exact h z.toNat (by unfold lo?; rw [if_pos c])
    · cases hp)
  refine JS.conv ?_ this
  unfold cutI lo?
  simp only
  split
  · simp only [Option.bind_some]
  · simp only [Option.bind_none]

/-- How long a list is, told otherwise. -/
theorem JS.relen {o : Option Nat} {off n n' : Nat} (t : Nat) (he : E.get t = some (.ref o off n)) (hn : n = n') (h : JS pr fr b av N ((t, .ref o off n') :: E) R ops m Q) : JS pr fr b av N E R ops m Q := by
  subst hn
  intro a ha s hs
  refine h a ha s ⟨hs.len, fun j w hw => ?_, hs.ro, hs.frm, hs.avl⟩
  simp only [Env.get] at hw
  split at hw
  · rename_i e'
    rw [← Nat.eq_of_beq_eq_true e']
    injection hw with hw
    subst hw
    exact hs.sl t _ he
  · exact hs.sl j w hw
theorem JC.relen {o : Option Nat} {off n n' : Nat} {c : PC} {Q : α → Ex → St → Prop} (t : Nat) (he : E.get t = some (.ref o off n)) (hn : n = n') (h : JC pr fr N ((t, .ref o off n') :: E) R c m Q) : JC pr fr N E R c m Q := by
  subst hn
  intro a ha s hs
  refine h a ha s ⟨hs.len, fun j w hw => ?_, hs.ro, hs.frm, hs.avl⟩
  simp only [Env.get] at hw
  split at hw
  · rename_i e'
    rw [← Nat.eq_of_beq_eq_true e']
    injection hw with hw
    subst hw
    exact hs.sl t _ he
  · exact hs.sl j w hw
/-- Is a closed list nil? Not if there is anything in it. -/
theorem JS.eqNS {n sz : Nat} {es : List (List D)} {neg : Bool} (hx : evV E x = some (.c n (.lst sz es))) (hg : gst E g = some true) (hd : dstOk N dst = true)
    (h : es.isEmpty = false → JS pr fr b av N (putE E dst (.x (.bool neg))) R ops m Q) : JS pr fr b av N E R (⟨dst, .eqNS neg x, g, aft, res⟩ :: ops) (cond es.isEmpty none m) Q := by
  cases he : es.isEmpty with
  | true => intro o ho; cases ho
  | false =>
    refine JS.step hg (fun s hs => ?_) (h he)
    have hc := hs.ev hx
    simp only [VR] at hc
    have hne : es ≠ [] := fun e => by rw [e] at he; cases he
    refine ⟨⟨.bool neg, [], []⟩, ?_, hs.put hd (by simp only [VR])⟩
    rcases hc.lst_cases with ⟨e, _⟩ | ⟨es', hd', hq⟩ | ⟨k, id, off, len, es0, rfl, hd', h3, h4, hlen, h5, h6, h7⟩
    · exact absurd e hne
    · cases es' with
      | nil =>
        have := hq.len
        simp at this
        exact absurd this hne
      | cons e es' => simp only [opE, hd']; cases neg <;> rfl
    · simp only [opE, hd']; cases neg <;> rfl

/-! ### strings -/
theorem JS.indexS {kk : IntKind} {z : Int} {t : List UInt8} {mm : UInt8 → Option α} (hx : exV E x = some (.str t)) (hi : exV E ix = some (.int kk z)) (hg : gst E g = some true) (hd : dstOk N dst = true)
    (h : ∀ c, at? t z = some c → JS pr fr b av N (putE E dst (.x (.int .u8 (c.toNat : Int)))) R ops (mm c) Q) : JS pr fr b av N E R (⟨dst, .indexS x ix, g, aft, res⟩ :: ops) ((at? t z).bind mm) Q := by
  refine JS.bind fun c hc => JS.step hg (fun s hs => ?_) (h c hc)
  obtain ⟨z0, hla, zl, zl'⟩ := at?_some hc
  refine ⟨⟨.int .u8 (c.toNat : Int), [], []⟩, ?_, hs.put hd (by simp only [VR])⟩
  simp only [opE, hs.ex hx, hs.ex hi]
  rw [if_pos z0, hla]; rfl
theorem JS.sliceS {t : List UInt8} {lo hi : Option PX} {lo' hi' : Option Int} {mm : Nat × Nat → Option α} (hx : exV E x = some (.str t)) (hl : evO E lo = some lo') (hh : evO E hi = some hi') (hg : gst E g = some true) (hd : dstOk N dst = true)
    (h : ∀ p, cutI t.length lo' hi' = some p → JS pr fr b av N (putE E dst (.x (.str (sl t p)))) R ops (mm p) Q) : JS pr fr b av N E R (⟨dst, .sliceS x lo hi, g, aft, res⟩ :: ops) ((cutI t.length lo' hi').bind mm) Q := by
  refine JS.bind fun p hp => JS.step hg (fun s hs => ?_) (h p hp)
  refine ⟨⟨.str (sl t p), [], []⟩, ?_, hs.put hd (by simp only [VR])⟩
  simp only [opE, hs.ex hx, cut_of hs hl hh, hp]; rfl
theorem JS.addS {t u : List UInt8} (hx : exV E x = some (.str t)) (hy : exV E y = some (.str u)) (hg : gst E g = some true) (hd : dstOk N dst = true)
    (h : JS pr fr b av N (putE E dst (.x (.str (t ++ u)))) R ops m Q) : JS pr fr b av N E R (⟨dst, .bin .add x y, g, aft, res⟩ :: ops) (room (t.length + u.length) 1 m) Q := by
  intro o ho s hs
  unfold room at ho
  split at ho
  case isFalse => cases ho
  rename_i hr
  refine JS.step hg (fun s hs => ?_) h o ho s hs
  refine ⟨⟨.str (t ++ u), [], []⟩, ?_, hs.put hd (by simp only [VR])⟩
  simp only [opE, hs.ex hx, hs.ex hy, binD, binS]
  rw [if_pos (by have := hr.1; unfold roomy at this; exact this)]; rfl
/-- Division, and what is left of it: by what is not nought. -/
def nz {α : Type} (z : Int) (m : Option α) : Option α := if z = 0 then none else m
theorem JS.quo {k : IntKind} {a c : Int} (hx : exV E x = some (.int k a)) (hy : exV E y = some (.int k c)) (hg : gst E g = some true) (hd : dstOk N dst = true)
    (h : JS pr fr b av N (putE E dst (.x (.int k (k.wrap (a.tdiv c))))) R ops m Q) : JS pr fr b av N E R (⟨dst, .bin .quo x y, g, aft, res⟩ :: ops) (nz c m) Q := by
  intro o ho s hs
  unfold nz at ho
  split at ho
  · cases ho
  rename_i hc
  refine JS.step hg (fun s hs => ?_) h o ho s hs
  refine ⟨⟨.int k (k.wrap (a.tdiv c)), [], []⟩, ?_, hs.put hd (by simp only [VR])⟩
  simp only [opE, hs.ex hx, hs.ex hy, binD, binI, if_true]
  rw [if_neg hc]; rfl
theorem JS.rem {k : IntKind} {a c : Int} (hx : exV E x = some (.int k a)) (hy : exV E y = some (.int k c)) (hg : gst E g = some true) (hd : dstOk N dst = true)
    (h : JS pr fr b av N (putE E dst (.x (.int k (a.tmod c)))) R ops m Q) : JS pr fr b av N E R (⟨dst, .bin .rem x y, g, aft, res⟩ :: ops) (nz c m) Q := by
  intro o ho s hs
  unfold nz at ho
  split at ho
  · cases ho
  rename_i hc
  refine JS.step hg (fun s hs => ?_) h o ho s hs
  refine ⟨⟨.int k (a.tmod c), [], []⟩, ?_, hs.put hd (by simp only [VR])⟩
  simp only [opE, hs.ex hx, hs.ex hy, binD, binI, if_true]
  rw [if_neg hc]; rfl
theorem JS.lenC {c : β → List D} {l : List β} {n sz : Nat} (hx : evV E x = some (.c n (.lst sz (l.map c)))) (hg : gst E g = some true) (hd : dstOk N dst = true)
    (h : JS pr fr b av N (putE E dst (.x (.int .i64 (l.length : Int)))) R ops m Q) : JS pr fr b av N E R (⟨dst, .len x, g, aft, res⟩ :: ops) m Q := by
  have h' : JS pr fr b av N (putE E dst (.x (.int .i64 ((l.map c).length : Int)))) R ops m Q := by rw [List.length_map]; exact h
  refine JS.step hg (fun s hs => ?_) h'
  obtain ⟨d, h1, h2⟩ := pureV_ok hs (op := .len x) (v := .x (.int .i64 ((l.map c).length : Int))) (by simp only [pureV, hx]) (b + res)
  exact ⟨_, h1, hs.put hd h2⟩
theorem RR.front {H : Heap} : ∀ {R : List Rt} {S : List Nat}, RR H R S → ∀ {i : Nat} {r : Rt}, R[i]? = some r → ∃ T, RR H (r :: R.eraseIdx i) T ∧ T.Perm S
  | [], _, _, i, r, h => by simp at h
  | r0 :: R, S, h, 0, r, hr => by simp at hr; subst hr; exact ⟨S, by simpa using h, List.Perm.refl _⟩
  | r0 :: R, S, h, i + 1, r, hr => by
    obtain ⟨S1, S2, h1, h2, rfl⟩ := h
    obtain ⟨T, t1, t2⟩ := h2.front (i := i) (r := r) (by simpa using hr)
    obtain ⟨T1, T2, a1, a2, rfl⟩ := t1
    refine ⟨T1 ++ (S1 ++ T2), ⟨T1, S1 ++ T2, a1, ⟨S1, T2, h1, a2, rfl⟩, rfl⟩, ?_⟩
    have e1 : (T1 ++ (S1 ++ T2)).Perm (S1 ++ (T1 ++ T2)) := by
      rw [← List.append_assoc, ← List.append_assoc]
      exact (List.perm_append_comm).append_right T2
    exact e1.trans (t2.append_left S1)
theorem JC.front {c : PC} {Q : α → Ex → St → Prop} (i : Nat) (r : Rt) (hr : R[i]? = some r) (h : JC pr fr N E (r :: R.eraseIdx i) c m Q) : JC pr fr N E R c m Q := by
  intro o ho s hs
  refine h o ho s ⟨hs.len, hs.sl, ?_, hs.frm, hs.avl⟩
  obtain ⟨S, h1, h2, h3⟩ := hs.ro
  obtain ⟨T, t1, t2⟩ := h1.front hr
  exact ⟨T, t1, t2.nodup_iff.2 h2, fun id hi => h3 id (t2.subset hi)⟩
theorem set_get {β : Type} {l : List β} {p : Nat} {a a' : β} (h : l[p]? = some a) : (l.set p a')[p]? = some a' := by
  have := (List.getElem?_eq_some_iff.1 h).1
  rw [List.getElem?_set_self this]
def iand (k : IntKind) (a c : Int) : Int := k.wrap (BitVec.ofInt k.bits a &&& BitVec.ofInt k.bits c).toNat
def ior (k : IntKind) (a c : Int) : Int := k.wrap (BitVec.ofInt k.bits a ||| BitVec.ofInt k.bits c).toNat
def ixor (k : IntKind) (a c : Int) : Int := k.wrap (BitVec.ofInt k.bits a ^^^ BitVec.ofInt k.bits c).toNat
theorem subE_of {E : Env} : ∀ {E' : Env}, getL E (E'.map (·.1)) = some (E'.map (·.2)) → SubE E E'
  | [], _ => trivial
  | p :: E', h => by
    simp only [List.map_cons, getL] at h
    split at h
    · rename_i v l h1 h2
      injection h with h
      injection h with h3 h4
      subst h3; subst h4
      exact ⟨h1, subE_of h2⟩
    · cases h
theorem JC.to2 {c : PC} {Q : α → Ex → St → Prop} (E' : Env) (R' : List Rt) (hE : getL E (E'.map (·.1)) = some (E'.map (·.2))) (hR : R = R') (h : JC pr fr N E' R' c m Q) : JC pr fr N E R c m Q :=
  JC.to E' R' (subE_of hE) hR h
theorem hi?_le {n p : Nat} {z : Int} (h : hi? n z = some p) : p ≤ n := by
  unfold hi? at h
  split at h
  · injection h with h; omega
  · cases h
theorem lo?_le {n p : Nat} {z : Int} (h : lo? n z = some p) : p ≤ n := by
  unfold lo? at h
  split at h
  · injection h with h; omega
  · cases h
end
end Go.Pi
/-
  REGIONS WHOSE ORDER IS DRAWN: what is met and turned, told by rows.
-/
namespace Go.Pi
set_option linter.unusedVariables false

inductive AId where
  | root (i : Nat)
  | new (r : Nat)
def AId.beq : AId → AId → Bool
  | .root i, .root j => Nat.beq i j
  | .new i, .new j => Nat.beq i j
  | _, _ => false
theorem AId.beq_iff {a c : AId} : a.beq c = true ↔ a = c := by
  cases a <;> cases c <;> simp [AId.beq]
def AId.mem (a : AId) : List AId → Bool
  | [] => false
  | c :: cs => a.beq c || a.mem cs
theorem AId.mem_iff {a : AId} : ∀ {l : List AId}, a.mem l = true ↔ a ∈ l
  | [] => by simp [AId.mem]
  | c :: cs => by simp [AId.mem, AId.mem_iff (l := cs), AId.beq_iff]
structure AF where
  rd : List AId
  wr : List AId
def AF.hits (wr l : List AId) : Bool := wr.any fun a => a.mem l
def aclash (p q : AF) : Bool := AF.hits p.wr q.rd || AF.hits p.wr q.wr || AF.hits q.wr p.rd || AF.hits q.wr p.wr
/-- Which rows are meant. -/
def Iota (R0 : List Rt) (b : Nat) : AId → Nat → Prop
  | .root i, id => ∃ r, R0[i]? = some r ∧ r.o = some id
  | .new r, id => id = b + r
structure Inj (I : AId → Nat → Prop) (D0 : Nat → Prop) : Prop where
  inj : ∀ a c id, I a id → I c id → a = c
  live : ∀ a id, I a id → ¬ D0 id
theorem hits_nil (wr : List AId) : AF.hits wr [] = false := by simp [AF.hits, AId.mem]
theorem aclash_nil (p : AF) : aclash p ⟨[], []⟩ = false := by
  unfold aclash
  rw [hits_nil]
  rfl
def fpA (I : AId → Nat → Prop) (D0 : Nat → Prop) (p : AF) (q : Fp) : Prop :=
  q.all = false ∧ (∀ id ∈ q.rd, (∃ a ∈ p.rd, I a id) ∨ D0 id) ∧ (∀ id ∈ q.lv, ∃ a ∈ p.wr, I a id) ∧ (∀ id ∈ q.wr, ∃ a ∈ p.wr, I a id) ∧ q.fz = []
theorem hits_false {wr l : List AId} (h : AF.hits wr l = false) {a : AId} (h1 : a ∈ wr) (h2 : a ∈ l) : False := by
  have : AF.hits wr l = true := by
    simp only [AF.hits, List.any_eq_true]
    exact ⟨a, h1, AId.mem_iff.2 h2⟩
  rw [h] at this; cases this
theorem aclash_ok {I : AId → Nat → Prop} {D0 : Nat → Prop} (hI : Inj I D0) {p q : AF} {f g : Fp} (h : aclash p q = false) (hf : fpA I D0 p f) (hg : fpA I D0 q g) : clash f g = false := by
  simp only [aclash, Bool.or_eq_false_iff] at h
  obtain ⟨⟨⟨h1, h2⟩, h3⟩, h4⟩ := h
  obtain ⟨a1, a2, a3, a4, a5⟩ := hf
  obtain ⟨c1, c2, c3, c4, c5⟩ := hg
  have wr_rd : ∀ {f g : Fp} {p q : AF}, (∀ id ∈ f.wr, ∃ a ∈ p.wr, I a id) → (∀ id ∈ g.rd, (∃ a ∈ q.rd, I a id) ∨ D0 id) → AF.hits p.wr q.rd = false → meets f.wr g.rd = false := by
    intro f g p q hw hr hh
    simp only [meets, List.any_eq_false, List.contains_eq_mem, decide_eq_true_eq]
    intro id hid hm
    obtain ⟨a, ha, ia⟩ := hw id hid
    rcases hr id hm with ⟨c, hc, ic⟩ | hd
    · have := hI.inj _ _ _ ia ic
      subst this
      exact hits_false hh ha hc
    · exact hI.live _ _ ia hd
  have wr_wr : ∀ {l m : List Nat} {p q : AF}, (∀ id ∈ l, ∃ a ∈ p.wr, I a id) → (∀ id ∈ m, ∃ a ∈ q.wr, I a id) → AF.hits p.wr q.wr = false → meets l m = false := by
    intro l m p q hw hr hh
    simp only [meets, List.any_eq_false, List.contains_eq_mem, decide_eq_true_eq]
    intro id hid hm
    obtain ⟨a, ha, ia⟩ := hw id hid
    obtain ⟨c, hc, ic⟩ := hr id hm
    have := hI.inj _ _ _ ia ic
    subst this
    exact hits_false hh ha hc
  have n1 : ∀ l, meets l ([] : List Nat) = false := fun l => by induction l <;> simp_all [meets]
  have n2 : ∀ l, meets ([] : List Nat) l = false := fun l => rfl
  unfold clash
  simp only [a1, c1, a5, c5, n1, n2, Bool.false_and, Bool.or_false, Bool.false_or, wr_rd a4 c2 h1, wr_wr a4 c3 h2, wr_wr a4 c4 h2, wr_rd c4 a2 h3, wr_wr c4 a3 h4]

section
variable {pr : Prog} {fr : Nat → Option Blk} {α β γ : Type} {N b : Nat} {av : List Nat} {E : Env} {R R0 : List Rt} {m : Option α} {s : St}
variable {dst : Option Nat} {g : Option (Nat × Bool)} {aft : List Nat} {res : Nat} {ops : List PO} {Q : α → St → Prop} {x y ix : PX} {i : Nat} {sn : List (Nat × AF)} {G : List (List AId)}

/-- Whose rows these are. -/
def GR (I : AId → Nat → Prop) : List Rt → List (List AId) → Prop
  | [], [] => True
  | r :: R, l :: G => (∀ id, r.o = some id → ∃ a ∈ l, I a id) ∧ GR I R G
  | _, _ => False
def JSD (pr : Prog) (fr : Nat → Option Blk) (R0 : List Rt) (b : Nat) (av : List Nat) (N : Nat) (E : Env) (R : List Rt) (G : List (List AId)) (i : Nat) (sn : List (Nat × AF)) (ops : List PO) (m : Option α) (Q : α → St → Prop) : Prop :=
  ∀ (D0 : Nat → Prop), Inj (Iota R0 b) D0 → ∀ o, m = some o → ∀ s seen, EnvR N E R fr b av s → GR (Iota R0 b) R G → All2 (fun p q => p.1 = q.1 ∧ fpA (Iota R0 b) D0 p.2 q.2) sn seen → (∀ id, dead s.hp id → D0 id) → StepsD pr b ops i seen s (Q o)
theorem JSD.nil {Q : α → Ex → St → Prop} (h : JC pr fr N E R .skip m Q) : JSD pr fr R0 b av N E R G i sn [] m (fun o s => Q o .normal s) :=
  fun D0 hI o ho s seen hs _ _ _ => ⟨0, s, rfl, (h o ho s hs.shut).skip_inv⟩
theorem JSD.conv {m' : Option α} (hm : m = m') (h : JSD pr fr R0 b av N E R G i sn ops m' Q) : JSD pr fr R0 b av N E R G i sn ops m Q := by subst hm; exact h
def okSeen (sn : List (Nat × AF)) (aft : List Nat) (af : AF) : Bool := sn.all fun p => aft.contains p.1 || !aclash p.2 af
theorem okSeen_ok {I : AId → Nat → Prop} {D0 : Nat → Prop} (hI : Inj I D0) {af : AF} {f : Fp} (hf : fpA I D0 af f) : ∀ {sn : List (Nat × AF)} {seen : List (Nat × Fp)}, okSeen sn aft af = true →
    All2 (fun p q => p.1 = q.1 ∧ fpA I D0 p.2 q.2) sn seen → (seen.all fun p => aft.contains p.1 || !clash p.2 f) = true
  | [], [], _, _ => rfl
  | p :: sn, q :: seen, h, k => by
    simp only [okSeen, List.all_cons, Bool.and_eq_true] at h ⊢
    obtain ⟨⟨k1, k2⟩, k3⟩ := k
    refine ⟨?_, okSeen_ok hI hf h.2 k3⟩
    rw [← k1]
    have h1 := h.1
    cases ha : aft.contains p.1 with
    | true => rfl
    | false =>
      rw [ha] at h1
      simp only [Bool.false_or, Bool.not_eq_true'] at h1 ⊢
      exact aclash_ok hI h1 k2 hf
  | [], _ :: _, _, h => h.elim
  | _ :: _, [], _, h => h.elim
theorem seqD_mono' {n m : Nat} (h : n ≤ m) : ∀ {os : List PO} {i : Nat} {seen : List (Nat × Fp)} {s s' : St}, seqD (runN pr n) b os i seen s = some s' → seqD (runN pr m) b os i seen s = some s' :=
  fun hh => seqD_mono (runN_mono pr h) hh
theorem JSD.step {o : PO} {E' : Env} {R' : List Rt} {av' : List Nat} {G' : List (List AId)} (af : AF) (hg : gst E o.guard = some true) (hok : okSeen sn o.after af = true)
    (h : ∀ D0, Inj (Iota R0 b) D0 → ∀ s, EnvR N E R fr b av s → GR (Iota R0 b) R G → (∀ id, dead s.hp id → D0 id) → ∃ x, (opE noCall (PX.ev s.ts) (b + o.res) o.op).run s.hp = some x ∧ EnvR N E' R' fr b av' ⟨putT s.ts o.dst x.d, x.on s.hp⟩ ∧ GR (Iota R0 b) R' G' ∧
      (∀ id ∈ (opE noCall (PX.ev s.ts) (b + o.res) o.op).rd s.hp, (∃ a ∈ af.rd, Iota R0 b a id) ∨ D0 id) ∧ (∀ id ∈ (opE noCall (PX.ev s.ts) (b + o.res) o.op).lv s.hp, ∃ a ∈ af.wr, Iota R0 b a id) ∧ (∀ id ∈ x.ws.map (·.1), ∃ a ∈ af.wr, Iota R0 b a id) ∧ x.fz = [] ∧ (∀ id, dead (x.on s.hp) id → D0 id))
    (next : JSD pr fr R0 b av' N E' R' G' (i + 1) ((i, af) :: sn) ops m Q) : JSD pr fr R0 b av N E R G i sn (o :: ops) m Q := by
  intro D0 hI a ha s seen hs hG hsn hdd
  obtain ⟨g1, g2⟩ := gst_true hs hg
  obtain ⟨x, h1, h2, h3, h4, h5, h6, h7, h8⟩ := h D0 hI s hs hG hdd
  have hstep : ∀ n, stepO (runN pr n) b o s = some ⟨putT s.ts o.dst x.d, x.on s.hp⟩ := fun n => (stepO_mono (noCall_le _) (stepO_of (b := b) (o := o) (ts := s.ts) (H := s.hp) g1 g2 h1)).1
  have hfp : ∀ n, stepFp (runN pr n) b o s = stepFp noCall b o s := fun n => (stepO_mono (noCall_le _) (stepO_of (b := b) (o := o) (ts := s.ts) (H := s.hp) g1 g2 h1)).2
  have hf : fpA (Iota R0 b) D0 af (stepFp noCall b o s) := by
    unfold stepFp
    rw [if_pos g2]
    split
    · rename_i f args e
      rw [e] at h1
      simp [opE, Eff.run] at h1
    · simp only [h1]
      exact ⟨rfl, h4, h5, h6, h7⟩
  obtain ⟨n, s', k1, k2⟩ := next D0 hI a ha _ ((i, stepFp noCall b o s) :: seen) h2 h3 ⟨⟨rfl, hf⟩, hsn⟩ h8
  refine ⟨n, s', ?_, k2⟩
  simp only [seqD, hfp, okSeen_ok hI hf hok hsn, if_true, hstep, Option.bind_some]
  exact k1
theorem JSD.skip1 {o : PO} (hg : gst E o.guard = some false) (hd : dstOk N o.dst = true)
    (next : JSD pr fr R0 b av N (putE E o.dst (.x .skip)) R G (i + 1) ((i, ⟨[], []⟩) :: sn) ops m Q) : JSD pr fr R0 b av N E R G i sn (o :: ops) m Q := by
  intro D0 hI a ha s seen hs hG hsn hdd
  obtain ⟨g1, g2⟩ := gst_false hs hg
  have hf : ∀ c, stepFp c b o s = ⟨[], [], [], [], false⟩ := fun c => by unfold stepFp; rw [if_neg (by simp [g2])]
  have hfa : fpA (Iota R0 b) D0 ⟨[], []⟩ ⟨[], [], [], [], false⟩ := ⟨rfl, by simp, by simp, by simp, rfl⟩
  have hok : okSeen sn o.after ⟨[], []⟩ = true := by
    simp only [okSeen, List.all_eq_true]
    intro p _
    simp [aclash_nil]
  obtain ⟨n, s', k1, k2⟩ := next D0 hI a ha ⟨putT s.ts o.dst .skip, s.hp⟩ ((i, ⟨[], [], [], [], false⟩) :: seen) (hs.put hd (by simp only [VR])) hG ⟨⟨rfl, hfa⟩, hsn⟩ hdd
  refine ⟨n, s', ?_, k2⟩
  have hst : stepO (runN pr n) b o s = some ⟨putT s.ts o.dst .skip, s.hp⟩ := by unfold stepO; simp [g1, g2]
  simp only [seqD, hf, okSeen_ok hI hfa hok hsn, if_true, hst, Option.bind_some]
  exact k1
/-- Operations that meet no row. -/
def runVD (N : Nat) : Env → Nat → List (Nat × AF) → List PO → Option (Env × List (Nat × AF))
  | E, i, sn, [] => some (E, sn)
  | E, i, sn, o :: os => match gst E o.guard, dstOk N o.dst with
    | some true, true => match pureV E o.op, Nat.beq (clsO o.op) 0 with
      | some v, true => runVD N (putE E o.dst v) (i + 1) ((i, ⟨[], []⟩) :: sn) os
      | _, _ => none
    | some false, true => runVD N (putE E o.dst (.x .skip)) (i + 1) ((i, ⟨[], []⟩) :: sn) os
    | _, _ => none
theorem okSeen_nil (sn : List (Nat × AF)) (aft : List Nat) : okSeen sn aft ⟨[], []⟩ = true := by
  simp only [okSeen, List.all_eq_true]
  intro p _
  simp [aclash_nil]
theorem JSD.run1 : ∀ {k ops : List PO} {E E' : Env} {i : Nat} {sn sn' : List (Nat × AF)}, runVD N E i sn k = some (E', sn') → JSD pr fr R0 b av N E' R G (i + k.length) sn' ops m Q → JSD pr fr R0 b av N E R G i sn (k ++ ops) m Q
  | [], ops, E, E', i, sn, sn', h, hn => by simp only [runVD, Option.some.injEq, Prod.mk.injEq] at h; obtain ⟨rfl, rfl⟩ := h; exact hn
  | o :: k, ops, E, E', i, sn, sn', h, hn => by
    have hn' : JSD pr fr R0 b av N E' R G (i + 1 + k.length) sn' ops m Q := by
      have e : i + 1 + k.length = i + (o :: k).length := by simp; omega
      rw [e]; exact hn
    simp only [runVD] at h
    split at h
    · rename_i g1 g2
      split at h
      · rename_i v hv hc
        have hc' := Nat.eq_of_beq_eq_true hc
        refine JSD.step (o := o) (ops := k ++ ops) ⟨[], []⟩ g1 (okSeen_nil _ _) (fun D0 hI s hs hG hdd => ?_) (JSD.run1 h hn')
        obtain ⟨d, h1, h2⟩ := pureV_ok hs hv (b + o.res)
        obtain ⟨_, _, q3, q4⟩ := idle_run (opE_idle (c := noCall) (ρ := PX.ev s.ts) (r := b + o.res) hc') h1
        refine ⟨_, h1, hs.put g2 h2, hG, ?_, ?_, by simp, rfl, hdd⟩
        · rw [q3]; simp
        · rw [q4]; simp
      · cases h
    · rename_i g1 g2
      exact JSD.skip1 (o := o) (ops := k ++ ops) g1 g2 (JSD.run1 h hn')
    · cases h
theorem JSD.run (k : Nat) (h : (runVD N E i sn (ops.take k)).isSome = true) (next : JSD pr fr R0 b av N ((runVD N E i sn (ops.take k)).getD ([], [])).1 R G (i + (ops.take k).length) ((runVD N E i sn (ops.take k)).getD ([], [])).2 (ops.drop k) m Q) :
    JSD pr fr R0 b av N E R G i sn ops m Q := by
  obtain ⟨⟨E', sn'⟩, hE⟩ := Option.isSome_iff_exists.1 h
  rw [hE] at next
  have := JSD.run1 (k := ops.take k) hE next
  rwa [List.take_append_drop] at this
theorem EnvR.inj (h : EnvR N E R fr 0 [] s) : Inj (Iota R s.hp.length) (dead (s.hp)) := by
  obtain ⟨S, h1, h2, h3⟩ := h.ro
  have hal : ∀ (i id : Nat) (r : Rt), R[i]? = some r → r.o = some id → ∃ sz es, hat s.hp id = .row sz es true := by
    intro i id r hr ho
    obtain ⟨T, t1, t2⟩ := h1.pick hr
    rcases t1 with ⟨e, _⟩ | ⟨id', es', S', e, hh, _⟩
    · rw [e] at ho; cases ho
    · rw [e] at ho; injection ho with ho; subst ho; exact ⟨_, _, hh⟩
  refine ⟨fun a c id ha hc => ?_, fun a id ha hd => ?_⟩
  · cases a with
    | root i =>
      obtain ⟨r, a1, a2⟩ := ha
      cases c with
      | root j =>
        obtain ⟨q, c1, c2⟩ := hc
        rw [h1.disj h2 a1 c1 a2 c2]
      | new j =>
        obtain ⟨_, _, hh⟩ := hal _ _ _ a1 a2
        have := hat_ltJ (H := s.hp) (id := id) (by rw [hh]; intro e; cases e)
        simp only [Iota] at hc
        omega
    | new i =>
      cases c with
      | root j =>
        obtain ⟨q, c1, c2⟩ := hc
        obtain ⟨_, _, hh⟩ := hal _ _ _ c1 c2
        have := hat_ltJ (H := s.hp) (id := id) (by rw [hh]; intro e; cases e)
        simp only [Iota] at ha
        omega
      | new j =>
        simp only [Iota] at ha hc
        have : i = j := by omega
        rw [this]
  · obtain ⟨sz, es, hd⟩ := hd
    cases a with
    | root i =>
      obtain ⟨r, a1, a2⟩ := ha
      obtain ⟨_, _, hh⟩ := hal _ _ _ a1 a2
      rw [hh] at hd; cases hd
    | new r =>
      simp only [Iota] at ha
      have := hat_ltJ (H := s.hp) (id := id) (by rw [hd]; intro e; cases e)
      omega
def G0 : Nat → Nat → List (List AId)
  | _, 0 => []
  | i, n + 1 => [.root i] :: G0 (i + 1) n
theorem GR0 (b : Nat) (R0 : List Rt) : ∀ (R : List Rt) (i : Nat), (∀ j, R[j]? = R0[i + j]?) → GR (Iota R0 b) R (G0 i R.length)
  | [], _, _ => trivial
  | r :: R, i, h => by
    refine ⟨fun id e => ⟨.root i, by simp, r, by simpa using (h 0).symm, e⟩, GR0 b R0 R (i + 1) fun j => ?_⟩
    have := h (j + 1)
    rw [show i + 1 + j = i + (j + 1) by omega, ← this]
    simp
theorem JC.regionD {k : Nat} {Q : α → Ex → St → Prop} (h : ∀ b, JSD pr fr R b (List.range k) N E R (G0 0 R.length) 0 [] ops m (fun o s => Q o .normal s)) : JC pr fr N E R (.region true k ops) m Q := by
  intro o ho s hs
  refine Ends.regionD (h s.hp.length (dead s.hp) hs.inj o ho ⟨s.ts, s.hp ++ List.replicate k .fresh⟩ [] (hs.free k) (GR0 _ R R 0 (by simp)) trivial ?_)
  rintro id ⟨sz, es, hd⟩
  refine ⟨sz, es, ?_⟩
  by_cases hl : id < s.hp.length
  · rwa [hat_append_left hl] at hd
  · exfalso
    unfold hat at hd
    rw [List.getD_eq_getElem?_getD, List.getElem?_append_right (by omega)] at hd
    cases hq : (List.replicate k Blk.fresh)[id - s.hp.length]? with
    | none => rw [hq] at hd; simp at hd
    | some q =>
      rw [hq] at hd
      have := List.mem_of_getElem? hq
      simp at this
      rw [this.2] at hd
      simp at hd
/-! ### operations on rows -/
theorem GR.at {I : AId → Nat → Prop} : ∀ {R : List Rt} {G : List (List AId)}, GR I R G → ∀ {i : Nat} {r : Rt}, R[i]? = some r → ∀ id, r.o = some id → ∃ a ∈ G.getD i [], I a id
  | [], [], _, i, r, h, _, _ => by simp at h
  | r0 :: R, l :: G, h, 0, r, hr, id, e => by simp at hr; subst hr; exact h.1 id e
  | r0 :: R, l :: G, h, i + 1, r, hr, id, e => by simpa using h.2.at (i := i) (by simpa using hr) id e
  | [], _ :: _, h, _, _, _, _, _ => h.elim
  | _ :: _, [], h, _, _, _, _, _ => h.elim
theorem GR.snoc {I : AId → Nat → Prop} : ∀ {R : List Rt} {G : List (List AId)}, GR I R G → ∀ {r : Rt} {l : List AId}, (∀ id, r.o = some id → ∃ a ∈ l, I a id) → GR I (R ++ [r]) (G ++ [l])
  | [], [], _, _, _, h => ⟨h, trivial⟩
  | r0 :: R, l :: G, h, _, _, k => ⟨h.1, h.2.snoc k⟩
  | [], _ :: _, h, _, _, _ => h.elim
  | _ :: _, [], h, _, _, _ => h.elim
theorem GR.set {I : AId → Nat → Prop} : ∀ {R : List Rt} {G : List (List AId)}, GR I R G → ∀ {i : Nat} {r : Rt} {l : List AId}, (∀ id, r.o = some id → ∃ a ∈ l, I a id) → GR I (R.set i r) (G.set i l)
  | [], [], _, _, _, _, _ => trivial
  | r0 :: R, l :: G, h, 0, _, _, k => ⟨k, h.2⟩
  | r0 :: R, l :: G, h, i + 1, _, _, k => ⟨h.1, h.2.set k⟩
  | [], _ :: _, h, _, _, _, _ => h.elim
  | _ :: _, [], h, _, _, _, _ => h.elim
theorem dead_set {H : Heap} {id j : Nat} {sz : Nat} {es : List (List D)} (hl : id < H.length) (h : dead (H.set id (.row sz es true)) j) : dead H j := by
  obtain ⟨sz', es', h⟩ := h
  rw [hat_setJ hl] at h
  split at h
  · cases h
  · exact ⟨sz', es', h⟩
theorem JSD.loadO {ag : Bool} {n id sz p j : Nat} {es : List (List V)} {e : List V} (q : Nat) (hR : R[q]? = some ⟨some id, sz, es⟩) (he : es[p]? = some e) (hx : evV E x = some (.ptr id sz p j))
    (hv : (loadV ag n sz j e).isSome = true) (hg : gst E g = some true) (hok : okSeen sn aft ⟨G.getD q [], []⟩ = true) (hd : dstOk N dst = true)
    (h : JSD pr fr R0 b av N (putE E dst ((loadV ag n sz j e).getD (.x .undef))) R G (i + 1) ((i, ⟨G.getD q [], []⟩) :: sn) ops m Q) :
    JSD pr fr R0 b av N E R G i sn (⟨dst, .load ag n x, g, aft, res⟩ :: ops) m Q := by
  refine JSD.step ⟨G.getD q [], []⟩ hg hok (fun D0 hI s hs hG hdd => ?_) h
  obtain ⟨v, hv'⟩ := Option.isSome_iff_exists.1 hv
  rw [hv']
  simp only [Option.getD_some]
  have hx' := hs.ev hx
  simp only [VR] at hx'
  rcases hs.root hR with ⟨e, _⟩ | ⟨id', es', S', e1, hh, hvo⟩
  · cases e
  injection e1 with e1; subst e1
  obtain ⟨d, T1, T2, T3, q1, q2, _, _⟩ := hvo.at he
  simp only [loadV] at hv'
  split at hv'
  · rename_i l1 l2 l3
    rw [leB_iff] at l1 l2
    obtain ⟨d', k1, k2⟩ := run_ofShaped hv' (q2.part j n l3)
    have := q2.len
    obtain ⟨d1, d2⟩ := divmod (i := p) l2
    have hq : ∀ o : Option D, (quietO o).rd s.hp = [] ∧ (quietO o).lv s.hp = [] := fun o => by cases o <;> exact ⟨rfl, rfl⟩
    refine ⟨⟨d', [], []⟩, ?_, hs.put hd k2, hG, ?_, ?_, by simp, rfl, hdd⟩
    · simp only [opE, hx', Eff.run, hh, d1, d2, q1]
      rw [if_pos (by omega)]
      exact k1
    · intro id2 hid
      simp only [opE, hx', Eff.rd, hh, d1, d2, q1] at hid
      rw [if_pos (by omega), (hq _).1] at hid
      simp at hid
      subst hid
      exact .inl (hG.at hR _ rfl)
    · intro id2 hid
      simp only [opE, hx', Eff.lv, hh, d1, d2, q1] at hid
      rw [if_pos (by omega), (hq _).2] at hid
      cases hid
  · cases hv'
theorem JSD.buildSlice {c : β → List D} (l : List β) {sz n : Nat} {zero : List D} {parts : List (Nat × PX)} (hb : buildV E sz n zero parts = some (vl c l)) (hn : n = l.length) (hav : av.contains res = true)
    (hg : gst E g = some true) (hok : okSeen sn aft ⟨[], [.new res]⟩ = true) (hd : dstOk N dst = true) (h : ∀ id, JSD pr fr R0 b (av.erase res) N (putE E dst (.ref (some id) 0 l.length)) (R ++ [⟨some id, sz, vl c l⟩]) (G ++ [[.new res]]) (i + 1) ((i, ⟨[], [.new res]⟩) :: sn) ops m Q) :
    JSD pr fr R0 b av N E R G i sn (⟨dst, .buildSlice sz n zero parts, g, aft, res⟩ :: ops) m Q := by
  refine JSD.step ⟨[], [.new res]⟩ hg hok (fun D0 hI s hs hG hdd => ?_) (h (b + res))
  simp only [buildV] at hb
  split at hb
  · rename_i l' hl'
    obtain ⟨a1, ds, a2, a3, a4, a5⟩ := evP2_ok hs hl' (zd := List.replicate n zero) (fun e he => by
      simp at he; rw [he.2]; exact xs_flat zero) (All2.replicate (VRs.xs zero) n) hb
    have hr : res ∈ av := by simpa using hav
    obtain ⟨f1, f2, f3⟩ := hs.avl.2 res hr
    have h1 := hs.new hr (sz := sz) (VOe.of_flat a4 a3)
    refine ⟨⟨.ref (b + res) 0 n, [(b + res, .row sz ds true)], []⟩, ?_, h1.put hd ?_, hG.snoc fun id e => ⟨.new res, by simp, by injection e with e; exact e.symm⟩, ?_, ?_, ?_, rfl, fun id hid => hdd id (dead_set f2 hid)⟩
    · simp only [opE, a1, if_true, a2, Eff.run, f1, f2]
    · simp only [VR]
      exact .inl ⟨_, rfl, by rw [hn]⟩
    · intro id hid
      simp only [opE, a1, if_true, a2, Eff.rd] at hid
      cases hid
    · intro id hid
      simp only [opE, a1, if_true, a2, Eff.lv] at hid
      simp at hid
      exact ⟨.new res, by simp, hid⟩
    · intro id hid
      simp at hid
      exact ⟨.new res, by simp, hid⟩
  · cases hb
/-- Appended to a row of the call's own: what another row of its own holds. -/
theorem JSD.appW {c : β → List D} {l k : List β} {o oy : Option Nat} {len sz bytes : Nat} (q qy : Nat) (hR : R[q]? = some ⟨o, sz, vl c l⟩) (hx : evV E x = some (.ref o 0 len)) (hlen : len ≤ l.length) (hRy : R[qy]? = some ⟨oy, sz, vl c k⟩) (hy : evV E y = some (.ref oy 0 k.length)) (hk : k ≠ []) (hav : av.contains res = true)
    (hg : gst E g = some true) (hok : okSeen sn aft ⟨G.getD qy [] ++ G.getD q [], G.getD q [] ++ [.new res]⟩ = true) (hd : dstOk N dst = true)
    (h : ∀ o', JSD pr fr R0 b (av.erase res) N (putE E dst (.ref o' 0 (l.take len ++ k).length)) (R.set q ⟨o', sz, vl c (l.take len ++ k)⟩) (G.set q [.new res]) (i + 1) ((i, ⟨G.getD qy [] ++ G.getD q [], G.getD q [] ++ [.new res]⟩) :: sn) ops m Q) :
    JSD pr fr R0 b av N E R G i sn (⟨dst, .append sz bytes x y, g, aft, res⟩ :: ops) (room (len + k.length) bytes m) Q := by
  intro D0 hI a0 ha0 s0 seen0 hs0 hG0 hsn0 hdd0
  unfold room at ha0
  split at ha0
  case isFalse => cases ha0
  rename_i hroom
  refine JSD.step (m := m) ⟨G.getD qy [] ++ G.getD q [], G.getD q [] ++ [.new res]⟩ hg hok (fun D0 hI s hs hG hdd => ?_) (h (some (b + res))) D0 hI a0 ha0 s0 seen0 hs0 hG0 hsn0 hdd0
  have hr : res ∈ av := by simpa using hav
  obtain ⟨f1, f2, f3⟩ := hs.avl.2 res hr
  have hx' := hs.ev hx
  simp only [VR] at hx'
  have hy' := hs.ev hy
  simp only [VR] at hy'
  have hkl : 0 < k.length := List.length_pos_iff.2 hk
  rcases hy' with ⟨idy, rfl, hy'⟩ | ⟨_, _, e, _⟩
  case inr => omega
  rcases hs.root hRy with ⟨e, _⟩ | ⟨idy', esy, Sy, e, hhy, hvy⟩
  · cases e
  injection e with e; subst e
  obtain ⟨hay, _⟩ := hvy.flat (vl_flat c k)
  have hyl := hay.len
  rw [vl_len] at hyl
  have hsrc : (source sz (y.ev s.ts)).run s.hp = some esy ∧ (source sz (y.ev s.ts)).rd s.hp = [idy] ∧ (source sz (y.ev s.ts)).lv s.hp = [] := by
    rw [hy']
    simp only [source, Eff.run, Eff.rd, Eff.lv, hhy]
    rw [if_pos ⟨trivial, by omega⟩]
    simp only [Eff.run, Eff.rd, Eff.lv, List.drop_zero]
    exact ⟨by rw [List.take_of_length_le (by omega)], trivial, trivial⟩
  obtain ⟨s1, s2, s3⟩ := hsrc
  have hrdb : ∀ (f : List (List D) → Eff Out), ((source sz (y.ev s.ts)).bind f).rd s.hp = idy :: (f esy).rd s.hp ∧ ((source sz (y.ev s.ts)).bind f).lv s.hp = (f esy).lv s.hp := by
    intro f
    rw [hy']
    simp only [source, Eff.bind, Eff.rd, Eff.lv, hhy]
    rw [if_pos ⟨trivial, by omega⟩]
    simp only [Eff.bind, List.drop_zero]
    rw [List.take_of_length_le (by omega)]
    exact ⟨rfl, rfl⟩
  have hne : esy.isEmpty = false := by cases esy with
    | nil => exact absurd (List.length_eq_zero_iff.1 hyl) hk
    | cons => rfl
  have hIy := hG.at hRy idy rfl
  rcases hx' with ⟨id, rfl, hx'⟩ | ⟨rfl, _, hlz, hx'⟩
  · obtain ⟨es', S', hh, hvo, key⟩ := hs.move (es2 := vl c (l.take len ++ k)) hR hr
    obtain ⟨ha, rfl⟩ := hvo.flat (vl_flat c l)
    have hl' := ha.len
    rw [vl_len] at hl'
    have hnew : VOe s.hp (vl c (l.take len ++ k)) (es'.take len ++ esy) [] := by
      rw [← vl_append, ← vl_take]
      exact VOe.of_flat (fun e he => by
        simp at he
        rcases he with he | he
        · exact vl_flat c l e (List.mem_of_mem_take he)
        · exact vl_flat c k e he) ((ha.take len).append hay)
    have hIx := hG.at hR id rfl
    have hl0 : id < s.hp.length := hat_ltJ (by rw [hh]; intro e; cases e)
    refine ⟨⟨.ref (b + res) 0 (len + esy.length), [(id, .dead), (b + res, .row sz (es'.take len ++ esy) true)], []⟩, ?_, (key _ _ hnew (List.Sublist.refl _)).put hd ?_, hG.set fun id2 e => ⟨.new res, by simp, by injection e with e; exact e.symm⟩, ?_, ?_, ?_, rfl, ?_⟩
    · simp only [opE, run_bindE, s1, Option.bind_some, hne, Bool.false_eq_true, if_false, hx', Eff.run, hh]
      rw [if_pos ⟨trivial, trivial, by omega, by rw [← hyl]; exact hroom.1, by rw [← hyl]; exact hroom.2⟩]
      simp only [Eff.run, f1, f2, if_true]
    · simp only [VR]
      exact .inl ⟨b + res, rfl, by simp [← hyl, Nat.min_eq_left hlen]⟩
    · intro id2 hid
      left
      simp only [opE] at hid
      rw [(hrdb _).1] at hid
      simp only [hne, Bool.false_eq_true, if_false, hx', Eff.rd, hh] at hid
      rw [if_pos ⟨trivial, trivial, by omega, by rw [← hyl]; exact hroom.1, by rw [← hyl]; exact hroom.2⟩] at hid
      simp only [Eff.rd, List.mem_cons, List.not_mem_nil, or_false] at hid
      rcases hid with rfl | rfl
      · obtain ⟨a, h1, h2⟩ := hIy; exact ⟨a, List.mem_append.2 (.inl h1), h2⟩
      · obtain ⟨a, h1, h2⟩ := hIx; exact ⟨a, List.mem_append.2 (.inr h1), h2⟩
    · intro id2 hid
      simp only [opE] at hid
      rw [(hrdb _).2] at hid
      simp only [hne, Bool.false_eq_true, if_false, hx', Eff.lv, hh] at hid
      rw [if_pos ⟨trivial, trivial, by omega, by rw [← hyl]; exact hroom.1, by rw [← hyl]; exact hroom.2⟩] at hid
      simp only [Eff.lv, List.mem_cons, List.not_mem_nil, or_false] at hid
      rcases hid with rfl | rfl
      · obtain ⟨a, h1, h2⟩ := hIx; exact ⟨a, List.mem_append.2 (.inl h1), h2⟩
      · exact ⟨.new res, by simp, rfl⟩
    · intro id2 hid
      simp at hid
      rcases hid with rfl | rfl
      · obtain ⟨a, h1, h2⟩ := hIx; exact ⟨a, List.mem_append.2 (.inl h1), h2⟩
      · exact ⟨.new res, by simp, rfl⟩
    · intro id2 hid
      refine hdd id2 ?_
      have := dead_set (by simpa using f2) hid
      obtain ⟨sz', es2, hq⟩ := this
      rw [hat_setJ hl0] at hq
      split at hq
      · cases hq
      · exact ⟨sz', es2, hq⟩
  · subst hlz
    obtain ⟨he, key⟩ := hs.make (es2 := vl c (l.take 0 ++ k)) hR hr (es2' := esy) (by
      simp only [List.take_zero, List.nil_append]
      exact VOe.of_flat (vl_flat c k) hay)
    have hroom' : esy.length ≤ roomy ∧ esy.length * bytes ≤ roomy := by rw [← hyl]; simpa using hroom
    refine ⟨⟨.ref (b + res) 0 esy.length, [(b + res, .row sz esy true)], []⟩, ?_, key.put hd ?_, hG.set fun id2 e => ⟨.new res, by simp, by injection e with e; exact e.symm⟩, ?_, ?_, ?_, rfl, fun id2 hid => hdd id2 (dead_set f2 hid)⟩
    · simp only [opE, run_bindE, s1, Option.bind_some, hne, Bool.false_eq_true, if_false, hx']
      rw [if_pos hroom']
      simp only [Eff.run, f1, f2, if_true]
    · simp only [VR]
      exact .inl ⟨b + res, rfl, by simp [hyl]⟩
    · intro id2 hid
      left
      simp only [opE] at hid
      rw [(hrdb _).1] at hid
      simp only [hne, Bool.false_eq_true, if_false, hx'] at hid
      rw [if_pos hroom'] at hid
      simp only [Eff.rd, List.mem_cons, List.not_mem_nil, or_false] at hid
      subst hid
      obtain ⟨a, h1, h2⟩ := hIy; exact ⟨a, List.mem_append.2 (.inl h1), h2⟩
    · intro id2 hid
      simp only [opE] at hid
      rw [(hrdb _).2] at hid
      simp only [hne, Bool.false_eq_true, if_false, hx'] at hid
      rw [if_pos hroom'] at hid
      simp only [Eff.lv, List.mem_cons, List.not_mem_nil, or_false] at hid
      subst hid
      exact ⟨.new res, by simp, rfl⟩
    · intro id2 hid
      simp at hid
      subst hid
      exact ⟨.new res, by simp, rfl⟩
theorem JSD.appT {c : β → List D} {l k : List β} {o oy : Option Nat} {sz bytes : Nat} (q qy : Nat) (hR : R[q]? = some ⟨o, sz, vl c l⟩) (hx : evV E x = some (.ref o 0 l.length)) (hRy : R[qy]? = some ⟨oy, sz, vl c k⟩) (hy : evV E y = some (.ref oy 0 k.length)) (hk : k ≠ []) (hav : av.contains res = true)
    (hg : gst E g = some true) (hok : okSeen sn aft ⟨G.getD qy [] ++ G.getD q [], G.getD q [] ++ [.new res]⟩ = true) (hd : dstOk N dst = true)
    (h : ∀ o', JSD pr fr R0 b (av.erase res) N (putE E dst (.ref o' 0 (l ++ k).length)) (R.set q ⟨o', sz, vl c (l ++ k)⟩) (G.set q [.new res]) (i + 1) ((i, ⟨G.getD qy [] ++ G.getD q [], G.getD q [] ++ [.new res]⟩) :: sn) ops m Q) :
    JSD pr fr R0 b av N E R G i sn (⟨dst, .append sz bytes x y, g, aft, res⟩ :: ops) (room (l.length + k.length) bytes m) Q := by
  refine JSD.appW (l := l) (k := k) q qy hR hx (Nat.le_refl _) hRy hy hk hav hg hok hd ?_
  simpa using h
end
end Go.Pi
