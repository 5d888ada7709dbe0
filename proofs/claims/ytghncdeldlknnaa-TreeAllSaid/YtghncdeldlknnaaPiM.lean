import Derived.Test.YtghncdeldlknnaaPiL
/-
  CALLS, the parts: the arguments, the results, the rows that come back.
-/
set_option linter.all false
namespace Go.Pi
set_option linter.unusedVariables false
section
variable {P : Program} {fm : Nat → Nat} {B : Base} {w : World} {G : Gh} {H : Heap}

structure PrepOk (fm : Nat → Nat) (B : Base) (w : World) (G : Gh) (H : Heap) (vs : List Value) (k : Nat) (p : Prep) : Prop where
  rows : p.rows.length = p.bs.length
  row : ∀ (m id : Nat) (bx : Bool), p.bs[m]? = some (id, bx) → ∃ sz es es' b cap, hat H id = .row sz es true ∧ G id = .row b cap sz ∧ p.rows[m]? = some (.row sz es' true) ∧
    RowOk (RepC fm (okI (okB B G H w) G H p.ids) w) w sz es' b cap
  arg : ∀ (j : Nat) (v : Value) (x : D), vs[j]? = some v → p.args[j]? = some x → RepC fm (okI (okB B G H w) G H p.ids) w v x ∨
    (∃ (m id : Nat) (bx : Bool) (b cap sz len : Nat), x = .ref (k + m) 0 len ∧ p.bs[m]? = some (id, bx) ∧ G id = .row b cap sz ∧ RefV v b cap sz 0 len) ∨
    (∃ (m id : Nat) (bx : Bool) (b cap sz : Nat), x = .ptr (k + m) 0 ∧ p.bs[m]? = some (id, bx) ∧ G id = .row b cap sz ∧ v = .pointer (some ⟨b, 0, none⟩))

theorem PrepOk.cons {v : Value} {vs : List Value} {k : Nat} {y : Prep} (h : PrepOk fm B w G H vs (k + 1) y) {x : D} {blk : Blk} {ids : List Nat} {id : Nat} {bx : Bool}
    (hrow : ∃ sz es es' b cap, hat H id = .row sz es true ∧ G id = .row b cap sz ∧ blk = .row sz es' true ∧ RowOk (RepC fm (okI (okB B G H w) G H ids) w) w sz es' b cap)
    (harg : (∃ (b cap sz len : Nat), x = .ref k 0 len ∧ G id = .row b cap sz ∧ RefV v b cap sz 0 len) ∨ (∃ (b cap sz : Nat), x = .ptr k 0 ∧ G id = .row b cap sz ∧ v = .pointer (some ⟨b, 0, none⟩))) :
    PrepOk fm B w G H (v :: vs) k ⟨x :: y.args, blk :: y.rows, ids ++ y.ids, (id, bx) :: y.bs⟩ := by
  have up1 : ∀ {u : Value} {d : D}, RepC fm (okI (okB B G H w) G H ids) w u d → RepC fm (okI (okB B G H w) G H (ids ++ y.ids)) w u d := fun hr => okI_mono (fun i hi => by simp [hi]) hr
  have up2 : ∀ {u : Value} {d : D}, RepC fm (okI (okB B G H w) G H y.ids) w u d → RepC fm (okI (okB B G H w) G H (ids ++ y.ids)) w u d := fun hr => okI_mono (fun i hi => by simp [hi]) hr
  refine ⟨by simp [h.rows], fun m id' bx' hm => ?_, fun j u d hj hd => ?_⟩
  · cases m with
    | zero =>
      simp at hm
      obtain ⟨rfl, rfl⟩ := hm
      obtain ⟨sz, es, es', b, cap, a1, a2, rfl, a4⟩ := hrow
      exact ⟨sz, es, es', b, cap, a1, a2, rfl, a4.mono (fun v d hv => up1 hv) rfl⟩
    | succ m =>
      obtain ⟨sz, es, es', b, cap, a1, a2, a3, a4⟩ := h.row m id' bx' (by simpa using hm)
      exact ⟨sz, es, es', b, cap, a1, a2, by simpa using a3, a4.mono (fun v d hv => up2 hv) rfl⟩
  · cases j with
    | zero =>
      simp at hj hd
      subst hj; subst hd
      rcases harg with ⟨b, cap, sz, len, rfl, a2, a3⟩ | ⟨b, cap, sz, rfl, a2, rfl⟩
      · exact .inr (.inl ⟨0, id, bx, b, cap, sz, len, rfl, rfl, a2, a3⟩)
      · exact .inr (.inr ⟨0, id, bx, b, cap, sz, rfl, rfl, a2, rfl⟩)
    | succ j =>
      rcases h.arg j u d (by simpa using hj) (by simpa using hd) with h | ⟨m, id', bx', b, cap, sz, len, rfl, a1, a2, a3⟩ | ⟨m, id', bx', b, cap, sz, rfl, a1, a2, a3⟩
      · exact .inl (up2 h)
      · exact .inr (.inl ⟨m + 1, id', bx', b, cap, sz, len, by rw [show k + 1 + m = k + (m + 1) by omega], by simpa using a1, a2, a3⟩)
      · exact .inr (.inr ⟨m + 1, id', bx', b, cap, sz, by rw [show k + 1 + m = k + (m + 1) by omega], by simpa using a1, a2, a3⟩)

theorem PrepOk.plain {v : Value} {vs : List Value} {k : Nat} {y : Prep} (h : PrepOk fm B w G H vs k y) {x : D} {ids : List Nat} (hx : RepC fm (okI (okB B G H w) G H ids) w v x) :
    PrepOk fm B w G H (v :: vs) k ⟨x :: y.args, y.rows, ids ++ y.ids, y.bs⟩ := by
  have up1 : ∀ {u : Value} {d : D}, RepC fm (okI (okB B G H w) G H ids) w u d → RepC fm (okI (okB B G H w) G H (ids ++ y.ids)) w u d := fun hr => okI_mono (fun i hi => by simp [hi]) hr
  have up2 : ∀ {u : Value} {d : D}, RepC fm (okI (okB B G H w) G H y.ids) w u d → RepC fm (okI (okB B G H w) G H (ids ++ y.ids)) w u d := fun hr => okI_mono (fun i hi => by simp [hi]) hr
  refine ⟨h.rows, fun m id' bx' hm => ?_, fun j u d hj hd => ?_⟩
  · obtain ⟨sz, es, es', b, cap, a1, a2, a3, a4⟩ := h.row m id' bx' hm
    exact ⟨sz, es, es', b, cap, a1, a2, a3, a4.mono (fun v d hv => up2 hv) rfl⟩
  · cases j with
    | zero =>
      simp at hj hd
      subst hj; subst hd
      exact .inl (up1 hx)
    | succ j =>
      rcases h.arg j u d (by simpa using hj) (by simpa using hd) with h | h | h
      · exact .inl (up2 h)
      · exact .inr (.inl h)
      · exact .inr (.inr h)

theorem prep_ok (hI : Inv fm B w G H) : ∀ {args : List (Nat × D)} {vs : List Value} {k : Nat} {p : Prep}, vs.length = args.length →
    (∀ (j : Nat) (v : Value) (q : Nat × D), vs[j]? = some v → args[j]? = some q → Rep fm G (okB B G H w) w v q.2) → (prep args k).run H = some p →
    p.args.length = args.length ∧ PrepOk fm B w G H vs k p
  | [], [], k, p, _, _, h => by
    simp only [prep, Eff.run, Option.some.injEq] at h
    subst h
    exact ⟨rfl, rfl, by simp, by simp⟩
  | (m, d) :: rest, v :: vs, k, p, hl, hr, h => by
    have hv : Rep fm G (okB B G H w) w v d := hr 0 v (m, d) rfl rfl
    have hr' : ∀ (j : Nat) (v : Value) (q : Nat × D), vs[j]? = some v → rest[j]? = some q → Rep fm G (okB B G H w) w v q.2 := fun j u q h1 h2 => hr (j + 1) u q (by simpa using h1) (by simpa using h2)
    have hl' : vs.length = rest.length := by simpa using hl
    have fz : ∀ {v d x}, (frz fuelF d).run H = some x → Rep fm G (okB B G H w) w v d → RepC fm (okI (okB B G H w) G H x.2) w v x.1 := fun h hv => frz_ok hI fuelF h hv
    unfold prep at h
    split at h
    · rename_i id off len
      obtain ⟨⟨sz', es', l1⟩, l2⟩ := run_live h
      obtain ⟨sz, es, lv, g1, g2⟩ := run_get l2
      rw [l1] at g1
      injection g1 with q1 q2 q3
      subst q1; subst q2; subst q3
      split at g2
      · rename_i hc
        obtain ⟨rfl, rfl⟩ := hc
        obtain ⟨x, h3, h4⟩ := run_bind' g2
        obtain ⟨y, h5, h6⟩ := run_bind' h4
        simp only [Eff.run, Option.some.injEq] at h6
        subst h6
        obtain ⟨p1, p2⟩ := prep_ok hI hl' hr' h5
        obtain ⟨b, cap, k1, k2, k3⟩ := hI.rows id sz' es' true l1
        exact ⟨by simp [p1], p2.cons ⟨sz', es', x.1, b, cap, l1, k1, rfl, eachE_ok fz h3 k3⟩ (.inl ⟨b, cap, sz', es'.length, rfl, k1, hv.inv_ref k1⟩)⟩
      · simp [Eff.run] at g2
    · rename_i id off
      obtain ⟨⟨sz', es', l1⟩, l2⟩ := run_live h
      obtain ⟨sz, es, lv, g1, g2⟩ := run_get l2
      rw [l1] at g1
      injection g1 with q1 q2 q3
      subst q1; subst q2; subst q3
      split at g2
      · rename_i hc
        subst hc
        obtain ⟨x, h3, h4⟩ := run_bind' g2
        obtain ⟨y, h5, h6⟩ := run_bind' h4
        simp only [Eff.run, Option.some.injEq] at h6
        subst h6
        obtain ⟨p1, p2⟩ := prep_ok hI hl' hr' h5
        obtain ⟨b, cap, k1, k2, k3⟩ := hI.rows id sz' es' true l1
        exact ⟨by simp [p1], p2.cons ⟨sz', es', x.1, b, cap, l1, k1, rfl, eachE_ok fz h3 k3⟩ (.inr ⟨b, cap, sz', rfl, k1, hv.inv_ptr k1⟩)⟩
      · simp [Eff.run] at g2
    · obtain ⟨x, h3, h4⟩ := run_bind' h
      obtain ⟨y, h5, h6⟩ := run_bind' h4
      simp only [Eff.run, Option.some.injEq] at h6
      subst h6
      obtain ⟨p1, p2⟩ := prep_ok hI hl' hr' h5
      exact ⟨by simp [p1], p2.plain (fz h3 hv)⟩

/-! ### lists of numbers -/
theorem nodup_iff : ∀ {l : List Nat}, nodup l = true → ∀ {i j x : Nat}, l[i]? = some x → l[j]? = some x → i = j
  | [], _, i, j, x, h, _ => by simp at h
  | y :: l, hn, i, j, x, h1, h2 => by
    simp only [nodup, Bool.and_eq_true, Bool.not_eq_true', List.contains_eq_mem, decide_eq_false_iff_not] at hn
    obtain ⟨n1, n2⟩ := hn
    cases i with
    | zero =>
      cases j with
      | zero => rfl
      | succ j =>
        simp at h1 h2
        subst h1
        exact absurd (List.mem_of_getElem? h2) n1
    | succ i =>
      cases j with
      | zero =>
        simp at h1 h2
        subst h2
        exact absurd (List.mem_of_getElem? h1) n1
      | succ j =>
        have := nodup_iff n2 (i := i) (j := j) (x := x) (by simpa using h1) (by simpa using h2)
        omega
theorem apart_iff {xs ys : List Nat} (h : apart xs ys = true) {x : Nat} (h1 : x ∈ xs) (h2 : x ∈ ys) : False := by
  simp only [apart, List.all_eq_true, Bool.not_eq_true', List.contains_eq_mem, decide_eq_false_iff_not] at h
  exact h x h1 h2

/-! ### results -/
theorem frz_notOwn {n : Nat} {d : D} {x : D × List Nat} (h : (frz n d).run H = some x) : ∀ sz es, x.1 ≠ .own sz es := by
  intro sz es e
  cases n with
  | zero => simp [frz, Eff.run] at h
  | succ n =>
    cases d <;> simp only [frz] at h
    case ref id off len =>
      obtain ⟨_, _, _, _, h2⟩ := run_get h
      split at h2
      · obtain ⟨y, _, h4⟩ := run_bind' h2
        simp only [Eff.run, Option.some.injEq] at h4
        subst h4; cases e
      · simp [Eff.run] at h2
    case ptr id off =>
      obtain ⟨_, _, _, _, h2⟩ := run_get h
      split at h2
      · obtain ⟨y, _, h4⟩ := run_bind' h2
        simp only [Eff.run, Option.some.injEq] at h4
        subst h4; cases e
      · simp [Eff.run] at h2
    case agg cs =>
      obtain ⟨y, _, h4⟩ := run_bind' h
      simp only [Eff.run, Option.some.injEq] at h4
      subst h4; cases e
    case tup => simp [Eff.run] at h
    case own => simp [Eff.run] at h
    all_goals
      simp only [Eff.run, Option.some.injEq] at h
      subst h; cases e

theorem exp1_ok (hI : Inv fm B w G H) {v : Value} {d : D} {x : D × List Nat × List Nat} (hv : Rep fm G (okB B G H w) w v d) (h : exp1 H d = some x) :
    (x.2.1 = [] ∧ (∀ sz es, x.1 ≠ .own sz es) ∧ RepC fm (okI (okB B G H w) G H x.2.2) w v x.1) ∨
    (∃ id sz es es' b cap, x.2.1 = [id] ∧ x.1 = .own sz es' ∧ hat H id = .row sz es true ∧ G id = .row b cap sz ∧ RefV v b cap sz 0 es'.length ∧ RowOk (RepC fm (okI (okB B G H w) G H x.2.2) w) w sz es' b cap) := by
  have fz : ∀ {v d x}, (frz fuelF d).run H = some x → Rep fm G (okB B G H w) w v d → RepC fm (okI (okB B G H w) G H x.2) w v x.1 := fun h hv => frz_ok hI fuelF h hv
  have plain : ((frz fuelF d).run H).map (fun x => (x.1, ([] : List Nat), x.2)) = some x → (x.2.1 = [] ∧ (∀ sz es, x.1 ≠ .own sz es) ∧ RepC fm (okI (okB B G H w) G H x.2.2) w v x.1) := by
    intro h
    simp only [Option.map_eq_some_iff] at h
    obtain ⟨y, h1, rfl⟩ := h
    exact ⟨rfl, frz_notOwn h1, fz h1 hv⟩
  unfold exp1 at h
  split at h
  · rename_i id off len
    split at h
    · rename_i sz es hh
      split at h
      · rename_i hc
        obtain ⟨rfl, rfl⟩ := hc
        simp only [Option.map_eq_some_iff] at h
        obtain ⟨y, h1, rfl⟩ := h
        obtain ⟨b, cap, k1, k2, k3⟩ := hI.rows id sz es true hh
        refine .inr ⟨id, sz, es, y.1, b, cap, rfl, rfl, hh, k1, ?_, eachE_ok fz h1 k3⟩
        rw [(eachE_run h1).1]
        exact hv.inv_ref k1
      · exact .inl (plain h)
    · exact .inl (plain h)
  · exact .inl (plain h)

/-- What comes back, and where it is kept. -/
structure ExpOk (fm : Nat → Nat) (B : Base) (w : World) (G : Gh) (H : Heap) (vs : List Value) (l : List D) (im : List (Nat × Blk)) (U V : List Nat) : Prop where
  len : im.length = U.length
  row : ∀ (k q : Nat) (blk : Blk), im[k]? = some (q, blk) → ∃ u sz es es' b cap, U[k]? = some u ∧ blk = .row sz es' true ∧ hat H u = .row sz es true ∧ G u = .row b cap sz ∧
    RowOk (RepC fm (okI (okB B G H w) G H V) w) w sz es' b cap
  res : ∀ (j : Nat) (v : Value) (d : D), vs[j]? = some v → l[j]? = some d → RepC fm (okI (okB B G H w) G H V) w v d ∨
    (∃ (k q : Nat) (blk : Blk) (u b cap sz len : Nat), d = .ref q 0 len ∧ im[k]? = some (q, blk) ∧ U[k]? = some u ∧ G u = .row b cap sz ∧ RefV v b cap sz 0 len)

theorem exp_ok (hI : Inv fm B w G H) : ∀ {ds : List D} {vs : List Value} {x : List D × List Nat × List Nat}, vs.length = ds.length →
    (∀ (j : Nat) (v : Value) (d : D), vs[j]? = some v → ds[j]? = some d → Rep fm G (okB B G H w) w v d) → expL H ds = some x → ∀ r,
    x.1.length = ds.length ∧ (impL r x.1).1.length = ds.length ∧ ExpOk fm B w G H vs (impL r x.1).1 (impL r x.1).2 x.2.1 x.2.2 ∧ (∀ q ∈ (impL r x.1).2.map (·.1), r ≤ q) ∧ nodup ((impL r x.1).2.map (·.1)) = true
  | [], [], x, _, _, h, r => by
    simp only [expL, Option.some.injEq] at h
    subst h
    exact ⟨rfl, rfl, ⟨rfl, by simp [impL], by simp⟩, by simp [impL], rfl⟩
  | d :: ds, v :: vs, x, hl, hr, h, r => by
    simp only [expL, Option.bind_eq_some_iff] at h
    obtain ⟨a, h1, y, h2, h3⟩ := h
    simp only [Option.some.injEq] at h3
    subst h3
    have hv := hr 0 v d rfl rfl
    obtain ⟨i1, i2, i3, i4, i5⟩ := exp_ok hI (by simpa using hl) (fun j u e h1 h2 => hr (j + 1) u e (by simpa using h1) (by simpa using h2)) h2 (r + 1)
    have up1 : ∀ {u : Value} {e : D}, RepC fm (okI (okB B G H w) G H a.2.2) w u e → RepC fm (okI (okB B G H w) G H (a.2.2 ++ y.2.2)) w u e := fun hr => okI_mono (fun i hi => by simp [hi]) hr
    have up2 : ∀ {u : Value} {e : D}, RepC fm (okI (okB B G H w) G H y.2.2) w u e → RepC fm (okI (okB B G H w) G H (a.2.2 ++ y.2.2)) w u e := fun hr => okI_mono (fun i hi => by simp [hi]) hr
    rcases exp1_ok hI hv h1 with ⟨e1, e2, e3⟩ | ⟨id, sz, es, es', b, cap, e1, e2, e3, e4, e5, e6⟩
    · have him : imp1 r a.1 = (a.1, []) := by
        unfold imp1
        split
        · rename_i sz es e
          exact absurd e (e2 sz es)
        · rfl
      simp only [impL, him, e1, List.nil_append]
      refine ⟨by simp [i1], by simp [i2], ⟨i3.len, fun k q blk hk => ?_, fun j u e hj he => ?_⟩, fun q hq => by have := i4 q hq; omega, i5⟩
      · obtain ⟨u, sz, es, es', b, cap, a1, a2, a3, a4, a5⟩ := i3.row k q blk hk
        exact ⟨u, sz, es, es', b, cap, a1, a2, a3, a4, a5.mono (fun v d hv => up2 hv) rfl⟩
      · cases j with
        | zero => simp at hj he; subst hj; subst he; exact .inl (up1 e3)
        | succ j =>
          rcases i3.res j u e (by simpa using hj) (by simpa using he) with h | h
          · exact .inl (up2 h)
          · exact .inr h
    · have him : imp1 r a.1 = (.ref r 0 es'.length, [(r, .row sz es' true)]) := by rw [e2]; rfl
      simp only [impL, him, e1, List.singleton_append]
      refine ⟨by simp [i1], by simp [i2], ⟨by simp [i3.len], fun k q blk hk => ?_, fun j u e hj he => ?_⟩, fun q hq => ?_, ?_⟩
      · cases k with
        | zero =>
          simp at hk
          obtain ⟨rfl, rfl⟩ := hk
          exact ⟨id, sz, es, es', b, cap, rfl, rfl, e3, e4, e6.mono (fun v d hv => up1 hv) rfl⟩
        | succ k =>
          obtain ⟨u, sz, es, es', b, cap, a1, a2, a3, a4, a5⟩ := i3.row k q blk (by simpa using hk)
          exact ⟨u, sz, es, es', b, cap, by simpa using a1, a2, a3, a4, a5.mono (fun v d hv => up2 hv) rfl⟩
      · cases j with
        | zero =>
          simp at hj he
          subst hj; subst he
          exact .inr ⟨0, r, _, id, b, cap, sz, es'.length, rfl, rfl, rfl, e4, e5⟩
        | succ j =>
          rcases i3.res j u e (by simpa using hj) (by simpa using he) with h | ⟨k, q, blk, u', b', cap', sz', len, a1, a2, a3, a4, a5⟩
          · exact .inl (up2 h)
          · exact .inr ⟨k + 1, q, blk, u', b', cap', sz', len, a1, by simpa using a2, by simpa using a3, a4, a5⟩
      · simp only [List.map_cons, List.mem_cons] at hq
        rcases hq with rfl | hq
        · exact Nat.le_refl _
        · have := i4 q hq; omega
      · simp only [List.map_cons, nodup, Bool.and_eq_true, Bool.not_eq_true', List.contains_eq_mem, decide_eq_false_iff_not]
        exact ⟨fun hq => by have := i4 r hq; omega, i5⟩

theorem expB_ok (hI : Inv fm B w G H) : ∀ {bs : List (Nat × Bool)} {k : Nat} {x : List (Nat × Blk) × List Nat}, expB H k bs = some x →
    x.1.length = bs.length ∧ ∀ (m id : Nat) (bx : Bool), bs[m]? = some (id, bx) → (bx = false ∧ x.1[m]? = some (id, .dead)) ∨
      (bx = true ∧ k + m ∈ boxKs k bs ∧ ∃ sz es es' b cap, x.1[m]? = some (id, .row sz es' true) ∧ hat H (k + m) = .row sz es true ∧ G (k + m) = .row b cap sz ∧ RowOk (RepC fm (okI (okB B G H w) G H x.2) w) w sz es' b cap)
  | [], k, x, h => by
    simp only [expB, Option.some.injEq] at h
    subst h
    exact ⟨rfl, by simp⟩
  | (id0, true) :: bs, k, x, h => by
    simp only [expB] at h
    split at h
    · rename_i sz es hh
      simp only [Option.bind_eq_some_iff] at h
      obtain ⟨a, h1, y, h2, h3⟩ := h
      simp only [Option.some.injEq] at h3
      subst h3
      obtain ⟨i1, i2⟩ := expB_ok hI h2
      have fz : ∀ {v d x}, (frz fuelF d).run H = some x → Rep fm G (okB B G H w) w v d → RepC fm (okI (okB B G H w) G H x.2) w v x.1 := fun h hv => frz_ok hI fuelF h hv
      have up1 : ∀ {u : Value} {e : D}, RepC fm (okI (okB B G H w) G H a.2) w u e → RepC fm (okI (okB B G H w) G H (a.2 ++ y.2)) w u e := fun hr => okI_mono (fun i hi => by simp [hi]) hr
      have up2 : ∀ {u : Value} {e : D}, RepC fm (okI (okB B G H w) G H y.2) w u e → RepC fm (okI (okB B G H w) G H (a.2 ++ y.2)) w u e := fun hr => okI_mono (fun i hi => by simp [hi]) hr
      refine ⟨by simp [i1], fun m id bx hm => ?_⟩
      cases m with
      | zero =>
        simp at hm
        obtain ⟨rfl, rfl⟩ := hm
        obtain ⟨b, cap, k1, k2, k3⟩ := hI.rows k sz es true hh
        exact .inr ⟨rfl, by simp [boxKs], sz, es, a.1, b, cap, rfl, hh, k1, (eachE_ok fz h1 k3).mono (fun v d hv => up1 hv) rfl⟩
      | succ m =>
        rcases i2 m id bx (by simpa using hm) with ⟨h, h'⟩ | ⟨h, hk, sz', es', es'', b, cap, a1, a2, a3, a4⟩
        · exact .inl ⟨h, by simpa using h'⟩
        · refine .inr ⟨h, ?_, sz', es', es'', b, cap, by simpa using a1, ?_, ?_, a4.mono (fun v d hv => up2 hv) rfl⟩
          · rw [show k + (m + 1) = k + 1 + m by omega]; simp [boxKs, hk]
          · rw [show k + (m + 1) = k + 1 + m by omega]; exact a2
          · rw [show k + (m + 1) = k + 1 + m by omega]; exact a3
    · cases h
  | (id0, false) :: bs, k, x, h => by
    simp only [expB, Option.bind_eq_some_iff] at h
    obtain ⟨y, h2, h3⟩ := h
    simp only [Option.some.injEq] at h3
    subst h3
    obtain ⟨i1, i2⟩ := expB_ok hI h2
    refine ⟨by simp [i1], fun m id bx hm => ?_⟩
    cases m with
    | zero =>
      simp at hm
      obtain ⟨rfl, rfl⟩ := hm
      exact .inl ⟨rfl, rfl⟩
    | succ m =>
      rcases i2 m id bx (by simpa using hm) with ⟨h, h'⟩ | ⟨h, hk, sz', es', es'', b, cap, a1, a2, a3, a4⟩
      · exact .inl ⟨h, by simpa using h'⟩
      · refine .inr ⟨h, ?_, sz', es', es'', b, cap, by simpa using a1, ?_, ?_, a4⟩
        · rw [show k + (m + 1) = k + 1 + m by omega]; simp [boxKs, hk]
        · rw [show k + (m + 1) = k + 1 + m by omega]; exact a2
        · rw [show k + (m + 1) = k + 1 + m by omega]; exact a3

/-! ### writing many rows -/
theorem doWs_length : ∀ (ws : List (Nat × Blk)) (H : Heap), (doWs H ws).length = H.length
  | [], H => rfl
  | (i, b) :: ws, H => by simp [doWs, doWs_length ws]
theorem doWs_other : ∀ (ws : List (Nat × Blk)) (H : Heap) (j : Nat), (∀ x ∈ ws, x.1 ≠ j) → hat (doWs H ws) j = hat H j
  | [], H, j, _ => rfl
  | (i, b) :: ws, H, j, h => by
    rw [doWs, doWs_other ws _ j (fun x hx => h x (by simp [hx])), hat_set_ne _ (h (i, b) (by simp))]
theorem doWs_at : ∀ (ws : List (Nat × Blk)) (H : Heap) (k i : Nat) (b : Blk), nodup (ws.map (·.1)) = true → ws[k]? = some (i, b) → i < H.length → hat (doWs H ws) i = b
  | [], H, k, i, b, _, h, _ => by simp at h
  | (i0, b0) :: ws, H, k, i, b, hn, h, hl => by
    simp only [List.map_cons, nodup, Bool.and_eq_true, Bool.not_eq_true', List.contains_eq_mem, decide_eq_false_iff_not] at hn
    cases k with
    | zero =>
      simp at h
      obtain ⟨rfl, rfl⟩ := h
      rw [doWs, doWs_other ws _ i0 (fun x hx e => hn.1 (by rw [← e]; exact List.mem_map_of_mem hx)), hat_set_same hl]
    | succ k => exact doWs_at ws _ k i b hn.2 (by simpa using h) (by simpa using hl)
theorem freeze_freeze (b : Blk) : freeze (freeze b) = freeze b := by cases b <;> rfl
theorem doFz_at : ∀ (is : List Nat) (H : Heap) (j : Nat), hat (doFz H is) j = if j ∈ is then freeze (hat H j) else hat H j
  | [], H, j => by simp [doFz]
  | i :: is, H, j => by
    rw [doFz, doFz_at is, hat_modify]
    by_cases h1 : j ∈ is
    · by_cases h2 : i = j
      · simp [h1, h2, freeze_freeze]
      · simp [h1, h2]
    · by_cases h2 : i = j
      · subst h2; simp [h1]
      · have : ¬ j = i := fun e => h2 e.symm
        simp [h1, h2, this]
theorem nodup_append {xs ys : List Nat} (h1 : nodup xs = true) (h2 : nodup ys = true) (h3 : ∀ x ∈ xs, x ∉ ys) : nodup (xs ++ ys) = true := by
  induction xs with
  | nil => simpa using h2
  | cons x xs ih =>
    simp only [nodup, Bool.and_eq_true, Bool.not_eq_true', List.contains_eq_mem, decide_eq_false_iff_not, List.cons_append] at h1 ⊢
    refine ⟨?_, ih h1.2 (fun y hy => h3 y (by simp [hy]))⟩
    simp only [List.mem_append, not_or]
    exact ⟨h1.1, h3 x (by simp)⟩
end
end Go.Pi
