import Derived.Test.YtghncdeldlknnaaPiM
/-
  CALLS, the whole: a call that the abstract interpreter carries out is carried out by the machine.
-/
set_option linter.all false
namespace Go.Pi
set_option linter.unusedVariables false
section
variable {P : Program} {fm : Nat → Nat} {B : Base} {w : World} {G : Gh} {H : Heap} {o : Oper} {a : Act} {ts : List D} {call : CallF} {r : Nat} {out : Out}

/-- What is called does what the abstract interpreter says. -/
def Sound (P : Program) (fm : Nat → Nat) (call : CallF) : Prop :=
  ∀ (f : Nat) (args : List D) (H : Heap) (d : D) (H' : Heap), call f args H = some (d, H') → ∀ (B : Base) (w : World) (G : Gh) (vs : List Value), Inv fm B w G H → vs.length = args.length →
    (∀ (j : Nat) (v : Value) (x : D), vs[j]? = some v → args[j]? = some x → Rep fm G (okB B G H w) w v x) →
    Calls P (fm f) vs.toArray w fun e w' => ∃ v G', e = .returned v ∧ Adv B w G H w' G' H' ∧ Inv fm B w' G' H' ∧ Rep fm G' (okB B G' H' w') w' v d

theorem run_newL {l : List Nat} {x : Out} : ∀ {y : Out}, (newL l (.pure x)).run H = some y → y = x ∧ ∀ i ∈ l, i < H.length ∧ hat H i = .fresh := by
  induction l with
  | nil => intro y h; simp [newL, Eff.run] at h; exact ⟨h.symm, by simp⟩
  | cons i l ih =>
    intro y h
    obtain ⟨h1, h2, h3⟩ := run_new (by exact h)
    obtain ⟨k1, k2⟩ := ih h3
    exact ⟨k1, fun j hj => by
      simp only [List.mem_cons] at hj
      rcases hj with rfl | hj
      · exact ⟨h1, h2⟩
      · exact k2 j hj⟩

/-- The ghosts behind the call: rows that came back are where the callee had them. -/
noncomputable def backG (G G1 : Gh) (qs U : List Nat) : Gh := fun j =>
  open Classical in if h : ∃ (k u : Nat), qs[k]? = some j ∧ U[k]? = some u then G1 (Classical.choose (Classical.choose_spec h)) else G j
theorem backG_at {G G1 : Gh} {qs U : List Nat} (hn : nodup qs = true) {k q u : Nat} (h1 : qs[k]? = some q) (h2 : U[k]? = some u) : backG G G1 qs U q = G1 u := by
  have h : ∃ (k u : Nat), qs[k]? = some q ∧ U[k]? = some u := ⟨k, u, h1, h2⟩
  have hs := Classical.choose_spec (Classical.choose_spec h)
  unfold backG
  rw [dif_pos h]
  have e := nodup_iff hn hs.1 h1
  have h3 := (congrArg (fun i => U[i]?) e.symm).trans hs.2
  simp only [h2] at h3
  injection h3 with h3
  rw [← h3]
theorem backG_other {G G1 : Gh} {qs U : List Nat} {j : Nat} (h : ∀ x ∈ qs, x ≠ j) : backG G G1 qs U j = G j := by
  unfold backG
  rw [dif_neg]
  rintro ⟨k, u, h1, _⟩
  exact h j (List.mem_of_getElem? h1) rfl

/-- THE CALLER's STATE BEHIND A CALL. -/
theorem back_ok (hI : Inv fm B w G H) {p : Prep} {vs : List Value} (hp : PrepOk fm B w G H vs 0 p) (hnod : nodup (p.bs.map (·.1)) = true) (hap : apart (p.bs.map (·.1)) p.ids = true)
    {B1 : Base} {w1 : World} {G1 : Gh} {H1 : Heap}
    (hB1 : B1 = { A := fun b => okI (okB B G H w) G H p.ids b ∧ ¬ (∃ (m id : Nat) (bx : Bool) (cap sz : Nat), p.bs[m]? = some (id, bx) ∧ G id = .row b cap sz), W0 := w,
                  L0 := fun b => ∃ (m id : Nat) (bx : Bool) (cap sz : Nat), p.bs[m]? = some (id, bx) ∧ G id = .row b cap sz })
    (hI1 : Inv fm B1 w1 G1 H1) (hG1 : ∀ (m id : Nat) (bx : Bool), p.bs[m]? = some (id, bx) → G1 m = G id)
    {rv : List Value} {l : List D} {im : List (Nat × Blk)} {U V1 : List Nat} (hE : ExpOk fm B1 w1 G1 H1 rv l im U V1) (hqn : nodup (im.map (·.1)) = true) (hqf : ∀ q ∈ im.map (·.1), q < H.length ∧ hat H q = .fresh)
    {ws : List (Nat × Blk)} {V2 : List Nat} (hB2 : ws.length = p.bs.length ∧ ∀ (m id : Nat) (bx : Bool), p.bs[m]? = some (id, bx) → (bx = false ∧ ws[m]? = some (id, .dead)) ∨
      (bx = true ∧ 0 + m ∈ boxKs 0 p.bs ∧ ∃ sz es es' b cap, ws[m]? = some (id, .row sz es' true) ∧ hat H1 (0 + m) = .row sz es true ∧ G1 (0 + m) = .row b cap sz ∧ RowOk (RepC fm (okI (okB B1 G1 H1 w1) G1 H1 V2) w1) w1 sz es' b cap))
    (hU : nodup U = true) (hU1 : apart U V1 = true) (hU2 : apart U V2 = true) (hU3 : apart U (boxKs 0 p.bs) = true) (hK1 : apart (boxKs 0 p.bs) V1 = true) (hK2 : apart (boxKs 0 p.bs) V2 = true)
    {fz : List Nat} (hfz : fz = p.ids ∨ (fz = [] ∧ p.bs = [] ∧ ∀ (x : D), x ∈ l ∨ (∃ (k q sz : Nat) (es : List (List D)) (lv : Bool) (e : List D), im[k]? = some (q, Blk.row sz es lv) ∧ e ∈ es ∧ x ∈ e) → ∀ v ok ok', RepC fm ok w1 v x → RepC fm ok' w1 v x))
    {H2 : Heap} (hH2 : H2 = doFz (doWs H (ws ++ im)) fz) :
    Adv B w G H w1 (backG G G1 (im.map (·.1)) U) H2 ∧ Inv fm B w1 (backG G G1 (im.map (·.1)) U) H2 ∧
      ∀ (j : Nat) (v : Value) (x : D), rv[j]? = some v → l[j]? = some x → Rep fm (backG G G1 (im.map (·.1)) U) (okB B (backG G G1 (im.map (·.1)) U) H2 w1) w1 v x := by
  have hA1 : B1.A = fun b => okI (okB B G H w) G H p.ids b ∧ ¬ (∃ (m id : Nat) (bx : Bool) (cap sz : Nat), p.bs[m]? = some (id, bx) ∧ G id = .row b cap sz) := by rw [hB1]
  have hL1 : B1.L0 = fun b => ∃ (m id : Nat) (bx : Bool) (cap sz : Nat), p.bs[m]? = some (id, bx) ∧ G id = .row b cap sz := by rw [hB1]
  have hW1 : B1.W0 = w := by rw [hB1]
  have hsz : w.heap.size ≤ w1.heap.size := by have := hI1.size; rw [hW1] at this; exact this
  -- the keys
  have bsrow : ∀ {m id : Nat} {bx : Bool}, p.bs[m]? = some (id, bx) → ∃ sz es, hat H id = .row sz es true := fun hm => by
    obtain ⟨sz, es, _, _, _, h, _⟩ := hp.row _ _ _ hm
    exact ⟨sz, es, h⟩
  have bsrow' : ∀ {m id : Nat} {bx : Bool}, p.bs[m]? = some (id, bx) → isRow H id := fun hm => by
    obtain ⟨sz, es, h⟩ := bsrow hm
    exact ⟨sz, es, true, h⟩
  have wskey : ∀ {m : Nat} {x : Nat × Blk}, ws[m]? = some x → ∃ bx, p.bs[m]? = some (x.1, bx) := by
    intro m x hx
    have hm : m < p.bs.length := by rw [← hB2.1]; exact (List.getElem?_eq_some_iff.1 hx).1
    rcases hB2.2 m p.bs[m].1 p.bs[m].2 (List.getElem?_eq_getElem hm) with ⟨_, h⟩ | ⟨_, _, sz, es, es', b, cap, h, _⟩
    · rw [hx] at h; injection h with h; subst h; exact ⟨_, List.getElem?_eq_getElem hm⟩
    · rw [hx] at h; injection h with h; subst h; exact ⟨_, List.getElem?_eq_getElem hm⟩
  have hwsmap : ws.map (·.1) = p.bs.map (·.1) := by
    apply List.ext_getElem?
    intro m
    rw [List.getElem?_map, List.getElem?_map]
    cases hx : ws[m]? with
    | none =>
      rw [List.getElem?_eq_none (by rw [← hB2.1]; exact List.getElem?_eq_none_iff.1 hx)]
      rfl
    | some x =>
      obtain ⟨bx, h⟩ := wskey hx
      rw [h]; rfl
  have hqne : ∀ {m id : Nat} {bx : Bool}, p.bs[m]? = some (id, bx) → id ∉ im.map (·.1) := fun hm hq => by
    obtain ⟨sz, es, h⟩ := bsrow hm
    rw [(hqf _ hq).2] at h
    cases h
  have hkeys : nodup ((ws ++ im).map (·.1)) = true := by
    rw [List.map_append]
    refine nodup_append (by rw [hwsmap]; exact hnod) hqn (fun x hx => ?_)
    rw [hwsmap] at hx
    obtain ⟨y, hy, rfl⟩ := List.mem_map.1 hx
    obtain ⟨m, hm, rfl⟩ := List.getElem_of_mem hy
    exact hqne (List.getElem?_eq_getElem hm)
  have hat2 : ∀ j, hat H2 j = if j ∈ fz then freeze (hat (doWs H (ws ++ im)) j) else hat (doWs H (ws ++ im)) j := fun j => by rw [hH2, doFz_at]
  have fzids : ∀ j ∈ fz, j ∈ p.ids := fun j hj => by
    rcases hfz with h | ⟨h, _⟩
    · rw [← h]; exact hj
    · rw [h] at hj; cases hj
  -- which rows are which
  have cases2 : ∀ j : Nat, (∃ (m : Nat) (bx : Bool), p.bs[m]? = some (j, bx)) ∨ (∃ (k : Nat) (blk : Blk), im[k]? = some (j, blk)) ∨ ((∀ x ∈ ws ++ im, x.1 ≠ j) ∧ (∀ q ∈ im.map (·.1), q ≠ j) ∧ ∀ (m : Nat) (bx : Bool), p.bs[m]? ≠ some (j, bx)) := by
    intro j
    by_cases h1 : ∃ (m : Nat) (bx : Bool), p.bs[m]? = some (j, bx)
    · exact .inl h1
    · by_cases h2 : ∃ (k : Nat) (blk : Blk), im[k]? = some (j, blk)
      · exact .inr (.inl h2)
      · refine .inr (.inr ⟨fun x hx e => ?_, fun q hq e => ?_, fun m bx hm => h1 ⟨m, bx, hm⟩⟩)
        · rcases List.mem_append.1 hx with hx | hx
          · obtain ⟨m, hm, rfl⟩ := List.getElem_of_mem hx
            obtain ⟨bx, hb⟩ := wskey (List.getElem?_eq_getElem hm)
            exact h1 ⟨m, bx, by rw [← e]; exact hb⟩
          · obtain ⟨k, hk, rfl⟩ := List.getElem_of_mem hx
            exact h2 ⟨k, im[k].2, by rw [List.getElem?_eq_getElem hk, ← e]⟩
        · subst e
          obtain ⟨x, hx, rfl⟩ := List.mem_map.1 hq
          obtain ⟨k, hk, rfl⟩ := List.getElem_of_mem hx
          exact h2 ⟨k, im[k].2, List.getElem?_eq_getElem hk⟩
  have atBs : ∀ {m j : Nat} {bx : Bool}, p.bs[m]? = some (j, bx) → hat H2 j = (ws[m]?.map (·.2)).getD .dead := by
    intro m j bx hm
    have hml : m < ws.length := by rw [hB2.1]; exact (List.getElem?_eq_some_iff.1 hm).1
    obtain ⟨bx', hb⟩ := wskey (List.getElem?_eq_getElem hml)
    rw [hm] at hb
    injection hb with hb
    have hj1 : ws[m].1 = j := by rw [Prod.mk.injEq] at hb; exact hb.1.symm
    have hnf : j ∉ fz := fun h => apart_iff hap (List.mem_map.2 ⟨(j, bx), List.mem_of_getElem? hm, rfl⟩) (fzids j h)
    rw [hat2, if_neg hnf, doWs_at (ws ++ im) H m j ws[m].2 hkeys (by rw [List.getElem?_append_left hml, List.getElem?_eq_getElem hml, ← hj1]) (hat_lt (by obtain ⟨_, _, h⟩ := bsrow hm; rw [h]; simp)), List.getElem?_eq_getElem hml]
    rfl
  have atIm : ∀ {k j : Nat} {blk : Blk}, im[k]? = some (j, blk) → hat (doWs H (ws ++ im)) j = blk := by
    intro k j blk hk
    exact doWs_at (ws ++ im) H (ws.length + k) j blk hkeys (by rw [List.getElem?_append_right (by omega), show ws.length + k - ws.length = k by omega]; exact hk) (hqf j (List.mem_map.2 ⟨(j, blk), List.mem_of_getElem? hk, rfl⟩)).1
  have atOther : ∀ {j : Nat}, (∀ x ∈ ws ++ im, x.1 ≠ j) → hat H2 j = if j ∈ fz then freeze (hat H j) else hat H j := fun h => by rw [hat2, doWs_other _ _ _ h]
  -- a visited row is a row of the caller's; a fresh one is not
  have gIm : ∀ {k j : Nat} {blk : Blk}, im[k]? = some (j, blk) → ∃ u, U[k]? = some u ∧ backG G G1 (im.map (·.1)) U j = G1 u := by
    intro k j blk hk
    obtain ⟨u, sz, es, es', b, cap, h1, _⟩ := hE.row k j blk hk
    exact ⟨u, h1, backG_at hqn (by rw [List.getElem?_map, hk]; rfl) h1⟩
  have gBs : ∀ {m j : Nat} {bx : Bool}, p.bs[m]? = some (j, bx) → backG G G1 (im.map (·.1)) U j = G j := fun hm => backG_other (fun x hx e => hqne hm (by rw [← e]; exact hx))
  have gGe : gle G (backG G G1 (im.map (·.1)) U) := by
    intro j
    rcases cases2 j with ⟨m, bx, h⟩ | ⟨k, blk, h⟩ | ⟨_, h, _⟩
    · rw [gBs h]; exact GS.le_refl _
    · rw [hI.fresh j (hqf j (List.mem_map.2 ⟨(j, blk), List.mem_of_getElem? h, rfl⟩)).2]; trivial
    · rw [backG_other h]; exact GS.le_refl _
  -- the callee's blocks
  have l1blk : ∀ {b : Nat}, B1.L0 b → Lv G H b := by
    intro b hb
    rw [hL1] at hb
    obtain ⟨m, id, bx, cap, sz, h1, h2⟩ := hb
    obtain ⟨sz', es, h3⟩ := bsrow h1
    exact ⟨id, sz', es, cap, sz, h3, h2⟩
  have own1 : ∀ {u b cap sz : Nat}, isRow H1 u → G1 u = .row b cap sz → B1.L0 b ∨ w.heap.size ≤ b := by
    rintro u b cap sz ⟨sz', es, lv, hh⟩ hg
    obtain ⟨b', cap', h1, h2, _⟩ := hI1.rows u sz' es lv hh
    rw [hg] at h1
    injection h1 with e1 _ _
    subst e1
    rw [hW1] at h2
    exact h2
  have hframe : ∀ b, b < w.heap.size → ¬ Lv G H b → w1.heap[b]? = w.heap[b]? := by
    intro b hb hl
    have := hI1.frame b (by rw [hW1]; exact hb) (fun h => hl (l1blk h))
    rw [hW1] at this
    exact this
  -- rows that are live behind the call
  have lv2 : ∀ {b : Nat}, Lv (backG G G1 (im.map (·.1)) U) H2 b →
      (∃ (j cap sz sz' : Nat) (es : List (List D)), (∀ (m : Nat) (bx : Bool), p.bs[m]? ≠ some (j, bx)) ∧ j ∉ fz ∧ hat H j = .row sz' es true ∧ G j = .row b cap sz) ∨ (∃ (m cap sz sz' : Nat) (es : List (List D)), m ∈ boxKs 0 p.bs ∧ hat H1 m = .row sz' es true ∧ G1 m = .row b cap sz) ∨
      (∃ (u cap sz sz' : Nat) (es : List (List D)), u ∈ U ∧ hat H1 u = .row sz' es true ∧ G1 u = .row b cap sz) := by
    rintro b ⟨j, sz, es, cap, sz', h1, h2⟩
    rcases cases2 j with ⟨m, bx, h⟩ | ⟨k, blk, h⟩ | ⟨h, h', h''⟩
    · rw [atBs h] at h1
      rw [gBs h] at h2
      rcases hB2.2 m j bx h with ⟨_, hw⟩ | ⟨_, hk, sz2, es2, es2', b2, cap2, hw, hh, hg, _⟩
      · rw [hw] at h1; cases h1
      · rw [hG1 m j bx h |>.symm] at h2
        exact .inr (.inl ⟨m, cap, sz', sz2, es2, by simpa using hk, by simpa using hh, h2⟩)
    · obtain ⟨u, hu, hg⟩ := gIm h
      obtain ⟨u', sz2, es2, es2', b2, cap2, e1, e2, e3, e4, _⟩ := hE.row k j blk h
      rw [hu] at e1
      injection e1 with e1
      subst e1
      rw [hg] at h2
      exact .inr (.inr ⟨u, cap, sz', sz2, es2, List.mem_of_getElem? hu, e3, h2⟩)
    · rw [atOther h] at h1
      rw [backG_other h'] at h2
      split at h1
      · cases hh : hat H j <;> rw [hh] at h1 <;> simp [freeze] at h1
      · exact .inl ⟨j, cap, sz', sz, es, h'', by assumption, h1, h2⟩
  have hlv : ∀ b, Lv (backG G G1 (im.map (·.1)) U) H2 b → Lv G H b ∨ w.heap.size ≤ b := by
    intro b hb
    rcases lv2 hb with ⟨j, cap, sz, sz', es, _, _, h1, h2⟩ | ⟨m, cap, sz, sz', es, _, h1, h2⟩ | ⟨u, cap, sz, sz', es, _, h1, h2⟩
    · exact .inl ⟨j, sz', es, cap, sz, h1, h2⟩
    · exact (own1 ⟨_, _, _, h1⟩ h2).imp l1blk id
    · exact (own1 ⟨_, _, _, h1⟩ h2).imp l1blk id
  have hadv : Adv B w G H w1 (backG G G1 (im.map (·.1)) U) H2 := adv_mk gGe hsz hframe hlv
  -- closed data of the callee's lie where the caller's may
  have okdata : fz = p.ids → ∀ (V : List Nat), apart U V = true → apart (boxKs 0 p.bs) V = true → ∀ b, okI (okB B1 G1 H1 w1) G1 H1 V b → okB B (backG G G1 (im.map (·.1)) U) H2 w1 b := by
    intro hf V hUV hKV b hb
    have place : B1.A b ∨ B1.L0 b ∨ w.heap.size ≤ b := by
      rcases hb with ⟨h, _, _⟩ | ⟨v, hv, hr, cap, sz, hg⟩
      · rw [hW1] at h; exact h
      · exact .inr (own1 hr hg)
    have hblt : b < w1.heap.size := by
      rcases hb with ⟨_, _, h⟩ | ⟨v, hv, hr, cap, sz, hg⟩
      · exact h
      · exact hI1.blk_lt hr hg
    have live1 : ∀ {u cap sz sz' : Nat} {es : List (List D)}, hat H1 u = .row sz' es true → G1 u = .row b cap sz → (u ∈ V → False) → False := by
      intro u cap sz sz' es h1 h2 h3
      rcases hb with ⟨_, h, _⟩ | ⟨v, hv, hr, cap', sz'', hg⟩
      · exact h ⟨u, sz', es, cap, sz, h1, h2⟩
      · have := hI1.inj _ _ _ _ _ _ _ ⟨_, _, _, h1⟩ hr h2 hg
        subst this
        exact h3 hv
    refine ⟨?_, ?_, hblt⟩
    · rcases place with h | h | h
      · rw [hA1] at h
        rcases h.1 with h | ⟨id, _, ⟨sz', es, lv, hh⟩, cap, sz, hg⟩
        · exact h.1
        · obtain ⟨b', cap', k1, k2, _⟩ := hI.rows id sz' es lv hh
          rw [hg] at k1
          injection k1 with e1 _ _
          subst e1
          exact .inr k2
      · rw [hL1] at h
        obtain ⟨m, id, bx, cap, sz, h1, h2⟩ := h
        obtain ⟨sz', es, hh⟩ := bsrow h1
        obtain ⟨b', cap', k1, k2, _⟩ := hI.rows id sz' es true hh
        rw [h2] at k1
        injection k1 with e1 _ _
        subst e1
        exact .inr k2
      · exact .inr (.inr (Nat.le_trans hI.size h))
    · intro hl
      rcases lv2 hl with ⟨j, cap, sz, sz', es, hj1, hj2, h1, h2⟩ | ⟨m, cap, sz, sz', es, hm, h1, h2⟩ | ⟨u, cap, sz, sz', es, hu, h1, h2⟩
      · rcases place with h | h | h
        · rw [hA1] at h
          rcases h.1 with ⟨_, h', _⟩ | ⟨id, hid, hr, cap', sz'', hg⟩
          · exact h' ⟨j, sz', es, cap, sz, h1, h2⟩
          · have := hI.inj _ _ _ _ _ _ _ ⟨_, _, _, h1⟩ hr h2 hg
            subst this
            exact hj2 (by rw [hf]; exact hid)
        · rw [hL1] at h
          obtain ⟨m, id, bx, cap', sz'', k1, k2⟩ := h
          have := hI.inj _ _ _ _ _ _ _ ⟨_, _, _, h1⟩ (bsrow' k1) h2 k2
          subst this
          exact hj1 m bx k1
        · have := hI.blk_lt ⟨_, _, _, h1⟩ h2
          omega
      · exact live1 h1 h2 (fun h => apart_iff hKV hm h)
      · exact live1 h1 h2 (fun h => apart_iff hUV hu h)
  have cell1 : ∀ (ok ok' : Nat → Prop), (∀ b, ok b → ok' b) → ∀ {v : Value} {x : D}, RepC fm ok w1 v x → RepC fm ok' w1 v x := fun ok ok' h v x hr => hr.mono fm h (fun _ _ _ _ hc => hc)
  have datRes : ∀ (x : D), x ∈ l → ∀ v, RepC fm (okI (okB B1 G1 H1 w1) G1 H1 V1) w1 v x → RepC fm (okB B (backG G G1 (im.map (·.1)) U) H2 w1) w1 v x := by
    intro x hx v hr
    rcases hfz with h | ⟨_, _, h⟩
    · exact cell1 _ _ (okdata h V1 hU1 hK1) hr
    · exact h x (.inl hx) v _ _ hr
  have datIm : ∀ {k q sz : Nat} {es : List (List D)} {lv : Bool}, im[k]? = some (q, .row sz es lv) → ∀ {e : List D}, e ∈ es → ∀ {x : D}, x ∈ e → ∀ v, RepC fm (okI (okB B1 G1 H1 w1) G1 H1 V1) w1 v x →
      RepC fm (okB B (backG G G1 (im.map (·.1)) U) H2 w1) w1 v x := by
    intro k q sz es lv hk e he x hx v hr
    rcases hfz with h | ⟨_, _, h⟩
    · exact cell1 _ _ (okdata h V1 hU1 hK1) hr
    · exact h x (.inr ⟨k, q, sz, es, lv, e, hk, he, hx⟩) v _ _ hr
  have old : ∀ {j b cap sz : Nat}, isRow H j → G j = .row b cap sz → b < w.heap.size := fun h1 h2 => hI.blk_lt h1 h2
  -- rows behind the call are rows of one of the three kinds
  have row2 : ∀ {j : Nat}, isRow H2 j → (∃ (m : Nat), p.bs[m]? = some (j, true)) ∨ (∃ (k : Nat) (blk : Blk), im[k]? = some (j, blk)) ∨ ((∀ x ∈ ws ++ im, x.1 ≠ j) ∧ (∀ q ∈ im.map (·.1), q ≠ j) ∧ (∀ (m : Nat) (bx : Bool), p.bs[m]? ≠ some (j, bx)) ∧ isRow H j) := by
    rintro j ⟨sz, es, lv, hh⟩
    rcases cases2 j with ⟨m, bx, h⟩ | h | ⟨h, h', h''⟩
    · rw [atBs h] at hh
      rcases hB2.2 m j bx h with ⟨_, hw⟩ | ⟨hbx, _⟩
      · rw [hw] at hh; cases hh
      · subst hbx; exact .inl ⟨m, h⟩
    · exact .inr (.inl h)
    · refine .inr (.inr ⟨h, h', h'', ?_⟩)
      rw [atOther h] at hh
      split at hh
      · cases hx : hat H j with
        | fresh => rw [hx] at hh; cases hh
        | dead => rw [hx] at hh; cases hh
        | row a b c => exact ⟨a, b, c, hx⟩
      · exact ⟨sz, es, lv, hh⟩
  have imU : ∀ {k j : Nat} {blk : Blk}, im[k]? = some (j, blk) → ∃ u, U[k]? = some u ∧ isRow H1 u ∧ backG G G1 (im.map (·.1)) U j = G1 u := by
    intro k j blk h
    obtain ⟨u, hu, hg⟩ := gIm h
    obtain ⟨u', sz2, es2, es2', b2, cap2, e1, e2, e3, e4, _⟩ := hE.row k j blk h
    rw [hu] at e1
    injection e1 with e1
    subst e1
    exact ⟨u, hu, ⟨_, _, _, e3⟩, hg⟩
  refine ⟨hadv, inv_mk hI hsz ?_ ?_ ?_ hframe ?_ ?_ ?_ ?_, ?_⟩
  · have := hI1.os; rw [hW1] at this; exact this
  · have := hI1.tape; rw [hW1] at this; exact this
  · have := hI1.output; rw [hW1] at this; exact this
  · intro j sz es lv hh
    rcases cases2 j with ⟨m, bx, h⟩ | ⟨k, blk, h⟩ | ⟨h, h', h''⟩
    · have hh' := hh
      rw [atBs h] at hh
      rcases hB2.2 m j bx h with ⟨_, hw⟩ | ⟨hbx, hk, sz2, es2, es2', b2, cap2, hw, hat1, hg, hrow⟩
      · rw [hw] at hh; cases hh
      · rw [hw] at hh
        simp only [Option.map_some, Option.getD_some, Blk.row.injEq] at hh
        obtain ⟨rfl, rfl, rfl⟩ := hh
        have hGm := hG1 m j bx h
        simp only [Nat.zero_add] at hg
        rw [hGm] at hg
        obtain ⟨sz3, es3, hh3⟩ := bsrow h
        obtain ⟨b4, cap4, k1, k2, _⟩ := hI.rows j sz3 es3 true hh3
        rw [hg] at k1
        injection k1 with e1 e2 e3
        subst e1; subst e2; subst e3
        refine ⟨b2, cap2, by rw [gBs h]; exact hg, k2, hrow.mono (fun v d hv => .closed ?_) rfl⟩
        rcases hfz with hf | ⟨_, hf, _⟩
        · exact cell1 _ _ (okdata hf V2 hU2 hK2) hv
        · rw [hf] at h; simp at h
    · obtain ⟨u, hu, hg⟩ := gIm h
      obtain ⟨u', sz2, es2, es2', b2, cap2, e1, e2, e3, e4, e5⟩ := hE.row k j blk h
      rw [hu] at e1
      injection e1 with e1
      subst e1
      subst e2
      have hb : hat (doWs H (ws ++ im)) j = .row sz2 es2' true := atIm h
      have hsame : sz = sz2 ∧ es = es2' := by
        rw [hat2, hb] at hh
        split at hh <;> (simp only [freeze, Blk.row.injEq] at hh; exact ⟨hh.1.symm, hh.2.1.symm⟩)
      obtain ⟨rfl, rfl⟩ := hsame
      have hb2 := own1 ⟨_, _, _, e3⟩ e4
      refine ⟨b2, cap2, by rw [hg]; exact e4, ?_, ?_⟩
      · rcases hb2 with hb2 | hb2
        · rw [hL1] at hb2
          obtain ⟨m, id, bx, cap, sz', h1, h2⟩ := hb2
          obtain ⟨sz3, es3, hh3⟩ := bsrow h1
          obtain ⟨b4, cap4, k1, k2, _⟩ := hI.rows id sz3 es3 true hh3
          rw [h2] at k1
          injection k1 with q1 _ _
          subst q1
          exact k2
        · exact .inr (Nat.le_trans hI.size hb2)
      · obtain ⟨⟨c, T, r1, r2, r3⟩, r4, r5, r6⟩ := e5
        refine ⟨⟨c, T, r1, r2, fun i jj e d he hd => ?_⟩, r4, r5, r6⟩
        obtain ⟨v, a1, a2, a3⟩ := r3 i jj e d he hd
        exact ⟨v, a1, a2, .closed (datIm h (List.mem_of_getElem? he) (List.mem_of_getElem? hd) v a3)⟩
    · have hrowH : ∃ lv', hat H j = .row sz es lv' := by
        rw [atOther h] at hh
        split at hh
        · cases hx : hat H j with
          | fresh => rw [hx] at hh; cases hh
          | dead => rw [hx] at hh; cases hh
          | row x y z =>
            rw [hx] at hh
            simp only [freeze, Blk.row.injEq] at hh
            obtain ⟨rfl, rfl, _⟩ := hh
            exact ⟨z, rfl⟩
        · exact ⟨lv, hh⟩
      obtain ⟨lv', hh'⟩ := hrowH
      obtain ⟨b, cap, k1, k2, k3⟩ := hI.rows j sz es lv' hh'
      refine ⟨b, cap, by rw [backG_other h']; exact k1, k2, k3.mono (fun v d hv => hadv.rep hv) ?_⟩
      have := hI1.frame b (by rw [hW1]; exact k3.lt) (fun hl => by
        rw [hL1] at hl
        obtain ⟨m, id, bx, cap', sz', h1, h2⟩ := hl
        have := hI.inj _ _ _ _ _ _ _ ⟨_, _, _, hh'⟩ (bsrow' h1) k1 h2
        subst this
        exact h'' m bx h1)
      rw [hW1] at this
      exact this
  · intro j hh
    rcases cases2 j with ⟨m, bx, h⟩ | ⟨k, blk, h⟩ | ⟨h, h', h''⟩
    · rw [atBs h] at hh
      rcases hB2.2 m j bx h with ⟨_, hw⟩ | ⟨_, _, sz2, es2, es2', b2, cap2, hw, _⟩ <;> (rw [hw] at hh; cases hh)
    · obtain ⟨u', sz2, es2, es2', b2, cap2, e1, e2, e3, e4, e5⟩ := hE.row k j blk h
      rw [hat2, atIm h, e2] at hh
      split at hh <;> cases hh
    · rw [backG_other h']
      refine hI.fresh j ?_
      rw [atOther h] at hh
      split at hh
      · cases hx : hat H j <;> rw [hx] at hh <;> simp [freeze] at hh ⊢
      · exact hh
  · intro j hh
    rcases cases2 j with ⟨m, bx, h⟩ | ⟨k, blk, h⟩ | ⟨h, h', h''⟩
    · rw [gBs h]
      obtain ⟨sz, es, es', b, cap, _, hg, _⟩ := hp.row m j bx h
      rw [hg]; simp
    · obtain ⟨u', sz2, es2, es2', b2, cap2, e1, e2, e3, e4, e5⟩ := hE.row k j blk h
      rw [hat2, atIm h, e2] at hh
      split at hh <;> cases hh
    · rw [backG_other h']
      refine hI.dead j ?_
      rw [atOther h] at hh
      split at hh
      · cases hx : hat H j <;> rw [hx] at hh <;> simp [freeze] at hh ⊢
      · exact hh
  · intro i j b cap sz cap' sz' r1 r2 h1 h2
    rcases row2 r1 with ⟨m, hm⟩ | ⟨k, blk, hk⟩ | ⟨a1, a2, a3, a4⟩ <;> rcases row2 r2 with ⟨m', hm'⟩ | ⟨k', blk', hk'⟩ | ⟨b1, b2, b3, b4⟩
    · rw [gBs hm] at h1; rw [gBs hm'] at h2
      exact hI.inj _ _ _ _ _ _ _ (bsrow' hm) (bsrow' hm') h1 h2
    · rw [gBs hm] at h1
      obtain ⟨u, hu, ru, hg⟩ := imU hk'
      rw [hg] at h2
      rw [← hG1 m i true hm] at h1
      rcases hB2.2 m i true hm with ⟨hf, _⟩ | ⟨_, hbk, sz2, es2, es2', b2, cap2, _, hat1, _⟩
      · cases hf
      · simp only [Nat.zero_add] at hat1 hbk
        have := hI1.inj _ _ _ _ _ _ _ ⟨_, _, _, hat1⟩ ru h1 h2
        subst this
        exact (apart_iff hU3 (List.mem_of_getElem? hu) hbk).elim
    · rw [gBs hm] at h1; rw [backG_other b2] at h2
      exact hI.inj _ _ _ _ _ _ _ (bsrow' hm) b4 h1 h2
    · rw [gBs hm'] at h2
      obtain ⟨u, hu, ru, hg⟩ := imU hk
      rw [hg] at h1
      rw [← hG1 m' j true hm'] at h2
      rcases hB2.2 m' j true hm' with ⟨hf, _⟩ | ⟨_, hbk, sz2, es2, es2', b2, cap2, _, hat1, _⟩
      · cases hf
      · simp only [Nat.zero_add] at hat1 hbk
        have := hI1.inj _ _ _ _ _ _ _ ⟨_, _, _, hat1⟩ ru h2 h1
        subst this
        exact (apart_iff hU3 (List.mem_of_getElem? hu) hbk).elim
    · obtain ⟨u, hu, ru, hg⟩ := imU hk
      obtain ⟨u', hu', ru', hg'⟩ := imU hk'
      rw [hg] at h1; rw [hg'] at h2
      have := hI1.inj _ _ _ _ _ _ _ ru ru' h1 h2
      subst this
      have := nodup_iff hU hu hu'
      subst this
      rw [hk] at hk'
      injection hk' with hk'
      rw [Prod.mk.injEq] at hk'
      exact hk'.1
    · obtain ⟨u, hu, ru, hg⟩ := imU hk
      rw [hg] at h1; rw [backG_other b2] at h2
      rcases own1 ru h1 with h | h
      · rw [hL1] at h
        obtain ⟨m, id, bx, cap2, sz2, q1, q2⟩ := h
        have := hI.inj _ _ _ _ _ _ _ b4 (bsrow' q1) h2 q2
        subst this
        exact (b3 m bx q1).elim
      · have := old b4 h2; omega
    · rw [backG_other a2] at h1; rw [gBs hm'] at h2
      exact hI.inj _ _ _ _ _ _ _ a4 (bsrow' hm') h1 h2
    · obtain ⟨u, hu, ru, hg⟩ := imU hk'
      rw [hg] at h2; rw [backG_other a2] at h1
      rcases own1 ru h2 with h | h
      · rw [hL1] at h
        obtain ⟨m, id, bx, cap2, sz2, q1, q2⟩ := h
        have := hI.inj _ _ _ _ _ _ _ a4 (bsrow' q1) h1 q2
        subst this
        exact (a3 m bx q1).elim
      · have := old a4 h1; omega
    · rw [backG_other a2] at h1; rw [backG_other b2] at h2
      exact hI.inj _ _ _ _ _ _ _ a4 b4 h1 h2
  · intro j v x hv hx
    rcases hE.res j v x hv hx with h | ⟨k, q, blk, u, b, cap, sz, len, rfl, h1, h2, h3, h4⟩
    · exact .closed (datRes x (List.mem_of_getElem? hx) v h)
    · have hg : backG G G1 (im.map (·.1)) U q = G1 u := backG_at hqn (by rw [List.getElem?_map, h1]; rfl) h2
      refine .ref q 0 len v (by rw [hg, h3]; simp) (fun b' cap' sz' hh => ?_) ?_
      · rw [hg, h3] at hh
        injection hh with e1 e2 e3
        subst e1; subst e2; subst e3
        exact h4
      · obtain ⟨_, A, rfl, _⟩ := h4; rfl

theorem opOk_enter {K : Value → World → Prop} {f : Nat} {args : Array Value} (h : (execOp a.eval o).run P w = .ok (.enter f args) w)
    (hc : Calls P f args w fun e w' => ∃ v, e = .returned v ∧ K v w') : OpOk P o a w K := by
  intro next Q hn
  unfold Oper.wp
  rw [h]
  refine hc.mono fun e w' he => ?_
  obtain ⟨v, rfl, hk⟩ := he
  exact hn v w' hk

/-- The function is there, and it has a body. -/
def FnOk (P : Program) (f : Nat) : Prop := ∃ fn, P.funcs[f]? = some fn ∧ (fn.name == "runtime.NumGoroutine") = false ∧ fn.body.isNone = false

theorem run_call {f t : Nat} {xs : List Operand} {ats : Array TypeId} (ho : o.op = .call { callee := .value (.func f), args := xs.toArray, argTypes := ats }) (hf : FnOk P f) :
    (execOp a.eval o).run P w = .ok (.enter f (xs.map a.eval).toArray) w := by
  obtain ⟨fn, h1, h2, h3⟩ := hf
  have h2' : ¬ fn.name = "runtime.NumGoroutine" := by simpa using h2
  have h3' : ¬ fn.body = none := by
    intro e; rw [e] at h3; cases h3
  simp [execOp, ho, resolve, Act.eval, Deferred.ofValue, invoke, callFunc, h1, h2', h3']

theorem trA_vals (hts : TsR (Rep fm G (okB B G H w) w) a.tmps ts) : ∀ {xs : List Operand} {qs : List (Nat × PX)}, TrA fm xs qs →
    (xs.map a.eval).length = (qs.map fun p => (p.1, p.2.ev ts)).length ∧
    ∀ (j : Nat) (v : Value) (q : Nat × D), (xs.map a.eval)[j]? = some v → (qs.map fun p => (p.1, p.2.ev ts))[j]? = some q → Rep fm G (okB B G H w) w v q.2
  | [], [], .nil => ⟨rfl, by simp⟩
  | x :: xs, (m, px) :: qs, .cons hx h => by
    obtain ⟨h1, h2⟩ := trA_vals hts h
    refine ⟨by simpa using h1, fun j v q hv hq => ?_⟩
    cases j with
    | zero =>
      simp at hv hq
      subst hv; subst hq
      exact ev_rep hts hx
    | succ j => exact h2 j v q (by simpa using hv) (by simpa using hq)

theorem scal_rep {d : D} (h : scal d = true) {ok ok' : Nat → Prop} {v : Value} (hr : RepC fm ok w v d) : RepC fm ok' w v d := by
  cases hr with
  | undef v => exact .undef v
  | skip => exact .skip
  | bool b => exact .bool b
  | int k n => exact .int k n
  | flt b => exact .flt b
  | nan b hb => exact .nan b hb
  | str s => exact .str s
  | nil => exact .nil
  | lst0 => simp [scal] at h
  | lst1 => simp [scal] at h
  | fptr => simp [scal] at h
  | nilp => exact .nilp
  | agg => simp [scal] at h
  | fn f => exact .fn f
theorem scalV_rep {d : D} (h : scalV d = true) {ok ok' : Nat → Prop} {v : Value} (hr : RepC fm ok w v d) : RepC fm ok' w v d := by
  cases hr with
  | agg cs vs hl hone hrep =>
    simp only [scalV, List.all_eq_true] at h
    exact .agg cs vs hl hone (fun j d v h1 h2 => scal_rep (h d (List.mem_of_getElem? h1)) (hrep j d v h1 h2))
  | undef v => exact .undef v
  | skip => exact .skip
  | bool b => exact .bool b
  | int k n => exact .int k n
  | flt b => exact .flt b
  | nan b hb => exact .nan b hb
  | str s => exact .str s
  | nil => exact .nil
  | lst0 => simp [scalV, scal] at h
  | lst1 => simp [scalV, scal] at h
  | fptr => simp [scalV, scal] at h
  | nilp => exact .nilp
  | fn f => exact .fn f

theorem imp_scal : ∀ {l : List D} {r : Nat}, l.all scalV = true → (∀ x ∈ (impL r l).1, scalV x = true ∨ ∃ q len, x = .ref q 0 len) ∧
    ∀ (k q sz : Nat) (es : List (List D)) (lv : Bool) (e : List D) (x : D), (impL r l).2[k]? = some (q, Blk.row sz es lv) → e ∈ es → x ∈ e → scal x = true
  | [], r, _ => by simp [impL]
  | d :: l, r, h => by
    simp only [List.all_cons, Bool.and_eq_true] at h
    obtain ⟨h1, h2⟩ := imp_scal (r := r + 1) h.2
    have hd := h.1
    unfold impL
    by_cases ho : ∃ sz es, d = .own sz es
    · obtain ⟨sz, es, rfl⟩ := ho
      refine ⟨fun x hx => ?_, fun k q sz' es' lv e x hk he hx => ?_⟩
      · simp only [imp1, List.mem_cons] at hx
        rcases hx with rfl | hx
        · exact .inr ⟨_, _, rfl⟩
        · exact h1 x hx
      · simp only [imp1, List.singleton_append] at hk
        cases k with
        | zero =>
          simp at hk
          obtain ⟨rfl, rfl, rfl, rfl⟩ := hk
          simp only [scalV, List.all_eq_true] at hd
          exact hd e he x hx
        | succ k => exact h2 k q sz' es' lv e x (by simpa using hk) he hx
    · have him : imp1 r d = (d, []) := by
        unfold imp1
        split
        · exact absurd ⟨_, _, rfl⟩ ho
        · rfl
      rw [him]
      refine ⟨fun x hx => ?_, fun k q sz' es' lv e x hk he hx => h2 k q sz' es' lv e x (by simpa using hk) he hx⟩
      simp only [List.mem_cons] at hx
      rcases hx with rfl | hx
      · exact .inl hd
      · exact h1 x hx

theorem op_call (hs : Sound P fm call) (hI : Inv fm B w G H) (hts : TsR (Rep fm G (okB B G H w) w) a.tmps ts) {f : Nat} {xs : List Operand} {qs : List (Nat × PX)} {ats : Array TypeId}
    (ho : o.op = .call { callee := .value (.func (fm f)), args := xs.toArray, argTypes := ats }) (hf : FnOk P (fm f)) (hx : TrA fm xs qs)
    (hrun : (opE call (PX.ev ts) r (.call f qs)).run H = some out) : OpOk P o a w (Post fm B w G H out) := by
  obtain ⟨hl, hr⟩ := trA_vals (B := B) (G := G) (H := H) (w := w) hts hx
  obtain ⟨p, h1, h2⟩ := run_bind' (by exact hrun)
  obtain ⟨p1, p2⟩ := prep_ok hI hl hr h1
  split at h2
  · rename_i hc
    simp only [Bool.and_eq_true] at hc
    obtain ⟨c1, c2⟩ := hc
    cases hcall : call f p.args p.rows with
    | none => rw [hcall] at h2; simp [Eff.run] at h2
    | some x =>
      rw [hcall] at h2
      simp only at h2
      cases hfin : finish r p x.1 x.2 with
      | none => rw [hfin] at h2; simp [Eff.run] at h2
      | some fo =>
        rw [hfin] at h2
        obtain ⟨rfl, n2⟩ := run_newL h2
        unfold finish at hfin
        simp only [Option.bind_eq_some_iff] at hfin
        obtain ⟨ex, e1, eb, e2, e3⟩ := hfin
        split at e3
        · rename_i hc2
          simp only [Option.some.injEq] at e3
          subst e3
          simp only [Bool.and_eq_true] at hc2
          obtain ⟨⟨⟨⟨⟨d1, d2⟩, d3⟩, d4⟩, d5⟩, d6⟩ := hc2
          -- the callee's state
          let L : Nat → Prop := fun b => ∃ (m id : Nat) (bx : Bool) (cap sz : Nat), p.bs[m]? = some (id, bx) ∧ G id = .row b cap sz
          let B1 : Base := { A := fun b => okI (okB B G H w) G H p.ids b ∧ ¬ L b, W0 := w, L0 := L }
          let G0 : Gh := fun m => match p.bs[m]? with | some (id, _) => G id | none => .fresh
          have hG0 : ∀ (m id : Nat) (bx : Bool), p.bs[m]? = some (id, bx) → G0 m = G id := fun m id bx hm => by show (match p.bs[m]? with | some (id, _) => G id | none => .fresh) = _; rw [hm]
          have hlt : ∀ b, okI (okB B G H w) G H p.ids b → b < w.heap.size := by
            rintro b (h | ⟨id, _, hr, cap, sz, hg⟩)
            · exact h.2.2
            · exact hI.blk_lt hr hg
          have hnl : ∀ b, okI (okB B G H w) G H p.ids b → ¬ L b := by
            rintro b hb ⟨m, id, bx, cap, sz, h1, h2⟩
            obtain ⟨sz', es, _, b', cap', hh, _⟩ := p2.row m id bx h1
            rcases hb with h | ⟨id', hid', hr, cap2, sz2, hg⟩
            · exact h.2.1 ⟨id, sz', es, cap, sz, hh, h2⟩
            · have := hI.inj _ _ _ _ _ _ _ ⟨_, _, _, hh⟩ hr h2 hg
              subst this
              exact apart_iff c2 (List.mem_map.2 ⟨(id, bx), List.mem_of_getElem? h1, rfl⟩) hid'
          have hLv0 : ∀ b, Lv G0 p.rows b → L b := by
            rintro b ⟨m, sz, es, cap, sz', h1, h2⟩
            have h2' : (match p.bs[m]? with | some (id, _) => G id | none => GS.fresh) = .row b cap sz' := h2
            cases hm : p.bs[m]? with
            | none => rw [hm] at h2'; cases h2'
            | some q => rw [hm] at h2'; exact ⟨m, q.1, q.2, cap, sz', hm, h2'⟩
          have hok0 : ∀ b, okI (okB B G H w) G H p.ids b → okB B1 G0 p.rows w b := fun b hb => ⟨.inl ⟨hb, hnl b hb⟩, fun h => hnl b hb (hLv0 b h), hlt b hb⟩
          have hup : ∀ {v : Value} {d : D}, RepC fm (okI (okB B G H w) G H p.ids) w v d → Rep fm G0 (okB B1 G0 p.rows w) w v d := fun h => .closed (h.mono fm hok0 (fun _ _ _ _ h => h))
          have hrow0 : ∀ {m sz : Nat} {es : List (List D)} {lv : Bool}, hat p.rows m = .row sz es lv → ∃ id bx sz' es' b cap, p.bs[m]? = some (id, bx) ∧ hat H id = .row sz es' true ∧ G id = .row b cap sz ∧ sz' = sz ∧ RowOk (RepC fm (okI (okB B G H w) G H p.ids) w) w sz es b cap := by
            intro m sz es lv h
            have hm : m < p.rows.length := hat_lt (by rw [h]; simp)
            have hmb : m < p.bs.length := by rw [← p2.rows]; exact hm
            obtain ⟨sz', es', es'', b, cap, k1, k2, k3, k4⟩ := p2.row m p.bs[m].1 p.bs[m].2 (List.getElem?_eq_getElem hmb)
            have : hat p.rows m = .row sz' es'' true := by unfold hat; rw [List.getD_eq_getElem?_getD, k3]; rfl
            rw [h] at this
            injection this with q1 q2 q3
            subst q1; subst q2
            exact ⟨_, _, _, es', b, cap, List.getElem?_eq_getElem hmb, k1, k2, rfl, k4⟩
          have hI0 : Inv fm B1 w G0 p.rows := by
            refine ⟨Nat.le_refl _, rfl, rfl, rfl, fun _ _ _ => rfl, fun m sz es lv h => ?_, fun m h => ?_, fun m h => ?_, fun i j b cap sz cap' sz' r1 r2 h1 h2 => ?_, fun b hb => ⟨hb.2, hlt b hb.1⟩⟩
            · obtain ⟨id, bx, _, es', b, cap, k1, k2, k3, _, k5⟩ := hrow0 h
              exact ⟨b, cap, by rw [hG0 m id bx k1]; exact k3, .inl ⟨m, id, bx, cap, sz, k1, k3⟩, k5.mono (fun v d hv => hup hv) rfl⟩
            · show (match p.bs[m]? with | some (id, _) => G id | none => GS.fresh) = .fresh
              cases hm : p.bs[m]? with
              | none => rfl
              | some q =>
                obtain ⟨sz', es', es'', b, cap, k1, k2, k3, k4⟩ := p2.row m q.1 q.2 hm
                have : hat p.rows m = .row sz' es'' true := by unfold hat; rw [List.getD_eq_getElem?_getD, k3]; rfl
                rw [h] at this; cases this
            · exfalso
              have hm : m < p.bs.length := by rw [← p2.rows]; exact hat_lt (by rw [h]; simp)
              obtain ⟨sz', es', es'', b, cap, k1, k2, k3, k4⟩ := p2.row m p.bs[m].1 p.bs[m].2 (List.getElem?_eq_getElem hm)
              have : hat p.rows m = .row sz' es'' true := by unfold hat; rw [List.getD_eq_getElem?_getD, k3]; rfl
              rw [h] at this; cases this
            · obtain ⟨sz1, es1, lv1, hh1⟩ := r1
              obtain ⟨sz2, es2, lv2, hh2⟩ := r2
              obtain ⟨id1, bx1, _, es1', b1, cap1, k1, k2, k3, _, _⟩ := hrow0 hh1
              obtain ⟨id2, bx2, _, es2', b2, cap2, l1, l2, l3, _, _⟩ := hrow0 hh2
              rw [hG0 i id1 bx1 k1] at h1
              rw [hG0 j id2 bx2 l1] at h2
              have := hI.inj _ _ _ _ _ _ _ ⟨_, _, _, k2⟩ ⟨_, _, _, l2⟩ h1 h2
              subst this
              exact nodup_iff c1 (x := id1) (by rw [List.getElem?_map, k1]; rfl) (by rw [List.getElem?_map, l1]; rfl)
          have hargs : ∀ (j : Nat) (v : Value) (y : D), (xs.map a.eval)[j]? = some v → p.args[j]? = some y → Rep fm G0 (okB B1 G0 p.rows w) w v y := by
            intro j v y hv hy
            rcases p2.arg j v y hv hy with h | ⟨m, id, bx, b, cap, sz, len, rfl, k1, k2, k3⟩ | ⟨m, id, bx, b, cap, sz, rfl, k1, k2, rfl⟩
            · exact hup h
            · simp only [Nat.zero_add]
              refine .ref m 0 len v (by rw [hG0 m id bx k1, k2]; simp) (fun b' cap' sz' hh => ?_) (by obtain ⟨_, A, rfl, _⟩ := k3; rfl)
              rw [hG0 m id bx k1, k2] at hh
              injection hh with q1 q2 q3
              subst q1; subst q2; subst q3
              exact k3
            · simp only [Nat.zero_add]
              refine .ptr m 0 _ (by rw [hG0 m id bx k1, k2]; simp) (fun b' cap' sz' hh => ?_) rfl
              rw [hG0 m id bx k1, k2] at hh
              injection hh with q1 q2 q3
              subst q1
              rfl
          have hcalls := hs f p.args p.rows x.1 x.2 (by rw [hcall]) B1 w G0 (xs.map a.eval) hI0 (by rw [p1]; exact hl) hargs
          refine opOk_enter (run_call (t := 0) ho hf) (hcalls.mono fun e w1 he => ?_)
          obtain ⟨v, G1, rfl, hadv, hI1, hrep⟩ := he
          refine ⟨v, rfl, ?_⟩
          -- the result, part by part
          have hG1 : ∀ (m id : Nat) (bx : Bool), p.bs[m]? = some (id, bx) → G1 m = G id := fun m id bx hm => by
            obtain ⟨sz', es', es'', b, cap, k1, k2, k3, k4⟩ := p2.row m id bx hm
            have := hadv.gh m
            rw [hG0 m id bx hm, k2] at this
            simp only [GS.le] at this
            rw [this, k2]
          have hcomps : ∃ rv : List Value, rv.length = (comps x.1).length ∧ (∀ (j : Nat) (u : Value) (y : D), rv[j]? = some u → (comps x.1)[j]? = some y → Rep fm G1 (okB B1 G1 x.2 w1) w1 u y) ∧
              (∀ (G' : Gh) (ok : Nat → Prop) (l : List D), l.length = (comps x.1).length → (∀ (j : Nat) (u : Value) (y : D), rv[j]? = some u → l[j]? = some y → Rep fm G' ok w1 u y) → Rep fm G' ok w1 v (recomp x.1 l)) := by
            by_cases ht : ∃ vs, x.1 = .tup vs
            · obtain ⟨ds, ht⟩ := ht
              rw [ht] at hrep ⊢
              obtain ⟨us, rfl, hul, hur⟩ := hrep.inv_tup
              exact ⟨us, hul, fun j u y hu hy => hur j y u hy hu, fun G' ok l hl h => .tup l us (by rw [hl]; exact hul) (fun j d u h1 h2 => h j u d h2 h1)⟩
            · have hc : comps x.1 = [x.1] := by
                unfold comps
                split
                · rename_i vs hv; exact absurd ⟨vs, hv⟩ ht
                · rfl
              rw [hc]
              refine ⟨[v], rfl, fun j u y hu hy => ?_, fun G' ok l hl h => ?_⟩
              · cases j with
                | zero => simp at hu hy; subst hu; subst hy; exact hrep
                | succ j => simp at hu
              · have hrc : recomp x.1 l = l.headD .undef := by
                  unfold recomp
                  split
                  · rename_i vs hv; exact absurd ⟨vs, by assumption⟩ ht
                  · rfl
                rw [hrc]
                match l, hl with
                | [y], _ => exact h 0 v y rfl rfl
          obtain ⟨rv, rv1, rv2, rv3⟩ := hcomps
          obtain ⟨m1, m2, m3, m4, m5⟩ := exp_ok hI1 rv1 rv2 e1 r
          have hB2 := expB_ok hI1 e2
          have hfz : ∀ fz : List Nat, fz = (if (p.bs.isEmpty && ex.1.all scalV) = true then [] else p.ids) → (fz = p.ids ∨ (fz = [] ∧ p.bs = [] ∧
              ∀ (y : D), y ∈ (impL r ex.1).1 ∨ (∃ (k q sz : Nat) (es : List (List D)) (lv : Bool) (e : List D), (impL r ex.1).2[k]? = some (q, Blk.row sz es lv) ∧ e ∈ es ∧ y ∈ e) → ∀ v ok ok', RepC fm ok w1 v y → RepC fm ok' w1 v y)) := by
            intro fz hfz
            split at hfz
            · rename_i hb
              simp only [Bool.and_eq_true] at hb
              refine .inr ⟨hfz, by simpa using hb.1, fun y hy u ok ok' hu => ?_⟩
              obtain ⟨s1, s2⟩ := imp_scal (r := r) hb.2
              rcases hy with hy | ⟨k, q, sz, es, lv, e, hk, he, hy⟩
              · rcases s1 y hy with hy | ⟨q, len, rfl⟩
                · exact scalV_rep hy hu
                · cases hu
              · exact scal_rep (s2 k q sz es lv e y hk he hy) hu
            · exact .inl hfz
          obtain ⟨b1, b2, b3⟩ := back_ok hI p2 c1 c2 (B1 := B1) rfl hI1 hG1 m3 m5 (fun q hq => n2 q hq) hB2 d1 d2 d3 d4 d5 d6 (hfz _ rfl) rfl
          exact ⟨_, b1, b2, rv3 _ _ _ m2 b3⟩
        · cases e3
  · simp [Eff.run] at h2
end
end Go.Pi
