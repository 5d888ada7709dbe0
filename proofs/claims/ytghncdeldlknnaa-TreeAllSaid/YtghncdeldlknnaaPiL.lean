import Derived.Test.YtghncdeldlknnaaPiK
/-
  CALLS: what is closed on the way in, what comes back, and that the caller's rows are told as they are.
-/
set_option linter.all false
namespace Go.Pi
set_option linter.unusedVariables false
section
variable {P : Program} {fm : Nat → Nat}

/-! ### making data closed -/
section
variable {w : World} {G : Gh} {H : Heap} {ok : Nat → Prop}
/-- Blocks of rows that were met. -/
def inIds (G : Gh) (H : Heap) (ids : List Nat) (b : Nat) : Prop := ∃ id ∈ ids, isRow H id ∧ ∃ cap sz, G id = .row b cap sz
theorem inIds_mono {ids ids' : List Nat} (h : ∀ i ∈ ids, i ∈ ids') {b : Nat} (hb : inIds G H ids b) : inIds G H ids' b :=
  let ⟨i, h1, h2⟩ := hb; ⟨i, h _ h1, h2⟩
def okI (ok : Nat → Prop) (G : Gh) (H : Heap) (ids : List Nat) (b : Nat) : Prop := ok b ∨ inIds G H ids b
theorem okI_mono {ids ids' : List Nat} (h : ∀ i ∈ ids, i ∈ ids') {v : Value} {d : D} (hr : RepC fm (okI ok G H ids) w v d) : RepC fm (okI ok G H ids') w v d :=
  hr.mono fm (fun b hb => hb.imp id (inIds_mono h)) (fun _ _ _ _ h => h)

theorem eachC_run {f : D → Eff (D × List Nat)} : ∀ {ds : List D} {x : List D × List Nat}, (eachC f ds).run H = some x →
    x.1.length = ds.length ∧ ∀ (j : Nat) (d : D), ds[j]? = some d → ∃ d' l, x.1[j]? = some d' ∧ (f d).run H = some (d', l) ∧ ∀ i ∈ l, i ∈ x.2
  | [], x, h => by
    simp [eachC, Eff.run] at h
    subst h
    exact ⟨rfl, by simp⟩
  | d :: ds, x, h => by
    obtain ⟨y, h1, h2⟩ := run_bind' (by exact h)
    obtain ⟨z, h3, h4⟩ := run_bind' h2
    simp only [Eff.run, Option.some.injEq] at h4
    subst h4
    obtain ⟨k1, k2⟩ := eachC_run h3
    refine ⟨by simp [k1], fun j e hj => ?_⟩
    cases j with
    | zero =>
      simp at hj; subst hj
      exact ⟨y.1, y.2, by simp, h1, fun i hi => by simp [hi]⟩
    | succ j =>
      obtain ⟨d', l, a1, a2, a3⟩ := k2 j e (by simpa using hj)
      exact ⟨d', l, by simpa using a1, a2, fun i hi => by simp [a3 i hi]⟩
theorem eachE_run {f : D → Eff (D × List Nat)} : ∀ {es : List (List D)} {x : List (List D) × List Nat}, (eachE f es).run H = some x →
    x.1.length = es.length ∧ ∀ (i : Nat) (e : List D), es[i]? = some e → ∃ e' l, x.1[i]? = some e' ∧ (eachC f e).run H = some (e', l) ∧ ∀ k ∈ l, k ∈ x.2
  | [], x, h => by
    simp [eachE, Eff.run] at h
    subst h
    exact ⟨rfl, by simp⟩
  | d :: ds, x, h => by
    obtain ⟨y, h1, h2⟩ := run_bind' (by exact h)
    obtain ⟨z, h3, h4⟩ := run_bind' h2
    simp only [Eff.run, Option.some.injEq] at h4
    subst h4
    obtain ⟨k1, k2⟩ := eachE_run h3
    refine ⟨by simp [k1], fun j e hj => ?_⟩
    cases j with
    | zero =>
      simp at hj; subst hj
      exact ⟨y.1, y.2, by simp, h1, fun i hi => by simp [hi]⟩
    | succ j =>
      obtain ⟨d', l, a1, a2, a3⟩ := k2 j e (by simpa using hj)
      exact ⟨d', l, by simpa using a1, a2, fun i hi => by simp [a3 i hi]⟩

/-- Cells made closed. -/
theorem eachC_ok {f : D → Eff (D × List Nat)} {rep : Value → D → Prop} (hf : ∀ {v d x}, (f d).run H = some x → rep v d → RepC fm (okI ok G H x.2) w v x.1) {ds : List D} {x : List D × List Nat}
    (h : (eachC f ds).run H = some x) {cs : List Value} (hc : CR rep cs ds) : CR (RepC fm (okI ok G H x.2) w) cs x.1 := by
  obtain ⟨k1, k2⟩ := eachC_run h
  refine ⟨by rw [hc.1, k1], fun j d' hj => ?_⟩
  have hjl : j < ds.length := by rw [← k1]; exact (List.getElem?_eq_some_iff.1 hj).1
  obtain ⟨u, a1, a2, a3⟩ := hc.2 j _ (List.getElem?_eq_getElem hjl)
  obtain ⟨e, l, b1, b2, b3⟩ := k2 j _ (List.getElem?_eq_getElem hjl)
  rw [hj] at b1
  injection b1 with b1
  subst b1
  exact ⟨u, a1, a2, okI_mono b3 (hf b2 a3)⟩

/-- A row's cells made closed. -/
theorem eachE_ok {f : D → Eff (D × List Nat)} {rep : Value → D → Prop} (hf : ∀ {v d x}, (f d).run H = some x → rep v d → RepC fm (okI ok G H x.2) w v x.1) {es : List (List D)} {x : List (List D) × List Nat}
    (h : (eachE f es).run H = some x) {sz b cap : Nat} (hr : RowOk rep w sz es b cap) : RowOk (RepC fm (okI ok G H x.2) w) w sz x.1 b cap := by
  obtain ⟨k1, k2⟩ := eachE_run h
  obtain ⟨⟨c, T, h1, h2, h3⟩, h4, h5, h6⟩ := hr
  have back : ∀ (i : Nat) (e' : List D), x.1[i]? = some e' → ∃ e l, es[i]? = some e ∧ (eachC f e).run H = some (e', l) ∧ ∀ k ∈ l, k ∈ x.2 := by
    intro i e' hi
    have hil : i < es.length := by rw [← k1]; exact (List.getElem?_eq_some_iff.1 hi).1
    obtain ⟨e'', l, a1, a2, a3⟩ := k2 i _ (List.getElem?_eq_getElem hil)
    rw [hi] at a1
    injection a1 with a1
    subst a1
    exact ⟨es[i], l, List.getElem?_eq_getElem hil, a2, a3⟩
  refine ⟨⟨c, T, h1, h2, fun i j e' d' he' hd' => ?_⟩, by rw [k1]; exact h4, h5, fun e' he' => ?_⟩
  · obtain ⟨e, l, a1, a2, a3⟩ := back i e' he'
    obtain ⟨q1, q2⟩ := eachC_run a2
    have hjl : j < e.length := by rw [← q1]; exact (List.getElem?_eq_some_iff.1 hd').1
    obtain ⟨d'', l', b1, b2, b3⟩ := q2 j _ (List.getElem?_eq_getElem hjl)
    simp only at b1
    rw [hd'] at b1
    injection b1 with b1
    subst b1
    obtain ⟨u, c1, c2, c3⟩ := h3 i j e _ a1 (List.getElem?_eq_getElem hjl)
    exact ⟨u, c1, c2, okI_mono (fun k hk => a3 k (b3 k hk)) (hf b2 c3)⟩
  · obtain ⟨i, hi, rfl⟩ := List.getElem_of_mem he'
    obtain ⟨e, l, a1, a2, _⟩ := back i _ (List.getElem?_eq_getElem hi)
    have := (eachC_run a2).1
    simp only at this
    rw [this]
    exact h6 e (List.mem_of_getElem? a1)

/-- Out of a row that is closed, a slice of data. -/
theorem lst_of_row {ok' : Nat → Prop} {sz b cap : Nat} {es : List (List D)} (hr : RowOk (RepC fm ok' w) w sz es b cap) (hok : ok' b) {off len : Nat} (hl : off + len ≤ es.length) {A : Addr} (c : Nat) (hc : len ≤ c)
    (hA : A = ⟨b, off * sz, none⟩ ∨ len = 0) : RepC fm ok' w (.slice (some A) len c) (.lst sz ((es.drop off).take len)) := by
  have hlen : ((es.drop off).take len).length = len := by simp; omega
  by_cases h0 : len = 0
  · subst h0
    simp only [List.take_zero]
    exact .lst0 _ _ _
  · rcases hA with rfl | hA
    · obtain ⟨cs, c1, c2, c3, c4⟩ := hr.ranges hl
      rw [show Value.slice (some ⟨b, off * sz, none⟩) len c = Value.slice (some ⟨b, off * sz, none⟩) ((es.drop off).take len).length c by rw [hlen]]
      refine .lst1 sz _ b (off * sz) c (fun i j => cs.getD (i * sz + j) undef) (by omega) hok (fun e he => hr.each e (List.mem_of_mem_drop (List.mem_of_mem_take he))) (fun i j e d he hd => ?_) (fun i j e d he hd => ?_) (fun i j e d he hd => ?_) <;>
        (obtain ⟨u, a1, a2, a3⟩ := c4 i j e d he hd
         simp only [List.getD_eq_getElem?_getD, a1, Option.getD_some])
      · exact c2 _ u a1
      · exact a2
      · exact a3
    · exact absurd hA h0

theorem frz_ok {B : Base} (hI : Inv fm B w G H) : ∀ (n : Nat) {v : Value} {d : D} {x : D × List Nat}, (frz n d).run H = some x → Rep fm G (okB B G H w) w v d → RepC fm (okI (okB B G H w) G H x.2) w v x.1
  | 0, v, d, x, h, _ => by simp [frz, Eff.run] at h
  | n + 1, v, d, x, h, hv => by
    have ih : ∀ {v d x}, (frz n d).run H = some x → Rep fm G (okB B G H w) w v d → RepC fm (okI (okB B G H w) G H x.2) w v x.1 := fun h hv => frz_ok hI n h hv
    have simple : ∀ {d' : D}, x = (d', []) → RepC fm (okB B G H w) w v d' → RepC fm (okI (okB B G H w) G H x.2) w v x.1 := by
      rintro d' rfl hr
      exact hr.mono fm (fun b hb => .inl hb) (fun _ _ _ _ h => h)
    cases d <;> simp only [frz] at h
    case ref id off len =>
      obtain ⟨sz, es, lv, h1, h2⟩ := run_get h
      split at h2
      · rename_i hle
        obtain ⟨y, h3, h4⟩ := run_bind' h2
        simp only [Eff.run, Option.some.injEq] at h4
        subst h4
        obtain ⟨b, cap, g1, g2, g3⟩ := hI.rows id sz es lv h1
        obtain ⟨r1, A, rfl, r2⟩ := hv.inv_ref g1
        have hsub : RowOk (Rep fm G (okB B G H w) w) w sz es b cap := g3
        -- the part that is told, as rows of its own
        obtain ⟨cs, c1, c2, c3, c4⟩ := g3.ranges hle
        have hlen : ((es.drop off).take len).length = len := by simp; omega
        obtain ⟨q1, q2⟩ := eachE_run h3
        by_cases h0 : len = 0
        · subst h0
          have : y.1 = [] := List.eq_nil_of_length_eq_zero (by rw [q1]; simp)
          simp only [this]
          exact .lst0 _ _ _
        · have hA : A = ⟨b, off * sz, none⟩ := by
            rcases r2 with h | h
            · exact h
            · have := g3.len; omega
          subst hA
          have hylen : y.1.length = len := by rw [q1, hlen]
          show RepC fm _ w _ (.lst sz y.1)
          rw [show Value.slice (some ⟨b, off * sz, none⟩) len (cap - off) = Value.slice (some ⟨b, off * sz, none⟩) y.1.length (cap - off) by rw [hylen]]
          have back : ∀ (i j : Nat) (e' : List D) (d' : D), y.1[i]? = some e' → e'[j]? = some d' → ∃ u, cs[i * sz + j]? = some u ∧ u.oneCell' = true ∧ RepC fm (okI (okB B G H w) G H y.2) w u d' := by
            intro i j e' d' he' hd'
            have hil : i < ((es.drop off).take len).length := by rw [← q1]; exact (List.getElem?_eq_some_iff.1 he').1
            obtain ⟨e'', l, a1, a2, a3⟩ := q2 i _ (List.getElem?_eq_getElem hil)
            rw [he'] at a1
            injection a1 with a1
            subst a1
            obtain ⟨p1, p2⟩ := eachC_run a2
            have hjl : j < (((es.drop off).take len)[i]).length := by rw [← p1]; exact (List.getElem?_eq_some_iff.1 hd').1
            obtain ⟨d'', l', b1, b2, b3⟩ := p2 j _ (List.getElem?_eq_getElem hjl)
            simp only at b1
            rw [hd'] at b1
            injection b1 with b1
            subst b1
            obtain ⟨u, e1, e2, e3⟩ := c4 i j _ _ (List.getElem?_eq_getElem hil) (List.getElem?_eq_getElem hjl)
            exact ⟨u, e1, e2, okI_mono (fun k hk => a3 k (b3 k hk)) (ih b2 e3)⟩
          have up : ∀ {u d'}, RepC fm (okI (okB B G H w) G H y.2) w u d' → RepC fm (okI (okB B G H w) G H (id :: y.2)) w u d' := fun hr => okI_mono (fun k hk => by simp [hk]) hr
          refine .lst1 sz _ b (off * sz) (cap - off) (fun i j => cs.getD (i * sz + j) undef) (by rw [hylen]; omega) (.inr ⟨id, by simp, ⟨_, _, _, h1⟩, cap, sz, g1⟩) (fun e' he' => ?_) (fun i j e d he hd => ?_) (fun i j e d he hd => ?_) (fun i j e d he hd => ?_)
          · obtain ⟨i, hi, rfl⟩ := List.getElem_of_mem he'
            have hil : i < ((es.drop off).take len).length := by rw [← q1]; exact hi
            obtain ⟨e'', l, a1, a2, a3⟩ := q2 i _ (List.getElem?_eq_getElem hil)
            rw [List.getElem?_eq_getElem hi] at a1
            injection a1 with a1
            have := (eachC_run a2).1
            simp only at this
            rw [a1, this]
            exact g3.each _ (List.mem_of_mem_drop (List.mem_of_mem_take (List.getElem_mem hil)))
          all_goals
            obtain ⟨u, a1, a2, a3⟩ := back i j e d he hd
            simp only [List.getD_eq_getElem?_getD, a1, Option.getD_some]
          · exact c2 _ u a1
          · exact a2
          · exact up a3
      · simp [Eff.run] at h2
    case ptr id off =>
      obtain ⟨sz, es, lv, h1, h2⟩ := run_get h
      cases he : es[off / sz]? with
      | none => rw [he] at h2; simp [Eff.run] at h2
      | some e =>
        rw [he] at h2
        obtain ⟨y, h3, h4⟩ := run_bind' h2
        simp only [Eff.run, Option.some.injEq] at h4
        subst h4
        obtain ⟨b, cap, g1, g2, g3⟩ := hI.rows id sz es lv h1
        obtain ⟨cs, c1, c2⟩ := g3.range he
        have c3 := rangeAt_drop c2 (off % sz)
        rw [Nat.div_add_mod' off sz] at c3
        rw [hv.inv_ptr g1]
        have hcr := eachC_ok (fm := fm) (ok := okB B G H w) (rep := Rep fm G (okB B G H w) w) ih h3 (c1.drop (off % sz))
        exact fptr_mk (.inr ⟨id, by simp, ⟨_, _, _, h1⟩, cap, sz, g1⟩) (hcr.mono (fun v d hr => okI_mono (fun k hk => by simp [hk]) hr)) c3
    case agg cs =>
      obtain ⟨y, h3, h4⟩ := run_bind' h
      simp only [Eff.run, Option.some.injEq] at h4
      subst h4
      obtain ⟨vs, rfl, hc⟩ := rep_agg_CR hv
      exact repC_agg_of vs (eachC_ok (fm := fm) (ok := okB B G H w) ih h3 hc)
    case tup vs => simp [Eff.run] at h
    case own sz es => simp [Eff.run] at h
    all_goals
      simp only [Eff.run, Option.some.injEq] at h
      subst h
      refine simple rfl ?_
      cases hv with | closed h => exact h
end
end
end Go.Pi
