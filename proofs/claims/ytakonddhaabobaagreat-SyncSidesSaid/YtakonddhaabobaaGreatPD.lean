import Derived.Test.YtakonddhaabobaaGreatPC
set_option linter.all false
namespace Go.Pi
set_option linter.unusedVariables false
section
variable {P : Program} {fm : Nat → Nat}
section
variable {w : World} {G : Gh} {H : Heap} {ok : Nat → Prop}
def inIds (G : Gh) (H : Heap) (ids : List Nat) (b : Nat) : Prop := ∃ id ∈ ids, isRow H id ∧ ∃ cap sz, G id = .row b cap sz
theorem inIds_mono {ids ids' : List Nat} (h : ∀ i ∈ ids, i ∈ ids') {b : Nat} (hb : inIds G H ids b) : inIds G H ids' b :=
 let ⟨i, h1, h2⟩ := hb; ⟨i, h _ h1, h2⟩
def okI (ok : Nat → Prop) (G : Gh) (H : Heap) (ids : List Nat) (b : Nat) : Prop := ok b ∨ inIds G H ids b
theorem okI_mono {ids ids' : List Nat} (h : ∀ i ∈ ids, i ∈ ids') {v : Value} {d : D} (hr : RepC fm (okI ok G H ids) w v d) : RepC fm (okI ok G H ids') w v d :=
 hr.mono fm (fun b hb => hb.imp id (inIds_mono h)) (fun _ _ _ _ h => h)
theorem eachC_run {f : D → Eff (D × List Nat)} : ∀ {ds : List D} {x : List D × List Nat}, (eachC f ds).run H = some x →
  x.1.length = ds.length ∧ ∀ (j : Nat) (d : D), ds[j]? = some d → ∃ d' l, x.1[j]? = some d' ∧ (f d).run H = some (d', l) ∧ ∀ i ∈ l, i ∈ x.2
 | [], x, h => by
  simp [eachC, Eff.run] at h
  subst h
  exact ⟨rfl, by simp⟩
 | d :: ds, x, h => by
  obtain ⟨y, h1, h2⟩ := run_bind' (by exact h)
  obtain ⟨z, h3, h4⟩ := run_bind' h2
  simp only [Eff.run, Option.some.injEq] at h4
  subst h4
  obtain ⟨k1, k2⟩ := eachC_run h3
  refine ⟨by simp [k1], fun j e hj => ?_⟩
  cases j with
  | zero =>
   simp at hj; subst hj
   exact ⟨y.1, y.2, by simp, h1, fun i hi => by simp [hi]⟩
  | succ j =>
   obtain ⟨d', l, a1, a2, a3⟩ := k2 j e (by simpa using hj)
   exact ⟨d', l, by simpa using a1, a2, fun i hi => by simp [a3 i hi]⟩
theorem eachE_run {f : D → Eff (D × List Nat)} : ∀ {es : List (List D)} {x : List (List D) × List Nat}, (eachE f es).run H = some x →
  x.1.length = es.length ∧ ∀ (i : Nat) (e : List D), es[i]? = some e → ∃ e' l, x.1[i]? = some e' ∧ (eachC f e).run H = some (e', l) ∧ ∀ k ∈ l, k ∈ x.2
 | [], x, h => by
  simp [eachE, Eff.run] at h
  subst h
  exact ⟨rfl, by simp⟩
 | d :: ds, x, h => by
  obtain ⟨y, h1, h2⟩ := run_bind' (by exact h)
  obtain ⟨z, h3, h4⟩ := run_bind' h2
  simp only [Eff.run, Option.some.injEq] at h4
  subst h4
  obtain ⟨k1, k2⟩ := eachE_run h3
  refine ⟨by simp [k1], fun j e hj => ?_⟩
  cases j with
  | zero =>
   simp at hj; subst hj
   exact ⟨y.1, y.2, by simp, h1, fun i hi => by simp [hi]⟩
  | succ j =>
   obtain ⟨d', l, a1, a2, a3⟩ := k2 j e (by simpa using hj)
   exact ⟨d', l, by simpa using a1, a2, fun i hi => by simp [a3 i hi]⟩
theorem eachC_ok {f : D → Eff (D × List Nat)} {rep : Value → D → Prop} (hf : ∀ {v d x}, (f d).run H = some x → rep v d → RepC fm (okI ok G H x.2) w v x.1) {ds : List D} {x : List D × List Nat}
  (h : (eachC f ds).run H = some x) {cs : List Value} (hc : CR rep cs ds) : CR (RepC fm (okI ok G H x.2) w) cs x.1 := by
 obtain ⟨k1, k2⟩ := eachC_run h
 refine ⟨by rw [hc.1, k1], fun j d' hj => ?_⟩
 have hjl : j < ds.length := by rw [← k1]; exact (List.getElem?_eq_some_iff.1 hj).1
 obtain ⟨u, a1, a2, a3⟩ := hc.2 j _ (List.getElem?_eq_getElem hjl)
 obtain ⟨e, l, b1, b2, b3⟩ := k2 j _ (List.getElem?_eq_getElem hjl)
 rw [hj] at b1
 injection b1 with b1
 subst b1
 exact ⟨u, a1, a2, okI_mono b3 (hf b2 a3)⟩
theorem eachE_ok {f : D → Eff (D × List Nat)} {rep : Value → D → Prop} (hf : ∀ {v d x}, (f d).run H = some x → rep v d → RepC fm (okI ok G H x.2) w v x.1) {es : List (List D)} {x : List (List D) × List Nat}
  (h : (eachE f es).run H = some x) {sz b cap : Nat} (hr : RowOk rep w sz es b cap) : RowOk (RepC fm (okI ok G H x.2) w) w sz x.1 b cap := by
 obtain ⟨k1, k2⟩ := eachE_run h
 obtain ⟨⟨c, T, h1, h2, h3⟩, h4, h5, h6⟩ := hr
 have back : ∀ (i : Nat) (e' : List D), x.1[i]? = some e' → ∃ e l, es[i]? = some e ∧ (eachC f e).run H = some (e', l) ∧ ∀ k ∈ l, k ∈ x.2 := by
  intro i e' hi
  have hil : i < es.length := by rw [← k1]; exact (List.getElem?_eq_some_iff.1 hi).1
  obtain ⟨e'', l, a1, a2, a3⟩ := k2 i _ (List.getElem?_eq_getElem hil)
  rw [hi] at a1
  injection a1 with a1
  subst a1
  exact ⟨es[i], l, List.getElem?_eq_getElem hil, a2, a3⟩
 refine ⟨⟨c, T, h1, h2, fun i j e' d' he' hd' => ?_⟩, by rw [k1]; exact h4, h5, fun e' he' => ?_⟩
 ·obtain ⟨e, l, a1, a2, a3⟩ := back i e' he'
  obtain ⟨q1, q2⟩ := eachC_run a2
  have hjl : j < e.length := by rw [← q1]; exact (List.getElem?_eq_some_iff.1 hd').1
  obtain ⟨d'', l', b1, b2, b3⟩ := q2 j _ (List.getElem?_eq_getElem hjl)
  simp only at b1
  rw [hd'] at b1
  injection b1 with b1
  subst b1
  obtain ⟨u, c1, c2, c3⟩ := h3 i j e _ a1 (List.getElem?_eq_getElem hjl)
  exact ⟨u, c1, c2, okI_mono (fun k hk => a3 k (b3 k hk)) (hf b2 c3)⟩
 ·obtain ⟨i, hi, rfl⟩ := List.getElem_of_mem he'
  obtain ⟨e, l, a1, a2, _⟩ := back i _ (List.getElem?_eq_getElem hi)
  have := (eachC_run a2).1
  simp only at this
  rw [this]
  exact h6 e (List.mem_of_getElem? a1)
theorem lst_of_row {ok' : Nat → Prop} {sz b cap : Nat} {es : List (List D)} (hr : RowOk (RepC fm ok' w) w sz es b cap) (hok : ok' b) {off len : Nat} (hl : off + len ≤ es.length) {A : Addr} (c : Nat) (hc : len ≤ c)
  (hA : A = ⟨b, off * sz, none⟩ ∨ len = 0) : RepC fm ok' w (.slice (some A) len c) (.lst sz ((es.drop off).take len)) := by
 have hlen : ((es.drop off).take len).length = len := by simp; omega
 by_cases h0 : len = 0
 ·subst h0
  simp only [List.take_zero]
  exact .lst0 _ _ _
 ·rcases hA with rfl | hA
  ·obtain ⟨cs, c1, c2, c3, c4⟩ := hr.ranges hl
   rw [show Value.slice (some ⟨b, off * sz, none⟩) len c = Value.slice (some ⟨b, off * sz, none⟩) ((es.drop off).take len).length c by rw [hlen]]
   refine .lst1 sz _ b (off * sz) c (fun i j => cs.getD (i * sz + j) undef) (by omega) hok (fun e he => hr.each e (List.mem_of_mem_drop (List.mem_of_mem_take he))) (fun i j e d he hd => ?_) (fun i j e d he hd => ?_) (fun i j e d he hd => ?_) <;>
    (obtain ⟨u, a1, a2, a3⟩ := c4 i j e d he hd
     simp only [List.getD_eq_getElem?_getD, a1, Option.getD_some])
   ·exact c2 _ u a1
   ·exact a2
   ·exact a3
  ·exact absurd hA h0
theorem frz_ok {B : Base} (hI : Inv fm B w G H) : ∀ (n : Nat) {v : Value} {d : D} {x : D × List Nat}, (frz n d).run H = some x → Rep fm G (okB B G H w) w v d → RepC fm (okI (okB B G H w) G H x.2) w v x.1
 | 0, v, d, x, h, _ => by simp [frz, Eff.run] at h
 | n + 1, v, d, x, h, hv => by
  have ih : ∀ {v d x}, (frz n d).run H = some x → Rep fm G (okB B G H w) w v d → RepC fm (okI (okB B G H w) G H x.2) w v x.1 := fun h hv => frz_ok hI n h hv
  have simple : ∀ {d' : D}, x = (d', []) → RepC fm (okB B G H w) w v d' → RepC fm (okI (okB B G H w) G H x.2) w v x.1 := by
   rintro d' rfl hr
   exact hr.mono fm (fun b hb => .inl hb) (fun _ _ _ _ h => h)
  cases d <;> simp only [frz] at h
  case ref id off len =>
   obtain ⟨sz, es, lv, h1, h2⟩ := run_get h
   split at h2
   ·rename_i hle
    obtain ⟨y, h3, h4⟩ := run_bind' h2
    simp only [Eff.run, Option.some.injEq] at h4
    subst h4
    obtain ⟨b, cap, g1, g2, g3⟩ := hI.rows id sz es lv h1
    obtain ⟨r1, A, rfl, r2⟩ := hv.inv_ref g1
    have hsub : RowOk (Rep fm G (okB B G H w) w) w sz es b cap := g3
    obtain ⟨cs, c1, c2, c3, c4⟩ := g3.ranges hle
    have hlen : ((es.drop off).take len).length = len := by simp; omega
    obtain ⟨q1, q2⟩ := eachE_run h3
    by_cases h0 : len = 0
    ·subst h0
     have : y.1 = [] := List.eq_nil_of_length_eq_zero (by rw [q1]; simp)
     simp only [this]
     exact .lst0 _ _ _
    ·have hA : A = ⟨b, off * sz, none⟩ := by
      rcases r2 with h | h
      ·exact h
      ·have := g3.len; omega
     subst hA
     have hylen : y.1.length = len := by rw [q1, hlen]
     show RepC fm _ w _ (.lst sz y.1)
     rw [show Value.slice (some ⟨b, off * sz, none⟩) len (cap - off) = Value.slice (some ⟨b, off * sz, none⟩) y.1.length (cap - off) by rw [hylen]]
     have back : ∀ (i j : Nat) (e' : List D) (d' : D), y.1[i]? = some e' → e'[j]? = some d' → ∃ u, cs[i * sz + j]? = some u ∧ u.oneCell' = true ∧ RepC fm (okI (okB B G H w) G H y.2) w u d' := by
      intro i j e' d' he' hd'
      have hil : i < ((es.drop off).take len).length := by rw [← q1]; exact (List.getElem?_eq_some_iff.1 he').1
      obtain ⟨e'', l, a1, a2, a3⟩ := q2 i _ (List.getElem?_eq_getElem hil)
      rw [he'] at a1
      injection a1 with a1
      subst a1
      obtain ⟨p1, p2⟩ := eachC_run a2
      have hjl : j < (((es.drop off).take len)[i]).length := by rw [← p1]; exact (List.getElem?_eq_some_iff.1 hd').1
      obtain ⟨d'', l', b1, b2, b3⟩ := p2 j _ (List.getElem?_eq_getElem hjl)
      simp only at b1
      rw [hd'] at b1
      injection b1 with b1
      subst b1
      obtain ⟨u, e1, e2, e3⟩ := c4 i j _ _ (List.getElem?_eq_getElem hil) (List.getElem?_eq_getElem hjl)
      exact ⟨u, e1, e2, okI_mono (fun k hk => a3 k (b3 k hk)) (ih b2 e3)⟩
     have up : ∀ {u d'}, RepC fm (okI (okB B G H w) G H y.2) w u d' → RepC fm (okI (okB B G H w) G H (id :: y.2)) w u d' := fun hr => okI_mono (fun k hk => by simp [hk]) hr
     refine .lst1 sz _ b (off * sz) (cap - off) (fun i j => cs.getD (i * sz + j) undef) (by rw [hylen]; omega) (.inr ⟨id, by simp, ⟨_, _, _, h1⟩, cap, sz, g1⟩) (fun e' he' => ?_) (fun i j e d he hd => ?_) (fun i j e d he hd => ?_) (fun i j e d he hd => ?_)
     ·obtain ⟨i, hi, rfl⟩ := List.getElem_of_mem he'
      have hil : i < ((es.drop off).take len).length := by rw [← q1]; exact hi
      obtain ⟨e'', l, a1, a2, a3⟩ := q2 i _ (List.getElem?_eq_getElem hil)
      rw [List.getElem?_eq_getElem hi] at a1
      injection a1 with a1
      have := (eachC_run a2).1
      simp only at this
      rw [a1, this]
      exact g3.each _ (List.mem_of_mem_drop (List.mem_of_mem_take (List.getElem_mem hil)))
     all_goals
      obtain ⟨u, a1, a2, a3⟩ := back i j e d he hd
      simp only [List.getD_eq_getElem?_getD, a1, Option.getD_some]
     ·exact c2 _ u a1
     ·exact a2
     ·exact up a3
   ·simp [Eff.run] at h2
  case ptr id off =>
   obtain ⟨sz, es, lv, h1, h2⟩ := run_get h
   cases he : es[off / sz]? with
   | none => rw [he] at h2; simp [Eff.run] at h2
   | some e =>
    rw [he] at h2
    obtain ⟨y, h3, h4⟩ := run_bind' h2
    simp only [Eff.run, Option.some.injEq] at h4
    subst h4
    obtain ⟨b, cap, g1, g2, g3⟩ := hI.rows id sz es lv h1
    obtain ⟨cs, c1, c2⟩ := g3.range he
    have c3 := rangeAt_drop c2 (off % sz)
    rw [Nat.div_add_mod' off sz] at c3
    rw [hv.inv_ptr g1]
    have hcr := eachC_ok (fm := fm) (ok := okB B G H w) (rep := Rep fm G (okB B G H w) w) ih h3 (c1.drop (off % sz))
    exact fptr_mk (.inr ⟨id, by simp, ⟨_, _, _, h1⟩, cap, sz, g1⟩) (hcr.mono (fun v d hr => okI_mono (fun k hk => by simp [hk]) hr)) c3
  case agg cs =>
   obtain ⟨y, h3, h4⟩ := run_bind' h
   simp only [Eff.run, Option.some.injEq] at h4
   subst h4
   obtain ⟨vs, rfl, hc⟩ := rep_agg_CR hv
   exact repC_agg_of vs (eachC_ok (fm := fm) (ok := okB B G H w) ih h3 hc)
  case tup vs => simp [Eff.run] at h
  case own sz es => simp [Eff.run] at h
  all_goals
   simp only [Eff.run, Option.some.injEq] at h
   subst h
   refine simple rfl ?_
   cases hv with | closed h => exact h
end
end
end Go.Pi
namespace Go.Pi
set_option linter.unusedVariables false
section
variable {P : Program} {fm : Nat → Nat} {B : Base} {w w' : World} {G : Gh} {H : Heap} {o : Oper} {a : Act} {ts : List D} {call : CallF} {r : Nat} {out : Out}
theorem cell_freeze (w : World) (A : Addr) (n : Nat) (x : Addr) : (w.freeze A n).cell? x = w.cell? x := by
 unfold World.freeze
 split
 ·rfl
 ·unfold World.cell?
  simp only [Array.getElem?_modify]
  by_cases h : A.block = x.block
  ·simp only [h, if_true]
   cases hh : w.heap[x.block]? with
   | none => simp
   | some ob => cases ob <;> simp
  ·simp only [h, if_false]
theorem heap_freeze_ne (w : World) (A : Addr) (n b : Nat) (h : A.block ≠ b) : (w.freeze A n).heap[b]? = w.heap[b]? := by
 unfold World.freeze
 split
 ·rfl
 ·simp [Array.getElem?_modify, h]
theorem freeze_parts (w : World) (A : Addr) (n : Nat) : (w.freeze A n).heap.size = w.heap.size ∧ (w.freeze A n).os = w.os ∧ (w.freeze A n).tape = w.tape ∧ (w.freeze A n).output = w.output := by
 unfold World.freeze
 split <;> simp
theorem inv_mark (hI : Inv fm B w G H) {id sz : Nat} {es : List (List D)} (hid : hat H id = .row sz es true) {b cap : Nat} (hg : G id = .row b cap sz) (A : Addr) (hA : A.block = b) (n : Nat) :
  Adv B w G H (w.freeze A n) G (H.set id .dead) ∧ Inv fm B (w.freeze A n) G (H.set id .dead) ∧ okB B G (H.set id .dead) (w.freeze A n) b := by
 obtain ⟨p1, p2, p3, p4⟩ := freeze_parts w A n
 have hh : ∀ i, hat (H.set id .dead) i = if i = id then .dead else hat H i := by
  intro i
  rw [hat_set]
  by_cases e : i = id
  ·subst e
   have hlt : i < H.length := by
    unfold hat at hid
    rcases Nat.lt_or_ge i H.length with h | h
    ·exact h
    ·rw [List.getD_eq_getElem?_getD, List.getElem?_eq_none h] at hid; cases hid
   simp [hlt]
  ·simp [e, Ne.symm e]
 have hrow : ∀ i sz es lv, hat (H.set id .dead) i = .row sz es lv → i ≠ id ∧ hat H i = .row sz es lv := by
  intro i sz es lv h
  rw [hh] at h
  split at h
  ·cases h
  ·exact ⟨by assumption, h⟩
 have hlv : ∀ b', Lv G (H.set id .dead) b' → Lv G H b' := by
  rintro b' ⟨i, s, e, c, s', h1, h2⟩
  exact ⟨i, s, e, c, s', (hrow _ _ _ _ h1).2, h2⟩
 have hadv : Adv B w G H (w.freeze A n) G (H.set id .dead) := by
  refine ⟨gle_refl _, fun b' ⟨h1, h2, h3⟩ => ⟨h1, fun h => h2 (hlv b' h), by omega⟩, fun b' o v _ h => by rw [cell_freeze]; exact h⟩
 have hbl : Lv G H b := ⟨id, sz, es, cap, sz, hid, hg⟩
 refine ⟨hadv, ?_, ?_⟩
 ·refine inv_mk hI (by omega) p2 p3 p4 (fun b' hb' hl => ?_) (fun i s e lv h => ?_) (fun i h => ?_) (fun i h => ?_) (fun i j b1 c s c' s' r1 r2 h1 h2 => ?_)
  ·refine heap_freeze_ne w A n b' (fun e => hl ?_)
   rw [← e, hA]; exact hbl
  ·obtain ⟨hne, hr⟩ := hrow _ _ _ _ h
   obtain ⟨b1, c1, a1, a2, a3⟩ := hI.rows i s e lv hr
   refine ⟨b1, c1, a1, a2, a3.mono (fun v d hv => hadv.rep hv) (heap_freeze_ne w A n b1 (fun e' => hne ?_))⟩
   rw [hA] at e'
   subst e'
   exact hI.inj i id b c1 s cap sz ⟨_, _, _, hr⟩ ⟨_, _, _, hid⟩ a1 hg
  ·rw [hh] at h
   split at h
   ·cases h
   ·exact hI.fresh i h
  ·rw [hh] at h
   split at h
   ·rename_i e; rw [e, hg]; intro h; cases h
   ·exact hI.dead i h
  ·obtain ⟨_, _, _, q1⟩ := r1
   obtain ⟨_, _, _, q2⟩ := r2
   exact hI.inj i j b1 c s c' s' ⟨_, _, _, (hrow _ _ _ _ q1).2⟩ ⟨_, _, _, (hrow _ _ _ _ q2).2⟩ h1 h2
 ·obtain ⟨b1, c1, a1, a2, a3⟩ := hI.rows id sz es true hid
  rw [hg] at a1
  injection a1 with e1 e2 e3
  subst e1
  refine ⟨.inr a2, ?_, by rw [p1]; exact a3.lt⟩
  rintro ⟨i, s, e, c, s', h1, h2⟩
  obtain ⟨hne, hr⟩ := hrow _ _ _ _ h1
  obtain ⟨b2, c2, k1, _, _⟩ := hI.rows i s e true hr
  rw [h2] at k1
  injection k1 with q1 q2 q3
  subst q3
  exact hne (hI.inj i id b c s' cap sz ⟨_, _, _, hr⟩ ⟨_, _, _, hid⟩ h2 hg)
theorem op_mark (hI : Inv fm B w G H) (hts : TsR (Rep fm G (okB B G H w) w) a.tmps ts) {t e : TypeId} {x : Operand} {px : PX} (ho : o.op = .convert t t x) (ht : P.underlying t = some (.slice e)) (he : P.underlying e = some (.int .u8))
  (hx : TrX fm x px) (hrun : (opE call (PX.ev ts) r (.mark px)).run H = some out) : OpOk P o a w (Post fm B w G H out) := by
 have hv := ev_rep hts hx
 simp only [opE] at hrun
 split at hrun
 ·rename_i id off len e1
  obtain ⟨⟨s', es', l1⟩, l2⟩ := run_live hrun
  obtain ⟨s, es, lv, g1, g2⟩ := run_get l2
  rw [l1] at g1
  injection g1 with q1 q2 q3
  subst q1; subst q2; subst q3
  split at g2
  ·rename_i hc
   obtain ⟨c1, c2, c3, c4, c5⟩ := hc
   subst c1
   simp only [Eff.run, Option.some.injEq] at g2
   subst g2
   rw [e1] at hv
   obtain ⟨b, cap, k1, k2, k3⟩ := hI.rows id 1 es' true l1
   obtain ⟨r1, A, vx, r2⟩ := hv.inv_ref k1
   subst c2
   have hA : A = ⟨b, 0, none⟩ := by
    rcases r2 with ⟨_, h | h⟩
    ·simpa using h
    ·exfalso; omega
   obtain ⟨⟨c, T, m1, m2, m3⟩, m4, m5, m6⟩ := k3
   obtain ⟨f1, f2, f3⟩ := inv_mark hI l1 k1 ⟨b, c.size, none⟩ rfl 1
   have hshape : w.shape? b = some (T, c.size) := by simp [World.shape?, m1]
   have hrun : (convert t t (a.eval x)).run P w = .ok (a.eval x) (w.freeze ⟨b, c.size, none⟩ 1) := by
    rw [vx, hA]
    simp [convert, run_underlying ht, run_underlying he, markStringish, run_shape, hshape, run_freeze]
   refine opOk_val (v := a.eval x) (w' := w.freeze ⟨b, c.size, none⟩ 1) ?_ ⟨G, f1, f2, .closed ?_⟩
   ·simp only [execOp, ho, Sem.run_bind, hrun, Result.andThen_ok, Sem.run_pure]
   ·rw [vx, hA]
    obtain ⟨l, hl⟩ := Option.isSome_iff_exists.1 c4
    obtain ⟨ns, n1, _, n3⟩ := bytes_vals hl
    have hrc : RowOk (RepC fm (okB B G (H.set id .dead) (w.freeze ⟨b, c.size, none⟩ 1)) w) w 1 es' b cap := by
     refine ⟨⟨c, T, m1, m2, fun i j e d he hd => ?_⟩, m4, m5, m6⟩
     obtain ⟨u, a1, a2, a3⟩ := m3 i j e d he hd
     refine ⟨u, a1, a2, ?_⟩
     have hi : i < ns.length := by rw [n1]; exact (List.getElem?_eq_some_iff.1 he).1
     have := n3 i ns[i] (List.getElem?_eq_getElem hi)
     rw [he] at this
     injection this with this
     subst this
     cases j with
     | zero =>
      simp at hd
      subst hd
      rw [a3.inv_int]
      exact .int _ _
     | succ j => simp at hd
    have hl := lst_of_row (fm := fm) hrc f3 (off := 0) (len := es'.length) (by omega) (A := ⟨b, 0, none⟩) (cap - 0) (by omega) (.inl (by simp))
    have := hl.mono fm (ok' := okB B G (H.set id .dead) (w.freeze ⟨b, c.size, none⟩ 1)) (w' := w.freeze ⟨b, c.size, none⟩ 1) (fun _ h => h) (fun b o v _ h => by rw [cell_freeze]; exact h)
    rw [c3]
    have this' : RepC fm (okB B G (H.set id .dead) (w.freeze ⟨b, c.size, none⟩ 1)) (w.freeze ⟨b, c.size, none⟩ 1) (.slice (some ⟨b, 0, none⟩) es'.length cap) (.lst 1 es') := by simpa using this
    exact this'
  ·simp [Eff.run] at g2
 ·simp [Eff.run] at hrun
end
end Go.Pi
namespace Go.Pi
set_option linter.unusedVariables false
section
variable {P : Program} {fm : Nat → Nat} {B : Base} {w : World} {G : Gh} {H : Heap}
structure PrepOk (fm : Nat → Nat) (B : Base) (w : World) (G : Gh) (H : Heap) (vs : List Value) (k : Nat) (p : Prep) : Prop where
 rows : p.rows.length = p.bs.length
 row : ∀ (m id : Nat) (bx : Bool), p.bs[m]? = some (id, bx) → ∃ sz es es' b cap, hat H id = .row sz es true ∧ G id = .row b cap sz ∧ p.rows[m]? = some (.row sz es' true) ∧
  RowOk (RepC fm (okI (okB B G H w) G H p.ids) w) w sz es' b cap
 arg : ∀ (j : Nat) (v : Value) (x : D), vs[j]? = some v → p.args[j]? = some x → RepC fm (okI (okB B G H w) G H p.ids) w v x ∨
  (∃ (m id : Nat) (bx : Bool) (b cap sz len : Nat), x = .ref (k + m) 0 len ∧ p.bs[m]? = some (id, bx) ∧ G id = .row b cap sz ∧ RefV v b cap sz 0 len) ∨
  (∃ (m id : Nat) (bx : Bool) (b cap sz : Nat), x = .ptr (k + m) 0 ∧ p.bs[m]? = some (id, bx) ∧ G id = .row b cap sz ∧ v = .pointer (some ⟨b, 0, none⟩))
theorem PrepOk.cons {v : Value} {vs : List Value} {k : Nat} {y : Prep} (h : PrepOk fm B w G H vs (k + 1) y) {x : D} {blk : Blk} {ids : List Nat} {id : Nat} {bx : Bool}
  (hrow : ∃ sz es es' b cap, hat H id = .row sz es true ∧ G id = .row b cap sz ∧ blk = .row sz es' true ∧ RowOk (RepC fm (okI (okB B G H w) G H ids) w) w sz es' b cap)
  (harg : (∃ (b cap sz len : Nat), x = .ref k 0 len ∧ G id = .row b cap sz ∧ RefV v b cap sz 0 len) ∨ (∃ (b cap sz : Nat), x = .ptr k 0 ∧ G id = .row b cap sz ∧ v = .pointer (some ⟨b, 0, none⟩))) :
  PrepOk fm B w G H (v :: vs) k ⟨x :: y.args, blk :: y.rows, ids ++ y.ids, (id, bx) :: y.bs⟩ := by
 have up1 : ∀ {u : Value} {d : D}, RepC fm (okI (okB B G H w) G H ids) w u d → RepC fm (okI (okB B G H w) G H (ids ++ y.ids)) w u d := fun hr => okI_mono (fun i hi => by simp [hi]) hr
 have up2 : ∀ {u : Value} {d : D}, RepC fm (okI (okB B G H w) G H y.ids) w u d → RepC fm (okI (okB B G H w) G H (ids ++ y.ids)) w u d := fun hr => okI_mono (fun i hi => by simp [hi]) hr
 refine ⟨by simp [h.rows], fun m id' bx' hm => ?_, fun j u d hj hd => ?_⟩
 ·cases m with
  | zero =>
   simp at hm
   obtain ⟨rfl, rfl⟩ := hm
   obtain ⟨sz, es, es', b, cap, a1, a2, rfl, a4⟩ := hrow
   exact ⟨sz, es, es', b, cap, a1, a2, rfl, a4.mono (fun v d hv => up1 hv) rfl⟩
  | succ m =>
   obtain ⟨sz, es, es', b, cap, a1, a2, a3, a4⟩ := h.row m id' bx' (by simpa using hm)
   exact ⟨sz, es, es', b, cap, a1, a2, by simpa using a3, a4.mono (fun v d hv => up2 hv) rfl⟩
 ·cases j with
  | zero =>
   simp at hj hd
   subst hj; subst hd
   rcases harg with ⟨b, cap, sz, len, rfl, a2, a3⟩ | ⟨b, cap, sz, rfl, a2, rfl⟩
   ·exact .inr (.inl ⟨0, id, bx, b, cap, sz, len, rfl, rfl, a2, a3⟩)
   ·exact .inr (.inr ⟨0, id, bx, b, cap, sz, rfl, rfl, a2, rfl⟩)
  | succ j =>
   rcases h.arg j u d (by simpa using hj) (by simpa using hd) with h | ⟨m, id', bx', b, cap, sz, len, rfl, a1, a2, a3⟩ | ⟨m, id', bx', b, cap, sz, rfl, a1, a2, a3⟩
   ·exact .inl (up2 h)
   ·exact .inr (.inl ⟨m + 1, id', bx', b, cap, sz, len, by rw [show k + 1 + m = k + (m + 1) by omega], by simpa using a1, a2, a3⟩)
   ·exact .inr (.inr ⟨m + 1, id', bx', b, cap, sz, by rw [show k + 1 + m = k + (m + 1) by omega], by simpa using a1, a2, a3⟩)
theorem PrepOk.plain {v : Value} {vs : List Value} {k : Nat} {y : Prep} (h : PrepOk fm B w G H vs k y) {x : D} {ids : List Nat} (hx : RepC fm (okI (okB B G H w) G H ids) w v x) :
  PrepOk fm B w G H (v :: vs) k ⟨x :: y.args, y.rows, ids ++ y.ids, y.bs⟩ := by
 have up1 : ∀ {u : Value} {d : D}, RepC fm (okI (okB B G H w) G H ids) w u d → RepC fm (okI (okB B G H w) G H (ids ++ y.ids)) w u d := fun hr => okI_mono (fun i hi => by simp [hi]) hr
 have up2 : ∀ {u : Value} {d : D}, RepC fm (okI (okB B G H w) G H y.ids) w u d → RepC fm (okI (okB B G H w) G H (ids ++ y.ids)) w u d := fun hr => okI_mono (fun i hi => by simp [hi]) hr
 refine ⟨h.rows, fun m id' bx' hm => ?_, fun j u d hj hd => ?_⟩
 ·obtain ⟨sz, es, es', b, cap, a1, a2, a3, a4⟩ := h.row m id' bx' hm
  exact ⟨sz, es, es', b, cap, a1, a2, a3, a4.mono (fun v d hv => up2 hv) rfl⟩
 ·cases j with
  | zero =>
   simp at hj hd
   subst hj; subst hd
   exact .inl (up1 hx)
  | succ j =>
   rcases h.arg j u d (by simpa using hj) (by simpa using hd) with h | h | h
   ·exact .inl (up2 h)
   ·exact .inr (.inl h)
   ·exact .inr (.inr h)
theorem prep_ok (hI : Inv fm B w G H) : ∀ {args : List (Nat × D)} {vs : List Value} {k : Nat} {p : Prep}, vs.length = args.length →
  (∀ (j : Nat) (v : Value) (q : Nat × D), vs[j]? = some v → args[j]? = some q → Rep fm G (okB B G H w) w v q.2) → (prep args k).run H = some p →
  p.args.length = args.length ∧ PrepOk fm B w G H vs k p
 | [], [], k, p, _, _, h => by
  simp only [prep, Eff.run, Option.some.injEq] at h
  subst h
  exact ⟨rfl, rfl, by simp, by simp⟩
 | (m, d) :: rest, v :: vs, k, p, hl, hr, h => by
  have hv : Rep fm G (okB B G H w) w v d := hr 0 v (m, d) rfl rfl
  have hr' : ∀ (j : Nat) (v : Value) (q : Nat × D), vs[j]? = some v → rest[j]? = some q → Rep fm G (okB B G H w) w v q.2 := fun j u q h1 h2 => hr (j + 1) u q (by simpa using h1) (by simpa using h2)
  have hl' : vs.length = rest.length := by simpa using hl
  have fz : ∀ {v d x}, (frz fuelF d).run H = some x → Rep fm G (okB B G H w) w v d → RepC fm (okI (okB B G H w) G H x.2) w v x.1 := fun h hv => frz_ok hI fuelF h hv
  unfold prep at h
  split at h
  ·rename_i id off len
   obtain ⟨⟨sz', es', l1⟩, l2⟩ := run_live h
   obtain ⟨sz, es, lv, g1, g2⟩ := run_get l2
   rw [l1] at g1
   injection g1 with q1 q2 q3
   subst q1; subst q2; subst q3
   split at g2
   ·rename_i hc
    obtain ⟨rfl, rfl⟩ := hc
    obtain ⟨x, h3, h4⟩ := run_bind' g2
    obtain ⟨y, h5, h6⟩ := run_bind' h4
    simp only [Eff.run, Option.some.injEq] at h6
    subst h6
    obtain ⟨p1, p2⟩ := prep_ok hI hl' hr' h5
    obtain ⟨b, cap, k1, k2, k3⟩ := hI.rows id sz' es' true l1
    exact ⟨by simp [p1], p2.cons ⟨sz', es', x.1, b, cap, l1, k1, rfl, eachE_ok fz h3 k3⟩ (.inl ⟨b, cap, sz', es'.length, rfl, k1, hv.inv_ref k1⟩)⟩
   ·simp [Eff.run] at g2
  ·rename_i id off
   obtain ⟨⟨sz', es', l1⟩, l2⟩ := run_live h
   obtain ⟨sz, es, lv, g1, g2⟩ := run_get l2
   rw [l1] at g1
   injection g1 with q1 q2 q3
   subst q1; subst q2; subst q3
   split at g2
   ·rename_i hc
    subst hc
    obtain ⟨x, h3, h4⟩ := run_bind' g2
    obtain ⟨y, h5, h6⟩ := run_bind' h4
    simp only [Eff.run, Option.some.injEq] at h6
    subst h6
    obtain ⟨p1, p2⟩ := prep_ok hI hl' hr' h5
    obtain ⟨b, cap, k1, k2, k3⟩ := hI.rows id sz' es' true l1
    exact ⟨by simp [p1], p2.cons ⟨sz', es', x.1, b, cap, l1, k1, rfl, eachE_ok fz h3 k3⟩ (.inr ⟨b, cap, sz', rfl, k1, hv.inv_ptr k1⟩)⟩
   ·simp [Eff.run] at g2
  ·obtain ⟨x, h3, h4⟩ := run_bind' h
   obtain ⟨y, h5, h6⟩ := run_bind' h4
   simp only [Eff.run, Option.some.injEq] at h6
   subst h6
   obtain ⟨p1, p2⟩ := prep_ok hI hl' hr' h5
   exact ⟨by simp [p1], p2.plain (fz h3 hv)⟩
theorem nodup_iff : ∀ {l : List Nat}, nodup l = true → ∀ {i j x : Nat}, l[i]? = some x → l[j]? = some x → i = j
 | [], _, i, j, x, h, _ => by simp at h
 | y :: l, hn, i, j, x, h1, h2 => by
  simp only [nodup, Bool.and_eq_true, Bool.not_eq_true', List.contains_eq_mem, decide_eq_false_iff_not] at hn
  obtain ⟨n1, n2⟩ := hn
  cases i with
  | zero =>
   cases j with
   | zero => rfl
   | succ j =>
    simp at h1 h2
    subst h1
    exact absurd (List.mem_of_getElem? h2) n1
  | succ i =>
   cases j with
   | zero =>
    simp at h1 h2
    subst h2
    exact absurd (List.mem_of_getElem? h1) n1
   | succ j =>
    have := nodup_iff n2 (i := i) (j := j) (x := x) (by simpa using h1) (by simpa using h2)
    omega
theorem apart_iff {xs ys : List Nat} (h : apart xs ys = true) {x : Nat} (h1 : x ∈ xs) (h2 : x ∈ ys) : False := by
 simp only [apart, List.all_eq_true, Bool.not_eq_true', List.contains_eq_mem, decide_eq_false_iff_not] at h
 exact h x h1 h2
theorem frz_notOwn {n : Nat} {d : D} {x : D × List Nat} (h : (frz n d).run H = some x) : ∀ sz es, x.1 ≠ .own sz es := by
 intro sz es e
 cases n with
 | zero => simp [frz, Eff.run] at h
 | succ n =>
  cases d <;> simp only [frz] at h
  case ref id off len =>
   obtain ⟨_, _, _, _, h2⟩ := run_get h
   split at h2
   ·obtain ⟨y, _, h4⟩ := run_bind' h2
    simp only [Eff.run, Option.some.injEq] at h4
    subst h4; cases e
   ·simp [Eff.run] at h2
  case ptr id off =>
   obtain ⟨_, _, _, _, h2⟩ := run_get h
   split at h2
   ·obtain ⟨y, _, h4⟩ := run_bind' h2
    simp only [Eff.run, Option.some.injEq] at h4
    subst h4; cases e
   ·simp [Eff.run] at h2
  case agg cs =>
   obtain ⟨y, _, h4⟩ := run_bind' h
   simp only [Eff.run, Option.some.injEq] at h4
   subst h4; cases e
  case tup => simp [Eff.run] at h
  case own => simp [Eff.run] at h
  all_goals
   simp only [Eff.run, Option.some.injEq] at h
   subst h; cases e
theorem exp1_ok (hI : Inv fm B w G H) {v : Value} {d : D} {x : D × List Nat × List Nat} (hv : Rep fm G (okB B G H w) w v d) (h : exp1 H d = some x) :
  (x.2.1 = [] ∧ (∀ sz es, x.1 ≠ .own sz es) ∧ RepC fm (okI (okB B G H w) G H x.2.2) w v x.1) ∨
  (∃ id sz es es' b cap, x.2.1 = [id] ∧ x.1 = .own sz es' ∧ hat H id = .row sz es true ∧ G id = .row b cap sz ∧ RefV v b cap sz 0 es'.length ∧ RowOk (RepC fm (okI (okB B G H w) G H x.2.2) w) w sz es' b cap) := by
 have fz : ∀ {v d x}, (frz fuelF d).run H = some x → Rep fm G (okB B G H w) w v d → RepC fm (okI (okB B G H w) G H x.2) w v x.1 := fun h hv => frz_ok hI fuelF h hv
 have plain : ((frz fuelF d).run H).map (fun x => (x.1, ([] : List Nat), x.2)) = some x → (x.2.1 = [] ∧ (∀ sz es, x.1 ≠ .own sz es) ∧ RepC fm (okI (okB B G H w) G H x.2.2) w v x.1) := by
  intro h
  simp only [Option.map_eq_some_iff] at h
  obtain ⟨y, h1, rfl⟩ := h
  exact ⟨rfl, frz_notOwn h1, fz h1 hv⟩
 unfold exp1 at h
 split at h
 ·rename_i id off len
  split at h
  ·rename_i sz es hh
   split at h
   ·rename_i hc
    obtain ⟨rfl, rfl⟩ := hc
    simp only [Option.map_eq_some_iff] at h
    obtain ⟨y, h1, rfl⟩ := h
    obtain ⟨b, cap, k1, k2, k3⟩ := hI.rows id sz es true hh
    refine .inr ⟨id, sz, es, y.1, b, cap, rfl, rfl, hh, k1, ?_, eachE_ok fz h1 k3⟩
    rw [(eachE_run h1).1]
    exact hv.inv_ref k1
   ·exact .inl (plain h)
  ·exact .inl (plain h)
 ·exact .inl (plain h)
structure ExpOk (fm : Nat → Nat) (B : Base) (w : World) (G : Gh) (H : Heap) (vs : List Value) (l : List D) (im : List (Nat × Blk)) (U V : List Nat) : Prop where
 len : im.length = U.length
 row : ∀ (k q : Nat) (blk : Blk), im[k]? = some (q, blk) → ∃ u sz es es' b cap, U[k]? = some u ∧ blk = .row sz es' true ∧ hat H u = .row sz es true ∧ G u = .row b cap sz ∧
  RowOk (RepC fm (okI (okB B G H w) G H V) w) w sz es' b cap
 res : ∀ (j : Nat) (v : Value) (d : D), vs[j]? = some v → l[j]? = some d → RepC fm (okI (okB B G H w) G H V) w v d ∨
  (∃ (k q : Nat) (blk : Blk) (u b cap sz len : Nat), d = .ref q 0 len ∧ im[k]? = some (q, blk) ∧ U[k]? = some u ∧ G u = .row b cap sz ∧ RefV v b cap sz 0 len)
theorem exp_ok (hI : Inv fm B w G H) : ∀ {ds : List D} {vs : List Value} {x : List D × List Nat × List Nat}, vs.length = ds.length →
  (∀ (j : Nat) (v : Value) (d : D), vs[j]? = some v → ds[j]? = some d → Rep fm G (okB B G H w) w v d) → expL H ds = some x → ∀ r,
  x.1.length = ds.length ∧ (impL r x.1).1.length = ds.length ∧ ExpOk fm B w G H vs (impL r x.1).1 (impL r x.1).2 x.2.1 x.2.2 ∧ (∀ q ∈ (impL r x.1).2.map (·.1), r ≤ q) ∧ nodup ((impL r x.1).2.map (·.1)) = true
 | [], [], x, _, _, h, r => by
  simp only [expL, Option.some.injEq] at h
  subst h
  exact ⟨rfl, rfl, ⟨rfl, by simp [impL], by simp⟩, by simp [impL], rfl⟩
 | d :: ds, v :: vs, x, hl, hr, h, r => by
  simp only [expL, Option.bind_eq_some_iff] at h
  obtain ⟨a, h1, y, h2, h3⟩ := h
  simp only [Option.some.injEq] at h3
  subst h3
  have hv := hr 0 v d rfl rfl
  obtain ⟨i1, i2, i3, i4, i5⟩ := exp_ok hI (by simpa using hl) (fun j u e h1 h2 => hr (j + 1) u e (by simpa using h1) (by simpa using h2)) h2 (r + 1)
  have up1 : ∀ {u : Value} {e : D}, RepC fm (okI (okB B G H w) G H a.2.2) w u e → RepC fm (okI (okB B G H w) G H (a.2.2 ++ y.2.2)) w u e := fun hr => okI_mono (fun i hi => by simp [hi]) hr
  have up2 : ∀ {u : Value} {e : D}, RepC fm (okI (okB B G H w) G H y.2.2) w u e → RepC fm (okI (okB B G H w) G H (a.2.2 ++ y.2.2)) w u e := fun hr => okI_mono (fun i hi => by simp [hi]) hr
  rcases exp1_ok hI hv h1 with ⟨e1, e2, e3⟩ | ⟨id, sz, es, es', b, cap, e1, e2, e3, e4, e5, e6⟩
  ·have him : imp1 r a.1 = (a.1, []) := by
    unfold imp1
    split
    ·rename_i sz es e
     exact absurd e (e2 sz es)
    ·rfl
   simp only [impL, him, e1, List.nil_append]
   refine ⟨by simp [i1], by simp [i2], ⟨i3.len, fun k q blk hk => ?_, fun j u e hj he => ?_⟩, fun q hq => by have := i4 q hq; omega, i5⟩
   ·obtain ⟨u, sz, es, es', b, cap, a1, a2, a3, a4, a5⟩ := i3.row k q blk hk
    exact ⟨u, sz, es, es', b, cap, a1, a2, a3, a4, a5.mono (fun v d hv => up2 hv) rfl⟩
   ·cases j with
    | zero => simp at hj he; subst hj; subst he; exact .inl (up1 e3)
    | succ j =>
     rcases i3.res j u e (by simpa using hj) (by simpa using he) with h | h
     ·exact .inl (up2 h)
     ·exact .inr h
  ·have him : imp1 r a.1 = (.ref r 0 es'.length, [(r, .row sz es' true)]) := by rw [e2]; rfl
   simp only [impL, him, e1, List.singleton_append]
   refine ⟨by simp [i1], by simp [i2], ⟨by simp [i3.len], fun k q blk hk => ?_, fun j u e hj he => ?_⟩, fun q hq => ?_, ?_⟩
   ·cases k with
    | zero =>
     simp at hk
     obtain ⟨rfl, rfl⟩ := hk
     exact ⟨id, sz, es, es', b, cap, rfl, rfl, e3, e4, e6.mono (fun v d hv => up1 hv) rfl⟩
    | succ k =>
     obtain ⟨u, sz, es, es', b, cap, a1, a2, a3, a4, a5⟩ := i3.row k q blk (by simpa using hk)
     exact ⟨u, sz, es, es', b, cap, by simpa using a1, a2, a3, a4, a5.mono (fun v d hv => up2 hv) rfl⟩
   ·cases j with
    | zero =>
     simp at hj he
     subst hj; subst he
     exact .inr ⟨0, r, _, id, b, cap, sz, es'.length, rfl, rfl, rfl, e4, e5⟩
    | succ j =>
     rcases i3.res j u e (by simpa using hj) (by simpa using he) with h | ⟨k, q, blk, u', b', cap', sz', len, a1, a2, a3, a4, a5⟩
     ·exact .inl (up2 h)
     ·exact .inr ⟨k + 1, q, blk, u', b', cap', sz', len, a1, by simpa using a2, by simpa using a3, a4, a5⟩
   ·simp only [List.map_cons, List.mem_cons] at hq
    rcases hq with rfl | hq
    ·exact Nat.le_refl _
    ·have := i4 q hq; omega
   ·simp only [List.map_cons, nodup, Bool.and_eq_true, Bool.not_eq_true', List.contains_eq_mem, decide_eq_false_iff_not]
    exact ⟨fun hq => by have := i4 r hq; omega, i5⟩
theorem expB_ok (hI : Inv fm B w G H) : ∀ {bs : List (Nat × Bool)} {k : Nat} {x : List (Nat × Blk) × List Nat}, expB H k bs = some x →
  x.1.length = bs.length ∧ ∀ (m id : Nat) (bx : Bool), bs[m]? = some (id, bx) → (bx = false ∧ x.1[m]? = some (id, .dead)) ∨
   (bx = true ∧ k + m ∈ boxKs k bs ∧ ∃ sz es es' b cap, x.1[m]? = some (id, .row sz es' true) ∧ hat H (k + m) = .row sz es true ∧ G (k + m) = .row b cap sz ∧ RowOk (RepC fm (okI (okB B G H w) G H x.2) w) w sz es' b cap)
 | [], k, x, h => by
  simp only [expB, Option.some.injEq] at h
  subst h
  exact ⟨rfl, by simp⟩
 | (id0, true) :: bs, k, x, h => by
  simp only [expB] at h
  split at h
  ·rename_i sz es hh
   simp only [Option.bind_eq_some_iff] at h
   obtain ⟨a, h1, y, h2, h3⟩ := h
   simp only [Option.some.injEq] at h3
   subst h3
   obtain ⟨i1, i2⟩ := expB_ok hI h2
   have fz : ∀ {v d x}, (frz fuelF d).run H = some x → Rep fm G (okB B G H w) w v d → RepC fm (okI (okB B G H w) G H x.2) w v x.1 := fun h hv => frz_ok hI fuelF h hv
   have up1 : ∀ {u : Value} {e : D}, RepC fm (okI (okB B G H w) G H a.2) w u e → RepC fm (okI (okB B G H w) G H (a.2 ++ y.2)) w u e := fun hr => okI_mono (fun i hi => by simp [hi]) hr
   have up2 : ∀ {u : Value} {e : D}, RepC fm (okI (okB B G H w) G H y.2) w u e → RepC fm (okI (okB B G H w) G H (a.2 ++ y.2)) w u e := fun hr => okI_mono (fun i hi => by simp [hi]) hr
   refine ⟨by simp [i1], fun m id bx hm => ?_⟩
   cases m with
   | zero =>
    simp at hm
    obtain ⟨rfl, rfl⟩ := hm
    obtain ⟨b, cap, k1, k2, k3⟩ := hI.rows k sz es true hh
    exact .inr ⟨rfl, by simp [boxKs], sz, es, a.1, b, cap, rfl, hh, k1, (eachE_ok fz h1 k3).mono (fun v d hv => up1 hv) rfl⟩
   | succ m =>
    rcases i2 m id bx (by simpa using hm) with ⟨h, h'⟩ | ⟨h, hk, sz', es', es'', b, cap, a1, a2, a3, a4⟩
    ·exact .inl ⟨h, by simpa using h'⟩
    ·refine .inr ⟨h, ?_, sz', es', es'', b, cap, by simpa using a1, ?_, ?_, a4.mono (fun v d hv => up2 hv) rfl⟩
     ·rw [show k + (m + 1) = k + 1 + m by omega]; simp [boxKs, hk]
     ·rw [show k + (m + 1) = k + 1 + m by omega]; exact a2
     ·rw [show k + (m + 1) = k + 1 + m by omega]; exact a3
  ·cases h
 | (id0, false) :: bs, k, x, h => by
  simp only [expB, Option.bind_eq_some_iff] at h
  obtain ⟨y, h2, h3⟩ := h
  simp only [Option.some.injEq] at h3
  subst h3
  obtain ⟨i1, i2⟩ := expB_ok hI h2
  refine ⟨by simp [i1], fun m id bx hm => ?_⟩
  cases m with
  | zero =>
   simp at hm
   obtain ⟨rfl, rfl⟩ := hm
   exact .inl ⟨rfl, rfl⟩
  | succ m =>
   rcases i2 m id bx (by simpa using hm) with ⟨h, h'⟩ | ⟨h, hk, sz', es', es'', b, cap, a1, a2, a3, a4⟩
   ·exact .inl ⟨h, by simpa using h'⟩
   ·refine .inr ⟨h, ?_, sz', es', es'', b, cap, by simpa using a1, ?_, ?_, a4⟩
    ·rw [show k + (m + 1) = k + 1 + m by omega]; simp [boxKs, hk]
    ·rw [show k + (m + 1) = k + 1 + m by omega]; exact a2
    ·rw [show k + (m + 1) = k + 1 + m by omega]; exact a3
theorem doWs_length : ∀ (ws : List (Nat × Blk)) (H : Heap), (doWs H ws).length = H.length
 | [], H => rfl
 | (i, b) :: ws, H => by simp [doWs, doWs_length ws]
theorem doWs_other : ∀ (ws : List (Nat × Blk)) (H : Heap) (j : Nat), (∀ x ∈ ws, x.1 ≠ j) → hat (doWs H ws) j = hat H j
 | [], H, j, _ => rfl
 | (i, b) :: ws, H, j, h => by
  rw [doWs, doWs_other ws _ j (fun x hx => h x (by simp [hx])), hat_set_ne _ (h (i, b) (by simp))]
theorem doWs_at : ∀ (ws : List (Nat × Blk)) (H : Heap) (k i : Nat) (b : Blk), nodup (ws.map (·.1)) = true → ws[k]? = some (i, b) → i < H.length → hat (doWs H ws) i = b
 | [], H, k, i, b, _, h, _ => by simp at h
 | (i0, b0) :: ws, H, k, i, b, hn, h, hl => by
  simp only [List.map_cons, nodup, Bool.and_eq_true, Bool.not_eq_true', List.contains_eq_mem, decide_eq_false_iff_not] at hn
  cases k with
  | zero =>
   simp at h
   obtain ⟨rfl, rfl⟩ := h
   rw [doWs, doWs_other ws _ i0 (fun x hx e => hn.1 (by rw [← e]; exact List.mem_map_of_mem hx)), hat_set_same hl]
  | succ k => exact doWs_at ws _ k i b hn.2 (by simpa using h) (by simpa using hl)
theorem freeze_freeze (b : Blk) : freeze (freeze b) = freeze b := by cases b <;> rfl
theorem doFz_at : ∀ (is : List Nat) (H : Heap) (j : Nat), hat (doFz H is) j = if j ∈ is then freeze (hat H j) else hat H j
 | [], H, j => by simp [doFz]
 | i :: is, H, j => by
  rw [doFz, doFz_at is, hat_modify]
  by_cases h1 : j ∈ is
  ·by_cases h2 : i = j
   ·simp [h1, h2, freeze_freeze]
   ·simp [h1, h2]
  ·by_cases h2 : i = j
   ·subst h2; simp [h1]
   ·have : ¬ j = i := fun e => h2 e.symm
    simp [h1, h2, this]
theorem nodup_append {xs ys : List Nat} (h1 : nodup xs = true) (h2 : nodup ys = true) (h3 : ∀ x ∈ xs, x ∉ ys) : nodup (xs ++ ys) = true := by
 induction xs with
 | nil => simpa using h2
 | cons x xs ih =>
  simp only [nodup, Bool.and_eq_true, Bool.not_eq_true', List.contains_eq_mem, decide_eq_false_iff_not, List.cons_append] at h1 ⊢
  refine ⟨?_, ih h1.2 (fun y hy => h3 y (by simp [hy]))⟩
  simp only [List.mem_append, not_or]
  exact ⟨h1.1, h3 x (by simp)⟩
end
end Go.Pi
namespace Go.Pi
set_option linter.unusedVariables false
section
variable {P : Program} {fm : Nat → Nat} {B : Base} {w : World} {G : Gh} {H : Heap} {o : Oper} {a : Act} {ts : List D} {call : CallF} {r : Nat} {out : Out}
def Sound (P : Program) (fm : Nat → Nat) (call : CallF) : Prop :=
 ∀ (f : Nat) (args : List D) (H : Heap) (d : D) (H' : Heap), call f args H = some (d, H') → ∀ (B : Base) (w : World) (G : Gh) (vs : List Value), Inv fm B w G H → vs.length = args.length →
  (∀ (j : Nat) (v : Value) (x : D), vs[j]? = some v → args[j]? = some x → Rep fm G (okB B G H w) w v x) →
  Calls P (fm f) vs.toArray w fun e w' => ∃ v G', e = .returned v ∧ Adv B w G H w' G' H' ∧ Inv fm B w' G' H' ∧ Rep fm G' (okB B G' H' w') w' v d
theorem run_newL {l : List Nat} {x : Out} : ∀ {y : Out}, (newL l (.pure x)).run H = some y → y = x ∧ ∀ i ∈ l, i < H.length ∧ hat H i = .fresh := by
 induction l with
 | nil => intro y h; simp [newL, Eff.run] at h; exact ⟨h.symm, by simp⟩
 | cons i l ih =>
  intro y h
  obtain ⟨h1, h2, h3⟩ := run_new (by exact h)
  obtain ⟨k1, k2⟩ := ih h3
  exact ⟨k1, fun j hj => by
   simp only [List.mem_cons] at hj
   rcases hj with rfl | hj
   ·exact ⟨h1, h2⟩
   ·exact k2 j hj⟩
noncomputable def backG (G G1 : Gh) (qs U : List Nat) : Gh := fun j =>
 open Classical in if h : ∃ (k u : Nat), qs[k]? = some j ∧ U[k]? = some u then G1 (Classical.choose (Classical.choose_spec h)) else G j
theorem backG_at {G G1 : Gh} {qs U : List Nat} (hn : nodup qs = true) {k q u : Nat} (h1 : qs[k]? = some q) (h2 : U[k]? = some u) : backG G G1 qs U q = G1 u := by
 have h : ∃ (k u : Nat), qs[k]? = some q ∧ U[k]? = some u := ⟨k, u, h1, h2⟩
 have hs := Classical.choose_spec (Classical.choose_spec h)
 unfold backG
 rw [dif_pos h]
 have e := nodup_iff hn hs.1 h1
 have h3 := (congrArg (fun i => U[i]?) e.symm).trans hs.2
 simp only [h2] at h3
 injection h3 with h3
 rw [← h3]
theorem backG_other {G G1 : Gh} {qs U : List Nat} {j : Nat} (h : ∀ x ∈ qs, x ≠ j) : backG G G1 qs U j = G j := by
 unfold backG
 rw [dif_neg]
 rintro ⟨k, u, h1, _⟩
 exact h j (List.mem_of_getElem? h1) rfl
theorem back_ok (hI : Inv fm B w G H) {p : Prep} {vs : List Value} (hp : PrepOk fm B w G H vs 0 p) (hnod : nodup (p.bs.map (·.1)) = true) (hap : apart (p.bs.map (·.1)) p.ids = true)
  {B1 : Base} {w1 : World} {G1 : Gh} {H1 : Heap}
  (hB1 : B1 = { A := fun b => okI (okB B G H w) G H p.ids b ∧ ¬ (∃ (m id : Nat) (bx : Bool) (cap sz : Nat), p.bs[m]? = some (id, bx) ∧ G id = .row b cap sz), W0 := w, L0 := fun b => ∃ (m id : Nat) (bx : Bool) (cap sz : Nat), p.bs[m]? = some (id, bx) ∧ G id = .row b cap sz })
  (hI1 : Inv fm B1 w1 G1 H1) (hG1 : ∀ (m id : Nat) (bx : Bool), p.bs[m]? = some (id, bx) → G1 m = G id)
  {rv : List Value} {l : List D} {im : List (Nat × Blk)} {U V1 : List Nat} (hE : ExpOk fm B1 w1 G1 H1 rv l im U V1) (hqn : nodup (im.map (·.1)) = true) (hqf : ∀ q ∈ im.map (·.1), q < H.length ∧ hat H q = .fresh)
  {ws : List (Nat × Blk)} {V2 : List Nat} (hB2 : ws.length = p.bs.length ∧ ∀ (m id : Nat) (bx : Bool), p.bs[m]? = some (id, bx) → (bx = false ∧ ws[m]? = some (id, .dead)) ∨
   (bx = true ∧ 0 + m ∈ boxKs 0 p.bs ∧ ∃ sz es es' b cap, ws[m]? = some (id, .row sz es' true) ∧ hat H1 (0 + m) = .row sz es true ∧ G1 (0 + m) = .row b cap sz ∧ RowOk (RepC fm (okI (okB B1 G1 H1 w1) G1 H1 V2) w1) w1 sz es' b cap))
  (hU : nodup U = true) (hU1 : apart U V1 = true) (hU2 : apart U V2 = true) (hU3 : apart U (boxKs 0 p.bs) = true) (hK1 : apart (boxKs 0 p.bs) V1 = true) (hK2 : apart (boxKs 0 p.bs) V2 = true)
  {fz : List Nat} (hfz : fz = p.ids ∨ (fz = [] ∧ p.bs = [] ∧ ∀ (x : D), x ∈ l ∨ (∃ (k q sz : Nat) (es : List (List D)) (lv : Bool) (e : List D), im[k]? = some (q, Blk.row sz es lv) ∧ e ∈ es ∧ x ∈ e) → ∀ v ok ok', RepC fm ok w1 v x → RepC fm ok' w1 v x))
  {H2 : Heap} (hH2 : H2 = doFz (doWs H (ws ++ im)) fz) :
  Adv B w G H w1 (backG G G1 (im.map (·.1)) U) H2 ∧ Inv fm B w1 (backG G G1 (im.map (·.1)) U) H2 ∧
   ∀ (j : Nat) (v : Value) (x : D), rv[j]? = some v → l[j]? = some x → Rep fm (backG G G1 (im.map (·.1)) U) (okB B (backG G G1 (im.map (·.1)) U) H2 w1) w1 v x := by
 have hA1 : B1.A = fun b => okI (okB B G H w) G H p.ids b ∧ ¬ (∃ (m id : Nat) (bx : Bool) (cap sz : Nat), p.bs[m]? = some (id, bx) ∧ G id = .row b cap sz) := by rw [hB1]
 have hL1 : B1.L0 = fun b => ∃ (m id : Nat) (bx : Bool) (cap sz : Nat), p.bs[m]? = some (id, bx) ∧ G id = .row b cap sz := by rw [hB1]
 have hW1 : B1.W0 = w := by rw [hB1]
 have hsz : w.heap.size ≤ w1.heap.size := by have := hI1.size; rw [hW1] at this; exact this
 have bsrow : ∀ {m id : Nat} {bx : Bool}, p.bs[m]? = some (id, bx) → ∃ sz es, hat H id = .row sz es true := fun hm => by
  obtain ⟨sz, es, _, _, _, h, _⟩ := hp.row _ _ _ hm
  exact ⟨sz, es, h⟩
 have bsrow' : ∀ {m id : Nat} {bx : Bool}, p.bs[m]? = some (id, bx) → isRow H id := fun hm => by
  obtain ⟨sz, es, h⟩ := bsrow hm
  exact ⟨sz, es, true, h⟩
 have wskey : ∀ {m : Nat} {x : Nat × Blk}, ws[m]? = some x → ∃ bx, p.bs[m]? = some (x.1, bx) := by
  intro m x hx
  have hm : m < p.bs.length := by rw [← hB2.1]; exact (List.getElem?_eq_some_iff.1 hx).1
  rcases hB2.2 m p.bs[m].1 p.bs[m].2 (List.getElem?_eq_getElem hm) with ⟨_, h⟩ | ⟨_, _, sz, es, es', b, cap, h, _⟩
  ·rw [hx] at h; injection h with h; subst h; exact ⟨_, List.getElem?_eq_getElem hm⟩
  ·rw [hx] at h; injection h with h; subst h; exact ⟨_, List.getElem?_eq_getElem hm⟩
 have hwsmap : ws.map (·.1) = p.bs.map (·.1) := by
  apply List.ext_getElem?
  intro m
  rw [List.getElem?_map, List.getElem?_map]
  cases hx : ws[m]? with
  | none =>
   rw [List.getElem?_eq_none (by rw [← hB2.1]; exact List.getElem?_eq_none_iff.1 hx)]
   rfl
  | some x =>
   obtain ⟨bx, h⟩ := wskey hx
   rw [h]; rfl
 have hqne : ∀ {m id : Nat} {bx : Bool}, p.bs[m]? = some (id, bx) → id ∉ im.map (·.1) := fun hm hq => by
  obtain ⟨sz, es, h⟩ := bsrow hm
  rw [(hqf _ hq).2] at h
  cases h
 have hkeys : nodup ((ws ++ im).map (·.1)) = true := by
  rw [List.map_append]
  refine nodup_append (by rw [hwsmap]; exact hnod) hqn (fun x hx => ?_)
  rw [hwsmap] at hx
  obtain ⟨y, hy, rfl⟩ := List.mem_map.1 hx
  obtain ⟨m, hm, rfl⟩ := List.getElem_of_mem hy
  exact hqne (List.getElem?_eq_getElem hm)
 have hat2 : ∀ j, hat H2 j = if j ∈ fz then freeze (hat (doWs H (ws ++ im)) j) else hat (doWs H (ws ++ im)) j := fun j => by rw [hH2, doFz_at]
 have fzids : ∀ j ∈ fz, j ∈ p.ids := fun j hj => by
  rcases hfz with h | ⟨h, _⟩
  ·rw [← h]; exact hj
  ·rw [h] at hj; cases hj
 have cases2 : ∀ j : Nat, (∃ (m : Nat) (bx : Bool), p.bs[m]? = some (j, bx)) ∨ (∃ (k : Nat) (blk : Blk), im[k]? = some (j, blk)) ∨ ((∀ x ∈ ws ++ im, x.1 ≠ j) ∧ (∀ q ∈ im.map (·.1), q ≠ j) ∧ ∀ (m : Nat) (bx : Bool), p.bs[m]? ≠ some (j, bx)) := by
  intro j
  by_cases h1 : ∃ (m : Nat) (bx : Bool), p.bs[m]? = some (j, bx)
  ·exact .inl h1
  ·by_cases h2 : ∃ (k : Nat) (blk : Blk), im[k]? = some (j, blk)
   ·exact .inr (.inl h2)
   ·refine .inr (.inr ⟨fun x hx e => ?_, fun q hq e => ?_, fun m bx hm => h1 ⟨m, bx, hm⟩⟩)
    ·rcases List.mem_append.1 hx with hx | hx
     ·obtain ⟨m, hm, rfl⟩ := List.getElem_of_mem hx
      obtain ⟨bx, hb⟩ := wskey (List.getElem?_eq_getElem hm)
      exact h1 ⟨m, bx, by rw [← e]; exact hb⟩
     ·obtain ⟨k, hk, rfl⟩ := List.getElem_of_mem hx
      exact h2 ⟨k, im[k].2, by rw [List.getElem?_eq_getElem hk, ← e]⟩
    ·subst e
     obtain ⟨x, hx, rfl⟩ := List.mem_map.1 hq
     obtain ⟨k, hk, rfl⟩ := List.getElem_of_mem hx
     exact h2 ⟨k, im[k].2, List.getElem?_eq_getElem hk⟩
 have atBs : ∀ {m j : Nat} {bx : Bool}, p.bs[m]? = some (j, bx) → hat H2 j = (ws[m]?.map (·.2)).getD .dead := by
  intro m j bx hm
  have hml : m < ws.length := by rw [hB2.1]; exact (List.getElem?_eq_some_iff.1 hm).1
  obtain ⟨bx', hb⟩ := wskey (List.getElem?_eq_getElem hml)
  rw [hm] at hb
  injection hb with hb
  have hj1 : ws[m].1 = j := by rw [Prod.mk.injEq] at hb; exact hb.1.symm
  have hnf : j ∉ fz := fun h => apart_iff hap (List.mem_map.2 ⟨(j, bx), List.mem_of_getElem? hm, rfl⟩) (fzids j h)
  rw [hat2, if_neg hnf, doWs_at (ws ++ im) H m j ws[m].2 hkeys (by rw [List.getElem?_append_left hml, List.getElem?_eq_getElem hml, ← hj1]) (hat_lt (by obtain ⟨_, _, h⟩ := bsrow hm; rw [h]; simp)), List.getElem?_eq_getElem hml]
  rfl
 have atIm : ∀ {k j : Nat} {blk : Blk}, im[k]? = some (j, blk) → hat (doWs H (ws ++ im)) j = blk := by
  intro k j blk hk
  exact doWs_at (ws ++ im) H (ws.length + k) j blk hkeys (by rw [List.getElem?_append_right (by omega), show ws.length + k - ws.length = k by omega]; exact hk) (hqf j (List.mem_map.2 ⟨(j, blk), List.mem_of_getElem? hk, rfl⟩)).1
 have atOther : ∀ {j : Nat}, (∀ x ∈ ws ++ im, x.1 ≠ j) → hat H2 j = if j ∈ fz then freeze (hat H j) else hat H j := fun h => by rw [hat2, doWs_other _ _ _ h]
 have gIm : ∀ {k j : Nat} {blk : Blk}, im[k]? = some (j, blk) → ∃ u, U[k]? = some u ∧ backG G G1 (im.map (·.1)) U j = G1 u := by
  intro k j blk hk
  obtain ⟨u, sz, es, es', b, cap, h1, _⟩ := hE.row k j blk hk
  exact ⟨u, h1, backG_at hqn (by rw [List.getElem?_map, hk]; rfl) h1⟩
 have gBs : ∀ {m j : Nat} {bx : Bool}, p.bs[m]? = some (j, bx) → backG G G1 (im.map (·.1)) U j = G j := fun hm => backG_other (fun x hx e => hqne hm (by rw [← e]; exact hx))
 have gGe : gle G (backG G G1 (im.map (·.1)) U) := by
  intro j
  rcases cases2 j with ⟨m, bx, h⟩ | ⟨k, blk, h⟩ | ⟨_, h, _⟩
  ·rw [gBs h]; exact GS.le_refl _
  ·rw [hI.fresh j (hqf j (List.mem_map.2 ⟨(j, blk), List.mem_of_getElem? h, rfl⟩)).2]; trivial
  ·rw [backG_other h]; exact GS.le_refl _
 have l1blk : ∀ {b : Nat}, B1.L0 b → Lv G H b := by
  intro b hb
  rw [hL1] at hb
  obtain ⟨m, id, bx, cap, sz, h1, h2⟩ := hb
  obtain ⟨sz', es, h3⟩ := bsrow h1
  exact ⟨id, sz', es, cap, sz, h3, h2⟩
 have own1 : ∀ {u b cap sz : Nat}, isRow H1 u → G1 u = .row b cap sz → B1.L0 b ∨ w.heap.size ≤ b := by
  rintro u b cap sz ⟨sz', es, lv, hh⟩ hg
  obtain ⟨b', cap', h1, h2, _⟩ := hI1.rows u sz' es lv hh
  rw [hg] at h1
  injection h1 with e1 _ _
  subst e1
  rw [hW1] at h2
  exact h2
 have hframe : ∀ b, b < w.heap.size → ¬ Lv G H b → w1.heap[b]? = w.heap[b]? := by
  intro b hb hl
  have := hI1.frame b (by rw [hW1]; exact hb) (fun h => hl (l1blk h))
  rw [hW1] at this
  exact this
 have lv2 : ∀ {b : Nat}, Lv (backG G G1 (im.map (·.1)) U) H2 b →
   (∃ (j cap sz sz' : Nat) (es : List (List D)), (∀ (m : Nat) (bx : Bool), p.bs[m]? ≠ some (j, bx)) ∧ j ∉ fz ∧ hat H j = .row sz' es true ∧ G j = .row b cap sz) ∨ (∃ (m cap sz sz' : Nat) (es : List (List D)), m ∈ boxKs 0 p.bs ∧ hat H1 m = .row sz' es true ∧ G1 m = .row b cap sz) ∨
   (∃ (u cap sz sz' : Nat) (es : List (List D)), u ∈ U ∧ hat H1 u = .row sz' es true ∧ G1 u = .row b cap sz) := by
  rintro b ⟨j, sz, es, cap, sz', h1, h2⟩
  rcases cases2 j with ⟨m, bx, h⟩ | ⟨k, blk, h⟩ | ⟨h, h', h''⟩
  ·rw [atBs h] at h1
   rw [gBs h] at h2
   rcases hB2.2 m j bx h with ⟨_, hw⟩ | ⟨_, hk, sz2, es2, es2', b2, cap2, hw, hh, hg, _⟩
   ·rw [hw] at h1; cases h1
   ·rw [hG1 m j bx h |>.symm] at h2
    exact .inr (.inl ⟨m, cap, sz', sz2, es2, by simpa using hk, by simpa using hh, h2⟩)
  ·obtain ⟨u, hu, hg⟩ := gIm h
   obtain ⟨u', sz2, es2, es2', b2, cap2, e1, e2, e3, e4, _⟩ := hE.row k j blk h
   rw [hu] at e1
   injection e1 with e1
   subst e1
   rw [hg] at h2
   exact .inr (.inr ⟨u, cap, sz', sz2, es2, List.mem_of_getElem? hu, e3, h2⟩)
  ·rw [atOther h] at h1
   rw [backG_other h'] at h2
   split at h1
   ·cases hh : hat H j <;> rw [hh] at h1 <;> simp [freeze] at h1
   ·exact .inl ⟨j, cap, sz', sz, es, h'', by assumption, h1, h2⟩
 have hlv : ∀ b, Lv (backG G G1 (im.map (·.1)) U) H2 b → Lv G H b ∨ w.heap.size ≤ b := by
  intro b hb
  rcases lv2 hb with ⟨j, cap, sz, sz', es, _, _, h1, h2⟩ | ⟨m, cap, sz, sz', es, _, h1, h2⟩ | ⟨u, cap, sz, sz', es, _, h1, h2⟩
  ·exact .inl ⟨j, sz', es, cap, sz, h1, h2⟩
  ·exact (own1 ⟨_, _, _, h1⟩ h2).imp l1blk id
  ·exact (own1 ⟨_, _, _, h1⟩ h2).imp l1blk id
 have hadv : Adv B w G H w1 (backG G G1 (im.map (·.1)) U) H2 := adv_mk gGe hsz hframe hlv
 have okdata : fz = p.ids → ∀ (V : List Nat), apart U V = true → apart (boxKs 0 p.bs) V = true → ∀ b, okI (okB B1 G1 H1 w1) G1 H1 V b → okB B (backG G G1 (im.map (·.1)) U) H2 w1 b := by
  intro hf V hUV hKV b hb
  have place : B1.A b ∨ B1.L0 b ∨ w.heap.size ≤ b := by
   rcases hb with ⟨h, _, _⟩ | ⟨v, hv, hr, cap, sz, hg⟩
   ·rw [hW1] at h; exact h
   ·exact .inr (own1 hr hg)
  have hblt : b < w1.heap.size := by
   rcases hb with ⟨_, _, h⟩ | ⟨v, hv, hr, cap, sz, hg⟩
   ·exact h
   ·exact hI1.blk_lt hr hg
  have live1 : ∀ {u cap sz sz' : Nat} {es : List (List D)}, hat H1 u = .row sz' es true → G1 u = .row b cap sz → (u ∈ V → False) → False := by
   intro u cap sz sz' es h1 h2 h3
   rcases hb with ⟨_, h, _⟩ | ⟨v, hv, hr, cap', sz'', hg⟩
   ·exact h ⟨u, sz', es, cap, sz, h1, h2⟩
   ·have := hI1.inj _ _ _ _ _ _ _ ⟨_, _, _, h1⟩ hr h2 hg
    subst this
    exact h3 hv
  refine ⟨?_, ?_, hblt⟩
  ·rcases place with h | h | h
   ·rw [hA1] at h
    rcases h.1 with h | ⟨id, _, ⟨sz', es, lv, hh⟩, cap, sz, hg⟩
    ·exact h.1
    ·obtain ⟨b', cap', k1, k2, _⟩ := hI.rows id sz' es lv hh
     rw [hg] at k1
     injection k1 with e1 _ _
     subst e1
     exact .inr k2
   ·rw [hL1] at h
    obtain ⟨m, id, bx, cap, sz, h1, h2⟩ := h
    obtain ⟨sz', es, hh⟩ := bsrow h1
    obtain ⟨b', cap', k1, k2, _⟩ := hI.rows id sz' es true hh
    rw [h2] at k1
    injection k1 with e1 _ _
    subst e1
    exact .inr k2
   ·exact .inr (.inr (Nat.le_trans hI.size h))
  ·intro hl
   rcases lv2 hl with ⟨j, cap, sz, sz', es, hj1, hj2, h1, h2⟩ | ⟨m, cap, sz, sz', es, hm, h1, h2⟩ | ⟨u, cap, sz, sz', es, hu, h1, h2⟩
   ·rcases place with h | h | h
    ·rw [hA1] at h
     rcases h.1 with ⟨_, h', _⟩ | ⟨id, hid, hr, cap', sz'', hg⟩
     ·exact h' ⟨j, sz', es, cap, sz, h1, h2⟩
     ·have := hI.inj _ _ _ _ _ _ _ ⟨_, _, _, h1⟩ hr h2 hg
      subst this
      exact hj2 (by rw [hf]; exact hid)
    ·rw [hL1] at h
     obtain ⟨m, id, bx, cap', sz'', k1, k2⟩ := h
     have := hI.inj _ _ _ _ _ _ _ ⟨_, _, _, h1⟩ (bsrow' k1) h2 k2
     subst this
     exact hj1 m bx k1
    ·have := hI.blk_lt ⟨_, _, _, h1⟩ h2
     omega
   ·exact live1 h1 h2 (fun h => apart_iff hKV hm h)
   ·exact live1 h1 h2 (fun h => apart_iff hUV hu h)
 have cell1 : ∀ (ok ok' : Nat → Prop), (∀ b, ok b → ok' b) → ∀ {v : Value} {x : D}, RepC fm ok w1 v x → RepC fm ok' w1 v x := fun ok ok' h v x hr => hr.mono fm h (fun _ _ _ _ hc => hc)
 have datRes : ∀ (x : D), x ∈ l → ∀ v, RepC fm (okI (okB B1 G1 H1 w1) G1 H1 V1) w1 v x → RepC fm (okB B (backG G G1 (im.map (·.1)) U) H2 w1) w1 v x := by
  intro x hx v hr
  rcases hfz with h | ⟨_, _, h⟩
  ·exact cell1 _ _ (okdata h V1 hU1 hK1) hr
  ·exact h x (.inl hx) v _ _ hr
 have datIm : ∀ {k q sz : Nat} {es : List (List D)} {lv : Bool}, im[k]? = some (q, .row sz es lv) → ∀ {e : List D}, e ∈ es → ∀ {x : D}, x ∈ e → ∀ v, RepC fm (okI (okB B1 G1 H1 w1) G1 H1 V1) w1 v x →
   RepC fm (okB B (backG G G1 (im.map (·.1)) U) H2 w1) w1 v x := by
  intro k q sz es lv hk e he x hx v hr
  rcases hfz with h | ⟨_, _, h⟩
  ·exact cell1 _ _ (okdata h V1 hU1 hK1) hr
  ·exact h x (.inr ⟨k, q, sz, es, lv, e, hk, he, hx⟩) v _ _ hr
 have old : ∀ {j b cap sz : Nat}, isRow H j → G j = .row b cap sz → b < w.heap.size := fun h1 h2 => hI.blk_lt h1 h2
 have row2 : ∀ {j : Nat}, isRow H2 j → (∃ (m : Nat), p.bs[m]? = some (j, true)) ∨ (∃ (k : Nat) (blk : Blk), im[k]? = some (j, blk)) ∨ ((∀ x ∈ ws ++ im, x.1 ≠ j) ∧ (∀ q ∈ im.map (·.1), q ≠ j) ∧ (∀ (m : Nat) (bx : Bool), p.bs[m]? ≠ some (j, bx)) ∧ isRow H j) := by
  rintro j ⟨sz, es, lv, hh⟩
  rcases cases2 j with ⟨m, bx, h⟩ | h | ⟨h, h', h''⟩
  ·rw [atBs h] at hh
   rcases hB2.2 m j bx h with ⟨_, hw⟩ | ⟨hbx, _⟩
   ·rw [hw] at hh; cases hh
   ·subst hbx; exact .inl ⟨m, h⟩
  ·exact .inr (.inl h)
  ·refine .inr (.inr ⟨h, h', h'', ?_⟩)
   rw [atOther h] at hh
   split at hh
   ·cases hx : hat H j with
    | fresh => rw [hx] at hh; cases hh
    | dead => rw [hx] at hh; cases hh
    | row a b c => exact ⟨a, b, c, hx⟩
   ·exact ⟨sz, es, lv, hh⟩
 have imU : ∀ {k j : Nat} {blk : Blk}, im[k]? = some (j, blk) → ∃ u, U[k]? = some u ∧ isRow H1 u ∧ backG G G1 (im.map (·.1)) U j = G1 u := by
  intro k j blk h
  obtain ⟨u, hu, hg⟩ := gIm h
  obtain ⟨u', sz2, es2, es2', b2, cap2, e1, e2, e3, e4, _⟩ := hE.row k j blk h
  rw [hu] at e1
  injection e1 with e1
  subst e1
  exact ⟨u, hu, ⟨_, _, _, e3⟩, hg⟩
 refine ⟨hadv, inv_mk hI hsz ?_ ?_ ?_ hframe ?_ ?_ ?_ ?_, ?_⟩
 ·have := hI1.os; rw [hW1] at this; exact this
 ·have := hI1.tape; rw [hW1] at this; exact this
 ·have := hI1.output; rw [hW1] at this; exact this
 ·intro j sz es lv hh
  rcases cases2 j with ⟨m, bx, h⟩ | ⟨k, blk, h⟩ | ⟨h, h', h''⟩
  ·have hh' := hh
   rw [atBs h] at hh
   rcases hB2.2 m j bx h with ⟨_, hw⟩ | ⟨hbx, hk, sz2, es2, es2', b2, cap2, hw, hat1, hg, hrow⟩
   ·rw [hw] at hh; cases hh
   ·rw [hw] at hh
    simp only [Option.map_some, Option.getD_some, Blk.row.injEq] at hh
    obtain ⟨rfl, rfl, rfl⟩ := hh
    have hGm := hG1 m j bx h
    simp only [Nat.zero_add] at hg
    rw [hGm] at hg
    obtain ⟨sz3, es3, hh3⟩ := bsrow h
    obtain ⟨b4, cap4, k1, k2, _⟩ := hI.rows j sz3 es3 true hh3
    rw [hg] at k1
    injection k1 with e1 e2 e3
    subst e1; subst e2; subst e3
    refine ⟨b2, cap2, by rw [gBs h]; exact hg, k2, hrow.mono (fun v d hv => .closed ?_) rfl⟩
    rcases hfz with hf | ⟨_, hf, _⟩
    ·exact cell1 _ _ (okdata hf V2 hU2 hK2) hv
    ·rw [hf] at h; simp at h
  ·obtain ⟨u, hu, hg⟩ := gIm h
   obtain ⟨u', sz2, es2, es2', b2, cap2, e1, e2, e3, e4, e5⟩ := hE.row k j blk h
   rw [hu] at e1
   injection e1 with e1
   subst e1
   subst e2
   have hb : hat (doWs H (ws ++ im)) j = .row sz2 es2' true := atIm h
   have hsame : sz = sz2 ∧ es = es2' := by
    rw [hat2, hb] at hh
    split at hh <;> (simp only [freeze, Blk.row.injEq] at hh; exact ⟨hh.1.symm, hh.2.1.symm⟩)
   obtain ⟨rfl, rfl⟩ := hsame
   have hb2 := own1 ⟨_, _, _, e3⟩ e4
   refine ⟨b2, cap2, by rw [hg]; exact e4, ?_, ?_⟩
   ·rcases hb2 with hb2 | hb2
    ·rw [hL1] at hb2
     obtain ⟨m, id, bx, cap, sz', h1, h2⟩ := hb2
     obtain ⟨sz3, es3, hh3⟩ := bsrow h1
     obtain ⟨b4, cap4, k1, k2, _⟩ := hI.rows id sz3 es3 true hh3
     rw [h2] at k1
     injection k1 with q1 _ _
     subst q1
     exact k2
    ·exact .inr (Nat.le_trans hI.size hb2)
   ·obtain ⟨⟨c, T, r1, r2, r3⟩, r4, r5, r6⟩ := e5
    refine ⟨⟨c, T, r1, r2, fun i jj e d he hd => ?_⟩, r4, r5, r6⟩
    obtain ⟨v, a1, a2, a3⟩ := r3 i jj e d he hd
    exact ⟨v, a1, a2, .closed (datIm h (List.mem_of_getElem? he) (List.mem_of_getElem? hd) v a3)⟩
  ·have hrowH : ∃ lv', hat H j = .row sz es lv' := by
    rw [atOther h] at hh
    split at hh
    ·cases hx : hat H j with
     | fresh => rw [hx] at hh; cases hh
     | dead => rw [hx] at hh; cases hh
     | row x y z =>
      rw [hx] at hh
      simp only [freeze, Blk.row.injEq] at hh
      obtain ⟨rfl, rfl, _⟩ := hh
      exact ⟨z, rfl⟩
    ·exact ⟨lv, hh⟩
   obtain ⟨lv', hh'⟩ := hrowH
   obtain ⟨b, cap, k1, k2, k3⟩ := hI.rows j sz es lv' hh'
   refine ⟨b, cap, by rw [backG_other h']; exact k1, k2, k3.mono (fun v d hv => hadv.rep hv) ?_⟩
   have := hI1.frame b (by rw [hW1]; exact k3.lt) (fun hl => by
    rw [hL1] at hl
    obtain ⟨m, id, bx, cap', sz', h1, h2⟩ := hl
    have := hI.inj _ _ _ _ _ _ _ ⟨_, _, _, hh'⟩ (bsrow' h1) k1 h2
    subst this
    exact h'' m bx h1)
   rw [hW1] at this
   exact this
 ·intro j hh
  rcases cases2 j with ⟨m, bx, h⟩ | ⟨k, blk, h⟩ | ⟨h, h', h''⟩
  ·rw [atBs h] at hh
   rcases hB2.2 m j bx h with ⟨_, hw⟩ | ⟨_, _, sz2, es2, es2', b2, cap2, hw, _⟩ <;> (rw [hw] at hh; cases hh)
  ·obtain ⟨u', sz2, es2, es2', b2, cap2, e1, e2, e3, e4, e5⟩ := hE.row k j blk h
   rw [hat2, atIm h, e2] at hh
   split at hh <;> cases hh
  ·rw [backG_other h']
   refine hI.fresh j ?_
   rw [atOther h] at hh
   split at hh
   ·cases hx : hat H j <;> rw [hx] at hh <;> simp [freeze] at hh ⊢
   ·exact hh
 ·intro j hh
  rcases cases2 j with ⟨m, bx, h⟩ | ⟨k, blk, h⟩ | ⟨h, h', h''⟩
  ·rw [gBs h]
   obtain ⟨sz, es, es', b, cap, _, hg, _⟩ := hp.row m j bx h
   rw [hg]; simp
  ·obtain ⟨u', sz2, es2, es2', b2, cap2, e1, e2, e3, e4, e5⟩ := hE.row k j blk h
   rw [hat2, atIm h, e2] at hh
   split at hh <;> cases hh
  ·rw [backG_other h']
   refine hI.dead j ?_
   rw [atOther h] at hh
   split at hh
   ·cases hx : hat H j <;> rw [hx] at hh <;> simp [freeze] at hh ⊢
   ·exact hh
 ·intro i j b cap sz cap' sz' r1 r2 h1 h2
  rcases row2 r1 with ⟨m, hm⟩ | ⟨k, blk, hk⟩ | ⟨a1, a2, a3, a4⟩ <;> rcases row2 r2 with ⟨m', hm'⟩ | ⟨k', blk', hk'⟩ | ⟨b1, b2, b3, b4⟩
  ·rw [gBs hm] at h1; rw [gBs hm'] at h2
   exact hI.inj _ _ _ _ _ _ _ (bsrow' hm) (bsrow' hm') h1 h2
  ·rw [gBs hm] at h1
   obtain ⟨u, hu, ru, hg⟩ := imU hk'
   rw [hg] at h2
   rw [← hG1 m i true hm] at h1
   rcases hB2.2 m i true hm with ⟨hf, _⟩ | ⟨_, hbk, sz2, es2, es2', b2, cap2, _, hat1, _⟩
   ·cases hf
   ·simp only [Nat.zero_add] at hat1 hbk
    have := hI1.inj _ _ _ _ _ _ _ ⟨_, _, _, hat1⟩ ru h1 h2
    subst this
    exact (apart_iff hU3 (List.mem_of_getElem? hu) hbk).elim
  ·rw [gBs hm] at h1; rw [backG_other b2] at h2
   exact hI.inj _ _ _ _ _ _ _ (bsrow' hm) b4 h1 h2
  ·rw [gBs hm'] at h2
   obtain ⟨u, hu, ru, hg⟩ := imU hk
   rw [hg] at h1
   rw [← hG1 m' j true hm'] at h2
   rcases hB2.2 m' j true hm' with ⟨hf, _⟩ | ⟨_, hbk, sz2, es2, es2', b2, cap2, _, hat1, _⟩
   ·cases hf
   ·simp only [Nat.zero_add] at hat1 hbk
    have := hI1.inj _ _ _ _ _ _ _ ⟨_, _, _, hat1⟩ ru h2 h1
    subst this
    exact (apart_iff hU3 (List.mem_of_getElem? hu) hbk).elim
  ·obtain ⟨u, hu, ru, hg⟩ := imU hk
   obtain ⟨u', hu', ru', hg'⟩ := imU hk'
   rw [hg] at h1; rw [hg'] at h2
   have := hI1.inj _ _ _ _ _ _ _ ru ru' h1 h2
   subst this
   have := nodup_iff hU hu hu'
   subst this
   rw [hk] at hk'
   injection hk' with hk'
   rw [Prod.mk.injEq] at hk'
   exact hk'.1
  ·obtain ⟨u, hu, ru, hg⟩ := imU hk
   rw [hg] at h1; rw [backG_other b2] at h2
   rcases own1 ru h1 with h | h
   ·rw [hL1] at h
    obtain ⟨m, id, bx, cap2, sz2, q1, q2⟩ := h
    have := hI.inj _ _ _ _ _ _ _ b4 (bsrow' q1) h2 q2
    subst this
    exact (b3 m bx q1).elim
   ·have := old b4 h2; omega
  ·rw [backG_other a2] at h1; rw [gBs hm'] at h2
   exact hI.inj _ _ _ _ _ _ _ a4 (bsrow' hm') h1 h2
  ·obtain ⟨u, hu, ru, hg⟩ := imU hk'
   rw [hg] at h2; rw [backG_other a2] at h1
   rcases own1 ru h2 with h | h
   ·rw [hL1] at h
    obtain ⟨m, id, bx, cap2, sz2, q1, q2⟩ := h
    have := hI.inj _ _ _ _ _ _ _ a4 (bsrow' q1) h1 q2
    subst this
    exact (a3 m bx q1).elim
   ·have := old a4 h1; omega
  ·rw [backG_other a2] at h1; rw [backG_other b2] at h2
   exact hI.inj _ _ _ _ _ _ _ a4 b4 h1 h2
 ·intro j v x hv hx
  rcases hE.res j v x hv hx with h | ⟨k, q, blk, u, b, cap, sz, len, rfl, h1, h2, h3, h4⟩
  ·exact .closed (datRes x (List.mem_of_getElem? hx) v h)
  ·have hg : backG G G1 (im.map (·.1)) U q = G1 u := backG_at hqn (by rw [List.getElem?_map, h1]; rfl) h2
   refine .ref q 0 len v (by rw [hg, h3]; simp) (fun b' cap' sz' hh => ?_) ?_
   ·rw [hg, h3] at hh
    injection hh with e1 e2 e3
    subst e1; subst e2; subst e3
    exact h4
   ·obtain ⟨_, A, rfl, _⟩ := h4; rfl
theorem opOk_enter {K : Value → World → Prop} {f : Nat} {args : Array Value} (h : (execOp a.eval o).run P w = .ok (.enter f args) w)
  (hc : Calls P f args w fun e w' => ∃ v, e = .returned v ∧ K v w') : OpOk P o a w K := by
 intro next Q hn
 unfold Oper.wp
 rw [h]
 refine hc.mono fun e w' he => ?_
 obtain ⟨v, rfl, hk⟩ := he
 exact hn v w' hk
def FnOk (P : Program) (f : Nat) : Prop := ∃ fn, P.funcs[f]? = some fn ∧ (fn.name == "runtime.NumGoroutine") = false ∧ fn.body.isNone = false
theorem run_call {f t : Nat} {xs : List Operand} {ats : Array TypeId} (ho : o.op = .call { callee := .value (.func f), args := xs.toArray, argTypes := ats }) (hf : FnOk P f) :
  (execOp a.eval o).run P w = .ok (.enter f (xs.map a.eval).toArray) w := by
 obtain ⟨fn, h1, h2, h3⟩ := hf
 have h2' : ¬ fn.name = "runtime.NumGoroutine" := by simpa using h2
 have h3' : ¬ fn.body = none := by
  intro e; rw [e] at h3; cases h3
 simp [execOp, ho, resolve, Act.eval, Deferred.ofValue, invoke, callFunc, h1, h2', h3']
theorem trA_vals (hts : TsR (Rep fm G (okB B G H w) w) a.tmps ts) : ∀ {xs : List Operand} {qs : List (Nat × PX)}, TrA fm xs qs →
  (xs.map a.eval).length = (qs.map fun p => (p.1, p.2.ev ts)).length ∧
  ∀ (j : Nat) (v : Value) (q : Nat × D), (xs.map a.eval)[j]? = some v → (qs.map fun p => (p.1, p.2.ev ts))[j]? = some q → Rep fm G (okB B G H w) w v q.2
 | [], [], .nil => ⟨rfl, by simp⟩
 | x :: xs, (m, px) :: qs, .cons hx h => by
  obtain ⟨h1, h2⟩ := trA_vals hts h
  refine ⟨by simpa using h1, fun j v q hv hq => ?_⟩
  cases j with
  | zero =>
   simp at hv hq
   subst hv; subst hq
   exact ev_rep hts hx
  | succ j => exact h2 j v q (by simpa using hv) (by simpa using hq)
theorem scal_rep {d : D} (h : scal d = true) {ok ok' : Nat → Prop} {v : Value} (hr : RepC fm ok w v d) : RepC fm ok' w v d := by
 cases hr with
 | undef v => exact .undef v
 | skip => exact .skip
 | bool b => exact .bool b
 | int k n => exact .int k n
 | flt a m hb => exact .flt a m hb
 | str s => exact .str s
 | nil => exact .nil
 | lst0 => simp [scal] at h
 | lst1 => simp [scal] at h
 | fptr => simp [scal] at h
 | nilp => exact .nilp
 | agg => simp [scal] at h
 | fn f => exact .fn f
theorem scalV_rep {d : D} (h : scalV d = true) {ok ok' : Nat → Prop} {v : Value} (hr : RepC fm ok w v d) : RepC fm ok' w v d := by
 cases hr with
 | agg cs vs hl hone hrep =>
  simp only [scalV, List.all_eq_true] at h
  exact .agg cs vs hl hone (fun j d v h1 h2 => scal_rep (h d (List.mem_of_getElem? h1)) (hrep j d v h1 h2))
 | undef v => exact .undef v
 | skip => exact .skip
 | bool b => exact .bool b
 | int k n => exact .int k n
 | flt a m hb => exact .flt a m hb
 | str s => exact .str s
 | nil => exact .nil
 | lst0 => simp [scalV, scal] at h
 | lst1 => simp [scalV, scal] at h
 | fptr => simp [scalV, scal] at h
 | nilp => exact .nilp
 | fn f => exact .fn f
theorem imp_scal : ∀ {l : List D} {r : Nat}, l.all scalV = true → (∀ x ∈ (impL r l).1, scalV x = true ∨ ∃ q len, x = .ref q 0 len) ∧
  ∀ (k q sz : Nat) (es : List (List D)) (lv : Bool) (e : List D) (x : D), (impL r l).2[k]? = some (q, Blk.row sz es lv) → e ∈ es → x ∈ e → scal x = true
 | [], r, _ => by simp [impL]
 | d :: l, r, h => by
  simp only [List.all_cons, Bool.and_eq_true] at h
  obtain ⟨h1, h2⟩ := imp_scal (r := r + 1) h.2
  have hd := h.1
  unfold impL
  by_cases ho : ∃ sz es, d = .own sz es
  ·obtain ⟨sz, es, rfl⟩ := ho
   refine ⟨fun x hx => ?_, fun k q sz' es' lv e x hk he hx => ?_⟩
   ·simp only [imp1, List.mem_cons] at hx
    rcases hx with rfl | hx
    ·exact .inr ⟨_, _, rfl⟩
    ·exact h1 x hx
   ·simp only [imp1, List.singleton_append] at hk
    cases k with
    | zero =>
     simp at hk
     obtain ⟨rfl, rfl, rfl, rfl⟩ := hk
     simp only [scalV, List.all_eq_true] at hd
     exact hd e he x hx
    | succ k => exact h2 k q sz' es' lv e x (by simpa using hk) he hx
  ·have him : imp1 r d = (d, []) := by
    unfold imp1
    split
    ·exact absurd ⟨_, _, rfl⟩ ho
    ·rfl
   rw [him]
   refine ⟨fun x hx => ?_, fun k q sz' es' lv e x hk he hx => h2 k q sz' es' lv e x (by simpa using hk) he hx⟩
   simp only [List.mem_cons] at hx
   rcases hx with rfl | hx
   ·exact .inl hd
   ·exact h1 x hx
theorem run_callV {f t : Nat} {x : Operand} {xs : List Operand} {ats : Array TypeId} (ho : o.op = .call { callee := .value x, args := xs.toArray, argTypes := ats }) (hv : a.eval x = .func (.func f) #[] #[]) (hf : FnOk P f) :
  (execOp a.eval o).run P w = .ok (.enter f (xs.map a.eval).toArray) w := by
 obtain ⟨fn, h1, h2, h3⟩ := hf
 have h2' : ¬ fn.name = "runtime.NumGoroutine" := by simpa using h2
 have h3' : ¬ fn.body = none := by
  intro e; rw [e] at h3; cases h3
 simp [execOp, ho, resolve, hv, Deferred.ofValue, invoke, callFunc, h1, h2', h3']
theorem op_callG (hs : Sound P fm call) (hI : Inv fm B w G H) (hts : TsR (Rep fm G (okB B G H w) w) a.tmps ts) {f : Nat} {xs : List Operand} {qs : List (Nat × PX)}
  (he : (execOp a.eval o).run P w = .ok (.enter (fm f) (xs.map a.eval).toArray) w) (hx : TrA fm xs qs)
  (hrun : (opE call (PX.ev ts) r (.call f qs)).run H = some out) : OpOk P o a w (Post fm B w G H out) := by
 obtain ⟨hl, hr⟩ := trA_vals (B := B) (G := G) (H := H) (w := w) hts hx
 obtain ⟨p, h1, h2⟩ := run_bind' (by exact hrun)
 obtain ⟨p1, p2⟩ := prep_ok hI hl hr h1
 split at h2
 ·rename_i hc
  simp only [Bool.and_eq_true] at hc
  obtain ⟨c1, c2⟩ := hc
  cases hcall : call f p.args p.rows with
  | none => rw [hcall] at h2; simp [Eff.run] at h2
  | some x =>
   rw [hcall] at h2
   simp only at h2
   cases hfin : finish r p x.1 x.2 with
   | none => rw [hfin] at h2; simp [Eff.run] at h2
   | some fo =>
    rw [hfin] at h2
    obtain ⟨rfl, n2⟩ := run_newL h2
    unfold finish at hfin
    simp only [Option.bind_eq_some_iff] at hfin
    obtain ⟨ex, e1, eb, e2, e3⟩ := hfin
    split at e3
    ·rename_i hc2
     simp only [Option.some.injEq] at e3
     subst e3
     simp only [Bool.and_eq_true] at hc2
     obtain ⟨⟨⟨⟨⟨d1, d2⟩, d3⟩, d4⟩, d5⟩, d6⟩ := hc2
     let L : Nat → Prop := fun b => ∃ (m id : Nat) (bx : Bool) (cap sz : Nat), p.bs[m]? = some (id, bx) ∧ G id = .row b cap sz
     let B1 : Base := { A := fun b => okI (okB B G H w) G H p.ids b ∧ ¬ L b, W0 := w, L0 := L }
     let G0 : Gh := fun m => match p.bs[m]? with | some (id, _) => G id | none => .fresh
     have hG0 : ∀ (m id : Nat) (bx : Bool), p.bs[m]? = some (id, bx) → G0 m = G id := fun m id bx hm => by show (match p.bs[m]? with | some (id, _) => G id | none => .fresh) = _; rw [hm]
     have hlt : ∀ b, okI (okB B G H w) G H p.ids b → b < w.heap.size := by
      rintro b (h | ⟨id, _, hr, cap, sz, hg⟩)
      ·exact h.2.2
      ·exact hI.blk_lt hr hg
     have hnl : ∀ b, okI (okB B G H w) G H p.ids b → ¬ L b := by
      rintro b hb ⟨m, id, bx, cap, sz, h1, h2⟩
      obtain ⟨sz', es, _, b', cap', hh, _⟩ := p2.row m id bx h1
      rcases hb with h | ⟨id', hid', hr, cap2, sz2, hg⟩
      ·exact h.2.1 ⟨id, sz', es, cap, sz, hh, h2⟩
      ·have := hI.inj _ _ _ _ _ _ _ ⟨_, _, _, hh⟩ hr h2 hg
       subst this
       exact apart_iff c2 (List.mem_map.2 ⟨(id, bx), List.mem_of_getElem? h1, rfl⟩) hid'
     have hLv0 : ∀ b, Lv G0 p.rows b → L b := by
      rintro b ⟨m, sz, es, cap, sz', h1, h2⟩
      have h2' : (match p.bs[m]? with | some (id, _) => G id | none => GS.fresh) = .row b cap sz' := h2
      cases hm : p.bs[m]? with
      | none => rw [hm] at h2'; cases h2'
      | some q => rw [hm] at h2'; exact ⟨m, q.1, q.2, cap, sz', hm, h2'⟩
     have hok0 : ∀ b, okI (okB B G H w) G H p.ids b → okB B1 G0 p.rows w b := fun b hb => ⟨.inl ⟨hb, hnl b hb⟩, fun h => hnl b hb (hLv0 b h), hlt b hb⟩
     have hup : ∀ {v : Value} {d : D}, RepC fm (okI (okB B G H w) G H p.ids) w v d → Rep fm G0 (okB B1 G0 p.rows w) w v d := fun h => .closed (h.mono fm hok0 (fun _ _ _ _ h => h))
     have hrow0 : ∀ {m sz : Nat} {es : List (List D)} {lv : Bool}, hat p.rows m = .row sz es lv → ∃ id bx sz' es' b cap, p.bs[m]? = some (id, bx) ∧ hat H id = .row sz es' true ∧ G id = .row b cap sz ∧ sz' = sz ∧ RowOk (RepC fm (okI (okB B G H w) G H p.ids) w) w sz es b cap := by
      intro m sz es lv h
      have hm : m < p.rows.length := hat_lt (by rw [h]; simp)
      have hmb : m < p.bs.length := by rw [← p2.rows]; exact hm
      obtain ⟨sz', es', es'', b, cap, k1, k2, k3, k4⟩ := p2.row m p.bs[m].1 p.bs[m].2 (List.getElem?_eq_getElem hmb)
      have : hat p.rows m = .row sz' es'' true := by unfold hat; rw [List.getD_eq_getElem?_getD, k3]; rfl
      rw [h] at this
      injection this with q1 q2 q3
      subst q1; subst q2
      exact ⟨_, _, _, es', b, cap, List.getElem?_eq_getElem hmb, k1, k2, rfl, k4⟩
     have hI0 : Inv fm B1 w G0 p.rows := by
      refine ⟨Nat.le_refl _, rfl, rfl, rfl, fun _ _ _ => rfl, fun m sz es lv h => ?_, fun m h => ?_, fun m h => ?_, fun i j b cap sz cap' sz' r1 r2 h1 h2 => ?_, fun b hb => ⟨hb.2, hlt b hb.1⟩⟩
      ·obtain ⟨id, bx, _, es', b, cap, k1, k2, k3, _, k5⟩ := hrow0 h
       exact ⟨b, cap, by rw [hG0 m id bx k1]; exact k3, .inl ⟨m, id, bx, cap, sz, k1, k3⟩, k5.mono (fun v d hv => hup hv) rfl⟩
      ·show (match p.bs[m]? with | some (id, _) => G id | none => GS.fresh) = .fresh
       cases hm : p.bs[m]? with
       | none => rfl
       | some q =>
        obtain ⟨sz', es', es'', b, cap, k1, k2, k3, k4⟩ := p2.row m q.1 q.2 hm
        have : hat p.rows m = .row sz' es'' true := by unfold hat; rw [List.getD_eq_getElem?_getD, k3]; rfl
        rw [h] at this; cases this
      ·exfalso
       have hm : m < p.bs.length := by rw [← p2.rows]; exact hat_lt (by rw [h]; simp)
       obtain ⟨sz', es', es'', b, cap, k1, k2, k3, k4⟩ := p2.row m p.bs[m].1 p.bs[m].2 (List.getElem?_eq_getElem hm)
       have : hat p.rows m = .row sz' es'' true := by unfold hat; rw [List.getD_eq_getElem?_getD, k3]; rfl
       rw [h] at this; cases this
      ·obtain ⟨sz1, es1, lv1, hh1⟩ := r1
       obtain ⟨sz2, es2, lv2, hh2⟩ := r2
       obtain ⟨id1, bx1, _, es1', b1, cap1, k1, k2, k3, _, _⟩ := hrow0 hh1
       obtain ⟨id2, bx2, _, es2', b2, cap2, l1, l2, l3, _, _⟩ := hrow0 hh2
       rw [hG0 i id1 bx1 k1] at h1
       rw [hG0 j id2 bx2 l1] at h2
       have := hI.inj _ _ _ _ _ _ _ ⟨_, _, _, k2⟩ ⟨_, _, _, l2⟩ h1 h2
       subst this
       exact nodup_iff c1 (x := id1) (by rw [List.getElem?_map, k1]; rfl) (by rw [List.getElem?_map, l1]; rfl)
     have hargs : ∀ (j : Nat) (v : Value) (y : D), (xs.map a.eval)[j]? = some v → p.args[j]? = some y → Rep fm G0 (okB B1 G0 p.rows w) w v y := by
      intro j v y hv hy
      rcases p2.arg j v y hv hy with h | ⟨m, id, bx, b, cap, sz, len, rfl, k1, k2, k3⟩ | ⟨m, id, bx, b, cap, sz, rfl, k1, k2, rfl⟩
      ·exact hup h
      ·simp only [Nat.zero_add]
       refine .ref m 0 len v (by rw [hG0 m id bx k1, k2]; simp) (fun b' cap' sz' hh => ?_) (by obtain ⟨_, A, rfl, _⟩ := k3; rfl)
       rw [hG0 m id bx k1, k2] at hh
       injection hh with q1 q2 q3
       subst q1; subst q2; subst q3
       exact k3
      ·simp only [Nat.zero_add]
       refine .ptr m 0 _ (by rw [hG0 m id bx k1, k2]; simp) (fun b' cap' sz' hh => ?_) rfl
       rw [hG0 m id bx k1, k2] at hh
       injection hh with q1 q2 q3
       subst q1
       rfl
     have hcalls := hs f p.args p.rows x.1 x.2 (by rw [hcall]) B1 w G0 (xs.map a.eval) hI0 (by rw [p1]; exact hl) hargs
     refine opOk_enter he (hcalls.mono fun e w1 he1 => ?_)
     obtain ⟨v, G1, rfl, hadv, hI1, hrep⟩ := he1
     refine ⟨v, rfl, ?_⟩
     have hG1 : ∀ (m id : Nat) (bx : Bool), p.bs[m]? = some (id, bx) → G1 m = G id := fun m id bx hm => by
      obtain ⟨sz', es', es'', b, cap, k1, k2, k3, k4⟩ := p2.row m id bx hm
      have := hadv.gh m
      rw [hG0 m id bx hm, k2] at this
      simp only [GS.le] at this
      rw [this, k2]
     have hcomps : ∃ rv : List Value, rv.length = (comps x.1).length ∧ (∀ (j : Nat) (u : Value) (y : D), rv[j]? = some u → (comps x.1)[j]? = some y → Rep fm G1 (okB B1 G1 x.2 w1) w1 u y) ∧
       (∀ (G' : Gh) (ok : Nat → Prop) (l : List D), l.length = (comps x.1).length → (∀ (j : Nat) (u : Value) (y : D), rv[j]? = some u → l[j]? = some y → Rep fm G' ok w1 u y) → Rep fm G' ok w1 v (recomp x.1 l)) := by
      by_cases ht : ∃ vs, x.1 = .tup vs
      ·obtain ⟨ds, ht⟩ := ht
       rw [ht] at hrep ⊢
       obtain ⟨us, rfl, hul, hur⟩ := hrep.inv_tup
       exact ⟨us, hul, fun j u y hu hy => hur j y u hy hu, fun G' ok l hl h => .tup l us (by rw [hl]; exact hul) (fun j d u h1 h2 => h j u d h2 h1)⟩
      ·have hc : comps x.1 = [x.1] := by
        unfold comps
        split
        ·rename_i vs hv; exact absurd ⟨vs, hv⟩ ht
        ·rfl
       rw [hc]
       refine ⟨[v], rfl, fun j u y hu hy => ?_, fun G' ok l hl h => ?_⟩
       ·cases j with
        | zero => simp at hu hy; subst hu; subst hy; exact hrep
        | succ j => simp at hu
       ·have hrc : recomp x.1 l = l.headD .undef := by
         unfold recomp
         split
         ·rename_i vs hv; exact absurd ⟨vs, by assumption⟩ ht
         ·rfl
        rw [hrc]
        match l, hl with
        | [y], _ => exact h 0 v y rfl rfl
     obtain ⟨rv, rv1, rv2, rv3⟩ := hcomps
     obtain ⟨m1, m2, m3, m4, m5⟩ := exp_ok hI1 rv1 rv2 e1 r
     have hB2 := expB_ok hI1 e2
     have hfz : ∀ fz : List Nat, fz = (if (p.bs.isEmpty && ex.1.all scalV) = true then [] else p.ids) → (fz = p.ids ∨ (fz = [] ∧ p.bs = [] ∧
       ∀ (y : D), y ∈ (impL r ex.1).1 ∨ (∃ (k q sz : Nat) (es : List (List D)) (lv : Bool) (e : List D), (impL r ex.1).2[k]? = some (q, Blk.row sz es lv) ∧ e ∈ es ∧ y ∈ e) → ∀ v ok ok', RepC fm ok w1 v y → RepC fm ok' w1 v y)) := by
      intro fz hfz
      split at hfz
      ·rename_i hb
       simp only [Bool.and_eq_true] at hb
       refine .inr ⟨hfz, by simpa using hb.1, fun y hy u ok ok' hu => ?_⟩
       obtain ⟨s1, s2⟩ := imp_scal (r := r) hb.2
       rcases hy with hy | ⟨k, q, sz, es, lv, e, hk, he, hy⟩
       ·rcases s1 y hy with hy | ⟨q, len, rfl⟩
        ·exact scalV_rep hy hu
        ·cases hu
       ·exact scal_rep (s2 k q sz es lv e y hk he hy) hu
      ·exact .inl hfz
     obtain ⟨b1, b2, b3⟩ := back_ok hI p2 c1 c2 (B1 := B1) rfl hI1 hG1 m3 m5 (fun q hq => n2 q hq) hB2 d1 d2 d3 d4 d5 d6 (hfz _ rfl) rfl
     exact ⟨_, b1, b2, rv3 _ _ _ m2 b3⟩
    ·cases e3
 ·simp [Eff.run] at h2
theorem op_call (hs : Sound P fm call) (hI : Inv fm B w G H) (hts : TsR (Rep fm G (okB B G H w) w) a.tmps ts) {f : Nat} {xs : List Operand} {qs : List (Nat × PX)} {ats : Array TypeId}
  (ho : o.op = .call { callee := .value (.func (fm f)), args := xs.toArray, argTypes := ats }) (hf : FnOk P (fm f)) (hx : TrA fm xs qs)
  (hrun : (opE call (PX.ev ts) r (.call f qs)).run H = some out) : OpOk P o a w (Post fm B w G H out) :=
 op_callG hs hI hts (run_call (t := 0) ho hf) hx hrun
theorem op_callV (hs : Sound P fm call) (hI : Inv fm B w G H) (hts : TsR (Rep fm G (okB B G H w) w) a.tmps ts) {fs : List Nat} {x : Operand} {px : PX} {xs : List Operand} {qs : List (Nat × PX)} {ats : Array TypeId}
  (ho : o.op = .call { callee := .value x, args := xs.toArray, argTypes := ats }) (hv : TrX fm x px) (hf : ∀ f ∈ fs, FnOk P (fm f)) (hx : TrA fm xs qs)
  (hrun : (opE call (PX.ev ts) r (.callV fs px qs)).run H = some out) : OpOk P o a w (Post fm B w G H out) := by
 have hvx := ev_rep hts hv
 simp only [opE] at hrun
 split at hrun
 ·rename_i f e1
  split at hrun
  ·rename_i hc
   rw [e1] at hvx
   obtain ⟨y, h1, h2⟩ := run_bind' hrun
   split at h2
   ·simp only [Eff.run, Option.some.injEq] at h2
    subst h2
    exact op_callG (f := f) hs hI hts (run_callV (t := 0) ho hvx.inv_fn (hf f (by simpa using hc))) hx (by exact h1)
   ·simp [Eff.run] at h2
  ·simp [Eff.run] at hrun
 ·simp [Eff.run] at hrun
end
end Go.Pi
namespace Go.Pi
set_option linter.unusedVariables false
section
variable (P : Program) (fm : Nat → Nat)
inductive TrAct : Op → POp → Prop where
 | op {mo : Op} {po : POp} (h : TrOp P fm mo po) : TrAct mo po
 | call {f : Nat} {xs : List Operand} {qs : List (Nat × PX)} {ats : Array TypeId} (hx : TrA fm xs qs) (hf : FnOk P (fm f)) :
   TrAct (.call { callee := .value (.func (fm f)), args := xs.toArray, argTypes := ats }) (.call f qs)
 | callH {f : Nat} {xs : List Operand} {qs : List PX} {ats : Array TypeId} (hx : TrXs fm xs qs) (hf : FnOk P (fm f)) :
   TrAct (.call { callee := .value (.func (fm f)), args := xs.toArray, argTypes := ats }) (.callH f qs)
 | callV {fs : List Nat} {x : Operand} {px : PX} {xs : List Operand} {qs : List (Nat × PX)} {ats : Array TypeId} (hv : TrX fm x px) (hx : TrA fm xs qs) (hf : ∀ f ∈ fs, FnOk P (fm f)) :
   TrAct (.call { callee := .value x, args := xs.toArray, argTypes := ats }) (.callV fs px qs)
inductive Reach (ops : Array Oper) : Nat → Nat → Prop where
 | one {i : Nat} {o : Oper} {e : Edge} (ho : ops[i]? = some o) (he : e ∈ o.after.toList) (hb : Region.binds .any e = true) : Reach ops e.on i
 | trans {k j i : Nat} (h1 : Reach ops k j) (h2 : Reach ops j i) : Reach ops k i
structure TrPO (ops : Array Oper) (i : Nat) (o : Oper) (p : PO) : Prop where
 dst : p.dst = o.dst
 op : TrAct P fm o.op p.op
 guard : (o.guard = none ∧ p.guard = none) ∨ (∃ (j : Nat) (b : Bool) (t : Nat), o.guard = some (j, b) ∧ p.guard = some (t, b) ∧ (ops[j]?).bind (·.dst) = some t)
 after : ∀ k ∈ p.after, Reach ops k i
 lt : ∀ e ∈ o.after.toList, Region.binds .any e = true → e.on < i
end
section
variable {P : Program} {fm : Nat → Nat} {B : Base} {w : World} {G : Gh} {H : Heap} {o : Oper} {a : Act} {ts : List D} {call : CallF} {r : Nat} {out : Out}
theorem op_sound (hI : Inv fm B w G H) (hts : TsR (Rep fm G (okB B G H w) w) a.tmps ts) {po : POp} (ht : TrOp P fm o.op po) (hrun : (opE call (PX.ev ts) r po).run H = some out) :
  OpOk P o a w (Post fm B w G H out) := by
 generalize ho : o.op = mo at ht
 cases ht with
 | move h => exact op_mv hI hts (.inl ho) h hrun
 | assign h => exact op_mv hI hts (.inr ho) h hrun
 | pick hc ha hb => exact op_pick hI hts ho hc ha hb hrun
 | alloc hi hz hzs => exact op_alloc hI ho hi hz hzs hrun
 | box h => exact op_box hI hts ho h hrun
 | build hb hzs hp => exact op_build hI hts ho hb hzs hp hrun
 | buildSlice hu hie hz hsz h0 hzs hzl hsm hp => exact op_buildSlice hI hts ho hu hie hz hsz h0 hzs hzl hsm hp hrun
 | load hs h => exact op_load hI hts ho hs h hrun
 | store hs hx hy => exact op_store hI hts ho hs hx hy hrun
 | nilCheck h => exact op_nilCheck hI hts ho h hrun
 | bin hx hy => exact op_bin hI hts ho hx hy hrun
 | eqB ht hx hy => exact op_eqB hI hts ho ht hx hy hrun
 | eqNs ht hx => exact op_eqNS hI hts ho ht hx hrun
 | eqNp ht hx => exact op_eqNP hI hts ho ht hx hrun
 | un hx => exact op_un hI hts ho hx hrun
 | convInt hs hd hx => exact op_convInt hI hts ho hs hd hx hrun
 | convBS hs he hd hx => exact op_convBS hI hts ho hs he hd hx hrun
 | convSB hs hd he hx => exact op_convSB hI hts ho hs hd he hx hrun
 | makeSlice hu hi hz hsz hby h0 hzs hzl hx hy => exact op_makeSlice hI hts ho hu hi hz hsz hby h0 hzs hzl hx hy hrun
 | slice hu hie hsz hx hlo hhi => exact op_slice hI hts ho hu hie hsz hx hlo hhi hrun
 | sliceS hu hx hlo hhi => exact op_sliceS hI hts ho hu hx hlo hhi hrun
 | fieldAddr hu hf hoff hn h0 hx => exact op_fieldAddr hI hts ho hu hf hoff hn h0 hx hrun
 | field hu hf hoff hn hx => exact op_field hI hts ho hu hf hoff hn hx hrun
 | indexAddr hu hs hx hi => exact op_indexAddr hI hts ho hu hs hx hi hrun
 | indexAddrA hu hs hx hi => exact op_indexAddrA hI hts ho hu hs hx hi hrun
 | index hu hs hx hi => exact op_index hI hts ho hu hs hx hi hrun
 | indexS hu hx hi => exact op_indexS hI hts ho hu hx hi hrun
 | extract hx => exact op_extract hI hts ho hx hrun
 | lenS hu hx => exact op_lenS hI hts ho hu hx hrun
 | lenR hu hx => exact op_len hI hts ho hu hx hrun
 | append hu hv hi hz hsz hzl hby h0 hx hy => exact op_append hI hts ho hu hv hi hz hsz hzl hby h0 hx hy hrun
 | eqA ht hag hg hl hm hx hy => exact op_eqA hI hts ho ht hag hg hl hm hx hy hrun
 | toFlt hs hd hx => exact op_toFlt hI hts ho hs hd hx hrun
 | mark ht he hx => exact op_mark hI hts ho ht he hx hrun
 | bits hf hx => exact op_bits hI hts ho hf hx hrun
 | ofBits hf hx => exact op_ofBits hI hts ho hf hx hrun
 | minmax hx hxs => exact op_minmax hI hts ho hx hxs hrun
structure RelS (fm : Nat → Nat) (B : Base) (w : World) (G : Gh) (s : St) (a : Act) : Prop where
 ts : TsR (Rep fm G (okB B G s.hp w) w) a.tmps s.ts
 inv : Inv fm B w G s.hp
 defers : a.defers = []
theorem wanted_eq {ops : Array Oper} {i : Nat} {p : PO} {rep : Value → D → Prop} (hbool : ∀ {v : Value} {b : Bool}, rep v (.bool b) → v = .bool b) (hskip : ∀ {v : Value}, rep v .skip → v = undef) (hts : TsR rep a.tmps ts)
  (ht : TrPO P fm ops i o p) (hg : guardOk ts p.guard = true) : Region.wanted o (yielded ops a.tmps) = wantedP ts p.guard := by
 rcases ht.guard with ⟨h1, h2⟩ | ⟨j, b, t, h1, h2, h3⟩
 ·simp [Region.wanted, wantedP, h1, h2]
 ·rw [h2] at hg ⊢
  simp only [guardOk] at hg
  simp only [Region.wanted, wantedP, h1]
  have get : ∀ d, ts.getD t .undef = d → d ≠ .undef → ts[t]? = some d := by
   intro d hb hne
   rw [List.getD_eq_getElem?_getD] at hb
   cases hx : ts[t]? with
   | none => rw [hx] at hb; exact absurd hb.symm hne
   | some d => rw [hx] at hb; simp at hb; rw [hb]
  cases hb : ts.getD t .undef <;> rw [hb] at hg <;> simp at hg
  ·obtain ⟨v, h4, h5⟩ := hts.2 t _ (get _ hb (by simp))
   rw [hskip h5] at h4
   simp [yielded, h3, h4, undef]
  ·obtain ⟨v, h4, h5⟩ := hts.2 t _ (get _ hb (by simp))
   rw [hbool h5] at h4
   simp [yielded, h3, h4]
theorem relS_put {s : St} {w' : World} {G' : Gh} {H' : Heap} (h : RelS fm B w G s a) (ha : Adv B w G s.hp w' G' H') (hI : Inv fm B w' G' H') {dst : Option Nat} {v : Value} {d : D} (hv : Rep fm G' (okB B G' H' w') w' v d) :
  RelS fm B w' G' ⟨putT s.ts dst d, H'⟩ (a.put dst v) := by
 have h1 : TsR (Rep fm G' (okB B G' H' w') w') a.tmps s.ts := h.ts.mono (fun v d hv => ha.rep hv)
 cases dst with
 | none => exact ⟨h1, hI, h.defers⟩
 | some i => exact ⟨h1.put i hv, hI, h.defers⟩
theorem stepO_ok (hs : Sound P fm call) {ops : Array Oper} {i base : Nat} {p : PO} (ht : TrPO P fm ops i o p) {s s' : St} (hrel : RelS fm B w G s a) (hstep : stepO call base p s = some s')
  {K : Act → World → Prop} {Q : Exit → Act → World → Prop} (hK : ∀ a' w' G', RelS fm B w' G' s' a' → Adv B w G s.hp w' G' s'.hp → K a' w') :
  if Region.wanted o (yielded ops a.tmps) then o.wp P a w K Q else K (a.put o.dst undef) w := by
 unfold stepO at hstep
 split at hstep
 ·rename_i hg
  rw [wanted_eq (fun h => h.inv_bool) (fun h => h.inv_skip) hrel.ts ht hg]
  split at hstep
  ·rename_i hw
   rw [if_pos hw]
   have hact := ht.op
   generalize hpo : p.op = po at hact hstep
   generalize hmo : o.op = mo at hact
   cases hact with
   | op h =>
    have hne : ∀ f args, po ≠ .callH f args := by
     intro f args e
     subst e
     cases h
    split at hstep
    ·exact absurd rfl (hne _ _)
    ·simp only [Option.map_eq_some_iff] at hstep
     obtain ⟨x, h1, rfl⟩ := hstep
     rw [← hmo] at h
     refine op_sound (o := o) hrel.inv hrel.ts h h1 _ _ (fun v w' hp => ?_)
     obtain ⟨G', g1, g2, g3⟩ := hp
     rw [← ht.dst]
     exact hK _ _ G' (relS_put hrel g1 g2 g3) g1
   | call hx hf =>
    simp only [Option.map_eq_some_iff] at hstep
    obtain ⟨x, h1, rfl⟩ := hstep
    refine op_call (o := o) hs hrel.inv hrel.ts hmo hf hx h1 _ _ (fun v w' hp => ?_)
    obtain ⟨G', g1, g2, g3⟩ := hp
    rw [← ht.dst]
    exact hK _ _ G' (relS_put hrel g1 g2 g3) g1
   | callV hv hx hf =>
    simp only [Option.map_eq_some_iff] at hstep
    obtain ⟨x, h1, rfl⟩ := hstep
    refine op_callV (o := o) hs hrel.inv hrel.ts hmo hv hf hx h1 _ _ (fun v w' hp => ?_)
    obtain ⟨G', g1, g2, g3⟩ := hp
    rw [← ht.dst]
    exact hK _ _ G' (relS_put hrel g1 g2 g3) g1
   | callH hx hf =>
    simp only [Option.map_eq_some_iff] at hstep
    obtain ⟨x, h1, rfl⟩ := hstep
    rename_i f xs qs ats
    obtain ⟨q1, q2⟩ := trXs_vals hrel.ts hx
    have hc := hs f (qs.map (PX.ev s.ts)) s.hp x.1 x.2 (by rw [h1]) B w G (xs.map a.eval) hrel.inv q1 q2
    refine opOk_enter (o := o) (K := fun v w' => ∃ G', Adv B w G s.hp w' G' x.2 ∧ Inv fm B w' G' x.2 ∧ Rep fm G' (okB B G' x.2 w') w' v x.1) (run_call (t := 0) hmo hf) (hc.mono fun e w' he => ?_) _ _ (fun v w' hp => ?_)
    ·obtain ⟨v, G', h1, h2, h3, h4⟩ := he
     exact ⟨v, h1, G', h2, h3, h4⟩
    ·obtain ⟨G', g1, g2, g3⟩ := hp
     rw [← ht.dst]
     exact hK _ _ G' (relS_put hrel g1 g2 g3) g1
  ·rename_i hw
   rw [if_neg hw]
   simp only [Option.some.injEq] at hstep
   subst hstep
   rw [← ht.dst]
   exact hK _ _ G (relS_put hrel (Adv.refl _ _ _ _) hrel.inv (.closed .skip)) (Adv.refl _ _ _ _)
 ·cases hstep
inductive TrL (P : Program) (fm : Nat → Nat) (ops : Array Oper) : Nat → List Oper → List PO → Prop where
 | nil {i : Nat} : TrL P fm ops i [] []
 | cons {i : Nat} {o : Oper} {p : PO} {l : List Oper} {ps : List PO} (h : TrPO P fm ops i o p) (hs : TrL P fm ops (i + 1) l ps) : TrL P fm ops i (o :: l) (p :: ps)
theorem seqR_ok (hs : Sound P fm call) {ops : Array Oper} {base : Nat} {Q : Exit → Act → World → Prop} (l : List Oper) : ∀ {ps : List PO} {i : Nat}, TrL P fm ops i l ps → ∀ {w : World} {G : Gh} {s s' : St} {a : Act}, RelS fm B w G s a →
  seqR call base ps s = some s' → (∀ a' w' G', RelS fm B w' G' s' a' → Adv B w G s.hp w' G' s'.hp → Q .normal a' w') → wpList P ops Q l a w := by
 induction l with
 | nil =>
  intro ps i ht w G s s' a hrel h hQ
  cases ht
  simp only [seqR, Option.some.injEq] at h
  subst h
  exact hQ a w G hrel (Adv.refl _ _ _ _)
 | cons o l ih =>
  intro ps i ht w G s s' a hrel h hQ
  cases ht with
  | cons ht htl =>
   simp only [seqR, Option.bind_eq_some_iff] at h
   obtain ⟨s1, h1, h2⟩ := h
   have := stepO_ok hs (K := wpList P ops Q l) (Q := Q) ht hrel h1 (fun a' w' G' hr ha => ih htl hr h2 (fun a'' w'' G'' hr2 ha2 => hQ a'' w'' G'' hr2 (ha.trans ha2)))
   unfold wpList
   split
   ·rename_i hw; rw [if_pos hw] at this; exact .inl this
   ·rename_i hw; rw [if_neg hw] at this; exact this
end
end Go.Pi
