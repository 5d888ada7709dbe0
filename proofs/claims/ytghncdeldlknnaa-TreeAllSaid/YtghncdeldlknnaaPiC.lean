import Derived.Test.YtghncdeldlknnaaPiB
/-
  THE ABSTRACT INTERPRETER's ROWS AND MEMORY: a new row, a store, an append, a row that is closed: what the invariant becomes.
-/
set_option linter.all false
namespace Go.Pi
set_option linter.unusedVariables false
section
variable {fm : Nat → Nat} {B : Base} {w w' : World} {G G' : Gh} {H H' : Heap}

theorem adv_mk (hg : gle G G') (hsz : w.heap.size ≤ w'.heap.size)
    (hframe : ∀ b, b < w.heap.size → ¬ Lv G H b → w'.heap[b]? = w.heap[b]?)
    (hlv : ∀ b, Lv G' H' b → Lv G H b ∨ w.heap.size ≤ b) : Adv B w G H w' G' H' := by
  refine ⟨hg, ?_, ?_⟩
  · intro b ⟨h1, h2, h3⟩
    refine ⟨h1, ?_, by omega⟩
    intro h
    rcases hlv b h with h | h
    · exact h2 h
    · omega
  · intro b o v ⟨h1, h2, h3⟩ hc
    rw [World.cell?_of_block (w := w) (w' := w') (a := ⟨b, o, none⟩) (hframe b h3 h2)]
    exact hc

theorem inv_mk (hI : Inv fm B w G H) (hsz : w.heap.size ≤ w'.heap.size) (hos : w'.os = w.os) (htape : w'.tape = w.tape) (hout : w'.output = w.output)
    (hframe : ∀ b, b < w.heap.size → ¬ Lv G H b → w'.heap[b]? = w.heap[b]?)
    (hrows : ∀ id sz es lv, hat H' id = .row sz es lv → ∃ b cap, G' id = .row b cap sz ∧ (B.L0 b ∨ B.W0.heap.size ≤ b) ∧ RowOk (Rep fm G' (okB B G' H' w') w') w' sz es b cap)
    (hfresh : ∀ id, hat H' id = .fresh → G' id = .fresh) (hdead : ∀ id, hat H' id = .dead → G' id ≠ .fresh)
    (hinj : ∀ i j b cap sz cap' sz', isRow H' i → isRow H' j → G' i = .row b cap sz → G' j = .row b cap' sz' → i = j) : Inv fm B w' G' H' := by
  refine ⟨Nat.le_trans hI.size hsz, hos.trans hI.os, htape.trans hI.tape, hout.trans hI.output, ?_, hrows, hfresh, hdead, hinj, hI.A0⟩
  intro b hb hl
  rw [hframe b (Nat.lt_of_lt_of_le hb hI.size) ?_, hI.frame b hb hl]
  rintro ⟨id, sz, es, cap, sz', h1, h2⟩
  obtain ⟨b', cap', h3, h4, _⟩ := hI.rows id sz es true h1
  rw [h2] at h3
  injection h3 with e1 e2 e3
  subst e1
  rcases h4 with h4 | h4
  · exact hl h4
  · omega

theorem Inv.row_of (hI : Inv fm B w G H) {id sz : Nat} {es : List (List D)} {lv : Bool} (h : hat H id = .row sz es lv) :
    ∃ b cap, G id = .row b cap sz ∧ (B.L0 b ∨ B.W0.heap.size ≤ b) ∧ RowOk (Rep fm G (okB B G H w) w) w sz es b cap := hI.rows id sz es lv h

theorem Inv.blk_lt (hI : Inv fm B w G H) {id b cap sz : Nat} (hr : isRow H id) (h : G id = .row b cap sz) : b < w.heap.size := by
  obtain ⟨sz', es, lv, hh⟩ := hr
  obtain ⟨b', cap', h1, _, h3⟩ := hI.rows id sz' es lv hh
  rw [h] at h1
  injection h1 with e1 e2 e3
  subst e1
  obtain ⟨⟨c, T, k1, _⟩, _⟩ := h3
  exact (Array.getElem?_eq_some_iff.1 k1).1

theorem RowOk.lt {rep : Value → D → Prop} {sz : Nat} {es : List (List D)} {b cap : Nat} (h : RowOk rep w sz es b cap) : b < w.heap.size := by
  obtain ⟨⟨c, T, h1, _⟩, _⟩ := h
  exact (Array.getElem?_eq_some_iff.1 h1).1

/-- The world has one block more, and some orders may have been drawn. -/
structure NewBlk (w w' : World) (c : Array Value) (T : TypeId) : Prop where
  os : w'.os = w.os
  tape : w'.tape = w.tape
  output : w'.output = w.output
  size : w'.heap.size = w.heap.size + 1
  old : ∀ b, b < w.heap.size → w'.heap[b]? = w.heap[b]?
  new : w'.heap[w.heap.size]? = some (.cells c T (0, 0))
theorem NewBlk.alloc (w : World) (c : Array Value) (T : TypeId) : NewBlk w (w.alloc (.cells c T)) c T :=
  ⟨rfl, rfl, rfl, by simp, fun b hb => heap_alloc_old w _ b hb, heap_alloc_new w _⟩
theorem NewBlk.drew_alloc (w : World) (c : Array Value) (T : TypeId) : NewBlk w (w.drew.alloc (.cells c T)) c T :=
  ⟨rfl, rfl, rfl, by simp, fun b hb => heap_alloc_old w.drew _ b hb, heap_alloc_new w.drew _⟩

theorem lv_set {r : Nat} {blk : Blk} {b : Nat} (h : Lv G' (H.set r blk) b) (hG : ∀ id, id ≠ r → G' id = G id) :
    Lv G H b ∨ (∃ sz es cap sz', blk = .row sz es true ∧ G' r = .row b cap sz') := by
  obtain ⟨id, sz, es, cap, sz', h1, h2⟩ := h
  rw [hat_set] at h1
  split at h1
  · rename_i hc
    obtain ⟨rfl, _⟩ := hc
    exact .inr ⟨sz, es, cap, sz', h1, h2⟩
  · by_cases e : id = r
    · subst e
      rename_i hc
      have hl : ¬ id < H.length := fun h => hc ⟨rfl, h⟩
      have : hat H id = .fresh := by
        unfold hat
        simp [List.getD_eq_getElem?_getD, List.getElem?_eq_none (by omega : H.length ≤ id)]
      rw [this] at h1; cases h1
    · exact .inl ⟨id, sz, es, cap, sz', h1, (hG id e) ▸ h2⟩

/-- A new row of the call's own. -/
theorem inv_new (hI : Inv fm B w G H) {r : Nat} (hr : r < H.length) (hf : hat H r = .fresh) {c : Array Value} {T : TypeId} (hn : NewBlk w w' c T)
    {sz cap : Nat} {es : List (List D)} (hc : c.size = cap * sz) (hlen : es.length ≤ cap) (hcap : cap ≤ maxLen) (hes : ∀ e ∈ es, e.length = sz)
    (hcell : ∀ (i j : Nat) (e : List D) (d : D), es[i]? = some e → e[j]? = some d → ∃ u, c[i * sz + j]? = some u ∧ u.oneCell' = true ∧ Rep fm G (okB B G H w) w u d) :
    Adv B w G H w' (upd G r (.row w.heap.size cap sz)) (H.set r (.row sz es true)) ∧ Inv fm B w' (upd G r (.row w.heap.size cap sz)) (H.set r (.row sz es true)) := by
  have hGr : G r = .fresh := hI.fresh r hf
  have hsz : w.heap.size ≤ w'.heap.size := by rw [hn.size]; omega
  have hframe : ∀ b, b < w.heap.size → ¬ Lv G H b → w'.heap[b]? = w.heap[b]? := fun b hb _ => hn.old b hb
  have ha : Adv B w G H w' (upd G r (.row w.heap.size cap sz)) (H.set r (.row sz es true)) := by
    refine adv_mk ?_ hsz hframe ?_
    · intro i
      by_cases e : i = r
      · subst e; rw [hGr]; trivial
      · rw [upd_ne _ _ e]; exact GS.le_refl _
    · intro b hb
      rcases lv_set hb (fun id e => upd_ne _ _ e) with h | ⟨_, _, _, _, _, h⟩
      · exact .inl h
      · rw [upd_same] at h
        injection h with h _ _
        exact .inr (by omega)
  refine ⟨ha, inv_mk hI hsz hn.os hn.tape hn.output hframe ?_ ?_ ?_ ?_⟩
  · intro id sz' es' lv h
    rw [hat_set] at h
    split at h
    · rename_i hc'
      obtain ⟨rfl, _⟩ := hc'
      injection h with e1 e2 e3
      subst e1; subst e2
      refine ⟨w.heap.size, cap, upd_same _ _ _, .inr hI.size, ⟨⟨c, T, hn.new, hc, ?_⟩, hlen, hcap, hes⟩⟩
      intro i j e d h1 h2
      obtain ⟨u, a1, a2, a3⟩ := hcell i j e d h1 h2
      exact ⟨u, a1, a2, ha.rep a3⟩
    · obtain ⟨b, cap', h1, h2, h3⟩ := hI.rows id sz' es' lv h
      have hne : id ≠ r := by rintro rfl; rw [hGr] at h1; cases h1
      exact ⟨b, cap', by rw [upd_ne _ _ hne]; exact h1, h2, h3.mono (fun v d hv => ha.rep hv) (hn.old b h3.lt)⟩
  · intro id h
    rw [hat_set] at h
    split at h
    · cases h
    · have hne : id ≠ r := by
        rintro rfl
        rename_i hc'
        exact hc' ⟨rfl, hr⟩
      rw [upd_ne _ _ hne]
      exact hI.fresh id h
  · intro id h
    rw [hat_set] at h
    split at h
    · cases h
    · have hne : id ≠ r := by
        rintro rfl
        rename_i hc'
        exact hc' ⟨rfl, hr⟩
      rw [upd_ne _ _ hne]
      exact hI.dead id h
  · have hrow : ∀ k, k ≠ r → isRow (H.set r (.row sz es true)) k → isRow H k := by
      rintro k hk ⟨a, b, c, h⟩
      rw [hat_set_ne _ (Ne.symm hk)] at h
      exact ⟨a, b, c, h⟩
    intro i j b cap1 sz1 cap2 sz2 r1 r2 h1 h2
    by_cases e1 : i = r <;> by_cases e2 : j = r
    · rw [e1, e2]
    · subst e1
      rw [upd_same] at h1; rw [upd_ne _ _ e2] at h2
      injection h1 with a1 _ _
      have := hI.blk_lt (hrow j e2 r2) h2
      omega
    · subst e2
      rw [upd_same] at h2; rw [upd_ne _ _ e1] at h1
      injection h2 with a1 _ _
      have := hI.blk_lt (hrow i e1 r1) h1
      omega
    · rw [upd_ne _ _ e1] at h1; rw [upd_ne _ _ e2] at h2
      exact hI.inj _ _ _ _ _ _ _ (hrow i e1 r1) (hrow j e2 r2) h1 h2

/-- A row of the call's own, written. -/
theorem inv_store (hI : Inv fm B w G H) {id sz : Nat} {es es' : List (List D)} (hh : hat H id = .row sz es true) {b cap : Nat} (hG : G id = .row b cap sz)
    (hsize : w'.heap.size = w.heap.size) (hos : w'.os = w.os) (htape : w'.tape = w.tape) (hout : w'.output = w.output)
    (hold : ∀ k, k ≠ b → w'.heap[k]? = w.heap[k]?)
    (hrow : RowOk (Rep fm G (okB B G H w) w) w' sz es' b cap) :
    Adv B w G H w' G (H.set id (.row sz es' true)) ∧ Inv fm B w' G (H.set id (.row sz es' true)) := by
  have hsz : w.heap.size ≤ w'.heap.size := by omega
  have hlv : Lv G H b := ⟨id, sz, es, cap, sz, hh, hG⟩
  have hid : id < H.length := hat_lt (by rw [hh]; simp)
  have hframe : ∀ k, k < w.heap.size → ¬ Lv G H k → w'.heap[k]? = w.heap[k]? := fun k hk h => hold k (by rintro rfl; exact h hlv)
  have ha : Adv B w G H w' G (H.set id (.row sz es' true)) := by
    refine adv_mk (gle_refl _) hsz hframe ?_
    intro k hk
    rcases lv_set hk (fun _ _ => rfl) with h | ⟨_, _, _, _, _, h⟩
    · exact .inl h
    · rw [hG] at h
      injection h with h _ _
      subst h
      exact .inl hlv
  have hrow' : ∀ k, isRow (H.set id (.row sz es' true)) k → isRow H k := by
    rintro k ⟨a, b, c, h⟩
    by_cases e : k = id
    · subst e; exact ⟨_, _, _, hh⟩
    · rw [hat_set_ne _ (Ne.symm e)] at h
      exact ⟨a, b, c, h⟩
  refine ⟨ha, inv_mk hI hsz hos htape hout hframe ?_ ?_ ?_ (fun i j b cap sz cap' sz' r1 r2 h1 h2 => hI.inj i j b cap sz cap' sz' (hrow' i r1) (hrow' j r2) h1 h2)⟩
  · intro i sz1 es1 lv h
    rw [hat_set] at h
    split at h
    · rename_i hc
      obtain ⟨rfl, _⟩ := hc
      injection h with e1 e2 e3
      subst e1; subst e2
      obtain ⟨b', cap', h1, h2, h3⟩ := hI.rows id sz es true hh
      rw [hG] at h1
      injection h1 with e1 e2 _
      subst e1; subst e2
      exact ⟨b, cap, hG, h2, hrow.mono (fun v d hv => ha.rep hv) rfl⟩
    · obtain ⟨b', cap', h1, h2, h3⟩ := hI.rows i sz1 es1 lv h
      have hne : b' ≠ b := by
        rintro rfl
        have := hI.inj _ _ _ _ _ _ _ ⟨_, _, _, h⟩ ⟨_, _, _, hh⟩ h1 hG
        subst this
        rename_i hc
        exact hc ⟨rfl, hid⟩
      exact ⟨b', cap', h1, h2, h3.mono (fun v d hv => ha.rep hv) (hold b' hne)⟩
  · intro i h
    rw [hat_set] at h
    split at h
    · cases h
    · exact hI.fresh i h
  · intro i h
    rw [hat_set] at h
    split at h
    · cases h
    · exact hI.dead i h

/-- A row is closed: it is not written any more. -/
theorem inv_freeze (hI : Inv fm B w G H) (id : Nat) : Adv B w G H w G (H.modify id freeze) ∧ Inv fm B w G (H.modify id freeze) := by
  have hrow : ∀ i sz es lv, hat (H.modify id freeze) i = .row sz es lv → ∃ lv', hat H i = .row sz es lv' ∧ (lv = true → lv' = true) := by
    intro i sz es lv h
    rw [hat_modify] at h
    split at h
    · cases hh : hat H i with
      | fresh => rw [hh] at h; cases h
      | dead => rw [hh] at h; cases h
      | row a b c =>
        rw [hh] at h
        simp only [freeze] at h
        injection h with e1 e2 e3
        subst e1; subst e2; subst e3
        exact ⟨c, rfl, fun h => by cases h⟩
    · exact ⟨lv, h, fun h => h⟩
  have ha : Adv B w G H w G (H.modify id freeze) := by
    refine adv_mk (gle_refl _) (Nat.le_refl _) (fun _ _ _ => rfl) ?_
    rintro b ⟨i, sz, es, cap, sz', h1, h2⟩
    obtain ⟨lv', h3, h4⟩ := hrow i sz es true h1
    exact .inl ⟨i, sz, es, cap, sz', by rw [h3, h4 rfl], h2⟩
  have hrow' : ∀ k, isRow (H.modify id freeze) k → isRow H k := by
    rintro k ⟨a, b, c, h⟩
    obtain ⟨lv', h3, _⟩ := hrow k a b c h
    exact ⟨a, b, lv', h3⟩
  refine ⟨ha, inv_mk hI (Nat.le_refl _) rfl rfl rfl (fun _ _ _ => rfl) ?_ ?_ ?_ (fun i j b cap sz cap' sz' r1 r2 h1 h2 => hI.inj i j b cap sz cap' sz' (hrow' i r1) (hrow' j r2) h1 h2)⟩
  · intro i sz es lv h
    obtain ⟨lv', h3, _⟩ := hrow i sz es lv h
    obtain ⟨b', cap', a1, a2, a3⟩ := hI.rows i sz es lv' h3
    exact ⟨b', cap', a1, a2, a3.mono (fun v d hv => ha.rep hv) rfl⟩
  · intro i h
    rw [hat_modify] at h
    split at h
    · cases hh : hat H i with
      | fresh => exact hI.fresh i hh
      | dead => rw [hh] at h; cases h
      | row a b c => rw [hh] at h; cases h
    · exact hI.fresh i h
  · intro i h
    rw [hat_modify] at h
    split at h
    · cases hh : hat H i with
      | fresh => rw [hh] at h; cases h
      | dead => exact hI.dead i hh
      | row a b c => rw [hh] at h; cases h
    · exact hI.dead i h

/-- A row is given up, and a new one takes what it held and more: in its block, or in a new one. -/
theorem inv_append (hI : Inv fm B w G H) {id r sz : Nat} {es es' : List (List D)} (hh : hat H id = .row sz es true) {b cap : Nat} (hG : G id = .row b cap sz)
    (hr : r < H.length) (hf : hat H r = .fresh)
    (hsz : w.heap.size ≤ w'.heap.size) (hos : w'.os = w.os) (htape : w'.tape = w.tape) (hout : w'.output = w.output)
    (hold : ∀ k, k < w.heap.size → k ≠ b → w'.heap[k]? = w.heap[k]?)
    {b' cap' : Nat} (hb' : b' = b ∨ w.heap.size ≤ b')
    (hrow : RowOk (Rep fm G (okB B G H w) w) w' sz es' b' cap') :
    Adv B w G H w' (upd G r (.row b' cap' sz)) ((H.set id .dead).set r (.row sz es' true)) ∧
      Inv fm B w' (upd G r (.row b' cap' sz)) ((H.set id .dead).set r (.row sz es' true)) := by
  have hlvb : Lv G H b := ⟨id, sz, es, cap, sz, hh, hG⟩
  have hid : id < H.length := hat_lt (by rw [hh]; simp)
  have hGr : G r = .fresh := hI.fresh r hf
  have hne : id ≠ r := by rintro rfl; rw [hh] at hf; cases hf
  have hframe : ∀ k, k < w.heap.size → ¬ Lv G H k → w'.heap[k]? = w.heap[k]? := fun k hk h => hold k hk (by rintro rfl; exact h hlvb)
  have hGr' : upd G r (.row b' cap' sz) r = .row b' cap' sz := upd_same _ _ _
  have hGo : ∀ k, k ≠ r → upd G r (.row b' cap' sz) k = G k := fun k h2 => by rw [upd_ne _ _ h2]
  have hHr : hat ((H.set id .dead).set r (.row sz es' true)) r = .row sz es' true := hat_set_same (by simpa using hr) _
  have hHid : hat ((H.set id .dead).set r (.row sz es' true)) id = .dead := by rw [hat_set_ne _ (Ne.symm hne), hat_set_same hid]
  have hHo : ∀ k, k ≠ id → k ≠ r → hat ((H.set id .dead).set r (.row sz es' true)) k = hat H k := fun k h1 h2 => by
    rw [hat_set_ne _ (Ne.symm h2), hat_set_ne _ (Ne.symm h1)]
  have ha : Adv B w G H w' (upd G r (.row b' cap' sz)) ((H.set id .dead).set r (.row sz es' true)) := by
    refine adv_mk ?_ hsz hframe ?_
    · intro i
      by_cases e2 : i = r
      · subst e2; rw [hGr]; trivial
      · rw [hGo i e2]; exact GS.le_refl _
    · rintro k ⟨i, sz1, es1, cap1, sz2, h1, h2⟩
      by_cases e1 : i = id
      · subst e1; rw [hHid] at h1; cases h1
      · by_cases e2 : i = r
        · subst e2
          rw [hGr'] at h2
          injection h2 with h2 _ _
          subst h2
          rcases hb' with rfl | hb'
          · exact .inl hlvb
          · exact .inr hb'
        · rw [hHo i e1 e2] at h1; rw [hGo i e2] at h2
          exact .inl ⟨i, sz1, es1, cap1, sz2, h1, h2⟩
  have hrow' : ∀ k, k ≠ r → isRow ((H.set id .dead).set r (.row sz es' true)) k → k ≠ id ∧ isRow H k := by
    rintro k hk ⟨x, y, z, h⟩
    have hki : k ≠ id := by rintro rfl; rw [hHid] at h; cases h
    rw [hHo k hki hk] at h
    exact ⟨hki, x, y, z, h⟩
  refine ⟨ha, inv_mk hI hsz hos htape hout hframe ?_ ?_ ?_ ?_⟩
  · intro i sz1 es1 lv h
    by_cases e1 : i = id
    · subst e1; rw [hHid] at h; cases h
    · by_cases e2 : i = r
      · subst e2
        rw [hHr] at h
        injection h with a1 a2 a3
        subst a1; subst a2
        refine ⟨b', cap', hGr', ?_, hrow.mono (fun v d hv => ha.rep hv) rfl⟩
        rcases hb' with rfl | hb'
        · obtain ⟨b2, cap2, h1, h2, _⟩ := hI.rows id sz es true hh
          rw [hG] at h1
          injection h1 with h1 _ _
          subst h1
          exact h2
        · exact .inr (Nat.le_trans hI.size hb')
      · rw [hHo i e1 e2] at h
        obtain ⟨b2, cap2, h1, h2, h3⟩ := hI.rows i sz1 es1 lv h
        refine ⟨b2, cap2, by rw [hGo i e2]; exact h1, h2, h3.mono (fun v d hv => ha.rep hv) (hold b2 h3.lt ?_)⟩
        rintro rfl
        exact e1 (hI.inj _ _ _ _ _ _ _ ⟨_, _, _, h⟩ ⟨_, _, _, hh⟩ h1 hG)
  · intro i h
    by_cases e1 : i = id
    · subst e1; rw [hHid] at h; cases h
    · by_cases e2 : i = r
      · subst e2; rw [hHr] at h; cases h
      · rw [hHo i e1 e2] at h; rw [hGo i e2]; exact hI.fresh i h
  · intro i h
    by_cases e1 : i = id
    · subst e1; rw [hGo i hne, hG]; simp
    · by_cases e2 : i = r
      · subst e2; rw [hHr] at h; cases h
      · rw [hHo i e1 e2] at h; rw [hGo i e2]; exact hI.dead i h
  · intro i j k c1 s1 c2 s2 r1 r2 h1 h2
    by_cases e1 : i = r <;> by_cases e2 : j = r
    · rw [e1, e2]
    · subst e1
      obtain ⟨hj, r2'⟩ := hrow' j e2 r2
      rw [hGr'] at h1; rw [hGo j e2] at h2
      injection h1 with a _ _
      subst a
      rcases hb' with rfl | hb'
      · exact absurd (hI.inj _ _ _ _ _ _ _ r2' ⟨_, _, _, hh⟩ h2 hG) hj
      · have := hI.blk_lt r2' h2; omega
    · subst e2
      obtain ⟨hi, r1'⟩ := hrow' i e1 r1
      rw [hGr'] at h2; rw [hGo i e1] at h1
      injection h2 with a _ _
      subst a
      rcases hb' with rfl | hb'
      · exact absurd (hI.inj _ _ _ _ _ _ _ r1' ⟨_, _, _, hh⟩ h1 hG) hi
      · have := hI.blk_lt r1' h1; omega
    · rw [hGo i e1] at h1; rw [hGo j e2] at h2
      exact hI.inj _ _ _ _ _ _ _ (hrow' i e1 r1).2 (hrow' j e2 r2).2 h1 h2

/-- Nothing but what is drawn. -/
theorem inv_drew (hI : Inv fm B w G H) : Adv B w G H w.drew G H ∧ Inv fm B w.drew G H := by
  have ha : Adv B w G H w.drew G H := adv_mk (gle_refl _) (Nat.le_refl _) (fun _ _ _ => rfl) (fun b h => .inl h)
  refine ⟨ha, inv_mk hI (Nat.le_refl _) rfl rfl rfl (fun _ _ _ => rfl) (fun id sz es lv h => ?_) hI.fresh hI.dead hI.inj⟩
  obtain ⟨b', cap', a1, a2, a3⟩ := hI.rows id sz es lv h
  exact ⟨b', cap', a1, a2, a3.mono (fun v d hv => ha.rep hv) rfl⟩

/-- Rows kept free. -/
theorem inv_free (hI : Inv fm B w G H) (n : Nat) : Adv B w G H w G (H ++ List.replicate n .fresh) ∧ Inv fm B w G (H ++ List.replicate n .fresh) := by
  have hh := hat_append_fresh H n
  have ha : Adv B w G H w G (H ++ List.replicate n .fresh) := by
    refine adv_mk (gle_refl _) (Nat.le_refl _) (fun _ _ _ => rfl) ?_
    rintro b ⟨i, sz, es, cap, sz', h1, h2⟩
    rw [hh] at h1
    exact .inl ⟨i, sz, es, cap, sz', h1, h2⟩
  refine ⟨ha, inv_mk hI (Nat.le_refl _) rfl rfl rfl (fun _ _ _ => rfl) ?_ ?_ ?_ (fun i j b cap sz cap' sz' r1 r2 h1 h2 => hI.inj i j b cap sz cap' sz' (by unfold isRow at *; rwa [hh] at r1) (by unfold isRow at *; rwa [hh] at r2) h1 h2)⟩
  · intro i sz es lv h
    rw [hh] at h
    obtain ⟨b', cap', a1, a2, a3⟩ := hI.rows i sz es lv h
    exact ⟨b', cap', a1, a2, a3.mono (fun v d hv => ha.rep hv) rfl⟩
  · intro i h; rw [hh] at h; exact hI.fresh i h
  · intro i h; rw [hh] at h; exact hI.dead i h
end
end Go.Pi
