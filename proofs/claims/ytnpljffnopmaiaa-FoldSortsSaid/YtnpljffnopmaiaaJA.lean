import Derived.Test.YtnpljffnopmaiaaPA
import Derived.Test.YtnpljffnopmaiaaPF
/-
  A program as a tree of functions.
-/
set_option linter.all false
namespace Go.Pi
inductive PT where
  | leaf (k : Nat) (f : PF)
  | node (k : Nat) (l r : PT)
def PT.find : PT → Nat → Option PF
  | .leaf k f, n => match Nat.beq n k with | true => some f | false => none
  | .node k l r, n => match Nat.blt n k with | true => l.find n | false => r.find n
def PT.All (R : Nat → PF → Prop) : PT → Prop
  | .leaf k f => R k f
  | .node _ l r => l.All R ∧ r.All R
theorem PT.find_all {R : Nat → PF → Prop} : ∀ {t : PT} {n : Nat} {f : PF}, t.All R → t.find n = some f → R n f
  | .leaf k g, n, f, h, hf => by
    simp only [PT.find] at hf
    split at hf
    · rename_i e
      injection hf with hf
      subst hf
      rw [Nat.eq_of_beq_eq_true e]
      exact h
    · cases hf
  | .node k l r, n, f, h, hf => by
    simp only [PT.find] at hf
    split at hf
    · exact PT.find_all h.1 hf
    · exact PT.find_all h.2 hf
end Go.Pi
/-
  WHAT IS KNOWN OF A STATE: slots by values (V), rows of the call's own by their contents, all apart.
-/
namespace Go.Pi
set_option linter.unusedVariables false

/-! ### two lists, side by side -/
def All2 {α β : Type} (R : α → β → Prop) : List α → List β → Prop
  | [], [] => True
  | a :: as, b :: bs => R a b ∧ All2 R as bs
  | _, _ => False
theorem All2.len {α β : Type} {R : α → β → Prop} : ∀ {as : List α} {bs : List β}, All2 R as bs → as.length = bs.length
  | [], [], _ => rfl
  | a :: as, b :: bs, h => by simp [All2.len h.2]
  | [], _ :: _, h => h.elim
  | _ :: _, [], h => h.elim
theorem All2.mono {α β : Type} {R R' : α → β → Prop} : ∀ {as : List α} {bs : List β}, All2 R as bs → (∀ a b, a ∈ as → R a b → R' a b) → All2 R' as bs
  | [], [], _, _ => trivial
  | a :: as, b :: bs, h, k => ⟨k _ _ (by simp) h.1, All2.mono h.2 fun a b ha => k a b (by simp [ha])⟩
  | [], _ :: _, h, _ => h.elim
  | _ :: _, [], h, _ => h.elim
theorem All2.get {α β : Type} {R : α → β → Prop} : ∀ {as : List α} {bs : List β}, All2 R as bs → ∀ {i : Nat} {a : α}, as[i]? = some a → ∃ b, bs[i]? = some b ∧ R a b
  | [], [], _, i, a, h => by simp at h
  | a :: as, b :: bs, h, 0, a', h' => by simp at h'; subst h'; exact ⟨b, rfl, h.1⟩
  | a :: as, b :: bs, h, i + 1, a', h' => by simpa using All2.get h.2 (i := i) (by simpa using h')
  | [], _ :: _, h, _, _, _ => h.elim
  | _ :: _, [], h, _, _, _ => h.elim
theorem All2.take {α β : Type} {R : α → β → Prop} : ∀ {as : List α} {bs : List β} (n : Nat), All2 R as bs → All2 R (as.take n) (bs.take n)
  | [], [], n, _ => by simp [All2]
  | a :: as, b :: bs, 0, h => trivial
  | a :: as, b :: bs, n + 1, h => ⟨h.1, All2.take n h.2⟩
  | [], _ :: _, _, h => h.elim
  | _ :: _, [], _, h => h.elim
theorem All2.drop {α β : Type} {R : α → β → Prop} : ∀ {as : List α} {bs : List β} (n : Nat), All2 R as bs → All2 R (as.drop n) (bs.drop n)
  | [], [], n, _ => by simp [All2]
  | a :: as, b :: bs, 0, h => h
  | a :: as, b :: bs, n + 1, h => All2.drop n h.2
  | [], _ :: _, _, h => h.elim
  | _ :: _, [], _, h => h.elim
theorem All2.append {α β : Type} {R : α → β → Prop} : ∀ {as : List α} {bs : List β} {cs : List α} {ds : List β}, All2 R as bs → All2 R cs ds → All2 R (as ++ cs) (bs ++ ds)
  | [], [], _, _, _, h => h
  | a :: as, b :: bs, _, _, h, k => ⟨h.1, All2.append h.2 k⟩
  | [], _ :: _, _, _, h, _ => h.elim
  | _ :: _, [], _, _, h, _ => h.elim
theorem All2.set {α β : Type} {R : α → β → Prop} : ∀ {as : List α} {bs : List β} {i : Nat} {a : α} {b : β}, All2 R as bs → R a b → All2 R (as.set i a) (bs.set i b)
  | [], [], _, _, _, _, _ => trivial
  | a :: as, b :: bs, 0, _, _, h, k => ⟨k, h.2⟩
  | a :: as, b :: bs, i + 1, _, _, h, k => ⟨h.1, All2.set h.2 k⟩
  | [], _ :: _, _, _, _, h, _ => h.elim
  | _ :: _, [], _, _, _, h, _ => h.elim
theorem All2.of {α β : Type} {R : α → β → Prop} : ∀ {as : List α} {bs : List β}, as.length = bs.length → (∀ (i : Nat) (a : α) (b : β), as[i]? = some a → bs[i]? = some b → R a b) → All2 R as bs
  | [], [], _, _ => trivial
  | a :: as, b :: bs, h, k => ⟨k 0 a b rfl rfl, All2.of (by simpa using h) fun i a b h1 h2 => k (i + 1) a b (by simpa using h1) (by simpa using h2)⟩
  | [], _ :: _, h, _ => by simp at h
  | _ :: _, [], h, _ => by simp at h
theorem All2.eq_iff {α : Type} : ∀ {as bs : List α}, All2 (fun a b => b = a) as bs ↔ bs = as
  | [], [] => by simp [All2]
  | a :: as, b :: bs => by simp [All2, All2.eq_iff (as := as)]
  | [], _ :: _ => by simp [All2]
  | _ :: _, [] => by simp [All2]

/-! ### closed data; an empty list may be nil -/
mutual
/-- One datum, read as another: the same, but that an empty list may be nil. -/
def Nr : D → D → Prop
  | .lst sz es, d => (es = [] ∧ d = .nil) ∨ ∃ es', d = .lst sz es' ∧ NrE es es'
  | .fptr cs, d => ∃ ds, d = .fptr ds ∧ NrC cs ds
  | .agg cs, d => ∃ ds, d = .agg ds ∧ NrC cs ds
  | .undef, d => d = .undef
  | .skip, d => d = .skip
  | .bool b, d => d = .bool b
  | .int k n, d => d = .int k n
  | .flt b, d => d = .flt b
  | .str t, d => d = .str t
  | .nil, d => d = .nil
  | .own sz es, d => d = .own sz es
  | .ref a b c, d => d = .ref a b c
  | .ptr a b, d => d = .ptr a b
  | .nilp, d => d = .nilp
  | .tup vs, d => d = .tup vs
  | .fn f, d => d = .fn f
def NrC : List D → List D → Prop
  | [], [] => True
  | c :: cs, d :: ds => Nr c d ∧ NrC cs ds
  | _, _ => False
def NrE : List (List D) → List (List D) → Prop
  | [], [] => True
  | c :: cs, d :: ds => NrC c d ∧ NrE cs ds
  | _, _ => False
end
theorem NrC_iff : ∀ {cs ds : List D}, NrC cs ds ↔ All2 Nr cs ds
  | [], [] => by simp [NrC, All2]
  | c :: cs, d :: ds => by simp [NrC, All2, NrC_iff (cs := cs)]
  | [], _ :: _ => by simp [NrC, All2]
  | _ :: _, [] => by simp [NrC, All2]
theorem NrE_iff : ∀ {cs ds : List (List D)}, NrE cs ds ↔ All2 (All2 Nr) cs ds
  | [], [] => by simp [NrE, All2]
  | c :: cs, d :: ds => by simp [NrE, All2, NrE_iff (cs := cs), NrC_iff]
  | [], _ :: _ => by simp [NrE, All2]
  | _ :: _, [] => by simp [NrE, All2]
/-- A list, read. -/
theorem Nr.lst {sz : Nat} {es : List (List D)} {d : D} (h : Nr (.lst sz es) d) : (es = [] ∧ d = .nil) ∨ ∃ es', d = .lst sz es' ∧ All2 (All2 Nr) es es' := by
  simp only [Nr] at h
  rcases h with h | ⟨es', h1, h2⟩
  · exact .inl h
  · exact .inr ⟨es', h1, NrE_iff.1 h2⟩
theorem Nr.mk_lst {sz : Nat} {es es' : List (List D)} (h : All2 (All2 Nr) es es') : Nr (.lst sz es) (.lst sz es') := by
  simp only [Nr]
  exact .inr ⟨es', rfl, NrE_iff.2 h⟩
theorem Nr.mk_nil {sz : Nat} : Nr (.lst sz []) .nil := by
  simp only [Nr]
  exact .inl ⟨trivial, trivial⟩
/-- What is read as it stands. -/
def sc : D → Bool
  | .bool _ | .int _ _ | .flt _ | .str _ | .undef | .skip | .nilp | .fn _ => true
  | _ => false
theorem Nr.sc {v d : D} (h : Nr v d) (hs : sc v = true) : d = v := by
  cases v <;> simp [Pi.sc] at hs <;> simpa only [Nr] using h
theorem Nr.of_sc {v : D} (hs : Pi.sc v = true) : Nr v v := by
  cases v <;> simp [Pi.sc] at hs <;> simp only [Nr]
theorem Nr.fptr {cs : List D} {d : D} (h : Nr (.fptr cs) d) : ∃ ds, d = .fptr ds ∧ All2 Nr cs ds := by
  simp only [Nr] at h
  obtain ⟨ds, h1, h2⟩ := h
  exact ⟨ds, h1, NrC_iff.1 h2⟩
theorem Nr.agg {cs : List D} {d : D} (h : Nr (.agg cs) d) : ∃ ds, d = .agg ds ∧ All2 Nr cs ds := by
  simp only [Nr] at h
  obtain ⟨ds, h1, h2⟩ := h
  exact ⟨ds, h1, NrC_iff.1 h2⟩
theorem Nr.mk_fptr {cs ds : List D} (h : All2 Nr cs ds) : Nr (.fptr cs) (.fptr ds) := by simp only [Nr]; exact ⟨_, rfl, NrC_iff.2 h⟩
theorem Nr.mk_agg {cs ds : List D} (h : All2 Nr cs ds) : Nr (.agg cs) (.agg ds) := by simp only [Nr]; exact ⟨_, rfl, NrC_iff.2 h⟩

/-! ### what a datum comes to, over rows that are dead -/
def HLe (H H' : Heap) : Prop := ∀ id sz es, hat H id = .row sz es false → hat H' id = .row sz es false
theorem HLe.refl (H : Heap) : HLe H H := fun _ _ _ h => h
theorem HLe.trans {H H' H'' : Heap} (h : HLe H H') (k : HLe H' H'') : HLe H H'' := fun _ _ _ x => k _ _ _ (h _ _ _ x)
def plain : D → Bool
  | .ref _ _ _ | .ptr _ _ | .agg _ | .tup _ | .own _ _ => false
  | _ => true
def Cl (H : Heap) : Nat → D → D → Prop
  | 0, _, _ => False
  | n + 1, v, d => (plain d = true ∧ Nr v d) ∨
    (∃ sz es id off len es0, v = .lst sz es ∧ d = .ref id off len ∧ hat H id = .row sz es0 false ∧ off + len ≤ es0.length ∧ All2 (All2 (Cl H n)) es ((es0.drop off).take len) ∧ 0 < sz ∧ ∀ e ∈ es0, e.length ≤ sz) ∨
    (∃ cs id i j sz es0 e, v = .fptr cs ∧ d = .ptr id (i * sz + j) ∧ hat H id = .row sz es0 false ∧ es0[i]? = some e ∧ All2 (Cl H n) cs (e.drop j) ∧ j < sz ∧ e.length ≤ sz) ∨
    (∃ cs ds, v = .agg cs ∧ d = .agg ds ∧ All2 (Cl H n) cs ds)
theorem Cl.heap {H H' : Heap} (hh : HLe H H') : ∀ {n : Nat} {v d : D}, Cl H n v d → Cl H' n v d
  | 0, _, _, h => h
  | n + 1, v, d, h => by
    rcases h with h | ⟨sz, es, id, off, len, es0, h1, h2, h3, h4, h5, h6⟩ | ⟨cs, id, i, j, sz, es0, e, h1, h2, h3, h4, h5, h6⟩ | ⟨cs, ds, h1, h2, h3⟩
    · exact .inl h
    · exact .inr (.inl ⟨sz, es, id, off, len, es0, h1, h2, hh _ _ _ h3, h4, h5.mono fun a b _ h => h.mono fun _ _ _ h => Cl.heap hh h, h6⟩)
    · exact .inr (.inr (.inl ⟨cs, id, i, j, sz, es0, e, h1, h2, hh _ _ _ h3, h4, h5.mono fun _ _ _ h => Cl.heap hh h, h6⟩))
    · exact .inr (.inr (.inr ⟨cs, ds, h1, h2, h3.mono fun _ _ _ h => Cl.heap hh h⟩))
theorem Cl.up1 {H : Heap} : ∀ {n : Nat} {v d : D}, Cl H n v d → Cl H (n + 1) v d
  | 0, _, _, h => h.elim
  | n + 1, v, d, h => by
    rcases h with h | ⟨sz, es, id, off, len, es0, h1, h2, h3, h4, h5, h6⟩ | ⟨cs, id, i, j, sz, es0, e, h1, h2, h3, h4, h5, h6⟩ | ⟨cs, ds, h1, h2, h3⟩
    · exact .inl h
    · exact .inr (.inl ⟨sz, es, id, off, len, es0, h1, h2, h3, h4, h5.mono fun a b _ h => h.mono fun _ _ _ h => Cl.up1 h, h6⟩)
    · exact .inr (.inr (.inl ⟨cs, id, i, j, sz, es0, e, h1, h2, h3, h4, h5.mono fun _ _ _ h => Cl.up1 h, h6⟩))
    · exact .inr (.inr (.inr ⟨cs, ds, h1, h2, h3.mono fun _ _ _ h => Cl.up1 h⟩))
theorem Cl.up {H : Heap} {n m : Nat} {v d : D} (h : Cl H n v d) (hm : n ≤ m) : Cl H m v d := by
  induction m with
  | zero => obtain rfl : n = 0 := by omega
            exact h
  | succ m ih => rcases Nat.lt_or_ge n (m + 1) with k | k
                 · exact (ih (by omega)).up1
                 · obtain rfl : n = m + 1 := by omega
                   exact h
theorem Cl.plain {H : Heap} {n : Nat} {v d : D} (hd : plain d = true) (h : Nr v d) : Cl H (n + 1) v d := .inl ⟨hd, h⟩
theorem Cl.sc {H : Heap} {n : Nat} {v d : D} (h : Cl H n v d) (hs : sc v = true) : d = v := by
  cases n with
  | zero => exact h.elim
  | succ n =>
    rcases h with h | ⟨sz, es, id, off, len, es0, rfl, h2, h3, h4, h5, h6⟩ | ⟨cs, id, i, j, sz, es0, e, rfl, h2, h3, h4, h5, h6⟩ | ⟨cs, ds, rfl, h2, h3⟩
    · exact h.2.sc hs
    all_goals simp [Pi.sc] at hs
def dead (H : Heap) (id : Nat) : Prop := ∃ sz es, hat H id = .row sz es false
theorem eachC_cl {H : Heap} {f : D → Eff (D × List Nat)} {R : D → D → Prop} : ∀ {vs ds : List D}, All2 R vs ds → (∀ v d, R v d → ∃ x, (f d).run H = some x ∧ Nr v x.1 ∧ ∀ i ∈ x.2, dead H i) →
    ∃ x, (eachC f ds).run H = some x ∧ All2 Nr vs x.1 ∧ ∀ i ∈ x.2, dead H i
  | [], [], _, _ => ⟨([], []), rfl, trivial, by simp⟩
  | v :: vs, d :: ds, h, k => by
    obtain ⟨x, h1, h2, h3⟩ := k v d h.1
    obtain ⟨y, h4, h5, h6⟩ := eachC_cl h.2 k
    refine ⟨(x.1 :: y.1, x.2 ++ y.2), by simp [eachC, run_bindE, h1, h4, Eff.run], ⟨h2, h5⟩, fun i hi => ?_⟩
    simp at hi
    exact hi.elim (h3 i) (h6 i)
  | [], _ :: _, h, _ => h.elim
  | _ :: _, [], h, _ => h.elim
theorem eachE_cl {H : Heap} {f : D → Eff (D × List Nat)} {R : D → D → Prop} : ∀ {vs ds : List (List D)}, All2 (All2 R) vs ds → (∀ v d, R v d → ∃ x, (f d).run H = some x ∧ Nr v x.1 ∧ ∀ i ∈ x.2, dead H i) →
    ∃ x, (eachE f ds).run H = some x ∧ All2 (All2 Nr) vs x.1 ∧ ∀ i ∈ x.2, dead H i
  | [], [], _, _ => ⟨([], []), rfl, trivial, by simp⟩
  | v :: vs, d :: ds, h, k => by
    obtain ⟨x, h1, h2, h3⟩ := eachC_cl h.1 k
    obtain ⟨y, h4, h5, h6⟩ := eachE_cl h.2 k
    refine ⟨(x.1 :: y.1, x.2 ++ y.2), by simp [eachE, run_bindE, h1, h4, Eff.run], ⟨h2, h5⟩, fun i hi => ?_⟩
    simp at hi
    exact hi.elim (h3 i) (h6 i)
  | [], _ :: _, h, _ => h.elim
  | _ :: _, [], h, _ => h.elim
theorem Cl.frz {H : Heap} : ∀ {n : Nat} {v d : D}, Cl H n v d → ∃ x, (frz n d).run H = some x ∧ Nr v x.1 ∧ ∀ i ∈ x.2, dead H i
  | 0, _, _, h => h.elim
  | n + 1, v, d, h => by
    rcases h with ⟨h, k⟩ | ⟨sz, es, id, off, len, es0, rfl, rfl, h3, h4, h5, h6⟩ | ⟨cs, id, i, j, sz, es0, e, rfl, rfl, h3, h4, h5, h6, h7⟩ | ⟨cs, ds, rfl, rfl, h3⟩
    · refine ⟨(d, []), ?_, k, by simp⟩
      cases d <;> simp [Pi.plain] at h <;> rfl
    · obtain ⟨x, k1, k2, k3⟩ := eachE_cl h5 fun v d h => Cl.frz h
      refine ⟨(.lst sz x.1, id :: x.2), ?_, Nr.mk_lst k2, fun i hi => ?_⟩
      · simp only [Pi.frz, Eff.run, h3, h4, if_true, run_bindE, k1, Option.bind_some]
      · simp at hi
        rcases hi with rfl | hi
        · exact ⟨_, _, h3⟩
        · exact k3 i hi
    · obtain ⟨x, k1, k2, k3⟩ := eachC_cl h5 fun v d h => Cl.frz h
      refine ⟨(.fptr x.1, id :: x.2), ?_, Nr.mk_fptr k2, fun k hi => ?_⟩
      · have q1 : (i * sz + j) / sz = i := by rw [Nat.mul_comm, Nat.mul_add_div (by omega), Nat.div_eq_of_lt h6]; omega
        have q2 : (i * sz + j) % sz = j := by rw [Nat.mul_comm, Nat.mul_add_mod, Nat.mod_eq_of_lt h6]
        simp only [Pi.frz, Eff.run, h3, q1, q2, h4, run_bindE, k1, Option.bind_some]
      · simp at hi
        rcases hi with rfl | hi
        · exact ⟨_, _, h3⟩
        · exact k3 k hi
    · obtain ⟨x, k1, k2, k3⟩ := eachC_cl h3 fun v d h => Cl.frz h
      exact ⟨(.agg x.1, x.2), by simp only [Pi.frz, Eff.run, run_bindE, k1, Option.bind_some], Nr.mk_agg k2, k3⟩
theorem frz_up1 {H : Heap} : ∀ {n : Nat} {d : D} {x : D × List Nat}, (frz n d).run H = some x → (frz (n + 1) d).run H = some x
  | 0, _, _, h => by simp [frz, Eff.run] at h
  | n + 1, d, x, h => by
    have hC : ∀ {ds : List D} {x : List D × List Nat}, (eachC (frz n) ds).run H = some x → (eachC (frz (n + 1)) ds).run H = some x := by
      intro ds
      induction ds with
      | nil => intro x h; exact h
      | cons d ds ih =>
        intro x h
        simp only [eachC, run_bindE, Option.bind_eq_some_iff] at h ⊢
        obtain ⟨y, h1, z, h2, h3⟩ := h
        exact ⟨y, frz_up1 h1, z, ih h2, h3⟩
    have hE : ∀ {ds : List (List D)} {x : List (List D) × List Nat}, (eachE (frz n) ds).run H = some x → (eachE (frz (n + 1)) ds).run H = some x := by
      intro ds
      induction ds with
      | nil => intro x h; exact h
      | cons d ds ih =>
        intro x h
        simp only [eachE, run_bindE, Option.bind_eq_some_iff] at h ⊢
        obtain ⟨y, h1, z, h2, h3⟩ := h
        exact ⟨y, hC h1, z, ih h2, h3⟩
    cases d with
    | ref id off len =>
      simp only [frz, Eff.run] at h ⊢
      split at h
      · split at h
        · rename_i sz es lv hh hl
          simp only [run_bindE, Option.bind_eq_some_iff] at h
          obtain ⟨y, h1, h2⟩ := h
          simp only [if_pos hl, run_bindE, hE h1, Option.bind_some]
          exact h2
        · simp [Eff.run] at h
      · cases h
    | ptr id off =>
      simp only [frz, Eff.run] at h ⊢
      split at h
      · split at h
        · simp only [run_bindE, Option.bind_eq_some_iff] at h
          obtain ⟨y, h1, h2⟩ := h
          simp only [run_bindE, hC h1, Option.bind_some]
          exact h2
        · simp [Eff.run] at h
      · cases h
    | agg cs =>
      simp only [frz, run_bindE, Option.bind_eq_some_iff] at h ⊢
      obtain ⟨y, h1, h2⟩ := h
      exact ⟨y, hC h1, h2⟩
    | _ => exact h
theorem frz_up {H : Heap} {n m : Nat} {d : D} {x : D × List Nat} (h : (frz n d).run H = some x) (hm : n ≤ m) : (frz m d).run H = some x := by
  induction m with
  | zero => obtain rfl : n = 0 := by omega
            exact h
  | succ m ih => rcases Nat.lt_or_ge n (m + 1) with k | k
                 · exact frz_up1 (ih (by omega))
                 · obtain rfl : n = m + 1 := by omega
                   exact h
end Go.Pi
/-
  VALUES: what a slot holds, what a row's cells hold, which rows are whose.
-/
namespace Go.Pi
set_option linter.unusedVariables false

inductive V where
  | x (d : D)
  | c (n : Nat) (d : D)
  | ref (o : Option Nat) (off len : Nat)
  | ptr (id sz i j : Nat)
  | own (sz : Nat) (es : List (List V))
  | agg (vs : List V)
  | tup (vs : List V)
  deriving Inhabited

mutual
def VR (H : Heap) : V → D → Prop
  | .x d0, d => d = d0
  | .c n d0, d => Cl H n d0 d
  | .ref o off len, d => (∃ id, o = some id ∧ d = .ref id off len) ∨ (o = none ∧ off = 0 ∧ len = 0 ∧ d = .nil)
  | .ptr id sz i j, d => d = .ptr id (i * sz + j)
  | .own _ _, _ => False
  | .agg vs, d => ∃ ds, d = .agg ds ∧ VRs H vs ds
  | .tup vs, d => ∃ ds, d = .tup ds ∧ VRs H vs ds
def VRs (H : Heap) : List V → List D → Prop
  | [], [] => True
  | v :: vs, d :: ds => VR H v d ∧ VRs H vs ds
  | _, _ => False
end
mutual
def VO (H : Heap) : V → D → List Nat → Prop
  | .x d0, d, S => d = d0 ∧ S = []
  | .c n d0, d, S => Cl H n d0 d ∧ S = []
  | .ref o off len, d, S => VR H (.ref o off len) d ∧ S = []
  | .ptr id sz i j, d, S => d = .ptr id (i * sz + j) ∧ S = []
  | .own sz es, d, S => (d = .nil ∧ es = [] ∧ S = []) ∨ ∃ id es' S', d = .ref id 0 es.length ∧ hat H id = .row sz es' true ∧ VOe H es es' S' ∧ S = id :: S'
  | .agg _, _, _ => False
  | .tup _, _, _ => False
def VOs (H : Heap) : List V → List D → List Nat → Prop
  | [], [], S => S = []
  | v :: vs, d :: ds, S => ∃ S1 S2, VO H v d S1 ∧ VOs H vs ds S2 ∧ S = S1 ++ S2
  | _, _, _ => False
def VOe (H : Heap) : List (List V) → List (List D) → List Nat → Prop
  | [], [], S => S = []
  | e :: es, d :: ds, S => ∃ S1 S2, VOs H e d S1 ∧ VOe H es ds S2 ∧ S = S1 ++ S2
  | _, _, _ => False
end
/-- A cell that owns nothing. -/
def flat : V → Bool
  | .own _ _ | .agg _ | .tup _ => false
  | _ => true

mutual
theorem VR.heap {H H' : Heap} (hh : HLe H H') : ∀ {v : V} {d : D}, VR H v d → VR H' v d
  | .x _, _, h => h
  | .c _ _, _, h => by simp only [VR] at h ⊢; exact h.heap hh
  | .ref _ _ _, _, h => by simpa only [VR] using h
  | .ptr _ _ _ _, _, h => by simpa only [VR] using h
  | .own _ _, _, h => by simp only [VR] at h
  | .agg vs, _, h => by
    simp only [VR] at h ⊢
    obtain ⟨ds, h1, h2⟩ := h
    exact ⟨ds, h1, VRs.heap hh h2⟩
  | .tup vs, _, h => by
    simp only [VR] at h ⊢
    obtain ⟨ds, h1, h2⟩ := h
    exact ⟨ds, h1, VRs.heap hh h2⟩
theorem VRs.heap {H H' : Heap} (hh : HLe H H') : ∀ {v : List V} {d : List D}, VRs H v d → VRs H' v d
  | [], [], _ => trivial
  | v :: vs, d :: ds, h => by
    simp only [VRs] at h ⊢
    exact ⟨VR.heap hh h.1, VRs.heap hh h.2⟩
  | [], _ :: _, h => by simp [VRs] at h
  | _ :: _, [], h => by simp [VRs] at h
end
mutual
theorem VO.heap {H H' : Heap} (hh : HLe H H') : ∀ {v : V} {d : D} {S : List Nat}, VO H v d S → (∀ id ∈ S, hat H' id = hat H id) → VO H' v d S
  | .x _, _, _, h, _ => by simpa only [VO] using h
  | .c _ _, _, _, h, _ => by simp only [VO] at h ⊢; exact ⟨h.1.heap hh, h.2⟩
  | .ref _ _ _, _, _, h, _ => by simpa only [VO, VR] using h
  | .ptr _ _ _ _, _, _, h, _ => by simpa only [VO] using h
  | .own sz es, d, S, h, k => by
    simp only [VO] at h ⊢
    rcases h with h | ⟨id, es', S', h1, h2, h3, rfl⟩
    · exact .inl h
    · exact .inr ⟨id, es', S', h1, by rw [k id (by simp)]; exact h2, VOe.heap hh h3 (fun i hi => k i (by simp [hi])), rfl⟩
  | .agg vs, _, _, h, _ => by simp only [VO] at h
  | .tup vs, _, _, h, _ => by simp only [VO] at h
theorem VOs.heap {H H' : Heap} (hh : HLe H H') : ∀ {v : List V} {d : List D} {S : List Nat}, VOs H v d S → (∀ id ∈ S, hat H' id = hat H id) → VOs H' v d S
  | [], [], _, h, _ => by simpa only [VOs] using h
  | v :: vs, d :: ds, S, h, k => by
    simp only [VOs] at h ⊢
    obtain ⟨S1, S2, h1, h2, rfl⟩ := h
    exact ⟨S1, S2, VO.heap hh h1 (fun i hi => k i (by simp [hi])), VOs.heap hh h2 (fun i hi => k i (by simp [hi])), rfl⟩
  | [], _ :: _, _, h, _ => by simp [VOs] at h
  | _ :: _, [], _, h, _ => by simp [VOs] at h
theorem VOe.heap {H H' : Heap} (hh : HLe H H') : ∀ {v : List (List V)} {d : List (List D)} {S : List Nat}, VOe H v d S → (∀ id ∈ S, hat H' id = hat H id) → VOe H' v d S
  | [], [], _, h, _ => by simpa only [VOe] using h
  | v :: vs, d :: ds, S, h, k => by
    simp only [VOe] at h ⊢
    obtain ⟨S1, S2, h1, h2, rfl⟩ := h
    exact ⟨S1, S2, VOs.heap hh h1 (fun i hi => k i (by simp [hi])), VOe.heap hh h2 (fun i hi => k i (by simp [hi])), rfl⟩
  | [], _ :: _, _, h, _ => by simp [VOe] at h
  | _ :: _, [], _, h, _ => by simp [VOe] at h
end
theorem VOs.len {H : Heap} : ∀ {v : List V} {d : List D} {S : List Nat}, VOs H v d S → v.length = d.length
  | [], [], _, _ => rfl
  | v :: vs, d :: ds, S, h => by
    simp only [VOs] at h
    obtain ⟨S1, S2, h1, h2, rfl⟩ := h
    simp [h2.len]
  | [], _ :: _, _, h => by simp [VOs] at h
  | _ :: _, [], _, h => by simp [VOs] at h
theorem VOe.len {H : Heap} : ∀ {v : List (List V)} {d : List (List D)} {S : List Nat}, VOe H v d S → v.length = d.length
  | [], [], _, _ => rfl
  | v :: vs, d :: ds, S, h => by
    simp only [VOe] at h
    obtain ⟨S1, S2, h1, h2, rfl⟩ := h
    simp [h2.len]
  | [], _ :: _, _, h => by simp [VOe] at h
  | _ :: _, [], _, h => by simp [VOe] at h
theorem VRs.len {H : Heap} : ∀ {v : List V} {d : List D}, VRs H v d → v.length = d.length
  | [], [], _ => rfl
  | v :: vs, d :: ds, h => by
    simp only [VRs] at h
    simp [h.2.len]
  | [], _ :: _, h => by simp [VRs] at h
  | _ :: _, [], h => by simp [VRs] at h
theorem VRs.get {H : Heap} : ∀ {v : List V} {d : List D}, VRs H v d → ∀ {i : Nat} {x : V}, v[i]? = some x → ∃ y, d[i]? = some y ∧ VR H x y
  | [], [], _, _, _, h => by simp at h
  | v :: vs, d :: ds, h, 0, x, hx => by simp only [VRs] at h; simp at hx; subst hx; exact ⟨d, rfl, h.1⟩
  | v :: vs, d :: ds, h, i + 1, x, hx => by simp only [VRs] at h; simpa using h.2.get (by simpa using hx)
  | [], _ :: _, h, _, _, _ => by simp [VRs] at h
  | _ :: _, [], h, _, _, _ => by simp [VRs] at h
theorem VRs.take {H : Heap} : ∀ {v : List V} {d : List D} (n : Nat), VRs H v d → VRs H (v.take n) (d.take n)
  | [], [], _, _ => by simp [VRs]
  | v :: vs, d :: ds, 0, h => by simp [VRs]
  | v :: vs, d :: ds, n + 1, h => by simp only [VRs, List.take_succ_cons] at h ⊢; exact ⟨h.1, h.2.take n⟩
  | [], _ :: _, _, h => by simp [VRs] at h
  | _ :: _, [], _, h => by simp [VRs] at h
theorem VRs.drop {H : Heap} : ∀ {v : List V} {d : List D} (n : Nat), VRs H v d → VRs H (v.drop n) (d.drop n)
  | [], [], _, _ => by simp [VRs]
  | v :: vs, d :: ds, 0, h => h
  | v :: vs, d :: ds, n + 1, h => by simp only [VRs, List.drop_succ_cons] at h ⊢; exact h.2.drop n
  | [], _ :: _, _, h => by simp [VRs] at h
  | _ :: _, [], _, h => by simp [VRs] at h
theorem VRs.append {H : Heap} : ∀ {v w : List V} {d e : List D}, VRs H v d → VRs H w e → VRs H (v ++ w) (d ++ e)
  | [], _, [], _, _, h => h
  | v :: vs, _, d :: ds, _, h, k => by simp only [VRs, List.cons_append] at h ⊢; exact ⟨h.1, h.2.append k⟩
  | [], _, _ :: _, _, h, _ => by simp [VRs] at h
  | _ :: _, _, [], _, h, _ => by simp [VRs] at h
theorem VO.of_VR {H : Heap} {v : V} {d : D} (hf : flat v = true) (h : VR H v d) : VO H v d [] := by
  cases v <;> simp [flat] at hf <;> simp only [VO, VR] at h ⊢ <;> exact ⟨h, trivial⟩
theorem VO.to_VR {H : Heap} {v : V} {d : D} {S : List Nat} (hf : flat v = true) (h : VO H v d S) : VR H v d ∧ S = [] := by
  cases v <;> simp [flat] at hf <;> simp only [VO, VR] at h ⊢ <;> exact h
theorem VOs.of_VRs {H : Heap} : ∀ {v : List V} {d : List D}, v.all flat = true → VRs H v d → VOs H v d []
  | [], [], _, _ => by simp [VOs]
  | v :: vs, d :: ds, hf, h => by
    simp only [VRs, List.all_cons, Bool.and_eq_true] at h hf
    simp only [VOs]
    exact ⟨[], [], .of_VR hf.1 h.1, .of_VRs hf.2 h.2, rfl⟩
  | [], _ :: _, _, h => by simp [VRs] at h
  | _ :: _, [], _, h => by simp [VRs] at h
theorem VOs.to_VRs {H : Heap} : ∀ {v : List V} {d : List D} {S : List Nat}, v.all flat = true → VOs H v d S → VRs H v d ∧ S = []
  | [], [], _, _, h => by simpa [VRs, VOs] using h
  | v :: vs, d :: ds, S, hf, h => by
    simp only [VOs, List.all_cons, Bool.and_eq_true] at h hf
    obtain ⟨S1, S2, h1, h2, rfl⟩ := h
    obtain ⟨k1, rfl⟩ := h1.to_VR hf.1
    obtain ⟨k2, rfl⟩ := h2.to_VRs hf.2
    exact ⟨by simp only [VRs]; exact ⟨k1, k2⟩, rfl⟩
  | [], _ :: _, _, _, h => by simp [VOs] at h
  | _ :: _, [], _, _, h => by simp [VOs] at h
/-- An element, and what stands in its place. -/
theorem VOe.at {H : Heap} : ∀ {es : List (List V)} {ds : List (List D)} {S : List Nat}, VOe H es ds S → ∀ {i : Nat} {e : List V}, es[i]? = some e →
    ∃ d S1 S2 S3, ds[i]? = some d ∧ VOs H e d S2 ∧ S = S1 ++ S2 ++ S3 ∧
      ∀ H', HLe H H' → (∀ id ∈ S1 ++ S3, hat H' id = hat H id) → ∀ e' d' S', VOs H' e' d' S' → VOe H' (es.set i e') (ds.set i d') (S1 ++ S' ++ S3)
  | [], [], _, _, i, e, h => by simp at h
  | e0 :: es, d0 :: ds, S, h, 0, e, he => by
    simp only [VOe] at h
    obtain ⟨S1, S2, h1, h2, rfl⟩ := h
    simp at he; subst he
    refine ⟨d0, [], S1, S2, rfl, h1, by simp, fun H' hh hs e' d' S' hv => ?_⟩
    simp only [List.set_cons_zero, VOe]
    exact ⟨S', S2, hv, h2.heap hh fun i hi => hs i (by simp [hi]), by simp⟩
  | e0 :: es, d0 :: ds, S, h, i + 1, e, he => by
    simp only [VOe] at h
    obtain ⟨S1, S2, h1, h2, rfl⟩ := h
    obtain ⟨d, T1, T2, T3, k1, k2, rfl, k4⟩ := h2.at (i := i) (e := e) (by simpa using he)
    refine ⟨d, S1 ++ T1, T2, T3, by simpa using k1, k2, by simp, fun H' hh hs e' d' S' hv => ?_⟩
    simp only [List.set_cons_succ, VOe]
    exact ⟨S1, T1 ++ S' ++ T3, h1.heap hh fun i hi => hs i (by simp [hi]), k4 H' hh (fun i hi => hs i (by simp at hi ⊢; rcases hi with hi | hi <;> simp [hi])) e' d' S' hv, by simp⟩
  | [], _ :: _, _, h, _, _, _ => by simp [VOe] at h
  | _ :: _, [], _, h, _, _, _ => by simp [VOe] at h
theorem VOs.at {H : Heap} : ∀ {es : List V} {ds : List D} {S : List Nat}, VOs H es ds S → ∀ {i : Nat} {e : V}, es[i]? = some e →
    ∃ d S1 S2 S3, ds[i]? = some d ∧ VO H e d S2 ∧ S = S1 ++ S2 ++ S3 ∧
      ∀ H', HLe H H' → (∀ id ∈ S1 ++ S3, hat H' id = hat H id) → ∀ e' d' S', VO H' e' d' S' → VOs H' (es.set i e') (ds.set i d') (S1 ++ S' ++ S3)
  | [], [], _, _, i, e, h => by simp at h
  | e0 :: es, d0 :: ds, S, h, 0, e, he => by
    simp only [VOs] at h
    obtain ⟨S1, S2, h1, h2, rfl⟩ := h
    simp at he; subst he
    refine ⟨d0, [], S1, S2, rfl, h1, by simp, fun H' hh hs e' d' S' hv => ?_⟩
    simp only [List.set_cons_zero, VOs]
    exact ⟨S', S2, hv, h2.heap hh fun i hi => hs i (by simp [hi]), by simp⟩
  | e0 :: es, d0 :: ds, S, h, i + 1, e, he => by
    simp only [VOs] at h
    obtain ⟨S1, S2, h1, h2, rfl⟩ := h
    obtain ⟨d, T1, T2, T3, k1, k2, rfl, k4⟩ := h2.at (i := i) (e := e) (by simpa using he)
    refine ⟨d, S1 ++ T1, T2, T3, by simpa using k1, k2, by simp, fun H' hh hs e' d' S' hv => ?_⟩
    simp only [List.set_cons_succ, VOs]
    exact ⟨S1, T1 ++ S' ++ T3, h1.heap hh fun i hi => hs i (by simp [hi]), k4 H' hh (fun i hi => hs i (by simp at hi ⊢; rcases hi with hi | hi <;> simp [hi])) e' d' S' hv, by simp⟩
  | [], _ :: _, _, h, _, _, _ => by simp [VOs] at h
  | _ :: _, [], _, h, _, _, _ => by simp [VOs] at h
theorem VOe.take {H : Heap} : ∀ {es : List (List V)} {ds : List (List D)} {S : List Nat} (n : Nat), VOe H es ds S → ∃ S1 S2, S = S1 ++ S2 ∧ VOe H (es.take n) (ds.take n) S1 ∧ VOe H (es.drop n) (ds.drop n) S2
  | [], [], S, n, h => by simp only [VOe] at h; subst h; exact ⟨[], [], rfl, by simp [VOe], by simp [VOe]⟩
  | e :: es, d :: ds, S, 0, h => ⟨[], S, rfl, by simp [VOe], h⟩
  | e :: es, d :: ds, S, n + 1, h => by
    simp only [VOe] at h
    obtain ⟨S1, S2, h1, h2, rfl⟩ := h
    obtain ⟨T1, T2, rfl, k1, k2⟩ := h2.take n
    exact ⟨S1 ++ T1, T2, by simp, by simp only [List.take_succ_cons, VOe]; exact ⟨S1, T1, h1, k1, rfl⟩, by simpa using k2⟩
  | [], _ :: _, _, _, h => by simp [VOe] at h
  | _ :: _, [], _, _, h => by simp [VOe] at h
theorem VOe.append {H : Heap} : ∀ {es fs : List (List V)} {ds gs : List (List D)} {S T : List Nat}, VOe H es ds S → VOe H fs gs T → VOe H (es ++ fs) (ds ++ gs) (S ++ T)
  | [], _, [], _, S, T, h, k => by simp only [VOe] at h; subst h; exact k
  | e :: es, _, d :: ds, _, S, T, h, k => by
    simp only [VOe, List.cons_append] at h ⊢
    obtain ⟨S1, S2, h1, h2, rfl⟩ := h
    exact ⟨S1, S2 ++ T, h1, h2.append k, by simp⟩
  | [], _, _ :: _, _, _, _, h, _ => by simp [VOe] at h
  | _ :: _, _, [], _, _, _, h, _ => by simp [VOe] at h
/-- Cells that own nothing. -/
def flatE (es : List (List V)) : Prop := ∀ e ∈ es, e.all flat = true
theorem VOe.flat {H : Heap} : ∀ {es : List (List V)} {ds : List (List D)} {S : List Nat}, flatE es → VOe H es ds S → All2 (VRs H) es ds ∧ S = []
  | [], [], S, _, h => by simpa [VOe, All2] using h
  | e :: es, d :: ds, S, hf, h => by
    simp only [VOe] at h
    obtain ⟨S1, S2, h1, h2, rfl⟩ := h
    obtain ⟨k1, rfl⟩ := h1.to_VRs (hf e (by simp))
    obtain ⟨k2, rfl⟩ := VOe.flat (fun e he => hf e (by simp [he])) h2
    exact ⟨⟨k1, k2⟩, rfl⟩
  | [], _ :: _, _, _, h => by simp [VOe] at h
  | _ :: _, [], _, _, h => by simp [VOe] at h
theorem VOe.of_flat {H : Heap} : ∀ {es : List (List V)} {ds : List (List D)}, flatE es → All2 (VRs H) es ds → VOe H es ds []
  | [], [], _, _ => by simp [VOe]
  | e :: es, d :: ds, hf, h => by
    simp only [VOe]
    exact ⟨[], [], .of_VRs (hf e (by simp)) h.1, VOe.of_flat (fun e he => hf e (by simp [he])) h.2, rfl⟩
  | [], _ :: _, _, h => h.elim
  | _ :: _, [], _, h => h.elim

/-! ### the rows that are the call's own -/
structure Rt where
  o : Option Nat
  sz : Nat
  es : List (List V)
def RootR (H : Heap) (r : Rt) (S : List Nat) : Prop :=
  (r.o = none ∧ r.es = [] ∧ S = []) ∨ ∃ id es' S', r.o = some id ∧ hat H id = .row r.sz es' true ∧ VOe H r.es es' S' ∧ S = id :: S'
def RR (H : Heap) : List Rt → List Nat → Prop
  | [], S => S = []
  | r :: R, S => ∃ S1 S2, RootR H r S1 ∧ RR H R S2 ∧ S = S1 ++ S2
theorem RootR.heap {H H' : Heap} (hh : HLe H H') {r : Rt} {S : List Nat} (h : RootR H r S) (k : ∀ id ∈ S, hat H' id = hat H id) : RootR H' r S := by
  rcases h with h | ⟨id, es', S', h1, h2, h3, rfl⟩
  · exact .inl h
  · exact .inr ⟨id, es', S', h1, by rw [k id (by simp)]; exact h2, h3.heap hh (fun i hi => k i (by simp [hi])), rfl⟩
theorem RR.heap {H H' : Heap} (hh : HLe H H') : ∀ {R : List Rt} {S : List Nat}, RR H R S → (∀ id ∈ S, hat H' id = hat H id) → RR H' R S
  | [], _, h, _ => h
  | r :: R, S, h, k => by
    obtain ⟨S1, S2, h1, h2, rfl⟩ := h
    exact ⟨S1, S2, h1.heap hh (fun i hi => k i (by simp [hi])), h2.heap hh (fun i hi => k i (by simp [hi])), rfl⟩
theorem RR.at {H : Heap} : ∀ {R : List Rt} {S : List Nat}, RR H R S → ∀ {i : Nat} {r : Rt}, R[i]? = some r →
    ∃ S1 S2 S3, RootR H r S2 ∧ S = S1 ++ S2 ++ S3 ∧ (∀ H', HLe H H' → (∀ id ∈ S1 ++ S3, hat H' id = hat H id) → (∀ r' S', RootR H' r' S' → RR H' (R.set i r') (S1 ++ S' ++ S3)) ∧ RR H' (R.eraseIdx i) (S1 ++ S3))
  | [], _, _, i, r, h => by simp at h
  | r0 :: R, S, h, 0, r, hr => by
    obtain ⟨S1, S2, h1, h2, rfl⟩ := h
    simp at hr; subst hr
    refine ⟨[], S1, S2, h1, by simp, fun H' hh hs => ⟨fun r' S' hv => ?_, by simpa using h2.heap hh fun i hi => hs i (by simp [hi])⟩⟩
    exact ⟨S', S2, hv, h2.heap hh fun i hi => hs i (by simp [hi]), by simp⟩
  | r0 :: R, S, h, i + 1, r, hr => by
    obtain ⟨S1, S2, h1, h2, rfl⟩ := h
    obtain ⟨T1, T2, T3, k2, rfl, k4⟩ := h2.at (i := i) (r := r) (by simpa using hr)
    refine ⟨S1 ++ T1, T2, T3, k2, by simp, fun H' hh hs => ?_⟩
    have e1 : RootR H' r0 S1 := h1.heap hh fun i hi => hs i (by simp [hi])
    obtain ⟨g1, g2⟩ := k4 H' hh (fun i hi => hs i (by simp at hi ⊢; rcases hi with hi | hi <;> simp [hi]))
    refine ⟨fun r' S' hv => ?_, ?_⟩
    · simp only [List.set_cons_succ, RR]
      exact ⟨S1, T1 ++ S' ++ T3, e1, g1 r' S' hv, by simp⟩
    · simp only [List.eraseIdx_cons_succ, RR]
      exact ⟨S1, T1 ++ T3, e1, g2, by simp⟩
theorem RR.snoc {H : Heap} : ∀ {R : List Rt} {S : List Nat} {r : Rt} {T : List Nat}, RR H R S → RootR H r T → RR H (R ++ [r]) (S ++ T)
  | [], S, r, T, h, k => by cases h; exact ⟨T, [], k, rfl, by simp⟩
  | r0 :: R, S, r, T, h, k => by
    obtain ⟨S1, S2, h1, h2, rfl⟩ := h
    exact ⟨S1, S2 ++ T, h1, h2.snoc k, by simp⟩
end Go.Pi
/-
  FROM WHAT IS KNOWN OF A STATE, A PIECE OF CODE COMES TO WHAT A TERM GIVES: the rules of control.
-/
namespace Go.Pi
set_option linter.unusedVariables false

abbrev Env := List (Nat × V)
def Env.get : Env → Nat → Option V
  | [], _ => none
  | (j, v) :: E, i => match Nat.beq j i with
    | true => some v
    | false => Env.get E i

structure EnvR (N : Nat) (E : Env) (R : List Rt) (fr : Nat → Option Blk) (b : Nat) (av : List Nat) (s : St) : Prop where
  len : s.ts.length = N
  sl : ∀ i v, E.get i = some v → VR s.hp v (s.ts.getD i .undef)
  ro : ∃ S, RR s.hp R S ∧ S.Nodup ∧ ∀ id ∈ S, fr id = none
  frm : ∀ id k, fr id = some k → hat s.hp id = k ∧ id < s.hp.length
  avl : av.Nodup ∧ ∀ r ∈ av, hat s.hp (b + r) = .fresh ∧ b + r < s.hp.length ∧ fr (b + r) = none

section
variable {pr : Prog} {fr : Nat → Option Blk} {α β : Type} {N b : Nat} {av : List Nat} {E : Env} {R : List Rt} {m : Option α}

def JS (pr : Prog) (fr : Nat → Option Blk) (b : Nat) (av : List Nat) (N : Nat) (E : Env) (R : List Rt) (ops : List PO) (m : Option α) (Q : α → St → Prop) : Prop :=
  ∀ o, m = some o → ∀ s, EnvR N E R fr b av s → Steps pr b ops s (Q o)
def JC (pr : Prog) (fr : Nat → Option Blk) (N : Nat) (E : Env) (R : List Rt) (c : PC) (m : Option α) (Q : α → Ex → St → Prop) : Prop :=
  ∀ o, m = some o → ∀ s, EnvR N E R fr 0 [] s → Ends pr c s (Q o)

theorem Ends.skip_inv {s : St} {Q : Ex → St → Prop} (h : Ends pr .skip s Q) : Q .normal s := by
  obtain ⟨n, ex, s', h1, h2⟩ := h
  simp only [code, Option.some.injEq, Prod.mk.injEq] at h1
  obtain ⟨rfl, rfl⟩ := h1
  exact h2
theorem Ends.exit_inv {j : Nat} {s : St} {Q : Ex → St → Prop} (h : Ends pr (.exit j) s Q) : Q (.exit j) s := by
  obtain ⟨n, ex, s', h1, h2⟩ := h
  simp only [code, Option.some.injEq, Prod.mk.injEq] at h1
  obtain ⟨rfl, rfl⟩ := h1
  exact h2
theorem Ends.ret_inv {s : St} {Q : Ex → St → Prop} (h : Ends pr .ret s Q) : Q .ret s := by
  obtain ⟨n, ex, s', h1, h2⟩ := h
  simp only [code, Option.some.injEq, Prod.mk.injEq] at h1
  obtain ⟨rfl, rfl⟩ := h1
  exact h2

theorem hat_append_left {H L : Heap} {id : Nat} (h : id < H.length) : hat (H ++ L) id = hat H id := by
  unfold hat
  rw [List.getD_eq_getElem?_getD, List.getD_eq_getElem?_getD, List.getElem?_append_left h]
theorem hat_ltJ {H : Heap} {id : Nat} (h : hat H id ≠ .fresh) : id < H.length := by
  rcases Nat.lt_or_ge id H.length with h1 | h1
  · exact h1
  · exact absurd (by unfold hat; rw [List.getD_eq_getElem?_getD, List.getElem?_eq_none h1]; rfl) h
theorem HLe.append (H L : Heap) : HLe H (H ++ L) := fun id sz es h => by
  rw [hat_append_left (hat_ltJ (by rw [h]; intro e; cases e))]; exact h
mutual
theorem VO.alive {H : Heap} : ∀ {v : V} {d : D} {S : List Nat}, VO H v d S → ∀ id ∈ S, ∃ sz es, hat H id = .row sz es true
  | .x _, _, _, h, id, hi => by simp only [VO] at h; rw [h.2] at hi; cases hi
  | .c _ _, _, _, h, id, hi => by simp only [VO] at h; rw [h.2] at hi; cases hi
  | .ref _ _ _, _, _, h, id, hi => by simp only [VO] at h; rw [h.2] at hi; cases hi
  | .ptr _ _ _ _, _, _, h, id, hi => by simp only [VO] at h; rw [h.2] at hi; cases hi
  | .own sz es, d, S, h, id, hi => by
    simp only [VO] at h
    rcases h with ⟨_, _, rfl⟩ | ⟨id', es', S', h1, h2, h3, rfl⟩
    · cases hi
    · simp at hi
      rcases hi with rfl | hi
      · exact ⟨_, _, h2⟩
      · exact VOe.alive h3 id hi
  | .agg vs, _, _, h, _, _ => by simp only [VO] at h
  | .tup vs, _, _, h, _, _ => by simp only [VO] at h
theorem VOs.alive {H : Heap} : ∀ {v : List V} {d : List D} {S : List Nat}, VOs H v d S → ∀ id ∈ S, ∃ sz es, hat H id = .row sz es true
  | [], [], _, h, id, hi => by simp only [VOs] at h; rw [h] at hi; cases hi
  | v :: vs, d :: ds, S, h, id, hi => by
    simp only [VOs] at h
    obtain ⟨S1, S2, h1, h2, rfl⟩ := h
    simp at hi
    exact hi.elim (VO.alive h1 id) (VOs.alive h2 id)
  | [], _ :: _, _, h, _, _ => by simp [VOs] at h
  | _ :: _, [], _, h, _, _ => by simp [VOs] at h
theorem VOe.alive {H : Heap} : ∀ {v : List (List V)} {d : List (List D)} {S : List Nat}, VOe H v d S → ∀ id ∈ S, ∃ sz es, hat H id = .row sz es true
  | [], [], _, h, id, hi => by simp only [VOe] at h; rw [h] at hi; cases hi
  | v :: vs, d :: ds, S, h, id, hi => by
    simp only [VOe] at h
    obtain ⟨S1, S2, h1, h2, rfl⟩ := h
    simp at hi
    exact hi.elim (VOs.alive h1 id) (VOe.alive h2 id)
  | [], _ :: _, _, h, _, _ => by simp [VOe] at h
  | _ :: _, [], _, h, _, _ => by simp [VOe] at h
end
theorem RootR.alive {H : Heap} {r : Rt} {S : List Nat} (h : RootR H r S) : ∀ id ∈ S, ∃ sz es, hat H id = .row sz es true := by
  rcases h with ⟨_, _, rfl⟩ | ⟨id, es', S', h1, h2, h3, rfl⟩
  · intro id hi; cases hi
  · intro i hi
    simp at hi
    rcases hi with rfl | hi
    · exact ⟨_, _, h2⟩
    · exact h3.alive i hi
theorem RR.alive {H : Heap} : ∀ {R : List Rt} {S : List Nat}, RR H R S → ∀ id ∈ S, ∃ sz es, hat H id = .row sz es true
  | [], _, h, id, hi => by cases h; cases hi
  | r :: R, S, h, id, hi => by
    obtain ⟨S1, S2, h1, h2, rfl⟩ := h
    simp at hi
    exact hi.elim (h1.alive id) (h2.alive id)

/-- Rows that are added at the end, all fresh. -/
theorem EnvR.free {s : St} (h : EnvR N E R fr 0 [] s) (k : Nat) : EnvR N E R fr s.hp.length (List.range k) ⟨s.ts, s.hp ++ List.replicate k .fresh⟩ := by
  have hle := HLe.append s.hp (List.replicate k .fresh)
  refine ⟨h.len, fun i v hv => (h.sl i v hv).heap hle, ?_, fun id k hk => ?_, List.nodup_range, fun r hr => ?_⟩
  · obtain ⟨S, h1, h2, h3⟩ := h.ro
    refine ⟨S, h1.heap hle fun id hi => ?_, h2, h3⟩
    obtain ⟨sz, es, e⟩ := h1.alive id hi
    exact hat_append_left (hat_ltJ (by rw [e]; intro e; cases e))
  · obtain ⟨h1, h2⟩ := h.frm id k hk
    exact ⟨by rw [hat_append_left h2]; exact h1, by simp; omega⟩
  · have hr : r < k := by simpa using hr
    refine ⟨?_, by simp; exact hr, ?_⟩
    · simp only [hat, List.getD_eq_getElem?_getD]
      rw [List.getElem?_append_right (by omega)]
      simp [hr]
    · cases e : fr (s.hp.length + r) with
      | none => rfl
      | some x => exact absurd (h.frm _ _ e).2 (by omega)
theorem EnvR.shut {s : St} (h : EnvR N E R fr b av s) : EnvR N E R fr 0 [] s := ⟨h.len, h.sl, h.ro, h.frm, List.nodup_nil, by simp⟩

theorem JC.region {k : Nat} {ops : List PO} {Q : α → Ex → St → Prop} (h : ∀ b, JS pr fr b (List.range k) N E R ops m (fun o s => Q o .normal s)) : JC pr fr N E R (.region false k ops) m Q :=
  fun o ho s hs => Ends.region (h _ o ho _ (hs.free k))
theorem JS.nil {Q : α → Ex → St → Prop} (h : JC pr fr N E R .skip m Q) : JS pr fr b av N E R [] m (fun o s => Q o .normal s) :=
  fun o ho s hs => Steps.nil (h o ho s hs.shut).skip_inv
theorem JC.seq {c d : PC} {Q : α → Ex → St → Prop} (h : JC pr fr N E R c m (fun o => Then pr d (Q o))) : JC pr fr N E R (.seq c d) m Q :=
  fun o ho s hs => Ends.seq (h o ho s hs)
theorem JC.skipT {d : PC} {Q : α → Ex → St → Prop} (h : JC pr fr N E R d m Q) : JC pr fr N E R .skip m (fun o => Then pr d (Q o)) :=
  fun o ho s hs => Ends.skip (h o ho s hs)
theorem JC.exitT {j : Nat} {d : PC} {Q : α → Ex → St → Prop} (h : JC pr fr N E R (.exit j) m Q) : JC pr fr N E R (.exit j) m (fun o => Then pr d (Q o)) :=
  fun o ho s hs => Ends.exit (h o ho s hs).exit_inv
theorem JC.retT {d : PC} {Q : α → Ex → St → Prop} (h : JC pr fr N E R .ret m Q) : JC pr fr N E R .ret m (fun o => Then pr d (Q o)) :=
  fun o ho s hs => Ends.ret (h o ho s hs).ret_inv
theorem JC.block {j : Nat} {c : PC} {Q : α → Ex → St → Prop} (h : JC pr fr N E R c m (fun o => Blocked j (Q o))) : JC pr fr N E R (.block j c) m Q :=
  fun o ho s hs => Ends.block (h o ho s hs)
theorem JC.skipB {j : Nat} {Q : α → Ex → St → Prop} (h : JC pr fr N E R .skip m Q) : JC pr fr N E R .skip m (fun o => Blocked j (Q o)) :=
  fun o ho s hs => Ends.skip (h o ho s hs).skip_inv
theorem JC.retB {j : Nat} {Q : α → Ex → St → Prop} (h : JC pr fr N E R .ret m Q) : JC pr fr N E R .ret m (fun o => Blocked j (Q o)) :=
  fun o ho s hs => Ends.ret (h o ho s hs).ret_inv
theorem JC.exitB {j : Nat} {Q : α → Ex → St → Prop} (h : JC pr fr N E R .skip m Q) : JC pr fr N E R (.exit j) m (fun o => Blocked j (Q o)) :=
  fun o ho s hs => Ends.exit (by simp only [Blocked, if_true]; exact (h o ho s hs).skip_inv)
theorem JC.exitB' {i j : Nat} {Q : α → Ex → St → Prop} (hj : Nat.beq i j = false) (h : JC pr fr N E R (.exit i) m Q) : JC pr fr N E R (.exit i) m (fun o => Blocked j (Q o)) :=
  fun o ho s hs => Ends.exit (by
    have : i ≠ j := fun e => by subst e; simp at hj
    simp only [Blocked, if_neg this]; exact (h o ho s hs).exit_inv)
/-- Behind a round of a loop. -/
def Round (pr : Prog) (c : PC) (Q : Ex → St → Prop) : Ex → St → Prop
  | .normal, s => Ends pr (.loop c) s Q
  | ex, s => Q ex s
theorem Ends.round {c : PC} {s : St} {Q : Ex → St → Prop} (h : Ends pr c s (Round pr c Q)) : Ends pr (.loop c) s Q := by
  obtain ⟨n, ex, s1, h1, h2⟩ := h
  cases ex with
  | normal =>
    obtain ⟨k, ex, s2, h3, h4⟩ := h2
    have h3' : loopN (code (runN pr k) k c) k s1 = some (ex, s2) := h3
    refine ⟨max n (k + 1), ex, s2, ?_, h4⟩
    show loopN (code (runN pr (max n (k + 1))) (max n (k + 1)) c) (max n (k + 1)) s = _
    obtain ⟨j, hj⟩ : ∃ j, max n (k + 1) = j + 1 := ⟨max n (k + 1) - 1, by omega⟩
    have e1 := code_mono (runN_mono pr (Nat.le_max_left n (k + 1))) (Nat.le_max_left n (k + 1)) h1
    have hk : k ≤ max n (k + 1) := by omega
    have e2 := loopN_mono (fun s r h => code_mono (runN_mono pr hk) hk h) (show k ≤ j by omega) h3'
    rw [hj] at e1 e2 ⊢
    simp only [loopN, e1]
    exact e2
  | exit i => exact ⟨n + 1, _, s1, by
      show loopN (code (runN pr (n + 1)) (n + 1) c) (n + 1) s = _
      simp only [loopN, code_mono (runN_mono pr (Nat.le_succ n)) (Nat.le_succ n) h1], h2⟩
  | ret => exact ⟨n + 1, _, s1, by
      show loopN (code (runN pr (n + 1)) (n + 1) c) (n + 1) s = _
      simp only [loopN, code_mono (runN_mono pr (Nat.le_succ n)) (Nat.le_succ n) h1], h2⟩
theorem JC.loop {c : PC} {Q : α → Ex → St → Prop} (h : JC pr fr N E R c m (fun o => Round pr c (Q o))) : JC pr fr N E R (.loop c) m Q :=
  fun o ho s hs => Ends.round (h o ho s hs)
theorem JC.skipL {c : PC} {Q : α → Ex → St → Prop} (h : JC pr fr N E R (.loop c) m Q) : JC pr fr N E R .skip m (fun o => Round pr c (Q o)) :=
  fun o ho s hs => Ends.skip (h o ho s hs)
theorem JC.exitL {j : Nat} {c : PC} {Q : α → Ex → St → Prop} (h : JC pr fr N E R (.exit j) m Q) : JC pr fr N E R (.exit j) m (fun o => Round pr c (Q o)) :=
  fun o ho s hs => Ends.exit (h o ho s hs).exit_inv
theorem JC.retL {c : PC} {Q : α → Ex → St → Prop} (h : JC pr fr N E R .ret m Q) : JC pr fr N E R .ret m (fun o => Round pr c (Q o)) :=
  fun o ho s hs => Ends.ret (h o ho s hs).ret_inv
theorem JC.no {c : PC} {Q : α → Ex → St → Prop} : JC pr fr N E R c none Q := fun o ho => by cases ho
/-- Where a piece of code ends: the ending, the slots, the rows. -/
def GotA (N : Nat) (fr : Nat → Option Blk) (A : Ex → Env → List Rt → Prop) (ex : Ex) (s : St) : Prop := ∃ E R, A ex E R ∧ EnvR N E R fr 0 [] s
def exC : Ex → PC
  | .normal => .skip
  | .exit j => .exit j
  | .ret => .ret
theorem JC.bind {c : PC} {m1 : Option β} {m2 : β → Option α} {A : β → Ex → Env → List Rt → Prop} {Q : α → Ex → St → Prop} (h : JC pr fr N E R c m1 (fun v => GotA N fr (A v)))
    (h2 : ∀ v ex E' R', A v ex E' R' → JC pr fr N E' R' (exC ex) (m2 v) Q) : JC pr fr N E R c (m1.bind m2) Q := by
  intro o ho s hs
  obtain ⟨v, h3, h4⟩ := Option.bind_eq_some_iff.1 ho
  refine (h v h3 s hs).mono ?_
  rintro ex s' ⟨E', R', h5, h6⟩
  have := h2 v ex E' R' h5 o h4 s' h6
  cases ex with
  | normal => exact this.skip_inv
  | exit j => exact this.exit_inv
  | ret => exact this.ret_inv
theorem JC.got {c : PC} {v : α} {A : α → Ex → Env → List Rt → Prop} {ex : Ex} (hc : c = exC ex) (h : A v ex E R) : JC pr fr N E R c (some v) (fun v => GotA N fr (A v)) := by
  intro o ho s hs
  cases ho
  subst hc
  cases ex with
  | normal => exact Ends.skip ⟨E, R, h, hs⟩
  | exit j => exact Ends.exit ⟨E, R, h, hs⟩
  | ret => exact Ends.ret ⟨E, R, h, hs⟩
/-- One environment says no more than another one. -/
def SubE (E : Env) : Env → Prop
  | [] => True
  | p :: E' => E.get p.1 = some p.2 ∧ SubE E E'
theorem SubE.get {E : Env} : ∀ {E' : Env}, SubE E E' → ∀ {i : Nat} {v : V}, E'.get i = some v → E.get i = some v
  | [], _, i, v, h => by simp [Env.get] at h
  | (j, w) :: E', hs, i, v, h => by
    simp only [Env.get] at h
    split at h
    · rename_i e
      injection h with h
      rw [← Nat.eq_of_beq_eq_true e, ← h]
      exact hs.1
    · exact hs.2.get h
theorem JC.to {c : PC} {Q : α → Ex → St → Prop} (E' : Env) (R' : List Rt) (hE : SubE E E') (hR : R = R') (h : JC pr fr N E' R' c m Q) : JC pr fr N E R c m Q := by
  subst hR
  exact fun o ho s hs => h o ho s ⟨hs.len, fun i v hv => hs.sl i v (hE.get hv), hs.ro, hs.frm, hs.avl⟩
/-- A row that is forgotten. -/
theorem JC.drop {c : PC} {Q : α → Ex → St → Prop} (i : Nat) (h : JC pr fr N E (R.eraseIdx i) c m Q) : JC pr fr N E R c m Q := by
  refine fun o ho s hs => h o ho s ⟨hs.len, hs.sl, ?_, hs.frm, hs.avl⟩
  obtain ⟨S, h1, h2, h3⟩ := hs.ro
  cases hr : R[i]? with
  | none =>
    have : R.eraseIdx i = R := List.eraseIdx_of_length_le (by simpa using hr)
    rw [this]; exact ⟨S, h1, h2, h3⟩
  | some r =>
    obtain ⟨S1, S2, S3, k1, rfl, k2⟩ := h1.at hr
    obtain ⟨_, g⟩ := k2 s.hp (HLe.refl _) fun _ _ => rfl
    have hsub : ∀ x ∈ S1 ++ S3, x ∈ S1 ++ S2 ++ S3 := fun x hx => by simp at hx ⊢; rcases hx with hx | hx <;> simp [hx]
    refine ⟨_, g, ?_, fun id hi => h3 id (hsub id hi)⟩
    have hs : (S1 ++ S3).Sublist (S1 ++ S2 ++ S3) := by
      rw [List.append_assoc]
      exact (List.Sublist.refl _).append (List.sublist_append_right _ _)
    exact h2.sublist hs
theorem JC.conv {c : PC} {m' : Option α} {Q : α → Ex → St → Prop} (hm : m = m') (h : JC pr fr N E R c m' Q) : JC pr fr N E R c m Q := by subst hm; exact h

/-! ### choices -/
def evV (E : Env) : PX → Option V
  | .t i => E.get i
  | .c (.agg cs) => some (.agg (cs.map V.x))
  | .c (.tup _) => none
  | .c d => some (.x d)
theorem VRs.xs {H : Heap} : ∀ (cs : List D), VRs H (cs.map V.x) cs
  | [] => by simp [VRs]
  | c :: cs => by simp only [List.map_cons, VRs, VR]; exact ⟨trivial, VRs.xs cs⟩
theorem EnvR.ev {s : St} (h : EnvR N E R fr b av s) {x : PX} {v : V} (hx : evV E x = some v) : VR s.hp v (x.ev s.ts) := by
  cases x with
  | t i => exact h.sl i v hx
  | c d =>
    cases d <;> simp only [evV, Option.some.injEq] at hx <;> first
      | (subst hx; simp only [VR, PX.ev])
      | (cases hx)
    exact ⟨_, rfl, VRs.xs _⟩
theorem JC.cond {c : PX} {x y : PC} {e : Bool} {m1 m0 : Option α} {Q : α → Ex → St → Prop} (hc : evV E c = some (.x (.bool e)))
    (h1 : e = true → JC pr fr N E R x m1 Q) (h0 : e = false → JC pr fr N E R y m0 Q) : JC pr fr N E R (.cond c x y) (cond e m1 m0) Q := by
  intro o ho s hs
  have := hs.ev hc
  simp only [VR] at this
  refine Ends.cond this (fun he => ?_) (fun he => ?_)
  · subst he; exact h1 rfl o ho s hs
  · subst he; exact h0 rfl o ho s hs
/-- What is known already. -/
theorem JC.condT {c : PX} {x y : PC} {Q : α → Ex → St → Prop} (hc : evV E c = some (.x (.bool true))) (h1 : JC pr fr N E R x m Q) : JC pr fr N E R (.cond c x y) m Q := by
  intro o ho s hs
  have := hs.ev hc
  simp only [VR] at this
  exact Ends.cond this (fun _ => h1 o ho s hs) (fun he => by cases he)
theorem JC.condF {c : PX} {x y : PC} {Q : α → Ex → St → Prop} (hc : evV E c = some (.x (.bool false))) (h1 : JC pr fr N E R y m Q) : JC pr fr N E R (.cond c x y) m Q := by
  intro o ho s hs
  have := hs.ev hc
  simp only [VR] at this
  exact Ends.cond this (fun he => by cases he) (fun _ => h1 o ho s hs)
end
end Go.Pi
/-
  OPERATIONS THAT TOUCH NO ROW: computed on values.
-/
namespace Go.Pi
set_option linter.unusedVariables false

section
variable {pr : Prog} {fr : Nat → Option Blk} {α β : Type} {N b : Nat} {av : List Nat} {E : Env} {R : List Rt} {m : Option α} {s : St}

def putE (E : Env) : Option Nat → V → Env
  | some i, v => (i, v) :: E
  | none, _ => E
def dstOk (N : Nat) : Option Nat → Bool
  | some i => Nat.blt i N
  | none => true
theorem EnvR.put (h : EnvR N E R fr b av s) {dst : Option Nat} {v : V} {d : D} (hi : dstOk N dst = true) (hv : VR s.hp v d) : EnvR N (putE E dst v) R fr b av ⟨putT s.ts dst d, s.hp⟩ := by
  cases dst with
  | none => exact h
  | some i =>
    have hi' : i < s.ts.length := by rw [h.len]; simpa [dstOk, Nat.blt_eq] using hi
    refine ⟨by simp only [putT, List.length_set]; exact h.len, fun j w hw => ?_, h.ro, h.frm, h.avl⟩
    simp only [putE, Env.get] at hw
    split at hw
    · rename_i e
      have e' := Nat.eq_of_beq_eq_true e
      subst e'
      injection hw with hw
      subst hw
      simp only [putT, List.getD_eq_getElem?_getD, List.getElem?_set_self hi', Option.getD_some]
      exact hv
    · rename_i e
      have hne : i ≠ j := fun h => by subst h; simp at e
      simp only [putT, List.getD_eq_getElem?_getD, List.getElem?_set_ne hne]
      rw [← List.getD_eq_getElem?_getD]
      exact h.sl j w hw

def gst (E : Env) : Option (Nat × Bool) → Option Bool
  | none => some true
  | some (t, v) => match E.get t with
    | some (.x (.bool c)) => some (match c, v with | true, true => true | false, false => true | _, _ => false)
    | some (.x .skip) => some false
    | _ => none
theorem gst_true (h : EnvR N E R fr b av s) {g : Option (Nat × Bool)} (hg : gst E g = some true) : guardOk s.ts g = true ∧ wantedP s.ts g = true := by
  cases g with
  | none => exact ⟨rfl, rfl⟩
  | some p =>
    obtain ⟨t, v⟩ := p
    simp only [gst] at hg
    split at hg
    · rename_i c e
      have := h.sl t _ e
      simp only [VR] at this
      simp only [guardOk, wantedP, this]
      cases c <;> cases v <;> simp at hg ⊢
    · cases hg
    · cases hg
theorem gst_false (h : EnvR N E R fr b av s) {g : Option (Nat × Bool)} (hg : gst E g = some false) : guardOk s.ts g = true ∧ wantedP s.ts g = false := by
  cases g with
  | none => cases hg
  | some p =>
    obtain ⟨t, v⟩ := p
    simp only [gst] at hg
    split at hg
    · rename_i c e
      have := h.sl t _ e
      simp only [VR] at this
      simp only [guardOk, wantedP, this]
      cases c <;> cases v <;> simp at hg ⊢
    · rename_i e
      have := h.sl t _ e
      simp only [VR] at this
      simp only [guardOk, wantedP, this]
      simp
    · cases hg

/-- One operation. -/
theorem JS.step {o : PO} {ops : List PO} {Q : α → St → Prop} {E' : Env} {R' : List Rt} {av' : List Nat} (hg : gst E o.guard = some true)
    (h : ∀ s, EnvR N E R fr b av s → ∃ x, (opE noCall (PX.ev s.ts) (b + o.res) o.op).run s.hp = some x ∧ EnvR N E' R' fr b av' ⟨putT s.ts o.dst x.d, x.on s.hp⟩)
    (next : JS pr fr b av' N E' R' ops m Q) : JS pr fr b av N E R (o :: ops) m Q := by
  intro a ha s hs
  obtain ⟨g1, g2⟩ := gst_true hs hg
  obtain ⟨x, h1, h2⟩ := h s hs
  exact Steps.cons (n := 0) (s1 := ⟨putT s.ts o.dst x.d, x.on s.hp⟩) (by
    have := stepO_of (b := b) (o := o) (ts := s.ts) (H := s.hp) g1 g2 h1
    exact (stepO_mono (noCall_le _) this).1) (next a ha _ h2)
theorem JS.skip1 {o : PO} {ops : List PO} {Q : α → St → Prop} (hg : gst E o.guard = some false) (hd : dstOk N o.dst = true)
    (next : JS pr fr b av N (putE E o.dst (.x .skip)) R ops m Q) : JS pr fr b av N E R (o :: ops) m Q := by
  intro a ha s hs
  obtain ⟨g1, g2⟩ := gst_false hs hg
  refine Steps.cons (n := 0) (s1 := ⟨putT s.ts o.dst .skip, s.hp⟩) ?_ (next a ha _ (hs.put hd (by simp only [VR])))
  unfold stepO
  simp [g1, g2]

/-! ### exact data -/
def dVs : List V → Option (List D)
  | [] => some []
  | .x d :: vs => match dVs vs with | some ds => some (d :: ds) | none => none
  | _ => none
def dV : V → Option D
  | .x d => some d
  | .agg vs => match dVs vs with | some ds => some (.agg ds) | none => none
  | _ => none
def exV (E : Env) (x : PX) : Option D := match evV E x with | some v => dV v | none => none
theorem dVs_ok {H : Heap} : ∀ {vs : List V} {ds ds' : List D}, dVs vs = some ds → VRs H vs ds' → ds' = ds
  | [], ds, [], h, _ => by simp [dVs] at h; exact h.symm
  | [], ds, _ :: _, _, k => by simp [VRs] at k
  | .x d :: vs, ds, [], _, k => by simp [VRs] at k
  | .x d :: vs, ds, d' :: ds', h, k => by
    simp only [dVs] at h
    split at h
    · rename_i l hl
      injection h with h
      simp only [VRs, VR] at k
      rw [← h, k.1, dVs_ok hl k.2]
    · cases h
  | .c _ _ :: _, _, _, h, _ => by simp [dVs] at h
  | .ref _ _ _ :: _, _, _, h, _ => by simp [dVs] at h
  | .ptr _ _ _ _ :: _, _, _, h, _ => by simp [dVs] at h
  | .own _ _ :: _, _, _, h, _ => by simp [dVs] at h
  | .agg _ :: _, _, _, h, _ => by simp [dVs] at h
  | .tup _ :: _, _, _, h, _ => by simp [dVs] at h
theorem dV_ok {H : Heap} {v : V} {d d' : D} (h : dV v = some d) (k : VR H v d') : d' = d := by
  cases v <;> simp only [dV] at h <;> try cases h
  · simpa only [VR] using k
  · rename_i vs
    simp only [VR] at k
    obtain ⟨ds, rfl, k⟩ := k
    split at h
    · rename_i l hl
      injection h with h
      rw [← h, dVs_ok hl k]
    · cases h
theorem EnvR.ex (h : EnvR N E R fr b av s) {x : PX} {d : D} (hx : exV E x = some d) : x.ev s.ts = d := by
  simp only [exV] at hx
  split at hx
  · rename_i v hv
    exact dV_ok hx (h.ev hv)
  · cases hx

def cellV (k : Nat) (d : D) : V := match sc d with | true => .x d | false => .c k d
def shapedV (ag : Bool) (vs : List V) : Option V := match ag with
  | true => some (.agg vs)
  | false => match vs with | [v] => some v | _ => none
theorem shapedV_ok {H : Heap} {ag : Bool} {vs : List V} {ds : List D} {v : V} (h : shapedV ag vs = some v) (k : VRs H vs ds) : ∃ d, shaped ag ds = some d ∧ VR H v d := by
  cases ag with
  | true =>
    injection h with h
    subst h
    exact ⟨_, rfl, by simp only [VR]; exact ⟨_, rfl, k⟩⟩
  | false =>
    simp only [shapedV] at h
    split at h
    · rename_i w
      injection h with h
      subst h
      cases ds with
      | nil => simp [VRs] at k
      | cons d ds => cases ds with
        | nil => simp only [VRs] at k; exact ⟨d, rfl, k.1⟩
        | cons => simp [VRs] at k
    · cases h
theorem cellV_ok {H : Heap} {k : Nat} {d d' : D} (h : Cl H k d d') : VR H (cellV k d) d' := by
  unfold cellV
  cases hs : sc d with
  | true => simp only [VR]; exact h.sc hs
  | false => simpa only [VR] using h
theorem cellsV_ok {H : Heap} {k : Nat} : ∀ {cs ds : List D}, All2 (Cl H k) cs ds → VRs H (cs.map (cellV k)) ds
  | [], [], _ => by simp [VRs]
  | c :: cs, d :: ds, h => by simp only [List.map_cons, VRs]; exact ⟨cellV_ok h.1, cellsV_ok h.2⟩
  | [], _ :: _, h => h.elim
  | _ :: _, [], h => h.elim
def leB (a b : Nat) : Bool := Nat.ble a b
theorem leB_iff {a b : Nat} : leB a b = true ↔ a ≤ b := by simp [leB]
/-- The cells of a value that is put into cells. -/
def cellsW : V → List V
  | .agg vs => vs
  | v => [v]
/-- Of what may stand in a cell: a datum that is no more than a list or a pointer. -/
def lp : D → Bool
  | .lst _ _ | .fptr _ | .nil => true
  | _ => false
def oneV : V → Bool
  | .x d => one d
  | .c _ d => lp d
  | .ref _ _ _ | .ptr _ _ _ _ => true
  | _ => false
theorem cl_one {H : Heap} {n : Nat} {v d : D} (h : Cl H n v d) (hl : lp v = true) : one d = true := by
  cases n with
  | zero => exact h.elim
  | succ n =>
    rcases h with ⟨h, k⟩ | ⟨sz, es, id, off, len, es0, rfl, rfl, h3⟩ | ⟨cs, id, i, j, sz, es0, e, rfl, rfl, h3⟩ | ⟨cs, ds, rfl, rfl, h3⟩
    · cases v <;> simp [lp] at hl
      · simp only [Nr] at k; subst k; rfl
      · rcases k.lst with ⟨_, rfl⟩ | ⟨_, rfl, _⟩ <;> rfl
      · obtain ⟨_, rfl, _⟩ := k.fptr; rfl
    · rfl
    · rfl
    · simp [lp] at hl
theorem oneV_ok {H : Heap} {v : V} {d : D} (h : VR H v d) (ho : oneV v = true) : one d = true := by
  cases v <;> simp only [VR, oneV] at h ho
  · rw [h]; exact ho
  · exact cl_one h ho
  · rcases h with ⟨_, _, rfl⟩ | ⟨_, _, _, rfl⟩ <;> rfl
  · rw [h]; rfl
  · cases ho
  · cases ho
theorem onesV_ok {H : Heap} : ∀ {vs : List V} {ds : List D}, VRs H vs ds → vs.all oneV = true → ds.all one = true
  | [], [], _, _ => rfl
  | v :: vs, d :: ds, h, k => by
    simp only [VRs, List.all_cons, Bool.and_eq_true] at h k ⊢
    exact ⟨oneV_ok h.1 k.1, onesV_ok h.2 k.2⟩
  | [], _ :: _, h, _ => by simp [VRs] at h
  | _ :: _, [], h, _ => by simp [VRs] at h
theorem one_cellsOf {d : D} (h : one d = true) : cellsOf d = [d] := by cases d <;> simp [one] at h <;> rfl
theorem cellsW_ok {H : Heap} {v : V} {d : D} (h : VR H v d) (ho : (cellsW v).all oneV = true) : VRs H (cellsW v) (cellsOf d) ∧ (cellsOf d).all one = true := by
  cases v
  case agg vs =>
    simp only [VR, cellsW] at h ho ⊢
    obtain ⟨ds, rfl, k⟩ := h
    exact ⟨k, onesV_ok k ho⟩
  all_goals
    simp only [cellsW, List.all_cons, List.all_nil, Bool.and_true] at ho ⊢
    have := oneV_ok h ho
    rw [one_cellsOf this]
    exact ⟨by simp only [VRs]; exact ⟨h, trivial⟩, by simp [this]⟩
def fillV : List V → List (Nat × Nat × V) → Option (List V)
  | z, [] => some z
  | z, (off, n, v) :: ps => match (cellsW v).all oneV, Nat.beq (cellsW v).length n, leB (off + n) z.length with
    | true, true, true => fillV (z.take off ++ cellsW v ++ z.drop (off + (cellsW v).length)) ps
    | _, _, _ => none
def evParts (E : Env) : List (Nat × Nat × PX) → Option (List (Nat × Nat × V))
  | [] => some []
  | (off, n, x) :: ps => match evV E x, evParts E ps with
    | some v, some l => some ((off, n, v) :: l)
    | _, _ => none

def okc (d : D) : Bool := lp d || sc d
def pureV (E : Env) : POp → Option V
  | .mv x => evV E x
  | .pick c a b => match evV E c with
    | some (.x (.bool true)) => evV E a
    | some (.x (.bool false)) => evV E b
    | _ => none
  | .bin op x y => match exV E x, exV E y with
    | some a, some b => match binD op a b with | some d => some (.x d) | none => none
    | _, _ => none
  | .eqB neg x y => match exV E x, exV E y with
    | some (.bool a), some (.bool b) => some (.x (.bool (if neg then !(a == b) else a == b)))
    | _, _ => none
  | .un op x => match exV E x with
    | some a => match unD op a with | some d => some (.x d) | none => none
    | none => none
  | .conv c x => match c with
    | .toInt k => match exV E x with
      | some (.int _ n) => some (.x (.int k (k.wrap n)))
      | _ => none
    | .toFlt => match exV E x with
      | some (.int _ n) => some (.x (.flt (some (FloatKind.f64.nearest n))))
      | _ => none
    | .same => evV E x
    | _ => none
  | .extract x i => match evV E x with
    | some (.tup vs) => vs[i]?
    | _ => none
  | .len x => match evV E x with
    | some (.c _ (.lst _ es)) => some (.x (.int .i64 (es.length : Int)))
    | some (.ref _ _ len) => some (.x (.int .i64 (len : Int)))
    | some (.x .nil) => some (.x (.int .i64 0))
    | _ => none
  | .lenS x => match exV E x with
    | some (.str s) => some (.x (.int .i64 (s.length : Int)))
    | _ => none
  | .field ag off n x => match evV E x with
    | some (.agg vs) => match leB (off + n) vs.length with
      | true => shapedV ag ((vs.drop off).take n)
      | false => none
    | _ => none
  | .load ag n x => match evV E x with
    | some (.c k (.fptr cs)) => match leB 1 n, leB n cs.length, (cs.take n).all okc with
      | true, true, true => shapedV ag ((cs.take n).map (cellV k))
      | _, _, _ => none
    | _ => none
  | .fieldAddr off n x => match evV E x with
    | some (.c k (.fptr cs)) => match leB (off + 1) cs.length with
      | true => some (.c k (.fptr (cs.drop off)))
      | false => none
    | some (.ptr id sz i j) => some (.ptr id sz i (j + off))
    | _ => none
  | .nilCheck x => match evV E x with
    | some (.c k (.fptr cs)) => some (.c k (.fptr cs))
    | some (.ptr id sz i j) => some (.ptr id sz i j)
    | _ => none
  | .eqNP neg x => match evV E x with
    | some (.c _ (.fptr _)) => some (.x (.bool neg))
    | some (.ptr _ _ _ _) => some (.x (.bool neg))
    | some (.x .nilp) => some (.x (.bool (!neg)))
    | _ => none
  | .eqNS neg x => match evV E x with
    | some (.x .nil) => some (.x (.bool (!neg)))
    | some (.ref (some _) _ _) => some (.x (.bool neg))
    | _ => none
  | .bits x => match exV E x with
    | some (.flt (some b)) => some (.x (.int .u64 (b : Int)))
    | _ => none
  | .ofBits x => match exV E x with
    | some (.int .u64 n) => some (.x (.flt (some n.toNat)))
    | _ => none
  | .minmax mx x ys => match exV E x, ys.map (exV E) with
    | some (.int k a), [some (.int k' c)] => match decide (k = k') with
      | true => some (.x (.int k (if mx then (if c > a then c else a) else (if c < a then c else a))))
      | false => none
    | _, _ => none
  | .build zero parts => match evParts E parts with
    | some ps => match fillV (zero.map V.x) ps with | some vs => some (.agg vs) | none => none
    | none => none
  | _ => none

theorem evParts_ok (h : EnvR N E R fr b av s) : ∀ {ps : List (Nat × Nat × PX)} {l : List (Nat × Nat × V)}, evParts E ps = some l → ∀ {z : List V} {zd : List D} {vs : List V}, VRs s.hp z zd → fillV z l = some vs →
    (ps.all fun p => (cellsOf (p.2.2.ev s.ts)).all one) = true ∧ ∃ ds, fillB zd (ps.map fun p => (p.1, p.2.1, p.2.2.ev s.ts)) = some ds ∧ VRs s.hp vs ds
  | [], l, hl, z, zd, vs, hz, hf => by
    simp only [evParts, Option.some.injEq] at hl
    subst hl
    simp only [fillV, Option.some.injEq] at hf
    subst hf
    exact ⟨rfl, zd, rfl, hz⟩
  | (off, n, x) :: ps, l, hl, z, zd, vs, hz, hf => by
    simp only [evParts] at hl
    split at hl
    · rename_i v l' hv hl'
      injection hl with hl
      subst hl
      simp only [fillV] at hf
      split at hf
      · rename_i k1 k2 k3
        obtain ⟨g1, g2⟩ := cellsW_ok (h.ev hv) k1
        have k2' := Nat.eq_of_beq_eq_true k2
        rw [leB_iff] at k3
        have e1 := hz.len
        have e2 := g1.len
        obtain ⟨a1, ds, a2, a3⟩ := evParts_ok h hl' (zd := splice zd off (cellsOf (x.ev s.ts))) (by
          unfold splice
          rw [← e2]
          exact ((hz.take off).append g1).append (hz.drop _)) hf
        refine ⟨by simp [g2]; simpa using a1, ds, ?_, a3⟩
        simp only [List.map_cons, fillB]
        rw [if_pos ⟨by omega, by omega⟩]
        exact a2
      · cases hf
    · cases hl
theorem run_quietJ {H : Heap} {o : Option D} {d : D} (h : o = some d) : (quietO o).run H = some ⟨d, [], []⟩ := by subst h; rfl
theorem Cl.fptr_cases {H : Heap} {n : Nat} {cs : List D} {d : D} (h : Cl H n (.fptr cs) d) : (∃ ds, d = .fptr ds ∧ All2 Nr cs ds) ∨ (∃ id i j sz es0 e, d = .ptr id (i * sz + j) ∧ hat H id = .row sz es0 false ∧ es0[i]? = some e ∧ All2 (Cl H n) cs (e.drop j) ∧ j < sz ∧ e.length ≤ sz) := by
  cases n with
  | zero => exact h.elim
  | succ n =>
    rcases h with ⟨h, k⟩ | ⟨sz, es, id, off, len, es0, h1, h2, h3⟩ | ⟨cs', id, i, j, sz, es0, e, h1, rfl, h3, h4, h5, h6, h7⟩ | ⟨cs, ds, h1, h2, h3⟩
    · exact .inl k.fptr
    · cases h1
    · injection h1 with h1
      subst h1
      exact .inr ⟨id, i, j, sz, es0, e, rfl, h3, h4, h5.mono fun _ _ _ h => h.up1, h6, h7⟩
    · cases h1
theorem nr_cl {H : Heap} {n : Nat} {v d : D} (h : Nr v d) (hl : lp v = true ∨ sc v = true) : Cl H (n + 1) v d := by
  refine .inl ⟨?_, h⟩
  rcases hl with hl | hl
  · cases v <;> simp [lp] at hl
    · simp only [Nr] at h; subst h; rfl
    · rcases h.lst with ⟨_, rfl⟩ | ⟨_, rfl, _⟩ <;> rfl
    · obtain ⟨_, rfl, _⟩ := h.fptr; rfl
  · rw [h.sc hl]; cases v <;> simp [Pi.sc] at hl <;> rfl
theorem run_ofShaped {H : Heap} {ag : Bool} {vs : List V} {ds : List D} {v : V} (h : shapedV ag vs = some v) (k : VRs H vs ds) : ∃ d, (quietO (shaped ag ds)).run H = some ⟨d, [], []⟩ ∧ VR H v d := by
  obtain ⟨d, h1, h2⟩ := shapedV_ok h k
  exact ⟨d, run_quietJ h1, h2⟩
theorem pureV_ok (h : EnvR N E R fr b av s) {op : POp} {v : V} (hv : pureV E op = some v) (r : Nat) : ∃ d, (opE noCall (PX.ev s.ts) r op).run s.hp = some ⟨d, [], []⟩ ∧ VR s.hp v d := by
  cases op <;> simp only [pureV] at hv <;> try cases hv
  case mv x => exact ⟨_, rfl, h.ev hv⟩
  case pick c x y =>
    split at hv
    · rename_i e
      have := h.ev e
      simp only [VR] at this
      exact ⟨_, by simp only [opE, this]; rfl, h.ev hv⟩
    · rename_i e
      have := h.ev e
      simp only [VR] at this
      exact ⟨_, by simp only [opE, this]; rfl, h.ev hv⟩
    · cases hv
  case build zero parts =>
    split at hv
    · rename_i ps hp
      split at hv
      · rename_i vs hf
        injection hv with hv
        subst hv
        obtain ⟨k1, ds, k2, k3⟩ := evParts_ok h hp (VRs.xs zero) hf
        refine ⟨.agg ds, ?_, by simp only [VR]; exact ⟨_, rfl, k3⟩⟩
        simp only [opE]
        rw [if_pos k1, k2]
        rfl
      · cases hv
    · cases hv
  case load ag n x =>
    split at hv
    · rename_i k cs e
      split at hv
      · rename_i l1 l2 l3
        rw [leB_iff] at l1 l2
        have hc := h.ev e
        simp only [VR] at hc
        rcases hc.fptr_cases with ⟨ds, hd, ha⟩ | ⟨id, i, j, sz, es0, e0, hd, h3, h4, h5, h6, h7⟩
        · have hk : ∃ k', k = k' + 1 := by
            cases k with
            | zero => exact hc.elim
            | succ k => exact ⟨k, rfl⟩
          obtain ⟨k', rfl⟩ := hk
          have hcs : All2 (Cl s.hp (k' + 1)) (cs.take n) (ds.take n) := (ha.take n).mono fun a d ha' hn => nr_cl hn (by
            have := List.all_eq_true.1 l3 a ha'
            simpa [okc] using this)
          obtain ⟨d, q1, q2⟩ := run_ofShaped hv (cellsV_ok hcs)
          refine ⟨d, ?_, q2⟩
          have := ha.len
          simp only [opE, hd]
          rw [if_pos (by omega)]
          exact q1
        · obtain ⟨d, q1, q2⟩ := run_ofShaped hv (cellsV_ok (h5.take n))
          have hl := h5.len
          simp at hl
          refine ⟨d, ?_, q2⟩
          have p1 : (i * sz + j) / sz = i := by rw [Nat.mul_comm, Nat.mul_add_div (by omega), Nat.div_eq_of_lt h6]; omega
          have p2 : (i * sz + j) % sz = j := by rw [Nat.mul_comm, Nat.mul_add_mod, Nat.mod_eq_of_lt h6]
          simp only [opE, hd, Eff.run, h3, p1, p2, h4]
          rw [if_pos (by omega)]
          exact q1
      · cases hv
    · cases hv
  case nilCheck x =>
    split at hv
    · rename_i k cs e
      injection hv with hv
      subst hv
      have hc := h.ev e
      have hc' := hc
      simp only [VR] at hc
      rcases hc.fptr_cases with ⟨ds, hd, ha⟩ | ⟨id, i, j, sz, es0, e0, hd, h3, h4, h5, h6, h7⟩
      · exact ⟨_, by simp only [opE, hd]; rfl, by rw [← hd]; exact hc'⟩
      · exact ⟨_, by simp only [opE, hd]; rfl, by rw [← hd]; exact hc'⟩
    · rename_i e
      injection hv with hv
      subst hv
      have hc := h.ev e
      have hc' := hc
      simp only [VR] at hc
      exact ⟨_, by simp only [opE, hc]; rfl, by rw [← hc]; exact hc'⟩
    · cases hv
  case bin op x y =>
    split at hv
    · rename_i a c ha hc
      split at hv
      · rename_i d hd
        injection hv with hv
        subst hv
        exact ⟨d, by simp only [opE, h.ex ha, h.ex hc]; exact run_quietJ hd, by simp only [VR]⟩
      · cases hv
    · cases hv
  case eqB neg x y =>
    split at hv
    · rename_i a c ha hc
      injection hv with hv
      subst hv
      exact ⟨_, by simp only [opE, h.ex ha, h.ex hc]; rfl, by simp only [VR]⟩
    · cases hv
  case eqNS neg x =>
    split at hv
    · rename_i e
      injection hv with hv
      subst hv
      have := h.ev e
      simp only [VR] at this
      exact ⟨.bool (!neg), by simp only [opE, this]; cases neg <;> rfl, by simp only [VR]⟩
    · rename_i id off len e
      injection hv with hv
      subst hv
      have := h.ev e
      simp only [VR] at this
      rcases this with ⟨id', h1, h2⟩ | ⟨h1, _⟩
      · exact ⟨.bool neg, by simp only [opE, h2]; cases neg <;> rfl, by simp only [VR]⟩
      · cases h1
    · cases hv
  case eqNP neg x =>
    split at hv
    · rename_i e
      injection hv with hv
      subst hv
      have hc := h.ev e
      simp only [VR] at hc
      rcases hc.fptr_cases with ⟨ds, hd, ha⟩ | ⟨id, i, j, sz, es0, e0, hd, h3, h4, h5, h6, h7⟩
      · exact ⟨.bool neg, by simp only [opE, hd]; cases neg <;> rfl, by simp only [VR]⟩
      · exact ⟨.bool neg, by simp only [opE, hd]; cases neg <;> rfl, by simp only [VR]⟩
    · rename_i e
      injection hv with hv
      subst hv
      have hc := h.ev e
      simp only [VR] at hc
      exact ⟨.bool neg, by simp only [opE, hc]; cases neg <;> rfl, by simp only [VR]⟩
    · rename_i e
      injection hv with hv
      subst hv
      have hc := h.ev e
      simp only [VR] at hc
      exact ⟨.bool (!neg), by simp only [opE, hc]; cases neg <;> rfl, by simp only [VR]⟩
    · cases hv
  case un op x =>
    split at hv
    · rename_i a ha
      split at hv
      · rename_i d hd
        injection hv with hv
        subst hv
        exact ⟨d, by simp only [opE, h.ex ha]; exact run_quietJ hd, by simp only [VR]⟩
      · cases hv
    · cases hv
  case conv c x =>
    cases c <;> simp only at hv
    case toInt k =>
      split at hv
      · rename_i ha
        injection hv with hv
        subst hv
        exact ⟨_, by simp only [opE, h.ex ha]; rfl, by simp only [VR]⟩
      · cases hv
    case toFlt =>
      split at hv
      · rename_i ha
        injection hv with hv
        subst hv
        exact ⟨_, by simp only [opE, h.ex ha]; rfl, by simp only [VR]⟩
      · cases hv
    case same => exact ⟨_, rfl, h.ev hv⟩
    all_goals cases hv
  case fieldAddr off n x =>
    split at hv
    · rename_i k cs e
      split at hv
      · rename_i l1
        rw [leB_iff] at l1
        injection hv with hv
        subst hv
        have hc := h.ev e
        simp only [VR] at hc
        rcases hc.fptr_cases with ⟨ds, hd, ha⟩ | ⟨id, i, j, sz, es0, e0, hd, h3, h4, h5, h6, h7⟩
        · refine ⟨.fptr (ds.drop off), by simp only [opE, hd]; rfl, ?_⟩
          simp only [VR]
          cases k with
          | zero => exact hc.elim
          | succ k => exact Cl.plain rfl (Nr.mk_fptr (ha.drop off))
        · have hl := h5.len
          simp at hl
          refine ⟨.ptr id (i * sz + j + off), by simp only [opE, hd]; rfl, ?_⟩
          simp only [VR]
          cases k with
          | zero => exact hc.elim
          | succ k =>
            rcases hc with ⟨hp, _⟩ | ⟨sz, es, id, off, len, es0, h1, h2, h3⟩ | ⟨cs', id', i', j', sz', es0', e', h1, g2, g3, g4, g5, g6, g7⟩ | ⟨cs, ds, h1, h2, h3⟩
            · rw [hd] at hp; cases hp
            · cases h1
            · injection h1 with h1
              subst h1
              rw [hd] at g2
              injection g2 with g2 g2'
              subst g2
              rw [h3] at g3
              injection g3 with e1 e2 _
              subst e1; subst e2
              have ei : i = i' := by
                have p1 : (i * sz + j) / sz = i := by rw [Nat.mul_comm, Nat.mul_add_div (by omega), Nat.div_eq_of_lt h6]; omega
                have p2 : (i' * sz + j') / sz = i' := by rw [Nat.mul_comm, Nat.mul_add_div (by omega), Nat.div_eq_of_lt g6]; omega
                rw [← p1, ← p2, g2']
              subst ei
              have ej : j = j' := by omega
              subst ej
              have hl' := g5.len
              simp at hl'
              refine .inr (.inr (.inl ⟨_, id, i, j + off, sz, es0, e', rfl, by rw [Nat.add_assoc], h3, g4, ?_, by omega, g7⟩))
              rw [← List.drop_drop]
              exact g5.drop off
            · cases h1
      · cases hv
    · rename_i e
      injection hv with hv
      subst hv
      have hc := h.ev e
      simp only [VR] at hc
      exact ⟨_, by simp only [opE, hc]; rfl, by simp only [VR, Nat.add_assoc]⟩
    · cases hv
  case field ag off n x =>
    split at hv
    · rename_i vs e
      split at hv
      · rename_i l1
        rw [leB_iff] at l1
        have hc := h.ev e
        simp only [VR] at hc
        obtain ⟨ds, hd, hc⟩ := hc
        obtain ⟨d, q1, q2⟩ := run_ofShaped hv ((hc.drop off).take n)
        have hl := hc.len
        refine ⟨d, ?_, q2⟩
        simp only [opE, hd]
        rw [if_pos (by omega)]
        exact q1
      · cases hv
    · cases hv
  case extract x i =>
    split at hv
    · rename_i vs e
      have hc := h.ev e
      simp only [VR] at hc
      obtain ⟨ds, hd, hc⟩ := hc
      obtain ⟨d, q1, q2⟩ := hc.get hv
      exact ⟨d, by simp only [opE, hd, q1]; rfl, q2⟩
    · cases hv
  case len x =>
    split at hv
    · rename_i k sz es e
      injection hv with hv
      subst hv
      have hc := h.ev e
      simp only [VR] at hc
      refine ⟨.int .i64 (es.length : Int), ?_, by simp only [VR]⟩
      cases k with
      | zero => exact hc.elim
      | succ k =>
        rcases hc with ⟨_, hc⟩ | ⟨sz', es', id, off, len, es0, h1, h2, h3, h4, h5, h6⟩ | ⟨cs, id, i, j, sz, es0, e, h1, h2, h3⟩ | ⟨cs, ds, h1, h2, h3⟩
        · rcases hc.lst with ⟨rfl, hd⟩ | ⟨es', hd, ha⟩
          · simp only [opE, hd]; rfl
          · simp only [opE, hd, ha.len]; rfl
        · injection h1 with h1 h1'
          subst h1; subst h1'
          have := h5.len
          simp at this
          have e2 : es.length = len := by omega
          simp only [opE, h2, e2]; rfl
        · cases h1
        · cases h1
    · rename_i o off len e
      injection hv with hv
      subst hv
      have hc := h.ev e
      simp only [VR] at hc
      refine ⟨.int .i64 (len : Int), ?_, by simp only [VR]⟩
      rcases hc with ⟨id, _, hd⟩ | ⟨_, _, rfl, hd⟩
      · simp only [opE, hd]; rfl
      · simp only [opE, hd]; rfl
    · rename_i e
      injection hv with hv
      subst hv
      have hc := h.ev e
      simp only [VR] at hc
      exact ⟨_, by simp only [opE, hc]; rfl, by simp only [VR]⟩
    · cases hv
  case lenS x =>
    split at hv
    · rename_i t ha
      injection hv with hv
      subst hv
      exact ⟨_, by simp only [opE, h.ex ha]; rfl, by simp only [VR]⟩
    · cases hv
  case minmax mx x ys =>
    split at hv
    · rename_i k a k' c ha hc
      split at hv
      · rename_i hk
        simp at hk
        subst hk
        injection hv with hv
        subst hv
        cases ys with
        | nil => simp at hc
        | cons y ys => cases ys with
          | cons => simp at hc
          | nil =>
            simp at hc
            refine ⟨.int k (if mx then (if c > a then c else a) else (if c < a then c else a)), ?_, by simp only [VR]⟩
            simp only [opE, h.ex ha, List.map_cons, List.map_nil, h.ex hc, minmaxI, if_true]
            rfl
      · cases hv
    · cases hv
  case bits x =>
    split at hv
    · rename_i ha
      injection hv with hv
      subst hv
      exact ⟨_, by simp only [opE, h.ex ha]; rfl, by simp only [VR]⟩
    · cases hv
  case ofBits x =>
    split at hv
    · rename_i ha
      injection hv with hv
      subst hv
      exact ⟨_, by simp only [opE, h.ex ha]; rfl, by simp only [VR]⟩
    · cases hv

def runV (N : Nat) : Env → List PO → Option Env
  | E, [] => some E
  | E, o :: os => match gst E o.guard, dstOk N o.dst with
    | some true, true => match pureV E o.op with
      | some v => runV N (putE E o.dst v) os
      | none => none
    | some false, true => runV N (putE E o.dst (.x .skip)) os
    | _, _ => none
theorem JS.run1 {Q : α → St → Prop} : ∀ {k ops : List PO} {E E' : Env}, runV N E k = some E' → JS pr fr b av N E' R ops m Q → JS pr fr b av N E R (k ++ ops) m Q
  | [], ops, E, E', h, hn => by simp only [runV, Option.some.injEq] at h; subst h; exact hn
  | o :: k, ops, E, E', h, hn => by
    simp only [runV] at h
    split at h
    · rename_i g1 g2
      split at h
      · rename_i v hv
        refine JS.step (o := o) (ops := k ++ ops) g1 (fun s hs => ?_) (JS.run1 h hn)
        obtain ⟨d, h1, h2⟩ := pureV_ok hs hv (b + o.res)
        exact ⟨_, h1, hs.put g2 h2⟩
      · cases h
    · rename_i g1 g2
      exact JS.skip1 (o := o) (ops := k ++ ops) g1 g2 (JS.run1 h hn)
    · cases h
/-- So many operations that touch no row. -/
theorem JS.run {ops : List PO} {Q : α → St → Prop} (k : Nat) (h : (runV N E (ops.take k)).isSome = true) (next : JS pr fr b av N ((runV N E (ops.take k)).getD []) R (ops.drop k) m Q) : JS pr fr b av N E R ops m Q := by
  obtain ⟨E', hE⟩ := Option.isSome_iff_exists.1 h
  rw [hE] at next
  have := JS.run1 (k := ops.take k) hE next
  rwa [List.take_append_drop] at this
/-- A choice that is met within. -/
theorem JS.split {ops : List PO} {Q : α → St → Prop} {e : Bool} {m1 m0 : Option α} (t : Nat) (he : E.get t = some (.x (.bool e)))
    (h1 : e = true → JS pr fr b av N ((t, .x (.bool true)) :: E) R ops m1 Q) (h0 : e = false → JS pr fr b av N ((t, .x (.bool false)) :: E) R ops m0 Q) : JS pr fr b av N E R ops (cond e m1 m0) Q := by
  intro o ho s hs
  have key : ∀ (c : Bool), e = c → EnvR N ((t, .x (.bool c)) :: E) R fr b av s := fun c hc => by
    subst hc
    refine ⟨hs.len, fun j w hw => ?_, hs.ro, hs.frm, hs.avl⟩
    simp only [Env.get] at hw
    split at hw
    · rename_i e'
      rw [← Nat.eq_of_beq_eq_true e']
      injection hw with hw
      subst hw
      exact hs.sl t _ he
    · exact hs.sl j w hw
  cases e with
  | true => exact h1 rfl o ho s (key true rfl)
  | false => exact h0 rfl o ho s (key false rfl)
end
end Go.Pi
