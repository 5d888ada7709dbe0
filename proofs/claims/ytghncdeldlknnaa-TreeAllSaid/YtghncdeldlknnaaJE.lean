import Derived.Test.YtghncdeldlknnaaJD
/-
  OPERATIONS ON ROWS: what they turn in what is known.
-/
set_option linter.all false
namespace Go.Pi
set_option linter.unusedVariables false

section
variable {pr : Prog} {fr : Nat → Option Blk} {α β : Type} {N b : Nat} {av : List Nat} {E : Env} {R : List Rt} {m : Option α} {s : St}

theorem hat_setJ {H : Heap} {id j : Nat} {k : Blk} (h : id < H.length) : hat (H.set id k) j = if j = id then k else hat H j := by
  unfold hat
  rw [List.getD_eq_getElem?_getD, List.getD_eq_getElem?_getD]
  by_cases e : j = id
  · subst e; rw [List.getElem?_set_self h, if_pos rfl]; rfl
  · rw [List.getElem?_set_ne (fun h => e h.symm), if_neg e]
theorem HLe.set {H : Heap} {id : Nat} {k : Blk} (hn : ∀ sz es, hat H id ≠ .row sz es false) : HLe H (H.set id k) := by
  intro j sz es h
  rcases Nat.lt_or_ge id H.length with hl | hl
  · rw [hat_setJ hl]
    split
    · rename_i e; subst e; exact absurd h (hn _ _)
    · exact h
  · rw [List.set_eq_of_length_le hl]; exact h
theorem sub_mem {S T : List Nat} (h : S.Sublist T) {x : Nat} (hx : x ∈ S) : x ∈ T := h.subset hx

/-- A new row. -/
theorem EnvR.new (h : EnvR N E R fr b av s) {r : Nat} (hr : r ∈ av) {sz : Nat} {es : List (List V)} {es' : List (List D)} (hv : VOe s.hp es es' []) :
    EnvR N E (R ++ [⟨some (b + r), sz, es⟩]) fr b (av.erase r) ⟨s.ts, s.hp.set (b + r) (.row sz es' true)⟩ := by
  obtain ⟨f1, f2, f3⟩ := h.avl.2 r hr
  have hle : HLe s.hp (s.hp.set (b + r) (.row sz es' true)) := HLe.set fun sz es e => by rw [f1] at e; cases e
  obtain ⟨S, h1, h2, h3⟩ := h.ro
  have hS : ∀ id ∈ S, id ≠ b + r := fun id hi e => by
    obtain ⟨_, _, k⟩ := h1.alive id hi
    rw [e, f1] at k; cases k
  have hst : ∀ id, id ≠ b + r → hat (s.hp.set (b + r) (.row sz es' true)) id = hat s.hp id := fun id hi => by rw [hat_setJ f2, if_neg hi]
  refine ⟨h.len, fun i v hv => (h.sl i v hv).heap hle, ⟨S ++ [b + r], (h1.heap hle fun id hi => hst id (hS id hi)).snoc (.inr ⟨b + r, es', [], rfl, ?_, hv.heap hle (fun id hi => by cases hi), rfl⟩), ?_, ?_⟩, fun id k hk => ?_, h.avl.1.erase r, fun q hq => ?_⟩
  · rw [hat_setJ f2, if_pos rfl]
  · rw [List.nodup_append]
    exact ⟨h2, by simp, fun a ha c hc => by simp at hc; subst hc; exact hS a ha⟩
  · intro id hi
    simp at hi
    rcases hi with hi | rfl
    · exact h3 id hi
    · exact f3
  · obtain ⟨k1, k2⟩ := h.frm id k hk
    have : id ≠ b + r := fun e => by rw [e, f3] at hk; cases hk
    exact ⟨by rw [hst id this]; exact k1, by simpa using k2⟩
  · have hq' : q ∈ av := List.mem_of_mem_erase hq
    have hne : q ≠ r := fun e => by
      subst e
      exact absurd hq (by rw [List.Nodup.mem_erase_iff h.avl.1]; simp)
    obtain ⟨g1, g2, g3⟩ := h.avl.2 q hq'
    exact ⟨by rw [hst _ (by omega)]; exact g1, by simpa using g2, g3⟩

/-- A row that is written. -/
theorem EnvR.upd (h : EnvR N E R fr b av s) {i id sz : Nat} {es es2 : List (List V)} (hR : R[i]? = some ⟨some id, sz, es⟩) :
    ∃ es' S', hat s.hp id = .row sz es' true ∧ VOe s.hp es es' S' ∧ ∀ es2' S2, VOe s.hp es2 es2' S2 → S2.Sublist S' →
      EnvR N E (R.set i ⟨some id, sz, es2⟩) fr b av ⟨s.ts, s.hp.set id (.row sz es2' true)⟩ := by
  obtain ⟨S, h1, h2, h3⟩ := h.ro
  obtain ⟨S1, S2, S3, k1, rfl, k2⟩ := h1.at hR
  rcases k1 with ⟨e, _⟩ | ⟨id', es', S', e, hh, hv, rfl⟩
  · cases e
  injection e with e
  subst e
  refine ⟨es', S', hh, hv, fun es2' T hv2 hsub => ?_⟩
  have hl : id < s.hp.length := hat_ltJ (by rw [hh]; intro e; cases e)
  have hle : HLe s.hp (s.hp.set id (.row sz es2' true)) := HLe.set fun sz es e => by rw [hh] at e; cases e
  have hst : ∀ j, j ≠ id → hat (s.hp.set id (.row sz es2' true)) j = hat s.hp j := fun j hi => by rw [hat_setJ hl, if_neg hi]
  have hnd := h2
  rw [List.nodup_append, List.nodup_append] at hnd
  obtain ⟨⟨n1, n2, n3⟩, n4, n5⟩ := hnd
  simp only [List.nodup_cons] at n2
  have hne : ∀ j ∈ S1 ++ S3, j ≠ id := by
    intro j hj e
    subst e
    simp at hj
    rcases hj with hj | hj
    · exact n3 j hj j (by simp) rfl
    · exact n5 j (by simp) j hj rfl
  have hT : ∀ j ∈ T, j ≠ id := fun j hj e => n2.1 (by rw [← e]; exact sub_mem hsub hj)
  obtain ⟨g, _⟩ := k2 _ hle fun j hj => hst j (hne j hj)
  refine ⟨h.len, fun i v hv => (h.sl i v hv).heap hle, ⟨_, g ⟨some id, sz, es2⟩ (id :: T) (.inr ⟨id, es2', T, rfl, by rw [hat_setJ hl, if_pos rfl], hv2.heap hle fun j hj => hst j (hT j hj), rfl⟩), ?_, ?_⟩, fun j k hk => ?_, h.avl.1, fun q hq => ?_⟩
  · refine h2.sublist ?_
    exact ((List.Sublist.refl S1).append (hsub.cons_cons id)).append (List.Sublist.refl S3)
  · intro j hj
    apply h3
    simp at hj ⊢
    rcases hj with hj | hj | hj | hj
    · exact .inl hj
    · exact .inr (.inl hj)
    · exact .inr (.inr (.inl (sub_mem hsub hj)))
    · exact .inr (.inr (.inr hj))
  · obtain ⟨q1, q2⟩ := h.frm j k hk
    have : j ≠ id := fun e => by
      have := h3 id (by simp)
      rw [e, this] at hk; cases hk
    exact ⟨by rw [hst j this]; exact q1, by simpa using q2⟩
  · obtain ⟨g1, g2, g3⟩ := h.avl.2 q hq
    have : b + q ≠ id := fun e => by rw [e, hh] at g1; cases g1
    exact ⟨by rw [hst _ this]; exact g1, by simpa using g2, g3⟩

/-- A row that is moved to a new place, and turned. -/
theorem EnvR.move (h : EnvR N E R fr b av s) {i id sz : Nat} {es es2 : List (List V)} (hR : R[i]? = some ⟨some id, sz, es⟩) {r : Nat} (hr : r ∈ av) :
    ∃ es' S', hat s.hp id = .row sz es' true ∧ VOe s.hp es es' S' ∧ ∀ es2' S2, VOe s.hp es2 es2' S2 → S2.Sublist S' →
      EnvR N E (R.set i ⟨some (b + r), sz, es2⟩) fr b (av.erase r) ⟨s.ts, (s.hp.set id .dead).set (b + r) (.row sz es2' true)⟩ := by
  obtain ⟨f1, f2, f3⟩ := h.avl.2 r hr
  obtain ⟨S, h1, h2, h3⟩ := h.ro
  obtain ⟨S1, S2, S3, k1, rfl, k2⟩ := h1.at hR
  rcases k1 with ⟨e, _⟩ | ⟨id', es', S', e, hh, hv, rfl⟩
  · cases e
  injection e with e
  subst e
  refine ⟨es', S', hh, hv, fun es2' T hv2 hsub => ?_⟩
  have hl : id < s.hp.length := hat_ltJ (by rw [hh]; intro e; cases e)
  have hir : b + r ≠ id := fun e => by rw [e, hh] at f1; cases f1
  have hle : HLe s.hp ((s.hp.set id .dead).set (b + r) (.row sz es2' true)) :=
    (HLe.set fun sz es e => by rw [hh] at e; cases e).trans (HLe.set fun sz es e => by rw [hat_setJ hl, if_neg hir, f1] at e; cases e)
  have hst : ∀ j, j ≠ id → j ≠ b + r → hat ((s.hp.set id .dead).set (b + r) (.row sz es2' true)) j = hat s.hp j := fun j hi hj => by
    rw [hat_setJ (by simpa using f2), if_neg hj, hat_setJ hl, if_neg hi]
  have hnd := h2
  rw [List.nodup_append, List.nodup_append] at hnd
  obtain ⟨⟨n1, n2, n3⟩, n4, n5⟩ := hnd
  simp only [List.nodup_cons] at n2
  have hal : ∀ j ∈ S1 ++ (id :: S') ++ S3, j ≠ b + r := fun j hj e => by
    obtain ⟨_, _, k⟩ := h1.alive j hj
    rw [e, f1] at k; cases k
  have hne : ∀ j ∈ S1 ++ S3, j ≠ id := by
    intro j hj e
    subst e
    simp at hj
    rcases hj with hj | hj
    · exact n3 j hj j (by simp) rfl
    · exact n5 j (by simp) j hj rfl
  have hT : ∀ j ∈ T, j ≠ id := fun j hj e => n2.1 (by rw [← e]; exact sub_mem hsub hj)
  have hT2 : ∀ j ∈ T, j ≠ b + r := fun j hj => hal j (by simp [sub_mem hsub hj])
  have hne2 : ∀ j ∈ S1 ++ S3, j ≠ b + r := fun j hj => hal j (by simp at hj ⊢; rcases hj with hj | hj <;> simp [hj])
  obtain ⟨g, _⟩ := k2 _ hle fun j hj => hst j (hne j hj) (hne2 j hj)
  refine ⟨h.len, fun i v hv => (h.sl i v hv).heap hle, ⟨_, g ⟨some (b + r), sz, es2⟩ ((b + r) :: T) (.inr ⟨b + r, es2', T, rfl, by rw [hat_setJ (by simpa using f2), if_pos rfl], hv2.heap hle fun j hj => hst j (hT j hj) (hT2 j hj), rfl⟩), ?_, ?_⟩, fun j k hk => ?_, h.avl.1.erase r, fun q hq => ?_⟩
  · have hsub2 : (S1 ++ (T) ++ S3).Sublist (S1 ++ (id :: S') ++ S3) := ((List.Sublist.refl S1).append (hsub.cons id)).append (List.Sublist.refl S3)
    have d2 := h2.sublist hsub2
    rw [List.nodup_append, List.nodup_append] at d2 ⊢
    obtain ⟨⟨m1, m2, m3⟩, m4, m5⟩ := d2
    refine ⟨⟨m1, ?_, ?_⟩, m4, ?_⟩
    · simp only [List.nodup_cons]
      exact ⟨fun hm => hT2 _ hm rfl, m2⟩
    · intro a ha c hc
      simp at hc
      rcases hc with rfl | hc
      · exact hne2 a (by simp [ha])
      · exact m3 a ha c hc
    · intro a ha c hc
      simp at ha
      rcases ha with ha | rfl | ha
      · exact m5 a (by simp [ha]) c hc
      · exact fun e => hne2 c (by simp [hc]) e.symm
      · exact m5 a (by simp [ha]) c hc
  · intro j hj
    simp at hj
    rcases hj with hj | rfl | hj | hj
    · exact h3 j (by simp [hj])
    · exact f3
    · exact h3 j (by simp [sub_mem hsub hj])
    · exact h3 j (by simp [hj])
  · obtain ⟨q1, q2⟩ := h.frm j k hk
    have a1 : j ≠ id := fun e => by
      have := h3 id (by simp)
      rw [e, this] at hk; cases hk
    have a2 : j ≠ b + r := fun e => by rw [e, f3] at hk; cases hk
    exact ⟨by rw [hst j a1 a2]; exact q1, by simpa using q2⟩
  · have hq' : q ∈ av := List.mem_of_mem_erase hq
    have hqr : q ≠ r := fun e => by
      subst e
      exact absurd hq (by rw [List.Nodup.mem_erase_iff h.avl.1]; simp)
    obtain ⟨g1, g2, g3⟩ := h.avl.2 q hq'
    have : b + q ≠ id := fun e => by rw [e, hh] at g1; cases g1
    exact ⟨by rw [hst _ this (by omega)]; exact g1, by simpa using g2, g3⟩
/-- A row that was none, made. -/
theorem EnvR.make (h : EnvR N E R fr b av s) {i sz : Nat} {es es2 : List (List V)} (hR : R[i]? = some ⟨none, sz, es⟩) {r : Nat} (hr : r ∈ av) {es2' : List (List D)} (hv : VOe s.hp es2 es2' []) :
    es = [] ∧ EnvR N E (R.set i ⟨some (b + r), sz, es2⟩) fr b (av.erase r) ⟨s.ts, s.hp.set (b + r) (.row sz es2' true)⟩ := by
  obtain ⟨f1, f2, f3⟩ := h.avl.2 r hr
  obtain ⟨S, h1, h2, h3⟩ := h.ro
  obtain ⟨S1, S2, S3, k1, rfl, k2⟩ := h1.at hR
  rcases k1 with ⟨_, k1, rfl⟩ | ⟨id', es', S', e, hh, hv', rfl⟩
  · refine ⟨k1, ?_⟩
    have hle : HLe s.hp (s.hp.set (b + r) (.row sz es2' true)) := HLe.set fun sz es e => by rw [f1] at e; cases e
    have hst : ∀ j, j ≠ b + r → hat (s.hp.set (b + r) (.row sz es2' true)) j = hat s.hp j := fun j hj => by rw [hat_setJ f2, if_neg hj]
    have hne2 : ∀ j ∈ S1 ++ S3, j ≠ b + r := fun j hj e => by
      obtain ⟨_, _, k⟩ := h1.alive j (by simp at hj ⊢; exact hj)
      rw [e, f1] at k; cases k
    obtain ⟨g, _⟩ := k2 _ hle fun j hj => hst j (hne2 j hj)
    refine ⟨h.len, fun i v hv => (h.sl i v hv).heap hle, ⟨_, g ⟨some (b + r), sz, es2⟩ [b + r] (.inr ⟨b + r, es2', [], rfl, by rw [hat_setJ f2, if_pos rfl], hv.heap hle (fun j hj => by cases hj), rfl⟩), ?_, ?_⟩, fun j k hk => ?_, h.avl.1.erase r, fun q hq => ?_⟩
    · simp only [List.append_nil] at h2
      rw [List.nodup_append] at h2
      rw [List.nodup_append, List.nodup_append]
      refine ⟨⟨h2.1, by simp, fun a ha c hc => by simp at hc; subst hc; exact hne2 a (by simp [ha])⟩, h2.2.1, fun a ha c hc => ?_⟩
      simp at ha
      rcases ha with ha | rfl
      · exact h2.2.2 a ha c hc
      · exact fun e => hne2 c (by simp [hc]) e.symm
    · intro j hj
      simp at hj
      rcases hj with hj | rfl | hj
      · exact h3 j (by simp [hj])
      · exact f3
      · exact h3 j (by simp [hj])
    · obtain ⟨q1, q2⟩ := h.frm j k hk
      have a2 : j ≠ b + r := fun e => by rw [e, f3] at hk; cases hk
      exact ⟨by rw [hst j a2]; exact q1, by simpa using q2⟩
    · have hq' : q ∈ av := List.mem_of_mem_erase hq
      have hqr : q ≠ r := fun e => by
        subst e
        exact absurd hq (by rw [List.Nodup.mem_erase_iff h.avl.1]; simp)
      obtain ⟨g1, g2, g3⟩ := h.avl.2 q hq'
      exact ⟨by rw [hst _ (by omega)]; exact g1, by simpa using g2, g3⟩
  · cases e
/-- A list that is none counts as a row. -/
theorem JS.virt {ops : List PO} {Q : α → St → Prop} (t sz : Nat) (he : E.get t = some (.x .nil)) (h : JS pr fr b av N ((t, .ref none 0 0) :: E) (R ++ [⟨none, sz, []⟩]) ops m Q) : JS pr fr b av N E R ops m Q := by
  intro o ho s hs
  refine h o ho s ⟨hs.len, fun j w hw => ?_, ?_, hs.frm, hs.avl⟩
  · simp only [Env.get] at hw
    split at hw
    · rename_i e'
      rw [← Nat.eq_of_beq_eq_true e']
      injection hw with hw
      subst hw
      have := hs.sl t _ he
      simp only [VR] at this
      exact (by simp only [VR]; exact .inr ⟨trivial, trivial, trivial, this⟩ : VR s.hp (.ref Option.none 0 0) _)
    · exact hs.sl j w hw
  · obtain ⟨S, h1, h2, h3⟩ := hs.ro
    exact ⟨S, by simpa using h1.snoc (T := []) (.inl ⟨rfl, rfl, rfl⟩), h2, h3⟩
theorem JC.virt {c : PC} {Q : α → Ex → St → Prop} (t sz : Nat) (he : E.get t = some (.x .nil)) (h : JC pr fr N ((t, .ref none 0 0) :: E) (R ++ [⟨none, sz, []⟩]) c m Q) : JC pr fr N E R c m Q := by
  intro o ho s hs
  refine h o ho s ⟨hs.len, fun j w hw => ?_, ?_, hs.frm, hs.avl⟩
  · simp only [Env.get] at hw
    split at hw
    · rename_i e'
      rw [← Nat.eq_of_beq_eq_true e']
      injection hw with hw
      subst hw
      have := hs.sl t _ he
      simp only [VR] at this
      exact (by simp only [VR]; exact .inr ⟨trivial, trivial, trivial, this⟩ : VR s.hp (.ref Option.none 0 0) _)
    · exact hs.sl j w hw
  · obtain ⟨S, h1, h2, h3⟩ := hs.ro
    exact ⟨S, by simpa using h1.snoc (T := []) (.inl ⟨rfl, rfl, rfl⟩), h2, h3⟩
end
end Go.Pi
