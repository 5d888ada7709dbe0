import Derived.Test.YtnpljffnopmaiaaJA
/-
  OPERATIONS ON ROWS: what they turn in what is known.
-/
set_option linter.all false
namespace Go.Pi
set_option linter.unusedVariables false

section
variable {pr : Prog} {fr : Nat → Option Blk} {α β : Type} {N b : Nat} {av : List Nat} {E : Env} {R : List Rt} {m : Option α} {s : St}

theorem hat_setJ {H : Heap} {id j : Nat} {k : Blk} (h : id < H.length) : hat (H.set id k) j = if j = id then k else hat H j := by
  unfold hat
  rw [List.getD_eq_getElem?_getD, List.getD_eq_getElem?_getD]
  by_cases e : j = id
  · subst e; rw [List.getElem?_set_self h, if_pos rfl]; rfl
  · rw [List.getElem?_set_ne (fun h => e h.symm), if_neg e]
theorem HLe.set {H : Heap} {id : Nat} {k : Blk} (hn : ∀ sz es, hat H id ≠ .row sz es false) : HLe H (H.set id k) := by
  intro j sz es h
  rcases Nat.lt_or_ge id H.length with hl | hl
  · rw [hat_setJ hl]
    split
    · rename_i e; subst e; exact absurd h (hn _ _)
    · exact h
  · rw [List.set_eq_of_length_le hl]; exact h
theorem sub_mem {S T : List Nat} (h : S.Sublist T) {x : Nat} (hx : x ∈ S) : x ∈ T := h.subset hx

/-- A new row. -/
theorem EnvR.new (h : EnvR N E R fr b av s) {r : Nat} (hr : r ∈ av) {sz : Nat} {es : List (List V)} {es' : List (List D)} (hv : VOe s.hp es es' []) :
    EnvR N E (R ++ [⟨some (b + r), sz, es⟩]) fr b (av.erase r) ⟨s.ts, s.hp.set (b + r) (.row sz es' true)⟩ := by
  obtain ⟨f1, f2, f3⟩ := h.avl.2 r hr
  have hle : HLe s.hp (s.hp.set (b + r) (.row sz es' true)) := HLe.set fun sz es e => by rw [f1] at e; cases e
  obtain ⟨S, h1, h2, h3⟩ := h.ro
  have hS : ∀ id ∈ S, id ≠ b + r := fun id hi e => by
    obtain ⟨_, _, k⟩ := h1.alive id hi
    rw [e, f1] at k; cases k
  have hst : ∀ id, id ≠ b + r → hat (s.hp.set (b + r) (.row sz es' true)) id = hat s.hp id := fun id hi => by rw [hat_setJ f2, if_neg hi]
  refine ⟨h.len, fun i v hv => (h.sl i v hv).heap hle, ⟨S ++ [b + r], (h1.heap hle fun id hi => hst id (hS id hi)).snoc (.inr ⟨b + r, es', [], rfl, ?_, hv.heap hle (fun id hi => by cases hi), rfl⟩), ?_, ?_⟩, fun id k hk => ?_, h.avl.1.erase r, fun q hq => ?_⟩
  · rw [hat_setJ f2, if_pos rfl]
  · rw [List.nodup_append]
    exact ⟨h2, by simp, fun a ha c hc => by simp at hc; subst hc; exact hS a ha⟩
  · intro id hi
    simp at hi
    rcases hi with hi | rfl
    · exact h3 id hi
    · exact f3
  · obtain ⟨k1, k2⟩ := h.frm id k hk
    have : id ≠ b + r := fun e => by rw [e, f3] at hk; cases hk
    exact ⟨by rw [hst id this]; exact k1, by simpa using k2⟩
  · have hq' : q ∈ av := List.mem_of_mem_erase hq
    have hne : q ≠ r := fun e => by
      subst e
      exact absurd hq (by rw [List.Nodup.mem_erase_iff h.avl.1]; simp)
    obtain ⟨g1, g2, g3⟩ := h.avl.2 q hq'
    exact ⟨by rw [hst _ (by omega)]; exact g1, by simpa using g2, g3⟩

/-- A row that is written. -/
theorem EnvR.upd (h : EnvR N E R fr b av s) {i id sz : Nat} {es es2 : List (List V)} (hR : R[i]? = some ⟨some id, sz, es⟩) :
    ∃ es' S', hat s.hp id = .row sz es' true ∧ VOe s.hp es es' S' ∧ ∀ es2' S2, VOe s.hp es2 es2' S2 → S2.Sublist S' →
      EnvR N E (R.set i ⟨some id, sz, es2⟩) fr b av ⟨s.ts, s.hp.set id (.row sz es2' true)⟩ := by
  obtain ⟨S, h1, h2, h3⟩ := h.ro
  obtain ⟨S1, S2, S3, k1, rfl, k2⟩ := h1.at hR
  rcases k1 with ⟨e, _⟩ | ⟨id', es', S', e, hh, hv, rfl⟩
  · cases e
  injection e with e
  subst e
  refine ⟨es', S', hh, hv, fun es2' T hv2 hsub => ?_⟩
  have hl : id < s.hp.length := hat_ltJ (by rw [hh]; intro e; cases e)
  have hle : HLe s.hp (s.hp.set id (.row sz es2' true)) := HLe.set fun sz es e => by rw [hh] at e; cases e
  have hst : ∀ j, j ≠ id → hat (s.hp.set id (.row sz es2' true)) j = hat s.hp j := fun j hi => by rw [hat_setJ hl, if_neg hi]
  have hnd := h2
  rw [List.nodup_append, List.nodup_append] at hnd
  obtain ⟨⟨n1, n2, n3⟩, n4, n5⟩ := hnd
  simp only [List.nodup_cons] at n2
  have hne : ∀ j ∈ S1 ++ S3, j ≠ id := by
    intro j hj e
    subst e
    simp at hj
    rcases hj with hj | hj
    · exact n3 j hj j (by simp) rfl
    · exact n5 j (by simp) j hj rfl
  have hT : ∀ j ∈ T, j ≠ id := fun j hj e => n2.1 (by rw [← e]; exact sub_mem hsub hj)
  obtain ⟨g, _⟩ := k2 _ hle fun j hj => hst j (hne j hj)
  refine ⟨h.len, fun i v hv => (h.sl i v hv).heap hle, ⟨_, g ⟨some id, sz, es2⟩ (id :: T) (.inr ⟨id, es2', T, rfl, by rw [hat_setJ hl, if_pos rfl], hv2.heap hle fun j hj => hst j (hT j hj), rfl⟩), ?_, ?_⟩, fun j k hk => ?_, h.avl.1, fun q hq => ?_⟩
  · refine h2.sublist ?_
    exact ((List.Sublist.refl S1).append (hsub.cons_cons id)).append (List.Sublist.refl S3)
  · intro j hj
    apply h3
    simp at hj ⊢
    rcases hj with hj | hj | hj | hj
    · exact .inl hj
    · exact .inr (.inl hj)
    · exact .inr (.inr (.inl (sub_mem hsub hj)))
    · exact .inr (.inr (.inr hj))
  · obtain ⟨q1, q2⟩ := h.frm j k hk
    have : j ≠ id := fun e => by
      have := h3 id (by simp)
      rw [e, this] at hk; cases hk
    exact ⟨by rw [hst j this]; exact q1, by simpa using q2⟩
  · obtain ⟨g1, g2, g3⟩ := h.avl.2 q hq
    have : b + q ≠ id := fun e => by rw [e, hh] at g1; cases g1
    exact ⟨by rw [hst _ this]; exact g1, by simpa using g2, g3⟩

/-- A row that is moved to a new place, and turned. -/
theorem EnvR.move (h : EnvR N E R fr b av s) {i id sz : Nat} {es es2 : List (List V)} (hR : R[i]? = some ⟨some id, sz, es⟩) {r : Nat} (hr : r ∈ av) :
    ∃ es' S', hat s.hp id = .row sz es' true ∧ VOe s.hp es es' S' ∧ ∀ es2' S2, VOe s.hp es2 es2' S2 → S2.Sublist S' →
      EnvR N E (R.set i ⟨some (b + r), sz, es2⟩) fr b (av.erase r) ⟨s.ts, (s.hp.set id .dead).set (b + r) (.row sz es2' true)⟩ := by
  obtain ⟨f1, f2, f3⟩ := h.avl.2 r hr
  obtain ⟨S, h1, h2, h3⟩ := h.ro
  obtain ⟨S1, S2, S3, k1, rfl, k2⟩ := h1.at hR
  rcases k1 with ⟨e, _⟩ | ⟨id', es', S', e, hh, hv, rfl⟩
  · cases e
  injection e with e
  subst e
  refine ⟨es', S', hh, hv, fun es2' T hv2 hsub => ?_⟩
  have hl : id < s.hp.length := hat_ltJ (by rw [hh]; intro e; cases e)
  have hir : b + r ≠ id := fun e => by rw [e, hh] at f1; cases f1
  have hle : HLe s.hp ((s.hp.set id .dead).set (b + r) (.row sz es2' true)) :=
    (HLe.set fun sz es e => by rw [hh] at e; cases e).trans (HLe.set fun sz es e => by rw [hat_setJ hl, if_neg hir, f1] at e; cases e)
  have hst : ∀ j, j ≠ id → j ≠ b + r → hat ((s.hp.set id .dead).set (b + r) (.row sz es2' true)) j = hat s.hp j := fun j hi hj => by
    rw [hat_setJ (by simpa using f2), if_neg hj, hat_setJ hl, if_neg hi]
  have hnd := h2
  rw [List.nodup_append, List.nodup_append] at hnd
  obtain ⟨⟨n1, n2, n3⟩, n4, n5⟩ := hnd
  simp only [List.nodup_cons] at n2
  have hal : ∀ j ∈ S1 ++ (id :: S') ++ S3, j ≠ b + r := fun j hj e => by
    obtain ⟨_, _, k⟩ := h1.alive j hj
    rw [e, f1] at k; cases k
  have hne : ∀ j ∈ S1 ++ S3, j ≠ id := by
    intro j hj e
    subst e
    simp at hj
    rcases hj with hj | hj
    · exact n3 j hj j (by simp) rfl
    · exact n5 j (by simp) j hj rfl
  have hT : ∀ j ∈ T, j ≠ id := fun j hj e => n2.1 (by rw [← e]; exact sub_mem hsub hj)
  have hT2 : ∀ j ∈ T, j ≠ b + r := fun j hj => hal j (by simp [sub_mem hsub hj])
  have hne2 : ∀ j ∈ S1 ++ S3, j ≠ b + r := fun j hj => hal j (by simp at hj ⊢; rcases hj with hj | hj <;> simp [hj])
  obtain ⟨g, _⟩ := k2 _ hle fun j hj => hst j (hne j hj) (hne2 j hj)
  refine ⟨h.len, fun i v hv => (h.sl i v hv).heap hle, ⟨_, g ⟨some (b + r), sz, es2⟩ ((b + r) :: T) (.inr ⟨b + r, es2', T, rfl, by rw [hat_setJ (by simpa using f2), if_pos rfl], hv2.heap hle fun j hj => hst j (hT j hj) (hT2 j hj), rfl⟩), ?_, ?_⟩, fun j k hk => ?_, h.avl.1.erase r, fun q hq => ?_⟩
  · have hsub2 : (S1 ++ (T) ++ S3).Sublist (S1 ++ (id :: S') ++ S3) := ((List.Sublist.refl S1).append (hsub.cons id)).append (List.Sublist.refl S3)
    have d2 := h2.sublist hsub2
    rw [List.nodup_append, List.nodup_append] at d2 ⊢
    obtain ⟨⟨m1, m2, m3⟩, m4, m5⟩ := d2
    refine ⟨⟨m1, ?_, ?_⟩, m4, ?_⟩
    · simp only [List.nodup_cons]
      exact ⟨fun hm => hT2 _ hm rfl, m2⟩
    · intro a ha c hc
      simp at hc
      rcases hc with rfl | hc
      · exact hne2 a (by simp [ha])
      · exact m3 a ha c hc
    · intro a ha c hc
      simp at ha
      rcases ha with ha | rfl | ha
      · exact m5 a (by simp [ha]) c hc
      · exact fun e => hne2 c (by simp [hc]) e.symm
      · exact m5 a (by simp [ha]) c hc
  · intro j hj
    simp at hj
    rcases hj with hj | rfl | hj | hj
    · exact h3 j (by simp [hj])
    · exact f3
    · exact h3 j (by simp [sub_mem hsub hj])
    · exact h3 j (by simp [hj])
  · obtain ⟨q1, q2⟩ := h.frm j k hk
    have a1 : j ≠ id := fun e => by
      have := h3 id (by simp)
      rw [e, this] at hk; cases hk
    have a2 : j ≠ b + r := fun e => by rw [e, f3] at hk; cases hk
    exact ⟨by rw [hst j a1 a2]; exact q1, by simpa using q2⟩
  · have hq' : q ∈ av := List.mem_of_mem_erase hq
    have hqr : q ≠ r := fun e => by
      subst e
      exact absurd hq (by rw [List.Nodup.mem_erase_iff h.avl.1]; simp)
    obtain ⟨g1, g2, g3⟩ := h.avl.2 q hq'
    have : b + q ≠ id := fun e => by rw [e, hh] at g1; cases g1
    exact ⟨by rw [hst _ this (by omega)]; exact g1, by simpa using g2, g3⟩
/-- A row that was none, made. -/
theorem EnvR.make (h : EnvR N E R fr b av s) {i sz : Nat} {es es2 : List (List V)} (hR : R[i]? = some ⟨none, sz, es⟩) {r : Nat} (hr : r ∈ av) {es2' : List (List D)} (hv : VOe s.hp es2 es2' []) :
    es = [] ∧ EnvR N E (R.set i ⟨some (b + r), sz, es2⟩) fr b (av.erase r) ⟨s.ts, s.hp.set (b + r) (.row sz es2' true)⟩ := by
  obtain ⟨f1, f2, f3⟩ := h.avl.2 r hr
  obtain ⟨S, h1, h2, h3⟩ := h.ro
  obtain ⟨S1, S2, S3, k1, rfl, k2⟩ := h1.at hR
  rcases k1 with ⟨_, k1, rfl⟩ | ⟨id', es', S', e, hh, hv', rfl⟩
  · refine ⟨k1, ?_⟩
    have hle : HLe s.hp (s.hp.set (b + r) (.row sz es2' true)) := HLe.set fun sz es e => by rw [f1] at e; cases e
    have hst : ∀ j, j ≠ b + r → hat (s.hp.set (b + r) (.row sz es2' true)) j = hat s.hp j := fun j hj => by rw [hat_setJ f2, if_neg hj]
    have hne2 : ∀ j ∈ S1 ++ S3, j ≠ b + r := fun j hj e => by
      obtain ⟨_, _, k⟩ := h1.alive j (by simp at hj ⊢; exact hj)
      rw [e, f1] at k; cases k
    obtain ⟨g, _⟩ := k2 _ hle fun j hj => hst j (hne2 j hj)
    refine ⟨h.len, fun i v hv => (h.sl i v hv).heap hle, ⟨_, g ⟨some (b + r), sz, es2⟩ [b + r] (.inr ⟨b + r, es2', [], rfl, by rw [hat_setJ f2, if_pos rfl], hv.heap hle (fun j hj => by cases hj), rfl⟩), ?_, ?_⟩, fun j k hk => ?_, h.avl.1.erase r, fun q hq => ?_⟩
    · simp only [List.append_nil] at h2
      rw [List.nodup_append] at h2
      rw [List.nodup_append, List.nodup_append]
      refine ⟨⟨h2.1, by simp, fun a ha c hc => by simp at hc; subst hc; exact hne2 a (by simp [ha])⟩, h2.2.1, fun a ha c hc => ?_⟩
      simp at ha
      rcases ha with ha | rfl
      · exact h2.2.2 a ha c hc
      · exact fun e => hne2 c (by simp [hc]) e.symm
    · intro j hj
      simp at hj
      rcases hj with hj | rfl | hj
      · exact h3 j (by simp [hj])
      · exact f3
      · exact h3 j (by simp [hj])
    · obtain ⟨q1, q2⟩ := h.frm j k hk
      have a2 : j ≠ b + r := fun e => by rw [e, f3] at hk; cases hk
      exact ⟨by rw [hst j a2]; exact q1, by simpa using q2⟩
    · have hq' : q ∈ av := List.mem_of_mem_erase hq
      have hqr : q ≠ r := fun e => by
        subst e
        exact absurd hq (by rw [List.Nodup.mem_erase_iff h.avl.1]; simp)
      obtain ⟨g1, g2, g3⟩ := h.avl.2 q hq'
      exact ⟨by rw [hst _ (by omega)]; exact g1, by simpa using g2, g3⟩
  · cases e
/-- A list that is none counts as a row. -/
theorem JS.virt {ops : List PO} {Q : α → St → Prop} (t sz : Nat) (he : E.get t = some (.x .nil)) (h : JS pr fr b av N ((t, .ref none 0 0) :: E) (R ++ [⟨none, sz, []⟩]) ops m Q) : JS pr fr b av N E R ops m Q := by
  intro o ho s hs
  refine h o ho s ⟨hs.len, fun j w hw => ?_, ?_, hs.frm, hs.avl⟩
  · simp only [Env.get] at hw
    split at hw
    · rename_i e'
      rw [← Nat.eq_of_beq_eq_true e']
      injection hw with hw
      subst hw
      have := hs.sl t _ he
      simp only [VR] at this
      exact (by simp only [VR]; exact .inr ⟨trivial, trivial, trivial, this⟩ : VR s.hp (.ref Option.none 0 0) _)
    · exact hs.sl j w hw
  · obtain ⟨S, h1, h2, h3⟩ := hs.ro
    exact ⟨S, by simpa using h1.snoc (T := []) (.inl ⟨rfl, rfl, rfl⟩), h2, h3⟩
theorem JC.virt {c : PC} {Q : α → Ex → St → Prop} (t sz : Nat) (he : E.get t = some (.x .nil)) (h : JC pr fr N ((t, .ref none 0 0) :: E) (R ++ [⟨none, sz, []⟩]) c m Q) : JC pr fr N E R c m Q := by
  intro o ho s hs
  refine h o ho s ⟨hs.len, fun j w hw => ?_, ?_, hs.frm, hs.avl⟩
  · simp only [Env.get] at hw
    split at hw
    · rename_i e'
      rw [← Nat.eq_of_beq_eq_true e']
      injection hw with hw
      subst hw
      have := hs.sl t _ he
      simp only [VR] at this
      exact (by simp only [VR]; exact .inr ⟨trivial, trivial, trivial, this⟩ : VR s.hp (.ref Option.none 0 0) _)
    · exact hs.sl j w hw
  · obtain ⟨S, h1, h2, h3⟩ := hs.ro
    exact ⟨S, by simpa using h1.snoc (T := []) (.inl ⟨rfl, rfl, rfl⟩), h2, h3⟩
end
end Go.Pi
/-
  OPERATIONS ON LISTS: as terms over lists.
-/
namespace Go.Pi
set_option linter.unusedVariables false

def at? {α : Type} (l : List α) (z : Int) : Option α := if 0 ≤ z then l[z.toNat]? else none
def room {α : Type} (n bytes : Nat) (m : Option α) : Option α := if n ≤ roomy ∧ n * bytes ≤ roomy then m else none
def hi? (len : Nat) (z : Int) : Option Nat := if 0 ≤ z ∧ z ≤ len then some z.toNat else none
def cut? (len : Nat) (y z : Int) : Option (Nat × Nat) := if 0 ≤ z ∧ z ≤ len then (if 0 ≤ y ∧ y ≤ z then some (y.toNat, z.toNat) else none) else none
def cv {α : Type} (c : α → List D) (a : α) : List V := (c a).map (cellV 1)
def vl {α : Type} (c : α → List D) (l : List α) : List (List V) := l.map (cv c)
def iD (k : IntKind) (n : Int) : List D := [.int k n]
def bD (t : Bool) : List D := [.bool t]
def sD (s : List UInt8) : List D := [.str s]
def fD (f : Fl) : List D := [.flt f]
def lD {α : Type} (sz : Nat) (c : α → List D) (l : List α) : List D := [.lst sz (l.map c)]

theorem at?_some {α : Type} {l : List α} {z : Int} {a : α} (h : at? l z = some a) : 0 ≤ z ∧ l[z.toNat]? = some a ∧ z.toNat < l.length ∧ z < l.length := by
  unfold at? at h
  split at h
  · rename_i h0
    have := (List.getElem?_eq_some_iff.1 h).1
    exact ⟨h0, h, this, by omega⟩
  · cases h
theorem vl_get {α : Type} {c : α → List D} {l : List α} {i : Nat} {a : α} (h : l[i]? = some a) : (vl c l)[i]? = some (cv c a) := by simp [vl, h]
theorem vl_len {α : Type} (c : α → List D) (l : List α) : (vl c l).length = l.length := by simp [vl]
theorem cv_flat {α : Type} (c : α → List D) (a : α) : (cv c a).all flat = true := by
  simp only [cv, List.all_eq_true, List.mem_map]
  rintro v ⟨d, _, rfl⟩
  unfold cellV
  cases sc d <;> rfl
theorem vl_flat {α : Type} (c : α → List D) (l : List α) : flatE (vl c l) := by
  intro e he
  simp only [vl, List.mem_map] at he
  obtain ⟨a, _, rfl⟩ := he
  exact cv_flat c a
theorem vl_set {α : Type} {c : α → List D} {l : List α} {p : Nat} {a : α} {e : List V} (h : e = cv c a) : (vl c l).set p e = vl c (l.set p a) := by subst h; simp [vl, List.map_set]
theorem vl_append {α : Type} (c : α → List D) (l k : List α) : vl c l ++ vl c k = vl c (l ++ k) := by simp [vl]
theorem vl_take {α : Type} (c : α → List D) (l : List α) (n : Nat) : (vl c l).take n = vl c (l.take n) := by simp [vl]
theorem vl_drop {α : Type} (c : α → List D) (l : List α) (n : Nat) : (vl c l).drop n = vl c (l.drop n) := by simp [vl]

section
variable {pr : Prog} {fr : Nat → Option Blk} {α β γ : Type} {N b : Nat} {av : List Nat} {E : Env} {R : List Rt} {m : Option α} {s : St}
variable {dst : Option Nat} {g : Option (Nat × Bool)} {aft : List Nat} {res : Nat} {ops : List PO} {Q : α → St → Prop} {x y ix : PX}

/-- A closed list, as it may stand. -/
theorem Cl.lst_cases {H : Heap} {n sz : Nat} {es : List (List D)} {d : D} (h : Cl H n (.lst sz es) d) :
    (es = [] ∧ d = .nil) ∨ (∃ es', d = .lst sz es' ∧ All2 (All2 Nr) es es') ∨
    (∃ k id off len es0, n = k + 1 ∧ d = .ref id off len ∧ hat H id = .row sz es0 false ∧ off + len ≤ es0.length ∧ len = es.length ∧ All2 (All2 (Cl H k)) es ((es0.drop off).take len) ∧ 0 < sz ∧ ∀ e ∈ es0, e.length ≤ sz) := by
  cases n with
  | zero => exact h.elim
  | succ n =>
    rcases h with ⟨_, k⟩ | ⟨sz', es', id, off, len, es0, h1, h2, h3, h4, h5, h6, h7⟩ | ⟨cs, id, i, j, sz, es0, e, h1, h2, h3⟩ | ⟨cs, ds, h1, h2, h3⟩
    · rcases k.lst with k | k
      · exact .inl k
      · exact .inr (.inl k)
    · injection h1 with h1 h1'
      subst h1; subst h1'
      have := h5.len
      simp at this
      exact .inr (.inr ⟨n, id, off, len, es0, rfl, h2, h3, h4, by omega, h5, h6, h7⟩)
    · cases h1
    · cases h1
theorem get_all2 {R : D → D → Prop} {c : β → List D} {l : List β} {es' : List (List D)} (h : All2 (All2 R) (l.map c) es') {i : Nat} {a : β} (ha : l[i]? = some a) : ∃ e', es'[i]? = some e' ∧ All2 R (c a) e' :=
  h.get (by simp [ha])

theorem JS.idxC {c : β → List D} {l : List β} {n sz : Nat} {kk : IntKind} {z : Int} {mm : β → Option α} (hx : evV E x = some (.c n (.lst sz (l.map c)))) (hi : evV E ix = some (.x (.int kk z)))
    (hg : gst E g = some true) (hd : dstOk N dst = true) (h : ∀ a, at? l z = some a → JS pr fr b av N (putE E dst (.c n (.fptr (c a)))) R ops (mm a) Q) :
    JS pr fr b av N E R (⟨dst, .indexAddr sz x ix, g, aft, res⟩ :: ops) ((at? l z).bind mm) Q := by
  intro o ho s hs
  obtain ⟨a, ha, hm⟩ := Option.bind_eq_some_iff.1 ho
  refine JS.step (m := mm a) hg (fun s hs => ?_) (h a ha) o hm s hs
  obtain ⟨z0, hla, zl, zl'⟩ := at?_some ha
  have hi' := hs.ev hi
  simp only [VR] at hi'
  have hc := hs.ev hx
  simp only [VR] at hc
  rcases hc.lst_cases with ⟨he, _⟩ | ⟨es', hd', hq⟩ | ⟨k, id, off, len, es0, rfl, hd', h3, h4, rfl, h5, h6, h7⟩
  · simp at he; subst he; simp at hla
  · obtain ⟨e', q1, q2⟩ := get_all2 hq hla
    refine ⟨⟨.fptr e', [], []⟩, ?_, hs.put hd ?_⟩
    · simp only [opE, hi', hd']
      rw [if_pos ⟨z0, trivial⟩, q1]; rfl
    · simp only [VR]
      cases n with
      | zero => exact hc.elim
      | succ n => exact Cl.plain rfl (Nr.mk_fptr q2)
  · obtain ⟨e', q1, q2⟩ := get_all2 h5 hla
    have q1' : es0[off + z.toNat]? = some e' := by
      rw [List.getElem?_take] at q1
      split at q1
      · simpa using q1
      · cases q1
    refine ⟨⟨.ptr id ((off + z.toNat) * sz), [], []⟩, ?_, hs.put hd ?_⟩
    · simp only [opE, hi', hd', Eff.run, h3]
      rw [if_pos ⟨z0, by simpa using zl', trivial⟩]; rfl
    · simp only [VR]
      exact .inr (.inr (.inl ⟨_, id, off + z.toNat, 0, sz, es0, e', rfl, by simp, h3, q1', by simpa using q2, h6, h7 _ (List.mem_of_getElem? q1')⟩))

/-- What a row of the call's own is, in memory. -/
theorem EnvR.root (h : EnvR N E R fr b av s) {i : Nat} {o : Option Nat} {sz : Nat} {es : List (List V)} (hR : R[i]? = some ⟨o, sz, es⟩) :
    (o = none ∧ es = []) ∨ ∃ id es' S', o = some id ∧ hat s.hp id = .row sz es' true ∧ VOe s.hp es es' S' := by
  obtain ⟨S, h1, h2, h3⟩ := h.ro
  obtain ⟨S1, S2, S3, k1, rfl, k2⟩ := h1.at hR
  rcases k1 with ⟨e, e', _⟩ | ⟨id', es', S', e, hh, hv, rfl⟩
  · exact .inl ⟨e, e'⟩
  · exact .inr ⟨id', es', S', e, hh, hv⟩

/-- An element of a window of a row of the call's own. -/
theorem JS.idxW {c : β → List D} {l : List β} {o : Option Nat} {off len sz : Nat} {kk : IntKind} {z : Int} {mm : β → Option α} (i : Nat) (hR : R[i]? = some ⟨o, sz, vl c l⟩) (hx : evV E x = some (.ref o off len)) (hi : evV E ix = some (.x (.int kk z)))
    (hg : gst E g = some true) (hd : dstOk N dst = true) (h : ∀ id a, o = some id → l[off + z.toNat]? = some a → JS pr fr b av N (putE E dst (.ptr id sz (off + z.toNat) 0)) R ops (mm a) Q) :
    JS pr fr b av N E R (⟨dst, .indexAddr sz x ix, g, aft, res⟩ :: ops) ((at? ((l.drop off).take len) z).bind mm) Q := by
  intro ou ho s hs
  obtain ⟨a, ha, hm⟩ := Option.bind_eq_some_iff.1 ho
  obtain ⟨z0, hla, zl, zl'⟩ := at?_some ha
  have hla' : l[off + z.toNat]? = some a := by
    rw [List.getElem?_take] at hla
    split at hla
    · simpa using hla
    · cases hla
  have hlen : z.toNat < len := by
    rw [List.getElem?_take] at hla
    split at hla
    · assumption
    · cases hla
  have hx' := hs.ev hx
  simp only [VR] at hx'
  rcases hx' with ⟨id, rfl, _⟩ | ⟨_, _, rfl, _⟩
  · refine JS.step (m := mm a) hg (fun s hs => ?_) (h id a rfl hla') ou hm s hs
    have hi' := hs.ev hi
    simp only [VR] at hi'
    have hx' := hs.ev hx
    simp only [VR] at hx'
    rcases hx' with ⟨id', e, hx'⟩ | ⟨e, _⟩
    · injection e with e; subst e
      rcases hs.root hR with ⟨e, _⟩ | ⟨id', es', S', e, hh, hv⟩
      · cases e
      · injection e with e; subst e
        refine ⟨⟨.ptr id ((off + z.toNat) * sz), [], []⟩, ?_, hs.put hd (by simp only [VR, Nat.add_zero])⟩
        simp only [opE, hi', hx', Eff.run, hh]
        rw [if_pos ⟨z0, by omega, trivial⟩]; rfl
    · cases e
  · omega
theorem JS.idxT {c : β → List D} {l : List β} {o : Option Nat} {sz : Nat} {kk : IntKind} {z : Int} {mm : β → Option α} (i : Nat) (hR : R[i]? = some ⟨o, sz, vl c l⟩) (hx : evV E x = some (.ref o 0 l.length)) (hi : evV E ix = some (.x (.int kk z)))
    (hg : gst E g = some true) (hd : dstOk N dst = true) (h : ∀ id a, o = some id → l[z.toNat]? = some a → JS pr fr b av N (putE E dst (.ptr id sz z.toNat 0)) R ops (mm a) Q) :
    JS pr fr b av N E R (⟨dst, .indexAddr sz x ix, g, aft, res⟩ :: ops) ((at? l z).bind mm) Q := by
  have := JS.idxW (mm := mm) (ops := ops) (Q := Q) (aft := aft) (res := res) i hR hx hi hg hd (fun id a e ha => by
    rw [Nat.zero_add] at ha ⊢; exact h id a e ha)
  simpa using this

/-- The call's own cells, read. -/
def loadV (ag : Bool) (n sz j : Nat) (e : List V) : Option V := match leB (j + n) e.length, leB (j + 1) sz, ((e.drop j).take n).all flat with
  | true, true, true => shapedV ag ((e.drop j).take n)
  | _, _, _ => none
theorem VOs.part {H : Heap} : ∀ {v : List V} {d : List D} {S : List Nat} (j n : Nat), VOs H v d S → ((v.drop j).take n).all flat = true → VRs H ((v.drop j).take n) ((d.drop j).take n)
  | v, d, S, 0, 0, h, _ => by simp [VRs]
  | [], [], S, j, n, h, _ => by simp [VRs]
  | v :: vs, d :: ds, S, 0, n + 1, h, hf => by
    simp only [VOs] at h
    obtain ⟨S1, S2, h1, h2, rfl⟩ := h
    simp only [List.drop_zero, List.take_succ_cons, List.all_cons, Bool.and_eq_true] at hf ⊢
    simp only [VRs]
    exact ⟨(h1.to_VR hf.1).1, by simpa using VOs.part 0 n h2 (by simpa using hf.2)⟩
  | v :: vs, d :: ds, S, j + 1, n, h, hf => by
    simp only [VOs] at h
    obtain ⟨S1, S2, h1, h2, rfl⟩ := h
    simpa using VOs.part j n h2 (by simpa using hf)
  | [], _ :: _, _, _, _, h, _ => by simp [VOs] at h
  | _ :: _, [], _, _, _, h, _ => by simp [VOs] at h
theorem divmod {i sz j : Nat} (h : j < sz) : (i * sz + j) / sz = i ∧ (i * sz + j) % sz = j :=
  ⟨by rw [Nat.mul_comm, Nat.mul_add_div (by omega), Nat.div_eq_of_lt h]; omega, by rw [Nat.mul_comm, Nat.mul_add_mod, Nat.mod_eq_of_lt h]⟩
theorem JS.loadO {ag : Bool} {n id sz p j : Nat} {es : List (List V)} {e : List V} (i : Nat) (hR : R[i]? = some ⟨some id, sz, es⟩) (he : es[p]? = some e) (hx : evV E x = some (.ptr id sz p j))
    (hv : (loadV ag n sz j e).isSome = true) (hg : gst E g = some true) (hd : dstOk N dst = true) (h : JS pr fr b av N (putE E dst ((loadV ag n sz j e).getD (.x .undef))) R ops m Q) :
    JS pr fr b av N E R (⟨dst, .load ag n x, g, aft, res⟩ :: ops) m Q := by
  refine JS.step hg (fun s hs => ?_) h
  obtain ⟨v, hv'⟩ := Option.isSome_iff_exists.1 hv
  rw [hv']
  simp only [Option.getD_some]
  have hx' := hs.ev hx
  simp only [VR] at hx'
  rcases hs.root hR with ⟨e, _⟩ | ⟨id', es', S', e1, hh, hvo⟩
  · cases e
  injection e1 with e1; subst e1
  obtain ⟨d, T1, T2, T3, q1, q2, _, _⟩ := hvo.at he
  simp only [loadV] at hv'
  split at hv'
  · rename_i l1 l2 l3
    rw [leB_iff] at l1 l2
    obtain ⟨d', k1, k2⟩ := run_ofShaped hv' (q2.part j n l3)
    have := q2.len
    obtain ⟨d1, d2⟩ := divmod (i := p) l2
    refine ⟨⟨d', [], []⟩, ?_, hs.put hd k2⟩
    simp only [opE, hx', Eff.run, hh, d1, d2, q1]
    rw [if_pos (by omega)]
    exact k1
  · cases hv'

/-- The call's own cells, written. -/
def storeV (n sz j : Nat) (e : List V) (w : V) : Option (List V) := match (cellsW w).all oneV, (cellsW w).all flat, Nat.beq (cellsW w).length n, leB (j + n) e.length, leB (j + 1) sz with
  | true, true, true, true, true => some (e.take j ++ cellsW w ++ e.drop (j + n))
  | _, _, _, _, _ => none
theorem VOs.tk {H : Heap} : ∀ {es : List V} {ds : List D} {S : List Nat} (n : Nat), VOs H es ds S → ∃ S1 S2, S = S1 ++ S2 ∧ VOs H (es.take n) (ds.take n) S1 ∧ VOs H (es.drop n) (ds.drop n) S2
  | [], [], S, n, h => by simp only [VOs] at h; subst h; exact ⟨[], [], rfl, by simp [VOs], by simp [VOs]⟩
  | e :: es, d :: ds, S, 0, h => ⟨[], S, rfl, by simp [VOs], h⟩
  | e :: es, d :: ds, S, n + 1, h => by
    simp only [VOs] at h
    obtain ⟨S1, S2, h1, h2, rfl⟩ := h
    obtain ⟨T1, T2, rfl, k1, k2⟩ := h2.tk n
    exact ⟨S1 ++ T1, T2, by simp, by simp only [List.take_succ_cons, VOs]; exact ⟨S1, T1, h1, k1, rfl⟩, by simpa using k2⟩
  | [], _ :: _, _, _, h => by simp [VOs] at h
  | _ :: _, [], _, _, h => by simp [VOs] at h
theorem VOs.app {H : Heap} : ∀ {es fs : List V} {ds gs : List D} {S T : List Nat}, VOs H es ds S → VOs H fs gs T → VOs H (es ++ fs) (ds ++ gs) (S ++ T)
  | [], _, [], _, S, T, h, k => by simp only [VOs] at h; subst h; exact k
  | e :: es, _, d :: ds, _, S, T, h, k => by
    simp only [VOs, List.cons_append] at h ⊢
    obtain ⟨S1, S2, h1, h2, rfl⟩ := h
    exact ⟨S1, S2 ++ T, h1, h2.app k, by simp⟩
  | [], _, _ :: _, _, _, _, h, _ => by simp [VOs] at h
  | _ :: _, _, [], _, _, _, h, _ => by simp [VOs] at h
theorem JS.storeO {n id sz p j : Nat} {es es2 : List (List V)} {e : List V} {w : V} (i : Nat) (hR : R[i]? = some ⟨some id, sz, es⟩) (he : es[p]? = some e) (hx : evV E x = some (.ptr id sz p j)) (hy : evV E y = some w)
    (hv : (storeV n sz j e w).isSome = true) (hes : es.set p ((storeV n sz j e w).getD []) = es2) (hg : gst E g = some true) (h : JS pr fr b av N E (R.set i ⟨some id, sz, es2⟩) ops m Q) :
    JS pr fr b av N E R (⟨none, .store n x y, g, aft, res⟩ :: ops) m Q := by
  refine JS.step hg (fun s hs => ?_) h
  obtain ⟨v, hv'⟩ := Option.isSome_iff_exists.1 hv
  rw [hv'] at hes
  simp only [Option.getD_some] at hes
  have hx' := hs.ev hx
  simp only [VR] at hx'
  have hy' := hs.ev hy
  obtain ⟨es', S', hh, hvo, key⟩ := hs.upd (es2 := es2) hR
  obtain ⟨d, T1, T2, T3, q1, q2, rfl, q4⟩ := hvo.at he
  simp only [storeV] at hv'
  split at hv'
  · rename_i l1 l2 l3 l4 l5
    have l3' := Nat.eq_of_beq_eq_true l3
    rw [leB_iff] at l4 l5
    injection hv' with hv'
    obtain ⟨d1, d2⟩ := divmod (i := p) l5
    obtain ⟨g1, g2⟩ := cellsW_ok hy' l1
    have e1 := g1.len
    have e2 := q2.len
    obtain ⟨U1, U2, rfl, u1, u2⟩ := q2.tk j
    obtain ⟨W1, W2, rfl, w1, w2⟩ := u2.tk n
    rw [List.drop_drop, List.drop_drop] at w2
    have hnew : VOs s.hp v (splice d j (cellsOf (y.ev s.ts))) (U1 ++ [] ++ W2) := by
      rw [← hv']
      unfold splice
      rw [← e1, l3']
      exact (u1.app (VOs.of_VRs l2 g1)).app w2
    have := q4 s.hp (HLe.refl _) (fun _ _ => rfl) v _ _ hnew
    rw [hes] at this
    refine ⟨⟨.undef, [(id, .row sz (es'.set p (splice d j (cellsOf (y.ev s.ts)))) true)], []⟩, ?_, key _ _ this ?_⟩
    · simp only [opE, hx', Eff.run, hh, d1, d2, q1]
      rw [if_pos ⟨by omega, by omega, g2⟩]; rfl
    · refine ((List.Sublist.refl T1).append ?_).append (List.Sublist.refl T3)
      simp only [List.append_nil]
      exact (List.Sublist.refl U1).append (List.sublist_append_right W1 W2)
  · cases hv'
/-- A new row of literal elements. -/
def fillSV (sz : Nat) : List (List V) → List (Nat × V) → Option (List (List V))
  | z, [] => some z
  | z, (i, v) :: ps => match (cellsW v).all oneV, (cellsW v).all flat, Nat.beq (cellsW v).length sz, leB (i + 1) z.length with
    | true, true, true, true => fillSV sz (z.set i (cellsW v)) ps
    | _, _, _, _ => none
def evP2 (E : Env) : List (Nat × PX) → Option (List (Nat × V))
  | [] => some []
  | (i, x) :: ps => match evV E x, evP2 E ps with
    | some v, some l => some ((i, v) :: l)
    | _, _ => none
def buildV (E : Env) (sz n : Nat) (zero : List D) (parts : List (Nat × PX)) : Option (List (List V)) :=
  match evP2 E parts with
  | some l => fillSV sz (List.replicate n (zero.map V.x)) l
  | none => none
theorem xs_flat (z : List D) : (z.map V.x).all flat = true := by simp [flat]
theorem evP2_ok (h : EnvR N E R fr b av s) {sz : Nat} : ∀ {ps : List (Nat × PX)} {l : List (Nat × V)}, evP2 E ps = some l → ∀ {z : List (List V)} {zd : List (List D)} {vs : List (List V)}, flatE z → All2 (VRs s.hp) z zd → fillSV sz z l = some vs →
    (ps.all fun p => (cellsOf (p.2.ev s.ts)).all one) = true ∧ ∃ ds, fillS sz zd (ps.map fun p => (p.1, p.2.ev s.ts)) = some ds ∧ All2 (VRs s.hp) vs ds ∧ flatE vs ∧ ds.length = zd.length
  | [], l, hl, z, zd, vs, hfl, hz, hf => by
    simp only [evP2, Option.some.injEq] at hl
    subst hl
    simp only [fillSV, Option.some.injEq] at hf
    subst hf
    exact ⟨rfl, zd, rfl, hz, hfl, rfl⟩
  | (i, x) :: ps, l, hl, z, zd, vs, hfl, hz, hf => by
    simp only [evP2] at hl
    split at hl
    · rename_i v l' hv hl'
      injection hl with hl
      subst hl
      simp only [fillSV] at hf
      split at hf
      · rename_i k1 k4 k2 k3
        obtain ⟨g1, g2⟩ := cellsW_ok (h.ev hv) k1
        have k2' := Nat.eq_of_beq_eq_true k2
        rw [leB_iff] at k3
        have e1 := hz.len
        have e2 := g1.len
        obtain ⟨a1, ds, a2, a3, a4, a5⟩ := evP2_ok h hl' (z := z.set i (cellsW v)) (zd := zd.set i (cellsOf (x.ev s.ts))) (by
          intro e he
          rcases List.mem_or_eq_of_mem_set he with he | he
          · exact hfl e he
          · rw [he]; exact k4) (hz.set g1) hf
        refine ⟨by simp [g2]; simpa using a1, ds, ?_, a3, a4, by simpa using a5⟩
        simp only [List.map_cons, fillS]
        rw [if_pos ⟨by omega, by omega⟩]
        exact a2
      · cases hf
    · cases hl
theorem All2.replicate {R : α → β → Prop} {a : α} {c : β} (h : R a c) : ∀ n, All2 R (List.replicate n a) (List.replicate n c)
  | 0 => trivial
  | n + 1 => ⟨h, All2.replicate h n⟩
theorem fillS_len {sz : Nat} : ∀ {ps : List (Nat × D)} {z ds : List (List D)}, fillS sz z ps = some ds → ds.length = z.length
  | [], z, ds, h => by simp only [fillS, Option.some.injEq] at h; rw [h]
  | (i, d) :: ps, z, ds, h => by
    simp only [fillS] at h
    split at h
    · simpa using fillS_len h
    · cases h
theorem JS.buildSlice {c : β → List D} (l : List β) {sz n : Nat} {zero : List D} {parts : List (Nat × PX)} (hb : buildV E sz n zero parts = some (vl c l)) (hn : n = l.length) (hav : av.contains res = true)
    (hg : gst E g = some true) (hd : dstOk N dst = true) (h : ∀ id, JS pr fr b (av.erase res) N (putE E dst (.ref (some id) 0 l.length)) (R ++ [⟨some id, sz, vl c l⟩]) ops m Q) :
    JS pr fr b av N E R (⟨dst, .buildSlice sz n zero parts, g, aft, res⟩ :: ops) m Q := by
  refine JS.step hg (fun s hs => ?_) (h (b + res))
  simp only [buildV] at hb
  split at hb
  · rename_i l' hl'
    obtain ⟨a1, ds, a2, a3, a4, a5⟩ := evP2_ok hs hl' (zd := List.replicate n zero) (fun e he => by
      simp at he; rw [he.2]; exact xs_flat zero) (All2.replicate (VRs.xs zero) n) hb
    have hr : res ∈ av := by simpa using hav
    obtain ⟨f1, f2, f3⟩ := hs.avl.2 res hr
    have h1 := hs.new hr (sz := sz) (VOe.of_flat a4 a3)
    refine ⟨⟨.ref (b + res) 0 n, [(b + res, .row sz ds true)], []⟩, ?_, h1.put hd ?_⟩
    · simp only [opE, a1, if_true, a2, Eff.run, f1, f2]
    · simp only [VR]
      exact .inl ⟨_, rfl, by rw [hn]⟩
  · cases hb
theorem JS.box {n : Nat} {w : V} (hx : evV E x = some w) (hw : Nat.beq (cellsW w).length n = true ∧ (cellsW w).all oneV = true ∧ (cellsW w).all flat = true) (hav : av.contains res = true)
    (hg : gst E g = some true) (hd : dstOk N dst = true) (h : ∀ id, JS pr fr b (av.erase res) N (putE E dst (.ptr id n 0 0)) (R ++ [⟨some id, n, [cellsW w]⟩]) ops m Q) :
    JS pr fr b av N E R (⟨dst, .box n x, g, aft, res⟩ :: ops) m Q := by
  refine JS.step hg (fun s hs => ?_) (h (b + res))
  obtain ⟨w1, w2, w3⟩ := hw
  obtain ⟨g1, g2⟩ := cellsW_ok (hs.ev hx) w2
  have hr : res ∈ av := by simpa using hav
  obtain ⟨f1, f2, f3⟩ := hs.avl.2 res hr
  have w1' := Nat.eq_of_beq_eq_true w1
  have e1 := g1.len
  have h1 := hs.new hr (sz := n) (es := [cellsW w]) (es' := [cellsOf (x.ev s.ts)]) (VOe.of_flat (fun e he => by simp at he; rw [he]; exact w3) ⟨g1, trivial⟩)
  refine ⟨⟨.ptr (b + res) 0, [(b + res, .row n [cellsOf (x.ev s.ts)] true)], []⟩, ?_, h1.put hd (by simp only [VR, Nat.zero_mul])⟩
  simp only [opE]
  rw [if_pos ⟨by omega, g2⟩]
  simp only [Eff.run, f1, f2, if_true]
theorem JS.alloc {zero : List D} (hav : av.contains res = true)
    (hg : gst E g = some true) (hd : dstOk N dst = true) (h : ∀ id, JS pr fr b (av.erase res) N (putE E dst (.ptr id zero.length 0 0)) (R ++ [⟨some id, zero.length, [zero.map V.x]⟩]) ops m Q) :
    JS pr fr b av N E R (⟨dst, .alloc zero, g, aft, res⟩ :: ops) m Q := by
  refine JS.step hg (fun s hs => ?_) (h (b + res))
  have hr : res ∈ av := by simpa using hav
  obtain ⟨f1, f2, f3⟩ := hs.avl.2 res hr
  have h1 := hs.new hr (sz := zero.length) (es := [zero.map V.x]) (es' := [zero]) (VOe.of_flat (fun e he => by simp at he; rw [he]; exact xs_flat zero) ⟨VRs.xs zero, trivial⟩)
  refine ⟨⟨.ptr (b + res) 0, [(b + res, .row zero.length [zero] true)], []⟩, ?_, h1.put hd (by simp only [VR, Nat.zero_mul])⟩
  simp only [opE, Eff.run, f1, f2, if_true]

/-! ### appending -/
/-- What is appended. -/
def SrcOk (N : Nat) (E : Env) (R : List Rt) (fr : Nat → Option Blk) (b : Nat) (av : List Nat) (y : PX) (sz : Nat) (ms : List (List V)) : Prop :=
  flatE ms ∧ ∀ s, EnvR N E R fr b av s → ∃ src, (source sz (y.ev s.ts)).run s.hp = some src ∧ All2 (VRs s.hp) ms src
theorem cellsV_nr {H : Heap} : ∀ {cs ds : List D}, All2 Nr cs ds → cs.all okc = true → VRs H (cs.map (cellV 1)) ds
  | [], [], _, _ => by simp [VRs]
  | c :: cs, d :: ds, h, k => by
    simp only [List.all_cons, Bool.and_eq_true] at k
    simp only [List.map_cons, VRs]
    exact ⟨cellV_ok (nr_cl h.1 (by simpa [okc] using k.1)), cellsV_nr h.2 k.2⟩
  | [], _ :: _, h, _ => h.elim
  | _ :: _, [], h, _ => h.elim
theorem vl_rows {H : Heap} {c : β → List D} (hc : ∀ a, (c a).all okc = true) : ∀ {l : List β} {es : List (List D)}, All2 (All2 Nr) (l.map c) es → All2 (VRs H) (vl c l) es
  | [], [], _ => trivial
  | a :: l, e :: es, h => ⟨cellsV_nr h.1 (hc a), vl_rows hc h.2⟩
  | [], _ :: _, h => h.elim
  | _ :: _, [], h => h.elim
theorem vl_rows2 {H : Heap} {n : Nat} {c : β → List D} (hc : ∀ a, (c a).map (cellV n) = cv c a) : ∀ {l : List β} {es : List (List D)}, All2 (All2 (Cl H n)) (l.map c) es → All2 (VRs H) (vl c l) es
  | [], [], _ => trivial
  | a :: l, e :: es, h => ⟨by rw [← hc]; exact cellsV_ok h.1, vl_rows2 hc h.2⟩
  | [], _ :: _, h => h.elim
  | _ :: _, [], h => h.elim
theorem srcC {c : β → List D} {l : List β} {n sz : Nat} (hy : evV E y = some (.c n (.lst sz (l.map c)))) (hc : ∀ a, (c a).all okc = true) (hc2 : ∀ a k, (c a).map (cellV k) = cv c a) : SrcOk N E R fr b av y sz (vl c l) := by
  refine ⟨vl_flat c l, fun s hs => ?_⟩
  have h := hs.ev hy
  simp only [VR] at h
  rcases h.lst_cases with ⟨he, hd⟩ | ⟨es', hd', hq⟩ | ⟨k, id, off, len, es0, rfl, hd', h3, h4, rfl, h5, h6, h7⟩
  · simp at he; subst he
    exact ⟨[], by rw [hd]; rfl, trivial⟩
  · exact ⟨es', by rw [hd']; simp [source, Eff.run], vl_rows hc hq⟩
  · refine ⟨_, by rw [hd']; simp only [source, Eff.run, h3]; rw [if_pos ⟨trivial, h4⟩]; rfl, vl_rows2 (fun a => hc2 a k) h5⟩
theorem srcW {c : β → List D} {l : List β} {o : Option Nat} {off len sz : Nat} (i : Nat) (hR : R[i]? = some ⟨o, sz, vl c l⟩) (hy : evV E y = some (.ref o off len)) (hl : off + len ≤ l.length) : SrcOk N E R fr b av y sz (vl c ((l.drop off).take len)) := by
  refine ⟨vl_flat c _, fun s hs => ?_⟩
  have h := hs.ev hy
  simp only [VR] at h
  rcases h with ⟨id, rfl, hd⟩ | ⟨rfl, rfl, rfl, hd⟩
  · rcases hs.root hR with ⟨e, _⟩ | ⟨id', es', S', e, hh, hv⟩
    · cases e
    · injection e with e; subst e
      obtain ⟨ha, _⟩ := hv.flat (vl_flat c l)
      have := ha.len
      rw [vl_len] at this
      refine ⟨_, by rw [hd]; simp only [source, Eff.run, hh]; rw [if_pos ⟨trivial, by omega⟩]; rfl, ?_⟩
      rw [← vl_take, ← vl_drop]
      exact (ha.drop off).take len
  · exact ⟨[], by rw [hd]; rfl, by simp [vl, All2]⟩
theorem srcT {c : β → List D} {l : List β} {o : Option Nat} {sz : Nat} (i : Nat) (hR : R[i]? = some ⟨o, sz, vl c l⟩) (hy : evV E y = some (.ref o 0 l.length)) : SrcOk N E R fr b av y sz (vl c l) := by
  have := srcW (N := N) (fr := fr) (b := b) (av := av) i hR hy (by simp)
  simpa using this
theorem srcN {sz : Nat} (hy : evV E y = some (.x .nil)) : SrcOk N E R fr b av y sz [] := by
  refine ⟨fun e he => (by cases he), fun s hs => ?_⟩
  have h := hs.ev hy
  simp only [VR] at h
  exact ⟨[], by rw [h]; rfl, trivial⟩
theorem srcS {t : List UInt8} (hy : evV E y = some (.x (.str t))) : SrcOk N E R fr b av y 1 (vl (iD .u8) (t.map fun c => (c.toNat : Int))) := by
  refine ⟨vl_flat _ _, fun s hs => ?_⟩
  have h := hs.ev hy
  simp only [VR] at h
  refine ⟨ofBytes t, by rw [h]; rfl, ?_⟩
  clear h hy hs
  induction t with
  | nil => trivial
  | cons c t ih => exact ⟨by simp only [cv, iD, List.map_cons, List.map_nil, cellV, sc, VRs, VR]; exact ⟨trivial, trivial⟩, ih⟩

/-- Appended to a row of the call's own, whole or cut short. -/
theorem JS.appW {c : β → List D} {l k : List β} {o : Option Nat} {len sz bytes : Nat} (i : Nat) (hR : R[i]? = some ⟨o, sz, vl c l⟩) (hx : evV E x = some (.ref o 0 len)) (hlen : len ≤ l.length) (hsrc : SrcOk N E R fr b av y sz (vl c k)) (hk : k = [] → len = l.length) (hav : av.contains res = true)
    (hg : gst E g = some true) (hd : dstOk N dst = true) (h : ∀ o', JS pr fr b (av.erase res) N (putE E dst (.ref o' 0 (l.take len ++ k).length)) (R.set i ⟨o', sz, vl c (l.take len ++ k)⟩) ops m Q) :
    JS pr fr b av N E R (⟨dst, .append sz bytes x y, g, aft, res⟩ :: ops) (room (len + k.length) bytes m) Q := by
  intro ou ho s hs
  unfold room at ho
  split at ho
  case isFalse => cases ho
  rename_i hroom
  have hr : res ∈ av := by simpa using hav
  obtain ⟨src, q1, q2⟩ := hsrc.2 s hs
  have hsl := q2.len
  rw [vl_len] at hsl
  have hx' := hs.ev hx
  simp only [VR] at hx'
  obtain ⟨g1, g2⟩ := gst_true hs hg
  obtain ⟨f1, f2, f3⟩ := hs.avl.2 res hr
  have go : ∀ (o' : Option Nat) (z : Out), (opE noCall (PX.ev s.ts) (b + res) (.append sz bytes x y)).run s.hp = some z →
      EnvR N (putE E dst (.ref o' 0 (l.take len ++ k).length)) (R.set i ⟨o', sz, vl c (l.take len ++ k)⟩) fr b (av.erase res) ⟨putT s.ts dst z.d, z.on s.hp⟩ → Steps pr b (⟨dst, .append sz bytes x y, g, aft, res⟩ :: ops) s (Q ou) := by
    intro o' z h1 h2
    refine Steps.cons (n := 0) (s1 := ⟨putT s.ts dst z.d, z.on s.hp⟩) ?_ (h o' ou ho _ h2)
    exact (stepO_mono (noCall_le _) (stepO_of (b := b) (o := ⟨dst, .append sz bytes x y, g, aft, res⟩) (ts := s.ts) (H := s.hp) g1 g2 h1)).1
  by_cases hke : k = []
  · subst hke
    have hll := hk rfl
    subst hll
    have hse : src = [] := by simpa using hsl.symm
    subst hse
    rcases hx' with ⟨id, rfl, hx'⟩ | ⟨rfl, _, hlz, hx'⟩
    · refine go (some id) ⟨.ref id 0 l.length, [], []⟩ ?_ ?_
      · simp only [opE, run_bindE, q1, Option.bind_some, List.isEmpty_nil, if_true, hx']; rfl
      · have hset : R.set i ⟨some id, sz, vl c (l.take l.length ++ [])⟩ = R := by
          simp only [List.take_length, List.append_nil]
          exact List.ext_getElem? fun j => by
            rw [List.getElem?_set]
            split
            · rename_i e; subst e
              split
              · exact hR.symm
              · rename_i h; exact absurd (List.getElem?_eq_some_iff.1 hR).1 h
            · rfl
        rw [hset]
        have := hs.put (dst := dst) (v := .ref (some id) 0 l.length) (d := .ref id 0 l.length) hd (by simp only [VR]; exact .inl ⟨id, rfl, rfl⟩)
        simp only [List.take_length, List.append_nil]
        exact ⟨this.len, this.sl, this.ro, this.frm, this.avl.1.erase res, fun q hq => this.avl.2 q (List.mem_of_mem_erase hq)⟩
    · have hle : l = [] := List.length_eq_zero_iff.1 (by omega)
      subst hle
      refine go none ⟨.nil, [], []⟩ ?_ ?_
      · simp only [opE, run_bindE, q1, Option.bind_some, List.isEmpty_nil, if_true, hx']; rfl
      · have hset : R.set i ⟨none, sz, vl c (List.take 0 [] ++ [])⟩ = R := by
          exact List.ext_getElem? fun j => by
            rw [List.getElem?_set]
            split
            · rename_i e; subst e
              split
              · exact hR.symm
              · rename_i h; exact absurd (List.getElem?_eq_some_iff.1 hR).1 h
            · rfl
        have := hs.put (dst := dst) (v := .ref none 0 0) (d := .nil) hd (by simp only [VR]; exact .inr ⟨trivial, trivial, trivial, trivial⟩)
        simp only [List.length_nil] at hset ⊢
        rw [hset]
        exact ⟨this.len, this.sl, this.ro, this.frm, this.avl.1.erase res, fun q hq => this.avl.2 q (List.mem_of_mem_erase hq)⟩
  · have hsne : src.isEmpty = false := by
      cases src with
      | nil => simp at hsl; exact absurd hsl hke
      | cons => rfl
    rcases hx' with ⟨id, rfl, hx'⟩ | ⟨rfl, _, hlz, hx'⟩
    · obtain ⟨es', S', hh, hvo, key⟩ := hs.move (es2 := vl c (l.take len ++ k)) hR hr
      obtain ⟨ha, rfl⟩ := hvo.flat (vl_flat c l)
      have hl' := ha.len
      rw [vl_len] at hl'
      have hnew : VOe s.hp (vl c (l.take len ++ k)) (es'.take len ++ src) [] := by
        rw [← vl_append, ← vl_take]
        exact VOe.of_flat (fun e he => by
          simp at he
          rcases he with he | he
          · exact vl_flat c l e (List.mem_of_mem_take he)
          · exact vl_flat c k e he) ((ha.take len).append q2)
      refine go (some (b + res)) ⟨.ref (b + res) 0 (len + src.length), [(id, .dead), (b + res, .row sz (es'.take len ++ src) true)], []⟩ ?_ ?_
      · simp only [opE, run_bindE, q1, Option.bind_some, hsne, Bool.false_eq_true, if_false, hx', Eff.run, hh]
        rw [if_pos ⟨trivial, trivial, by omega, by rw [← hsl]; exact hroom.1, by rw [← hsl]; exact hroom.2⟩]
        simp only [Eff.run, f1, f2, if_true]
      · refine (key _ _ hnew (List.Sublist.refl _)).put hd ?_
        simp only [VR]
        refine .inl ⟨b + res, rfl, ?_⟩
        congr 1
        simp [← hsl, Nat.min_eq_left hlen]
    · subst hlz
      obtain ⟨he, key⟩ := hs.make (es2 := vl c (l.take 0 ++ k)) hR hr (es2' := src) (by
        simp only [List.take_zero, List.nil_append]
        exact VOe.of_flat (vl_flat c k) q2)
      refine go (some (b + res)) ⟨.ref (b + res) 0 src.length, [(b + res, .row sz src true)], []⟩ ?_ ?_
      · simp only [opE, run_bindE, q1, Option.bind_some, hsne, Bool.false_eq_true, if_false, hx']
        rw [if_pos ⟨by rw [← hsl]; simpa using hroom.1, by rw [← hsl]; simpa using hroom.2⟩]
        simp only [Eff.run, f1, f2, if_true]
      · refine key.put hd ?_
        simp only [VR]
        exact .inl ⟨b + res, rfl, by simp [hsl]⟩
theorem JS.appT {c : β → List D} {l k : List β} {o : Option Nat} {sz bytes : Nat} (i : Nat) (hR : R[i]? = some ⟨o, sz, vl c l⟩) (hx : evV E x = some (.ref o 0 l.length)) (hsrc : SrcOk N E R fr b av y sz (vl c k)) (hav : av.contains res = true)
    (hg : gst E g = some true) (hd : dstOk N dst = true) (h : ∀ o', JS pr fr b (av.erase res) N (putE E dst (.ref o' 0 (l ++ k).length)) (R.set i ⟨o', sz, vl c (l ++ k)⟩) ops m Q) :
    JS pr fr b av N E R (⟨dst, .append sz bytes x y, g, aft, res⟩ :: ops) (room (l.length + k.length) bytes m) Q := by
  refine JS.appW (l := l) (k := k) i hR hx (Nat.le_refl _) hsrc (fun _ => rfl) hav hg hd ?_
  simpa using h
end
end Go.Pi
/-
  WHAT A VALUE IS WHEN IT IS MADE CLOSED.
-/
namespace Go.Pi
set_option linter.unusedVariables false

section
variable {α β γ : Type}
theorem sc_frz {H : Heap} {d : D} (h : sc d = true) (n : Nat) : (frz (n + 1) d).run H = some (d, []) := by cases d <;> simp [sc] at h <;> rfl
theorem plain_frz {H : Heap} {d : D} (h : plain d = true) (n : Nat) : (frz (n + 1) d).run H = some (d, []) := by cases d <;> simp [plain] at h <;> rfl
/-- What a value is when it is made closed. -/
def img : V → Nat → Option D
  | .x d, n => match sc d with
    | true => some d
    | false => none
  | .c m d, n => match Nat.ble m (n + 1) with
    | true => some d
    | false => none
  | .own sz es, 0 => none
  | .own sz es, n + 1 => (imge es n).map (.lst sz)
  | _, _ => none
where
  imgs : List V → Nat → Option (List D)
  | [], _ => some []
  | v :: vs, n => match img v n, imgs vs n with
    | some d, some ds => some (d :: ds)
    | _, _ => none
  imge : List (List V) → Nat → Option (List (List D))
  | [], _ => some []
  | e :: es, n => match imgs e n, imge es n with
    | some d, some ds => some (d :: ds)
    | _, _ => none
mutual
theorem img_frz {H : Heap} : ∀ {v : V} {n : Nat} {d0 d : D} {S : List Nat}, img v n = some d0 → VO H v d S → ∃ z, (frz (n + 1) d).run H = some z ∧ Nr d0 z.1 ∧ ∀ i ∈ z.2, dead H i ∨ i ∈ S
  | .x e, n, d0, d, S, h, k => by
    simp only [img] at h
    split at h
    · rename_i hs
      injection h with h
      subst h
      simp only [VO] at k
      obtain ⟨rfl, rfl⟩ := k
      exact ⟨_, sc_frz hs n, Nr.of_sc hs, by simp⟩
    · cases h
  | .c m e, n, d0, d, S, h, k => by
    simp only [img] at h
    split at h
    · rename_i hs
      injection h with h
      subst h
      simp only [VO] at k
      obtain ⟨k, rfl⟩ := k
      obtain ⟨z, h1, h2, h3⟩ := (k.up (Nat.le_of_ble_eq_true hs)).frz
      exact ⟨z, h1, h2, fun i hi => .inl (h3 i hi)⟩
    · cases h
  | .own sz es, 0, d0, d, S, h, k => by simp [img] at h
  | .own sz es, n + 1, d0, d, S, h, k => by
    simp only [img, Option.map_eq_some_iff] at h
    obtain ⟨ds, h, rfl⟩ := h
    simp only [VO] at k
    rcases k with ⟨rfl, rfl, rfl⟩ | ⟨id, es', S', rfl, hh, hv, rfl⟩
    · simp only [img.imge, Option.some.injEq] at h
      subst h
      exact ⟨(.nil, []), rfl, Nr.mk_nil, by simp⟩
    · obtain ⟨z, q1, q2, q3⟩ := imge_frz h hv
      have hl := hv.len
      refine ⟨(.lst sz z.1, id :: z.2), ?_, Nr.mk_lst q2, fun i hi => ?_⟩
      · simp only [frz, Eff.run, hh]
        rw [if_pos (by omega)]
        rw [hl, List.drop_zero, List.take_length]
        simp only [run_bindE, q1, Option.bind_some, Eff.run]
      · simp at hi ⊢
        rcases hi with rfl | hi
        · exact .inr (.inl rfl)
        · rcases q3 i hi with h | h
          · exact .inl h
          · exact .inr (.inr h)
  | .ref _ _ _, n, d0, d, S, h, k => by simp [img] at h
  | .ptr _ _ _ _, n, d0, d, S, h, k => by simp [img] at h
  | .agg _, n, d0, d, S, h, k => by simp [img] at h
  | .tup _, n, d0, d, S, h, k => by simp [img] at h
theorem imgs_frz {H : Heap} : ∀ {v : List V} {n : Nat} {d0 d : List D} {S : List Nat}, img.imgs v n = some d0 → VOs H v d S → ∃ z, (eachC (frz (n + 1)) d).run H = some z ∧ All2 Nr d0 z.1 ∧ ∀ i ∈ z.2, dead H i ∨ i ∈ S
  | [], n, d0, [], S, h, k => by
    simp only [img.imgs, Option.some.injEq] at h
    subst h
    exact ⟨([], []), rfl, trivial, by simp⟩
  | v :: vs, n, d0, d :: ds, S, h, k => by
    simp only [img.imgs] at h
    split at h
    · rename_i e es h1 h2
      injection h with h
      subst h
      simp only [VOs] at k
      obtain ⟨S1, S2, k1, k2, rfl⟩ := k
      obtain ⟨x, a1, a2, a3⟩ := img_frz h1 k1
      obtain ⟨y, b1, b2, b3⟩ := imgs_frz h2 k2
      refine ⟨(x.1 :: y.1, x.2 ++ y.2), by simp [eachC, run_bindE, a1, b1, Eff.run], ⟨a2, b2⟩, fun i hi => ?_⟩
      simp at hi ⊢
      rcases hi with hi | hi
      · exact (a3 i hi).imp id .inl
      · exact (b3 i hi).imp id .inr
    · cases h
  | [], n, d0, _ :: _, S, h, k => by simp [VOs] at k
  | _ :: _, n, d0, [], S, h, k => by simp [VOs] at k
theorem imge_frz {H : Heap} : ∀ {v : List (List V)} {n : Nat} {d0 d : List (List D)} {S : List Nat}, img.imge v n = some d0 → VOe H v d S → ∃ z, (eachE (frz (n + 1)) d).run H = some z ∧ All2 (All2 Nr) d0 z.1 ∧ ∀ i ∈ z.2, dead H i ∨ i ∈ S
  | [], n, d0, [], S, h, k => by
    simp only [img.imge, Option.some.injEq] at h
    subst h
    exact ⟨([], []), rfl, trivial, by simp⟩
  | v :: vs, n, d0, d :: ds, S, h, k => by
    simp only [img.imge] at h
    split at h
    · rename_i e es h1 h2
      injection h with h
      subst h
      simp only [VOe] at k
      obtain ⟨S1, S2, k1, k2, rfl⟩ := k
      obtain ⟨x, a1, a2, a3⟩ := imgs_frz h1 k1
      obtain ⟨y, b1, b2, b3⟩ := imge_frz h2 k2
      refine ⟨(x.1 :: y.1, x.2 ++ y.2), by simp [eachE, run_bindE, a1, b1, Eff.run], ⟨a2, b2⟩, fun i hi => ?_⟩
      simp at hi ⊢
      rcases hi with hi | hi
      · exact (a3 i hi).imp id .inl
      · exact (b3 i hi).imp id .inr
    · cases h
  | [], n, d0, _ :: _, S, h, k => by simp [VOe] at k
  | _ :: _, n, d0, [], S, h, k => by simp [VOe] at k
end
theorem imge_map {v : β → List V} {c : β → List D} {n : Nat} (h : ∀ a, img.imgs (v a) n = some (c a)) : ∀ l : List β, img.imge (l.map v) n = some (l.map c)
  | [] => rfl
  | a :: l => by simp only [List.map_cons, img.imge, h a, imge_map h l]
end
end Go.Pi
/-
  CALLS: what a function gives, told as its caller gets it.
-/
namespace Go.Pi
set_option linter.unusedVariables false

/-- What comes back: a datum as it stands, a closed list, a row that is handed over. -/
inductive RI where
  | sc (v : V)
  | cl (d : D)
  | own (sz : Nat) (es : List (List V))
def scV : V → Bool
  | .x d => scal d && (match d with | .undef => false | _ => true)
  | .agg vs => vs.all fun v => match v with | .x d => scal d | _ => false
  | _ => false
def RIok : RI → D → Prop
  | .sc v, x => scV v = true ∧ VR [] v x
  | .cl d, x => lp d = true ∧ plain x = true ∧ Nr d x
  | .own sz es, x => (x = .nil ∧ es = []) ∨ ∃ es', x = .own sz es' ∧ All2 (VRs []) es es' ∧ flatE es
def RIs : List RI → List D → Prop := All2 RIok
def tupD : D → Bool
  | .tup _ => true
  | _ => false
/-- What a function gives for arguments. -/
def CallOk (pr : Prog) (f : Nat) (vs : List V) (tp : Bool) (Res : List RI) : Prop :=
  ∀ ds, VRs [] vs ds → Runs pr f ds [] fun d H' => tupD d = tp ∧ ∃ xs hs rd, expL H' (comps d) = some (xs, hs, rd) ∧ nodup hs = true ∧ apart hs rd = true ∧ RIs Res xs

/-! ### from a function's body -/
section
variable {pr : Prog} {fr : Nat → Option Blk} {α β γ : Type} {N b : Nat} {av : List Nat} {E : Env} {R : List Rt} {m : Option α} {s : St}

/-- Results, from slots. -/
inductive ROk (H : Heap) (R : List Rt) : V → RI → Prop where
  | sc (v : V) (h : scV v = true) : ROk H R v (.sc v)
  | cl (n : Nat) (d : D) (h : lp d = true) (hn : n ≤ fuelF) : ROk H R (.c n d) (.cl d)
  | nil (sz : Nat) : ROk H R (.x .nil) (.own sz [])
  | own (i : Nat) (o : Option Nat) (sz : Nat) (es : List (List V)) (hR : R[i]? = some ⟨o, sz, es⟩) (hf : flatE es) (h1 : ∀ e ∈ es, ∀ v ∈ e, ∀ d d', VR H v d → (frz 11 d).run H = some d' → VR [] v d'.1) (h2 : ∀ e ∈ es, ∀ v ∈ e, ∀ d, VR H v d → ∃ d', (frz 11 d).run H = some d' ∧ ∀ i ∈ d'.2, dead H i) : ROk H R (.ref o 0 es.length) (.own sz es)

/-- Cells that may be handed over. -/
def outV : V → Bool
  | .x d => sc d
  | .c n d => lp d && leB n 11
  | _ => false
theorem nr_plain {v d : D} (h : Nr v d) (hl : lp v = true) : plain d = true := by
  cases v <;> simp [lp] at hl
  · simp only [Nr] at h; subst h; rfl
  · rcases h.lst with ⟨_, rfl⟩ | ⟨_, rfl, _⟩ <;> rfl
  · obtain ⟨_, rfl, _⟩ := h.fptr; rfl
theorem outV_frz {H : Heap} {v : V} {d : D} (ho : outV v = true) (h : VR H v d) : ∃ d', (frz 11 d).run H = some d' ∧ (∀ i ∈ d'.2, dead H i) ∧ ∀ H2, VR H2 v d'.1 := by
  cases v <;> simp only [outV] at ho
  · simp only [VR] at h
    subst h
    exact ⟨_, sc_frz ho 10, by simp, fun _ => by simp only [VR]⟩
  · simp only [Bool.and_eq_true, leB_iff] at ho
    simp only [VR] at h
    obtain ⟨x, h1, h2, h3⟩ := (h.up ho.2).frz
    refine ⟨x, h1, h3, fun H2 => ?_⟩
    simp only [VR]
    rename_i n d0
    cases n with
    | zero => exact h.elim
    | succ n => exact nr_cl h2 (.inl ho.1)
  all_goals cases ho
theorem outVs_frz {H : Heap} : ∀ {vs : List V} {ds : List D}, vs.all outV = true → VRs H vs ds → ∃ x, (eachC (frz 11) ds).run H = some x ∧ (∀ i ∈ x.2, dead H i) ∧ ∀ H2, VRs H2 vs x.1
  | [], [], _, _ => ⟨([], []), rfl, by simp, fun _ => by simp [VRs]⟩
  | v :: vs, d :: ds, h, k => by
    simp only [List.all_cons, Bool.and_eq_true] at h
    simp only [VRs] at k
    obtain ⟨x, h1, h2, h3⟩ := outV_frz h.1 k.1
    obtain ⟨y, h4, h5, h6⟩ := outVs_frz h.2 k.2
    refine ⟨(x.1 :: y.1, x.2 ++ y.2), by simp [eachC, run_bindE, h1, h4, Eff.run], fun i hi => ?_, fun H2 => by simp only [VRs]; exact ⟨h3 H2, h6 H2⟩⟩
    simp at hi
    exact hi.elim (h2 i) (h5 i)
  | [], _ :: _, _, h => by simp [VRs] at h
  | _ :: _, [], _, h => by simp [VRs] at h
def outE (es : List (List V)) : Prop := ∀ e ∈ es, e.all outV = true
theorem outEs_frz {H : Heap} : ∀ {vs : List (List V)} {ds : List (List D)}, outE vs → All2 (VRs H) vs ds → ∃ x, (eachE (frz 11) ds).run H = some x ∧ (∀ i ∈ x.2, dead H i) ∧ ∀ H2, All2 (VRs H2) vs x.1
  | [], [], _, _ => ⟨([], []), rfl, by simp, fun _ => trivial⟩
  | v :: vs, d :: ds, h, k => by
    obtain ⟨x, h1, h2, h3⟩ := outVs_frz (h v (by simp)) k.1
    obtain ⟨y, h4, h5, h6⟩ := outEs_frz (fun e he => h e (by simp [he])) k.2
    refine ⟨(x.1 :: y.1, x.2 ++ y.2), by simp [eachE, run_bindE, h1, h4, Eff.run], fun i hi => ?_, fun H2 => ⟨h3 H2, h6 H2⟩⟩
    simp at hi
    exact hi.elim (h2 i) (h5 i)
  | [], _ :: _, _, h => h.elim
  | _ :: _, [], _, h => h.elim
theorem outE_flat {es : List (List V)} (h : outE es) : flatE es := by
  intro e he
  have := h e he
  simp only [List.all_eq_true] at this ⊢
  intro v hv
  have := this v hv
  cases v <;> simp [outV] at this <;> rfl
theorem eachE_up {H : Heap} {n m : Nat} (hm : n ≤ m) : ∀ {ds : List (List D)} {x : List (List D) × List Nat}, (eachE (frz n) ds).run H = some x → (eachE (frz m) ds).run H = some x := by
  have hC : ∀ {ds : List D} {x : List D × List Nat}, (eachC (frz n) ds).run H = some x → (eachC (frz m) ds).run H = some x := by
    intro ds
    induction ds with
    | nil => intro x h; exact h
    | cons d ds ih =>
      intro x h
      simp only [eachC, run_bindE, Option.bind_eq_some_iff] at h ⊢
      obtain ⟨y, h1, z, h2, h3⟩ := h
      exact ⟨y, frz_up h1 hm, z, ih h2, h3⟩
  intro ds
  induction ds with
  | nil => intro x h; exact h
  | cons d ds ih =>
    intro x h
    simp only [eachE, run_bindE, Option.bind_eq_some_iff] at h ⊢
    obtain ⟨y, h1, z, h2, h3⟩ := h
    exact ⟨y, hC h1, z, ih h2, h3⟩
theorem vl_out {c : β → List D} {l : List β} (hc : ∀ a, (cv c a).all outV = true) : outE (vl c l) := by
  intro e he
  simp only [vl, List.mem_map] at he
  obtain ⟨a, _, rfl⟩ := he
  exact hc a

/-- One result, handed over. -/
theorem exp_sc {H : Heap} {v : V} {d : D} (h : scV v = true) (k : VR H v d) : exp1 H d = some (d, [], []) ∧ RIok (.sc v) d := by
  cases v <;> simp only [scV] at h
  · rename_i d0
    simp only [VR] at k
    subst k
    have h' : scal d = true := by simp only [Bool.and_eq_true] at h; exact h.1
    refine ⟨?_, h, by simp only [VR]⟩
    cases d <;> simp [scal] at h' <;> rfl
  case agg vs =>
    simp only [VR] at k
    obtain ⟨ds, rfl, k⟩ := k
    have key : ∀ {vs : List V} {ds : List D}, (vs.all fun v => match v with | .x d => scal d | _ => false) = true → VRs H vs ds → (∀ n, (eachC (frz (n + 1)) ds).run H = some (ds, [])) ∧ VRs [] vs ds := by
      intro vs
      induction vs with
      | nil =>
        intro ds _ k
        cases ds with
        | nil => exact ⟨fun _ => rfl, by simp [VRs]⟩
        | cons => simp [VRs] at k
      | cons v vs ih =>
        intro ds h k
        cases ds with
        | nil => simp [VRs] at k
        | cons d ds =>
          simp only [VRs] at k ⊢
          simp only [List.all_cons, Bool.and_eq_true] at h
          obtain ⟨i1, i2⟩ := ih h.2 k.2
          cases v <;> simp at h
          simp only [VR] at k ⊢
          obtain ⟨rfl, k⟩ := k
          refine ⟨fun n => ?_, rfl, i2⟩
          have : (frz (n + 1) d).run H = some (d, []) := by
            have h' := h.1
            cases d <;> simp [scal] at h' <;> rfl
          simp [eachC, run_bindE, this, i1, Eff.run]
    obtain ⟨k1, k2⟩ := key h k
    refine ⟨?_, h, by simp only [VR]; exact ⟨_, rfl, k2⟩⟩
    show ((frz 12 (.agg ds)).run H).map _ = _
    simp [frz, run_bindE, k1, Eff.run]
  all_goals cases h
theorem exp_cl {H : Heap} {n : Nat} {d0 d : D} (hl : lp d0 = true) (hn : n ≤ fuelF) (k : Cl H n d0 d) : ∃ x rd, exp1 H d = some (x, [], rd) ∧ (∀ i ∈ rd, dead H i) ∧ RIok (.cl d0) x := by
  obtain ⟨x, h1, h2, h3⟩ := (k.up hn).frz
  refine ⟨x.1, x.2, ?_, h3, hl, nr_plain h2 hl, h2⟩
  have hg : ((frz fuelF d).run H).map (fun x => (x.1, ([] : List Nat), x.2)) = some (x.1, [], x.2) := by rw [h1]; rfl
  cases d <;> try exact hg
  rename_i id off len
  have : dead H id := by
    cases n with
    | zero => exact k.elim
    | succ n =>
      rcases k with ⟨k, _⟩ | ⟨sz, es, id', off, len, es0, _, e, h3, _⟩ | ⟨cs, id', i, j, sz, es0, e0, _, e, _⟩ | ⟨cs, ds, _, e, _⟩
      · simp [plain] at k
      · injection e with e1; subst e1; exact ⟨_, _, h3⟩
      · cases e
      · cases e
  obtain ⟨sz, es, hh⟩ := this
  simp only [exp1, hh]
  exact hg
theorem exp_own {H : Heap} {o : Option Nat} {sz : Nat} {es : List (List V)} {d : D} {S : List Nat} (hr : RootR H ⟨o, sz, es⟩ S) (ho : outE es) (k : VR H (.ref o 0 es.length) d) :
    ∃ x hs rd, exp1 H d = some (x, hs, rd) ∧ (∀ i ∈ rd, dead H i) ∧ hs = S ∧ RIok (.own sz es) x := by
  simp only [VR] at k
  rcases hr with ⟨h1, h2, rfl⟩ | ⟨id, es', S', h1, h2, h3, rfl⟩
  · simp at h1 h2
    subst h1; subst h2
    rcases k with ⟨_, e, _⟩ | ⟨_, _, _, rfl⟩
    · cases e
    · exact ⟨.nil, [], [], rfl, by simp, rfl, .inl ⟨rfl, rfl⟩⟩
  · simp at h1 h2 h3
    subst h1
    rcases k with ⟨_, e, rfl⟩ | ⟨e, _⟩
    · injection e with e; subst e
      obtain ⟨ha, rfl⟩ := h3.flat (outE_flat ho)
      obtain ⟨x, q1, q2, q3⟩ := outEs_frz ho ha
      refine ⟨.own sz x.1, [id], x.2, ?_, q2, rfl, .inr ⟨x.1, rfl, q3 [], outE_flat ho⟩⟩
      simp only [exp1, h2]
      rw [if_pos ⟨trivial, ha.len⟩]
      rw [eachE_up (m := fuelF) (by decide) q1]; rfl
    · cases e

/-- The results of a body. -/
inductive Outs (R : List Rt) : List V → List RI → List Nat → Prop where
  | nil : Outs R [] [] []
  | sc {v : V} {vs : List V} {rs : List RI} {is : List Nat} (h : scV v = true) (k : Outs R vs rs is) : Outs R (v :: vs) (.sc v :: rs) is
  | cl {n : Nat} {d : D} {vs : List V} {rs : List RI} {is : List Nat} (h : lp d = true) (hn : leB n fuelF = true) (k : Outs R vs rs is) : Outs R (.c n d :: vs) (.cl d :: rs) is
  | nl {sz : Nat} {vs : List V} {rs : List RI} {is : List Nat} (k : Outs R vs rs is) : Outs R (.x .nil :: vs) (.own sz [] :: rs) is
  | own {i : Nat} {o : Option Nat} {sz : Nat} {es : List (List V)} {vs : List V} {rs : List RI} {is : List Nat} (hR : R[i]? = some ⟨o, sz, es⟩) (ho : outE es) (hi : is.contains i = false) (k : Outs R vs rs is) : Outs R (.ref o 0 es.length :: vs) (.own sz es :: rs) (i :: is)
theorem RR.pick {H : Heap} {R : List Rt} {S : List Nat} (h : RR H R S) {i : Nat} {r : Rt} (hi : R[i]? = some r) : ∃ T, RootR H r T ∧ (∀ x ∈ T, x ∈ S) := by
  obtain ⟨S1, S2, S3, k1, rfl, k2⟩ := h.at hi
  exact ⟨S2, k1, fun x hx => by simp [hx]⟩
theorem RR.disj {H : Heap} : ∀ {R : List Rt} {S : List Nat}, RR H R S → S.Nodup → ∀ {i j : Nat} {r q : Rt} {id : Nat}, R[i]? = some r → R[j]? = some q → r.o = some id → q.o = some id → i = j
  | [], _, _, _, i, j, r, q, id, hi, _, _, _ => by simp at hi
  | r0 :: R, S, h, hn, i, j, r, q, id, hi, hj, h1, h2 => by
    obtain ⟨S1, S2, k1, k2, rfl⟩ := h
    rw [List.nodup_append] at hn
    have root : ∀ {r : Rt} {T : List Nat}, RootR H r T → r.o = some id → id ∈ T := by
      intro r T h e
      rcases h with ⟨h, _⟩ | ⟨id', es', S', h, _, _, rfl⟩
      · rw [h] at e; cases e
      · rw [h] at e; injection e with e; subst e; simp
    cases i with
    | zero =>
      simp at hi; subst hi
      cases j with
      | zero => rfl
      | succ j =>
        obtain ⟨T, t1, t2⟩ := k2.pick (i := j) (r := q) (by simpa using hj)
        exact absurd rfl (hn.2.2 id (root k1 h1) id (t2 _ (root t1 h2)))
    | succ i =>
      cases j with
      | zero =>
        simp at hj; subst hj
        obtain ⟨T, t1, t2⟩ := k2.pick (i := i) (r := r) (by simpa using hi)
        exact absurd rfl (hn.2.2 id (root k1 h2) id (t2 _ (root t1 h1)))
      | succ j => exact congrArg (· + 1) (RR.disj k2 hn.2.1 (i := i) (j := j) (by simpa using hi) (by simpa using hj) h1 h2)
theorem outs_ok {H : Heap} {S : List Nat} (hr : RR H R S) (hn : S.Nodup) : ∀ {vs : List V} {rs : List RI} {is : List Nat}, Outs R vs rs is → ∀ {ds : List D}, VRs H vs ds →
    ∃ xs hs rd, expL H ds = some (xs, hs, rd) ∧ (∀ i ∈ rd, dead H i) ∧ nodup hs = true ∧ (∀ id ∈ hs, ∃ i ∈ is, ∃ r, R[i]? = some r ∧ r.o = some id) ∧ RIs rs xs := by
  intro vs rs is h
  induction h with
  | nil =>
    intro ds k
    cases ds with
    | nil => exact ⟨[], [], [], rfl, by simp, rfl, by simp, trivial⟩
    | cons => simp [VRs] at k
  | sc h k ih =>
    intro ds hv
    cases ds with
    | nil => simp [VRs] at hv
    | cons d ds =>
      simp only [VRs] at hv
      obtain ⟨xs, hs, rd, h1, h2, h3, h4, h5⟩ := ih hv.2
      obtain ⟨e1, e2⟩ := exp_sc h hv.1
      exact ⟨d :: xs, hs, rd, by simp [expL, e1, h1], h2, h3, h4, e2, h5⟩
  | cl h hn k ih =>
    intro ds hv
    cases ds with
    | nil => simp [VRs] at hv
    | cons d ds =>
      simp only [VRs] at hv
      obtain ⟨xs, hs, rd, h1, h2, h3, h4, h5⟩ := ih hv.2
      have := hv.1
      simp only [VR] at this
      obtain ⟨x, rd', e1, e2, e3⟩ := exp_cl h (leB_iff.1 hn) this
      refine ⟨x :: xs, hs, rd' ++ rd, by simp [expL, e1, h1], fun i hi => ?_, h3, h4, e3, h5⟩
      simp at hi
      exact hi.elim (e2 i) (h2 i)
  | nl k ih =>
    intro ds hv
    cases ds with
    | nil => simp [VRs] at hv
    | cons d ds =>
      simp only [VRs] at hv
      obtain ⟨xs, hs, rd, h1, h2, h3, h4, h5⟩ := ih hv.2
      have := hv.1
      simp only [VR] at this
      subst this
      exact ⟨.nil :: xs, hs, rd, by simp [expL, h1, exp1, frz, fuelF, Eff.run], h2, h3, h4, .inl ⟨rfl, rfl⟩, h5⟩
  | @own i o sz es vs rs is hR ho hi k ih =>
    intro ds hv
    cases ds with
    | nil => simp [VRs] at hv
    | cons d ds =>
      simp only [VRs] at hv
      obtain ⟨xs, hs, rd, h1, h2, h3, h4, h5⟩ := ih hv.2
      obtain ⟨T, t1, t2⟩ := hr.pick hR
      obtain ⟨x, hs', rd', e1, e2, rfl, e3⟩ := exp_own t1 ho hv.1
      refine ⟨x :: xs, hs' ++ hs, rd' ++ rd, by simp [expL, e1, h1], fun i hi => ?_, ?_, ?_, e3, h5⟩
      · simp at hi
        exact hi.elim (e2 i) (h2 i)
      · rcases t1 with ⟨_, _, rfl⟩ | ⟨id, es', S', q1, q2, q3, rfl⟩
        · exact h3
        · obtain ⟨_, rfl⟩ := q3.flat (outE_flat ho)
          simp only [List.cons_append, List.nil_append, nodup, Bool.and_eq_true, Bool.not_eq_true', List.contains_eq_mem, decide_eq_false_iff_not]
          refine ⟨fun hm => ?_, h3⟩
          obtain ⟨j, j1, r, j2, j3⟩ := h4 id hm
          have := hr.disj hn hR j2 q1 j3
          subst this
          simp [j1] at hi
      · intro id hid
        simp at hid
        rcases hid with hid | hid
        · rcases t1 with ⟨_, _, rfl⟩ | ⟨id', es', S', q1, q2, q3, rfl⟩
          · cases hid
          · obtain ⟨_, rfl⟩ := q3.flat (outE_flat ho)
            simp at hid
            subst hid
            exact ⟨i, by simp, _, hR, q1⟩
        · obtain ⟨j, j1, r, j2, j3⟩ := h4 id hid
          exact ⟨j, by simp [j1], r, j2, j3⟩

theorem cl_notup {H : Heap} {n : Nat} {v : D} {l : List D} (h : Cl H n v (.tup l)) : False := by
  cases n with
  | zero => exact h.elim
  | succ n =>
    rcases h with ⟨k, _⟩ | ⟨_, _, _, _, _, _, _, e, _⟩ | ⟨_, _, _, _, _, _, _, _, e, _⟩ | ⟨_, _, _, e, _⟩
    · simp [plain] at k
    all_goals cases e
theorem scV_notup {H : Heap} {v : V} {l : List D} (h : scV v = true) (k : VR H v (.tup l)) : False := by
  cases v <;> simp only [VR] at k
  · subst k
    simp [scV, scal] at h
  · exact cl_notup k
  · rcases k with ⟨_, _, e⟩ | ⟨_, _, _, e⟩ <;> cases e
  · cases k
  · obtain ⟨_, e, _⟩ := k; cases e
  · simp [scV] at h
theorem outs_notup {H : Heap} {vs : List V} {rs : List RI} {is : List Nat} {l : List D} (ho : Outs R vs rs is) (hvs : VRs H vs [.tup l]) : False := by
  cases ho with
  | nil => simp [VRs] at hvs
  | sc h k => simp only [VRs] at hvs; exact scV_notup h hvs.1
  | cl h hn k => simp only [VRs, VR] at hvs; exact cl_notup hvs.1
  | nl k => simp only [VRs, VR] at hvs; cases hvs.1
  | own hR ho hi k =>
    simp only [VRs, VR] at hvs
    rcases hvs.1 with ⟨_, _, e⟩ | ⟨_, _, _, e⟩ <;> cases e

def resSlots : List PR → Option (List Nat)
  | [] => some []
  | .tmp t :: rs => match resSlots rs with | some l => some (t :: l) | none => none
  | _ => none
theorem resL_of {s : St} : ∀ {rs : List PR} {ts : List Nat}, resSlots rs = some ts → resL s rs = some (ts.map fun t => s.ts.getD t .undef)
  | [], ts, h => by simp only [resSlots, Option.some.injEq] at h; subst h; rfl
  | .tmp t :: rs, ts, h => by
    simp only [resSlots] at h
    split at h
    · rename_i l hl
      injection h with h
      subst h
      simp [resL, res1, resL_of hl]
    · cases h
  | .cell _ _ _ :: _, _, h => by simp [resSlots] at h
def getL (E : Env) : List Nat → Option (List V)
  | [] => some []
  | t :: ts => match E.get t, getL E ts with
    | some v, some l => some (v :: l)
    | _, _ => none
theorem getL_ok (h : EnvR N E R fr b av s) : ∀ {ts : List Nat} {vs : List V}, getL E ts = some vs → VRs s.hp vs (ts.map fun t => s.ts.getD t .undef)
  | [], vs, hv => by simp only [getL, Option.some.injEq] at hv; subst hv; simp [VRs]
  | t :: ts, vs, hv => by
    simp only [getL] at hv
    split at hv
    · rename_i v l h1 h2
      injection hv with hv
      subst hv
      simp only [List.map_cons, VRs]
      exact ⟨h.sl t v h1, getL_ok h h2⟩
    · cases hv
/-- Where a body ends: the results. -/
def RetA (ts : List Nat) (Res : List RI) (ex : Ex) (E : Env) (R : List Rt) : Prop := (∀ i, ex ≠ .exit i) ∧ ∃ vs is, getL E ts = some vs ∧ Outs R vs Res is
def noFr : Nat → Option Blk := fun _ => none
/-- The slots at the begin. -/
def argE : Nat → List V → Env
  | _, [] => []
  | i, v :: vs => (i, v) :: argE (i + 1) vs
theorem argE_get : ∀ {vs : List V} {ds : List D} {i : Nat} {pre : List D}, pre.length = i → VRs [] vs ds → ∀ {j : Nat} {v : V}, (argE i vs).get j = some v → VR [] v ((pre ++ ds).getD j .undef)
  | [], _, i, pre, _, _, j, v, h => by simp [argE, Env.get] at h
  | v :: vs, [], _, _, _, h, _, _, _ => by simp [VRs] at h
  | v :: vs, d :: ds, i, pre, hp, h, j, w, hw => by
    simp only [VRs] at h
    simp only [argE, Env.get] at hw
    split at hw
    · rename_i e
      have := Nat.eq_of_beq_eq_true e
      subst this
      injection hw with hw
      subst hw
      rw [List.getD_eq_getElem?_getD, List.getElem?_append_right (by omega), hp]
      simpa using h.1
    · have := argE_get (pre := pre ++ [d]) (i := i + 1) (by simp [hp]) h.2 hw
      simpa using this
theorem CallOk.of {f : Nat} {vs : List V} {tp : Bool} {Res : List RI} {pf : PF} {ts : List Nat} {v : α} (hf : pr f = some pf) (ho : pf.orc = none) (hts : resSlots pf.results = some ts) (htp : tp = (match ts with | [_] => false | _ => true)) (hlen : leB vs.length pf.ntmps = true)
    (h : JC pr noFr pf.ntmps (argE 0 vs) [] pf.body (some v) (fun _ => GotA pf.ntmps noFr (RetA ts Res))) : CallOk pr f vs tp Res := by
  intro ds hds
  refine Runs.body hf ho ?_
  have hl := hds.len
  rw [leB_iff] at hlen
  have h0 : EnvR pf.ntmps (argE 0 vs) [] noFr 0 [] ⟨ds ++ List.replicate (pf.ntmps - ds.length) .undef, []⟩ := by
    refine ⟨by simp; omega, fun i w hw => ?_, ⟨[], rfl, List.nodup_nil, by simp⟩, fun id k hk => by simp [noFr] at hk, List.nodup_nil, by simp⟩
    have hw' := argE_get (pre := []) rfl hds hw
    have hi : i < ds.length := by
      have : ∀ {vs : List V} {k i : Nat} {w : V}, (argE k vs).get i = some w → i < k + vs.length := by
        intro vs
        induction vs with
        | nil => intro k i w h; simp [argE, Env.get] at h
        | cons v vs ih =>
          intro k i w h
          simp only [argE, Env.get] at h
          split at h
          · rename_i e
            have := Nat.eq_of_beq_eq_true e
            subst this
            simp
          · have := ih h
            simp at this ⊢; omega
      have := this hw
      omega
    rw [List.getD_eq_getElem?_getD, List.getElem?_append_left hi, ← List.getD_eq_getElem?_getD]
    simpa using hw'
  refine (h v rfl _ h0).mono ?_
  rintro ex s ⟨E, R, ⟨hex, vs', is, hg, ho⟩, hs⟩
  refine ⟨hex, ?_⟩
  have hvs := getL_ok hs hg
  obtain ⟨S, h1, h2, h3⟩ := hs.ro
  obtain ⟨xs, hd, rd, e1, e2, e3, e4, e5⟩ := outs_ok h1 h2 ho hvs
  have hap : apart hd rd = true := by
    simp only [apart, List.all_eq_true, Bool.not_eq_true', List.contains_eq_mem, decide_eq_false_iff_not]
    intro id hid hm
    obtain ⟨i, _, r, k1, k2⟩ := e4 id hid
    obtain ⟨T, t1, t2⟩ := h1.pick k1
    obtain ⟨_, _, dd⟩ := e2 id hm
    rcases t1 with ⟨q, _⟩ | ⟨id', es', S', q1, q2, _⟩
    · rw [q] at k2; cases k2
    · rw [q1] at k2; injection k2 with k2; subst k2
      rw [q2] at dd; cases dd
  have hres := resL_of (s := s) hts
  cases ts with
  | nil =>
    subst htp
    refine ⟨.tup [], by simp [resV, hres], rfl, xs, hd, rd, e1, e3, hap, e5⟩
  | cons t ts =>
    cases ts with
    | nil =>
      subst htp
      refine ⟨s.ts.getD t .undef, by simp [resV, hres], ?_, xs, hd, rd, ?_, e3, hap, e5⟩
      · cases hd' : s.ts.getD t .undef with
        | tup l =>
          exfalso
          simp only [List.map_cons, List.map_nil] at hvs
          rw [hd'] at hvs
          exact outs_notup ho hvs
        | _ => rfl
      · have : comps (s.ts.getD t .undef) = [s.ts.getD t .undef] := by
          cases hd' : s.ts.getD t .undef with
          | tup l =>
            exfalso
            simp only [List.map_cons, List.map_nil] at hvs
            rw [hd'] at hvs
            exact outs_notup ho hvs
          | _ => rfl
        rw [this]
        simpa using e1
    | cons t2 ts =>
      subst htp
      refine ⟨.tup _, by simp only [resV, hres, List.map_cons, Option.map_some], rfl, xs, hd, rd, e1, e3, hap, e5⟩
end
end Go.Pi
/-
  CALLS: the caller's side.
-/
namespace Go.Pi
set_option linter.unusedVariables false

section
variable {pr : Prog} {fr : Nat → Option Blk} {α β γ : Type} {N b : Nat} {av : List Nat} {E : Env} {R : List Rt} {m : Option α} {s : St}
variable {dst : Option Nat} {g : Option (Nat × Bool)} {aft : List Nat} {res : Nat} {ops : List PO} {Q : α → St → Prop} {x y ix : PX}

/-- An argument, as the callee gets it; which row of the caller's own is met on the way. -/
def OfR (R : List Rt) (k : List Nat) (H : Heap) (id : Nat) : Prop := ∃ i r S, i ∈ k ∧ R[i]? = some r ∧ RootR H r S ∧ id ∈ S
def ArgOk (N : Nat) (E : Env) (R : List Rt) (fr : Nat → Option Blk) (b : Nat) (av : List Nat) (k : List Nat) (x : PX) (v : V) : Prop :=
  ∀ s, EnvR N E R fr b av s → ∃ z, (frz fuelF (x.ev s.ts)).run s.hp = some z ∧ VR [] v z.1 ∧ ∀ id ∈ z.2, dead s.hp id ∨ OfR R k s.hp id
theorem ofR_top {k : List Nat} (hs : EnvR N E R fr b av s) {i id sz : Nat} {es : List (List V)} (hik : i ∈ k) (hR : R[i]? = some ⟨some id, sz, es⟩) : OfR R k s.hp id := by
  obtain ⟨S, h1, h2, h3⟩ := hs.ro
  obtain ⟨T, t1, t2⟩ := h1.pick hR
  refine ⟨i, _, T, hik, hR, t1, ?_⟩
  rcases t1 with ⟨e, _⟩ | ⟨id', es', S', e, _, _, rfl⟩
  · cases e
  · injection e with e; subst e; simp
theorem argX {k : List Nat} {d : D} (hx : evV E x = some (.x d)) (hd : plain d = true) : ArgOk N E R fr b av k x (.x d) := by
  intro s hs
  have := hs.ev hx
  simp only [VR] at this
  rw [this]
  exact ⟨_, plain_frz hd 11, by simp only [VR], by simp⟩
theorem argC {k : List Nat} {n : Nat} {d : D} (hx : evV E x = some (.c n d)) (hl : lp d = true) (hn : leB n fuelF = true) : ArgOk N E R fr b av k x (.c 1 d) := by
  intro s hs
  have := hs.ev hx
  simp only [VR] at this
  obtain ⟨z, h1, h2, h3⟩ := (this.up (leB_iff.1 hn)).frz
  refine ⟨z, h1, ?_, fun id hi => .inl (h3 id hi)⟩
  simp only [VR]
  exact nr_cl h2 (.inl hl)
theorem argN {k : List Nat} {sz : Nat} (hx : evV E x = some (.x .nil)) : ArgOk N E R fr b av k x (.c 1 (.lst sz [])) := by
  intro s hs
  have := hs.ev hx
  simp only [VR] at this
  rw [this]
  refine ⟨(.nil, []), rfl, ?_, by simp⟩
  simp only [VR]
  exact Cl.plain rfl Nr.mk_nil
/-- Cells, closed. -/
def clV : V → V
  | .c n d => .c 1 d
  | v => v
def okA (v : V) : Bool := match v with
  | .x d => plain d
  | .c n d => lp d && leB n 11
  | _ => false
theorem okA_frz {H : Heap} {v : V} {d : D} (ho : okA v = true) (h : VR H v d) : ∃ z, (frz 11 d).run H = some z ∧ VR [] (clV v) z.1 ∧ ∀ i ∈ z.2, dead H i := by
  cases v <;> simp only [okA] at ho
  · simp only [VR] at h
    subst h
    exact ⟨_, plain_frz ho 10, by simp only [clV, VR], by simp⟩
  · simp only [Bool.and_eq_true, leB_iff] at ho
    simp only [VR] at h
    obtain ⟨z, h1, h2, h3⟩ := (h.up ho.2).frz
    exact ⟨z, h1, by simp only [clV, VR]; exact nr_cl h2 (.inl ho.1), h3⟩
  all_goals cases ho
theorem okAs_frz {H : Heap} : ∀ {vs : List V} {ds : List D}, vs.all okA = true → VRs H vs ds → ∃ x, (eachC (frz 11) ds).run H = some x ∧ VRs [] (vs.map clV) x.1 ∧ ∀ i ∈ x.2, dead H i
  | [], [], _, _ => ⟨([], []), rfl, by simp [VRs], by simp⟩
  | v :: vs, d :: ds, h, k => by
    simp only [List.all_cons, Bool.and_eq_true] at h
    simp only [VRs] at k
    obtain ⟨x, h1, h2, h3⟩ := okA_frz h.1 k.1
    obtain ⟨y, h4, h5, h6⟩ := okAs_frz h.2 k.2
    refine ⟨(x.1 :: y.1, x.2 ++ y.2), by simp [eachC, run_bindE, h1, h4, Eff.run], by simp only [List.map_cons, VRs]; exact ⟨h2, h5⟩, fun i hi => ?_⟩
    simp at hi
    exact hi.elim (h3 i) (h6 i)
  | [], _ :: _, _, h => by simp [VRs] at h
  | _ :: _, [], _, h => by simp [VRs] at h
theorem argG {k : List Nat} {vs : List V} (hx : evV E x = some (.agg vs)) (hv : vs.all okA = true) : ArgOk N E R fr b av k x (.agg (vs.map clV)) := by
  intro s hs
  have := hs.ev hx
  simp only [VR] at this
  obtain ⟨ds, e, h⟩ := this
  obtain ⟨z, h1, h2, h3⟩ := okAs_frz hv h
  refine ⟨(.agg z.1, z.2), by rw [e]; simp only [fuelF, frz, run_bindE, h1, Option.bind_some, Eff.run], by simp only [VR]; exact ⟨_, rfl, h2⟩, fun id hi => .inl (h3 id hi)⟩
theorem out_nr {c : β → List D} (hc : ∀ a, (c a).all okc = true) {H : Heap} : ∀ {l : List β} {es : List (List D)}, All2 (VRs H) (vl c l) es → ∃ x, (eachE (frz 11) es).run H = some x ∧ All2 (All2 Nr) (l.map c) x.1 ∧ ∀ i ∈ x.2, dead H i := by
  have hC : ∀ {cs ds : List D}, cs.all okc = true → VRs H (cs.map (cellV 1)) ds → ∃ x, (eachC (frz 11) ds).run H = some x ∧ All2 Nr cs x.1 ∧ ∀ i ∈ x.2, dead H i := by
    intro cs
    induction cs with
    | nil =>
      intro ds _ h
      cases ds with
      | nil => exact ⟨([], []), rfl, trivial, by simp⟩
      | cons => simp [VRs] at h
    | cons c cs ih =>
      intro ds hc h
      cases ds with
      | nil => simp [VRs] at h
      | cons d ds =>
        simp only [List.all_cons, Bool.and_eq_true] at hc
        simp only [List.map_cons, VRs] at h
        obtain ⟨y, h4, h5, h6⟩ := ih hc.2 h.2
        have : ∃ x, (frz 11 d).run H = some x ∧ Nr c x.1 ∧ ∀ i ∈ x.2, dead H i := by
          have h1 := h.1
          unfold cellV at h1
          cases hs : sc c with
          | true =>
            rw [hs] at h1
            simp only [VR] at h1
            subst h1
            exact ⟨_, sc_frz hs 10, Nr.of_sc hs, by simp⟩
          | false =>
            rw [hs] at h1
            simp only [VR] at h1
            exact (h1.up (by decide : 1 ≤ 11)).frz
        obtain ⟨x, h1, h2, h3⟩ := this
        refine ⟨(x.1 :: y.1, x.2 ++ y.2), by simp [eachC, run_bindE, h1, h4, Eff.run], ⟨h2, h5⟩, fun i hi => ?_⟩
        simp at hi
        exact hi.elim (h3 i) (h6 i)
  intro l
  induction l with
  | nil =>
    intro es h
    cases es with
    | nil => exact ⟨([], []), rfl, trivial, by simp⟩
    | cons => exact h.elim
  | cons a l ih =>
    intro es h
    cases es with
    | nil => exact h.elim
    | cons e es =>
      obtain ⟨x, h1, h2, h3⟩ := hC (hc a) h.1
      obtain ⟨y, h4, h5, h6⟩ := ih h.2
      refine ⟨(x.1 :: y.1, x.2 ++ y.2), by simp [eachE, run_bindE, h1, h4, Eff.run], ⟨h2, h5⟩, fun i hi => ?_⟩
      simp at hi
      exact hi.elim (h3 i) (h6 i)
theorem argW {c : β → List D} {l : List β} {o : Option Nat} {off len sz : Nat} {k : List Nat} (i : Nat) (hik : k.contains i = true) (hR : R[i]? = some ⟨o, sz, vl c l⟩) (hx : evV E x = some (.ref o off len)) (hl : off + len ≤ l.length) (hc : ∀ a, (c a).all okc = true) :
    ArgOk N E R fr b av k x (.c 1 (.lst sz (((l.drop off).take len).map c))) := by
  intro s hs
  have h := hs.ev hx
  simp only [VR] at h
  rcases h with ⟨id, rfl, hd⟩ | ⟨rfl, rfl, rfl, hd⟩
  · rcases hs.root hR with ⟨e, _⟩ | ⟨id', es', S', e, hh, hv⟩
    · cases e
    · injection e with e; subst e
      obtain ⟨ha, _⟩ := hv.flat (vl_flat c l)
      have := ha.len
      rw [vl_len] at this
      have hw : All2 (VRs s.hp) (vl c ((l.drop off).take len)) ((es'.drop off).take len) := by
        rw [← vl_take, ← vl_drop]
        exact (ha.drop off).take len
      obtain ⟨x, q1, q2, q3⟩ := out_nr hc hw
      refine ⟨(.lst sz x.1, id :: x.2), ?_, ?_, fun j hj => ?_⟩
      · rw [hd]
        simp only [fuelF, frz, Eff.run, hh]
        rw [if_pos (by omega)]
        simp only [run_bindE, q1, Option.bind_some, Eff.run]
      · simp only [VR]
        exact Cl.plain rfl (Nr.mk_lst q2)
      · simp at hj
        rcases hj with rfl | hj
        · exact .inr (ofR_top hs (by simpa using hik) hR)
        · exact .inl (q3 j hj)
  · refine ⟨(.nil, []), by rw [hd]; rfl, ?_, by simp⟩
    simp only [VR]
    exact Cl.plain rfl (by simp; exact Nr.mk_nil)
theorem argT {c : β → List D} {l : List β} {o : Option Nat} {sz : Nat} {k : List Nat} (i : Nat) (hik : k.contains i = true) (hR : R[i]? = some ⟨o, sz, vl c l⟩) (hx : evV E x = some (.ref o 0 l.length)) (hc : ∀ a, (c a).all okc = true) :
    ArgOk N E R fr b av k x (.c 1 (.lst sz (l.map c))) := by
  have := argW (N := N) (fr := fr) (b := b) (av := av) i hik hR hx (by simp) hc
  simpa using this
def ArgsOk (N : Nat) (E : Env) (R : List Rt) (fr : Nat → Option Blk) (b : Nat) (av : List Nat) (k : List Nat) : List (Nat × PX) → List V → Prop
  | [], [] => True
  | p :: as, v :: vs => p.1 = 0 ∧ ArgOk N E R fr b av k p.2 v ∧ ArgsOk N E R fr b av k as vs
  | _, _ => False
theorem prep_args (hs : EnvR N E R fr b av s) {k : List Nat} : ∀ {as : List (Nat × PX)} {vs : List V} {j : Nat}, ArgsOk N E R fr b av k as vs →
    ∃ ds ids, (prep (as.map fun p => (p.1, p.2.ev s.ts)) j).run s.hp = some ⟨ds, [], ids, []⟩ ∧ VRs [] vs ds ∧ ∀ id ∈ ids, dead s.hp id ∨ OfR R k s.hp id
  | [], [], j, _ => ⟨[], [], rfl, by simp [VRs], by simp⟩
  | (n, x) :: as, v :: vs, j, h => by
    obtain ⟨h0, h1, h2⟩ := h
    simp only at h0
    subst h0
    obtain ⟨z, q1, q2, q3⟩ := h1 s hs
    obtain ⟨ds, ids, q4, q5, q6⟩ := prep_args hs (j := j) h2
    refine ⟨z.1 :: ds, z.2 ++ ids, ?_, by simp only [VRs]; exact ⟨q2, q5⟩, fun id hi => ?_⟩
    · simp only [List.map_cons, prep, run_bindE, q1, q4, Option.bind_some, Eff.run]
    · simp at hi
      exact hi.elim (q3 id) (q6 id)
  | [], _ :: _, _, h => h.elim
  | _ :: _, [], _, h => h.elim

/-! ### what comes back -/
def impV : List RI → List (Option Nat) → List V
  | [], _ => []
  | .sc v :: rs, os => v :: impV rs os
  | .cl d :: rs, os => .c 1 d :: impV rs os
  | .own sz es :: rs, o :: os => .ref o 0 es.length :: impV rs os
  | .own sz es :: rs, [] => .x .undef :: impV rs []
def impR : List RI → List (Option Nat) → List Rt
  | [], _ => []
  | .sc v :: rs, os => impR rs os
  | .cl d :: rs, os => impR rs os
  | .own sz es :: rs, o :: os => ⟨o, sz, es⟩ :: impR rs os
  | .own sz es :: rs, [] => impR rs []
def impA : List RI → Nat → List Nat → List Nat
  | [], _, av => av
  | .own _ _ :: rs, k, av => impA rs (k + 1) (av.erase k)
  | _ :: rs, k, av => impA rs (k + 1) av
def impK : List RI → Nat → List Nat → Bool
  | [], _, _ => true
  | .own _ _ :: rs, k, av => av.contains k && impK rs (k + 1) (av.erase k)
  | _ :: rs, k, av => impK rs (k + 1) av
def nOwn : List RI → Nat
  | [] => 0
  | .own _ _ :: rs => nOwn rs + 1
  | _ :: rs => nOwn rs
theorem doWs_eq (H : Heap) (i : Nat) (k : Blk) (ws : List (Nat × Blk)) : doWs H ((i, k) :: ws) = doWs (H.set i k) ws := rfl
theorem scV_noown {H : Heap} {v : V} {sz : Nat} {es : List (List D)} (h : scV v = true) (k : VR H v (.own sz es)) : False := by
  cases v <;> simp only [VR] at k
  · subst k
    simp [scV, scal] at h
  · simp [scV] at h
  · rcases k with ⟨_, _, e⟩ | ⟨_, _, _, e⟩ <;> cases e
  · cases k
  · obtain ⟨_, e, _⟩ := k; cases e
  · simp [scV] at h
/-- Rows of a callee's that become the caller's. -/
theorem imp_ok : ∀ {Res : List RI} {xs : List D} {k : Nat} {R : List Rt} {av : List Nat} {s : St}, RIs Res xs → EnvR N E R fr b av s → impK Res k av = true →
    ∃ os, os.length = nOwn Res ∧ (∀ id ∈ (impL (b + k) xs).2.map (·.1), hat s.hp id = .fresh ∧ id < s.hp.length) ∧
      EnvR N E (R ++ impR Res os) fr b (impA Res k av) ⟨s.ts, doWs s.hp (impL (b + k) xs).2⟩ ∧ VRs [] ((impV Res os).map id) (impL (b + k) xs).1 ∧ ∀ r ∈ impR Res os, (∀ id, r.o = some id → hat s.hp id = .fresh) ∧ flatE r.es
  | [], [], k, R, av, s, _, h, _ => ⟨[], rfl, by simp [impL], by simpa [impR, impA, impL, doWs] using h, by simp [impV, impL, VRs], by simp [impR]⟩
  | r :: Res, xx :: xs, k, R, av, s, hr, h, hk => by
    obtain ⟨h1, h2⟩ := hr
    cases r with
    | sc v =>
      obtain ⟨os, o1, o2, o3, o4, o5⟩ := imp_ok (k := k + 1) h2 h (by simpa [impK] using hk)
      have hx : imp1 (b + k) xx = (xx, []) := by
        obtain ⟨hv, hx⟩ := h1
        cases xx <;> try rfl
        exact (scV_noown hv hx).elim
      refine ⟨os, by simpa [nOwn] using o1, ?_, ?_, ?_⟩
      · simpa [impL, hx, Nat.add_assoc] using o2
      · simpa [impL, hx, impR, impA, Nat.add_assoc] using o3
      · simp only [impV, List.map_cons, impL, hx, VRs]
        exact ⟨⟨h1.2, by simpa [Nat.add_assoc] using o4⟩, by simpa [impR] using o5⟩
    | cl d =>
      obtain ⟨os, o1, o2, o3, o4, o5⟩ := imp_ok (k := k + 1) h2 h (by simpa [impK] using hk)
      have hx : imp1 (b + k) xx = (xx, []) := by
        obtain ⟨_, hp, _⟩ := h1
        cases xx <;> simp [plain] at hp <;> rfl
      refine ⟨os, by simpa [nOwn] using o1, ?_, ?_, ?_⟩
      · simpa [impL, hx, Nat.add_assoc] using o2
      · simpa [impL, hx, impR, impA, Nat.add_assoc] using o3
      · simp only [impV, List.map_cons, impL, hx, VRs, id]
        exact ⟨⟨by simp only [VR]; exact Cl.plain h1.2.1 h1.2.2, by simpa [Nat.add_assoc] using o4⟩, by simpa [impR] using o5⟩
    | own sz es =>
      simp only [impK, Bool.and_eq_true] at hk
      have hmem : k ∈ av := by simpa using hk.1
      rcases h1 with ⟨rfl, rfl⟩ | ⟨es', rfl, q1, q2⟩
      · have hE : EnvR N E (R ++ [⟨none, sz, []⟩]) fr b (av.erase k) s := by
          obtain ⟨S, g1, g2, g3⟩ := h.ro
          exact ⟨h.len, h.sl, ⟨S, by simpa using g1.snoc (T := []) (.inl ⟨rfl, rfl, rfl⟩), g2, g3⟩, h.frm, h.avl.1.erase k, fun q hq => h.avl.2 q (List.mem_of_mem_erase hq)⟩
        obtain ⟨os, o1, o2, o3, o4, o5⟩ := imp_ok (k := k + 1) h2 hE hk.2
        have hx : imp1 (b + k) .nil = (.nil, []) := rfl
        refine ⟨none :: os, by simp [nOwn, o1], ?_, ?_, ?_⟩
        · simpa [impL, hx, Nat.add_assoc] using o2
        · simpa [impL, hx, impR, impA, Nat.add_assoc] using o3
        · simp only [impV, List.map_cons, impL, hx, VRs, id]
          refine ⟨⟨by simp only [VR]; exact .inr ⟨trivial, trivial, rfl, trivial⟩, by simpa [Nat.add_assoc] using o4⟩, fun r hr => ?_⟩
          simp only [impR, List.mem_cons] at hr
          rcases hr with rfl | hr
          · exact ⟨fun id e => (by cases e), fun e he => (by cases he)⟩
          · exact o5 r hr
      · have hE := h.new hmem (sz := sz) (es := es) (es' := es') (VOe.of_flat q2 (q1.mono fun _ _ _ h => by
          have hle : HLe [] s.hp := fun id sz es h => by simp [hat] at h
          exact VRs.heap hle h))
        obtain ⟨os, o1, o2, o3, o4, o5⟩ := imp_ok (k := k + 1) h2 hE hk.2
        have hx : imp1 (b + k) (.own sz es') = (.ref (b + k) 0 es'.length, [(b + k, .row sz es' true)]) := rfl
        obtain ⟨f1, f2, f3⟩ := h.avl.2 k hmem
        refine ⟨some (b + k) :: os, by simp [nOwn, o1], ?_, ?_, ?_⟩
        · intro id hid
          simp only [impL, hx, List.cons_append, List.nil_append, List.map_cons, List.mem_cons] at hid
          rcases hid with rfl | hid
          · exact ⟨f1, f2⟩
          · obtain ⟨p1, p2⟩ := o2 id (by simpa [Nat.add_assoc] using hid)
            simp only [hat_setJ f2] at p1
            split at p1
            · cases p1
            · exact ⟨p1, by simpa using p2⟩
        · simpa [impL, hx, impR, impA, Nat.add_assoc, doWs] using o3
        · simp only [impV, List.map_cons, impL, hx, VRs, id]
          refine ⟨⟨by simp only [VR]; exact .inl ⟨_, rfl, by rw [q1.len]⟩, by simpa [Nat.add_assoc] using o4⟩, fun r hr => ?_⟩
          simp only [impR, List.mem_cons] at hr
          rcases hr with rfl | hr
          · exact ⟨fun id e => (by injection e with e; subst e; exact f1), q2⟩
          · obtain ⟨z1, z2⟩ := o5 r hr
            refine ⟨fun id e => ?_, z2⟩
            have := z1 id e
            simp only [hat_setJ f2] at this
            split at this
            · cases this
            · exact this
  | [], _ :: _, _, _, _, _, h, _, _ => h.elim
  | _ :: _, [], _, _, _, _, h, _, _ => h.elim
theorem new_ids {H H' : Heap} {id : Nat} (hn : hat H id ≠ .fresh) : ∀ {R : List Rt} {T : List Nat}, (∀ r ∈ R, (∀ id, r.o = some id → hat H id = .fresh) ∧ flatE r.es) → RR H' R T → id ∉ T
  | [], T, _, h => by rw [h]; simp
  | r :: R, T, k, h => by
    obtain ⟨S1, S2, h1, h2, rfl⟩ := h
    obtain ⟨k1, k2⟩ := k r (by simp)
    have i2 := new_ids hn (fun r hr => k r (by simp [hr])) h2
    intro hm
    simp at hm
    rcases hm with hm | hm
    · rcases h1 with ⟨_, _, rfl⟩ | ⟨id', es', S', a1, a2, a3, rfl⟩
      · cases hm
      · obtain ⟨_, rfl⟩ := a3.flat k2
        simp at hm
        subst hm
        exact hn (k1 _ a1)
    · exact i2 hm
theorem hat_modifyJ {H : Heap} {i j : Nat} : hat (H.modify i freeze) j = if j = i then freeze (hat H j) else hat H j := by
  unfold hat
  rw [List.getD_eq_getElem?_getD, List.getD_eq_getElem?_getD, List.getElem?_modify]
  by_cases e : i = j
  · subst e
    simp only [if_true]
    cases H[i]? <;> rfl
  · have e' : ¬ j = i := fun h => e h.symm
    simp only [e, e', if_false]
    cases H[j]? <;> rfl
theorem modify_dead {H : Heap} {id : Nat} (h : dead H id) : H.modify id freeze = H := by
  obtain ⟨sz, es, hd⟩ := h
  refine List.ext_getElem? fun j => ?_
  rw [List.getElem?_modify]
  by_cases e : id = j
  · subst e
    simp only [if_true]
    unfold hat at hd
    rw [List.getD_eq_getElem?_getD] at hd
    cases hj : H[id]? with
    | none => rfl
    | some k =>
      rw [hj] at hd
      simp at hd
      subst hd
      rfl
  · simp only [e, if_false]
    cases H[j]? <;> rfl
theorem HLe.modify (H : Heap) (i : Nat) : HLe H (H.modify i freeze) := by
  intro j sz' es' hj
  rw [hat_modifyJ]
  split
  · rw [hj]; rfl
  · exact hj
mutual
theorem VO.uniq {H : Heap} : ∀ {v : V} {d : D} {S T : List Nat}, VO H v d S → VO H v d T → S = T
  | .x _, _, _, _, h, k => by simp only [VO] at h k; rw [h.2, k.2]
  | .c _ _, _, _, _, h, k => by simp only [VO] at h k; rw [h.2, k.2]
  | .ref _ _ _, _, _, _, h, k => by simp only [VO] at h k; rw [h.2, k.2]
  | .ptr _ _ _ _, _, _, _, h, k => by simp only [VO] at h k; rw [h.2, k.2]
  | .own sz es, d, S, T, h, k => by
    simp only [VO] at h k
    rcases h with ⟨rfl, _, rfl⟩ | ⟨id, es', S', h1, h2, h3, rfl⟩ <;> rcases k with ⟨e, _, rfl⟩ | ⟨id', es'', T', k1, k2, k3, rfl⟩
    · rfl
    · cases k1
    · rw [h1] at e; cases e
    · rw [h1] at k1
      injection k1 with k1
      subst k1
      rw [h2] at k2
      injection k2 with _ k2
      subst k2
      rw [VOe.uniq h3 k3]
  | .agg vs, _, _, _, h, _ => by simp only [VO] at h
  | .tup vs, _, _, _, h, _ => by simp only [VO] at h
theorem VOs.uniq {H : Heap} : ∀ {v : List V} {d : List D} {S T : List Nat}, VOs H v d S → VOs H v d T → S = T
  | [], [], _, _, h, k => by simp only [VOs] at h k; rw [h, k]
  | v :: vs, d :: ds, S, T, h, k => by
    simp only [VOs] at h k
    obtain ⟨S1, S2, h1, h2, rfl⟩ := h
    obtain ⟨T1, T2, k1, k2, rfl⟩ := k
    rw [VO.uniq h1 k1, VOs.uniq h2 k2]
  | [], _ :: _, _, _, h, _ => by simp [VOs] at h
  | _ :: _, [], _, _, h, _ => by simp [VOs] at h
theorem VOe.uniq {H : Heap} : ∀ {v : List (List V)} {d : List (List D)} {S T : List Nat}, VOe H v d S → VOe H v d T → S = T
  | [], [], _, _, h, k => by simp only [VOe] at h k; rw [h, k]
  | v :: vs, d :: ds, S, T, h, k => by
    simp only [VOe] at h k
    obtain ⟨S1, S2, h1, h2, rfl⟩ := h
    obtain ⟨T1, T2, k1, k2, rfl⟩ := k
    rw [VOs.uniq h1 k1, VOe.uniq h2 k2]
  | [], _ :: _, _, _, h, _ => by simp [VOe] at h
  | _ :: _, [], _, _, h, _ => by simp [VOe] at h
end
theorem RR.uniq {H : Heap} : ∀ {R : List Rt} {S T : List Nat}, RR H R S → RR H R T → S = T
  | [], _, _, h, k => by rw [h, k]
  | r :: R, S, T, h, k => by
    obtain ⟨S1, S2, h1, h2, rfl⟩ := h
    obtain ⟨T1, T2, k1, k2, rfl⟩ := k
    rw [RR.uniq h2 k2]
    congr 1
    rcases h1 with ⟨a1, a2, rfl⟩ | ⟨id, es', S', a1, a2, a3, rfl⟩ <;> rcases k1 with ⟨b1, b2, rfl⟩ | ⟨id', es'', T', b1, b2, b3, rfl⟩
    · rfl
    · rw [a1] at b1; cases b1
    · rw [a1] at b1; cases b1
    · rw [a1] at b1; injection b1 with b1; subst b1
      rw [a2] at b2; injection b2 with _ b2; subst b2
      rw [a3.uniq b3]
theorem RootR.uniq {H : Heap} {r : Rt} {S T : List Nat} (h : RootR H r S) (k : RootR H r T) : S = T := by
  have := RR.uniq (R := [r]) ⟨S, [], h, rfl, rfl⟩ ⟨T, [], k, rfl, rfl⟩
  simpa using this
/-- A row that nobody owns any more. -/
def Free (fr : Nat → Option Blk) (R : List Rt) (H : Heap) (id : Nat) : Prop := dead H id ∨ (fr id = none ∧ (∃ sz es lv, hat H id = .row sz es lv) ∧ ∀ S, RR H R S → id ∉ S)
/-- Rows that were given away, and rows that are dead: they may be made dead. -/
theorem EnvR.freeze1 (h : EnvR N E R fr b av s) {id : Nat} (hid : Free fr R s.hp id) : EnvR N E R fr b av ⟨s.ts, s.hp.modify id freeze⟩ ∧ ∀ j, Free fr R s.hp j → Free fr R (s.hp.modify id freeze) j := by
  rcases hid with hd | ⟨hfr, ⟨sz, es, lv, hh⟩, h4⟩
  · rw [modify_dead hd]; exact ⟨h, fun j hj => hj⟩
  · have hst : ∀ j, j ≠ id → hat (s.hp.modify id freeze) j = hat s.hp j := fun j hj => by rw [hat_modifyJ, if_neg hj]
    have hle := HLe.modify s.hp id
    obtain ⟨S, h1, h2, h3⟩ := h.ro
    have hS := h4 S h1
    have h1' : RR (s.hp.modify id freeze) R S := h1.heap hle fun j hj => hst j (fun e => hS (e ▸ hj))
    refine ⟨⟨h.len, fun i v hv => (h.sl i v hv).heap hle, ⟨S, h1', h2, h3⟩, fun j k hk => ?_, h.avl.1, fun q hq => ?_⟩, fun j hj => ?_⟩
    · obtain ⟨q1, q2⟩ := h.frm j k hk
      have : j ≠ id := fun e => by rw [e, hfr] at hk; cases hk
      exact ⟨by rw [hst j this]; exact q1, by simpa using q2⟩
    · obtain ⟨g1, g2, g3⟩ := h.avl.2 q hq
      have : b + q ≠ id := fun e => by rw [e, hh] at g1; cases g1
      exact ⟨by rw [hst _ this]; exact g1, by simpa using g2, g3⟩
    · rcases hj with ⟨sz', es', hj⟩ | ⟨j1, ⟨sz', es', lv', j2⟩, j3⟩
      · exact .inl ⟨sz', es', hle _ _ _ hj⟩
      · refine .inr ⟨j1, ?_, fun T hT => ?_⟩
        · by_cases e : j = id
          · exact ⟨sz', es', false, by rw [hat_modifyJ, if_pos e, j2]; rfl⟩
          · exact ⟨sz', es', lv', by rw [hst j e]; exact j2⟩
        · rw [RR.uniq hT h1']; exact j3 S h1
theorem EnvR.freezeL : ∀ {ids : List Nat} {s : St}, EnvR N E R fr b av s → (∀ id ∈ ids, Free fr R s.hp id) → EnvR N E R fr b av ⟨s.ts, doFz s.hp ids⟩
  | [], s, h, _ => h
  | i :: ids, s, h, k => by
    obtain ⟨h1, h2⟩ := h.freeze1 (k i (by simp))
    exact EnvR.freezeL (s := ⟨s.ts, s.hp.modify i freeze⟩) h1 fun id hid => h2 id (k id (by simp [hid]))
end
end Go.Pi
