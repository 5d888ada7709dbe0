import Derived.Test.YtghncdeldlknnaaJA
/-
  VALUES: what a slot holds, what a row's cells hold, which rows are whose.
-/
set_option linter.all false
namespace Go.Pi
set_option linter.unusedVariables false

inductive V where
  | x (d : D)
  | c (n : Nat) (d : D)
  | ref (o : Option Nat) (off len : Nat)
  | ptr (id sz i j : Nat)
  | own (sz : Nat) (es : List (List V))
  | agg (vs : List V)
  | tup (vs : List V)
  deriving Inhabited

mutual
def VR (H : Heap) : V → D → Prop
  | .x d0, d => d = d0
  | .c n d0, d => Cl H n d0 d
  | .ref o off len, d => (∃ id, o = some id ∧ d = .ref id off len) ∨ (o = none ∧ off = 0 ∧ len = 0 ∧ d = .nil)
  | .ptr id sz i j, d => d = .ptr id (i * sz + j)
  | .own _ _, _ => False
  | .agg vs, d => ∃ ds, d = .agg ds ∧ VRs H vs ds
  | .tup vs, d => ∃ ds, d = .tup ds ∧ VRs H vs ds
def VRs (H : Heap) : List V → List D → Prop
  | [], [] => True
  | v :: vs, d :: ds => VR H v d ∧ VRs H vs ds
  | _, _ => False
end
mutual
def VO (H : Heap) : V → D → List Nat → Prop
  | .x d0, d, S => d = d0 ∧ S = []
  | .c n d0, d, S => Cl H n d0 d ∧ S = []
  | .ref o off len, d, S => VR H (.ref o off len) d ∧ S = []
  | .ptr id sz i j, d, S => d = .ptr id (i * sz + j) ∧ S = []
  | .own sz es, d, S => (d = .nil ∧ es = [] ∧ S = []) ∨ ∃ id es' S', d = .ref id 0 es.length ∧ hat H id = .row sz es' true ∧ VOe H es es' S' ∧ S = id :: S'
  | .agg _, _, _ => False
  | .tup _, _, _ => False
def VOs (H : Heap) : List V → List D → List Nat → Prop
  | [], [], S => S = []
  | v :: vs, d :: ds, S => ∃ S1 S2, VO H v d S1 ∧ VOs H vs ds S2 ∧ S = S1 ++ S2
  | _, _, _ => False
def VOe (H : Heap) : List (List V) → List (List D) → List Nat → Prop
  | [], [], S => S = []
  | e :: es, d :: ds, S => ∃ S1 S2, VOs H e d S1 ∧ VOe H es ds S2 ∧ S = S1 ++ S2
  | _, _, _ => False
end
/-- A cell that owns nothing. -/
def flat : V → Bool
  | .own _ _ | .agg _ | .tup _ => false
  | _ => true

mutual
theorem VR.heap {H H' : Heap} (hh : HLe H H') : ∀ {v : V} {d : D}, VR H v d → VR H' v d
  | .x _, _, h => h
  | .c _ _, _, h => by simp only [VR] at h ⊢; exact h.heap hh
  | .ref _ _ _, _, h => by simpa only [VR] using h
  | .ptr _ _ _ _, _, h => by simpa only [VR] using h
  | .own _ _, _, h => by simp only [VR] at h
  | .agg vs, _, h => by
    simp only [VR] at h ⊢
    obtain ⟨ds, h1, h2⟩ := h
    exact ⟨ds, h1, VRs.heap hh h2⟩
  | .tup vs, _, h => by
    simp only [VR] at h ⊢
    obtain ⟨ds, h1, h2⟩ := h
    exact ⟨ds, h1, VRs.heap hh h2⟩
theorem VRs.heap {H H' : Heap} (hh : HLe H H') : ∀ {v : List V} {d : List D}, VRs H v d → VRs H' v d
  | [], [], _ => trivial
  | v :: vs, d :: ds, h => by
    simp only [VRs] at h ⊢
    exact ⟨VR.heap hh h.1, VRs.heap hh h.2⟩
  | [], _ :: _, h => by simp [VRs] at h
  | _ :: _, [], h => by simp [VRs] at h
end
mutual
theorem VO.heap {H H' : Heap} (hh : HLe H H') : ∀ {v : V} {d : D} {S : List Nat}, VO H v d S → (∀ id ∈ S, hat H' id = hat H id) → VO H' v d S
  | .x _, _, _, h, _ => by simpa only [VO] using h
  | .c _ _, _, _, h, _ => by simp only [VO] at h ⊢; exact ⟨h.1.heap hh, h.2⟩
  | .ref _ _ _, _, _, h, _ => by simpa only [VO, VR] using h
  | .ptr _ _ _ _, _, _, h, _ => by simpa only [VO] using h
  | .own sz es, d, S, h, k => by
    simp only [VO] at h ⊢
    rcases h with h | ⟨id, es', S', h1, h2, h3, rfl⟩
    · exact .inl h
    · exact .inr ⟨id, es', S', h1, by rw [k id (by simp)]; exact h2, VOe.heap hh h3 (fun i hi => k i (by simp [hi])), rfl⟩
  | .agg vs, _, _, h, _ => by simp only [VO] at h
  | .tup vs, _, _, h, _ => by simp only [VO] at h
theorem VOs.heap {H H' : Heap} (hh : HLe H H') : ∀ {v : List V} {d : List D} {S : List Nat}, VOs H v d S → (∀ id ∈ S, hat H' id = hat H id) → VOs H' v d S
  | [], [], _, h, _ => by simpa only [VOs] using h
  | v :: vs, d :: ds, S, h, k => by
    simp only [VOs] at h ⊢
    obtain ⟨S1, S2, h1, h2, rfl⟩ := h
    exact ⟨S1, S2, VO.heap hh h1 (fun i hi => k i (by simp [hi])), VOs.heap hh h2 (fun i hi => k i (by simp [hi])), rfl⟩
  | [], _ :: _, _, h, _ => by simp [VOs] at h
  | _ :: _, [], _, h, _ => by simp [VOs] at h
theorem VOe.heap {H H' : Heap} (hh : HLe H H') : ∀ {v : List (List V)} {d : List (List D)} {S : List Nat}, VOe H v d S → (∀ id ∈ S, hat H' id = hat H id) → VOe H' v d S
  | [], [], _, h, _ => by simpa only [VOe] using h
  | v :: vs, d :: ds, S, h, k => by
    simp only [VOe] at h ⊢
    obtain ⟨S1, S2, h1, h2, rfl⟩ := h
    exact ⟨S1, S2, VOs.heap hh h1 (fun i hi => k i (by simp [hi])), VOe.heap hh h2 (fun i hi => k i (by simp [hi])), rfl⟩
  | [], _ :: _, _, h, _ => by simp [VOe] at h
  | _ :: _, [], _, h, _ => by simp [VOe] at h
end
theorem VOs.len {H : Heap} : ∀ {v : List V} {d : List D} {S : List Nat}, VOs H v d S → v.length = d.length
  | [], [], _, _ => rfl
  | v :: vs, d :: ds, S, h => by
    simp only [VOs] at h
    obtain ⟨S1, S2, h1, h2, rfl⟩ := h
    simp [h2.len]
  | [], _ :: _, _, h => by simp [VOs] at h
  | _ :: _, [], _, h => by simp [VOs] at h
theorem VOe.len {H : Heap} : ∀ {v : List (List V)} {d : List (List D)} {S : List Nat}, VOe H v d S → v.length = d.length
  | [], [], _, _ => rfl
  | v :: vs, d :: ds, S, h => by
    simp only [VOe] at h
    obtain ⟨S1, S2, h1, h2, rfl⟩ := h
    simp [h2.len]
  | [], _ :: _, _, h => by simp [VOe] at h
  | _ :: _, [], _, h => by simp [VOe] at h
theorem VRs.len {H : Heap} : ∀ {v : List V} {d : List D}, VRs H v d → v.length = d.length
  | [], [], _ => rfl
  | v :: vs, d :: ds, h => by
    simp only [VRs] at h
    simp [h.2.len]
  | [], _ :: _, h => by simp [VRs] at h
  | _ :: _, [], h => by simp [VRs] at h
theorem VRs.get {H : Heap} : ∀ {v : List V} {d : List D}, VRs H v d → ∀ {i : Nat} {x : V}, v[i]? = some x → ∃ y, d[i]? = some y ∧ VR H x y
  | [], [], _, _, _, h => by simp at h
  | v :: vs, d :: ds, h, 0, x, hx => by simp only [VRs] at h; simp at hx; subst hx; exact ⟨d, rfl, h.1⟩
  | v :: vs, d :: ds, h, i + 1, x, hx => by simp only [VRs] at h; simpa using h.2.get (by simpa using hx)
  | [], _ :: _, h, _, _, _ => by simp [VRs] at h
  | _ :: _, [], h, _, _, _ => by simp [VRs] at h
theorem VRs.take {H : Heap} : ∀ {v : List V} {d : List D} (n : Nat), VRs H v d → VRs H (v.take n) (d.take n)
  | [], [], _, _ => by simp [VRs]
  | v :: vs, d :: ds, 0, h => by simp [VRs]
  | v :: vs, d :: ds, n + 1, h => by simp only [VRs, List.take_succ_cons] at h ⊢; exact ⟨h.1, h.2.take n⟩
  | [], _ :: _, _, h => by simp [VRs] at h
  | _ :: _, [], _, h => by simp [VRs] at h
theorem VRs.drop {H : Heap} : ∀ {v : List V} {d : List D} (n : Nat), VRs H v d → VRs H (v.drop n) (d.drop n)
  | [], [], _, _ => by simp [VRs]
  | v :: vs, d :: ds, 0, h => h
  | v :: vs, d :: ds, n + 1, h => by simp only [VRs, List.drop_succ_cons] at h ⊢; exact h.2.drop n
  | [], _ :: _, _, h => by simp [VRs] at h
  | _ :: _, [], _, h => by simp [VRs] at h
theorem VRs.append {H : Heap} : ∀ {v w : List V} {d e : List D}, VRs H v d → VRs H w e → VRs H (v ++ w) (d ++ e)
  | [], _, [], _, _, h => h
  | v :: vs, _, d :: ds, _, h, k => by simp only [VRs, List.cons_append] at h ⊢; exact ⟨h.1, h.2.append k⟩
  | [], _, _ :: _, _, h, _ => by simp [VRs] at h
  | _ :: _, _, [], _, h, _ => by simp [VRs] at h
theorem VO.of_VR {H : Heap} {v : V} {d : D} (hf : flat v = true) (h : VR H v d) : VO H v d [] := by
  cases v <;> simp [flat] at hf <;> simp only [VO, VR] at h ⊢ <;> exact ⟨h, trivial⟩
theorem VO.to_VR {H : Heap} {v : V} {d : D} {S : List Nat} (hf : flat v = true) (h : VO H v d S) : VR H v d ∧ S = [] := by
  cases v <;> simp [flat] at hf <;> simp only [VO, VR] at h ⊢ <;> exact h
theorem VOs.of_VRs {H : Heap} : ∀ {v : List V} {d : List D}, v.all flat = true → VRs H v d → VOs H v d []
  | [], [], _, _ => by simp [VOs]
  | v :: vs, d :: ds, hf, h => by
    simp only [VRs, List.all_cons, Bool.and_eq_true] at h hf
    simp only [VOs]
    exact ⟨[], [], .of_VR hf.1 h.1, .of_VRs hf.2 h.2, rfl⟩
  | [], _ :: _, _, h => by simp [VRs] at h
  | _ :: _, [], _, h => by simp [VRs] at h
theorem VOs.to_VRs {H : Heap} : ∀ {v : List V} {d : List D} {S : List Nat}, v.all flat = true → VOs H v d S → VRs H v d ∧ S = []
  | [], [], _, _, h => by simpa [VRs, VOs] using h
  | v :: vs, d :: ds, S, hf, h => by
    simp only [VOs, List.all_cons, Bool.and_eq_true] at h hf
    obtain ⟨S1, S2, h1, h2, rfl⟩ := h
    obtain ⟨k1, rfl⟩ := h1.to_VR hf.1
    obtain ⟨k2, rfl⟩ := h2.to_VRs hf.2
    exact ⟨by simp only [VRs]; exact ⟨k1, k2⟩, rfl⟩
  | [], _ :: _, _, _, h => by simp [VOs] at h
  | _ :: _, [], _, _, h => by simp [VOs] at h
/-- An element, and what stands in its place. -/
theorem VOe.at {H : Heap} : ∀ {es : List (List V)} {ds : List (List D)} {S : List Nat}, VOe H es ds S → ∀ {i : Nat} {e : List V}, es[i]? = some e →
    ∃ d S1 S2 S3, ds[i]? = some d ∧ VOs H e d S2 ∧ S = S1 ++ S2 ++ S3 ∧
      ∀ H', HLe H H' → (∀ id ∈ S1 ++ S3, hat H' id = hat H id) → ∀ e' d' S', VOs H' e' d' S' → VOe H' (es.set i e') (ds.set i d') (S1 ++ S' ++ S3)
  | [], [], _, _, i, e, h => by simp at h
  | e0 :: es, d0 :: ds, S, h, 0, e, he => by
    simp only [VOe] at h
    obtain ⟨S1, S2, h1, h2, rfl⟩ := h
    simp at he; subst he
    refine ⟨d0, [], S1, S2, rfl, h1, by simp, fun H' hh hs e' d' S' hv => ?_⟩
    simp only [List.set_cons_zero, VOe]
    exact ⟨S', S2, hv, h2.heap hh fun i hi => hs i (by simp [hi]), by simp⟩
  | e0 :: es, d0 :: ds, S, h, i + 1, e, he => by
    simp only [VOe] at h
    obtain ⟨S1, S2, h1, h2, rfl⟩ := h
    obtain ⟨d, T1, T2, T3, k1, k2, rfl, k4⟩ := h2.at (i := i) (e := e) (by simpa using he)
    refine ⟨d, S1 ++ T1, T2, T3, by simpa using k1, k2, by simp, fun H' hh hs e' d' S' hv => ?_⟩
    simp only [List.set_cons_succ, VOe]
    exact ⟨S1, T1 ++ S' ++ T3, h1.heap hh fun i hi => hs i (by simp [hi]), k4 H' hh (fun i hi => hs i (by simp at hi ⊢; rcases hi with hi | hi <;> simp [hi])) e' d' S' hv, by simp⟩
  | [], _ :: _, _, h, _, _, _ => by simp [VOe] at h
  | _ :: _, [], _, h, _, _, _ => by simp [VOe] at h
theorem VOs.at {H : Heap} : ∀ {es : List V} {ds : List D} {S : List Nat}, VOs H es ds S → ∀ {i : Nat} {e : V}, es[i]? = some e →
    ∃ d S1 S2 S3, ds[i]? = some d ∧ VO H e d S2 ∧ S = S1 ++ S2 ++ S3 ∧
      ∀ H', HLe H H' → (∀ id ∈ S1 ++ S3, hat H' id = hat H id) → ∀ e' d' S', VO H' e' d' S' → VOs H' (es.set i e') (ds.set i d') (S1 ++ S' ++ S3)
  | [], [], _, _, i, e, h => by simp at h
  | e0 :: es, d0 :: ds, S, h, 0, e, he => by
    simp only [VOs] at h
    obtain ⟨S1, S2, h1, h2, rfl⟩ := h
    simp at he; subst he
    refine ⟨d0, [], S1, S2, rfl, h1, by simp, fun H' hh hs e' d' S' hv => ?_⟩
    simp only [List.set_cons_zero, VOs]
    exact ⟨S', S2, hv, h2.heap hh fun i hi => hs i (by simp [hi]), by simp⟩
  | e0 :: es, d0 :: ds, S, h, i + 1, e, he => by
    simp only [VOs] at h
    obtain ⟨S1, S2, h1, h2, rfl⟩ := h
    obtain ⟨d, T1, T2, T3, k1, k2, rfl, k4⟩ := h2.at (i := i) (e := e) (by simpa using he)
    refine ⟨d, S1 ++ T1, T2, T3, by simpa using k1, k2, by simp, fun H' hh hs e' d' S' hv => ?_⟩
    simp only [List.set_cons_succ, VOs]
    exact ⟨S1, T1 ++ S' ++ T3, h1.heap hh fun i hi => hs i (by simp [hi]), k4 H' hh (fun i hi => hs i (by simp at hi ⊢; rcases hi with hi | hi <;> simp [hi])) e' d' S' hv, by simp⟩
  | [], _ :: _, _, h, _, _, _ => by simp [VOs] at h
  | _ :: _, [], _, h, _, _, _ => by simp [VOs] at h
theorem VOe.take {H : Heap} : ∀ {es : List (List V)} {ds : List (List D)} {S : List Nat} (n : Nat), VOe H es ds S → ∃ S1 S2, S = S1 ++ S2 ∧ VOe H (es.take n) (ds.take n) S1 ∧ VOe H (es.drop n) (ds.drop n) S2
  | [], [], S, n, h => by simp only [VOe] at h; subst h; exact ⟨[], [], rfl, by simp [VOe], by simp [VOe]⟩
  | e :: es, d :: ds, S, 0, h => ⟨[], S, rfl, by simp [VOe], h⟩
  | e :: es, d :: ds, S, n + 1, h => by
    simp only [VOe] at h
    obtain ⟨S1, S2, h1, h2, rfl⟩ := h
    obtain ⟨T1, T2, rfl, k1, k2⟩ := h2.take n
    exact ⟨S1 ++ T1, T2, by simp, by simp only [List.take_succ_cons, VOe]; exact ⟨S1, T1, h1, k1, rfl⟩, by simpa using k2⟩
  | [], _ :: _, _, _, h => by simp [VOe] at h
  | _ :: _, [], _, _, h => by simp [VOe] at h
theorem VOe.append {H : Heap} : ∀ {es fs : List (List V)} {ds gs : List (List D)} {S T : List Nat}, VOe H es ds S → VOe H fs gs T → VOe H (es ++ fs) (ds ++ gs) (S ++ T)
  | [], _, [], _, S, T, h, k => by simp only [VOe] at h; subst h; exact k
  | e :: es, _, d :: ds, _, S, T, h, k => by
    simp only [VOe, List.cons_append] at h ⊢
    obtain ⟨S1, S2, h1, h2, rfl⟩ := h
    exact ⟨S1, S2 ++ T, h1, h2.append k, by simp⟩
  | [], _, _ :: _, _, _, _, h, _ => by simp [VOe] at h
  | _ :: _, _, [], _, _, _, h, _ => by simp [VOe] at h
/-- Cells that own nothing. -/
def flatE (es : List (List V)) : Prop := ∀ e ∈ es, e.all flat = true
theorem VOe.flat {H : Heap} : ∀ {es : List (List V)} {ds : List (List D)} {S : List Nat}, flatE es → VOe H es ds S → All2 (VRs H) es ds ∧ S = []
  | [], [], S, _, h => by simpa [VOe, All2] using h
  | e :: es, d :: ds, S, hf, h => by
    simp only [VOe] at h
    obtain ⟨S1, S2, h1, h2, rfl⟩ := h
    obtain ⟨k1, rfl⟩ := h1.to_VRs (hf e (by simp))
    obtain ⟨k2, rfl⟩ := VOe.flat (fun e he => hf e (by simp [he])) h2
    exact ⟨⟨k1, k2⟩, rfl⟩
  | [], _ :: _, _, _, h => by simp [VOe] at h
  | _ :: _, [], _, _, h => by simp [VOe] at h
theorem VOe.of_flat {H : Heap} : ∀ {es : List (List V)} {ds : List (List D)}, flatE es → All2 (VRs H) es ds → VOe H es ds []
  | [], [], _, _ => by simp [VOe]
  | e :: es, d :: ds, hf, h => by
    simp only [VOe]
    exact ⟨[], [], .of_VRs (hf e (by simp)) h.1, VOe.of_flat (fun e he => hf e (by simp [he])) h.2, rfl⟩
  | [], _ :: _, _, h => h.elim
  | _ :: _, [], _, h => h.elim

/-! ### the rows that are the call's own -/
structure Rt where
  o : Option Nat
  sz : Nat
  es : List (List V)
def RootR (H : Heap) (r : Rt) (S : List Nat) : Prop :=
  (r.o = none ∧ r.es = [] ∧ S = []) ∨ ∃ id es' S', r.o = some id ∧ hat H id = .row r.sz es' true ∧ VOe H r.es es' S' ∧ S = id :: S'
def RR (H : Heap) : List Rt → List Nat → Prop
  | [], S => S = []
  | r :: R, S => ∃ S1 S2, RootR H r S1 ∧ RR H R S2 ∧ S = S1 ++ S2
theorem RootR.heap {H H' : Heap} (hh : HLe H H') {r : Rt} {S : List Nat} (h : RootR H r S) (k : ∀ id ∈ S, hat H' id = hat H id) : RootR H' r S := by
  rcases h with h | ⟨id, es', S', h1, h2, h3, rfl⟩
  · exact .inl h
  · exact .inr ⟨id, es', S', h1, by rw [k id (by simp)]; exact h2, h3.heap hh (fun i hi => k i (by simp [hi])), rfl⟩
theorem RR.heap {H H' : Heap} (hh : HLe H H') : ∀ {R : List Rt} {S : List Nat}, RR H R S → (∀ id ∈ S, hat H' id = hat H id) → RR H' R S
  | [], _, h, _ => h
  | r :: R, S, h, k => by
    obtain ⟨S1, S2, h1, h2, rfl⟩ := h
    exact ⟨S1, S2, h1.heap hh (fun i hi => k i (by simp [hi])), h2.heap hh (fun i hi => k i (by simp [hi])), rfl⟩
theorem RR.at {H : Heap} : ∀ {R : List Rt} {S : List Nat}, RR H R S → ∀ {i : Nat} {r : Rt}, R[i]? = some r →
    ∃ S1 S2 S3, RootR H r S2 ∧ S = S1 ++ S2 ++ S3 ∧ (∀ H', HLe H H' → (∀ id ∈ S1 ++ S3, hat H' id = hat H id) → (∀ r' S', RootR H' r' S' → RR H' (R.set i r') (S1 ++ S' ++ S3)) ∧ RR H' (R.eraseIdx i) (S1 ++ S3))
  | [], _, _, i, r, h => by simp at h
  | r0 :: R, S, h, 0, r, hr => by
    obtain ⟨S1, S2, h1, h2, rfl⟩ := h
    simp at hr; subst hr
    refine ⟨[], S1, S2, h1, by simp, fun H' hh hs => ⟨fun r' S' hv => ?_, by simpa using h2.heap hh fun i hi => hs i (by simp [hi])⟩⟩
    exact ⟨S', S2, hv, h2.heap hh fun i hi => hs i (by simp [hi]), by simp⟩
  | r0 :: R, S, h, i + 1, r, hr => by
    obtain ⟨S1, S2, h1, h2, rfl⟩ := h
    obtain ⟨T1, T2, T3, k2, rfl, k4⟩ := h2.at (i := i) (r := r) (by simpa using hr)
    refine ⟨S1 ++ T1, T2, T3, k2, by simp, fun H' hh hs => ?_⟩
    have e1 : RootR H' r0 S1 := h1.heap hh fun i hi => hs i (by simp [hi])
    obtain ⟨g1, g2⟩ := k4 H' hh (fun i hi => hs i (by simp at hi ⊢; rcases hi with hi | hi <;> simp [hi]))
    refine ⟨fun r' S' hv => ?_, ?_⟩
    · simp only [List.set_cons_succ, RR]
      exact ⟨S1, T1 ++ S' ++ T3, e1, g1 r' S' hv, by simp⟩
    · simp only [List.eraseIdx_cons_succ, RR]
      exact ⟨S1, T1 ++ T3, e1, g2, by simp⟩
theorem RR.snoc {H : Heap} : ∀ {R : List Rt} {S : List Nat} {r : Rt} {T : List Nat}, RR H R S → RootR H r T → RR H (R ++ [r]) (S ++ T)
  | [], S, r, T, h, k => by cases h; exact ⟨T, [], k, rfl, by simp⟩
  | r0 :: R, S, r, T, h, k => by
    obtain ⟨S1, S2, h1, h2, rfl⟩ := h
    exact ⟨S1, S2 ++ T, h1, h2.snoc k, by simp⟩
end Go.Pi
