import Derived.Test.YtghncdeldlknnaaJB
/-
  FROM WHAT IS KNOWN OF A STATE, A PIECE OF CODE COMES TO WHAT A TERM GIVES: the rules of control.
-/
set_option linter.all false
namespace Go.Pi
set_option linter.unusedVariables false

abbrev Env := List (Nat × V)
def Env.get : Env → Nat → Option V
  | [], _ => none
  | (j, v) :: E, i => match Nat.beq j i with
    | true => some v
    | false => Env.get E i

structure EnvR (N : Nat) (E : Env) (R : List Rt) (fr : Nat → Option Blk) (b : Nat) (av : List Nat) (s : St) : Prop where
  len : s.ts.length = N
  sl : ∀ i v, E.get i = some v → VR s.hp v (s.ts.getD i .undef)
  ro : ∃ S, RR s.hp R S ∧ S.Nodup ∧ ∀ id ∈ S, fr id = none
  frm : ∀ id k, fr id = some k → hat s.hp id = k ∧ id < s.hp.length
  avl : av.Nodup ∧ ∀ r ∈ av, hat s.hp (b + r) = .fresh ∧ b + r < s.hp.length ∧ fr (b + r) = none

section
variable {pr : Prog} {fr : Nat → Option Blk} {α β : Type} {N b : Nat} {av : List Nat} {E : Env} {R : List Rt} {m : Option α}

def JS (pr : Prog) (fr : Nat → Option Blk) (b : Nat) (av : List Nat) (N : Nat) (E : Env) (R : List Rt) (ops : List PO) (m : Option α) (Q : α → St → Prop) : Prop :=
  ∀ o, m = some o → ∀ s, EnvR N E R fr b av s → Steps pr b ops s (Q o)
def JC (pr : Prog) (fr : Nat → Option Blk) (N : Nat) (E : Env) (R : List Rt) (c : PC) (m : Option α) (Q : α → Ex → St → Prop) : Prop :=
  ∀ o, m = some o → ∀ s, EnvR N E R fr 0 [] s → Ends pr c s (Q o)

theorem Ends.skip_inv {s : St} {Q : Ex → St → Prop} (h : Ends pr .skip s Q) : Q .normal s := by
  obtain ⟨n, ex, s', h1, h2⟩ := h
  simp only [code, Option.some.injEq, Prod.mk.injEq] at h1
  obtain ⟨rfl, rfl⟩ := h1
  exact h2
theorem Ends.exit_inv {j : Nat} {s : St} {Q : Ex → St → Prop} (h : Ends pr (.exit j) s Q) : Q (.exit j) s := by
  obtain ⟨n, ex, s', h1, h2⟩ := h
  simp only [code, Option.some.injEq, Prod.mk.injEq] at h1
  obtain ⟨rfl, rfl⟩ := h1
  exact h2
theorem Ends.ret_inv {s : St} {Q : Ex → St → Prop} (h : Ends pr .ret s Q) : Q .ret s := by
  obtain ⟨n, ex, s', h1, h2⟩ := h
  simp only [code, Option.some.injEq, Prod.mk.injEq] at h1
  obtain ⟨rfl, rfl⟩ := h1
  exact h2

theorem hat_append_left {H L : Heap} {id : Nat} (h : id < H.length) : hat (H ++ L) id = hat H id := by
  unfold hat
  rw [List.getD_eq_getElem?_getD, List.getD_eq_getElem?_getD, List.getElem?_append_left h]
theorem hat_ltJ {H : Heap} {id : Nat} (h : hat H id ≠ .fresh) : id < H.length := by
  rcases Nat.lt_or_ge id H.length with h1 | h1
  · exact h1
  · exact absurd (by unfold hat; rw [List.getD_eq_getElem?_getD, List.getElem?_eq_none h1]; rfl) h
theorem HLe.append (H L : Heap) : HLe H (H ++ L) := fun id sz es h => by
  rw [hat_append_left (hat_ltJ (by rw [h]; intro e; cases e))]; exact h
mutual
theorem VO.alive {H : Heap} : ∀ {v : V} {d : D} {S : List Nat}, VO H v d S → ∀ id ∈ S, ∃ sz es, hat H id = .row sz es true
  | .x _, _, _, h, id, hi => by simp only [VO] at h; rw [h.2] at hi; cases hi
  | .c _ _, _, _, h, id, hi => by simp only [VO] at h; rw [h.2] at hi; cases hi
  | .ref _ _ _, _, _, h, id, hi => by simp only [VO] at h; rw [h.2] at hi; cases hi
  | .ptr _ _ _ _, _, _, h, id, hi => by simp only [VO] at h; rw [h.2] at hi; cases hi
  | .own sz es, d, S, h, id, hi => by
    simp only [VO] at h
    rcases h with ⟨_, _, rfl⟩ | ⟨id', es', S', h1, h2, h3, rfl⟩
    · cases hi
    · simp at hi
      rcases hi with rfl | hi
      · exact ⟨_, _, h2⟩
      · exact VOe.alive h3 id hi
  | .agg vs, _, _, h, _, _ => by simp only [VO] at h
  | .tup vs, _, _, h, _, _ => by simp only [VO] at h
theorem VOs.alive {H : Heap} : ∀ {v : List V} {d : List D} {S : List Nat}, VOs H v d S → ∀ id ∈ S, ∃ sz es, hat H id = .row sz es true
  | [], [], _, h, id, hi => by simp only [VOs] at h; rw [h] at hi; cases hi
  | v :: vs, d :: ds, S, h, id, hi => by
    simp only [VOs] at h
    obtain ⟨S1, S2, h1, h2, rfl⟩ := h
    simp at hi
    exact hi.elim (VO.alive h1 id) (VOs.alive h2 id)
  | [], _ :: _, _, h, _, _ => by simp [VOs] at h
  | _ :: _, [], _, h, _, _ => by simp [VOs] at h
theorem VOe.alive {H : Heap} : ∀ {v : List (List V)} {d : List (List D)} {S : List Nat}, VOe H v d S → ∀ id ∈ S, ∃ sz es, hat H id = .row sz es true
  | [], [], _, h, id, hi => by simp only [VOe] at h; rw [h] at hi; cases hi
  | v :: vs, d :: ds, S, h, id, hi => by
    simp only [VOe] at h
    obtain ⟨S1, S2, h1, h2, rfl⟩ := h
    simp at hi
    exact hi.elim (VOs.alive h1 id) (VOe.alive h2 id)
  | [], _ :: _, _, h, _, _ => by simp [VOe] at h
  | _ :: _, [], _, h, _, _ => by simp [VOe] at h
end
theorem RootR.alive {H : Heap} {r : Rt} {S : List Nat} (h : RootR H r S) : ∀ id ∈ S, ∃ sz es, hat H id = .row sz es true := by
  rcases h with ⟨_, _, rfl⟩ | ⟨id, es', S', h1, h2, h3, rfl⟩
  · intro id hi; cases hi
  · intro i hi
    simp at hi
    rcases hi with rfl | hi
    · exact ⟨_, _, h2⟩
    · exact h3.alive i hi
theorem RR.alive {H : Heap} : ∀ {R : List Rt} {S : List Nat}, RR H R S → ∀ id ∈ S, ∃ sz es, hat H id = .row sz es true
  | [], _, h, id, hi => by cases h; cases hi
  | r :: R, S, h, id, hi => by
    obtain ⟨S1, S2, h1, h2, rfl⟩ := h
    simp at hi
    exact hi.elim (h1.alive id) (h2.alive id)

/-- Rows that are added at the end, all fresh. -/
theorem EnvR.free {s : St} (h : EnvR N E R fr 0 [] s) (k : Nat) : EnvR N E R fr s.hp.length (List.range k) ⟨s.ts, s.hp ++ List.replicate k .fresh⟩ := by
  have hle := HLe.append s.hp (List.replicate k .fresh)
  refine ⟨h.len, fun i v hv => (h.sl i v hv).heap hle, ?_, fun id k hk => ?_, List.nodup_range, fun r hr => ?_⟩
  · obtain ⟨S, h1, h2, h3⟩ := h.ro
    refine ⟨S, h1.heap hle fun id hi => ?_, h2, h3⟩
    obtain ⟨sz, es, e⟩ := h1.alive id hi
    exact hat_append_left (hat_ltJ (by rw [e]; intro e; cases e))
  · obtain ⟨h1, h2⟩ := h.frm id k hk
    exact ⟨by rw [hat_append_left h2]; exact h1, by simp; omega⟩
  · have hr : r < k := by simpa using hr
    refine ⟨?_, by simp; exact hr, ?_⟩
    · simp only [hat, List.getD_eq_getElem?_getD]
      rw [List.getElem?_append_right (by omega)]
      simp [hr]
    · cases e : fr (s.hp.length + r) with
      | none => rfl
      | some x => exact absurd (h.frm _ _ e).2 (by omega)
theorem EnvR.shut {s : St} (h : EnvR N E R fr b av s) : EnvR N E R fr 0 [] s := ⟨h.len, h.sl, h.ro, h.frm, List.nodup_nil, by simp⟩

theorem JC.region {k : Nat} {ops : List PO} {Q : α → Ex → St → Prop} (h : ∀ b, JS pr fr b (List.range k) N E R ops m (fun o s => Q o .normal s)) : JC pr fr N E R (.region false k ops) m Q :=
  fun o ho s hs => Ends.region (h _ o ho _ (hs.free k))
theorem JS.nil {Q : α → Ex → St → Prop} (h : JC pr fr N E R .skip m Q) : JS pr fr b av N E R [] m (fun o s => Q o .normal s) :=
  fun o ho s hs => Steps.nil (h o ho s hs.shut).skip_inv
theorem JC.seq {c d : PC} {Q : α → Ex → St → Prop} (h : JC pr fr N E R c m (fun o => Then pr d (Q o))) : JC pr fr N E R (.seq c d) m Q :=
  fun o ho s hs => Ends.seq (h o ho s hs)
theorem JC.skipT {d : PC} {Q : α → Ex → St → Prop} (h : JC pr fr N E R d m Q) : JC pr fr N E R .skip m (fun o => Then pr d (Q o)) :=
  fun o ho s hs => Ends.skip (h o ho s hs)
theorem JC.exitT {j : Nat} {d : PC} {Q : α → Ex → St → Prop} (h : JC pr fr N E R (.exit j) m Q) : JC pr fr N E R (.exit j) m (fun o => Then pr d (Q o)) :=
  fun o ho s hs => Ends.exit (h o ho s hs).exit_inv
theorem JC.retT {d : PC} {Q : α → Ex → St → Prop} (h : JC pr fr N E R .ret m Q) : JC pr fr N E R .ret m (fun o => Then pr d (Q o)) :=
  fun o ho s hs => Ends.ret (h o ho s hs).ret_inv
theorem JC.block {j : Nat} {c : PC} {Q : α → Ex → St → Prop} (h : JC pr fr N E R c m (fun o => Blocked j (Q o))) : JC pr fr N E R (.block j c) m Q :=
  fun o ho s hs => Ends.block (h o ho s hs)
theorem JC.skipB {j : Nat} {Q : α → Ex → St → Prop} (h : JC pr fr N E R .skip m Q) : JC pr fr N E R .skip m (fun o => Blocked j (Q o)) :=
  fun o ho s hs => Ends.skip (h o ho s hs).skip_inv
theorem JC.retB {j : Nat} {Q : α → Ex → St → Prop} (h : JC pr fr N E R .ret m Q) : JC pr fr N E R .ret m (fun o => Blocked j (Q o)) :=
  fun o ho s hs => Ends.ret (h o ho s hs).ret_inv
theorem JC.exitB {j : Nat} {Q : α → Ex → St → Prop} (h : JC pr fr N E R .skip m Q) : JC pr fr N E R (.exit j) m (fun o => Blocked j (Q o)) :=
  fun o ho s hs => Ends.exit (by simp only [Blocked, if_true]; exact (h o ho s hs).skip_inv)
theorem JC.exitB' {i j : Nat} {Q : α → Ex → St → Prop} (hj : Nat.beq i j = false) (h : JC pr fr N E R (.exit i) m Q) : JC pr fr N E R (.exit i) m (fun o => Blocked j (Q o)) :=
  fun o ho s hs => Ends.exit (by
    have : i ≠ j := fun e => by subst e; simp at hj
    simp only [Blocked, if_neg this]; exact (h o ho s hs).exit_inv)
/-- Behind a round of a loop. -/
def Round (pr : Prog) (c : PC) (Q : Ex → St → Prop) : Ex → St → Prop
  | .normal, s => Ends pr (.loop c) s Q
  | ex, s => Q ex s
theorem Ends.round {c : PC} {s : St} {Q : Ex → St → Prop} (h : Ends pr c s (Round pr c Q)) : Ends pr (.loop c) s Q := by
  obtain ⟨n, ex, s1, h1, h2⟩ := h
  cases ex with
  | normal =>
    obtain ⟨k, ex, s2, h3, h4⟩ := h2
    have h3' : loopN (code (runN pr k) k c) k s1 = some (ex, s2) := h3
    refine ⟨max n (k + 1), ex, s2, ?_, h4⟩
    show loopN (code (runN pr (max n (k + 1))) (max n (k + 1)) c) (max n (k + 1)) s = _
    obtain ⟨j, hj⟩ : ∃ j, max n (k + 1) = j + 1 := ⟨max n (k + 1) - 1, by omega⟩
    have e1 := code_mono (runN_mono pr (Nat.le_max_left n (k + 1))) (Nat.le_max_left n (k + 1)) h1
    have hk : k ≤ max n (k + 1) := by omega
    have e2 := loopN_mono (fun s r h => code_mono (runN_mono pr hk) hk h) (show k ≤ j by omega) h3'
    rw [hj] at e1 e2 ⊢
    simp only [loopN, e1]
    exact e2
  | exit i => exact ⟨n + 1, _, s1, by
      show loopN (code (runN pr (n + 1)) (n + 1) c) (n + 1) s = _
      simp only [loopN, code_mono (runN_mono pr (Nat.le_succ n)) (Nat.le_succ n) h1], h2⟩
  | ret => exact ⟨n + 1, _, s1, by
      show loopN (code (runN pr (n + 1)) (n + 1) c) (n + 1) s = _
      simp only [loopN, code_mono (runN_mono pr (Nat.le_succ n)) (Nat.le_succ n) h1], h2⟩
theorem JC.loop {c : PC} {Q : α → Ex → St → Prop} (h : JC pr fr N E R c m (fun o => Round pr c (Q o))) : JC pr fr N E R (.loop c) m Q :=
  fun o ho s hs => Ends.round (h o ho s hs)
theorem JC.skipL {c : PC} {Q : α → Ex → St → Prop} (h : JC pr fr N E R (.loop c) m Q) : JC pr fr N E R .skip m (fun o => Round pr c (Q o)) :=
  fun o ho s hs => Ends.skip (h o ho s hs)
theorem JC.exitL {j : Nat} {c : PC} {Q : α → Ex → St → Prop} (h : JC pr fr N E R (.exit j) m Q) : JC pr fr N E R (.exit j) m (fun o => Round pr c (Q o)) :=
  fun o ho s hs => Ends.exit (h o ho s hs).exit_inv
theorem JC.retL {c : PC} {Q : α → Ex → St → Prop} (h : JC pr fr N E R .ret m Q) : JC pr fr N E R .ret m (fun o => Round pr c (Q o)) :=
  fun o ho s hs => Ends.ret (h o ho s hs).ret_inv
theorem JC.no {c : PC} {Q : α → Ex → St → Prop} : JC pr fr N E R c none Q := fun o ho => by cases ho
/-- Where a piece of code ends: the ending, the slots, the rows. -/
def GotA (N : Nat) (fr : Nat → Option Blk) (A : Ex → Env → List Rt → Prop) (ex : Ex) (s : St) : Prop := ∃ E R, A ex E R ∧ EnvR N E R fr 0 [] s
def exC : Ex → PC
  | .normal => .skip
  | .exit j => .exit j
  | .ret => .ret
theorem JC.bind {c : PC} {m1 : Option β} {m2 : β → Option α} {A : β → Ex → Env → List Rt → Prop} {Q : α → Ex → St → Prop} (h : JC pr fr N E R c m1 (fun v => GotA N fr (A v)))
    (h2 : ∀ v ex E' R', A v ex E' R' → JC pr fr N E' R' (exC ex) (m2 v) Q) : JC pr fr N E R c (m1.bind m2) Q := by
  intro o ho s hs
  obtain ⟨v, h3, h4⟩ := Option.bind_eq_some_iff.1 ho
  refine (h v h3 s hs).mono ?_
  rintro ex s' ⟨E', R', h5, h6⟩
  have := h2 v ex E' R' h5 o h4 s' h6
  cases ex with
  | normal => exact this.skip_inv
  | exit j => exact this.exit_inv
  | ret => exact this.ret_inv
theorem JC.got {c : PC} {v : α} {A : α → Ex → Env → List Rt → Prop} {ex : Ex} (hc : c = exC ex) (h : A v ex E R) : JC pr fr N E R c (some v) (fun v => GotA N fr (A v)) := by
  intro o ho s hs
  cases ho
  subst hc
  cases ex with
  | normal => exact Ends.skip ⟨E, R, h, hs⟩
  | exit j => exact Ends.exit ⟨E, R, h, hs⟩
  | ret => exact Ends.ret ⟨E, R, h, hs⟩
/-- One environment says no more than another one. -/
def SubE (E : Env) : Env → Prop
  | [] => True
  | p :: E' => E.get p.1 = some p.2 ∧ SubE E E'
theorem SubE.get {E : Env} : ∀ {E' : Env}, SubE E E' → ∀ {i : Nat} {v : V}, E'.get i = some v → E.get i = some v
  | [], _, i, v, h => by simp [Env.get] at h
  | (j, w) :: E', hs, i, v, h => by
    simp only [Env.get] at h
    split at h
    · rename_i e
      injection h with h
      rw [← Nat.eq_of_beq_eq_true e, ← h]
      exact hs.1
    · exact hs.2.get h
theorem JC.to {c : PC} {Q : α → Ex → St → Prop} (E' : Env) (R' : List Rt) (hE : SubE E E') (hR : R = R') (h : JC pr fr N E' R' c m Q) : JC pr fr N E R c m Q := by
  subst hR
  exact fun o ho s hs => h o ho s ⟨hs.len, fun i v hv => hs.sl i v (hE.get hv), hs.ro, hs.frm, hs.avl⟩
/-- A row that is forgotten. -/
theorem JC.drop {c : PC} {Q : α → Ex → St → Prop} (i : Nat) (h : JC pr fr N E (R.eraseIdx i) c m Q) : JC pr fr N E R c m Q := by
  refine fun o ho s hs => h o ho s ⟨hs.len, hs.sl, ?_, hs.frm, hs.avl⟩
  obtain ⟨S, h1, h2, h3⟩ := hs.ro
  cases hr : R[i]? with
  | none =>
    have : R.eraseIdx i = R := List.eraseIdx_of_length_le (by simpa using hr)
    rw [this]; exact ⟨S, h1, h2, h3⟩
  | some r =>
    obtain ⟨S1, S2, S3, k1, rfl, k2⟩ := h1.at hr
    obtain ⟨_, g⟩ := k2 s.hp (HLe.refl _) fun _ _ => rfl
    have hsub : ∀ x ∈ S1 ++ S3, x ∈ S1 ++ S2 ++ S3 := fun x hx => by simp at hx ⊢; rcases hx with hx | hx <;> simp [hx]
    refine ⟨_, g, ?_, fun id hi => h3 id (hsub id hi)⟩
    have hs : (S1 ++ S3).Sublist (S1 ++ S2 ++ S3) := by
      rw [List.append_assoc]
      exact (List.Sublist.refl _).append (List.sublist_append_right _ _)
    exact h2.sublist hs
theorem JC.conv {c : PC} {m' : Option α} {Q : α → Ex → St → Prop} (hm : m = m') (h : JC pr fr N E R c m' Q) : JC pr fr N E R c m Q := by subst hm; exact h

/-! ### choices -/
def evV (E : Env) : PX → Option V
  | .t i => E.get i
  | .c (.agg cs) => some (.agg (cs.map V.x))
  | .c (.tup _) => none
  | .c d => some (.x d)
theorem VRs.xs {H : Heap} : ∀ (cs : List D), VRs H (cs.map V.x) cs
  | [] => by simp [VRs]
  | c :: cs => by simp only [List.map_cons, VRs, VR]; exact ⟨trivial, VRs.xs cs⟩
theorem EnvR.ev {s : St} (h : EnvR N E R fr b av s) {x : PX} {v : V} (hx : evV E x = some v) : VR s.hp v (x.ev s.ts) := by
  cases x with
  | t i => exact h.sl i v hx
  | c d =>
    cases d <;> simp only [evV, Option.some.injEq] at hx <;> first
      | (subst hx; simp only [VR, PX.ev])
      | (cases hx)
    exact ⟨_, rfl, VRs.xs _⟩
theorem JC.cond {c : PX} {x y : PC} {e : Bool} {m1 m0 : Option α} {Q : α → Ex → St → Prop} (hc : evV E c = some (.x (.bool e)))
    (h1 : e = true → JC pr fr N E R x m1 Q) (h0 : e = false → JC pr fr N E R y m0 Q) : JC pr fr N E R (.cond c x y) (cond e m1 m0) Q := by
  intro o ho s hs
  have := hs.ev hc
  simp only [VR] at this
  refine Ends.cond this (fun he => ?_) (fun he => ?_)
  · subst he; exact h1 rfl o ho s hs
  · subst he; exact h0 rfl o ho s hs
/-- What is known already. -/
theorem JC.condT {c : PX} {x y : PC} {Q : α → Ex → St → Prop} (hc : evV E c = some (.x (.bool true))) (h1 : JC pr fr N E R x m Q) : JC pr fr N E R (.cond c x y) m Q := by
  intro o ho s hs
  have := hs.ev hc
  simp only [VR] at this
  exact Ends.cond this (fun _ => h1 o ho s hs) (fun he => by cases he)
theorem JC.condF {c : PX} {x y : PC} {Q : α → Ex → St → Prop} (hc : evV E c = some (.x (.bool false))) (h1 : JC pr fr N E R y m Q) : JC pr fr N E R (.cond c x y) m Q := by
  intro o ho s hs
  have := hs.ev hc
  simp only [VR] at this
  exact Ends.cond this (fun he => by cases he) (fun _ => h1 o ho s hs)
end
end Go.Pi
