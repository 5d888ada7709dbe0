import Derived.Test.YtghncdeldlknnaaJC
/-
  OPERATIONS THAT TOUCH NO ROW: computed on values.
-/
set_option linter.all false
namespace Go.Pi
set_option linter.unusedVariables false

section
variable {pr : Prog} {fr : Nat → Option Blk} {α β : Type} {N b : Nat} {av : List Nat} {E : Env} {R : List Rt} {m : Option α} {s : St}

def putE (E : Env) : Option Nat → V → Env
  | some i, v => (i, v) :: E
  | none, _ => E
def dstOk (N : Nat) : Option Nat → Bool
  | some i => Nat.blt i N
  | none => true
theorem EnvR.put (h : EnvR N E R fr b av s) {dst : Option Nat} {v : V} {d : D} (hi : dstOk N dst = true) (hv : VR s.hp v d) : EnvR N (putE E dst v) R fr b av ⟨putT s.ts dst d, s.hp⟩ := by
  cases dst with
  | none => exact h
  | some i =>
    have hi' : i < s.ts.length := by rw [h.len]; simpa [dstOk, Nat.blt_eq] using hi
    refine ⟨by simp only [putT, List.length_set]; exact h.len, fun j w hw => ?_, h.ro, h.frm, h.avl⟩
    simp only [putE, Env.get] at hw
    split at hw
    · rename_i e
      have e' := Nat.eq_of_beq_eq_true e
      subst e'
      injection hw with hw
      subst hw
      simp only [putT, List.getD_eq_getElem?_getD, List.getElem?_set_self hi', Option.getD_some]
      exact hv
    · rename_i e
      have hne : i ≠ j := fun h => by subst h; simp at e
      simp only [putT, List.getD_eq_getElem?_getD, List.getElem?_set_ne hne]
      rw [← List.getD_eq_getElem?_getD]
      exact h.sl j w hw

def gst (E : Env) : Option (Nat × Bool) → Option Bool
  | none => some true
  | some (t, v) => match E.get t with
    | some (.x (.bool c)) => some (match c, v with | true, true => true | false, false => true | _, _ => false)
    | some (.x .skip) => some false
    | _ => none
theorem gst_true (h : EnvR N E R fr b av s) {g : Option (Nat × Bool)} (hg : gst E g = some true) : guardOk s.ts g = true ∧ wantedP s.ts g = true := by
  cases g with
  | none => exact ⟨rfl, rfl⟩
  | some p =>
    obtain ⟨t, v⟩ := p
    simp only [gst] at hg
    split at hg
    · rename_i c e
      have := h.sl t _ e
      simp only [VR] at this
      simp only [guardOk, wantedP, this]
      cases c <;> cases v <;> simp at hg ⊢
    · cases hg
    · cases hg
theorem gst_false (h : EnvR N E R fr b av s) {g : Option (Nat × Bool)} (hg : gst E g = some false) : guardOk s.ts g = true ∧ wantedP s.ts g = false := by
  cases g with
  | none => cases hg
  | some p =>
    obtain ⟨t, v⟩ := p
    simp only [gst] at hg
    split at hg
    · rename_i c e
      have := h.sl t _ e
      simp only [VR] at this
      simp only [guardOk, wantedP, this]
      cases c <;> cases v <;> simp at hg ⊢
    · rename_i e
      have := h.sl t _ e
      simp only [VR] at this
      simp only [guardOk, wantedP, this]
      simp
    · cases hg

/-- One operation. -/
theorem JS.step {o : PO} {ops : List PO} {Q : α → St → Prop} {E' : Env} {R' : List Rt} {av' : List Nat} (hg : gst E o.guard = some true)
    (h : ∀ s, EnvR N E R fr b av s → ∃ x, (opE noCall (PX.ev s.ts) (b + o.res) o.op).run s.hp = some x ∧ EnvR N E' R' fr b av' ⟨putT s.ts o.dst x.d, x.on s.hp⟩)
    (next : JS pr fr b av' N E' R' ops m Q) : JS pr fr b av N E R (o :: ops) m Q := by
  intro a ha s hs
  obtain ⟨g1, g2⟩ := gst_true hs hg
  obtain ⟨x, h1, h2⟩ := h s hs
  exact Steps.cons (n := 0) (s1 := ⟨putT s.ts o.dst x.d, x.on s.hp⟩) (by
    have := stepO_of (b := b) (o := o) (ts := s.ts) (H := s.hp) g1 g2 h1
    exact (stepO_mono (noCall_le _) this).1) (next a ha _ h2)
theorem JS.skip1 {o : PO} {ops : List PO} {Q : α → St → Prop} (hg : gst E o.guard = some false) (hd : dstOk N o.dst = true)
    (next : JS pr fr b av N (putE E o.dst (.x .skip)) R ops m Q) : JS pr fr b av N E R (o :: ops) m Q := by
  intro a ha s hs
  obtain ⟨g1, g2⟩ := gst_false hs hg
  refine Steps.cons (n := 0) (s1 := ⟨putT s.ts o.dst .skip, s.hp⟩) ?_ (next a ha _ (hs.put hd (by simp only [VR])))
  unfold stepO
  simp [g1, g2]

/-! ### exact data -/
def dVs : List V → Option (List D)
  | [] => some []
  | .x d :: vs => match dVs vs with | some ds => some (d :: ds) | none => none
  | _ => none
def dV : V → Option D
  | .x d => some d
  | .agg vs => match dVs vs with | some ds => some (.agg ds) | none => none
  | _ => none
def exV (E : Env) (x : PX) : Option D := match evV E x with | some v => dV v | none => none
theorem dVs_ok {H : Heap} : ∀ {vs : List V} {ds ds' : List D}, dVs vs = some ds → VRs H vs ds' → ds' = ds
  | [], ds, [], h, _ => by simp [dVs] at h; exact h.symm
  | [], ds, _ :: _, _, k => by simp [VRs] at k
  | .x d :: vs, ds, [], _, k => by simp [VRs] at k
  | .x d :: vs, ds, d' :: ds', h, k => by
    simp only [dVs] at h
    split at h
    · rename_i l hl
      injection h with h
      simp only [VRs, VR] at k
      rw [← h, k.1, dVs_ok hl k.2]
    · cases h
  | .c _ _ :: _, _, _, h, _ => by simp [dVs] at h
  | .ref _ _ _ :: _, _, _, h, _ => by simp [dVs] at h
  | .ptr _ _ _ _ :: _, _, _, h, _ => by simp [dVs] at h
  | .own _ _ :: _, _, _, h, _ => by simp [dVs] at h
  | .agg _ :: _, _, _, h, _ => by simp [dVs] at h
  | .tup _ :: _, _, _, h, _ => by simp [dVs] at h
theorem dV_ok {H : Heap} {v : V} {d d' : D} (h : dV v = some d) (k : VR H v d') : d' = d := by
  cases v <;> simp only [dV] at h <;> try cases h
  · simpa only [VR] using k
  · rename_i vs
    simp only [VR] at k
    obtain ⟨ds, rfl, k⟩ := k
    split at h
    · rename_i l hl
      injection h with h
      rw [← h, dVs_ok hl k]
    · cases h
theorem EnvR.ex (h : EnvR N E R fr b av s) {x : PX} {d : D} (hx : exV E x = some d) : x.ev s.ts = d := by
  simp only [exV] at hx
  split at hx
  · rename_i v hv
    exact dV_ok hx (h.ev hv)
  · cases hx

def cellV (k : Nat) (d : D) : V := match sc d with | true => .x d | false => .c k d
def shapedV (ag : Bool) (vs : List V) : Option V := match ag with
  | true => some (.agg vs)
  | false => match vs with | [v] => some v | _ => none
theorem shapedV_ok {H : Heap} {ag : Bool} {vs : List V} {ds : List D} {v : V} (h : shapedV ag vs = some v) (k : VRs H vs ds) : ∃ d, shaped ag ds = some d ∧ VR H v d := by
  cases ag with
  | true =>
    injection h with h
    subst h
    exact ⟨_, rfl, by simp only [VR]; exact ⟨_, rfl, k⟩⟩
  | false =>
    simp only [shapedV] at h
    split at h
    · rename_i w
      injection h with h
      subst h
      cases ds with
      | nil => simp [VRs] at k
      | cons d ds => cases ds with
        | nil => simp only [VRs] at k; exact ⟨d, rfl, k.1⟩
        | cons => simp [VRs] at k
    · cases h
theorem cellV_ok {H : Heap} {k : Nat} {d d' : D} (h : Cl H k d d') : VR H (cellV k d) d' := by
  unfold cellV
  cases hs : sc d with
  | true => simp only [VR]; exact h.sc hs
  | false => simpa only [VR] using h
theorem cellsV_ok {H : Heap} {k : Nat} : ∀ {cs ds : List D}, All2 (Cl H k) cs ds → VRs H (cs.map (cellV k)) ds
  | [], [], _ => by simp [VRs]
  | c :: cs, d :: ds, h => by simp only [List.map_cons, VRs]; exact ⟨cellV_ok h.1, cellsV_ok h.2⟩
  | [], _ :: _, h => h.elim
  | _ :: _, [], h => h.elim
def leB (a b : Nat) : Bool := Nat.ble a b
theorem leB_iff {a b : Nat} : leB a b = true ↔ a ≤ b := by simp [leB]
/-- The cells of a value that is put into cells. -/
def cellsW : V → List V
  | .agg vs => vs
  | v => [v]
/-- Of what may stand in a cell: a datum that is no more than a list or a pointer. -/
def lp : D → Bool
  | .lst _ _ | .fptr _ | .nil => true
  | _ => false
def oneV : V → Bool
  | .x d => one d
  | .c _ d => lp d
  | .ref _ _ _ | .ptr _ _ _ _ => true
  | _ => false
theorem cl_one {H : Heap} {n : Nat} {v d : D} (h : Cl H n v d) (hl : lp v = true) : one d = true := by
  cases n with
  | zero => exact h.elim
  | succ n =>
    rcases h with ⟨h, k⟩ | ⟨sz, es, id, off, len, es0, rfl, rfl, h3⟩ | ⟨cs, id, i, j, sz, es0, e, rfl, rfl, h3⟩ | ⟨cs, ds, rfl, rfl, h3⟩
    · cases v <;> simp [lp] at hl
      · simp only [Nr] at k; subst k; rfl
      · rcases k.lst with ⟨_, rfl⟩ | ⟨_, rfl, _⟩ <;> rfl
      · obtain ⟨_, rfl, _⟩ := k.fptr; rfl
    · rfl
    · rfl
    · simp [lp] at hl
theorem oneV_ok {H : Heap} {v : V} {d : D} (h : VR H v d) (ho : oneV v = true) : one d = true := by
  cases v <;> simp only [VR, oneV] at h ho
  · rw [h]; exact ho
  · exact cl_one h ho
  · rcases h with ⟨_, _, rfl⟩ | ⟨_, _, _, rfl⟩ <;> rfl
  · rw [h]; rfl
  · cases ho
  · cases ho
theorem onesV_ok {H : Heap} : ∀ {vs : List V} {ds : List D}, VRs H vs ds → vs.all oneV = true → ds.all one = true
  | [], [], _, _ => rfl
  | v :: vs, d :: ds, h, k => by
    simp only [VRs, List.all_cons, Bool.and_eq_true] at h k ⊢
    exact ⟨oneV_ok h.1 k.1, onesV_ok h.2 k.2⟩
  | [], _ :: _, h, _ => by simp [VRs] at h
  | _ :: _, [], h, _ => by simp [VRs] at h
theorem one_cellsOf {d : D} (h : one d = true) : cellsOf d = [d] := by cases d <;> simp [one] at h <;> rfl
theorem cellsW_ok {H : Heap} {v : V} {d : D} (h : VR H v d) (ho : (cellsW v).all oneV = true) : VRs H (cellsW v) (cellsOf d) ∧ (cellsOf d).all one = true := by
  cases v
  case agg vs =>
    simp only [VR, cellsW] at h ho ⊢
    obtain ⟨ds, rfl, k⟩ := h
    exact ⟨k, onesV_ok k ho⟩
  all_goals
    simp only [cellsW, List.all_cons, List.all_nil, Bool.and_true] at ho ⊢
    have := oneV_ok h ho
    rw [one_cellsOf this]
    exact ⟨by simp only [VRs]; exact ⟨h, trivial⟩, by simp [this]⟩
def fillV : List V → List (Nat × Nat × V) → Option (List V)
  | z, [] => some z
  | z, (off, n, v) :: ps => match (cellsW v).all oneV, Nat.beq (cellsW v).length n, leB (off + n) z.length with
    | true, true, true => fillV (z.take off ++ cellsW v ++ z.drop (off + (cellsW v).length)) ps
    | _, _, _ => none
def evParts (E : Env) : List (Nat × Nat × PX) → Option (List (Nat × Nat × V))
  | [] => some []
  | (off, n, x) :: ps => match evV E x, evParts E ps with
    | some v, some l => some ((off, n, v) :: l)
    | _, _ => none

def okc (d : D) : Bool := lp d || sc d
def pureV (E : Env) : POp → Option V
  | .mv x => evV E x
  | .pick c a b => match evV E c with
    | some (.x (.bool true)) => evV E a
    | some (.x (.bool false)) => evV E b
    | _ => none
  | .bin op x y => match exV E x, exV E y with
    | some a, some b => match binD op a b with | some d => some (.x d) | none => none
    | _, _ => none
  | .eqB neg x y => match exV E x, exV E y with
    | some (.bool a), some (.bool b) => some (.x (.bool (if neg then !(a == b) else a == b)))
    | _, _ => none
  | .un op x => match exV E x with
    | some a => match unD op a with | some d => some (.x d) | none => none
    | none => none
  | .conv c x => match c with
    | .toInt k => match exV E x with
      | some (.int _ n) => some (.x (.int k (k.wrap n)))
      | _ => none
    | .toFlt => match exV E x with
      | some (.int _ n) => some (.x (.flt (FloatKind.f64.nearest n)))
      | _ => none
    | .same => evV E x
    | _ => none
  | .extract x i => match evV E x with
    | some (.tup vs) => vs[i]?
    | _ => none
  | .len x => match evV E x with
    | some (.c _ (.lst _ es)) => some (.x (.int .i64 (es.length : Int)))
    | some (.ref _ _ len) => some (.x (.int .i64 (len : Int)))
    | some (.x .nil) => some (.x (.int .i64 0))
    | _ => none
  | .lenS x => match exV E x with
    | some (.str s) => some (.x (.int .i64 (s.length : Int)))
    | _ => none
  | .field ag off n x => match evV E x with
    | some (.agg vs) => match leB (off + n) vs.length with
      | true => shapedV ag ((vs.drop off).take n)
      | false => none
    | _ => none
  | .load ag n x => match evV E x with
    | some (.c k (.fptr cs)) => match leB 1 n, leB n cs.length, (cs.take n).all okc with
      | true, true, true => shapedV ag ((cs.take n).map (cellV k))
      | _, _, _ => none
    | _ => none
  | .fieldAddr off n x => match evV E x with
    | some (.c k (.fptr cs)) => match leB (off + 1) cs.length with
      | true => some (.c k (.fptr (cs.drop off)))
      | false => none
    | some (.ptr id sz i j) => some (.ptr id sz i (j + off))
    | _ => none
  | .nilCheck x => match evV E x with
    | some (.c k (.fptr cs)) => some (.c k (.fptr cs))
    | some (.ptr id sz i j) => some (.ptr id sz i j)
    | _ => none
  | .eqNP neg x => match evV E x with
    | some (.c _ (.fptr _)) => some (.x (.bool neg))
    | some (.ptr _ _ _ _) => some (.x (.bool neg))
    | some (.x .nilp) => some (.x (.bool (!neg)))
    | _ => none
  | .eqNS neg x => match evV E x with
    | some (.x .nil) => some (.x (.bool (!neg)))
    | some (.ref (some _) _ _) => some (.x (.bool neg))
    | _ => none
  | .bits x => match exV E x with
    | some (.flt b) => some (.x (.int .u64 (b : Int)))
    | _ => none
  | .ofBits x => match exV E x with
    | some (.int .u64 n) => some (.x (.flt n.toNat))
    | _ => none
  | .minmax mx x ys => match exV E x, ys.map (exV E) with
    | some (.int k a), [some (.int k' c)] => match decide (k = k') with
      | true => some (.x (.int k (if mx then (if c > a then c else a) else (if c < a then c else a))))
      | false => none
    | _, _ => none
  | .build zero parts => match evParts E parts with
    | some ps => match fillV (zero.map V.x) ps with | some vs => some (.agg vs) | none => none
    | none => none
  | _ => none

theorem evParts_ok (h : EnvR N E R fr b av s) : ∀ {ps : List (Nat × Nat × PX)} {l : List (Nat × Nat × V)}, evParts E ps = some l → ∀ {z : List V} {zd : List D} {vs : List V}, VRs s.hp z zd → fillV z l = some vs →
    (ps.all fun p => (cellsOf (p.2.2.ev s.ts)).all one) = true ∧ ∃ ds, fillB zd (ps.map fun p => (p.1, p.2.1, p.2.2.ev s.ts)) = some ds ∧ VRs s.hp vs ds
  | [], l, hl, z, zd, vs, hz, hf => by
    simp only [evParts, Option.some.injEq] at hl
    subst hl
    simp only [fillV, Option.some.injEq] at hf
    subst hf
    exact ⟨rfl, zd, rfl, hz⟩
  | (off, n, x) :: ps, l, hl, z, zd, vs, hz, hf => by
    simp only [evParts] at hl
    split at hl
    · rename_i v l' hv hl'
      injection hl with hl
      subst hl
      simp only [fillV] at hf
      split at hf
      · rename_i k1 k2 k3
        obtain ⟨g1, g2⟩ := cellsW_ok (h.ev hv) k1
        have k2' := Nat.eq_of_beq_eq_true k2
        rw [leB_iff] at k3
        have e1 := hz.len
        have e2 := g1.len
        obtain ⟨a1, ds, a2, a3⟩ := evParts_ok h hl' (zd := splice zd off (cellsOf (x.ev s.ts))) (by
          unfold splice
          rw [← e2]
          exact ((hz.take off).append g1).append (hz.drop _)) hf
        refine ⟨by simp [g2]; simpa using a1, ds, ?_, a3⟩
        simp only [List.map_cons, fillB]
        rw [if_pos ⟨by omega, by omega⟩]
        exact a2
      · cases hf
    · cases hl
theorem run_quietJ {H : Heap} {o : Option D} {d : D} (h : o = some d) : (quietO o).run H = some ⟨d, [], []⟩ := by subst h; rfl
theorem Cl.fptr_cases {H : Heap} {n : Nat} {cs : List D} {d : D} (h : Cl H n (.fptr cs) d) : (∃ ds, d = .fptr ds ∧ All2 Nr cs ds) ∨ (∃ id i j sz es0 e, d = .ptr id (i * sz + j) ∧ hat H id = .row sz es0 false ∧ es0[i]? = some e ∧ All2 (Cl H n) cs (e.drop j) ∧ j < sz ∧ e.length ≤ sz) := by
  cases n with
  | zero => exact h.elim
  | succ n =>
    rcases h with ⟨h, k⟩ | ⟨sz, es, id, off, len, es0, h1, h2, h3⟩ | ⟨cs', id, i, j, sz, es0, e, h1, rfl, h3, h4, h5, h6, h7⟩ | ⟨cs, ds, h1, h2, h3⟩
    · exact .inl k.fptr
    · cases h1
    · injection h1 with h1
      subst h1
      exact .inr ⟨id, i, j, sz, es0, e, rfl, h3, h4, h5.mono fun _ _ _ h => h.up1, h6, h7⟩
    · cases h1
theorem nr_cl {H : Heap} {n : Nat} {v d : D} (h : Nr v d) (hl : lp v = true ∨ sc v = true) : Cl H (n + 1) v d := by
  refine .inl ⟨?_, h⟩
  rcases hl with hl | hl
  · cases v <;> simp [lp] at hl
    · simp only [Nr] at h; subst h; rfl
    · rcases h.lst with ⟨_, rfl⟩ | ⟨_, rfl, _⟩ <;> rfl
    · obtain ⟨_, rfl, _⟩ := h.fptr; rfl
  · rw [h.sc hl]; cases v <;> simp [Pi.sc] at hl <;> rfl
theorem run_ofShaped {H : Heap} {ag : Bool} {vs : List V} {ds : List D} {v : V} (h : shapedV ag vs = some v) (k : VRs H vs ds) : ∃ d, (quietO (shaped ag ds)).run H = some ⟨d, [], []⟩ ∧ VR H v d := by
  obtain ⟨d, h1, h2⟩ := shapedV_ok h k
  exact ⟨d, run_quietJ h1, h2⟩
theorem pureV_ok (h : EnvR N E R fr b av s) {op : POp} {v : V} (hv : pureV E op = some v) (r : Nat) : ∃ d, (opE noCall (PX.ev s.ts) r op).run s.hp = some ⟨d, [], []⟩ ∧ VR s.hp v d := by
  cases op <;> simp only [pureV] at hv <;> try cases hv
  case mv x => exact ⟨_, rfl, h.ev hv⟩
  case pick c x y =>
    split at hv
    · rename_i e
      have := h.ev e
      simp only [VR] at this
      exact ⟨_, by simp only [opE, this]; rfl, h.ev hv⟩
    · rename_i e
      have := h.ev e
      simp only [VR] at this
      exact ⟨_, by simp only [opE, this]; rfl, h.ev hv⟩
    · cases hv
  case build zero parts =>
    split at hv
    · rename_i ps hp
      split at hv
      · rename_i vs hf
        injection hv with hv
        subst hv
        obtain ⟨k1, ds, k2, k3⟩ := evParts_ok h hp (VRs.xs zero) hf
        refine ⟨.agg ds, ?_, by simp only [VR]; exact ⟨_, rfl, k3⟩⟩
        simp only [opE]
        rw [if_pos k1, k2]
        rfl
      · cases hv
    · cases hv
  case load ag n x =>
    split at hv
    · rename_i k cs e
      split at hv
      · rename_i l1 l2 l3
        rw [leB_iff] at l1 l2
        have hc := h.ev e
        simp only [VR] at hc
        rcases hc.fptr_cases with ⟨ds, hd, ha⟩ | ⟨id, i, j, sz, es0, e0, hd, h3, h4, h5, h6, h7⟩
        · have hk : ∃ k', k = k' + 1 := by
            cases k with
            | zero => exact hc.elim
            | succ k => exact ⟨k, rfl⟩
          obtain ⟨k', rfl⟩ := hk
          have hcs : All2 (Cl s.hp (k' + 1)) (cs.take n) (ds.take n) := (ha.take n).mono fun a d ha' hn => nr_cl hn (by
            have := List.all_eq_true.1 l3 a ha'
            simpa [okc] using this)
          obtain ⟨d, q1, q2⟩ := run_ofShaped hv (cellsV_ok hcs)
          refine ⟨d, ?_, q2⟩
          have := ha.len
          simp only [opE, hd]
          rw [if_pos (by omega)]
          exact q1
        · obtain ⟨d, q1, q2⟩ := run_ofShaped hv (cellsV_ok (h5.take n))
          have hl := h5.len
          simp at hl
          refine ⟨d, ?_, q2⟩
          have p1 : (i * sz + j) / sz = i := by rw [Nat.mul_comm, Nat.mul_add_div (by omega), Nat.div_eq_of_lt h6]; omega
          have p2 : (i * sz + j) % sz = j := by rw [Nat.mul_comm, Nat.mul_add_mod, Nat.mod_eq_of_lt h6]
          simp only [opE, hd, Eff.run, h3, p1, p2, h4]
          rw [if_pos (by omega)]
          exact q1
      · cases hv
    · cases hv
  case nilCheck x =>
    split at hv
    · rename_i k cs e
      injection hv with hv
      subst hv
      have hc := h.ev e
      have hc' := hc
      simp only [VR] at hc
      rcases hc.fptr_cases with ⟨ds, hd, ha⟩ | ⟨id, i, j, sz, es0, e0, hd, h3, h4, h5, h6, h7⟩
      · exact ⟨_, by simp only [opE, hd]; rfl, by rw [← hd]; exact hc'⟩
      · exact ⟨_, by simp only [opE, hd]; rfl, by rw [← hd]; exact hc'⟩
    · rename_i e
      injection hv with hv
      subst hv
      have hc := h.ev e
      have hc' := hc
      simp only [VR] at hc
      exact ⟨_, by simp only [opE, hc]; rfl, by rw [← hc]; exact hc'⟩
    · cases hv
  case bin op x y =>
    split at hv
    · rename_i a c ha hc
      split at hv
      · rename_i d hd
        injection hv with hv
        subst hv
        exact ⟨d, by simp only [opE, h.ex ha, h.ex hc]; exact run_quietJ hd, by simp only [VR]⟩
      · cases hv
    · cases hv
  case eqB neg x y =>
    split at hv
    · rename_i a c ha hc
      injection hv with hv
      subst hv
      exact ⟨_, by simp only [opE, h.ex ha, h.ex hc]; rfl, by simp only [VR]⟩
    · cases hv
  case eqNS neg x =>
    split at hv
    · rename_i e
      injection hv with hv
      subst hv
      have := h.ev e
      simp only [VR] at this
      exact ⟨.bool (!neg), by simp only [opE, this]; cases neg <;> rfl, by simp only [VR]⟩
    · rename_i id off len e
      injection hv with hv
      subst hv
      have := h.ev e
      simp only [VR] at this
      rcases this with ⟨id', h1, h2⟩ | ⟨h1, _⟩
      · exact ⟨.bool neg, by simp only [opE, h2]; cases neg <;> rfl, by simp only [VR]⟩
      · cases h1
    · cases hv
  case eqNP neg x =>
    split at hv
    · rename_i e
      injection hv with hv
      subst hv
      have hc := h.ev e
      simp only [VR] at hc
      rcases hc.fptr_cases with ⟨ds, hd, ha⟩ | ⟨id, i, j, sz, es0, e0, hd, h3, h4, h5, h6, h7⟩
      · exact ⟨.bool neg, by simp only [opE, hd]; cases neg <;> rfl, by simp only [VR]⟩
      · exact ⟨.bool neg, by simp only [opE, hd]; cases neg <;> rfl, by simp only [VR]⟩
    · rename_i e
      injection hv with hv
      subst hv
      have hc := h.ev e
      simp only [VR] at hc
      exact ⟨.bool neg, by simp only [opE, hc]; cases neg <;> rfl, by simp only [VR]⟩
    · rename_i e
      injection hv with hv
      subst hv
      have hc := h.ev e
      simp only [VR] at hc
      exact ⟨.bool (!neg), by simp only [opE, hc]; cases neg <;> rfl, by simp only [VR]⟩
    · cases hv
  case un op x =>
    split at hv
    · rename_i a ha
      split at hv
      · rename_i d hd
        injection hv with hv
        subst hv
        exact ⟨d, by simp only [opE, h.ex ha]; exact run_quietJ hd, by simp only [VR]⟩
      · cases hv
    · cases hv
  case conv c x =>
    cases c <;> simp only at hv
    case toInt k =>
      split at hv
      · rename_i ha
        injection hv with hv
        subst hv
        exact ⟨_, by simp only [opE, h.ex ha]; rfl, by simp only [VR]⟩
      · cases hv
    case toFlt =>
      split at hv
      · rename_i ha
        injection hv with hv
        subst hv
        exact ⟨_, by simp only [opE, h.ex ha]; rfl, by simp only [VR]⟩
      · cases hv
    case same => exact ⟨_, rfl, h.ev hv⟩
    all_goals cases hv
  case fieldAddr off n x =>
    split at hv
    · rename_i k cs e
      split at hv
      · rename_i l1
        rw [leB_iff] at l1
        injection hv with hv
        subst hv
        have hc := h.ev e
        simp only [VR] at hc
        rcases hc.fptr_cases with ⟨ds, hd, ha⟩ | ⟨id, i, j, sz, es0, e0, hd, h3, h4, h5, h6, h7⟩
        · refine ⟨.fptr (ds.drop off), by simp only [opE, hd]; rfl, ?_⟩
          simp only [VR]
          cases k with
          | zero => exact hc.elim
          | succ k => exact Cl.plain rfl (Nr.mk_fptr (ha.drop off))
        · have hl := h5.len
          simp at hl
          refine ⟨.ptr id (i * sz + j + off), by simp only [opE, hd]; rfl, ?_⟩
          simp only [VR]
          cases k with
          | zero => exact hc.elim
          | succ k =>
            rcases hc with ⟨hp, _⟩ | ⟨sz, es, id, off, len, es0, h1, h2, h3⟩ | ⟨cs', id', i', j', sz', es0', e', h1, g2, g3, g4, g5, g6, g7⟩ | ⟨cs, ds, h1, h2, h3⟩
            · rw [hd] at hp; cases hp
            · cases h1
            · injection h1 with h1
              subst h1
              rw [hd] at g2
              injection g2 with g2 g2'
              subst g2
              rw [h3] at g3
              injection g3 with e1 e2 _
              subst e1; subst e2
              have ei : i = i' := by
                have p1 : (i * sz + j) / sz = i := by rw [Nat.mul_comm, Nat.mul_add_div (by omega), Nat.div_eq_of_lt h6]; omega
                have p2 : (i' * sz + j') / sz = i' := by rw [Nat.mul_comm, Nat.mul_add_div (by omega), Nat.div_eq_of_lt g6]; omega
                rw [← p1, ← p2, g2']
              subst ei
              have ej : j = j' := by omega
              subst ej
              have hl' := g5.len
              simp at hl'
              refine .inr (.inr (.inl ⟨_, id, i, j + off, sz, es0, e', rfl, by rw [Nat.add_assoc], h3, g4, ?_, by omega, g7⟩))
              rw [← List.drop_drop]
              exact g5.drop off
            · cases h1
      · cases hv
    · rename_i e
      injection hv with hv
      subst hv
      have hc := h.ev e
      simp only [VR] at hc
      exact ⟨_, by simp only [opE, hc]; rfl, by simp only [VR, Nat.add_assoc]⟩
    · cases hv
  case field ag off n x =>
    split at hv
    · rename_i vs e
      split at hv
      · rename_i l1
        rw [leB_iff] at l1
        have hc := h.ev e
        simp only [VR] at hc
        obtain ⟨ds, hd, hc⟩ := hc
        obtain ⟨d, q1, q2⟩ := run_ofShaped hv ((hc.drop off).take n)
        have hl := hc.len
        refine ⟨d, ?_, q2⟩
        simp only [opE, hd]
        rw [if_pos (by omega)]
        exact q1
      · cases hv
    · cases hv
  case extract x i =>
    split at hv
    · rename_i vs e
      have hc := h.ev e
      simp only [VR] at hc
      obtain ⟨ds, hd, hc⟩ := hc
      obtain ⟨d, q1, q2⟩ := hc.get hv
      exact ⟨d, by simp only [opE, hd, q1]; rfl, q2⟩
    · cases hv
  case len x =>
    split at hv
    · rename_i k sz es e
      injection hv with hv
      subst hv
      have hc := h.ev e
      simp only [VR] at hc
      refine ⟨.int .i64 (es.length : Int), ?_, by simp only [VR]⟩
      cases k with
      | zero => exact hc.elim
      | succ k =>
        rcases hc with ⟨_, hc⟩ | ⟨sz', es', id, off, len, es0, h1, h2, h3, h4, h5, h6⟩ | ⟨cs, id, i, j, sz, es0, e, h1, h2, h3⟩ | ⟨cs, ds, h1, h2, h3⟩
        · rcases hc.lst with ⟨rfl, hd⟩ | ⟨es', hd, ha⟩
          · simp only [opE, hd]; rfl
          · simp only [opE, hd, ha.len]; rfl
        · injection h1 with h1 h1'
          subst h1; subst h1'
          have := h5.len
          simp at this
          have e2 : es.length = len := by omega
          simp only [opE, h2, e2]; rfl
        · cases h1
        · cases h1
    · rename_i o off len e
      injection hv with hv
      subst hv
      have hc := h.ev e
      simp only [VR] at hc
      refine ⟨.int .i64 (len : Int), ?_, by simp only [VR]⟩
      rcases hc with ⟨id, _, hd⟩ | ⟨_, _, rfl, hd⟩
      · simp only [opE, hd]; rfl
      · simp only [opE, hd]; rfl
    · rename_i e
      injection hv with hv
      subst hv
      have hc := h.ev e
      simp only [VR] at hc
      exact ⟨_, by simp only [opE, hc]; rfl, by simp only [VR]⟩
    · cases hv
  case lenS x =>
    split at hv
    · rename_i t ha
      injection hv with hv
      subst hv
      exact ⟨_, by simp only [opE, h.ex ha]; rfl, by simp only [VR]⟩
    · cases hv
  case minmax mx x ys =>
    split at hv
    · rename_i k a k' c ha hc
      split at hv
      · rename_i hk
        simp at hk
        subst hk
        injection hv with hv
        subst hv
        cases ys with
        | nil => simp at hc
        | cons y ys => cases ys with
          | cons => simp at hc
          | nil =>
            simp at hc
            refine ⟨.int k (if mx then (if c > a then c else a) else (if c < a then c else a)), ?_, by simp only [VR]⟩
            simp only [opE, h.ex ha, List.map_cons, List.map_nil, h.ex hc, minmaxI, if_true]
            rfl
      · cases hv
    · cases hv
  case bits x =>
    split at hv
    · rename_i ha
      injection hv with hv
      subst hv
      exact ⟨_, by simp only [opE, h.ex ha]; rfl, by simp only [VR]⟩
    · cases hv
  case ofBits x =>
    split at hv
    · rename_i ha
      injection hv with hv
      subst hv
      exact ⟨_, by simp only [opE, h.ex ha]; rfl, by simp only [VR]⟩
    · cases hv

def runV (N : Nat) : Env → List PO → Option Env
  | E, [] => some E
  | E, o :: os => match gst E o.guard, dstOk N o.dst with
    | some true, true => match pureV E o.op with
      | some v => runV N (putE E o.dst v) os
      | none => none
    | some false, true => runV N (putE E o.dst (.x .skip)) os
    | _, _ => none
theorem JS.run1 {Q : α → St → Prop} : ∀ {k ops : List PO} {E E' : Env}, runV N E k = some E' → JS pr fr b av N E' R ops m Q → JS pr fr b av N E R (k ++ ops) m Q
  | [], ops, E, E', h, hn => by simp only [runV, Option.some.injEq] at h; subst h; exact hn
  | o :: k, ops, E, E', h, hn => by
    simp only [runV] at h
    split at h
    · rename_i g1 g2
      split at h
      · rename_i v hv
        refine JS.step (o := o) (ops := k ++ ops) g1 (fun s hs => ?_) (JS.run1 h hn)
        obtain ⟨d, h1, h2⟩ := pureV_ok hs hv (b + o.res)
        exact ⟨_, h1, hs.put g2 h2⟩
      · cases h
    · rename_i g1 g2
      exact JS.skip1 (o := o) (ops := k ++ ops) g1 g2 (JS.run1 h hn)
    · cases h
/-- So many operations that touch no row. -/
theorem JS.run {ops : List PO} {Q : α → St → Prop} (k : Nat) (h : (runV N E (ops.take k)).isSome = true) (next : JS pr fr b av N ((runV N E (ops.take k)).getD []) R (ops.drop k) m Q) : JS pr fr b av N E R ops m Q := by
  obtain ⟨E', hE⟩ := Option.isSome_iff_exists.1 h
  rw [hE] at next
  have := JS.run1 (k := ops.take k) hE next
  rwa [List.take_append_drop] at this
/-- A choice that is met within. -/
theorem JS.split {ops : List PO} {Q : α → St → Prop} {e : Bool} {m1 m0 : Option α} (t : Nat) (he : E.get t = some (.x (.bool e)))
    (h1 : e = true → JS pr fr b av N ((t, .x (.bool true)) :: E) R ops m1 Q) (h0 : e = false → JS pr fr b av N ((t, .x (.bool false)) :: E) R ops m0 Q) : JS pr fr b av N E R ops (cond e m1 m0) Q := by
  intro o ho s hs
  have key : ∀ (c : Bool), e = c → EnvR N ((t, .x (.bool c)) :: E) R fr b av s := fun c hc => by
    subst hc
    refine ⟨hs.len, fun j w hw => ?_, hs.ro, hs.frm, hs.avl⟩
    simp only [Env.get] at hw
    split at hw
    · rename_i e'
      rw [← Nat.eq_of_beq_eq_true e']
      injection hw with hw
      subst hw
      exact hs.sl t _ he
    · exact hs.sl j w hw
  cases e with
  | true => exact h1 rfl o ho s (key true rfl)
  | false => exact h0 rfl o ho s (key false rfl)
end
end Go.Pi
