import Derived.Test.YtghncdeldlknnaaJE
/-
  OPERATIONS ON LISTS: as terms over lists.
-/
set_option linter.all false
namespace Go.Pi
set_option linter.unusedVariables false

def at? {α : Type} (l : List α) (z : Int) : Option α := if 0 ≤ z then l[z.toNat]? else none
def room {α : Type} (n bytes : Nat) (m : Option α) : Option α := if n ≤ roomy ∧ n * bytes ≤ roomy then m else none
def hi? (len : Nat) (z : Int) : Option Nat := if 0 ≤ z ∧ z ≤ len then some z.toNat else none
def cut? (len : Nat) (y z : Int) : Option (Nat × Nat) := if 0 ≤ z ∧ z ≤ len then (if 0 ≤ y ∧ y ≤ z then some (y.toNat, z.toNat) else none) else none
def cv {α : Type} (c : α → List D) (a : α) : List V := (c a).map (cellV 1)
def vl {α : Type} (c : α → List D) (l : List α) : List (List V) := l.map (cv c)
def iD (k : IntKind) (n : Int) : List D := [.int k n]
def bD (t : Bool) : List D := [.bool t]
def sD (s : List UInt8) : List D := [.str s]
def fD (f : Nat) : List D := [.flt f]
def lD {α : Type} (sz : Nat) (c : α → List D) (l : List α) : List D := [.lst sz (l.map c)]

theorem at?_some {α : Type} {l : List α} {z : Int} {a : α} (h : at? l z = some a) : 0 ≤ z ∧ l[z.toNat]? = some a ∧ z.toNat < l.length ∧ z < l.length := by
  unfold at? at h
  split at h
  · rename_i h0
    have := (List.getElem?_eq_some_iff.1 h).1
    exact ⟨h0, h, this, by omega⟩
  · cases h
theorem vl_get {α : Type} {c : α → List D} {l : List α} {i : Nat} {a : α} (h : l[i]? = some a) : (vl c l)[i]? = some (cv c a) := by simp [vl, h]
theorem vl_len {α : Type} (c : α → List D) (l : List α) : (vl c l).length = l.length := by simp [vl]
theorem cv_flat {α : Type} (c : α → List D) (a : α) : (cv c a).all flat = true := by
  simp only [cv, List.all_eq_true, List.mem_map]
  rintro v ⟨d, _, rfl⟩
  unfold cellV
  cases sc d <;> rfl
theorem vl_flat {α : Type} (c : α → List D) (l : List α) : flatE (vl c l) := by
  intro e he
  simp only [vl, List.mem_map] at he
  obtain ⟨a, _, rfl⟩ := he
  exact cv_flat c a
theorem vl_set {α : Type} {c : α → List D} {l : List α} {p : Nat} {a : α} {e : List V} (h : e = cv c a) : (vl c l).set p e = vl c (l.set p a) := by subst h; simp [vl, List.map_set]
theorem vl_append {α : Type} (c : α → List D) (l k : List α) : vl c l ++ vl c k = vl c (l ++ k) := by simp [vl]
theorem vl_take {α : Type} (c : α → List D) (l : List α) (n : Nat) : (vl c l).take n = vl c (l.take n) := by simp [vl]
theorem vl_drop {α : Type} (c : α → List D) (l : List α) (n : Nat) : (vl c l).drop n = vl c (l.drop n) := by simp [vl]

section
variable {pr : Prog} {fr : Nat → Option Blk} {α β γ : Type} {N b : Nat} {av : List Nat} {E : Env} {R : List Rt} {m : Option α} {s : St}
variable {dst : Option Nat} {g : Option (Nat × Bool)} {aft : List Nat} {res : Nat} {ops : List PO} {Q : α → St → Prop} {x y ix : PX}

/-- A closed list, as it may stand. -/
theorem Cl.lst_cases {H : Heap} {n sz : Nat} {es : List (List D)} {d : D} (h : Cl H n (.lst sz es) d) :
    (es = [] ∧ d = .nil) ∨ (∃ es', d = .lst sz es' ∧ All2 (All2 Nr) es es') ∨
    (∃ k id off len es0, n = k + 1 ∧ d = .ref id off len ∧ hat H id = .row sz es0 false ∧ off + len ≤ es0.length ∧ len = es.length ∧ All2 (All2 (Cl H k)) es ((es0.drop off).take len) ∧ 0 < sz ∧ ∀ e ∈ es0, e.length ≤ sz) := by
  cases n with
  | zero => exact h.elim
  | succ n =>
    rcases h with ⟨_, k⟩ | ⟨sz', es', id, off, len, es0, h1, h2, h3, h4, h5, h6, h7⟩ | ⟨cs, id, i, j, sz, es0, e, h1, h2, h3⟩ | ⟨cs, ds, h1, h2, h3⟩
    · rcases k.lst with k | k
      · exact .inl k
      · exact .inr (.inl k)
    · injection h1 with h1 h1'
      subst h1; subst h1'
      have := h5.len
      simp at this
      exact .inr (.inr ⟨n, id, off, len, es0, rfl, h2, h3, h4, by omega, h5, h6, h7⟩)
    · cases h1
    · cases h1
theorem get_all2 {R : D → D → Prop} {c : β → List D} {l : List β} {es' : List (List D)} (h : All2 (All2 R) (l.map c) es') {i : Nat} {a : β} (ha : l[i]? = some a) : ∃ e', es'[i]? = some e' ∧ All2 R (c a) e' :=
  h.get (by simp [ha])

theorem JS.idxC {c : β → List D} {l : List β} {n sz : Nat} {kk : IntKind} {z : Int} {mm : β → Option α} (hx : evV E x = some (.c n (.lst sz (l.map c)))) (hi : evV E ix = some (.x (.int kk z)))
    (hg : gst E g = some true) (hd : dstOk N dst = true) (h : ∀ a, at? l z = some a → JS pr fr b av N (putE E dst (.c n (.fptr (c a)))) R ops (mm a) Q) :
    JS pr fr b av N E R (⟨dst, .indexAddr sz x ix, g, aft, res⟩ :: ops) ((at? l z).bind mm) Q := by
  intro o ho s hs
  obtain ⟨a, ha, hm⟩ := Option.bind_eq_some_iff.1 ho
  refine JS.step (m := mm a) hg (fun s hs => ?_) (h a ha) o hm s hs
  obtain ⟨z0, hla, zl, zl'⟩ := at?_some ha
  have hi' := hs.ev hi
  simp only [VR] at hi'
  have hc := hs.ev hx
  simp only [VR] at hc
  rcases hc.lst_cases with ⟨he, _⟩ | ⟨es', hd', hq⟩ | ⟨k, id, off, len, es0, rfl, hd', h3, h4, rfl, h5, h6, h7⟩
  · simp at he; subst he; simp at hla
  · obtain ⟨e', q1, q2⟩ := get_all2 hq hla
    refine ⟨⟨.fptr e', [], []⟩, ?_, hs.put hd ?_⟩
    · simp only [opE, hi', hd']
      rw [if_pos ⟨z0, trivial⟩, q1]; rfl
    · simp only [VR]
      cases n with
      | zero => exact hc.elim
      | succ n => exact Cl.plain rfl (Nr.mk_fptr q2)
  · obtain ⟨e', q1, q2⟩ := get_all2 h5 hla
    have q1' : es0[off + z.toNat]? = some e' := by
      rw [List.getElem?_take] at q1
      split at q1
      · simpa using q1
      · cases q1
    refine ⟨⟨.ptr id ((off + z.toNat) * sz), [], []⟩, ?_, hs.put hd ?_⟩
    · simp only [opE, hi', hd', Eff.run, h3]
      rw [if_pos ⟨z0, by simpa using zl', trivial⟩]; rfl
    · simp only [VR]
      exact .inr (.inr (.inl ⟨_, id, off + z.toNat, 0, sz, es0, e', rfl, by simp, h3, q1', by simpa using q2, h6, h7 _ (List.mem_of_getElem? q1')⟩))

/-- What a row of the call's own is, in memory. -/
theorem EnvR.root (h : EnvR N E R fr b av s) {i : Nat} {o : Option Nat} {sz : Nat} {es : List (List V)} (hR : R[i]? = some ⟨o, sz, es⟩) :
    (o = none ∧ es = []) ∨ ∃ id es' S', o = some id ∧ hat s.hp id = .row sz es' true ∧ VOe s.hp es es' S' := by
  obtain ⟨S, h1, h2, h3⟩ := h.ro
  obtain ⟨S1, S2, S3, k1, rfl, k2⟩ := h1.at hR
  rcases k1 with ⟨e, e', _⟩ | ⟨id', es', S', e, hh, hv, rfl⟩
  · exact .inl ⟨e, e'⟩
  · exact .inr ⟨id', es', S', e, hh, hv⟩

/-- An element of a window of a row of the call's own. -/
theorem JS.idxW {c : β → List D} {l : List β} {o : Option Nat} {off len sz : Nat} {kk : IntKind} {z : Int} {mm : β → Option α} (i : Nat) (hR : R[i]? = some ⟨o, sz, vl c l⟩) (hx : evV E x = some (.ref o off len)) (hi : evV E ix = some (.x (.int kk z)))
    (hg : gst E g = some true) (hd : dstOk N dst = true) (h : ∀ id a, o = some id → l[off + z.toNat]? = some a → JS pr fr b av N (putE E dst (.ptr id sz (off + z.toNat) 0)) R ops (mm a) Q) :
    JS pr fr b av N E R (⟨dst, .indexAddr sz x ix, g, aft, res⟩ :: ops) ((at? ((l.drop off).take len) z).bind mm) Q := by
  intro ou ho s hs
  obtain ⟨a, ha, hm⟩ := Option.bind_eq_some_iff.1 ho
  obtain ⟨z0, hla, zl, zl'⟩ := at?_some ha
  have hla' : l[off + z.toNat]? = some a := by
    rw [List.getElem?_take] at hla
    split at hla
    · simpa using hla
    · cases hla
  have hlen : z.toNat < len := by
    rw [List.getElem?_take] at hla
    split at hla
    · assumption
    · cases hla
  have hx' := hs.ev hx
  simp only [VR] at hx'
  rcases hx' with ⟨id, rfl, _⟩ | ⟨_, _, rfl, _⟩
  · refine JS.step (m := mm a) hg (fun s hs => ?_) (h id a rfl hla') ou hm s hs
    have hi' := hs.ev hi
    simp only [VR] at hi'
    have hx' := hs.ev hx
    simp only [VR] at hx'
    rcases hx' with ⟨id', e, hx'⟩ | ⟨e, _⟩
    · injection e with e; subst e
      rcases hs.root hR with ⟨e, _⟩ | ⟨id', es', S', e, hh, hv⟩
      · cases e
      · injection e with e; subst e
        refine ⟨⟨.ptr id ((off + z.toNat) * sz), [], []⟩, ?_, hs.put hd (by simp only [VR, Nat.add_zero])⟩
        simp only [opE, hi', hx', Eff.run, hh]
        rw [if_pos ⟨z0, by omega, trivial⟩]; rfl
    · cases e
  · omega
theorem JS.idxT {c : β → List D} {l : List β} {o : Option Nat} {sz : Nat} {kk : IntKind} {z : Int} {mm : β → Option α} (i : Nat) (hR : R[i]? = some ⟨o, sz, vl c l⟩) (hx : evV E x = some (.ref o 0 l.length)) (hi : evV E ix = some (.x (.int kk z)))
    (hg : gst E g = some true) (hd : dstOk N dst = true) (h : ∀ id a, o = some id → l[z.toNat]? = some a → JS pr fr b av N (putE E dst (.ptr id sz z.toNat 0)) R ops (mm a) Q) :
    JS pr fr b av N E R (⟨dst, .indexAddr sz x ix, g, aft, res⟩ :: ops) ((at? l z).bind mm) Q := by
  have := JS.idxW (mm := mm) (ops := ops) (Q := Q) (aft := aft) (res := res) i hR hx hi hg hd (fun id a e ha => by
    rw [Nat.zero_add] at ha ⊢; exact h id a e ha)
  simpa using this

/-- The call's own cells, read. -/
def loadV (ag : Bool) (n sz j : Nat) (e : List V) : Option V := match leB (j + n) e.length, leB (j + 1) sz, ((e.drop j).take n).all flat with
  | true, true, true => shapedV ag ((e.drop j).take n)
  | _, _, _ => none
theorem VOs.part {H : Heap} : ∀ {v : List V} {d : List D} {S : List Nat} (j n : Nat), VOs H v d S → ((v.drop j).take n).all flat = true → VRs H ((v.drop j).take n) ((d.drop j).take n)
  | v, d, S, 0, 0, h, _ => by simp [VRs]
  | [], [], S, j, n, h, _ => by simp [VRs]
  | v :: vs, d :: ds, S, 0, n + 1, h, hf => by
    simp only [VOs] at h
    obtain ⟨S1, S2, h1, h2, rfl⟩ := h
    simp only [List.drop_zero, List.take_succ_cons, List.all_cons, Bool.and_eq_true] at hf ⊢
    simp only [VRs]
    exact ⟨(h1.to_VR hf.1).1, by simpa using VOs.part 0 n h2 (by simpa using hf.2)⟩
  | v :: vs, d :: ds, S, j + 1, n, h, hf => by
    simp only [VOs] at h
    obtain ⟨S1, S2, h1, h2, rfl⟩ := h
    simpa using VOs.part j n h2 (by simpa using hf)
  | [], _ :: _, _, _, _, h, _ => by simp [VOs] at h
  | _ :: _, [], _, _, _, h, _ => by simp [VOs] at h
theorem divmod {i sz j : Nat} (h : j < sz) : (i * sz + j) / sz = i ∧ (i * sz + j) % sz = j :=
  ⟨by rw [Nat.mul_comm, Nat.mul_add_div (by omega), Nat.div_eq_of_lt h]; omega, by rw [Nat.mul_comm, Nat.mul_add_mod, Nat.mod_eq_of_lt h]⟩
theorem JS.loadO {ag : Bool} {n id sz p j : Nat} {es : List (List V)} {e : List V} (i : Nat) (hR : R[i]? = some ⟨some id, sz, es⟩) (he : es[p]? = some e) (hx : evV E x = some (.ptr id sz p j))
    (hv : (loadV ag n sz j e).isSome = true) (hg : gst E g = some true) (hd : dstOk N dst = true) (h : JS pr fr b av N (putE E dst ((loadV ag n sz j e).getD (.x .undef))) R ops m Q) :
    JS pr fr b av N E R (⟨dst, .load ag n x, g, aft, res⟩ :: ops) m Q := by
  refine JS.step hg (fun s hs => ?_) h
  obtain ⟨v, hv'⟩ := Option.isSome_iff_exists.1 hv
  rw [hv']
  simp only [Option.getD_some]
  have hx' := hs.ev hx
  simp only [VR] at hx'
  rcases hs.root hR with ⟨e, _⟩ | ⟨id', es', S', e1, hh, hvo⟩
  · cases e
  injection e1 with e1; subst e1
  obtain ⟨d, T1, T2, T3, q1, q2, _, _⟩ := hvo.at he
  simp only [loadV] at hv'
  split at hv'
  · rename_i l1 l2 l3
    rw [leB_iff] at l1 l2
    obtain ⟨d', k1, k2⟩ := run_ofShaped hv' (q2.part j n l3)
    have := q2.len
    obtain ⟨d1, d2⟩ := divmod (i := p) l2
    refine ⟨⟨d', [], []⟩, ?_, hs.put hd k2⟩
    simp only [opE, hx', Eff.run, hh, d1, d2, q1]
    rw [if_pos (by omega)]
    exact k1
  · cases hv'

/-- The call's own cells, written. -/
def storeV (n sz j : Nat) (e : List V) (w : V) : Option (List V) := match (cellsW w).all oneV, (cellsW w).all flat, Nat.beq (cellsW w).length n, leB (j + n) e.length, leB (j + 1) sz with
  | true, true, true, true, true => some (e.take j ++ cellsW w ++ e.drop (j + n))
  | _, _, _, _, _ => none
theorem VOs.tk {H : Heap} : ∀ {es : List V} {ds : List D} {S : List Nat} (n : Nat), VOs H es ds S → ∃ S1 S2, S = S1 ++ S2 ∧ VOs H (es.take n) (ds.take n) S1 ∧ VOs H (es.drop n) (ds.drop n) S2
  | [], [], S, n, h => by simp only [VOs] at h; subst h; exact ⟨[], [], rfl, by simp [VOs], by simp [VOs]⟩
  | e :: es, d :: ds, S, 0, h => ⟨[], S, rfl, by simp [VOs], h⟩
  | e :: es, d :: ds, S, n + 1, h => by
    simp only [VOs] at h
    obtain ⟨S1, S2, h1, h2, rfl⟩ := h
    obtain ⟨T1, T2, rfl, k1, k2⟩ := h2.tk n
    exact ⟨S1 ++ T1, T2, by simp, by simp only [List.take_succ_cons, VOs]; exact ⟨S1, T1, h1, k1, rfl⟩, by simpa using k2⟩
  | [], _ :: _, _, _, h => by simp [VOs] at h
  | _ :: _, [], _, _, h => by simp [VOs] at h
theorem VOs.app {H : Heap} : ∀ {es fs : List V} {ds gs : List D} {S T : List Nat}, VOs H es ds S → VOs H fs gs T → VOs H (es ++ fs) (ds ++ gs) (S ++ T)
  | [], _, [], _, S, T, h, k => by simp only [VOs] at h; subst h; exact k
  | e :: es, _, d :: ds, _, S, T, h, k => by
    simp only [VOs, List.cons_append] at h ⊢
    obtain ⟨S1, S2, h1, h2, rfl⟩ := h
    exact ⟨S1, S2 ++ T, h1, h2.app k, by simp⟩
  | [], _, _ :: _, _, _, _, h, _ => by simp [VOs] at h
  | _ :: _, _, [], _, _, _, h, _ => by simp [VOs] at h
theorem JS.storeO {n id sz p j : Nat} {es es2 : List (List V)} {e : List V} {w : V} (i : Nat) (hR : R[i]? = some ⟨some id, sz, es⟩) (he : es[p]? = some e) (hx : evV E x = some (.ptr id sz p j)) (hy : evV E y = some w)
    (hv : (storeV n sz j e w).isSome = true) (hes : es.set p ((storeV n sz j e w).getD []) = es2) (hg : gst E g = some true) (h : JS pr fr b av N E (R.set i ⟨some id, sz, es2⟩) ops m Q) :
    JS pr fr b av N E R (⟨none, .store n x y, g, aft, res⟩ :: ops) m Q := by
  refine JS.step hg (fun s hs => ?_) h
  obtain ⟨v, hv'⟩ := Option.isSome_iff_exists.1 hv
  rw [hv'] at hes
  simp only [Option.getD_some] at hes
  have hx' := hs.ev hx
  simp only [VR] at hx'
  have hy' := hs.ev hy
  obtain ⟨es', S', hh, hvo, key⟩ := hs.upd (es2 := es2) hR
  obtain ⟨d, T1, T2, T3, q1, q2, rfl, q4⟩ := hvo.at he
  simp only [storeV] at hv'
  split at hv'
  · rename_i l1 l2 l3 l4 l5
    have l3' := Nat.eq_of_beq_eq_true l3
    rw [leB_iff] at l4 l5
    injection hv' with hv'
    obtain ⟨d1, d2⟩ := divmod (i := p) l5
    obtain ⟨g1, g2⟩ := cellsW_ok hy' l1
    have e1 := g1.len
    have e2 := q2.len
    obtain ⟨U1, U2, rfl, u1, u2⟩ := q2.tk j
    obtain ⟨W1, W2, rfl, w1, w2⟩ := u2.tk n
    rw [List.drop_drop, List.drop_drop] at w2
    have hnew : VOs s.hp v (splice d j (cellsOf (y.ev s.ts))) (U1 ++ [] ++ W2) := by
      rw [← hv']
      unfold splice
      rw [← e1, l3']
      exact (u1.app (VOs.of_VRs l2 g1)).app w2
    have := q4 s.hp (HLe.refl _) (fun _ _ => rfl) v _ _ hnew
    rw [hes] at this
    refine ⟨⟨.undef, [(id, .row sz (es'.set p (splice d j (cellsOf (y.ev s.ts)))) true)], []⟩, ?_, key _ _ this ?_⟩
    · simp only [opE, hx', Eff.run, hh, d1, d2, q1]
      rw [if_pos ⟨by omega, by omega, g2⟩]; rfl
    · refine ((List.Sublist.refl T1).append ?_).append (List.Sublist.refl T3)
      simp only [List.append_nil]
      exact (List.Sublist.refl U1).append (List.sublist_append_right W1 W2)
  · cases hv'
/-- A new row of literal elements. -/
def fillSV (sz : Nat) : List (List V) → List (Nat × V) → Option (List (List V))
  | z, [] => some z
  | z, (i, v) :: ps => match (cellsW v).all oneV, (cellsW v).all flat, Nat.beq (cellsW v).length sz, leB (i + 1) z.length with
    | true, true, true, true => fillSV sz (z.set i (cellsW v)) ps
    | _, _, _, _ => none
def evP2 (E : Env) : List (Nat × PX) → Option (List (Nat × V))
  | [] => some []
  | (i, x) :: ps => match evV E x, evP2 E ps with
    | some v, some l => some ((i, v) :: l)
    | _, _ => none
def buildV (E : Env) (sz n : Nat) (zero : List D) (parts : List (Nat × PX)) : Option (List (List V)) :=
  match evP2 E parts with
  | some l => fillSV sz (List.replicate n (zero.map V.x)) l
  | none => none
theorem xs_flat (z : List D) : (z.map V.x).all flat = true := by simp [flat]
theorem evP2_ok (h : EnvR N E R fr b av s) {sz : Nat} : ∀ {ps : List (Nat × PX)} {l : List (Nat × V)}, evP2 E ps = some l → ∀ {z : List (List V)} {zd : List (List D)} {vs : List (List V)}, flatE z → All2 (VRs s.hp) z zd → fillSV sz z l = some vs →
    (ps.all fun p => (cellsOf (p.2.ev s.ts)).all one) = true ∧ ∃ ds, fillS sz zd (ps.map fun p => (p.1, p.2.ev s.ts)) = some ds ∧ All2 (VRs s.hp) vs ds ∧ flatE vs ∧ ds.length = zd.length
  | [], l, hl, z, zd, vs, hfl, hz, hf => by
    simp only [evP2, Option.some.injEq] at hl
    subst hl
    simp only [fillSV, Option.some.injEq] at hf
    subst hf
    exact ⟨rfl, zd, rfl, hz, hfl, rfl⟩
  | (i, x) :: ps, l, hl, z, zd, vs, hfl, hz, hf => by
    simp only [evP2] at hl
    split at hl
    · rename_i v l' hv hl'
      injection hl with hl
      subst hl
      simp only [fillSV] at hf
      split at hf
      · rename_i k1 k4 k2 k3
        obtain ⟨g1, g2⟩ := cellsW_ok (h.ev hv) k1
        have k2' := Nat.eq_of_beq_eq_true k2
        rw [leB_iff] at k3
        have e1 := hz.len
        have e2 := g1.len
        obtain ⟨a1, ds, a2, a3, a4, a5⟩ := evP2_ok h hl' (z := z.set i (cellsW v)) (zd := zd.set i (cellsOf (x.ev s.ts))) (by
          intro e he
          rcases List.mem_or_eq_of_mem_set he with he | he
          · exact hfl e he
          · rw [he]; exact k4) (hz.set g1) hf
        refine ⟨by simp [g2]; simpa using a1, ds, ?_, a3, a4, by simpa using a5⟩
        simp only [List.map_cons, fillS]
        rw [if_pos ⟨by omega, by omega⟩]
        exact a2
      · cases hf
    · cases hl
theorem All2.replicate {R : α → β → Prop} {a : α} {c : β} (h : R a c) : ∀ n, All2 R (List.replicate n a) (List.replicate n c)
  | 0 => trivial
  | n + 1 => ⟨h, All2.replicate h n⟩
theorem fillS_len {sz : Nat} : ∀ {ps : List (Nat × D)} {z ds : List (List D)}, fillS sz z ps = some ds → ds.length = z.length
  | [], z, ds, h => by simp only [fillS, Option.some.injEq] at h; rw [h]
  | (i, d) :: ps, z, ds, h => by
    simp only [fillS] at h
    split at h
    · simpa using fillS_len h
    · cases h
theorem JS.buildSlice {c : β → List D} (l : List β) {sz n : Nat} {zero : List D} {parts : List (Nat × PX)} (hb : buildV E sz n zero parts = some (vl c l)) (hn : n = l.length) (hav : av.contains res = true)
    (hg : gst E g = some true) (hd : dstOk N dst = true) (h : ∀ id, JS pr fr b (av.erase res) N (putE E dst (.ref (some id) 0 l.length)) (R ++ [⟨some id, sz, vl c l⟩]) ops m Q) :
    JS pr fr b av N E R (⟨dst, .buildSlice sz n zero parts, g, aft, res⟩ :: ops) m Q := by
  refine JS.step hg (fun s hs => ?_) (h (b + res))
  simp only [buildV] at hb
  split at hb
  · rename_i l' hl'
    obtain ⟨a1, ds, a2, a3, a4, a5⟩ := evP2_ok hs hl' (zd := List.replicate n zero) (fun e he => by
      simp at he; rw [he.2]; exact xs_flat zero) (All2.replicate (VRs.xs zero) n) hb
    have hr : res ∈ av := by simpa using hav
    obtain ⟨f1, f2, f3⟩ := hs.avl.2 res hr
    have h1 := hs.new hr (sz := sz) (VOe.of_flat a4 a3)
    refine ⟨⟨.ref (b + res) 0 n, [(b + res, .row sz ds true)], []⟩, ?_, h1.put hd ?_⟩
    · simp only [opE, a1, if_true, a2, Eff.run, f1, f2]
    · simp only [VR]
      exact .inl ⟨_, rfl, by rw [hn]⟩
  · cases hb
theorem JS.box {n : Nat} {w : V} (hx : evV E x = some w) (hw : Nat.beq (cellsW w).length n = true ∧ (cellsW w).all oneV = true ∧ (cellsW w).all flat = true) (hav : av.contains res = true)
    (hg : gst E g = some true) (hd : dstOk N dst = true) (h : ∀ id, JS pr fr b (av.erase res) N (putE E dst (.ptr id n 0 0)) (R ++ [⟨some id, n, [cellsW w]⟩]) ops m Q) :
    JS pr fr b av N E R (⟨dst, .box n x, g, aft, res⟩ :: ops) m Q := by
  refine JS.step hg (fun s hs => ?_) (h (b + res))
  obtain ⟨w1, w2, w3⟩ := hw
  obtain ⟨g1, g2⟩ := cellsW_ok (hs.ev hx) w2
  have hr : res ∈ av := by simpa using hav
  obtain ⟨f1, f2, f3⟩ := hs.avl.2 res hr
  have w1' := Nat.eq_of_beq_eq_true w1
  have e1 := g1.len
  have h1 := hs.new hr (sz := n) (es := [cellsW w]) (es' := [cellsOf (x.ev s.ts)]) (VOe.of_flat (fun e he => by simp at he; rw [he]; exact w3) ⟨g1, trivial⟩)
  refine ⟨⟨.ptr (b + res) 0, [(b + res, .row n [cellsOf (x.ev s.ts)] true)], []⟩, ?_, h1.put hd (by simp only [VR, Nat.zero_mul])⟩
  simp only [opE]
  rw [if_pos ⟨by omega, g2⟩]
  simp only [Eff.run, f1, f2, if_true]
theorem JS.alloc {zero : List D} (hav : av.contains res = true)
    (hg : gst E g = some true) (hd : dstOk N dst = true) (h : ∀ id, JS pr fr b (av.erase res) N (putE E dst (.ptr id zero.length 0 0)) (R ++ [⟨some id, zero.length, [zero.map V.x]⟩]) ops m Q) :
    JS pr fr b av N E R (⟨dst, .alloc zero, g, aft, res⟩ :: ops) m Q := by
  refine JS.step hg (fun s hs => ?_) (h (b + res))
  have hr : res ∈ av := by simpa using hav
  obtain ⟨f1, f2, f3⟩ := hs.avl.2 res hr
  have h1 := hs.new hr (sz := zero.length) (es := [zero.map V.x]) (es' := [zero]) (VOe.of_flat (fun e he => by simp at he; rw [he]; exact xs_flat zero) ⟨VRs.xs zero, trivial⟩)
  refine ⟨⟨.ptr (b + res) 0, [(b + res, .row zero.length [zero] true)], []⟩, ?_, h1.put hd (by simp only [VR, Nat.zero_mul])⟩
  simp only [opE, Eff.run, f1, f2, if_true]

/-! ### appending -/
/-- What is appended. -/
def SrcOk (N : Nat) (E : Env) (R : List Rt) (fr : Nat → Option Blk) (b : Nat) (av : List Nat) (y : PX) (sz : Nat) (ms : List (List V)) : Prop :=
  flatE ms ∧ ∀ s, EnvR N E R fr b av s → ∃ src, (source sz (y.ev s.ts)).run s.hp = some src ∧ All2 (VRs s.hp) ms src
theorem cellsV_nr {H : Heap} : ∀ {cs ds : List D}, All2 Nr cs ds → cs.all okc = true → VRs H (cs.map (cellV 1)) ds
  | [], [], _, _ => by simp [VRs]
  | c :: cs, d :: ds, h, k => by
    simp only [List.all_cons, Bool.and_eq_true] at k
    simp only [List.map_cons, VRs]
    exact ⟨cellV_ok (nr_cl h.1 (by simpa [okc] using k.1)), cellsV_nr h.2 k.2⟩
  | [], _ :: _, h, _ => h.elim
  | _ :: _, [], h, _ => h.elim
theorem vl_rows {H : Heap} {c : β → List D} (hc : ∀ a, (c a).all okc = true) : ∀ {l : List β} {es : List (List D)}, All2 (All2 Nr) (l.map c) es → All2 (VRs H) (vl c l) es
  | [], [], _ => trivial
  | a :: l, e :: es, h => ⟨cellsV_nr h.1 (hc a), vl_rows hc h.2⟩
  | [], _ :: _, h => h.elim
  | _ :: _, [], h => h.elim
theorem vl_rows2 {H : Heap} {n : Nat} {c : β → List D} (hc : ∀ a, (c a).map (cellV n) = cv c a) : ∀ {l : List β} {es : List (List D)}, All2 (All2 (Cl H n)) (l.map c) es → All2 (VRs H) (vl c l) es
  | [], [], _ => trivial
  | a :: l, e :: es, h => ⟨by rw [← hc]; exact cellsV_ok h.1, vl_rows2 hc h.2⟩
  | [], _ :: _, h => h.elim
  | _ :: _, [], h => h.elim
theorem srcC {c : β → List D} {l : List β} {n sz : Nat} (hy : evV E y = some (.c n (.lst sz (l.map c)))) (hc : ∀ a, (c a).all okc = true) (hc2 : ∀ a k, (c a).map (cellV k) = cv c a) : SrcOk N E R fr b av y sz (vl c l) := by
  refine ⟨vl_flat c l, fun s hs => ?_⟩
  have h := hs.ev hy
  simp only [VR] at h
  rcases h.lst_cases with ⟨he, hd⟩ | ⟨es', hd', hq⟩ | ⟨k, id, off, len, es0, rfl, hd', h3, h4, rfl, h5, h6, h7⟩
  · simp at he; subst he
    exact ⟨[], by rw [hd]; rfl, trivial⟩
  · exact ⟨es', by rw [hd']; simp [source, Eff.run], vl_rows hc hq⟩
  · refine ⟨_, by rw [hd']; simp only [source, Eff.run, h3]; rw [if_pos ⟨trivial, h4⟩]; rfl, vl_rows2 (fun a => hc2 a k) h5⟩
theorem srcW {c : β → List D} {l : List β} {o : Option Nat} {off len sz : Nat} (i : Nat) (hR : R[i]? = some ⟨o, sz, vl c l⟩) (hy : evV E y = some (.ref o off len)) (hl : off + len ≤ l.length) : SrcOk N E R fr b av y sz (vl c ((l.drop off).take len)) := by
  refine ⟨vl_flat c _, fun s hs => ?_⟩
  have h := hs.ev hy
  simp only [VR] at h
  rcases h with ⟨id, rfl, hd⟩ | ⟨rfl, rfl, rfl, hd⟩
  · rcases hs.root hR with ⟨e, _⟩ | ⟨id', es', S', e, hh, hv⟩
    · cases e
    · injection e with e; subst e
      obtain ⟨ha, _⟩ := hv.flat (vl_flat c l)
      have := ha.len
      rw [vl_len] at this
      refine ⟨_, by rw [hd]; simp only [source, Eff.run, hh]; rw [if_pos ⟨trivial, by omega⟩]; rfl, ?_⟩
      rw [← vl_take, ← vl_drop]
      exact (ha.drop off).take len
  · exact ⟨[], by rw [hd]; rfl, by simp [vl, All2]⟩
theorem srcT {c : β → List D} {l : List β} {o : Option Nat} {sz : Nat} (i : Nat) (hR : R[i]? = some ⟨o, sz, vl c l⟩) (hy : evV E y = some (.ref o 0 l.length)) : SrcOk N E R fr b av y sz (vl c l) := by
  have := srcW (N := N) (fr := fr) (b := b) (av := av) i hR hy (by simp)
  simpa using this
theorem srcN {sz : Nat} (hy : evV E y = some (.x .nil)) : SrcOk N E R fr b av y sz [] := by
  refine ⟨fun e he => (by cases he), fun s hs => ?_⟩
  have h := hs.ev hy
  simp only [VR] at h
  exact ⟨[], by rw [h]; rfl, trivial⟩
theorem srcS {t : List UInt8} (hy : evV E y = some (.x (.str t))) : SrcOk N E R fr b av y 1 (vl (iD .u8) (t.map fun c => (c.toNat : Int))) := by
  refine ⟨vl_flat _ _, fun s hs => ?_⟩
  have h := hs.ev hy
  simp only [VR] at h
  refine ⟨ofBytes t, by rw [h]; rfl, ?_⟩
  clear h hy hs
  induction t with
  | nil => trivial
  | cons c t ih => exact ⟨by simp only [cv, iD, List.map_cons, List.map_nil, cellV, sc, VRs, VR]; exact ⟨trivial, trivial⟩, ih⟩

/-- Appended to a row of the call's own, whole or cut short. -/
theorem JS.appW {c : β → List D} {l k : List β} {o : Option Nat} {len sz bytes : Nat} (i : Nat) (hR : R[i]? = some ⟨o, sz, vl c l⟩) (hx : evV E x = some (.ref o 0 len)) (hlen : len ≤ l.length) (hsrc : SrcOk N E R fr b av y sz (vl c k)) (hk : k = [] → len = l.length) (hav : av.contains res = true)
    (hg : gst E g = some true) (hd : dstOk N dst = true) (h : ∀ o', JS pr fr b (av.erase res) N (putE E dst (.ref o' 0 (l.take len ++ k).length)) (R.set i ⟨o', sz, vl c (l.take len ++ k)⟩) ops m Q) :
    JS pr fr b av N E R (⟨dst, .append sz bytes x y, g, aft, res⟩ :: ops) (room (len + k.length) bytes m) Q := by
  intro ou ho s hs
  unfold room at ho
  split at ho
  case isFalse => cases ho
  rename_i hroom
  have hr : res ∈ av := by simpa using hav
  obtain ⟨src, q1, q2⟩ := hsrc.2 s hs
  have hsl := q2.len
  rw [vl_len] at hsl
  have hx' := hs.ev hx
  simp only [VR] at hx'
  obtain ⟨g1, g2⟩ := gst_true hs hg
  obtain ⟨f1, f2, f3⟩ := hs.avl.2 res hr
  have go : ∀ (o' : Option Nat) (z : Out), (opE noCall (PX.ev s.ts) (b + res) (.append sz bytes x y)).run s.hp = some z →
      EnvR N (putE E dst (.ref o' 0 (l.take len ++ k).length)) (R.set i ⟨o', sz, vl c (l.take len ++ k)⟩) fr b (av.erase res) ⟨putT s.ts dst z.d, z.on s.hp⟩ → Steps pr b (⟨dst, .append sz bytes x y, g, aft, res⟩ :: ops) s (Q ou) := by
    intro o' z h1 h2
    refine Steps.cons (n := 0) (s1 := ⟨putT s.ts dst z.d, z.on s.hp⟩) ?_ (h o' ou ho _ h2)
    exact (stepO_mono (noCall_le _) (stepO_of (b := b) (o := ⟨dst, .append sz bytes x y, g, aft, res⟩) (ts := s.ts) (H := s.hp) g1 g2 h1)).1
  by_cases hke : k = []
  · subst hke
    have hll := hk rfl
    subst hll
    have hse : src = [] := by simpa using hsl.symm
    subst hse
    rcases hx' with ⟨id, rfl, hx'⟩ | ⟨rfl, _, hlz, hx'⟩
    · refine go (some id) ⟨.ref id 0 l.length, [], []⟩ ?_ ?_
      · simp only [opE, run_bindE, q1, Option.bind_some, List.isEmpty_nil, if_true, hx']; rfl
      · have hset : R.set i ⟨some id, sz, vl c (l.take l.length ++ [])⟩ = R := by
          simp only [List.take_length, List.append_nil]
          exact List.ext_getElem? fun j => by
            rw [List.getElem?_set]
            split
            · rename_i e; subst e
              split
              · exact hR.symm
              · rename_i h; exact absurd (List.getElem?_eq_some_iff.1 hR).1 h
            · rfl
        rw [hset]
        have := hs.put (dst := dst) (v := .ref (some id) 0 l.length) (d := .ref id 0 l.length) hd (by simp only [VR]; exact .inl ⟨id, rfl, rfl⟩)
        simp only [List.take_length, List.append_nil]
        exact ⟨this.len, this.sl, this.ro, this.frm, this.avl.1.erase res, fun q hq => this.avl.2 q (List.mem_of_mem_erase hq)⟩
    · have hle : l = [] := List.length_eq_zero_iff.1 (by omega)
      subst hle
      refine go none ⟨.nil, [], []⟩ ?_ ?_
      · simp only [opE, run_bindE, q1, Option.bind_some, List.isEmpty_nil, if_true, hx']; rfl
      · have hset : R.set i ⟨none, sz, vl c (List.take 0 [] ++ [])⟩ = R := by
          exact List.ext_getElem? fun j => by
            rw [List.getElem?_set]
            split
            · rename_i e; subst e
              split
              · exact hR.symm
              · rename_i h; exact absurd (List.getElem?_eq_some_iff.1 hR).1 h
            · rfl
        have := hs.put (dst := dst) (v := .ref none 0 0) (d := .nil) hd (by simp only [VR]; exact .inr ⟨trivial, trivial, trivial, trivial⟩)
        simp only [List.length_nil] at hset ⊢
        rw [hset]
        exact ⟨this.len, this.sl, this.ro, this.frm, this.avl.1.erase res, fun q hq => this.avl.2 q (List.mem_of_mem_erase hq)⟩
  · have hsne : src.isEmpty = false := by
      cases src with
      | nil => simp at hsl; exact absurd hsl hke
      | cons => rfl
    rcases hx' with ⟨id, rfl, hx'⟩ | ⟨rfl, _, hlz, hx'⟩
    · obtain ⟨es', S', hh, hvo, key⟩ := hs.move (es2 := vl c (l.take len ++ k)) hR hr
      obtain ⟨ha, rfl⟩ := hvo.flat (vl_flat c l)
      have hl' := ha.len
      rw [vl_len] at hl'
      have hnew : VOe s.hp (vl c (l.take len ++ k)) (es'.take len ++ src) [] := by
        rw [← vl_append, ← vl_take]
        exact VOe.of_flat (fun e he => by
          simp at he
          rcases he with he | he
          · exact vl_flat c l e (List.mem_of_mem_take he)
          · exact vl_flat c k e he) ((ha.take len).append q2)
      refine go (some (b + res)) ⟨.ref (b + res) 0 (len + src.length), [(id, .dead), (b + res, .row sz (es'.take len ++ src) true)], []⟩ ?_ ?_
      · simp only [opE, run_bindE, q1, Option.bind_some, hsne, Bool.false_eq_true, if_false, hx', Eff.run, hh]
        rw [if_pos ⟨trivial, trivial, by omega, by rw [← hsl]; exact hroom.1, by rw [← hsl]; exact hroom.2⟩]
        simp only [Eff.run, f1, f2, if_true]
      · refine (key _ _ hnew (List.Sublist.refl _)).put hd ?_
        simp only [VR]
        refine .inl ⟨b + res, rfl, ?_⟩
        congr 1
        simp [← hsl, Nat.min_eq_left hlen]
    · subst hlz
      obtain ⟨he, key⟩ := hs.make (es2 := vl c (l.take 0 ++ k)) hR hr (es2' := src) (by
        simp only [List.take_zero, List.nil_append]
        exact VOe.of_flat (vl_flat c k) q2)
      refine go (some (b + res)) ⟨.ref (b + res) 0 src.length, [(b + res, .row sz src true)], []⟩ ?_ ?_
      · simp only [opE, run_bindE, q1, Option.bind_some, hsne, Bool.false_eq_true, if_false, hx']
        rw [if_pos ⟨by rw [← hsl]; simpa using hroom.1, by rw [← hsl]; simpa using hroom.2⟩]
        simp only [Eff.run, f1, f2, if_true]
      · refine key.put hd ?_
        simp only [VR]
        exact .inl ⟨b + res, rfl, by simp [hsl]⟩
theorem JS.appT {c : β → List D} {l k : List β} {o : Option Nat} {sz bytes : Nat} (i : Nat) (hR : R[i]? = some ⟨o, sz, vl c l⟩) (hx : evV E x = some (.ref o 0 l.length)) (hsrc : SrcOk N E R fr b av y sz (vl c k)) (hav : av.contains res = true)
    (hg : gst E g = some true) (hd : dstOk N dst = true) (h : ∀ o', JS pr fr b (av.erase res) N (putE E dst (.ref o' 0 (l ++ k).length)) (R.set i ⟨o', sz, vl c (l ++ k)⟩) ops m Q) :
    JS pr fr b av N E R (⟨dst, .append sz bytes x y, g, aft, res⟩ :: ops) (room (l.length + k.length) bytes m) Q := by
  refine JS.appW (l := l) (k := k) i hR hx (Nat.le_refl _) hsrc (fun _ => rfl) hav hg hd ?_
  simpa using h
end
end Go.Pi
