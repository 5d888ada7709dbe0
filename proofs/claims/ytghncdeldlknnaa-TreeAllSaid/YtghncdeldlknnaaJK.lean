import Derived.Test.YtghncdeldlknnaaJI
/-
  MORE RULES: bound terms, cut lists, strings, comparisons of structs; the end of a body.
-/
set_option linter.all false
namespace Go.Pi
set_option linter.unusedVariables false

section
variable {pr : Prog} {fr : Nat → Option Blk} {α β γ : Type} {N b : Nat} {av : List Nat} {E : Env} {R : List Rt} {m : Option α} {s : St}
variable {dst : Option Nat} {g : Option (Nat × Bool)} {aft : List Nat} {res : Nat} {ops : List PO} {Q : α → St → Prop} {x y ix : PX}

theorem JS.bind {m1 : Option β} {mm : β → Option α} (h : ∀ r, m1 = some r → JS pr fr b av N E R ops (mm r) Q) : JS pr fr b av N E R ops (m1.bind mm) Q := by
  intro o ho s hs
  obtain ⟨r, h1, h2⟩ := Option.bind_eq_some_iff.1 ho
  exact h r h1 o h2 s hs
theorem JS.conv {m' : Option α} (hm : m = m') (h : JS pr fr b av N E R ops m' Q) : JS pr fr b av N E R ops m Q := by subst hm; exact h
theorem JS.to (E' : Env) (R' : List Rt) (hE : SubE E E') (hR : R = R') (h : JS pr fr b av N E' R' ops m Q) : JS pr fr b av N E R ops m Q := by
  subst hR
  exact fun o ho s hs => h o ho s ⟨hs.len, fun i v hv => hs.sl i v (hE.get hv), hs.ro, hs.frm, hs.avl⟩
theorem CallOk.of' {f : Nat} {vs : List V} {tp : Bool} {Res : α → List RI} {pf : PF} {ts : List Nat} (hf : pr f = some pf) (hts : resSlots pf.results = some ts) (htp : tp = (match ts with | [_] => false | _ => true)) (hlen : leB vs.length pf.ntmps = true)
    (h : JC pr noFr pf.ntmps (argE 0 vs) [] pf.body m (fun r => GotA pf.ntmps noFr (RetA ts (Res r)))) : ∀ r, m = some r → CallOk pr f vs tp (Res r) :=
  fun r hr => CallOk.of (v := r) hf hts htp hlen (by
    intro o ho s hs
    cases ho
    exact h r hr s hs)
/-- The end of a body. -/
theorem JC.fin {c : PC} {v : α} {ts : List Nat} {Res : α → List RI} {vs : List V} {is : List Nat} {ex : Ex} (hc : c = exC ex) (hex : ∀ i, ex ≠ .exit i) (hg : getL E ts = some vs) (ho : Outs R vs (Res v) is) :
    JC pr fr N E R c (some v) (fun r => GotA N fr (RetA ts (Res r))) :=
  JC.got (A := fun r => RetA ts (Res r)) hc ⟨hex, vs, is, hg, ho⟩
theorem ret_ne : ∀ i, Ex.ret ≠ .exit i := by intro i h; cases h
theorem normal_ne : ∀ i, Ex.normal ≠ .exit i := by intro i h; cases h

/-! ### structs, compared -/
def eqD : D → D → Bool
  | .int _ a, .int _ c => a == c
  | .bool a, .bool c => a == c
  | .str a, .str c => a == c
  | _, _ => false
def eqDs : List D → List D → Bool
  | [], [] => true
  | x :: xs, y :: ys => eqD x y && eqDs xs ys
  | _, _ => false
def samK : List D → List D → Bool
  | [], [] => true
  | .int k _ :: xs, .int k' _ :: ys => (match decide (k = k') with | true => samK xs ys | false => false)
  | .bool _ :: xs, .bool _ :: ys => samK xs ys
  | .str _ :: xs, .str _ :: ys => samK xs ys
  | _, _ => false
theorem eqCs_of : ∀ {xs ys : List D}, samK xs ys = true → eqCs xs ys = some (eqDs xs ys)
  | [], [], _ => rfl
  | .int k a :: xs, .int k' c :: ys, h => by
    simp only [samK] at h
    split at h
    · rename_i hk
      simp at hk
      subst hk
      simp only [eqCs, eqC, if_true, Option.bind_some, eqDs, eqD]
      rw [eqCs_of h]
      cases a == c <;> rfl
    · cases h
  | .bool a :: xs, .bool c :: ys, h => by
    simp only [samK] at h
    simp only [eqCs, eqC, Option.bind_some, eqDs, eqD]
    rw [eqCs_of h]
    cases a == c <;> rfl
  | .str a :: xs, .str c :: ys, h => by
    simp only [samK] at h
    simp only [eqCs, eqC, Option.bind_some, eqDs, eqD]
    rw [eqCs_of h]
    cases a == c <;> rfl
  | [], _ :: _, h => by simp [samK] at h
  | x :: _, [], h => by cases x <;> simp [samK] at h
  | .int _ _ :: _, y :: _, h => by cases y <;> first | (simp [samK] at h; done) | skip
                                   rename_i k a xs ys k' c
                                   simp only [samK] at h
                                   split at h
                                   · rename_i hk
                                     simp at hk
                                     subst hk
                                     simp only [eqCs, eqC, if_true, Option.bind_some, eqDs, eqD]
                                     rw [eqCs_of h]
                                     cases a == c <;> rfl
                                   · cases h
  | .bool _ :: _, y :: _, h => by cases y <;> first | (simp [samK] at h; done) | skip
                                  rename_i a xs ys c
                                  simp only [samK] at h
                                  simp only [eqCs, eqC, Option.bind_some, eqDs, eqD]
                                  rw [eqCs_of h]
                                  cases a == c <;> rfl
  | .str _ :: _, y :: _, h => by cases y <;> first | (simp [samK] at h; done) | skip
                                 rename_i a xs ys c
                                 simp only [samK] at h
                                 simp only [eqCs, eqC, Option.bind_some, eqDs, eqD]
                                 rw [eqCs_of h]
                                 cases a == c <;> rfl
  | .undef :: _, _ :: _, h => by simp [samK] at h
  | .skip :: _, _ :: _, h => by simp [samK] at h
  | .flt _ :: _, _ :: _, h => by simp [samK] at h
  | .nan :: _, _ :: _, h => by simp [samK] at h
  | .nil :: _, _ :: _, h => by simp [samK] at h
  | .lst _ _ :: _, _ :: _, h => by simp [samK] at h
  | .own _ _ :: _, _ :: _, h => by simp [samK] at h
  | .ref _ _ _ :: _, _ :: _, h => by simp [samK] at h
  | .ptr _ _ :: _, _ :: _, h => by simp [samK] at h
  | .fptr _ :: _, _ :: _, h => by simp [samK] at h
  | .nilp :: _, _ :: _, h => by simp [samK] at h
  | .agg _ :: _, _ :: _, h => by simp [samK] at h
  | .tup _ :: _, _ :: _, h => by simp [samK] at h
  | .fn _ :: _, _ :: _, h => by simp [samK] at h
def beqL : List Nat → List Nat → Bool
  | [], [] => true
  | a :: as, c :: cs => Nat.beq a c && beqL as cs
  | _, _ => false
theorem beqL_eq : ∀ {a c : List Nat}, beqL a c = true → a = c
  | [], [], _ => rfl
  | a :: as, c :: cs, h => by
    simp only [beqL, Bool.and_eq_true] at h
    rw [Nat.eq_of_beq_eq_true h.1, beqL_eq h.2]
  | [], _ :: _, h => by simp [beqL] at h
  | _ :: _, [], h => by simp [beqL] at h
theorem JS.eqA {neg : Bool} {ks : List Nat} {as cs : List D} (hx : exV E x = some (.agg as)) (hy : exV E y = some (.agg cs)) (hk : (samK as cs && beqL (as.map kindD) ks && beqL (cs.map kindD) ks) = true)
    (hg : gst E g = some true) (hd : dstOk N dst = true) (h : JS pr fr b av N (putE E dst (.x (.bool (if neg then !eqDs as cs else eqDs as cs)))) R ops m Q) : JS pr fr b av N E R (⟨dst, .eqA neg ks x y, g, aft, res⟩ :: ops) m Q := by
  refine JS.step hg (fun s hs => ?_) h
  simp only [Bool.and_eq_true] at hk
  obtain ⟨⟨h1, h2⟩, h3⟩ := hk
  refine ⟨⟨.bool (if neg then !eqDs as cs else eqDs as cs), [], []⟩, ?_, hs.put hd (by simp only [VR])⟩
  simp only [opE, hs.ex hx, hs.ex hy]
  rw [if_pos ⟨beqL_eq h2, beqL_eq h3⟩, eqCs_of h1]
  rfl

/-! ### lists, cut -/
def evO (E : Env) : Option PX → Option (Option Int)
  | none => some none
  | some x => match exV E x with
    | some (.int _ n) => some (some n)
    | _ => none
def cutI (len : Nat) (lo hi : Option Int) : Option (Nat × Nat) :=
  match hi with
  | none => (match lo with
    | none => some (0, len)
    | some y => if 0 ≤ y ∧ y ≤ len then some (y.toNat, len) else none)
  | some z => if 0 ≤ z ∧ z ≤ len then (match lo with
    | none => some (0, z.toNat)
    | some y => if 0 ≤ y ∧ y ≤ z then some (y.toNat, z.toNat) else none) else none
theorem cut_of (hs : EnvR N E R fr b av s) {lo hi : Option PX} {l h : Option Int} (hl : evO E lo = some l) (hh : evO E hi = some h) (n : Nat) : cut n (lo.map (PX.ev s.ts)) (hi.map (PX.ev s.ts)) = cutI n l h := by
  have key : ∀ {q : Option PX} {z : Option Int}, evO E q = some z → (q = none ∧ z = none) ∨ ∃ x k n, q = some x ∧ z = some n ∧ x.ev s.ts = .int k n := by
    intro q z hq
    cases q with
    | none => simp only [evO, Option.some.injEq] at hq; exact .inl ⟨rfl, hq.symm⟩
    | some x =>
      simp only [evO] at hq
      split at hq
      · rename_i k n e
        injection hq with hq
        exact .inr ⟨x, k, n, rfl, hq.symm, hs.ex e⟩
      · cases hq
  rcases key hl with ⟨rfl, rfl⟩ | ⟨x1, k1, n1, rfl, rfl, e1⟩ <;> rcases key hh with ⟨rfl, rfl⟩ | ⟨x2, k2, n2, rfl, rfl, e2⟩
  · rfl
  · simp only [cut, Option.map_some, Option.map_none, e2, cutI]
    split <;> simp
  · simp only [cut, Option.map_some, Option.map_none, e1, cutI, Option.bind_some]
  · simp only [cut, Option.map_some, e1, e2, cutI]
    by_cases c : 0 ≤ n2 ∧ n2 ≤ n
    · rw [if_pos c, if_pos c]
      simp only [Option.bind_some]
      have : ((n2.toNat : Nat) : Int) = n2 := by omega
      rw [this]
    · rw [if_neg c, if_neg c]; rfl
theorem cutI_le {n : Nat} {l h : Option Int} {p : Nat × Nat} (hp : cutI n l h = some p) : p.1 ≤ p.2 ∧ p.2 ≤ n := by
  unfold cutI at hp
  split at hp
  · split at hp
    · injection hp with hp; subst hp; simp
    · split at hp
      · injection hp with hp; subst hp; simp; omega
      · cases hp
  · split at hp
    · split at hp
      · injection hp with hp; subst hp; simp; omega
      · split at hp
        · injection hp with hp; subst hp; simp; omega
        · cases hp
    · cases hp
def sl {α : Type} (l : List α) (p : Nat × Nat) : List α := (l.drop p.1).take (p.2 - p.1)
theorem JS.sliceC {c : β → List D} {l : List β} {n sz : Nat} {lo hi : Option PX} {lo' hi' : Option Int} {mm : Nat × Nat → Option α} (hx : evV E x = some (.c n (.lst sz (l.map c)))) (hl : evO E lo = some lo') (hh : evO E hi = some hi')
    (hg : gst E g = some true) (hd : dstOk N dst = true) (h : ∀ p, cutI l.length lo' hi' = some p → JS pr fr b av N (putE E dst (.c n (.lst sz ((sl l p).map c)))) R ops (mm p) Q) :
    JS pr fr b av N E R (⟨dst, .slice sz x lo hi, g, aft, res⟩ :: ops) ((cutI l.length lo' hi').bind mm) Q := by
  refine JS.bind fun p hp => JS.step hg (fun s hs => ?_) (h p hp)
  have hc := hs.ev hx
  simp only [VR] at hc
  have hcut := fun k => cut_of hs hl hh k
  have hsl : (sl l p).map c = ((l.map c).drop p.1).take (p.2 - p.1) := by simp [sl, List.map_take, List.map_drop]
  rcases hc.lst_cases with ⟨he, hd'⟩ | ⟨es', hd', hq⟩ | ⟨k, id, off, len, es0, rfl, hd', h3, h4, hlen, h5, h6, h7⟩
  · have he' : l = [] := by simpa using he
    subst he'
    obtain ⟨q1, q2⟩ := cutI_le hp
    refine ⟨⟨.nil, [], []⟩, ?_, hs.put hd ?_⟩
    · simp only [opE, hd', hcut]
      have : cutI 0 lo' hi' = some p := hp
      rw [this]; rfl
    · simp only [VR, sl, List.drop_nil, List.take_nil, List.map_nil]
      cases n with
      | zero => exact hc.elim
      | succ n => exact .inl ⟨rfl, Nr.mk_nil⟩
  · have hl' : es'.length = l.length := by have := hq.len; simpa using this.symm
    refine ⟨⟨.lst sz ((es'.drop p.1).take (p.2 - p.1)), [], []⟩, ?_, hs.put hd ?_⟩
    · simp only [opE, hd', if_true, hcut, hl', hp]; rfl
    · simp only [VR]
      cases n with
      | zero => exact hc.elim
      | succ n => rw [hsl]; exact Cl.plain rfl (Nr.mk_lst ((hq.drop _).take _))
  · simp at hlen
    subst hlen
    refine ⟨⟨.ref id (off + p.1) (p.2 - p.1), [], []⟩, ?_, hs.put hd ?_⟩
    · simp only [opE, hd', Eff.run, h3, if_true, hcut, hp]; rfl
    · simp only [VR]
      rw [hsl]
      obtain ⟨q1, q2⟩ := cutI_le hp
      refine .inr (.inl ⟨sz, _, id, off + p.1, p.2 - p.1, es0, rfl, rfl, h3, by omega, ?_, h6, h7⟩)
      have := (h5.drop p.1).take (p.2 - p.1)
      rw [List.drop_take, List.drop_drop, List.take_take] at this
      rwa [Nat.min_eq_left (by omega)] at this
/-- A window of a row of the call's own. -/
theorem JS.sliceO {o : Option Nat} {off len sz : Nat} {es : List (List V)} {lo hi : Option PX} {lo' hi' : Option Int} {mm : Nat × Nat → Option α} (i : Nat) (hR : R[i]? = some ⟨o, sz, es⟩) (hx : evV E x = some (.ref o off len)) (hl : evO E lo = some lo') (hh : evO E hi = some hi')
    (hg : gst E g = some true) (hd : dstOk N dst = true) (h : ∀ p, cutI len lo' hi' = some p → JS pr fr b av N (putE E dst (.ref o (off + p.1) (p.2 - p.1))) R ops (mm p) Q) :
    JS pr fr b av N E R (⟨dst, .slice sz x lo hi, g, aft, res⟩ :: ops) ((cutI len lo' hi').bind mm) Q := by
  refine JS.bind fun p hp => JS.step hg (fun s hs => ?_) (h p hp)
  have hc := hs.ev hx
  simp only [VR] at hc
  have hcut := fun k => cut_of hs hl hh k
  rcases hc with ⟨id, rfl, hc⟩ | ⟨rfl, rfl, rfl, hc⟩
  · rcases hs.root hR with ⟨e, _⟩ | ⟨id', es', S', e, hh', hv⟩
    · cases e
    · injection e with e; subst e
      refine ⟨⟨.ref id (off + p.1) (p.2 - p.1), [], []⟩, ?_, hs.put hd (by simp only [VR]; exact .inl ⟨id, rfl, rfl⟩)⟩
      simp only [opE, hc, Eff.run, hh', if_true, hcut, hp]; rfl
  · obtain ⟨q1, q2⟩ := cutI_le hp
    refine ⟨⟨.nil, [], []⟩, ?_, hs.put hd (by simp only [VR]; exact .inr ⟨trivial, by omega, by omega, trivial⟩)⟩
    simp only [opE, hc, hcut, hp]; rfl
theorem JS.sliceO_hi {o : Option Nat} {off len sz : Nat} {es : List (List V)} {hi : PX} {kk : IntKind} {z : Int} {mm : Nat → Option α} (i : Nat) (hR : R[i]? = some ⟨o, sz, es⟩) (hx : evV E x = some (.ref o off len)) (hh : exV E hi = some (.int kk z))
    (hg : gst E g = some true) (hd : dstOk N dst = true) (h : ∀ p, hi? len z = some p → JS pr fr b av N (putE E dst (.ref o off p)) R ops (mm p) Q) :
    JS pr fr b av N E R (⟨dst, .slice sz x none (some hi), g, aft, res⟩ :: ops) ((hi? len z).bind mm) Q := by
  have := JS.sliceO (mm := fun p => mm p.2) (ops := ops) (Q := Q) (aft := aft) (res := res) (lo := none) (hi := some hi) (lo' := none) (hi' := some z) i hR hx rfl (by simp only [evO, hh]) hg hd (fun p hp => by
    unfold cutI at hp
    simp only at hp
    split at hp
    · rename_i c
      injection hp with hp
      subst hp
      exact h z.toNat (by unfold hi?; rw [if_pos c])
    · cases hp)
  refine JS.conv ?_ this
  unfold cutI hi?
  split
  · rename_i c; simp only [if_pos c, Option.bind_some]
  · rename_i c; simp only [if_neg c, Option.bind_none]
theorem JS.sliceC_hi {c : β → List D} {l : List β} {n sz : Nat} {hi : PX} {kk : IntKind} {z : Int} {mm : Nat → Option α} (hx : evV E x = some (.c n (.lst sz (l.map c)))) (hh : exV E hi = some (.int kk z))
    (hg : gst E g = some true) (hd : dstOk N dst = true) (h : ∀ p, hi? l.length z = some p → JS pr fr b av N (putE E dst (.c n (.lst sz ((l.take p).map c)))) R ops (mm p) Q) :
    JS pr fr b av N E R (⟨dst, .slice sz x none (some hi), g, aft, res⟩ :: ops) ((hi? l.length z).bind mm) Q := by
  have := JS.sliceC (mm := fun p => mm p.2) (ops := ops) (Q := Q) (aft := aft) (res := res) (lo := none) (hi := some hi) (lo' := none) (hi' := some z) hx rfl (by simp only [evO, hh]) hg hd (fun p hp => by
    unfold cutI at hp
    simp only at hp
    split at hp
    · rename_i c
      injection hp with hp
      subst hp
      exact h z.toNat (by unfold hi?; rw [if_pos c])
    · cases hp)
  refine JS.conv ?_ this
  unfold cutI hi?
  split
  · rename_i c; simp only [if_pos c, Option.bind_some]
  · rename_i c; simp only [if_neg c, Option.bind_none]
def lo? (len : Nat) (z : Int) : Option Nat := if 0 ≤ z ∧ z ≤ len then some z.toNat else none
theorem JS.sliceC_lo {c : β → List D} {l : List β} {n sz : Nat} {lo : PX} {kk : IntKind} {z : Int} {mm : Nat → Option α} (hx : evV E x = some (.c n (.lst sz (l.map c)))) (hh : exV E lo = some (.int kk z))
    (hg : gst E g = some true) (hd : dstOk N dst = true) (h : ∀ p, lo? l.length z = some p → JS pr fr b av N (putE E dst (.c n (.lst sz ((l.drop p).map c)))) R ops (mm p) Q) :
    JS pr fr b av N E R (⟨dst, .slice sz x (some lo) none, g, aft, res⟩ :: ops) ((lo? l.length z).bind mm) Q := by
  have := JS.sliceC (mm := fun p => mm p.1) (ops := ops) (Q := Q) (aft := aft) (res := res) (lo := some lo) (hi := none) (lo' := some z) (hi' := none) hx (by simp only [evO, hh]) rfl hg hd (fun p hp => by
    unfold cutI at hp
    simp only at hp
    split at hp
    · rename_i c
      injection hp with hp
      subst hp
      have := h z.toNat (by unfold lo?; rw [if_pos c])
      have e : sl l (z.toNat, l.length) = l.drop z.toNat := by simp only [sl]; exact List.take_of_length_le (by simp)
      rw [e]; exact this
    · cases hp)
  refine JS.conv ?_ this
  unfold cutI lo?
  simp only
  split
  · simp only [Option.bind_some]
  · simp only [Option.bind_none]
theorem JS.sliceO_lo {o : Option Nat} {off len sz : Nat} {es : List (List V)} {lo : PX} {kk : IntKind} {z : Int} {mm : Nat → Option α} (i : Nat) (hR : R[i]? = some ⟨o, sz, es⟩) (hx : evV E x = some (.ref o off len)) (hh : exV E lo = some (.int kk z))
    (hg : gst E g = some true) (hd : dstOk N dst = true) (h : ∀ p, lo? len z = some p → JS pr fr b av N (putE E dst (.ref o (off + p) (len - p))) R ops (mm p) Q) :
    JS pr fr b av N E R (⟨dst, .slice sz x (some lo) none, g, aft, res⟩ :: ops) ((lo? len z).bind mm) Q := by
  have := JS.sliceO (mm := fun p => mm p.1) (ops := ops) (Q := Q) (aft := aft) (res := res) (lo := some lo) (hi := none) (lo' := some z) (hi' := none) i hR hx (by simp only [evO, hh]) rfl hg hd (fun p hp => by
    unfold cutI at hp
    simp only at hp
    split at hp
    · rename_i c
      injection hp with hp
      subst hp
      exact h z.toNat (by unfold lo?; rw [if_pos c])
    · cases hp)
  refine JS.conv ?_ this
  unfold cutI lo?
  simp only
  split
  · simp only [Option.bind_some]
  · simp only [Option.bind_none]

/-- How long a list is, told otherwise. -/
theorem JS.relen {o : Option Nat} {off n n' : Nat} (t : Nat) (he : E.get t = some (.ref o off n)) (hn : n = n') (h : JS pr fr b av N ((t, .ref o off n') :: E) R ops m Q) : JS pr fr b av N E R ops m Q := by
  subst hn
  intro a ha s hs
  refine h a ha s ⟨hs.len, fun j w hw => ?_, hs.ro, hs.frm, hs.avl⟩
  simp only [Env.get] at hw
  split at hw
  · rename_i e'
    rw [← Nat.eq_of_beq_eq_true e']
    injection hw with hw
    subst hw
    exact hs.sl t _ he
  · exact hs.sl j w hw
theorem JC.relen {o : Option Nat} {off n n' : Nat} {c : PC} {Q : α → Ex → St → Prop} (t : Nat) (he : E.get t = some (.ref o off n)) (hn : n = n') (h : JC pr fr N ((t, .ref o off n') :: E) R c m Q) : JC pr fr N E R c m Q := by
  subst hn
  intro a ha s hs
  refine h a ha s ⟨hs.len, fun j w hw => ?_, hs.ro, hs.frm, hs.avl⟩
  simp only [Env.get] at hw
  split at hw
  · rename_i e'
    rw [← Nat.eq_of_beq_eq_true e']
    injection hw with hw
    subst hw
    exact hs.sl t _ he
  · exact hs.sl j w hw
/-- Is a closed list nil? Not if there is anything in it. -/
theorem JS.eqNS {n sz : Nat} {es : List (List D)} {neg : Bool} (hx : evV E x = some (.c n (.lst sz es))) (hg : gst E g = some true) (hd : dstOk N dst = true)
    (h : es.isEmpty = false → JS pr fr b av N (putE E dst (.x (.bool neg))) R ops m Q) : JS pr fr b av N E R (⟨dst, .eqNS neg x, g, aft, res⟩ :: ops) (cond es.isEmpty none m) Q := by
  cases he : es.isEmpty with
  | true => intro o ho; cases ho
  | false =>
    refine JS.step hg (fun s hs => ?_) (h he)
    have hc := hs.ev hx
    simp only [VR] at hc
    have hne : es ≠ [] := fun e => by rw [e] at he; cases he
    refine ⟨⟨.bool neg, [], []⟩, ?_, hs.put hd (by simp only [VR])⟩
    rcases hc.lst_cases with ⟨e, _⟩ | ⟨es', hd', hq⟩ | ⟨k, id, off, len, es0, rfl, hd', h3, h4, hlen, h5, h6, h7⟩
    · exact absurd e hne
    · cases es' with
      | nil =>
        have := hq.len
        simp at this
        exact absurd this hne
      | cons e es' => simp only [opE, hd']; cases neg <;> rfl
    · simp only [opE, hd']; cases neg <;> rfl

/-! ### strings -/
theorem JS.indexS {kk : IntKind} {z : Int} {t : List UInt8} {mm : UInt8 → Option α} (hx : exV E x = some (.str t)) (hi : exV E ix = some (.int kk z)) (hg : gst E g = some true) (hd : dstOk N dst = true)
    (h : ∀ c, at? t z = some c → JS pr fr b av N (putE E dst (.x (.int .u8 (c.toNat : Int)))) R ops (mm c) Q) : JS pr fr b av N E R (⟨dst, .indexS x ix, g, aft, res⟩ :: ops) ((at? t z).bind mm) Q := by
  refine JS.bind fun c hc => JS.step hg (fun s hs => ?_) (h c hc)
  obtain ⟨z0, hla, zl, zl'⟩ := at?_some hc
  refine ⟨⟨.int .u8 (c.toNat : Int), [], []⟩, ?_, hs.put hd (by simp only [VR])⟩
  simp only [opE, hs.ex hx, hs.ex hi]
  rw [if_pos z0, hla]; rfl
theorem JS.sliceS {t : List UInt8} {lo hi : Option PX} {lo' hi' : Option Int} {mm : Nat × Nat → Option α} (hx : exV E x = some (.str t)) (hl : evO E lo = some lo') (hh : evO E hi = some hi') (hg : gst E g = some true) (hd : dstOk N dst = true)
    (h : ∀ p, cutI t.length lo' hi' = some p → JS pr fr b av N (putE E dst (.x (.str (sl t p)))) R ops (mm p) Q) : JS pr fr b av N E R (⟨dst, .sliceS x lo hi, g, aft, res⟩ :: ops) ((cutI t.length lo' hi').bind mm) Q := by
  refine JS.bind fun p hp => JS.step hg (fun s hs => ?_) (h p hp)
  refine ⟨⟨.str (sl t p), [], []⟩, ?_, hs.put hd (by simp only [VR])⟩
  simp only [opE, hs.ex hx, cut_of hs hl hh, hp]; rfl
theorem JS.addS {t u : List UInt8} (hx : exV E x = some (.str t)) (hy : exV E y = some (.str u)) (hg : gst E g = some true) (hd : dstOk N dst = true)
    (h : JS pr fr b av N (putE E dst (.x (.str (t ++ u)))) R ops m Q) : JS pr fr b av N E R (⟨dst, .bin .add x y, g, aft, res⟩ :: ops) (room (t.length + u.length) 1 m) Q := by
  intro o ho s hs
  unfold room at ho
  split at ho
  case isFalse => cases ho
  rename_i hr
  refine JS.step hg (fun s hs => ?_) h o ho s hs
  refine ⟨⟨.str (t ++ u), [], []⟩, ?_, hs.put hd (by simp only [VR])⟩
  simp only [opE, hs.ex hx, hs.ex hy, binD, binS]
  rw [if_pos (by have := hr.1; unfold roomy at this; exact this)]; rfl
/-- Division, and what is left of it: by what is not nought. -/
def nz {α : Type} (z : Int) (m : Option α) : Option α := if z = 0 then none else m
theorem JS.quo {k : IntKind} {a c : Int} (hx : exV E x = some (.int k a)) (hy : exV E y = some (.int k c)) (hg : gst E g = some true) (hd : dstOk N dst = true)
    (h : JS pr fr b av N (putE E dst (.x (.int k (k.wrap (a.tdiv c))))) R ops m Q) : JS pr fr b av N E R (⟨dst, .bin .quo x y, g, aft, res⟩ :: ops) (nz c m) Q := by
  intro o ho s hs
  unfold nz at ho
  split at ho
  · cases ho
  rename_i hc
  refine JS.step hg (fun s hs => ?_) h o ho s hs
  refine ⟨⟨.int k (k.wrap (a.tdiv c)), [], []⟩, ?_, hs.put hd (by simp only [VR])⟩
  simp only [opE, hs.ex hx, hs.ex hy, binD, binI, if_true]
  rw [if_neg hc]; rfl
theorem JS.rem {k : IntKind} {a c : Int} (hx : exV E x = some (.int k a)) (hy : exV E y = some (.int k c)) (hg : gst E g = some true) (hd : dstOk N dst = true)
    (h : JS pr fr b av N (putE E dst (.x (.int k (a.tmod c)))) R ops m Q) : JS pr fr b av N E R (⟨dst, .bin .rem x y, g, aft, res⟩ :: ops) (nz c m) Q := by
  intro o ho s hs
  unfold nz at ho
  split at ho
  · cases ho
  rename_i hc
  refine JS.step hg (fun s hs => ?_) h o ho s hs
  refine ⟨⟨.int k (a.tmod c), [], []⟩, ?_, hs.put hd (by simp only [VR])⟩
  simp only [opE, hs.ex hx, hs.ex hy, binD, binI, if_true]
  rw [if_neg hc]; rfl
theorem JS.lenC {c : β → List D} {l : List β} {n sz : Nat} (hx : evV E x = some (.c n (.lst sz (l.map c)))) (hg : gst E g = some true) (hd : dstOk N dst = true)
    (h : JS pr fr b av N (putE E dst (.x (.int .i64 (l.length : Int)))) R ops m Q) : JS pr fr b av N E R (⟨dst, .len x, g, aft, res⟩ :: ops) m Q := by
  have h' : JS pr fr b av N (putE E dst (.x (.int .i64 ((l.map c).length : Int)))) R ops m Q := by rw [List.length_map]; exact h
  refine JS.step hg (fun s hs => ?_) h'
  obtain ⟨d, h1, h2⟩ := pureV_ok hs (op := .len x) (v := .x (.int .i64 ((l.map c).length : Int))) (by simp only [pureV, hx]) (b + res)
  exact ⟨_, h1, hs.put hd h2⟩
theorem RR.front {H : Heap} : ∀ {R : List Rt} {S : List Nat}, RR H R S → ∀ {i : Nat} {r : Rt}, R[i]? = some r → ∃ T, RR H (r :: R.eraseIdx i) T ∧ T.Perm S
  | [], _, _, i, r, h => by simp at h
  | r0 :: R, S, h, 0, r, hr => by simp at hr; subst hr; exact ⟨S, by simpa using h, List.Perm.refl _⟩
  | r0 :: R, S, h, i + 1, r, hr => by
    obtain ⟨S1, S2, h1, h2, rfl⟩ := h
    obtain ⟨T, t1, t2⟩ := h2.front (i := i) (r := r) (by simpa using hr)
    obtain ⟨T1, T2, a1, a2, rfl⟩ := t1
    refine ⟨T1 ++ (S1 ++ T2), ⟨T1, S1 ++ T2, a1, ⟨S1, T2, h1, a2, rfl⟩, rfl⟩, ?_⟩
    have e1 : (T1 ++ (S1 ++ T2)).Perm (S1 ++ (T1 ++ T2)) := by
      rw [← List.append_assoc, ← List.append_assoc]
      exact (List.perm_append_comm).append_right T2
    exact e1.trans (t2.append_left S1)
theorem JC.front {c : PC} {Q : α → Ex → St → Prop} (i : Nat) (r : Rt) (hr : R[i]? = some r) (h : JC pr fr N E (r :: R.eraseIdx i) c m Q) : JC pr fr N E R c m Q := by
  intro o ho s hs
  refine h o ho s ⟨hs.len, hs.sl, ?_, hs.frm, hs.avl⟩
  obtain ⟨S, h1, h2, h3⟩ := hs.ro
  obtain ⟨T, t1, t2⟩ := h1.front hr
  exact ⟨T, t1, t2.nodup_iff.2 h2, fun id hi => h3 id (t2.subset hi)⟩
theorem set_get {β : Type} {l : List β} {p : Nat} {a a' : β} (h : l[p]? = some a) : (l.set p a')[p]? = some a' := by
  have := (List.getElem?_eq_some_iff.1 h).1
  rw [List.getElem?_set_self this]
def iand (k : IntKind) (a c : Int) : Int := k.wrap (BitVec.ofInt k.bits a &&& BitVec.ofInt k.bits c).toNat
def ior (k : IntKind) (a c : Int) : Int := k.wrap (BitVec.ofInt k.bits a ||| BitVec.ofInt k.bits c).toNat
def ixor (k : IntKind) (a c : Int) : Int := k.wrap (BitVec.ofInt k.bits a ^^^ BitVec.ofInt k.bits c).toNat
theorem subE_of {E : Env} : ∀ {E' : Env}, getL E (E'.map (·.1)) = some (E'.map (·.2)) → SubE E E'
  | [], _ => trivial
  | p :: E', h => by
    simp only [List.map_cons, getL] at h
    split at h
    · rename_i v l h1 h2
      injection h with h
      injection h with h3 h4
      subst h3; subst h4
      exact ⟨h1, subE_of h2⟩
    · cases h
theorem JC.to2 {c : PC} {Q : α → Ex → St → Prop} (E' : Env) (R' : List Rt) (hE : getL E (E'.map (·.1)) = some (E'.map (·.2))) (hR : R = R') (h : JC pr fr N E' R' c m Q) : JC pr fr N E R c m Q :=
  JC.to E' R' (subE_of hE) hR h
theorem hi?_le {n p : Nat} {z : Int} (h : hi? n z = some p) : p ≤ n := by
  unfold hi? at h
  split at h
  · injection h with h; omega
  · cases h
theorem lo?_le {n p : Nat} {z : Int} (h : lo? n z = some p) : p ≤ n := by
  unfold lo? at h
  split at h
  · injection h with h; omega
  · cases h
end
end Go.Pi
