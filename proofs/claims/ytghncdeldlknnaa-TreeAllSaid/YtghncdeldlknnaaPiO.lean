import Derived.Test.YtghncdeldlknnaaPiN
import Derived.Test.YtghncdeldlknnaaPiS
import Derived.Test.YtghncdeldlknnaaPiT
/-
  A REGION's OPERATIONS, one behind the other.
-/
set_option linter.all false
namespace Go.Pi
set_option linter.unusedVariables false

section
variable (P : Program) (fm : Nat → Nat)
inductive TrAct : Op → POp → Prop where
  | op {mo : Op} {po : POp} (h : TrOp P fm mo po) : TrAct mo po
  | call {f : Nat} {xs : List Operand} {qs : List (Nat × PX)} {ats : Array TypeId} (hx : TrA fm xs qs) (hf : FnOk P (fm f)) :
      TrAct (.call { callee := .value (.func (fm f)), args := xs.toArray, argTypes := ats }) (.call f qs)
  | callH {f : Nat} {xs : List Operand} {qs : List PX} {ats : Array TypeId} (hx : TrXs fm xs qs) (hf : FnOk P (fm f)) :
      TrAct (.call { callee := .value (.func (fm f)), args := xs.toArray, argTypes := ats }) (.callH f qs)

/-- An operation and how it is told: its place in the region is i. -/
structure TrPO (ops : Array Oper) (i : Nat) (o : Oper) (p : PO) : Prop where
  dst : p.dst = o.dst
  op : TrAct P fm o.op p.op
  guard : (o.guard = none ∧ p.guard = none) ∨ (∃ (j : Nat) (b : Bool) (t : Nat), o.guard = some (j, b) ∧ p.guard = some (t, b) ∧ (ops[j]?).bind (·.dst) = some t)
  after : ∀ k ∈ p.after, ∃ e ∈ o.after.toList, e.on = k ∧ Region.binds .any e = true
  lt : ∀ e ∈ o.after.toList, Region.binds .any e = true → e.on < i
end

section
variable {P : Program} {fm : Nat → Nat} {B : Base} {w : World} {G : Gh} {H : Heap} {o : Oper} {a : Act} {ts : List D} {call : CallF} {r : Nat} {out : Out}

theorem op_sound (hI : Inv fm B w G H) (hts : TsR (Rep fm G (okB B G H w) w) a.tmps ts) {po : POp} (ht : TrOp P fm o.op po) (hrun : (opE call (PX.ev ts) r po).run H = some out) :
    OpOk P o a w (Post fm B w G H out) := by
  generalize ho : o.op = mo at ht
  cases ht with
  | move h => exact op_mv hI hts (.inl ho) h hrun
  | assign h => exact op_mv hI hts (.inr ho) h hrun
  | pick hc ha hb => exact op_pick hI hts ho hc ha hb hrun
  | alloc hi hz hzs => exact op_alloc hI ho hi hz hzs hrun
  | box h => exact op_box hI hts ho h hrun
  | build hb hzs hp => exact op_build hI hts ho hb hzs hp hrun
  | buildSlice hu hie hz hsz h0 hzs hzl hsm hp => exact op_buildSlice hI hts ho hu hie hz hsz h0 hzs hzl hsm hp hrun
  | load hs h => exact op_load hI hts ho hs h hrun
  | store hs hx hy => exact op_store hI hts ho hs hx hy hrun
  | nilCheck h => exact op_nilCheck hI hts ho h hrun
  | bin hx hy => exact op_bin hI hts ho hx hy hrun
  | eqB ht hx hy => exact op_eqB hI hts ho ht hx hy hrun
  | eqNs ht hx => exact op_eqNS hI hts ho ht hx hrun
  | eqNp ht hx => exact op_eqNP hI hts ho ht hx hrun
  | un hx => exact op_un hI hts ho hx hrun
  | convInt hs hd hx => exact op_convInt hI hts ho hs hd hx hrun
  | convBS hs he hd hx => exact op_convBS hI hts ho hs he hd hx hrun
  | convSB hs hd he hx => exact op_convSB hI hts ho hs hd he hx hrun
  | makeSlice hu hi hz hsz hby h0 hzs hzl hx hy => exact op_makeSlice hI hts ho hu hi hz hsz hby h0 hzs hzl hx hy hrun
  | slice hu hie hsz hx hlo hhi => exact op_slice hI hts ho hu hie hsz hx hlo hhi hrun
  | sliceS hu hx hlo hhi => exact op_sliceS hI hts ho hu hx hlo hhi hrun
  | fieldAddr hu hf hoff hn h0 hx => exact op_fieldAddr hI hts ho hu hf hoff hn h0 hx hrun
  | field hu hf hoff hn hx => exact op_field hI hts ho hu hf hoff hn hx hrun
  | indexAddr hu hs hx hi => exact op_indexAddr hI hts ho hu hs hx hi hrun
  | indexAddrA hu hs hx hi => exact op_indexAddrA hI hts ho hu hs hx hi hrun
  | index hu hs hx hi => exact op_index hI hts ho hu hs hx hi hrun
  | indexS hu hx hi => exact op_indexS hI hts ho hu hx hi hrun
  | extract hx => exact op_extract hI hts ho hx hrun
  | lenS hu hx => exact op_lenS hI hts ho hu hx hrun
  | lenR hu hx => exact op_len hI hts ho hu hx hrun
  | append hu hv hi hz hsz hzl hby h0 hx hy => exact op_append hI hts ho hu hv hi hz hsz hzl hby h0 hx hy hrun
  | eqA ht hag hg hl hm hx hy => exact op_eqA hI hts ho ht hag hg hl hm hx hy hrun
  | toFlt hs hd hx => exact op_toFlt hI hts ho hs hd hx hrun
  | mark ht he hx => exact op_mark hI hts ho ht he hx hrun
  | bits hf hx => exact op_bits hI hts ho hf hx hrun
  | ofBits hf hx => exact op_ofBits hI hts ho hf hx hrun
  | minmax hx hxs => exact op_minmax hI hts ho hx hxs hrun

/-- The machine's state and the abstract interpreter's. -/
structure RelS (fm : Nat → Nat) (B : Base) (w : World) (G : Gh) (s : St) (a : Act) : Prop where
  ts : TsR (Rep fm G (okB B G s.hp w) w) a.tmps s.ts
  inv : Inv fm B w G s.hp
  defers : a.defers = []

theorem wanted_eq {ops : Array Oper} {i : Nat} {p : PO} {rep : Value → D → Prop} (hbool : ∀ {v : Value} {b : Bool}, rep v (.bool b) → v = .bool b) (hskip : ∀ {v : Value}, rep v .skip → v = undef) (hts : TsR rep a.tmps ts)
    (ht : TrPO P fm ops i o p) (hg : guardOk ts p.guard = true) : Region.wanted o (yielded ops a.tmps) = wantedP ts p.guard := by
  rcases ht.guard with ⟨h1, h2⟩ | ⟨j, b, t, h1, h2, h3⟩
  · simp [Region.wanted, wantedP, h1, h2]
  · rw [h2] at hg ⊢
    simp only [guardOk] at hg
    simp only [Region.wanted, wantedP, h1]
    have get : ∀ d, ts.getD t .undef = d → d ≠ .undef → ts[t]? = some d := by
      intro d hb hne
      rw [List.getD_eq_getElem?_getD] at hb
      cases hx : ts[t]? with
      | none => rw [hx] at hb; exact absurd hb.symm hne
      | some d => rw [hx] at hb; simp at hb; rw [hb]
    cases hb : ts.getD t .undef <;> rw [hb] at hg <;> simp at hg
    · obtain ⟨v, h4, h5⟩ := hts.2 t _ (get _ hb (by simp))
      rw [hskip h5] at h4
      simp [yielded, h3, h4, undef]
    · obtain ⟨v, h4, h5⟩ := hts.2 t _ (get _ hb (by simp))
      rw [hbool h5] at h4
      simp [yielded, h3, h4]

theorem relS_put {s : St} {w' : World} {G' : Gh} {H' : Heap} (h : RelS fm B w G s a) (ha : Adv B w G s.hp w' G' H') (hI : Inv fm B w' G' H') {dst : Option Nat} {v : Value} {d : D} (hv : Rep fm G' (okB B G' H' w') w' v d) :
    RelS fm B w' G' ⟨putT s.ts dst d, H'⟩ (a.put dst v) := by
  have h1 : TsR (Rep fm G' (okB B G' H' w') w') a.tmps s.ts := h.ts.mono (fun v d hv => ha.rep hv)
  cases dst with
  | none => exact ⟨h1, hI, h.defers⟩
  | some i => exact ⟨h1.put i hv, hI, h.defers⟩

/-- ONE OPERATION. -/
theorem stepO_ok (hs : Sound P fm call) {ops : Array Oper} {i base : Nat} {p : PO} (ht : TrPO P fm ops i o p) {s s' : St} (hrel : RelS fm B w G s a) (hstep : stepO call base p s = some s')
    {K : Act → World → Prop} {Q : Exit → Act → World → Prop} (hK : ∀ a' w' G', RelS fm B w' G' s' a' → Adv B w G s.hp w' G' s'.hp → K a' w') :
    if Region.wanted o (yielded ops a.tmps) then o.wp P a w K Q else K (a.put o.dst undef) w := by
  unfold stepO at hstep
  split at hstep
  · rename_i hg
    rw [wanted_eq (fun h => h.inv_bool) (fun h => h.inv_skip) hrel.ts ht hg]
    split at hstep
    · rename_i hw
      rw [if_pos hw]
      have hact := ht.op
      generalize hpo : p.op = po at hact hstep
      generalize hmo : o.op = mo at hact
      cases hact with
      | op h =>
        have hne : ∀ f args, po ≠ .callH f args := by
          intro f args e
          subst e
          cases h
        split at hstep
        · exact absurd rfl (hne _ _)
        · simp only [Option.map_eq_some_iff] at hstep
          obtain ⟨x, h1, rfl⟩ := hstep
          rw [← hmo] at h
          refine op_sound (o := o) hrel.inv hrel.ts h h1 _ _ (fun v w' hp => ?_)
          obtain ⟨G', g1, g2, g3⟩ := hp
          rw [← ht.dst]
          exact hK _ _ G' (relS_put hrel g1 g2 g3) g1
      | call hx hf =>
        simp only [Option.map_eq_some_iff] at hstep
        obtain ⟨x, h1, rfl⟩ := hstep
        refine op_call (o := o) hs hrel.inv hrel.ts hmo hf hx h1 _ _ (fun v w' hp => ?_)
        obtain ⟨G', g1, g2, g3⟩ := hp
        rw [← ht.dst]
        exact hK _ _ G' (relS_put hrel g1 g2 g3) g1
      | callH hx hf =>
        simp only [Option.map_eq_some_iff] at hstep
        obtain ⟨x, h1, rfl⟩ := hstep
        rename_i f xs qs ats
        obtain ⟨q1, q2⟩ := trXs_vals hrel.ts hx
        have hc := hs f (qs.map (PX.ev s.ts)) s.hp x.1 x.2 (by rw [h1]) B w G (xs.map a.eval) hrel.inv q1 q2
        refine opOk_enter (o := o) (K := fun v w' => ∃ G', Adv B w G s.hp w' G' x.2 ∧ Inv fm B w' G' x.2 ∧ Rep fm G' (okB B G' x.2 w') w' v x.1) (run_call (t := 0) hmo hf) (hc.mono fun e w' he => ?_) _ _ (fun v w' hp => ?_)
        · obtain ⟨v, G', h1, h2, h3, h4⟩ := he
          exact ⟨v, h1, G', h2, h3, h4⟩
        · obtain ⟨G', g1, g2, g3⟩ := hp
          rw [← ht.dst]
          exact hK _ _ G' (relS_put hrel g1 g2 g3) g1
    · rename_i hw
      rw [if_neg hw]
      simp only [Option.some.injEq] at hstep
      subst hstep
      rw [← ht.dst]
      exact hK _ _ G (relS_put hrel (Adv.refl _ _ _ _) hrel.inv (.closed .skip)) (Adv.refl _ _ _ _)
  · cases hstep

inductive TrL (P : Program) (fm : Nat → Nat) (ops : Array Oper) : Nat → List Oper → List PO → Prop where
  | nil {i : Nat} : TrL P fm ops i [] []
  | cons {i : Nat} {o : Oper} {p : PO} {l : List Oper} {ps : List PO} (h : TrPO P fm ops i o p) (hs : TrL P fm ops (i + 1) l ps) : TrL P fm ops i (o :: l) (p :: ps)

theorem seqR_ok (hs : Sound P fm call) {ops : Array Oper} {base : Nat} {Q : Exit → Act → World → Prop} (l : List Oper) : ∀ {ps : List PO} {i : Nat}, TrL P fm ops i l ps → ∀ {w : World} {G : Gh} {s s' : St} {a : Act}, RelS fm B w G s a →
    seqR call base ps s = some s' → (∀ a' w' G', RelS fm B w' G' s' a' → Adv B w G s.hp w' G' s'.hp → Q .normal a' w') → wpList P ops Q l a w := by
  induction l with
  | nil =>
    intro ps i ht w G s s' a hrel h hQ
    cases ht
    simp only [seqR, Option.some.injEq] at h
    subst h
    exact hQ a w G hrel (Adv.refl _ _ _ _)
  | cons o l ih =>
    intro ps i ht w G s s' a hrel h hQ
    cases ht with
    | cons ht htl =>
      simp only [seqR, Option.bind_eq_some_iff] at h
      obtain ⟨s1, h1, h2⟩ := h
      have := stepO_ok hs (K := wpList P ops Q l) (Q := Q) ht hrel h1 (fun a' w' G' hr ha => ih htl hr h2 (fun a'' w'' G'' hr2 ha2 => hQ a'' w'' G'' hr2 (ha.trans ha2)))
      unfold wpList
      split
      · rename_i hw; rw [if_pos hw] at this; exact .inl this
      · rename_i hw; rw [if_neg hw] at this; exact this
end
end Go.Pi
