import Derived.Test.YtnpljffnopmaiaaJM
/-
  FUNCTION VALUES THAT ARE KNOWN; DRAWN REGIONS THAT STORE, SLICE, APPEND WINDOWS; CALLS THAT TURN A LIST IN PLACE.
-/
set_option linter.all false
namespace Go.Pi
set_option linter.unusedVariables false
section
variable {pr : Prog} {fr : Nat → Option Blk} {α β γ : Type} {N b : Nat} {av : List Nat} {E : Env} {R R0 : List Rt} {m : Option α} {s : St}
variable {dst : Option Nat} {g : Option (Nat × Bool)} {aft : List Nat} {res : Nat} {ops : List PO} {Q : α → St → Prop} {x y ix : PX} {i : Nat} {sn : List (Nat × AF)} {G : List (List AId)}

/-- A function value that is known: a call. -/
theorem JS.toCallQ {fs : List Nat} {p : Nat} {as : List (Nat × PX)} (hx : evV E x = some (.x (.fn p))) (hp : fs.contains p = true) (h : JS pr fr b av N E R (⟨dst, .callQ p as, g, aft, res⟩ :: ops) m Q) :
    JS pr fr b av N E R (⟨dst, .callV fs x as, g, aft, res⟩ :: ops) m Q := by
  intro a ha s hs
  obtain ⟨n, s', h1, h2⟩ := h a ha s hs
  refine ⟨n, s', ?_, h2⟩
  have hx' := hs.ev hx
  simp only [VR] at hx'
  have e : stepO (runN pr n) b ⟨dst, .callV fs x as, g, aft, res⟩ s = stepO (runN pr n) b ⟨dst, .callQ p as, g, aft, res⟩ s := by
    unfold stepO
    simp only [opE, hx', hp, if_true]
  simp only [seqR, e] at h1 ⊢
  exact h1

/-! ### drawn regions -/
theorem JSD.bind {m1 : Option β} {mm : β → Option α} (h : ∀ r, m1 = some r → JSD pr fr R0 b av N E R G i sn ops (mm r) Q) : JSD pr fr R0 b av N E R G i sn ops (m1.bind mm) Q := by
  intro D0 hI o ho
  obtain ⟨r, h1, h2⟩ := Option.bind_eq_some_iff.1 ho
  exact h r h1 D0 hI o h2
theorem JSD.storeO {n id sz p j : Nat} {es es2 : List (List V)} {e : List V} {w : V} (q : Nat) (hR : R[q]? = some ⟨some id, sz, es⟩) (he : es[p]? = some e) (hx : evV E x = some (.ptr id sz p j)) (hy : evV E y = some w)
    (hv : (storeV n sz j e w).isSome = true) (hes : es.set p ((storeV n sz j e w).getD []) = es2) (hg : gst E g = some true) (hok : okSeen sn aft ⟨G.getD q [], G.getD q []⟩ = true)
    (h : JSD pr fr R0 b av N E (R.set q ⟨some id, sz, es2⟩) (G.set q (G.getD q [])) (i + 1) ((i, ⟨G.getD q [], G.getD q []⟩) :: sn) ops m Q) :
    JSD pr fr R0 b av N E R G i sn (⟨none, .store n x y, g, aft, res⟩ :: ops) m Q := by
  refine JSD.step ⟨G.getD q [], G.getD q []⟩ hg hok (fun D0 hI s hs hG hdd => ?_) h
  obtain ⟨v, hv'⟩ := Option.isSome_iff_exists.1 hv
  rw [hv'] at hes
  simp only [Option.getD_some] at hes
  have hx' := hs.ev hx
  simp only [VR] at hx'
  have hy' := hs.ev hy
  obtain ⟨es', S', hh, hvo, key⟩ := hs.upd (es2 := es2) hR
  obtain ⟨d, T1, T2, T3, q1, q2, rfl, q4⟩ := hvo.at he
  simp only [storeV] at hv'
  split at hv'
  · rename_i l1 l2 l3 l4 l5
    have l3' := Nat.eq_of_beq_eq_true l3
    rw [leB_iff] at l4 l5
    injection hv' with hv'
    obtain ⟨d1, d2⟩ := divmod (i := p) l5
    obtain ⟨g1, g2⟩ := cellsW_ok hy' l1
    have e1 := g1.len
    have e2 := q2.len
    obtain ⟨U1, U2, rfl, u1, u2⟩ := q2.tk j
    obtain ⟨W1, W2, rfl, w1, w2⟩ := u2.tk n
    rw [List.drop_drop, List.drop_drop] at w2
    have hnew : VOs s.hp v (splice d j (cellsOf (y.ev s.ts))) (U1 ++ [] ++ W2) := by
      rw [← hv']
      unfold splice
      rw [← e1, l3']
      exact (u1.app (VOs.of_VRs l2 g1)).app w2
    have := q4 s.hp (HLe.refl _) (fun _ _ => rfl) v _ _ hnew
    rw [hes] at this
    have hl0 : id < s.hp.length := hat_ltJ (by rw [hh]; intro e; cases e)
    have hrun : (opE noCall (PX.ev s.ts) (b + res) (.store n x y)).run s.hp = some ⟨.undef, [(id, .row sz (es'.set p (splice d j (cellsOf (y.ev s.ts)))) true)], []⟩ ∧
        (opE noCall (PX.ev s.ts) (b + res) (.store n x y)).rd s.hp = [id] ∧ (opE noCall (PX.ev s.ts) (b + res) (.store n x y)).lv s.hp = [id] := by
      simp only [opE, hx', Eff.run, Eff.rd, Eff.lv, hh, d1, d2, q1]
      rw [if_pos ⟨by omega, by omega, g2⟩]
      exact ⟨rfl, rfl, rfl⟩
    obtain ⟨r1, r2, r3⟩ := hrun
    refine ⟨_, r1, key _ _ this ?_, hG.set (fun id2 e => hG.at hR id2 e), ?_, ?_, ?_, rfl, ?_⟩
    · refine ((List.Sublist.refl T1).append ?_).append (List.Sublist.refl T3)
      simp only [List.append_nil]
      exact (List.Sublist.refl U1).append (List.sublist_append_right W1 W2)
    · rw [r2]
      intro id2 hid
      simp at hid
      subst hid
      exact .inl (hG.at hR _ rfl)
    · rw [r3]
      intro id2 hid
      simp at hid
      subst hid
      exact hG.at hR _ rfl
    · intro id2 hid
      simp at hid
      subst hid
      exact hG.at hR _ rfl
    · intro id2 hid
      exact hdd id2 (dead_set (sz := sz) (es := es'.set p (splice d j (cellsOf (y.ev s.ts)))) hl0 hid)
  · cases hv'
theorem JSD.sliceO {o : Option Nat} {off len sz : Nat} {es : List (List V)} {lo hi : Option PX} {lo' hi' : Option Int} {mm : Nat × Nat → Option α} (q : Nat) (hR : R[q]? = some ⟨o, sz, es⟩) (hx : evV E x = some (.ref o off len)) (hl : evO E lo = some lo') (hh : evO E hi = some hi')
    (hg : gst E g = some true) (hok : okSeen sn aft ⟨G.getD q [], []⟩ = true) (hd : dstOk N dst = true) (h : ∀ p, cutI len lo' hi' = some p → JSD pr fr R0 b av N (putE E dst (.ref o (off + p.1) (p.2 - p.1))) R G (i + 1) ((i, ⟨G.getD q [], []⟩) :: sn) ops (mm p) Q) :
    JSD pr fr R0 b av N E R G i sn (⟨dst, .slice sz x lo hi, g, aft, res⟩ :: ops) ((cutI len lo' hi').bind mm) Q := by
  refine JSD.bind fun p hp => JSD.step ⟨G.getD q [], []⟩ hg hok (fun D0 hI s hs hG hdd => ?_) (h p hp)
  have hc := hs.ev hx
  simp only [VR] at hc
  have hcut := fun k => cut_of hs hl hh k
  rcases hc with ⟨id, rfl, hc⟩ | ⟨rfl, rfl, rfl, hc⟩
  · rcases hs.root hR with ⟨e, _⟩ | ⟨id', es', S', e, hh', hv⟩
    · cases e
    · injection e with e; subst e
      refine ⟨⟨.ref id (off + p.1) (p.2 - p.1), [], []⟩, ?_, hs.put hd (by simp only [VR]; exact .inl ⟨id, rfl, rfl⟩), hG, ?_, ?_, by simp, rfl, hdd⟩
      · simp only [opE, hc, Eff.run, hh', if_true, hcut, hp]; rfl
      · intro id2 hid
        simp only [opE, hc, Eff.rd, hh', if_true, hcut, hp] at hid
        simp [quietO, quiet, Eff.rd] at hid
        subst hid
        exact .inl (hG.at hR _ rfl)
      · intro id2 hid
        simp only [opE, hc, Eff.lv, hh', if_true, hcut, hp] at hid
        simp [quietO, quiet, Eff.lv] at hid
  · obtain ⟨q1, q2⟩ := cutI_le hp
    have e0 : opE noCall (PX.ev s.ts) (b + res) (.slice sz x lo hi) = quiet .nil := by
      simp only [opE, hc, hcut, hp]; rfl
    refine ⟨⟨.nil, [], []⟩, by rw [e0]; rfl, hs.put hd (by simp only [VR]; exact .inr ⟨trivial, by omega, by omega, trivial⟩), hG, (by rw [e0]; intro id hid; cases hid), (by rw [e0]; intro id hid; cases hid), by simp, rfl, hdd⟩
theorem JSD.sliceC {c : β → List D} {l : List β} {n sz : Nat} {lo hi : Option PX} {lo' hi' : Option Int} {mm : Nat × Nat → Option α} (hx : evV E x = some (.c n (.lst sz (l.map c)))) (hl : evO E lo = some lo') (hh : evO E hi = some hi')
    (hg : gst E g = some true) (hok : okSeen sn aft ⟨[], []⟩ = true) (hd : dstOk N dst = true) (h : ∀ p, cutI l.length lo' hi' = some p → JSD pr fr R0 b av N (putE E dst (.c n (.lst sz ((sl l p).map c)))) R G (i + 1) ((i, ⟨[], []⟩) :: sn) ops (mm p) Q) :
    JSD pr fr R0 b av N E R G i sn (⟨dst, .slice sz x lo hi, g, aft, res⟩ :: ops) ((cutI l.length lo' hi').bind mm) Q := by
  refine JSD.bind fun p hp => JSD.step ⟨[], []⟩ hg hok (fun D0 hI s hs hG hdd => ?_) (h p hp)
  have hc := hs.ev hx
  simp only [VR] at hc
  have hcut := fun k => cut_of hs hl hh k
  have hsl : (sl l p).map c = ((l.map c).drop p.1).take (p.2 - p.1) := by simp [sl, List.map_take, List.map_drop]
  rcases hc.lst_cases with ⟨he, hd'⟩ | ⟨es', hd', hq⟩ | ⟨k, id, off, len, es0, rfl, hd', h3, h4, hlen, h5, h6, h7⟩
  · have he' : l = [] := by simpa using he
    subst he'
    obtain ⟨q1, q2⟩ := cutI_le hp
    have e0 : opE noCall (PX.ev s.ts) (b + res) (.slice sz x lo hi) = quiet .nil := by
      simp only [opE, hd', hcut]
      have : cutI 0 lo' hi' = some p := hp
      rw [this]; rfl
    refine ⟨⟨.nil, [], []⟩, by rw [e0]; rfl, hs.put hd ?_, hG, (by rw [e0]; intro id hid; cases hid), (by rw [e0]; intro id hid; cases hid), by simp, rfl, hdd⟩
    simp only [VR, sl, List.drop_nil, List.take_nil, List.map_nil]
    cases n with
    | zero => exact hc.elim
    | succ n => exact .inl ⟨rfl, Nr.mk_nil⟩
  · have hl' : es'.length = l.length := by have := hq.len; simpa using this.symm
    have e0 : opE noCall (PX.ev s.ts) (b + res) (.slice sz x lo hi) = quiet (.lst sz ((es'.drop p.1).take (p.2 - p.1))) := by
      simp only [opE, hd', if_true, hcut, hl', hp]; rfl
    refine ⟨⟨.lst sz ((es'.drop p.1).take (p.2 - p.1)), [], []⟩, by rw [e0]; rfl, hs.put hd ?_, hG, (by rw [e0]; intro id hid; cases hid), (by rw [e0]; intro id hid; cases hid), by simp, rfl, hdd⟩
    simp only [VR]
    cases n with
    | zero => exact hc.elim
    | succ n => rw [hsl]; exact Cl.plain rfl (Nr.mk_lst ((hq.drop _).take _))
  · simp at hlen
    subst hlen
    refine ⟨⟨.ref id (off + p.1) (p.2 - p.1), [], []⟩, ?_, hs.put hd ?_, hG, ?_, ?_, by simp, rfl, hdd⟩
    · simp only [opE, hd', Eff.run, h3, if_true, hcut, hp]; rfl
    · simp only [VR]
      rw [hsl]
      obtain ⟨q1, q2⟩ := cutI_le hp
      refine .inr (.inl ⟨sz, _, id, off + p.1, p.2 - p.1, es0, rfl, rfl, h3, by omega, ?_, h6, h7⟩)
      have := (h5.drop p.1).take (p.2 - p.1)
      rw [List.drop_take, List.drop_drop, List.take_take] at this
      rwa [Nat.min_eq_left (by omega)] at this
    · intro id2 hid
      simp only [opE, hd', Eff.rd, h3, if_true, hcut, hp] at hid
      simp [quietO, quiet, Eff.rd] at hid
      subst hid
      exact .inr (hdd _ ⟨_, _, h3⟩)
    · intro id2 hid
      simp only [opE, hd', Eff.lv, h3, if_true, hcut, hp] at hid
      simp [quietO, quiet, Eff.lv] at hid
theorem JSD.relen {o : Option Nat} {off n n' : Nat} (t : Nat) (he : E.get t = some (.ref o off n)) (hn : n = n') (h : JSD pr fr R0 b av N ((t, .ref o off n') :: E) R G i sn ops m Q) : JSD pr fr R0 b av N E R G i sn ops m Q := by
  subst hn
  intro D0 hI a ha s seen hs hG hsn hdd
  refine h D0 hI a ha s seen ⟨hs.len, fun j w hw => ?_, hs.ro, hs.frm, hs.avl⟩ hG hsn hdd
  simp only [Env.get] at hw
  split at hw
  · rename_i e'
    have := Nat.eq_of_beq_eq_true e'
    subst this
    injection hw with hw
    subst hw
    exact hs.sl _ _ he
  · exact hs.sl _ _ hw
/-- What is appended, and whose rows are read for it. -/
def SrcD (R0 : List Rt) (N : Nat) (E : Env) (R : List Rt) (G : List (List AId)) (fr : Nat → Option Blk) (b : Nat) (av : List Nat) (y : PX) (sz : Nat) (la : List AId) (ms : List (List V)) : Prop :=
  flatE ms ∧ ∀ (D0 : Nat → Prop) s, EnvR N E R fr b av s → GR (Iota R0 b) R G → (∀ id, dead s.hp id → D0 id) → ∃ src, (source sz (y.ev s.ts)).run s.hp = some src ∧ All2 (VRs s.hp) ms src ∧
    (∀ id ∈ (source sz (y.ev s.ts)).rd s.hp, (∃ a ∈ la, Iota R0 b a id) ∨ D0 id) ∧ (source sz (y.ev s.ts)).lv s.hp = []
theorem srcDC {c : β → List D} {l : List β} {n sz : Nat} (hy : evV E y = some (.c n (.lst sz (l.map c)))) (hc : ∀ a, (c a).all okc = true) (hc2 : ∀ a k, (c a).map (cellV k) = cv c a) : SrcD R0 N E R G fr b av y sz [] (vl c l) := by
  refine ⟨vl_flat c l, fun D0 s hs hG hdd => ?_⟩
  have h := hs.ev hy
  simp only [VR] at h
  rcases h.lst_cases with ⟨he, hd⟩ | ⟨es', hd', hq⟩ | ⟨k, id, off, len, es0, rfl, hd', h3, h4, rfl, h5, h6, h7⟩
  · simp at he; subst he
    exact ⟨[], by rw [hd]; rfl, trivial, (by rw [hd]; intro id hid; cases hid), by rw [hd]; rfl⟩
  · exact ⟨es', by rw [hd']; simp [source, Eff.run], vl_rows hc hq, by rw [hd']; simp [source, Eff.rd], by rw [hd']; simp [source, Eff.lv]⟩
  · refine ⟨_, by rw [hd']; simp only [source, Eff.run, h3]; rw [if_pos ⟨trivial, h4⟩]; rfl, vl_rows2 (fun a => hc2 a k) h5, ?_, ?_⟩
    · rw [hd']; simp only [source, Eff.rd, h3]; rw [if_pos ⟨trivial, h4⟩]
      intro id2 hid
      simp [Eff.rd] at hid
      subst hid
      exact .inr (hdd _ ⟨_, _, h3⟩)
    · rw [hd']; simp only [source, Eff.lv, h3]; rw [if_pos ⟨trivial, h4⟩]; rfl
theorem srcDW {c : β → List D} {l : List β} {o : Option Nat} {off len sz : Nat} (q : Nat) (hR : R[q]? = some ⟨o, sz, vl c l⟩) (hy : evV E y = some (.ref o off len)) (hl : off + len ≤ l.length) : SrcD R0 N E R G fr b av y sz (G.getD q []) (vl c ((l.drop off).take len)) := by
  refine ⟨vl_flat c _, fun D0 s hs hG hdd => ?_⟩
  have h := hs.ev hy
  simp only [VR] at h
  rcases h with ⟨id, rfl, hd⟩ | ⟨rfl, rfl, rfl, hd⟩
  · rcases hs.root hR with ⟨e, _⟩ | ⟨id', es', S', e, hh, hv⟩
    · cases e
    · injection e with e; subst e
      obtain ⟨ha, _⟩ := hv.flat (vl_flat c l)
      have := ha.len
      rw [vl_len] at this
      refine ⟨_, by rw [hd]; simp only [source, Eff.run, hh]; rw [if_pos ⟨trivial, by omega⟩]; rfl, ?_, ?_, ?_⟩
      · rw [← vl_take, ← vl_drop]
        exact (ha.drop off).take len
      · rw [hd]; simp only [source, Eff.rd, hh]; rw [if_pos ⟨trivial, by omega⟩]
        intro id2 hid
        simp [Eff.rd] at hid
        subst hid
        exact .inl (hG.at hR _ rfl)
      · rw [hd]; simp only [source, Eff.lv, hh]; rw [if_pos ⟨trivial, by omega⟩]; rfl
  · exact ⟨[], by rw [hd]; rfl, by simp [vl, All2], (by rw [hd]; intro id hid; cases hid), by rw [hd]; rfl⟩
theorem bind_rd {α β : Type} {f : α → Eff β} {H : Heap} : ∀ {e : Eff α} {a : α}, e.run H = some a → (e.bind f).rd H = e.rd H ++ (f a).rd H ∧ (e.bind f).lv H = e.lv H ++ (f a).lv H
  | .pure a, _, h => by simp only [Eff.run, Option.some.injEq] at h; subst h; exact ⟨rfl, rfl⟩
  | .fail, _, h => by simp [Eff.run] at h
  | .get id k, a, h => by
    simp only [Eff.run] at h
    split at h
    · rename_i sz es lv hq
      obtain ⟨h1, h2⟩ := bind_rd (f := f) (e := k sz es) h
      simp only [Eff.bind, Eff.rd, Eff.lv, hq, h1, h2, List.cons_append]
      exact ⟨trivial, trivial⟩
    · cases h
  | .live id k, a, h => by
    simp only [Eff.run] at h
    split at h
    · obtain ⟨h1, h2⟩ := bind_rd (f := f) (e := k) h
      simp only [Eff.bind, Eff.rd, Eff.lv, h1, h2, List.cons_append]
      exact ⟨trivial, trivial⟩
    · cases h
  | .new id k, a, h => by
    simp only [Eff.run] at h
    split at h
    · split at h
      · obtain ⟨h1, h2⟩ := bind_rd (f := f) (e := k) h
        simp only [Eff.bind, Eff.rd, Eff.lv, h1, h2, List.cons_append]
        exact ⟨trivial, trivial⟩
      · cases h
    · cases h
/-- Appended to a whole row of the call's own: anything. Where it is nothing, no row turns. -/
theorem JSD.appG {c : β → List D} {l k : List β} {o : Option Nat} {sz bytes : Nat} {la : List AId} (q : Nat) (hR : R[q]? = some ⟨o, sz, vl c l⟩) (hx : evV E x = some (.ref o 0 l.length)) (hsrc : SrcD R0 N E R G fr b av y sz la (vl c k)) (hav : av.contains res = true)
    (hg : gst E g = some true) (hok : okSeen sn aft ⟨la ++ G.getD q [], G.getD q [] ++ [.new res]⟩ = true) (hok0 : okSeen sn aft ⟨la, []⟩ = true) (hd : dstOk N dst = true)
    (h : ∀ o', JSD pr fr R0 b (av.erase res) N (putE E dst (.ref o' 0 (l ++ k).length)) (R.set q ⟨o', sz, vl c (l ++ k)⟩) (G.set q [.new res]) (i + 1) ((i, ⟨la ++ G.getD q [], G.getD q [] ++ [.new res]⟩) :: sn) ops m Q)
    (h0 : ∀ o', JSD pr fr R0 b av N (putE E dst (.ref o' 0 (l ++ k).length)) (R.set q ⟨o', sz, vl c (l ++ k)⟩) (G.set q (G.getD q [])) (i + 1) ((i, ⟨la, []⟩) :: sn) ops m Q) :
    JSD pr fr R0 b av N E R G i sn (⟨dst, .append sz bytes x y, g, aft, res⟩ :: ops) (room (l.length + k.length) bytes m) Q := by
  intro D0 hI a0 ha0 s0 seen0 hs0 hG0 hsn0 hdd0
  unfold room at ha0
  split at ha0
  case isFalse => cases ha0
  rename_i hroom
  by_cases hk : k = []
  · subst hk
    refine JSD.step (m := m) ⟨la, []⟩ hg hok0 (fun D0 hI s hs hG hdd => ?_) (h0 o) D0 hI a0 ha0 s0 seen0 hs0 hG0 hsn0 hdd0
    obtain ⟨src, s1, s2, s3, s4⟩ := hsrc.2 D0 s hs hG hdd
    have hsrc0 : src = [] := by
      have := s2.len
      simp [vl] at this
      exact List.length_eq_zero_iff.1 this.symm
    subst hsrc0
    have hx' := hs.ev hx
    simp only [VR] at hx'
    have hG' := hG.set (i := q) (fun id2 e => hG.at hR id2 e)
    rw [List.append_nil, set_same hR]
    rw [set_same hR] at hG'
    rcases hx' with ⟨id, rfl, hx'⟩ | ⟨rfl, _, hlz, hx'⟩
    · refine ⟨⟨.ref id 0 l.length, [], []⟩, ?_, hs.put hd (by simp only [VR]; exact .inl ⟨id, rfl, rfl⟩), hG', ?_, ?_, by simp, rfl, hdd⟩
      · simp only [opE, run_bindE, s1, Option.bind_some, List.isEmpty_nil, if_true, hx']; rfl
      · intro id2 hid
        simp only [opE] at hid
        rw [(bind_rd s1).1] at hid
        simp only [List.isEmpty_nil, if_true, hx', quiet, Eff.rd, List.append_nil] at hid
        exact s3 id2 hid
      · intro id2 hid
        simp only [opE] at hid
        rw [(bind_rd s1).2] at hid
        simp only [List.isEmpty_nil, if_true, hx', quiet, Eff.lv, List.append_nil, s4] at hid
        cases hid
    · refine ⟨⟨.nil, [], []⟩, ?_, hs.put hd (by simp only [VR]; exact .inr ⟨trivial, trivial, hlz, trivial⟩), hG', ?_, ?_, by simp, rfl, hdd⟩
      · simp only [opE, run_bindE, s1, Option.bind_some, List.isEmpty_nil, if_true, hx']; rfl
      · intro id2 hid
        simp only [opE] at hid
        rw [(bind_rd s1).1] at hid
        simp only [List.isEmpty_nil, if_true, hx', quiet, Eff.rd, List.append_nil] at hid
        exact s3 id2 hid
      · intro id2 hid
        simp only [opE] at hid
        rw [(bind_rd s1).2] at hid
        simp only [List.isEmpty_nil, if_true, hx', quiet, Eff.lv, List.append_nil, s4] at hid
        cases hid
  refine JSD.step (m := m) ⟨la ++ G.getD q [], G.getD q [] ++ [.new res]⟩ hg hok (fun D0 hI s hs hG hdd => ?_) (h (some (b + res))) D0 hI a0 ha0 s0 seen0 hs0 hG0 hsn0 hdd0
  have hr : res ∈ av := by simpa using hav
  obtain ⟨f1, f2, f3⟩ := hs.avl.2 res hr
  have hx' := hs.ev hx
  simp only [VR] at hx'
  obtain ⟨esy, s1, hay, s3, s4⟩ := hsrc.2 D0 s hs hG hdd
  have hyl := hay.len
  rw [vl_len] at hyl
  have hne : esy.isEmpty = false := by cases esy with
    | nil => exact absurd (List.length_eq_zero_iff.1 hyl) hk
    | cons => rfl
  have inI : ∀ id2, ((∃ a ∈ la, Iota R0 b a id2) ∨ D0 id2) → (∃ a ∈ la ++ G.getD q [], Iota R0 b a id2) ∨ D0 id2 := fun id2 hh => by
    rcases hh with ⟨a, h1, h2⟩ | h1
    · exact .inl ⟨a, List.mem_append.2 (.inl h1), h2⟩
    · exact .inr h1
  rcases hx' with ⟨id, rfl, hx'⟩ | ⟨rfl, _, hlz, hx'⟩
  · obtain ⟨es', S', hh, hvo, key⟩ := hs.move (es2 := vl c (l ++ k)) hR hr
    obtain ⟨ha, rfl⟩ := hvo.flat (vl_flat c l)
    have hl' := ha.len
    rw [vl_len] at hl'
    have hnew : VOe s.hp (vl c (l ++ k)) (es'.take l.length ++ esy) [] := by
      rw [← vl_append, List.take_of_length_le (by omega)]
      exact VOe.of_flat (fun e he => by
        simp at he
        rcases he with he | he
        · exact vl_flat c l e he
        · exact vl_flat c k e he) (ha.append hay)
    have hIx := hG.at hR id rfl
    have hl0 : id < s.hp.length := hat_ltJ (by rw [hh]; intro e; cases e)
    have hc : True ∧ True ∧ l.length ≤ es'.length ∧ l.length + esy.length ≤ roomy ∧ (l.length + esy.length) * bytes ≤ roomy := ⟨trivial, trivial, by omega, by rw [← hyl]; exact hroom.1, by rw [← hyl]; exact hroom.2⟩
    refine ⟨⟨.ref (b + res) 0 (l.length + esy.length), [(id, .dead), (b + res, .row sz (es'.take l.length ++ esy) true)], []⟩, ?_, (key _ _ hnew (List.Sublist.refl _)).put hd ?_, hG.set fun id2 e => ⟨.new res, by simp, by injection e with e; exact e.symm⟩, ?_, ?_, ?_, rfl, ?_⟩
    · simp only [opE, run_bindE, s1, Option.bind_some, hne, Bool.false_eq_true, if_false, hx', Eff.run, hh]
      rw [if_pos hc]
      simp only [Eff.run, f1, f2, if_true]
    · simp only [VR]
      exact .inl ⟨b + res, rfl, by simp [← hyl]⟩
    · intro id2 hid
      simp only [opE] at hid
      rw [(bind_rd s1).1] at hid
      simp only [hne, Bool.false_eq_true, if_false, hx', Eff.rd, hh] at hid
      rw [if_pos hc] at hid
      simp only [Eff.rd, List.mem_append, List.mem_cons, List.not_mem_nil, or_false] at hid
      rcases hid with hid | rfl
      · exact inI _ (s3 _ hid)
      · obtain ⟨a, h1, h2⟩ := hIx; exact .inl ⟨a, List.mem_append.2 (.inr h1), h2⟩
    · intro id2 hid
      simp only [opE] at hid
      rw [(bind_rd s1).2, s4] at hid
      simp only [hne, Bool.false_eq_true, if_false, hx', Eff.lv, hh] at hid
      rw [if_pos hc] at hid
      simp only [Eff.lv, List.nil_append, List.mem_cons, List.not_mem_nil, or_false] at hid
      rcases hid with rfl | rfl
      · obtain ⟨a, h1, h2⟩ := hIx; exact ⟨a, List.mem_append.2 (.inl h1), h2⟩
      · exact ⟨.new res, by simp, rfl⟩
    · intro id2 hid
      simp at hid
      rcases hid with rfl | rfl
      · obtain ⟨a, h1, h2⟩ := hIx; exact ⟨a, List.mem_append.2 (.inl h1), h2⟩
      · exact ⟨.new res, by simp, rfl⟩
    · intro id2 hid
      refine hdd id2 ?_
      have := dead_set (by simpa using f2) hid
      obtain ⟨sz', es2, hq⟩ := this
      rw [hat_setJ hl0] at hq
      split at hq
      · cases hq
      · exact ⟨sz', es2, hq⟩
  · have hl0 : l = [] := List.length_eq_zero_iff.1 hlz
    subst hl0
    obtain ⟨he, key⟩ := hs.make (es2 := vl c ([] ++ k)) hR hr (es2' := esy) (by
      simp only [List.nil_append]
      exact VOe.of_flat (vl_flat c k) hay)
    have hroom' : esy.length ≤ roomy ∧ esy.length * bytes ≤ roomy := by rw [← hyl]; simpa using hroom
    refine ⟨⟨.ref (b + res) 0 esy.length, [(b + res, .row sz esy true)], []⟩, ?_, key.put hd ?_, hG.set fun id2 e => ⟨.new res, by simp, by injection e with e; exact e.symm⟩, ?_, ?_, ?_, rfl, fun id2 hid => hdd id2 (dead_set f2 hid)⟩
    · simp only [opE, run_bindE, s1, Option.bind_some, hne, Bool.false_eq_true, if_false, hx']
      rw [if_pos hroom']
      simp only [Eff.run, f1, f2, if_true]
    · simp only [VR]
      exact .inl ⟨b + res, rfl, by simp [hyl]⟩
    · intro id2 hid
      simp only [opE] at hid
      rw [(bind_rd s1).1] at hid
      simp only [hne, Bool.false_eq_true, if_false, hx'] at hid
      rw [if_pos hroom'] at hid
      simp only [Eff.rd, List.append_nil] at hid
      exact inI _ (s3 _ hid)
    · intro id2 hid
      simp only [opE] at hid
      rw [(bind_rd s1).2, s4] at hid
      simp only [hne, Bool.false_eq_true, if_false, hx'] at hid
      rw [if_pos hroom'] at hid
      simp only [Eff.lv, List.nil_append, List.mem_cons, List.not_mem_nil, or_false] at hid
      subst hid
      exact ⟨.new res, by simp, rfl⟩
    · intro id2 hid
      simp at hid
      subst hid
      exact ⟨.new res, by simp, rfl⟩

theorem JSD.loadC {ag : Bool} {n k : Nat} {cs : List D} (hx : evV E x = some (.c k (.fptr cs))) (hv : (pureV E (.load ag n x)).isSome = true) (hg : gst E g = some true) (hok : okSeen sn aft ⟨[], []⟩ = true) (hd : dstOk N dst = true)
    (h : JSD pr fr R0 b av N (putE E dst ((pureV E (.load ag n x)).getD (.x .undef))) R G (i + 1) ((i, ⟨[], []⟩) :: sn) ops m Q) : JSD pr fr R0 b av N E R G i sn (⟨dst, .load ag n x, g, aft, res⟩ :: ops) m Q := by
  refine JSD.step ⟨[], []⟩ hg hok (fun D0 hI s hs hG hdd => ?_) h
  obtain ⟨v, hv'⟩ := Option.isSome_iff_exists.1 hv
  rw [hv']
  simp only [Option.getD_some]
  obtain ⟨d, h1, h2⟩ := pureV_ok hs hv' (b + res)
  have hc := hs.ev hx
  simp only [VR] at hc
  have hq : ∀ o : Option D, (quietO o).rd s.hp = [] ∧ (quietO o).lv s.hp = [] := fun o => by cases o <;> exact ⟨rfl, rfl⟩
  refine ⟨⟨d, [], []⟩, h1, hs.put hd h2, hG, ?_, ?_, by simp, rfl, hdd⟩
  · intro id2 hid
    rcases hc.fptr_cases with ⟨ds, hd, ha⟩ | ⟨id, i, j, sz, es0, e0, hd, h3, _⟩
    · simp only [opE, hd] at hid
      split at hid
      · rw [(hq _).1] at hid; cases hid
      · cases hid
    · simp only [opE, hd, Eff.rd, h3] at hid
      simp only [List.mem_cons] at hid
      rcases hid with rfl | hid
      · exact .inr (hdd _ ⟨_, _, h3⟩)
      · split at hid
        · split at hid
          · rw [(hq _).1] at hid; cases hid
          · cases hid
        · cases hid
  · intro id2 hid
    rcases hc.fptr_cases with ⟨ds, hd, ha⟩ | ⟨id, i, j, sz, es0, e0, hd, h3, _⟩
    · simp only [opE, hd] at hid
      split at hid
      · rw [(hq _).2] at hid; cases hid
      · cases hid
    · simp only [opE, hd, Eff.lv, h3] at hid
      split at hid
      · split at hid
        · rw [(hq _).2] at hid; cases hid
        · cases hid
      · cases hid
/-- Where each of what is left waits for all ahead of it: one behind the other. -/
def fullA : Nat → List PO → Bool
  | _, [] => true
  | i, o :: os => ((List.range i).all fun j => o.after.contains j) && fullA (i + 1) os
theorem seqD_full {call : CallF} {base : Nat} : ∀ {os : List PO} {i : Nat} {seen : List (Nat × Fp)} {s : St}, fullA i os = true → (∀ p ∈ seen, p.1 < i) → seqD call base os i seen s = seqR call base os s
  | [], _, _, _, _, _ => rfl
  | o :: os, i, seen, s, h, hs => by
    simp only [fullA, Bool.and_eq_true, List.all_eq_true, List.mem_range] at h
    have hc : (seen.all fun p => o.after.contains p.1 || !clash p.2 (stepFp call base o s)) = true := by
      rw [List.all_eq_true]
      intro p hp
      rw [h.1 p.1 (hs p hp)]
      rfl
    simp only [seqD, seqR, hc, if_true]
    congr 1
    funext s'
    exact seqD_full h.2 (fun p hp => by
      simp only [List.mem_cons] at hp
      rcases hp with rfl | hp
      · exact Nat.lt_succ_self i
      · exact Nat.lt_succ_of_lt (hs p hp))
theorem JSD.toJS (hf : fullA i ops = true) (hsn : (sn.all fun p => leB (p.1 + 1) i) = true) (h : JS pr fr b av N E R ops m Q) : JSD pr fr R0 b av N E R G i sn ops m Q := by
  intro D0 hI a ha s seen hs hG hse hdd
  obtain ⟨n, s', h1, h2⟩ := h a ha s hs
  refine ⟨n, s', ?_, h2⟩
  rw [seqD_full hf]
  · exact h1
  · intro p hp
    have : ∀ {sn : List (Nat × AF)} {seen : List (Nat × Fp)}, All2 (fun p q => p.1 = q.1 ∧ fpA (Iota R0 b) D0 p.2 q.2) sn seen → (sn.all fun p => leB (p.1 + 1) i) = true → ∀ q ∈ seen, q.1 < i := by
      intro sn
      induction sn with
      | nil =>
        intro seen h _ q hq
        cases seen with
        | nil => cases hq
        | cons _ _ => exact h.elim
      | cons p sn ih =>
        intro seen h hl q hq
        cases seen with
        | nil => cases hq
        | cons r seen =>
          simp only [List.all_cons, Bool.and_eq_true] at hl
          simp only [List.mem_cons] at hq
          rcases hq with rfl | hq
          · have := h.1.1
            rw [← this]
            have := leB_iff.1 hl.1
            omega
          · exact ih h.2 hl.2 q hq
    exact this hse hsn p hp
/-! ### whether a list is nil, where it may be either -/
def both [DecidableEq α] (a b : Option α) : Option α := if a = b then a else none
theorem both_some [DecidableEq α] {a c : Option α} {o : α} (h : both a c = some o) : a = some o ∧ c = some o := by
  unfold both at h
  split at h
  · rename_i e; exact ⟨h, e ▸ h⟩
  · cases h
theorem JS.eqNB [DecidableEq α] {n sz : Nat} {es : List (List D)} {neg : Bool} {m1 : Option α} (hx : evV E x = some (.c n (.lst sz es))) (hg : gst E g = some true) (hd : dstOk N dst = true)
    (h1 : JS pr fr b av N (putE E dst (.x (.bool (!neg)))) R ops m1 Q) (h : JS pr fr b av N (putE E dst (.x (.bool neg))) R ops m Q) : JS pr fr b av N E R (⟨dst, .eqNS neg x, g, aft, res⟩ :: ops) (cond es.isEmpty (both m1 m) m) Q := by
  intro o ho s hs
  have hc := hs.ev hx
  simp only [VR] at hc
  have two : m = some o ∧ (es = [] → m1 = some o) := by
    cases he : es.isEmpty with
    | true => rw [he, cond_true] at ho; exact ⟨(both_some ho).2, fun _ => (both_some ho).1⟩
    | false => rw [he, cond_false] at ho; exact ⟨ho, fun e => by rw [e] at he; cases he⟩
  obtain ⟨g1, g2⟩ := gst_true hs hg
  have go : ∀ d, opE noCall (PX.ev s.ts) (b + res) (.eqNS neg x) = quiet (.bool d) → (d = neg ∨ (d = !neg ∧ es = [])) → Steps pr b (⟨dst, .eqNS neg x, g, aft, res⟩ :: ops) s (Q o) := by
    intro d e hdd
    have hrun : (opE noCall (PX.ev s.ts) (b + res) (.eqNS neg x)).run s.hp = some ⟨.bool d, [], []⟩ := by rw [e]; rfl
    refine Steps.cons (n := 0) (stepO_mono (noCall_le _) (stepO_of (b := b) (o := ⟨dst, .eqNS neg x, g, aft, res⟩) (ts := s.ts) (H := s.hp) g1 g2 hrun)).1 ?_
    rcases hdd with rfl | ⟨rfl, he⟩
    · exact h o two.1 _ (hs.put hd (by simp only [VR]))
    · exact h1 o (two.2 he) _ (hs.put hd (by simp only [VR]))
  have hb : ∀ c : Bool, c = neg ∨ c = !neg := fun c => by cases c <;> cases neg <;> simp
  rcases hc.lst_cases with ⟨e, hd'⟩ | ⟨es', hd', hq⟩ | ⟨k, id, off, len, es0, rfl, hd', h3, h4, hlen, h5, h6, h7⟩
  · refine go (!neg) ?_ (.inr ⟨rfl, e⟩)
    simp only [opE, hd']; cases neg <;> rfl
  · refine go neg ?_ (.inl rfl)
    simp only [opE, hd']; cases neg <;> rfl
  · refine go neg ?_ (.inl rfl)
    simp only [opE, hd']; cases neg <;> rfl
end
end Go.Pi
/-
  CALLS THAT TURN A LIST OF THE CALLER's IN PLACE.
-/
namespace Go.Pi
set_option linter.unusedVariables false
section
variable {pr : Prog} {fr : Nat → Option Blk} {α β γ : Type} {N b : Nat} {av : List Nat} {E : Env} {R R0 : List Rt} {m : Option α} {s : St}
variable {dst : Option Nat} {g : Option (Nat × Bool)} {aft : List Nat} {res : Nat} {ops : List PO} {Q : α → St → Prop} {x y ix : PX} {i : Nat}
/-- What a function makes of a list that it is given, as long as it was. -/
def InOk (pr : Prog) (f : Nat) (sz : Nat) (c : β → List D) (args : List V) (l l' : List β) : Prop :=
  ∀ o : Option Nat, HOk pr f (.ref o 0 l.length :: args) [⟨o, sz, vl c l⟩] (fun v R' => v = .tup [] ∧ l'.length = l.length ∧ R' = [⟨o, sz, vl c l'⟩])
def RetI (o : Option Nat) (sz : Nat) (c : β → List D) (l l' : List β) (ex : Ex) (E : Env) (R : List Rt) : Prop := (∀ i, ex ≠ .exit i) ∧ l'.length = l.length ∧ R = [⟨o, sz, vl c l'⟩]
theorem InOk.of {f sz : Nat} {c : β → List D} {args : List V} {l : List β} {pf : PF} {m : Option (List β)} (hf : pr f = some pf) (ho : pf.orc = none) (hlen : leB (args.length + 1) pf.ntmps = true) (hr : pf.results = [])
    (h : ∀ fr o, JC pr fr pf.ntmps (argE 0 (.ref o 0 l.length :: args)) [⟨o, sz, vl c l⟩] pf.body m (fun r => GotA pf.ntmps fr (RetI o sz c l r))) : ∀ r, m = some r → InOk pr f sz c args l r := by
  intro r hm o
  refine HOk.of (vs := .ref o 0 l.length :: args) (P := fun (r : List β) v R' => v = .tup [] ∧ r.length = l.length ∧ R' = [⟨o, sz, vl c r⟩]) hf ho (by simpa using hlen) (fun fr => ?_) r hm
  intro a ha s hs
  refine (h fr o a ha s hs).mono ?_
  rintro ex s' ⟨E, R, ⟨h1, h2, h3⟩, hs'⟩
  refine ⟨E, R, ⟨h1, [], ?_, rfl, h2, h3⟩, hs'⟩
  rw [hr]
  trivial
def keepL (l l' : List β) : Option (List β) := if l'.length = l.length then some l' else none
theorem JC.finI {c : PC} {o : Option Nat} {sz : Nat} {cc : β → List D} {l l' : List β} {ex : Ex} (hc : c = exC ex) (hex : ∀ i, ex ≠ .exit i) (hR : R = [⟨o, sz, vl cc l'⟩]) :
    JC pr fr N E R c (keepL l l') (fun r => GotA N fr (RetI o sz cc l r)) := by
  unfold keepL
  split
  · rename_i h
    exact JC.got (A := fun r => RetI o sz cc l r) hc ⟨hex, h, hR⟩
  · exact JC.no
theorem JS.callI {f : Nat} {as : List PX} {args : List V} {c : β → List D} {l l' : List β} {o : Option Nat} {sz : Nat} (A : List Rt) (hc : InOk pr f sz c args l l') (hR : R = A ++ [⟨o, sz, vl c l⟩]) (ha : as.map (evV E) = (V.ref o 0 l.length :: args).map some)
    (hg : gst E g = some true) (hd : dstOk N dst = true) (h : l'.length = l.length → JS pr fr b av N (putE E dst (.tup [])) (A ++ [⟨o, sz, vl c l'⟩]) ops m Q) :
    JS pr fr b av N E R (⟨dst, .callH f as, g, aft, res⟩ :: ops) m Q := by
  subst hR
  exact JS.callH (hc o) ha hg hd (by rintro v R' ⟨rfl, hl, rfl⟩; exact h hl)
end
end Go.Pi
