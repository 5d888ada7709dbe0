import Derived.Test.YtghncdeldlknnaaJK
import Derived.Test.YtghncdeldlknnaaPiW
/-
  REGIONS WHOSE ORDER IS DRAWN: what is met and turned, told by rows.
-/
set_option linter.all false
namespace Go.Pi
set_option linter.unusedVariables false

inductive AId where
  | root (i : Nat)
  | new (r : Nat)
def AId.beq : AId → AId → Bool
  | .root i, .root j => Nat.beq i j
  | .new i, .new j => Nat.beq i j
  | _, _ => false
theorem AId.beq_iff {a c : AId} : a.beq c = true ↔ a = c := by
  cases a <;> cases c <;> simp [AId.beq]
def AId.mem (a : AId) : List AId → Bool
  | [] => false
  | c :: cs => a.beq c || a.mem cs
theorem AId.mem_iff {a : AId} : ∀ {l : List AId}, a.mem l = true ↔ a ∈ l
  | [] => by simp [AId.mem]
  | c :: cs => by simp [AId.mem, AId.mem_iff (l := cs), AId.beq_iff]
structure AF where
  rd : List AId
  wr : List AId
def AF.hits (wr l : List AId) : Bool := wr.any fun a => a.mem l
def aclash (p q : AF) : Bool := AF.hits p.wr q.rd || AF.hits p.wr q.wr || AF.hits q.wr p.rd || AF.hits q.wr p.wr
/-- Which rows are meant. -/
def Iota (R0 : List Rt) (b : Nat) : AId → Nat → Prop
  | .root i, id => ∃ r, R0[i]? = some r ∧ r.o = some id
  | .new r, id => id = b + r
structure Inj (I : AId → Nat → Prop) (D0 : Nat → Prop) : Prop where
  inj : ∀ a c id, I a id → I c id → a = c
  live : ∀ a id, I a id → ¬ D0 id
theorem hits_nil (wr : List AId) : AF.hits wr [] = false := by simp [AF.hits, AId.mem]
theorem aclash_nil (p : AF) : aclash p ⟨[], []⟩ = false := by
  unfold aclash
  rw [hits_nil]
  rfl
def fpA (I : AId → Nat → Prop) (D0 : Nat → Prop) (p : AF) (q : Fp) : Prop :=
  q.all = false ∧ (∀ id ∈ q.rd, (∃ a ∈ p.rd, I a id) ∨ D0 id) ∧ (∀ id ∈ q.lv, ∃ a ∈ p.wr, I a id) ∧ (∀ id ∈ q.wr, ∃ a ∈ p.wr, I a id) ∧ q.fz = []
theorem hits_false {wr l : List AId} (h : AF.hits wr l = false) {a : AId} (h1 : a ∈ wr) (h2 : a ∈ l) : False := by
  have : AF.hits wr l = true := by
    simp only [AF.hits, List.any_eq_true]
    exact ⟨a, h1, AId.mem_iff.2 h2⟩
  rw [h] at this; cases this
theorem aclash_ok {I : AId → Nat → Prop} {D0 : Nat → Prop} (hI : Inj I D0) {p q : AF} {f g : Fp} (h : aclash p q = false) (hf : fpA I D0 p f) (hg : fpA I D0 q g) : clash f g = false := by
  simp only [aclash, Bool.or_eq_false_iff] at h
  obtain ⟨⟨⟨h1, h2⟩, h3⟩, h4⟩ := h
  obtain ⟨a1, a2, a3, a4, a5⟩ := hf
  obtain ⟨c1, c2, c3, c4, c5⟩ := hg
  have wr_rd : ∀ {f g : Fp} {p q : AF}, (∀ id ∈ f.wr, ∃ a ∈ p.wr, I a id) → (∀ id ∈ g.rd, (∃ a ∈ q.rd, I a id) ∨ D0 id) → AF.hits p.wr q.rd = false → meets f.wr g.rd = false := by
    intro f g p q hw hr hh
    simp only [meets, List.any_eq_false, List.contains_eq_mem, decide_eq_true_eq]
    intro id hid hm
    obtain ⟨a, ha, ia⟩ := hw id hid
    rcases hr id hm with ⟨c, hc, ic⟩ | hd
    · have := hI.inj _ _ _ ia ic
      subst this
      exact hits_false hh ha hc
    · exact hI.live _ _ ia hd
  have wr_wr : ∀ {l m : List Nat} {p q : AF}, (∀ id ∈ l, ∃ a ∈ p.wr, I a id) → (∀ id ∈ m, ∃ a ∈ q.wr, I a id) → AF.hits p.wr q.wr = false → meets l m = false := by
    intro l m p q hw hr hh
    simp only [meets, List.any_eq_false, List.contains_eq_mem, decide_eq_true_eq]
    intro id hid hm
    obtain ⟨a, ha, ia⟩ := hw id hid
    obtain ⟨c, hc, ic⟩ := hr id hm
    have := hI.inj _ _ _ ia ic
    subst this
    exact hits_false hh ha hc
  have n1 : ∀ l, meets l ([] : List Nat) = false := fun l => by induction l <;> simp_all [meets]
  have n2 : ∀ l, meets ([] : List Nat) l = false := fun l => rfl
  unfold clash
  simp only [a1, c1, a5, c5, n1, n2, Bool.false_and, Bool.or_false, Bool.false_or, wr_rd a4 c2 h1, wr_wr a4 c3 h2, wr_wr a4 c4 h2, wr_rd c4 a2 h3, wr_wr c4 a3 h4]

section
variable {pr : Prog} {fr : Nat → Option Blk} {α β γ : Type} {N b : Nat} {av : List Nat} {E : Env} {R R0 : List Rt} {m : Option α} {s : St}
variable {dst : Option Nat} {g : Option (Nat × Bool)} {aft : List Nat} {res : Nat} {ops : List PO} {Q : α → St → Prop} {x y ix : PX} {i : Nat} {sn : List (Nat × AF)} {G : List (List AId)}

/-- Whose rows these are. -/
def GR (I : AId → Nat → Prop) : List Rt → List (List AId) → Prop
  | [], [] => True
  | r :: R, l :: G => (∀ id, r.o = some id → ∃ a ∈ l, I a id) ∧ GR I R G
  | _, _ => False
def JSD (pr : Prog) (fr : Nat → Option Blk) (R0 : List Rt) (b : Nat) (av : List Nat) (N : Nat) (E : Env) (R : List Rt) (G : List (List AId)) (i : Nat) (sn : List (Nat × AF)) (ops : List PO) (m : Option α) (Q : α → St → Prop) : Prop :=
  ∀ (D0 : Nat → Prop), Inj (Iota R0 b) D0 → ∀ o, m = some o → ∀ s seen, EnvR N E R fr b av s → GR (Iota R0 b) R G → All2 (fun p q => p.1 = q.1 ∧ fpA (Iota R0 b) D0 p.2 q.2) sn seen → (∀ id, dead s.hp id → D0 id) → StepsD pr b ops i seen s (Q o)
theorem JSD.nil {Q : α → Ex → St → Prop} (h : JC pr fr N E R .skip m Q) : JSD pr fr R0 b av N E R G i sn [] m (fun o s => Q o .normal s) :=
  fun D0 hI o ho s seen hs _ _ _ => ⟨0, s, rfl, (h o ho s hs.shut).skip_inv⟩
theorem JSD.conv {m' : Option α} (hm : m = m') (h : JSD pr fr R0 b av N E R G i sn ops m' Q) : JSD pr fr R0 b av N E R G i sn ops m Q := by subst hm; exact h
def okSeen (sn : List (Nat × AF)) (aft : List Nat) (af : AF) : Bool := sn.all fun p => aft.contains p.1 || !aclash p.2 af
theorem okSeen_ok {I : AId → Nat → Prop} {D0 : Nat → Prop} (hI : Inj I D0) {af : AF} {f : Fp} (hf : fpA I D0 af f) : ∀ {sn : List (Nat × AF)} {seen : List (Nat × Fp)}, okSeen sn aft af = true →
    All2 (fun p q => p.1 = q.1 ∧ fpA I D0 p.2 q.2) sn seen → (seen.all fun p => aft.contains p.1 || !clash p.2 f) = true
  | [], [], _, _ => rfl
  | p :: sn, q :: seen, h, k => by
    simp only [okSeen, List.all_cons, Bool.and_eq_true] at h ⊢
    obtain ⟨⟨k1, k2⟩, k3⟩ := k
    refine ⟨?_, okSeen_ok hI hf h.2 k3⟩
    rw [← k1]
    have h1 := h.1
    cases ha : aft.contains p.1 with
    | true => rfl
    | false =>
      rw [ha] at h1
      simp only [Bool.false_or, Bool.not_eq_true'] at h1 ⊢
      exact aclash_ok hI h1 k2 hf
  | [], _ :: _, _, h => h.elim
  | _ :: _, [], _, h => h.elim
theorem seqD_mono' {n m : Nat} (h : n ≤ m) : ∀ {os : List PO} {i : Nat} {seen : List (Nat × Fp)} {s s' : St}, seqD (runN pr n) b os i seen s = some s' → seqD (runN pr m) b os i seen s = some s' :=
  fun hh => seqD_mono (runN_mono pr h) hh
theorem JSD.step {o : PO} {E' : Env} {R' : List Rt} {av' : List Nat} {G' : List (List AId)} (af : AF) (hg : gst E o.guard = some true) (hok : okSeen sn o.after af = true)
    (h : ∀ D0, Inj (Iota R0 b) D0 → ∀ s, EnvR N E R fr b av s → GR (Iota R0 b) R G → (∀ id, dead s.hp id → D0 id) → ∃ x, (opE noCall (PX.ev s.ts) (b + o.res) o.op).run s.hp = some x ∧ EnvR N E' R' fr b av' ⟨putT s.ts o.dst x.d, x.on s.hp⟩ ∧ GR (Iota R0 b) R' G' ∧
      (∀ id ∈ (opE noCall (PX.ev s.ts) (b + o.res) o.op).rd s.hp, (∃ a ∈ af.rd, Iota R0 b a id) ∨ D0 id) ∧ (∀ id ∈ (opE noCall (PX.ev s.ts) (b + o.res) o.op).lv s.hp, ∃ a ∈ af.wr, Iota R0 b a id) ∧ (∀ id ∈ x.ws.map (·.1), ∃ a ∈ af.wr, Iota R0 b a id) ∧ x.fz = [] ∧ (∀ id, dead (x.on s.hp) id → D0 id))
    (next : JSD pr fr R0 b av' N E' R' G' (i + 1) ((i, af) :: sn) ops m Q) : JSD pr fr R0 b av N E R G i sn (o :: ops) m Q := by
  intro D0 hI a ha s seen hs hG hsn hdd
  obtain ⟨g1, g2⟩ := gst_true hs hg
  obtain ⟨x, h1, h2, h3, h4, h5, h6, h7, h8⟩ := h D0 hI s hs hG hdd
  have hstep : ∀ n, stepO (runN pr n) b o s = some ⟨putT s.ts o.dst x.d, x.on s.hp⟩ := fun n => (stepO_mono (noCall_le _) (stepO_of (b := b) (o := o) (ts := s.ts) (H := s.hp) g1 g2 h1)).1
  have hfp : ∀ n, stepFp (runN pr n) b o s = stepFp noCall b o s := fun n => (stepO_mono (noCall_le _) (stepO_of (b := b) (o := o) (ts := s.ts) (H := s.hp) g1 g2 h1)).2
  have hf : fpA (Iota R0 b) D0 af (stepFp noCall b o s) := by
    unfold stepFp
    rw [if_pos g2]
    split
    · rename_i f args e
      rw [e] at h1
      simp [opE, Eff.run] at h1
    · simp only [h1]
      exact ⟨rfl, h4, h5, h6, h7⟩
  obtain ⟨n, s', k1, k2⟩ := next D0 hI a ha _ ((i, stepFp noCall b o s) :: seen) h2 h3 ⟨⟨rfl, hf⟩, hsn⟩ h8
  refine ⟨n, s', ?_, k2⟩
  simp only [seqD, hfp, okSeen_ok hI hf hok hsn, if_true, hstep, Option.bind_some]
  exact k1
theorem JSD.skip1 {o : PO} (hg : gst E o.guard = some false) (hd : dstOk N o.dst = true)
    (next : JSD pr fr R0 b av N (putE E o.dst (.x .skip)) R G (i + 1) ((i, ⟨[], []⟩) :: sn) ops m Q) : JSD pr fr R0 b av N E R G i sn (o :: ops) m Q := by
  intro D0 hI a ha s seen hs hG hsn hdd
  obtain ⟨g1, g2⟩ := gst_false hs hg
  have hf : ∀ c, stepFp c b o s = ⟨[], [], [], [], false⟩ := fun c => by unfold stepFp; rw [if_neg (by simp [g2])]
  have hfa : fpA (Iota R0 b) D0 ⟨[], []⟩ ⟨[], [], [], [], false⟩ := ⟨rfl, by simp, by simp, by simp, rfl⟩
  have hok : okSeen sn o.after ⟨[], []⟩ = true := by
    simp only [okSeen, List.all_eq_true]
    intro p _
    simp [aclash_nil]
  obtain ⟨n, s', k1, k2⟩ := next D0 hI a ha ⟨putT s.ts o.dst .skip, s.hp⟩ ((i, ⟨[], [], [], [], false⟩) :: seen) (hs.put hd (by simp only [VR])) hG ⟨⟨rfl, hfa⟩, hsn⟩ hdd
  refine ⟨n, s', ?_, k2⟩
  have hst : stepO (runN pr n) b o s = some ⟨putT s.ts o.dst .skip, s.hp⟩ := by unfold stepO; simp [g1, g2]
  simp only [seqD, hf, okSeen_ok hI hfa hok hsn, if_true, hst, Option.bind_some]
  exact k1
/-- Operations that meet no row. -/
def runVD (N : Nat) : Env → Nat → List (Nat × AF) → List PO → Option (Env × List (Nat × AF))
  | E, i, sn, [] => some (E, sn)
  | E, i, sn, o :: os => match gst E o.guard, dstOk N o.dst with
    | some true, true => match pureV E o.op, Nat.beq (clsO o.op) 0 with
      | some v, true => runVD N (putE E o.dst v) (i + 1) ((i, ⟨[], []⟩) :: sn) os
      | _, _ => none
    | some false, true => runVD N (putE E o.dst (.x .skip)) (i + 1) ((i, ⟨[], []⟩) :: sn) os
    | _, _ => none
theorem okSeen_nil (sn : List (Nat × AF)) (aft : List Nat) : okSeen sn aft ⟨[], []⟩ = true := by
  simp only [okSeen, List.all_eq_true]
  intro p _
  simp [aclash_nil]
theorem JSD.run1 : ∀ {k ops : List PO} {E E' : Env} {i : Nat} {sn sn' : List (Nat × AF)}, runVD N E i sn k = some (E', sn') → JSD pr fr R0 b av N E' R G (i + k.length) sn' ops m Q → JSD pr fr R0 b av N E R G i sn (k ++ ops) m Q
  | [], ops, E, E', i, sn, sn', h, hn => by simp only [runVD, Option.some.injEq, Prod.mk.injEq] at h; obtain ⟨rfl, rfl⟩ := h; exact hn
  | o :: k, ops, E, E', i, sn, sn', h, hn => by
    have hn' : JSD pr fr R0 b av N E' R G (i + 1 + k.length) sn' ops m Q := by
      have e : i + 1 + k.length = i + (o :: k).length := by simp; omega
      rw [e]; exact hn
    simp only [runVD] at h
    split at h
    · rename_i g1 g2
      split at h
      · rename_i v hv hc
        have hc' := Nat.eq_of_beq_eq_true hc
        refine JSD.step (o := o) (ops := k ++ ops) ⟨[], []⟩ g1 (okSeen_nil _ _) (fun D0 hI s hs hG hdd => ?_) (JSD.run1 h hn')
        obtain ⟨d, h1, h2⟩ := pureV_ok hs hv (b + o.res)
        obtain ⟨_, _, q3, q4⟩ := idle_run (opE_idle (c := noCall) (ρ := PX.ev s.ts) (r := b + o.res) hc') h1
        refine ⟨_, h1, hs.put g2 h2, hG, ?_, ?_, by simp, rfl, hdd⟩
        · rw [q3]; simp
        · rw [q4]; simp
      · cases h
    · rename_i g1 g2
      exact JSD.skip1 (o := o) (ops := k ++ ops) g1 g2 (JSD.run1 h hn')
    · cases h
theorem JSD.run (k : Nat) (h : (runVD N E i sn (ops.take k)).isSome = true) (next : JSD pr fr R0 b av N ((runVD N E i sn (ops.take k)).getD ([], [])).1 R G (i + (ops.take k).length) ((runVD N E i sn (ops.take k)).getD ([], [])).2 (ops.drop k) m Q) :
    JSD pr fr R0 b av N E R G i sn ops m Q := by
  obtain ⟨⟨E', sn'⟩, hE⟩ := Option.isSome_iff_exists.1 h
  rw [hE] at next
  have := JSD.run1 (k := ops.take k) hE next
  rwa [List.take_append_drop] at this
theorem EnvR.inj (h : EnvR N E R fr 0 [] s) : Inj (Iota R s.hp.length) (dead (s.hp)) := by
  obtain ⟨S, h1, h2, h3⟩ := h.ro
  have hal : ∀ (i id : Nat) (r : Rt), R[i]? = some r → r.o = some id → ∃ sz es, hat s.hp id = .row sz es true := by
    intro i id r hr ho
    obtain ⟨T, t1, t2⟩ := h1.pick hr
    rcases t1 with ⟨e, _⟩ | ⟨id', es', S', e, hh, _⟩
    · rw [e] at ho; cases ho
    · rw [e] at ho; injection ho with ho; subst ho; exact ⟨_, _, hh⟩
  refine ⟨fun a c id ha hc => ?_, fun a id ha hd => ?_⟩
  · cases a with
    | root i =>
      obtain ⟨r, a1, a2⟩ := ha
      cases c with
      | root j =>
        obtain ⟨q, c1, c2⟩ := hc
        rw [h1.disj h2 a1 c1 a2 c2]
      | new j =>
        obtain ⟨_, _, hh⟩ := hal _ _ _ a1 a2
        have := hat_ltJ (H := s.hp) (id := id) (by rw [hh]; intro e; cases e)
        simp only [Iota] at hc
        omega
    | new i =>
      cases c with
      | root j =>
        obtain ⟨q, c1, c2⟩ := hc
        obtain ⟨_, _, hh⟩ := hal _ _ _ c1 c2
        have := hat_ltJ (H := s.hp) (id := id) (by rw [hh]; intro e; cases e)
        simp only [Iota] at ha
        omega
      | new j =>
        simp only [Iota] at ha hc
        have : i = j := by omega
        rw [this]
  · obtain ⟨sz, es, hd⟩ := hd
    cases a with
    | root i =>
      obtain ⟨r, a1, a2⟩ := ha
      obtain ⟨_, _, hh⟩ := hal _ _ _ a1 a2
      rw [hh] at hd; cases hd
    | new r =>
      simp only [Iota] at ha
      have := hat_ltJ (H := s.hp) (id := id) (by rw [hd]; intro e; cases e)
      omega
def G0 : Nat → Nat → List (List AId)
  | _, 0 => []
  | i, n + 1 => [.root i] :: G0 (i + 1) n
theorem GR0 (b : Nat) (R0 : List Rt) : ∀ (R : List Rt) (i : Nat), (∀ j, R[j]? = R0[i + j]?) → GR (Iota R0 b) R (G0 i R.length)
  | [], _, _ => trivial
  | r :: R, i, h => by
    refine ⟨fun id e => ⟨.root i, by simp, r, by simpa using (h 0).symm, e⟩, GR0 b R0 R (i + 1) fun j => ?_⟩
    have := h (j + 1)
    rw [show i + 1 + j = i + (j + 1) by omega, ← this]
    simp
theorem JC.regionD {k : Nat} {Q : α → Ex → St → Prop} (h : ∀ b, JSD pr fr R b (List.range k) N E R (G0 0 R.length) 0 [] ops m (fun o s => Q o .normal s)) : JC pr fr N E R (.region true k ops) m Q := by
  intro o ho s hs
  refine Ends.regionD (h s.hp.length (dead s.hp) hs.inj o ho ⟨s.ts, s.hp ++ List.replicate k .fresh⟩ [] (hs.free k) (GR0 _ R R 0 (by simp)) trivial ?_)
  rintro id ⟨sz, es, hd⟩
  refine ⟨sz, es, ?_⟩
  by_cases hl : id < s.hp.length
  · rwa [hat_append_left hl] at hd
  · exfalso
    unfold hat at hd
    rw [List.getD_eq_getElem?_getD, List.getElem?_append_right (by omega)] at hd
    cases hq : (List.replicate k Blk.fresh)[id - s.hp.length]? with
    | none => rw [hq] at hd; simp at hd
    | some q =>
      rw [hq] at hd
      have := List.mem_of_getElem? hq
      simp at this
      rw [this.2] at hd
      simp at hd
/-! ### operations on rows -/
theorem GR.at {I : AId → Nat → Prop} : ∀ {R : List Rt} {G : List (List AId)}, GR I R G → ∀ {i : Nat} {r : Rt}, R[i]? = some r → ∀ id, r.o = some id → ∃ a ∈ G.getD i [], I a id
  | [], [], _, i, r, h, _, _ => by simp at h
  | r0 :: R, l :: G, h, 0, r, hr, id, e => by simp at hr; subst hr; exact h.1 id e
  | r0 :: R, l :: G, h, i + 1, r, hr, id, e => by simpa using h.2.at (i := i) (by simpa using hr) id e
  | [], _ :: _, h, _, _, _, _, _ => h.elim
  | _ :: _, [], h, _, _, _, _, _ => h.elim
theorem GR.snoc {I : AId → Nat → Prop} : ∀ {R : List Rt} {G : List (List AId)}, GR I R G → ∀ {r : Rt} {l : List AId}, (∀ id, r.o = some id → ∃ a ∈ l, I a id) → GR I (R ++ [r]) (G ++ [l])
  | [], [], _, _, _, h => ⟨h, trivial⟩
  | r0 :: R, l :: G, h, _, _, k => ⟨h.1, h.2.snoc k⟩
  | [], _ :: _, h, _, _, _ => h.elim
  | _ :: _, [], h, _, _, _ => h.elim
theorem GR.set {I : AId → Nat → Prop} : ∀ {R : List Rt} {G : List (List AId)}, GR I R G → ∀ {i : Nat} {r : Rt} {l : List AId}, (∀ id, r.o = some id → ∃ a ∈ l, I a id) → GR I (R.set i r) (G.set i l)
  | [], [], _, _, _, _, _ => trivial
  | r0 :: R, l :: G, h, 0, _, _, k => ⟨k, h.2⟩
  | r0 :: R, l :: G, h, i + 1, _, _, k => ⟨h.1, h.2.set k⟩
  | [], _ :: _, h, _, _, _, _ => h.elim
  | _ :: _, [], h, _, _, _, _ => h.elim
theorem dead_set {H : Heap} {id j : Nat} {sz : Nat} {es : List (List D)} (hl : id < H.length) (h : dead (H.set id (.row sz es true)) j) : dead H j := by
  obtain ⟨sz', es', h⟩ := h
  rw [hat_setJ hl] at h
  split at h
  · cases h
  · exact ⟨sz', es', h⟩
theorem JSD.loadO {ag : Bool} {n id sz p j : Nat} {es : List (List V)} {e : List V} (q : Nat) (hR : R[q]? = some ⟨some id, sz, es⟩) (he : es[p]? = some e) (hx : evV E x = some (.ptr id sz p j))
    (hv : (loadV ag n sz j e).isSome = true) (hg : gst E g = some true) (hok : okSeen sn aft ⟨G.getD q [], []⟩ = true) (hd : dstOk N dst = true)
    (h : JSD pr fr R0 b av N (putE E dst ((loadV ag n sz j e).getD (.x .undef))) R G (i + 1) ((i, ⟨G.getD q [], []⟩) :: sn) ops m Q) :
    JSD pr fr R0 b av N E R G i sn (⟨dst, .load ag n x, g, aft, res⟩ :: ops) m Q := by
  refine JSD.step ⟨G.getD q [], []⟩ hg hok (fun D0 hI s hs hG hdd => ?_) h
  obtain ⟨v, hv'⟩ := Option.isSome_iff_exists.1 hv
  rw [hv']
  simp only [Option.getD_some]
  have hx' := hs.ev hx
  simp only [VR] at hx'
  rcases hs.root hR with ⟨e, _⟩ | ⟨id', es', S', e1, hh, hvo⟩
  · cases e
  injection e1 with e1; subst e1
  obtain ⟨d, T1, T2, T3, q1, q2, _, _⟩ := hvo.at he
  simp only [loadV] at hv'
  split at hv'
  · rename_i l1 l2 l3
    rw [leB_iff] at l1 l2
    obtain ⟨d', k1, k2⟩ := run_ofShaped hv' (q2.part j n l3)
    have := q2.len
    obtain ⟨d1, d2⟩ := divmod (i := p) l2
    have hq : ∀ o : Option D, (quietO o).rd s.hp = [] ∧ (quietO o).lv s.hp = [] := fun o => by cases o <;> exact ⟨rfl, rfl⟩
    refine ⟨⟨d', [], []⟩, ?_, hs.put hd k2, hG, ?_, ?_, by simp, rfl, hdd⟩
    · simp only [opE, hx', Eff.run, hh, d1, d2, q1]
      rw [if_pos (by omega)]
      exact k1
    · intro id2 hid
      simp only [opE, hx', Eff.rd, hh, d1, d2, q1] at hid
      rw [if_pos (by omega), (hq _).1] at hid
      simp at hid
      subst hid
      exact .inl (hG.at hR _ rfl)
    · intro id2 hid
      simp only [opE, hx', Eff.lv, hh, d1, d2, q1] at hid
      rw [if_pos (by omega), (hq _).2] at hid
      cases hid
  · cases hv'
theorem JSD.buildSlice {c : β → List D} (l : List β) {sz n : Nat} {zero : List D} {parts : List (Nat × PX)} (hb : buildV E sz n zero parts = some (vl c l)) (hn : n = l.length) (hav : av.contains res = true)
    (hg : gst E g = some true) (hok : okSeen sn aft ⟨[], [.new res]⟩ = true) (hd : dstOk N dst = true) (h : ∀ id, JSD pr fr R0 b (av.erase res) N (putE E dst (.ref (some id) 0 l.length)) (R ++ [⟨some id, sz, vl c l⟩]) (G ++ [[.new res]]) (i + 1) ((i, ⟨[], [.new res]⟩) :: sn) ops m Q) :
    JSD pr fr R0 b av N E R G i sn (⟨dst, .buildSlice sz n zero parts, g, aft, res⟩ :: ops) m Q := by
  refine JSD.step ⟨[], [.new res]⟩ hg hok (fun D0 hI s hs hG hdd => ?_) (h (b + res))
  simp only [buildV] at hb
  split at hb
  · rename_i l' hl'
    obtain ⟨a1, ds, a2, a3, a4, a5⟩ := evP2_ok hs hl' (zd := List.replicate n zero) (fun e he => by
      simp at he; rw [he.2]; exact xs_flat zero) (All2.replicate (VRs.xs zero) n) hb
    have hr : res ∈ av := by simpa using hav
    obtain ⟨f1, f2, f3⟩ := hs.avl.2 res hr
    have h1 := hs.new hr (sz := sz) (VOe.of_flat a4 a3)
    refine ⟨⟨.ref (b + res) 0 n, [(b + res, .row sz ds true)], []⟩, ?_, h1.put hd ?_, hG.snoc fun id e => ⟨.new res, by simp, by injection e with e; exact e.symm⟩, ?_, ?_, ?_, rfl, fun id hid => hdd id (dead_set f2 hid)⟩
    · simp only [opE, a1, if_true, a2, Eff.run, f1, f2]
    · simp only [VR]
      exact .inl ⟨_, rfl, by rw [hn]⟩
    · intro id hid
      simp only [opE, a1, if_true, a2, Eff.rd] at hid
      cases hid
    · intro id hid
      simp only [opE, a1, if_true, a2, Eff.lv] at hid
      simp at hid
      exact ⟨.new res, by simp, hid⟩
    · intro id hid
      simp at hid
      exact ⟨.new res, by simp, hid⟩
  · cases hb
/-- Appended to a row of the call's own: what another row of its own holds. -/
theorem JSD.appW {c : β → List D} {l k : List β} {o oy : Option Nat} {len sz bytes : Nat} (q qy : Nat) (hR : R[q]? = some ⟨o, sz, vl c l⟩) (hx : evV E x = some (.ref o 0 len)) (hlen : len ≤ l.length) (hRy : R[qy]? = some ⟨oy, sz, vl c k⟩) (hy : evV E y = some (.ref oy 0 k.length)) (hk : k ≠ []) (hav : av.contains res = true)
    (hg : gst E g = some true) (hok : okSeen sn aft ⟨G.getD qy [] ++ G.getD q [], G.getD q [] ++ [.new res]⟩ = true) (hd : dstOk N dst = true)
    (h : ∀ o', JSD pr fr R0 b (av.erase res) N (putE E dst (.ref o' 0 (l.take len ++ k).length)) (R.set q ⟨o', sz, vl c (l.take len ++ k)⟩) (G.set q [.new res]) (i + 1) ((i, ⟨G.getD qy [] ++ G.getD q [], G.getD q [] ++ [.new res]⟩) :: sn) ops m Q) :
    JSD pr fr R0 b av N E R G i sn (⟨dst, .append sz bytes x y, g, aft, res⟩ :: ops) (room (len + k.length) bytes m) Q := by
  intro D0 hI a0 ha0 s0 seen0 hs0 hG0 hsn0 hdd0
  unfold room at ha0
  split at ha0
  case isFalse => cases ha0
  rename_i hroom
  refine JSD.step (m := m) ⟨G.getD qy [] ++ G.getD q [], G.getD q [] ++ [.new res]⟩ hg hok (fun D0 hI s hs hG hdd => ?_) (h (some (b + res))) D0 hI a0 ha0 s0 seen0 hs0 hG0 hsn0 hdd0
  have hr : res ∈ av := by simpa using hav
  obtain ⟨f1, f2, f3⟩ := hs.avl.2 res hr
  have hx' := hs.ev hx
  simp only [VR] at hx'
  have hy' := hs.ev hy
  simp only [VR] at hy'
  have hkl : 0 < k.length := List.length_pos_iff.2 hk
  rcases hy' with ⟨idy, rfl, hy'⟩ | ⟨_, _, e, _⟩
  case inr => omega
  rcases hs.root hRy with ⟨e, _⟩ | ⟨idy', esy, Sy, e, hhy, hvy⟩
  · cases e
  injection e with e; subst e
  obtain ⟨hay, _⟩ := hvy.flat (vl_flat c k)
  have hyl := hay.len
  rw [vl_len] at hyl
  have hsrc : (source sz (y.ev s.ts)).run s.hp = some esy ∧ (source sz (y.ev s.ts)).rd s.hp = [idy] ∧ (source sz (y.ev s.ts)).lv s.hp = [] := by
    rw [hy']
    simp only [source, Eff.run, Eff.rd, Eff.lv, hhy]
    rw [if_pos ⟨trivial, by omega⟩]
    simp only [Eff.run, Eff.rd, Eff.lv, List.drop_zero]
    exact ⟨by rw [List.take_of_length_le (by omega)], trivial, trivial⟩
  obtain ⟨s1, s2, s3⟩ := hsrc
  have hrdb : ∀ (f : List (List D) → Eff Out), ((source sz (y.ev s.ts)).bind f).rd s.hp = idy :: (f esy).rd s.hp ∧ ((source sz (y.ev s.ts)).bind f).lv s.hp = (f esy).lv s.hp := by
    intro f
    rw [hy']
    simp only [source, Eff.bind, Eff.rd, Eff.lv, hhy]
    rw [if_pos ⟨trivial, by omega⟩]
    simp only [Eff.bind, List.drop_zero]
    rw [List.take_of_length_le (by omega)]
    exact ⟨rfl, rfl⟩
  have hne : esy.isEmpty = false := by cases esy with
    | nil => exact absurd (List.length_eq_zero_iff.1 hyl) hk
    | cons => rfl
  have hIy := hG.at hRy idy rfl
  rcases hx' with ⟨id, rfl, hx'⟩ | ⟨rfl, _, hlz, hx'⟩
  · obtain ⟨es', S', hh, hvo, key⟩ := hs.move (es2 := vl c (l.take len ++ k)) hR hr
    obtain ⟨ha, rfl⟩ := hvo.flat (vl_flat c l)
    have hl' := ha.len
    rw [vl_len] at hl'
    have hnew : VOe s.hp (vl c (l.take len ++ k)) (es'.take len ++ esy) [] := by
      rw [← vl_append, ← vl_take]
      exact VOe.of_flat (fun e he => by
        simp at he
        rcases he with he | he
        · exact vl_flat c l e (List.mem_of_mem_take he)
        · exact vl_flat c k e he) ((ha.take len).append hay)
    have hIx := hG.at hR id rfl
    have hl0 : id < s.hp.length := hat_ltJ (by rw [hh]; intro e; cases e)
    refine ⟨⟨.ref (b + res) 0 (len + esy.length), [(id, .dead), (b + res, .row sz (es'.take len ++ esy) true)], []⟩, ?_, (key _ _ hnew (List.Sublist.refl _)).put hd ?_, hG.set fun id2 e => ⟨.new res, by simp, by injection e with e; exact e.symm⟩, ?_, ?_, ?_, rfl, ?_⟩
    · simp only [opE, run_bindE, s1, Option.bind_some, hne, Bool.false_eq_true, if_false, hx', Eff.run, hh]
      rw [if_pos ⟨trivial, trivial, by omega, by rw [← hyl]; exact hroom.1, by rw [← hyl]; exact hroom.2⟩]
      simp only [Eff.run, f1, f2, if_true]
    · simp only [VR]
      exact .inl ⟨b + res, rfl, by simp [← hyl, Nat.min_eq_left hlen]⟩
    · intro id2 hid
      left
      simp only [opE] at hid
      rw [(hrdb _).1] at hid
      simp only [hne, Bool.false_eq_true, if_false, hx', Eff.rd, hh] at hid
      rw [if_pos ⟨trivial, trivial, by omega, by rw [← hyl]; exact hroom.1, by rw [← hyl]; exact hroom.2⟩] at hid
      simp only [Eff.rd, List.mem_cons, List.not_mem_nil, or_false] at hid
      rcases hid with rfl | rfl
      · obtain ⟨a, h1, h2⟩ := hIy; exact ⟨a, List.mem_append.2 (.inl h1), h2⟩
      · obtain ⟨a, h1, h2⟩ := hIx; exact ⟨a, List.mem_append.2 (.inr h1), h2⟩
    · intro id2 hid
      simp only [opE] at hid
      rw [(hrdb _).2] at hid
      simp only [hne, Bool.false_eq_true, if_false, hx', Eff.lv, hh] at hid
      rw [if_pos ⟨trivial, trivial, by omega, by rw [← hyl]; exact hroom.1, by rw [← hyl]; exact hroom.2⟩] at hid
      simp only [Eff.lv, List.mem_cons, List.not_mem_nil, or_false] at hid
      rcases hid with rfl | rfl
      · obtain ⟨a, h1, h2⟩ := hIx; exact ⟨a, List.mem_append.2 (.inl h1), h2⟩
      · exact ⟨.new res, by simp, rfl⟩
    · intro id2 hid
      simp at hid
      rcases hid with rfl | rfl
      · obtain ⟨a, h1, h2⟩ := hIx; exact ⟨a, List.mem_append.2 (.inl h1), h2⟩
      · exact ⟨.new res, by simp, rfl⟩
    · intro id2 hid
      refine hdd id2 ?_
      have := dead_set (by simpa using f2) hid
      obtain ⟨sz', es2, hq⟩ := this
      rw [hat_setJ hl0] at hq
      split at hq
      · cases hq
      · exact ⟨sz', es2, hq⟩
  · subst hlz
    obtain ⟨he, key⟩ := hs.make (es2 := vl c (l.take 0 ++ k)) hR hr (es2' := esy) (by
      simp only [List.take_zero, List.nil_append]
      exact VOe.of_flat (vl_flat c k) hay)
    have hroom' : esy.length ≤ roomy ∧ esy.length * bytes ≤ roomy := by rw [← hyl]; simpa using hroom
    refine ⟨⟨.ref (b + res) 0 esy.length, [(b + res, .row sz esy true)], []⟩, ?_, key.put hd ?_, hG.set fun id2 e => ⟨.new res, by simp, by injection e with e; exact e.symm⟩, ?_, ?_, ?_, rfl, fun id2 hid => hdd id2 (dead_set f2 hid)⟩
    · simp only [opE, run_bindE, s1, Option.bind_some, hne, Bool.false_eq_true, if_false, hx']
      rw [if_pos hroom']
      simp only [Eff.run, f1, f2, if_true]
    · simp only [VR]
      exact .inl ⟨b + res, rfl, by simp [hyl]⟩
    · intro id2 hid
      left
      simp only [opE] at hid
      rw [(hrdb _).1] at hid
      simp only [hne, Bool.false_eq_true, if_false, hx'] at hid
      rw [if_pos hroom'] at hid
      simp only [Eff.rd, List.mem_cons, List.not_mem_nil, or_false] at hid
      subst hid
      obtain ⟨a, h1, h2⟩ := hIy; exact ⟨a, List.mem_append.2 (.inl h1), h2⟩
    · intro id2 hid
      simp only [opE] at hid
      rw [(hrdb _).2] at hid
      simp only [hne, Bool.false_eq_true, if_false, hx'] at hid
      rw [if_pos hroom'] at hid
      simp only [Eff.lv, List.mem_cons, List.not_mem_nil, or_false] at hid
      subst hid
      exact ⟨.new res, by simp, rfl⟩
    · intro id2 hid
      simp at hid
      subst hid
      exact ⟨.new res, by simp, rfl⟩
theorem JSD.appT {c : β → List D} {l k : List β} {o oy : Option Nat} {sz bytes : Nat} (q qy : Nat) (hR : R[q]? = some ⟨o, sz, vl c l⟩) (hx : evV E x = some (.ref o 0 l.length)) (hRy : R[qy]? = some ⟨oy, sz, vl c k⟩) (hy : evV E y = some (.ref oy 0 k.length)) (hk : k ≠ []) (hav : av.contains res = true)
    (hg : gst E g = some true) (hok : okSeen sn aft ⟨G.getD qy [] ++ G.getD q [], G.getD q [] ++ [.new res]⟩ = true) (hd : dstOk N dst = true)
    (h : ∀ o', JSD pr fr R0 b (av.erase res) N (putE E dst (.ref o' 0 (l ++ k).length)) (R.set q ⟨o', sz, vl c (l ++ k)⟩) (G.set q [.new res]) (i + 1) ((i, ⟨G.getD qy [] ++ G.getD q [], G.getD q [] ++ [.new res]⟩) :: sn) ops m Q) :
    JSD pr fr R0 b av N E R G i sn (⟨dst, .append sz bytes x y, g, aft, res⟩ :: ops) (room (l.length + k.length) bytes m) Q := by
  refine JSD.appW (l := l) (k := k) q qy hR hx (Nat.le_refl _) hRy hy hk hav hg hok hd ?_
  simpa using h
end
end Go.Pi
