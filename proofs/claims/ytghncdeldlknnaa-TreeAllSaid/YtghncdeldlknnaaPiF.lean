import Derived.Test.YtghncdeldlknnaaPiE
/-
  EACH OPERATION OF THE MODEL DOES WHAT THE ABSTRACT INTERPRETER's DOES (calls aside).
-/
set_option linter.all false
namespace Go.Pi
set_option linter.unusedVariables false

def isRowD : TypeDesc → Bool
  | .struct _ | .array _ _ => true
  | _ => false
/-- A type's shape: is it of many cells (a struct, an array), and how many. -/
def Shape (P : Program) (t : TypeId) (ag : Bool) (n : Nat) : Prop := ∃ d i, P.underlying t = some d ∧ isRowD d = ag ∧ P.info? t = some i ∧ i.size = n

def layF (P : Program) (g : TypeId → Option (List Nat)) : List Field → Nat → Option (List Nat)
  | [], _ => some []
  | f :: fs, off => if f.name ≠ "_" ∧ f.offset = off then (g f.type).bind fun ks => (P.info? f.type).bind fun i => if i.size = ks.length ∧ 0 < ks.length then (layF P g fs (off + ks.length)).map (ks ++ ·) else none else none
/-- The kinds of a plain type's cells. -/
def lay (P : Program) : Nat → TypeId → Option (List Nat)
  | 0, _ => none
  | m + 1, t => match P.underlying t with
    | some .bool => some [0]
    | some (.int _) => some [1]
    | some .string => some [2]
    | some (.struct fs) => if P.stoodInHeld t = false then layF P (lay P m) fs.toList 0 else none
    | some (.array n e) => (lay P m e).bind fun ks => (P.info? e).bind fun i => if i.size = ks.length ∧ 0 < ks.length then some (List.replicate n ks).flatten else none
    | _ => none

/-- A function of Go's library that the model stands in for, of one value. -/
def ExtOk (P : Program) (f : Nat) (bits : Bool) : Prop :=
  if bits then ∀ (b : Nat) (w : World), (callFunc f #[.float .f64 b]).run P w = .ok (.value (.int .u64 (b : Int))) w
  else ∀ (n : Int) (w : World), (callFunc f #[.int .u64 n]).run P w = .ok (.value (.float .f64 n.toNat)) w

section
variable (P : Program) (fm : Nat → Nat)

inductive TrP (pl : Nat → Option (Nat × Nat)) : List (Nat × Operand) → List (Nat × Nat × PX) → Prop where
  | nil : TrP pl [] []
  | cons {i : Nat} {x : Operand} {off n : Nat} {px : PX} {ps : List (Nat × Operand)} {qs : List (Nat × Nat × PX)} (hp : pl i = some (off, n)) (hx : TrX fm x px) (h : TrP pl ps qs) :
      TrP pl ((i, x) :: ps) ((off, n, px) :: qs)
inductive TrS : List (Nat × Operand) → List (Nat × PX) → Prop where
  | nil : TrS [] []
  | cons {i : Nat} {x : Operand} {px : PX} {ps : List (Nat × Operand)} {qs : List (Nat × PX)} (hx : TrX fm x px) (h : TrS ps qs) : TrS ((i, x) :: ps) ((i, px) :: qs)
inductive TrO : Option Operand → Option PX → Prop where
  | none : TrO none none
  | some {x : Operand} {px : PX} (h : TrX fm x px) : TrO (some x) (some px)
inductive TrA : List Operand → List (Nat × PX) → Prop where
  | nil : TrA [] []
  | cons {x : Operand} {m : Nat} {px : PX} {xs : List Operand} {qs : List (Nat × PX)} (hx : TrX fm x px) (h : TrA xs qs) : TrA (x :: xs) ((m, px) :: qs)

inductive TrOp : Op → POp → Prop where
  | move {x : Operand} {px : PX} (h : TrX fm x px) : TrOp (.move x) (.mv px)
  | assign {x : Operand} {px : PX} (h : TrX fm x px) : TrOp (.assign x) (.mv px)
  | pick {c a b : Operand} {pc pa pb : PX} (hc : TrX fm c pc) (ha : TrX fm a pa) (hb : TrX fm b pb) : TrOp (.pick c a b) (.pick pc pa pb)
  | alloc {e : TypeId} {i : TypeInfo} {z : Value} {zs : List D} (hi : P.info? e = some i) (hz : i.zero = some z) (hzs : CR (ClosedV fm) z.cells.toList zs) : TrOp (.alloc e) (.alloc zs)
  | box {e : TypeId} {x : Operand} {px : PX} {n : Nat} (h : TrX fm x px) : TrOp (.box e x) (.box n px)
  | build {t : TypeId} {parts : Array (Nat × Operand)} {z : Value} {zs : List D} {pl : Nat → Option (Nat × Nat)} {qs : List (Nat × Nat × PX)}
      (hb : ∀ l, P.built t l = Instr.fill pl z.cells l) (hzs : CR (ClosedV fm) z.cells.toList zs) (hp : TrP fm pl parts.toList qs) : TrOp (.build t parts) (.build zs qs)
  | buildSlice {t e : TypeId} {n : Nat} {parts : Array (Nat × Operand)} {ie : TypeInfo} {z : Value} {zs : List D} {sz : Nat} {qs : List (Nat × PX)}
      (hu : P.underlying t = some (.slice e)) (hie : P.info? e = some ie) (hz : ie.zero = some z) (hsz : ie.size = sz) (h0 : 0 < sz) (hzs : CR (ClosedV fm) z.cells.toList zs) (hzl : zs.length = sz)
      (hsm : n * sz ≤ 16777216) (hp : TrS fm parts.toList qs) : TrOp (.buildSlice t n parts) (.buildSlice sz n zs qs)
  | load {t : TypeId} {x : Operand} {px : PX} {ag : Bool} {n : Nat} (hs : Shape P t ag n) (h : TrX fm x px) : TrOp (.load t x) (.load ag n px)
  | store {t : TypeId} {x y : Operand} {px py : PX} {n : Nat} (hs : (P.info? t).map (·.size) = some n) (hx : TrX fm x px) (hy : TrX fm y py) : TrOp (.store t x y) (.store n px py)
  | nilCheck {x : Operand} {px : PX} (h : TrX fm x px) : TrOp (.nilCheck x) (.nilCheck px)
  | bin {op : BinOp} {t u : TypeId} {x y : Operand} {px py : PX} (hx : TrX fm x px) (hy : TrX fm y py) : TrOp (.binOp op t x y u) (.bin op px py)
  | eqB {neg : Bool} {t u : TypeId} {x y : Operand} {px py : PX} (ht : P.underlying t = some .bool) (hx : TrX fm x px) (hy : TrX fm y py) :
      TrOp (.binOp (if neg then .neq else .eql) t x y u) (.eqB neg px py)
  | eqNs {neg : Bool} {t u e : TypeId} {x : Operand} {px : PX} (ht : P.underlying t = some (.slice e)) (hx : TrX fm x px) :
      TrOp (.binOp (if neg then .neq else .eql) t x (.const (.slice none 0 0)) u) (.eqNS neg px)
  | eqNp {neg : Bool} {t u e : TypeId} {x : Operand} {px : PX} (ht : P.underlying t = some (.pointer e)) (hx : TrX fm x px) :
      TrOp (.binOp (if neg then .neq else .eql) t x (.const (.pointer none)) u) (.eqNP neg px)
  | un {op : UnOp} {t : TypeId} {x : Operand} {px : PX} (hx : TrX fm x px) : TrOp (.unOp op t x) (.un op px)
  | convInt {s d : TypeId} {k : IntKind} {x : Operand} {px : PX} (hs : (P.underlying s).isSome = true) (hd : P.underlying d = some (.int k)) (hx : TrX fm x px) : TrOp (.convert s d x) (.conv (.toInt k) px)
  | convBS {s d e : TypeId} {x : Operand} {px : PX} (hs : P.underlying s = some (.slice e)) (he : P.underlying e = some (.int .u8)) (hd : P.underlying d = some .string) (hx : TrX fm x px) :
      TrOp (.convert s d x) (.conv .bytesStr px)
  | convSB {s d e : TypeId} {x : Operand} {px : PX} (hs : P.underlying s = some .string) (hd : P.underlying d = some (.slice e)) (he : P.underlying e = some (.int .u8)) (hx : TrX fm x px) :
      TrOp (.convert s d x) (.conv .strBytes px)
  | makeSlice {t e : TypeId} {i : TypeInfo} {z : Value} {zs : List D} {sz bytes : Nat} {x y : Operand} {px py : PX} (hu : P.underlying t = some (.slice e)) (hi : P.info? e = some i) (hz : i.zero = some z)
      (hsz : i.size = sz) (hby : i.bytes = bytes) (h0 : 0 < sz) (hzs : CR (ClosedV fm) z.cells.toList zs) (hzl : zs.length = sz) (hx : TrX fm x px) (hy : TrX fm y py) :
      TrOp (.makeSlice t x y) (.makeSlice sz bytes zs px py)
  | slice {t e : TypeId} {i : TypeInfo} {sz : Nat} {x : Operand} {px : PX} {lo hi : Option Operand} {plo phi : Option PX} (hu : P.underlying t = some (.slice e)) (hie : P.info? e = some i) (hsz : i.size = sz)
      (hx : TrX fm x px) (hlo : TrO fm lo plo) (hhi : TrO fm hi phi) : TrOp (.slice t x lo hi none) (.slice sz px plo phi)
  | sliceS {t : TypeId} {x : Operand} {px : PX} {lo hi : Option Operand} {plo phi : Option PX} (hu : P.underlying t = some .string)
      (hx : TrX fm x px) (hlo : TrO fm lo plo) (hhi : TrO fm hi phi) : TrOp (.slice t x lo hi none) (.sliceS px plo phi)
  | fieldAddr {s : TypeId} {x : Operand} {px : PX} {f off n : Nat} {fs : Array Field} {fd : Field} (hu : P.underlying s = some (.struct fs)) (hf : fs[f]? = some fd) (ho : fd.offset = off)
      (hn : (P.info? fd.type).map (·.size) = some n) (h0 : 0 < n) (hx : TrX fm x px) : TrOp (.fieldAddr s x f) (.fieldAddr off n px)
  | field {s : TypeId} {x : Operand} {px : PX} {f off n : Nat} {ag : Bool} {fs : Array Field} {fd : Field} (hu : P.underlying s = some (.struct fs)) (hf : fs[f]? = some fd) (ho : fd.offset = off)
      (hn : Shape P fd.type ag n) (hx : TrX fm x px) : TrOp (.field s x f) (.field ag off n px)
  | indexAddr {t e : TypeId} {x i : Operand} {px pi : PX} {sz : Nat} (hu : P.underlying t = some (.slice e)) (hs : (P.info? e).map (·.size) = some sz) (hx : TrX fm x px) (hi : TrX fm i pi) :
      TrOp (.indexAddr t x i) (.indexAddr sz px pi)
  | indexAddrA {t e : TypeId} {x i : Operand} {px pi : PX} {sz n : Nat} (hu : P.underlying t = some (.array n e)) (hs : (P.info? e).map (·.size) = some sz) (hx : TrX fm x px) (hi : TrX fm i pi) :
      TrOp (.indexAddr t x i) (.indexAddrA sz n px pi)
  | index {t e : TypeId} {x i : Operand} {px pi : PX} {sz n : Nat} {ag : Bool} (hu : P.underlying t = some (.array n e)) (hs : Shape P e ag sz) (hx : TrX fm x px) (hi : TrX fm i pi) :
      TrOp (.index t x i) (.index ag sz n px pi)
  | indexS {t : TypeId} {x i : Operand} {px pi : PX} (hu : P.underlying t = some .string) (hx : TrX fm x px) (hi : TrX fm i pi) : TrOp (.index t x i) (.indexS px pi)
  | extract {x : Operand} {px : PX} {i : Nat} (hx : TrX fm x px) : TrOp (.extract x i) (.extract px i)
  | eqA {neg : Bool} {m : Nat} {t u : TypeId} {ks : List Nat} {td : TypeDesc} {x y : Operand} {px py : PX} (ht : P.underlying t = some td) (hag : isRowD td = true) (hg : P.eqGuardType P.depth t = false)
      (hl : lay P m t = some ks) (hm : m ≤ 1000) (hx : TrX fm x px) (hy : TrX fm y py) : TrOp (.binOp (if neg then .neq else .eql) t x y u) (.eqA neg ks px py)
  | toFlt {s d : TypeId} {x : Operand} {px : PX} (hs : (P.underlying s).isSome = true) (hd : P.underlying d = some (.float .f64)) (hx : TrX fm x px) : TrOp (.convert s d x) (.conv .toFlt px)
  | mark {t e : TypeId} {x : Operand} {px : PX} (ht : P.underlying t = some (.slice e)) (he : P.underlying e = some (.int .u8)) (hx : TrX fm x px) : TrOp (.convert t t x) (.mark px)
  | bits {f : Nat} {x : Operand} {px : PX} {ats : Array TypeId} (hf : ExtOk P f true) (hx : TrX fm x px) : TrOp (.call { callee := .value (.func f), args := #[x], argTypes := ats }) (.bits px)
  | ofBits {f : Nat} {x : Operand} {px : PX} {ats : Array TypeId} (hf : ExtOk P f false) (hx : TrX fm x px) : TrOp (.call { callee := .value (.func f), args := #[x], argTypes := ats }) (.ofBits px)
  | minmax {mx : Bool} {x : Operand} {xs : List Operand} {px : PX} {ps : List PX} {ats : Array TypeId} (hx : TrX fm x px) (hxs : TrXs fm xs ps) :
      TrOp (.call { callee := .builtin (if mx then .max else .min), args := (x :: xs).toArray, argTypes := ats }) (.minmax mx px ps)
  | lenS {t : TypeId} {x : Operand} {px : PX} (hu : P.underlying t = some .string) (hx : TrX fm x px) :
      TrOp (.call { callee := .builtin .len, args := #[x], argTypes := #[t] }) (.lenS px)
  | lenR {t e : TypeId} {x : Operand} {px : PX} (hu : P.underlying t = some (.slice e)) (hx : TrX fm x px) :
      TrOp (.call { callee := .builtin .len, args := #[x], argTypes := #[t] }) (.len px)
  | append {t u e : TypeId} {i : TypeInfo} {z : Value} {sz bytes : Nat} {x y : Operand} {px py : PX} (hu : P.underlying t = some (.slice e)) (hv : (∃ e', P.underlying u = some (.slice e')) ∨ P.underlying u = some .string)
      (hi : P.info? e = some i) (hz : i.zero = some z) (hsz : i.size = sz) (hzl : z.cells.size = sz) (hby : i.bytes = bytes) (h0 : 0 < sz) (hx : TrX fm x px) (hy : TrX fm y py) :
      TrOp (.call { callee := .builtin .append, args := #[x, y], argTypes := #[t, u] }) (.append sz bytes px py)
end

section
variable {P : Program} {fm : Nat → Nat} {B : Base} {w : World} {G : Gh} {H : Heap} {o : Oper} {a : Act} {ts : List D}

/-- What an operation leaves. -/
def Post (fm : Nat → Nat) (B : Base) (w : World) (G : Gh) (H : Heap) (out : Out) (v : Value) (w' : World) : Prop :=
  ∃ G', Adv B w G H w' G' (out.on H) ∧ Inv fm B w' G' (out.on H) ∧ Rep fm G' (okB B G' (out.on H) w') w' v out.d

theorem post_quiet (hI : Inv fm B w G H) {v : Value} {d : D} (h : Rep fm G (okB B G H w) w v d) : Post fm B w G H ⟨d, [], []⟩ v w :=
  ⟨G, Adv.refl _ _ _ _, hI, h⟩
/-- The world has drawn, and nothing else. -/
theorem run_quietO {x : Option D} {out : Out} (h : (quietO x).run H = some out) : ∃ d, x = some d ∧ out = ⟨d, [], []⟩ := by
  cases x with
  | none => simp [quietO, Eff.run] at h
  | some d => simp [quietO, quiet, Eff.run] at h; exact ⟨d, rfl, h.symm⟩
theorem run_quiet {d : D} {out : Out} (h : (quiet d).run H = some out) : out = ⟨d, [], []⟩ := by
  simp [quiet, Eff.run] at h; exact h.symm
theorem run_new {α : Type} {r : Nat} {k : Eff α} {x : α} (h : (Eff.new r k).run H = some x) : r < H.length ∧ hat H r = .fresh ∧ k.run H = some x := by
  simp only [Eff.run] at h
  split at h
  · split at h
    · exact ⟨by assumption, by assumption, h⟩
    · cases h
  · cases h
theorem run_live {α : Type} {r : Nat} {k : Eff α} {x : α} (h : (Eff.live r k).run H = some x) : (∃ sz es, hat H r = .row sz es true) ∧ k.run H = some x := by
  simp only [Eff.run] at h
  split at h
  · exact ⟨⟨_, _, by assumption⟩, h⟩
  · cases h
theorem run_get {α : Type} {r : Nat} {k : Nat → List (List D) → Eff α} {x : α} (h : (Eff.get r k).run H = some x) : ∃ sz es lv, hat H r = .row sz es lv ∧ (k sz es).run H = some x := by
  simp only [Eff.run] at h
  split at h
  · exact ⟨_, _, _, by assumption, h⟩
  · cases h
theorem run_bind' {α β : Type} {e : Eff α} {f : α → Eff β} {y : β} (h : (e.bind f).run H = some y) : ∃ x, e.run H = some x ∧ (f x).run H = some y := by
  induction e with
  | pure a => exact ⟨a, rfl, h⟩
  | fail => simp [Eff.bind, Eff.run] at h
  | get id k ih =>
    obtain ⟨sz, es, lv, h1, h2⟩ := run_get (by exact h)
    obtain ⟨x, h3, h4⟩ := ih sz es h2
    exact ⟨x, by simp [Eff.run, h1, h3], h4⟩
  | live id k ih =>
    obtain ⟨⟨sz, es, h1⟩, h2⟩ := run_live (by exact h)
    obtain ⟨x, h3, h4⟩ := ih h2
    exact ⟨x, by simp [Eff.run, h1, h3], h4⟩
  | new id k ih =>
    obtain ⟨h0, h1, h2⟩ := run_new (by exact h)
    obtain ⟨x, h3, h4⟩ := ih h2
    exact ⟨x, by simp [Eff.run, h0, h1, h3], h4⟩

theorem run_loadAt_one {t : TypeId} {d : TypeDesc} (hu : P.underlying t = some d) (hd : isRowD d = false) {b o : Nat} {u : Value} (hc : w.cell? ⟨b, o, none⟩ = some u) :
    (Instr.loadAt t (.pointer (some ⟨b, o, none⟩))).run P w = .ok u w := by
  have hagg : (isAgg t).run P w = .ok false w := by
    unfold isAgg
    rw [Sem.run_bind, run_underlying hu w]
    cases d <;> simp_all [isRowD]
  simp [Instr.loadAt, Instr.sureAddr, loadVar, Sem.run_bind, hagg, run_load, hc]

/-- A load of so many cells that lie there. -/
theorem load_ok {t : TypeId} {ag : Bool} {n : Nat} (hs : Shape P t ag n) {b o : Nat} {cs : List Value} {ds : List D} {rep : Value → D → Prop} (hc : CR rep cs ds) (hr : w.rangeAt b o cs) (hn : ds.length = n) {d : D}
    (hd : shaped ag ds = some d) (hagg : ∀ vs : List Value, CR rep vs ds → rep (.agg vs.toArray) (.agg ds)) :
    ∃ v, (Instr.loadAt t (.pointer (some ⟨b, o, none⟩))).run P w = .ok v w ∧ rep v d := by
  obtain ⟨td, i, h1, h2, h3, h4⟩ := hs
  cases ag with
  | true =>
    simp only [shaped, if_true, Option.some.injEq] at hd
    subst hd
    refine ⟨_, run_loadAt_mid w b o t cs td hr h1 (by cases td <;> first | rfl | (simp [isRowD] at h2)) (by simp [h3, h4, hc.1, hn]), hagg _ hc⟩
  | false =>
    simp only [shaped, Bool.false_eq_true, if_false] at hd
    match ds, hd, hc with
    | [c], hd, hc =>
      injection hd with hd
      subst hd
      obtain ⟨u, a1, a2, a3⟩ := hc.2 0 c rfl
      exact ⟨u, run_loadAt_one h1 h2 (by simpa using hr 0 u a1), a3⟩

theorem rep_agg_of {G : Gh} {ok : Nat → Prop} {ds : List D} (vs : List Value) (h : CR (Rep fm G ok w) vs ds) : Rep fm G ok w (.agg vs.toArray) (.agg ds) :=
  .agg ds vs h.1 h.one (fun j d v h1 h2 => h.get h2 h1)
theorem repC_agg_of {ok : Nat → Prop} {ds : List D} (vs : List Value) (h : CR (RepC fm ok w) vs ds) : RepC fm ok w (.agg vs.toArray) (.agg ds) :=
  .agg ds vs h.1 h.one (fun j d v h1 h2 => h.get h2 h1)

theorem fptr_range {ok : Nat → Prop} {cs : List D} {v : Value} (h : RepC fm ok w v (.fptr cs)) : ∃ b o vs, v = .pointer (some ⟨b, o, none⟩) ∧ ok b ∧ CR (RepC fm ok w) vs cs ∧ w.rangeAt b o vs := by
  cases h with
  | fptr _ b o u hok hcell hone hrep =>
    refine ⟨b, o, (List.range cs.length).map u, rfl, hok, ⟨by simp, fun j d hj => ?_⟩, fun j v hv => ?_⟩
    · have hl : j < cs.length := (List.getElem?_eq_some_iff.1 hj).1
      exact ⟨u j, by simp [hl], hone j d hj, hrep j d hj⟩
    · have hl : j < cs.length := by
        have := (List.getElem?_eq_some_iff.1 hv).1
        simpa using this
      simp [hl] at hv
      subst hv
      exact hcell j _ (List.getElem?_eq_getElem hl)
theorem fptr_mk {ok : Nat → Prop} {cs : List D} {b o : Nat} {vs : List Value} (hok : ok b) (hc : CR (RepC fm ok w) vs cs) (hr : w.rangeAt b o vs) : RepC fm ok w (.pointer (some ⟨b, o, none⟩)) (.fptr cs) := by
  refine .fptr cs b o (fun j => vs.getD j undef) hok (fun j d hj => ?_) (fun j d hj => ?_) (fun j d hj => ?_) <;>
    (obtain ⟨u, a1, a2, a3⟩ := hc.2 j d hj
     simp only [List.getD_eq_getElem?_getD, a1, Option.getD_some])
  · exact hr j u a1
  · exact a2
  · exact a3

theorem op_load (hI : Inv fm B w G H) (hts : TsR (Rep fm G (okB B G H w) w) a.tmps ts) {t : TypeId} {x : Operand} {px : PX} {ag : Bool} {n : Nat} (ho : o.op = .load t x)
    (hs : Shape P t ag n) (hx : TrX fm x px) {call : CallF} {r : Nat} {out : Out} (hrun : (opE call (PX.ev ts) r (.load ag n px)).run H = some out) : OpOk P o a w (Post fm B w G H out) := by
  have hv := ev_rep hts hx
  simp only [opE] at hrun
  cases hp : px.ev ts <;> rw [hp] at hrun hv <;> try (simp [Eff.run] at hrun; done)
  case ptr id off =>
    obtain ⟨sz, es, lv, h1, h2⟩ := run_get hrun
    obtain ⟨b, cap, h3, h4, h5⟩ := hI.rows id sz es lv h1
    obtain hvv := hv.inv_ptr h3
    cases he : es[off / sz]? with
    | none => rw [he] at h2; simp [Eff.run] at h2
    | some e =>
      rw [he] at h2
      simp only at h2
      split at h2
      · rename_i hle
        obtain ⟨d, hd, rfl⟩ := run_quietO h2
        obtain ⟨cs, hc, hr⟩ := h5.range he
        have hr' := rangeAt_sub hr (off % sz) n
        rw [Nat.div_add_mod' off sz] at hr'
        obtain ⟨v, hl, hrep⟩ := load_ok (P := P) hs ((hc.drop (off % sz)).take n) hr' (by simp; omega) hd (fun vs h => rep_agg_of vs h)
        refine opOk_val (v := v) (w' := w) ?_ (post_quiet hI hrep)
        simp only [execOp, ho, hvv, Sem.run_bind, hl, Result.andThen_ok, Sem.run_pure]
      · simp [Eff.run] at h2
  case fptr cs =>
    dsimp only at hrun
    split at hrun
    · rename_i hle
      obtain ⟨d, hd, rfl⟩ := run_quietO hrun
      obtain ⟨b, off, vs, hvv, hok, hc, hr⟩ := fptr_range hv.inv_fptr
      obtain ⟨v, hl, hrep⟩ := load_ok (P := P) (rep := RepC fm (okB B G H w) w) (o := off) hs (hc.take n) (by simpa using rangeAt_sub hr 0 n) (by simp; omega) hd (fun vs h => repC_agg_of vs h)
      refine opOk_val (v := v) (w' := w) ?_ (post_quiet hI (.closed hrep))
      simp only [execOp, ho, hvv, Sem.run_bind, hl, Result.andThen_ok, Sem.run_pure]
    · simp [Eff.run] at hrun

theorem op_store (hI : Inv fm B w G H) (hts : TsR (Rep fm G (okB B G H w) w) a.tmps ts) {t : TypeId} {x y : Operand} {px py : PX} {n : Nat} (ho : o.op = .store t x y)
    (hs : (P.info? t).map (·.size) = some n) (hx : TrX fm x px) (hy : TrX fm y py) {call : CallF} {r : Nat} {out : Out} (hrun : (opE call (PX.ev ts) r (.store n px py)).run H = some out) :
    OpOk P o a w (Post fm B w G H out) := by
  have hv := ev_rep hts hx
  have hvy := ev_rep hts hy
  simp only [opE] at hrun
  cases hp : px.ev ts <;> rw [hp] at hrun hv <;> try (simp [Eff.run] at hrun; done)
  case ptr id off =>
    obtain ⟨⟨sz, es, h1⟩, hrun⟩ := run_live hrun
    obtain ⟨sz', es', lv, h1', h2⟩ := run_get hrun
    rw [h1] at h1'
    injection h1' with e1 e2 e3
    subst e1; subst e2; subst e3
    obtain ⟨b, cap, h3, h4, h5⟩ := hI.rows id sz es true h1
    obtain hvv := hv.inv_ptr h3
    cases he : es[off / sz]? with
    | none => rw [he] at h2; simp [Eff.run] at h2
    | some e =>
      rw [he] at h2
      simp only at h2
      split at h2
      · rename_i hle
        obtain ⟨g1, g2, g3⟩ := hle
        simp only [Eff.run, Option.some.injEq] at h2
        subst h2
        have hcs := rep_cells hvy g3
        obtain ⟨w', k1, k2, k3, k4, k5, k6, k7⟩ := h5.write (P := P) he hcs (by omega)
        obtain ⟨ha, hI'⟩ := inv_store hI h1 h3 k2 k3 k4 k5 k6 k7
        refine opOk_skip (w' := w') ?_ ⟨G, ha, hI', .closed (.undef _)⟩
        have := k1 t (by rw [hs, g2]) (a.eval y) rfl
        simp only [execOp, ho, hvv, Instr.storeAt, Instr.sureAddr, Sem.run_bind, Sem.run_pure, Result.andThen_ok, this]
      · simp [Eff.run] at h2
end
end Go.Pi
