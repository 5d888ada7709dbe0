import Derived.Test.YtghncdeldlknnaaPiQ
/-
  THE TRANSLATION, by a function: what it gives is told as TrF asks.
-/
set_option linter.all false
namespace Go.Pi
set_option linter.unusedVariables false

def valD : Value → Option D
  | .bool b => some (.bool b)
  | .int k n => some (.int k n)
  | .float .f64 b => some (.flt b)
  | .string s => some (.str s.data.toList)
  | .slice none 0 0 => some .nil
  | .pointer none => some .nilp
  | _ => none
def valDs : List Value → Option (List D)
  | [] => some []
  | v :: vs => (valD v).bind fun d => (valDs vs).bind fun ds => some (d :: ds)
def valA : Value → Option D
  | .agg cs => (valDs cs.toList).map .agg
  | v => valD v

structure Cfg where
  fi : Nat → Option Nat
  fm : Nat → Nat
  heapy : Nat → Bool
  modes : Nat → List Nat
  ext : Nat → Option Bool

def trX (c : Cfg) : Operand → Option PX
  | .tmp t => some (.t t)
  | .const v => (valA v).map .c
  | .func f => (c.fi f).bind fun p => if c.fm p = f then some (.c (.fn p)) else none
  | .global _ => none
def trXs (c : Cfg) : List Operand → Option (List PX)
  | [] => some []
  | x :: xs => (trX c x).bind fun p => (trXs c xs).bind fun ps => some (p :: ps)
def trA (c : Cfg) : List Operand → List Nat → Option (List (Nat × PX))
  | [], _ => some []
  | x :: xs, ms => (trX c x).bind fun p => (trA c xs ms.tail).bind fun ps => some ((ms.headD 0, p) :: ps)
def trS (c : Cfg) : List (Nat × Operand) → Option (List (Nat × PX))
  | [] => some []
  | (i, x) :: xs => (trX c x).bind fun p => (trS c xs).bind fun ps => some ((i, p) :: ps)
def trO (c : Cfg) : Option Operand → Option (Option PX)
  | none => some none
  | some x => (trX c x).map some
def trP (c : Cfg) (pl : Nat → Option (Nat × Nat)) : List (Nat × Operand) → Option (List (Nat × Nat × PX))
  | [] => some []
  | (i, x) :: xs => (pl i).bind fun q => (trX c x).bind fun p => (trP c pl xs).bind fun ps => some ((q.1, q.2, p) :: ps)

/-- Does the type have many cells, and how many? -/
def shapeOf (P : Program) (t : TypeId) : Option (Bool × Nat) :=
  match P.underlying t, P.info? t with
  | some d, some i => some (isRowD d, i.size)
  | _, _ => none
def zeroOf (P : Program) (t : TypeId) : Option (List D) :=
  match P.info? t with
  | some i => match i.zero with
    | some z => valDs z.cells.toList
    | none => none
  | none => none

def trBuild (P : Program) (c : Cfg) (t : TypeId) (parts : List (Nat × Operand)) : Option POp :=
  match P.info? t, P.underlying t with
  | some it, some (.array _ e) =>
    match it.zero, P.info? e with
    | some z, some ie => (valDs z.cells.toList).bind fun zs => (trP c (fun i => some (i * ie.size, ie.size)) parts).bind fun ps => some (.build zs ps)
    | _, _ => none
  | some it, some (.struct fields) =>
    match it.zero, fields.toList.mapM (fun f => (P.info? f.type).map fun i => (f.offset, i.size)) with
    | some z, some places => (valDs z.cells.toList).bind fun zs => (trP c (places.toArray[·]?) parts).bind fun ps => some (.build zs ps)
    | _, _ => none
  | _, _ => none

def isNilC : Operand → Bool
  | .const (.slice none 0 0) | .const (.pointer none) => true
  | _ => false

def trEq (P : Program) (c : Cfg) (op : BinOp) (neg : Bool) (t : TypeId) (x y : Operand) : Option POp :=
  match P.underlying t with
  | some .bool => (trX c x).bind fun px => (trX c y).bind fun py => some (POp.eqB neg px py)
  | some (.slice _) => match y with
    | .const (.slice none 0 0) => (trX c x).bind fun px => some (.eqNS neg px)
    | _ => none
  | some (.pointer _) => match y with
    | .const (.pointer none) => (trX c x).bind fun px => some (.eqNP neg px)
    | _ => none
  | some (.int _) => (trX c x).bind fun px => (trX c y).bind fun py => some (.bin op px py)
  | some .string => (trX c x).bind fun px => (trX c y).bind fun py => some (.bin op px py)
  | some (.float _) => (trX c x).bind fun px => (trX c y).bind fun py => some (.bin op px py)
  | some td => if isRowD td = true ∧ P.eqGuardType P.depth t = false then (lay P 50 t).bind fun ks => (trX c x).bind fun px => (trX c y).bind fun py => some (.eqA neg ks px py) else none
  | _ => none
def trBin (P : Program) (c : Cfg) (op : BinOp) (t : TypeId) (x y : Operand) : Option POp :=
  match op with
  | .eql => trEq P c op false t x y
  | .neq => trEq P c op true t x y
  | _ => (trX c x).bind fun px => (trX c y).bind fun py => some (.bin op px py)

def srcOk (P : Program) (u : TypeId) : Bool := match P.underlying u with | some (.slice _) => true | some .string => true | _ => false
def fnOkB (P : Program) (f : Nat) : Bool := match P.funcs[f]? with | some fn => !(fn.name == "runtime.NumGoroutine") && !fn.body.isNone | none => false

def trCall (P : Program) (c : Cfg) (o : Call) : Option POp :=
  match o.callee, o.args.toList, o.argTypes.toList with
  | .builtin .len, [x], [t] =>
    match P.underlying t with
    | some .string => (trX c x).map .lenS
    | some (.slice _) => (trX c x).map .len
    | _ => none
  | .builtin .append, [x, y], [t, u] =>
    match P.underlying t with
    | some (.slice e) => match P.info? e with
      | some i => match i.zero with
        | some z => if 0 < i.size ∧ z.cells.size = i.size ∧ srcOk P u = true then
            (trX c x).bind fun px => (trX c y).bind fun py => some (.append i.size i.bytes px py)
          else none
        | none => none
      | none => none
    | _ => none
  | .builtin .max, x :: xs, _ => (trX c x).bind fun px => (trXs c xs).map (.minmax true px)
  | .builtin .min, x :: xs, _ => (trX c x).bind fun px => (trXs c xs).map (.minmax false px)
  | .value (.func f), xs, _ => match c.ext f, xs with
    | some true, [x] => (trX c x).map .bits
    | some false, [x] => (trX c x).map .ofBits
    | _, _ => (c.fi f).bind fun p => if c.fm p = f ∧ fnOkB P f = true then
      (if c.heapy p then (trXs c xs).map (.callH p) else (trA c xs (c.modes p)).map (.call p)) else none
  | _, _, _ => none

def trOp (P : Program) (c : Cfg) : Op → Option POp
  | .move x | .assign x => (trX c x).map .mv
  | .pick a x y => (trX c a).bind fun pa => (trX c x).bind fun px => (trX c y).bind fun py => some (.pick pa px py)
  | .alloc e => (zeroOf P e).map .alloc
  | .box e x => (trX c x).bind fun px => (P.info? e).map fun i => .box i.size px
  | .build t parts => trBuild P c t parts.toList
  | .buildSlice t n parts => match P.underlying t with
    | some (.slice e) => match P.info? e with
      | some i => (zeroOf P e).bind fun zs => if 0 < i.size ∧ zs.length = i.size ∧ n * i.size ≤ 16777216 then (trS c parts.toList).map (.buildSlice i.size n zs) else none
      | none => none
    | _ => none
  | .load t x => (shapeOf P t).bind fun s => (trX c x).map (.load s.1 s.2)
  | .store t x y => (P.info? t).bind fun i => (trX c x).bind fun px => (trX c y).map (.store i.size px)
  | .nilCheck x => (trX c x).map .nilCheck
  | .binOp op t x y _ => trBin P c op t x y
  | .unOp op _ x => (trX c x).map (.un op)
  | .convert s d x => match P.underlying s, P.underlying d with
    | some (.slice e), some .string => match P.underlying e with
      | some (.int .u8) => (trX c x).map (.conv .bytesStr)
      | _ => none
    | some .string, some (.slice e) => match P.underlying e with
      | some (.int .u8) => (trX c x).map (.conv .strBytes)
      | _ => none
    | some (.slice e), some (.slice _) => match P.underlying e with
      | some (.int .u8) => if s = d then (trX c x).map .mark else none
      | _ => none
    | some (.int _), some (.int k) => (trX c x).map (.conv (.toInt k))
    | some (.int _), some (.float .f64) => (trX c x).map (.conv .toFlt)
    | _, _ => none
  | .makeSlice t x y => match P.underlying t with
    | some (.slice e) => match P.info? e with
      | some i => (zeroOf P e).bind fun zs => if 0 < i.size ∧ zs.length = i.size then (trX c x).bind fun px => (trX c y).map (.makeSlice i.size i.bytes zs px) else none
      | none => none
    | _ => none
  | .slice t x lo hi none => match P.underlying t with
    | some (.slice e) => match P.info? e with
      | some i => (trX c x).bind fun px => (trO c lo).bind fun pl => (trO c hi).map (.slice i.size px pl)
      | none => none
    | some .string => (trX c x).bind fun px => (trO c lo).bind fun pl => (trO c hi).map (.sliceS px pl)
    | _ => none
  | .fieldAddr s x f => match P.underlying s with
    | some (.struct fs) => match fs[f]? with
      | some fd => match P.info? fd.type with
        | some i => if 0 < i.size then (trX c x).map (.fieldAddr fd.offset i.size) else none
        | none => none
      | none => none
    | _ => none
  | .field s x f => match P.underlying s with
    | some (.struct fs) => match fs[f]? with
      | some fd => (shapeOf P fd.type).bind fun h => (trX c x).map (.field h.1 fd.offset h.2)
      | none => none
    | _ => none
  | .indexAddr t x i => match P.underlying t with
    | some (.slice e) => (P.info? e).bind fun it => (trX c x).bind fun px => (trX c i).map (.indexAddr it.size px)
    | some (.array n e) => (P.info? e).bind fun it => (trX c x).bind fun px => (trX c i).map (.indexAddrA it.size n px)
    | _ => none
  | .index t x i => match P.underlying t with
    | some (.array n e) => (shapeOf P e).bind fun h => (trX c x).bind fun px => (trX c i).map (.index h.1 h.2 n px)
    | some .string => (trX c x).bind fun px => (trX c i).map (.indexS px)
    | _ => none
  | .extract x i => (trX c x).map fun px => .extract px i
  | .call o => trCall P c o
  | _ => none

def need (P : Program) (t : TypeId) : POp → Nat
  | .alloc _ | .box _ _ | .buildSlice _ _ _ _ | .makeSlice _ _ _ _ _ | .append _ _ _ _ => 1
  | .call _ _ => match P.underlying t with
    | some (.tuple ts) => ts.size
    | some (.slice _) => 1
    | _ => 0
  | _ => 0

def afters (i : Nat) : List Edge → Option (List Nat)
  | [] => some []
  | e :: es => if Region.binds .any e then (if e.on < i then (afters i es).map fun l => e.on :: l else none) else afters i es

def trGuard (ops : Array Oper) : Option (Nat × Bool) → Option (Option (Nat × Bool))
  | none => some none
  | some (j, b) => ((ops[j]?).bind (·.dst)).map fun t => some (t, b)

def trPO (P : Program) (c : Cfg) (draw : Bool) (ops : Array Oper) (i res : Nat) (o : Oper) : Option PO :=
  (trOp P c o.op).bind fun po => (trGuard ops o.guard).bind fun g => (afters i o.after.toList).bind fun l =>
    some ⟨o.dst, po, g, if draw then l else [], res⟩

def trL (P : Program) (c : Cfg) (draw : Bool) (ops : Array Oper) : Nat → Nat → List Oper → Option (List PO × Nat)
  | _, res, [] => some ([], res)
  | i, res, o :: l => (trPO P c draw ops i res o).bind fun p => (trL P c draw ops (i + 1) (res + need P o.type p.op) l).bind fun x => some (p :: x.1, x.2)

def pairOkD (p q : PO) (j : Nat) : Bool :=
  q.after.contains j ||
  ((match p.dst with | some t => !q.uses.contains t && !(q.dst == some t) | none => true) && (match q.dst with | some t => !p.uses.contains t | none => true))
def drawRow (q : PO) : List PO → Nat → Bool
  | [], _ => true
  | p :: ps, j => pairOkD p q j && drawRow q ps (j + 1)
def drawAll : List PO → List PO → Bool
  | _, [] => true
  | pre, q :: qs => drawRow q pre 0 && drawAll (pre ++ [q]) qs

def trC (P : Program) (c : Cfg) : Code → Option PC
  | .skip => some .skip
  | .label _ => some .skip
  | .region _ ops draw => (trL P c draw ops 0 0 ops.toList).bind fun x => if draw then (if drawAll [] x.1 then some (.region true x.2 x.1) else none) else some (.region false x.2 x.1)
  | .seq x y => (trC P c x).bind fun px => (trC P c y).bind fun py => some (.seq px py)
  | .cond a x y => (trX c a).bind fun pa => (trC P c x).bind fun px => (trC P c y).bind fun py => some (.cond pa px py)
  | .block id x => (trC P c x).bind fun px => some (.block id px)
  | .loop x => (trC P c x).bind fun px => some (.loop px)
  | .exit id => some (.exit id)
  | .ret => some .ret
  | _ => none

def trRs (P : Program) : List ResultVar → Option (List PR)
  | [] => some []
  | .tmp t :: rs => (trRs P rs).bind fun ps => some (.tmp t :: ps)
  | .cell a t :: rs => (shapeOf P t).bind fun h => (trRs P rs).bind fun ps => some (.cell h.1 h.2 a :: ps)

def trF (P : Program) (c : Cfg) (fn : Func) : Option PF :=
  match fn.body with
  | some b => (trC P c b).bind fun pb => (trRs P fn.results.toList).bind fun rs => some ⟨fn.ntmps, rs, pb⟩
  | none => none

/-! ### it is told so -/
section
variable {P : Program} {c : Cfg}

theorem valD_ok {v : Value} {d : D} (h : valD v = some d) : ClosedV c.fm v d ∧ v.oneCell' = true := by
  unfold valD at h
  split at h <;> first | (injection h with h; subst h) | (cases h)
  · exact ⟨fun _ _ => .bool _, rfl⟩
  · exact ⟨fun _ _ => .int _ _, rfl⟩
  · exact ⟨fun _ _ => .flt _, rfl⟩
  · rename_i s
    refine ⟨fun _ _ => ?_, rfl⟩
    have : s = ⟨s.data.toList.toArray⟩ := by cases s; simp
    rw [this]
    exact .str _
  · exact ⟨fun _ _ => .nil, rfl⟩
  · exact ⟨fun _ _ => .nilp, rfl⟩
theorem valDs_ok : ∀ {vs : List Value} {ds : List D}, valDs vs = some ds → CR (ClosedV c.fm) vs ds
  | [], ds, h => by
    simp only [valDs, Option.some.injEq] at h
    subst h
    exact ⟨rfl, by simp⟩
  | v :: vs, ds, h => by
    simp only [valDs, Option.bind_eq_some_iff, Option.some.injEq] at h
    obtain ⟨d, h1, ds', h2, rfl⟩ := h
    obtain ⟨k1, k2⟩ := valDs_ok h2
    obtain ⟨g1, g2⟩ := valD_ok (c := c) h1
    refine ⟨by simp [k1], fun j e hj => ?_⟩
    cases j with
    | zero => simp at hj; subst hj; exact ⟨v, rfl, g2, g1⟩
    | succ j =>
      obtain ⟨u, a1, a2, a3⟩ := k2 j e (by simpa using hj)
      exact ⟨u, by simpa using a1, a2, a3⟩
theorem valA_ok {v : Value} {d : D} (h : valA v = some d) : ClosedV c.fm v d := by
  unfold valA at h
  split at h
  · rename_i cs
    simp only [Option.map_eq_some_iff] at h
    obtain ⟨ds, h1, rfl⟩ := h
    have := valDs_ok (c := c) h1
    intro ok w
    have h2 := repC_agg_of (fm := c.fm) (ok := ok) (w := w) cs.toList (this.mono (fun v d h => h ok w))
    simpa using h2
  · exact (valD_ok h).1
theorem trX_ok {x : Operand} {p : PX} (h : trX c x = some p) : TrX c.fm x p := by
  unfold trX at h
  split at h
  · injection h with h; subst h; exact .tmp _
  · simp only [Option.map_eq_some_iff] at h
    obtain ⟨d, h1, rfl⟩ := h
    exact .const _ _ (valA_ok h1)
  · simp only [Option.bind_eq_some_iff] at h
    obtain ⟨p', h1, h2⟩ := h
    split at h2
    · rename_i e
      injection h2 with h2; subst h2
      exact .func _ _ e
    · cases h2
  · cases h
theorem trXs_ok : ∀ {xs : List Operand} {ps : List PX}, trXs c xs = some ps → TrXs c.fm xs ps
  | [], ps, h => by simp only [trXs, Option.some.injEq] at h; subst h; exact .nil
  | x :: xs, ps, h => by
    simp only [trXs, Option.bind_eq_some_iff, Option.some.injEq] at h
    obtain ⟨p, h1, ps', h2, rfl⟩ := h
    exact .cons (trX_ok h1) (trXs_ok h2)
theorem trA_ok : ∀ {xs : List Operand} {ms : List Nat} {ps : List (Nat × PX)}, trA c xs ms = some ps → TrA c.fm xs ps
  | [], ms, ps, h => by simp only [trA, Option.some.injEq] at h; subst h; exact .nil
  | x :: xs, ms, ps, h => by
    simp only [trA, Option.bind_eq_some_iff, Option.some.injEq] at h
    obtain ⟨p, h1, ps', h2, rfl⟩ := h
    exact .cons (trX_ok h1) (trA_ok h2)
theorem trS_ok : ∀ {xs : List (Nat × Operand)} {ps : List (Nat × PX)}, trS c xs = some ps → TrS c.fm xs ps
  | [], ps, h => by simp only [trS, Option.some.injEq] at h; subst h; exact .nil
  | (i, x) :: xs, ps, h => by
    simp only [trS, Option.bind_eq_some_iff, Option.some.injEq] at h
    obtain ⟨p, h1, ps', h2, rfl⟩ := h
    exact .cons (trX_ok h1) (trS_ok h2)
theorem trO_ok {x : Option Operand} {p : Option PX} (h : trO c x = some p) : TrO c.fm x p := by
  cases x with
  | none => simp only [trO, Option.some.injEq] at h; subst h; exact .none
  | some x =>
    simp only [trO, Option.map_eq_some_iff] at h
    obtain ⟨q, h1, rfl⟩ := h
    exact .some (trX_ok h1)
theorem trP_ok {pl : Nat → Option (Nat × Nat)} : ∀ {xs : List (Nat × Operand)} {ps : List (Nat × Nat × PX)}, trP c pl xs = some ps → TrP c.fm pl xs ps
  | [], ps, h => by simp only [trP, Option.some.injEq] at h; subst h; exact .nil
  | (i, x) :: xs, ps, h => by
    simp only [trP, Option.bind_eq_some_iff, Option.some.injEq] at h
    obtain ⟨q, h0, p, h1, ps', h2, rfl⟩ := h
    exact .cons h0 (trX_ok h1) (trP_ok h2)
theorem shapeOf_ok {t : TypeId} {s : Bool × Nat} (h : shapeOf P t = some s) : Shape P t s.1 s.2 := by
  unfold shapeOf at h
  split at h
  · rename_i d i h1 h2
    injection h with h; subst h
    exact ⟨d, i, h1, rfl, h2, rfl⟩
  · cases h
theorem zeroOf_ok {t : TypeId} {zs : List D} (h : zeroOf P t = some zs) : ∃ i z, P.info? t = some i ∧ i.zero = some z ∧ CR (ClosedV c.fm) z.cells.toList zs := by
  unfold zeroOf at h
  split at h
  · rename_i i h1
    split at h
    · rename_i z h2
      exact ⟨i, z, h1, h2, valDs_ok h⟩
    · cases h
  · cases h

theorem trBuild_ok {t : TypeId} {parts : Array (Nat × Operand)} {po : POp} (h : trBuild P c t parts.toList = some po) : TrOp P c.fm (.build t parts) po := by
  unfold trBuild at h
  split at h
  · rename_i it n e h1 h2
    split at h
    · rename_i z ie h3 h4
      simp only [Option.bind_eq_some_iff, Option.some.injEq] at h
      obtain ⟨zs, h5, ps, h6, rfl⟩ := h
      exact .build (fun l => by simp only [Program.built, h1, h2, h3, h4]) (valDs_ok h5) (trP_ok h6)
    · cases h
  · rename_i it fields h1 h2
    split at h
    · rename_i z places h3 h4
      simp only [Option.bind_eq_some_iff, Option.some.injEq] at h
      obtain ⟨zs, h5, ps, h6, rfl⟩ := h
      exact .build (fun l => by simp only [Program.built, h1, h2, h3, h4]) (valDs_ok h5) (trP_ok h6)
    · cases h
  · cases h

theorem trEq_ok {op : BinOp} {neg : Bool} {t u : TypeId} {x y : Operand} {po : POp} (hop : op = (if neg then .neq else .eql)) (h : trEq P c op neg t x y = some po) :
    TrOp P c.fm (.binOp op t x y u) po := by
  unfold trEq at h
  split at h
  · rename_i ht
    simp only [Option.bind_eq_some_iff, Option.some.injEq] at h
    obtain ⟨px, h1, py, h2, rfl⟩ := h
    rw [hop]
    exact .eqB ht (trX_ok h1) (trX_ok h2)
  · rename_i e ht
    split at h
    · simp only [Option.bind_eq_some_iff, Option.some.injEq] at h
      obtain ⟨px, h1, rfl⟩ := h
      rw [hop]
      exact .eqNs ht (trX_ok h1)
    · cases h
  · rename_i e ht
    split at h
    · simp only [Option.bind_eq_some_iff, Option.some.injEq] at h
      obtain ⟨px, h1, rfl⟩ := h
      rw [hop]
      exact .eqNp ht (trX_ok h1)
    · cases h
  · simp only [Option.bind_eq_some_iff, Option.some.injEq] at h
    obtain ⟨px, h1, py, h2, rfl⟩ := h
    exact .bin (trX_ok h1) (trX_ok h2)
  · simp only [Option.bind_eq_some_iff, Option.some.injEq] at h
    obtain ⟨px, h1, py, h2, rfl⟩ := h
    exact .bin (trX_ok h1) (trX_ok h2)
  · simp only [Option.bind_eq_some_iff, Option.some.injEq] at h
    obtain ⟨px, h1, py, h2, rfl⟩ := h
    exact .bin (trX_ok h1) (trX_ok h2)
  · rename_i td _ _ _ _ _ _ ht
    split at h
    · rename_i hc
      simp only [Option.bind_eq_some_iff, Option.some.injEq] at h
      obtain ⟨ks, h0, px, h1, py, h2, rfl⟩ := h
      rw [hop]
      exact .eqA ht hc.1 hc.2 h0 (by decide) (trX_ok h1) (trX_ok h2)
    · cases h
  · cases h
theorem trBin_ok {op : BinOp} {t u : TypeId} {x y : Operand} {po : POp} (h : trBin P c op t x y = some po) : TrOp P c.fm (.binOp op t x y u) po := by
  unfold trBin at h
  split at h
  · exact trEq_ok (neg := false) rfl h
  · exact trEq_ok (neg := true) rfl h
  · simp only [Option.bind_eq_some_iff, Option.some.injEq] at h
    obtain ⟨px, h1, py, h2, rfl⟩ := h
    exact .bin (trX_ok h1) (trX_ok h2)

theorem srcOk_ok {u : TypeId} (h : srcOk P u = true) : (∃ e, P.underlying u = some (.slice e)) ∨ P.underlying u = some .string := by
  unfold srcOk at h
  split at h
  · exact .inl ⟨_, by assumption⟩
  · exact .inr (by assumption)
  · cases h
theorem fnOkB_ok {f : Nat} (h : fnOkB P f = true) : FnOk P f := by
  unfold fnOkB at h
  split at h
  · rename_i fn hfn
    simp only [Bool.and_eq_true, Bool.not_eq_true'] at h
    exact ⟨fn, hfn, h.1, h.2⟩
  · cases h

theorem trCall_ok (hext : ∀ f b, c.ext f = some b → ExtOk P f b) {o : Call} {po : POp} (h : trCall P c o = some po) : TrAct P c.fm (.call o) po := by
  obtain ⟨callee, args, argTypes⟩ := o
  unfold trCall at h
  split at h
  · rename_i x t e1 e2 e3
    simp only at e1 e2 e3
    subst e1
    have ha : args = #[x] := by cases args; simp at e2; simp [e2]
    have hat : argTypes = #[t] := by cases argTypes; simp at e3; simp [e3]
    subst ha; subst hat
    split at h
    · rename_i ht
      simp only [Option.map_eq_some_iff] at h
      obtain ⟨px, h1, rfl⟩ := h
      exact .op (.lenS ht (trX_ok h1))
    · rename_i e ht
      simp only [Option.map_eq_some_iff] at h
      obtain ⟨px, h1, rfl⟩ := h
      exact .op (.lenR ht (trX_ok h1))
    · cases h
  · rename_i x y t u e1 e2 e3
    simp only at e1 e2 e3
    subst e1
    have ha : args = #[x, y] := by cases args; simp at e2; simp [e2]
    have hat : argTypes = #[t, u] := by cases argTypes; simp at e3; simp [e3]
    subst ha; subst hat
    split at h
    · rename_i e ht
      split at h
      · rename_i i hi
        split at h
        · rename_i z hz
          split at h
          · rename_i hc
            obtain ⟨c1, c2, c3⟩ := hc
            simp only [Option.bind_eq_some_iff, Option.some.injEq] at h
            obtain ⟨px, h1, py, h2, rfl⟩ := h
            exact .op (.append ht (srcOk_ok c3) hi hz rfl c2 rfl c1 (trX_ok h1) (trX_ok h2))
          · cases h
        · cases h
      · cases h
    · cases h
  · rename_i x xs e1 e2
    simp only at e1 e2
    subst e1
    have ha : args = (x :: xs).toArray := by cases args; simp at e2; simp [e2]
    subst ha
    simp only [Option.bind_eq_some_iff, Option.map_eq_some_iff] at h
    obtain ⟨px, h1, ps, h2, rfl⟩ := h
    exact .op (.minmax (mx := true) (trX_ok h1) (trXs_ok h2))
  · rename_i x xs e1 e2
    simp only at e1 e2
    subst e1
    have ha : args = (x :: xs).toArray := by cases args; simp at e2; simp [e2]
    subst ha
    simp only [Option.bind_eq_some_iff, Option.map_eq_some_iff] at h
    obtain ⟨px, h1, ps, h2, rfl⟩ := h
    exact .op (.minmax (mx := false) (trX_ok h1) (trXs_ok h2))
  · rename_i f e1
    simp only at e1
    subst e1
    split at h
    · rename_i x hx1 hx2
      have ha : args = #[x] := by cases args; simp at hx2; simp [hx2]
      subst ha
      simp only [Option.map_eq_some_iff] at h
      obtain ⟨px, h1, rfl⟩ := h
      exact .op (.bits (hext _ _ hx1) (trX_ok h1))
    · rename_i x hx1 hx2
      have ha : args = #[x] := by cases args; simp at hx2; simp [hx2]
      subst ha
      simp only [Option.map_eq_some_iff] at h
      obtain ⟨px, h1, rfl⟩ := h
      exact .op (.ofBits (hext _ _ hx1) (trX_ok h1))
    · simp only [Option.bind_eq_some_iff] at h
      obtain ⟨p, h1, h2⟩ := h
      split at h2
      · rename_i hc
        obtain ⟨c1, c2⟩ := hc
        subst c1
        have hf : FnOk P (c.fm p) := fnOkB_ok c2
        have ha : args = args.toList.toArray := by simp
        rw [ha]
        split at h2
        · simp only [Option.map_eq_some_iff] at h2
          obtain ⟨qs, h3, rfl⟩ := h2
          exact .callH (trXs_ok h3) hf
        · simp only [Option.map_eq_some_iff] at h2
          obtain ⟨qs, h3, rfl⟩ := h2
          exact .call (trA_ok h3) hf
      · cases h2
  · cases h

theorem trOp_ok (hext : ∀ f b, c.ext f = some b → ExtOk P f b) {op : Op} {po : POp} (h : trOp P c op = some po) : TrAct P c.fm op po := by
  unfold trOp at h
  split at h
  · simp only [Option.map_eq_some_iff] at h
    obtain ⟨px, h1, rfl⟩ := h
    exact .op (.move (trX_ok h1))
  · simp only [Option.map_eq_some_iff] at h
    obtain ⟨px, h1, rfl⟩ := h
    exact .op (.assign (trX_ok h1))
  · simp only [Option.bind_eq_some_iff, Option.some.injEq] at h
    obtain ⟨pa, h1, px, h2, py, h3, rfl⟩ := h
    exact .op (.pick (trX_ok h1) (trX_ok h2) (trX_ok h3))
  · simp only [Option.map_eq_some_iff] at h
    obtain ⟨zs, h1, rfl⟩ := h
    obtain ⟨i, z, k1, k2, k3⟩ := zeroOf_ok (c := c) h1
    exact .op (.alloc k1 k2 k3)
  · simp only [Option.bind_eq_some_iff, Option.map_eq_some_iff] at h
    obtain ⟨px, h1, i, h2, rfl⟩ := h
    exact .op (.box (trX_ok h1))
  · exact .op (trBuild_ok h)
  · split at h
    · rename_i e ht
      split at h
      · rename_i i hi
        simp only [Option.bind_eq_some_iff] at h
        obtain ⟨zs, h1, h2⟩ := h
        split at h2
        · rename_i hc
          obtain ⟨c1, c2, c3⟩ := hc
          simp only [Option.map_eq_some_iff] at h2
          obtain ⟨qs, h3, rfl⟩ := h2
          obtain ⟨i', z, k1, k2, k3⟩ := zeroOf_ok (c := c) h1
          rw [hi] at k1
          injection k1 with k1
          subst k1
          exact .op (.buildSlice ht hi k2 rfl c1 k3 c2 c3 (trS_ok h3))
        · cases h2
      · cases h
    · cases h
  · simp only [Option.bind_eq_some_iff, Option.map_eq_some_iff] at h
    obtain ⟨s, h1, px, h2, rfl⟩ := h
    exact .op (.load (shapeOf_ok h1) (trX_ok h2))
  · simp only [Option.bind_eq_some_iff, Option.map_eq_some_iff] at h
    obtain ⟨i, h1, px, h2, py, h3, rfl⟩ := h
    exact .op (.store (by rw [h1]; rfl) (trX_ok h2) (trX_ok h3))
  · simp only [Option.map_eq_some_iff] at h
    obtain ⟨px, h1, rfl⟩ := h
    exact .op (.nilCheck (trX_ok h1))
  · exact .op (trBin_ok h)
  · simp only [Option.map_eq_some_iff] at h
    obtain ⟨px, h1, rfl⟩ := h
    exact .op (.un (trX_ok h1))
  · split at h
    · rename_i e hs hd
      split at h
      · rename_i he
        simp only [Option.map_eq_some_iff] at h
        obtain ⟨px, h1, rfl⟩ := h
        exact .op (.convBS hs he hd (trX_ok h1))
      · cases h
    · rename_i e hs hd
      split at h
      · rename_i he
        simp only [Option.map_eq_some_iff] at h
        obtain ⟨px, h1, rfl⟩ := h
        exact .op (.convSB hs hd he (trX_ok h1))
      · cases h
    · rename_i e e' hs hd
      split at h
      · rename_i he
        split at h
        · rename_i hsd
          subst hsd
          simp only [Option.map_eq_some_iff] at h
          obtain ⟨px, h1, rfl⟩ := h
          exact .op (.mark hs he (trX_ok h1))
        · cases h
      · cases h
    · rename_i k1 k2 hs hd
      simp only [Option.map_eq_some_iff] at h
      obtain ⟨px, h1, rfl⟩ := h
      exact .op (.convInt (by rw [hs]; rfl) hd (trX_ok h1))
    · rename_i k1 hs hd
      simp only [Option.map_eq_some_iff] at h
      obtain ⟨px, h1, rfl⟩ := h
      exact .op (.toFlt (by rw [hs]; rfl) hd (trX_ok h1))
    · cases h
  · split at h
    · rename_i e ht
      split at h
      · rename_i i hi
        simp only [Option.bind_eq_some_iff] at h
        obtain ⟨zs, h1, h2⟩ := h
        split at h2
        · rename_i hc
          obtain ⟨c1, c2⟩ := hc
          simp only [Option.bind_eq_some_iff, Option.map_eq_some_iff] at h2
          obtain ⟨px, h3, py, h4, rfl⟩ := h2
          obtain ⟨i', z, k1, k2, k3⟩ := zeroOf_ok (c := c) h1
          rw [hi] at k1
          injection k1 with k1
          subst k1
          exact .op (.makeSlice ht hi k2 rfl rfl c1 k3 c2 (trX_ok h3) (trX_ok h4))
        · cases h2
      · cases h
    · cases h
  · split at h
    · rename_i e ht
      split at h
      · rename_i i hi
        simp only [Option.bind_eq_some_iff, Option.map_eq_some_iff] at h
        obtain ⟨px, h1, pl, h2, ph, h3, rfl⟩ := h
        exact .op (.slice ht hi rfl (trX_ok h1) (trO_ok h2) (trO_ok h3))
      · cases h
    · rename_i ht
      simp only [Option.bind_eq_some_iff, Option.map_eq_some_iff] at h
      obtain ⟨px, h1, pl, h2, ph, h3, rfl⟩ := h
      exact .op (.sliceS ht (trX_ok h1) (trO_ok h2) (trO_ok h3))
    · cases h
  · split at h
    · rename_i fs ht
      split at h
      · rename_i fd hf
        split at h
        · rename_i i hi
          split at h
          · rename_i h0
            simp only [Option.map_eq_some_iff] at h
            obtain ⟨px, h1, rfl⟩ := h
            exact .op (.fieldAddr ht hf rfl (by rw [hi]; rfl) h0 (trX_ok h1))
          · cases h
        · cases h
      · cases h
    · cases h
  · split at h
    · rename_i fs ht
      split at h
      · rename_i fd hf
        simp only [Option.bind_eq_some_iff, Option.map_eq_some_iff] at h
        obtain ⟨s, h1, px, h2, rfl⟩ := h
        exact .op (.field ht hf rfl (shapeOf_ok h1) (trX_ok h2))
      · cases h
    · cases h
  · split at h
    · rename_i e ht
      simp only [Option.bind_eq_some_iff, Option.map_eq_some_iff] at h
      obtain ⟨i, h1, px, h2, pi, h3, rfl⟩ := h
      exact .op (.indexAddr ht (by rw [h1]; rfl) (trX_ok h2) (trX_ok h3))
    · rename_i n e ht
      simp only [Option.bind_eq_some_iff, Option.map_eq_some_iff] at h
      obtain ⟨i, h1, px, h2, pi, h3, rfl⟩ := h
      exact .op (.indexAddrA ht (by rw [h1]; rfl) (trX_ok h2) (trX_ok h3))
    · cases h
  · split at h
    · rename_i n e ht
      simp only [Option.bind_eq_some_iff, Option.map_eq_some_iff] at h
      obtain ⟨s, h1, px, h2, pi, h3, rfl⟩ := h
      exact .op (.index ht (shapeOf_ok h1) (trX_ok h2) (trX_ok h3))
    · rename_i ht
      simp only [Option.bind_eq_some_iff, Option.map_eq_some_iff] at h
      obtain ⟨px, h2, pi, h3, rfl⟩ := h
      exact .op (.indexS ht (trX_ok h2) (trX_ok h3))
    · cases h
  · simp only [Option.map_eq_some_iff] at h
    obtain ⟨px, h1, rfl⟩ := h
    exact .op (.extract (trX_ok h1))
  · exact trCall_ok hext h
  · cases h

theorem afters_ok : ∀ {es : List Edge} {i : Nat} {l : List Nat}, afters i es = some l → (∀ k ∈ l, ∃ e ∈ es, e.on = k ∧ Region.binds .any e = true) ∧ ∀ e ∈ es, Region.binds .any e = true → e.on < i
  | [], i, l, h => by simp only [afters, Option.some.injEq] at h; subst h; simp
  | e :: es, i, l, h => by
    simp only [afters] at h
    split at h
    · rename_i hb
      split at h
      · rename_i hlt
        simp only [Option.map_eq_some_iff] at h
        obtain ⟨l', h1, rfl⟩ := h
        obtain ⟨k1, k2⟩ := afters_ok h1
        refine ⟨fun k hk => ?_, fun e' he' hb' => ?_⟩
        · simp only [List.mem_cons] at hk
          rcases hk with rfl | hk
          · exact ⟨e, by simp, rfl, hb⟩
          · obtain ⟨e', a1, a2, a3⟩ := k1 k hk
            exact ⟨e', by simp [a1], a2, a3⟩
        · simp only [List.mem_cons] at he'
          rcases he' with rfl | he'
          · exact hlt
          · exact k2 e' he' hb'
      · cases h
    · rename_i hb
      obtain ⟨k1, k2⟩ := afters_ok h
      refine ⟨fun k hk => ?_, fun e' he' hb' => ?_⟩
      · obtain ⟨e', a1, a2, a3⟩ := k1 k hk
        exact ⟨e', by simp [a1], a2, a3⟩
      · simp only [List.mem_cons] at he'
        rcases he' with rfl | he'
        · exact absurd hb' hb
        · exact k2 e' he' hb'

theorem trPO_ok (hext : ∀ f b, c.ext f = some b → ExtOk P f b) {draw : Bool} {ops : Array Oper} {i res : Nat} {o : Oper} {p : PO} (h : trPO P c draw ops i res o = some p) : TrPO P c.fm ops i o p := by
  unfold trPO at h
  simp only [Option.bind_eq_some_iff, Option.some.injEq] at h
  obtain ⟨po, h1, g, h2, l, h3, rfl⟩ := h
  obtain ⟨k1, k2⟩ := afters_ok h3
  refine ⟨rfl, trOp_ok hext h1, ?_, fun k hk => ?_, k2⟩
  · unfold trGuard at h2
    split at h2
    · rename_i hg
      injection h2 with h2; subst h2
      exact .inl ⟨hg, rfl⟩
    · rename_i j b hg
      simp only [Option.map_eq_some_iff] at h2
      obtain ⟨t, h4, rfl⟩ := h2
      exact .inr ⟨j, b, t, hg, rfl, h4⟩
  · cases draw
    · cases hk
    · exact k1 k hk

theorem trL_ok (hext : ∀ f b, c.ext f = some b → ExtOk P f b) {draw : Bool} {ops : Array Oper} : ∀ {l : List Oper} {i res : Nat} {x : List PO × Nat}, trL P c draw ops i res l = some x → TrL P c.fm ops i l x.1
  | [], i, res, x, h => by simp only [trL, Option.some.injEq] at h; subst h; exact .nil
  | o :: l, i, res, x, h => by
    simp only [trL, Option.bind_eq_some_iff, Option.some.injEq] at h
    obtain ⟨p, h1, y, h2, rfl⟩ := h
    exact .cons (trPO_ok hext h1) (trL_ok hext h2)

theorem pairOkD_ok {p q : PO} {j : Nat} (h : pairOkD p q j = true) (hc : (∃ t, p.dst = some t ∧ (t ∈ q.uses ∨ q.dst = some t)) ∨ (∃ t, q.dst = some t ∧ t ∈ p.uses)) : j ∈ q.after := by
  unfold pairOkD at h
  simp only [Bool.or_eq_true, List.contains_eq_mem, decide_eq_true_eq, Bool.and_eq_true] at h
  rcases h with h | ⟨h1, h2⟩
  · exact h
  · exfalso
    rcases hc with ⟨t, e, hu | hu⟩ | ⟨t, e, hu⟩
    · rw [e] at h1; simp [hu] at h1
    · rw [e] at h1; simp [hu] at h1
    · rw [e] at h2; simp [hu] at h2
theorem drawRow_ok {q : PO} : ∀ {pre : List PO} {j : Nat}, drawRow q pre j = true → ∀ k p, pre[k]? = some p → pairOkD p q (j + k) = true
  | [], j, _, k, p, h => by simp at h
  | p0 :: pre, j, h, k, p, hk => by
    simp only [drawRow, Bool.and_eq_true] at h
    cases k with
    | zero => simp at hk; subst hk; exact h.1
    | succ k =>
      have := drawRow_ok h.2 k p (by simpa using hk)
      rw [show j + (k + 1) = j + 1 + k by omega]; exact this
theorem drawAll_ok : ∀ {qs pre : List PO}, drawAll pre qs = true → ∀ j k, j < k → pre.length ≤ k → k < (pre ++ qs).length → ((∃ t, (pAt (pre ++ qs) j).dst = some t ∧ (t ∈ (pAt (pre ++ qs) k).uses ∨ (pAt (pre ++ qs) k).dst = some t)) ∨
    (∃ t, (pAt (pre ++ qs) k).dst = some t ∧ t ∈ (pAt (pre ++ qs) j).uses)) → j ∈ (pAt (pre ++ qs) k).after
  | [], pre, _, j, k, h1, h2, h3, _ => by simp at h3; omega
  | q :: qs, pre, h, j, k, h1, h2, h3, hc => by
    simp only [drawAll, Bool.and_eq_true] at h
    by_cases e : k = pre.length
    · subst e
      have hq : pAt (pre ++ q :: qs) pre.length = q := by simp [pAt]
      have hp : pAt (pre ++ q :: qs) j = pAt pre j := by
        unfold pAt
        rw [List.getD_eq_getElem?_getD, List.getD_eq_getElem?_getD, List.getElem?_append_left h1]
      rw [hq, hp] at hc
      rw [hq]
      have hj : pre[j]? = some (pAt pre j) := by unfold pAt; rw [List.getD_eq_getElem?_getD, List.getElem?_eq_getElem h1]; rfl
      have := drawRow_ok h.1 j _ hj
      rw [Nat.zero_add] at this
      exact pairOkD_ok this hc
    · have ha : pre ++ q :: qs = (pre ++ [q]) ++ qs := by simp
      rw [ha] at h3 hc ⊢
      exact drawAll_ok h.2 j k h1 (by simp; omega) h3 hc

theorem trC_ok (hext : ∀ f b, c.ext f = some b → ExtOk P f b) : ∀ {x : Code} {p : PC}, trC P c x = some p → TrC P c.fm x p := by
  intro x
  induction x with
  | skip => intro p h; simp only [trC, Option.some.injEq] at h; subst h; exact .skip
  | label l => intro p h; simp only [trC, Option.some.injEq] at h; subst h; exact .label l
  | region id ops draw =>
    intro p h
    simp only [trC, Option.bind_eq_some_iff] at h
    obtain ⟨x, h1, h2⟩ := h
    split at h2
    · rename_i hd
      subst hd
      split at h2
      · rename_i hall
        simp only [Option.some.injEq] at h2
        subst h2
        refine .regionD (trL_ok hext h1) (fun j k hjk hk hc => ?_)
        have := drawAll_ok hall j k hjk (Nat.zero_le _) (by simpa using hk) (by simpa using hc)
        simpa using this
      · cases h2
    · rename_i hd
      have hd' : draw = false := by simpa using hd
      subst hd'
      simp only [Option.some.injEq] at h2
      subst h2
      exact .region (trL_ok hext h1)
  | seq x y ihx ihy =>
    intro p h
    simp only [trC, Option.bind_eq_some_iff, Option.some.injEq] at h
    obtain ⟨px, h1, py, h2, rfl⟩ := h
    exact .seq (ihx h1) (ihy h2)
  | cond a x y ihx ihy =>
    intro p h
    simp only [trC, Option.bind_eq_some_iff, Option.some.injEq] at h
    obtain ⟨pa, h0, px, h1, py, h2, rfl⟩ := h
    exact .cond (trX_ok h0) (ihx h1) (ihy h2)
  | block id x ih =>
    intro p h
    simp only [trC, Option.bind_eq_some_iff, Option.some.injEq] at h
    obtain ⟨px, h1, rfl⟩ := h
    exact .block (ih h1)
  | loop x ih =>
    intro p h
    simp only [trC, Option.bind_eq_some_iff, Option.some.injEq] at h
    obtain ⟨px, h1, rfl⟩ := h
    exact .loop (ih h1)
  | exit id => intro p h; simp only [trC, Option.some.injEq] at h; subst h; exact .exit id
  | ret => intro p h; simp only [trC, Option.some.injEq] at h; subst h; exact .ret
  | _ => intro p h; simp [trC] at h

theorem trRs_ok : ∀ {rs : List ResultVar} {ps : List PR}, trRs P rs = some ps → TrR P rs ps
  | [], ps, h => by simp only [trRs, Option.some.injEq] at h; subst h; exact .nil
  | .tmp t :: rs, ps, h => by
    simp only [trRs, Option.bind_eq_some_iff, Option.some.injEq] at h
    obtain ⟨ps', h1, rfl⟩ := h
    exact .tmp (trRs_ok h1)
  | .cell a t :: rs, ps, h => by
    simp only [trRs, Option.bind_eq_some_iff, Option.some.injEq] at h
    obtain ⟨s, h0, ps', h1, rfl⟩ := h
    exact .cell (shapeOf_ok h0) (trRs_ok h1)

theorem trF_ok (hext : ∀ f b, c.ext f = some b → ExtOk P f b) {fn : Func} {pf : PF} (h : trF P c fn = some pf) : TrF P c.fm fn pf := by
  unfold trF at h
  split at h
  · rename_i b hb
    simp only [Option.bind_eq_some_iff, Option.some.injEq] at h
    obtain ⟨pb, h1, rs, h2, rfl⟩ := h
    exact ⟨⟨b, hb, trC_ok hext h1⟩, rfl, trRs_ok h2⟩
  · cases h
end
end Go.Pi
