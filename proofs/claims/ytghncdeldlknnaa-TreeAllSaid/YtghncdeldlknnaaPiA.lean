import GoSem.Machine.Return
/-
  THE ABSTRACT INTERPRETER, ITS WORDS: data without memory (D), rows of the call's own (Blk), what an operation asks of them and does to them (Eff, Out), and code that runs over them (runN). Deterministic; no tape, no capacities, no orders.
-/
set_option linter.all false
namespace Go.Pi

inductive D where
  | undef
  | skip
  | bool (b : Bool)
  | int (k : IntKind) (n : Int)
  | flt (bits : Nat)
  | nan
  | str (s : List UInt8)
  | nil
  | lst (sz : Nat) (es : List (List D))
  | own (sz : Nat) (es : List (List D))
  | ref (id off len : Nat)
  | ptr (id off : Nat)
  | fptr (cs : List D)
  | nilp
  | agg (cs : List D)
  | tup (vs : List D)
  | fn (f : Nat)
  deriving Inhabited

inductive Blk where
  | fresh
  | dead
  | row (sz : Nat) (es : List (List D)) (live : Bool)
  deriving Inhabited

abbrev Heap := List Blk
def hat (H : Heap) (id : Nat) : Blk := H.getD id .fresh

structure Out where
  d : D
  ws : List (Nat × Blk)
  fz : List Nat

inductive Eff (α : Type) where
  | pure (a : α)
  | fail
  | get (id : Nat) (k : Nat → List (List D) → Eff α)
  | live (id : Nat) (k : Eff α)
  | new (id : Nat) (k : Eff α)

def Eff.bind {α β : Type} : Eff α → (α → Eff β) → Eff β
  | .pure a, f => f a
  | .fail, _ => .fail
  | .get id k, f => .get id fun sz es => (k sz es).bind f
  | .live id k, f => .live id (k.bind f)
  | .new id k, f => .new id (k.bind f)

def Eff.run {α : Type} : Eff α → Heap → Option α
  | .pure a, _ => some a
  | .fail, _ => none
  | .get id k, H => match hat H id with
    | .row sz es _ => (k sz es).run H
    | _ => none
  | .live id k, H => match hat H id with
    | .row _ _ true => k.run H
    | _ => none
  | .new id k, H => if id < H.length then match hat H id with
      | .fresh => k.run H
      | _ => none
    else none

/-- What was asked: the rows that were read; those that had to be live. -/
def Eff.rd {α : Type} : Eff α → Heap → List Nat
  | .pure _, _ => []
  | .fail, _ => []
  | .get id k, H => match hat H id with
    | .row sz es _ => id :: (k sz es).rd H
    | _ => []
  | .live _ k, H => k.rd H
  | .new _ k, H => k.rd H

def Eff.lv {α : Type} : Eff α → Heap → List Nat
  | .pure _, _ => []
  | .fail, _ => []
  | .get id k, H => match hat H id with
    | .row sz es _ => (k sz es).lv H
    | _ => []
  | .live id k, H => id :: k.lv H
  | .new id k, H => id :: k.lv H

/-- Cells, each made closed; the rows that were met. -/
def eachC (f : D → Eff (D × List Nat)) : List D → Eff (List D × List Nat)
  | [] => .pure ([], [])
  | d :: ds => (f d).bind fun x => (eachC f ds).bind fun y => .pure (x.1 :: y.1, x.2 ++ y.2)
def eachE (f : D → Eff (D × List Nat)) : List (List D) → Eff (List (List D) × List Nat)
  | [] => .pure ([], [])
  | e :: es => (eachC f e).bind fun x => (eachE f es).bind fun y => .pure (x.1 :: y.1, x.2 ++ y.2)

/-- A datum without the call's own rows: each is told by what it holds. -/
def frz : Nat → D → Eff (D × List Nat)
  | 0, _ => .fail
  | n + 1, .ref id off len => .get id fun sz es =>
      if off + len ≤ es.length then (eachE (frz n) ((es.drop off).take len)).bind fun x => .pure (.lst sz x.1, id :: x.2) else .fail
  | n + 1, .ptr id off => .get id fun sz es =>
      match es[off / sz]? with
      | some e => (eachC (frz n) (e.drop (off % sz))).bind fun x => .pure (.fptr x.1, id :: x.2)
      | none => .fail
  | n + 1, .agg cs => (eachC (frz n) cs).bind fun x => .pure (.agg x.1, x.2)
  | _ + 1, .tup _ => .fail
  | _ + 1, .own _ _ => .fail
  | _ + 1, d => .pure (d, [])

def fuelF : Nat := 12

def scal : D → Bool
  | .lst _ _ | .own _ _ | .ref _ _ _ | .ptr _ _ | .fptr _ | .agg _ | .tup _ => false
  | _ => true
def scalV : D → Bool
  | .agg cs => cs.all scal
  | .own _ es => es.all fun e => e.all scal
  | d => scal d
def scalR : D → Bool
  | .tup vs => vs.all scalV
  | d => scalV d

/-- A result, as the caller gets it: a whole row of the callee's own is handed over; all else is made closed. -/
def exp1 (H : Heap) (d : D) : Option (D × List Nat × List Nat) :=
  match d with
  | .ref id off len =>
    match hat H id with
    | .row sz es true =>
      if off = 0 ∧ len = es.length then ((eachE (frz fuelF) es).run H).map fun x => (.own sz x.1, [id], x.2)
      else ((frz fuelF d).run H).map fun x => (x.1, [], x.2)
    | _ => ((frz fuelF d).run H).map fun x => (x.1, [], x.2)
  | d => ((frz fuelF d).run H).map fun x => (x.1, [], x.2)
def expL (H : Heap) : List D → Option (List D × List Nat × List Nat)
  | [] => some ([], [], [])
  | d :: ds => (exp1 H d).bind fun x => (expL H ds).bind fun y => some (x.1 :: y.1, x.2.1 ++ y.2.1, x.2.2 ++ y.2.2)

def imp1 (r : Nat) : D → D × List (Nat × Blk)
  | .own sz es => (.ref r 0 es.length, [(r, .row sz es true)])
  | d => (d, [])
def impL (r : Nat) : List D → List D × List (Nat × Blk)
  | [] => ([], [])
  | d :: ds => ((imp1 r d).1 :: (impL (r + 1) ds).1, (imp1 r d).2 ++ (impL (r + 1) ds).2)

/-- The boxes' cells behind the call. -/
def expB (H : Heap) : Nat → List (Nat × Bool) → Option (List (Nat × Blk) × List Nat)
  | _, [] => some ([], [])
  | k, (id, true) :: bs =>
    match hat H k with
    | .row sz es true => ((eachE (frz fuelF) es).run H).bind fun x => (expB H (k + 1) bs).bind fun y => some ((id, .row sz x.1 true) :: y.1, x.2 ++ y.2)
    | _ => none
  | k, (id, false) :: bs => (expB H (k + 1) bs).bind fun y => some ((id, .dead) :: y.1, y.2)
def boxKs : Nat → List (Nat × Bool) → List Nat
  | _, [] => []
  | k, (_, true) :: bs => k :: boxKs (k + 1) bs
  | k, (_, false) :: bs => boxKs (k + 1) bs

structure Prep where
  args : List D
  rows : Heap
  ids : List Nat
  bs : List (Nat × Bool)

/-- The arguments as the callee gets them. 0: closed; 1: a row handed over; 2: a variable's address, lent. -/
def prep : List (Nat × D) → Nat → Eff Prep
  | [], _ => .pure ⟨[], [], [], []⟩
  | (m, d) :: rest, k =>
    match m, d with
    | 1, .ref id off len => .live id (.get id fun sz es =>
      if off = 0 ∧ len = es.length then (eachE (frz fuelF) es).bind fun x => (prep rest (k + 1)).bind fun y =>
        .pure ⟨.ref k 0 len :: y.args, .row sz x.1 true :: y.rows, x.2 ++ y.ids, (id, false) :: y.bs⟩
      else .fail)
    | 2, .ptr id off => .live id (.get id fun sz es =>
      if off = 0 then (eachE (frz fuelF) es).bind fun x => (prep rest (k + 1)).bind fun y =>
        .pure ⟨.ptr k 0 :: y.args, .row sz x.1 true :: y.rows, x.2 ++ y.ids, (id, true) :: y.bs⟩
      else .fail)
    | _, d => (frz fuelF d).bind fun x => (prep rest k).bind fun y => .pure ⟨x.1 :: y.args, y.rows, x.2 ++ y.ids, y.bs⟩

def nodup : List Nat → Bool
  | [] => true
  | x :: xs => !xs.contains x && nodup xs
def apart (xs ys : List Nat) : Bool := xs.all fun x => !ys.contains x

abbrev CallF := Nat → List D → Heap → Option (D × Heap)

def newL : List Nat → Eff Out → Eff Out
  | [], e => e
  | i :: is, e => .new i (newL is e)

def comps : D → List D
  | .tup vs => vs
  | d => [d]
def recomp : D → List D → D
  | .tup _, l => .tup l
  | _, l => l.headD .undef

def finish (r : Nat) (p : Prep) (d : D) (H1 : Heap) : Option (List Nat × Out) :=
  (expL H1 (comps d)).bind fun x => (expB H1 0 p.bs).bind fun y =>
    if nodup x.2.1 && apart x.2.1 x.2.2 && apart x.2.1 y.2 && apart x.2.1 (boxKs 0 p.bs) && apart (boxKs 0 p.bs) x.2.2 && apart (boxKs 0 p.bs) y.2 then
      some ((impL r x.1).2.map (·.1), ⟨recomp d (impL r x.1).1, y.1 ++ (impL r x.1).2, if p.bs.isEmpty && x.1.all scalV then [] else p.ids⟩)
    else none

def callE (call : CallF) (r : Nat) (f : Nat) (args : List (Nat × D)) : Eff Out :=
  (prep args 0).bind fun p =>
    if nodup (p.bs.map (·.1)) && apart (p.bs.map (·.1)) p.ids then
      match call f p.args p.rows with
      | some x => match finish r p x.1 x.2 with
        | some o => newL o.1 (.pure o.2)
        | none => .fail
      | none => .fail
    else .fail

inductive PX where
  | t (i : Nat)
  | c (d : D)
  deriving Inhabited

inductive CK where
  | toInt (k : IntKind)
  | toFlt
  | same
  | bytesStr
  | strBytes
  deriving Inhabited

inductive POp where
  | mv (x : PX)
  | pick (c a b : PX)
  | alloc (zero : List D)
  | box (n : Nat) (x : PX)
  | build (zero : List D) (parts : List (Nat × Nat × PX))
  | buildSlice (sz n : Nat) (zero : List D) (parts : List (Nat × PX))
  | load (ag : Bool) (n : Nat) (x : PX)
  | store (n : Nat) (a x : PX)
  | nilCheck (x : PX)
  | bin (op : BinOp) (x y : PX)
  | eqB (neg : Bool) (x y : PX)
  | eqNS (neg : Bool) (x : PX)
  | eqNP (neg : Bool) (x : PX)
  | eqA (neg : Bool) (ks : List Nat) (x y : PX)
  | un (op : UnOp) (x : PX)
  | conv (c : CK) (x : PX)
  | makeSlice (sz bytes : Nat) (zero : List D) (l c : PX)
  | slice (sz : Nat) (x : PX) (lo hi : Option PX)
  | sliceS (x : PX) (lo hi : Option PX)
  | fieldAddr (off n : Nat) (x : PX)
  | field (ag : Bool) (off n : Nat) (x : PX)
  | indexAddr (sz : Nat) (x i : PX)
  | indexAddrA (sz len : Nat) (x i : PX)
  | index (ag : Bool) (sz len : Nat) (x i : PX)
  | indexS (x i : PX)
  | extract (x : PX) (i : Nat)
  | len (x : PX)
  | lenS (x : PX)
  | append (sz bytes : Nat) (x y : PX)
  | minmax (mx : Bool) (x : PX) (ys : List PX)
  | mark (x : PX)
  | bits (x : PX)
  | ofBits (x : PX)
  | call (f : Nat) (args : List (Nat × PX))
  | callH (f : Nat) (args : List PX)
  | callQ (f : Nat) (args : List (Nat × PX))
  deriving Inhabited

structure PO where
  dst : Option Nat
  op : POp
  guard : Option (Nat × Bool)
  after : List Nat
  res : Nat
  deriving Inhabited

inductive PC where
  | skip
  | region (draw : Bool) (nres : Nat) (ops : List PO)
  | seq (a b : PC)
  | cond (c : PX) (x y : PC)
  | block (id : Nat) (c : PC)
  | loop (c : PC)
  | exit (id : Nat)
  | ret
  deriving Inhabited

inductive PR where
  | tmp (t : Nat)
  | cell (ag : Bool) (n : Nat) (a : Nat)
  deriving Inhabited

structure PF where
  ntmps : Nat
  results : List PR
  body : PC
  deriving Inhabited

def PX.ev (ts : List D) : PX → D
  | .t i => ts.getD i .undef
  | .c d => d

def cellsOf : D → List D
  | .agg cs => cs
  | d => [d]
def shaped (ag : Bool) (cs : List D) : Option D :=
  if ag then some (.agg cs) else match cs with | [c] => some c | _ => none
def splice (l : List D) (off : Nat) (m : List D) : List D := l.take off ++ m ++ l.drop (off + m.length)

def fillB : List D → List (Nat × Nat × D) → Option (List D)
  | z, [] => some z
  | z, (off, n, d) :: ps => if (cellsOf d).length = n ∧ off + n ≤ z.length then fillB (splice z off (cellsOf d)) ps else none
def fillS (sz : Nat) : List (List D) → List (Nat × D) → Option (List (List D))
  | z, [] => some z
  | z, (i, d) :: ps => if (cellsOf d).length = sz ∧ i < z.length then fillS sz (z.set i (cellsOf d)) ps else none

/-- A store of no cells but these leaves a datum in a cell: nothing but what takes one cell. -/
def one : D → Bool
  | .agg _ | .tup _ | .own _ _ | .undef | .skip => false
  | _ => true

def ofOpt {α : Type} : Option α → Eff α
  | some a => .pure a
  | none => .fail

def binI (op : BinOp) (k : IntKind) (a b : Int) : Option D :=
  match op with
  | .add => some (.int k (k.wrap (a + b)))
  | .sub => some (.int k (k.wrap (a - b)))
  | .mul => some (.int k (k.wrap (a * b)))
  | .quo => if b = 0 then none else some (.int k (k.wrap (a.tdiv b)))
  | .rem => if b = 0 then none else some (.int k (a.tmod b))
  | .and => some (.int k (k.wrap (BitVec.ofInt k.bits a &&& BitVec.ofInt k.bits b).toNat))
  | .or => some (.int k (k.wrap (BitVec.ofInt k.bits a ||| BitVec.ofInt k.bits b).toNat))
  | .xor => some (.int k (k.wrap (BitVec.ofInt k.bits a ^^^ BitVec.ofInt k.bits b).toNat))
  | .andNot => some (.int k (k.wrap (BitVec.ofInt k.bits a &&& ~~~ BitVec.ofInt k.bits b).toNat))
  | .eql => some (.bool (a == b))
  | .neq => some (.bool (a != b))
  | .lss => some (.bool (a < b))
  | .leq => some (.bool (a ≤ b))
  | .gtr => some (.bool (a > b))
  | .geq => some (.bool (a ≥ b))
  | _ => none
def shiftI (op : BinOp) (k : IntKind) (a b : Int) : Option D :=
  if b < 0 then none else
  match op with
  | .shl => some (.int k (k.wrap (a * 2 ^ min b.toNat k.bits)))
  | .shr => some (.int k (a.fdiv (2 ^ min b.toNat k.bits)))
  | _ => none
def binS (op : BinOp) (a b : List UInt8) : Option D :=
  match op with
  | .add => if a.length + b.length ≤ 1099511627776 then some (.str (a ++ b)) else none
  | .eql => some (.bool (a == b))
  | .neq => some (.bool !(a == b))
  | .lss => some (.bool (Op.bytesLess a b))
  | .leq => some (.bool (Op.bytesLess a b || a == b))
  | .gtr => some (.bool !(Op.bytesLess a b || a == b))
  | .geq => some (.bool !(Op.bytesLess a b))
  | _ => none
/-- Is it nil? Of slices; of pointers. -/
def isNilS : D → Option Bool
  | .nil => some true
  | .ref _ _ _ => some false
  | .lst _ (_ :: _) => some false
  | _ => none
def isNilP : D → Option Bool
  | .nilp => some true
  | .ptr _ _ | .fptr _ => some false
  | _ => none
def fltD (op : BinOp) (a b : Nat) : Option D :=
  match op with
  | .add => (FloatKind.f64.format.add a b).map .flt
  | .sub => (FloatKind.f64.format.sub a b).map .flt
  | .mul => (FloatKind.f64.format.mul a b).map .flt
  | .quo => (FloatKind.f64.format.div a b).map .flt
  | .eql => some (.bool (FloatKind.f64.format.order a b == some .eq))
  | .neq => some (.bool (FloatKind.f64.format.order a b != some .eq))
  | .lss => some (.bool (FloatKind.f64.format.order a b == some .lt))
  | .leq => some (.bool (FloatKind.f64.format.order a b == some .lt || FloatKind.f64.format.order a b == some .eq))
  | .gtr => some (.bool (FloatKind.f64.format.order a b == some .gt))
  | .geq => some (.bool (FloatKind.f64.format.order a b == some .gt || FloatKind.f64.format.order a b == some .eq))
  | _ => none
def binD (op : BinOp) (x y : D) : Option D :=
  match x, y with
  | .int k a, .int k' b =>
    match op with
    | .shl | .shr => shiftI op k a b
    | _ => if k = k' then binI op k a b else none
  | .str a, .str b => binS op a b
  | .flt a, .flt b => fltD op a b
  | _, _ => none
def eqC : D → D → Option Bool
  | .int k a, .int k' b => if k = k' then some (a == b) else none
  | .bool a, .bool b => some (a == b)
  | .str a, .str b => some (a == b)
  | _, _ => none
def eqCs : List D → List D → Option Bool
  | [], [] => some true
  | x :: xs, y :: ys => (eqC x y).bind fun b => if b then eqCs xs ys else some false
  | _, _ => none
def kindD : D → Nat
  | .bool _ => 0
  | .int _ _ => 1
  | .str _ => 2
  | _ => 9
def unD (op : UnOp) (x : D) : Option D :=
  match op, x with
  | .neg, .int k n => some (.int k (k.wrap (0 - n)))
  | .xor, .int k n => binI .xor k (if k.signed then -1 else k.max) n
  | .not, .bool b => some (.bool !b)
  | _, _ => none

def bytesOf : List (List D) → Option (List UInt8)
  | [] => some []
  | [.int .u8 n] :: es => (bytesOf es).map fun l => UInt8.ofNat n.toNat :: l
  | _ => none
def ofBytes (l : List UInt8) : List (List D) := l.map fun b => [.int .u8 (b.toNat : Int)]

def roomy : Nat := 1099511627776

/-- Where a slice expression cuts: lo ≤ hi ≤ len. -/
def cut (len : Nat) (lo hi : Option D) : Option (Nat × Nat) :=
  let h : Option Nat := match hi with
    | none => some len
    | some (.int _ n) => if 0 ≤ n ∧ n ≤ len then some n.toNat else none
    | _ => none
  h.bind fun h =>
    match lo with
    | none => some (0, h)
    | some (.int _ n) => if 0 ≤ n ∧ n ≤ h then some (n.toNat, h) else none
    | _ => none

def minmaxI (mx : Bool) : Int → List D → IntKind → Option Int
  | a, [], _ => some a
  | a, .int k' b :: ds, k => if k = k' then minmaxI mx (if mx then (if b > a then b else a) else (if b < a then b else a)) ds k else none
  | _, _, _ => none

def quiet (d : D) : Eff Out := .pure ⟨d, [], []⟩
def quietO : Option D → Eff Out
  | some d => quiet d
  | none => .fail

/-- What is appended: cells of so many to the element. -/
def source (sz : Nat) : D → Eff (List (List D))
  | .nil => .pure []
  | .lst s es => if s = sz ∨ es.isEmpty then .pure es else .fail
  | .ref id off len => .get id fun s es => if s = sz ∧ off + len ≤ es.length then .pure ((es.drop off).take len) else .fail
  | .str s => if sz = 1 then .pure (ofBytes s) else .fail
  | _ => .fail

def opE (call : CallF) (ρ : PX → D) (r : Nat) : POp → Eff Out
  | .mv x => quiet (ρ x)
  | .pick c a b => match ρ c with
    | .bool t => quiet (if t then ρ a else ρ b)
    | _ => .fail
  | .alloc zero => .new r (.pure ⟨.ptr r 0, [(r, .row zero.length [zero] true)], []⟩)
  | .box n x => if (cellsOf (ρ x)).length = n ∧ (cellsOf (ρ x)).all one then .new r (.pure ⟨.ptr r 0, [(r, .row n [cellsOf (ρ x)] true)], []⟩) else .fail
  | .build zero parts =>
    if parts.all fun p => (cellsOf (ρ p.2.2)).all one then
      quietO ((fillB zero (parts.map fun p => (p.1, p.2.1, ρ p.2.2))).map .agg) else .fail
  | .buildSlice sz n zero parts =>
    if parts.all fun p => (cellsOf (ρ p.2)).all one then
      match fillS sz (List.replicate n zero) (parts.map fun p => (p.1, ρ p.2)) with
      | some es => .new r (.pure ⟨.ref r 0 n, [(r, .row sz es true)], []⟩)
      | none => .fail
    else .fail
  | .load ag n x => match ρ x with
    | .ptr id off => .get id fun sz es =>
      match es[off / sz]? with
      | some e => if off % sz + n ≤ e.length then quietO (shaped ag ((e.drop (off % sz)).take n)) else .fail
      | none => .fail
    | .fptr cs => if n ≤ cs.length then quietO (shaped ag (cs.take n)) else .fail
    | _ => .fail
  | .store n a x => match ρ a with
    | .ptr id off => .live id (.get id fun sz es =>
      match es[off / sz]? with
      | some e =>
        if off % sz + n ≤ e.length ∧ (cellsOf (ρ x)).length = n ∧ (cellsOf (ρ x)).all one then
          .pure ⟨.undef, [(id, .row sz (es.set (off / sz) (splice e (off % sz) (cellsOf (ρ x)))) true)], []⟩
        else .fail
      | none => .fail)
    | _ => .fail
  | .nilCheck x => match ρ x with
    | .ptr id off => quiet (.ptr id off)
    | .fptr cs => quiet (.fptr cs)
    | _ => .fail
  | .bin op x y => quietO (binD op (ρ x) (ρ y))
  | .eqB neg x y => match ρ x, ρ y with
    | .bool a, .bool b => quiet (.bool (if neg then !(a == b) else a == b))
    | _, _ => .fail
  | .eqNS neg x => quietO ((isNilS (ρ x)).map fun t => .bool (if neg then !t else t))
  | .eqNP neg x => quietO ((isNilP (ρ x)).map fun t => .bool (if neg then !t else t))
  | .eqA neg ks x y => match ρ x, ρ y with
    | .agg a, .agg b => if a.map kindD = ks ∧ b.map kindD = ks then quietO ((eqCs a b).map fun t => .bool (if neg then !t else t)) else .fail
    | _, _ => .fail
  | .un op x => quietO (unD op (ρ x))
  | .conv c x => match c with
    | .toInt k => (match ρ x with
      | .int _ n => quiet (.int k (k.wrap n))
      | _ => .fail)
    | .same => quiet (ρ x)
    | .bytesStr => (match ρ x with
      | .nil => quiet (.str [])
      | .lst sz es => if sz = 1 then quietO ((bytesOf es).map .str) else .fail
      | .ref id off len => .get id fun sz es => if sz = 1 ∧ off + len ≤ es.length then quietO ((bytesOf ((es.drop off).take len)).map .str) else .fail
      | _ => .fail)
    | .strBytes => (match ρ x with
      | .str s => if s.length ≤ roomy then quiet (.lst 1 (ofBytes s)) else .fail
      | _ => .fail)
    | .toFlt => (match ρ x with
      | .int _ n => quiet (.flt (FloatKind.f64.nearest n))
      | _ => .fail)
  | .makeSlice sz bytes zero l c => match ρ l, ρ c with
    | .int _ n, .int _ m => if 0 ≤ n ∧ n = m ∧ n ≤ roomy ∧ n * bytes ≤ roomy then .new r (.pure ⟨.ref r 0 n.toNat, [(r, .row sz (List.replicate n.toNat zero) true)], []⟩) else .fail
    | _, _ => .fail
  | .slice sz x lo hi => match ρ x with
    | .nil => quietO ((cut 0 (lo.map ρ) (hi.map ρ)).map fun _ => .nil)
    | .lst s es => if s = sz then quietO ((cut es.length (lo.map ρ) (hi.map ρ)).map fun p => .lst s ((es.drop p.1).take (p.2 - p.1))) else .fail
    | .ref id off len => .get id fun s _ => if s = sz then quietO ((cut len (lo.map ρ) (hi.map ρ)).map fun p => .ref id (off + p.1) (p.2 - p.1)) else .fail
    | _ => .fail
  | .sliceS x lo hi => match ρ x with
    | .str s => quietO ((cut s.length (lo.map ρ) (hi.map ρ)).map fun p => .str ((s.drop p.1).take (p.2 - p.1)))
    | _ => .fail
  | .fieldAddr off _ x => match ρ x with
    | .ptr id o => quiet (.ptr id (o + off))
    | .fptr cs => quiet (.fptr (cs.drop off))
    | _ => .fail
  | .field ag off n x => match ρ x with
    | .agg cs => if off + n ≤ cs.length then quietO (shaped ag ((cs.drop off).take n)) else .fail
    | _ => .fail
  | .indexAddr sz x i => match ρ i with
    | .int _ n => match ρ x with
      | .ref id off len => .get id fun s _ => if 0 ≤ n ∧ n < len ∧ s = sz then quiet (.ptr id ((off + n.toNat) * sz)) else .fail
      | .lst s es => if 0 ≤ n ∧ s = sz then (match es[n.toNat]? with | some e => quiet (.fptr e) | none => .fail) else .fail
      | _ => .fail
    | _ => .fail
  | .indexAddrA sz len x i => match ρ i with
    | .int _ n => if 0 ≤ n ∧ n < len then (match ρ x with
      | .ptr id o => quiet (.ptr id (o + n.toNat * sz))
      | .fptr cs => quiet (.fptr (cs.drop (n.toNat * sz)))
      | _ => .fail) else .fail
    | _ => .fail
  | .index ag sz len x i => match ρ i, ρ x with
    | .int _ n, .agg cs => if 0 ≤ n ∧ n < len ∧ n.toNat * sz + sz ≤ cs.length then quietO (shaped ag ((cs.drop (n.toNat * sz)).take sz)) else .fail
    | _, _ => .fail
  | .indexS x i => match ρ i, ρ x with
    | .int _ n, .str s => if 0 ≤ n then quietO ((s[n.toNat]?).map fun b => .int .u8 (b.toNat : Int)) else .fail
    | _, _ => .fail
  | .extract x i => match ρ x with
    | .tup vs => quietO vs[i]?
    | _ => .fail
  | .lenS x => match ρ x with
    | .str s => quiet (.int .i64 (s.length : Int))
    | _ => .fail
  | .len x => match ρ x with
    | .nil => quiet (.int .i64 0)
    | .lst _ es => quiet (.int .i64 (es.length : Int))
    | .ref _ _ len => quiet (.int .i64 (len : Int))
    | _ => .fail
  | .append sz bytes x y => (source sz (ρ y)).bind fun src =>
    if src.isEmpty then
      (match ρ x with
      | .nil => quiet .nil
      | .ref id off len => quiet (.ref id off len)
      | .lst s es => quiet (.lst s es)
      | _ => .fail)
    else
      (match ρ x with
      | .nil => if src.length ≤ roomy ∧ src.length * bytes ≤ roomy then .new r (.pure ⟨.ref r 0 src.length, [(r, .row sz src true)], []⟩) else .fail
      | .ref id off len => .live id (.get id fun s es =>
        if s = sz ∧ off = 0 ∧ len ≤ es.length ∧ len + src.length ≤ roomy ∧ (len + src.length) * bytes ≤ roomy then
          .new r (.pure ⟨.ref r 0 (len + src.length), [(id, .dead), (r, .row sz (es.take len ++ src) true)], []⟩)
        else .fail)
      | _ => .fail)
  | .minmax mx x ys => match ρ x with
    | .int k a => quietO ((minmaxI mx a (ys.map ρ) k).map (.int k))
    | _ => .fail
  | .mark x => match ρ x with
    | .ref id off len => .live id (.get id fun sz es => if sz = 1 ∧ off = 0 ∧ len = es.length ∧ (bytesOf es).isSome = true ∧ 0 < len then .pure ⟨.lst 1 es, [(id, .dead)], []⟩ else .fail)
    | _ => .fail
  | .bits x => match ρ x with
    | .flt b => quiet (.int .u64 (b : Int))
    | _ => .fail
  | .ofBits x => match ρ x with
    | .int .u64 n => quiet (.flt n.toNat)
    | _ => .fail
  | .call f args => callE call r f (args.map fun p => (p.1, ρ p.2))
  | .callH _ _ => .fail
  | .callQ f args => (callE call r f (args.map fun p => (p.1, ρ p.2))).bind fun o => if o.ws.isEmpty && o.fz.isEmpty then .pure o else .fail

def freeze : Blk → Blk
  | .row sz es _ => .row sz es false
  | b => b
def doWs (H : Heap) : List (Nat × Blk) → Heap
  | [] => H
  | (i, b) :: ws => doWs (H.set i b) ws
def doFz (H : Heap) : List Nat → Heap
  | [] => H
  | i :: is => doFz (H.modify i freeze) is
def Out.on (o : Out) (H : Heap) : Heap := doFz (doWs H o.ws) o.fz

@[ext] structure St where
  ts : List D
  hp : Heap

def putT (ts : List D) (dst : Option Nat) (d : D) : List D :=
  match dst with
  | some i => ts.set i d
  | none => ts

def wantedP (ts : List D) : Option (Nat × Bool) → Bool
  | none => true
  | some (t, b) => match ts.getD t .undef with | .bool c => c == b | _ => false

def guardOk (ts : List D) : Option (Nat × Bool) → Bool
  | none => true
  | some (t, _) => match ts.getD t .undef with | .bool _ => true | .skip => true | _ => false

structure Fp where
  rd : List Nat
  lv : List Nat
  wr : List Nat
  fz : List Nat
  all : Bool

/-- One operation; base: where the region's reserved rows begin. -/
def stepO (call : CallF) (base : Nat) (o : PO) (s : St) : Option St :=
  if guardOk s.ts o.guard then
    if wantedP s.ts o.guard then
      match o.op with
      | .callH f args => (call f (args.map (PX.ev s.ts)) s.hp).map fun x => ⟨putT s.ts o.dst x.1, x.2⟩
      | op => ((opE call (PX.ev s.ts) (base + o.res) op).run s.hp).map fun x => ⟨putT s.ts o.dst x.d, x.on s.hp⟩
    else some ⟨putT s.ts o.dst .skip, s.hp⟩
  else none

def stepFp (call : CallF) (base : Nat) (o : PO) (s : St) : Fp :=
  if wantedP s.ts o.guard then
    match o.op with
    | .callH _ _ => ⟨[], [], [], [], true⟩
    | op =>
      let e := opE call (PX.ev s.ts) (base + o.res) op
      match e.run s.hp with
      | some x => ⟨e.rd s.hp, e.lv s.hp, x.ws.map (·.1), x.fz, false⟩
      | none => ⟨[], [], [], [], false⟩
  else ⟨[], [], [], [], false⟩

def meets (xs ys : List Nat) : Bool := xs.any fun x => ys.contains x
def Fp.idle (a : Fp) : Bool := !a.all && a.rd.isEmpty && a.lv.isEmpty && a.wr.isEmpty && a.fz.isEmpty
def clash (a b : Fp) : Bool :=
  (a.all && !b.idle) || (b.all && !a.idle) ||
  meets a.wr b.rd || meets a.wr b.lv || meets a.wr b.wr || meets a.wr b.fz ||
  meets b.wr a.rd || meets b.wr a.lv || meets b.wr a.fz || meets a.fz b.lv || meets b.fz a.lv

def seqR (call : CallF) (base : Nat) : List PO → St → Option St
  | [], s => some s
  | o :: os, s => (stepO call base o s).bind (seqR call base os)

/-- With what was met of those ahead: none may clash but in order. -/
def seqD (call : CallF) (base : Nat) : List PO → Nat → List (Nat × Fp) → St → Option St
  | [], _, _, s => some s
  | o :: os, i, seen, s =>
    let f := stepFp call base o s
    if seen.all fun p => o.after.contains p.1 || !clash p.2 f then
      (stepO call base o s).bind (seqD call base os (i + 1) ((i, f) :: seen))
    else none

inductive Ex where
  | normal
  | exit (id : Nat)
  | ret

def loopN (body : St → Option (Ex × St)) : Nat → St → Option (Ex × St)
  | 0, _ => none
  | n + 1, s => match body s with
    | some (.normal, s') => loopN body n s'
    | r => r

def code (call : CallF) (fuel : Nat) : PC → St → Option (Ex × St)
  | .skip, s => some (.normal, s)
  | .region draw nres ops, s =>
    let s0 : St := ⟨s.ts, s.hp ++ List.replicate nres .fresh⟩
    ((if draw then seqD call s.hp.length ops 0 [] s0 else seqR call s.hp.length ops s0)).map fun s' => (.normal, s')
  | .seq a b, s => match code call fuel a s with
    | some (.normal, s') => code call fuel b s'
    | r => r
  | .cond c x y, s => match c.ev s.ts with
    | .bool b => if b then code call fuel x s else code call fuel y s
    | _ => none
  | .block id c, s => match code call fuel c s with
    | some (.exit j, s') => if j = id then some (.normal, s') else some (.exit j, s')
    | r => r
  | .loop c, s => loopN (code call fuel c) fuel s
  | .exit id, s => some (.exit id, s)
  | .ret, s => some (.ret, s)

def res1 (s : St) : PR → Option D
  | .tmp t => some (s.ts.getD t .undef)
  | .cell ag n a => match s.ts.getD a .undef with
    | .ptr id 0 => match hat s.hp id with
      | .row _ [e] _ => if e.length = n then shaped ag e else none
      | _ => none
    | _ => none
def resL (s : St) : List PR → Option (List D)
  | [] => some []
  | r :: rs => (res1 s r).bind fun d => (resL s rs).map fun ds => d :: ds
def resV (s : St) (rs : List PR) : Option D :=
  (resL s rs).map fun ds => match ds with | [d] => d | ds => .tup ds

/-- The program: each function by its number. -/
abbrev Prog := Nat → Option PF

def runN (P : Prog) : Nat → CallF
  | 0 => fun _ _ _ => none
  | n + 1 => fun f args H =>
    match P f with
    | none => none
    | some pf =>
      match code (runN P n) n pf.body ⟨args ++ List.replicate (pf.ntmps - args.length) .undef, H⟩ with
      | some (.normal, s) | some (.ret, s) => (resV s pf.results).map fun d => (d, s.hp)
      | _ => none

end Go.Pi
