import GoSem.Machine.Return
import Derived.Laws.AppendOwn
import Derived.Deep.AppendSrc
import Derived.Deep.MidRow
import Derived.Great.BuildSlice
import Derived.Laws.MakeOwn
import Derived.Laws.IdiomStrings
import Derived.Laws.BytesArg
import Derived.Laws.StructEq
import Derived.Laws.Slices
import Derived.Laws.Pointers
import Derived.DeepKeys
import Derived.Orders
set_option linter.all false
namespace Go.Pi
inductive D where
 | undef
 | skip
 | bool (b : Bool)
 | int (k : IntKind) (n : Int)
 | flt (b : Option Nat)
 | str (s : List UInt8)
 | nil
 | lst (sz : Nat) (es : List (List D))
 | own (sz : Nat) (es : List (List D))
 | ref (id off len : Nat)
 | ptr (id off : Nat)
 | fptr (cs : List D)
 | nilp
 | agg (cs : List D)
 | tup (vs : List D)
 | fn (f : Nat)
 deriving Inhabited
inductive Blk where
 | fresh
 | dead
 | row (sz : Nat) (es : List (List D)) (live : Bool)
 deriving Inhabited
abbrev Heap := List Blk
def hat (H : Heap) (id : Nat) : Blk := H.getD id .fresh
structure Out where
 d : D
 ws : List (Nat × Blk)
 fz : List Nat
inductive Eff (α : Type) where
 | pure (a : α)
 | fail
 | get (id : Nat) (k : Nat → List (List D) → Eff α)
 | live (id : Nat) (k : Eff α)
 | new (id : Nat) (k : Eff α)
def Eff.bind {α β : Type} : Eff α → (α → Eff β) → Eff β
 | .pure a, f => f a
 | .fail, _ => .fail
 | .get id k, f => .get id fun sz es => (k sz es).bind f
 | .live id k, f => .live id (k.bind f)
 | .new id k, f => .new id (k.bind f)
def Eff.run {α : Type} : Eff α → Heap → Option α
 | .pure a, _ => some a
 | .fail, _ => none
 | .get id k, H => match hat H id with
  | .row sz es _ => (k sz es).run H
  | _ => none
 | .live id k, H => match hat H id with
  | .row _ _ true => k.run H
  | _ => none
 | .new id k, H => if id < H.length then match hat H id with
   | .fresh => k.run H
   | _ => none
  else none
def Eff.rd {α : Type} : Eff α → Heap → List Nat
 | .pure _, _ => []
 | .fail, _ => []
 | .get id k, H => match hat H id with
  | .row sz es _ => id :: (k sz es).rd H
  | _ => []
 | .live _ k, H => k.rd H
 | .new _ k, H => k.rd H
def Eff.lv {α : Type} : Eff α → Heap → List Nat
 | .pure _, _ => []
 | .fail, _ => []
 | .get id k, H => match hat H id with
  | .row sz es _ => (k sz es).lv H
  | _ => []
 | .live id k, H => id :: k.lv H
 | .new id k, H => id :: k.lv H
def eachC (f : D → Eff (D × List Nat)) : List D → Eff (List D × List Nat)
 | [] => .pure ([], [])
 | d :: ds => (f d).bind fun x => (eachC f ds).bind fun y => .pure (x.1 :: y.1, x.2 ++ y.2)
def eachE (f : D → Eff (D × List Nat)) : List (List D) → Eff (List (List D) × List Nat)
 | [] => .pure ([], [])
 | e :: es => (eachC f e).bind fun x => (eachE f es).bind fun y => .pure (x.1 :: y.1, x.2 ++ y.2)
def frz : Nat → D → Eff (D × List Nat)
 | 0, _ => .fail
 | n + 1, .ref id off len => .get id fun sz es =>
   if off + len ≤ es.length then (eachE (frz n) ((es.drop off).take len)).bind fun x => .pure (.lst sz x.1, id :: x.2) else .fail
 | n + 1, .ptr id off => .get id fun sz es =>
   match es[off / sz]? with
   | some e => (eachC (frz n) (e.drop (off % sz))).bind fun x => .pure (.fptr x.1, id :: x.2)
   | none => .fail
 | n + 1, .agg cs => (eachC (frz n) cs).bind fun x => .pure (.agg x.1, x.2)
 | _ + 1, .tup _ => .fail
 | _ + 1, .own _ _ => .fail
 | _ + 1, d => .pure (d, [])
def fuelF : Nat := 12
def scal : D → Bool
 | .lst _ _ | .own _ _ | .ref _ _ _ | .ptr _ _ | .fptr _ | .agg _ | .tup _ => false
 | _ => true
def scalV : D → Bool
 | .agg cs => cs.all scal
 | .own _ es => es.all fun e => e.all scal
 | d => scal d
def exp1 (H : Heap) (d : D) : Option (D × List Nat × List Nat) :=
 match d with
 | .ref id off len =>
  match hat H id with
  | .row sz es true =>
   if off = 0 ∧ len = es.length then ((eachE (frz fuelF) es).run H).map fun x => (.own sz x.1, [id], x.2)
   else ((frz fuelF d).run H).map fun x => (x.1, [], x.2)
  | _ => ((frz fuelF d).run H).map fun x => (x.1, [], x.2)
 | d => ((frz fuelF d).run H).map fun x => (x.1, [], x.2)
def expL (H : Heap) : List D → Option (List D × List Nat × List Nat)
 | [] => some ([], [], [])
 | d :: ds => (exp1 H d).bind fun x => (expL H ds).bind fun y => some (x.1 :: y.1, x.2.1 ++ y.2.1, x.2.2 ++ y.2.2)
def imp1 (r : Nat) : D → D × List (Nat × Blk)
 | .own sz es => (.ref r 0 es.length, [(r, .row sz es true)])
 | d => (d, [])
def impL (r : Nat) : List D → List D × List (Nat × Blk)
 | [] => ([], [])
 | d :: ds => ((imp1 r d).1 :: (impL (r + 1) ds).1, (imp1 r d).2 ++ (impL (r + 1) ds).2)
def expB (H : Heap) : Nat → List (Nat × Bool) → Option (List (Nat × Blk) × List Nat)
 | _, [] => some ([], [])
 | k, (id, true) :: bs =>
  match hat H k with
  | .row sz es true => ((eachE (frz fuelF) es).run H).bind fun x => (expB H (k + 1) bs).bind fun y => some ((id, .row sz x.1 true) :: y.1, x.2 ++ y.2)
  | _ => none
 | k, (id, false) :: bs => (expB H (k + 1) bs).bind fun y => some ((id, .dead) :: y.1, y.2)
def boxKs : Nat → List (Nat × Bool) → List Nat
 | _, [] => []
 | k, (_, true) :: bs => k :: boxKs (k + 1) bs
 | k, (_, false) :: bs => boxKs (k + 1) bs
structure Prep where
 args : List D
 rows : Heap
 ids : List Nat
 bs : List (Nat × Bool)
def prep : List (Nat × D) → Nat → Eff Prep
 | [], _ => .pure ⟨[], [], [], []⟩
 | (m, d) :: rest, k =>
  match m, d with
  | 1, .ref id off len => .live id (.get id fun sz es =>
   if off = 0 ∧ len = es.length then (eachE (frz fuelF) es).bind fun x => (prep rest (k + 1)).bind fun y =>
    .pure ⟨.ref k 0 len :: y.args, .row sz x.1 true :: y.rows, x.2 ++ y.ids, (id, false) :: y.bs⟩
   else .fail)
  | 2, .ptr id off => .live id (.get id fun sz es =>
   if off = 0 then (eachE (frz fuelF) es).bind fun x => (prep rest (k + 1)).bind fun y =>
    .pure ⟨.ptr k 0 :: y.args, .row sz x.1 true :: y.rows, x.2 ++ y.ids, (id, true) :: y.bs⟩
   else .fail)
  | _, d => (frz fuelF d).bind fun x => (prep rest k).bind fun y => .pure ⟨x.1 :: y.args, y.rows, x.2 ++ y.ids, y.bs⟩
def nodup : List Nat → Bool
 | [] => true
 | x :: xs => !xs.contains x && nodup xs
def apart (xs ys : List Nat) : Bool := xs.all fun x => !ys.contains x
abbrev CallF := Nat → List D → Heap → Option (D × Heap)
def newL : List Nat → Eff Out → Eff Out
 | [], e => e
 | i :: is, e => .new i (newL is e)
def comps : D → List D
 | .tup vs => vs
 | d => [d]
def recomp : D → List D → D
 | .tup _, l => .tup l
 | _, l => l.headD .undef
def finish (r : Nat) (p : Prep) (d : D) (H1 : Heap) : Option (List Nat × Out) :=
 (expL H1 (comps d)).bind fun x => (expB H1 0 p.bs).bind fun y =>
  if nodup x.2.1 && apart x.2.1 x.2.2 && apart x.2.1 y.2 && apart x.2.1 (boxKs 0 p.bs) && apart (boxKs 0 p.bs) x.2.2 && apart (boxKs 0 p.bs) y.2 then
   some ((impL r x.1).2.map (·.1), ⟨recomp d (impL r x.1).1, y.1 ++ (impL r x.1).2, if p.bs.isEmpty && x.1.all scalV then [] else p.ids⟩)
  else none
def callE (call : CallF) (r : Nat) (f : Nat) (args : List (Nat × D)) : Eff Out :=
 (prep args 0).bind fun p =>
  if nodup (p.bs.map (·.1)) && apart (p.bs.map (·.1)) p.ids then
   match call f p.args p.rows with
   | some x => match finish r p x.1 x.2 with
    | some o => newL o.1 (.pure o.2)
    | none => .fail
   | none => .fail
  else .fail
inductive PX where
 | t (i : Nat)
 | c (d : D)
 deriving Inhabited
inductive CK where
 | toInt (k : IntKind)
 | toFlt
 | same
 | bytesStr
 | strBytes
 deriving Inhabited
inductive POp where
 | mv (x : PX)
 | pick (c a b : PX)
 | alloc (zero : List D)
 | box (n : Nat) (x : PX)
 | build (zero : List D) (parts : List (Nat × Nat × PX))
 | buildSlice (sz n : Nat) (zero : List D) (parts : List (Nat × PX))
 | load (ag : Bool) (n : Nat) (x : PX)
 | store (n : Nat) (a x : PX)
 | nilCheck (x : PX)
 | bin (op : BinOp) (x y : PX)
 | eqB (neg : Bool) (x y : PX)
 | eqNS (neg : Bool) (x : PX)
 | eqNP (neg : Bool) (x : PX)
 | eqA (neg : Bool) (ks : List Nat) (x y : PX)
 | un (op : UnOp) (x : PX)
 | conv (c : CK) (x : PX)
 | makeSlice (sz bytes : Nat) (zero : List D) (l c : PX)
 | slice (sz : Nat) (x : PX) (lo hi : Option PX)
 | sliceS (x : PX) (lo hi : Option PX)
 | fieldAddr (off n : Nat) (x : PX)
 | field (ag : Bool) (off n : Nat) (x : PX)
 | indexAddr (sz : Nat) (x i : PX)
 | indexAddrA (sz len : Nat) (x i : PX)
 | index (ag : Bool) (sz len : Nat) (x i : PX)
 | indexS (x i : PX)
 | extract (x : PX) (i : Nat)
 | len (x : PX)
 | lenS (x : PX)
 | append (sz bytes : Nat) (x y : PX)
 | minmax (mx : Bool) (x : PX) (ys : List PX)
 | mark (x : PX)
 | bits (x : PX)
 | ofBits (x : PX)
 | call (f : Nat) (args : List (Nat × PX))
 | callH (f : Nat) (args : List PX)
 | callQ (f : Nat) (args : List (Nat × PX))
 | callV (fs : List Nat) (x : PX) (args : List (Nat × PX))
 deriving Inhabited
structure PO where
 dst : Option Nat
 op : POp
 guard : Option (Nat × Bool)
 after : List Nat
 res : Nat
 deriving Inhabited
inductive PC where
 | skip
 | region (draw : Bool) (nres : Nat) (ops : List PO)
 | seq (a b : PC)
 | cond (c : PX) (x y : PC)
 | block (id : Nat) (c : PC)
 | loop (c : PC)
 | exit (id : Nat)
 | ret
 deriving Inhabited
inductive PR where
 | tmp (t : Nat)
 | cell (ag : Bool) (n : Nat) (a : Nat)
 deriving Inhabited
structure PF where
 ntmps : Nat
 results : List PR
 body : PC
 orc : Option (List D → Option D)
 deriving Inhabited
def PX.ev (ts : List D) : PX → D
 | .t i => ts.getD i .undef
 | .c d => d
def cellsOf : D → List D
 | .agg cs => cs
 | d => [d]
def shaped (ag : Bool) (cs : List D) : Option D :=
 if ag then some (.agg cs) else match cs with | [c] => some c | _ => none
def splice (l : List D) (off : Nat) (m : List D) : List D := l.take off ++ m ++ l.drop (off + m.length)
def fillB : List D → List (Nat × Nat × D) → Option (List D)
 | z, [] => some z
 | z, (off, n, d) :: ps => if (cellsOf d).length = n ∧ off + n ≤ z.length then fillB (splice z off (cellsOf d)) ps else none
def fillS (sz : Nat) : List (List D) → List (Nat × D) → Option (List (List D))
 | z, [] => some z
 | z, (i, d) :: ps => if (cellsOf d).length = sz ∧ i < z.length then fillS sz (z.set i (cellsOf d)) ps else none
def one : D → Bool
 | .agg _ | .tup _ | .own _ _ | .undef | .skip => false
 | _ => true
def binI (op : BinOp) (k : IntKind) (a b : Int) : Option D :=
 match op with
 | .add => some (.int k (k.wrap (a + b)))
 | .sub => some (.int k (k.wrap (a - b)))
 | .mul => some (.int k (k.wrap (a * b)))
 | .quo => if b = 0 then none else some (.int k (k.wrap (a.tdiv b)))
 | .rem => if b = 0 then none else some (.int k (a.tmod b))
 | .and => some (.int k (k.wrap (BitVec.ofInt k.bits a &&& BitVec.ofInt k.bits b).toNat))
 | .or => some (.int k (k.wrap (BitVec.ofInt k.bits a ||| BitVec.ofInt k.bits b).toNat))
 | .xor => some (.int k (k.wrap (BitVec.ofInt k.bits a ^^^ BitVec.ofInt k.bits b).toNat))
 | .andNot => some (.int k (k.wrap (BitVec.ofInt k.bits a &&& ~~~ BitVec.ofInt k.bits b).toNat))
 | .eql => some (.bool (a == b))
 | .neq => some (.bool (a != b))
 | .lss => some (.bool (a < b))
 | .leq => some (.bool (a ≤ b))
 | .gtr => some (.bool (a > b))
 | .geq => some (.bool (a ≥ b))
 | _ => none
def shiftI (op : BinOp) (k : IntKind) (a b : Int) : Option D :=
 if b < 0 then none else
 match op with
 | .shl => some (.int k (k.wrap (a * 2 ^ min b.toNat k.bits)))
 | .shr => some (.int k (a.fdiv (2 ^ min b.toNat k.bits)))
 | _ => none
def binS (op : BinOp) (a b : List UInt8) : Option D :=
 match op with
 | .add => if a.length + b.length ≤ 1099511627776 then some (.str (a ++ b)) else none
 | .eql => some (.bool (a == b))
 | .neq => some (.bool !(a == b))
 | .lss => some (.bool (Op.bytesLess a b))
 | .leq => some (.bool (Op.bytesLess a b || a == b))
 | .gtr => some (.bool !(Op.bytesLess a b || a == b))
 | .geq => some (.bool !(Op.bytesLess a b))
 | _ => none
def isNilS : D → Option Bool
 | .nil => some true
 | .ref _ _ _ => some false
 | .lst _ _ => some false
 | _ => none
def isNilP : D → Option Bool
 | .nilp => some true
 | .ptr _ _ | .fptr _ => some false
 | _ => none
abbrev Fl := Option Nat
def fAdd (a b : Fl) : Fl := a.bind fun x => b.bind fun y => FloatKind.f64.format.add x y
def fSub (a b : Fl) : Fl := a.bind fun x => b.bind fun y => FloatKind.f64.format.sub x y
def fMul (a b : Fl) : Fl := a.bind fun x => b.bind fun y => FloatKind.f64.format.mul x y
def fDiv (a b : Fl) : Fl := a.bind fun x => b.bind fun y => FloatKind.f64.format.div x y
def fOrd (a b : Fl) : Option Ordering := a.bind fun x => b.bind fun y => FloatKind.f64.format.order x y
def fNeg (a : Fl) : Fl := a.map fun x => x ^^^ 2 ^ 63
def fltD (op : BinOp) (a b : Fl) : Option D :=
 match op with
 | .add => some (.flt (fAdd a b))
 | .sub => some (.flt (fSub a b))
 | .mul => some (.flt (fMul a b))
 | .quo => some (.flt (fDiv a b))
 | .eql => some (.bool (fOrd a b == some .eq))
 | .neq => some (.bool (fOrd a b != some .eq))
 | .lss => some (.bool (fOrd a b == some .lt))
 | .leq => some (.bool (fOrd a b == some .lt || fOrd a b == some .eq))
 | .gtr => some (.bool (fOrd a b == some .gt))
 | .geq => some (.bool (fOrd a b == some .gt || fOrd a b == some .eq))
 | _ => none
def binD (op : BinOp) (x y : D) : Option D :=
 match x, y with
 | .int k a, .int k' b =>
  match op with
  | .shl | .shr => shiftI op k a b
  | _ => if k = k' then binI op k a b else none
 | .str a, .str b => binS op a b
 | .flt a, .flt b => fltD op a b
 | _, _ => none
def eqC : D → D → Option Bool
 | .int k a, .int k' b => if k = k' then some (a == b) else none
 | .bool a, .bool b => some (a == b)
 | .str a, .str b => some (a == b)
 | _, _ => none
def eqCs : List D → List D → Option Bool
 | [], [] => some true
 | x :: xs, y :: ys => (eqC x y).bind fun b => if b then eqCs xs ys else some false
 | _, _ => none
def kindD : D → Nat
 | .bool _ => 0
 | .int _ _ => 1
 | .str _ => 2
 | _ => 9
def unD (op : UnOp) (x : D) : Option D :=
 match op, x with
 | .neg, .int k n => some (.int k (k.wrap (0 - n)))
 | .xor, .int k n => binI .xor k (if k.signed then -1 else k.max) n
 | .not, .bool b => some (.bool !b)
 | .neg, .flt a => some (.flt (fNeg a))
 | _, _ => none
def bytesOf : List (List D) → Option (List UInt8)
 | [] => some []
 | [.int .u8 n] :: es => (bytesOf es).map fun l => UInt8.ofNat n.toNat :: l
 | _ => none
def ofBytes (l : List UInt8) : List (List D) := l.map fun b => [.int .u8 (b.toNat : Int)]
def roomy : Nat := 1099511627776
def cut (len : Nat) (lo hi : Option D) : Option (Nat × Nat) :=
 let h : Option Nat := match hi with
  | none => some len
  | some (.int _ n) => if 0 ≤ n ∧ n ≤ len then some n.toNat else none
  | _ => none
 h.bind fun h =>
  match lo with
  | none => some (0, h)
  | some (.int _ n) => if 0 ≤ n ∧ n ≤ h then some (n.toNat, h) else none
  | _ => none
def minmaxI (mx : Bool) : Int → List D → IntKind → Option Int
 | a, [], _ => some a
 | a, .int k' b :: ds, k => if k = k' then minmaxI mx (if mx then (if b > a then b else a) else (if b < a then b else a)) ds k else none
 | _, _, _ => none
def quiet (d : D) : Eff Out := .pure ⟨d, [], []⟩
def quietO : Option D → Eff Out
 | some d => quiet d
 | none => .fail
def source (sz : Nat) : D → Eff (List (List D))
 | .nil => .pure []
 | .lst s es => if s = sz ∨ es.isEmpty then .pure es else .fail
 | .ref id off len => .get id fun s es => if s = sz ∧ off + len ≤ es.length then .pure ((es.drop off).take len) else .fail
 | .str s => if sz = 1 then .pure (ofBytes s) else .fail
 | _ => .fail
def opE (call : CallF) (ρ : PX → D) (r : Nat) : POp → Eff Out
 | .mv x => quiet (ρ x)
 | .pick c a b => match ρ c with
  | .bool t => quiet (if t then ρ a else ρ b)
  | _ => .fail
 | .alloc zero => .new r (.pure ⟨.ptr r 0, [(r, .row zero.length [zero] true)], []⟩)
 | .box n x => if (cellsOf (ρ x)).length = n ∧ (cellsOf (ρ x)).all one then .new r (.pure ⟨.ptr r 0, [(r, .row n [cellsOf (ρ x)] true)], []⟩) else .fail
 | .build zero parts =>
  if parts.all fun p => (cellsOf (ρ p.2.2)).all one then
   quietO ((fillB zero (parts.map fun p => (p.1, p.2.1, ρ p.2.2))).map .agg) else .fail
 | .buildSlice sz n zero parts =>
  if parts.all fun p => (cellsOf (ρ p.2)).all one then
   match fillS sz (List.replicate n zero) (parts.map fun p => (p.1, ρ p.2)) with
   | some es => .new r (.pure ⟨.ref r 0 n, [(r, .row sz es true)], []⟩)
   | none => .fail
  else .fail
 | .load ag n x => match ρ x with
  | .ptr id off => .get id fun sz es =>
   match es[off / sz]? with
   | some e => if off % sz + n ≤ e.length then quietO (shaped ag ((e.drop (off % sz)).take n)) else .fail
   | none => .fail
  | .fptr cs => if n ≤ cs.length then quietO (shaped ag (cs.take n)) else .fail
  | _ => .fail
 | .store n a x => match ρ a with
  | .ptr id off => .live id (.get id fun sz es =>
   match es[off / sz]? with
   | some e =>
    if off % sz + n ≤ e.length ∧ (cellsOf (ρ x)).length = n ∧ (cellsOf (ρ x)).all one then
     .pure ⟨.undef, [(id, .row sz (es.set (off / sz) (splice e (off % sz) (cellsOf (ρ x)))) true)], []⟩
    else .fail
   | none => .fail)
  | _ => .fail
 | .nilCheck x => match ρ x with
  | .ptr id off => quiet (.ptr id off)
  | .fptr cs => quiet (.fptr cs)
  | _ => .fail
 | .bin op x y => quietO (binD op (ρ x) (ρ y))
 | .eqB neg x y => match ρ x, ρ y with
  | .bool a, .bool b => quiet (.bool (if neg then !(a == b) else a == b))
  | _, _ => .fail
 | .eqNS neg x => quietO ((isNilS (ρ x)).map fun t => .bool (if neg then !t else t))
 | .eqNP neg x => quietO ((isNilP (ρ x)).map fun t => .bool (if neg then !t else t))
 | .eqA neg ks x y => match ρ x, ρ y with
  | .agg a, .agg b => if a.map kindD = ks ∧ b.map kindD = ks then quietO ((eqCs a b).map fun t => .bool (if neg then !t else t)) else .fail
  | _, _ => .fail
 | .un op x => quietO (unD op (ρ x))
 | .conv c x => match c with
  | .toInt k => (match ρ x with
   | .int _ n => quiet (.int k (k.wrap n))
   | _ => .fail)
  | .same => quiet (ρ x)
  | .bytesStr => (match ρ x with
   | .nil => quiet (.str [])
   | .lst sz es => if sz = 1 then quietO ((bytesOf es).map .str) else .fail
   | .ref id off len => .get id fun sz es => if sz = 1 ∧ off + len ≤ es.length then quietO ((bytesOf ((es.drop off).take len)).map .str) else .fail
   | _ => .fail)
  | .strBytes => (match ρ x with
   | .str s => if s.length ≤ roomy then quiet (.lst 1 (ofBytes s)) else .fail
   | _ => .fail)
  | .toFlt => (match ρ x with
   | .int _ n => quiet (.flt (some (FloatKind.f64.nearest n)))
   | _ => .fail)
 | .makeSlice sz bytes zero l c => match ρ l, ρ c with
  | .int _ n, .int _ m => if 0 ≤ n ∧ n = m ∧ n ≤ roomy ∧ n * bytes ≤ roomy then .new r (.pure ⟨.ref r 0 n.toNat, [(r, .row sz (List.replicate n.toNat zero) true)], []⟩) else .fail
  | _, _ => .fail
 | .slice sz x lo hi => match ρ x with
  | .nil => quietO ((cut 0 (lo.map ρ) (hi.map ρ)).map fun _ => .nil)
  | .lst s es => if s = sz then quietO ((cut es.length (lo.map ρ) (hi.map ρ)).map fun p => .lst s ((es.drop p.1).take (p.2 - p.1))) else .fail
  | .ref id off len => .get id fun s _ => if s = sz then quietO ((cut len (lo.map ρ) (hi.map ρ)).map fun p => .ref id (off + p.1) (p.2 - p.1)) else .fail
  | _ => .fail
 | .sliceS x lo hi => match ρ x with
  | .str s => quietO ((cut s.length (lo.map ρ) (hi.map ρ)).map fun p => .str ((s.drop p.1).take (p.2 - p.1)))
  | _ => .fail
 | .fieldAddr off _ x => match ρ x with
  | .ptr id o => quiet (.ptr id (o + off))
  | .fptr cs => quiet (.fptr (cs.drop off))
  | _ => .fail
 | .field ag off n x => match ρ x with
  | .agg cs => if off + n ≤ cs.length then quietO (shaped ag ((cs.drop off).take n)) else .fail
  | _ => .fail
 | .indexAddr sz x i => match ρ i with
  | .int _ n => match ρ x with
   | .ref id off len => .get id fun s _ => if 0 ≤ n ∧ n < len ∧ s = sz then quiet (.ptr id ((off + n.toNat) * sz)) else .fail
   | .lst s es => if 0 ≤ n ∧ s = sz then (match es[n.toNat]? with | some e => quiet (.fptr e) | none => .fail) else .fail
   | _ => .fail
  | _ => .fail
 | .indexAddrA sz len x i => match ρ i with
  | .int _ n => if 0 ≤ n ∧ n < len then (match ρ x with
   | .ptr id o => quiet (.ptr id (o + n.toNat * sz))
   | .fptr cs => quiet (.fptr (cs.drop (n.toNat * sz)))
   | _ => .fail) else .fail
  | _ => .fail
 | .index ag sz len x i => match ρ i, ρ x with
  | .int _ n, .agg cs => if 0 ≤ n ∧ n < len ∧ n.toNat * sz + sz ≤ cs.length then quietO (shaped ag ((cs.drop (n.toNat * sz)).take sz)) else .fail
  | _, _ => .fail
 | .indexS x i => match ρ i, ρ x with
  | .int _ n, .str s => if 0 ≤ n then quietO ((s[n.toNat]?).map fun b => .int .u8 (b.toNat : Int)) else .fail
  | _, _ => .fail
 | .extract x i => match ρ x with
  | .tup vs => quietO vs[i]?
  | _ => .fail
 | .lenS x => match ρ x with
  | .str s => quiet (.int .i64 (s.length : Int))
  | _ => .fail
 | .len x => match ρ x with
  | .nil => quiet (.int .i64 0)
  | .lst _ es => quiet (.int .i64 (es.length : Int))
  | .ref _ _ len => quiet (.int .i64 (len : Int))
  | _ => .fail
 | .append sz bytes x y => (source sz (ρ y)).bind fun src =>
  if src.isEmpty then
   (match ρ x with
   | .nil => quiet .nil
   | .ref id off len => quiet (.ref id off len)
   | .lst s es => quiet (.lst s es)
   | _ => .fail)
  else
   (match ρ x with
   | .nil => if src.length ≤ roomy ∧ src.length * bytes ≤ roomy then .new r (.pure ⟨.ref r 0 src.length, [(r, .row sz src true)], []⟩) else .fail
   | .ref id off len => .live id (.get id fun s es =>
    if s = sz ∧ off = 0 ∧ len ≤ es.length ∧ len + src.length ≤ roomy ∧ (len + src.length) * bytes ≤ roomy then
     .new r (.pure ⟨.ref r 0 (len + src.length), [(id, .dead), (r, .row sz (es.take len ++ src) true)], []⟩)
    else .fail)
   | _ => .fail)
 | .minmax mx x ys => match ρ x with
  | .int k a => quietO ((minmaxI mx a (ys.map ρ) k).map (.int k))
  | _ => .fail
 | .mark x => match ρ x with
  | .ref id off len => .live id (.get id fun sz es => if sz = 1 ∧ off = 0 ∧ len = es.length ∧ (bytesOf es).isSome = true ∧ 0 < len then .pure ⟨.lst 1 es, [(id, .dead)], []⟩ else .fail)
  | _ => .fail
 | .bits x => match ρ x with
  | .flt (some b) => quiet (.int .u64 (b : Int))
  | .flt none => quiet .undef
  | _ => .fail
 | .ofBits x => match ρ x with
  | .int .u64 n => quiet (.flt (some n.toNat))
  | _ => .fail
 | .call f args => callE call r f (args.map fun p => (p.1, ρ p.2))
 | .callH _ _ => .fail
 | .callQ f args => (callE call r f (args.map fun p => (p.1, ρ p.2))).bind fun o => if o.ws.isEmpty && o.fz.isEmpty then .pure o else .fail
 | .callV fs x args => match ρ x with
  | .fn f => if fs.contains f then (callE call r f (args.map fun p => (p.1, ρ p.2))).bind fun o => if o.ws.isEmpty && o.fz.isEmpty then .pure o else .fail else .fail
  | _ => .fail
def freeze : Blk → Blk
 | .row sz es _ => .row sz es false
 | b => b
def doWs (H : Heap) : List (Nat × Blk) → Heap
 | [] => H
 | (i, b) :: ws => doWs (H.set i b) ws
def doFz (H : Heap) : List Nat → Heap
 | [] => H
 | i :: is => doFz (H.modify i freeze) is
def Out.on (o : Out) (H : Heap) : Heap := doFz (doWs H o.ws) o.fz
@[ext] structure St where
 ts : List D
 hp : Heap
def putT (ts : List D) (dst : Option Nat) (d : D) : List D :=
 match dst with
 | some i => ts.set i d
 | none => ts
def wantedP (ts : List D) : Option (Nat × Bool) → Bool
 | none => true
 | some (t, b) => match ts.getD t .undef with | .bool c => c == b | _ => false
def guardOk (ts : List D) : Option (Nat × Bool) → Bool
 | none => true
 | some (t, _) => match ts.getD t .undef with | .bool _ => true | .skip => true | _ => false
structure Fp where
 rd : List Nat
 lv : List Nat
 wr : List Nat
 fz : List Nat
 all : Bool
def stepO (call : CallF) (base : Nat) (o : PO) (s : St) : Option St :=
 if guardOk s.ts o.guard then
  if wantedP s.ts o.guard then
   match o.op with
   | .callH f args => (call f (args.map (PX.ev s.ts)) s.hp).map fun x => ⟨putT s.ts o.dst x.1, x.2⟩
   | op => ((opE call (PX.ev s.ts) (base + o.res) op).run s.hp).map fun x => ⟨putT s.ts o.dst x.d, x.on s.hp⟩
  else some ⟨putT s.ts o.dst .skip, s.hp⟩
 else none
def stepFp (call : CallF) (base : Nat) (o : PO) (s : St) : Fp :=
 if wantedP s.ts o.guard then
  match o.op with
  | .callH _ _ => ⟨[], [], [], [], true⟩
  | op =>
   let e := opE call (PX.ev s.ts) (base + o.res) op
   match e.run s.hp with
   | some x => ⟨e.rd s.hp, e.lv s.hp, x.ws.map (·.1), x.fz, false⟩
   | none => ⟨[], [], [], [], false⟩
 else ⟨[], [], [], [], false⟩
def meets (xs ys : List Nat) : Bool := xs.any fun x => ys.contains x
def Fp.idle (a : Fp) : Bool := !a.all && a.rd.isEmpty && a.lv.isEmpty && a.wr.isEmpty && a.fz.isEmpty
def clash (a b : Fp) : Bool :=
 (a.all && !b.idle) || (b.all && !a.idle) ||
 meets a.wr b.rd || meets a.wr b.lv || meets a.wr b.wr || meets a.wr b.fz ||
 meets b.wr a.rd || meets b.wr a.lv || meets b.wr a.fz || meets a.fz b.lv || meets b.fz a.lv
def seqR (call : CallF) (base : Nat) : List PO → St → Option St
 | [], s => some s
 | o :: os, s => (stepO call base o s).bind (seqR call base os)
def seqD (call : CallF) (base : Nat) : List PO → Nat → List (Nat × Fp) → St → Option St
 | [], _, _, s => some s
 | o :: os, i, seen, s =>
  let f := stepFp call base o s
  if seen.all fun p => o.after.contains p.1 || !clash p.2 f then
   (stepO call base o s).bind (seqD call base os (i + 1) ((i, f) :: seen))
  else none
inductive Ex where
 | normal
 | exit (id : Nat)
 | ret
def loopN (body : St → Option (Ex × St)) : Nat → St → Option (Ex × St)
 | 0, _ => none
 | n + 1, s => match body s with
  | some (.normal, s') => loopN body n s'
  | r => r
def code (call : CallF) (fuel : Nat) : PC → St → Option (Ex × St)
 | .skip, s => some (.normal, s)
 | .region draw nres ops, s =>
  let s0 : St := ⟨s.ts, s.hp ++ List.replicate nres .fresh⟩
  ((if draw then seqD call s.hp.length ops 0 [] s0 else seqR call s.hp.length ops s0)).map fun s' => (.normal, s')
 | .seq a b, s => match code call fuel a s with
  | some (.normal, s') => code call fuel b s'
  | r => r
 | .cond c x y, s => match c.ev s.ts with
  | .bool b => if b then code call fuel x s else code call fuel y s
  | _ => none
 | .block id c, s => match code call fuel c s with
  | some (.exit j, s') => if j = id then some (.normal, s') else some (.exit j, s')
  | r => r
 | .loop c, s => loopN (code call fuel c) fuel s
 | .exit id, s => some (.exit id, s)
 | .ret, s => some (.ret, s)
def res1 (s : St) : PR → Option D
 | .tmp t => some (s.ts.getD t .undef)
 | .cell ag n a => match s.ts.getD a .undef with
  | .ptr id 0 => match hat s.hp id with
   | .row _ [e] _ => if e.length = n then shaped ag e else none
   | _ => none
  | _ => none
def resL (s : St) : List PR → Option (List D)
 | [] => some []
 | r :: rs => (res1 s r).bind fun d => (resL s rs).map fun ds => d :: ds
def resV (s : St) (rs : List PR) : Option D :=
 (resL s rs).map fun ds => match ds with | [d] => d | ds => .tup ds
abbrev Prog := Nat → Option PF
def runN (P : Prog) : Nat → CallF
 | 0 => fun _ _ _ => none
 | n + 1 => fun f args H =>
  match P f with
  | none => none
  | some pf => match pf.orc with
   | some g => (g args).map fun d => (d, H)
   | none => match code (runN P n) n pf.body ⟨args ++ List.replicate (pf.ntmps - args.length) .undef, H⟩ with
   | some (.normal, s) | some (.ret, s) => (resV s pf.results).map fun d => (d, s.hp)
   | _ => none
end Go.Pi
namespace Go.Pi
set_option linter.unusedVariables false
theorem add_mk (b o k : Nat) : (⟨b, o, none⟩ : Addr).add k = ⟨b, o + k, none⟩ := by unfold Addr.add; split <;> simp_all
inductive GS where
 | fresh
 | row (b cap sz : Nat)
abbrev Gh := Nat → GS
def upd (G : Gh) (i : Nat) (s : GS) : Gh := fun j => if j = i then s else G j
theorem upd_same (G : Gh) (i : Nat) (s : GS) : upd G i s i = s := by simp [upd]
theorem upd_ne (G : Gh) {i j : Nat} (s : GS) (h : j ≠ i) : upd G i s j = G j := by simp [upd, h]
def GS.le : GS → GS → Prop
 | .fresh, _ => True
 | .row b c z, s => s = .row b c z
theorem GS.le_refl (s : GS) : s.le s := by cases s <;> simp [GS.le]
theorem GS.le_trans {a b c : GS} (h : a.le b) (k : b.le c) : a.le c := by
 cases a <;> cases b <;> simp_all [GS.le]
theorem GS.ne_fresh {s : GS} (h : s ≠ .fresh) : ∃ b c z, s = .row b c z := by
 cases s with
 | fresh => exact absurd rfl h
 | row b c z => exact ⟨b, c, z, rfl⟩
def gle (G G' : Gh) : Prop := ∀ i, (G i).le (G' i)
theorem gle_refl (G : Gh) : gle G G := fun i => GS.le_refl _
theorem gle_trans {G G' G'' : Gh} (h : gle G G') (k : gle G' G'') : gle G G'' := fun i => GS.le_trans (h i) (k i)
def nanBits (b : Nat) : Prop := FloatKind.f64.format.order b b = none
def FlB (a : Option Nat) (m : Nat) : Prop := match a with
 | some b => m = b
 | none => nanBits m
section
variable (fm : Nat → Nat)
inductive RepC (ok : Nat → Prop) (w : World) : Value → D → Prop where
 | undef (v : Value) : RepC ok w v .undef
 | skip : RepC ok w Go.undef .skip
 | bool (b : Bool) : RepC ok w (.bool b) (.bool b)
 | int (k : IntKind) (n : Int) : RepC ok w (.int k n) (.int k n)
 | flt (a : Option Nat) (m : Nat) (h : FlB a m) : RepC ok w (.float .f64 m) (.flt a)
 | str (s : List UInt8) : RepC ok w (.string ⟨s.toArray⟩) (.str s)
 | nil : RepC ok w (.slice none 0 0) .nil
 | lst0 (sz : Nat) (A : Addr) (c : Nat) : RepC ok w (.slice (some A) 0 c) (.lst sz [])
 | lst1 (sz : Nat) (es : List (List D)) (b o c : Nat) (u : Nat → Nat → Value) (hc : es.length ≤ c) (hok : ok b)
   (hlen : ∀ e ∈ es, e.length = sz)
   (hcell : ∀ (i j : Nat) (e : List D) (d : D), es[i]? = some e → e[j]? = some d → w.cell? ⟨b, o + (i * sz + j), none⟩ = some (u i j))
   (hone : ∀ (i j : Nat) (e : List D) (d : D), es[i]? = some e → e[j]? = some d → (u i j).oneCell' = true)
   (hrep : ∀ (i j : Nat) (e : List D) (d : D), es[i]? = some e → e[j]? = some d → RepC ok w (u i j) d) :
   RepC ok w (.slice (some ⟨b, o, none⟩) es.length c) (.lst sz es)
 | fptr (cs : List D) (b o : Nat) (u : Nat → Value) (hok : ok b)
   (hcell : ∀ (j : Nat) (d : D), cs[j]? = some d → w.cell? ⟨b, o + j, none⟩ = some (u j))
   (hone : ∀ (j : Nat) (d : D), cs[j]? = some d → (u j).oneCell' = true)
   (hrep : ∀ (j : Nat) (d : D), cs[j]? = some d → RepC ok w (u j) d) :
   RepC ok w (.pointer (some ⟨b, o, none⟩)) (.fptr cs)
 | nilp : RepC ok w (.pointer none) .nilp
 | agg (cs : List D) (vs : List Value) (hl : vs.length = cs.length)
   (hone : ∀ v ∈ vs, v.oneCell' = true)
   (hrep : ∀ (j : Nat) (d : D) (v : Value), cs[j]? = some d → vs[j]? = some v → RepC ok w v d) :
   RepC ok w (.agg vs.toArray) (.agg cs)
 | fn (f : Nat) : RepC ok w (.func (.func (fm f)) #[] #[]) (.fn f)
theorem RepC.mono {ok ok' : Nat → Prop} {w w' : World} (hk : ∀ b, ok b → ok' b) (hw : ∀ b o v, ok b → w.cell? ⟨b, o, none⟩ = some v → w'.cell? ⟨b, o, none⟩ = some v)
  {v : Value} {d : D} (h : RepC fm ok w v d) : RepC fm ok' w' v d := by
 induction h with
 | undef v => exact .undef v
 | skip => exact .skip
 | bool b => exact .bool b
 | int k n => exact .int k n
 | flt a m h => exact .flt a m h
 | str s => exact .str s
 | nil => exact .nil
 | lst0 sz A c => exact .lst0 sz A c
 | lst1 sz es b o c u hc hok hlen hcell hone hrep ih =>
  exact .lst1 sz es b o c u hc (hk _ hok) hlen (fun i j e d h1 h2 => hw _ _ _ hok (hcell i j e d h1 h2)) hone ih
 | fptr cs b o u hok hcell hone hrep ih => exact .fptr cs b o u (hk _ hok) (fun j d h => hw _ _ _ hok (hcell j d h)) hone ih
 | nilp => exact .nilp
 | agg cs vs hl hone hrep ih => exact .agg cs vs hl hone ih
 | fn f => exact .fn f
def RefV (v : Value) (b cap sz off len : Nat) : Prop :=
 off + len ≤ cap ∧ ∃ (a : Addr), v = .slice (some a) len (cap - off) ∧ (a = ⟨b, off * sz, none⟩ ∨ cap - off = 0)
inductive Rep (G : Gh) (ok : Nat → Prop) (w : World) : Value → D → Prop where
 | closed {v : Value} {d : D} (h : RepC fm ok w v d) : Rep G ok w v d
 | ref (id off len : Nat) (v : Value) (hf : G id ≠ .fresh) (h : ∀ b cap sz, G id = .row b cap sz → RefV v b cap sz off len) (h1 : v.oneCell' = true) : Rep G ok w v (.ref id off len)
 | ptr (id off : Nat) (v : Value) (hf : G id ≠ .fresh) (h : ∀ b cap sz, G id = .row b cap sz → v = .pointer (some ⟨b, off, none⟩)) (h1 : v.oneCell' = true) : Rep G ok w v (.ptr id off)
 | agg (cs : List D) (vs : List Value) (hl : vs.length = cs.length)
   (hone : ∀ v ∈ vs, v.oneCell' = true)
   (hrep : ∀ (j : Nat) (d : D) (v : Value), cs[j]? = some d → vs[j]? = some v → Rep G ok w v d) :
   Rep G ok w (.agg vs.toArray) (.agg cs)
 | tup (ds : List D) (vs : List Value) (hl : vs.length = ds.length)
   (hrep : ∀ (j : Nat) (d : D) (v : Value), ds[j]? = some d → vs[j]? = some v → Rep G ok w v d) :
   Rep G ok w (.tuple vs.toArray) (.tup ds)
theorem Rep.mono {G G' : Gh} {ok ok' : Nat → Prop} {w w' : World} (hg : gle G G') (hk : ∀ b, ok b → ok' b)
  (hw : ∀ b o v, ok b → w.cell? ⟨b, o, none⟩ = some v → w'.cell? ⟨b, o, none⟩ = some v)
  {v : Value} {d : D} (h : Rep fm G ok w v d) : Rep fm G' ok' w' v d := by
 induction h with
 | closed h => exact .closed (h.mono fm hk hw)
 | ref id off len v hf h h1 =>
  refine .ref id off len v ?_ ?_ h1
  ·intro e
   obtain ⟨b, c, z, hG⟩ := GS.ne_fresh hf
   have := hg id
   rw [e, hG] at this
   simp [GS.le] at this
  ·intro b cap sz e
   obtain ⟨b', c', z', hG⟩ := GS.ne_fresh hf
   have := hg id
   rw [e, hG] at this
   simp [GS.le] at this
   obtain ⟨rfl, rfl, rfl⟩ := this
   exact h _ _ _ hG
 | ptr id off v hf h h1 =>
  refine .ptr id off v ?_ ?_ h1
  ·intro e
   obtain ⟨b, c, z, hG⟩ := GS.ne_fresh hf
   have := hg id
   rw [e, hG] at this
   simp [GS.le] at this
  ·intro b cap sz e
   obtain ⟨b', c', z', hG⟩ := GS.ne_fresh hf
   have := hg id
   rw [e, hG] at this
   simp [GS.le] at this
   obtain ⟨rfl, rfl, rfl⟩ := this
   exact h _ _ _ hG
 | agg cs vs hl hone hrep ih => exact .agg cs vs hl hone ih
 | tup ds vs hl hrep ih => exact .tup ds vs hl ih
structure RowOk (rep : Value → D → Prop) (w : World) (sz : Nat) (es : List (List D)) (b cap : Nat) : Prop where
 blk : ∃ (c : Array Value) (T : TypeId), w.heap[b]? = some (.cells c T (0, 0)) ∧ c.size = cap * sz ∧
  ∀ (i j : Nat) (e : List D) (d : D), es[i]? = some e → e[j]? = some d → ∃ u, c[i * sz + j]? = some u ∧ u.oneCell' = true ∧ rep u d
 len : es.length ≤ cap
 cap : cap ≤ maxLen
 each : ∀ e ∈ es, e.length = sz
def isRow (H : Heap) (i : Nat) : Prop := ∃ sz es lv, hat H i = .row sz es lv
structure Base where
 A : Nat → Prop
 W0 : World
 L0 : Nat → Prop
def Lv (G : Gh) (H : Heap) (b : Nat) : Prop := ∃ id sz es cap sz', hat H id = .row sz es true ∧ G id = .row b cap sz'
def okB (B : Base) (G : Gh) (H : Heap) (w : World) (b : Nat) : Prop := (B.A b ∨ B.L0 b ∨ B.W0.heap.size ≤ b) ∧ ¬ Lv G H b ∧ b < w.heap.size
structure Inv (B : Base) (w : World) (G : Gh) (H : Heap) : Prop where
 size : B.W0.heap.size ≤ w.heap.size
 os : w.os = B.W0.os
 tape : w.tape = B.W0.tape
 output : w.output = B.W0.output
 frame : ∀ b, b < B.W0.heap.size → ¬ B.L0 b → w.heap[b]? = B.W0.heap[b]?
 rows : ∀ id sz es lv, hat H id = .row sz es lv → ∃ b cap, G id = .row b cap sz ∧ (B.L0 b ∨ B.W0.heap.size ≤ b) ∧ RowOk (Rep fm G (okB B G H w) w) w sz es b cap
 fresh : ∀ id, hat H id = .fresh → G id = .fresh
 dead : ∀ id, hat H id = .dead → G id ≠ .fresh
 inj : ∀ i j b cap sz cap' sz', isRow H i → isRow H j → G i = .row b cap sz → G j = .row b cap' sz' → i = j
 A0 : ∀ b, B.A b → ¬ B.L0 b ∧ b < B.W0.heap.size
structure Adv (B : Base) (w : World) (G : Gh) (H : Heap) (w' : World) (G' : Gh) (H' : Heap) : Prop where
 gh : gle G G'
 ok : ∀ b, okB B G H w b → okB B G' H' w' b
 cell : ∀ b o v, okB B G H w b → w.cell? ⟨b, o, none⟩ = some v → w'.cell? ⟨b, o, none⟩ = some v
variable {fm}
theorem Adv.refl (B : Base) (w : World) (G : Gh) (H : Heap) : Adv B w G H w G H := ⟨gle_refl _, fun _ h => h, fun _ _ _ _ h => h⟩
theorem Adv.trans {B : Base} {w w1 w2 : World} {G G1 G2 : Gh} {H H1 H2 : Heap} (h : Adv B w G H w1 G1 H1) (k : Adv B w1 G1 H1 w2 G2 H2) : Adv B w G H w2 G2 H2 :=
 ⟨gle_trans h.gh k.gh, fun b hb => k.ok b (h.ok b hb), fun b o v hb hc => k.cell b o v (h.ok b hb) (h.cell b o v hb hc)⟩
theorem Adv.rep {B : Base} {w w' : World} {G G' : Gh} {H H' : Heap} (h : Adv B w G H w' G' H') {v : Value} {d : D} (hr : Rep fm G (okB B G H w) w v d) :
  Rep fm G' (okB B G' H' w') w' v d := hr.mono fm h.gh h.ok h.cell
theorem RowOk.mono {rep rep' : Value → D → Prop} {w w' : World} {sz : Nat} {es : List (List D)} {b cap : Nat} (h : RowOk rep w sz es b cap)
  (hr : ∀ v d, rep v d → rep' v d) (hb : w'.heap[b]? = w.heap[b]?) : RowOk rep' w' sz es b cap := by
 obtain ⟨⟨c, T, h1, h2, h3⟩, h4, h5, h6⟩ := h
 exact ⟨⟨c, T, by rw [hb]; exact h1, h2, fun i j e d he hd => let ⟨u, a1, a2, a3⟩ := h3 i j e d he hd; ⟨u, a1, a2, hr _ _ a3⟩⟩, h4, h5, h6⟩
theorem hat_set (H : Heap) (i j : Nat) (b : Blk) : hat (H.set i b) j = if i = j ∧ i < H.length then b else hat H j := by
 unfold hat
 simp only [List.getD_eq_getElem?_getD, List.getElem?_set]
 by_cases h : i = j
 ·subst h
  by_cases hl : i < H.length
  ·simp [hl]
  ·simp [hl]
 ·simp [h]
theorem hat_set_same {H : Heap} {i : Nat} (h : i < H.length) (b : Blk) : hat (H.set i b) i = b := by simp [hat_set, h]
theorem hat_set_ne (H : Heap) {i j : Nat} (h : i ≠ j) (b : Blk) : hat (H.set i b) j = hat H j := by simp [hat_set, h]
theorem hat_lt {H : Heap} {i : Nat} (h : hat H i ≠ .fresh) : i < H.length := by
 unfold hat at h
 by_cases hl : i < H.length
 ·exact hl
 ·exact absurd (by simp [List.getD_eq_getElem?_getD, List.getElem?_eq_none (by omega : H.length ≤ i)]) h
theorem hat_modify (H : Heap) (i j : Nat) : hat (H.modify i freeze) j = if i = j then freeze (hat H j) else hat H j := by
 unfold hat
 simp only [List.getD_eq_getElem?_getD, List.getElem?_modify]
 by_cases h : i = j
 ·subst h
  cases hx : H[i]? <;> simp [freeze]
 ·simp [h]
theorem hat_append_fresh (H : Heap) (n j : Nat) : hat (H ++ List.replicate n .fresh) j = hat H j := by
 unfold hat
 simp only [List.getD_eq_getElem?_getD, List.getElem?_append]
 by_cases h : j < H.length
 ·simp [h]
 ·simp only [h, if_false]
  rw [List.getElem?_eq_none (by omega : H.length ≤ j), List.getElem?_replicate]
  split <;> rfl
end
section
variable {fm : Nat → Nat} {G : Gh} {ok : Nat → Prop} {w : World} {v : Value}
theorem Rep.inv_bool {b : Bool} (h : Rep fm G ok w v (.bool b)) : v = .bool b := by cases h with | closed h => cases h; rfl
theorem Rep.inv_int {k : IntKind} {n : Int} (h : Rep fm G ok w v (.int k n)) : v = .int k n := by cases h with | closed h => cases h; rfl
theorem Rep.inv_skip (h : Rep fm G ok w v .skip) : v = undef := by cases h with | closed h => cases h; rfl
theorem Rep.inv_flt {a : Option Nat} (h : Rep fm G ok w v (.flt a)) : ∃ m, v = .float .f64 m ∧ FlB a m := by
 cases h with
 | closed h => cases h with
  | flt a m h => exact ⟨m, rfl, h⟩
theorem Rep.inv_str {s : List UInt8} (h : Rep fm G ok w v (.str s)) : v = .string ⟨s.toArray⟩ := by cases h with | closed h => cases h; rfl
theorem Rep.inv_nil (h : Rep fm G ok w v .nil) : v = .slice none 0 0 := by cases h with | closed h => cases h; rfl
theorem Rep.inv_nilp (h : Rep fm G ok w v .nilp) : v = .pointer none := by cases h with | closed h => cases h; rfl
theorem Rep.inv_fn {f : Nat} (h : Rep fm G ok w v (.fn f)) : v = .func (.func (fm f)) #[] #[] := by cases h with | closed h => cases h; rfl
theorem Rep.inv_ref {id off len b cap sz : Nat} (h : Rep fm G ok w v (.ref id off len)) (hg : G id = .row b cap sz) : RefV v b cap sz off len := by
 cases h with
 | closed h => cases h
 | ref _ _ _ _ hf h _ => exact h _ _ _ hg
theorem Rep.inv_ptr {id off b cap sz : Nat} (h : Rep fm G ok w v (.ptr id off)) (hg : G id = .row b cap sz) : v = .pointer (some ⟨b, off, none⟩) := by
 cases h with
 | closed h => cases h
 | ptr _ _ _ hf h => exact h _ _ _ hg
theorem Rep.ref_fresh {id off len : Nat} (h : Rep fm G ok w v (.ref id off len)) : G id ≠ .fresh := by
 cases h with
 | closed h => cases h
 | ref _ _ _ _ hf h _ => exact hf
theorem Rep.ptr_fresh {id off : Nat} (h : Rep fm G ok w v (.ptr id off)) : G id ≠ .fresh := by
 cases h with
 | closed h => cases h
 | ptr _ _ _ hf h => exact hf
theorem Rep.inv_agg {cs : List D} (h : Rep fm G ok w v (.agg cs)) : ∃ vs : List Value, v = .agg vs.toArray ∧ vs.length = cs.length ∧ (∀ v ∈ vs, v.oneCell' = true) ∧
  ∀ (j : Nat) (d : D) (v : Value), cs[j]? = some d → vs[j]? = some v → Rep fm G ok w v d := by
 cases h with
 | closed h => cases h with
  | agg _ vs hl hone hrep => exact ⟨vs, rfl, hl, hone, fun j d v h1 h2 => .closed (hrep j d v h1 h2)⟩
 | agg _ vs hl hone hrep => exact ⟨vs, rfl, hl, hone, hrep⟩
theorem Rep.inv_tup {ds : List D} (h : Rep fm G ok w v (.tup ds)) : ∃ vs : List Value, v = .tuple vs.toArray ∧ vs.length = ds.length ∧
  ∀ (j : Nat) (d : D) (v : Value), ds[j]? = some d → vs[j]? = some v → Rep fm G ok w v d := by
 cases h with
 | closed h => cases h
 | tup _ vs hl hrep => exact ⟨vs, rfl, hl, hrep⟩
theorem Rep.inv_lst {sz : Nat} {es : List (List D)} (h : Rep fm G ok w v (.lst sz es)) : RepC fm ok w v (.lst sz es) := by
 cases h with | closed h => exact h
theorem Rep.inv_fptr {cs : List D} (h : Rep fm G ok w v (.fptr cs)) : RepC fm ok w v (.fptr cs) := by
 cases h with | closed h => exact h
theorem Rep.one {d : D} (h : Rep fm G ok w v d) (hd : one d = true) : v.oneCell' = true := by
 cases h with
 | closed h => cases h <;> first | rfl | (simp [Pi.one] at hd)
 | ref id off len v hf h h1 => exact h1
 | ptr id off v hf h h1 => exact h1
 | agg => simp [Pi.one] at hd
 | tup => simp [Pi.one] at hd
end
end Go.Pi
namespace Go.Pi
set_option linter.unusedVariables false
section
variable {fm : Nat → Nat} {B : Base} {w w' : World} {G G' : Gh} {H H' : Heap}
theorem adv_mk (hg : gle G G') (hsz : w.heap.size ≤ w'.heap.size)
  (hframe : ∀ b, b < w.heap.size → ¬ Lv G H b → w'.heap[b]? = w.heap[b]?)
  (hlv : ∀ b, Lv G' H' b → Lv G H b ∨ w.heap.size ≤ b) : Adv B w G H w' G' H' := by
 refine ⟨hg, ?_, ?_⟩
 ·intro b ⟨h1, h2, h3⟩
  refine ⟨h1, ?_, by omega⟩
  intro h
  rcases hlv b h with h | h
  ·exact h2 h
  ·omega
 ·intro b o v ⟨h1, h2, h3⟩ hc
  rw [World.cell?_of_block (w := w) (w' := w') (a := ⟨b, o, none⟩) (hframe b h3 h2)]
  exact hc
theorem inv_mk (hI : Inv fm B w G H) (hsz : w.heap.size ≤ w'.heap.size) (hos : w'.os = w.os) (htape : w'.tape = w.tape) (hout : w'.output = w.output)
  (hframe : ∀ b, b < w.heap.size → ¬ Lv G H b → w'.heap[b]? = w.heap[b]?)
  (hrows : ∀ id sz es lv, hat H' id = .row sz es lv → ∃ b cap, G' id = .row b cap sz ∧ (B.L0 b ∨ B.W0.heap.size ≤ b) ∧ RowOk (Rep fm G' (okB B G' H' w') w') w' sz es b cap)
  (hfresh : ∀ id, hat H' id = .fresh → G' id = .fresh) (hdead : ∀ id, hat H' id = .dead → G' id ≠ .fresh)
  (hinj : ∀ i j b cap sz cap' sz', isRow H' i → isRow H' j → G' i = .row b cap sz → G' j = .row b cap' sz' → i = j) : Inv fm B w' G' H' := by
 refine ⟨Nat.le_trans hI.size hsz, hos.trans hI.os, htape.trans hI.tape, hout.trans hI.output, ?_, hrows, hfresh, hdead, hinj, hI.A0⟩
 intro b hb hl
 rw [hframe b (Nat.lt_of_lt_of_le hb hI.size) ?_, hI.frame b hb hl]
 rintro ⟨id, sz, es, cap, sz', h1, h2⟩
 obtain ⟨b', cap', h3, h4, _⟩ := hI.rows id sz es true h1
 rw [h2] at h3
 injection h3 with e1 e2 e3
 subst e1
 rcases h4 with h4 | h4
 ·exact hl h4
 ·omega
theorem Inv.blk_lt (hI : Inv fm B w G H) {id b cap sz : Nat} (hr : isRow H id) (h : G id = .row b cap sz) : b < w.heap.size := by
 obtain ⟨sz', es, lv, hh⟩ := hr
 obtain ⟨b', cap', h1, _, h3⟩ := hI.rows id sz' es lv hh
 rw [h] at h1
 injection h1 with e1 e2 e3
 subst e1
 obtain ⟨⟨c, T, k1, _⟩, _⟩ := h3
 exact (Array.getElem?_eq_some_iff.1 k1).1
theorem RowOk.lt {rep : Value → D → Prop} {sz : Nat} {es : List (List D)} {b cap : Nat} (h : RowOk rep w sz es b cap) : b < w.heap.size := by
 obtain ⟨⟨c, T, h1, _⟩, _⟩ := h
 exact (Array.getElem?_eq_some_iff.1 h1).1
structure NewBlk (w w' : World) (c : Array Value) (T : TypeId) : Prop where
 os : w'.os = w.os
 tape : w'.tape = w.tape
 output : w'.output = w.output
 size : w'.heap.size = w.heap.size + 1
 old : ∀ b, b < w.heap.size → w'.heap[b]? = w.heap[b]?
 new : w'.heap[w.heap.size]? = some (.cells c T (0, 0))
theorem NewBlk.alloc (w : World) (c : Array Value) (T : TypeId) : NewBlk w (w.alloc (.cells c T)) c T :=
 ⟨rfl, rfl, rfl, by simp, fun b hb => heap_alloc_old w _ b hb, heap_alloc_new w _⟩
theorem NewBlk.drew_alloc (w : World) (c : Array Value) (T : TypeId) : NewBlk w (w.drew.alloc (.cells c T)) c T :=
 ⟨rfl, rfl, rfl, by simp, fun b hb => heap_alloc_old w.drew _ b hb, heap_alloc_new w.drew _⟩
theorem lv_set {r : Nat} {blk : Blk} {b : Nat} (h : Lv G' (H.set r blk) b) (hG : ∀ id, id ≠ r → G' id = G id) :
  Lv G H b ∨ (∃ sz es cap sz', blk = .row sz es true ∧ G' r = .row b cap sz') := by
 obtain ⟨id, sz, es, cap, sz', h1, h2⟩ := h
 rw [hat_set] at h1
 split at h1
 ·rename_i hc
  obtain ⟨rfl, _⟩ := hc
  exact .inr ⟨sz, es, cap, sz', h1, h2⟩
 ·by_cases e : id = r
  ·subst e
   rename_i hc
   have hl : ¬ id < H.length := fun h => hc ⟨rfl, h⟩
   have : hat H id = .fresh := by
    unfold hat
    simp [List.getD_eq_getElem?_getD, List.getElem?_eq_none (by omega : H.length ≤ id)]
   rw [this] at h1; cases h1
  ·exact .inl ⟨id, sz, es, cap, sz', h1, (hG id e) ▸ h2⟩
theorem inv_new (hI : Inv fm B w G H) {r : Nat} (hr : r < H.length) (hf : hat H r = .fresh) {c : Array Value} {T : TypeId} (hn : NewBlk w w' c T)
  {sz cap : Nat} {es : List (List D)} (hc : c.size = cap * sz) (hlen : es.length ≤ cap) (hcap : cap ≤ maxLen) (hes : ∀ e ∈ es, e.length = sz)
  (hcell : ∀ (i j : Nat) (e : List D) (d : D), es[i]? = some e → e[j]? = some d → ∃ u, c[i * sz + j]? = some u ∧ u.oneCell' = true ∧ Rep fm G (okB B G H w) w u d) :
  Adv B w G H w' (upd G r (.row w.heap.size cap sz)) (H.set r (.row sz es true)) ∧ Inv fm B w' (upd G r (.row w.heap.size cap sz)) (H.set r (.row sz es true)) := by
 have hGr : G r = .fresh := hI.fresh r hf
 have hsz : w.heap.size ≤ w'.heap.size := by rw [hn.size]; omega
 have hframe : ∀ b, b < w.heap.size → ¬ Lv G H b → w'.heap[b]? = w.heap[b]? := fun b hb _ => hn.old b hb
 have ha : Adv B w G H w' (upd G r (.row w.heap.size cap sz)) (H.set r (.row sz es true)) := by
  refine adv_mk ?_ hsz hframe ?_
  ·intro i
   by_cases e : i = r
   ·subst e; rw [hGr]; trivial
   ·rw [upd_ne _ _ e]; exact GS.le_refl _
  ·intro b hb
   rcases lv_set hb (fun id e => upd_ne _ _ e) with h | ⟨_, _, _, _, _, h⟩
   ·exact .inl h
   ·rw [upd_same] at h
    injection h with h _ _
    exact .inr (by omega)
 refine ⟨ha, inv_mk hI hsz hn.os hn.tape hn.output hframe ?_ ?_ ?_ ?_⟩
 ·intro id sz' es' lv h
  rw [hat_set] at h
  split at h
  ·rename_i hc'
   obtain ⟨rfl, _⟩ := hc'
   injection h with e1 e2 e3
   subst e1; subst e2
   refine ⟨w.heap.size, cap, upd_same _ _ _, .inr hI.size, ⟨⟨c, T, hn.new, hc, ?_⟩, hlen, hcap, hes⟩⟩
   intro i j e d h1 h2
   obtain ⟨u, a1, a2, a3⟩ := hcell i j e d h1 h2
   exact ⟨u, a1, a2, ha.rep a3⟩
  ·obtain ⟨b, cap', h1, h2, h3⟩ := hI.rows id sz' es' lv h
   have hne : id ≠ r := by rintro rfl; rw [hGr] at h1; cases h1
   exact ⟨b, cap', by rw [upd_ne _ _ hne]; exact h1, h2, h3.mono (fun v d hv => ha.rep hv) (hn.old b h3.lt)⟩
 ·intro id h
  rw [hat_set] at h
  split at h
  ·cases h
  ·have hne : id ≠ r := by
    rintro rfl
    rename_i hc'
    exact hc' ⟨rfl, hr⟩
   rw [upd_ne _ _ hne]
   exact hI.fresh id h
 ·intro id h
  rw [hat_set] at h
  split at h
  ·cases h
  ·have hne : id ≠ r := by
    rintro rfl
    rename_i hc'
    exact hc' ⟨rfl, hr⟩
   rw [upd_ne _ _ hne]
   exact hI.dead id h
 ·have hrow : ∀ k, k ≠ r → isRow (H.set r (.row sz es true)) k → isRow H k := by
   rintro k hk ⟨a, b, c, h⟩
   rw [hat_set_ne _ (Ne.symm hk)] at h
   exact ⟨a, b, c, h⟩
  intro i j b cap1 sz1 cap2 sz2 r1 r2 h1 h2
  by_cases e1 : i = r <;> by_cases e2 : j = r
  ·rw [e1, e2]
  ·subst e1
   rw [upd_same] at h1; rw [upd_ne _ _ e2] at h2
   injection h1 with a1 _ _
   have := hI.blk_lt (hrow j e2 r2) h2
   omega
  ·subst e2
   rw [upd_same] at h2; rw [upd_ne _ _ e1] at h1
   injection h2 with a1 _ _
   have := hI.blk_lt (hrow i e1 r1) h1
   omega
  ·rw [upd_ne _ _ e1] at h1; rw [upd_ne _ _ e2] at h2
   exact hI.inj _ _ _ _ _ _ _ (hrow i e1 r1) (hrow j e2 r2) h1 h2
theorem inv_store (hI : Inv fm B w G H) {id sz : Nat} {es es' : List (List D)} (hh : hat H id = .row sz es true) {b cap : Nat} (hG : G id = .row b cap sz)
  (hsize : w'.heap.size = w.heap.size) (hos : w'.os = w.os) (htape : w'.tape = w.tape) (hout : w'.output = w.output)
  (hold : ∀ k, k ≠ b → w'.heap[k]? = w.heap[k]?)
  (hrow : RowOk (Rep fm G (okB B G H w) w) w' sz es' b cap) :
  Adv B w G H w' G (H.set id (.row sz es' true)) ∧ Inv fm B w' G (H.set id (.row sz es' true)) := by
 have hsz : w.heap.size ≤ w'.heap.size := by omega
 have hlv : Lv G H b := ⟨id, sz, es, cap, sz, hh, hG⟩
 have hid : id < H.length := hat_lt (by rw [hh]; simp)
 have hframe : ∀ k, k < w.heap.size → ¬ Lv G H k → w'.heap[k]? = w.heap[k]? := fun k hk h => hold k (by rintro rfl; exact h hlv)
 have ha : Adv B w G H w' G (H.set id (.row sz es' true)) := by
  refine adv_mk (gle_refl _) hsz hframe ?_
  intro k hk
  rcases lv_set hk (fun _ _ => rfl) with h | ⟨_, _, _, _, _, h⟩
  ·exact .inl h
  ·rw [hG] at h
   injection h with h _ _
   subst h
   exact .inl hlv
 have hrow' : ∀ k, isRow (H.set id (.row sz es' true)) k → isRow H k := by
  rintro k ⟨a, b, c, h⟩
  by_cases e : k = id
  ·subst e; exact ⟨_, _, _, hh⟩
  ·rw [hat_set_ne _ (Ne.symm e)] at h
   exact ⟨a, b, c, h⟩
 refine ⟨ha, inv_mk hI hsz hos htape hout hframe ?_ ?_ ?_ (fun i j b cap sz cap' sz' r1 r2 h1 h2 => hI.inj i j b cap sz cap' sz' (hrow' i r1) (hrow' j r2) h1 h2)⟩
 ·intro i sz1 es1 lv h
  rw [hat_set] at h
  split at h
  ·rename_i hc
   obtain ⟨rfl, _⟩ := hc
   injection h with e1 e2 e3
   subst e1; subst e2
   obtain ⟨b', cap', h1, h2, h3⟩ := hI.rows id sz es true hh
   rw [hG] at h1
   injection h1 with e1 e2 _
   subst e1; subst e2
   exact ⟨b, cap, hG, h2, hrow.mono (fun v d hv => ha.rep hv) rfl⟩
  ·obtain ⟨b', cap', h1, h2, h3⟩ := hI.rows i sz1 es1 lv h
   have hne : b' ≠ b := by
    rintro rfl
    have := hI.inj _ _ _ _ _ _ _ ⟨_, _, _, h⟩ ⟨_, _, _, hh⟩ h1 hG
    subst this
    rename_i hc
    exact hc ⟨rfl, hid⟩
   exact ⟨b', cap', h1, h2, h3.mono (fun v d hv => ha.rep hv) (hold b' hne)⟩
 ·intro i h
  rw [hat_set] at h
  split at h
  ·cases h
  ·exact hI.fresh i h
 ·intro i h
  rw [hat_set] at h
  split at h
  ·cases h
  ·exact hI.dead i h
theorem inv_append (hI : Inv fm B w G H) {id r sz : Nat} {es es' : List (List D)} (hh : hat H id = .row sz es true) {b cap : Nat} (hG : G id = .row b cap sz)
  (hr : r < H.length) (hf : hat H r = .fresh)
  (hsz : w.heap.size ≤ w'.heap.size) (hos : w'.os = w.os) (htape : w'.tape = w.tape) (hout : w'.output = w.output)
  (hold : ∀ k, k < w.heap.size → k ≠ b → w'.heap[k]? = w.heap[k]?)
  {b' cap' : Nat} (hb' : b' = b ∨ w.heap.size ≤ b')
  (hrow : RowOk (Rep fm G (okB B G H w) w) w' sz es' b' cap') :
  Adv B w G H w' (upd G r (.row b' cap' sz)) ((H.set id .dead).set r (.row sz es' true)) ∧
   Inv fm B w' (upd G r (.row b' cap' sz)) ((H.set id .dead).set r (.row sz es' true)) := by
 have hlvb : Lv G H b := ⟨id, sz, es, cap, sz, hh, hG⟩
 have hid : id < H.length := hat_lt (by rw [hh]; simp)
 have hGr : G r = .fresh := hI.fresh r hf
 have hne : id ≠ r := by rintro rfl; rw [hh] at hf; cases hf
 have hframe : ∀ k, k < w.heap.size → ¬ Lv G H k → w'.heap[k]? = w.heap[k]? := fun k hk h => hold k hk (by rintro rfl; exact h hlvb)
 have hGr' : upd G r (.row b' cap' sz) r = .row b' cap' sz := upd_same _ _ _
 have hGo : ∀ k, k ≠ r → upd G r (.row b' cap' sz) k = G k := fun k h2 => by rw [upd_ne _ _ h2]
 have hHr : hat ((H.set id .dead).set r (.row sz es' true)) r = .row sz es' true := hat_set_same (by simpa using hr) _
 have hHid : hat ((H.set id .dead).set r (.row sz es' true)) id = .dead := by rw [hat_set_ne _ (Ne.symm hne), hat_set_same hid]
 have hHo : ∀ k, k ≠ id → k ≠ r → hat ((H.set id .dead).set r (.row sz es' true)) k = hat H k := fun k h1 h2 => by
  rw [hat_set_ne _ (Ne.symm h2), hat_set_ne _ (Ne.symm h1)]
 have ha : Adv B w G H w' (upd G r (.row b' cap' sz)) ((H.set id .dead).set r (.row sz es' true)) := by
  refine adv_mk ?_ hsz hframe ?_
  ·intro i
   by_cases e2 : i = r
   ·subst e2; rw [hGr]; trivial
   ·rw [hGo i e2]; exact GS.le_refl _
  ·rintro k ⟨i, sz1, es1, cap1, sz2, h1, h2⟩
   by_cases e1 : i = id
   ·subst e1; rw [hHid] at h1; cases h1
   ·by_cases e2 : i = r
    ·subst e2
     rw [hGr'] at h2
     injection h2 with h2 _ _
     subst h2
     rcases hb' with rfl | hb'
     ·exact .inl hlvb
     ·exact .inr hb'
    ·rw [hHo i e1 e2] at h1; rw [hGo i e2] at h2
     exact .inl ⟨i, sz1, es1, cap1, sz2, h1, h2⟩
 have hrow' : ∀ k, k ≠ r → isRow ((H.set id .dead).set r (.row sz es' true)) k → k ≠ id ∧ isRow H k := by
  rintro k hk ⟨x, y, z, h⟩
  have hki : k ≠ id := by rintro rfl; rw [hHid] at h; cases h
  rw [hHo k hki hk] at h
  exact ⟨hki, x, y, z, h⟩
 refine ⟨ha, inv_mk hI hsz hos htape hout hframe ?_ ?_ ?_ ?_⟩
 ·intro i sz1 es1 lv h
  by_cases e1 : i = id
  ·subst e1; rw [hHid] at h; cases h
  ·by_cases e2 : i = r
   ·subst e2
    rw [hHr] at h
    injection h with a1 a2 a3
    subst a1; subst a2
    refine ⟨b', cap', hGr', ?_, hrow.mono (fun v d hv => ha.rep hv) rfl⟩
    rcases hb' with rfl | hb'
    ·obtain ⟨b2, cap2, h1, h2, _⟩ := hI.rows id sz es true hh
     rw [hG] at h1
     injection h1 with h1 _ _
     subst h1
     exact h2
    ·exact .inr (Nat.le_trans hI.size hb')
   ·rw [hHo i e1 e2] at h
    obtain ⟨b2, cap2, h1, h2, h3⟩ := hI.rows i sz1 es1 lv h
    refine ⟨b2, cap2, by rw [hGo i e2]; exact h1, h2, h3.mono (fun v d hv => ha.rep hv) (hold b2 h3.lt ?_)⟩
    rintro rfl
    exact e1 (hI.inj _ _ _ _ _ _ _ ⟨_, _, _, h⟩ ⟨_, _, _, hh⟩ h1 hG)
 ·intro i h
  by_cases e1 : i = id
  ·subst e1; rw [hHid] at h; cases h
  ·by_cases e2 : i = r
   ·subst e2; rw [hHr] at h; cases h
   ·rw [hHo i e1 e2] at h; rw [hGo i e2]; exact hI.fresh i h
 ·intro i h
  by_cases e1 : i = id
  ·subst e1; rw [hGo i hne, hG]; simp
  ·by_cases e2 : i = r
   ·subst e2; rw [hHr] at h; cases h
   ·rw [hHo i e1 e2] at h; rw [hGo i e2]; exact hI.dead i h
 ·intro i j k c1 s1 c2 s2 r1 r2 h1 h2
  by_cases e1 : i = r <;> by_cases e2 : j = r
  ·rw [e1, e2]
  ·subst e1
   obtain ⟨hj, r2'⟩ := hrow' j e2 r2
   rw [hGr'] at h1; rw [hGo j e2] at h2
   injection h1 with a _ _
   subst a
   rcases hb' with rfl | hb'
   ·exact absurd (hI.inj _ _ _ _ _ _ _ r2' ⟨_, _, _, hh⟩ h2 hG) hj
   ·have := hI.blk_lt r2' h2; omega
  ·subst e2
   obtain ⟨hi, r1'⟩ := hrow' i e1 r1
   rw [hGr'] at h2; rw [hGo i e1] at h1
   injection h2 with a _ _
   subst a
   rcases hb' with rfl | hb'
   ·exact absurd (hI.inj _ _ _ _ _ _ _ r1' ⟨_, _, _, hh⟩ h1 hG) hi
   ·have := hI.blk_lt r1' h1; omega
  ·rw [hGo i e1] at h1; rw [hGo j e2] at h2
   exact hI.inj _ _ _ _ _ _ _ (hrow' i e1 r1).2 (hrow' j e2 r2).2 h1 h2
theorem inv_drew (hI : Inv fm B w G H) : Adv B w G H w.drew G H ∧ Inv fm B w.drew G H := by
 have ha : Adv B w G H w.drew G H := adv_mk (gle_refl _) (Nat.le_refl _) (fun _ _ _ => rfl) (fun b h => .inl h)
 refine ⟨ha, inv_mk hI (Nat.le_refl _) rfl rfl rfl (fun _ _ _ => rfl) (fun id sz es lv h => ?_) hI.fresh hI.dead hI.inj⟩
 obtain ⟨b', cap', a1, a2, a3⟩ := hI.rows id sz es lv h
 exact ⟨b', cap', a1, a2, a3.mono (fun v d hv => ha.rep hv) rfl⟩
theorem inv_free (hI : Inv fm B w G H) (n : Nat) : Adv B w G H w G (H ++ List.replicate n .fresh) ∧ Inv fm B w G (H ++ List.replicate n .fresh) := by
 have hh := hat_append_fresh H n
 have ha : Adv B w G H w G (H ++ List.replicate n .fresh) := by
  refine adv_mk (gle_refl _) (Nat.le_refl _) (fun _ _ _ => rfl) ?_
  rintro b ⟨i, sz, es, cap, sz', h1, h2⟩
  rw [hh] at h1
  exact .inl ⟨i, sz, es, cap, sz', h1, h2⟩
 refine ⟨ha, inv_mk hI (Nat.le_refl _) rfl rfl rfl (fun _ _ _ => rfl) ?_ ?_ ?_ (fun i j b cap sz cap' sz' r1 r2 h1 h2 => hI.inj i j b cap sz cap' sz' (by unfold isRow at *; rwa [hh] at r1) (by unfold isRow at *; rwa [hh] at r2) h1 h2)⟩
 ·intro i sz es lv h
  rw [hh] at h
  obtain ⟨b', cap', a1, a2, a3⟩ := hI.rows i sz es lv h
  exact ⟨b', cap', a1, a2, a3.mono (fun v d hv => ha.rep hv) rfl⟩
 ·intro i h; rw [hh] at h; exact hI.fresh i h
 ·intro i h; rw [hh] at h; exact hI.dead i h
end
end Go.Pi
namespace Go.Pi
set_option linter.unusedVariables false
def CR (rep : Value → D → Prop) (c : List Value) (ds : List D) : Prop :=
 c.length = ds.length ∧ ∀ (j : Nat) (d : D), ds[j]? = some d → ∃ u, c[j]? = some u ∧ u.oneCell' = true ∧ rep u d
theorem CR.mono {rep rep' : Value → D → Prop} (h : ∀ v d, rep v d → rep' v d) {c : List Value} {ds : List D} (hc : CR rep c ds) : CR rep' c ds :=
 ⟨hc.1, fun j d hj => let ⟨u, a, b, e⟩ := hc.2 j d hj; ⟨u, a, b, h _ _ e⟩⟩
theorem CR.one {rep : Value → D → Prop} {c : List Value} {ds : List D} (hc : CR rep c ds) : ∀ v ∈ c, v.oneCell' = true := by
 intro v hv
 obtain ⟨j, hj, rfl⟩ := List.getElem_of_mem hv
 obtain ⟨u, h1, h2, _⟩ := hc.2 j _ (List.getElem?_eq_getElem (show j < ds.length by rw [← hc.1]; exact hj))
 rw [List.getElem?_eq_getElem hj] at h1
 injection h1 with h1
 rw [h1]; exact h2
theorem CR.get {rep : Value → D → Prop} {c : List Value} {ds : List D} (hc : CR rep c ds) {j : Nat} {v : Value} {d : D} (hv : c[j]? = some v) (hd : ds[j]? = some d) : rep v d := by
 obtain ⟨u, h1, _, h3⟩ := hc.2 j d hd
 rw [hv] at h1
 injection h1 with h1
 rw [h1]; exact h3
theorem CR.take {rep : Value → D → Prop} {c : List Value} {ds : List D} (hc : CR rep c ds) (n : Nat) : CR rep (c.take n) (ds.take n) := by
 refine ⟨by simp [hc.1], fun j d hj => ?_⟩
 rw [List.getElem?_take] at hj
 split at hj
 ·rename_i h
  obtain ⟨u, a, b, e⟩ := hc.2 j d hj
  exact ⟨u, by rw [List.getElem?_take, if_pos h]; exact a, b, e⟩
 ·cases hj
theorem CR.drop {rep : Value → D → Prop} {c : List Value} {ds : List D} (hc : CR rep c ds) (n : Nat) : CR rep (c.drop n) (ds.drop n) := by
 refine ⟨by simp [hc.1], fun j d hj => ?_⟩
 rw [List.getElem?_drop] at hj
 obtain ⟨u, a, b, e⟩ := hc.2 _ d hj
 exact ⟨u, by rw [List.getElem?_drop]; exact a, b, e⟩
theorem CR.append {rep : Value → D → Prop} {c c' : List Value} {ds ds' : List D} (hc : CR rep c ds) (hc' : CR rep c' ds') : CR rep (c ++ c') (ds ++ ds') := by
 refine ⟨by simp [hc.1, hc'.1], fun j d hj => ?_⟩
 rw [List.getElem?_append] at hj ⊢
 rw [hc.1]
 split at hj
 ·rename_i h; rw [if_pos h]; exact hc.2 j d hj
 ·rename_i h; rw [if_neg h]; exact hc'.2 _ d hj
theorem CR.splice {rep : Value → D → Prop} {c m : List Value} {ds ms : List D} (hc : CR rep c ds) (hm : CR rep m ms) (off : Nat) :
  CR rep (c.take off ++ m ++ c.drop (off + m.length)) (Pi.splice ds off ms) := by
 unfold Pi.splice
 rw [hm.1]
 exact ((hc.take off).append hm).append (hc.drop _)
theorem rep_cells {fm : Nat → Nat} {G : Gh} {ok : Nat → Prop} {w : World} {v : Value} {d : D} (h : Rep fm G ok w v d) (h1 : (cellsOf d).all one = true) :
  CR (Rep fm G ok w) v.cells.toList (cellsOf d) := by
 cases d with
 | agg cs =>
  obtain ⟨vs, rfl, hl, hone, hr⟩ := h.inv_agg
  refine ⟨by simpa [Value.cells, cellsOf] using hl, fun j d hj => ?_⟩
  simp only [cellsOf] at hj
  have hj' : j < vs.length := by rw [hl]; exact (List.getElem?_eq_some_iff.1 hj).1
  exact ⟨vs[j], by simp [Value.cells, List.getElem?_eq_getElem hj'], hone _ (List.getElem_mem hj'), hr j d _ hj (List.getElem?_eq_getElem hj')⟩
 | _ =>
  simp only [cellsOf, List.all_cons, List.all_nil, Bool.and_true] at h1
  have hv := h.one h1
  have hcs : v.cells.toList = [v] := by cases v <;> first | rfl | (simp [Value.oneCell'] at hv)
  rw [hcs]
  refine ⟨rfl, fun j d hj => ?_⟩
  simp only [cellsOf] at hj
  cases j with
  | zero => simp at hj; subst hj; exact ⟨v, rfl, hv, h⟩
  | succ j => simp at hj
theorem foldl_set (off : Nat) : ∀ (l : List Value) (k : Nat) (c : Array Value), off + k + l.length ≤ c.size →
  ((l.zipIdx k).foldl (fun (cs : Array Value) (x : Value × Nat) => cs.setIfInBounds (off + x.2) x.1) c).toList = c.toList.take (off + k) ++ l ++ c.toList.drop (off + k + l.length)
 | [], k, c, _ => by simp
 | v :: l, k, c, h => by
  simp only [List.length_cons] at h
  rw [List.zipIdx_cons, List.foldl_cons, foldl_set off l (k + 1) _ (by simp; omega)]
  apply List.ext_getElem?
  intro j
  simp only [Array.toList_setIfInBounds, List.getElem?_append, List.length_append, List.length_take, List.length_set, List.getElem?_take, List.getElem?_drop, List.getElem?_set, Array.length_toList, List.length_cons, List.getElem?_cons]
  have e1 : min (off + (k + 1)) c.size = off + k + 1 := by omega
  have e2 : min (off + k) c.size = off + k := by omega
  simp only [e1, e2]
  by_cases h1 : j < off + k
  ·simp [show j < off + k + 1 by omega, show j < off + (k + 1) by omega, show j < off + k + (l.length + 1) by omega, h1, show j < off + k + 1 + l.length by omega, show ¬ off + k = j by omega]
  ·by_cases h2 : j = off + k
   ·subst h2
    simp [show off + k < off + (k + 1) by omega, show off + k < c.size by omega, show off + k < off + k + 1 + l.length by omega]
   ·by_cases h3 : j < off + k + 1 + l.length
    ·obtain ⟨m, rfl⟩ : ∃ m, j = off + k + 1 + m := ⟨j - (off + k + 1), by omega⟩
     simp [show ¬ off + k + 1 + m < off + k + 1 by omega, show off + k + 1 + m < off + k + (l.length + 1) by omega, h1, h3, show off + k + 1 + m - (off + k) = m + 1 by omega, show off + k + 1 + m - (off + k + 1) = m by omega]
    ·simp [h3, show ¬ j < off + k + (l.length + 1) by omega, show ¬ off + k = off + (k + 1) + l.length + (j - (off + k + 1 + l.length)) by omega]
     congr 1; omega
theorem zipIdx_foldl (off : Nat) (l c : Array Value) (h : off + l.size ≤ c.size) :
  (l.zipIdx.foldl (fun (cs : Array Value) (x : Value × Nat) => cs.setIfInBounds (off + x.2) x.1) c).toList = c.toList.take off ++ l.toList ++ c.toList.drop (off + l.size) := by
 have := foldl_set off l.toList 0 c (by simpa using h)
 rw [← Array.foldl_toList, Array.toList_zipIdx]
 simpa using this
section
variable (fm : Nat → Nat)
def ClosedV (v : Value) (d : D) : Prop := ∀ ok w, RepC fm ok w v d
inductive TrX : Operand → PX → Prop where
 | tmp (t : Nat) : TrX (.tmp t) (.t t)
 | const (v : Value) (d : D) (h : ClosedV fm v d) : TrX (.const v) (.c d)
 | func (f p : Nat) (h : fm p = f) : TrX (.func f) (.c (.fn p))
inductive TrXs : List Operand → List PX → Prop where
 | nil : TrXs [] []
 | cons {x : Operand} {px : PX} {xs : List Operand} {pxs : List PX} (h : TrX fm x px) (hs : TrXs xs pxs) : TrXs (x :: xs) (px :: pxs)
end
def TsR (rep : Value → D → Prop) (tmps : Array Value) (ts : List D) : Prop :=
 ts.length = tmps.size ∧ ∀ (i : Nat) (d : D), ts[i]? = some d → ∃ v, tmps[i]? = some v ∧ rep v d
theorem TsR.mono {rep rep' : Value → D → Prop} (h : ∀ v d, rep v d → rep' v d) {tmps : Array Value} {ts : List D} (hc : TsR rep tmps ts) : TsR rep' tmps ts :=
 ⟨hc.1, fun j d hj => let ⟨u, a, b⟩ := hc.2 j d hj; ⟨u, a, h _ _ b⟩⟩
theorem TsR.put {rep : Value → D → Prop} {tmps : Array Value} {ts : List D} (h : TsR rep tmps ts) (i : Nat) {v : Value} {d : D} (hv : rep v d) : TsR rep (tmps.setIfInBounds i v) (ts.set i d) := by
 refine ⟨by simp [h.1], fun j e hj => ?_⟩
 rw [List.getElem?_set] at hj
 by_cases hi : i = j
 ·subst hi
  simp only [if_true] at hj
  split at hj
  ·rename_i hl
   injection hj with hj
   subst hj
   exact ⟨v, by rw [Array.getElem?_setIfInBounds]; simp [← h.1, hl], hv⟩
  ·cases hj
 ·rw [if_neg hi] at hj
  obtain ⟨u, h1, h2⟩ := h.2 j e hj
  exact ⟨u, by rw [Array.getElem?_setIfInBounds, if_neg hi]; exact h1, h2⟩
theorem TsR.getD {rep : Value → D → Prop} (hu : ∀ v, rep v .undef) {tmps : Array Value} {ts : List D} (h : TsR rep tmps ts) (i : Nat) : rep (tmps.getD i undef) (ts.getD i .undef) := by
 rw [List.getD_eq_getElem?_getD]
 cases hi : ts[i]? with
 | none => exact hu _
 | some d =>
  obtain ⟨v, h1, h2⟩ := h.2 i d hi
  have : tmps.getD i undef = v := by rw [Array.getD_eq_getD_getElem?, h1]; rfl
  rw [this]; exact h2
section
variable {fm : Nat → Nat} {G : Gh} {ok : Nat → Prop} {w : World} {a : Act} {ts : List D}
theorem ev_rep (h : TsR (Rep fm G ok w) a.tmps ts) {x : Operand} {px : PX} (hx : TrX fm x px) : Rep fm G ok w (a.eval x) (px.ev ts) := by
 cases hx with
 | tmp t => exact h.getD (fun v => .closed (.undef v)) t
 | const v d h => exact .closed (h _ _)
 | func f p h => subst h; exact .closed (.fn p)
end
def OpOk (P : Program) (o : Oper) (a : Act) (w : World) (K : Value → World → Prop) : Prop :=
 ∀ (next : Act → World → Prop) (Q : Exit → Act → World → Prop), (∀ v w', K v w' → next (a.put o.dst v) w') → o.wp P a w next Q
section
variable {P : Program} {o : Oper} {a : Act} {w w' : World} {K : Value → World → Prop}
theorem opOk_val {v : Value} (h : (execOp a.eval o).run P w = .ok (.value v) w') (k : K v w') : OpOk P o a w K := by
 intro next Q hn
 unfold Oper.wp
 rw [h]
 exact hn v w' k
theorem opOk_skip (h : (execOp a.eval o).run P w = .ok .skip w') (k : K undef w') : OpOk P o a w K := by
 intro next Q hn
 unfold Oper.wp
 rw [h]
 exact hn _ w' k
end
end Go.Pi
namespace Go.Pi
set_option linter.unusedVariables false
theorem rangeAt_sub {w : World} {b o : Nat} {cs : List Value} (h : w.rangeAt b o cs) (j n : Nat) : w.rangeAt b (o + j) ((cs.drop j).take n) := by
 intro k v hv
 rw [List.getElem?_take] at hv
 split at hv
 ·rw [List.getElem?_drop] at hv
  have := h (j + k) v hv
  rwa [show o + (j + k) = o + j + k by omega] at this
 ·cases hv
section
variable {rep : Value → D → Prop} {w : World} {sz : Nat} {es : List (List D)} {b cap : Nat}
theorem RowOk.range (h : RowOk rep w sz es b cap) {i : Nat} {e : List D} (he : es[i]? = some e) : ∃ cs, CR rep cs e ∧ w.rangeAt b (i * sz) cs := by
 obtain ⟨⟨c, T, h1, h2, h3⟩, h4, h5, h6⟩ := h
 have hl : e.length = sz := h6 e (List.mem_of_getElem? he)
 have hi : i < es.length := (List.getElem?_eq_some_iff.1 he).1
 have hb : i * sz + sz ≤ c.size := by
  rw [h2, ← Nat.succ_mul]
  exact Nat.mul_le_mul_right _ (by omega)
 refine ⟨(c.toList.drop (i * sz)).take sz, ⟨by simp; omega, ?_⟩, ?_⟩
 ·intro j d hj
  have hjl : j < sz := by rw [← hl]; exact (List.getElem?_eq_some_iff.1 hj).1
  obtain ⟨u, a1, a2, a3⟩ := h3 i j e d he hj
  exact ⟨u, by rw [List.getElem?_take, if_pos hjl, List.getElem?_drop]; simpa using a1, a2, a3⟩
 ·intro j v hv
  rw [List.getElem?_take] at hv
  split at hv
  ·rw [List.getElem?_drop] at hv
   rw [cell_of_row w b (i * sz + j) c T (0, 0) h1]
   simpa using hv
  ·cases hv
theorem RowOk.ranges (h : RowOk rep w sz es b cap) {off len : Nat} (hl : off + len ≤ es.length) :
  ∃ cs : List Value, cs.length = len * sz ∧ w.rangeAt b (off * sz) cs ∧ (∀ v ∈ cs, v.oneCell' = true) ∧
   ∀ (i j : Nat) (e : List D) (d : D), ((es.drop off).take len)[i]? = some e → e[j]? = some d → ∃ u, cs[i * sz + j]? = some u ∧ u.oneCell' = true ∧ rep u d := by
 obtain ⟨⟨c, T, h1, h2, h3⟩, h4, h5, h6⟩ := h
 have hb : off * sz + len * sz ≤ c.size := by
  rw [h2, ← Nat.add_mul]
  exact Nat.mul_le_mul_right _ (by omega)
 have hget : ∀ (i j : Nat) (e : List D) (d : D), ((es.drop off).take len)[i]? = some e → e[j]? = some d → ∃ u, ((c.toList.drop (off * sz)).take (len * sz))[i * sz + j]? = some u ∧ u.oneCell' = true ∧ rep u d := by
  intro i j e d he hd
  rw [List.getElem?_take] at he
  split at he
  ·rename_i hi
   rw [List.getElem?_drop] at he
   have hle : e.length = sz := h6 e (List.mem_of_getElem? he)
   have hj : j < sz := by rw [← hle]; exact (List.getElem?_eq_some_iff.1 hd).1
   obtain ⟨u, a1, a2, a3⟩ := h3 _ j e d he hd
   refine ⟨u, ?_, a2, a3⟩
   have hlt : i * sz + j < len * sz := by
    have : (i + 1) * sz ≤ len * sz := Nat.mul_le_mul_right _ (by omega)
    rw [Nat.succ_mul] at this
    omega
   rw [List.getElem?_take, if_pos hlt, List.getElem?_drop, show off * sz + (i * sz + j) = (off + i) * sz + j by rw [Nat.add_mul]; omega]
   simpa using a1
  ·cases he
 refine ⟨(c.toList.drop (off * sz)).take (len * sz), by simp; omega, ?_, ?_, hget⟩
 ·intro j v hv
  rw [List.getElem?_take] at hv
  split at hv
  ·rw [List.getElem?_drop] at hv
   rw [cell_of_row w b (off * sz + j) c T (0, 0) h1]
   simpa using hv
  ·cases hv
 ·intro v hv
  obtain ⟨k, hk, rfl⟩ := List.getElem_of_mem hv
  have hk' : k < len * sz := by simp at hk; omega
  have hsz : 0 < sz := by
   rcases Nat.eq_zero_or_pos sz with h | h
   ·subst h; simp at hk'
   ·exact h
  have hi : k / sz < len := (Nat.div_lt_iff_lt_mul hsz).2 hk'
  have hj : k % sz < sz := Nat.mod_lt _ hsz
  have hlt : off + k / sz < es.length := by omega
  have hle : es[off + k / sz].length = sz := h6 _ (List.getElem_mem hlt)
  obtain ⟨u, a1, a2, _⟩ := hget (k / sz) (k % sz) es[off + k / sz] (es[off + k / sz][k % sz]'(by omega))
   (by rw [List.getElem?_take, if_pos hi, List.getElem?_drop, List.getElem?_eq_getElem hlt]) (List.getElem?_eq_getElem _)
  rw [Nat.div_add_mod' k sz, List.getElem?_eq_getElem hk] at a1
  injection a1 with a1
  rw [a1]; exact a2
theorem RowOk.write {P : Program} (h : RowOk rep w sz es b cap) {off : Nat} {e : List D} (he : es[off / sz]? = some e) {vs : List Value} {ds : List D} (hv : CR rep vs ds)
  (hn : off % sz + ds.length ≤ e.length) :
  ∃ w' : World, (∀ t : TypeId, (P.info? t).map (·.size) = some ds.length → ∀ v : Value, v.cells.toList = vs → (storeVar t ⟨b, off, none⟩ v).run P w = .ok () w') ∧
   w'.heap.size = w.heap.size ∧ w'.os = w.os ∧ w'.tape = w.tape ∧ w'.output = w.output ∧ (∀ k, k ≠ b → w'.heap[k]? = w.heap[k]?) ∧
   RowOk rep w' sz (es.set (off / sz) (Pi.splice e (off % sz) ds)) b cap := by
 obtain ⟨⟨c, T, h1, h2, h3⟩, h4, h5, h6⟩ := h
 have hle : e.length = sz := h6 e (List.mem_of_getElem? he)
 have hi : off / sz < es.length := (List.getElem?_eq_some_iff.1 he).1
 have hoff : off / sz * sz + off % sz = off := Nat.div_add_mod' off sz
 have hb : off / sz * sz + sz ≤ c.size := by
  rw [h2, ← Nat.succ_mul]
  exact Nat.mul_le_mul_right _ (by omega)
 have hfit : off + vs.length ≤ c.size := by rw [hv.1]; omega
 refine ⟨w.setRow b (c.toList.take off ++ vs ++ c.toList.drop (off + vs.length)).toArray, ?_, size_setRow _ _ _, rfl, rfl, rfl, fun k hk => setRow_other w b k _ hk, ?_⟩
 ·intro t ht v hcs
  have hst := run_storeCells_at P b off T vs 0 c w h1 (by simpa using hfit) hv.one
  simp only [Nat.add_zero] at hst
  cases hq : P.info? t with
  | none => simp [hq] at ht
  | some it =>
   have hs : it.size = ds.length := by simpa [hq] using ht
   have hvs : v.cells.size = vs.length := by rw [← hcs]; simp
   simp [storeVar, sizeOf, typeInfo, hq, hs, hvs, hv.1, hcs, hst]
 ·refine ⟨⟨_, T, setRow_heap w b c _ T (0, 0) h1, ?_, ?_⟩, by simpa using h4, h5, ?_⟩
  ·simp only [List.size_toArray, List.length_append, List.length_take, List.length_drop, Array.length_toList]
   omega
  ·intro i j e' d he' hd
   have hjs : ∀ e'', es[i]? = some e'' → e''.length = sz := fun e'' h => h6 e'' (List.mem_of_getElem? h)
   rw [List.getElem?_set] at he'
   by_cases hii : off / sz = i
   ·subst hii
    simp only [if_true, hi] at he'
    injection he' with he'
    subst he'
    simp only [Pi.splice, List.getElem?_append, List.length_append, List.length_take, List.getElem?_take, List.getElem?_drop] at hd
    have hm : min (off % sz) e.length = off % sz := by omega
    rw [hm] at hd
    simp only [List.getElem?_toArray, List.getElem?_append, List.length_append, List.length_take, List.getElem?_take, List.getElem?_drop, Array.length_toList]
    have hm2 : min off c.size = off := by omega
    rw [hm2, hv.1]
    by_cases hj1 : j < off % sz
    ·rw [if_pos (by omega), if_pos hj1, if_pos hj1] at hd
     rw [if_pos (by omega), if_pos (by omega), if_pos (by omega)]
     obtain ⟨u, a1, a2, a3⟩ := h3 _ j e d he hd
     exact ⟨u, by simpa using a1, a2, a3⟩
    ·by_cases hj2 : j < off % sz + ds.length
     ·rw [if_pos hj2, if_neg hj1] at hd
      rw [if_pos (by omega), if_neg (by omega)]
      obtain ⟨u, a1, a2, a3⟩ := hv.2 _ d hd
      exact ⟨u, by rw [show off / sz * sz + j - off = j - off % sz by omega]; exact a1, a2, a3⟩
     ·rw [if_neg hj2, show off % sz + ds.length + (j - (off % sz + ds.length)) = j by omega] at hd
      rw [if_neg (by omega), show off + ds.length + (off / sz * sz + j - (off + ds.length)) = off / sz * sz + j by omega]
      obtain ⟨u, a1, a2, a3⟩ := h3 _ j e d he hd
      exact ⟨u, by simpa using a1, a2, a3⟩
   ·rw [if_neg hii] at he'
    have hl' := hjs e' he'
    have hj : j < sz := by rw [← hl']; exact (List.getElem?_eq_some_iff.1 hd).1
    obtain ⟨u, a1, a2, a3⟩ := h3 i j e' d he' hd
    refine ⟨u, ?_, a2, a3⟩
    simp only [List.getElem?_toArray, List.getElem?_append, List.length_append, List.length_take, List.getElem?_take, List.getElem?_drop, Array.length_toList]
    have hm2 : min off c.size = off := by omega
    rw [hm2, hv.1]
    rcases Nat.lt_or_gt_of_ne hii with hlt | hgt
    ·have : (off / sz + 1) * sz ≤ i * sz := Nat.mul_le_mul_right _ (by omega)
     rw [Nat.succ_mul] at this
     rw [if_neg (by omega), show off + ds.length + (i * sz + j - (off + ds.length)) = i * sz + j by omega]
     simpa using a1
    ·have : (i + 1) * sz ≤ off / sz * sz := Nat.mul_le_mul_right _ (by omega)
     rw [Nat.succ_mul] at this
     rw [if_pos (by omega), if_pos (by omega), if_pos (by omega)]
     simpa using a1
  ·intro e' he'
   rcases List.mem_or_eq_of_mem_set he' with h | h
   ·exact h6 e' h
   ·subst h
    simp only [Pi.splice, List.length_append, List.length_take, List.length_drop]
    omega
end
end Go.Pi
namespace Go.Pi
set_option linter.unusedVariables false
def isRowD : TypeDesc → Bool
 | .struct _ | .array _ _ => true
 | _ => false
def Shape (P : Program) (t : TypeId) (ag : Bool) (n : Nat) : Prop := ∃ d i, P.underlying t = some d ∧ isRowD d = ag ∧ P.info? t = some i ∧ i.size = n
def layF (P : Program) (g : TypeId → Option (List Nat)) : List Field → Nat → Option (List Nat)
 | [], _ => some []
 | f :: fs, off => if f.name ≠ "_" ∧ f.offset = off then (g f.type).bind fun ks => (P.info? f.type).bind fun i => if i.size = ks.length ∧ 0 < ks.length then (layF P g fs (off + ks.length)).map (ks ++ ·) else none else none
def lay (P : Program) : Nat → TypeId → Option (List Nat)
 | 0, _ => none
 | m + 1, t => match P.underlying t with
  | some .bool => some [0]
  | some (.int _) => some [1]
  | some .string => some [2]
  | some (.struct fs) => if P.stoodInHeld t = false then layF P (lay P m) fs.toList 0 else none
  | some (.array n e) => (lay P m e).bind fun ks => (P.info? e).bind fun i => if i.size = ks.length ∧ 0 < ks.length then some (List.replicate n ks).flatten else none
  | _ => none
def ExtOk (P : Program) (f : Nat) (bits : Bool) : Prop :=
 if bits then ∀ (b : Nat) (w : World), (callFunc f #[.float .f64 b]).run P w = .ok (.value (.int .u64 (b : Int))) w
 else ∀ (n : Int) (w : World), (callFunc f #[.int .u64 n]).run P w = .ok (.value (.float .f64 n.toNat)) w
section
variable (P : Program) (fm : Nat → Nat)
inductive TrP (pl : Nat → Option (Nat × Nat)) : List (Nat × Operand) → List (Nat × Nat × PX) → Prop where
 | nil : TrP pl [] []
 | cons {i : Nat} {x : Operand} {off n : Nat} {px : PX} {ps : List (Nat × Operand)} {qs : List (Nat × Nat × PX)} (hp : pl i = some (off, n)) (hx : TrX fm x px) (h : TrP pl ps qs) :
   TrP pl ((i, x) :: ps) ((off, n, px) :: qs)
inductive TrS : List (Nat × Operand) → List (Nat × PX) → Prop where
 | nil : TrS [] []
 | cons {i : Nat} {x : Operand} {px : PX} {ps : List (Nat × Operand)} {qs : List (Nat × PX)} (hx : TrX fm x px) (h : TrS ps qs) : TrS ((i, x) :: ps) ((i, px) :: qs)
inductive TrO : Option Operand → Option PX → Prop where
 | none : TrO none none
 | some {x : Operand} {px : PX} (h : TrX fm x px) : TrO (some x) (some px)
inductive TrA : List Operand → List (Nat × PX) → Prop where
 | nil : TrA [] []
 | cons {x : Operand} {m : Nat} {px : PX} {xs : List Operand} {qs : List (Nat × PX)} (hx : TrX fm x px) (h : TrA xs qs) : TrA (x :: xs) ((m, px) :: qs)
inductive TrOp : Op → POp → Prop where
 | move {x : Operand} {px : PX} (h : TrX fm x px) : TrOp (.move x) (.mv px)
 | assign {x : Operand} {px : PX} (h : TrX fm x px) : TrOp (.assign x) (.mv px)
 | pick {c a b : Operand} {pc pa pb : PX} (hc : TrX fm c pc) (ha : TrX fm a pa) (hb : TrX fm b pb) : TrOp (.pick c a b) (.pick pc pa pb)
 | alloc {e : TypeId} {i : TypeInfo} {z : Value} {zs : List D} (hi : P.info? e = some i) (hz : i.zero = some z) (hzs : CR (ClosedV fm) z.cells.toList zs) : TrOp (.alloc e) (.alloc zs)
 | box {e : TypeId} {x : Operand} {px : PX} {n : Nat} (h : TrX fm x px) : TrOp (.box e x) (.box n px)
 | build {t : TypeId} {parts : Array (Nat × Operand)} {z : Value} {zs : List D} {pl : Nat → Option (Nat × Nat)} {qs : List (Nat × Nat × PX)}
   (hb : ∀ l, P.built t l = Instr.fill pl z.cells l) (hzs : CR (ClosedV fm) z.cells.toList zs) (hp : TrP fm pl parts.toList qs) : TrOp (.build t parts) (.build zs qs)
 | buildSlice {t e : TypeId} {n : Nat} {parts : Array (Nat × Operand)} {ie : TypeInfo} {z : Value} {zs : List D} {sz : Nat} {qs : List (Nat × PX)}
   (hu : P.underlying t = some (.slice e)) (hie : P.info? e = some ie) (hz : ie.zero = some z) (hsz : ie.size = sz) (h0 : 0 < sz) (hzs : CR (ClosedV fm) z.cells.toList zs) (hzl : zs.length = sz)
   (hsm : n * sz ≤ 16777216) (hp : TrS fm parts.toList qs) : TrOp (.buildSlice t n parts) (.buildSlice sz n zs qs)
 | load {t : TypeId} {x : Operand} {px : PX} {ag : Bool} {n : Nat} (hs : Shape P t ag n) (h : TrX fm x px) : TrOp (.load t x) (.load ag n px)
 | store {t : TypeId} {x y : Operand} {px py : PX} {n : Nat} (hs : (P.info? t).map (·.size) = some n) (hx : TrX fm x px) (hy : TrX fm y py) : TrOp (.store t x y) (.store n px py)
 | nilCheck {x : Operand} {px : PX} (h : TrX fm x px) : TrOp (.nilCheck x) (.nilCheck px)
 | bin {op : BinOp} {t u : TypeId} {x y : Operand} {px py : PX} (hx : TrX fm x px) (hy : TrX fm y py) : TrOp (.binOp op t x y u) (.bin op px py)
 | eqB {neg : Bool} {t u : TypeId} {x y : Operand} {px py : PX} (ht : P.underlying t = some .bool) (hx : TrX fm x px) (hy : TrX fm y py) :
   TrOp (.binOp (if neg then .neq else .eql) t x y u) (.eqB neg px py)
 | eqNs {neg : Bool} {t u e : TypeId} {x : Operand} {px : PX} (ht : P.underlying t = some (.slice e)) (hx : TrX fm x px) :
   TrOp (.binOp (if neg then .neq else .eql) t x (.const (.slice none 0 0)) u) (.eqNS neg px)
 | eqNp {neg : Bool} {t u e : TypeId} {x : Operand} {px : PX} (ht : P.underlying t = some (.pointer e)) (hx : TrX fm x px) :
   TrOp (.binOp (if neg then .neq else .eql) t x (.const (.pointer none)) u) (.eqNP neg px)
 | un {op : UnOp} {t : TypeId} {x : Operand} {px : PX} (hx : TrX fm x px) : TrOp (.unOp op t x) (.un op px)
 | convInt {s d : TypeId} {k : IntKind} {x : Operand} {px : PX} (hs : (P.underlying s).isSome = true) (hd : P.underlying d = some (.int k)) (hx : TrX fm x px) : TrOp (.convert s d x) (.conv (.toInt k) px)
 | convBS {s d e : TypeId} {x : Operand} {px : PX} (hs : P.underlying s = some (.slice e)) (he : P.underlying e = some (.int .u8)) (hd : P.underlying d = some .string) (hx : TrX fm x px) :
   TrOp (.convert s d x) (.conv .bytesStr px)
 | convSB {s d e : TypeId} {x : Operand} {px : PX} (hs : P.underlying s = some .string) (hd : P.underlying d = some (.slice e)) (he : P.underlying e = some (.int .u8)) (hx : TrX fm x px) :
   TrOp (.convert s d x) (.conv .strBytes px)
 | makeSlice {t e : TypeId} {i : TypeInfo} {z : Value} {zs : List D} {sz bytes : Nat} {x y : Operand} {px py : PX} (hu : P.underlying t = some (.slice e)) (hi : P.info? e = some i) (hz : i.zero = some z)
   (hsz : i.size = sz) (hby : i.bytes = bytes) (h0 : 0 < sz) (hzs : CR (ClosedV fm) z.cells.toList zs) (hzl : zs.length = sz) (hx : TrX fm x px) (hy : TrX fm y py) :
   TrOp (.makeSlice t x y) (.makeSlice sz bytes zs px py)
 | slice {t e : TypeId} {i : TypeInfo} {sz : Nat} {x : Operand} {px : PX} {lo hi : Option Operand} {plo phi : Option PX} (hu : P.underlying t = some (.slice e)) (hie : P.info? e = some i) (hsz : i.size = sz)
   (hx : TrX fm x px) (hlo : TrO fm lo plo) (hhi : TrO fm hi phi) : TrOp (.slice t x lo hi none) (.slice sz px plo phi)
 | sliceS {t : TypeId} {x : Operand} {px : PX} {lo hi : Option Operand} {plo phi : Option PX} (hu : P.underlying t = some .string)
   (hx : TrX fm x px) (hlo : TrO fm lo plo) (hhi : TrO fm hi phi) : TrOp (.slice t x lo hi none) (.sliceS px plo phi)
 | fieldAddr {s : TypeId} {x : Operand} {px : PX} {f off n : Nat} {fs : Array Field} {fd : Field} (hu : P.underlying s = some (.struct fs)) (hf : fs[f]? = some fd) (ho : fd.offset = off)
   (hn : (P.info? fd.type).map (·.size) = some n) (h0 : 0 < n) (hx : TrX fm x px) : TrOp (.fieldAddr s x f) (.fieldAddr off n px)
 | field {s : TypeId} {x : Operand} {px : PX} {f off n : Nat} {ag : Bool} {fs : Array Field} {fd : Field} (hu : P.underlying s = some (.struct fs)) (hf : fs[f]? = some fd) (ho : fd.offset = off)
   (hn : Shape P fd.type ag n) (hx : TrX fm x px) : TrOp (.field s x f) (.field ag off n px)
 | indexAddr {t e : TypeId} {x i : Operand} {px pi : PX} {sz : Nat} (hu : P.underlying t = some (.slice e)) (hs : (P.info? e).map (·.size) = some sz) (hx : TrX fm x px) (hi : TrX fm i pi) :
   TrOp (.indexAddr t x i) (.indexAddr sz px pi)
 | indexAddrA {t e : TypeId} {x i : Operand} {px pi : PX} {sz n : Nat} (hu : P.underlying t = some (.array n e)) (hs : (P.info? e).map (·.size) = some sz) (hx : TrX fm x px) (hi : TrX fm i pi) :
   TrOp (.indexAddr t x i) (.indexAddrA sz n px pi)
 | index {t e : TypeId} {x i : Operand} {px pi : PX} {sz n : Nat} {ag : Bool} (hu : P.underlying t = some (.array n e)) (hs : Shape P e ag sz) (hx : TrX fm x px) (hi : TrX fm i pi) :
   TrOp (.index t x i) (.index ag sz n px pi)
 | indexS {t : TypeId} {x i : Operand} {px pi : PX} (hu : P.underlying t = some .string) (hx : TrX fm x px) (hi : TrX fm i pi) : TrOp (.index t x i) (.indexS px pi)
 | extract {x : Operand} {px : PX} {i : Nat} (hx : TrX fm x px) : TrOp (.extract x i) (.extract px i)
 | eqA {neg : Bool} {m : Nat} {t u : TypeId} {ks : List Nat} {td : TypeDesc} {x y : Operand} {px py : PX} (ht : P.underlying t = some td) (hag : isRowD td = true) (hg : P.eqGuardType P.depth t = false)
   (hl : lay P m t = some ks) (hm : m ≤ 1000) (hx : TrX fm x px) (hy : TrX fm y py) : TrOp (.binOp (if neg then .neq else .eql) t x y u) (.eqA neg ks px py)
 | toFlt {s d : TypeId} {x : Operand} {px : PX} (hs : (P.underlying s).isSome = true) (hd : P.underlying d = some (.float .f64)) (hx : TrX fm x px) : TrOp (.convert s d x) (.conv .toFlt px)
 | mark {t e : TypeId} {x : Operand} {px : PX} (ht : P.underlying t = some (.slice e)) (he : P.underlying e = some (.int .u8)) (hx : TrX fm x px) : TrOp (.convert t t x) (.mark px)
 | bits {f : Nat} {x : Operand} {px : PX} {ats : Array TypeId} (hf : ExtOk P f true) (hx : TrX fm x px) : TrOp (.call { callee := .value (.func f), args := #[x], argTypes := ats }) (.bits px)
 | ofBits {f : Nat} {x : Operand} {px : PX} {ats : Array TypeId} (hf : ExtOk P f false) (hx : TrX fm x px) : TrOp (.call { callee := .value (.func f), args := #[x], argTypes := ats }) (.ofBits px)
 | minmax {mx : Bool} {x : Operand} {xs : List Operand} {px : PX} {ps : List PX} {ats : Array TypeId} (hx : TrX fm x px) (hxs : TrXs fm xs ps) :
   TrOp (.call { callee := .builtin (if mx then .max else .min), args := (x :: xs).toArray, argTypes := ats }) (.minmax mx px ps)
 | lenS {t : TypeId} {x : Operand} {px : PX} (hu : P.underlying t = some .string) (hx : TrX fm x px) :
   TrOp (.call { callee := .builtin .len, args := #[x], argTypes := #[t] }) (.lenS px)
 | lenR {t e : TypeId} {x : Operand} {px : PX} (hu : P.underlying t = some (.slice e)) (hx : TrX fm x px) :
   TrOp (.call { callee := .builtin .len, args := #[x], argTypes := #[t] }) (.len px)
 | append {t u e : TypeId} {i : TypeInfo} {z : Value} {sz bytes : Nat} {x y : Operand} {px py : PX} (hu : P.underlying t = some (.slice e)) (hv : (∃ e', P.underlying u = some (.slice e')) ∨ P.underlying u = some .string)
   (hi : P.info? e = some i) (hz : i.zero = some z) (hsz : i.size = sz) (hzl : z.cells.size = sz) (hby : i.bytes = bytes) (h0 : 0 < sz) (hx : TrX fm x px) (hy : TrX fm y py) :
   TrOp (.call { callee := .builtin .append, args := #[x, y], argTypes := #[t, u] }) (.append sz bytes px py)
end
section
variable {P : Program} {fm : Nat → Nat} {B : Base} {w : World} {G : Gh} {H : Heap} {o : Oper} {a : Act} {ts : List D}
def Post (fm : Nat → Nat) (B : Base) (w : World) (G : Gh) (H : Heap) (out : Out) (v : Value) (w' : World) : Prop :=
 ∃ G', Adv B w G H w' G' (out.on H) ∧ Inv fm B w' G' (out.on H) ∧ Rep fm G' (okB B G' (out.on H) w') w' v out.d
theorem post_quiet (hI : Inv fm B w G H) {v : Value} {d : D} (h : Rep fm G (okB B G H w) w v d) : Post fm B w G H ⟨d, [], []⟩ v w :=
 ⟨G, Adv.refl _ _ _ _, hI, h⟩
theorem run_quietO {x : Option D} {out : Out} (h : (quietO x).run H = some out) : ∃ d, x = some d ∧ out = ⟨d, [], []⟩ := by
 cases x with
 | none => simp [quietO, Eff.run] at h
 | some d => simp [quietO, quiet, Eff.run] at h; exact ⟨d, rfl, h.symm⟩
theorem run_quiet {d : D} {out : Out} (h : (quiet d).run H = some out) : out = ⟨d, [], []⟩ := by
 simp [quiet, Eff.run] at h; exact h.symm
theorem run_new {α : Type} {r : Nat} {k : Eff α} {x : α} (h : (Eff.new r k).run H = some x) : r < H.length ∧ hat H r = .fresh ∧ k.run H = some x := by
 simp only [Eff.run] at h
 split at h
 ·split at h
  ·exact ⟨by assumption, by assumption, h⟩
  ·cases h
 ·cases h
theorem run_live {α : Type} {r : Nat} {k : Eff α} {x : α} (h : (Eff.live r k).run H = some x) : (∃ sz es, hat H r = .row sz es true) ∧ k.run H = some x := by
 simp only [Eff.run] at h
 split at h
 ·exact ⟨⟨_, _, by assumption⟩, h⟩
 ·cases h
theorem run_get {α : Type} {r : Nat} {k : Nat → List (List D) → Eff α} {x : α} (h : (Eff.get r k).run H = some x) : ∃ sz es lv, hat H r = .row sz es lv ∧ (k sz es).run H = some x := by
 simp only [Eff.run] at h
 split at h
 ·exact ⟨_, _, _, by assumption, h⟩
 ·cases h
theorem run_bind' {α β : Type} {e : Eff α} {f : α → Eff β} {y : β} (h : (e.bind f).run H = some y) : ∃ x, e.run H = some x ∧ (f x).run H = some y := by
 induction e with
 | pure a => exact ⟨a, rfl, h⟩
 | fail => simp [Eff.bind, Eff.run] at h
 | get id k ih =>
  obtain ⟨sz, es, lv, h1, h2⟩ := run_get (by exact h)
  obtain ⟨x, h3, h4⟩ := ih sz es h2
  exact ⟨x, by simp [Eff.run, h1, h3], h4⟩
 | live id k ih =>
  obtain ⟨⟨sz, es, h1⟩, h2⟩ := run_live (by exact h)
  obtain ⟨x, h3, h4⟩ := ih h2
  exact ⟨x, by simp [Eff.run, h1, h3], h4⟩
 | new id k ih =>
  obtain ⟨h0, h1, h2⟩ := run_new (by exact h)
  obtain ⟨x, h3, h4⟩ := ih h2
  exact ⟨x, by simp [Eff.run, h0, h1, h3], h4⟩
theorem run_loadAt_one {t : TypeId} {d : TypeDesc} (hu : P.underlying t = some d) (hd : isRowD d = false) {b o : Nat} {u : Value} (hc : w.cell? ⟨b, o, none⟩ = some u) :
  (Instr.loadAt t (.pointer (some ⟨b, o, none⟩))).run P w = .ok u w := by
 have hagg : (isAgg t).run P w = .ok false w := by
  unfold isAgg
  rw [Sem.run_bind, run_underlying hu w]
  cases d <;> simp_all [isRowD]
 simp [Instr.loadAt, Instr.sureAddr, loadVar, Sem.run_bind, hagg, run_load, hc]
theorem load_ok {t : TypeId} {ag : Bool} {n : Nat} (hs : Shape P t ag n) {b o : Nat} {cs : List Value} {ds : List D} {rep : Value → D → Prop} (hc : CR rep cs ds) (hr : w.rangeAt b o cs) (hn : ds.length = n) {d : D}
  (hd : shaped ag ds = some d) (hagg : ∀ vs : List Value, CR rep vs ds → rep (.agg vs.toArray) (.agg ds)) :
  ∃ v, (Instr.loadAt t (.pointer (some ⟨b, o, none⟩))).run P w = .ok v w ∧ rep v d := by
 obtain ⟨td, i, h1, h2, h3, h4⟩ := hs
 cases ag with
 | true =>
  simp only [shaped, if_true, Option.some.injEq] at hd
  subst hd
  refine ⟨_, run_loadAt_mid w b o t cs td hr h1 (by cases td <;> first | rfl | (simp [isRowD] at h2)) (by simp [h3, h4, hc.1, hn]), hagg _ hc⟩
 | false =>
  simp only [shaped, Bool.false_eq_true, if_false] at hd
  match ds, hd, hc with
  | [c], hd, hc =>
   injection hd with hd
   subst hd
   obtain ⟨u, a1, a2, a3⟩ := hc.2 0 c rfl
   exact ⟨u, run_loadAt_one h1 h2 (by simpa using hr 0 u a1), a3⟩
theorem rep_agg_of {G : Gh} {ok : Nat → Prop} {ds : List D} (vs : List Value) (h : CR (Rep fm G ok w) vs ds) : Rep fm G ok w (.agg vs.toArray) (.agg ds) :=
 .agg ds vs h.1 h.one (fun j d v h1 h2 => h.get h2 h1)
theorem repC_agg_of {ok : Nat → Prop} {ds : List D} (vs : List Value) (h : CR (RepC fm ok w) vs ds) : RepC fm ok w (.agg vs.toArray) (.agg ds) :=
 .agg ds vs h.1 h.one (fun j d v h1 h2 => h.get h2 h1)
theorem fptr_range {ok : Nat → Prop} {cs : List D} {v : Value} (h : RepC fm ok w v (.fptr cs)) : ∃ b o vs, v = .pointer (some ⟨b, o, none⟩) ∧ ok b ∧ CR (RepC fm ok w) vs cs ∧ w.rangeAt b o vs := by
 cases h with
 | fptr _ b o u hok hcell hone hrep =>
  refine ⟨b, o, (List.range cs.length).map u, rfl, hok, ⟨by simp, fun j d hj => ?_⟩, fun j v hv => ?_⟩
  ·have hl : j < cs.length := (List.getElem?_eq_some_iff.1 hj).1
   exact ⟨u j, by simp [hl], hone j d hj, hrep j d hj⟩
  ·have hl : j < cs.length := by
    have := (List.getElem?_eq_some_iff.1 hv).1
    simpa using this
   simp [hl] at hv
   subst hv
   exact hcell j _ (List.getElem?_eq_getElem hl)
theorem fptr_mk {ok : Nat → Prop} {cs : List D} {b o : Nat} {vs : List Value} (hok : ok b) (hc : CR (RepC fm ok w) vs cs) (hr : w.rangeAt b o vs) : RepC fm ok w (.pointer (some ⟨b, o, none⟩)) (.fptr cs) := by
 refine .fptr cs b o (fun j => vs.getD j undef) hok (fun j d hj => ?_) (fun j d hj => ?_) (fun j d hj => ?_) <;>
  (obtain ⟨u, a1, a2, a3⟩ := hc.2 j d hj
   simp only [List.getD_eq_getElem?_getD, a1, Option.getD_some])
 ·exact hr j u a1
 ·exact a2
 ·exact a3
theorem op_load (hI : Inv fm B w G H) (hts : TsR (Rep fm G (okB B G H w) w) a.tmps ts) {t : TypeId} {x : Operand} {px : PX} {ag : Bool} {n : Nat} (ho : o.op = .load t x)
  (hs : Shape P t ag n) (hx : TrX fm x px) {call : CallF} {r : Nat} {out : Out} (hrun : (opE call (PX.ev ts) r (.load ag n px)).run H = some out) : OpOk P o a w (Post fm B w G H out) := by
 have hv := ev_rep hts hx
 simp only [opE] at hrun
 cases hp : px.ev ts <;> rw [hp] at hrun hv <;> try (simp [Eff.run] at hrun; done)
 case ptr id off =>
  obtain ⟨sz, es, lv, h1, h2⟩ := run_get hrun
  obtain ⟨b, cap, h3, h4, h5⟩ := hI.rows id sz es lv h1
  obtain hvv := hv.inv_ptr h3
  cases he : es[off / sz]? with
  | none => rw [he] at h2; simp [Eff.run] at h2
  | some e =>
   rw [he] at h2
   simp only at h2
   split at h2
   ·rename_i hle
    obtain ⟨d, hd, rfl⟩ := run_quietO h2
    obtain ⟨cs, hc, hr⟩ := h5.range he
    have hr' := rangeAt_sub hr (off % sz) n
    rw [Nat.div_add_mod' off sz] at hr'
    obtain ⟨v, hl, hrep⟩ := load_ok (P := P) hs ((hc.drop (off % sz)).take n) hr' (by simp; omega) hd (fun vs h => rep_agg_of vs h)
    refine opOk_val (v := v) (w' := w) ?_ (post_quiet hI hrep)
    simp only [execOp, ho, hvv, Sem.run_bind, hl, Result.andThen_ok, Sem.run_pure]
   ·simp [Eff.run] at h2
 case fptr cs =>
  dsimp only at hrun
  split at hrun
  ·rename_i hle
   obtain ⟨d, hd, rfl⟩ := run_quietO hrun
   obtain ⟨b, off, vs, hvv, hok, hc, hr⟩ := fptr_range hv.inv_fptr
   obtain ⟨v, hl, hrep⟩ := load_ok (P := P) (rep := RepC fm (okB B G H w) w) (o := off) hs (hc.take n) (by simpa using rangeAt_sub hr 0 n) (by simp; omega) hd (fun vs h => repC_agg_of vs h)
   refine opOk_val (v := v) (w' := w) ?_ (post_quiet hI (.closed hrep))
   simp only [execOp, ho, hvv, Sem.run_bind, hl, Result.andThen_ok, Sem.run_pure]
  ·simp [Eff.run] at hrun
theorem op_store (hI : Inv fm B w G H) (hts : TsR (Rep fm G (okB B G H w) w) a.tmps ts) {t : TypeId} {x y : Operand} {px py : PX} {n : Nat} (ho : o.op = .store t x y)
  (hs : (P.info? t).map (·.size) = some n) (hx : TrX fm x px) (hy : TrX fm y py) {call : CallF} {r : Nat} {out : Out} (hrun : (opE call (PX.ev ts) r (.store n px py)).run H = some out) :
  OpOk P o a w (Post fm B w G H out) := by
 have hv := ev_rep hts hx
 have hvy := ev_rep hts hy
 simp only [opE] at hrun
 cases hp : px.ev ts <;> rw [hp] at hrun hv <;> try (simp [Eff.run] at hrun; done)
 case ptr id off =>
  obtain ⟨⟨sz, es, h1⟩, hrun⟩ := run_live hrun
  obtain ⟨sz', es', lv, h1', h2⟩ := run_get hrun
  rw [h1] at h1'
  injection h1' with e1 e2 e3
  subst e1; subst e2; subst e3
  obtain ⟨b, cap, h3, h4, h5⟩ := hI.rows id sz es true h1
  obtain hvv := hv.inv_ptr h3
  cases he : es[off / sz]? with
  | none => rw [he] at h2; simp [Eff.run] at h2
  | some e =>
   rw [he] at h2
   simp only at h2
   split at h2
   ·rename_i hle
    obtain ⟨g1, g2, g3⟩ := hle
    simp only [Eff.run, Option.some.injEq] at h2
    subst h2
    have hcs := rep_cells hvy g3
    obtain ⟨w', k1, k2, k3, k4, k5, k6, k7⟩ := h5.write (P := P) he hcs (by omega)
    obtain ⟨ha, hI'⟩ := inv_store hI h1 h3 k2 k3 k4 k5 k6 k7
    refine opOk_skip (w' := w') ?_ ⟨G, ha, hI', .closed (.undef _)⟩
    have := k1 t (by rw [hs, g2]) (a.eval y) rfl
    simp only [execOp, ho, hvv, Instr.storeAt, Instr.sureAddr, Sem.run_bind, Sem.run_pure, Result.andThen_ok, this]
   ·simp [Eff.run] at h2
end
end Go.Pi
