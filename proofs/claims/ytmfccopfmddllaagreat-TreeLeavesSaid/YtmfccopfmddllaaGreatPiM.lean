import GoSem.Machine.Return
import Derived.Laws.AppendOwn
import Derived.Deep.AppendSrc
import Derived.Deep.MidRow
import Derived.Great.BuildSlice
import Derived.Laws.MakeOwn
import Derived.Laws.IdiomStrings
import Derived.Laws.BytesArg
import Derived.Laws.StructEq
import Derived.Laws.Slices
import Derived.Laws.Pointers
import Derived.DeepKeys
import Derived.Orders
import Derived.Laws.Cover3
set_option linter.all false
namespace Go.Pi
inductive D where
 | undef
 | skip
 | bool (b:Bool)
 | int (k:IntKind) (n:Int)
 | flt (b:Option Nat)
 | str (s:List UInt8)
 | nil
 | lst (sz:Nat) (es:List (List D))
 | own (sz:Nat) (es:List (List D))
 | ref (id off len:Nat)
 | ptr (id off:Nat)
 | fptr (cs:List D)
 | nilp
 | agg (cs:List D)
 | tup (vs:List D)
 | fn (f:Nat)
 deriving Inhabited
inductive Blk where
 | fresh
 | dead
 | row (sz:Nat) (es:List (List D)) (live:Bool)
 deriving Inhabited
abbrev zf:=List Blk
def hat (H:zf)(id:Nat):Blk:=H.getD id .fresh
structure Out where
 d:D
 ws:List (Nat×Blk)
 fz:List Nat
inductive Eff (α:Type) where
 | pure (a:α)
 | fail
 | get (id:Nat) (k:Nat→List (List D)→Eff α)
 | live (id:Nat) (k:Eff α)
 | new (id:Nat) (k:Eff α)
def Eff.bind {α β:Type}:Eff α→(α→Eff β)→Eff β
 | .pure a,f=>f a
 | .fail,_=> .fail
 | .get id k,f=> .get id fun sz es=>(k sz es).bind f
 | .live id k,f=> .live id (k.bind f)
 | .new id k,f=> .new id (k.bind f)
def Eff.run {α:Type}:Eff α→zf→Option α
 | .pure a,_=>some a
 | .fail,_=>none
 | .get id k,H=>match hat H id with
  | .row sz es _=>(k sz es).run H
  | _=>none
 | .live id k,H=>match hat H id with
  | .row _ _ true=>k.run H
  | _=>none
 | .new id k,H=>if id<H.length then match hat H id with
   | .fresh=>k.run H
   | _=>none
  else none
def Eff.rd {α:Type}:Eff α→zf→List Nat
 | .pure _,_=> []
 | .fail,_=> []
 | .get id k,H=>match hat H id with
  | .row sz es _=>id::(k sz es).rd H
  | _=> []
 | .live _ k,H=>k.rd H
 | .new _ k,H=>k.rd H
def Eff.lv {α:Type}:Eff α→zf→List Nat
 | .pure _,_=> []
 | .fail,_=> []
 | .get id k,H=>match hat H id with
  | .row sz es _=>(k sz es).lv H
  | _=> []
 | .live id k,H=>id::k.lv H
 | .new id k,H=>id::k.lv H
def ym (f:D→Eff (D×List Nat)):List D→Eff (List D×List Nat)
 | []=> .pure ([],[])
 | d::ds=>(f d).bind fun x=>(ym f ds).bind fun y=> .pure (x.1::y.1,x.2++y.2)
def yf (f:D→Eff (D×List Nat)):List (List D)→Eff (List (List D)×List Nat)
 | []=> .pure ([],[])
 | e::es=>(ym f e).bind fun x=>(yf f es).bind fun y=> .pure (x.1::y.1,x.2++y.2)
def frz:Nat→D→Eff (D×List Nat)
 | 0,_=> .fail
 | n+1,.ref id off len=> .get id fun sz es=>
   if off+len≤es.length then (yf (frz n) ((es.drop off).take len)).bind fun x=> .pure (.lst sz x.1,id::x.2) else .fail
 | n+1,.ptr id off=> .get id fun sz es=>
   match es[off / sz]? with
   | some e=>(ym (frz n) (e.drop (off % sz))).bind fun x=> .pure (.fptr x.1,id::x.2)
   | none=> .fail
 | n+1,.agg cs=>(ym (frz n) cs).bind fun x=> .pure (.agg x.1,x.2)
 | _+1,.tup _=> .fail
 | _+1,.own _ _=> .fail
 | _+1,d=> .pure (d,[])
def ya:Nat:=12
def jn:D→Bool
 | .lst _ _ | .own _ _ | .ref _ _ _ | .ptr _ _ | .fptr _ | .agg _ | .tup _=>false
 | _=>true
def qE:D→Bool
 | .agg cs=>cs.all jn
 | .own _ es=>es.all fun e=>e.all jn
 | d=>jn d
def Y0 (H:zf)(d:D):Option (D×List Nat×List Nat):=
 match d with
 | .ref id off len=>
  match hat H id with
  | .row sz es true=>
   if off=0∧len=es.length then ((yf (frz ya) es).run H).map fun x=>(.own sz x.1,[id],x.2)
   else ((frz ya d).run H).map fun x=>(x.1,[],x.2)
  | _=>((frz ya d).run H).map fun x=>(x.1,[],x.2)
 | d=>((frz ya d).run H).map fun x=>(x.1,[],x.2)
def QP (H:zf):List D→Option (List D×List Nat×List Nat)
 | []=>some ([],[],[])
 | d::ds=>(Y0 H d).bind fun x=>(QP H ds).bind fun y=>some (x.1::y.1,x.2.1++y.2.1,x.2.2++y.2.2)
def jY (r:Nat):D→D×List (Nat×Blk)
 | .own sz es=>(.ref r 0 es.length,[(r,.row sz es true)])
 | d=>(d,[])
def zA (r:Nat):List D→List D×List (Nat×Blk)
 | []=>([],[])
 | d::ds=>((jY r d).1::(zA (r+1) ds).1,(jY r d).2++(zA (r+1) ds).2)
def ZJ (H:zf):Nat→List (Nat×Bool)→Option (List (Nat×Blk)×List Nat)
 | _,[]=>some ([],[])
 | k,(id,true)::bs=>
  match hat H k with
  | .row sz es true=>((yf (frz ya) es).run H).bind fun x=>(ZJ H (k+1) bs).bind fun y=>some ((id,.row sz x.1 true)::y.1,x.2++y.2)
  | _=>none
 | k,(id,false)::bs=>(ZJ H (k+1) bs).bind fun y=>some ((id,.dead)::y.1,y.2)
def yL:Nat→List (Nat×Bool)→List Nat
 | _,[]=> []
 | k,(_,true)::bs=>k::yL (k+1) bs
 | k,(_,false)::bs=>yL (k+1) bs
structure zac where
 args:List D
 rows:zf
 ids:List Nat
 bs:List (Nat×Bool)
def qX:List (Nat×D)→Nat→Eff zac
 | [],_=> .pure ⟨[],[],[],[]⟩
 | (m,d)::rest,k=>
  match m,d with
  | 1,.ref id off len=> .live id (.get id fun sz es=>
   if off=0∧len=es.length then (yf (frz ya) es).bind fun x=>(qX rest (k+1)).bind fun y=>
    .pure ⟨.ref k 0 len::y.args,.row sz x.1 true::y.rows,x.2++y.ids,(id,false)::y.bs⟩
   else .fail)
  | 2,.ptr id off=> .live id (.get id fun sz es=>
   if off=0 then (yf (frz ya) es).bind fun x=>(qX rest (k+1)).bind fun y=>
    .pure ⟨.ptr k 0::y.args,.row sz x.1 true::y.rows,x.2++y.ids,(id,true)::y.bs⟩
   else .fail)
  | _,d=>(frz ya d).bind fun x=>(qX rest k).bind fun y=> .pure ⟨x.1::y.args,y.rows,x.2++y.ids,y.bs⟩
def zP:List Nat→Bool
 | []=>true
 | x::xs => !xs.contains x&&zP xs
def apart (xs ys:List Nat):Bool:=xs.all fun x => !ys.contains x
abbrev zy:=Nat→List D→zf→Option (D×zf)
def Xj:List Nat→Eff Out→Eff Out
 | [],e=>e
 | i::is,e=> .new i (Xj is e)
def qq:D→List D
 | .tup vs=>vs
 | d=> [d]
def qa:D→List D→D
 | .tup _,l=> .tup l
 | _,l=>l.headD .undef
def finish (r:Nat)(p:zac)(d:D)(H1:zf):Option (List Nat×Out):=
 (QP H1 (qq d)).bind fun x=>(ZJ H1 0 p.bs).bind fun y=>
  if zP x.2.1&&apart x.2.1 x.2.2&&apart x.2.1 y.2&&apart x.2.1 (yL 0 p.bs)&&apart (yL 0 p.bs) x.2.2&&apart (yL 0 p.bs) y.2 then
   some ((zA r x.1).2.map (·.1),⟨qa d (zA r x.1).1,y.1++(zA r x.1).2,if p.bs.isEmpty&&x.1.all qE then [] else p.ids⟩)
  else none
def zX (call:zy)(r:Nat)(f:Nat)(args:List (Nat×D)):Eff Out:=
 (qX args 0).bind fun p=>
  if zP (p.bs.map (·.1))&&apart (p.bs.map (·.1)) p.ids then
   match call f p.args p.rows with
   | some x=>match finish r p x.1 x.2 with
    | some o=>Xj o.1 (.pure o.2)
    | none=> .fail
   | none=> .fail
  else .fail
inductive PX where
 | t (i:Nat)
 | c (d:D)
 deriving Inhabited
inductive CK where
 | toInt (k:IntKind)
 | toFlt
 | same
 | bytesStr
 | strBytes
 deriving Inhabited
inductive POp where
 | mv (x:PX)
 | pick (c a b:PX)
 | alloc (zero:List D)
 | box (n:Nat) (x:PX)
 | build (zero:List D) (parts:List (Nat×Nat×PX))
 | buildSlice (sz n:Nat) (zero:List D) (parts:List (Nat×PX))
 | load (ag:Bool) (n:Nat) (x:PX)
 | store (n:Nat) (a x:PX)
 | nilCheck (x:PX)
 | bin (op:BinOp) (x y:PX)
 | eqB (neg:Bool) (x y:PX)
 | eqNS (neg:Bool) (x:PX)
 | eqNP (neg:Bool) (x:PX)
 | eqA (neg:Bool) (ks:List Nat) (x y:PX)
 | un (op:UnOp) (x:PX)
 | conv (c:CK) (x:PX)
 | makeSlice (sz bytes:Nat) (zero:List D) (l c:PX)
 | slice (sz:Nat) (x:PX) (lo hi:Option PX)
 | sliceS (x:PX) (lo hi:Option PX)
 | fieldAddr (off n:Nat) (x:PX)
 | field (ag:Bool) (off n:Nat) (x:PX)
 | indexAddr (sz:Nat) (x i:PX)
 | indexAddrA (sz len:Nat) (x i:PX)
 | index (ag:Bool) (sz len:Nat) (x i:PX)
 | indexS (x i:PX)
 | extract (x:PX) (i:Nat)
 | len (x:PX)
 | lenS (x:PX)
 | append (sz bytes:Nat) (x y:PX)
 | minmax (mx:Bool) (x:PX) (ys:List PX)
 | mark (x:PX)
 | bits (x:PX)
 | ofBits (x:PX)
 | call (f:Nat) (args:List (Nat×PX))
 | callH (f:Nat) (args:List PX)
 | callQ (f:Nat) (args:List (Nat×PX))
 | callV (fs:List Nat) (x:PX) (args:List (Nat×PX))
 deriving Inhabited
structure PO where
 dst:Option Nat
 op:POp
 guard:Option (Nat×Bool)
 after:List Nat
 res:Nat
 deriving Inhabited
inductive PC where
 | skip
 | region (draw:Bool) (nres:Nat) (ops:List PO)
 | seq (a b:PC)
 | cond (c:PX) (x y:PC)
 | block (id:Nat) (c:PC)
 | loop (c:PC)
 | exit (id:Nat)
 | ret
 deriving Inhabited
inductive PR where
 | tmp (t:Nat)
 | cell (ag:Bool) (n:Nat) (a:Nat)
 deriving Inhabited
structure PF where
 ntmps:Nat
 results:List PR
 body:PC
 orc:Option (List D→Option D)
 deriving Inhabited
def PX.ev (ts:List D):PX→D
 | .t i=>ts.getD i .undef
 | .c d=>d
def cellsOf:D→List D
 | .agg cs=>cs
 | d=> [d]
def shaped (ag:Bool)(cs:List D):Option D:=
 if ag then some (.agg cs) else match cs with | [c]=>some c | _=>none
def qF (l:List D)(off:Nat)(m:List D):List D:=l.take off++m++l.drop (off+m.length)
def Xt:List D→List (Nat×Nat×D)→Option (List D)
 | z,[]=>some z
 | z,(off,n,d)::ps=>if (cellsOf d).length=n∧off+n≤z.length then Xt (qF z off (cellsOf d)) ps else none
def YJ (sz:Nat):List (List D)→List (Nat×D)→Option (List (List D))
 | z,[]=>some z
 | z,(i,d)::ps=>if (cellsOf d).length=sz∧i<z.length then YJ sz (z.set i (cellsOf d)) ps else none
def one:D→Bool
 | .agg _ | .tup _ | .own _ _ | .undef | .skip=>false
 | _=>true
def zbq (op:BinOp)(k:IntKind)(a b:Int):Option D:=
 match op with
 | .add=>some (.int k (k.wrap (a+b)))
 | .sub=>some (.int k (k.wrap (a-b)))
 | .mul=>some (.int k (k.wrap (a*b)))
 | .quo=>if b=0 then none else some (.int k (k.wrap (a.tdiv b)))
 | .rem=>if b=0 then none else some (.int k (a.tmod b))
 | .and=>some (.int k (k.wrap (BitVec.ofInt k.bits a &&& BitVec.ofInt k.bits b).toNat))
 | .or=>some (.int k (k.wrap (BitVec.ofInt k.bits a ||| BitVec.ofInt k.bits b).toNat))
 | .xor=>some (.int k (k.wrap (BitVec.ofInt k.bits a ^^^ BitVec.ofInt k.bits b).toNat))
 | .andNot=>some (.int k (k.wrap (BitVec.ofInt k.bits a &&& ~~~ BitVec.ofInt k.bits b).toNat))
 | .eql=>some (.bool (a==b))
 | .neq=>some (.bool (a != b))
 | .lss=>some (.bool (a<b))
 | .leq=>some (.bool (a≤b))
 | .gtr=>some (.bool (a>b))
 | .geq=>some (.bool (a≥b))
 | _=>none
def Xx (op:BinOp)(k:IntKind)(a b:Int):Option D:=
 if b<0 then none else
 match op with
 | .shl=>some (.int k (k.wrap (a*2 ^ min b.toNat k.bits)))
 | .shr=>some (.int k (a.fdiv (2 ^ min b.toNat k.bits)))
 | _=>none
def zgJ (op:BinOp)(a b:List UInt8):Option D:=
 match op with
 | .add=>if a.length+b.length≤1099511627776 then some (.str (a++b)) else none
 | .eql=>some (.bool (a==b))
 | .neq=>some (.bool !(a==b))
 | .lss=>some (.bool (Op.bytesLess a b))
 | .leq=>some (.bool (Op.bytesLess a b || a==b))
 | .gtr=>some (.bool !(Op.bytesLess a b || a==b))
 | .geq=>some (.bool !(Op.bytesLess a b))
 | _=>none
def zfb:D→Option Bool
 | .nil=>some true
 | .ref _ _ _=>some false
 | .lst _ _=>some false
 | _=>none
def zfc:D→Option Bool
 | .nilp=>some true
 | .ptr _ _ | .fptr _=>some false
 | _=>none
abbrev Fl:=Option Nat
def zpD (a b:Fl):Fl:=a.bind fun x=>b.bind fun y=>FloatKind.f64.format.add x y
def zpA (a b:Fl):Fl:=a.bind fun x=>b.bind fun y=>FloatKind.f64.format.sub x y
def zpB (a b:Fl):Fl:=a.bind fun x=>b.bind fun y=>FloatKind.f64.format.mul x y
def zpC (a b:Fl):Fl:=a.bind fun x=>b.bind fun y=>FloatKind.f64.format.div x y
def Vg (a b:Fl):Option Ordering:=a.bind fun x=>b.bind fun y=>FloatKind.f64.format.order x y
def zk9 (a:Fl):Fl:=a.map fun x=>x ^^^ 2 ^ 63
def ziK (op:BinOp)(a b:Fl):Option D:=
 match op with
 | .add=>some (.flt (zpD a b))
 | .sub=>some (.flt (zpA a b))
 | .mul=>some (.flt (zpB a b))
 | .quo=>some (.flt (zpC a b))
 | .eql=>some (.bool (Vg a b==some .eq))
 | .neq=>some (.bool (Vg a b != some .eq))
 | .lss=>some (.bool (Vg a b==some .lt))
 | .leq=>some (.bool (Vg a b==some .lt || Vg a b==some .eq))
 | .gtr=>some (.bool (Vg a b==some .gt))
 | .geq=>some (.bool (Vg a b==some .gt || Vg a b==some .eq))
 | _=>none
def Xl (op:BinOp)(x y:D):Option D:=
 match x,y with
 | .int k a,.int k' b=>
  match op with
  | .shl | .shr=>Xx op k a b
  | _=>if k=k' then zbq op k a b else none
 | .str a,.str b=>zgJ op a b
 | .flt a,.flt b=>ziK op a b
 | _,_=>none
def eqC:D→D→Option Bool
 | .int k a,.int k' b=>if k=k' then some (a==b) else none
 | .bool a,.bool b=>some (a==b)
 | .str a,.str b=>some (a==b)
 | _,_=>none
def jo:List D→List D→Option Bool
 | [],[]=>some true
 | x::xs,y::ys=>(eqC x y).bind fun b=>if b then jo xs ys else some false
 | _,_=>none
def yq:D→Nat
 | .bool _=>0
 | .int _ _=>1
 | .str _=>2
 | _=>9
def unD (op:UnOp)(x:D):Option D:=
 match op,x with
 | .neg,.int k n=>some (.int k (k.wrap (0-n)))
 | .xor,.int k n=>zbq .xor k (if k.signed then -1 else k.max) n
 | .not,.bool b=>some (.bool !b)
 | .neg,.flt a=>some (.flt (zk9 a))
 | _,_=>none
def bytesOf:List (List D)→Option (List UInt8)
 | []=>some []
 | [.int .u8 n]::es=>(bytesOf es).map fun l=>UInt8.ofNat n.toNat::l
 | _=>none
def ofBytes (l:List UInt8):List (List D):=l.map fun b=> [.int .u8 (b.toNat:Int)]
def roomy:Nat:=1099511627776
def cut (len:Nat)(lo hi:Option D):Option (Nat×Nat):=
 let h:Option Nat:=match hi with
  | none=>some len
  | some (.int _ n)=>if 0≤n∧n≤len then some n.toNat else none
  | _=>none
 h.bind fun h=>
  match lo with
  | none=>some (0,h)
  | some (.int _ n)=>if 0≤n∧n≤h then some (n.toNat,h) else none
  | _=>none
def Yl (mx:Bool):Int→List D→IntKind→Option Int
 | a,[],_=>some a
 | a,.int k' b::ds,k=>if k=k' then Yl mx (if mx then (if b>a then b else a) else (if b<a then b else a)) ds k else none
 | _,_,_=>none
def quiet (d:D):Eff Out:= .pure ⟨d,[],[]⟩
def zZ:Option D→Eff Out
 | some d=>quiet d
 | none=> .fail
def source (sz:Nat):D→Eff (List (List D))
 | .nil=> .pure []
 | .lst s es=>if s=sz∨es.isEmpty then .pure es else .fail
 | .ref id off len=> .get id fun s es=>if s=sz∧off+len≤es.length then .pure ((es.drop off).take len) else .fail
 | .str s=>if sz=1 then .pure (ofBytes s) else .fail
 | _=> .fail
def opE (call:zy)(ρ:PX→D)(r:Nat):POp→Eff Out
 | .mv x=>quiet (ρ x)
 | .pick c a b=>match ρ c with
  | .bool t=>quiet (if t then ρ a else ρ b)
  | _=> .fail
 | .alloc zero=> .new r (.pure ⟨.ptr r 0,[(r,.row zero.length [zero] true)],[]⟩)
 | .box n x=>if (cellsOf (ρ x)).length=n∧(cellsOf (ρ x)).all one then .new r (.pure ⟨.ptr r 0,[(r,.row n [cellsOf (ρ x)] true)],[]⟩) else .fail
 | .build zero parts=>
  if parts.all fun p=>(cellsOf (ρ p.2.2)).all one then
   zZ ((Xt zero (parts.map fun p=>(p.1,p.2.1,ρ p.2.2))).map .agg) else .fail
 | .buildSlice sz n zero parts=>
  if parts.all fun p=>(cellsOf (ρ p.2)).all one then
   match YJ sz (List.replicate n zero) (parts.map fun p=>(p.1,ρ p.2)) with
   | some es=> .new r (.pure ⟨.ref r 0 n,[(r,.row sz es true)],[]⟩)
   | none=> .fail
  else .fail
 | .load ag n x=>match ρ x with
  | .ptr id off=> .get id fun sz es=>
   match es[off / sz]? with
   | some e=>if off % sz+n≤e.length then zZ (shaped ag ((e.drop (off % sz)).take n)) else .fail
   | none=> .fail
  | .fptr cs=>if n≤cs.length then zZ (shaped ag (cs.take n)) else .fail
  | _=> .fail
 | .store n a x=>match ρ a with
  | .ptr id off=> .live id (.get id fun sz es=>
   match es[off / sz]? with
   | some e=>
    if off % sz+n≤e.length∧(cellsOf (ρ x)).length=n∧(cellsOf (ρ x)).all one then
     .pure ⟨.undef,[(id,.row sz (es.set (off / sz) (qF e (off % sz) (cellsOf (ρ x)))) true)],[]⟩
    else .fail
   | none=> .fail)
  | _=> .fail
 | .nilCheck x=>match ρ x with
  | .ptr id off=>quiet (.ptr id off)
  | .fptr cs=>quiet (.fptr cs)
  | _=> .fail
 | .bin op x y=>zZ (Xl op (ρ x) (ρ y))
 | .eqB neg x y=>match ρ x,ρ y with
  | .bool a,.bool b=>quiet (.bool (if neg then !(a==b) else a==b))
  | _,_=> .fail
 | .eqNS neg x=>zZ ((zfb (ρ x)).map fun t=> .bool (if neg then !t else t))
 | .eqNP neg x=>zZ ((zfc (ρ x)).map fun t=> .bool (if neg then !t else t))
 | .eqA neg ks x y=>match ρ x,ρ y with
  | .agg a,.agg b=>if a.map yq=ks∧b.map yq=ks then zZ ((jo a b).map fun t=> .bool (if neg then !t else t)) else .fail
  | _,_=> .fail
 | .un op x=>zZ (unD op (ρ x))
 | .conv c x=>match c with
  | .toInt k=>(match ρ x with
   | .int _ n=>quiet (.int k (k.wrap n))
   | _=> .fail)
  | .same=>quiet (ρ x)
  | .bytesStr=>(match ρ x with
   | .nil=>quiet (.str [])
   | .lst sz es=>if sz=1 then zZ ((bytesOf es).map .str) else .fail
   | .ref id off len=> .get id fun sz es=>if sz=1∧off+len≤es.length then zZ ((bytesOf ((es.drop off).take len)).map .str) else .fail
   | _=> .fail)
  | .strBytes=>(match ρ x with
   | .str s=>if s.length≤roomy then quiet (.lst 1 (ofBytes s)) else .fail
   | _=> .fail)
  | .toFlt=>(match ρ x with
   | .int _ n=>quiet (.flt (some (FloatKind.f64.nearest n)))
   | _=> .fail)
 | .makeSlice sz bytes zero l c=>match ρ l,ρ c with
  | .int _ n,.int _ m=>if 0≤n∧n=m∧n≤roomy∧n*bytes≤roomy then .new r (.pure ⟨.ref r 0 n.toNat,[(r,.row sz (List.replicate n.toNat zero) true)],[]⟩) else .fail
  | _,_=> .fail
 | .slice sz x lo hi=>match ρ x with
  | .nil=>zZ ((cut 0 (lo.map ρ) (hi.map ρ)).map fun _=> .nil)
  | .lst s es=>if s=sz then zZ ((cut es.length (lo.map ρ) (hi.map ρ)).map fun p=> .lst s ((es.drop p.1).take (p.2-p.1))) else .fail
  | .ref id off len=> .get id fun s _=>if s=sz then zZ ((cut len (lo.map ρ) (hi.map ρ)).map fun p=> .ref id (off+p.1) (p.2-p.1)) else .fail
  | _=> .fail
 | .sliceS x lo hi=>match ρ x with
  | .str s=>zZ ((cut s.length (lo.map ρ) (hi.map ρ)).map fun p=> .str ((s.drop p.1).take (p.2-p.1)))
  | _=> .fail
 | .fieldAddr off _ x=>match ρ x with
  | .ptr id o=>quiet (.ptr id (o+off))
  | .fptr cs=>quiet (.fptr (cs.drop off))
  | _=> .fail
 | .field ag off n x=>match ρ x with
  | .agg cs=>if off+n≤cs.length then zZ (shaped ag ((cs.drop off).take n)) else .fail
  | _=> .fail
 | .indexAddr sz x i=>match ρ i with
  | .int _ n=>match ρ x with
   | .ref id off len=> .get id fun s _=>if 0≤n∧n<len∧s=sz then quiet (.ptr id ((off+n.toNat)*sz)) else .fail
   | .lst s es=>if 0≤n∧s=sz then (match es[n.toNat]? with | some e=>quiet (.fptr e) | none=> .fail) else .fail
   | _=> .fail
  | _=> .fail
 | .indexAddrA sz len x i=>match ρ i with
  | .int _ n=>if 0≤n∧n<len then (match ρ x with
   | .ptr id o=>quiet (.ptr id (o+n.toNat*sz))
   | .fptr cs=>quiet (.fptr (cs.drop (n.toNat*sz)))
   | _=> .fail) else .fail
  | _=> .fail
 | .index ag sz len x i=>match ρ i,ρ x with
  | .int _ n,.agg cs=>if 0≤n∧n<len∧n.toNat*sz+sz≤cs.length then zZ (shaped ag ((cs.drop (n.toNat*sz)).take sz)) else .fail
  | _,_=> .fail
 | .indexS x i=>match ρ i,ρ x with
  | .int _ n,.str s=>if 0≤n then zZ ((s[n.toNat]?).map fun b=> .int .u8 (b.toNat:Int)) else .fail
  | _,_=> .fail
 | .extract x i=>match ρ x with
  | .tup vs=>zZ vs[i]?
  | _=> .fail
 | .lenS x=>match ρ x with
  | .str s=>quiet (.int .i64 (s.length:Int))
  | _=> .fail
 | .len x=>match ρ x with
  | .nil=>quiet (.int .i64 0)
  | .lst _ es=>quiet (.int .i64 (es.length:Int))
  | .ref _ _ len=>quiet (.int .i64 (len:Int))
  | _=> .fail
 | .append sz bytes x y=>(source sz (ρ y)).bind fun src=>
  if src.isEmpty then
   (match ρ x with
   | .nil=>quiet .nil
   | .ref id off len=>quiet (.ref id off len)
   | .lst s es=>quiet (.lst s es)
   | _=> .fail)
  else
   (match ρ x with
   | .nil=>if src.length≤roomy∧src.length*bytes≤roomy then .new r (.pure ⟨.ref r 0 src.length,[(r,.row sz src true)],[]⟩) else .fail
   | .ref id off len=> .live id (.get id fun s es=>
    if s=sz∧off=0∧len≤es.length∧len+src.length≤roomy∧(len+src.length)*bytes≤roomy then
     .new r (.pure ⟨.ref r 0 (len+src.length),[(id,.dead),(r,.row sz (es.take len++src) true)],[]⟩)
    else .fail)
   | _=> .fail)
 | .minmax mx x ys=>match ρ x with
  | .int k a=>zZ ((Yl mx a (ys.map ρ) k).map (.int k))
  | _=> .fail
 | .mark x=>match ρ x with
  | .ref id off len=> .live id (.get id fun sz es=>if sz=1∧off=0∧len=es.length∧(bytesOf es).isSome=true∧0<len then .pure ⟨.lst 1 es,[(id,.dead)],[]⟩ else .fail)
  | _=> .fail
 | .bits x=>match ρ x with
  | .flt (some b)=>quiet (.int .u64 (b:Int))
  | .flt none=>quiet .undef
  | _=> .fail
 | .ofBits x=>match ρ x with
  | .int .u64 n=>quiet (.flt (some n.toNat))
  | _=> .fail
 | .call f args=>zX call r f (args.map fun p=>(p.1,ρ p.2))
 | .callH _ _=> .fail
 | .callQ f args=>(zX call r f (args.map fun p=>(p.1,ρ p.2))).bind fun o=>if o.ws.isEmpty&&o.fz.isEmpty then .pure o else .fail
 | .callV fs x args=>match ρ x with
  | .fn f=>if fs.contains f then (zX call r f (args.map fun p=>(p.1,ρ p.2))).bind fun o=>if o.ws.isEmpty&&o.fz.isEmpty then .pure o else .fail else .fail
  | _=> .fail
def freeze:Blk→Blk
 | .row sz es _=> .row sz es false
 | b=>b
def ye (H:zf):List (Nat×Blk)→zf
 | []=>H
 | (i,b)::ws=>ye (H.set i b) ws
def qD (H:zf):List Nat→zf
 | []=>H
 | i::is=>qD (H.modify i freeze) is
def Out.on (o:Out)(H:zf):zf:=qD (ye H o.ws) o.fz
@[ext] structure St where
 ts:List D
 hp:zf
def yh (ts:List D)(dst:Option Nat)(d:D):List D:=
 match dst with
 | some i=>ts.set i d
 | none=>ts
def zu (ts:List D):Option (Nat×Bool)→Bool
 | none=>true
 | some (t,b)=>match ts.getD t .undef with | .bool c=>c==b | _=>false
def zN (ts:List D):Option (Nat×Bool)→Bool
 | none=>true
 | some (t,_)=>match ts.getD t .undef with | .bool _=>true | .skip=>true | _=>false
structure Fp where
 rd:List Nat
 lv:List Nat
 wr:List Nat
 fz:List Nat
 all:Bool
def zD (call:zy)(base:Nat)(o:PO)(s:St):Option St:=
 if zN s.ts o.guard then
  if zu s.ts o.guard then
   match o.op with
   | .callH f args=>(call f (args.map (PX.ev s.ts)) s.hp).map fun x=>⟨yh s.ts o.dst x.1,x.2⟩
   | op=>((opE call (PX.ev s.ts) (base+o.res) op).run s.hp).map fun x=>⟨yh s.ts o.dst x.d,x.on s.hp⟩
  else some ⟨yh s.ts o.dst .skip,s.hp⟩
 else none
def zq (call:zy)(base:Nat)(o:PO)(s:St):Fp:=
 if zu s.ts o.guard then
  match o.op with
  | .callH _ _=>⟨[],[],[],[],true⟩
  | op=>
   let e:=opE call (PX.ev s.ts) (base+o.res) op
   match e.run s.hp with
   | some x=>⟨e.rd s.hp,e.lv s.hp,x.ws.map (·.1),x.fz,false⟩
   | none=>⟨[],[],[],[],false⟩
 else ⟨[],[],[],[],false⟩
def meets (xs ys:List Nat):Bool:=xs.any fun x=>ys.contains x
def Fp.idle (a:Fp):Bool := !a.all&&a.rd.isEmpty&&a.lv.isEmpty&&a.wr.isEmpty&&a.fz.isEmpty
def clash (a b:Fp):Bool:=
 (a.all && !b.idle) || (b.all && !a.idle) ||
 meets a.wr b.rd || meets a.wr b.lv || meets a.wr b.wr || meets a.wr b.fz ||
 meets b.wr a.rd || meets b.wr a.lv || meets b.wr a.fz || meets a.fz b.lv || meets b.fz a.lv
def jW (call:zy)(base:Nat):List PO→St→Option St
 | [],s=>some s
 | o::os,s=>(zD call base o s).bind (jW call base os)
def YA (call:zy)(base:Nat):List PO→Nat→List (Nat×Fp)→St→Option St
 | [],_,_,s=>some s
 | o::os,i,seen,s=>
  let f:=zq call base o s
  if seen.all fun p=>o.after.contains p.1 || !clash p.2 f then
   (zD call base o s).bind (YA call base os (i+1) ((i,f)::seen))
  else none
inductive Ex where
 | normal
 | exit (id:Nat)
 | ret
def y8 (body:St→Option (Ex×St)):Nat→St→Option (Ex×St)
 | 0,_=>none
 | n+1,s=>match body s with
  | some (.normal,s')=>y8 body n s'
  | r=>r
def code (call:zy)(fuel:Nat):PC→St→Option (Ex×St)
 | .skip,s=>some (.normal,s)
 | .region draw nres ops,s=>
  let s0:St:=⟨s.ts,s.hp++List.replicate nres .fresh⟩
  ((if draw then YA call s.hp.length ops 0 [] s0 else jW call s.hp.length ops s0)).map fun s'=>(.normal,s')
 | .seq a b,s=>match code call fuel a s with
  | some (.normal,s')=>code call fuel b s'
  | r=>r
 | .cond c x y,s=>match c.ev s.ts with
  | .bool b=>if b then code call fuel x s else code call fuel y s
  | _=>none
 | .block id c,s=>match code call fuel c s with
  | some (.exit j,s')=>if j=id then some (.normal,s') else some (.exit j,s')
  | r=>r
 | .loop c,s=>y8 (code call fuel c) fuel s
 | .exit id,s=>some (.exit id,s)
 | .ret,s=>some (.ret,s)
def YC (s:St):PR→Option D
 | .tmp t=>some (s.ts.getD t .undef)
 | .cell ag n a=>match s.ts.getD a .undef with
  | .ptr id 0=>match hat s.hp id with
   | .row _ [e] _=>if e.length=n then shaped ag e else none
   | _=>none
  | _=>none
def YB (s:St):List PR→Option (List D)
 | []=>some []
 | r::rs=>(YC s r).bind fun d=>(YB s rs).map fun ds=>d::ds
def jQ (s:St)(rs:List PR):Option D:=
 (YB s rs).map fun ds=>match ds with | [d]=>d | ds=> .tup ds
abbrev yn:=Nat→Option PF
def runN (P:yn):Nat→zy
 | 0=>fun _ _ _=>none
 | n+1=>fun f args H=>
  match P f with
  | none=>none
  | some pf=>match pf.orc with
   | some g=>(g args).map fun d=>(d,H)
   | none=>match code (runN P n) n pf.body ⟨args++List.replicate (pf.ntmps-args.length) .undef,H⟩ with
   | some (.normal,s) | some (.ret,s)=>(jQ s pf.results).map fun d=>(d,s.hp)
   | _=>none
set_option linter.unusedVariables false
theorem qw (b o k:Nat):(⟨b,o,none⟩:Addr).add k=⟨b,o+k,none⟩:=by unfold Addr.add;split<;>simp_all
inductive GS where
 | fresh
 | row (b cap sz:Nat)
abbrev Gh:=Nat→GS
def upd (G:Gh)(i:Nat)(s:GS):Gh:=fun j=>if j=i then s else G j
theorem qz (G:Gh)(i:Nat)(s:GS):upd G i s i=s:=by simp [upd]
theorem jR (G:Gh){i j:Nat}(s:GS)(h:j≠i):upd G i s j=G j:=by simp [upd,h]
def GS.le:GS→GS→Prop
 | .fresh,_=>True
 | .row b c z,s=>s= .row b c z
theorem GS.le_refl (s:GS):s.le s:=by cases s<;>simp [GS.le]
theorem GS.le_trans {a b c:GS}(h:a.le b)(k:b.le c):a.le c:=by
 cases a<;>cases b<;>simp_all [GS.le]
theorem GS.ne_fresh {s:GS}(h:s ≠ .fresh): ∃b c z,s= .row b c z:=by
 cases s with
 | fresh=>exact absurd rfl h
 | row b c z=>exact ⟨b,c,z,rfl⟩
def gle (G G':Gh):Prop:= ∀i,(G i).le (G' i)
theorem j2 (G:Gh):gle G G:=fun i=>GS.le_refl _
theorem zd0 {G G' G'':Gh}(h:gle G G')(k:gle G' G''):gle G G'':=fun i=>GS.le_trans (h i) (k i)
def nanBits (b:Nat):Prop:=FloatKind.f64.format.order b b=none
def FlB (a:Option Nat)(m:Nat):Prop:=match a with
 | some b=>m=b
 | none=>nanBits m
section
variable (fm:Nat→Nat)
inductive RepC (ok:Nat→Prop) (w:World):Value→D→Prop where
 | undef (v:Value):RepC ok w v .undef
 | skip:RepC ok w Go.undef .skip
 | bool (b:Bool):RepC ok w (.bool b) (.bool b)
 | int (k:IntKind) (n:Int):RepC ok w (.int k n) (.int k n)
 | flt (a:Option Nat) (m:Nat) (h:FlB a m):RepC ok w (.float .f64 m) (.flt a)
 | str (s:List UInt8):RepC ok w (.string ⟨s.toArray⟩) (.str s)
 | nil:RepC ok w (.slice none 0 0) .nil
 | lst0 (sz:Nat) (A:Addr) (c:Nat):RepC ok w (.slice (some A) 0 c) (.lst sz [])
 | lst1 (sz:Nat) (es:List (List D)) (b o c:Nat) (u:Nat→Nat→Value) (hc:es.length≤c) (hok:ok b)
   (hlen: ∀e∈es,e.length=sz)
   (hcell: ∀(i j:Nat) (e:List D) (d:D),es[i]? = some e→e[j]? = some d→w.cell? ⟨b,o+(i*sz+j),none⟩=some (u i j))
   (hone: ∀(i j:Nat) (e:List D) (d:D),es[i]? = some e→e[j]? = some d→(u i j).oneCell'=true)
   (hrep: ∀(i j:Nat) (e:List D) (d:D),es[i]? = some e→e[j]? = some d→RepC ok w (u i j) d) :
   RepC ok w (.slice (some ⟨b,o,none⟩) es.length c) (.lst sz es)
 | fptr (cs:List D) (b o:Nat) (u:Nat→Value) (hok:ok b)
   (hcell: ∀(j:Nat) (d:D),cs[j]? = some d→w.cell? ⟨b,o+j,none⟩=some (u j))
   (hone: ∀(j:Nat) (d:D),cs[j]? = some d→(u j).oneCell'=true)
   (hrep: ∀(j:Nat) (d:D),cs[j]? = some d→RepC ok w (u j) d) :
   RepC ok w (.pointer (some ⟨b,o,none⟩)) (.fptr cs)
 | nilp:RepC ok w (.pointer none) .nilp
 | agg (cs:List D) (vs:List Value) (hl:vs.length=cs.length)
   (hone: ∀v∈vs,v.oneCell'=true)
   (hrep: ∀(j:Nat) (d:D) (v:Value),cs[j]? = some d→vs[j]? = some v→RepC ok w v d) :
   RepC ok w (.agg vs.toArray) (.agg cs)
 | fn (f:Nat):RepC ok w (.func (.func (fm f)) #[] #[]) (.fn f)
theorem RepC.mono {ok ok':Nat→Prop}{w w':World}(hk: ∀b,ok b→ok' b)(hw: ∀b o v,ok b→w.cell? ⟨b,o,none⟩=some v→w'.cell? ⟨b,o,none⟩=some v)
  {v:Value} {d:D} (h:RepC fm ok w v d):RepC fm ok' w' v d:=by
 induction h with
 | undef v=>exact .undef v
 | skip=>exact .skip
 | bool b=>exact .bool b
 | int k n=>exact .int k n
 | flt a m h=>exact .flt a m h
 | str s=>exact .str s
 | nil=>exact .nil
 | lst0 sz A c=>exact .lst0 sz A c
 | lst1 sz es b o c u hc hok hlen hcell hone hrep ih=>
  exact .lst1 sz es b o c u hc (hk _ hok) hlen (fun i j e d h1 h2=>hw _ _ _ hok (hcell i j e d h1 h2)) hone ih
 | fptr cs b o u hok hcell hone hrep ih=>exact .fptr cs b o u (hk _ hok) (fun j d h=>hw _ _ _ hok (hcell j d h)) hone ih
 | nilp=>exact .nilp
 | agg cs vs hl hone hrep ih=>exact .agg cs vs hl hone ih
 | fn f=>exact .fn f
def zdu (v:Value)(b cap sz off len:Nat):Prop:=
 off+len≤cap∧ ∃(a:Addr),v= .slice (some a) len (cap-off)∧(a=⟨b,off*sz,none⟩∨cap-off=0)
inductive Rep (G:Gh) (ok:Nat→Prop) (w:World):Value→D→Prop where
 | closed {v:Value} {d:D} (h:RepC fm ok w v d):Rep G ok w v d
 | ref (id off len:Nat) (v:Value) (hf:G id ≠ .fresh) (h: ∀b cap sz,G id= .row b cap sz→zdu v b cap sz off len) (h1:v.oneCell'=true):Rep G ok w v (.ref id off len)
 | ptr (id off:Nat) (v:Value) (hf:G id ≠ .fresh) (h: ∀b cap sz,G id= .row b cap sz→v= .pointer (some ⟨b,off,none⟩)) (h1:v.oneCell'=true):Rep G ok w v (.ptr id off)
 | agg (cs:List D) (vs:List Value) (hl:vs.length=cs.length)
   (hone: ∀v∈vs,v.oneCell'=true)
   (hrep: ∀(j:Nat) (d:D) (v:Value),cs[j]? = some d→vs[j]? = some v→Rep G ok w v d) :
   Rep G ok w (.agg vs.toArray) (.agg cs)
 | tup (ds:List D) (vs:List Value) (hl:vs.length=ds.length)
   (hrep: ∀(j:Nat) (d:D) (v:Value),ds[j]? = some d→vs[j]? = some v→Rep G ok w v d) :
   Rep G ok w (.tuple vs.toArray) (.tup ds)
theorem Rep.mono {G G':Gh}{ok ok':Nat→Prop}{w w':World}(hg:gle G G')(hk: ∀b,ok b→ok' b)
  (hw: ∀b o v,ok b→w.cell? ⟨b,o,none⟩=some v→w'.cell? ⟨b,o,none⟩=some v)
  {v:Value} {d:D} (h:Rep fm G ok w v d):Rep fm G' ok' w' v d:=by
 induction h with
 | closed h=>exact .closed (h.mono fm hk hw)
 | ref id off len v hf h h1=>
  refine .ref id off len v ?_ ?_ h1
  ·intro e;obtain ⟨b,c,z,hG⟩:=GS.ne_fresh hf
   have:=hg id
   rw [e,hG] at this;simp [GS.le] at this
  ·intro b cap sz e;obtain ⟨b',c',z',hG⟩:=GS.ne_fresh hf
   have:=hg id
   rw [e,hG] at this;simp [GS.le] at this
   obtain ⟨rfl,rfl,rfl⟩:=this
   exact h _ _ _ hG
 | ptr id off v hf h h1=>
  refine .ptr id off v ?_ ?_ h1
  ·intro e;obtain ⟨b,c,z,hG⟩:=GS.ne_fresh hf
   have:=hg id
   rw [e,hG] at this;simp [GS.le] at this
  ·intro b cap sz e;obtain ⟨b',c',z',hG⟩:=GS.ne_fresh hf
   have:=hg id
   rw [e,hG] at this;simp [GS.le] at this
   obtain ⟨rfl,rfl,rfl⟩:=this
   exact h _ _ _ hG
 | agg cs vs hl hone hrep ih=>exact .agg cs vs hl hone ih
 | tup ds vs hl hrep ih=>exact .tup ds vs hl ih
structure RowOk (rep:Value→D→Prop) (w:World) (sz:Nat) (es:List (List D)) (b cap:Nat):Prop where
 blk: ∃(c:Array Value) (T:TypeId),w.heap[b]? = some (.cells c T (0,0))∧c.size=cap*sz ∧
  ∀(i j:Nat) (e:List D) (d:D),es[i]? = some e→e[j]? = some d→ ∃u,c[i*sz+j]? = some u∧u.oneCell'=true∧rep u d
 len:es.length≤cap
 cap:cap≤maxLen
 each: ∀e∈es,e.length=sz
def isRow (H:zf)(i:Nat):Prop:= ∃sz es lv,hat H i= .row sz es lv
structure qo where
 A:Nat→Prop
 W0:World
 L0:Nat→Prop
def Lv (G:Gh)(H:zf)(b:Nat):Prop:= ∃id sz es cap sz',hat H id= .row sz es true∧G id= .row b cap sz'
def okB (B:qo)(G:Gh)(H:zf)(w:World)(b:Nat):Prop:=(B.A b∨B.L0 b∨B.W0.heap.size≤b)∧ ¬Lv G H b∧b<w.heap.size
structure Inv (B:qo) (w:World) (G:Gh) (H:zf):Prop where
 size:B.W0.heap.size≤w.heap.size
 os:w.os=B.W0.os
 tape:w.tape=B.W0.tape
 output:w.output=B.W0.output
 frame: ∀b,b<B.W0.heap.size→ ¬B.L0 b→w.heap[b]? = B.W0.heap[b]?
 rows: ∀id sz es lv,hat H id= .row sz es lv→ ∃b cap,G id= .row b cap sz∧(B.L0 b∨B.W0.heap.size≤b)∧RowOk (Rep fm G (okB B G H w) w) w sz es b cap
 fresh: ∀id,hat H id= .fresh→G id= .fresh
 dead: ∀id,hat H id= .dead→G id ≠ .fresh
 inj: ∀i j b cap sz cap' sz',isRow H i→isRow H j→G i= .row b cap sz→G j= .row b cap' sz'→i=j
 A0: ∀b,B.A b→ ¬B.L0 b∧b<B.W0.heap.size
structure Adv (B:qo) (w:World) (G:Gh) (H:zf) (w':World) (G':Gh) (H':zf):Prop where
 gh:gle G G'
 ok: ∀b,okB B G H w b→okB B G' H' w' b
 cell: ∀b o v,okB B G H w b→w.cell? ⟨b,o,none⟩=some v→w'.cell? ⟨b,o,none⟩=some v
variable {fm}
theorem Adv.refl (B:qo)(w:World)(G:Gh)(H:zf):Adv B w G H w G H:=⟨j2 _,fun _ h=>h,fun _ _ _ _ h=>h⟩
theorem Adv.trans {B:qo}{w w1 w2:World}{G G1 G2:Gh}{H H1 H2:zf}(h:Adv B w G H w1 G1 H1)(k:Adv B w1 G1 H1 w2 G2 H2):Adv B w G H w2 G2 H2:=
 ⟨zd0 h.gh k.gh,fun b hb=>k.ok b (h.ok b hb),fun b o v hb hc=>k.cell b o v (h.ok b hb) (h.cell b o v hb hc)⟩
theorem Adv.rep {B:qo}{w w':World}{G G':Gh}{H H':zf}(h:Adv B w G H w' G' H'){v:Value}{d:D}(hr:Rep fm G (okB B G H w) w v d) :
  Rep fm G' (okB B G' H' w') w' v d:=hr.mono fm h.gh h.ok h.cell
theorem RowOk.mono {rep rep':Value→D→Prop}{w w':World}{sz:Nat}{es:List (List D)}{b cap:Nat}(h:RowOk rep w sz es b cap)
  (hr: ∀v d,rep v d→rep' v d) (hb:w'.heap[b]? = w.heap[b]?):RowOk rep' w' sz es b cap:=by
 obtain ⟨⟨c,T,h1,h2,h3⟩,h4,h5,h6⟩:=h
 exact ⟨⟨c,T,by rw [hb];exact h1,h2,fun i j e d he hd=>let ⟨u,a1,a2,a3⟩:=h3 i j e d he hd; ⟨u,a1,a2,hr _ _ a3⟩⟩,h4,h5,h6⟩
theorem yM (H:zf)(i j:Nat)(b:Blk):hat (H.set i b) j=if i=j∧i<H.length then b else hat H j:=by
 unfold hat;simp only [List.getD_eq_getElem?_getD,List.getElem?_set];by_cases h:i=j
 ·subst h;by_cases hl:i<H.length
  ·simp [hl]
  ·simp [hl]
 ·simp [h]
theorem ZC {H:zf}{i:Nat}(h:i<H.length)(b:Blk):hat (H.set i b) i=b:=by simp [yM,h]
theorem qJ (H:zf){i j:Nat}(h:i≠j)(b:Blk):hat (H.set i b) j=hat H j:=by simp [yM,h]
theorem XA {H:zf}{i:Nat}(h:hat H i ≠ .fresh):i<H.length:=by
 unfold hat at h;by_cases hl:i<H.length
 ·exact hl
 ·exact absurd (by simp [List.getD_eq_getElem?_getD,List.getElem?_eq_none (by omega:H.length≤i)]) h
theorem zb4 (H:zf)(i j:Nat):hat (H.modify i freeze) j=if i=j then freeze (hat H j) else hat H j:=by
 unfold hat;simp only [List.getD_eq_getElem?_getD,List.getElem?_modify];by_cases h:i=j
 ·subst h
  cases hx:H[i]? <;> simp [freeze]
 ·simp [h]
theorem Jl (H:zf)(n j:Nat):hat (H++List.replicate n .fresh) j=hat H j:=by
 unfold hat;simp only [List.getD_eq_getElem?_getD,List.getElem?_append];by_cases h:j<H.length
 ·simp [h]
 ·simp only [h,if_false];rw [List.getElem?_eq_none (by omega:H.length≤j),List.getElem?_replicate];split<;>rfl
end
section
variable {fm:Nat→Nat} {G:Gh} {ok:Nat→Prop} {w:World} {v:Value}
theorem Rep.inv_bool {b:Bool}(h:Rep fm G ok w v (.bool b)):v= .bool b:=by cases h with | closed h=>cases h;rfl
theorem Rep.inv_int {k:IntKind}{n:Int}(h:Rep fm G ok w v (.int k n)):v= .int k n:=by cases h with | closed h=>cases h;rfl
theorem Rep.inv_skip (h:Rep fm G ok w v .skip):v=undef:=by cases h with | closed h=>cases h;rfl
theorem Rep.inv_flt {a:Option Nat}(h:Rep fm G ok w v (.flt a)): ∃m,v= .float .f64 m∧FlB a m:=by
 cases h with
 | closed h=>cases h with
  | flt a m h=>exact ⟨m,rfl,h⟩
theorem Rep.inv_str {s:List UInt8}(h:Rep fm G ok w v (.str s)):v= .string ⟨s.toArray⟩:=by cases h with | closed h=>cases h;rfl
theorem Rep.inv_nil (h:Rep fm G ok w v .nil):v= .slice none 0 0:=by cases h with | closed h=>cases h;rfl
theorem Rep.inv_nilp (h:Rep fm G ok w v .nilp):v= .pointer none:=by cases h with | closed h=>cases h;rfl
theorem Rep.inv_fn {f:Nat}(h:Rep fm G ok w v (.fn f)):v= .func (.func (fm f)) #[] #[]:=by cases h with | closed h=>cases h;rfl
theorem Rep.inv_ref {id off len b cap sz:Nat}(h:Rep fm G ok w v (.ref id off len))(hg:G id= .row b cap sz):zdu v b cap sz off len:=by
 cases h with
 | closed h=>cases h
 | ref _ _ _ _ hf h _=>exact h _ _ _ hg
theorem Rep.inv_ptr {id off b cap sz:Nat}(h:Rep fm G ok w v (.ptr id off))(hg:G id= .row b cap sz):v= .pointer (some ⟨b,off,none⟩):=by
 cases h with
 | closed h=>cases h
 | ptr _ _ _ hf h=>exact h _ _ _ hg
theorem Rep.ref_fresh {id off len:Nat}(h:Rep fm G ok w v (.ref id off len)):G id ≠ .fresh:=by
 cases h with
 | closed h=>cases h
 | ref _ _ _ _ hf h _=>exact hf
theorem Rep.ptr_fresh {id off:Nat}(h:Rep fm G ok w v (.ptr id off)):G id ≠ .fresh:=by
 cases h with
 | closed h=>cases h
 | ptr _ _ _ hf h=>exact hf
theorem Rep.inv_agg {cs:List D}(h:Rep fm G ok w v (.agg cs)): ∃vs:List Value,v= .agg vs.toArray∧vs.length=cs.length∧(∀v∈vs,v.oneCell'=true) ∧
  ∀(j:Nat) (d:D) (v:Value),cs[j]? = some d→vs[j]? = some v→Rep fm G ok w v d:=by
 cases h with
 | closed h=>cases h with
  | agg _ vs hl hone hrep=>exact ⟨vs,rfl,hl,hone,fun j d v h1 h2=> .closed (hrep j d v h1 h2)⟩
 | agg _ vs hl hone hrep=>exact ⟨vs,rfl,hl,hone,hrep⟩
theorem Rep.inv_tup {ds:List D}(h:Rep fm G ok w v (.tup ds)): ∃vs:List Value,v= .tuple vs.toArray∧vs.length=ds.length ∧
  ∀(j:Nat) (d:D) (v:Value),ds[j]? = some d→vs[j]? = some v→Rep fm G ok w v d:=by
 cases h with
 | closed h=>cases h
 | tup _ vs hl hrep=>exact ⟨vs,rfl,hl,hrep⟩
theorem Rep.inv_lst {sz:Nat}{es:List (List D)}(h:Rep fm G ok w v (.lst sz es)):RepC fm ok w v (.lst sz es):=by
 cases h with | closed h=>exact h
theorem Rep.inv_fptr {cs:List D}(h:Rep fm G ok w v (.fptr cs)):RepC fm ok w v (.fptr cs):=by
 cases h with | closed h=>exact h
theorem Rep.one {d:D}(h:Rep fm G ok w v d)(hd:one d=true):v.oneCell'=true:=by
 cases h with
 | closed h=>cases h<;>first | rfl | (simp [Pi.one] at hd)
 | ref id off len v hf h h1=>exact h1
 | ptr id off v hf h h1=>exact h1
 | agg=>simp [Pi.one] at hd
 | tup=>simp [Pi.one] at hd
end
section
variable {fm:Nat→Nat} {B:qo} {w w':World} {G G':Gh} {H H':zf}
theorem YV (hg:gle G G')(hsz:w.heap.size≤w'.heap.size)
  (hframe: ∀b,b<w.heap.size→ ¬Lv G H b→w'.heap[b]? = w.heap[b]?)
  (hlv: ∀b,Lv G' H' b→Lv G H b∨w.heap.size≤b):Adv B w G H w' G' H':=by
 refine ⟨hg,?_,?_⟩
 ·intro b ⟨h1,h2,h3⟩
  refine ⟨h1,?_,by omega⟩
  intro h;rcases hlv b h with h | h
  ·exact h2 h
  ·omega
 ·intro b o v ⟨h1,h2,h3⟩ hc
  rw [World.cell?_of_block (w:=w) (w':=w') (a:=⟨b,o,none⟩) (hframe b h3 h2)];exact hc
theorem ZU (hI:Inv fm B w G H)(hsz:w.heap.size≤w'.heap.size)(hos:w'.os=w.os)(htape:w'.tape=w.tape)(hout:w'.output=w.output)
  (hframe: ∀b,b<w.heap.size→ ¬Lv G H b→w'.heap[b]? = w.heap[b]?)
  (hrows: ∀id sz es lv,hat H' id= .row sz es lv→ ∃b cap,G' id= .row b cap sz∧(B.L0 b∨B.W0.heap.size≤b)∧RowOk (Rep fm G' (okB B G' H' w') w') w' sz es b cap)
  (hfresh: ∀id,hat H' id= .fresh→G' id= .fresh) (hdead: ∀id,hat H' id= .dead→G' id ≠ .fresh)
  (hinj: ∀i j b cap sz cap' sz',isRow H' i→isRow H' j→G' i= .row b cap sz→G' j= .row b cap' sz'→i=j):Inv fm B w' G' H':=by
 refine ⟨Nat.le_trans hI.size hsz,hos.trans hI.os,htape.trans hI.tape,hout.trans hI.output,?_,hrows,hfresh,hdead,hinj,hI.A0⟩
 intro b hb hl;rw [hframe b (Nat.lt_of_lt_of_le hb hI.size) ?_,hI.frame b hb hl];rintro ⟨id,sz,es,cap,sz',h1,h2⟩
 obtain ⟨b',cap',h3,h4,_⟩:=hI.rows id sz es true h1
 rw [h2] at h3;injection h3 with e1 e2 e3;subst e1;rcases h4 with h4 | h4
 ·exact hl h4
 ·omega
theorem Inv.blk_lt (hI:Inv fm B w G H){id b cap sz:Nat}(hr:isRow H id)(h:G id= .row b cap sz):b<w.heap.size:=by
 obtain ⟨sz',es,lv,hh⟩:=hr
 obtain ⟨b',cap',h1,_,h3⟩:=hI.rows id sz' es lv hh
 rw [h] at h1;injection h1 with e1 e2 e3;subst e1;obtain ⟨⟨c,T,k1,_⟩,_⟩:=h3
 exact (Array.getElem?_eq_some_iff.1 k1).1
theorem RowOk.lt {rep:Value→D→Prop}{sz:Nat}{es:List (List D)}{b cap:Nat}(h:RowOk rep w sz es b cap):b<w.heap.size:=by
 obtain ⟨⟨c,T,h1,_⟩,_⟩:=h
 exact (Array.getElem?_eq_some_iff.1 h1).1
structure jt (w w':World) (c:Array Value) (T:TypeId):Prop where
 os:w'.os=w.os
 tape:w'.tape=w.tape
 output:w'.output=w.output
 size:w'.heap.size=w.heap.size+1
 old: ∀b,b<w.heap.size→w'.heap[b]? = w.heap[b]?
 new:w'.heap[w.heap.size]? = some (.cells c T (0,0))
theorem jt.alloc (w:World)(c:Array Value)(T:TypeId):jt w (w.alloc (.cells c T)) c T:=
 ⟨rfl,rfl,rfl,by simp,fun b hb=>heap_alloc_old w _ b hb,heap_alloc_new w _⟩
theorem jt.drew_alloc (w:World)(c:Array Value)(T:TypeId):jt w (w.drew.alloc (.cells c T)) c T:=
 ⟨rfl,rfl,rfl,by simp,fun b hb=>heap_alloc_old w.drew _ b hb,heap_alloc_new w.drew _⟩
theorem zfa {r:Nat}{blk:Blk}{b:Nat}(h:Lv G' (H.set r blk) b)(hG: ∀id,id≠r→G' id=G id) :
  Lv G H b∨(∃sz es cap sz',blk= .row sz es true∧G' r= .row b cap sz'):=by
 obtain ⟨id,sz,es,cap,sz',h1,h2⟩:=h
 rw [yM] at h1;split at h1
 ·rename_i hc;obtain ⟨rfl,_⟩:=hc
  exact .inr ⟨sz,es,cap,sz',h1,h2⟩
 ·by_cases e:id=r
  ·subst e;rename_i hc;have hl: ¬id<H.length:=fun h=>hc ⟨rfl,h⟩
   have:hat H id= .fresh:=by
    unfold hat;simp [List.getD_eq_getElem?_getD,List.getElem?_eq_none (by omega:H.length≤id)]
   rw [this] at h1;cases h1
  ·exact .inl ⟨id,sz,es,cap,sz',h1,(hG id e)▸h2⟩
theorem Qc (hI:Inv fm B w G H){r:Nat}(hr:r<H.length)(hf:hat H r= .fresh){c:Array Value}{T:TypeId}(hn:jt w w' c T)
  {sz cap:Nat} {es:List (List D)} (hc:c.size=cap*sz) (hlen:es.length≤cap) (hcap:cap≤maxLen) (hes: ∀e∈es,e.length=sz)
  (hcell: ∀(i j:Nat) (e:List D) (d:D),es[i]? = some e→e[j]? = some d→ ∃u,c[i*sz+j]? = some u∧u.oneCell'=true∧Rep fm G (okB B G H w) w u d) :
  Adv B w G H w' (upd G r (.row w.heap.size cap sz)) (H.set r (.row sz es true))∧Inv fm B w' (upd G r (.row w.heap.size cap sz)) (H.set r (.row sz es true)):=by
 have hGr:G r= .fresh:=hI.fresh r hf
 have hsz:w.heap.size≤w'.heap.size:=by rw [hn.size];omega
 have hframe: ∀b,b<w.heap.size→ ¬Lv G H b→w'.heap[b]? = w.heap[b]? := fun b hb _=>hn.old b hb
 have ha:Adv B w G H w' (upd G r (.row w.heap.size cap sz)) (H.set r (.row sz es true)):=by
  refine YV ?_ hsz hframe ?_
  ·intro i;by_cases e:i=r
   ·subst e;rw [hGr];trivial
   ·rw [jR _ _ e];exact GS.le_refl _
  ·intro b hb;rcases zfa hb (fun id e=>jR _ _ e) with h | ⟨_,_,_,_,_,h⟩
   ·exact .inl h
   ·rw [qz] at h;injection h with h _ _;exact .inr (by omega)
 refine ⟨ha,ZU hI hsz hn.os hn.tape hn.output hframe ?_ ?_ ?_ ?_⟩
 ·intro id sz' es' lv h;rw [yM] at h;split at h
  ·rename_i hc';obtain ⟨rfl,_⟩:=hc'
   injection h with e1 e2 e3;subst e1;subst e2;refine ⟨w.heap.size,cap,qz _ _ _,.inr hI.size,⟨⟨c,T,hn.new,hc,?_⟩,hlen,hcap,hes⟩⟩
   intro i j e d h1 h2;obtain ⟨u,a1,a2,a3⟩:=hcell i j e d h1 h2
   exact ⟨u,a1,a2,ha.rep a3⟩
  ·obtain ⟨b,cap',h1,h2,h3⟩:=hI.rows id sz' es' lv h
   have hne:id≠r:=by rintro rfl;rw [hGr] at h1;cases h1
   exact ⟨b,cap',by rw [jR _ _ hne];exact h1,h2,h3.mono (fun v d hv=>ha.rep hv) (hn.old b h3.lt)⟩
 ·intro id h;rw [yM] at h;split at h
  ·cases h
  ·have hne:id≠r:=by
    rintro rfl
    rename_i hc';exact hc' ⟨rfl,hr⟩
   rw [jR _ _ hne];exact hI.fresh id h
 ·intro id h;rw [yM] at h;split at h
  ·cases h
  ·have hne:id≠r:=by
    rintro rfl
    rename_i hc';exact hc' ⟨rfl,hr⟩
   rw [jR _ _ hne];exact hI.dead id h
 ·have hrow: ∀k,k≠r→isRow (H.set r (.row sz es true)) k→isRow H k:=by
   rintro k hk ⟨a,b,c,h⟩
   rw [qJ _ (Ne.symm hk)] at h;exact ⟨a,b,c,h⟩
  intro i j b cap1 sz1 cap2 sz2 r1 r2 h1 h2;by_cases e1:i=r<;>by_cases e2:j=r
  ·rw [e1,e2]
  ·subst e1;rw [qz] at h1;rw [jR _ _ e2] at h2;injection h1 with a1 _ _;have:=hI.blk_lt (hrow j e2 r2) h2
   omega
  ·subst e2;rw [qz] at h2;rw [jR _ _ e1] at h1;injection h2 with a1 _ _;have:=hI.blk_lt (hrow i e1 r1) h1
   omega
  ·rw [jR _ _ e1] at h1;rw [jR _ _ e2] at h2;exact hI.inj _ _ _ _ _ _ _ (hrow i e1 r1) (hrow j e2 r2) h1 h2
theorem zdZ (hI:Inv fm B w G H){id sz:Nat}{es es':List (List D)}(hh:hat H id= .row sz es true){b cap:Nat}(hG:G id= .row b cap sz)
  (hsize:w'.heap.size=w.heap.size) (hos:w'.os=w.os) (htape:w'.tape=w.tape) (hout:w'.output=w.output)
  (hold: ∀k,k≠b→w'.heap[k]? = w.heap[k]?)
  (hrow:RowOk (Rep fm G (okB B G H w) w) w' sz es' b cap) :
  Adv B w G H w' G (H.set id (.row sz es' true))∧Inv fm B w' G (H.set id (.row sz es' true)):=by
 have hsz:w.heap.size≤w'.heap.size:=by omega
 have hlv:Lv G H b:=⟨id,sz,es,cap,sz,hh,hG⟩
 have hid:id<H.length:=XA (by rw [hh];simp)
 have hframe: ∀k,k<w.heap.size→ ¬Lv G H k→w'.heap[k]? = w.heap[k]? := fun k hk h=>hold k (by rintro rfl;exact h hlv)
 have ha:Adv B w G H w' G (H.set id (.row sz es' true)):=by
  refine YV (j2 _) hsz hframe ?_
  intro k hk;rcases zfa hk (fun _ _=>rfl) with h | ⟨_,_,_,_,_,h⟩
  ·exact .inl h
  ·rw [hG] at h;injection h with h _ _;subst h;exact .inl hlv
 have hrow': ∀k,isRow (H.set id (.row sz es' true)) k→isRow H k:=by
  rintro k ⟨a,b,c,h⟩
  by_cases e:k=id
  ·subst e;exact ⟨_,_,_,hh⟩
  ·rw [qJ _ (Ne.symm e)] at h;exact ⟨a,b,c,h⟩
 refine ⟨ha,ZU hI hsz hos htape hout hframe ?_ ?_ ?_ (fun i j b cap sz cap' sz' r1 r2 h1 h2=>hI.inj i j b cap sz cap' sz' (hrow' i r1) (hrow' j r2) h1 h2)⟩
 ·intro i sz1 es1 lv h;rw [yM] at h;split at h
  ·rename_i hc;obtain ⟨rfl,_⟩:=hc
   injection h with e1 e2 e3;subst e1;subst e2;obtain ⟨b',cap',h1,h2,h3⟩:=hI.rows id sz es true hh
   rw [hG] at h1;injection h1 with e1 e2 _;subst e1;subst e2;exact ⟨b,cap,hG,h2,hrow.mono (fun v d hv=>ha.rep hv) rfl⟩
  ·obtain ⟨b',cap',h1,h2,h3⟩:=hI.rows i sz1 es1 lv h
   have hne:b'≠b:=by
    rintro rfl
    have:=hI.inj _ _ _ _ _ _ _ ⟨_,_,_,h⟩ ⟨_,_,_,hh⟩ h1 hG
    subst this;rename_i hc;exact hc ⟨rfl,hid⟩
   exact ⟨b',cap',h1,h2,h3.mono (fun v d hv=>ha.rep hv) (hold b' hne)⟩
 ·intro i h;rw [yM] at h;split at h
  ·cases h
  ·exact hI.fresh i h
 ·intro i h;rw [yM] at h;split at h
  ·cases h
  ·exact hI.dead i h
theorem X7 (hI:Inv fm B w G H){id r sz:Nat}{es es':List (List D)}(hh:hat H id= .row sz es true){b cap:Nat}(hG:G id= .row b cap sz)
  (hr:r<H.length) (hf:hat H r= .fresh)
  (hsz:w.heap.size≤w'.heap.size) (hos:w'.os=w.os) (htape:w'.tape=w.tape) (hout:w'.output=w.output)
  (hold: ∀k,k<w.heap.size→k≠b→w'.heap[k]? = w.heap[k]?)
  {b' cap':Nat} (hb':b'=b∨w.heap.size≤b')
  (hrow:RowOk (Rep fm G (okB B G H w) w) w' sz es' b' cap') :
  Adv B w G H w' (upd G r (.row b' cap' sz)) ((H.set id .dead).set r (.row sz es' true)) ∧
   Inv fm B w' (upd G r (.row b' cap' sz)) ((H.set id .dead).set r (.row sz es' true)):=by
 have hlvb:Lv G H b:=⟨id,sz,es,cap,sz,hh,hG⟩
 have hid:id<H.length:=XA (by rw [hh];simp)
 have hGr:G r= .fresh:=hI.fresh r hf
 have hne:id≠r:=by rintro rfl;rw [hh] at hf;cases hf
 have hframe: ∀k,k<w.heap.size→ ¬Lv G H k→w'.heap[k]? = w.heap[k]? := fun k hk h=>hold k hk (by rintro rfl;exact h hlvb)
 have hGr':upd G r (.row b' cap' sz) r= .row b' cap' sz:=qz _ _ _
 have hGo: ∀k,k≠r→upd G r (.row b' cap' sz) k=G k:=fun k h2=>by rw [jR _ _ h2]
 have hHr:hat ((H.set id .dead).set r (.row sz es' true)) r= .row sz es' true:=ZC (by simpa using hr) _
 have hHid:hat ((H.set id .dead).set r (.row sz es' true)) id= .dead:=by rw [qJ _ (Ne.symm hne),ZC hid]
 have hHo: ∀k,k≠id→k≠r→hat ((H.set id .dead).set r (.row sz es' true)) k=hat H k:=fun k h1 h2=>by
  rw [qJ _ (Ne.symm h2),qJ _ (Ne.symm h1)]
 have ha:Adv B w G H w' (upd G r (.row b' cap' sz)) ((H.set id .dead).set r (.row sz es' true)):=by
  refine YV ?_ hsz hframe ?_
  ·intro i;by_cases e2:i=r
   ·subst e2;rw [hGr];trivial
   ·rw [hGo i e2];exact GS.le_refl _
  ·rintro k ⟨i,sz1,es1,cap1,sz2,h1,h2⟩
   by_cases e1:i=id
   ·subst e1;rw [hHid] at h1;cases h1
   ·by_cases e2:i=r
    ·subst e2;rw [hGr'] at h2;injection h2 with h2 _ _;subst h2;rcases hb' with rfl | hb'
     ·exact .inl hlvb
     ·exact .inr hb'
    ·rw [hHo i e1 e2] at h1;rw [hGo i e2] at h2;exact .inl ⟨i,sz1,es1,cap1,sz2,h1,h2⟩
 have hrow': ∀k,k≠r→isRow ((H.set id .dead).set r (.row sz es' true)) k→k≠id∧isRow H k:=by
  rintro k hk ⟨x,y,z,h⟩
  have hki:k≠id:=by rintro rfl;rw [hHid] at h;cases h
  rw [hHo k hki hk] at h;exact ⟨hki,x,y,z,h⟩
 refine ⟨ha,ZU hI hsz hos htape hout hframe ?_ ?_ ?_ ?_⟩
 ·intro i sz1 es1 lv h;by_cases e1:i=id
  ·subst e1;rw [hHid] at h;cases h
  ·by_cases e2:i=r
   ·subst e2;rw [hHr] at h;injection h with a1 a2 a3;subst a1;subst a2;refine ⟨b',cap',hGr',?_,hrow.mono (fun v d hv=>ha.rep hv) rfl⟩
    rcases hb' with rfl | hb'
    ·obtain ⟨b2,cap2,h1,h2,_⟩:=hI.rows id sz es true hh
     rw [hG] at h1;injection h1 with h1 _ _;subst h1;exact h2
    ·exact .inr (Nat.le_trans hI.size hb')
   ·rw [hHo i e1 e2] at h;obtain ⟨b2,cap2,h1,h2,h3⟩:=hI.rows i sz1 es1 lv h
    refine ⟨b2,cap2,by rw [hGo i e2];exact h1,h2,h3.mono (fun v d hv=>ha.rep hv) (hold b2 h3.lt ?_)⟩
    rintro rfl
    exact e1 (hI.inj _ _ _ _ _ _ _ ⟨_,_,_,h⟩ ⟨_,_,_,hh⟩ h1 hG)
 ·intro i h;by_cases e1:i=id
  ·subst e1;rw [hHid] at h;cases h
  ·by_cases e2:i=r
   ·subst e2;rw [hHr] at h;cases h
   ·rw [hHo i e1 e2] at h;rw [hGo i e2];exact hI.fresh i h
 ·intro i h;by_cases e1:i=id
  ·subst e1;rw [hGo i hne,hG];simp
  ·by_cases e2:i=r
   ·subst e2;rw [hHr] at h;cases h
   ·rw [hHo i e1 e2] at h;rw [hGo i e2];exact hI.dead i h
 ·intro i j k c1 s1 c2 s2 r1 r2 h1 h2;by_cases e1:i=r<;>by_cases e2:j=r
  ·rw [e1,e2]
  ·subst e1;obtain ⟨hj,r2'⟩:=hrow' j e2 r2
   rw [hGr'] at h1;rw [hGo j e2] at h2;injection h1 with a _ _;subst a;rcases hb' with rfl | hb'
   ·exact absurd (hI.inj _ _ _ _ _ _ _ r2' ⟨_,_,_,hh⟩ h2 hG) hj
   ·have:=hI.blk_lt r2' h2;omega
  ·subst e2;obtain ⟨hi,r1'⟩:=hrow' i e1 r1
   rw [hGr'] at h2;rw [hGo i e1] at h1;injection h2 with a _ _;subst a;rcases hb' with rfl | hb'
   ·exact absurd (hI.inj _ _ _ _ _ _ _ r1' ⟨_,_,_,hh⟩ h1 hG) hi
   ·have:=hI.blk_lt r1' h1;omega
  ·rw [hGo i e1] at h1;rw [hGo j e2] at h2;exact hI.inj _ _ _ _ _ _ _ (hrow' i e1 r1).2 (hrow' j e2 r2).2 h1 h2
theorem zaL (hI:Inv fm B w G H):Adv B w G H w.drew G H∧Inv fm B w.drew G H:=by
 have ha:Adv B w G H w.drew G H:=YV (j2 _) (Nat.le_refl _) (fun _ _ _=>rfl) (fun b h=> .inl h)
 refine ⟨ha,ZU hI (Nat.le_refl _) rfl rfl rfl (fun _ _ _=>rfl) (fun id sz es lv h=> ?_) hI.fresh hI.dead hI.inj⟩
 obtain ⟨b',cap',a1,a2,a3⟩:=hI.rows id sz es lv h
 exact ⟨b',cap',a1,a2,a3.mono (fun v d hv=>ha.rep hv) rfl⟩
theorem zaK (hI:Inv fm B w G H)(n:Nat):Adv B w G H w G (H++List.replicate n .fresh)∧Inv fm B w G (H++List.replicate n .fresh):=by
 have hh:=Jl H n
 have ha:Adv B w G H w G (H++List.replicate n .fresh):=by
  refine YV (j2 _) (Nat.le_refl _) (fun _ _ _=>rfl) ?_
  rintro b ⟨i,sz,es,cap,sz',h1,h2⟩
  rw [hh] at h1;exact .inl ⟨i,sz,es,cap,sz',h1,h2⟩
 refine ⟨ha,ZU hI (Nat.le_refl _) rfl rfl rfl (fun _ _ _=>rfl) ?_ ?_ ?_ (fun i j b cap sz cap' sz' r1 r2 h1 h2=>hI.inj i j b cap sz cap' sz' (by unfold isRow at *;rwa [hh] at r1) (by unfold isRow at *;rwa [hh] at r2) h1 h2)⟩
 ·intro i sz es lv h;rw [hh] at h;obtain ⟨b',cap',a1,a2,a3⟩:=hI.rows i sz es lv h
  exact ⟨b',cap',a1,a2,a3.mono (fun v d hv=>ha.rep hv) rfl⟩
 ·intro i h;rw [hh] at h;exact hI.fresh i h
 ·intro i h;rw [hh] at h;exact hI.dead i h
end
def CR (rep:Value→D→Prop)(c:List Value)(ds:List D):Prop:=
 c.length=ds.length∧ ∀(j:Nat) (d:D),ds[j]? = some d→ ∃u,c[j]? = some u∧u.oneCell'=true∧rep u d
theorem CR.mono {rep rep':Value→D→Prop}(h: ∀v d,rep v d→rep' v d){c:List Value}{ds:List D}(hc:CR rep c ds):CR rep' c ds:=
 ⟨hc.1,fun j d hj=>let ⟨u,a,b,e⟩:=hc.2 j d hj; ⟨u,a,b,h _ _ e⟩⟩
theorem CR.one {rep:Value→D→Prop}{c:List Value}{ds:List D}(hc:CR rep c ds): ∀v∈c,v.oneCell'=true:=by
 intro v hv;obtain ⟨j,hj,rfl⟩:=List.getElem_of_mem hv
 obtain ⟨u,h1,h2,_⟩:=hc.2 j _ (List.getElem?_eq_getElem (show j<ds.length by rw [←hc.1];exact hj))
 rw [List.getElem?_eq_getElem hj] at h1;injection h1 with h1;rw [h1];exact h2
theorem CR.get {rep:Value→D→Prop}{c:List Value}{ds:List D}(hc:CR rep c ds){j:Nat}{v:Value}{d:D}(hv:c[j]? = some v)(hd:ds[j]? = some d):rep v d:=by
 obtain ⟨u,h1,_,h3⟩:=hc.2 j d hd
 rw [hv] at h1;injection h1 with h1;rw [h1];exact h3
theorem CR.take {rep:Value→D→Prop}{c:List Value}{ds:List D}(hc:CR rep c ds)(n:Nat):CR rep (c.take n) (ds.take n):=by
 refine ⟨by simp [hc.1],fun j d hj=> ?_⟩
 rw [List.getElem?_take] at hj;split at hj
 ·rename_i h;obtain ⟨u,a,b,e⟩:=hc.2 j d hj
  exact ⟨u,by rw [List.getElem?_take,if_pos h];exact a,b,e⟩
 ·cases hj
theorem CR.drop {rep:Value→D→Prop}{c:List Value}{ds:List D}(hc:CR rep c ds)(n:Nat):CR rep (c.drop n) (ds.drop n):=by
 refine ⟨by simp [hc.1],fun j d hj=> ?_⟩
 rw [List.getElem?_drop] at hj;obtain ⟨u,a,b,e⟩:=hc.2 _ d hj
 exact ⟨u,by rw [List.getElem?_drop];exact a,b,e⟩
theorem CR.append {rep:Value→D→Prop}{c c':List Value}{ds ds':List D}(hc:CR rep c ds)(hc':CR rep c' ds'):CR rep (c++c') (ds++ds'):=by
 refine ⟨by simp [hc.1,hc'.1],fun j d hj=> ?_⟩
 rw [List.getElem?_append] at hj ⊢
 rw [hc.1];split at hj
 ·rename_i h;rw [if_pos h];exact hc.2 j d hj
 ·rename_i h;rw [if_neg h];exact hc'.2 _ d hj
theorem CR.splice {rep:Value→D→Prop}{c m:List Value}{ds ms:List D}(hc:CR rep c ds)(hm:CR rep m ms)(off:Nat) :
  CR rep (c.take off++m++c.drop (off+m.length)) (Pi.qF ds off ms):=by
 unfold Pi.qF;rw [hm.1];exact ((hc.take off).append hm).append (hc.drop _)
theorem Ys {fm:Nat→Nat}{G:Gh}{ok:Nat→Prop}{w:World}{v:Value}{d:D}(h:Rep fm G ok w v d)(h1:(cellsOf d).all one=true) :
  CR (Rep fm G ok w) v.cells.toList (cellsOf d):=by
 cases d with
 | agg cs=>
  obtain ⟨vs,rfl,hl,hone,hr⟩:=h.inv_agg
  refine ⟨by simpa [Value.cells,cellsOf] using hl,fun j d hj=> ?_⟩
  simp only [cellsOf] at hj;have hj':j<vs.length:=by rw [hl];exact (List.getElem?_eq_some_iff.1 hj).1
  exact ⟨vs[j],by simp [Value.cells,List.getElem?_eq_getElem hj'],hone _ (List.getElem_mem hj'),hr j d _ hj (List.getElem?_eq_getElem hj')⟩
 | _=>
  simp only [cellsOf,List.all_cons,List.all_nil,Bool.and_true] at h1;have hv:=h.one h1
  have hcs:v.cells.toList= [v]:=by cases v<;>first | rfl | (simp [Value.oneCell'] at hv)
  rw [hcs];refine ⟨rfl,fun j d hj=> ?_⟩
  simp only [cellsOf] at hj
  cases j with
  | zero=>simp at hj;subst hj;exact ⟨v,rfl,hv,h⟩
  | succ j=>simp at hj
theorem foldl_set (off:Nat): ∀(l:List Value) (k:Nat) (c:Array Value),off+k+l.length≤c.size →
  ((l.zipIdx k).foldl (fun (cs:Array Value) (x:Value×Nat)=>cs.setIfInBounds (off+x.2) x.1) c).toList=c.toList.take (off+k)++l++c.toList.drop (off+k+l.length)
 | [],k,c,_=>by simp
 | v::l,k,c,h=>by
  simp only [List.length_cons] at h;rw [List.zipIdx_cons,List.foldl_cons,foldl_set off l (k+1) _ (by simp;omega)]
  apply List.ext_getElem?
  intro j;simp only [Array.toList_setIfInBounds,List.getElem?_append,List.length_append,List.length_take,List.length_set,List.getElem?_take,List.getElem?_drop,List.getElem?_set,Array.length_toList,List.length_cons,List.getElem?_cons];have e1:min (off+(k+1)) c.size=off+k+1:=by omega
  have e2:min (off+k) c.size=off+k:=by omega
  simp only [e1,e2];by_cases h1:j<off+k
  ·simp [show j<off+k+1 by omega,show j<off+(k+1) by omega,show j<off+k+(l.length+1) by omega,h1,show j<off+k+1+l.length by omega,show ¬off+k=j by omega]
  ·by_cases h2:j=off+k
   ·subst h2;simp [show off+k<off+(k+1) by omega,show off+k<c.size by omega,show off+k<off+k+1+l.length by omega]
   ·by_cases h3:j<off+k+1+l.length
    ·obtain ⟨m,rfl⟩: ∃m,j=off+k+1+m:=⟨j-(off+k+1),by omega⟩
     simp [show ¬off+k+1+m<off+k+1 by omega,show off+k+1+m<off+k+(l.length+1) by omega,h1,h3,show off+k+1+m-(off+k)=m+1 by omega,show off+k+1+m-(off+k+1)=m by omega]
    ·simp [h3,show ¬j<off+k+(l.length+1) by omega,show ¬off+k=off+(k+1)+l.length+(j-(off+k+1+l.length)) by omega]
     congr 1;omega
theorem QH (off:Nat)(l c:Array Value)(h:off+l.size≤c.size) :
  (l.zipIdx.foldl (fun (cs:Array Value) (x:Value×Nat)=>cs.setIfInBounds (off+x.2) x.1) c).toList=c.toList.take off++l.toList++c.toList.drop (off+l.size):=by
 have:=foldl_set off l.toList 0 c (by simpa using h)
 rw [←Array.foldl_toList,Array.toList_zipIdx];simpa using this
section
variable (fm:Nat→Nat)
def y7 (v:Value)(d:D):Prop:= ∀ok w,RepC fm ok w v d
inductive TrX:Operand→PX→Prop where
 | tmp (t:Nat):TrX (.tmp t) (.t t)
 | const (v:Value) (d:D) (h:y7 fm v d):TrX (.const v) (.c d)
 | func (f p:Nat) (h:fm p=f):TrX (.func f) (.c (.fn p))
inductive zab:List Operand→List PX→Prop where
 | nil:zab [] []
 | cons {x:Operand} {px:PX} {xs:List Operand} {pxs:List PX} (h:TrX fm x px) (hs:zab xs pxs):zab (x::xs) (px::pxs)
end
def TsR (rep:Value→D→Prop)(tmps:Array Value)(ts:List D):Prop:=
 ts.length=tmps.size∧ ∀(i:Nat) (d:D),ts[i]? = some d→ ∃v,tmps[i]? = some v∧rep v d
theorem TsR.mono {rep rep':Value→D→Prop}(h: ∀v d,rep v d→rep' v d){tmps:Array Value}{ts:List D}(hc:TsR rep tmps ts):TsR rep' tmps ts:=
 ⟨hc.1,fun j d hj=>let ⟨u,a,b⟩:=hc.2 j d hj; ⟨u,a,h _ _ b⟩⟩
theorem TsR.put {rep:Value→D→Prop}{tmps:Array Value}{ts:List D}(h:TsR rep tmps ts)(i:Nat){v:Value}{d:D}(hv:rep v d):TsR rep (tmps.setIfInBounds i v) (ts.set i d):=by
 refine ⟨by simp [h.1],fun j e hj=> ?_⟩
 rw [List.getElem?_set] at hj;by_cases hi:i=j
 ·subst hi;simp only [if_true] at hj;split at hj
  ·rename_i hl;injection hj with hj;subst hj;exact ⟨v,by rw [Array.getElem?_setIfInBounds];simp [←h.1,hl],hv⟩
  ·cases hj
 ·rw [if_neg hi] at hj;obtain ⟨u,h1,h2⟩:=h.2 j e hj
  exact ⟨u,by rw [Array.getElem?_setIfInBounds,if_neg hi];exact h1,h2⟩
theorem TsR.getD {rep:Value→D→Prop}(hu: ∀v,rep v .undef){tmps:Array Value}{ts:List D}(h:TsR rep tmps ts)(i:Nat):rep (tmps.getD i undef) (ts.getD i .undef):=by
 rw [List.getD_eq_getElem?_getD]
 cases hi:ts[i]? with
 | none=>exact hu _
 | some d=>
  obtain ⟨v,h1,h2⟩:=h.2 i d hi
  have:tmps.getD i undef=v:=by rw [Array.getD_eq_getD_getElem?,h1];rfl
  rw [this];exact h2
section
variable {fm:Nat→Nat} {G:Gh} {ok:Nat→Prop} {w:World} {a:Act} {ts:List D}
theorem zr (h:TsR (Rep fm G ok w) a.tmps ts){x:Operand}{px:PX}(hx:TrX fm x px):Rep fm G ok w (a.eval x) (px.ev ts):=by
 cases hx with
 | tmp t=>exact h.getD (fun v=> .closed (.undef v)) t
 | const v d h=>exact .closed (h _ _)
 | func f p h=>subst h;exact .closed (.fn p)
end
def yo (P:Program)(o:Oper)(a:Act)(w:World)(K:Value→World→Prop):Prop:=
 ∀(next:Act→World→Prop) (Q:Exit→Act→World→Prop),(∀v w',K v w'→next (a.put o.dst v) w')→o.wp P a w next Q
section
variable {P:Program} {o:Oper} {a:Act} {w w':World} {K:Value→World→Prop}
theorem zm {v:Value}(h:(execOp a.eval o).run P w= .ok (.value v) w')(k:K v w'):yo P o a w K:=by
 intro next Q hn;unfold Oper.wp;rw [h];exact hn v w' k
theorem zdR (h:(execOp a.eval o).run P w= .ok .skip w')(k:K undef w'):yo P o a w K:=by
 intro next Q hn;unfold Oper.wp;rw [h];exact hn _ w' k
end
theorem Jx {w:World}{b o:Nat}{cs:List Value}(h:w.rangeAt b o cs)(j n:Nat):w.rangeAt b (o+j) ((cs.drop j).take n):=by
 intro k v hv;rw [List.getElem?_take] at hv;split at hv
 ·rw [List.getElem?_drop] at hv;have:=h (j+k) v hv
  rwa [show o+(j+k)=o+j+k by omega] at this
 ·cases hv
section
variable {rep:Value→D→Prop} {w:World} {sz:Nat} {es:List (List D)} {b cap:Nat}
theorem RowOk.range (h:RowOk rep w sz es b cap){i:Nat}{e:List D}(he:es[i]? = some e): ∃cs,CR rep cs e∧w.rangeAt b (i*sz) cs:=by
 obtain ⟨⟨c,T,h1,h2,h3⟩,h4,h5,h6⟩:=h
 have hl:e.length=sz:=h6 e (List.mem_of_getElem? he)
 have hi:i<es.length:=(List.getElem?_eq_some_iff.1 he).1
 have hb:i*sz+sz≤c.size:=by
  rw [h2,←Nat.succ_mul];exact Nat.mul_le_mul_right _ (by omega)
 refine ⟨(c.toList.drop (i*sz)).take sz,⟨by simp;omega,?_⟩,?_⟩
 ·intro j d hj;have hjl:j<sz:=by rw [←hl];exact (List.getElem?_eq_some_iff.1 hj).1
  obtain ⟨u,a1,a2,a3⟩:=h3 i j e d he hj
  exact ⟨u,by rw [List.getElem?_take,if_pos hjl,List.getElem?_drop];simpa using a1,a2,a3⟩
 ·intro j v hv;rw [List.getElem?_take] at hv;split at hv
  ·rw [List.getElem?_drop] at hv;rw [cell_of_row w b (i*sz+j) c T (0,0) h1];simpa using hv
  ·cases hv
theorem RowOk.ranges (h:RowOk rep w sz es b cap){off len:Nat}(hl:off+len≤es.length) :
  ∃cs:List Value,cs.length=len*sz∧w.rangeAt b (off*sz) cs∧(∀v∈cs,v.oneCell'=true) ∧
   ∀(i j:Nat) (e:List D) (d:D),((es.drop off).take len)[i]? = some e→e[j]? = some d→ ∃u,cs[i*sz+j]? = some u∧u.oneCell'=true∧rep u d:=by
 obtain ⟨⟨c,T,h1,h2,h3⟩,h4,h5,h6⟩:=h
 have hb:off*sz+len*sz≤c.size:=by
  rw [h2,←Nat.add_mul];exact Nat.mul_le_mul_right _ (by omega)
 have hget: ∀(i j:Nat) (e:List D) (d:D),((es.drop off).take len)[i]? = some e→e[j]? = some d→ ∃u,((c.toList.drop (off*sz)).take (len*sz))[i*sz+j]? = some u∧u.oneCell'=true∧rep u d:=by
  intro i j e d he hd;rw [List.getElem?_take] at he;split at he
  ·rename_i hi;rw [List.getElem?_drop] at he;have hle:e.length=sz:=h6 e (List.mem_of_getElem? he)
   have hj:j<sz:=by rw [←hle];exact (List.getElem?_eq_some_iff.1 hd).1
   obtain ⟨u,a1,a2,a3⟩:=h3 _ j e d he hd
   refine ⟨u,?_,a2,a3⟩
   have hlt:i*sz+j<len*sz:=by
    have:(i+1)*sz≤len*sz:=Nat.mul_le_mul_right _ (by omega)
    rw [Nat.succ_mul] at this;omega
   rw [List.getElem?_take,if_pos hlt,List.getElem?_drop,show off*sz+(i*sz+j)=(off+i)*sz+j by rw [Nat.add_mul];omega]
   simpa using a1
  ·cases he
 refine ⟨(c.toList.drop (off*sz)).take (len*sz),by simp;omega,?_,?_,hget⟩
 ·intro j v hv;rw [List.getElem?_take] at hv;split at hv
  ·rw [List.getElem?_drop] at hv;rw [cell_of_row w b (off*sz+j) c T (0,0) h1];simpa using hv
  ·cases hv
 ·intro v hv;obtain ⟨k,hk,rfl⟩:=List.getElem_of_mem hv
  have hk':k<len*sz:=by simp at hk;omega
  have hsz:0<sz:=by
   rcases Nat.eq_zero_or_pos sz with h | h
   ·subst h;simp at hk'
   ·exact h
  have hi:k / sz<len:=(Nat.div_lt_iff_lt_mul hsz).2 hk'
  have hj:k % sz<sz:=Nat.mod_lt _ hsz
  have hlt:off+k / sz<es.length:=by omega
  have hle:es[off+k / sz].length=sz:=h6 _ (List.getElem_mem hlt)
  obtain ⟨u,a1,a2,_⟩:=hget (k / sz) (k % sz) es[off+k / sz] (es[off+k / sz][k % sz]'(by omega))
   (by rw [List.getElem?_take,if_pos hi,List.getElem?_drop,List.getElem?_eq_getElem hlt]) (List.getElem?_eq_getElem _)
  rw [Nat.div_add_mod' k sz,List.getElem?_eq_getElem hk] at a1;injection a1 with a1;rw [a1];exact a2
theorem RowOk.write {P:Program}(h:RowOk rep w sz es b cap){off:Nat}{e:List D}(he:es[off / sz]? = some e){vs:List Value}{ds:List D}(hv:CR rep vs ds)
  (hn:off % sz+ds.length≤e.length) :
  ∃w':World,(∀t:TypeId,(P.info? t).map (·.size)=some ds.length→ ∀v:Value,v.cells.toList=vs→(storeVar t ⟨b,off,none⟩ v).run P w= .ok () w') ∧
   w'.heap.size=w.heap.size∧w'.os=w.os∧w'.tape=w.tape∧w'.output=w.output∧(∀k,k≠b→w'.heap[k]? = w.heap[k]?) ∧
   RowOk rep w' sz (es.set (off / sz) (Pi.qF e (off % sz) ds)) b cap:=by
 obtain ⟨⟨c,T,h1,h2,h3⟩,h4,h5,h6⟩:=h
 have hle:e.length=sz:=h6 e (List.mem_of_getElem? he)
 have hi:off / sz<es.length:=(List.getElem?_eq_some_iff.1 he).1
 have hoff:off / sz*sz+off % sz=off:=Nat.div_add_mod' off sz
 have hb:off / sz*sz+sz≤c.size:=by
  rw [h2,←Nat.succ_mul];exact Nat.mul_le_mul_right _ (by omega)
 have hfit:off+vs.length≤c.size:=by rw [hv.1];omega
 refine ⟨w.setRow b (c.toList.take off++vs++c.toList.drop (off+vs.length)).toArray,?_,size_setRow _ _ _,rfl,rfl,rfl,fun k hk=>setRow_other w b k _ hk,?_⟩
 ·intro t ht v hcs;have hst:=run_storeCells_at P b off T vs 0 c w h1 (by simpa using hfit) hv.one
  simp only [Nat.add_zero] at hst
  cases hq:P.info? t with
  | none=>simp [hq] at ht
  | some it=>
   have hs:it.size=ds.length:=by simpa [hq] using ht
   have hvs:v.cells.size=vs.length:=by rw [←hcs];simp
   simp [storeVar,sizeOf,typeInfo,hq,hs,hvs,hv.1,hcs,hst]
 ·refine ⟨⟨_,T,setRow_heap w b c _ T (0,0) h1,?_,?_⟩,by simpa using h4,h5,?_⟩
  ·simp only [List.size_toArray,List.length_append,List.length_take,List.length_drop,Array.length_toList];omega
  ·intro i j e' d he' hd;have hjs: ∀e'',es[i]? = some e''→e''.length=sz:=fun e'' h=>h6 e'' (List.mem_of_getElem? h)
   rw [List.getElem?_set] at he';by_cases hii:off / sz=i
   ·subst hii;simp only [if_true,hi] at he';injection he' with he';subst he';simp only [Pi.qF,List.getElem?_append,List.length_append,List.length_take,List.getElem?_take,List.getElem?_drop] at hd;have hm:min (off % sz) e.length=off % sz:=by omega
    rw [hm] at hd;simp only [List.getElem?_toArray,List.getElem?_append,List.length_append,List.length_take,List.getElem?_take,List.getElem?_drop,Array.length_toList];have hm2:min off c.size=off:=by omega
    rw [hm2,hv.1];by_cases hj1:j<off % sz
    ·rw [if_pos (by omega),if_pos hj1,if_pos hj1] at hd;rw [if_pos (by omega),if_pos (by omega),if_pos (by omega)];obtain ⟨u,a1,a2,a3⟩:=h3 _ j e d he hd
     exact ⟨u,by simpa using a1,a2,a3⟩
    ·by_cases hj2:j<off % sz+ds.length
     ·rw [if_pos hj2,if_neg hj1] at hd;rw [if_pos (by omega),if_neg (by omega)];obtain ⟨u,a1,a2,a3⟩:=hv.2 _ d hd
      exact ⟨u,by rw [show off / sz*sz+j-off=j-off % sz by omega];exact a1,a2,a3⟩
     ·rw [if_neg hj2,show off % sz+ds.length+(j-(off % sz+ds.length))=j by omega] at hd;rw [if_neg (by omega),show off+ds.length+(off / sz*sz+j-(off+ds.length))=off / sz*sz+j by omega];obtain ⟨u,a1,a2,a3⟩:=h3 _ j e d he hd
      exact ⟨u,by simpa using a1,a2,a3⟩
   ·rw [if_neg hii] at he';have hl':=hjs e' he'
    have hj:j<sz:=by rw [←hl'];exact (List.getElem?_eq_some_iff.1 hd).1
    obtain ⟨u,a1,a2,a3⟩:=h3 i j e' d he' hd
    refine ⟨u,?_,a2,a3⟩
    simp only [List.getElem?_toArray,List.getElem?_append,List.length_append,List.length_take,List.getElem?_take,List.getElem?_drop,Array.length_toList];have hm2:min off c.size=off:=by omega
    rw [hm2,hv.1];rcases Nat.lt_or_gt_of_ne hii with hlt | hgt
    ·have:(off / sz+1)*sz≤i*sz:=Nat.mul_le_mul_right _ (by omega)
     rw [Nat.succ_mul] at this;rw [if_neg (by omega),show off+ds.length+(i*sz+j-(off+ds.length))=i*sz+j by omega];simpa using a1
    ·have:(i+1)*sz≤off / sz*sz:=Nat.mul_le_mul_right _ (by omega)
     rw [Nat.succ_mul] at this;rw [if_pos (by omega),if_pos (by omega),if_pos (by omega)];simpa using a1
  ·intro e' he';rcases List.mem_or_eq_of_mem_set he' with h | h
   ·exact h6 e' h
   ·subst h;simp only [Pi.qF,List.length_append,List.length_take,List.length_drop];omega
end
def qh:TypeDesc→Bool
 | .struct _ | .array _ _=>true
 | _=>false
def Shape (P:Program)(t:TypeId)(ag:Bool)(n:Nat):Prop:= ∃d i,P.underlying t=some d∧qh d=ag∧P.info? t=some i∧i.size=n
def zer (P:Program)(g:TypeId→Option (List Nat)):List Field→Nat→Option (List Nat)
 | [],_=>some []
 | f :: fs, off => if f.name ≠ "_" ∧ f.offset = off then (g f.type).bind fun ks => (P.info? f.type).bind fun i => if i.size = ks.length ∧ 0 < ks.length then (zer P g fs (off + ks.length)).map (ks ++ ·) else none else none
def lay (P:Program):Nat→TypeId→Option (List Nat)
 | 0,_=>none
 | m+1,t=>match P.underlying t with
  | some .bool=>some [0]
  | some (.int _)=>some [1]
  | some .string=>some [2]
  | some (.struct fs)=>if P.stoodInHeld t=false then zer P (lay P m) fs.toList 0 else none
  | some (.array n e)=>(lay P m e).bind fun ks=>(P.info? e).bind fun i=>if i.size=ks.length∧0<ks.length then some (List.replicate n ks).flatten else none
  | _=>none
def jb (P:Program)(f:Nat)(bits:Bool):Prop:=
 if bits then ∀(b:Nat) (w:World),(callFunc f #[.float .f64 b]).run P w= .ok (.value (.int .u64 (b:Int))) w
 else ∀(n:Int) (w:World),(callFunc f #[.int .u64 n]).run P w= .ok (.value (.float .f64 n.toNat)) w
section
variable (P:Program) (fm:Nat→Nat)
inductive TrP (pl:Nat→Option (Nat×Nat)):List (Nat×Operand)→List (Nat×Nat×PX)→Prop where
 | nil:TrP pl [] []
 | cons {i:Nat} {x:Operand} {off n:Nat} {px:PX} {ps:List (Nat×Operand)} {qs:List (Nat×Nat×PX)} (hp:pl i=some (off,n)) (hx:TrX fm x px) (h:TrP pl ps qs) :
   TrP pl ((i,x)::ps) ((off,n,px)::qs)
inductive TrS:List (Nat×Operand)→List (Nat×PX)→Prop where
 | nil:TrS [] []
 | cons {i:Nat} {x:Operand} {px:PX} {ps:List (Nat×Operand)} {qs:List (Nat×PX)} (hx:TrX fm x px) (h:TrS ps qs):TrS ((i,x)::ps) ((i,px)::qs)
inductive TrO:Option Operand→Option PX→Prop where
 | none:TrO none none
 | some {x:Operand} {px:PX} (h:TrX fm x px):TrO (some x) (some px)
inductive TrA:List Operand→List (Nat×PX)→Prop where
 | nil:TrA [] []
 | cons {x:Operand} {m:Nat} {px:PX} {xs:List Operand} {qs:List (Nat×PX)} (hx:TrX fm x px) (h:TrA xs qs):TrA (x::xs) ((m,px)::qs)
inductive TrOp:Op→POp→Prop where
 | move {x:Operand} {px:PX} (h:TrX fm x px):TrOp (.move x) (.mv px)
 | assign {x:Operand} {px:PX} (h:TrX fm x px):TrOp (.assign x) (.mv px)
 | pick {c a b:Operand} {pc pa pb:PX} (hc:TrX fm c pc) (ha:TrX fm a pa) (hb:TrX fm b pb):TrOp (.pick c a b) (.pick pc pa pb)
 | alloc {e:TypeId} {i:TypeInfo} {z:Value} {zs:List D} (hi:P.info? e=some i) (hz:i.zero=some z) (hzs:CR (y7 fm) z.cells.toList zs):TrOp (.alloc e) (.alloc zs)
 | box {e:TypeId} {x:Operand} {px:PX} {n:Nat} (h:TrX fm x px):TrOp (.box e x) (.box n px)
 | build {t:TypeId} {parts:Array (Nat×Operand)} {z:Value} {zs:List D} {pl:Nat→Option (Nat×Nat)} {qs:List (Nat×Nat×PX)}
   (hb: ∀l,P.built t l=Instr.fill pl z.cells l) (hzs:CR (y7 fm) z.cells.toList zs) (hp:TrP fm pl parts.toList qs):TrOp (.build t parts) (.build zs qs)
 | buildSlice {t e:TypeId} {n:Nat} {parts:Array (Nat×Operand)} {ie:TypeInfo} {z:Value} {zs:List D} {sz:Nat} {qs:List (Nat×PX)}
   (hu:P.underlying t=some (.slice e)) (hie:P.info? e=some ie) (hz:ie.zero=some z) (hsz:ie.size=sz) (h0:0<sz) (hzs:CR (y7 fm) z.cells.toList zs) (hzl:zs.length=sz)
   (hsm:n*sz≤16777216) (hp:TrS fm parts.toList qs):TrOp (.buildSlice t n parts) (.buildSlice sz n zs qs)
 | load {t:TypeId} {x:Operand} {px:PX} {ag:Bool} {n:Nat} (hs:Shape P t ag n) (h:TrX fm x px):TrOp (.load t x) (.load ag n px)
 | store {t:TypeId} {x y:Operand} {px py:PX} {n:Nat} (hs:(P.info? t).map (·.size)=some n) (hx:TrX fm x px) (hy:TrX fm y py):TrOp (.store t x y) (.store n px py)
 | nilCheck {x:Operand} {px:PX} (h:TrX fm x px):TrOp (.nilCheck x) (.nilCheck px)
 | bin {op:BinOp} {t u:TypeId} {x y:Operand} {px py:PX} (hx:TrX fm x px) (hy:TrX fm y py):TrOp (.binOp op t x y u) (.bin op px py)
 | eqB {neg:Bool} {t u:TypeId} {x y:Operand} {px py:PX} (ht:P.underlying t=some .bool) (hx:TrX fm x px) (hy:TrX fm y py) :
   TrOp (.binOp (if neg then .neq else .eql) t x y u) (.eqB neg px py)
 | eqNs {neg:Bool} {t u e:TypeId} {x:Operand} {px:PX} (ht:P.underlying t=some (.slice e)) (hx:TrX fm x px) :
   TrOp (.binOp (if neg then .neq else .eql) t x (.const (.slice none 0 0)) u) (.eqNS neg px)
 | eqNp {neg:Bool} {t u e:TypeId} {x:Operand} {px:PX} (ht:P.underlying t=some (.pointer e)) (hx:TrX fm x px) :
   TrOp (.binOp (if neg then .neq else .eql) t x (.const (.pointer none)) u) (.eqNP neg px)
 | un {op:UnOp} {t:TypeId} {x:Operand} {px:PX} (hx:TrX fm x px):TrOp (.unOp op t x) (.un op px)
 | convInt {s d:TypeId} {k:IntKind} {x:Operand} {px:PX} (hs:(P.underlying s).isSome=true) (hd:P.underlying d=some (.int k)) (hx:TrX fm x px):TrOp (.convert s d x) (.conv (.toInt k) px)
 | convBS {s d e:TypeId} {x:Operand} {px:PX} (hs:P.underlying s=some (.slice e)) (he:P.underlying e=some (.int .u8)) (hd:P.underlying d=some .string) (hx:TrX fm x px) :
   TrOp (.convert s d x) (.conv .bytesStr px)
 | convSB {s d e:TypeId} {x:Operand} {px:PX} (hs:P.underlying s=some .string) (hd:P.underlying d=some (.slice e)) (he:P.underlying e=some (.int .u8)) (hx:TrX fm x px) :
   TrOp (.convert s d x) (.conv .strBytes px)
 | makeSlice {t e:TypeId} {i:TypeInfo} {z:Value} {zs:List D} {sz bytes:Nat} {x y:Operand} {px py:PX} (hu:P.underlying t=some (.slice e)) (hi:P.info? e=some i) (hz:i.zero=some z)
   (hsz:i.size=sz) (hby:i.bytes=bytes) (h0:0<sz) (hzs:CR (y7 fm) z.cells.toList zs) (hzl:zs.length=sz) (hx:TrX fm x px) (hy:TrX fm y py) :
   TrOp (.makeSlice t x y) (.makeSlice sz bytes zs px py)
 | slice {t e:TypeId} {i:TypeInfo} {sz:Nat} {x:Operand} {px:PX} {lo hi:Option Operand} {plo phi:Option PX} (hu:P.underlying t=some (.slice e)) (hie:P.info? e=some i) (hsz:i.size=sz)
   (hx:TrX fm x px) (hlo:TrO fm lo plo) (hhi:TrO fm hi phi):TrOp (.slice t x lo hi none) (.slice sz px plo phi)
 | sliceS {t:TypeId} {x:Operand} {px:PX} {lo hi:Option Operand} {plo phi:Option PX} (hu:P.underlying t=some .string)
   (hx:TrX fm x px) (hlo:TrO fm lo plo) (hhi:TrO fm hi phi):TrOp (.slice t x lo hi none) (.sliceS px plo phi)
 | fieldAddr {s:TypeId} {x:Operand} {px:PX} {f off n:Nat} {fs:Array Field} {fd:Field} (hu:P.underlying s=some (.struct fs)) (hf:fs[f]? = some fd) (ho:fd.offset=off)
   (hn:(P.info? fd.type).map (·.size)=some n) (h0:0<n) (hx:TrX fm x px):TrOp (.fieldAddr s x f) (.fieldAddr off n px)
 | field {s:TypeId} {x:Operand} {px:PX} {f off n:Nat} {ag:Bool} {fs:Array Field} {fd:Field} (hu:P.underlying s=some (.struct fs)) (hf:fs[f]? = some fd) (ho:fd.offset=off)
   (hn:Shape P fd.type ag n) (hx:TrX fm x px):TrOp (.field s x f) (.field ag off n px)
 | indexAddr {t e:TypeId} {x i:Operand} {px pi:PX} {sz:Nat} (hu:P.underlying t=some (.slice e)) (hs:(P.info? e).map (·.size)=some sz) (hx:TrX fm x px) (hi:TrX fm i pi) :
   TrOp (.indexAddr t x i) (.indexAddr sz px pi)
 | indexAddrA {t e:TypeId} {x i:Operand} {px pi:PX} {sz n:Nat} (hu:P.underlying t=some (.array n e)) (hs:(P.info? e).map (·.size)=some sz) (hx:TrX fm x px) (hi:TrX fm i pi) :
   TrOp (.indexAddr t x i) (.indexAddrA sz n px pi)
 | index {t e:TypeId} {x i:Operand} {px pi:PX} {sz n:Nat} {ag:Bool} (hu:P.underlying t=some (.array n e)) (hs:Shape P e ag sz) (hx:TrX fm x px) (hi:TrX fm i pi) :
   TrOp (.index t x i) (.index ag sz n px pi)
 | indexS {t:TypeId} {x i:Operand} {px pi:PX} (hu:P.underlying t=some .string) (hx:TrX fm x px) (hi:TrX fm i pi):TrOp (.index t x i) (.indexS px pi)
 | extract {x:Operand} {px:PX} {i:Nat} (hx:TrX fm x px):TrOp (.extract x i) (.extract px i)
 | eqA {neg:Bool} {m:Nat} {t u:TypeId} {ks:List Nat} {td:TypeDesc} {x y:Operand} {px py:PX} (ht:P.underlying t=some td) (hag:qh td=true) (hg:P.eqGuardType P.depth t=false)
   (hl:lay P m t=some ks) (hm:m≤1000) (hx:TrX fm x px) (hy:TrX fm y py):TrOp (.binOp (if neg then .neq else .eql) t x y u) (.eqA neg ks px py)
 | toFlt {s d:TypeId} {x:Operand} {px:PX} (hs:(P.underlying s).isSome=true) (hd:P.underlying d=some (.float .f64)) (hx:TrX fm x px):TrOp (.convert s d x) (.conv .toFlt px)
 | mark {t e:TypeId} {x:Operand} {px:PX} (ht:P.underlying t=some (.slice e)) (he:P.underlying e=some (.int .u8)) (hx:TrX fm x px):TrOp (.convert t t x) (.mark px)
 | bits {f:Nat} {x:Operand} {px:PX} {ats:Array TypeId} (hf:jb P f true) (hx:TrX fm x px):TrOp (.call { callee:= .value (.func f),args := #[x],argTypes:=ats }) (.bits px)
 | ofBits {f:Nat} {x:Operand} {px:PX} {ats:Array TypeId} (hf:jb P f false) (hx:TrX fm x px):TrOp (.call { callee:= .value (.func f),args := #[x],argTypes:=ats }) (.ofBits px)
 | minmax {mx:Bool} {x:Operand} {xs:List Operand} {px:PX} {ps:List PX} {ats:Array TypeId} (hx:TrX fm x px) (hxs:zab fm xs ps) :
   TrOp (.call { callee:= .builtin (if mx then .max else .min),args:=(x::xs).toArray,argTypes:=ats }) (.minmax mx px ps)
 | lenS {t:TypeId} {x:Operand} {px:PX} (hu:P.underlying t=some .string) (hx:TrX fm x px) :
   TrOp (.call { callee:= .builtin .len,args := #[x],argTypes := #[t] }) (.lenS px)
 | lenR {t e:TypeId} {x:Operand} {px:PX} (hu:P.underlying t=some (.slice e)) (hx:TrX fm x px) :
   TrOp (.call { callee:= .builtin .len,args := #[x],argTypes := #[t] }) (.len px)
 | append {t u e:TypeId} {i:TypeInfo} {z:Value} {sz bytes:Nat} {x y:Operand} {px py:PX} (hu:P.underlying t=some (.slice e)) (hv:(∃e',P.underlying u=some (.slice e'))∨P.underlying u=some .string)
   (hi:P.info? e=some i) (hz:i.zero=some z) (hsz:i.size=sz) (hzl:z.cells.size=sz) (hby:i.bytes=bytes) (h0:0<sz) (hx:TrX fm x px) (hy:TrX fm y py) :
   TrOp (.call { callee:= .builtin .append,args := #[x,y],argTypes := #[t,u] }) (.append sz bytes px py)
end
section
variable {P:Program} {fm:Nat→Nat} {B:qo} {w:World} {G:Gh} {H:zf} {o:Oper} {a:Act} {ts:List D}
def yp (fm:Nat→Nat)(B:qo)(w:World)(G:Gh)(H:zf)(out:Out)(v:Value)(w':World):Prop:=
 ∃G',Adv B w G H w' G' (out.on H)∧Inv fm B w' G' (out.on H)∧Rep fm G' (okB B G' (out.on H) w') w' v out.d
theorem zj (hI:Inv fm B w G H){v:Value}{d:D}(h:Rep fm G (okB B G H w) w v d):yp fm B w G H ⟨d,[],[]⟩ v w:=
 ⟨G,Adv.refl _ _ _ _,hI,h⟩
theorem zL {x:Option D}{out:Out}(h:(zZ x).run H=some out): ∃d,x=some d∧out=⟨d,[],[]⟩:=by
 cases x with
 | none=>simp [zZ,Eff.run] at h
 | some d=>simp [zZ,quiet,Eff.run] at h;exact ⟨d,rfl,h.symm⟩
theorem zB {d:D}{out:Out}(h:(quiet d).run H=some out):out=⟨d,[],[]⟩:=by
 simp [quiet,Eff.run] at h;exact h.symm
theorem jd {α:Type}{r:Nat}{k:Eff α}{x:α}(h:(Eff.new r k).run H=some x):r<H.length∧hat H r= .fresh∧k.run H=some x:=by
 simp only [Eff.run] at h;split at h
 ·split at h
  ·exact ⟨by assumption,by assumption,h⟩
  ·cases h
 ·cases h
theorem jv {α:Type}{r:Nat}{k:Eff α}{x:α}(h:(Eff.live r k).run H=some x):(∃sz es,hat H r= .row sz es true)∧k.run H=some x:=by
 simp only [Eff.run] at h;split at h
 ·exact ⟨⟨_,_,by assumption⟩,h⟩
 ·cases h
theorem yy {α:Type}{r:Nat}{k:Nat→List (List D)→Eff α}{x:α}(h:(Eff.get r k).run H=some x): ∃sz es lv,hat H r= .row sz es lv∧(k sz es).run H=some x:=by
 simp only [Eff.run] at h;split at h
 ·exact ⟨_,_,_,by assumption,h⟩
 ·cases h
theorem run_bind' {α β:Type}{e:Eff α}{f:α→Eff β}{y:β}(h:(e.bind f).run H=some y): ∃x,e.run H=some x∧(f x).run H=some y:=by
 induction e with
 | pure a=>exact ⟨a,rfl,h⟩
 | fail=>simp [Eff.bind,Eff.run] at h
 | get id k ih=>
  obtain ⟨sz,es,lv,h1,h2⟩:=yy (by exact h)
  obtain ⟨x,h3,h4⟩:=ih sz es h2
  exact ⟨x,by simp [Eff.run,h1,h3],h4⟩
 | live id k ih=>
  obtain ⟨⟨sz,es,h1⟩,h2⟩:=jv (by exact h)
  obtain ⟨x,h3,h4⟩:=ih h2
  exact ⟨x,by simp [Eff.run,h1,h3],h4⟩
 | new id k ih=>
  obtain ⟨h0,h1,h2⟩:=jd (by exact h)
  obtain ⟨x,h3,h4⟩:=ih h2
  exact ⟨x,by simp [Eff.run,h0,h1,h3],h4⟩
theorem Vf {t:TypeId}{d:TypeDesc}(hu:P.underlying t=some d)(hd:qh d=false){b o:Nat}{u:Value}(hc:w.cell? ⟨b,o,none⟩=some u) :
  (Instr.loadAt t (.pointer (some ⟨b,o,none⟩))).run P w= .ok u w:=by
 have hagg:(isAgg t).run P w= .ok false w:=by
  unfold isAgg;rw [Sem.run_bind,run_underlying hu w]
  cases d<;>simp_all [qh]
 simp [Instr.loadAt,Instr.sureAddr,loadVar,Sem.run_bind,hagg,run_load,hc]
theorem UM {t:TypeId}{ag:Bool}{n:Nat}(hs:Shape P t ag n){b o:Nat}{cs:List Value}{ds:List D}{rep:Value→D→Prop}(hc:CR rep cs ds)(hr:w.rangeAt b o cs)(hn:ds.length=n){d:D}
  (hd:shaped ag ds=some d) (hagg: ∀vs:List Value,CR rep vs ds→rep (.agg vs.toArray) (.agg ds)) :
  ∃v,(Instr.loadAt t (.pointer (some ⟨b,o,none⟩))).run P w= .ok v w∧rep v d:=by
 obtain ⟨td,i,h1,h2,h3,h4⟩:=hs
 cases ag with
 | true=>
  simp only [shaped,if_true,Option.some.injEq] at hd;subst hd;refine ⟨_,run_loadAt_mid w b o t cs td hr h1 (by cases td<;>first | rfl | (simp [qh] at h2)) (by simp [h3,h4,hc.1,hn]),hagg _ hc⟩
 | false=>
  simp only [shaped,Bool.false_eq_true,if_false] at hd;match ds,hd,hc with
  | [c],hd,hc=>
   injection hd with hd;subst hd;obtain ⟨u,a1,a2,a3⟩:=hc.2 0 c rfl
   exact ⟨u,Vf h1 h2 (by simpa using hr 0 u a1),a3⟩
theorem qi {G:Gh}{ok:Nat→Prop}{ds:List D}(vs:List Value)(h:CR (Rep fm G ok w) vs ds):Rep fm G ok w (.agg vs.toArray) (.agg ds):=
 .agg ds vs h.1 h.one (fun j d v h1 h2=>h.get h2 h1)
theorem Yg {ok:Nat→Prop}{ds:List D}(vs:List Value)(h:CR (RepC fm ok w) vs ds):RepC fm ok w (.agg vs.toArray) (.agg ds):=
 .agg ds vs h.1 h.one (fun j d v h1 h2=>h.get h2 h1)
theorem jB {ok:Nat→Prop}{cs:List D}{v:Value}(h:RepC fm ok w v (.fptr cs)): ∃b o vs,v= .pointer (some ⟨b,o,none⟩)∧ok b∧CR (RepC fm ok w) vs cs∧w.rangeAt b o vs:=by
 cases h with
 | fptr _ b o u hok hcell hone hrep=>
  refine ⟨b,o,(List.range cs.length).map u,rfl,hok,⟨by simp,fun j d hj=> ?_⟩,fun j v hv=> ?_⟩
  ·have hl:j<cs.length:=(List.getElem?_eq_some_iff.1 hj).1
   exact ⟨u j,by simp [hl],hone j d hj,hrep j d hj⟩
  ·have hl:j<cs.length:=by
    have:=(List.getElem?_eq_some_iff.1 hv).1
    simpa using this
   simp [hl] at hv
   subst hv;exact hcell j _ (List.getElem?_eq_getElem hl)
theorem J8 {ok:Nat→Prop}{cs:List D}{b o:Nat}{vs:List Value}(hok:ok b)(hc:CR (RepC fm ok w) vs cs)(hr:w.rangeAt b o vs):RepC fm ok w (.pointer (some ⟨b,o,none⟩)) (.fptr cs):=by
 refine .fptr cs b o (fun j=>vs.getD j undef) hok (fun j d hj=> ?_) (fun j d hj=> ?_) (fun j d hj=> ?_) <;>
  (obtain ⟨u,a1,a2,a3⟩:=hc.2 j d hj
   simp only [List.getD_eq_getElem?_getD,a1,Option.getD_some])
 ·exact hr j u a1
 ·exact a2
 ·exact a3
theorem zha (hI:Inv fm B w G H)(hts:TsR (Rep fm G (okB B G H w) w) a.tmps ts){t:TypeId}{x:Operand}{px:PX}{ag:Bool}{n:Nat}(ho:o.op= .load t x)
  (hs:Shape P t ag n) (hx:TrX fm x px) {call:zy} {r:Nat} {out:Out} (hrun:(opE call (PX.ev ts) r (.load ag n px)).run H=some out):yo P o a w (yp fm B w G H out):=by
 have hv:=zr hts hx
 simp only [opE] at hrun
 cases hp:px.ev ts<;>rw [hp] at hrun hv<;>try (simp [Eff.run] at hrun;done)
 case ptr id off=>
  obtain ⟨sz,es,lv,h1,h2⟩:=yy hrun
  obtain ⟨b,cap,h3,h4,h5⟩:=hI.rows id sz es lv h1
  obtain hvv:=hv.inv_ptr h3
  cases he:es[off / sz]? with
  | none=>rw [he] at h2;simp [Eff.run] at h2
  | some e=>
   rw [he] at h2;simp only at h2
   split at h2
   ·rename_i hle;obtain ⟨d,hd,rfl⟩:=zL h2
    obtain ⟨cs,hc,hr⟩:=h5.range he
    have hr':=Jx hr (off % sz) n
    rw [Nat.div_add_mod' off sz] at hr';obtain ⟨v,hl,hrep⟩:=UM (P:=P) hs ((hc.drop (off % sz)).take n) hr' (by simp;omega) hd (fun vs h=>qi vs h)
    refine zm (v:=v) (w':=w) ?_ (zj hI hrep)
    simp only [execOp,ho,hvv,Sem.run_bind,hl,Result.andThen_ok,Sem.run_pure]
   ·simp [Eff.run] at h2
 case fptr cs=>
  dsimp only at hrun
  split at hrun
  ·rename_i hle;obtain ⟨d,hd,rfl⟩:=zL hrun
   obtain ⟨b,off,vs,hvv,hok,hc,hr⟩:=jB hv.inv_fptr
   obtain ⟨v,hl,hrep⟩:=UM (P:=P) (rep:=RepC fm (okB B G H w) w) (o:=off) hs (hc.take n) (by simpa using Jx hr 0 n) (by simp;omega) hd (fun vs h=>Yg vs h)
   refine zm (v:=v) (w':=w) ?_ (zj hI (.closed hrep))
   simp only [execOp,ho,hvv,Sem.run_bind,hl,Result.andThen_ok,Sem.run_pure]
  ·simp [Eff.run] at hrun
theorem zfT (hI:Inv fm B w G H)(hts:TsR (Rep fm G (okB B G H w) w) a.tmps ts){t:TypeId}{x y:Operand}{px py:PX}{n:Nat}(ho:o.op= .store t x y)
  (hs:(P.info? t).map (·.size)=some n) (hx:TrX fm x px) (hy:TrX fm y py) {call:zy} {r:Nat} {out:Out} (hrun:(opE call (PX.ev ts) r (.store n px py)).run H=some out) :
  yo P o a w (yp fm B w G H out):=by
 have hv:=zr hts hx
 have hvy:=zr hts hy
 simp only [opE] at hrun
 cases hp:px.ev ts<;>rw [hp] at hrun hv<;>try (simp [Eff.run] at hrun;done)
 case ptr id off=>
  obtain ⟨⟨sz,es,h1⟩,hrun⟩:=jv hrun
  obtain ⟨sz',es',lv,h1',h2⟩:=yy hrun
  rw [h1] at h1';injection h1' with e1 e2 e3;subst e1;subst e2;subst e3;obtain ⟨b,cap,h3,h4,h5⟩:=hI.rows id sz es true h1
  obtain hvv:=hv.inv_ptr h3
  cases he:es[off / sz]? with
  | none=>rw [he] at h2;simp [Eff.run] at h2
  | some e=>
   rw [he] at h2;simp only at h2
   split at h2
   ·rename_i hle;obtain ⟨g1,g2,g3⟩:=hle
    simp only [Eff.run,Option.some.injEq] at h2;subst h2;have hcs:=Ys hvy g3
    obtain ⟨w',k1,k2,k3,k4,k5,k6,k7⟩:=h5.write (P:=P) he hcs (by omega)
    obtain ⟨ha,hI'⟩:=zdZ hI h1 h3 k2 k3 k4 k5 k6 k7
    refine zdR (w':=w') ?_ ⟨G,ha,hI',.closed (.undef _)⟩
    have:=k1 t (by rw [hs,g2]) (a.eval y) rfl
    simp only [execOp,ho,hvv,Instr.storeAt,Instr.sureAddr,Sem.run_bind,Sem.run_pure,Result.andThen_ok,this]
   ·simp [Eff.run] at h2
end
section
variable {P:Program} {fm:Nat→Nat} {B:qo} {w:World} {G:Gh} {H:zf} {o:Oper} {a:Act} {ts:List D} {call:zy} {r:Nat} {out:Out}
theorem Jw {ok:Nat→Prop}(b cap sz:Nat):Rep fm (upd G r (.row b cap sz)) ok w (.pointer (some ⟨b,0,none⟩)) (.ptr r 0):=
 .ptr r 0 _ (by rw [qz];simp) (fun b' cap' sz' h=>by rw [qz] at h;injection h with h _ _;subst h;rfl) rfl
theorem qU {ok:Nat→Prop}(b cap sz len:Nat)(h:len≤cap):Rep fm (upd G r (.row b cap sz)) ok w (.slice (some ⟨b,0,none⟩) len cap) (.ref r 0 len):=
 .ref r 0 len _ (by rw [qz];simp) (fun b' cap' sz' h'=>by
  rw [qz] at h';injection h' with h1 h2 h3;subst h1;subst h2;subst h3;exact ⟨by omega,_,rfl,.inl (by simp)⟩) rfl
theorem zfA {rep:Value→D→Prop}{c:Array Value}{zs:List D}(h:CR rep c.toList zs) :
  c.size=1*zs.length∧ ∀(i j:Nat) (e:List D) (d:D),[zs][i]? = some e→e[j]? = some d→ ∃u,c[i*zs.length+j]? = some u∧u.oneCell'=true∧rep u d:=by
 refine ⟨by simpa using h.1,fun i j e d he hd=> ?_⟩
 cases i with
 | zero=>
  simp at he;subst he;obtain ⟨u,a1,a2,a3⟩:=h.2 j d hd
  exact ⟨u,by simpa using a1,a2,a3⟩
 | succ i=>simp at he
theorem zf0 (hI:Inv fm B w G H){e:TypeId}{i:TypeInfo}{z:Value}{zs:List D}(ho:o.op= .alloc e)(hi:P.info? e=some i)(hz:i.zero=some z)
  (hzs:CR (y7 fm) z.cells.toList zs) {ρ:PX→D} (hrun:(opE call ρ r (.alloc zs)).run H=some out):yo P o a w (yp fm B w G H out):=by
 obtain ⟨h1,h2,h3⟩:=jd (by exact hrun)
 simp only [Eff.run,Option.some.injEq] at h3;subst h3;obtain ⟨c1,c2⟩:=zfA (hzs.mono (fun v d h=>Rep.closed (fm:=fm) (G:=G) (ok:=okB B G H w) (w:=w) (h _ _)))
 obtain ⟨ha,hI'⟩:=Qc hI h1 h2 (jt.alloc w z.cells e) c1 (by simp) (by decide) (by simp) c2
 refine zm (v:= .pointer (some ⟨w.heap.size,0,none⟩)) (w':=w.alloc (.cells z.cells e)) ?_ ⟨_,ha,hI',Jw _ _ _⟩
 simp [execOp,ho,Instr.alloc,zeroValue,typeInfo,hi,hz,newVar,newRow]
theorem zju (hI:Inv fm B w G H)(hts:TsR (Rep fm G (okB B G H w) w) a.tmps ts){e:TypeId}{x:Operand}{px:PX}{n:Nat}(ho:o.op= .box e x)(hx:TrX fm x px)
  (hrun:(opE call (PX.ev ts) r (.box n px)).run H=some out):yo P o a w (yp fm B w G H out):=by
 have hv:=zr hts hx
 simp only [opE] at hrun;split at hrun
 ·rename_i hc;obtain ⟨g1,g2⟩:=hc
  obtain ⟨h1,h2,h3⟩:=jd hrun
  simp only [Eff.run,Option.some.injEq] at h3;subst h3;obtain ⟨c1,c2⟩:=zfA (Ys hv g2)
  rw [g1] at c1 c2;obtain ⟨ha,hI'⟩:=Qc hI h1 h2 (jt.alloc w (a.eval x).cells e) c1 (by simp) (by decide) (by simp [g1]) c2
  refine zm (v:= .pointer (some ⟨w.heap.size,0,none⟩)) (w':=w.alloc (.cells (a.eval x).cells e)) ?_ ⟨_,ha,hI',Jw _ _ _⟩
  simp [execOp,ho,Instr.box,newVar,newRow]
 ·simp [Eff.run] at hrun
theorem zc1 {rep:Value→D→Prop}{pl:Nat→Option (Nat×Nat)}(hrep: ∀ {x:Operand} {px:PX},TrX fm x px→(cellsOf (px.ev ts)).all one=true→CR rep (a.eval x).cells.toList (cellsOf (px.ev ts))) :
  ∀ {ps:List (Nat×Operand)} {qs:List (Nat×Nat×PX)},TrP fm pl ps qs→ ∀ {c:Array Value} {zs zs':List D},CR rep c.toList zs →
   (∀q∈qs,(cellsOf (q.2.2.ev ts)).all one=true)→Xt zs (qs.map fun p=>(p.1,p.2.1,p.2.2.ev ts))=some zs' →
   ∃c',Instr.fill pl c (ps.map fun p=>(p.1,a.eval p.2))=some c'∧CR rep c'.toList zs'
 | [],[],.nil,c,zs,zs',hc,_,h=>by
  simp [Xt] at h
  subst h;exact ⟨c,rfl,hc⟩
 | (i,x)::ps,(off,n,px)::qs,.cons hp hx htl,c,zs,zs',hc,hone,h=>by
  simp only [List.map_cons,Xt] at h;split at h
  ·rename_i hg;obtain ⟨g1,g2⟩:=hg
   have hcx:=hrep hx (hone (off,n,px) (by simp))
   have hsz:(a.eval x).cells.size=n:=by have:=hcx.1;simp at this;omega
   have hcs:c.size=zs.length:=by simpa using hc.1
   simp only [List.map_cons,Instr.fill,hp,hsz,ne_eq,not_true_eq_false,decide_false,Bool.false_or,hcs];rw [if_neg (by simp;omega)]
   refine zc1 hrep htl (c:=_) (zs:=Pi.qF zs off (cellsOf (px.ev ts))) ?_ (fun q hq=>hone q (by simp [hq])) h
   have hz:=QH off (a.eval x).cells c (by omega)
   have:CR rep ((a.eval x).cells.zipIdx.foldl (fun (cs:Array Value) (x:Value×Nat)=>cs.setIfInBounds (off+x.2) x.1) c).toList (Pi.qF zs off (cellsOf (px.ev ts))):=by
    rw [hz];have:=hc.splice hcx off
    simpa using this
   exact this
  ·cases h
theorem zfZ (hI:Inv fm B w G H)(hts:TsR (Rep fm G (okB B G H w) w) a.tmps ts){t:TypeId}{parts:Array (Nat×Operand)}{z:Value}{zs:List D}{pl:Nat→Option (Nat×Nat)}{qs:List (Nat×Nat×PX)}
  (ho:o.op= .build t parts) (hb: ∀l,P.built t l=Instr.fill pl z.cells l) (hzs:CR (y7 fm) z.cells.toList zs) (hp:TrP fm pl parts.toList qs)
  (hrun:(opE call (PX.ev ts) r (.build zs qs)).run H=some out):yo P o a w (yp fm B w G H out):=by
 simp only [opE] at hrun;split at hrun
 ·rename_i hone;obtain ⟨d,hd,rfl⟩:=zL hrun
  simp only [Option.map_eq_some_iff] at hd;obtain ⟨zs',hf,rfl⟩:=hd
  obtain ⟨c',k1,k2⟩:=zc1 (a:=a) (ts:=ts) (rep:=Rep fm G (okB B G H w) w) (fun hx h1=>Ys (zr hts hx) h1) hp (c:=z.cells)
   (hzs.mono (fun v d h=> .closed (h _ _))) (fun q hq=>by simpa using List.all_eq_true.1 hone q hq) hf
  have hbl:=run_build (P:=P) w t (parts.map fun p=>(p.1,a.eval p.2)) c' (by rw [hb];simpa using k1)
  refine zm (v:= .agg c') (w':=w) ?_ (zj hI ?_)
  ·simp only [execOp,ho,Sem.run_bind];have he:(Instr.build t (parts.map fun (x:Nat×Operand)=>match x with | (i,x)=>(i,a.eval x))).run P w= .ok (.agg c') w:=hbl
   rw [he];rfl
  ·have:=qi c'.toList k2
   simpa using this
 ·simp [Eff.run] at hrun
structure RS (rep:Value→D→Prop) (sz:Nat) (c:Array Value) (es:List (List D)):Prop where
 size:c.size=es.length*sz
 each: ∀e∈es,e.length=sz
 cell: ∀(i j:Nat) (e:List D) (d:D),es[i]? = some e→e[j]? = some d→ ∃u,c[i*sz+j]? = some u∧u.oneCell'=true∧rep u d
theorem zjp {rep:Value→D→Prop}{sz:Nat}{c c':Array Value}{es:List (List D)}{i:Nat}{vs:List Value}{ds:List D}(h:RS rep sz c es)(hv:CR rep vs ds)(hl:ds.length=sz)(hi:i<es.length)
  (hc:c'.toList=c.toList.take (i*sz)++vs++c.toList.drop (i*sz+vs.length)):RS rep sz c' (es.set i ds):=by
 have hb:i*sz+sz≤c.size:=by
  rw [h.size,←Nat.succ_mul];exact Nat.mul_le_mul_right _ (by omega)
 have hvl:vs.length=sz:=by rw [hv.1,hl]
 refine ⟨?_,?_,?_⟩
 ·rw [←Array.length_toList,hc];simp only [List.length_append,List.length_take,List.length_drop,Array.length_toList,List.length_set];have:=h.size
  omega
 ·intro e he;rcases List.mem_or_eq_of_mem_set he with h' | h'
  ·exact h.each e h'
  ·subst h';exact hl
 ·intro k j e d he hd;rw [←Array.getElem?_toList,hc];simp only [List.getElem?_append,List.length_append,List.length_take,List.getElem?_take,List.getElem?_drop,Array.length_toList];have hm:min (i*sz) c.size=i*sz:=by omega
  rw [hm,hvl];rw [List.getElem?_set] at he;by_cases hki:i=k
  ·subst hki;simp only [if_true,hi] at he;injection he with he;subst he;have hj:j<sz:=by rw [←hl];exact (List.getElem?_eq_some_iff.1 hd).1
   obtain ⟨u,a1,a2,a3⟩:=hv.2 j d hd
   rw [if_pos (by omega),if_neg (by omega)];exact ⟨u,by rw [show i*sz+j-i*sz=j by omega];exact a1,a2,a3⟩
  ·rw [if_neg hki] at he;have hj:j<sz:=by rw [←h.each e (List.mem_of_getElem? he)];exact (List.getElem?_eq_some_iff.1 hd).1
   obtain ⟨u,a1,a2,a3⟩:=h.cell k j e d he hd
   refine ⟨u,?_,a2,a3⟩
   rcases Nat.lt_or_gt_of_ne hki with hlt | hgt
   ·have:(i+1)*sz≤k*sz:=Nat.mul_le_mul_right _ (by omega)
    rw [Nat.succ_mul] at this;rw [if_neg (by omega),show i*sz+sz+(k*sz+j-(i*sz+sz))=k*sz+j by omega];simpa using a1
   ·have:(k+1)*sz≤i*sz:=Nat.mul_le_mul_right _ (by omega)
    rw [Nat.succ_mul] at this;rw [if_pos (by omega),if_pos (by omega),if_pos (by omega)];simpa using a1
theorem zaS {rep:Value→D→Prop}{sz:Nat}(hrep: ∀ {x:Operand} {px:PX},TrX fm x px→(cellsOf (px.ev ts)).all one=true→CR rep (a.eval x).cells.toList (cellsOf (px.ev ts))) :
  ∀ {ps:List (Nat×Operand)} {qs:List (Nat×PX)},TrS fm ps qs→ ∀ {c:Array Value} {es es':List (List D)},RS rep sz c es →
   (∀q∈qs,(cellsOf (q.2.ev ts)).all one=true)→YJ sz es (qs.map fun p=>(p.1,p.2.ev ts))=some es' →
   ∃c',Instr.fill (fun i=>some (i*sz,sz)) c (ps.map fun p=>(p.1,a.eval p.2))=some c'∧RS rep sz c' es'∧es'.length=es.length
 | [],[],.nil,c,es,es',hc,_,h=>by
  simp [YJ] at h
  subst h;exact ⟨c,rfl,hc,rfl⟩
 | (i,x)::ps,(_,px)::qs,.cons hx htl,c,es,es',hc,hone,h=>by
  simp only [List.map_cons,YJ] at h;split at h
  ·rename_i hg;obtain ⟨g1,g2⟩:=hg
   have hcx:=hrep hx (hone (i,px) (by simp))
   have hsz:(a.eval x).cells.size=sz:=by have:=hcx.1;simp at this;omega
   have hb:i*sz+sz≤c.size:=by
    rw [hc.size,←Nat.succ_mul];exact Nat.mul_le_mul_right _ (by omega)
   simp only [List.map_cons,Instr.fill,hsz,ne_eq,not_true_eq_false,decide_false,Bool.false_or];rw [if_neg (by simp;omega)]
   have hz:=QH (i*sz) (a.eval x).cells c (by omega)
   have:RS rep sz ((a.eval x).cells.zipIdx.foldl (fun (cs:Array Value) (x:Value×Nat)=>cs.setIfInBounds (i*sz+x.2) x.1) c) (es.set i (cellsOf (px.ev ts))):=
    zjp hc hcx g1 g2 (by rw [hz];simp)
   obtain ⟨c',k1,k2,k3⟩:=zaS hrep htl (c:=_) (es:=es.set i (cellsOf (px.ev ts))) this (fun q hq=>hone q (by simp [hq])) h
   exact ⟨c',k1,k2,by simpa using k3⟩
  ·cases h
theorem zcV {rep:Value→D→Prop}{z:Array Value}{zs:List D}{sz:Nat}(h:CR rep z.toList zs)(hl:zs.length=sz)(h0:0<sz)(n:Nat):RS rep sz (madeCells z (n*sz)) (List.replicate n zs):=by
 have hz:z.size=sz:=by rw [←hl];simpa using h.1
 refine ⟨by simp [size_madeCells],fun e he=>by rw [(List.mem_replicate.1 he).2];exact hl,fun i j e d he hd=> ?_⟩
 rw [List.getElem?_replicate] at he;split at he
 ·rename_i hi;injection he with he;subst he;have hj:j<sz:=by rw [←hl];exact (List.getElem?_eq_some_iff.1 hd).1
  obtain ⟨u,a1,a2,a3⟩:=h.2 j d hd
  have hb:i*sz+j<n*sz:=by
   have:(i+1)*sz≤n*sz:=Nat.mul_le_mul_right _ (by omega)
   rw [Nat.succ_mul] at this;omega
  refine ⟨u,?_,a2,a3⟩
  unfold madeCells;rw [Array.getElem?_map,Array.getElem?_range];simp only [hb,if_true,Option.map_some];rw [hz,show (i*sz+j) % sz=j by rw [Nat.mul_comm,Nat.mul_add_mod,Nat.mod_eq_of_lt hj]]
  congr 1
  rw [getElem!_def];have:z[j]? = some u:=by simpa using a1
  rw [this]
 ·cases he
theorem zjq {rep:Value→D→Prop}{sz n:Nat}{c:Array Value}{es:List (List D)}(h:RS rep sz c es)(hl:es.length=n):c.size=n*sz:=by rw [h.size,hl]
theorem Vj (hI:Inv fm B w G H)(hts:TsR (Rep fm G (okB B G H w) w) a.tmps ts){t e:TypeId}{n:Nat}{parts:Array (Nat×Operand)}{ie:TypeInfo}{z:Value}{zs:List D}{sz:Nat}{qs:List (Nat×PX)}
  (ho:o.op= .buildSlice t n parts) (hu:P.underlying t=some (.slice e)) (hie:P.info? e=some ie) (hz:ie.zero=some z) (hsz:ie.size=sz) (h0:0<sz) (hzs:CR (y7 fm) z.cells.toList zs) (hzl:zs.length=sz)
  (hsm:n*sz≤16777216) (hp:TrS fm parts.toList qs) (hrun:(opE call (PX.ev ts) r (.buildSlice sz n zs qs)).run H=some out):yo P o a w (yp fm B w G H out):=by
 simp only [opE] at hrun;split at hrun
 ·rename_i hone
  cases hf:YJ sz (List.replicate n zs) (qs.map fun p=>(p.1,p.2.ev ts)) with
  | none=>rw [hf] at hrun;simp [Eff.run] at hrun
  | some es'=>
   rw [hf] at hrun;obtain ⟨h1,h2,h3⟩:=jd hrun
   simp only [Eff.run,Option.some.injEq] at h3;subst h3;have hrs:=zcV (hzs.mono (fun v d h=>Rep.closed (fm:=fm) (G:=G) (ok:=okB B G H w) (w:=w) (h _ _))) hzl h0 n
   obtain ⟨c',k1,k2,k3⟩:=zaS (a:=a) (ts:=ts) (rep:=Rep fm G (okB B G H w) w) (fun hx h1=>Ys (zr hts hx) h1) hp (c:=madeCells z.cells (n*sz))
    hrs (fun q hq=>by simpa using List.all_eq_true.1 hone q hq) hf
   have hl:es'.length=n:=by simpa using k3
   have hcap:n≤maxLen:=by
    have:n≤n*sz:=Nat.le_mul_of_pos_right n h0
    simp only [maxLen];omega
   obtain ⟨ha,hI'⟩:=Qc (w':=w.alloc (.cells c' e)) hI h1 h2 (jt.alloc w c' e) (zjq k2 hl) (by omega) hcap k2.each k2.cell
   refine zm (v:= .slice (some ⟨w.heap.size,0,none⟩) n n) (w':=w.alloc (.cells c' e)) ?_ ⟨_,ha,hI',qU _ _ _ _ (Nat.le_refl _)⟩
   have hbs:(Instr.buildSlice t n (parts.map fun p=>(p.1,a.eval p.2))).run P w= .ok (.slice (some ⟨w.heap.size,0,none⟩) n n) (w.alloc (.cells c' e)):=by
    by_cases hn:n=0
    ·subst hn;have er:Array.range 0 = #[]:=rfl
     have hc':Instr.fill (fun i=>some (i*ie.size,ie.size)) #[] (parts.map fun p=>(p.1,a.eval p.2)).toList=some c':=by
      simpa [madeCells,hsz,er] using k1
     simp [Instr.buildSlice,run_underlying hu,sizeOf,typeInfo,hie,newRow,er] at hc' ⊢
     rw [hc'];simp
    ·refine run_buildSlice w t e n _ c' ie z hu hie hz (by rw [hsz];omega) (by rw [hsz];exact Nat.mul_ne_zero hn (by omega)) ?_
     rw [hsz];simpa [madeCells] using k1
   simp only [execOp,ho,Sem.run_bind];have he:(Instr.buildSlice t n (parts.map fun (x:Nat×Operand)=>match x with | (i,x)=>(i,a.eval x))).run P w= .ok (.slice (some ⟨w.heap.size,0,none⟩) n n) (w.alloc (.cells c' e)):=hbs
   rw [he];rfl
 ·simp [Eff.run] at hrun
theorem U0 (hI:Inv fm B w G H)(hts:TsR (Rep fm G (okB B G H w) w) a.tmps ts){t e:TypeId}{i:TypeInfo}{z:Value}{zs:List D}{sz bytes:Nat}{x y:Operand}{px py:PX}
  (ho:o.op= .makeSlice t x y) (hu:P.underlying t=some (.slice e)) (hi:P.info? e=some i) (hz:i.zero=some z) (hsz:i.size=sz) (hby:i.bytes=bytes) (h0:0<sz)
  (hzs:CR (y7 fm) z.cells.toList zs) (hzl:zs.length=sz) (hx:TrX fm x px) (hy:TrX fm y py)
  (hrun:(opE call (PX.ev ts) r (.makeSlice sz bytes zs px py)).run H=some out):yo P o a w (yp fm B w G H out):=by
 have hvx:=zr hts hx
 have hvy:=zr hts hy
 simp only [opE] at hrun;split at hrun
 ·rename_i k1 n k2 m e1 e2;split at hrun
  ·rename_i hc;obtain ⟨g1,g2,g3,g4⟩:=hc
   subst g2;obtain ⟨h1,h2,h3⟩:=jd hrun
   simp only [Eff.run,Option.some.injEq] at h3;subst h3;rw [e1] at hvx;rw [e2] at hvy;have vx:=hvx.inv_int
   have vy:=hvy.inv_int
   have hroom:(roomy:Int)=1099511627776:=rfl
   have hrs:=zcV (hzs.mono (fun v d h=>Rep.closed (fm:=fm) (G:=G) (ok:=okB B G H w) (w:=w) (h _ _))) hzl h0 n.toNat
   have hcap:n.toNat≤maxLen:=by simp only [maxLen];omega
   obtain ⟨ha,hI'⟩:=Qc (w':=w.alloc (.cells (madeCells z.cells (n.toNat*sz)) e)) hI h1 h2 (jt.alloc w _ e) (by simp [size_madeCells]) (by simp) hcap hrs.each hrs.cell
   refine zm (v:= .slice (some ⟨w.heap.size,0,none⟩) n.toNat n.toNat) (w':=w.alloc (.cells (madeCells z.cells (n.toNat*sz)) e)) ?_ ⟨_,ha,hI',qU _ _ _ _ (Nat.le_refl _)⟩
   have hr:=run_make (P:=P) w t e i z hu hi hz k1 k2 n n g1 (Int.le_refl _) (by rw [hby,Int.mul_comm];omega) (by omega)
   rw [hsz] at hr;simp only [execOp,ho,Sem.run_bind,vx,vy,hr,Result.andThen_ok,Sem.run_pure]
  ·simp [Eff.run] at hrun
 ·simp [Eff.run] at hrun
end
section
variable {P:Program} {fm:Nat→Nat} {B:qo} {w:World} {G:Gh} {H:zf} {o:Oper} {a:Act} {ts:List D} {call:zy} {r:Nat} {out:Out}
theorem zia (hI:Inv fm B w G H)(hts:TsR (Rep fm G (okB B G H w) w) a.tmps ts){x:Operand}{px:PX}(ho:o.op= .move x∨o.op= .assign x)(hx:TrX fm x px)
  (hrun:(opE call (PX.ev ts) r (.mv px)).run H=some out):yo P o a w (yp fm B w G H out):=by
 obtain rfl:=zB (by exact hrun)
 refine zm (v:=a.eval x) (w':=w) ?_ (zj hI (zr hts hx))
 rcases ho with ho | ho<;>simp [execOp,ho]
theorem zg8 (hI:Inv fm B w G H)(hts:TsR (Rep fm G (okB B G H w) w) a.tmps ts){c x y:Operand}{pc px py:PX}(ho:o.op= .pick c x y)(hc:TrX fm c pc)(hx:TrX fm x px)(hy:TrX fm y py)
  (hrun:(opE call (PX.ev ts) r (.pick pc px py)).run H=some out):yo P o a w (yp fm B w G H out):=by
 have hv:=zr hts hc
 simp only [opE] at hrun;split at hrun
 ·rename_i t e;rw [e] at hv;have hb:=hv.inv_bool
  obtain rfl:=zB hrun
  refine zm (v:=if t then a.eval x else a.eval y) (w':=w) ?_ (zj hI ?_)
  ·simp [execOp,ho,hb,asBool]
  ·cases t
   ·exact zr hts hy
   ·exact zr hts hx
 ·simp [Eff.run] at hrun
theorem zba (hI:Inv fm B w G H)(hts:TsR (Rep fm G (okB B G H w) w) a.tmps ts){x:Operand}{px:PX}(ho:o.op= .nilCheck x)(hx:TrX fm x px)
  (hrun:(opE call (PX.ev ts) r (.nilCheck px)).run H=some out):yo P o a w (yp fm B w G H out):=by
 have hv:=zr hts hx
 simp only [opE] at hrun;split at hrun
 ·rename_i id off e;obtain rfl:=zB hrun
  rw [e] at hv;obtain ⟨b,cap,sz,hg⟩:=GS.ne_fresh hv.ptr_fresh
  have hvv:=hv.inv_ptr hg
  refine zm (v:=a.eval x) (w':=w) ?_ (zj hI hv)
  simp [execOp,ho,hvv]
 ·rename_i cs e;obtain rfl:=zB hrun
  rw [e] at hv;obtain ⟨b,off,vs,hvv,_,_,_⟩:=jB hv.inv_fptr
  refine zm (v:=a.eval x) (w':=w) ?_ (zj hI hv)
  simp [execOp,ho,hvv]
 ·simp [Eff.run] at hrun
def zbF:Value→Value→Bool
 | .nilIface,.nilIface=>false
 | .agg _,.agg _=>false
 | _,_=>true
theorem yi (op:BinOp)(t:TypeId)(x y:Operand){u v:Value}(h:zbF u v=true) :
  (eqGuard op t x y u v).run P w= .ok () w:=by
 cases op<;>simp only [eqGuard]<;>first
  | rfl
  | (cases u<;>cases v<;>first | rfl | (simp [zbF] at h))
theorem zhK {op:BinOp}{k:IntKind}{m n:Int}{d:D}(h:zbq op k m n=some d)(t:TypeId)(hs:op ≠ .shl∧op ≠ .shr): ∃v,(binOp op t (.int k m) (.int k n)).run P w= .ok v w∧ ∀ok w,RepC fm ok w v d:=by
 cases op<;>simp only [zbq,Option.some.injEq,reduceCtorEq] at h
 case quo=>
  split at h
  ·cases h
  ·rename_i hn;injection h with h;subst h;exact ⟨_,by simp [binOp,Op.intDiv,hn],fun _ _=> .int _ _⟩
 case rem=>
  split at h
  ·cases h
  ·rename_i hn;injection h with h;subst h;exact ⟨_,by simp [binOp,Op.intDiv,hn],fun _ _=> .int _ _⟩
 case and | or | xor | andNot=>
  subst h;refine ⟨_,?_,fun _ _=> .int _ _⟩
  ·refine (show _ = Sem.run P (if k ≠ k then stuck "BinOp: operands of different kinds" else Op.intBits _ k m n) w from rfl).trans ?_
   rw [if_neg (by simp)];rfl
 case add | sub | mul=>
  subst h;refine ⟨_,?_,fun _ _=> .int _ _⟩
  ·simp [binOp,Op.intArith]
 all_goals
  subst h;refine ⟨_,?_,fun _ _=> .bool _⟩
  simp [binOp,Op.intCmp]
theorem Vx {op:BinOp}{k k':IntKind}{m n:Int}{d:D}(h:Xx op k m n=some d)(t:TypeId): ∃v,(binOp op t (.int k m) (.int k' n)).run P w= .ok v w∧ ∀ok w,RepC fm ok w v d:=by
 unfold Xx at h;split at h
 ·cases h
 ·rename_i hn
  cases op<;>simp only [Option.some.injEq,reduceCtorEq] at h
  all_goals
   subst h;exact ⟨_,by simp [binOp,Op.shift,hn],fun _ _=> .int _ _⟩
theorem toList_mk (l:List UInt8):(⟨l.toArray⟩:ByteArray).toList=l:=by
 rw [ByteArray.toList_eq]
theorem zhI {op:BinOp}{m n:List UInt8}{d:D}(h:zgJ op m n=some d)(t:TypeId): ∃v,(binOp op t (.string ⟨m.toArray⟩) (.string ⟨n.toArray⟩)).run P w= .ok v w∧ ∀ok w,RepC fm ok w v d:=by
 have e1:=toList_mk m
 have e2:=toList_mk n
 have s1:(⟨m.toArray⟩:ByteArray).size=m.length:=rfl
 have s2:(⟨n.toArray⟩:ByteArray).size=n.length:=rfl
 cases op<;>simp only [zgJ,Option.some.injEq,reduceCtorEq] at h
 case add=>
  split at h
  ·rename_i hl;injection h with h;subst h;refine ⟨.string ⟨(m++n).toArray⟩,?_,fun _ _=> .str _⟩
   have hmax:IntKind.max .i64=9223372036854775807:=by decide
   have h1: ¬(((m.length+n.length:Nat):Int)>IntKind.max .i64):=by rw [hmax];omega
   have ha:(⟨m.toArray⟩:ByteArray)++(⟨n.toArray⟩:ByteArray)=⟨(m++n).toArray⟩:=by
    apply ByteArray.ext
    simp [ByteArray.data_append]
   simp only [binOp,Op.stringOp,s1,s2,if_neg h1,ha];rfl
  ·cases h
 all_goals
  subst h;refine ⟨_,?_,fun _ _=> .bool _⟩
  simp [binOp,Op.stringOp,e1,e2]
theorem Z5 {m:Nat}(h:nanBits m): ∃s t,FloatKind.f64.format.read m= .nan s t:=by
 unfold nanBits Ieee.Format.order at h
 cases hr:FloatKind.f64.format.read m with
 | nan s t=>exact ⟨s,t,rfl⟩
 | number s a e=>rw [hr] at h;simp [Ieee.Datum.order] at h
 | infinity s=>rw [hr] at h;simp [Ieee.Datum.order] at h
theorem zfQ {m:Nat}{s:Bool}{t:Nat}(h:FloatKind.f64.format.read m= .nan s t):nanBits m:=by
 unfold nanBits Ieee.Format.order;rw [h];rfl
theorem zdF {f:Ieee.Format}{x r:Nat}(h:x % f.signWeight=r)(h1: ¬r<f.binade)(h2: ¬r<f.infRung)(h3: ¬r=f.infRung): ∃s t,f.read x= .nan s t:=by
 unfold Ieee.Format.read;simp only [h];rw [if_neg h1,if_neg h2,if_neg h3];exact ⟨_,_,rfl⟩
theorem zdC {f:Ieee.Format}{x:Nat}{s:Bool}{t:Nat}(e:f.read x= .nan s t): ¬x % f.signWeight<f.binade∧ ¬x % f.signWeight<f.infRung∧ ¬x % f.signWeight=f.infRung:=by
 unfold Ieee.Format.read at e;simp only at e
 split at e
 ·cases e
 ·split at e
  ·cases e
  ·split at e
   ·cases e
   ·rename_i h1 h2 h3;exact ⟨h1,h2,h3⟩
theorem zaU:FloatKind.f64.format.signWeight=2 ^ 63:=by decide +kernel
theorem zhy:FloatKind.f64.format.binade=2 ^ 52:=by decide +kernel
theorem UQ:FloatKind.f64.format.infRung=0x7ff0000000000000:=by decide +kernel
theorem JC {x r:Nat}(h:x % 2 ^ 63=r)(h1:0x7ff0000000000000<r):nanBits x:=by
 obtain ⟨s,t,e⟩:=zdF (f:=FloatKind.f64.format) (x:=x) (r:=r) (by rw [zaU];exact h) (by rw [zhy];omega) (by rw [UQ];omega) (by rw [UQ];omega)
 exact zfQ e
theorem zf4 {x:Nat}(h:nanBits x):0x7ff0000000000000<x % 2 ^ 63:=by
 obtain ⟨s,t,e⟩:=Z5 h
 obtain ⟨h1,h2,h3⟩:=zdC e
 rw [zaU,UQ] at h2 h3;omega
theorem zhi (m n t:Nat):nanBits ((Question.nanBits .f64 m n).cut t):=by
 simp only [Question.cut];have h1:t / 2 % (2 ^ 52-1)<2 ^ 52-1:=Nat.mod_lt _ (by decide)
 generalize t / 2 % (2 ^ 52-1)=q at h1
 have h2:t % 2<2:=Nat.mod_lt _ (by decide)
 generalize t % 2=s at h2
 exact JC (r:=0x7ff0000000000000+1+q) (by omega) (by omega)
theorem qP {op:BinOp}{f:Nat→Nat→Option Nat}(hf: ∀k x y (w:World),(Op.floatArith op .f64 x y).run P w=k→k=match f x y with
  | some r=> .ok (.float .f64 r) w
  | none=> .ok (.float .f64 ((Question.nanBits .f64 x y).cut (w.tape w.drawn (.nanBits .f64 x y)))) w.drew)
  (hn: ∀x y,(nanBits x∨nanBits y)→f x y=none) {a b:Fl} {m n:Nat} (ha:FlB a m) (hb:FlB b n) :
  ∃v w',(Op.floatArith op .f64 m n).run P w= .ok v w'∧(w'=w∨w'=w.drew)∧ ∀ok w,RepC fm ok w v (.flt (a.bind fun x=>b.bind fun y=>f x y)):=by
 have e:=hf _ m n w rfl
 have hnone:f m n=none→ ∃v w',(Op.floatArith op .f64 m n).run P w= .ok v w'∧(w'=w∨w'=w.drew)∧ ∀ok w,RepC fm ok w v (.flt none):=by
  intro h;rw [h] at e;exact ⟨_,_,e,.inr rfl,fun _ _=> .flt none _ (zhi _ _ _)⟩
 cases a with
 | none=>exact hnone (hn _ _ (.inl ha))
 | some x=>
  cases b with
  | none=>exact hnone (hn _ _ (.inr hb))
  | some y=>
   obtain rfl:m=x:=ha
   obtain rfl:n=y:=hb
   simp only [Option.bind_some]
   cases hfx:f m n with
   | none=>exact hnone hfx
   | some r=>rw [hfx] at e;exact ⟨_,_,e,.inl rfl,fun _ _=> .flt (some _) _ rfl⟩
theorem zhx {a b:Fl}{m n:Nat}(ha:FlB a m)(hb:FlB b n):FloatKind.f64.format.order m n=Vg a b:=by
 unfold Vg;have key:(nanBits m∨nanBits n)→FloatKind.f64.format.order m n=none:=by
  rintro (h | h)
  ·obtain ⟨s,t,e⟩:=Z5 h
   unfold Ieee.Format.order;rw [e]
   cases FloatKind.f64.format.read n<;>rfl
  ·obtain ⟨s,t,e⟩:=Z5 h
   unfold Ieee.Format.order;rw [e]
   cases FloatKind.f64.format.read m<;>rfl
 cases a with
 | none=>exact key (.inl ha)
 | some x=>
  cases b with
  | none=>exact key (.inr hb)
  | some y=>
   obtain rfl:m=x:=ha
   obtain rfl:n=y:=hb
   rfl
theorem Yz (m n:Nat)(h:nanBits m∨nanBits n):FloatKind.f64.format.add m n=none∧FloatKind.f64.format.sub m n=none∧FloatKind.f64.format.mul m n=none∧FloatKind.f64.format.div m n=none:=by
 unfold Ieee.Format.add Ieee.Format.sub Ieee.Format.mul Ieee.Format.div;rcases h with h | h
 ·obtain ⟨s,t,e⟩:=Z5 h
  rw [e]
  cases FloatKind.f64.format.read n<;>simp [Ieee.Datum.sum,Ieee.Datum.product,Ieee.Datum.quotient,Ieee.Datum.opposite]
 ·obtain ⟨s,t,e⟩:=Z5 h
  rw [e]
  cases FloatKind.f64.format.read m<;>simp [Ieee.Datum.sum,Ieee.Datum.product,Ieee.Datum.quotient,Ieee.Datum.opposite]
theorem zhr {op:BinOp}{a b:Fl}{m n:Nat}{d:D}(ha:FlB a m)(hb:FlB b n)(h:ziK op a b=some d)(t:TypeId) :
  ∃v w',(binOp op t (.float .f64 m) (.float .f64 n)).run P w= .ok v w'∧(w'=w∨w'=w.drew)∧ ∀ok w,RepC fm ok w v d:=by
 have ho:=zhx ha hb
 have hfin: ∀(k:Question),k= .nanBits .f64 m n→k.forced=false:=by rintro k rfl;rfl
 cases op<;>simp only [ziK,Option.some.injEq,reduceCtorEq] at h
 case add=>
  subst h;refine qP (P:=P) (w:=w) (fm:=fm) (op:= .add) (f:=FloatKind.f64.format.add) ?_ (fun x y h=>(Yz x y h).1) ha hb
  rintro k x y w rfl
  simp only [Op.floatArith]
  cases h:FloatKind.f64.format.add x y<;>simp [h,run_choose_drew,Question.forced]
 case sub=>
  subst h;refine qP (P:=P) (w:=w) (fm:=fm) (op:= .sub) (f:=FloatKind.f64.format.sub) ?_ (fun x y h=>(Yz x y h).2.1) ha hb
  rintro k x y w rfl
  simp only [Op.floatArith]
  cases h:FloatKind.f64.format.sub x y<;>simp [h,run_choose_drew,Question.forced]
 case mul=>
  subst h;refine qP (P:=P) (w:=w) (fm:=fm) (op:= .mul) (f:=FloatKind.f64.format.mul) ?_ (fun x y h=>(Yz x y h).2.2.1) ha hb
  rintro k x y w rfl
  simp only [Op.floatArith]
  cases h:FloatKind.f64.format.mul x y<;>simp [h,run_choose_drew,Question.forced]
 case quo=>
  subst h;refine qP (P:=P) (w:=w) (fm:=fm) (op:= .quo) (f:=FloatKind.f64.format.div) ?_ (fun x y h=>(Yz x y h).2.2.2) ha hb
  rintro k x y w rfl
  simp only [Op.floatArith]
  cases h:FloatKind.f64.format.div x y<;>simp [h,run_choose_drew,Question.forced]
 all_goals (subst h;refine ⟨_,w,by simp only [binOp,Op.floatCmp,ho];simp,.inl rfl,fun _ _=> .bool _⟩)
theorem zh6 {a:Fl}{m:Nat}(h:FlB a m):FlB (zk9 a) (m ^^^ 2 ^ 63):=by
 cases a with
 | some b=>obtain rfl:m=b:=h;rfl
 | none=>
  have hm:(m ^^^ 2 ^ 63) % 2 ^ 63=m % 2 ^ 63:=by rw [Nat.xor_mod_two_pow];simp
  exact JC hm (zf4 h)
theorem zjv (hI:Inv fm B w G H)(hts:TsR (Rep fm G (okB B G H w) w) a.tmps ts){op:BinOp}{t u:TypeId}{x y:Operand}{px py:PX}(ho:o.op= .binOp op t x y u)(hx:TrX fm x px)(hy:TrX fm y py)
  (hrun:(opE call (PX.ev ts) r (.bin op px py)).run H=some out):yo P o a w (yp fm B w G H out):=by
 have hvx:=zr hts hx
 have hvy:=zr hts hy
 obtain ⟨d,hd,rfl⟩:=zL (by exact hrun)
 have key: ∃v w',(eqGuard op t x y (a.eval x) (a.eval y)).run P w= .ok () w∧(binOp op t (a.eval x) (a.eval y)).run P w= .ok v w'∧(w'=w∨w'=w.drew)∧ ∀ok w,RepC fm ok w v d:=by
  unfold Xl at hd;split at hd
  ·rename_i k m k' n e1 e2;rw [e1] at hvx;rw [e2] at hvy;rw [hvx.inv_int,hvy.inv_int];split at hd
   ·obtain ⟨v,h1,h2⟩:=Vx (P:=P) (w:=w) (fm:=fm) (k':=k') hd t
    exact ⟨v,w,yi _ _ _ _ rfl,h1,.inl rfl,h2⟩
   ·obtain ⟨v,h1,h2⟩:=Vx (P:=P) (w:=w) (fm:=fm) (k':=k') hd t
    exact ⟨v,w,yi _ _ _ _ rfl,h1,.inl rfl,h2⟩
   ·rename_i hs1 hs2;split at hd
    ·rename_i hk;subst hk;obtain ⟨v,h1,h2⟩:=zhK (P:=P) (w:=w) (fm:=fm) hd t ⟨fun e=>hs1 e,fun e=>hs2 e⟩
     exact ⟨v,w,yi _ _ _ _ rfl,h1,.inl rfl,h2⟩
    ·cases hd
  ·rename_i m n e1 e2;rw [e1] at hvx;rw [e2] at hvy;rw [hvx.inv_str,hvy.inv_str];obtain ⟨v,h1,h2⟩:=zhI (P:=P) (w:=w) (fm:=fm) hd t
   exact ⟨v,w,yi _ _ _ _ rfl,h1,.inl rfl,h2⟩
  ·rename_i b1 b2 f1 f2;rw [f1] at hvx;rw [f2] at hvy;obtain ⟨m,e1,g1⟩:=hvx.inv_flt
   obtain ⟨n,e2,g2⟩:=hvy.inv_flt
   rw [e1,e2];obtain ⟨v,w',h1,h2,h3⟩:=zhr (P:=P) (w:=w) (fm:=fm) g1 g2 hd t
   exact ⟨v,w',yi _ _ _ _ rfl,h1,h2,h3⟩
  ·cases hd
 obtain ⟨v,w',k1,k2,k3,k4⟩:=key
 have hrun:(execOp a.eval o).run P w= .ok (.value v) w':=by simp only [execOp,ho,Sem.run_bind,k1,k2,Result.andThen_ok,Sem.run_pure]
 rcases k3 with rfl | rfl
 ·exact zm hrun (zj hI (.closed (k4 _ _)))
 ·obtain ⟨g1,g2⟩:=zaL hI
  exact zm hrun ⟨G,g1,g2,.closed (k4 _ _)⟩
theorem zjs (hI:Inv fm B w G H)(hts:TsR (Rep fm G (okB B G H w) w) a.tmps ts){neg:Bool}{t u:TypeId}{x y:Operand}{px py:PX}(ho:o.op= .binOp (if neg then .neq else .eql) t x y u)
  (ht:P.underlying t=some .bool) (hx:TrX fm x px) (hy:TrX fm y py) (hrun:(opE call (PX.ev ts) r (.eqB neg px py)).run H=some out):yo P o a w (yp fm B w G H out):=by
 have hvx:=zr hts hx
 have hvy:=zr hts hy
 simp only [opE] at hrun;split at hrun
 ·rename_i m n e1 e2;obtain rfl:=zB hrun
  rw [e1] at hvx;rw [e2] at hvy;have vx:=hvx.inv_bool
  have vy:=hvy.inv_bool
  refine zm (v:= .bool (if neg then !(m==n) else m==n)) (w':=w) ?_ (zj hI (.closed (.bool _)))
  have hg:=yi (P:=P) (w:=w) (if neg then .neq else .eql) t x y (u:= .bool m) (v:= .bool n) rfl
  have he:=run_equal_bool (P:=P) w t m n ht
  cases neg<;>simp only [Bool.false_eq_true,if_true,if_false] at ho hg ⊢ <;>
   simp only [execOp,ho,Sem.run_bind,vx,vy,hg,Result.andThen_ok,binOp,he,Sem.run_pure]
 ·simp [Eff.run] at hrun
theorem zc2 {neg t':Bool}{t u:TypeId}{x:Operand}{y:Value}(hI:Inv fm B w G H)(ho:o.op= .binOp (if neg then .neq else .eql) t x (.const y) u)
  (hk:(∃A l c,a.eval x= .slice A l c)∨(∃A,a.eval x= .pointer A)) (h1:(Op.equal t (a.eval x) y).run P w= .ok t' w) (hy:(∃A l c,y= .slice A l c)∨(∃A,y= .pointer A)) :
  yo P o a w (yp fm B w G H ⟨.bool (if neg then !t' else t'),[],[]⟩):=by
 have hp:zbF (a.eval x) y=true:=by rcases hk with ⟨A,l,c,h⟩ | ⟨A,h⟩<;>(rw [h];rfl)
 have k2:=yi (P:=P) (w:=w) (if neg then .neq else .eql) t x (.const y) hp
 have k3:(binOp (if neg then .neq else .eql) t (a.eval x) y).run P w= .ok (.bool (if neg then !t' else t')) w:=by
  rcases hk with ⟨A,l,c,h⟩ | ⟨A,h⟩<;>rw [h] at h1 ⊢ <;> rcases hy with ⟨_,_,_,rfl⟩ | ⟨_,rfl⟩<;>cases neg<;>simp [binOp,h1]
 refine zm (v:= .bool (if neg then !t' else t')) (w':=w) ?_ (zj hI (.closed (.bool _)))
 simp only [execOp,ho,Sem.run_bind,show a.eval (.const y)=y from rfl,k2,k3,Result.andThen_ok,Sem.run_pure]
theorem zhc (hI:Inv fm B w G H)(hts:TsR (Rep fm G (okB B G H w) w) a.tmps ts){neg:Bool}{t u e:TypeId}{x:Operand}{px:PX}
  (ho:o.op= .binOp (if neg then .neq else .eql) t x (.const (.slice none 0 0)) u) (ht:P.underlying t=some (.slice e)) (hx:TrX fm x px)
  (hrun:(opE call (PX.ev ts) r (.eqNS neg px)).run H=some out):yo P o a w (yp fm B w G H out):=by
 have hvx:=zr hts hx
 obtain ⟨d,hd,rfl⟩:=zL (by exact hrun)
 simp only [Option.map_eq_some_iff] at hd;obtain ⟨t',hn,rfl⟩:=hd
 have hs: ∀A l c,a.eval x= .slice A l c→(Op.equal t (a.eval x) (.slice none 0 0)).run P w= .ok A.isNone w:=by
  intro A l c he;rw [he];exact run_equal_slice_nil w t e A l c ht
 have key: ∃A l c,a.eval x= .slice A l c∧A.isNone=t':=by
  cases hdd:px.ev ts<;>rw [hdd] at hvx hn<;>simp only [zfb,Option.some.injEq,reduceCtorEq] at hn
  case nil=>
   subst hn;exact ⟨_,_,_,hvx.inv_nil,rfl⟩
  case ref id off len=>
   subst hn;obtain ⟨b,cap,sz,hg⟩:=GS.ne_fresh hvx.ref_fresh
   obtain ⟨_,A,hv,_⟩:=hvx.inv_ref hg
   exact ⟨_,_,_,hv,rfl⟩
  case lst sz es=>
   subst hn;have hc:=hvx.inv_lst
   cases hr:a.eval x with
   | slice A l c=>
    rw [hr] at hc
    cases hc with
    | lst0=>exact ⟨_,_,_,rfl,rfl⟩
    | lst1=>exact ⟨_,_,_,rfl,rfl⟩
   | _=>rw [hr] at hc;cases hc
 obtain ⟨A,l,c,h1,rfl⟩:=key
 exact zc2 hI ho (.inl ⟨A,l,c,h1⟩) (hs A l c h1) (.inl ⟨_,_,_,rfl⟩)
theorem zhd (hI:Inv fm B w G H)(hts:TsR (Rep fm G (okB B G H w) w) a.tmps ts){neg:Bool}{t u e:TypeId}{x:Operand}{px:PX}
  (ho:o.op= .binOp (if neg then .neq else .eql) t x (.const (.pointer none)) u) (ht:P.underlying t=some (.pointer e)) (hx:TrX fm x px)
  (hrun:(opE call (PX.ev ts) r (.eqNP neg px)).run H=some out):yo P o a w (yp fm B w G H out):=by
 have hvx:=zr hts hx
 obtain ⟨d,hd,rfl⟩:=zL (by exact hrun)
 simp only [Option.map_eq_some_iff] at hd;obtain ⟨t',hn,rfl⟩:=hd
 have hs: ∀A,a.eval x= .pointer A→(Op.equal t (a.eval x) (.pointer none)).run P w= .ok A.isNone w:=by
  intro A he;rw [he];exact run_equal_pointer_nil w t A (by rw [ht];simp [Program.pointee,ht])
 have key: ∃A,a.eval x= .pointer A∧A.isNone=t':=by
  cases hdd:px.ev ts<;>rw [hdd] at hvx hn<;>simp only [zfc,Option.some.injEq,reduceCtorEq] at hn
  case nilp=>
   subst hn;exact ⟨_,hvx.inv_nilp,rfl⟩
  case fptr=>
   subst hn;obtain ⟨b,off,vs,hvv,_,_,_⟩:=jB hvx.inv_fptr
   exact ⟨_,hvv,rfl⟩
  case ptr id off=>
   subst hn;obtain ⟨b,cap,sz,hg⟩:=GS.ne_fresh hvx.ptr_fresh
   exact ⟨_,hvx.inv_ptr hg,rfl⟩
 obtain ⟨A,h1,rfl⟩:=key
 exact zc2 hI ho (.inr ⟨A,h1⟩) (hs A h1) (.inr ⟨_,rfl⟩)
theorem zlJ (hI:Inv fm B w G H)(hts:TsR (Rep fm G (okB B G H w) w) a.tmps ts){op:UnOp}{t:TypeId}{x:Operand}{px:PX}(ho:o.op= .unOp op t x)(hx:TrX fm x px)
  (hrun:(opE call (PX.ev ts) r (.un op px)).run H=some out):yo P o a w (yp fm B w G H out):=by
 have hvx:=zr hts hx
 obtain ⟨d,hd,rfl⟩:=zL (by exact hrun)
 have key: ∃v,(Op.unary op (a.eval x)).run P w= .ok v w∧ ∀ok w,RepC fm ok w v d:=by
  unfold unD at hd;split at hd
  ·rename_i k n e1;injection hd with hd;subst hd;rw [e1] at hvx;rw [hvx.inv_int];exact ⟨_,by simp [Op.unary,Op.intArith],fun _ _=> .int _ _⟩
  ·rename_i k n e1;rw [e1] at hvx;rw [hvx.inv_int];simp only [zbq,Option.some.injEq] at hd;subst hd;exact ⟨_,rfl,fun _ _=> .int _ _⟩
  ·rename_i b e1;injection hd with hd;subst hd;rw [e1] at hvx;rw [hvx.inv_bool];exact ⟨_,by simp [Op.unary],fun _ _=> .bool _⟩
  ·rename_i b e1;injection hd with hd;subst hd;rw [e1] at hvx;obtain ⟨m,e2,g⟩:=hvx.inv_flt
   rw [e2];exact ⟨.float .f64 (m ^^^ 2 ^ 63),rfl,fun ok w=> .flt _ _ (zh6 g)⟩
  ·cases hd
 obtain ⟨v,k1,k2⟩:=key
 refine zm (v:=v) (w':=w) ?_ (zj hI (.closed (k2 _ _)))
 simp only [execOp,ho,Sem.run_bind,k1,Result.andThen_ok,Sem.run_pure]
end
section
variable {P:Program} {fm:Nat→Nat} {B:qo} {w:World} {G:Gh} {H:zf} {o:Oper} {a:Act} {ts:List D} {call:zy} {r:Nat} {out:Out}
theorem Zb {ok:Nat→Prop}{sz:Nat}{es:List (List D)}{v:Value}(h:RepC fm ok w v (.lst sz es)) :
  (es= []∧ ∃(A:Addr) (c:Nat),v= .slice (some A) 0 c)∨(∃b o c,v= .slice (some ⟨b,o,none⟩) es.length c∧es.length≤c∧ok b∧(∀e∈es,e.length=sz) ∧
   ∀(i:Nat) (e:List D),es[i]? = some e→ ∃cs,CR (RepC fm ok w) cs e∧w.rangeAt b (o+i*sz) cs):=by
 cases h with
 | lst0 _ A c=>exact .inl ⟨rfl,A,c,rfl⟩
 | lst1 _ _ b o c u hc hok hlen hcell hone hrep=>
  refine .inr ⟨b,o,c,rfl,hc,hok,hlen,fun i e he=>⟨(List.range e.length).map (u i),⟨by simp,fun j d hj=> ?_⟩,fun j v hv=> ?_⟩⟩
  ·have hl:j<e.length:=(List.getElem?_eq_some_iff.1 hj).1
   exact ⟨u i j,by simp [hl],hone i j e d he hj,hrep i j e d he hj⟩
  ·have hl:j<e.length:=by
    have:=(List.getElem?_eq_some_iff.1 hv).1
    simpa using this
   simp [hl] at hv
   subst hv;have:=hcell i j e _ he (List.getElem?_eq_getElem hl)
   rwa [show o+(i*sz+j)=o+i*sz+j by omega] at this
theorem zcW {ok:Nat→Prop}{sz:Nat}{es:List (List D)}{v:Value}(h:RepC fm ok w v (.lst sz es)) :
  (es= []∧ ∃(A:Addr) (c:Nat),v= .slice (some A) 0 c)∨(∃(b o c:Nat) (u:Nat→Nat→Value),v= .slice (some ⟨b,o,none⟩) es.length c∧es.length≤c∧ok b∧(∀e∈es,e.length=sz) ∧
   (∀(i j:Nat) (e:List D) (d:D),es[i]? = some e→e[j]? = some d→w.cell? ⟨b,o+(i*sz+j),none⟩=some (u i j)) ∧
   (∀(i j:Nat) (e:List D) (d:D),es[i]? = some e→e[j]? = some d→(u i j).oneCell'=true) ∧
   (∀(i j:Nat) (e:List D) (d:D),es[i]? = some e→e[j]? = some d→RepC fm ok w (u i j) d)):=by
 cases h with
 | lst0 _ A c=>exact .inl ⟨rfl,A,c,rfl⟩
 | lst1 _ _ b o c u hc hok hlen hcell hone hrep=>exact .inr ⟨b,o,c,u,rfl,hc,hok,hlen,hcell,hone,hrep⟩
theorem zf6 {ok:Nat→Prop}{sz:Nat}{es:List (List D)}{b o c:Nat}(h:RepC fm ok w (.slice (some ⟨b,o,none⟩) es.length c) (.lst sz es))(l n:Nat)(hn:l+n≤es.length)(c':Nat)(hc':n≤c') :
  RepC fm ok w (.slice (some ⟨b,o+l*sz,none⟩) n c') (.lst sz ((es.drop l).take n)):=by
 have hlen:((es.drop l).take n).length=n:=by simp;omega
 by_cases h0:n=0
 ·subst h0;simp only [List.take_zero];exact .lst0 _ _ _
 ·have hval:Value.slice (some ⟨b,o+l*sz,none⟩) n c'=Value.slice (some ⟨b,o+l*sz,none⟩) ((es.drop l).take n).length c':=by rw [hlen]
  rw [hval];rcases zcW h with ⟨rfl,_⟩ | ⟨b',o',c2,u,hv,hc,hok,hl,hcell,hone,hrep⟩
  ·simp at hn;omega
  ·injection hv with hv1 hv2 hv3;injection hv1 with hv1;injection hv1 with hb ho _;subst hb;subst ho;have hget: ∀(i:Nat) (e:List D),((es.drop l).take n)[i]? = some e→es[l+i]? = some e:=by
    intro i e he;rw [List.getElem?_take] at he;split at he
    ·rwa [List.getElem?_drop] at he
    ·cases he
   refine .lst1 sz _ b (o+l*sz) c' (fun i j=>u (l+i) j) (by omega) hok (fun e he=>hl e (List.mem_of_mem_drop (List.mem_of_mem_take he))) (fun i j e d he hd=> ?_)
    (fun i j e d he hd=>hone _ _ e d (hget i e he) hd) (fun i j e d he hd=>hrep _ _ e d (hget i e he) hd)
   have:=hcell _ j e d (hget i e he) hd
   rwa [show o+((l+i)*sz+j)=o+l*sz+(i*sz+j) by rw [Nat.add_mul];omega] at this
theorem zb0 (hI:Inv fm B w G H)(hts:TsR (Rep fm G (okB B G H w) w) a.tmps ts){s d:TypeId}{k:IntKind}{x:Operand}{px:PX}(ho:o.op= .convert s d x)
  (hs:(P.underlying s).isSome=true) (hd:P.underlying d=some (.int k)) (hx:TrX fm x px) (hrun:(opE call (PX.ev ts) r (.conv (.toInt k) px)).run H=some out):yo P o a w (yp fm B w G H out):=by
 have hv:=zr hts hx
 simp only [opE] at hrun;split at hrun
 ·rename_i k' n e1;obtain rfl:=zB hrun
  rw [e1] at hv;have vx:=hv.inv_int
  obtain ⟨sd,hsd⟩:=Option.isSome_iff_exists.1 hs
  refine zm (v:= .int k (k.wrap n)) (w':=w) ?_ (zj hI (.closed (.int _ _)))
  simp [execOp,ho,vx,convert,run_underlying hsd,run_underlying hd,Conv.intToInt]
 ·simp [Eff.run] at hrun
theorem ZA: ∀ {es:List (List D)} {l:List UInt8},bytesOf es=some l →
  ∃ns:List Int,ns.length=es.length∧l=ns.map (fun n=>UInt8.ofNat n.toNat)∧ ∀(i:Nat) (n:Int),ns[i]? = some n→es[i]? = some [D.int .u8 n]
 | [],l,h=>by
  simp [bytesOf] at h
  exact ⟨[],rfl,by simp [←h],by simp⟩
 | e::es,l,h=>by
  match e,h with
  | [.int .u8 n],h=>
   simp only [bytesOf,Option.map_eq_some_iff] at h;obtain ⟨l',hl',rfl⟩:=h
   obtain ⟨ns,h1,h2,h3⟩:=ZA hl'
   refine ⟨n::ns,by simp [h1],by simp [h2],fun i m hm=> ?_⟩
   cases i with
   | zero=>simp at hm ⊢;exact hm
   | succ i=>simpa using h3 i m (by simpa using hm)
theorem Vc {s d e:TypeId}(hs:P.underlying s=some (.slice e))(he:P.underlying e=some (.int .u8))(hd:P.underlying d=some .string){b o c:Nat}{ns:List Int}
  (hc: ∀i n,ns[i]? = some n→w.cell? ⟨b,o+i,none⟩=some (.int .u8 n)) :
  (convert s d (.slice (some ⟨b,o,none⟩) ns.length c)).run P w= .ok (.string ⟨(ns.map fun n=>UInt8.ofNat n.toNat).toArray⟩) w:=by
 have hl:=run_loadCells_list (P:=P) w ⟨b,o,none⟩ (ns.map (Value.int .u8)) (fun j v hj=>by
  rw [List.getElem?_map,Option.map_eq_some_iff] at hj;obtain ⟨n,hn,rfl⟩:=hj
  rw [qw];exact hc j n hn)
 rw [List.length_map] at hl;rw [run_convert_bytes_string w s d e _ ns.length c hs he hd,run_bytesToString w _ ns.length c ns hl,foldl_push_bytes];simp [ByteArray.empty,ByteArray.emptyWithCapacity]
 rfl
theorem zdP (hI:Inv fm B w G H)(hts:TsR (Rep fm G (okB B G H w) w) a.tmps ts){s d e:TypeId}{x:Operand}{px:PX}(ho:o.op= .convert s d x)
  (hs:P.underlying s=some (.slice e)) (he:P.underlying e=some (.int .u8)) (hd:P.underlying d=some .string) (hx:TrX fm x px)
  (hrun:(opE call (PX.ev ts) r (.conv .bytesStr px)).run H=some out):yo P o a w (yp fm B w G H out):=by
 have hv:=zr hts hx
 have fin: ∀l:List UInt8,(convert s d (a.eval x)).run P w= .ok (.string ⟨l.toArray⟩) w→yo P o a w (yp fm B w G H ⟨.str l,[],[]⟩):=fun l hl=>by
  refine zm (v:= .string ⟨l.toArray⟩) (w':=w) ?_ (zj hI (.closed (.str l)))
  simp only [execOp,ho,Sem.run_bind,hl,Result.andThen_ok,Sem.run_pure]
 have nilc: ∀A c,(convert s d (.slice A 0 c)).run P w= .ok (.string ⟨([]:List UInt8).toArray⟩) w:=by
  intro A c
  cases A with
  | none=>exact run_convert_bytes_nil w s e hs he 0 c d hd
  | some A=>
   have hl:=run_loadCells_list (P:=P) w A [] (by simp)
   rw [run_convert_bytes_string w s d e _ 0 c hs he hd,run_bytesToString w _ 0 c [] (by simpa using hl)]
   rfl
 simp only [opE] at hrun;split at hrun
 ·rename_i e1;obtain rfl:=zB hrun
  rw [e1] at hv;refine fin [] ?_
  rw [hv.inv_nil];exact nilc _ _
 ·rename_i sz es e1;split at hrun
  ·rename_i h1;subst h1;obtain ⟨d',hd',rfl⟩:=zL hrun
   simp only [Option.map_eq_some_iff] at hd';obtain ⟨l,hl,rfl⟩:=hd'
   rw [e1] at hv;have hc:=hv.inv_lst
   obtain ⟨ns,n1,rfl,n3⟩:=ZA hl
   refine fin _ ?_
   rcases Zb hc with ⟨rfl,A,c,hvv⟩ | ⟨b,o',c,hvv,_,_,hlen,hcells⟩
   ·obtain rfl:ns= []:=List.eq_nil_of_length_eq_zero n1
    rw [hvv];exact nilc _ _
   ·rw [hvv,←n1];refine Vc hs he hd (fun i n hn=> ?_)
    obtain ⟨cs,k1,k2⟩:=hcells i _ (n3 i n hn)
    obtain ⟨u,u1,u2,u3⟩:=k1.2 0 _ rfl
    have:=k2 0 u u1
    cases u3;simpa using this
  ·simp [Eff.run] at hrun
 ·rename_i id off len e1;obtain ⟨sz,es,lv,h1,h2⟩:=yy hrun
  split at h2
  ·rename_i hh;obtain ⟨rfl,hle⟩:=hh
   obtain ⟨d',hd',rfl⟩:=zL h2
   simp only [Option.map_eq_some_iff] at hd';obtain ⟨l,hl,rfl⟩:=hd'
   rw [e1] at hv;obtain ⟨b,cap,g1,g2,g3⟩:=hI.rows id 1 es lv h1
   obtain ⟨r1,A,hvv,r2⟩:=hv.inv_ref g1
   obtain ⟨ns,n1,rfl,n3⟩:=ZA hl
   have hlen:ns.length=len:=by rw [n1];simp;omega
   refine fin _ ?_
   rw [hvv];by_cases h0:len=0
   ·subst h0;obtain rfl:ns= []:=List.eq_nil_of_length_eq_zero hlen
    exact nilc _ _
   ·rcases r2 with rfl | r2
    ·rw [←hlen];obtain ⟨cs,c1,c2,c3,c4⟩:=g3.ranges hle
     refine Vc hs he hd (fun i n hn=> ?_)
     obtain ⟨u,u1,u2,u3⟩:=c4 i 0 _ _ (n3 i n hn) rfl
     have:=c2 _ u u1
     rw [u3.inv_int] at this;simpa using this
    ·have:=g3.len;omega
  ·simp [Eff.run] at h2
 ·simp [Eff.run] at hrun
theorem zdO (hI:Inv fm B w G H)(hts:TsR (Rep fm G (okB B G H w) w) a.tmps ts){s d e:TypeId}{x:Operand}{px:PX}(ho:o.op= .convert s d x)
  (hs:P.underlying s=some .string) (hd:P.underlying d=some (.slice e)) (he:P.underlying e=some (.int .u8)) (hx:TrX fm x px)
  (hrun:(opE call (PX.ev ts) r (.conv .strBytes px)).run H=some out):yo P o a w (yp fm B w G H out):=by
 have hv:=zr hts hx
 simp only [opE] at hrun;split at hrun
 ·rename_i l e1;split at hrun
  ·rename_i hroom;obtain rfl:=zB hrun
   rw [e1] at hv;have vx:=hv.inv_str
   have hsz:(⟨l.toArray⟩:ByteArray).size=l.length:=rfl
   have hr:=run_bytes_of_string (P:=P) w s d e ⟨l.toArray⟩ hs hd he
   rw [hsz] at hr;generalize hcap:grownCap w l.length 0 e=cap at hr
   have hge:l.length≤cap:=hcap▸grownCap_ge w l.length 0 e
   generalize hC:bytesRow ⟨l.toArray⟩ cap=C at hr
   have hcell: ∀(i:Nat) (b:UInt8),l[i]? = some b→C[i]? = some (.int .u8 (b.toNat:Int)):=by
    intro i b hi;have hil:i<l.length:=(List.getElem?_eq_some_iff.1 hi).1
    rw [←hC];unfold bytesRow;rw [Array.getElem?_append];rw [List.getElem?_eq_getElem hil] at hi;injection hi with hi;simp [hil,hi]
   have hblk:(w.drew.alloc (.cells C e (C.size,C.size+1))).heap[w.heap.size]? = some (.cells C e (C.size,C.size+1)):=heap_alloc_new w.drew _
   have hold: ∀b,b<w.heap.size→(w.drew.alloc (.cells C e (C.size,C.size+1))).heap[b]? = w.heap[b]? := fun b hb=>heap_alloc_old w.drew _ b hb
   have hsize:(w.drew.alloc (.cells C e (C.size,C.size+1))).heap.size=w.heap.size+1:=by simp
   have ha:Adv B w G H (w.drew.alloc (.cells C e (C.size,C.size+1))) G H:=YV (j2 _) (by omega) (fun b hb _=>hold b hb) (fun b h=> .inl h)
   have hI':Inv fm B (w.drew.alloc (.cells C e (C.size,C.size+1))) G H:=by
    refine ZU hI (by omega) rfl rfl rfl (fun b hb _=>hold b hb) (fun id sz es lv h=> ?_) hI.fresh hI.dead hI.inj
    obtain ⟨b',cap',a1,a2,a3⟩:=hI.rows id sz es lv h
    exact ⟨b',cap',a1,a2,a3.mono (fun v d hv=>ha.rep hv) (hold b' a3.lt)⟩
   refine zm (v:= .slice (some ⟨w.heap.size,0,none⟩) l.length cap) (w':=w.drew.alloc (.cells C e (C.size,C.size+1))) ?_ ⟨G,ha,hI',.closed ?_⟩
   ·simp only [execOp,ho,vx,Sem.run_bind,hr,Result.andThen_ok,Sem.run_pure]
   ·have hnl: ¬Lv G H w.heap.size:=by
     rintro ⟨id,sz,es,cap',sz',h1,h2⟩
     have:=hI.blk_lt ⟨_,_,_,h1⟩ h2
     omega
    have hlen:(ofBytes l).length=l.length:=by simp [ofBytes]
    rw [show Value.slice (some ⟨w.heap.size,0,none⟩) l.length cap=Value.slice (some ⟨w.heap.size,0,none⟩) (ofBytes l).length cap by rw [hlen]]
    have hget: ∀(i j:Nat) (e':List D) (d':D),(ofBytes l)[i]? = some e'→e'[j]? = some d'→ ∃b,l[i]? = some b∧j=0∧d'= .int .u8 (b.toNat:Int):=by
     intro i j e' d' h1 h2;simp only [ofBytes,List.getElem?_map,Option.map_eq_some_iff] at h1;obtain ⟨b,hb,rfl⟩:=h1
     cases j with
     | zero=>simp at h2;exact ⟨b,hb,rfl,h2.symm⟩
     | succ j=>simp at h2
    refine .lst1 1 _ w.heap.size 0 cap (fun i _=> .int .u8 ((l.getD i 0).toNat:Int)) (by omega) ⟨.inr (.inr hI.size),hnl,by omega⟩ (fun e' he'=> ?_) (fun i j e' d' h1 h2=> ?_) (fun i j e' d' h1 h2=>rfl) (fun i j e' d' h1 h2=> ?_)
    ·simp only [ofBytes,List.mem_map] at he';obtain ⟨b,_,rfl⟩:=he'
     rfl
    ·obtain ⟨b,hb,rfl,rfl⟩:=hget i j e' d' h1 h2
     rw [cell_of_row _ w.heap.size _ C e _ hblk];simp only [Nat.zero_add,Nat.mul_one,Nat.add_zero];rw [hcell i b hb];simp [List.getD_eq_getElem?_getD,hb]
    ·obtain ⟨b,hb,rfl,rfl⟩:=hget i j e' d' h1 h2
     simp only [List.getD_eq_getElem?_getD,hb,Option.getD_some];exact .int _ _
  ·simp [Eff.run] at hrun
 ·simp [Eff.run] at hrun
end
section
variable {P:Program} {fm:Nat→Nat} {B:qo} {w:World} {G:Gh} {H:zf} {o:Oper} {a:Act} {ts:List D} {call:zy} {r:Nat} {out:Out}
theorem ZB {b o:Nat}{cs:List Value}(h:w.rangeAt b o cs)(j:Nat):w.rangeAt b (o+j) (cs.drop j):=by
 intro k v hv;rw [List.getElem?_drop] at hv;have:=h (j+k) v hv
 rwa [show o+(j+k)=o+j+k by omega] at this
theorem zfz {rep:Value→D→Prop}(hint: ∀ {v:Value} {k:IntKind} {n:Int},rep v (D.int k n)→v=Value.int k n){len cap:Nat}(hc:len≤cap){lo hi:Option Operand}{plo phi:Option PX}
  (hlo:TrO fm lo plo) (hhi:TrO fm hi phi) (hev: ∀ {x:Operand} {px:PX},TrX fm x px→rep (a.eval x) (px.ev ts)) {p:Nat×Nat} (h:cut len (plo.map (PX.ev ts)) (phi.map (PX.ev ts))=some p) (isSlice:Bool) :
  p.1≤p.2∧p.2≤len∧ ∃m,m=(if isSlice then cap else cap)∧(Instr.sliceBounds isSlice len cap (lo.map a.eval) (hi.map a.eval) none).run P w= .ok (p.1,p.2,cap) w:=by
 unfold cut at h;have key: ∃hh:Nat,hh≤len∧(match hi.map a.eval with
   | some v=>Instr.sliceBound v cap (if isSlice then .sliceAcap else .sliceAlen)
   | none=>pure len:Sem Nat).run P w= .ok hh w∧(match plo.map (PX.ev ts) with
    | none=>some (0,hh)
    | some (.int _ n)=>if 0≤n∧n≤hh then some (n.toNat,hh) else none
    | _=>none)=some p:=by
  cases hhi with
  | none=>
   simp only [Option.map_none,Option.bind_some] at h;exact ⟨len,Nat.le_refl _,rfl,h⟩
  | some hx=>
   rename_i x px;have hv:=hev hx
   simp only [Option.map_some] at h ⊢
   cases e:px.ev ts<;>rw [e] at h hv<;>simp only [Option.bind_none,reduceCtorEq] at h
   rename_i k n;split at h
   ·rename_i hn;simp only [Option.bind_some] at h;rw [hint hv];exact ⟨n.toNat,by omega,run_sliceBound w k n cap _ hn.1 (by omega),h⟩
   ·cases h
 obtain ⟨hh,h1,h2,h3⟩:=key
 have key2:p.2=hh∧p.1≤hh∧(match lo.map a.eval with
   | some v=>Instr.sliceBound v hh (if (none:Option Value).isSome then .slice3C else .sliceB)
   | none=>pure 0:Sem Nat).run P w= .ok p.1 w:=by
  cases hlo with
  | none=>
   simp only [Option.map_none,Option.some.injEq] at h3 ⊢
   subst h3;exact ⟨rfl,Nat.zero_le _,rfl⟩
  | some hx=>
   rename_i x px;have hv:=hev hx
   simp only [Option.map_some] at h3 ⊢
   cases e:px.ev ts<;>rw [e] at h3 hv<;>simp only [reduceCtorEq] at h3
   rename_i k n;split at h3
   ·rename_i hn;injection h3 with h3;subst h3;rw [hint hv];exact ⟨rfl,by show n.toNat≤hh;omega,run_sliceBound w k n hh _ hn.1 (by omega)⟩
   ·cases h3
 obtain ⟨g1,g2,g3⟩:=key2
 refine ⟨by omega,by omega,cap,by simp,?_⟩
 cases hhm:Option.map a.eval hi<;>cases hlm:Option.map a.eval lo<;>rw [hhm] at h2<;>rw [hlm] at g3 <;>
  simp only [Sem.run_pure,Result.ok.injEq,and_true] at h2 g3 <;>
  simp only [Instr.sliceBounds,Sem.run_bind,Sem.run_pure,Result.andThen_ok,h2,g3,g1]
theorem zfV (hI:Inv fm B w G H)(hts:TsR (Rep fm G (okB B G H w) w) a.tmps ts){t e:TypeId}{i:TypeInfo}{sz:Nat}{x:Operand}{px:PX}{lo hi:Option Operand}{plo phi:Option PX}
  (ho:o.op= .slice t x lo hi none) (hu:P.underlying t=some (.slice e)) (hie:P.info? e=some i) (hsz:i.size=sz) (hx:TrX fm x px) (hlo:TrO fm lo plo) (hhi:TrO fm hi phi)
  (hrun:(opE call (PX.ev ts) r (.slice sz px plo phi)).run H=some out):yo P o a w (yp fm B w G H out):=by
 have hv:=zr hts hx
 have main: ∀(A:Option Addr) (len cap:Nat) (p:Nat×Nat) (d:D),a.eval x= .slice A len cap→len≤cap→cut len (plo.map (PX.ev ts)) (phi.map (PX.ev ts))=some p →
   (p.1≤p.2→p.2≤len→Rep fm G (okB B G H w) w (sliced A p.1 p.2 cap sz) d)→yo P o a w (yp fm B w G H ⟨d,[],[]⟩):=by
  intro A len cap p d he hc hcut hrep;obtain ⟨h1,h2,m,_,h3⟩:=zfz (P:=P) (w:=w) (a:=a) (ts:=ts) (rep:=Rep fm G (okB B G H w) w) (fun h=>h.inv_int) hc hlo hhi (fun h=>zr hts h) hcut true
  have hel:P.elem t=e:=by simp [Program.elem,hu]
  have hu':P.underlying t=some (.slice (P.elem t)):=by rw [hel];exact hu
  refine zm (v:=sliced A p.1 p.2 cap sz) (w':=w) ?_ (zj hI (hrep h1 h2))
  simp only [execOp,ho,he,Option.map_none,Sem.run_bind,run_sliceAt_slice w t _ _ _ _ hu',run_slice_any w t A len cap hu',h3,Result.andThen_ok,hel];simp [sizeOf,typeInfo,hie,hsz]
 simp only [opE] at hrun;split at hrun
 ·rename_i e1;obtain ⟨d,hd,rfl⟩:=zL hrun
  simp only [Option.map_eq_some_iff] at hd;obtain ⟨p,hp,rfl⟩:=hd
  rw [e1] at hv;refine main none 0 0 p _ hv.inv_nil (Nat.le_refl _) hp (fun h1 h2=> .closed ?_)
  have hp1:p.1=0:=by omega
  have hp2:p.2=0:=by omega
  rw [hp1,hp2];exact .nil
 ·rename_i s es e1;split at hrun
  ·rename_i hs;subst hs;obtain ⟨d,hd,rfl⟩:=zL hrun
   simp only [Option.map_eq_some_iff] at hd;obtain ⟨p,hp,rfl⟩:=hd
   rw [e1] at hv;have hc:=hv.inv_lst
   rcases Zb hc with ⟨rfl,A,c,hvv⟩ | ⟨b,o',c,hvv,hlc,_,_,_⟩
   ·refine main A 0 c p _ hvv (Nat.zero_le _) (by simpa using hp) (fun h1 h2=> .closed ?_)
    have hp1:p.1=0:=by omega
    have hp2:p.2=0:=by omega
    rw [hp1,hp2];simp only [List.drop_nil,List.take_nil];unfold sliced;by_cases hm:c=0
    ·rw [if_pos hm];exact .lst0 _ _ _
    ·rw [if_neg hm];exact .lst0 _ _ _
   ·refine main (some ⟨b,o',none⟩) es.length c p _ hvv hlc hp (fun h1 h2=> .closed ?_)
    rw [hvv] at hc;unfold sliced;by_cases hm:c=p.1
    ·have:p.2-p.1=0:=by omega
     rw [if_pos hm,this];simp only [List.take_zero];exact .lst0 _ _ _
    ·rw [if_neg hm];simp only [Option.map_some,qw];exact zf6 hc p.1 (p.2-p.1) (by omega) (c-p.1) (by omega)
  ·simp [Eff.run] at hrun
 ·rename_i id off len e1;obtain ⟨s,es,lv,g1,g2⟩:=yy hrun
  split at g2
  ·rename_i hs;subst hs;obtain ⟨d,hd,rfl⟩:=zL g2
   simp only [Option.map_eq_some_iff] at hd;obtain ⟨p,hp,rfl⟩:=hd
   rw [e1] at hv;obtain ⟨b,cap,k1,k2,k3⟩:=hI.rows id s es lv g1
   obtain ⟨r1,A,hvv,r2⟩:=hv.inv_ref k1
   refine main (some A) len (cap-off) p _ hvv (by omega) hp (fun h1 h2=> .ref id _ _ _ hv.ref_fresh ?_ rfl)
   intro b' cap' sz' hg;rw [k1] at hg;injection hg with q1 q2 q3;subst q1;subst q2;subst q3;refine ⟨by omega,(if cap-off=p.1 then A else A.add (p.1*s)),?_,?_⟩
   ·unfold sliced;rw [show cap-(off+p.1)=cap-off-p.1 by omega];by_cases hm:cap-off=p.1
    ·rw [if_pos hm,if_pos hm]
    ·rw [if_neg hm,if_neg hm];rfl
   ·rcases r2 with rfl | r2
    ·by_cases hm:cap-off=p.1
     ·exact .inr (by omega)
     ·rw [if_neg hm,qw];exact .inl (by rw [Nat.add_mul])
    ·exact .inr (by omega)
  ·simp [Eff.run] at g2
 ·simp [Eff.run] at hrun
theorem zdK (hI:Inv fm B w G H)(hts:TsR (Rep fm G (okB B G H w) w) a.tmps ts){t:TypeId}{x:Operand}{px:PX}{lo hi:Option Operand}{plo phi:Option PX}
  (ho:o.op= .slice t x lo hi none) (hu:P.underlying t=some .string) (hx:TrX fm x px) (hlo:TrO fm lo plo) (hhi:TrO fm hi phi)
  (hrun:(opE call (PX.ev ts) r (.sliceS px plo phi)).run H=some out):yo P o a w (yp fm B w G H out):=by
 have hv:=zr hts hx
 simp only [opE] at hrun;split at hrun
 ·rename_i s e1;obtain ⟨d,hd,rfl⟩:=zL hrun
  simp only [Option.map_eq_some_iff] at hd;obtain ⟨p,hp,rfl⟩:=hd
  rw [e1] at hv;have vx:=hv.inv_str
  obtain ⟨h1,h2,m,_,h3⟩:=zfz (P:=P) (w:=w) (a:=a) (ts:=ts) (rep:=Rep fm G (okB B G H w) w) (fun h=>h.inv_int) (Nat.le_refl s.length) hlo hhi (fun h=>zr hts h) hp false
  have hex:(⟨s.toArray⟩:ByteArray).extract p.1 p.2=⟨((s.drop p.1).take (p.2-p.1)).toArray⟩:=by
   apply ByteArray.ext
   simp [ByteArray.data_extract]
  refine zm (v:= .string ⟨((s.drop p.1).take (p.2-p.1)).toArray⟩) (w':=w) ?_ (zj hI (.closed (.str _)))
  have hsz:(⟨s.toArray⟩:ByteArray).size=s.length:=rfl
  simp only [execOp,ho,vx,Option.map_none,Sem.run_bind,run_sliceAt_string w t _ _ _ _ hu,Instr.slice,run_underlying hu,Result.andThen_ok,hsz,h3,Option.isSome_none,Bool.false_eq_true,if_false,Sem.run_pure,hex]
 ·simp [Eff.run] at hrun
theorem U2 (hI:Inv fm B w G H)(hts:TsR (Rep fm G (okB B G H w) w) a.tmps ts){s:TypeId}{x:Operand}{px:PX}{f off n:Nat}{fs:Array Field}{fd:Field}
  (ho:o.op= .fieldAddr s x f) (hu:P.underlying s=some (.struct fs)) (hf:fs[f]? = some fd) (hoff:fd.offset=off)
  (hn:(P.info? fd.type).map (·.size)=some n) (h0:0<n) (hx:TrX fm x px)
  (hrun:(opE call (PX.ev ts) r (.fieldAddr off n px)).run H=some out):yo P o a w (yp fm B w G H out):=by
 have hv:=zr hts hx
 cases hq:P.info? fd.type with
 | none=>simp [hq] at hn
 | some it=>
  have hsz:it.size=n:=by simpa [hq] using hn
  have hrunA: ∀b p,(Instr.fieldAt s (.pointer (some ⟨b,p,none⟩)) f).run P w= .ok (.pointer (some ⟨b,p+off,none⟩)) w:=by
   intro b p;have: ¬n=0:=by omega
   simp [Instr.fieldAt,run_underlying hu,hf,Instr.sureAddr,fieldPlace,sizeOf,typeInfo,hq,hsz,this,qw,hoff]
  simp only [opE] at hrun;split at hrun
  ·rename_i id p e1;obtain rfl:=zB hrun
   rw [e1] at hv;obtain ⟨b,cap,sz,hg⟩:=GS.ne_fresh hv.ptr_fresh
   have vx:=hv.inv_ptr hg
   refine zm (v:= .pointer (some ⟨b,p+off,none⟩)) (w':=w) ?_ (zj hI (.ptr _ _ _ hv.ptr_fresh (fun b' c' s' h=> ?_) rfl))
   ·simp only [execOp,ho,vx,Sem.run_bind,hrunA,Result.andThen_ok,Sem.run_pure]
   ·rw [hg] at h;injection h with h _ _;subst h;rfl
  ·rename_i cs e1;obtain rfl:=zB hrun
   rw [e1] at hv;obtain ⟨b,p,vs,vx,hok,hc,hr⟩:=jB hv.inv_fptr
   refine zm (v:= .pointer (some ⟨b,p+off,none⟩)) (w':=w) ?_ (zj hI (.closed (J8 hok (hc.drop off) (ZB hr off))))
   simp only [execOp,ho,vx,Sem.run_bind,hrunA,Result.andThen_ok,Sem.run_pure]
  ·simp [Eff.run] at hrun
theorem JY {t:TypeId}{ag:Bool}{n:Nat}(hs:Shape P t ag n){vs:List Value}{cs:List D}{rep:Value→D→Prop}(hc:CR rep vs cs){off:Nat}(hle:off+n≤cs.length){d:D}
  (hd:shaped ag ((cs.drop off).take n)=some d) (hagg: ∀(vs:List Value) (ds:List D),CR rep vs ds→rep (.agg vs.toArray) (.agg ds)) :
  ∃v,(part t vs.toArray off).run P w= .ok v w∧rep v d:=by
 obtain ⟨td,i,h1,h2,h3,h4⟩:=hs
 have hag:(isAgg t).run P w= .ok ag w:=by
  unfold isAgg;rw [Sem.run_bind,run_underlying h1 w]
  cases td<;>simp_all [qh]
 cases ag with
 | true=>
  simp only [shaped,if_true,Option.some.injEq] at hd;subst hd;refine ⟨.agg ((vs.drop off).take n).toArray,?_,hagg _ _ ((hc.drop off).take n)⟩
  simp [part,hag,sizeOf,typeInfo,h3,h4]
 | false=>
  simp only [shaped,Bool.false_eq_true,if_false] at hd;split at hd
  ·rename_i c hcs;injection hd with hd;subst hd;have h0:cs[off]? = some c:=by
    have:((cs.drop off).take n)[0]? = some c:=by rw [hcs];rfl
    rw [List.getElem?_take] at this;split at this
    ·simpa [List.getElem?_drop] using this
    ·cases this
   obtain ⟨u,a1,a2,a3⟩:=hc.2 off c h0
   refine ⟨u,?_,a3⟩
   simp [part,hag,a1]
  ·cases hd
theorem yH {G:Gh}{ok:Nat→Prop}{cs:List D}{v:Value}(h:Rep fm G ok w v (.agg cs)): ∃vs:List Value,v= .agg vs.toArray∧CR (Rep fm G ok w) vs cs:=by
 obtain ⟨vs,rfl,hl,hone,hr⟩:=h.inv_agg
 refine ⟨vs,rfl,hl,fun j d hj=> ?_⟩
 have hj':j<vs.length:=by rw [hl];exact (List.getElem?_eq_some_iff.1 hj).1
 exact ⟨vs[j],List.getElem?_eq_getElem hj',hone _ (List.getElem_mem hj'),hr j d _ hj (List.getElem?_eq_getElem hj')⟩
theorem zfX (hI:Inv fm B w G H)(hts:TsR (Rep fm G (okB B G H w) w) a.tmps ts){s:TypeId}{x:Operand}{px:PX}{f off n:Nat}{ag:Bool}{fs:Array Field}{fd:Field}
  (ho:o.op= .field s x f) (hu:P.underlying s=some (.struct fs)) (hf:fs[f]? = some fd) (hoff:fd.offset=off) (hn:Shape P fd.type ag n) (hx:TrX fm x px)
  (hrun:(opE call (PX.ev ts) r (.field ag off n px)).run H=some out):yo P o a w (yp fm B w G H out):=by
 have hv:=zr hts hx
 simp only [opE] at hrun;split at hrun
 ·rename_i cs e1;split at hrun
  ·rename_i hle;obtain ⟨d,hd,rfl⟩:=zL hrun
   rw [e1] at hv;obtain ⟨vs,vx,hc⟩:=yH hv
   obtain ⟨v,hp,hr⟩:=JY (P:=P) (w:=w) hn hc hle hd (fun vs ds h=>qi vs h)
   refine zm (v:=v) (w':=w) ?_ (zj hI hr)
   simp only [execOp,ho,vx,Instr.field,Sem.run_bind,run_underlying hu,Result.andThen_ok,hf,asAgg,Sem.run_pure,hoff,hp]
  ·simp [Eff.run] at hrun
 ·simp [Eff.run] at hrun
theorem U1 (hI:Inv fm B w G H)(hts:TsR (Rep fm G (okB B G H w) w) a.tmps ts){t e:TypeId}{x i:Operand}{px pi:PX}{sz:Nat}
  (ho:o.op= .indexAddr t x i) (hu:P.underlying t=some (.slice e)) (hs:(P.info? e).map (·.size)=some sz) (hx:TrX fm x px) (hi:TrX fm i pi)
  (hrun:(opE call (PX.ev ts) r (.indexAddr sz px pi)).run H=some out):yo P o a w (yp fm B w G H out):=by
 have hv:=zr hts hx
 have hvi:=zr hts hi
 cases hq:P.info? e with
 | none=>simp [hq] at hs
 | some it=>
  have hsz:it.size=sz:=by simpa [hq] using hs
  have hrunA: ∀(A:Addr) (len cap:Nat) (k:IntKind) (n:Int),0≤n→n<len→(Instr.indexAt t (.slice (some A) len cap) (.int k n)).run P w= .ok (.pointer (some (A.add (n.toNat*sz)))) w:=by
   intro A len cap k n h0 h1;simp [Instr.indexAt,run_underlying hu,asIntOf,h0,h1,sizeOf,typeInfo,hq,hsz]
  simp only [opE] at hrun;split at hrun
  ·rename_i k n e2;rw [e2] at hvi;have vi:=hvi.inv_int
   split at hrun
   ·rename_i id off len e1;obtain ⟨s,es,lv,g1,g2⟩:=yy hrun
    split at g2
    ·rename_i hb;obtain ⟨b0,b1,rfl⟩:=hb
     obtain rfl:=zB g2
     rw [e1] at hv;obtain ⟨b,cap,k1,k2,k3⟩:=hI.rows id s es lv g1
     obtain ⟨r1,A,vx,r2⟩:=hv.inv_ref k1
     have hA:A=⟨b,off*s,none⟩:=by
      rcases r2 with h | h
      ·exact h
      ·omega
     subst hA;refine zm (v:= .pointer (some ⟨b,(off+n.toNat)*s,none⟩)) (w':=w) ?_ (zj hI (.ptr _ _ _ hv.ref_fresh (fun b' c' s' h=> ?_) rfl))
     ·simp only [execOp,ho,vx,vi,Sem.run_bind,hrunA _ len _ _ n b0 b1,qw,Result.andThen_ok,Sem.run_pure,Nat.add_mul]
     ·rw [k1] at h;injection h with h _ _;subst h;rfl
    ·simp [Eff.run] at g2
   ·rename_i s es e1;split at hrun
    ·rename_i hb;obtain ⟨b0,rfl⟩:=hb
     split at hrun
     ·rename_i e' he;obtain rfl:=zB hrun
      rw [e1] at hv;have hlt:n.toNat<es.length:=(List.getElem?_eq_some_iff.1 he).1
      rcases Zb hv.inv_lst with ⟨rfl,_⟩ | ⟨b,o',c,vx,hlc,hok,_,hcells⟩
      ·simp at hlt
      ·obtain ⟨cs,c1,c2⟩:=hcells _ _ he
       refine zm (v:= .pointer (some ⟨b,o'+n.toNat*s,none⟩)) (w':=w) ?_ (zj hI (.closed (J8 hok c1 c2)))
       simp only [execOp,ho,vx,vi,Sem.run_bind,hrunA _ es.length _ _ n b0 (by omega),qw,Result.andThen_ok,Sem.run_pure]
     ·simp [Eff.run] at hrun
    ·simp [Eff.run] at hrun
   ·simp [Eff.run] at hrun
  ·simp [Eff.run] at hrun
theorem Vi (hI:Inv fm B w G H)(hts:TsR (Rep fm G (okB B G H w) w) a.tmps ts){t e:TypeId}{x i:Operand}{px pi:PX}{sz len:Nat}
  (ho:o.op= .indexAddr t x i) (hu:P.underlying t=some (.array len e)) (hs:(P.info? e).map (·.size)=some sz) (hx:TrX fm x px) (hi:TrX fm i pi)
  (hrun:(opE call (PX.ev ts) r (.indexAddrA sz len px pi)).run H=some out):yo P o a w (yp fm B w G H out):=by
 have hv:=zr hts hx
 have hvi:=zr hts hi
 cases hq:P.info? e with
 | none=>simp [hq] at hs
 | some it=>
  have hsz:it.size=sz:=by simpa [hq] using hs
  have hrunA: ∀(A:Addr) (k:IntKind) (n:Int),0≤n→n<len→(Instr.indexAt t (.pointer (some A)) (.int k n)).run P w= .ok (.pointer (some (A.add (n.toNat*sz)))) w:=by
   intro A k n h0 h1;simp [Instr.indexAt,run_underlying hu,asIntOf,h0,h1,sizeOf,typeInfo,hq,hsz,Instr.sureAddr]
  simp only [opE] at hrun;split at hrun
  ·rename_i k n e2;rw [e2] at hvi;have vi:=hvi.inv_int
   split at hrun
   ·rename_i hb;obtain ⟨b0,b1⟩:=hb
    split at hrun
    ·rename_i id p e1;obtain rfl:=zB hrun
     rw [e1] at hv;obtain ⟨b,cap,s,hg⟩:=GS.ne_fresh hv.ptr_fresh
     have vx:=hv.inv_ptr hg
     refine zm (v:= .pointer (some ⟨b,p+n.toNat*sz,none⟩)) (w':=w) ?_ (zj hI (.ptr _ _ _ hv.ptr_fresh (fun b' c' s' h=> ?_) rfl))
     ·simp only [execOp,ho,vx,vi,Sem.run_bind,hrunA _ _ n b0 b1,qw,Result.andThen_ok,Sem.run_pure]
     ·rw [hg] at h;injection h with h _ _;subst h;rfl
    ·rename_i cs e1;obtain rfl:=zB hrun
     rw [e1] at hv;obtain ⟨b,p,vs,vx,hok,hc,hr⟩:=jB hv.inv_fptr
     refine zm (v:= .pointer (some ⟨b,p+n.toNat*sz,none⟩)) (w':=w) ?_ (zj hI (.closed (J8 hok (hc.drop _) (ZB hr _))))
     simp only [execOp,ho,vx,vi,Sem.run_bind,hrunA _ _ n b0 b1,qw,Result.andThen_ok,Sem.run_pure]
    ·simp [Eff.run] at hrun
   ·simp [Eff.run] at hrun
  ·simp [Eff.run] at hrun
theorem zfW (hI:Inv fm B w G H)(hts:TsR (Rep fm G (okB B G H w) w) a.tmps ts){t e:TypeId}{x i:Operand}{px pi:PX}{sz len:Nat}{ag:Bool}
  (ho:o.op= .index t x i) (hu:P.underlying t=some (.array len e)) (hs:Shape P e ag sz) (hx:TrX fm x px) (hi:TrX fm i pi)
  (hrun:(opE call (PX.ev ts) r (.index ag sz len px pi)).run H=some out):yo P o a w (yp fm B w G H out):=by
 have hv:=zr hts hx
 have hvi:=zr hts hi
 simp only [opE] at hrun;split at hrun
 ·rename_i k n cs e2 e1;split at hrun
  ·rename_i hb;obtain ⟨b0,b1,b2⟩:=hb
   obtain ⟨d,hd,rfl⟩:=zL hrun
   rw [e2] at hvi;rw [e1] at hv;have vi:=hvi.inv_int
   obtain ⟨vs,vx,hc⟩:=yH hv
   obtain ⟨v,hp,hr⟩:=JY (P:=P) (w:=w) hs hc b2 hd (fun vs ds h=>qi vs h)
   obtain ⟨td,it,h1,h2,h3,h4⟩:=hs
   refine zm (v:=v) (w':=w) ?_ (zj hI hr)
   simp only [execOp,ho,vx,vi,Instr.index,Sem.run_bind,asIntOf,Sem.run_pure,run_underlying hu,Result.andThen_ok,if_pos (And.intro b0 b1),sizeOf,typeInfo,run_program,h3,h4,hp]
  ·simp [Eff.run] at hrun
 ·simp [Eff.run] at hrun
theorem zdN (hI:Inv fm B w G H)(hts:TsR (Rep fm G (okB B G H w) w) a.tmps ts){t:TypeId}{x i:Operand}{px pi:PX}
  (ho:o.op= .index t x i) (hu:P.underlying t=some .string) (hx:TrX fm x px) (hi:TrX fm i pi)
  (hrun:(opE call (PX.ev ts) r (.indexS px pi)).run H=some out):yo P o a w (yp fm B w G H out):=by
 have hv:=zr hts hx
 have hvi:=zr hts hi
 simp only [opE] at hrun;split at hrun
 ·rename_i k n s e2 e1;split at hrun
  ·rename_i b0;obtain ⟨d,hd,rfl⟩:=zL hrun
   simp only [Option.map_eq_some_iff] at hd;obtain ⟨c,hc,rfl⟩:=hd
   rw [e2] at hvi;rw [e1] at hv;have vi:=hvi.inv_int
   have vx:=hv.inv_str
   have hlt:n.toNat<s.length:=(List.getElem?_eq_some_iff.1 hc).1
   have hg:(⟨s.toArray⟩:ByteArray)[n.toNat]? = some c:=by
    have hh:n.toNat<(⟨s.toArray⟩:ByteArray).size:=hlt
    rw [getElem?_pos (⟨s.toArray⟩:ByteArray) n.toNat hh];rw [List.getElem?_eq_getElem hlt] at hc;injection hc with hc;rw [←hc];rfl
   refine zm (v:= .int .u8 (c.toNat:Int)) (w':=w) ?_ (zj hI (.closed (.int _ _)))
   simp only [execOp,ho,vx,vi,Instr.index,Sem.run_bind,asIntOf,Sem.run_pure,run_underlying hu,Result.andThen_ok,if_pos b0,hg]
  ·simp [Eff.run] at hrun
 ·simp [Eff.run] at hrun
theorem zbZ (hI:Inv fm B w G H)(hts:TsR (Rep fm G (okB B G H w) w) a.tmps ts){x:Operand}{px:PX}{i:Nat}(ho:o.op= .extract x i)(hx:TrX fm x px)
  (hrun:(opE call (PX.ev ts) r (.extract px i)).run H=some out):yo P o a w (yp fm B w G H out):=by
 have hv:=zr hts hx
 simp only [opE] at hrun;split at hrun
 ·rename_i ds e1;obtain ⟨d,hd,rfl⟩:=zL hrun
  rw [e1] at hv;obtain ⟨vs,vx,hl,hr⟩:=hv.inv_tup
  have hj:i<vs.length:=by rw [hl];exact (List.getElem?_eq_some_iff.1 hd).1
  refine zm (v:=vs[i]) (w':=w) ?_ (zj hI (hr i d _ hd (List.getElem?_eq_getElem hj)))
  simp [execOp,ho,vx,Instr.extract,hj]
 ·simp [Eff.run] at hrun
theorem J6 (hI:Inv fm B w G H){t:TypeId}{x:Operand}(ho:o.op= .call { callee:= .builtin .len,args := #[x],argTypes := #[t] })(n:Nat)
  (h:(Builtin.len_ #[t] o.type #[a.eval x]).run P w= .ok (goInt n) w):yo P o a w (yp fm B w G H ⟨.int .i64 (n:Int),[],[]⟩):=by
 refine zm (v:= .int .i64 (n:Int)) (w':=w) ?_ (zj hI (.closed (.int _ _)))
 simp only [execOp,ho,resolve,Sem.run_bind,Sem.run_pure,Result.andThen_ok,invoke,builtin,List.map_toArray,List.map_cons,List.map_nil,h];rfl
theorem zhb (hI:Inv fm B w G H)(hts:TsR (Rep fm G (okB B G H w) w) a.tmps ts){t:TypeId}{x:Operand}{px:PX}(ho:o.op= .call { callee:= .builtin .len,args := #[x],argTypes := #[t] })
  (hu:P.underlying t=some .string) (hx:TrX fm x px) (hrun:(opE call (PX.ev ts) r (.lenS px)).run H=some out):yo P o a w (yp fm B w G H out):=by
 have hv:=zr hts hx
 simp only [opE] at hrun;split at hrun
 ·rename_i s e1;obtain rfl:=zB hrun
  rw [e1] at hv;refine J6 hI ho s.length ?_
  rw [hv.inv_str];simp [Builtin.len_,run_underlying hu]
  rfl
 ·simp [Eff.run] at hrun
theorem zjr (hI:Inv fm B w G H)(hts:TsR (Rep fm G (okB B G H w) w) a.tmps ts){t e:TypeId}{x:Operand}{px:PX}(ho:o.op= .call { callee:= .builtin .len,args := #[x],argTypes := #[t] })
  (hu:P.underlying t=some (.slice e)) (hx:TrX fm x px) (hrun:(opE call (PX.ev ts) r (.len px)).run H=some out):yo P o a w (yp fm B w G H out):=by
 have hv:=zr hts hx
 simp only [opE] at hrun;split at hrun
 ·rename_i e1;obtain rfl:=zB hrun
  rw [e1] at hv;refine J6 hI ho 0 ?_
  rw [hv.inv_nil];simp [Builtin.len_,run_underlying hu]
 ·rename_i s es e1;obtain rfl:=zB hrun
  rw [e1] at hv;refine J6 hI ho es.length ?_
  rcases Zb hv.inv_lst with ⟨rfl,A,c,vx⟩ | ⟨b,o',c,vx,_⟩<;>rw [vx]<;>simp [Builtin.len_,run_underlying hu]
 ·rename_i id off len e1;obtain rfl:=zB hrun
  rw [e1] at hv;refine J6 hI ho len ?_
  obtain ⟨b,cap,s,hg⟩:=GS.ne_fresh hv.ref_fresh
  obtain ⟨_,A,vx,_⟩:=hv.inv_ref hg
  rw [vx];simp [Builtin.len_,run_underlying hu]
 ·simp [Eff.run] at hrun
end
section
variable {P:Program} {fm:Nat→Nat} {B:qo} {w:World} {G:Gh} {H:zf} {o:Oper} {a:Act} {ts:List D} {call:zy} {r:Nat} {out:Out}
structure LS (rep:Value→D→Prop) (sz:Nat) (c:List Value) (es:List (List D)):Prop where
 size:c.length=es.length*sz
 each: ∀e∈es,e.length=sz
 one: ∀v∈c,v.oneCell'=true
 cell: ∀(i j:Nat) (e:List D) (d:D),es[i]? = some e→e[j]? = some d→ ∃u,c[i*sz+j]? = some u∧u.oneCell'=true∧rep u d
theorem LS.append {rep:Value→D→Prop}{sz:Nat}{c c':List Value}{es es':List (List D)}(h:LS rep sz c es)(h':LS rep sz c' es'):LS rep sz (c++c') (es++es'):=by
 refine ⟨by simp [h.size,h'.size,Nat.add_mul],fun e he=> ?_,fun v hv=> ?_,fun i j e d he hd=> ?_⟩
 ·rcases List.mem_append.1 he with he | he
  ·exact h.each e he
  ·exact h'.each e he
 ·rcases List.mem_append.1 hv with hv | hv
  ·exact h.one v hv
  ·exact h'.one v hv
 ·rw [List.getElem?_append] at he;split at he
  ·rename_i hi;obtain ⟨u,a1,a2,a3⟩:=h.cell i j e d he hd
   have hj:j<sz:=by rw [←h.each e (List.mem_of_getElem? he)];exact (List.getElem?_eq_some_iff.1 hd).1
   have hb:i*sz+j<c.length:=by
    rw [h.size];have:(i+1)*sz≤es.length*sz:=Nat.mul_le_mul_right _ (by omega)
    rw [Nat.succ_mul] at this;omega
   exact ⟨u,by rw [List.getElem?_append_left hb];exact a1,a2,a3⟩
  ·rename_i hi;obtain ⟨u,a1,a2,a3⟩:=h'.cell _ j e d he hd
   obtain ⟨k,rfl⟩: ∃k,i=es.length+k:=⟨i-es.length,by omega⟩
   rw [show es.length+k-es.length=k by omega] at a1;refine ⟨u,?_,a2,a3⟩
   rw [List.getElem?_append_right (by rw [h.size,Nat.add_mul];omega),h.size,Nat.add_mul,show es.length*sz+k*sz+j-es.length*sz=k*sz+j by omega]
   exact a1
theorem zdA (hI:Inv fm B w G H){sz:Nat}{v:Value}{d:D}(hv:Rep fm G (okB B G H w) w v d){tx:TypeId}(hk:(∃e',P.underlying tx=some (.slice e'))∨P.underlying tx=some .string)
  {src:List (List D)} (h:(source sz d).run H=some src): ∃news,Src P sz tx v src.length news w∧LS (Rep fm G (okB B G H w) w) sz news src:=by
 have mkS: ∀(A:Addr) (c:Nat) (news:List Value),LS (Rep fm G (okB B G H w) w) sz news src→(∀j u,news[j]? = some u→w.cell? (A.add j)=some u)→Src P sz tx (.slice (some A) src.length c) src.length news w:=by
  intro A c news hl hc;exact ⟨hk,fun _=>rfl,run_firstCells_some w sz _ A _ c news hl.size hc,run_firstCells_some w.drew sz _ A _ c news hl.size (by simpa using hc),hl.size,hl.one⟩
 have mkN: ∀(c:Nat),Src P sz tx (.slice none 0 c) 0 [] w:=fun c=>
  ⟨hk,fun _=>rfl,run_firstCells_none w sz 0 0 c,run_firstCells_none w.drew sz 0 0 c,by simp,fun _ h=>by cases h⟩
 have ls0:LS (Rep fm G (okB B G H w) w) sz [] []:=⟨by simp,by simp,by simp,by simp⟩
 have mkE: ∀(A:Option Addr) (c:Nat),src= []→ ∃news,Src P sz tx (.slice A 0 c) src.length news w∧LS (Rep fm G (okB B G H w) w) sz news src:=by
  rintro A c rfl
  cases A with
  | none=>exact ⟨[],mkN c,ls0⟩
  | some A=>exact ⟨[],mkS A c [] ls0 (by simp),ls0⟩
 cases d<;>simp only [source,Eff.run,reduceCtorEq] at h
 case nil=>
  injection h with h;subst h;rw [hv.inv_nil];exact mkE none 0 rfl
 case lst s es=>
  split at h
  ·rename_i hs;simp only [Eff.run,Option.some.injEq] at h;subst h;have hc:=hv.inv_lst
   rcases zcW hc with ⟨rfl,A,c,rfl⟩ | ⟨b,o',c,u,rfl,hlc,hok,hl,hcell,hone,hrep⟩
   ·exact mkE A c rfl
   ·by_cases he:es= []
    ·subst he;exact mkE _ _ rfl
    ·have hss:s=sz:=by
      rcases hs with hs | hs
      ·exact hs
      ·exact absurd (by simpa using hs) he
     subst hss;have hpos: ∀k,k<es.length*s→k / s<es.length∧k % s<s:=fun k hk=>by
      have h0:0<s:=by
       rcases Nat.eq_zero_or_pos s with h | h
       ·subst h;simp at hk
       ·exact h
      exact ⟨(Nat.div_lt_iff_lt_mul h0).2 hk,Nat.mod_lt _ h0⟩
     have hget: ∀k,k<es.length*s→ ∃(e:List D) (d:D),es[k / s]? = some e∧e[k % s]? = some d:=fun k hk=>by
      obtain ⟨h1,h2⟩:=hpos k hk
      have hle:es[k / s].length=s:=hl _ (List.getElem_mem h1)
      exact ⟨es[k / s],es[k / s][k % s]'(by omega),List.getElem?_eq_getElem h1,List.getElem?_eq_getElem _⟩
     have hls:LS (Rep fm G (okB B G H w) w) s ((List.range (es.length*s)).map fun k=>u (k / s) (k % s)) es:=by
      refine ⟨by simp,hl,fun v hv=> ?_,fun i j e d he hd=> ?_⟩
      ·simp only [List.mem_map,List.mem_range] at hv;obtain ⟨k,hk,rfl⟩:=hv
       obtain ⟨e,d,h1,h2⟩:=hget k hk
       exact hone _ _ e d h1 h2
      ·have hj:j<s:=by rw [←hl e (List.mem_of_getElem? he)];exact (List.getElem?_eq_some_iff.1 hd).1
       have hi:i<es.length:=(List.getElem?_eq_some_iff.1 he).1
       have hb:i*s+j<es.length*s:=by
        have:(i+1)*s≤es.length*s:=Nat.mul_le_mul_right _ (by omega)
        rw [Nat.succ_mul] at this;omega
       have e1:(i*s+j) / s=i:=by rw [Nat.mul_comm,Nat.mul_add_div (by omega),Nat.div_eq_of_lt hj];rfl
       have e2:(i*s+j) % s=j:=by rw [Nat.mul_comm,Nat.mul_add_mod,Nat.mod_eq_of_lt hj]
       exact ⟨u i j,by simp [hb,e1,e2],hone i j e d he hd,.closed (hrep i j e d he hd)⟩
     refine ⟨_,mkS _ c _ hls (fun j v hj=> ?_),hls⟩
     have hjl:j<es.length*s:=by
      have:=(List.getElem?_eq_some_iff.1 hj).1
      simpa using this
     simp [hjl] at hj
     subst hj;obtain ⟨e,d,h1,h2⟩:=hget j hjl
     rw [qw];have:=hcell _ _ e d h1 h2
     rwa [Nat.div_add_mod' j s] at this
  ·simp [Eff.run] at h
 case ref id off len=>
  split at h
  ·rename_i s es lv g1;split at h
   ·rename_i hs;obtain ⟨rfl,hle⟩:=hs
    simp only [Eff.run,Option.some.injEq] at h;subst h;obtain ⟨b,cap,k1,k2,k3⟩:=hI.rows id s es lv g1
    obtain ⟨r1,A,rfl,r2⟩:=hv.inv_ref k1
    obtain ⟨cs,c1,c2,c3,c4⟩:=k3.ranges hle
    have hlen:((es.drop off).take len).length=len:=by simp;omega
    by_cases h0:len=0
    ·subst h0;have:=mkE (some A) (cap-off) (by simp)
     exact this
    ·have hA:A=⟨b,off*s,none⟩:=by
      rcases r2 with h | h
      ·exact h
      ·have:=k3.len;omega
     subst hA;have hls:LS (Rep fm G (okB B G H w) w) s cs ((es.drop off).take len):=
      ⟨by rw [hlen];exact c1,fun e he=>k3.each e (List.mem_of_mem_drop (List.mem_of_mem_take he)),c3,c4⟩
     have:=mkS ⟨b,off*s,none⟩ (cap-off) cs hls (fun j v hj=>by rw [qw];exact c2 j v hj)
     rw [hlen] at this ⊢
     exact ⟨cs,this,hls⟩
   ·simp [Eff.run] at h
  ·cases h
 case str s=>
  split at h
  ·rename_i hs;subst hs;simp only [Eff.run,Option.some.injEq] at h;subst h;rw [hv.inv_str];have hlen:(ofBytes s).length=s.length:=by simp [ofBytes]
   have hbc:byteCells ⟨s.toArray⟩=s.map fun b=>Value.int .u8 (b.toNat:Int):=by simp [byteCells]
   refine ⟨byteCells ⟨s.toArray⟩,?_,?_⟩
   ·have hsz:(⟨s.toArray⟩:ByteArray).size=s.length:=rfl
    have hf:=fun w'=>firstCells_string (P:=P) ⟨s.toArray⟩ w'
    rw [hlen];rw [hsz] at hf;exact ⟨hk,fun _=>rfl,hf w,hf w.drew,by rw [byteCells_length,Nat.mul_one];rfl,fun u hu=>by
     rw [hbc] at hu;obtain ⟨_,_,rfl⟩:=List.mem_map.1 hu
     rfl⟩
   ·refine ⟨by rw [hbc];simp [ofBytes],fun e he=> ?_,fun v hv=> ?_,fun i j e d he hd=> ?_⟩
    ·simp only [ofBytes,List.mem_map] at he;obtain ⟨b,_,rfl⟩:=he
     rfl
    ·rw [hbc] at hv;obtain ⟨_,_,rfl⟩:=List.mem_map.1 hv
     rfl
    ·simp only [ofBytes,List.getElem?_map,Option.map_eq_some_iff] at he;obtain ⟨b,hb,rfl⟩:=he
     cases j with
     | zero=>
      simp at hd;subst hd;exact ⟨_,by rw [hbc];simp [hb],rfl,.closed (.int _ _)⟩
     | succ j=>simp at hd
  ·simp [Eff.run] at h
theorem Yi (z:Array Value)(n:Nat):(Builtin.zeroCells z n).size=n*z.size:=by simp [Builtin.zeroCells]
theorem LS.block {rep:Value→D→Prop}{sz:Nat}{c:List Value}{es:List (List D)}(h:LS rep sz c es)(zs:Array Value){cap:Nat}(hz:zs.size=(cap-es.length)*sz)(hle:es.length≤cap) :
  (c.toArray++zs).size=cap*sz∧ ∀(i j:Nat) (e:List D) (d:D),es[i]? = some e→e[j]? = some d→ ∃u,(c.toArray++zs)[i*sz+j]? = some u∧u.oneCell'=true∧rep u d:=by
 refine ⟨?_,fun i j e d he hd=> ?_⟩
 ·rw [Array.size_append,hz,List.size_toArray,h.size,←Nat.add_mul];congr 1;omega
 ·obtain ⟨u,a1,a2,a3⟩:=h.cell i j e d he hd
  refine ⟨u,?_,a2,a3⟩
  have hl:i*sz+j<c.length:=(List.getElem?_eq_some_iff.1 a1).1
  rw [Array.getElem?_append_left (by simpa using hl)];simpa using a1
theorem zgY (hI:Inv fm B w G H){s:Nat}{es:List (List D)}{b cap:Nat}(k3:RowOk (Rep fm G (okB B G H w) w) w s es b cap){len:Nat}(hle:len≤es.length) :
  ∃cs,LS (Rep fm G (okB B G H w) w) s cs (es.take len)∧w.rangeAt b 0 cs∧cs.length=len*s:=by
 obtain ⟨cs,c1,c2,c3,c4⟩:=k3.ranges (off:=0) (len:=len) (by omega)
 refine ⟨cs,⟨by rw [c1,List.length_take,Nat.min_eq_left hle],fun e he=>k3.each e (List.mem_of_mem_take he),c3,fun i j e d he hd=>c4 i j e d (by simpa using he) hd⟩,by simpa using c2,c1⟩
theorem zdQ (hI:Inv fm B w G H)(hts:TsR (Rep fm G (okB B G H w) w) a.tmps ts){t u e:TypeId}{i:TypeInfo}{z:Value}{sz bytes:Nat}{x y:Operand}{px py:PX}
  (ho:o.op= .call { callee:= .builtin .append,args := #[x,y],argTypes := #[t,u] }) (hu:P.underlying t=some (.slice e)) (hv:(∃e',P.underlying u=some (.slice e'))∨P.underlying u=some .string)
  (hi:P.info? e=some i) (hz:i.zero=some z) (hsz:i.size=sz) (hzl:z.cells.size=sz) (hby:i.bytes=bytes) (h0:0<sz) (hx:TrX fm x px) (hy:TrX fm y py)
  (hrun:(opE call (PX.ev ts) r (.append sz bytes px py)).run H=some out):yo P o a w (yp fm B w G H out):=by
 have hvx:=zr hts hx
 have hvy:=zr hts hy
 obtain ⟨src,h1,h2⟩:=run_bind' (by exact hrun)
 obtain ⟨news,hS,hL⟩:=zdA (P:=P) hI hvy hv h1
 have fin: ∀v w',(Builtin.append_ #[t,u] o.type #[a.eval x,a.eval y]).run P w= .ok v w'→yp fm B w G H out v w'→yo P o a w (yp fm B w G H out):=by
  intro v w' hr hp;refine zm (v:=v) (w':=w') ?_ hp
  simp only [execOp,ho,resolve,Sem.run_bind,Sem.run_pure,Result.andThen_ok,invoke,builtin,List.map_toArray,List.map_cons,List.map_nil,hr]
 by_cases hemp:src.isEmpty
 ·rw [if_pos hemp] at h2;have hs0:src= []:=by simpa using hemp
  subst hs0;have hn0:news= []:=List.eq_nil_of_length_eq_zero (by simpa using hL.size)
  subst hn0;have nothing: ∀(A:Option Addr) (l c:Nat),a.eval x= .slice A l c→l≤c→(Builtin.append_ #[t,u] o.type #[a.eval x,a.eval y]).run P w= .ok (.slice A l c) w:=by
   intro A l c he hl;have hc:(Builtin.firstCells i.size 0 (a.eval y)).run P w= .ok #[] w:=by rw [hsz];exact hS.cells
   have hlen:(Builtin.lenOf (a.eval y)).run P w= .ok 0 w:=hS.len w
   rw [he];rcases hv with ⟨e',hk⟩ | hk<;>cases A<;>simp [Builtin.append_,run_underlying hu,run_underlying hk,sizeOf,typeInfo,hi,hlen,hl,hc,storeCells]
  split at h2
  ·rename_i e1;obtain rfl:=zB h2
   rw [e1] at hvx;exact fin _ _ (nothing _ _ _ hvx.inv_nil (Nat.le_refl _)) (zj hI (.closed .nil))
  ·rename_i id off len e1;obtain rfl:=zB h2
   rw [e1] at hvx;obtain ⟨b,cap,s,hg⟩:=GS.ne_fresh hvx.ref_fresh
   obtain ⟨r1,A,vx,_⟩:=hvx.inv_ref hg
   exact fin _ _ (nothing _ _ _ vx (by omega)) (zj hI (by rw [←vx];exact hvx))
  ·rename_i s es e1;obtain rfl:=zB h2
   rw [e1] at hvx;rcases Zb hvx.inv_lst with ⟨rfl,A,c,vx⟩ | ⟨b,o',c,vx,hlc,_⟩
   ·exact fin _ _ (nothing _ _ _ vx (Nat.zero_le _)) (zj hI (by rw [←vx];exact hvx))
   ·exact fin _ _ (nothing _ _ _ vx hlc) (zj hI (by rw [←vx];exact hvx))
  ·simp [Eff.run] at h2
 ·rw [if_neg hemp] at h2;have hpos:0<src.length:=by
   cases src with
   | nil=>simp at hemp
   | cons=>simp
  have hroom:roomy=1099511627776:=rfl
  have hml:maxLen=9223372036854775807:=rfl
  split at h2
  ·rename_i e1;split at h2
   ·rename_i hc;obtain ⟨g1,g2⟩:=hc
    obtain ⟨f1,f2,f3⟩:=jd h2
    simp only [Eff.run,Option.some.injEq] at f3;subst f3;rw [e1] at hvx;have hold:=run_firstCells_none (P:=P) w.drew i.size 0 0 0
    have hr:=run_append_grow_src (P:=P) w t u o.type e i z hu hi hz none 0 0 [] hold (a.eval y) src.length news (by rw [hsz];exact hS) (by omega) (by omega)
     (by rw [Nat.zero_add,nextslicecap_zero hpos,hby];omega)
    simp only [Nat.zero_add,List.nil_append] at hr;have hge:=grownCap_ge w src.length 0 e
    have hcm:=grownCap_le_maxLen w src.length 0 e (by rw [hml];omega)
    obtain ⟨b1,b2⟩:=hL.block (Builtin.zeroCells z.cells (grownCap w src.length 0 e-src.length)) (by rw [Yi,hzl]) hge
    obtain ⟨ha,hI'⟩:=Qc hI f1 f2 (jt.drew_alloc w _ e) b1 hge hcm hL.each b2
    refine fin _ _ (by rw [hvx.inv_nil];exact hr) ⟨_,ha,hI',qU _ _ _ _ hge⟩
   ·simp [Eff.run] at h2
  ·rename_i id off len e1;obtain ⟨⟨s',es',l1⟩,l2⟩:=jv h2
   obtain ⟨s,es,lv,g1,g2⟩:=yy l2
   rw [l1] at g1;injection g1 with q1 q2 q3;subst q1;subst q2;subst q3;split at g2
   ·rename_i hc;obtain ⟨rfl,rfl,c1,c2,c3⟩:=hc
    obtain ⟨f1,f2,f3⟩:=jd g2
    simp only [Eff.run,Option.some.injEq] at f3;subst f3;rw [e1] at hvx;obtain ⟨b,cap,k1,k2,k3⟩:=hI.rows id s' es' true l1
    obtain ⟨r1,A,vx,r2⟩:=hvx.inv_ref k1
    obtain ⟨cs,t1,t2,t3⟩:=zgY hI k3 c1
    have hLL:=t1.append hL
    have hlen:(es'.take len++src).length=len+src.length:=by simp;omega
    simp only [Nat.sub_zero,Nat.zero_mul] at vx r2;by_cases hfit:len+src.length≤cap
    ·have hA:A=⟨b,0,none⟩:=by
      rcases r2 with h | h
      ·exact h
      ·omega
     subst hA;obtain ⟨⟨c,T,m1,m2,m3⟩,m4,m5,m6⟩:=k3
     have hfits:len*s'+news.length≤c.size:=by
      rw [hL.size,m2,←Nat.add_mul];exact Nat.mul_le_mul_right _ hfit
     have hst:=run_storeCells_at P b (len*s') T news 0 c w m1 (by simpa using hfits) hL.one
     simp only [Nat.add_zero] at hst;have hr:(Builtin.append_ #[t,u] o.type #[a.eval x,a.eval y]).run P w= .ok (.slice (some ⟨b,0,none⟩) (len+src.length) cap) (w.setRow b (c.toList.take (len*s')++news++c.toList.drop (len*s'+news.length)).toArray):=by
      have hcc:=hS.cells
      have hlen':=hS.len w
      have hadd:(⟨b,0,none⟩:Addr).add (len*s')=⟨b,len*s',none⟩:=by rw [qw];simp
      rw [vx];rcases hv with ⟨e',hk⟩ | hk<;>simp [Builtin.append_,run_underlying hu,run_underlying hk,sizeOf,typeInfo,hi,hlen',hfit,hcc,hsz,hadd,hst]
     have hcs:cs=c.toList.take (len*s'):=by
      apply List.ext_getElem?
      intro j;by_cases hj:j<len*s'
      ·rw [List.getElem?_take,if_pos hj];have hjc:j<cs.length:=by omega
       have:=t2 j _ (List.getElem?_eq_getElem hjc)
       rw [cell_of_row w b (0+j) c T (0,0) m1] at this;rw [List.getElem?_eq_getElem hjc,←this];simp
      ·rw [List.getElem?_eq_none (by omega),List.getElem?_eq_none (by simp;omega)]
     obtain ⟨ha,hI'⟩:=X7 (w':=w.setRow b (c.toList.take (len*s')++news++c.toList.drop (len*s'+news.length)).toArray) (b':=b) (cap':=cap) (es':=es'.take len++src)
      hI l1 k1 f1 f2 (by rw [size_setRow];exact Nat.le_refl _) rfl rfl rfl (fun k _ hk=>setRow_other w b k _ hk) (.inl rfl) ⟨⟨_,T,setRow_heap w b c _ T (0,0) m1,by
       simp only [List.size_toArray,List.length_append,List.length_take,List.length_drop,Array.length_toList];omega,fun i j e d he hd=>by
       obtain ⟨u',a1,a2,a3⟩:=hLL.cell i j e d he hd
       refine ⟨u',?_,a2,a3⟩
       rw [hcs] at a1;rw [List.getElem?_toArray,List.getElem?_append_left (by exact (List.getElem?_eq_some_iff.1 a1).1)];exact a1⟩,by rw [hlen];exact hfit,m5,hLL.each⟩
     exact fin _ _ hr ⟨_,ha,hI',qU _ _ _ _ hfit⟩
    ·have hold:(Builtin.firstCells i.size len (.slice (some A) len cap)).run P w.drew= .ok cs.toArray w.drew:=by
      refine run_firstCells_some w.drew i.size len A len cap cs (by rw [hsz];exact t3) (fun j v hj=> ?_)
      have hA:A=⟨b,0,none⟩∨cs= []:=by
       rcases r2 with h | h
       ·exact .inl h
       ·right
        apply List.eq_nil_of_length_eq_zero
        rw [t3,show len=0 by omega];simp
      rcases hA with rfl | rfl
      ·rw [qw,World.cell?_drew];exact t2 j v hj
      ·simp at hj
     have hr:=run_append_grow_src (P:=P) w t u o.type e i z hu hi hz (some A) len cap cs hold (a.eval y) src.length news (by rw [hsz];exact hS) (by omega) (by omega)
      (growslice_fits (by omega) (by rw [hby];omega))
     have hge:=grownCap_ge w (len+src.length) cap e
     have hcm:=grownCap_le_maxLen w (len+src.length) cap e (by rw [hml];omega)
     obtain ⟨b1,b2⟩:=hLL.block (Builtin.zeroCells z.cells (grownCap w (len+src.length) cap e-(len+src.length))) (cap:=grownCap w (len+src.length) cap e) (by rw [Yi,hzl,hlen]) (by rw [hlen];exact hge)
     have hn:=jt.drew_alloc w ((cs++news).toArray++Builtin.zeroCells z.cells (grownCap w (len+src.length) cap e-(len+src.length))) e
     obtain ⟨ha,hI'⟩:=X7 (b':=w.heap.size) (cap':=grownCap w (len+src.length) cap e) (es':=es'.take len++src) hI l1 k1 f1 f2 (by rw [hn.size];omega) hn.os hn.tape hn.output (fun k hk _=>hn.old k hk) (.inr (Nat.le_refl _))
      ⟨⟨_,e,hn.new,b1,b2⟩,by rw [hlen];exact hge,hcm,hLL.each⟩
     exact fin _ _ (by rw [vx];exact hr) ⟨_,ha,hI',qU _ _ _ _ hge⟩
   ·simp [Eff.run] at g2
  ·simp [Eff.run] at h2
end
section
variable {P:Program} {fm:Nat→Nat}
section
variable {w:World} {G:Gh} {H:zf} {ok:Nat→Prop}
def zeQ (G:Gh)(H:zf)(ids:List Nat)(b:Nat):Prop:= ∃id∈ids,isRow H id∧ ∃cap sz,G id= .row b cap sz
theorem zb2 {ids ids':List Nat}(h: ∀i∈ids,i∈ids'){b:Nat}(hb:zeQ G H ids b):zeQ G H ids' b:=
 let ⟨i,h1,h2⟩:=hb; ⟨i,h _ h1,h2⟩
def okI (ok:Nat→Prop)(G:Gh)(H:zf)(ids:List Nat)(b:Nat):Prop:=ok b∨zeQ G H ids b
theorem yD {ids ids':List Nat}(h: ∀i∈ids,i∈ids'){v:Value}{d:D}(hr:RepC fm (okI ok G H ids) w v d):RepC fm (okI ok G H ids') w v d:=
 hr.mono fm (fun b hb=>hb.imp id (zb2 h)) (fun _ _ _ _ h=>h)
theorem jl {f:D→Eff (D×List Nat)}: ∀ {ds:List D} {x:List D×List Nat},(ym f ds).run H=some x →
  x.1.length=ds.length∧ ∀(j:Nat) (d:D),ds[j]? = some d→ ∃d' l,x.1[j]? = some d'∧(f d).run H=some (d',l)∧ ∀i∈l,i∈x.2
 | [],x,h=>by
  simp [ym,Eff.run] at h
  subst h;exact ⟨rfl,by simp⟩
 | d::ds,x,h=>by
  obtain ⟨y,h1,h2⟩:=run_bind' (by exact h)
  obtain ⟨z,h3,h4⟩:=run_bind' h2
  simp only [Eff.run,Option.some.injEq] at h4;subst h4;obtain ⟨k1,k2⟩:=jl h3
  refine ⟨by simp [k1],fun j e hj=> ?_⟩
  cases j with
  | zero=>
   simp at hj;subst hj;exact ⟨y.1,y.2,by simp,h1,fun i hi=>by simp [hi]⟩
  | succ j=>
   obtain ⟨d',l,a1,a2,a3⟩:=k2 j e (by simpa using hj)
   exact ⟨d',l,by simpa using a1,a2,fun i hi=>by simp [a3 i hi]⟩
theorem Yw {f:D→Eff (D×List Nat)}: ∀ {es:List (List D)} {x:List (List D)×List Nat},(yf f es).run H=some x →
  x.1.length=es.length∧ ∀(i:Nat) (e:List D),es[i]? = some e→ ∃e' l,x.1[i]? = some e'∧(ym f e).run H=some (e',l)∧ ∀k∈l,k∈x.2
 | [],x,h=>by
  simp [yf,Eff.run] at h
  subst h;exact ⟨rfl,by simp⟩
 | d::ds,x,h=>by
  obtain ⟨y,h1,h2⟩:=run_bind' (by exact h)
  obtain ⟨z,h3,h4⟩:=run_bind' h2
  simp only [Eff.run,Option.some.injEq] at h4;subst h4;obtain ⟨k1,k2⟩:=Yw h3
  refine ⟨by simp [k1],fun j e hj=> ?_⟩
  cases j with
  | zero=>
   simp at hj;subst hj;exact ⟨y.1,y.2,by simp,h1,fun i hi=>by simp [hi]⟩
  | succ j=>
   obtain ⟨d',l,a1,a2,a3⟩:=k2 j e (by simpa using hj)
   exact ⟨d',l,by simpa using a1,a2,fun i hi=>by simp [a3 i hi]⟩
theorem zaY {f:D→Eff (D×List Nat)}{rep:Value→D→Prop}(hf: ∀ {v d x},(f d).run H=some x→rep v d→RepC fm (okI ok G H x.2) w v x.1){ds:List D}{x:List D×List Nat}
  (h:(ym f ds).run H=some x) {cs:List Value} (hc:CR rep cs ds):CR (RepC fm (okI ok G H x.2) w) cs x.1:=by
 obtain ⟨k1,k2⟩:=jl h
 refine ⟨by rw [hc.1,k1],fun j d' hj=> ?_⟩
 have hjl:j<ds.length:=by rw [←k1];exact (List.getElem?_eq_some_iff.1 hj).1
 obtain ⟨u,a1,a2,a3⟩:=hc.2 j _ (List.getElem?_eq_getElem hjl)
 obtain ⟨e,l,b1,b2,b3⟩:=k2 j _ (List.getElem?_eq_getElem hjl)
 rw [hj] at b1;injection b1 with b1;subst b1;exact ⟨u,a1,a2,yD b3 (hf b2 a3)⟩
theorem QB {f:D→Eff (D×List Nat)}{rep:Value→D→Prop}(hf: ∀ {v d x},(f d).run H=some x→rep v d→RepC fm (okI ok G H x.2) w v x.1){es:List (List D)}{x:List (List D)×List Nat}
  (h:(yf f es).run H=some x) {sz b cap:Nat} (hr:RowOk rep w sz es b cap):RowOk (RepC fm (okI ok G H x.2) w) w sz x.1 b cap:=by
 obtain ⟨k1,k2⟩:=Yw h
 obtain ⟨⟨c,T,h1,h2,h3⟩,h4,h5,h6⟩:=hr
 have back: ∀(i:Nat) (e':List D),x.1[i]? = some e'→ ∃e l,es[i]? = some e∧(ym f e).run H=some (e',l)∧ ∀k∈l,k∈x.2:=by
  intro i e' hi;have hil:i<es.length:=by rw [←k1];exact (List.getElem?_eq_some_iff.1 hi).1
  obtain ⟨e'',l,a1,a2,a3⟩:=k2 i _ (List.getElem?_eq_getElem hil)
  rw [hi] at a1;injection a1 with a1;subst a1;exact ⟨es[i],l,List.getElem?_eq_getElem hil,a2,a3⟩
 refine ⟨⟨c,T,h1,h2,fun i j e' d' he' hd'=> ?_⟩,by rw [k1];exact h4,h5,fun e' he'=> ?_⟩
 ·obtain ⟨e,l,a1,a2,a3⟩:=back i e' he'
  obtain ⟨q1,q2⟩:=jl a2
  have hjl:j<e.length:=by rw [←q1];exact (List.getElem?_eq_some_iff.1 hd').1
  obtain ⟨d'',l',b1,b2,b3⟩:=q2 j _ (List.getElem?_eq_getElem hjl)
  simp only at b1
  rw [hd'] at b1;injection b1 with b1;subst b1;obtain ⟨u,c1,c2,c3⟩:=h3 i j e _ a1 (List.getElem?_eq_getElem hjl)
  exact ⟨u,c1,c2,yD (fun k hk=>a3 k (b3 k hk)) (hf b2 c3)⟩
 ·obtain ⟨i,hi,rfl⟩:=List.getElem_of_mem he'
  obtain ⟨e,l,a1,a2,_⟩:=back i _ (List.getElem?_eq_getElem hi)
  have:=(jl a2).1
  simp only at this
  rw [this];exact h6 e (List.mem_of_getElem? a1)
theorem zb1 {ok':Nat→Prop}{sz b cap:Nat}{es:List (List D)}(hr:RowOk (RepC fm ok' w) w sz es b cap)(hok:ok' b){off len:Nat}(hl:off+len≤es.length){A:Addr}(c:Nat)(hc:len≤c)
  (hA:A=⟨b,off*sz,none⟩∨len=0):RepC fm ok' w (.slice (some A) len c) (.lst sz ((es.drop off).take len)):=by
 have hlen:((es.drop off).take len).length=len:=by simp;omega
 by_cases h0:len=0
 ·subst h0;simp only [List.take_zero];exact .lst0 _ _ _
 ·rcases hA with rfl | hA
  ·obtain ⟨cs,c1,c2,c3,c4⟩:=hr.ranges hl
   rw [show Value.slice (some ⟨b,off*sz,none⟩) len c=Value.slice (some ⟨b,off*sz,none⟩) ((es.drop off).take len).length c by rw [hlen]]
   refine .lst1 sz _ b (off*sz) c (fun i j=>cs.getD (i*sz+j) undef) (by omega) hok (fun e he=>hr.each e (List.mem_of_mem_drop (List.mem_of_mem_take he))) (fun i j e d he hd=> ?_) (fun i j e d he hd=> ?_) (fun i j e d he hd=> ?_) <;>
    (obtain ⟨u,a1,a2,a3⟩:=c4 i j e d he hd
     simp only [List.getD_eq_getElem?_getD,a1,Option.getD_some])
   ·exact c2 _ u a1
   ·exact a2
   ·exact a3
  ·exact absurd hA h0
theorem Um {B:qo}(hI:Inv fm B w G H): ∀(n:Nat) {v:Value} {d:D} {x:D×List Nat},(frz n d).run H=some x→Rep fm G (okB B G H w) w v d→RepC fm (okI (okB B G H w) G H x.2) w v x.1
 | 0,v,d,x,h,_=>by simp [frz,Eff.run] at h
 | n+1,v,d,x,h,hv=>by
  have ih: ∀ {v d x},(frz n d).run H=some x→Rep fm G (okB B G H w) w v d→RepC fm (okI (okB B G H w) G H x.2) w v x.1:=fun h hv=>Um hI n h hv
  have simple: ∀ {d':D},x=(d',[])→RepC fm (okB B G H w) w v d'→RepC fm (okI (okB B G H w) G H x.2) w v x.1:=by
   rintro d' rfl hr
   exact hr.mono fm (fun b hb=> .inl hb) (fun _ _ _ _ h=>h)
  cases d<;>simp only [frz] at h
  case ref id off len=>
   obtain ⟨sz,es,lv,h1,h2⟩:=yy h
   split at h2
   ·rename_i hle;obtain ⟨y,h3,h4⟩:=run_bind' h2
    simp only [Eff.run,Option.some.injEq] at h4;subst h4;obtain ⟨b,cap,g1,g2,g3⟩:=hI.rows id sz es lv h1
    obtain ⟨r1,A,rfl,r2⟩:=hv.inv_ref g1
    have hsub:RowOk (Rep fm G (okB B G H w) w) w sz es b cap:=g3
    obtain ⟨cs,c1,c2,c3,c4⟩:=g3.ranges hle
    have hlen:((es.drop off).take len).length=len:=by simp;omega
    obtain ⟨q1,q2⟩:=Yw h3
    by_cases h0:len=0
    ·subst h0;have:y.1= []:=List.eq_nil_of_length_eq_zero (by rw [q1];simp)
     simp only [this];exact .lst0 _ _ _
    ·have hA:A=⟨b,off*sz,none⟩:=by
      rcases r2 with h | h
      ·exact h
      ·have:=g3.len;omega
     subst hA;have hylen:y.1.length=len:=by rw [q1,hlen]
     show RepC fm _ w _ (.lst sz y.1)
     rw [show Value.slice (some ⟨b,off*sz,none⟩) len (cap-off)=Value.slice (some ⟨b,off*sz,none⟩) y.1.length (cap-off) by rw [hylen]]
     have back: ∀(i j:Nat) (e':List D) (d':D),y.1[i]? = some e'→e'[j]? = some d'→ ∃u,cs[i*sz+j]? = some u∧u.oneCell'=true∧RepC fm (okI (okB B G H w) G H y.2) w u d':=by
      intro i j e' d' he' hd';have hil:i<((es.drop off).take len).length:=by rw [←q1];exact (List.getElem?_eq_some_iff.1 he').1
      obtain ⟨e'',l,a1,a2,a3⟩:=q2 i _ (List.getElem?_eq_getElem hil)
      rw [he'] at a1;injection a1 with a1;subst a1;obtain ⟨p1,p2⟩:=jl a2
      have hjl:j<(((es.drop off).take len)[i]).length:=by rw [←p1];exact (List.getElem?_eq_some_iff.1 hd').1
      obtain ⟨d'',l',b1,b2,b3⟩:=p2 j _ (List.getElem?_eq_getElem hjl)
      simp only at b1
      rw [hd'] at b1;injection b1 with b1;subst b1;obtain ⟨u,e1,e2,e3⟩:=c4 i j _ _ (List.getElem?_eq_getElem hil) (List.getElem?_eq_getElem hjl)
      exact ⟨u,e1,e2,yD (fun k hk=>a3 k (b3 k hk)) (ih b2 e3)⟩
     have up: ∀ {u d'},RepC fm (okI (okB B G H w) G H y.2) w u d'→RepC fm (okI (okB B G H w) G H (id::y.2)) w u d':=fun hr=>yD (fun k hk=>by simp [hk]) hr
     refine .lst1 sz _ b (off*sz) (cap-off) (fun i j=>cs.getD (i*sz+j) undef) (by rw [hylen];omega) (.inr ⟨id,by simp,⟨_,_,_,h1⟩,cap,sz,g1⟩) (fun e' he'=> ?_) (fun i j e d he hd=> ?_) (fun i j e d he hd=> ?_) (fun i j e d he hd=> ?_)
     ·obtain ⟨i,hi,rfl⟩:=List.getElem_of_mem he'
      have hil:i<((es.drop off).take len).length:=by rw [←q1];exact hi
      obtain ⟨e'',l,a1,a2,a3⟩:=q2 i _ (List.getElem?_eq_getElem hil)
      rw [List.getElem?_eq_getElem hi] at a1;injection a1 with a1;have:=(jl a2).1
      simp only at this
      rw [a1,this];exact g3.each _ (List.mem_of_mem_drop (List.mem_of_mem_take (List.getElem_mem hil)))
     all_goals
      obtain ⟨u,a1,a2,a3⟩:=back i j e d he hd
      simp only [List.getD_eq_getElem?_getD,a1,Option.getD_some]
     ·exact c2 _ u a1
     ·exact a2
     ·exact up a3
   ·simp [Eff.run] at h2
  case ptr id off=>
   obtain ⟨sz,es,lv,h1,h2⟩:=yy h
   cases he:es[off / sz]? with
   | none=>rw [he] at h2;simp [Eff.run] at h2
   | some e=>
    rw [he] at h2;obtain ⟨y,h3,h4⟩:=run_bind' h2
    simp only [Eff.run,Option.some.injEq] at h4;subst h4;obtain ⟨b,cap,g1,g2,g3⟩:=hI.rows id sz es lv h1
    obtain ⟨cs,c1,c2⟩:=g3.range he
    have c3:=ZB c2 (off % sz)
    rw [Nat.div_add_mod' off sz] at c3;rw [hv.inv_ptr g1];have hcr:=zaY (fm:=fm) (ok:=okB B G H w) (rep:=Rep fm G (okB B G H w) w) ih h3 (c1.drop (off % sz))
    exact J8 (.inr ⟨id,by simp,⟨_,_,_,h1⟩,cap,sz,g1⟩) (hcr.mono (fun v d hr=>yD (fun k hk=>by simp [hk]) hr)) c3
  case agg cs=>
   obtain ⟨y,h3,h4⟩:=run_bind' h
   simp only [Eff.run,Option.some.injEq] at h4;subst h4;obtain ⟨vs,rfl,hc⟩:=yH hv
   exact Yg vs (zaY (fm:=fm) (ok:=okB B G H w) ih h3 hc)
  case tup vs=>simp [Eff.run] at h
  case own sz es=>simp [Eff.run] at h
  all_goals
   simp only [Eff.run,Option.some.injEq] at h;subst h;refine simple rfl ?_
   cases hv with | closed h=>exact h
end
end
section
variable {P:Program} {fm:Nat→Nat} {B:qo} {w:World} {G:Gh} {H:zf}
structure ZY (fm:Nat→Nat) (B:qo) (w:World) (G:Gh) (H:zf) (vs:List Value) (k:Nat) (p:zac):Prop where
 rows:p.rows.length=p.bs.length
 row: ∀(m id:Nat) (bx:Bool),p.bs[m]? = some (id,bx)→ ∃sz es es' b cap,hat H id= .row sz es true∧G id= .row b cap sz∧p.rows[m]? = some (.row sz es' true) ∧
  RowOk (RepC fm (okI (okB B G H w) G H p.ids) w) w sz es' b cap
 arg: ∀(j:Nat) (v:Value) (x:D),vs[j]? = some v→p.args[j]? = some x→RepC fm (okI (okB B G H w) G H p.ids) w v x ∨
  (∃(m id:Nat) (bx:Bool) (b cap sz len:Nat),x= .ref (k+m) 0 len∧p.bs[m]? = some (id,bx)∧G id= .row b cap sz∧zdu v b cap sz 0 len) ∨
  (∃(m id:Nat) (bx:Bool) (b cap sz:Nat),x= .ptr (k+m) 0∧p.bs[m]? = some (id,bx)∧G id= .row b cap sz∧v= .pointer (some ⟨b,0,none⟩))
theorem ZY.cons {v:Value}{vs:List Value}{k:Nat}{y:zac}(h:ZY fm B w G H vs (k+1) y){x:D}{blk:Blk}{ids:List Nat}{id:Nat}{bx:Bool}
  (hrow: ∃sz es es' b cap,hat H id= .row sz es true∧G id= .row b cap sz∧blk= .row sz es' true∧RowOk (RepC fm (okI (okB B G H w) G H ids) w) w sz es' b cap)
  (harg:(∃(b cap sz len:Nat),x= .ref k 0 len∧G id= .row b cap sz∧zdu v b cap sz 0 len)∨(∃(b cap sz:Nat),x= .ptr k 0∧G id= .row b cap sz∧v= .pointer (some ⟨b,0,none⟩))) :
  ZY fm B w G H (v::vs) k ⟨x::y.args,blk::y.rows,ids++y.ids,(id,bx)::y.bs⟩:=by
 have up1: ∀ {u:Value} {d:D},RepC fm (okI (okB B G H w) G H ids) w u d→RepC fm (okI (okB B G H w) G H (ids++y.ids)) w u d:=fun hr=>yD (fun i hi=>by simp [hi]) hr
 have up2: ∀ {u:Value} {d:D},RepC fm (okI (okB B G H w) G H y.ids) w u d→RepC fm (okI (okB B G H w) G H (ids++y.ids)) w u d:=fun hr=>yD (fun i hi=>by simp [hi]) hr
 refine ⟨by simp [h.rows],fun m id' bx' hm=> ?_,fun j u d hj hd=> ?_⟩
 ·cases m with
  | zero=>
   simp at hm;obtain ⟨rfl,rfl⟩:=hm
   obtain ⟨sz,es,es',b,cap,a1,a2,rfl,a4⟩:=hrow
   exact ⟨sz,es,es',b,cap,a1,a2,rfl,a4.mono (fun v d hv=>up1 hv) rfl⟩
  | succ m=>
   obtain ⟨sz,es,es',b,cap,a1,a2,a3,a4⟩:=h.row m id' bx' (by simpa using hm)
   exact ⟨sz,es,es',b,cap,a1,a2,by simpa using a3,a4.mono (fun v d hv=>up2 hv) rfl⟩
 ·cases j with
  | zero=>
   simp at hj hd;subst hj;subst hd;rcases harg with ⟨b,cap,sz,len,rfl,a2,a3⟩ | ⟨b,cap,sz,rfl,a2,rfl⟩
   ·exact .inr (.inl ⟨0,id,bx,b,cap,sz,len,rfl,rfl,a2,a3⟩)
   ·exact .inr (.inr ⟨0,id,bx,b,cap,sz,rfl,rfl,a2,rfl⟩)
  | succ j=>
   rcases h.arg j u d (by simpa using hj) (by simpa using hd) with h | ⟨m,id',bx',b,cap,sz,len,rfl,a1,a2,a3⟩ | ⟨m,id',bx',b,cap,sz,rfl,a1,a2,a3⟩
   ·exact .inl (up2 h)
   ·exact .inr (.inl ⟨m+1,id',bx',b,cap,sz,len,by rw [show k+1+m=k+(m+1) by omega],by simpa using a1,a2,a3⟩)
   ·exact .inr (.inr ⟨m+1,id',bx',b,cap,sz,by rw [show k+1+m=k+(m+1) by omega],by simpa using a1,a2,a3⟩)
theorem ZY.plain {v:Value}{vs:List Value}{k:Nat}{y:zac}(h:ZY fm B w G H vs k y){x:D}{ids:List Nat}(hx:RepC fm (okI (okB B G H w) G H ids) w v x) :
  ZY fm B w G H (v::vs) k ⟨x::y.args,y.rows,ids++y.ids,y.bs⟩:=by
 have up1: ∀ {u:Value} {d:D},RepC fm (okI (okB B G H w) G H ids) w u d→RepC fm (okI (okB B G H w) G H (ids++y.ids)) w u d:=fun hr=>yD (fun i hi=>by simp [hi]) hr
 have up2: ∀ {u:Value} {d:D},RepC fm (okI (okB B G H w) G H y.ids) w u d→RepC fm (okI (okB B G H w) G H (ids++y.ids)) w u d:=fun hr=>yD (fun i hi=>by simp [hi]) hr
 refine ⟨h.rows,fun m id' bx' hm=> ?_,fun j u d hj hd=> ?_⟩
 ·obtain ⟨sz,es,es',b,cap,a1,a2,a3,a4⟩:=h.row m id' bx' hm
  exact ⟨sz,es,es',b,cap,a1,a2,a3,a4.mono (fun v d hv=>up2 hv) rfl⟩
 ·cases j with
  | zero=>
   simp at hj hd;subst hj;subst hd;exact .inl (up1 hx)
  | succ j=>
   rcases h.arg j u d (by simpa using hj) (by simpa using hd) with h | h | h
   ·exact .inl (up2 h)
   ·exact .inr (.inl h)
   ·exact .inr (.inr h)
theorem JX (hI:Inv fm B w G H): ∀ {args:List (Nat×D)} {vs:List Value} {k:Nat} {p:zac},vs.length=args.length →
  (∀(j:Nat) (v:Value) (q:Nat×D),vs[j]? = some v→args[j]? = some q→Rep fm G (okB B G H w) w v q.2)→(qX args k).run H=some p →
  p.args.length=args.length∧ZY fm B w G H vs k p
 | [],[],k,p,_,_,h=>by
  simp only [qX,Eff.run,Option.some.injEq] at h;subst h;exact ⟨rfl,rfl,by simp,by simp⟩
 | (m,d)::rest,v::vs,k,p,hl,hr,h=>by
  have hv:Rep fm G (okB B G H w) w v d:=hr 0 v (m,d) rfl rfl
  have hr': ∀(j:Nat) (v:Value) (q:Nat×D),vs[j]? = some v→rest[j]? = some q→Rep fm G (okB B G H w) w v q.2:=fun j u q h1 h2=>hr (j+1) u q (by simpa using h1) (by simpa using h2)
  have hl':vs.length=rest.length:=by simpa using hl
  have fz: ∀ {v d x},(frz ya d).run H=some x→Rep fm G (okB B G H w) w v d→RepC fm (okI (okB B G H w) G H x.2) w v x.1:=fun h hv=>Um hI ya h hv
  unfold qX at h;split at h
  ·rename_i id off len;obtain ⟨⟨sz',es',l1⟩,l2⟩:=jv h
   obtain ⟨sz,es,lv,g1,g2⟩:=yy l2
   rw [l1] at g1;injection g1 with q1 q2 q3;subst q1;subst q2;subst q3;split at g2
   ·rename_i hc;obtain ⟨rfl,rfl⟩:=hc
    obtain ⟨x,h3,h4⟩:=run_bind' g2
    obtain ⟨y,h5,h6⟩:=run_bind' h4
    simp only [Eff.run,Option.some.injEq] at h6;subst h6;obtain ⟨p1,p2⟩:=JX hI hl' hr' h5
    obtain ⟨b,cap,k1,k2,k3⟩:=hI.rows id sz' es' true l1
    exact ⟨by simp [p1],p2.cons ⟨sz',es',x.1,b,cap,l1,k1,rfl,QB fz h3 k3⟩ (.inl ⟨b,cap,sz',es'.length,rfl,k1,hv.inv_ref k1⟩)⟩
   ·simp [Eff.run] at g2
  ·rename_i id off;obtain ⟨⟨sz',es',l1⟩,l2⟩:=jv h
   obtain ⟨sz,es,lv,g1,g2⟩:=yy l2
   rw [l1] at g1;injection g1 with q1 q2 q3;subst q1;subst q2;subst q3;split at g2
   ·rename_i hc;subst hc;obtain ⟨x,h3,h4⟩:=run_bind' g2
    obtain ⟨y,h5,h6⟩:=run_bind' h4
    simp only [Eff.run,Option.some.injEq] at h6;subst h6;obtain ⟨p1,p2⟩:=JX hI hl' hr' h5
    obtain ⟨b,cap,k1,k2,k3⟩:=hI.rows id sz' es' true l1
    exact ⟨by simp [p1],p2.cons ⟨sz',es',x.1,b,cap,l1,k1,rfl,QB fz h3 k3⟩ (.inr ⟨b,cap,sz',rfl,k1,hv.inv_ptr k1⟩)⟩
   ·simp [Eff.run] at g2
  ·obtain ⟨x,h3,h4⟩:=run_bind' h
   obtain ⟨y,h5,h6⟩:=run_bind' h4
   simp only [Eff.run,Option.some.injEq] at h6;subst h6;obtain ⟨p1,p2⟩:=JX hI hl' hr' h5
   exact ⟨by simp [p1],p2.plain (fz h3 hv)⟩
theorem Yv: ∀ {l:List Nat},zP l=true→ ∀ {i j x:Nat},l[i]? = some x→l[j]? = some x→i=j
 | [],_,i,j,x,h,_=>by simp at h
 | y::l,hn,i,j,x,h1,h2=>by
  simp only [zP,Bool.and_eq_true,Bool.not_eq_true',List.contains_eq_mem,decide_eq_false_iff_not] at hn;obtain ⟨n1,n2⟩:=hn
  cases i with
  | zero=>
   cases j with
   | zero=>rfl
   | succ j=>
    simp at h1 h2;subst h1;exact absurd (List.mem_of_getElem? h2) n1
  | succ i=>
   cases j with
   | zero=>
    simp at h1 h2;subst h2;exact absurd (List.mem_of_getElem? h1) n1
   | succ j=>
    have:=Yv n2 (i:=i) (j:=j) (x:=x) (by simpa using h1) (by simpa using h2)
    omega
theorem jm {xs ys:List Nat}(h:apart xs ys=true){x:Nat}(h1:x∈xs)(h2:x∈ys):False:=by
 simp only [apart,List.all_eq_true,Bool.not_eq_true',List.contains_eq_mem,decide_eq_false_iff_not] at h;exact h x h1 h2
theorem zb5 {n:Nat}{d:D}{x:D×List Nat}(h:(frz n d).run H=some x): ∀sz es,x.1 ≠ .own sz es:=by
 intro sz es e
 cases n with
 | zero=>simp [frz,Eff.run] at h
 | succ n=>
  cases d<;>simp only [frz] at h
  case ref id off len=>
   obtain ⟨_,_,_,_,h2⟩:=yy h
   split at h2
   ·obtain ⟨y,_,h4⟩:=run_bind' h2
    simp only [Eff.run,Option.some.injEq] at h4;subst h4;cases e
   ·simp [Eff.run] at h2
  case ptr id off=>
   obtain ⟨_,_,_,_,h2⟩:=yy h
   split at h2
   ·obtain ⟨y,_,h4⟩:=run_bind' h2
    simp only [Eff.run,Option.some.injEq] at h4;subst h4;cases e
   ·simp [Eff.run] at h2
  case agg cs=>
   obtain ⟨y,_,h4⟩:=run_bind' h
   simp only [Eff.run,Option.some.injEq] at h4;subst h4;cases e
  case tup=>simp [Eff.run] at h
  case own=>simp [Eff.run] at h
  all_goals
   simp only [Eff.run,Option.some.injEq] at h;subst h;cases e
theorem zhA (hI:Inv fm B w G H){v:Value}{d:D}{x:D×List Nat×List Nat}(hv:Rep fm G (okB B G H w) w v d)(h:Y0 H d=some x) :
  (x.2.1= []∧(∀sz es,x.1 ≠ .own sz es)∧RepC fm (okI (okB B G H w) G H x.2.2) w v x.1) ∨
  (∃id sz es es' b cap,x.2.1= [id]∧x.1= .own sz es'∧hat H id= .row sz es true∧G id= .row b cap sz∧zdu v b cap sz 0 es'.length∧RowOk (RepC fm (okI (okB B G H w) G H x.2.2) w) w sz es' b cap):=by
 have fz: ∀ {v d x},(frz ya d).run H=some x→Rep fm G (okB B G H w) w v d→RepC fm (okI (okB B G H w) G H x.2) w v x.1:=fun h hv=>Um hI ya h hv
 have plain:((frz ya d).run H).map (fun x=>(x.1,([]:List Nat),x.2))=some x→(x.2.1= []∧(∀sz es,x.1 ≠ .own sz es)∧RepC fm (okI (okB B G H w) G H x.2.2) w v x.1):=by
  intro h;simp only [Option.map_eq_some_iff] at h;obtain ⟨y,h1,rfl⟩:=h
  exact ⟨rfl,zb5 h1,fz h1 hv⟩
 unfold Y0 at h;split at h
 ·rename_i id off len;split at h
  ·rename_i sz es hh;split at h
   ·rename_i hc;obtain ⟨rfl,rfl⟩:=hc
    simp only [Option.map_eq_some_iff] at h;obtain ⟨y,h1,rfl⟩:=h
    obtain ⟨b,cap,k1,k2,k3⟩:=hI.rows id sz es true hh
    refine .inr ⟨id,sz,es,y.1,b,cap,rfl,rfl,hh,k1,?_,QB fz h1 k3⟩
    rw [(Yw h1).1];exact hv.inv_ref k1
   ·exact .inl (plain h)
  ·exact .inl (plain h)
 ·exact .inl (plain h)
structure ziq (fm:Nat→Nat) (B:qo) (w:World) (G:Gh) (H:zf) (vs:List Value) (l:List D) (im:List (Nat×Blk)) (U V:List Nat):Prop where
 len:im.length=U.length
 row: ∀(k q:Nat) (blk:Blk),im[k]? = some (q,blk)→ ∃u sz es es' b cap,U[k]? = some u∧blk= .row sz es' true∧hat H u= .row sz es true∧G u= .row b cap sz ∧
  RowOk (RepC fm (okI (okB B G H w) G H V) w) w sz es' b cap
 res: ∀(j:Nat) (v:Value) (d:D),vs[j]? = some v→l[j]? = some d→RepC fm (okI (okB B G H w) G H V) w v d ∨
  (∃(k q:Nat) (blk:Blk) (u b cap sz len:Nat),d= .ref q 0 len∧im[k]? = some (q,blk)∧U[k]? = some u∧G u= .row b cap sz∧zdu v b cap sz 0 len)
theorem zfu (hI:Inv fm B w G H): ∀ {ds:List D} {vs:List Value} {x:List D×List Nat×List Nat},vs.length=ds.length →
  (∀(j:Nat) (v:Value) (d:D),vs[j]? = some v→ds[j]? = some d→Rep fm G (okB B G H w) w v d)→QP H ds=some x→ ∀r,
  x.1.length=ds.length∧(zA r x.1).1.length=ds.length∧ziq fm B w G H vs (zA r x.1).1 (zA r x.1).2 x.2.1 x.2.2∧(∀q∈(zA r x.1).2.map (·.1),r≤q)∧zP ((zA r x.1).2.map (·.1))=true
 | [],[],x,_,_,h,r=>by
  simp only [QP,Option.some.injEq] at h;subst h;exact ⟨rfl,rfl,⟨rfl,by simp [zA],by simp⟩,by simp [zA],rfl⟩
 | d::ds,v::vs,x,hl,hr,h,r=>by
  simp only [QP,Option.bind_eq_some_iff] at h;obtain ⟨a,h1,y,h2,h3⟩:=h
  simp only [Option.some.injEq] at h3;subst h3;have hv:=hr 0 v d rfl rfl
  obtain ⟨i1,i2,i3,i4,i5⟩:=zfu hI (by simpa using hl) (fun j u e h1 h2=>hr (j+1) u e (by simpa using h1) (by simpa using h2)) h2 (r+1)
  have up1: ∀ {u:Value} {e:D},RepC fm (okI (okB B G H w) G H a.2.2) w u e→RepC fm (okI (okB B G H w) G H (a.2.2++y.2.2)) w u e:=fun hr=>yD (fun i hi=>by simp [hi]) hr
  have up2: ∀ {u:Value} {e:D},RepC fm (okI (okB B G H w) G H y.2.2) w u e→RepC fm (okI (okB B G H w) G H (a.2.2++y.2.2)) w u e:=fun hr=>yD (fun i hi=>by simp [hi]) hr
  rcases zhA hI hv h1 with ⟨e1,e2,e3⟩ | ⟨id,sz,es,es',b,cap,e1,e2,e3,e4,e5,e6⟩
  ·have him:jY r a.1=(a.1,[]):=by
    unfold jY;split
    ·rename_i sz es e;exact absurd e (e2 sz es)
    ·rfl
   simp only [zA,him,e1,List.nil_append];refine ⟨by simp [i1],by simp [i2],⟨i3.len,fun k q blk hk=> ?_,fun j u e hj he=> ?_⟩,fun q hq=>by have:=i4 q hq;omega,i5⟩
   ·obtain ⟨u,sz,es,es',b,cap,a1,a2,a3,a4,a5⟩:=i3.row k q blk hk
    exact ⟨u,sz,es,es',b,cap,a1,a2,a3,a4,a5.mono (fun v d hv=>up2 hv) rfl⟩
   ·cases j with
    | zero=>simp at hj he;subst hj;subst he;exact .inl (up1 e3)
    | succ j=>
     rcases i3.res j u e (by simpa using hj) (by simpa using he) with h | h
     ·exact .inl (up2 h)
     ·exact .inr h
  ·have him:jY r a.1=(.ref r 0 es'.length,[(r,.row sz es' true)]):=by rw [e2];rfl
   simp only [zA,him,e1,List.singleton_append];refine ⟨by simp [i1],by simp [i2],⟨by simp [i3.len],fun k q blk hk=> ?_,fun j u e hj he=> ?_⟩,fun q hq=> ?_,?_⟩
   ·cases k with
    | zero=>
     simp at hk;obtain ⟨rfl,rfl⟩:=hk
     exact ⟨id,sz,es,es',b,cap,rfl,rfl,e3,e4,e6.mono (fun v d hv=>up1 hv) rfl⟩
    | succ k=>
     obtain ⟨u,sz,es,es',b,cap,a1,a2,a3,a4,a5⟩:=i3.row k q blk (by simpa using hk)
     exact ⟨u,sz,es,es',b,cap,by simpa using a1,a2,a3,a4,a5.mono (fun v d hv=>up2 hv) rfl⟩
   ·cases j with
    | zero=>
     simp at hj he;subst hj;subst he;exact .inr ⟨0,r,_,id,b,cap,sz,es'.length,rfl,rfl,rfl,e4,e5⟩
    | succ j=>
     rcases i3.res j u e (by simpa using hj) (by simpa using he) with h | ⟨k,q,blk,u',b',cap',sz',len,a1,a2,a3,a4,a5⟩
     ·exact .inl (up2 h)
     ·exact .inr ⟨k+1,q,blk,u',b',cap',sz',len,a1,by simpa using a2,by simpa using a3,a4,a5⟩
   ·simp only [List.map_cons,List.mem_cons] at hq;rcases hq with rfl | hq
    ·exact Nat.le_refl _
    ·have:=i4 q hq;omega
   ·simp only [List.map_cons,zP,Bool.and_eq_true,Bool.not_eq_true',List.contains_eq_mem,decide_eq_false_iff_not];exact ⟨fun hq=>by have:=i4 r hq;omega,i5⟩
theorem UR (hI:Inv fm B w G H): ∀ {bs:List (Nat×Bool)} {k:Nat} {x:List (Nat×Blk)×List Nat},ZJ H k bs=some x →
  x.1.length=bs.length∧ ∀(m id:Nat) (bx:Bool),bs[m]? = some (id,bx)→(bx=false∧x.1[m]? = some (id,.dead)) ∨
   (bx=true∧k+m∈yL k bs∧ ∃sz es es' b cap,x.1[m]? = some (id,.row sz es' true)∧hat H (k+m)= .row sz es true∧G (k+m)= .row b cap sz∧RowOk (RepC fm (okI (okB B G H w) G H x.2) w) w sz es' b cap)
 | [],k,x,h=>by
  simp only [ZJ,Option.some.injEq] at h;subst h;exact ⟨rfl,by simp⟩
 | (id0,true)::bs,k,x,h=>by
  simp only [ZJ] at h;split at h
  ·rename_i sz es hh;simp only [Option.bind_eq_some_iff] at h;obtain ⟨a,h1,y,h2,h3⟩:=h
   simp only [Option.some.injEq] at h3;subst h3;obtain ⟨i1,i2⟩:=UR hI h2
   have fz: ∀ {v d x},(frz ya d).run H=some x→Rep fm G (okB B G H w) w v d→RepC fm (okI (okB B G H w) G H x.2) w v x.1:=fun h hv=>Um hI ya h hv
   have up1: ∀ {u:Value} {e:D},RepC fm (okI (okB B G H w) G H a.2) w u e→RepC fm (okI (okB B G H w) G H (a.2++y.2)) w u e:=fun hr=>yD (fun i hi=>by simp [hi]) hr
   have up2: ∀ {u:Value} {e:D},RepC fm (okI (okB B G H w) G H y.2) w u e→RepC fm (okI (okB B G H w) G H (a.2++y.2)) w u e:=fun hr=>yD (fun i hi=>by simp [hi]) hr
   refine ⟨by simp [i1],fun m id bx hm=> ?_⟩
   cases m with
   | zero=>
    simp at hm;obtain ⟨rfl,rfl⟩:=hm
    obtain ⟨b,cap,k1,k2,k3⟩:=hI.rows k sz es true hh
    exact .inr ⟨rfl,by simp [yL],sz,es,a.1,b,cap,rfl,hh,k1,(QB fz h1 k3).mono (fun v d hv=>up1 hv) rfl⟩
   | succ m=>
    rcases i2 m id bx (by simpa using hm) with ⟨h,h'⟩ | ⟨h,hk,sz',es',es'',b,cap,a1,a2,a3,a4⟩
    ·exact .inl ⟨h,by simpa using h'⟩
    ·refine .inr ⟨h,?_,sz',es',es'',b,cap,by simpa using a1,?_,?_,a4.mono (fun v d hv=>up2 hv) rfl⟩
     ·rw [show k+(m+1)=k+1+m by omega];simp [yL,hk]
     ·rw [show k+(m+1)=k+1+m by omega];exact a2
     ·rw [show k+(m+1)=k+1+m by omega];exact a3
  ·cases h
 | (id0,false)::bs,k,x,h=>by
  simp only [ZJ,Option.bind_eq_some_iff] at h;obtain ⟨y,h2,h3⟩:=h
  simp only [Option.some.injEq] at h3;subst h3;obtain ⟨i1,i2⟩:=UR hI h2
  refine ⟨by simp [i1],fun m id bx hm=> ?_⟩
  cases m with
  | zero=>
   simp at hm;obtain ⟨rfl,rfl⟩:=hm
   exact .inl ⟨rfl,rfl⟩
  | succ m=>
   rcases i2 m id bx (by simpa using hm) with ⟨h,h'⟩ | ⟨h,hk,sz',es',es'',b,cap,a1,a2,a3,a4⟩
   ·exact .inl ⟨h,by simpa using h'⟩
   ·refine .inr ⟨h,?_,sz',es',es'',b,cap,by simpa using a1,?_,?_,a4⟩
    ·rw [show k+(m+1)=k+1+m by omega];simp [yL,hk]
    ·rw [show k+(m+1)=k+1+m by omega];exact a2
    ·rw [show k+(m+1)=k+1+m by omega];exact a3
theorem JJ: ∀(ws:List (Nat×Blk)) (H:zf),(ye H ws).length=H.length
 | [],H=>rfl
 | (i,b)::ws,H=>by simp [ye,JJ ws]
theorem yt: ∀(ws:List (Nat×Blk)) (H:zf) (j:Nat),(∀x∈ws,x.1≠j)→hat (ye H ws) j=hat H j
 | [],H,j,_=>rfl
 | (i,b)::ws,H,j,h=>by
  rw [ye,yt ws _ j (fun x hx=>h x (by simp [hx])),qJ _ (h (i,b) (by simp))]
theorem US: ∀(ws:List (Nat×Blk)) (H:zf) (k i:Nat) (b:Blk),zP (ws.map (·.1))=true→ws[k]? = some (i,b)→i<H.length→hat (ye H ws) i=b
 | [],H,k,i,b,_,h,_=>by simp at h
 | (i0,b0)::ws,H,k,i,b,hn,h,hl=>by
  simp only [List.map_cons,zP,Bool.and_eq_true,Bool.not_eq_true',List.contains_eq_mem,decide_eq_false_iff_not] at hn
  cases k with
  | zero=>
   simp at h;obtain ⟨rfl,rfl⟩:=h
   rw [ye,yt ws _ i0 (fun x hx e=>hn.1 (by rw [←e];exact List.mem_map_of_mem hx)),ZC hl]
  | succ k=>exact US ws _ k i b hn.2 (by simpa using h) (by simpa using hl)
theorem YL (b:Blk):freeze (freeze b)=freeze b:=by cases b<;>rfl
theorem yG: ∀(is:List Nat) (H:zf) (j:Nat),hat (qD H is) j=if j∈is then freeze (hat H j) else hat H j
 | [],H,j=>by simp [qD]
 | i::is,H,j=>by
  rw [qD,yG is,zb4];by_cases h1:j∈is
  ·by_cases h2:i=j
   ·simp [h1,h2,YL]
   ·simp [h1,h2]
  ·by_cases h2:i=j
   ·subst h2;simp [h1]
   ·have: ¬j=i:=fun e=>h2 e.symm
    simp [h1,h2,this]
theorem U4 {xs ys:List Nat}(h1:zP xs=true)(h2:zP ys=true)(h3: ∀x∈xs,x ∉ ys):zP (xs++ys)=true:=by
 induction xs with
 | nil=>simpa using h2
 | cons x xs ih=>
  simp only [zP,Bool.and_eq_true,Bool.not_eq_true',List.contains_eq_mem,decide_eq_false_iff_not,List.cons_append] at h1 ⊢
  refine ⟨?_,ih h1.2 (fun y hy=>h3 y (by simp [hy]))⟩
  simp only [List.mem_append,not_or];exact ⟨h1.1,h3 x (by simp)⟩
end
end Go.Pi
