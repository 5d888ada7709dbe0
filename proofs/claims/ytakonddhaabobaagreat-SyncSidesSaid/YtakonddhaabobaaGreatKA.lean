import Derived.Test.YtakonddhaabobaaGreatJA
import Derived.Test.YtakonddhaabobaaGreatPF
set_option linter.all false
namespace Go.Pi
set_option linter.unusedVariables false
def at? {α : Type} (l : List α) (z : Int) : Option α := if 0 ≤ z then l[z.toNat]? else none
def room {α : Type} (n bytes : Nat) (m : Option α) : Option α := if n ≤ roomy ∧ n * bytes ≤ roomy then m else none
def sl {α : Type} (l : List α) (p : Nat × Nat) : List α := (l.drop p.1).take (p.2 - p.1)
def nz {α : Type} (z : Int) (m : Option α) : Option α := if z = 0 then none else m
def nn {α : Type} (z : Int) (m : Option α) : Option α := if z < 0 then none else m
def inr? {α : Type} (z : Int) (n : Nat) (m : Option α) : Option α := if 0 ≤ z ∧ z < n then m else none
def mkS (bytes : Nat) (n : Int) : Option Nat := if 0 ≤ n ∧ n ≤ roomy ∧ n * bytes ≤ roomy then some n.toNat else none
def fcase {α : Type} (e : Fl) (f : Nat → Option α) (z : Option α) : Option α := match e with
 | some n => f n
 | none => z
def bytesL (l : List Int) : List UInt8 := l.map fun n => UInt8.ofNat n.toNat
def strL (t : List UInt8) : List Int := t.map fun c => ((c.toNat : Nat) : Int)
def iter {P Q : Type} : Nat → (P → Option (P ⊕ Q)) → P → Option Q
 | 0, _, _ => none
 | k + 1, f, p => (f p).bind fun x => match x with
  | .inl p' => iter k f p'
  | .inr q => some q
inductive Code where
 | int (k : IntKind)
 | bool
 | flt
 | str
 | list (c : Code)
 | own (c : Code)
 | arr (n : Nat) (k : IntKind)
 | st (i : Nat)
 deriving DecidableEq, Inhabited
section
variable (S : Nat → Type)
@[reducible] def T : Code → Type
 | .int _ => Int
 | .bool => Bool
 | .flt => Fl
 | .str => List UInt8
 | .list c => List (T c)
 | .own c => List (T c)
 | .arr n _ => {l : List Int // l.length = n}
 | .st i => S i
@[reducible] def Flds : List Code → Type
 | [] => Unit
 | c :: cs => T S c × Flds cs
end
section
variable {S : Nat → Type}
def wid (wd : Nat → Nat) : Code → Nat
 | .arr n _ => n
 | .st i => wd i
 | _ => 1
def encs (wd : Nat → Nat) (Dd : ∀ i, S i → List D) : (c : Code) → T S c → List D
 | .int k, n => [.int k n]
 | .bool, b => [.bool b]
 | .flt, f => [.flt f]
 | .str, s => [.str s]
 | .list c, l => [.lst (wid wd c) (List.map (encs wd Dd c) l)]
 | .own c, l => [.lst (wid wd c) (List.map (encs wd Dd c) l)]
 | .arr _ k, a => a.1.map fun n => .int k n
 | .st i, v => Dd i v
def encF (wd : Nat → Nat) (Dd : ∀ i, S i → List D) : (cs : List Code) → Flds S cs → List D
 | [], _ => []
 | c :: cs, p => encs wd Dd c p.1 ++ encF wd Dd cs p.2
end
def cellD : D → Bool
 | .int _ _ => true
 | .bool _ => true
 | .flt _ => true
 | .str _ => true
 | .lst _ _ => true
 | _ => false
def wids (wd : Nat → Nat) : List Code → Nat
 | [] => 0
 | c :: cs => wid wd c + wids wd cs
class Sig (S : Nat → Type) where
 wd : Nat → Nat
 Dd : ∀ i, S i → List D
 fields : Nat → List Code
 split : ∀ i, S i → Flds S (fields i)
 join : ∀ i, Flds S (fields i) → S i
 sj : ∀ i f, split i (join i f) = f
 hD : ∀ i v, Dd i v = encF wd Dd (fields i) (split i v)
 hw : ∀ i, wd i = wids wd (fields i)
 hl : ∀ i v, (Dd i v).length = wd i
 hc : ∀ i v, ∀ d ∈ Dd i v, cellD d = true
section
variable {S : Nat → Type} [Sg : Sig S]
abbrev W (c : Code) : Nat := wid (Sg.wd) c
abbrev en (c : Code) (v : T S c) : List D := encs Sg.wd Sg.Dd c v
theorem encs_len : ∀ (c : Code) (v : T S c), (en c v).length = W (S := S) c
 | .int _, _ | .bool, _ | .flt, _ | .str, _ | .list _, _ | .own _, _ => rfl
 | .arr n k, a => by simp [encs, wid, a.2]
 | .st i, v => Sg.hl i v
theorem en_cell : ∀ (c : Code) (v : T S c), ∀ d ∈ en c v, cellD d = true
 | .int _, _, _, h | .bool, _, _, h | .flt, _, _, h | .str, _, _, h | .list _, _, _, h | .own _, _, _, h => by
  cases h with
  | head => rfl
  | tail _ h => cases h
 | .arr n k, a, d, h => by
  obtain ⟨x, _, rfl⟩ := List.mem_map.mp h
  rfl
 | .st i, v, d, h => Sg.hc i v d h
def Code.sim : Code → Code → Bool
 | .int k, .int k' => decide (k = k')
 | .bool, .bool => true
 | .flt, .flt => true
 | .str, .str => true
 | .list c, .list d => c.sim d
 | .list c, .own d => c.sim d
 | .own c, .list d => c.sim d
 | .own c, .own d => c.sim d
 | .arr n k, .arr m k' => Nat.beq n m && decide (k = k')
 | .st i, .st j => Nat.beq i j
 | _, _ => false
omit Sg in
theorem sim_ok (Dd : ∀ i, S i → List D) (wd : Nat → Nat) : ∀ {c d : Code}, c.sim d = true → ∃ h : T S c = T S d, wid wd c = wid wd d ∧ ∀ v, encs wd Dd d (cast h v) = encs wd Dd c v
 | .int k, .int k', h => by simp [Code.sim] at h; subst h; exact ⟨rfl, rfl, fun _ => rfl⟩
 | .bool, .bool, _ | .flt, .flt, _ | .str, .str, _ => ⟨rfl, rfl, fun _ => rfl⟩
 | .arr n k, .arr m k', h => by
  simp only [Code.sim, Bool.and_eq_true, decide_eq_true_eq] at h
  obtain ⟨h1, rfl⟩ := h
  obtain rfl := Nat.eq_of_beq_eq_true h1
  exact ⟨rfl, rfl, fun _ => rfl⟩
 | .st i, .st j, h => by
  obtain rfl := Nat.eq_of_beq_eq_true h
  exact ⟨rfl, rfl, fun _ => rfl⟩
 | .list c, .list d, h | .list c, .own d, h | .own c, .list d, h | .own c, .own d, h => by
  obtain ⟨h1, h2, h3⟩ := sim_ok Dd wd (c := c) (d := d) h
  refine ⟨by simp only [T, h1], rfl, fun v => ?_⟩
  simp only [encs, h2]
  refine congrArg (fun x => [D.lst (wid wd d) x]) ?_
  have : ∀ (A B : Type) (e : A = B) (e' : List A = List B) (f : A → List D) (g : B → List D), (∀ a, g (cast e a) = f a) → ∀ v : List A, List.map g (cast e' v) = List.map f v := by
   intro A B e e' f g hfg v
   subst e
   exact congrArg (fun q => List.map q v) (funext hfg)
  exact this _ _ h1 _ _ _ h3 v
 | .int _, .bool, h | .int _, .flt, h | .int _, .str, h | .int _, .list _, h | .int _, .own _, h | .int _, .arr _ _, h | .int _, .st _, h => nomatch h
 | .bool, .int _, h | .bool, .flt, h | .bool, .str, h | .bool, .list _, h | .bool, .own _, h | .bool, .arr _ _, h | .bool, .st _, h => nomatch h
 | .flt, .int _, h | .flt, .bool, h | .flt, .str, h | .flt, .list _, h | .flt, .own _, h | .flt, .arr _ _, h | .flt, .st _, h => nomatch h
 | .str, .int _, h | .str, .bool, h | .str, .flt, h | .str, .list _, h | .str, .own _, h | .str, .arr _ _, h | .str, .st _, h => nomatch h
 | .list _, .int _, h | .list _, .bool, h | .list _, .flt, h | .list _, .str, h | .list _, .arr _ _, h | .list _, .st _, h => nomatch h
 | .own _, .int _, h | .own _, .bool, h | .own _, .flt, h | .own _, .str, h | .own _, .arr _ _, h | .own _, .st _, h => nomatch h
 | .arr _ _, .int _, h | .arr _ _, .bool, h | .arr _ _, .flt, h | .arr _ _, .str, h | .arr _ _, .list _, h | .arr _ _, .own _, h | .arr _ _, .st _, h => nomatch h
 | .st _, .int _, h | .st _, .bool, h | .st _, .flt, h | .st _, .str, h | .st _, .list _, h | .st _, .own _, h | .st _, .arr _ _, h => nomatch h
def conv (c d : Code) (v : T S c) : Option (T S d) := if h : c.sim d = true then some (cast (sim_ok Sg.Dd Sg.wd h).1 v) else none
theorem conv_ok {c d : Code} {v : T S c} {w : T S d} (h : conv c d v = some w) : en d w = en c v ∧ W (S := S) c = W (S := S) d := by
 simp only [conv] at h
 split at h
 ·rename_i hs
  cases h
  exact ⟨(sim_ok Sg.Dd Sg.wd hs).2.2 v, (sim_ok Sg.Dd Sg.wd hs).2.1⟩
 ·cases h
end
mutual
theorem Nr.rfl' : ∀ d : D, Nr d d
 | .lst sz es => .inr ⟨es, rfl, Nr.rflE es⟩
 | .fptr cs => ⟨cs, rfl, Nr.rflC cs⟩
 | .agg cs => ⟨cs, rfl, Nr.rflC cs⟩
 | .undef | .skip | .bool _ | .int _ _ | .flt _ | .str _ | .nil | .own _ _ | .ref _ _ _ | .ptr _ _ | .nilp | .tup _ | .fn _ => rfl
theorem Nr.rflC : ∀ l : List D, NrC l l
 | [] => trivial
 | c :: cs => ⟨Nr.rfl' c, Nr.rflC cs⟩
theorem Nr.rflE : ∀ l : List (List D), NrE l l
 | [] => trivial
 | c :: cs => ⟨Nr.rflC c, Nr.rflE cs⟩
end
end Go.Pi
namespace Go.Pi
set_option linter.unusedVariables false
inductive Val (S : Nat → Type) where
 | undef
 | skip
 | nil
 | nilp
 | fn (n : Nat)
 | one (n : Nat) (c : Code) (v : T S c)
 | agg (vs : List (Val S))
 | tup (vs : List (Val S))
 | whole (o : Nat) (p : List Nat)
 | win (o : Nat) (p : List Nat) (off len : Nat)
 | ptr (o : Nat) (p : List Nat) (i j : Nat)
 | fp (n : Nat) (c : Code) (v : T S c) (j : Nat)
 | pa (o j z len : Nat)
inductive Obj (S : Nat → Type) where
 | row (n : Nat) (e : Code) (l : List (T S e))
 | box (pn : Option Nat) (vs : List (Val S))
structure TS (S : Nat → Type) where
 sl : List (Nat × Val S)
 hp : List (Nat × Obj S)
 nx : Nat
 av : List Nat
 gh : Bool
def look {α : Type} : List (Nat × α) → Nat → Option α
 | [], _ => none
 | (j, v) :: E, i => match Nat.beq j i with
  | true => some v
  | false => look E i
def rem {α : Type} : List (Nat × α) → Nat → List (Nat × α)
 | [], _ => []
 | (j, v) :: E, i => match Nat.beq j i with
  | true => rem E i
  | false => (j, v) :: rem E i
theorem look_rem {α : Type} : ∀ {E : List (Nat × α)} {i j : Nat} {v : α}, look (rem E i) j = some v → look E j = some v ∧ j ≠ i
 | [], _, _, _, h => nomatch h
 | (k, w) :: E, i, j, v, h => by
  simp only [rem] at h
  split at h
  ·rename_i hk
   obtain ⟨h1, h2⟩ := look_rem h
   refine ⟨?_, h2⟩
   have hkj : Nat.beq k j = false := by
    rw [Nat.eq_of_beq_eq_true hk]
    cases q : Nat.beq i j
    ·rfl
    ·exact absurd (Nat.eq_of_beq_eq_true q).symm h2
   simp only [look, hkj, h1]
  ·rename_i hk
   simp only [look] at h ⊢
   split at h
   ·rename_i q
    cases h
    refine ⟨rfl, fun e => ?_⟩
    subst e
    rw [q] at hk
    cases hk
   ·exact look_rem h
section
variable {S : Nat → Type} [Sg : Sig S]
abbrev Rho := Nat → List Nat → Option (Option Nat)
def refD : Option Nat → Nat → D
 | some id, n => .ref id 0 n
 | none, _ => .nil
def VR1 (ρ : Rho) (H : Heap) : Val S → D → Prop
 | .undef, _ => True
 | .skip, d => d = .skip
 | .nil, d => d = .nil
 | .nilp, d => d = .nilp
 | .fn n, d => d = .fn n
 | .whole o p, d => (∃ id sz es, ρ o p = some (some id) ∧ hat H id = .row sz es true ∧ d = .ref id 0 es.length) ∨ (ρ o p = some none ∧ d = .nil)
 | .win o p off len, d => (∃ id sz es, ρ o p = some (some id) ∧ hat H id = .row sz es true ∧ off + len ≤ es.length ∧ d = .ref id off len) ∨ (ρ o p = some none ∧ off = 0 ∧ len = 0 ∧ d = .nil)
 | .ptr o p i j, d => ∃ id sz es, ρ o p = some (some id) ∧ hat H id = .row sz es true ∧ j < sz ∧ d = .ptr id (i * sz + j)
 | .fp n c v j, d => ∃ r, Cl H n (.fptr ((en c v).drop j ++ r)) d
 | .pa o j z len, d => ∃ id sz es, ρ o [] = some (some id) ∧ hat H id = .row sz es true ∧ z < len ∧ j + z < sz ∧ d = .ptr id (j + z)
 | .one _ _ _, _ => False
 | .agg _, _ => False
 | .tup _, _ => False
def VC (ρ : Rho) (H : Heap) : Val S → List D → Prop
 | .one n c v, ds => All2 (Cl H n) (en c v) ds
 | v, ds => ∃ d, ds = [d] ∧ VR1 ρ H v d
def VCs (ρ : Rho) (H : Heap) : List (Val S) → List D → Prop
 | [], ds => ds = []
 | v :: vs, ds => ∃ a b, ds = a ++ b ∧ VC ρ H v a ∧ VCs ρ H vs b
def isAgg : Code → Bool
 | .arr _ _ => true
 | .st _ => true
 | _ => false
def VSx (ρ : Rho) (H : Heap) : Val S → D → Prop
 | .one n c v, d => match isAgg c with
  | true => ∃ ds, d = .agg ds ∧ All2 (Cl H n) (en c v) ds
  | false => All2 (Cl H n) (en c v) [d]
 | .agg vs, d => ∃ ds, d = .agg ds ∧ VCs ρ H vs ds
 | v, d => VR1 ρ H v d
def VS (ρ : Rho) (H : Heap) : Val S → D → Prop
 | .tup vs, d => ∃ ds, d = .tup ds ∧ All2 (VSx ρ H) vs ds
 | v, d => VSx ρ H v d
def RowB {α : Type} (H : Heap) (sz : Nat) (ρ : List Nat → Option (Option Nat)) (l : List α) (E : Nat → α → List D → Prop) : Prop :=
 (ρ [] = some none ∧ l = []) ∨ ∃ id es, ρ [] = some (some id) ∧ hat H id = .row sz es true ∧ es.length = l.length ∧ ∀ i v, l[i]? = some v → ∃ ds, es[i]? = some ds ∧ E i v ds
def RowR (H : Heap) (n : Nat) : (e : Code) → (List Nat → Option (Option Nat)) → List (T S e) → Prop
 | .own e, ρ, l => RowB H 1 ρ l fun i v ds => ∃ x, ρ [i] = some x ∧ ds = [refD x (List.length v)] ∧ RowR H n e (fun q => ρ (i :: q)) v
 | .int k, ρ, l => RowB H 1 ρ l fun _ v ds => All2 (Cl H n) (en (.int k) v) ds
 | .bool, ρ, l => RowB H 1 ρ l fun _ v ds => All2 (Cl H n) (en .bool v) ds
 | .flt, ρ, l => RowB H 1 ρ l fun _ v ds => All2 (Cl H n) (en .flt v) ds
 | .str, ρ, l => RowB H 1 ρ l fun _ v ds => All2 (Cl H n) (en .str v) ds
 | .list c, ρ, l => RowB H 1 ρ l fun _ v ds => All2 (Cl H n) (en (.list c) v) ds
 | .arr m k, ρ, l => RowB H m ρ l fun _ v ds => All2 (Cl H n) (en (.arr m k) v) ds
 | .st i, ρ, l => RowB H (W (S := S) (.st i)) ρ l fun _ v ds => All2 (Cl H n) (en (.st i) v) ds
def isOwn : Code → Bool
 | .own _ => true
 | _ => false
theorem RowR_cl {H : Heap} {n : Nat} {e : Code} (he : isOwn e = false) (ρ : List Nat → Option (Option Nat)) (l : List (T S e)) :
  RowR H n e ρ l = RowB H (W (S := S) e) ρ l (fun _ v ds => All2 (Cl H n) (en e v) ds) := by
 cases e <;> first | rfl | cases he
def width : Val S → Nat
 | .one _ c _ => W (S := S) c
 | _ => 1
def widths : List (Val S) → Nat
 | [] => 0
 | v :: vs => width v + widths vs
structure Fr where
 f : Nat → Option Blk
 pin : Nat → Nat
instance : CoeFun Fr fun _ => Nat → Option Blk := ⟨Fr.f⟩
def pinOk (fr : Fr) : Option Nat → Nat → Prop
 | none, _ => True
 | some k, id => id = fr.pin k
def ObjR (fr : Fr) (ρ : Rho) (H : Heap) (o : Nat) : Obj S → Prop
 | .row n e l => RowR H n e (ρ o) l
 | .box pn vs => ∃ id ds, ρ o [] = some (some id) ∧ hat H id = .row (widths vs) [ds] true ∧ VCs ρ H vs ds ∧ pinOk fr pn id
structure RelR (fr : Fr) (b N : Nat) (ρ : Rho) (t : TS S) (s : St) : Prop where
 len : s.ts.length = N
 sl : ∀ i v, look t.sl i = some v → VS ρ s.hp v (s.ts.getD i .undef)
 hp : ∀ o ob, look t.hp o = some ob → ObjR fr ρ s.hp o ob
 inj : ∀ o p o' p' id, ρ o p = some (some id) → ρ o' p' = some (some id) → o = o' ∧ p = p'
 liv : ∀ o p id, ρ o p = some (some id) → fr id = none ∧ ∃ sz es, hat s.hp id = .row sz es true
 nxt : ∀ o p, t.nx ≤ o → ρ o p = none
 frm : ∀ id k, fr id = some k → hat s.hp id = k ∧ id < s.hp.length
 avl : t.av.Nodup ∧ ∀ r ∈ t.av, hat s.hp (b + r) = .fresh ∧ b + r < s.hp.length ∧ fr (b + r) = none
structure Ext (ρ : Rho) (H : Heap) (ρ' : Rho) (H' : Heap) : Prop where
 hle : HLe H H'
 map : ∀ o p x, ρ o p = some x → ρ' o p = some x
 row : ∀ o p id sz es, ρ o p = some (some id) → hat H id = .row sz es true → ∃ es', hat H' id = .row sz es' true ∧ es'.length = es.length
variable {ρ ρ' : Rho} {H H' : Heap}
theorem Ext.refl (ρ : Rho) (H : Heap) : Ext ρ H ρ H := ⟨HLe.refl H, fun _ _ _ h => h, fun _ _ _ _ es _ h => ⟨es, h, rfl⟩⟩
theorem VR1.ext (x : Ext ρ H ρ' H') {v : Val S} {d : D} (h : VR1 ρ H v d) : VR1 ρ' H' v d := by
 cases v with
 | whole o p =>
  rcases h with ⟨id, sz, es, h1, h2, rfl⟩ | ⟨h1, rfl⟩
  ·obtain ⟨es', h3, h4⟩ := x.row _ _ _ _ _ h1 h2
   exact .inl ⟨id, sz, es', x.map _ _ _ h1, h3, by rw [h4]⟩
  ·exact .inr ⟨x.map _ _ _ h1, rfl⟩
 | win o p off len =>
  rcases h with ⟨id, sz, es, h1, h2, h3, rfl⟩ | ⟨h1, h2⟩
  ·obtain ⟨es', h4, h5⟩ := x.row _ _ _ _ _ h1 h2
   exact .inl ⟨id, sz, es', x.map _ _ _ h1, h4, by rw [h5]; exact h3, rfl⟩
  ·exact .inr ⟨x.map _ _ _ h1, h2⟩
 | ptr o p i j =>
  obtain ⟨id, sz, es, h1, h2, h3, rfl⟩ := h
  obtain ⟨es', h5, h4⟩ := x.row _ _ _ _ _ h1 h2
  exact ⟨id, sz, es', x.map _ _ _ h1, h5, h3, rfl⟩
 | fp n c v j =>
  obtain ⟨r, h⟩ := h
  exact ⟨r, h.heap x.hle⟩
 | pa o j z len =>
  obtain ⟨id, sz, es, h1, h2, h3, h4, rfl⟩ := h
  obtain ⟨es', h5, _⟩ := x.row _ _ _ _ _ h1 h2
  exact ⟨id, sz, es', x.map _ _ _ h1, h5, h3, h4, rfl⟩
 | _ => exact h
theorem cls_heap {n : Nat} (x : HLe H H') {cs ds : List D} (h : All2 (Cl H n) cs ds) : All2 (Cl H' n) cs ds := h.mono fun _ _ _ h => h.heap x
theorem VC.ext (x : Ext ρ H ρ' H') {v : Val S} {ds : List D} (h : VC ρ H v ds) : VC ρ' H' v ds := by
 cases v with
 | one n c v => exact cls_heap x.hle h
 | _ => exact let ⟨d, e, h⟩ := h; ⟨d, e, h.ext x⟩
theorem VCs.ext (x : Ext ρ H ρ' H') : ∀ {vs : List (Val S)} {ds : List D}, VCs ρ H vs ds → VCs ρ' H' vs ds
 | [], _, h => h
 | _ :: _, _, ⟨a, b, e, h, k⟩ => ⟨a, b, e, h.ext x, VCs.ext x k⟩
theorem VSx.ext (x : Ext ρ H ρ' H') {v : Val S} {d : D} (h : VSx ρ H v d) : VSx ρ' H' v d := by
 cases v with
 | one n c v =>
  simp only [VSx] at h ⊢
  split at h
  ·obtain ⟨ds, h1, h2⟩ := h
   exact ⟨ds, h1, cls_heap x.hle h2⟩
  ·exact cls_heap x.hle h
 | agg vs => exact let ⟨ds, e, h⟩ := h; ⟨ds, e, h.ext x⟩
 | _ => simp only [VSx] at h ⊢; exact h.ext x
theorem VS.ext (x : Ext ρ H ρ' H') {v : Val S} {d : D} (h : VS ρ H v d) : VS ρ' H' v d := by
 cases v with
 | tup vs => exact let ⟨ds, e, h⟩ := h; ⟨ds, e, h.mono fun _ _ _ h => h.ext x⟩
 | _ => simp only [VS] at h ⊢; exact h.ext x
theorem RowB.ext {α : Type} {sz : Nat} {q q' : List Nat → Option (Option Nat)} {l : List α} {E E' : Nat → α → List D → Prop} (hm : ∀ p x, q p = some x → q' p = some x)
  (hh : ∀ p id, q p = some (some id) → hat H' id = hat H id) (hE : ∀ i v ds, l[i]? = some v → E i v ds → E' i v ds) (h : RowB H sz q l E) : RowB H' sz q' l E' := by
 rcases h with ⟨h1, h2⟩ | ⟨id, es, h1, h2, h3, h4⟩
 ·exact .inl ⟨hm _ _ h1, h2⟩
 ·exact .inr ⟨id, es, hm _ _ h1, by rw [hh _ _ h1, h2], h3, fun i v hv => let ⟨ds, k1, k2⟩ := h4 i v hv; ⟨ds, k1, hE i v ds hv k2⟩⟩
theorem RowR.ext {n : Nat} (x : HLe H H') : ∀ {e : Code} {q q' : List Nat → Option (Option Nat)} {l : List (T S e)}, (∀ p x, q p = some x → q' p = some x) → (∀ p id, q p = some (some id) → hat H' id = hat H id) →
  RowR H n e q l → RowR H' n e q' l
 | .own e, q, q', l, hm, hh, h => RowB.ext hm hh (fun i v ds _ ⟨y, h1, h2, h3⟩ => ⟨y, hm _ _ h1, h2, RowR.ext x (e := e) (fun p z hz => hm _ _ hz) (fun p id hz => hh _ _ hz) h3⟩) h
 | .int _, _, _, _, hm, hh, h | .bool, _, _, _, hm, hh, h | .flt, _, _, _, hm, hh, h | .str, _, _, _, hm, hh, h | .list _, _, _, _, hm, hh, h | .arr _ _, _, _, _, hm, hh, h | .st _, _, _, _, hm, hh, h =>
  RowB.ext hm hh (fun _ _ _ _ h => cls_heap x h) h
theorem ObjR.ext {fr : Fr} {o : Nat} {ob : Obj S} (x : Ext ρ H ρ' H') (hh : ∀ p id, ρ o p = some (some id) → hat H' id = hat H id) (h : ObjR fr ρ H o ob) : ObjR fr ρ' H' o ob := by
 cases ob with
 | row n e l => exact RowR.ext x.hle (x.map o) hh h
 | box pn vs =>
  obtain ⟨id, ds, h1, h2, h3, h9⟩ := h
  exact ⟨id, ds, x.map _ _ _ h1, by rw [hh _ _ h1, h2], h3.ext x, h9⟩
def TS.put (t : TS S) (i : Nat) (v : Val S) : TS S := { t with sl := (i, v) :: rem t.sl i }
theorem look_put {α : Type} {E : List (Nat × α)} {i j : Nat} {v w : α} (h : look ((i, v) :: rem E i) j = some w) : (j = i ∧ w = v) ∨ (j ≠ i ∧ look E j = some w) := by
 simp only [look] at h
 split at h
 ·rename_i q
  cases h
  exact .inl ⟨(Nat.eq_of_beq_eq_true q).symm, rfl⟩
 ·have := look_rem h
  exact .inr ⟨this.2, this.1⟩
variable {fr : Fr} {b N : Nat} {t : TS S} {s : St}
theorem RelR.put (h : RelR fr b N ρ t s) {i : Nat} {v : Val S} {d : D} (hi : i < N) (hv : VS ρ s.hp v d) : RelR fr b N ρ (t.put i v) ⟨s.ts.set i d, s.hp⟩ where
 len := by simp [h.len]
 sl := fun j w hw => by
  rcases look_put hw with ⟨rfl, rfl⟩ | ⟨hj, hw⟩
  ·simpa [List.getD, h.len, hi] using hv
  ·have := h.sl j w hw
   simpa [List.getD, List.getElem?_set, Ne.symm hj] using this
 hp := h.hp
 inj := h.inj
 liv := h.liv
 nxt := h.nxt
 frm := h.frm
 avl := h.avl
def ment1 (P : Nat → List Nat → Bool) : Val S → Bool
 | .whole q p => P q p
 | .win q p _ _ => P q p
 | .ptr q p _ _ => P q p
 | .pa q _ _ _ => P q []
 | _ => false
def mentA (P : Nat → List Nat → Bool) : List (Val S) → Bool
 | [] => false
 | v :: vs => ment1 P v || mentA P vs
def ment2 (P : Nat → List Nat → Bool) : Val S → Bool
 | .agg vs => mentA P vs
 | v => ment1 P v
def mentT (P : Nat → List Nat → Bool) : List (Val S) → Bool
 | [] => false
 | v :: vs => ment2 P v || mentT P vs
def ment (P : Nat → List Nat → Bool) : Val S → Bool
 | .tup vs => mentT P vs
 | v => ment2 P v
def clearV (P : Nat → List Nat → Bool) (v : Val S) : Val S := match ment1 P v with
 | true => .undef
 | false => v
def clearO (P : Nat → List Nat → Bool) : Obj S → Obj S
 | .box pn vs => .box pn (vs.map (clearV P))
 | ob => ob
def clearP (P : Nat → List Nat → Bool) (v : Val S) : Val S := match ment P v with
 | true => .undef
 | false => v
def clearS (P : Nat → List Nat → Bool) : List (Nat × Val S) → List (Nat × Val S)
 | [] => []
 | (i, v) :: E => (i, clearP P v) :: clearS P E
def clearH (P : Nat → List Nat → Bool) : List (Nat × Obj S) → List (Nat × Obj S)
 | [] => []
 | (i, v) :: E => match P i [] with
  | true => clearH P E
  | false => (i, clearO P v) :: clearH P E
def TS.clear (t : TS S) (P : Nat → List Nat → Bool) : TS S := { t with sl := clearS P t.sl, hp := clearH P t.hp }
def isO (o : Nat) : Nat → List Nat → Bool := fun q _ => Nat.beq q o
def TS.forget (t : TS S) (o : Nat) : TS S := t.clear (isO o)
def cutR (ρ : Rho) (P : Nat → List Nat → Bool) : Rho := fun q p => match P q p with
 | true => none
 | false => ρ q p
def del (ρ : Rho) (o : Nat) : Rho := cutR ρ (isO o)
theorem cutR_some {P : Nat → List Nat → Bool} {q : Nat} {p : List Nat} {x : Option Nat} (h : cutR ρ P q p = some x) : P q p = false ∧ ρ q p = some x := by
 simp only [cutR] at h
 split at h
 ·cases h
 ·exact ⟨by assumption, h⟩
theorem cutR_ne {P : Nat → List Nat → Bool} {q : Nat} {p : List Nat} (h : P q p = false) : cutR ρ P q p = ρ q p := by simp only [cutR, h]
theorem isO_ne {o q : Nat} (h : q ≠ o) (p : List Nat) : isO o q p = false := by
 simp only [isO]
 cases z : Nat.beq q o
 ·rfl
 ·exact absurd (Nat.eq_of_beq_eq_true z) h
theorem del_some {o q : Nat} {p : List Nat} {x : Option Nat} (h : del ρ o q p = some x) : q ≠ o ∧ ρ q p = some x := by
 obtain ⟨h1, h2⟩ := cutR_some h
 refine ⟨fun e => ?_, h2⟩
 subst e
 simp [isO] at h1
theorem del_ne {o q : Nat} (h : q ≠ o) (p : List Nat) : del ρ o q p = ρ q p := cutR_ne (isO_ne h p)
omit Sg in
theorem look_clearS {P : Nat → List Nat → Bool} : ∀ {E : List (Nat × Val S)} {i : Nat} {v : Val S}, look (clearS P E) i = some v → ∃ w, look E i = some w ∧ v = clearP P w
 | [], _, _, h => nomatch h
 | (k, w) :: E, i, v, h => by
  simp only [clearS, look] at h ⊢
  split at h
  ·cases h
   exact ⟨w, rfl, rfl⟩
  ·exact look_clearS h
omit Sg in
theorem look_clearH {P : Nat → List Nat → Bool} : ∀ {E : List (Nat × Obj S)} {i : Nat} {v : Obj S}, look (clearH P E) i = some v → P i [] = false ∧ ∃ w, look E i = some w ∧ v = clearO P w
 | [], _, _, h => nomatch h
 | (k, w) :: E, i, v, h => by
  simp only [clearH] at h
  split at h
  ·rename_i q
   obtain ⟨h1, u, h2, h3⟩ := look_clearH h
   refine ⟨h1, u, ?_, h3⟩
   have : Nat.beq k i = false := by
    cases z : Nat.beq k i
    ·rfl
    ·rw [Nat.eq_of_beq_eq_true z, h1] at q
     cases q
   simp only [look, this, h2]
  ·rename_i q
   simp only [look] at h ⊢
   split at h
   ·rename_i z
    cases h
    rw [Nat.eq_of_beq_eq_true z] at q
    exact ⟨q, w, rfl, rfl⟩
   ·exact look_clearH h
variable {P : Nat → List Nat → Bool}
theorem VR1.cut {v : Val S} {d : D} (hm : ment1 P v = false) (h : VR1 ρ H v d) : VR1 (cutR ρ P) H v d := by
 cases v with
 | whole q p => simp only [VR1, cutR_ne (show P q p = false from hm)]; exact h
 | win q p off len => simp only [VR1, cutR_ne (show P q p = false from hm)]; exact h
 | ptr q p i j => simp only [VR1, cutR_ne (show P q p = false from hm)]; exact h
 | pa q j z len => simp only [VR1, cutR_ne (show P q [] = false from hm)]; exact h
 | _ => exact h
theorem VC.cut {v : Val S} {ds : List D} (hm : ment1 P v = false) (h : VC ρ H v ds) : VC (cutR ρ P) H v ds := by
 cases v with
 | one n c v => exact h
 | _ => exact let ⟨d, e, h⟩ := h; ⟨d, e, h.cut hm⟩
theorem VCs.cut : ∀ {vs : List (Val S)} {ds : List D}, mentA P vs = false → VCs ρ H vs ds → VCs (cutR ρ P) H vs ds
 | [], _, _, h => h
 | _ :: _, _, hm, ⟨a, b, e, h, k⟩ => by
  simp only [mentA, Bool.or_eq_false_iff] at hm
  exact ⟨a, b, e, h.cut hm.1, VCs.cut hm.2 k⟩
theorem VSx.cut {v : Val S} {d : D} (hm : ment2 P v = false) (h : VSx ρ H v d) : VSx (cutR ρ P) H v d := by
 cases v with
 | one n c v => exact h
 | agg vs => exact let ⟨ds, e, h⟩ := h; ⟨ds, e, h.cut hm⟩
 | _ => simp only [VSx] at h ⊢; exact h.cut hm
theorem VS.cut {v : Val S} {d : D} (hm : ment P v = false) (h : VS ρ H v d) : VS (cutR ρ P) H v d := by
 cases v with
 | tup vs =>
  obtain ⟨ds, e, h⟩ := h
  refine ⟨ds, e, ?_⟩
  simp only [ment] at hm
  clear e
  induction vs generalizing ds with
  | nil => cases ds <;> exact h
  | cons v vs ih =>
   simp only [mentT, Bool.or_eq_false_iff] at hm
   cases ds with
   | nil => exact h
   | cons d ds => exact ⟨h.1.cut hm.1, ih hm.2 ds h.2⟩
 | _ => simp only [VS] at h ⊢; exact h.cut hm
theorem VC.clear {v : Val S} {ds : List D} (h : VC ρ H v ds) : VC (cutR ρ P) H (clearV P v) ds ∧ width (clearV P v) = width v := by
 simp only [clearV]
 split
 ·rename_i hm
  cases v with
  | one n c v => cases hm
  | _ => exact let ⟨d, e, h⟩ := h; ⟨⟨d, e, trivial⟩, rfl⟩
 ·rename_i hm
  exact ⟨h.cut hm, rfl⟩
theorem VCs.clear : ∀ {vs : List (Val S)} {ds : List D}, VCs ρ H vs ds → VCs (cutR ρ P) H (vs.map (clearV P)) ds ∧ widths (vs.map (clearV P)) = widths vs
 | [], _, h => ⟨h, rfl⟩
 | _ :: _, _, ⟨a, b, e, h, k⟩ => ⟨⟨a, b, e, h.clear.1, (VCs.clear k).1⟩, by simp only [List.map, widths, h.clear.2, (VCs.clear k).2]⟩
theorem VS.clear {v : Val S} {d : D} (h : VS ρ H v d) : VS (cutR ρ P) H (clearP P v) d := by
 simp only [clearP]
 split
 ·trivial
 ·exact h.cut (by assumption)
theorem RelR.clear (h : RelR fr b N ρ t s) (hP : ∀ o p, P o [] = false → P o p = false) : RelR fr b N (cutR ρ P) (t.clear P) s where
 len := h.len
 sl := fun i v hv => by
  obtain ⟨w, h1, rfl⟩ := look_clearS hv
  exact (h.sl _ _ h1).clear
 hp := fun q ob hq => by
  obtain ⟨h1, w, h2, rfl⟩ := look_clearH hq
  have h3 := h.hp _ _ h2
  cases w with
  | row n e l => exact RowR.ext (HLe.refl _) (fun p x hx => by rw [cutR_ne (hP q p h1)]; exact hx) (fun p id _ => rfl) h3
  | box pn vs =>
   obtain ⟨id, ds, k1, k2, k3, k9⟩ := h3
   exact ⟨id, ds, by rw [cutR_ne h1]; exact k1, by rw [k3.clear.2]; exact k2, k3.clear.1, k9⟩
 inj := fun _ _ _ _ _ h1 h2 => h.inj _ _ _ _ _ (cutR_some h1).2 (cutR_some h2).2
 liv := fun _ _ _ h1 => h.liv _ _ _ (cutR_some h1).2
 nxt := fun q p hq => by
  have := h.nxt q p hq
  simp only [cutR]
  split
  ·rfl
  ·exact this
 frm := h.frm
 avl := h.avl
theorem RelR.forget (h : RelR fr b N ρ t s) (o : Nat) : RelR fr b N (del ρ o) (t.forget o) s := h.clear (fun q p hq => hq)
end
end Go.Pi
namespace Go.Pi
set_option linter.unusedVariables false
section
variable {S : Nat → Type} [Sg : Sig S] {ρ ρ' : Rho} {H H' : Heap}
theorem All2.split {α β : Type} {R : α → β → Prop} : ∀ {a b : List α} {ds : List β}, All2 R (a ++ b) ds → ∃ d e, ds = d ++ e ∧ All2 R a d ∧ All2 R b e
 | [], b, ds, h => ⟨[], ds, rfl, trivial, h⟩
 | x :: a, b, [], h => h.elim
 | x :: a, b, y :: ds, h => let ⟨d, e, k, h1, h2⟩ := All2.split (a := a) h.2; ⟨y :: d, e, by rw [k]; rfl, ⟨h.1, h1⟩, h2⟩
def flds (n : Nat) : (cs : List Code) → Flds S cs → List (Val S)
 | [], _ => []
 | c :: cs, p => .one n c p.1 :: flds n cs p.2
theorem flds_ok {n : Nat} : ∀ {cs : List Code} {p : Flds S cs} {ds : List D}, All2 (Cl H n) (encF Sg.wd Sg.Dd cs p) ds → VCs ρ H (flds n cs p) ds
 | [], _, [], _ => rfl
 | [], _, _ :: _, h => h.elim
 | c :: cs, p, ds, h => by
  obtain ⟨d, e, rfl, h1, h2⟩ := All2.split h
  exact ⟨d, e, rfl, h1, flds_ok h2⟩
def expl : Val S → Option (List (Val S))
 | .one n (.st i) v => some (flds n (Sg.fields i) (Sg.split i v))
 | _ => none
theorem expl_ok {v : Val S} {us : List (Val S)} {ds : List D} (h : expl v = some us) (k : VC ρ H v ds) : VCs ρ H us ds := by
 unfold expl at h
 split at h
 ·rename_i n i v
  cases h
  exact flds_ok (Sg.hD i v ▸ k)
 ·cases h
theorem VC.len {v : Val S} {ds : List D} (h : VC ρ H v ds) : ds.length = width v := by
 cases v with
 | one n c v => rw [← All2.len h, encs_len]; rfl
 | _ => obtain ⟨d, rfl, _⟩ := h; rfl
theorem VCs.len : ∀ {vs : List (Val S)} {ds : List D}, VCs ρ H vs ds → ds.length = widths vs
 | [], _, h => by rw [h]; rfl
 | v :: vs, ds, ⟨a, b, e, h, k⟩ => by rw [e, List.length_append, h.len, VCs.len k]; rfl
theorem VCs.app : ∀ {vs ws : List (Val S)} {ds es : List D}, VCs ρ H vs ds → VCs ρ H ws es → VCs ρ H (vs ++ ws) (ds ++ es)
 | [], _, _, _, h, k => by rw [h]; exact k
 | v :: vs, _, _, _, ⟨a, b, e, h, k⟩, h2 => ⟨a, b ++ _, by rw [e, List.append_assoc], h, VCs.app k h2⟩
def cutV : Nat → Nat → List (Val S) → Option (List (Val S) × List (Val S))
 | 0, _, _ => none
 | f + 1, j, vs => match Nat.beq j 0 with
  | true => some ([], vs)
  | false => match vs with
   | [] => none
   | v :: vs => match Nat.ble (width v) j with
    | true => match cutV f (j - width v) vs with
     | some p => some (v :: p.1, p.2)
     | none => none
    | false => match expl v with
     | some us => cutV f j (us ++ vs)
     | none => none
theorem cutV_ok : ∀ {f j : Nat} {vs a b : List (Val S)} {ds : List D}, cutV f j vs = some (a, b) → VCs ρ H vs ds → ∃ d e, ds = d ++ e ∧ d.length = j ∧ VCs ρ H a d ∧ VCs ρ H b e
 | 0, _, _, _, _, _, h, _ => nomatch h
 | f + 1, j, vs, a, b, ds, h, k => by
  simp only [cutV] at h
  split at h
  ·rename_i hj
   cases h
   exact ⟨[], ds, rfl, (Nat.eq_of_beq_eq_true hj).symm, rfl, k⟩
  ·rename_i hj
   split at h
   ·cases h
   ·rename_i v vs
    obtain ⟨d1, d2, rfl, k1, k2⟩ := k
    split at h
    ·rename_i hw
     split at h
     ·rename_i p hp
      cases h
      obtain ⟨d3, e, rfl, h1, h2, h3⟩ := cutV_ok (a := p.1) (b := p.2) hp k2
      refine ⟨d1 ++ d3, e, by simp, ?_, ⟨d1, d3, rfl, k1, h2⟩, h3⟩
      have := Nat.le_of_ble_eq_true hw
      rw [List.length_append, k1.len, h1]
      omega
     ·cases h
    ·split at h
     ·rename_i us hu
      exact cutV_ok h ((expl_ok hu k1).app k2)
     ·cases h
def fuelV : Nat := 600
def part (vs : List (Val S)) (j n : Nat) : Option (List (Val S)) := match cutV fuelV j vs with
 | some p => match cutV fuelV n p.2 with
  | some q => some q.1
  | none => none
 | none => none
theorem part_okK {vs ms : List (Val S)} {j n : Nat} {ds : List D} (h : part vs j n = some ms) (k : VCs ρ H vs ds) : VCs ρ H ms ((ds.drop j).take n) ∧ j + n ≤ ds.length := by
 simp only [part] at h
 split at h
 ·rename_i p hp
  split at h
  ·rename_i q hq
   cases h
   obtain ⟨d, e, rfl, h1, h2, h3⟩ := cutV_ok (a := p.1) (b := p.2) hp k
   obtain ⟨d', e', rfl, h4, h5, h6⟩ := cutV_ok (a := q.1) (b := q.2) hq h3
   subst h1 h4
   simp only [List.drop_left, List.take_left, List.length_append]
   exact ⟨h5, by omega⟩
  ·cases h
 ·cases h
def repl (vs : List (Val S)) (j n : Nat) (ws : List (Val S)) : Option (List (Val S)) := match cutV fuelV j vs with
 | some p => match cutV fuelV n p.2 with
  | some q => some (p.1 ++ (ws ++ q.2))
  | none => none
 | none => none
theorem repl_ok {vs ms ws : List (Val S)} {j n : Nat} {ds es : List D} (h : repl vs j n ws = some ms) (k : VCs ρ H vs ds) (hw : VCs ρ H ws es) (he : es.length = n) :
  VCs ρ H ms (splice ds j es) ∧ j + n ≤ ds.length ∧ widths ms = widths vs := by
 simp only [repl] at h
 split at h
 ·rename_i p hp
  split at h
  ·rename_i q hq
   cases h
   obtain ⟨d, e, rfl, h1, h2, h3⟩ := cutV_ok (a := p.1) (b := p.2) hp k
   obtain ⟨d', e', rfl, h4, h5, h6⟩ := cutV_ok (a := q.1) (b := q.2) hq h3
   subst h1
   have e1 : splice (d ++ (d' ++ e')) d.length es = d ++ (es ++ e') := by
    simp only [splice, List.take_left, he, List.append_assoc, ← h4]
    rw [← List.length_append, ← List.append_assoc d d' e', List.drop_left]
   have k1 := h2.app (hw.app h6)
   rw [e1]
   refine ⟨k1, by simp [← h4], ?_⟩
   rw [← k1.len, ← k.len]
   simp [he, h4]
  ·cases h
 ·cases h
def shapeV (ag : Bool) (ms : List (Val S)) : Option (Val S) := match ag with
 | true => (match ms with
  | [.one n c v] => (match isAgg c with
   | true => some (.one n c v)
   | false => some (.agg [.one n c v]))
  | ms => some (.agg ms))
 | false => (match ms with
  | [.one n c v] => (match isAgg c with
   | true => none
   | false => some (.one n c v))
  | [.agg _] => none
  | [.tup _] => none
  | [v] => some v
  | _ => none)
theorem VR1.toVS {v : Val S} {d : D} (h : VR1 ρ H v d) : VS ρ H v d := by
 cases v with
 | one _ _ _ => exact h.elim
 | agg _ => exact h.elim
 | tup _ => exact h.elim
 | _ => exact h
theorem shapeV_ok {ag : Bool} {ms : List (Val S)} {v : Val S} {ds : List D} (h : shapeV ag ms = some v) (k : VCs ρ H ms ds) : ∃ d, shaped ag ds = some d ∧ VS ρ H v d := by
 cases ag with
 | true =>
  refine ⟨.agg ds, rfl, ?_⟩
  simp only [shapeV] at h
  split at h
  ·rename_i n c v
   obtain ⟨a, b, rfl, h1, h2⟩ := k
   have h2 : b = [] := h2
   subst h2
   split at h
   ·rename_i hc
    cases h
    simp only [VS, VSx, hc]
    exact ⟨a, by simp, h1⟩
   ·cases h
    exact ⟨a ++ [], rfl, a, [], rfl, h1, rfl⟩
  ·cases h
   exact ⟨ds, rfl, k⟩
 | false =>
  simp only [shapeV] at h
  split at h
  ·rename_i n c v
   obtain ⟨a, b, rfl, h1, h2⟩ := k
   have h2 : b = [] := h2
   subst h2
   split at h
   ·cases h
   ·rename_i hc
    cases h
    have hl : a.length = 1 := by
     have := VC.len h1
     rw [this]
     cases c <;> first | rfl | cases hc
    match a, hl with
    | [d], _ =>
     refine ⟨d, rfl, ?_⟩
     simp only [VS, VSx, hc]
     exact h1
  ·cases h
  ·cases h
  ·rename_i w hn1 hn2 hn3
   cases h
   obtain ⟨a, b, rfl, h1, h2⟩ := k
   have h2 : b = [] := h2
   subst h2
   have : ∃ d, a = [d] ∧ VR1 ρ H v d := by
    cases v with
    | one n c v => exact absurd rfl (hn1 n c v)
    | _ => exact h1
   obtain ⟨d, rfl, h3⟩ := this
   exact ⟨d, rfl, h3.toVS⟩
  ·cases h
def okCell : Val S → Bool
 | .undef => false
 | .skip => false
 | _ => true
def cellsV : Val S → Option (List (Val S))
 | .agg vs => match vs.all okCell with
  | true => some vs
  | false => none
 | .tup _ => none
 | .undef => none
 | .skip => none
 | v => some [v]
theorem cl_one {H : Heap} {n : Nat} {v d : D} (hv : cellD v = true) (h : Cl H n v d) : one d = true := by
 cases n with
 | zero => exact h.elim
 | succ n =>
  rcases h with h | ⟨sz, es, id, off, len, es0, rfl, rfl, _⟩ | ⟨cs, id, i, j, sz, es0, e, rfl, _⟩ | ⟨cs, ds, rfl, _⟩
  ·have h := h.2
   cases v with
   | int k n => rw [show d = _ from h]; rfl
   | bool b => rw [show d = _ from h]; rfl
   | flt b => rw [show d = _ from h]; rfl
   | str b => rw [show d = _ from h]; rfl
   | lst sz es => rcases h with ⟨_, rfl⟩ | ⟨es', rfl, _⟩ <;> rfl
   | _ => cases hv
  ·rfl
  ·cases hv
  ·cases hv
theorem cls_one {H : Heap} {n : Nat} : ∀ {cs ds : List D}, (∀ d ∈ cs, cellD d = true) → All2 (Cl H n) cs ds → ds.all one = true
 | [], [], _, _ => rfl
 | c :: cs, d :: ds, h, k => by
  simp only [List.all_cons, Bool.and_eq_true]
  exact ⟨cl_one (h c (by simp)) k.1, cls_one (fun x hx => h x (by simp [hx])) k.2⟩
 | [], _ :: _, _, h => h.elim
 | _ :: _, [], _, h => h.elim
theorem fp_one {n : Nat} {cs : List D} {d : D} (h : Cl H n (.fptr cs) d) : one d = true := by
 cases n with
 | zero => exact h.elim
 | succ n =>
  rcases h with h | ⟨sz, es, id, off, len, es0, h1, _⟩ | ⟨cs, id, i, j, sz, es0, e, _, rfl, _⟩ | ⟨cs, ds, h1, _⟩
  ·obtain ⟨ds, rfl, _⟩ := Nr.fptr h.2
   rfl
  ·cases h1
  ·rfl
  ·cases h1
theorem VC.one {v : Val S} {ds : List D} (hv : okCell v = true) (h : VC ρ H v ds) : ds.all Pi.one = true := by
 cases v with
 | one n c v => exact cls_one (en_cell c v) h
 | undef => cases hv
 | skip => cases hv
 | nil => obtain ⟨d, rfl, k⟩ := h; rw [show d = _ from k]; rfl
 | nilp => obtain ⟨d, rfl, k⟩ := h; rw [show d = _ from k]; rfl
 | fn n => obtain ⟨d, rfl, k⟩ := h; rw [show d = _ from k]; rfl
 | agg _ => obtain ⟨d, rfl, k⟩ := h; exact k.elim
 | tup _ => obtain ⟨d, rfl, k⟩ := h; exact k.elim
 | whole o p => obtain ⟨d, rfl, k⟩ := h; rcases k with ⟨_, _, _, _, _, rfl⟩ | ⟨_, rfl⟩ <;> rfl
 | win o p off len => obtain ⟨d, rfl, k⟩ := h; rcases k with ⟨_, _, _, _, _, _, rfl⟩ | ⟨_, _, _, rfl⟩ <;> rfl
 | ptr o p i j => obtain ⟨d, rfl, _, _, _, _, _, _, rfl⟩ := h; rfl
 | pa o j z len => obtain ⟨d, rfl, _, _, _, _, _, _, _, rfl⟩ := h; rfl
 | fp n c v j =>
  obtain ⟨d, rfl, r, k⟩ := h
  simp only [List.all_cons, List.all_nil, Bool.and_true]
  exact fp_one k
theorem VCs.one : ∀ {vs : List (Val S)} {ds : List D}, vs.all okCell = true → VCs ρ H vs ds → ds.all Pi.one = true
 | [], _, _, h => by rw [h]; rfl
 | v :: vs, _, hv, ⟨a, b, e, h, k⟩ => by
  simp only [List.all_cons, Bool.and_eq_true] at hv
  rw [e, List.all_append, h.one hv.1, VCs.one hv.2 k]; rfl
theorem cellsOf_na {d : D} (h : ∀ cs, d ≠ .agg cs) : cellsOf d = [d] := by
 cases d <;> first | rfl | exact absurd rfl (h _)
theorem cellsV_ok {v : Val S} {vs : List (Val S)} {d : D} (h : cellsV v = some vs) (k : VS ρ H v d) : VCs ρ H vs (cellsOf d) ∧ (cellsOf d).all one = true := by
 have single : ∀ {w : Val S}, okCell w = true → (∀ n c x, w ≠ .one n c x) → VR1 ρ H w d → VCs ρ H [w] (cellsOf d) ∧ (cellsOf d).all Pi.one = true := by
  intro w hw hn hr
  have h1 : VC ρ H w [d] := by
   cases w with
   | one n c x => exact absurd rfl (hn n c x)
   | _ => exact ⟨d, rfl, hr⟩
  have h2 := h1.one hw
  have h3 : cellsOf d = [d] := cellsOf_na fun cs e => by subst e; cases h2
  rw [h3]
  exact ⟨⟨[d], [], rfl, h1, rfl⟩, h2⟩
 cases v with
 | undef => cases h
 | skip => cases h
 | tup _ => cases h
 | agg ws =>
  simp only [cellsV] at h
  split at h
  ·rename_i ho
   cases h
   obtain ⟨ds, rfl, k⟩ := k
   exact ⟨k, k.one ho⟩
  ·cases h
 | one n c x =>
  cases h
  simp only [VS, VSx] at k
  split at k
  ·obtain ⟨ds, rfl, k⟩ := k
   exact ⟨⟨ds, [], by simp [cellsOf], k, rfl⟩, cls_one (en_cell c x) k⟩
  ·have h2 := cls_one (en_cell c x) k
   have h3 : cellsOf d = [d] := cellsOf_na fun cs e => by subst e; cases h2
   rw [h3]
   exact ⟨⟨[d], [], rfl, k, rfl⟩, h2⟩
 | _ => cases h; exact single rfl (fun _ _ _ e => nomatch e) k
abbrev Getter (S : Nat → Type) := Val S → (c : Code) → Option (T S c)
def ints (k : IntKind) : List (Val S) → Option (List Int)
 | [] => some []
 | .one _ (.int k') z :: vs => match decide (k = k'), ints k vs with
  | true, some l => some (z :: l)
  | _, _ => none
 | _ => none
def mkF (m : (c : Code) → List (Val S) → Option (T S c)) : (cs : List Code) → List (Val S) → Option (Flds S cs)
 | [], [] => some ()
 | [], _ :: _ => none
 | c :: cs, vs => match cutV fuelV (W (S := S) c) vs with
  | some p => match m c p.1, mkF m cs p.2 with
   | some x, some y => some (x, y)
   | _, _ => none
  | none => none
def mkC (m : (c : Code) → List (Val S) → Option (T S c)) : (c : Code) → List (Val S) → Option (T S c)
 | .st i, vs => match mkF m (Sg.fields i) vs with
  | some p => some (Sg.join i p)
  | none => none
 | .arr n k, vs => match ints k vs with
  | some l => if h : l.length = n then some ⟨l, h⟩ else none
  | none => none
 | _, _ => none
def mkT (g : Getter S) : Nat → (c : Code) → List (Val S) → Option (T S c)
 | 0, _, _ => none
 | f + 1, c, [v] => match g v c with
  | some x => some x
  | none => mkC (mkT g f) c [v]
 | f + 1, c, vs => mkC (mkT g f) c vs
section
variable {R : D → D → Prop}
theorem ints_ok (hR : ∀ k z, R (.int k z) (.int k z)) {k : IntKind} : ∀ {vs : List (Val S)} {l : List Int} {ds : List D}, ints k vs = some l → VCs ρ H vs ds → All2 R (l.map fun z => D.int k z) ds
 | [], _, _, h, hk => by cases h; rw [hk]; trivial
 | .one m (.int k') z :: vs, l, ds, h, ⟨a, b, e, h1, h2⟩ => by
  simp only [ints] at h
  split at h
  ·rename_i l' hd hi
   cases h
   have := of_decide_eq_true hd
   subst this
   match a, h1 with
   | [d], h1 =>
    obtain rfl : d = .int k z := h1.1.sc rfl
    subst e
    exact ⟨hR k z, ints_ok hR hi h2⟩
  ·cases h
 | .undef :: _, _, _, h, _ | .skip :: _, _, _, h, _ | .nil :: _, _, _, h, _ | .nilp :: _, _, _, h, _ | .fn _ :: _, _, _, h, _ | .agg _ :: _, _, _, h, _ | .tup _ :: _, _, _, h, _ | .whole _ _ :: _, _, _, h, _ | .win _ _ _ _ :: _, _, _, h, _ | .ptr _ _ _ _ :: _, _, _, h, _ | .fp _ _ _ _ :: _, _, _, h, _ | .pa _ _ _ _ :: _, _, _, h, _ => nomatch h
 | .one _ .bool _ :: _, _, _, h, _ | .one _ .flt _ :: _, _, _, h, _ | .one _ .str _ :: _, _, _, h, _ | .one _ (.list _) _ :: _, _, _, h, _ | .one _ (.own _) _ :: _, _, _, h, _ | .one _ (.arr _ _) _ :: _, _, _, h, _ | .one _ (.st _) _ :: _, _, _, h, _ => nomatch h
theorem mkF_ok {m : (c : Code) → List (Val S) → Option (T S c)} (hm : ∀ c vs x ds, m c vs = some x → VCs ρ H vs ds → All2 R (en c x) ds) :
  ∀ {cs : List Code} {vs : List (Val S)} {p : Flds S cs} {ds : List D}, mkF m cs vs = some p → VCs ρ H vs ds → All2 R (encF Sg.wd Sg.Dd cs p) ds
 | [], [], _, _, _, k => by rw [show _ = _ from k]; trivial
 | [], _ :: _, _, _, h, _ => nomatch h
 | c :: cs, vs, p, ds, h, k => by
  simp only [mkF] at h
  split at h
  ·rename_i q hq
   split at h
   ·rename_i x y hx hy
    cases h
    obtain ⟨d, e, rfl, h1, h2, h3⟩ := cutV_ok (a := q.1) (b := q.2) hq k
    exact All2.append (hm _ _ _ _ hx h2) (mkF_ok hm hy h3)
   ·cases h
  ·cases h
theorem mkC_ok (hR : ∀ k z, R (.int k z) (.int k z)) {m : (c : Code) → List (Val S) → Option (T S c)} (hm : ∀ c vs x ds, m c vs = some x → VCs ρ H vs ds → All2 R (en c x) ds) {c : Code} {vs : List (Val S)} {x : T S c} {ds : List D}
  (h : mkC m c vs = some x) (k : VCs ρ H vs ds) : All2 R (en c x) ds := by
 cases c with
 | st i =>
  simp only [mkC] at h
  split at h
  ·rename_i p hp
   cases h
   have e : en (S := S) (.st i) (Sg.join i p) = encF Sg.wd Sg.Dd _ p := (Sg.hD i _).trans (congrArg (encF Sg.wd Sg.Dd _) (Sg.sj i p))
   rw [e]
   exact mkF_ok hm hp k
  ·cases h
 | arr n kk =>
  simp only [mkC] at h
  split at h
  ·rename_i l hl
   split at h
   ·cases h
    exact ints_ok hR hl k
   ·cases h
  ·cases h
 | _ => cases h
theorem mkT_ok (hR : ∀ k z, R (.int k z) (.int k z)) {g : Getter S} (hg : ∀ v c x ds, g v c = some x → VC ρ H v ds → All2 R (en c x) ds) :
  ∀ {f : Nat} {c : Code} {vs : List (Val S)} {x : T S c} {ds : List D}, mkT g f c vs = some x → VCs ρ H vs ds → All2 R (en c x) ds
 | 0, _, _, _, _, h, _ => nomatch h
 | f + 1, c, [], x, ds, h, k => mkC_ok hR (fun c vs x ds h k => mkT_ok hR hg (f := f) h k) (show mkC (mkT g f) c [] = some x from h) k
 | f + 1, c, _ :: _ :: _, x, ds, h, k => mkC_ok hR (fun c vs x ds h k => mkT_ok hR hg (f := f) h k) (show mkC (mkT g f) c _ = some x from h) k
 | f + 1, c, [v], x, ds, h, k => by
  simp only [mkT] at h
  split at h
  ·rename_i y hy
   cases h
   obtain ⟨a, b, e, h1, h2⟩ := k
   have h2 : b = [] := h2
   subst h2
   rw [e, List.append_nil]
   exact hg _ _ _ _ hy h1
  ·exact mkC_ok hR (fun c vs x ds h k => mkT_ok hR hg (f := f) h k) h k
end
def gC (N : Nat) : Getter S
 | .one n c' v, c => match Nat.ble n N with
  | true => conv c' c v
  | false => none
 | .nil, .list _ => some []
 | .nil, .own _ => some []
 | _, _ => none
theorem gC_ok {N : Nat} (hN : 0 < N) {v : Val S} {c : Code} {x : T S c} {ds : List D} (h : gC N v c = some x) (k : VC ρ H v ds) : All2 (Cl H N) (en c x) ds := by
 unfold gC at h
 split at h
 ·split at h
  ·rename_i hn
   rw [(conv_ok h).1]
   exact All2.mono k fun _ _ _ q => q.up (Nat.le_of_ble_eq_true hn)
  ·cases h
 ·cases h
  obtain ⟨d, rfl, e⟩ := k
  obtain rfl : d = .nil := e
  cases N with
  | zero => omega
  | succ N => exact ⟨Cl.plain rfl Nr.mk_nil, trivial⟩
 ·cases h
  obtain ⟨d, rfl, e⟩ := k
  obtain rfl : d = .nil := e
  cases N with
  | zero => omega
  | succ N => exact ⟨Cl.plain rfl Nr.mk_nil, trivial⟩
 ·cases h
def fuelT : Nat := 9
def mk (N : Nat) (c : Code) (vs : List (Val S)) : Option (T S c) := mkT (gC N) fuelT c vs
theorem mk_ok {N : Nat} (hN : 0 < N) {c : Code} {vs : List (Val S)} {x : T S c} {ds : List D} (h : mk N c vs = some x) (k : VCs ρ H vs ds) : All2 (Cl H N) (en c x) ds :=
 mkT_ok (fun k z => by cases N with | zero => omega | succ N => exact Cl.plain rfl rfl) (fun v c x ds h k => gC_ok hN h k) h k
end
end Go.Pi
namespace Go.Pi
set_option linter.unusedVariables false
theorem eqCs_int {k : IntKind} {xs ys : List D} : ∀ {l m : List Int}, l.length = m.length → eqCs ((l.map fun z => D.int k z) ++ xs) ((m.map fun z => D.int k z) ++ ys) = if l == m then eqCs xs ys else some false
 | [], [], _ => rfl
 | a :: l, b :: m, h => by
  simp only [List.map_cons, List.cons_append, eqCs, eqC, if_true, Option.bind_some, List.cons_beq_cons]
  rw [eqCs_int (by simpa using h)]
  by_cases h1 : (a == b) = true
  ·simp only [h1, if_true, Bool.true_and]
  ·simp only [Bool.eq_false_iff.mpr h1, Bool.false_and, if_false, Bool.false_eq_true]
 | [], _ :: _, h | _ :: _, [], h => by cases h
section
variable {S : Nat → Type} [Sg : Sig S] {ρ ρ' : Rho} {H H' : Heap}
def ofD : D → Option (Val S)
 | .int k n => some (.one 1 (.int k) n)
 | .bool b => some (.one 1 .bool b)
 | .flt f => some (.one 1 .flt f)
 | .str s => some (.one 1 .str s)
 | .nil => some .nil
 | .nilp => some .nilp
 | .skip => some .skip
 | .fn n => some (.fn n)
 | .undef => some .undef
 | _ => none
def ofDs : List D → Option (List (Val S))
 | [] => some []
 | d :: ds => match ofD d, ofDs ds with
  | some v, some vs => some (v :: vs)
  | _, _ => none
def ofK : D → Option (Val S)
 | .agg cs => match ofDs cs with
  | some vs => some (.agg vs)
  | none => none
 | d => ofD d
theorem ofD_ok {d : D} {v : Val S} (h : ofD d = some v) : VS ρ H v d ∧ VC ρ H v [d] ∧ VSx ρ H v d := by
 have base : ∀ {x : D}, plain x = true → All2 (Cl H 1) [x] [x] := fun hx => ⟨Cl.plain hx (Nr.rfl' _), trivial⟩
 cases d with
 | int k n => cases h; exact ⟨base rfl, base rfl, base rfl⟩
 | bool b => cases h; exact ⟨base rfl, base rfl, base rfl⟩
 | flt f => cases h; exact ⟨base rfl, base rfl, base rfl⟩
 | str s => cases h; exact ⟨base rfl, base rfl, base rfl⟩
 | nil => cases h; exact ⟨rfl, ⟨_, rfl, rfl⟩, rfl⟩
 | nilp => cases h; exact ⟨rfl, ⟨_, rfl, rfl⟩, rfl⟩
 | skip => cases h; exact ⟨rfl, ⟨_, rfl, rfl⟩, rfl⟩
 | fn n => cases h; exact ⟨rfl, ⟨_, rfl, rfl⟩, rfl⟩
 | undef => cases h; exact ⟨trivial, ⟨_, rfl, trivial⟩, trivial⟩
 | _ => cases h
theorem ofDs_ok : ∀ {ds : List D} {vs : List (Val S)}, ofDs ds = some vs → VCs ρ H vs ds
 | [], vs, h => by cases h; rfl
 | d :: ds, vs, h => by
  simp only [ofDs] at h
  split at h
  ·rename_i v vs h1 h2
   cases h
   exact ⟨[d], ds, rfl, (ofD_ok h1).2.1, ofDs_ok h2⟩
  ·cases h
theorem ofK_ok {d : D} {v : Val S} (h : ofK d = some v) : VS ρ H v d := by
 unfold ofK at h
 split at h
 ·split at h
  ·cases h
   exact ⟨_, rfl, ofDs_ok (by assumption)⟩
  ·cases h
 ·exact (ofD_ok h).1
def evK (t : TS S) : PX → Option (Val S)
 | .t i => look t.sl i
 | .c d => ofK d
variable {fr : Fr} {b N : Nat} {t : TS S} {s : St}
theorem RelR.ev (h : RelR fr b N ρ t s) {x : PX} {v : Val S} (hx : evK t x = some v) : VS ρ s.hp v (x.ev s.ts) := by
 cases x with
 | t i => exact h.sl i v hx
 | c d => exact ofK_ok hx
def scD : Val S → Option D
 | .one _ (.int k) z => some (.int k z)
 | .one _ .bool z => some (.bool z)
 | .one _ .flt z => some (.flt z)
 | .one _ .str z => some (.str z)
 | _ => none
theorem scD_ok {v : Val S} {d d' : D} (h : scD v = some d') (k : VS ρ H v d) : d = d' := by
 unfold scD at h
 split at h <;> first | (cases h; exact (show Cl H _ _ d from k.1).sc rfl) | cases h
def scE (t : TS S) (x : PX) : Option D := match evK t x with
 | some v => scD v
 | none => none
theorem RelR.sc (h : RelR fr b N ρ t s) {x : PX} {d : D} (hx : scE t x = some d) : x.ev s.ts = d := by
 unfold scE at hx
 split at hx
 ·exact scD_ok hx (h.ev (by assumption))
 ·cases hx
def eqVs : Nat → List (Val S) → List (Val S) → Option (Bool × List Nat)
 | 0, _, _ => none
 | _ + 1, [], [] => some (true, [])
 | f + 1, .one _ (.int k) a :: vs, .one _ (.int k') c :: ws => match decide (k = k'), eqVs f vs ws with
  | true, some r => some ((a == c) && r.1, 1 :: r.2)
  | _, _ => none
 | f + 1, .one _ .bool a :: vs, .one _ .bool c :: ws => match eqVs f vs ws with
  | some r => some ((a == c) && r.1, 0 :: r.2)
  | _ => none
 | f + 1, .one _ .str a :: vs, .one _ .str c :: ws => match eqVs f vs ws with
  | some r => some ((a == c) && r.1, 2 :: r.2)
  | _ => none
 | f + 1, .one _ (.arr n k) a :: vs, .one _ (.arr n' k') c :: ws => match Nat.beq n n' && decide (k = k'), eqVs f vs ws with
  | true, some r => some ((a.1 == c.1) && r.1, List.replicate n 1 ++ r.2)
  | _, _ => none
 | f + 1, .one n (.st i) a :: vs, ws => eqVs f (flds n (Sg.fields i) (Sg.split i a) ++ vs) ws
 | f + 1, vs, .one n (.st i) a :: ws => eqVs f vs (flds n (Sg.fields i) (Sg.split i a) ++ ws)
 | f + 1, .one m (.arr n k) a :: vs, ws => match cutV fuelV n ws with
  | some p => match ints k p.1 with
   | some l => match Nat.beq l.length n, eqVs f vs p.2 with
    | true, some r => some ((a.1 == l) && r.1, List.replicate n 1 ++ r.2)
    | _, _ => none
   | none => none
  | none => none
 | _, _, _ => none
theorem one_sc {k : IntKind} {n : Nat} {z : Int} {d : List D} (h : VC (S := S) ρ H (.one n (.int k) z) d) : d = [.int k z] := by
 match d, h with
 | [d], h => rw [show d = _ from h.1.sc rfl]
theorem one_bool {n : Nat} {z : Bool} {d : List D} (h : VC (S := S) ρ H (.one n .bool z) d) : d = [.bool z] := by
 match d, h with
 | [d], h => rw [show d = _ from h.1.sc rfl]
theorem one_str {n : Nat} {z : List UInt8} {d : List D} (h : VC (S := S) ρ H (.one n .str z) d) : d = [.str z] := by
 match d, h with
 | [d], h => rw [show d = _ from h.1.sc rfl]
theorem arr_sc {n : Nat} {k : IntKind} : ∀ {l : List Int} {d : List D}, All2 (Cl H n) (l.map fun z => D.int k z) d → d = l.map fun z => D.int k z
 | [], [], _ => rfl
 | a :: l, d :: ds, h => by rw [show d = _ from h.1.sc rfl, arr_sc h.2]; rfl
 | [], _ :: _, h | _ :: _, [], h => h.elim
theorem eqVs_ok : ∀ {f : Nat} {vs ws : List (Val S)} {r : Bool × List Nat} {ds es : List D}, eqVs f vs ws = some r → VCs ρ H vs ds → VCs ρ H ws es → eqCs ds es = some r.1 ∧ ds.map kindD = r.2 ∧ es.map kindD = r.2
 | 0, _, _, _, _, _, h, _, _ => nomatch h
 | f + 1, vs, ws, r, ds, es, h, k, k' => by
  unfold eqVs at h
  split at h
  ·rename_i e; cases e
  ·cases h
   rw [show ds = [] from k, show es = [] from k']
   exact ⟨rfl, rfl, rfl⟩
  ·split at h
   ·rename_i hk hr
    cases h
    have := of_decide_eq_true hk
    subst this
    obtain ⟨a, a', rfl, h1, h2⟩ := k
    obtain ⟨c, c', rfl, h3, h4⟩ := k'
    obtain ⟨e1, e2, e3⟩ := eqVs_ok hr h2 h4
    have := one_sc h1
    have := one_sc h3
    subst a c
    simp only [List.cons_append, List.nil_append, eqCs, eqC, if_true, Option.bind_some, List.map_cons, e2, e3, e1, kindD]
    refine ⟨?_, trivial, trivial⟩
    split <;> rename_i q
    ·rw [q]; rfl
    ·rw [Bool.eq_false_iff.mpr q]; rfl
   ·cases h
  ·split at h
   ·rename_i hr
    cases h
    obtain ⟨a, a', rfl, h1, h2⟩ := k
    obtain ⟨c, c', rfl, h3, h4⟩ := k'
    obtain ⟨e1, e2, e3⟩ := eqVs_ok hr h2 h4
    have := one_bool h1
    have := one_bool h3
    subst a c
    simp only [List.cons_append, List.nil_append, eqCs, eqC, Option.bind_some, List.map_cons, e2, e3, e1, kindD]
    refine ⟨?_, trivial, trivial⟩
    split <;> rename_i q
    ·rw [q]; rfl
    ·rw [Bool.eq_false_iff.mpr q]; rfl
   ·cases h
  ·split at h
   ·rename_i hr
    cases h
    obtain ⟨a, a', rfl, h1, h2⟩ := k
    obtain ⟨c, c', rfl, h3, h4⟩ := k'
    obtain ⟨e1, e2, e3⟩ := eqVs_ok hr h2 h4
    have := one_str h1
    have := one_str h3
    subst a c
    simp only [List.cons_append, List.nil_append, eqCs, eqC, Option.bind_some, List.map_cons, e2, e3, e1, kindD]
    refine ⟨?_, trivial, trivial⟩
    split <;> rename_i q
    ·rw [q]; rfl
    ·rw [Bool.eq_false_iff.mpr q]; rfl
   ·cases h
  ·split at h
   ·rename_i _ nn kk x vs _ n' kk' y ws _ _ _ r hk hr
    cases h
    simp only [Bool.and_eq_true, decide_eq_true_eq] at hk
    obtain ⟨hk1, rfl⟩ := hk
    obtain rfl := Nat.eq_of_beq_eq_true hk1
    obtain ⟨a, a', rfl, h1, h2⟩ := k
    obtain ⟨c, c', rfl, h3, h4⟩ := k'
    obtain ⟨e1, e2, e3⟩ := eqVs_ok hr h2 h4
    have q1 := arr_sc h1
    have q2 := arr_sc h3
    subst q1 q2
    rw [eqCs_int (by rw [x.2, y.2]), e1]
    refine ⟨?_, ?_, ?_⟩
    ·cases hh : x.1 == y.1 <;> rfl
    ·rw [List.map_append, List.map_map, e2]
     congr 1
     rw [show (kindD ∘ fun z => D.int kk z) = fun _ => 1 from rfl, List.map_const', x.2]
    ·rw [List.map_append, List.map_map, e3]
     congr 1
     rw [show (kindD ∘ fun z => D.int kk z) = fun _ => 1 from rfl, List.map_const', y.2]
   ·cases h
  ·rename_i n i a vs _
   obtain ⟨d, d', rfl, h1, h2⟩ := k
   exact eqVs_ok h ((flds_ok (Sg.hD i a ▸ h1)).app h2) k'
  ·rename_i n i a ws _ _
   obtain ⟨d, d', rfl, h1, h2⟩ := k'
   exact eqVs_ok h k ((flds_ok (Sg.hD i a ▸ h1)).app h2)
  ·rename_i m n kk x vs _ _ _
   split at h
   ·rename_i p hp
    split at h
    ·rename_i l hl
     split at h
     ·rename_i r hb hr
      cases h
      obtain ⟨a, a', rfl, h1, h2⟩ := k
      obtain ⟨c, c', rfl, h3, h4, h5⟩ := cutV_ok (a := p.1) (b := p.2) hp k'
      obtain ⟨e1, e2, e3⟩ := eqVs_ok hr h2 h5
      have q1 := arr_sc h1
      have q2 : c = l.map fun z => D.int kk z := by
       have := ints_ok (R := fun x y => y = x) (fun _ _ => rfl) hl h4
       exact All2.eq_iff.mp this
      have hln := Nat.eq_of_beq_eq_true hb
      subst q1 q2
      rw [eqCs_int (by rw [x.2, hln]), e1]
      refine ⟨?_, ?_, ?_⟩
      ·cases hh : x.1 == l <;> rfl
      ·rw [List.map_append, List.map_map, e2]
       congr 1
       rw [show (kindD ∘ fun z => D.int kk z) = fun _ => 1 from rfl, List.map_const', x.2]
      ·rw [List.map_append, List.map_map, e3]
       congr 1
       rw [show (kindD ∘ fun z => D.int kk z) = fun _ => 1 from rfl, List.map_const', hln]
     ·cases h
    ·cases h
   ·cases h
  ·cases h
end
end Go.Pi
namespace Go.Pi
set_option linter.unusedVariables false
section
variable {S : Nat → Type} [Sg : Sig S] {ρ ρ' : Rho} {H H' : Heap}
theorem Cl.lst_cases {H : Heap} {n sz : Nat} {es : List (List D)} {d : D} (h : Cl H n (.lst sz es) d) :
  (es = [] ∧ d = .nil) ∨ (∃ es', d = .lst sz es' ∧ All2 (All2 Nr) es es') ∨
  (∃ k id off len es0, n = k + 1 ∧ d = .ref id off len ∧ hat H id = .row sz es0 false ∧ off + len ≤ es0.length ∧ len = es.length ∧ All2 (All2 (Cl H k)) es ((es0.drop off).take len) ∧ 0 < sz ∧ ∀ e ∈ es0, e.length ≤ sz) := by
 cases n with
 | zero => exact h.elim
 | succ n =>
  rcases h with ⟨_, k⟩ | ⟨sz', es', id, off, len, es0, h1, h2, h3, h4, h5, h6, h7⟩ | ⟨cs, id, i, j, sz, es0, e, h1, h2, h3⟩ | ⟨cs, ds, h1, h2, h3⟩
  ·rcases k.lst with k | k
   ·exact .inl k
   ·exact .inr (.inl k)
  ·injection h1 with h1 h1'
   subst h1; subst h1'
   have := h5.len
   simp at this
   exact .inr (.inr ⟨n, id, off, len, es0, rfl, h2, h3, h4, by omega, h5, h6, h7⟩)
  ·cases h1
  ·cases h1
theorem divmod {i sz j : Nat} (h : j < sz) : (i * sz + j) / sz = i ∧ (i * sz + j) % sz = j :=
 ⟨by rw [Nat.mul_comm, Nat.mul_add_div (by omega), Nat.div_eq_of_lt h]; omega, by rw [Nat.mul_comm, Nat.mul_add_mod, Nat.mod_eq_of_lt h]⟩
theorem cell_plain {d : D} (h : cellD d = true) : plain d = true := by cases d <;> first | rfl | cases h
theorem cls_rfl {n : Nat} : ∀ {cs : List D}, (∀ d ∈ cs, cellD d = true) → All2 (Cl H (n + 1)) cs cs
 | [], _ => trivial
 | c :: cs, h => ⟨Cl.plain (cell_plain (h c (by simp))) (Nr.rfl' c), cls_rfl fun d hd => h d (by simp [hd])⟩
theorem VSx.toVS {v : Val S} {d : D} (h : VSx ρ H v d) : VS ρ H v d := by
 cases v with
 | tup vs => exact h.elim
 | _ => exact h
theorem VSx_get : ∀ {vs : List (Val S)} {ds : List D} {i : Nat} {v : Val S}, All2 (VSx ρ H) vs ds → vs[i]? = some v → ∃ d, ds[i]? = some d ∧ VSx ρ H v d
 | v :: vs, d :: ds, 0, w, h, k => by cases k; exact ⟨d, rfl, h.1⟩
 | v :: vs, d :: ds, i + 1, w, h, k => VSx_get (i := i) h.2 k
 | [], [], _, _, _, k => by cases k
 | [], _ :: _, _, _, h, _ | _ :: _, [], _, _, h, _ => h.elim
def binP (op : BinOp) (a b : D) : Option D := match op with
 | .quo => (match a with | .flt _ => binD op a b | _ => none)
 | .rem => none
 | .shl => none
 | .shr => none
 | .add => (match a with | .str _ => none | _ => binD op a b)
 | op => binD op a b
theorem binP_ok {op : BinOp} {a b d : D} (h : binP op a b = some d) : binD op a b = some d := by
 unfold binP at h
 split at h <;> first | exact h | (split at h <;> first | exact h | cases h) | cases h
def cellsK (t : TS S) (x : PX) : Option (List (Val S)) := match evK t x with
 | some v => cellsV v
 | none => none
def aggK (t : TS S) (x : PX) : Option (List (Val S)) := match evK t x with
 | some (.agg vs) => some vs
 | some (.one n c v) => match isAgg c with
  | true => some [.one n c v]
  | false => none
 | _ => none
def fillK (t : TS S) : List (Val S) → List (Nat × Nat × PX) → Option (List (Val S))
 | z, [] => some z
 | z, (off, n, x) :: ps => match cellsK t x with
  | some ws => match Nat.beq (widths ws) n, repl z off n ws with
   | true, some z' => fillK t z' ps
   | _, _ => none
  | none => none
def boolV (b : Bool) : Val S := .one 1 .bool b
def intV (k : IntKind) (n : Int) : Val S := .one 1 (.int k) n
def eqFuel : Nat := 600
def ptrOk (t : TS S) (o j : Nat) : Bool := match look t.hp o with
 | some (.row _ e _) => Nat.blt j (W (S := S) e)
 | some (.box pn vs) => Nat.blt j (widths vs)
 | none => false
def pureK (t : TS S) : POp → Option (Val S)
 | .mv x => evK t x
 | .nilCheck x => match evK t x with
  | some (.ptr o p i j) => some (.ptr o p i j)
  | some (.fp n c v j) => some (.fp n c v j)
  | _ => none
 | .bin op x y => match scE t x, scE t y with
  | some a, some b => match binP op a b with
   | some d => ofD d
   | none => none
  | _, _ => none
 | .eqB neg x y => match scE t x, scE t y with
  | some (.bool a), some (.bool b) => some (boolV (if neg then !(a == b) else a == b))
  | _, _ => none
 | .eqNP neg x => match evK t x with
  | some .nilp => some (boolV (!neg))
  | some (.ptr _ _ _ _) => some (boolV neg)
  | some (.fp _ _ _ _) => some (boolV neg)
  | _ => none
 | .eqNS neg x => match evK t x with
  | some .nil => some (boolV (!neg))
  | _ => none
 | .eqA neg ks x y => match aggK t x, aggK t y with
  | some vs, some ws => match eqVs eqFuel vs ws with
   | some r => match decide (r.2 = ks) with
    | true => some (boolV (if neg then !r.1 else r.1))
    | false => none
   | none => none
  | _, _ => none
 | .un op x => match scE t x with
  | some a => match unD op a with
   | some d => ofD d
   | none => none
  | none => none
 | .conv c x => match c with
  | .toInt k => (match scE t x with
   | some (.int _ n) => some (intV k (k.wrap n))
   | _ => none)
  | .toFlt => (match scE t x with
   | some (.int _ n) => some (.one 1 .flt (some (FloatKind.f64.nearest n)))
   | _ => none)
  | .same => evK t x
  | _ => none
 | .fieldAddr off n x => match evK t x with
  | some (.ptr o p i j) => (match p, ptrOk t o (j + off) with
   | [], true => some (.ptr o [] i (j + off))
   | _, _ => none)
  | some (.fp n c v j) => (match Nat.blt (j + off) (W (S := S) c) with
   | true => some (.fp n c v (j + off))
   | false => none)
  | _ => none
 | .field ag off n x => match aggK t x with
  | some vs => match part vs off n with
   | some ms => shapeV ag ms
   | none => none
  | none => none
 | .extract x i => match evK t x with
  | some (.tup vs) => vs[i]?
  | _ => none
 | .len x => match evK t x with
  | some .nil => some (intV .i64 0)
  | some (.one _ (.list c) l) => some (intV .i64 ((List.length (l : List (T S c)) : Nat) : Int))
  | some (.win _ _ _ len) => some (intV .i64 ((len : Nat) : Int))
  | _ => none
 | .lenS x => match scE t x with
  | some (.str s) => some (intV .i64 ((s.length : Nat) : Int))
  | _ => none
 | .build zero parts => match ofDs zero with
  | some z => match fillK t z parts with
   | some vs => some (.agg vs)
   | none => none
  | none => none
 | .minmax mx x ys => match scE t x, ys with
  | some (.int k a), [y] => (match scE t y with
   | some (.int k' b) => match decide (k = k') with
    | true => some (intV k (if mx then (if b > a then b else a) else (if b < a then b else a)))
    | false => none
   | _ => none)
  | _, _ => none
 | .load ag n x => match evK t x with
  | some (.fp m c v j) => match Nat.blt 0 n, part [.one m c v] j n with
   | true, some ms => shapeV ag ms
   | _, _ => none
  | _ => none
 | .ofBits x => match scE t x with
  | some (.int .u64 n) => some (.one 1 .flt (some n.toNat))
  | _ => none
 | _ => none
variable {fr : Fr} {b N : Nat} {t : TS S} {s : St}
theorem VS.fp {n j : Nat} {c : Code} {v : T S c} {d : D} (h : VS ρ H (.fp n c v j) d) : ∃ r, Cl H n (.fptr ((en c v).drop j ++ r)) d := h
theorem RelR.ptrOk (h : RelR fr b N ρ t s) {o j id sz : Nat} {es : List (List D)} (hk : Pi.ptrOk t o j = true) (h1 : ρ o [] = some (some id)) (h2 : hat s.hp id = .row sz es true) : j < sz := by
 unfold Pi.ptrOk at hk
 split at hk
 ·rename_i n e l ho
  have := h.hp _ _ ho
  have key : ∀ {w : Nat} {E : Nat → T S e → List D → Prop}, RowB s.hp w (ρ o) l E → w = sz := by
   intro w E hr
   rcases hr with ⟨k, _⟩ | ⟨id', es', k1, k2, _⟩
   ·rw [h1] at k; cases k
   ·rw [h1] at k1; cases k1; rw [h2] at k2; cases k2; rfl
  have hw : W (S := S) e = sz := by
   cases e with
   | own e => exact key this
   | _ => exact key this
  rw [← hw]
  simpa using hk
 ·rename_i vs ho
  obtain ⟨id', ds, k1, k2, _⟩ := h.hp _ _ ho
  rw [h1] at k1; cases k1; rw [h2] at k2; cases k2
  simpa using hk
 ·cases hk
theorem boolV_ok (b : Bool) : VS (S := S) ρ H (boolV b) (.bool b) := (ofD_ok (d := .bool b) rfl).1
theorem intV_ok (k : IntKind) (n : Int) : VS (S := S) ρ H (intV k n) (.int k n) := (ofD_ok (d := .int k n) rfl).1
theorem RelR.cells (h : RelR fr b N ρ t s) {x : PX} {vs : List (Val S)} (hx : cellsK t x = some vs) : VCs ρ s.hp vs (cellsOf (x.ev s.ts)) ∧ (cellsOf (x.ev s.ts)).all one = true := by
 unfold cellsK at hx
 split at hx
 ·exact cellsV_ok hx (h.ev (by assumption))
 ·cases hx
theorem RelR.agg (h : RelR fr b N ρ t s) {x : PX} {vs : List (Val S)} (hx : aggK t x = some vs) : ∃ ds, x.ev s.ts = .agg ds ∧ VCs ρ s.hp vs ds := by
 unfold aggK at hx
 split at hx
 ·rename_i vs' hv
  cases hx
  exact h.ev hv
 ·rename_i n c v hv
  split at hx
  ·rename_i hc
   cases hx
   have k := h.ev hv
   simp only [VS, VSx, hc] at k
   obtain ⟨ds, e, k⟩ := k
   exact ⟨ds, e, ds, [], by simp, k, rfl⟩
  ·cases hx
 ·cases hx
theorem RelR.fill (h : RelR fr b N ρ t s) : ∀ {ps : List (Nat × Nat × PX)} {z vs : List (Val S)} {zd : List D}, fillK t z ps = some vs → VCs ρ s.hp z zd →
  (ps.all fun p => (cellsOf (p.2.2.ev s.ts)).all one) = true ∧ ∃ ds, fillB zd (ps.map fun p => (p.1, p.2.1, p.2.2.ev s.ts)) = some ds ∧ VCs ρ s.hp vs ds
 | [], z, vs, zd, hf, hz => by cases hf; exact ⟨rfl, zd, rfl, hz⟩
 | (off, n, x) :: ps, z, vs, zd, hf, hz => by
  simp only [fillK] at hf
  split at hf
  ·rename_i ws hws
   split at hf
   ·rename_i z' hw hz'
    obtain ⟨k1, k2⟩ := h.cells hws
    have hl : (cellsOf (x.ev s.ts)).length = n := by rw [k1.len]; exact Nat.eq_of_beq_eq_true hw
    obtain ⟨k3, k4, _⟩ := repl_ok hz' hz k1 hl
    obtain ⟨k5, ds, k6, k7⟩ := h.fill hf k3
    refine ⟨by simp only [List.all_cons, k2, k5, Bool.and_self], ds, ?_, k7⟩
    simp only [List.map_cons, fillB, if_pos (And.intro hl k4)]
    exact k6
   ·cases hf
  ·cases hf
theorem fptr_cases {n : Nat} {cs : List D} {d : D} (h : Cl H n (.fptr cs) d) : (∃ ds, d = .fptr ds ∧ All2 Nr cs ds) ∨ ∃ m id i j sz es0 e, n = m + 1 ∧ d = .ptr id (i * sz + j) ∧ hat H id = .row sz es0 false ∧ es0[i]? = some e ∧ All2 (Cl H m) cs (e.drop j) ∧ j < sz ∧ e.length ≤ sz := by
 cases n with
 | zero => exact h.elim
 | succ n =>
  rcases h with h | ⟨sz, es, id, off, len, es0, h1, _⟩ | ⟨cs', id, i, j, sz, es0, e, h1, rfl, h2, h3, h4, h5, h6⟩ | ⟨cs, ds, h1, _⟩
  ·obtain ⟨ds, rfl, k⟩ := Nr.fptr h.2
   exact .inl ⟨ds, rfl, k⟩
  ·cases h1
  ·cases h1
   exact .inr ⟨n, id, i, j, sz, es0, e, rfl, rfl, h2, h3, h4, h5, h6⟩
  ·cases h1
theorem fp_load {n j k : Nat} {c : Code} {v : T S c} {d : D} {r : List D} {ms : List (Val S)} (h : Cl H n (.fptr ((en c v).drop j ++ r)) d) (hk : 0 < k) (hp : part [.one n c v] j k = some ms) (call : CallF) (f : PX → D) (q : Nat) (x : PX) (hx : f x = d) (ag : Bool) :
  ∃ ds, VCs ρ H ms ds ∧ (opE call f q (.load ag k x)).run H = ((shaped ag ds).map fun d => ⟨d, [], []⟩) := by
 have key : ∀ {m : Nat} {a a' : List D}, n = m + 1 → All2 (Cl H (m + 1)) ((en c v).drop j) a → k ≤ (a ++ a').length ∧ VCs ρ H ms ((a ++ a').take k) := by
  intro m a a' hn h1
  have h3 : All2 (Cl H n) (en c v) ((en c v).take j ++ a) := by
   have q : All2 (Cl H (m + 1)) ((en c v).take j ++ (en c v).drop j) ((en c v).take j ++ a) :=
    All2.append (cls_rfl fun d hd => en_cell c v d (List.mem_of_mem_take hd)) h1
   rw [List.take_append_drop] at q
   rw [hn]
   exact q
  have h4 := part_okK (ρ := ρ) (H := H) hp (show VCs ρ H [.one n c v] _ from ⟨_, [], (List.append_nil _).symm, h3, rfl⟩)
  have hl := h1.len
  have hl3 := h3.len
  simp only [List.length_append, List.length_take, List.length_drop] at h4 hl hl3
  have hj : j ≤ (en c v).length := by omega
  have e : List.drop j ((en c v).take j ++ a) = a := by
   rw [List.drop_append_of_le_length (by simp; omega)]
   simp [List.drop_take]
  rw [e] at h4
  refine ⟨by simp; omega, ?_⟩
  rw [List.take_append_of_le_length (by omega)]
  exact h4.1
 rcases fptr_cases h with ⟨ds, rfl, h1⟩ | ⟨m, id, i, jj, sz, es0, e, hn, rfl, h2, h3, h4, h5, h6⟩
 ·cases n with
  | zero => exact h.elim
  | succ m =>
   obtain ⟨a, a', rfl, h1, _⟩ := All2.split h1
   obtain ⟨k1, k2⟩ := key (m := m) (a := a) (a' := a') rfl (h1.mono fun x y ha hb => by
    have := en_cell c v x (List.mem_of_mem_drop ha)
    refine Cl.plain ?_ hb
    cases x with
    | lst sz es => rcases hb with ⟨_, rfl⟩ | ⟨_, rfl, _⟩ <;> rfl
    | int _ _ => rw [show y = _ from hb]; rfl
    | bool _ => rw [show y = _ from hb]; rfl
    | flt _ => rw [show y = _ from hb]; rfl
    | str _ => rw [show y = _ from hb]; rfl
    | _ => cases this)
   exact ⟨(a ++ a').take k, k2, by simp only [opE, hx, k1, if_true]; cases shaped ag ((a ++ a').take k) <;> rfl⟩
 ·obtain ⟨a, a', ea, h7, _⟩ := All2.split h4
  obtain ⟨k1, k2⟩ := key (a := a) (a' := a') hn (h7.mono fun _ _ _ q => q.up1)
  rw [← ea] at k1 k2
  obtain ⟨d1, d2⟩ := divmod (i := i) h5
  refine ⟨(e.drop jj).take k, k2, ?_⟩
  rw [List.length_drop] at k1
  simp only [opE, hx, Eff.run, h2, d1, d2, h3]
  rw [if_pos (by omega)]
  cases shaped ag ((e.drop jj).take k) <;> rfl
theorem pureK_ok (h : RelR fr b N ρ t s) {op : POp} {v : Val S} (hp : pureK t op = some v) (call : CallF) (r : Nat) :
  ∃ d, (opE call (PX.ev s.ts) r op).run s.hp = some ⟨d, [], []⟩ ∧ VS ρ s.hp v d := by
 cases op with
 | mv x => exact ⟨_, rfl, h.ev hp⟩
 | nilCheck x =>
  simp only [pureK] at hp
  split at hp
  ·rename_i o p i j hx
   cases hp
   obtain ⟨id, sz, es, h1, h2, h3, h4⟩ := h.ev hx
   exact ⟨.ptr id (i * sz + j), by simp only [opE, h4]; rfl, id, sz, es, h1, h2, h3, rfl⟩
  ·rename_i n c v j hx
   cases hp
   have k := h.ev hx
   obtain ⟨r', k'⟩ := k.fp
   refine ⟨x.ev s.ts, ?_, k⟩
   rcases fptr_cases k' with ⟨ds, e, _⟩ | ⟨_, _, _, _, _, _, _, _, e, _⟩ <;> simp only [opE, e] <;> rfl
  ·cases hp
 | bin op x y =>
  simp only [pureK] at hp
  split at hp
  ·rename_i a c ha hc
   split at hp
   ·rename_i d hd
    exact ⟨d, by simp only [opE, h.sc ha, h.sc hc, binP_ok hd]; rfl, (ofD_ok hp).1⟩
   ·cases hp
  ·cases hp
 | eqB neg x y =>
  simp only [pureK] at hp
  split at hp
  ·rename_i a c ha hc
   cases hp
   exact ⟨_, by simp only [opE, h.sc ha, h.sc hc]; rfl, boolV_ok _⟩
  ·cases hp
 | eqNP neg x =>
  simp only [pureK] at hp
  split at hp
  ·rename_i hx
   cases hp
   have e : x.ev s.ts = .nilp := h.ev hx
   refine ⟨.bool (!neg), by simp only [opE, e]; cases neg <;> rfl, boolV_ok _⟩
  ·rename_i hx
   cases hp
   obtain ⟨id, sz, es, h1, h2, h3, e⟩ := h.ev hx
   refine ⟨.bool neg, by simp only [opE, e]; cases neg <;> rfl, boolV_ok _⟩
  ·rename_i hx
   cases hp
   obtain ⟨r', k'⟩ := (h.ev hx).fp
   refine ⟨.bool neg, ?_, boolV_ok _⟩
   rcases fptr_cases k' with ⟨ds, e, _⟩ | ⟨_, _, _, _, _, _, _, _, e, _⟩ <;> simp only [opE, e] <;> cases neg <;> rfl
  ·cases hp
 | eqNS neg x =>
  simp only [pureK] at hp
  split at hp
  ·rename_i hx
   cases hp
   have e : x.ev s.ts = .nil := h.ev hx
   refine ⟨.bool (!neg), by simp only [opE, e]; cases neg <;> rfl, boolV_ok _⟩
  ·cases hp
 | eqA neg ks x y =>
  simp only [pureK] at hp
  split at hp
  ·rename_i vs ws hv hw
   split at hp
   ·rename_i q hq
    split at hp
    ·rename_i hk
     cases hp
     obtain ⟨ds, e1, k1⟩ := h.agg hv
     obtain ⟨es, e2, k2⟩ := h.agg hw
     obtain ⟨k3, k4, k5⟩ := eqVs_ok hq k1 k2
     have hk := of_decide_eq_true hk
     subst hk
     exact ⟨_, by simp only [opE, e1, e2, k3, k4, k5, and_self, if_true, Option.map_some]; rfl, boolV_ok _⟩
    ·cases hp
   ·cases hp
  ·cases hp
 | un op x =>
  simp only [pureK] at hp
  split at hp
  ·rename_i a ha
   split at hp
   ·rename_i d hd
    exact ⟨d, by simp only [opE, h.sc ha, hd]; rfl, (ofD_ok hp).1⟩
   ·cases hp
  ·cases hp
 | conv c x =>
  simp only [pureK] at hp
  split at hp
  ·split at hp
   ·rename_i ha
    cases hp
    exact ⟨_, by simp only [opE, h.sc ha]; rfl, intV_ok _ _⟩
   ·cases hp
  ·split at hp
   ·rename_i ha
    cases hp
    exact ⟨_, by simp only [opE, h.sc ha]; rfl, (ofD_ok (d := .flt _) rfl).1⟩
   ·cases hp
  ·exact ⟨_, by simp only [opE]; rfl, h.ev hp⟩
  ·cases hp
 | fieldAddr off n x =>
  simp only [pureK] at hp
  split at hp
  ·rename_i o p i j hx
   split at hp
   ·rename_i _ hok
    cases hp
    obtain ⟨id, sz, es, h1, h2, h3, e⟩ := h.ev hx
    refine ⟨.ptr id (i * sz + j + off), by simp only [opE, e]; rfl, id, sz, es, h1, h2, ?_, by rw [Nat.add_assoc]⟩
    exact h.ptrOk hok h1 h2
   ·cases hp
  ·rename_i n' c v j hx
   split at hp
   ·rename_i hw
    cases hp
    have hw : j + off < (en c v).length := by rw [encs_len]; simpa using hw
    obtain ⟨r', k'⟩ := (h.ev hx).fp
    have e0 : ((en c v).drop j ++ r').drop off = (en c v).drop (j + off) ++ r' := by
     rw [List.drop_append_of_le_length (by rw [List.length_drop]; omega), List.drop_drop]
    rcases fptr_cases k' with ⟨ds, e, k⟩ | ⟨m, id, i, jj, sz, es0, e, hn, ex, h2, h3, h4, h5, h6⟩
    ·refine ⟨.fptr (ds.drop off), by simp only [opE, e]; rfl, r', ?_⟩
     cases n' with
     | zero => exact k'.elim
     | succ m => exact Cl.plain rfl (Nr.mk_fptr (by rw [← e0]; exact k.drop off))
    ·refine ⟨.ptr id (i * sz + jj + off), by simp only [opE, ex]; rfl, r', ?_⟩
     have hl := h4.len
     rw [List.length_append, List.length_drop, List.length_drop] at hl
     subst hn
     refine .inr (.inr (.inl ⟨_, id, i, jj + off, sz, es0, e, rfl, by rw [Nat.add_assoc], h2, h3, ?_, by omega, h6⟩))
     rw [← e0, ← List.drop_drop]
     exact h4.drop off
   ·cases hp
  ·cases hp
 | field ag off n x =>
  simp only [pureK] at hp
  split at hp
  ·rename_i vs hv
   split at hp
   ·rename_i ms hm
    obtain ⟨ds, e1, k1⟩ := h.agg hv
    obtain ⟨k2, k3⟩ := part_okK hm k1
    obtain ⟨d, k4, k5⟩ := shapeV_ok hp k2
    exact ⟨d, by simp only [opE, e1, k3, if_true, k4]; rfl, k5⟩
   ·cases hp
  ·cases hp
 | extract x i =>
  simp only [pureK] at hp
  split at hp
  ·rename_i vs hv
   obtain ⟨ds, e1, k1⟩ := h.ev hv
   obtain ⟨d, k2, k3⟩ := VSx_get k1 hp
   exact ⟨d, by simp only [opE, e1, k2]; rfl, k3.toVS⟩
  ·cases hp
 | len x =>
  simp only [pureK] at hp
  split at hp
  ·rename_i hx
   cases hp
   have e : x.ev s.ts = .nil := h.ev hx
   exact ⟨_, by simp only [opE, e]; rfl, intV_ok _ _⟩
  ·rename_i n c l hx
   cases hp
   have k : Cl s.hp n (.lst (W (S := S) c) (List.map (en c) l)) (x.ev s.ts) := (h.ev hx).1
   refine ⟨.int .i64 ((List.length (l : List (T S c)) : Nat) : Int), ?_, intV_ok _ _⟩
   rcases k.lst_cases with ⟨e1, e2⟩ | ⟨es', e2, k2⟩ | ⟨k, id, off, len, es0, _, e2, _, _, e3, _⟩
   ·have : l = [] := by simpa using e1
    subst this
    simp only [opE, e2]; rfl
   ·have := k2.len
    rw [List.length_map] at this
    simp only [opE, e2, this]; rfl
   ·rw [List.length_map] at e3
    simp only [opE, e2, e3]; rfl
  ·rename_i o p off len hx
   cases hp
   refine ⟨.int .i64 ((len : Nat) : Int), ?_, intV_ok _ _⟩
   rcases h.ev hx with ⟨id, _, _, _, _, _, e⟩ | ⟨_, rfl, rfl, e⟩ <;> simp only [opE, e] <;> rfl
  ·cases hp
 | lenS x =>
  simp only [pureK] at hp
  split at hp
  ·rename_i ha
   cases hp
   exact ⟨_, by simp only [opE, h.sc ha]; rfl, intV_ok _ _⟩
  ·cases hp
 | build zero parts =>
  simp only [pureK] at hp
  split at hp
  ·rename_i z hz
   split at hp
   ·rename_i vs hf
    cases hp
    obtain ⟨k1, ds, k2, k3⟩ := h.fill hf (ofDs_ok hz)
    exact ⟨.agg ds, by simp only [opE, k1, k2, if_true]; rfl, ds, rfl, k3⟩
   ·cases hp
  ·cases hp
 | minmax mx x ys =>
  simp only [pureK] at hp
  split at hp
  ·rename_i k a y ha
   split at hp
   ·rename_i k' c hc
    split at hp
    ·rename_i hk
     cases hp
     have hk := of_decide_eq_true hk
     subst hk
     exact ⟨_, by simp only [opE, h.sc ha, List.map_cons, List.map_nil, h.sc hc, minmaxI, if_true]; rfl, intV_ok _ _⟩
    ·cases hp
   ·cases hp
  ·cases hp
 | load ag n x =>
  simp only [pureK] at hp
  split at hp
  ·rename_i m c v j hx
   split at hp
   ·rename_i ms hn hm
    obtain ⟨r', k'⟩ := (h.ev hx).fp
    obtain ⟨ds, k1, k2⟩ := fp_load k' (by simpa using hn) hm call (PX.ev s.ts) r x rfl ag
    obtain ⟨d, k3, k4⟩ := shapeV_ok hp k1
    exact ⟨d, by rw [k2, k3]; rfl, k4⟩
   ·cases hp
  ·cases hp
 | ofBits x =>
  simp only [pureK] at hp
  split at hp
  ·rename_i ha
   cases hp
   exact ⟨_, by simp only [opE, h.sc ha]; rfl, (ofD_ok (d := .flt _) rfl).1⟩
  ·cases hp
 | _ => cases hp
end
end Go.Pi
namespace Go.Pi
set_option linter.unusedVariables false
theorem hat_setK {H : Heap} {id j : Nat} {k : Blk} (h : id < H.length) : hat (H.set id k) j = if j = id then k else hat H j := by
 unfold hat
 rw [List.getD, List.getElem?_set]
 by_cases hj : id = j
 ·subst hj; simp [h]
 ·simp [hj, Ne.symm hj, List.getD]
theorem hat_ltK {H : Heap} {id : Nat} (h : hat H id ≠ .fresh) : id < H.length := by
 rcases Nat.lt_or_ge id H.length with k | k
 ·exact k
 ·exact absurd (by simp [hat, List.getD, k]) h
theorem HLe_set {H : Heap} {id : Nat} {k : Blk} (hn : ∀ sz es, hat H id ≠ .row sz es false) : HLe H (H.set id k) := by
 intro j sz es hj
 have hl : j < H.length := hat_ltK (by rw [hj]; simp)
 rcases Nat.lt_or_ge id H.length with q | q
 ·rw [hat_setK q]
  split
  ·rename_i e; subst e; exact absurd hj (hn sz es)
  ·exact hj
 ·rw [List.set_eq_of_length_le q]
  exact hj
section
variable {S : Nat → Type} [Sg : Sig S] {ρ ρ' : Rho} {H H' : Heap} {fr : Fr} {b N : Nat} {t : TS S} {s : St} {α : Type}
def rowK : (e : Code) → List (T S e) → List Nat → ((e : Code) → List (T S e) → Option α) → Option α
 | e, l, [], K => K e l
 | .own e, l, i :: p, K => (l[i]?).bind fun v => rowK e v p K
 | _, _, _ :: _, _ => none
theorem RowR_own {n : Nat} {e : Code} {q : List Nat → Option (Option Nat)} {l : List (T S (.own e))} (h : RowR H n (.own e) q l) {i : Nat} {v : T S (.own e)} (hv : l[i]? = some v) :
  ∃ id es x, q [] = some (some id) ∧ hat H id = .row 1 es true ∧ es.length = l.length ∧ q [i] = some x ∧ es[i]? = some [refD x (List.length v)] ∧ RowR H n e (fun p => q (i :: p)) v := by
 rcases h with ⟨_, rfl⟩ | ⟨id, es, h1, h2, h3, h4⟩
 ·cases hv
 ·obtain ⟨ds, h5, x, h6, rfl, h7⟩ := h4 i v hv
  exact ⟨id, es, x, h1, h2, h3, h6, h5, h7⟩
theorem rowK_ok {n : Nat} {r : α} : ∀ {p : List Nat} {e : Code} {l : List (T S e)} {q : List Nat → Option (Option Nat)} {K : (e : Code) → List (T S e) → Option α}, rowK e l p K = some r → RowR H n e q l →
  ∃ e' l', K e' l' = some r ∧ RowR H n e' (fun x => q (p ++ x)) l'
 | [], e, l, q, K, h, k => by
  have h : K e l = some r := by cases e <;> exact h
  exact ⟨e, l, h, k⟩
 | i :: p, .own e, l, q, K, h, k => by
  simp only [rowK, Option.bind_eq_some_iff] at h
  obtain ⟨v, hv, h⟩ := h
  obtain ⟨id, es, x, h1, h2, h3, h4, h5, h6⟩ := RowR_own k hv
  obtain ⟨e', l', h7, h8⟩ := rowK_ok h h6
  exact ⟨e', l', h7, h8⟩
 | _ :: _, .int _, _, _, _, h, _ | _ :: _, .bool, _, _, _, h, _ | _ :: _, .flt, _, _, _, h, _ | _ :: _, .str, _, _, _, h, _ | _ :: _, .list _, _, _, _, h, _ | _ :: _, .arr _ _, _, _, _, h, _ | _ :: _, .st _, _, _, _, h, _ => nomatch h
def rowOf (t : TS S) (o : Nat) (p : List Nat) (K : Nat → (e : Code) → List (T S e) → Option α) : Option α := match look t.hp o with
 | some (.row n e l) => rowK e l p (K n)
 | _ => none
theorem RelR.rowOf (h : RelR fr b N ρ t s) {o : Nat} {p : List Nat} {K : Nat → (e : Code) → List (T S e) → Option α} {r : α} (hr : Pi.rowOf t o p K = some r) :
  ∃ n e l, K n e l = some r ∧ RowR s.hp n e (fun x => ρ o (p ++ x)) l := by
 unfold Pi.rowOf at hr
 split at hr
 ·rename_i n e l ho
  obtain ⟨e', l', h1, h2⟩ := rowK_ok hr (h.hp _ _ ho)
  exact ⟨n, e', l', h1, h2⟩
 ·cases hr
theorem RowB.top {β : Type} {sz : Nat} {q : List Nat → Option (Option Nat)} {l : List β} {E : Nat → β → List D → Prop} (h : RowB H sz q l E) : (q [] = some none ∧ l = []) ∨ ∃ id es, q [] = some (some id) ∧ hat H id = .row sz es true ∧ es.length = l.length :=
 h.elim .inl fun ⟨id, es, h1, h2, h3, _⟩ => .inr ⟨id, es, h1, h2, h3⟩
theorem RowR.top {n : Nat} {e : Code} {q : List Nat → Option (Option Nat)} {l : List (T S e)} (h : RowR H n e q l) : (q [] = some none ∧ l = []) ∨ ∃ id es, q [] = some (some id) ∧ hat H id = .row (W (S := S) e) es true ∧ es.length = l.length := by
 cases e <;> exact RowB.top h
theorem RowR.el {n : Nat} {e : Code} (he : isOwn e = false) {q : List Nat → Option (Option Nat)} {l : List (T S e)} (h : RowR H n e q l) {i : Nat} {v : T S e} (hv : l[i]? = some v) :
  ∃ id es ds, q [] = some (some id) ∧ hat H id = .row (W (S := S) e) es true ∧ es.length = l.length ∧ es[i]? = some ds ∧ All2 (Cl H n) (en e v) ds := by
 rw [RowR_cl he] at h
 rcases h with ⟨_, rfl⟩ | ⟨id, es, h1, h2, h3, h4⟩
 ·cases hv
 ·obtain ⟨ds, h5, h6⟩ := h4 i v hv
  exact ⟨id, es, ds, h1, h2, h3, h5, h6⟩
def setKK : (e : Code) → List (T S e) → List Nat → ((e : Code) → List (T S e) → (List (T S e) → Option α) → Option α) → (List (T S e) → Option α) → Option α
 | e, l, [], F, K => F e l K
 | .own e, l, i :: p, F, K => (l[i]?).bind fun v => setKK e v p F fun v' => K (List.set l i v')
 | _, _, _ :: _, _, _ => none
theorem setK_okK {n : Nat} {r : α} : ∀ {p : List Nat} {e : Code} {l : List (T S e)} {q : List Nat → Option (Option Nat)} {F : (e : Code) → List (T S e) → (List (T S e) → Option α) → Option α} {K : List (T S e) → Option α},
  setKK e l p F K = some r → RowR H n e q l →
  ∃ (e' : Code) (l' : List (T S e')) (back : List (T S e') → List (T S e)), F e' l' (fun v => K (back v)) = some r ∧ RowR H n e' (fun x => q (p ++ x)) l' ∧
   ∀ H' l'', HLe H H' → l''.length = l'.length → (∀ x id, q x = some (some id) → x ≠ p → hat H' id = hat H id) → (∀ x y z, q x = some z → q y = some z → ∀ id, z = some id → x = y) → RowR H' n e' (fun x => q (p ++ x)) l'' → RowR H' n e q (back l'') ∧ (back l'').length = l.length
 | [], e, l, q, F, K, h, k => by
  have h : F e l K = some r := by cases e <;> exact h
  exact ⟨e, l, id, h, k, fun H' l'' _ hl _ _ k => ⟨k, hl⟩⟩
 | i :: p, .own e, l, q, F, K, h, k => by
  simp only [setKK, Option.bind_eq_some_iff] at h
  obtain ⟨v, hv, h⟩ := h
  obtain ⟨id, es, x, h1, h2, h3, h4, h5, h6⟩ := RowR_own k hv
  obtain ⟨e', l', back, h7, h8, h9⟩ := setK_okK h h6
  refine ⟨e', l', fun w => List.set l i (back w), h7, h8, fun H' l'' hle hl hh hi hr => ?_⟩
  obtain ⟨h10, h11⟩ := h9 H' l'' hle hl (fun x id hx hne => hh _ _ hx (fun e => hne (by simpa using e))) (fun x y z hx hy id hz => by simpa using hi _ _ _ hx hy id hz) hr
  have hil : i < l.length := by
   rcases Nat.lt_or_ge i l.length with q | q
   ·exact q
   ·rw [List.getElem?_eq_none q] at hv; cases hv
  refine ⟨?_, by simp⟩
  rcases k with ⟨_, rfl⟩ | ⟨id', es', k1, k2, k3, k4⟩
  ·cases hv
  ·rw [h1] at k1
   cases k1
   rw [h2] at k2
   cases k2
   refine .inr ⟨id, es, h1, by rw [hh _ _ h1 (by simp), h2], by simp [h3], fun j w hw => ?_⟩
   rw [List.getElem?_set] at hw
   split at hw
   ·rename_i e; subst e
    simp only [hil, if_true, Option.some.injEq] at hw
    subst hw
    exact ⟨_, h5, x, h4, by rw [h11], h10⟩
   ·rename_i hne
    obtain ⟨ds, k5, y, k6, k7, k8⟩ := k4 j w hw
    refine ⟨ds, k5, y, k6, k7, ?_⟩
    exact RowR.ext hle (fun _ _ hx => hx) (fun x id hx => hh _ _ hx (by simp only [ne_eq, List.cons.injEq, not_and]; exact fun e => absurd e.symm hne)) k8
 | _ :: _, .int _, _, _, _, _, h, _ | _ :: _, .bool, _, _, _, _, h, _ | _ :: _, .flt, _, _, _, _, h, _ | _ :: _, .str, _, _, _, _, h, _ | _ :: _, .list _, _, _, _, _, h, _ | _ :: _, .arr _ _, _, _, _, _, h, _ | _ :: _, .st _, _, _, _, _, h, _ => nomatch h
def ins (ρ : Rho) (o : Nat) (q : List Nat → Option (Option Nat)) : Rho := fun o' p => if o' = o then q p else ρ o' p
def at0 (x : Option Nat) : List Nat → Option (Option Nat)
 | [] => some x
 | _ => none
def TS.add (t : TS S) (ob : Obj S) : TS S := { t with hp := (t.nx, ob) :: t.hp, nx := t.nx + 1 }
def TS.take (t : TS S) (r : Nat) : TS S := { t with av := t.av.erase r }
theorem ins_ne {o o' : Nat} (h : o' ≠ o) (q : List Nat → Option (Option Nat)) (p : List Nat) : ins ρ o q o' p = ρ o' p := by simp [ins, h]
theorem ins_eq (o : Nat) (q : List Nat → Option (Option Nat)) (p : List Nat) : ins ρ o q o p = q p := by simp [ins]
theorem at0_some {x : Option Nat} {p : List Nat} {y : Option Nat} (h : at0 x p = some y) : p = [] ∧ y = x := by
 cases p with
 | nil => cases h; exact ⟨rfl, rfl⟩
 | cons _ _ => cases h
theorem RelR.addObj (h : RelR fr b N ρ t s) {q : List Nat → Option (Option Nat)} {ob : Obj S} (hq1 : ∀ p p' id, q p = some (some id) → q p' = some (some id) → p = p') (hq2 : ∀ p id, q p = some (some id) → (∀ o p', ρ o p' ≠ some (some id)) ∧ fr id = none ∧ ∃ sz es, hat s.hp id = .row sz es true)
  (hob : Ext ρ s.hp (ins ρ t.nx q) s.hp → ObjR fr (ins ρ t.nx q) s.hp t.nx ob) : RelR fr b N (ins ρ t.nx q) (t.add ob) s := by
 have hx : Ext ρ s.hp (ins ρ t.nx q) s.hp := ⟨HLe.refl _, fun o p x hx => by
  rw [ins_ne (fun e => by subst e; rw [h.nxt _ _ (Nat.le_refl _)] at hx; cases hx)]
  exact hx, fun o p id sz es _ he => ⟨es, he, rfl⟩⟩
 refine ⟨h.len, fun i v hv => (h.sl i v hv).ext hx, fun o ob' ho => ?_, fun o p o' p' id h1 h2 => ?_, fun o p id h1 => ?_, fun o p ho => ?_, h.frm, h.avl⟩
 ·simp only [TS.add, look] at ho
  split at ho
  ·rename_i e
   cases ho
   obtain rfl := Nat.eq_of_beq_eq_true e
   exact hob hx
  ·exact ObjR.ext hx (fun p id _ => rfl) (h.hp _ _ ho)
 ·simp only [ins] at h1 h2
  split at h1 <;> split at h2
  ·rename_i e1 e2; subst e1 e2; exact ⟨rfl, hq1 _ _ _ h1 h2⟩
  ·exact absurd h2 ((hq2 _ _ h1).1 _ _)
  ·exact absurd h1 ((hq2 _ _ h2).1 _ _)
  ·exact h.inj _ _ _ _ _ h1 h2
 ·simp only [ins] at h1
  split at h1
  ·exact (hq2 _ _ h1).2
  ·exact h.liv _ _ _ h1
 ·have ho : t.nx + 1 ≤ o := ho
  rw [ins_ne (by omega)]
  exact h.nxt _ _ (by omega)
theorem RelR.fresh (h : RelR fr b N ρ t s) {r sz : Nat} {es : List (List D)} (hr : t.av.contains r = true) :
  RelR fr b N ρ (t.take r) ⟨s.ts, s.hp.set (b + r) (.row sz es true)⟩ ∧ Ext ρ s.hp ρ (s.hp.set (b + r) (.row sz es true)) ∧ hat (s.hp.set (b + r) (.row sz es true)) (b + r) = .row sz es true ∧
   (∀ o p, ρ o p ≠ some (some (b + r))) ∧ fr (b + r) = none ∧ hat s.hp (b + r) = .fresh ∧ b + r < s.hp.length := by
 have hm : r ∈ t.av := by simpa using hr
 obtain ⟨hn, ha⟩ := h.avl
 obtain ⟨h1, h2, h3⟩ := ha r hm
 have hnot : ∀ o p, ρ o p ≠ some (some (b + r)) := fun o p e => by
  obtain ⟨_, _, _, k⟩ := h.liv _ _ _ e
  rw [h1] at k
  cases k
 have hne : ∀ {j : Nat}, j ≠ b + r → hat (s.hp.set (b + r) (.row sz es true)) j = hat s.hp j := fun hj => by rw [hat_setK h2, if_neg hj]
 have hx : Ext ρ s.hp ρ (s.hp.set (b + r) (.row sz es true)) := ⟨HLe_set (fun _ _ e => by rw [h1] at e; cases e), fun _ _ _ h => h, fun o p id sz' es' k1 k2 =>
  ⟨es', by rw [hne (fun e => by subst e; exact hnot _ _ k1)]; exact k2, rfl⟩⟩
 refine ⟨⟨h.len, fun i v hv => (h.sl i v hv).ext hx, fun o ob ho => ObjR.ext hx (fun p id k => hne (fun e => by subst e; exact hnot _ _ k)) (h.hp _ _ ho), h.inj, fun o p id k => ?_, h.nxt, fun id k hk => ?_, ?_⟩, hx, by rw [hat_setK h2, if_pos rfl], hnot, h3, h1, h2⟩
 ·obtain ⟨k1, sz', es', k2⟩ := h.liv _ _ _ k
  exact ⟨k1, sz', es', by rw [hne (fun e => by subst e; exact hnot _ _ k)]; exact k2⟩
 ·obtain ⟨k1, k2⟩ := h.frm _ _ hk
  refine ⟨by rw [hne (fun e => by subst e; rw [h3] at hk; cases hk)]; exact k1, by simpa using k2⟩
 ·refine ⟨hn.erase r, fun r' hr' => ?_⟩
  have hr2 : r' ∈ t.av.erase r := hr'
  obtain ⟨k1, k2⟩ := (List.Nodup.mem_erase_iff hn).mp hr2
  obtain ⟨k3, k4, k5⟩ := ha r' k2
  exact ⟨by rw [hne (by omega)]; exact k3, by simpa using k4, k5⟩
theorem RelR.newQ2 (h : RelR fr b N ρ t s) {r sz : Nat} {es : List (List D)} {ob : Obj S} (q : List Nat → Option (Option Nat)) (hr : t.av.contains r = true) (hq : ∀ p id, q p = some (some id) → p = [] ∧ id = b + r)
  (hob : ∀ ρ' H', Ext ρ s.hp ρ' H' → ρ' t.nx = q → hat H' (b + r) = .row sz es true → ObjR fr ρ' H' t.nx ob) :
  ∃ ρ', RelR fr b N ρ' ((t.take r).add ob) ⟨s.ts, s.hp.set (b + r) (.row sz es true)⟩ ∧ ρ' t.nx = q ∧ hat (s.hp.set (b + r) (.row sz es true)) (b + r) = .row sz es true ∧ hat s.hp (b + r) = .fresh ∧ b + r < s.hp.length ∧ (∀ o p x, ρ o p = some x → ρ' o p = some x) ∧ HLe s.hp (s.hp.set (b + r) (.row sz es true)) := by
 obtain ⟨h1, h2, h3, h4, h5, h6, h7⟩ := h.fresh (sz := sz) (es := es) hr
 have e : ins ρ t.nx q t.nx = q := funext fun p => ins_eq _ _ _
 refine ⟨ins ρ t.nx q, h1.addObj (q := q) (fun p p' id e1 e2 => by rw [(hq _ _ e1).1, (hq _ _ e2).1]) (fun p id e => ?_) (fun hx => ?_), e, h3, h6, h7, fun o p x hx => ?_, h2.hle⟩
 ·obtain ⟨rfl, rfl⟩ := hq _ _ e
  exact ⟨h4, h5, sz, es, h3⟩
 ·refine hob _ _ ⟨fun j sz es hj => h2.hle j sz es hj, fun o p x k => hx.map _ _ _ k, fun o p id sz es k1 k2 => ?_⟩ e h3
  exact h2.row _ _ _ _ _ k1 k2
 ·rw [ins_ne (fun e => by subst e; rw [h.nxt _ _ (Nat.le_refl _)] at hx; cases hx)]
  exact hx
theorem RelR.newQ (h : RelR fr b N ρ t s) {r sz : Nat} {es : List (List D)} {ob : Obj S} (q : List Nat → Option (Option Nat)) (hr : t.av.contains r = true) (hq : ∀ p id, q p = some (some id) → p = [] ∧ id = b + r)
  (hob : ∀ ρ' H', Ext ρ s.hp ρ' H' → ρ' t.nx = q → hat H' (b + r) = .row sz es true → ObjR fr ρ' H' t.nx ob) :
  ∃ ρ', RelR fr b N ρ' ((t.take r).add ob) ⟨s.ts, s.hp.set (b + r) (.row sz es true)⟩ ∧ ρ' t.nx = q ∧ hat (s.hp.set (b + r) (.row sz es true)) (b + r) = .row sz es true ∧ hat s.hp (b + r) = .fresh ∧ b + r < s.hp.length := by
 obtain ⟨ρ', k1, k2, k3, k4, k5, _⟩ := h.newQ2 (sz := sz) (es := es) (ob := ob) q hr hq hob
 exact ⟨ρ', k1, k2, k3, k4, k5⟩
theorem RelR.new (h : RelR fr b N ρ t s) {r sz : Nat} {es : List (List D)} {ob : Obj S} (hr : t.av.contains r = true)
  (hob : ∀ ρ' H', Ext ρ s.hp ρ' H' → ρ' t.nx [] = some (some (b + r)) → hat H' (b + r) = .row sz es true → ObjR fr ρ' H' t.nx ob) :
  ∃ ρ', RelR fr b N ρ' ((t.take r).add ob) ⟨s.ts, s.hp.set (b + r) (.row sz es true)⟩ ∧ ρ' t.nx [] = some (some (b + r)) ∧ hat (s.hp.set (b + r) (.row sz es true)) (b + r) = .row sz es true ∧ hat s.hp (b + r) = .fresh ∧ b + r < s.hp.length := by
 obtain ⟨ρ', k1, k2, k3⟩ := h.newQ (sz := sz) (es := es) (ob := ob) (at0 (some (b + r))) hr (fun p id e => by obtain ⟨h1, h2⟩ := at0_some e; cases h2; exact ⟨h1, rfl⟩) (fun ρ' H' hx e k => hob ρ' H' hx (by rw [e]; rfl) k)
 exact ⟨ρ', k1, by rw [k2]; rfl, k3⟩
theorem RelR.new2 (h : RelR fr b N ρ t s) {r sz : Nat} {es : List (List D)} {ob : Obj S} (hr : t.av.contains r = true)
  (hob : ∀ ρ' H', Ext ρ s.hp ρ' H' → ρ' t.nx [] = some (some (b + r)) → hat H' (b + r) = .row sz es true → ObjR fr ρ' H' t.nx ob) :
  ∃ ρ', RelR fr b N ρ' ((t.take r).add ob) ⟨s.ts, s.hp.set (b + r) (.row sz es true)⟩ ∧ ρ' t.nx [] = some (some (b + r)) ∧ hat (s.hp.set (b + r) (.row sz es true)) (b + r) = .row sz es true ∧ hat s.hp (b + r) = .fresh ∧ b + r < s.hp.length ∧ (∀ o p x, ρ o p = some x → ρ' o p = some x) ∧ HLe s.hp (s.hp.set (b + r) (.row sz es true)) := by
 obtain ⟨ρ', k1, k2, k3⟩ := h.newQ2 (sz := sz) (es := es) (ob := ob) (at0 (some (b + r))) hr (fun p id e => by obtain ⟨h1, h2⟩ := at0_some e; cases h2; exact ⟨h1, rfl⟩) (fun ρ' H' hx e k => hob ρ' H' hx (by rw [e]; rfl) k)
 exact ⟨ρ', k1, by rw [k2]; rfl, k3⟩
end
end Go.Pi
