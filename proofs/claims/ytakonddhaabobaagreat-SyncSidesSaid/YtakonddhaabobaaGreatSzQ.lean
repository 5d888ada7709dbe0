import Derived.Test.YtakonddhaabobaaGreatSzA
import Derived.Test.YtakonddhaabobaaGreatLO
set_option linter.all false
namespace Go.Pi
set_option linter.unusedVariables false
theorem iter_of {P Q : Type} {f : P → Option (P ⊕ Q)} {R : Q → Prop} (I : P → Prop) (m : P → Nat) (h : ∀ p, I p → (∃ p', f p = some (.inl p') ∧ I p' ∧ m p' < m p) ∨ ∃ q, f p = some (.inr q) ∧ R q) :
  ∀ (k : Nat) (p : P), I p → m p < k → ∃ q, iter k f p = some q ∧ R q
 | 0, _, _, hk => by omega
 | k + 1, p, hp, hk => by
  rcases h p hp with ⟨p', h1, h2, h3⟩ | ⟨q, h1, h2⟩
  ·obtain ⟨q, h4, h5⟩ := iter_of I m h k p' h2 (by omega)
   exact ⟨q, by simp only [iter, h1, Option.bind_some]; exact h4, h5⟩
  ·exact ⟨q, by simp only [iter, h1, Option.bind_some], h2⟩
theorem F13_eq (k : Nat) (p : PkT) (m : Int) : F13 k (p, (m, ())) = (bif decide (p.2.1 ≥ (p.1.length : Int)) then some (p, (0, ())) else
  (at? p.1 (IntKind.i64.wrap (IntKind.i64.wrap (p.2.1 + 1) - 1))).bind fun a => nz m (some ((p.1, IntKind.i64.wrap (p.2.1 + 1), ()), ((IntKind.i64.wrap a).tmod m, ())))) := by kernel_rfl
structure PkOk (p : PkT) : Prop where
 n0 : 0 ≤ p.2.1
 n1 : p.2.1 ≤ p.1.length
 len : p.1.length ≤ 1000
 u : ∀ a ∈ p.1, 0 ≤ a ∧ a < 256
theorem num_ok (k : Nat) {p : PkT} (h : PkOk p) {m : Int} (hm : 0 < m) : ∃ (p' : PkT) (v : Int), F13 k (p, (m, ())) = some (p', (v, ())) ∧ PkOk p' ∧ 0 ≤ v ∧ v < m := by
 obtain ⟨h0, h1, h2, h3⟩ := h
 rw [F13_eq]
 by_cases hc : p.2.1 ≥ (p.1.length : Int)
 ·rw [decide_eq_true hc, cond_true]
  exact ⟨p, 0, rfl, ⟨h0, h1, h2, h3⟩, Int.le_refl _, hm⟩
 ·rw [decide_eq_false hc, cond_false, wrap64 (z := p.2.1 + 1) (by omega) (by omega), show p.2.1 + 1 - 1 = p.2.1 by omega, wrap64 (z := p.2.1) (by omega) (by omega)]
  obtain ⟨a, ha, hg⟩ := at_some (l := p.1) (z := p.2.1) h0 (by omega)
  obtain ⟨u0, u1⟩ := h3 a (List.mem_of_getElem? hg)
  rw [ha, Option.bind_some]
  unfold nz
  rw [if_neg (by omega), wrap64 (z := a) (by omega) (by omega)]
  refine ⟨_, _, rfl, ⟨by show 0 ≤ p.2.1 + 1; omega, by show p.2.1 + 1 ≤ (p.1.length : Int); omega, h2, h3⟩, Int.tmod_nonneg _ u0, Int.tmod_lt_of_pos _ hm⟩
def z4 : SetT := ⟨[0, 0, 0, 0], rfl⟩
def ix (a : Int) : Int := IntKind.u8.wrap (a.tdiv 64)
def orB (s : SetT) (a c : Int) : SetT := Arr.upd s (ix a).toNat (IntKind.u64.wrap (((BitVec.ofInt IntKind.u64.bits (Arr.get s (ix a).toNat) ||| BitVec.ofInt IntKind.u64.bits (IntKind.u64.wrap (1 * 2 ^ min (c.tmod 64).toNat IntKind.u64.bits))).toNat : Nat) : Int))
abbrev P19 := List Int × Int × SetT × SetT × Unit
theorem F19_eq (k : Nat) (b : List Int) : F19 k (b, ()) = ((iter k (fun p : P19 =>
  bif decide (p.2.1 < (p.1.length : Int)) then
   (at? p.1 p.2.1).bind fun a => nz 64 (inr? (ix a) 4 ((at? p.1 p.2.1).bind fun c => nz 64 (nn (c.tmod 64) (inr? (ix a) 4
    (some (Sum.inl (p.1, IntKind.i64.wrap (p.2.1 + 1), p.2.2.1, orB p.2.2.2.1 a c, ())))))))
  else some (Sum.inr (p.2.2.1, p.2.2.2.1, ())) : P19 → Option (P19 ⊕ (SetT × SetT × Unit))) (b, 0, z4, z4, ())).bind fun q => some (q.2.1, ())) := by kernel_rfl
theorem ix_ok {a : Int} (h : 0 ≤ a) (h2 : a < 256) : 0 ≤ ix a ∧ ix a < 4 := by
 have e : IntKind.u8.wrap (a.tdiv 64) = a.tdiv 64 % 256 := by simp [IntKind.wrap, IntKind.bits, IntKind.signed]
 unfold ix
 rw [e, Int.tdiv_eq_ediv_of_nonneg h]
 omega
theorem of_ok {k : Nat} {b : List Int} (hk : b.length < k) (hb : ∀ a ∈ b, 0 ≤ a ∧ a < 256) (hl : b.length ≤ 100000) : ∃ s : SetT, F19 k (b, ()) = some (s, ()) := by
 rw [F19_eq]
 have := iter_of (k := k) (f := fun p : P19 =>
  bif decide (p.2.1 < (p.1.length : Int)) then
   (at? p.1 p.2.1).bind fun a => nz 64 (inr? (ix a) 4 ((at? p.1 p.2.1).bind fun c => nz 64 (nn (c.tmod 64) (inr? (ix a) 4
    (some (Sum.inl (p.1, IntKind.i64.wrap (p.2.1 + 1), p.2.2.1, orB p.2.2.2.1 a c, ())))))))
  else some (Sum.inr (p.2.2.1, p.2.2.2.1, ()))) (R := fun _ => True) (fun p => p.1 = b ∧ 0 ≤ p.2.1 ∧ p.2.1 ≤ b.length) (fun p => (b.length - p.2.1).toNat) (fun p ⟨h1, h2, h3⟩ => ?_) (b, 0, z4, z4, ()) ⟨rfl, Int.le_refl _, by show (0 : Int) ≤ b.length; omega⟩ (by show ((b.length : Int) - 0).toNat < k; omega)
 ·obtain ⟨q, hq, _⟩ := this
  exact ⟨q.2.1, by rw [hq]; rfl⟩
 ·by_cases hc : p.2.1 < (p.1.length : Int)
  ·left
   obtain ⟨a, ha, hg⟩ := at_some (l := p.1) (z := p.2.1) h2 hc
   obtain ⟨u0, u1⟩ := hb a (by rw [← h1]; exact List.mem_of_getElem? hg)
   have hi := ix_ok u0 u1
   have hm : 0 ≤ a.tmod 64 := Int.tmod_nonneg _ u0
   refine ⟨(p.1, IntKind.i64.wrap (p.2.1 + 1), p.2.2.1, orB p.2.2.2.1 a a, ()), ?_, ?_⟩
   ·rw [decide_eq_true hc, cond_true, ha, Option.bind_some]
    unfold nz nn inr?
    rw [if_neg (by decide), if_pos ⟨hi.1, by have := hi.2; omega⟩, Option.bind_some, if_neg (by decide), if_neg (by omega), if_pos ⟨hi.1, by have := hi.2; omega⟩]
   ·rw [h1] at hc
    have hw : IntKind.i64.wrap (p.2.1 + 1) = p.2.1 + 1 := wrap64 (by omega) (by omega)
    refine ⟨⟨h1, ?_, ?_⟩, ?_⟩
    ·show 0 ≤ IntKind.i64.wrap (p.2.1 + 1)
     rw [hw]; omega
    ·show IntKind.i64.wrap (p.2.1 + 1) ≤ b.length
     rw [hw]; omega
    ·show (b.length - IntKind.i64.wrap (p.2.1 + 1)).toNat < (b.length - p.2.1).toNat
     rw [hw]; omega
  ·right
   exact ⟨(p.2.2.1, p.2.2.2.1, ()), by rw [decide_eq_false hc, cond_false], trivial⟩
def hasB (s : SetT) (a : Int) : Bool := IntKind.u64.wrap (((BitVec.ofInt IntKind.u64.bits ((Arr.get s (ix a).toNat).fdiv (2 ^ min (a.tmod 64).toNat IntKind.u64.bits)) &&& BitVec.ofInt IntKind.u64.bits 1).toNat : Nat) : Int) == 1
theorem F18_eq (k : Nat) (s : SetT) (a : Int) : F18 k (s, a, ()) = nz 64 (inr? (ix a) 4 (nz 64 (nn (a.tmod 64) (some (hasB s a, ()))))) := by kernel_rfl
theorem F23_eq (k : Nat) (s : SetT) (a : Int) : F23 k (s, a, ()) = nz 64 (inr? (ix a) 4 (nz 64 (nn (a.tmod 64) (some (hasB s a, ()))))) := by kernel_rfl
theorem has_ok {k : Nat} {s : SetT} {a : Int} (h : 0 ≤ a) (h2 : a < 256) : F18 k (s, a, ()) = some (hasB s a, ()) ∧ F23 k (s, a, ()) = some (hasB s a, ()) := by
 have hi := ix_ok h h2
 have hm : 0 ≤ a.tmod 64 := Int.tmod_nonneg _ h
 rw [F18_eq, F23_eq]
 unfold nz nn inr?
 rw [if_neg (by decide), if_pos ⟨hi.1, by have := hi.2; omega⟩, if_neg (by decide), if_neg (by omega)]
 exact ⟨rfl, rfl⟩
abbrev P11 := Int × SetT × SetT × List Int × Unit
def u8w (a : Int) : Int := IntKind.u8.wrap a
def f11 (k : Nat) (p : P11) : Option (P11 ⊕ (SetT × List Int × Unit)) :=
 bif decide (p.1 < 256) then
  (F18 k (p.2.1, u8w p.1, ())).bind fun r => (bif !r.1 then room (p.2.2.2.1.length + [u8w p.1].length) 1 (some ((p.1, p.2.1, p.2.2.1, p.2.2.2.1 ++ [u8w p.1], ()) : P11)) else some (p.1, p.2.1, p.2.2.1, p.2.2.2.1, ())).bind fun q =>
   some (Sum.inl (IntKind.i64.wrap (q.1 + 1), q.2.1, q.2.2.1, q.2.2.2.1, ()))
 else some (Sum.inr (p.2.2.1, p.2.2.2.1, ()))
theorem F11_eq (k : Nat) (s : SetT) : F11 k (s, ()) = (iter k (f11 k) (0, s, z4, [], ())).bind fun q => (F19 k (q.2.1, ())).bind fun r => some (r.1, ()) := by kernel_rfl
theorem u8_ok {a : Int} (h : 0 ≤ a) (h2 : a < 256) : u8w a = a := by
 have e : IntKind.u8.wrap a = a % 256 := by simp [IntKind.wrap, IntKind.bits, IntKind.signed]
 unfold u8w
 rw [e]
 omega
theorem not_ok {k : Nat} (hk : 300 < k) (s : SetT) : ∃ s' : SetT, F11 k (s, ()) = some (s', ()) := by
 rw [F11_eq]
 have := iter_of (k := k) (f := f11 k) (R := fun q => q.2.1.length ≤ 256 ∧ ∀ a ∈ q.2.1, 0 ≤ a ∧ a < 256) (fun p => 0 ≤ p.1 ∧ p.1 ≤ 256 ∧ (p.2.2.2.1.length : Int) ≤ p.1 ∧ ∀ a ∈ p.2.2.2.1, 0 ≤ a ∧ a < 256) (fun p => (256 - p.1).toNat) (fun p ⟨h1, h2, h3, h4⟩ => ?_) (0, s, z4, [], ()) ⟨Int.le_refl _, by show (0 : Int) ≤ 256; omega, by show (0 : Int) ≤ 0; omega, by simp⟩ (by show ((256 : Int) - 0).toNat < k; omega)
 ·obtain ⟨q, hq, h1, h2⟩ := this
  obtain ⟨s', hs⟩ := of_ok (k := k) (b := q.2.1) (by omega) h2 (by omega)
  exact ⟨s', by rw [hq, Option.bind_some, hs]; rfl⟩
 ·by_cases hc : p.1 < 256
  ·left
   have hu : u8w p.1 = p.1 := u8_ok h1 hc
   have hw : IntKind.i64.wrap (p.1 + 1) = p.1 + 1 := wrap64 (by omega) (by omega)
   have hh := (has_ok (k := k) (s := p.2.1) h1 hc).1
   cases hb : hasB p.2.1 p.1 with
   | true =>
    refine ⟨(p.1 + 1, p.2.1, p.2.2.1, p.2.2.2.1, ()), ?_, ⟨by show 0 ≤ p.1 + 1; omega, by show p.1 + 1 ≤ 256; omega, by show (p.2.2.2.1.length : Int) ≤ p.1 + 1; omega, h4⟩, by show (256 - (p.1 + 1)).toNat < (256 - p.1).toNat; omega⟩
    unfold f11
    rw [decide_eq_true hc, cond_true, hu, hh, hb]
    exact congrArg (fun z => some (Sum.inl (z, p.2.1, p.2.2.1, p.2.2.2.1, ()))) hw
   | false =>
    refine ⟨(p.1 + 1, p.2.1, p.2.2.1, p.2.2.2.1 ++ [p.1], ()), ?_, ⟨by show 0 ≤ p.1 + 1; omega, by show p.1 + 1 ≤ 256; omega, by show ((p.2.2.2.1 ++ [p.1]).length : Int) ≤ p.1 + 1; rw [List.length_append, List.length_singleton]; omega, fun a ha => ?_⟩, by show (256 - (p.1 + 1)).toNat < (256 - p.1).toNat; omega⟩
    ·unfold f11
     rw [decide_eq_true hc, cond_true, hu, hh, hb, room_ok (by rw [List.length_singleton]; omega) (by decide)]
     exact congrArg (fun z => some (Sum.inl (z, p.2.1, p.2.2.1, p.2.2.2.1 ++ [p.1], ()))) hw
    ·rcases List.mem_append.mp ha with ha | ha
     ·exact h4 a ha
     ·rw [List.mem_singleton.mp ha]; exact ⟨h1, hc⟩
  ·right
   refine ⟨(p.2.2.1, p.2.2.2.1, ()), by unfold f11; rw [decide_eq_false hc, cond_false], ?_, h4⟩
   show p.2.2.2.1.length ≤ 256
   omega
abbrev P16 := (PkT × SetT × Unit) ⊕ (PkT × SetT × Unit)
def two (q : P16) : Option P16 := match q with
 | .inl p => some (.inl (p.1, p.2.1, ()))
 | .inr q => some (.inr (q.1, q.2.1, ()))
theorem F16_eq (k : Nat) (p : PkT) : F16 k (p, ()) = (F13 k (p, (7, ()))).bind fun r =>
 (bif r.2.1 == 0 then (F19 k ([97, 98], ())).bind fun x => some (Sum.inl (r.1, x.1, ()) : P16)
  else (bif r.2.1 == 1 then (F19 k ([98, 99, 100], ())).bind fun x => some (Sum.inl (r.1, x.1, ()) : P16)
   else (bif r.2.1 == 2 then (F19 k ([97, 10], ())).bind fun x => (F11 k (x.1, ())).bind fun y => some (Sum.inl (r.1, y.1, ()) : P16)
    else bif r.2.1 == 3 then (F19 k ([48, 49, 50], ())).bind fun x => some (Sum.inl (r.1, x.1, ()) : P16)
    else some (Sum.inr (r.1, z4, ()) : P16)).bind two).bind two).bind fun q => match q with
 | .inl p => some (p.1, p.2.1, ())
 | .inr q => (F13 k (q.1, (6, ()))).bind fun r => (at? ([97, 98, 49, 10, 32, 45] : List UInt8) r.2.1).bind fun c => (F19 k ([(c.toNat : Int)], ())).bind fun x => some (r.1, x.1, ()) := by kernel_rfl
theorem set_ok {k : Nat} (hk : 300 < k) {p : PkT} (h : PkOk p) : ∃ (p' : PkT) (s : SetT), F16 k (p, ()) = some (p', (s, ())) ∧ PkOk p' := by
 obtain ⟨p1, v, h1, h2, h3, h4⟩ := num_ok k h (m := 7) (by decide)
 have of : ∀ b : List Int, b.length ≤ 10 → (∀ a ∈ b, 0 ≤ a ∧ a < 256) → ∃ s : SetT, F19 k (b, ()) = some (s, ()) := fun b hb hc => of_ok (by omega) hc (by omega)
 obtain ⟨s1, e1⟩ := of [97, 98] (by decide) (by decide)
 obtain ⟨s2, e2⟩ := of [98, 99, 100] (by decide) (by decide)
 obtain ⟨s3, e3⟩ := of [97, 10] (by decide) (by decide)
 obtain ⟨s4, e4⟩ := of [48, 49, 50] (by decide) (by decide)
 obtain ⟨s5, e5⟩ := not_ok hk s3
 obtain ⟨p2, w, f1, f2, f3, f4⟩ := num_ok k h2 (m := 6) (by decide)
 have hw : w = 0 ∨ w = 1 ∨ w = 2 ∨ w = 3 ∨ w = 4 ∨ w = 5 := by omega
 have hat : ∃ c : UInt8, at? ([97, 98, 49, 10, 32, 45] : List UInt8) w = some c := by rcases hw with rfl | rfl | rfl | rfl | rfl | rfl <;> exact ⟨_, rfl⟩
 obtain ⟨c, hc⟩ := hat
 obtain ⟨s6, e6⟩ := of [(c.toNat : Int)] (by simp) (fun a ha => by rw [List.mem_singleton.mp ha]; have := c.toNat_lt; omega)
 have hv : v = 0 ∨ v = 1 ∨ v = 2 ∨ v = 3 ∨ v = 4 ∨ v = 5 ∨ v = 6 := by omega
 have fin : F16 k (p, ()) = (bif v == 0 then some (p1, s1, ()) else bif v == 1 then some (p1, s2, ()) else bif v == 2 then some (p1, s5, ()) else bif v == 3 then some (p1, s4, ()) else some (p2, s6, ()) : Option (PkT × SetT × Unit)) := by
  refine (F16_eq k p).trans (bs h1 ?_)
  rcases hv with rfl | rfl | rfl | rfl | rfl | rfl | rfl
  ·exact bs (bs e1 rfl) rfl
  ·exact bs (bs (bs e2 rfl) rfl) rfl
  ·exact bs (bs (bs (bs e3 (bs e5 rfl)) rfl) rfl) rfl
  ·exact bs (bs (bs (bs e4 rfl) rfl) rfl) rfl
  all_goals exact bs (bs (bs (bs (m := some _) rfl rfl) rfl) rfl) (bs f1 (bs hc (bs e6 rfl)))
 rcases hv with rfl | rfl | rfl | rfl | rfl | rfl | rfl
 ·exact ⟨p1, s1, fin, h2⟩
 ·exact ⟨p1, s2, fin, h2⟩
 ·exact ⟨p1, s5, fin, h2⟩
 ·exact ⟨p1, s4, fin, h2⟩
 all_goals exact ⟨p2, s6, fin, f2⟩
theorem F49_1 (k : Nat) : F49 (k + 5) (1, ()) = some ([[false]], ()) := by kernel_rfl
theorem F50_1 (k : Nat) : F50 (k + 5) (1, ()) = some ([[true]], ()) := by kernel_rfl
theorem F51_1 (k : Nat) (a b : Bool) : F51 (k + 5) ([[a]], [[b]], ()) = some ([[a && b]], ()) := by cases a <;> cases b <;> kernel_rfl
theorem F4_eq (k : Nat) (l : List Int) : F4 k (l, ()) = some (l, 0, ()) := by kernel_rfl
end Go.Pi

