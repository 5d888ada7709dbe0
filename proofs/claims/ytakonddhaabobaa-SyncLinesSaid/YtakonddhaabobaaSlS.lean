import Derived.Test.YtakonddhaabobaaSlA
import Derived.Test.YtakonddhaabobaaSlG
set_option linter.all false
namespace Go.Pi
set_option linter.unusedVariables false
def ix (a : Int) : Int := IntKind.u8.wrap (a.tdiv 64)
theorem ix_ok {a : Int} (h : 0 ≤ a) (h2 : a < 256) : 0 ≤ ix a ∧ ix a < 4 := by
 have e : IntKind.u8.wrap (a.tdiv 64) = a.tdiv 64 % 256 := by simp [IntKind.wrap, IntKind.bits, IntKind.signed]
 unfold ix
 rw [e, Int.tdiv_eq_ediv_of_nonneg h]
 omega
def hasB (s : SetT) (a : Int) : Bool := IntKind.u64.wrap (((BitVec.ofInt IntKind.u64.bits ((Arr.get s (ix a).toNat).fdiv (2 ^ min (a.tmod 64).toNat IntKind.u64.bits)) &&& BitVec.ofInt IntKind.u64.bits 1).toNat : Nat) : Int) == 1
theorem F18_eq (k : Nat) (s : SetT) (a : Int) : F18 k (s, a, ()) = nz 64 (inr? (ix a) 4 (nz 64 (nn (a.tmod 64) (some (hasB s a, ()))))) := by kernel_rfl
theorem F23_eq (k : Nat) (s : SetT) (a : Int) : F23 k (s, a, ()) = nz 64 (inr? (ix a) 4 (nz 64 (nn (a.tmod 64) (some (hasB s a, ()))))) := by kernel_rfl
theorem has_ok {k : Nat} {s : SetT} {a : Int} (h : 0 ≤ a) (h2 : a < 256) : F18 k (s, a, ()) = some (hasB s a, ()) ∧ F23 k (s, a, ()) = some (hasB s a, ()) := by
 have hi := ix_ok h h2
 have hm : 0 ≤ a.tmod 64 := Int.tmod_nonneg _ h
 rw [F18_eq, F23_eq]
 unfold nz nn inr?
 rw [if_neg (by decide), if_pos ⟨hi.1, by have := hi.2; omega⟩, if_neg (by decide), if_neg (by omega)]
 exact ⟨rfl, rfl⟩
def BytesOk (b : List Int) : Prop := ∀ a ∈ b, 0 ≤ a ∧ a < 256
def fitsN : List SetT → List Int → Nat → Bool
 | [], _, _ => true
 | s :: l, b, n => hasB s (b.getD n 0) && fitsN l b (n + 1)
theorem fitsN_cons (s : SetT) (l : List SetT) (b : List Int) (n : Nat) : fitsN (s :: l) b n = (hasB s (b.getD n 0) && fitsN l b (n + 1)) := rfl
theorem fitsN_drop : ∀ (l : List SetT) (b : List Int) (o n : Nat), fitsN l (b.drop o) n = fitsN l b (o + n)
 | [], _, _, _ => rfl
 | s :: l, b, o, n => by
  unfold fitsN
  rw [fitsN_drop l b o (n + 1), List.getD_eq_getElem?_getD, List.getElem?_drop, ← List.getD_eq_getElem?_getD, Nat.add_assoc]
theorem BytesOk.drop {b : List Int} (h : BytesOk b) (n : Nat) : BytesOk (b.drop n) := fun a ha => h a (List.mem_of_mem_drop ha)
theorem getD_of {b : List Int} {n : Nat} {v : Int} (h : b[n]? = some v) : b.getD n 0 = v := by
 rw [List.getD_eq_getElem?_getD, h]; rfl
theorem fits_step {l : List SetT} {b : List Int} {i o : Nat} {s : SetT} {v : Int} (h : l[i]? = some s) (h2 : b[o]? = some v) : fitsN (l.drop i) b o = (hasB s v && fitsN (l.drop (i + 1)) b (o + 1)) := by
 obtain ⟨hi, rfl⟩ := List.getElem?_eq_some_iff.1 h
 rw [List.drop_eq_getElem_cons hi, fitsN_cons, getD_of h2]
theorem fits_end {l : List SetT} {b : List Int} {i o : Nat} (h : l.length ≤ i) : fitsN (l.drop i) b o = true := by
 rw [List.drop_eq_nil_of_le h]; rfl
theorem fits17 {k : Nat} {l : List SetT} {b : List Int} (hb : BytesOk b) (hl : l.length ≤ b.length) (hk : l.length < k) (hs : l.length ≤ 1000) : F17 k (l, b, ()) = some (fitsN l b 0, ()) := by
 have : Ok (g17 k l b) (fun r => r = (fitsN l b 0, ())) := by
  refine Ok.bind (Q := fun r => match r with | .inl _ => fitsN l b 0 = true | .inr (v, _) => v = fitsN l b 0) ?_ ?_
  ·refine Ok.iter (fun p => ∃ i : Nat, i ≤ l.length ∧ p = (b, l, (l.length : Int), (i : Int), ()) ∧ fitsN l b 0 = fitsN (l.drop i) b i) (fun p => (l.length - p.2.2.2.1).toNat) ?_ k _ ⟨0, by omega, rfl, rfl⟩ (by show ((l.length : Int) - 0).toNat < k; omega)
   rintro _ ⟨i, hi, rfl, hf⟩
   refine Ok.dec (fun h => ?_) (fun h => ?_)
   ·refine Ok.at (by omega) (by omega) fun s _ hs2 => Ok.at (by omega) (by omega) fun v hv hv2 => Ok.eq (has_ok (hb v hv).1 (hb v hv).2).2 (Ok.cond (fun hh => ?_) (fun hh => ?_))
    ·refine Ok.some ?_
     show false = fitsN l b 0
     rw [hf, fits_step (by simpa using hs2) (by simpa using hv2)]
     cases hq : hasB s v with
     | true => rw [hq] at hh; cases hh
     | false => rfl
    ·refine Ok.some ⟨⟨i + 1, by omega, ?_, ?_⟩, ?_⟩
     ·show (b, l, (l.length : Int), w64 (i + 1), ()) = _
      rw [w64_ok (by omega) (by omega)]; rfl
     ·rw [hf, fits_step (by simpa using hs2) (by simpa using hv2)]
      cases hq : hasB s v with
      | true => rfl
      | false => rw [hq] at hh; cases hh
     ·show ((l.length : Int) - w64 (i + 1)).toNat < ((l.length : Int) - i).toNat
      rw [w64_ok (by omega) (by omega)]; omega
   ·refine Ok.some ?_
    show fitsN l b 0 = true
    rw [hf, fits_end (by omega)]
  ·rintro (_ | ⟨v, _⟩) h
   ·exact Ok.some (by rw [show fitsN l b 0 = true from h])
   ·exact Ok.some (by rw [show v = fitsN l b 0 from h])
 obtain ⟨_, e, rfl⟩ := this
 exact (F17_g k l b).trans e
def gL (g : GrT) : List SetT := g.2.2.2.2.1
def gR (g : GrT) : List SetT := g.2.2.2.2.2.1
def atB (g : GrT) (b : List Int) (q : Int) : Bool :=
 decide (((gL g).length : Int) ≤ q) && (decide (q ≤ (b.length : Int) - ((gR g).length : Int)) && (fitsN (gL g) b (q - ((gL g).length : Int)).toNat && fitsN (gR g) b q.toNat))
structure GrOk (g : GrT) : Prop where
 l : (gL g).length ≤ 10
 r : (gR g).length ≤ 10
theorem at6 {k : Nat} {g : GrT} {b : List Int} {q : Int} (hb : BytesOk b) (hg : GrOk g) (hs : b.length ≤ 100000) (hk : 20 < k) : F6 k (g, b, q, ()) = some (atB g b q, ()) := by
 have hl := hg.l
 have hr := hg.r
 have : Ok (g6 k g b q) (fun r => r = (atB g b q, ())) := by
  refine Ok.bind (Q := fun r => r = (atB g b q, ())) ?_ (by rintro _ rfl; exact Ok.some rfl)
  refine Ok.dec (p := q ≥ ((gL g).length : Int)) (fun h => ?_) (fun h => Ok.some ?_)
  ·refine Ok.dec (p := q ≤ w64 ((b.length : Int) - ((gR g).length : Int))) (fun h2 => ?_) (fun h2 => Ok.some ?_)
   ·rw [w64_ok (by omega) (by omega)] at h2
    have e1 : w64 (q - ((gL g).length : Int)) = q - ((gL g).length : Int) := w64_ok (by omega) (by omega)
    refine Ok.hi (z := w64 (q - ((gL g).length : Int))) (by rw [e1]; omega) (by rw [e1]; omega) ?_
    rw [e1]
    have f1 : F17 k (gL g, b.drop (q - ((gL g).length : Int)).toNat, ()) = some (fitsN (gL g) b (q - ((gL g).length : Int)).toNat, ()) := by
     rw [fits17 (hb.drop _) (by rw [List.length_drop]; omega) (by omega) (by omega), fitsN_drop, Nat.add_zero]
    have f2 : F17 k (gR g, b.drop q.toNat, ()) = some (fitsN (gR g) b q.toNat, ()) := by
     rw [fits17 (hb.drop _) (by rw [List.length_drop]; omega) (by omega) (by omega), fitsN_drop, Nat.add_zero]
    have ea : atB g b q = (fitsN (gL g) b (q - ((gL g).length : Int)).toNat && fitsN (gR g) b q.toNat) := by
     unfold atB
     rw [decide_eq_true h, decide_eq_true h2]; rfl
    refine Ok.eq f1 ?_
    refine Ok.cond (fun h3 => ?_) (fun h3 => Ok.some ?_)
    ·refine Ok.hi (z := q) (by omega) (by omega) (Ok.eq f2 (Ok.some ?_))
     rw [ea, show fitsN (gL g) b (q - ((gL g).length : Int)).toNat = true from h3]; rfl
    ·rw [ea, show fitsN (gL g) b (q - ((gL g).length : Int)).toNat = false from h3]; rfl
   ·rw [w64_ok (by omega) (by omega)] at h2
    unfold atB
    rw [decide_eq_false (p := q ≤ _) h2, Bool.false_and, Bool.and_false]
  ·unfold atB
   rw [decide_eq_false (p := ((gL g).length : Int) ≤ q) h, Bool.false_and]
 obtain ⟨_, e, rfl⟩ := this
 exact (F6_g k g b q).trans e
def allTo (g : GrT) (b : List Int) : Nat → List Int
 | 0 => []
 | n + 1 => allTo g b n ++ (bif atB g b n then [(n : Int)] else [])
theorem allTo_s (g : GrT) (b : List Int) (n : Nat) : allTo g b (n + 1) = allTo g b n ++ (bif atB g b n then [(n : Int)] else []) := rfl
theorem allTo_len (g : GrT) (b : List Int) : ∀ n, (allTo g b n).length ≤ n
 | 0 => Nat.le_refl _
 | n + 1 => by
  have := allTo_len g b n
  rw [allTo_s, List.length_append]
  cases atB g b n <;> simp <;> omega
theorem all9 {k : Nat} {g : GrT} {b : List Int} (hb : BytesOk b) (hg : GrOk g) (hs : b.length ≤ 1000) (hk : b.length + 20 < k) : F9 k (g, b, ()) = some (allTo g b (b.length + 1), ()) := by
 have : Ok (g9 k g b) (fun r => r = (allTo g b (b.length + 1), ())) := by
  refine Ok.bind (Q := fun r => r = (allTo g b (b.length + 1), ())) ?_ (by rintro _ rfl; exact Ok.some rfl)
  have ew : w64 ((b.length : Int) + 1) = ((b.length + 1 : Nat) : Int) := w64_ok (by omega) (by omega)
  refine Ok.iter (fun p => ∃ n : Nat, n ≤ b.length + 1 ∧ p = (b, ((b.length + 1 : Nat) : Int), (n : Int), g, allTo g b n, ())) (fun p => (b.length + 1 - p.2.2.1).toNat) ?_ k _ ⟨0, by omega, by rw [ew]; rfl⟩ (by show ((b.length : Int) + 1 - 0).toNat < k; omega)
  rintro _ ⟨n, hn, rfl⟩
  refine Ok.dec (p := (n : Int) < ((b.length + 1 : Nat) : Int)) (fun h => ?_) (fun h => ?_)
  ·refine Ok.eq (at6 hb hg (by omega) (by omega)) ?_
   have en : w64 ((n : Int) + 1) = ((n + 1 : Nat) : Int) := w64_ok (by omega) (by omega)
   have hm : ((b.length : Int) + 1 - ((n + 1 : Nat) : Int)).toNat < ((b.length : Int) + 1 - (n : Int)).toNat := by omega
   refine Ok.bind (Q := fun r => r = (b, ((b.length + 1 : Nat) : Int), (n : Int), g, allTo g b (n + 1), ())) ?_ ?_
   ·have hl := allTo_len g b n
    refine Ok.cond (fun hh => Ok.room (by show (allTo g b n).length + 1 ≤ 100000; omega) (by decide) (Ok.some ?_)) (fun hh => Ok.some ?_)
    ·rw [allTo_s, show atB g b n = true from hh]; rfl
    ·rw [allTo_s, show atB g b n = false from hh, cond_false, List.append_nil]
   ·rintro _ rfl
    refine Ok.some ⟨⟨n + 1, by omega, by rw [← en]⟩, ?_⟩
    show ((b.length : Int) + 1 - w64 ((n : Int) + 1)).toNat < _
    rw [en]; exact hm
  ·have : n = b.length + 1 := by omega
   subst this
   exact Ok.some rfl
 obtain ⟨_, e, rfl⟩ := this
 exact (F9_g k g b).trans e
theorem same8 {k : Nat} {l : List Int} (hs : l.length ≤ 100000) (hk : l.length < k) : F8 k (l, l, ()) = some (true, ()) := by
 have : Ok (g8 k l l) (fun r => r = (true, ())) := by
  refine Ok.ff (by simp) ?_
  refine Ok.bind (Q := fun r => match r with | .inl _ => True | .inr _ => False) ?_ ?_
  ·refine Ok.iter (fun p => ∃ i : Nat, i ≤ l.length ∧ p = (l, l, (i : Int), ())) (fun p => (l.length - p.2.2.1).toNat) ?_ k _ ⟨0, by omega, rfl⟩ (by show ((l.length : Int) - 0).toNat < k; omega)
   rintro _ ⟨i, hi, rfl⟩
   refine Ok.dec (p := (i : Int) < (l.length : Int)) (fun h => ?_) (fun h => Ok.some trivial)
   refine Ok.at (by omega) (by omega) fun s _ hs2 => Ok.at (by omega) (by omega) fun v hv hv2 => ?_
   rw [hs2] at hv2
   cases hv2
   refine Ok.ff (by simp) (Ok.some ⟨⟨i + 1, by omega, ?_⟩, ?_⟩)
   ·show (l, l, w64 (i + 1), ()) = _
    rw [w64_ok (by omega) (by omega)]; rfl
   ·show ((l.length : Int) - w64 (i + 1)).toNat < ((l.length : Int) - i).toNat
    rw [w64_ok (by omega) (by omega)]; omega
  ·rintro (_ | ⟨v, _⟩) h
   ·exact Ok.some rfl
   ·cases h
 obtain ⟨_, e, rfl⟩ := this
 exact (F8_g k l l).trans e
theorem by8 {l : List Int} (h : ∀ a ∈ l, IntKind.u8.min ≤ a ∧ a ≤ IntKind.u8.max) : BytesOk l := fun a ha => by
 have := h a ha
 have h1 : IntKind.u8.min = 0 := by decide
 have h2 : IntKind.u8.max = 255 := by decide
 omega
end Go.Pi

