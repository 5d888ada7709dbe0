import Derived.Test.YtakonddhaabobaaGreatSzQ
import Derived.Test.YtakonddhaabobaaGreatSzG
set_option linter.all false
namespace Go.Pi
set_option linter.unusedVariables false
def BytesOk (b : List Int) : Prop := ∀ a ∈ b, 0 ≤ a ∧ a < 256
def fitsN : List SetT → List Int → Nat → Bool
 | [], _, _ => true
 | s :: l, b, n => hasB s (b.getD n 0) && fitsN l b (n + 1)
theorem fitsN_cons (s : SetT) (l : List SetT) (b : List Int) (n : Nat) : fitsN (s :: l) b n = (hasB s (b.getD n 0) && fitsN l b (n + 1)) := rfl
theorem fitsN_drop : ∀ (l : List SetT) (b : List Int) (o n : Nat), fitsN l (b.drop o) n = fitsN l b (o + n)
 | [], _, _, _ => rfl
 | s :: l, b, o, n => by
  unfold fitsN
  rw [fitsN_drop l b o (n + 1), List.getD_eq_getElem?_getD, List.getElem?_drop, ← List.getD_eq_getElem?_getD, Nat.add_assoc]
theorem BytesOk.drop {b : List Int} (h : BytesOk b) (n : Nat) : BytesOk (b.drop n) := fun a ha => h a (List.mem_of_mem_drop ha)
theorem getD_of {b : List Int} {n : Nat} {v : Int} (h : b[n]? = some v) : b.getD n 0 = v := by
 rw [List.getD_eq_getElem?_getD, h]; rfl
theorem fits_step {l : List SetT} {b : List Int} {i o : Nat} {s : SetT} {v : Int} (h : l[i]? = some s) (h2 : b[o]? = some v) : fitsN (l.drop i) b o = (hasB s v && fitsN (l.drop (i + 1)) b (o + 1)) := by
 obtain ⟨hi, rfl⟩ := List.getElem?_eq_some_iff.1 h
 rw [List.drop_eq_getElem_cons hi, fitsN_cons, getD_of h2]
theorem fits_end {l : List SetT} {b : List Int} {i o : Nat} (h : l.length ≤ i) : fitsN (l.drop i) b o = true := by
 rw [List.drop_eq_nil_of_le h]; rfl
theorem fits17 {k : Nat} {l : List SetT} {b : List Int} (hb : BytesOk b) (hl : l.length ≤ b.length) (hk : l.length < k) (hs : l.length ≤ 1000) : F17 k (l, b, ()) = some (fitsN l b 0, ()) := by
 have : Ok (g17 k l b) (fun r => r = (fitsN l b 0, ())) := by
  refine Ok.bind (Q := fun r => match r with | .inl _ => fitsN l b 0 = true | .inr (v, _) => v = fitsN l b 0) ?_ ?_
  ·refine Ok.iter (fun p => ∃ i : Nat, i ≤ l.length ∧ p = (b, l, (l.length : Int), (i : Int), ()) ∧ fitsN l b 0 = fitsN (l.drop i) b i) (fun p => (l.length - p.2.2.2.1).toNat) ?_ k _ ⟨0, by omega, rfl, rfl⟩ (by show ((l.length : Int) - 0).toNat < k; omega)
   rintro _ ⟨i, hi, rfl, hf⟩
   refine Ok.dec (fun h => ?_) (fun h => ?_)
   ·refine Ok.at (by omega) (by omega) fun s _ hs2 => Ok.at (by omega) (by omega) fun v hv hv2 => Ok.eq (has_ok (hb v hv).1 (hb v hv).2).2 (Ok.cond (fun hh => ?_) (fun hh => ?_))
    ·refine Ok.some ?_
     show false = fitsN l b 0
     rw [hf, fits_step (by simpa using hs2) (by simpa using hv2)]
     cases hq : hasB s v with
     | true => rw [hq] at hh; cases hh
     | false => rfl
    ·refine Ok.some ⟨⟨i + 1, by omega, ?_, ?_⟩, ?_⟩
     ·show (b, l, (l.length : Int), w64 (i + 1), ()) = _
      rw [w64_ok (by omega) (by omega)]; rfl
     ·rw [hf, fits_step (by simpa using hs2) (by simpa using hv2)]
      cases hq : hasB s v with
      | true => rfl
      | false => rw [hq] at hh; cases hh
     ·show ((l.length : Int) - w64 (i + 1)).toNat < ((l.length : Int) - i).toNat
      rw [w64_ok (by omega) (by omega)]; omega
   ·refine Ok.some ?_
    show fitsN l b 0 = true
    rw [hf, fits_end (by omega)]
  ·rintro (_ | ⟨v, _⟩) h
   ·exact Ok.some (by rw [show fitsN l b 0 = true from h])
   ·exact Ok.some (by rw [show v = fitsN l b 0 from h])
 obtain ⟨_, e, rfl⟩ := this
 exact (F17_g k l b).trans e
def gL (g : GrT) : List SetT := g.2.2.2.2.1
def gR (g : GrT) : List SetT := g.2.2.2.2.2.1
def atB (g : GrT) (b : List Int) (q : Int) : Bool :=
 decide (((gL g).length : Int) ≤ q) && (decide (q ≤ (b.length : Int) - ((gR g).length : Int)) && (fitsN (gL g) b (q - ((gL g).length : Int)).toNat && fitsN (gR g) b q.toNat))
structure GrOk (g : GrT) : Prop where
 l : (gL g).length ≤ 10
 r : (gR g).length ≤ 10
theorem at6 {k : Nat} {g : GrT} {b : List Int} {q : Int} (hb : BytesOk b) (hg : GrOk g) (hs : b.length ≤ 100000) (hk : 20 < k) : F6 k (g, b, q, ()) = some (atB g b q, ()) := by
 have hl := hg.l
 have hr := hg.r
 have : Ok (g6 k g b q) (fun r => r = (atB g b q, ())) := by
  refine Ok.bind (Q := fun r => r = (atB g b q, ())) ?_ (by rintro _ rfl; exact Ok.some rfl)
  refine Ok.dec (p := q ≥ ((gL g).length : Int)) (fun h => ?_) (fun h => Ok.some ?_)
  ·refine Ok.dec (p := q ≤ w64 ((b.length : Int) - ((gR g).length : Int))) (fun h2 => ?_) (fun h2 => Ok.some ?_)
   ·rw [w64_ok (by omega) (by omega)] at h2
    have e1 : w64 (q - ((gL g).length : Int)) = q - ((gL g).length : Int) := w64_ok (by omega) (by omega)
    refine Ok.hi (z := w64 (q - ((gL g).length : Int))) (by rw [e1]; omega) (by rw [e1]; omega) ?_
    rw [e1]
    have f1 : F17 k (gL g, b.drop (q - ((gL g).length : Int)).toNat, ()) = some (fitsN (gL g) b (q - ((gL g).length : Int)).toNat, ()) := by
     rw [fits17 (hb.drop _) (by rw [List.length_drop]; omega) (by omega) (by omega), fitsN_drop, Nat.add_zero]
    have f2 : F17 k (gR g, b.drop q.toNat, ()) = some (fitsN (gR g) b q.toNat, ()) := by
     rw [fits17 (hb.drop _) (by rw [List.length_drop]; omega) (by omega) (by omega), fitsN_drop, Nat.add_zero]
    have ea : atB g b q = (fitsN (gL g) b (q - ((gL g).length : Int)).toNat && fitsN (gR g) b q.toNat) := by
     unfold atB
     rw [decide_eq_true h, decide_eq_true h2]; rfl
    refine Ok.eq f1 ?_
    refine Ok.cond (fun h3 => ?_) (fun h3 => Ok.some ?_)
    ·refine Ok.hi (z := q) (by omega) (by omega) (Ok.eq f2 (Ok.some ?_))
     rw [ea, show fitsN (gL g) b (q - ((gL g).length : Int)).toNat = true from h3]; rfl
    ·rw [ea, show fitsN (gL g) b (q - ((gL g).length : Int)).toNat = false from h3]; rfl
   ·rw [w64_ok (by omega) (by omega)] at h2
    unfold atB
    rw [decide_eq_false (p := q ≤ _) h2, Bool.false_and, Bool.and_false]
  ·unfold atB
   rw [decide_eq_false (p := ((gL g).length : Int) ≤ q) h, Bool.false_and]
 obtain ⟨_, e, rfl⟩ := this
 exact (F6_g k g b q).trans e
end Go.Pi
namespace Go.Pi
set_option linter.unusedVariables false
def allTo (g : GrT) (b : List Int) : Nat → List Int
 | 0 => []
 | n + 1 => allTo g b n ++ (bif atB g b n then [(n : Int)] else [])
theorem allTo_s (g : GrT) (b : List Int) (n : Nat) : allTo g b (n + 1) = allTo g b n ++ (bif atB g b n then [(n : Int)] else []) := rfl
theorem allTo_len (g : GrT) (b : List Int) : ∀ n, (allTo g b n).length ≤ n
 | 0 => Nat.le_refl _
 | n + 1 => by
  have := allTo_len g b n
  rw [allTo_s, List.length_append]
  cases atB g b n <;> simp <;> omega
theorem all9 {k : Nat} {g : GrT} {b : List Int} (hb : BytesOk b) (hg : GrOk g) (hs : b.length ≤ 1000) (hk : b.length + 20 < k) : F9 k (g, b, ()) = some (allTo g b (b.length + 1), ()) := by
 have : Ok (g9 k g b) (fun r => r = (allTo g b (b.length + 1), ())) := by
  refine Ok.bind (Q := fun r => r = (allTo g b (b.length + 1), ())) ?_ (by rintro _ rfl; exact Ok.some rfl)
  have ew : w64 ((b.length : Int) + 1) = ((b.length + 1 : Nat) : Int) := w64_ok (by omega) (by omega)
  refine Ok.iter (fun p => ∃ n : Nat, n ≤ b.length + 1 ∧ p = (b, ((b.length + 1 : Nat) : Int), (n : Int), g, allTo g b n, ())) (fun p => (b.length + 1 - p.2.2.1).toNat) ?_ k _ ⟨0, by omega, by rw [ew]; rfl⟩ (by show ((b.length : Int) + 1 - 0).toNat < k; omega)
  rintro _ ⟨n, hn, rfl⟩
  refine Ok.dec (p := (n : Int) < ((b.length + 1 : Nat) : Int)) (fun h => ?_) (fun h => ?_)
  ·refine Ok.eq (at6 hb hg (by omega) (by omega)) ?_
   have en : w64 ((n : Int) + 1) = ((n + 1 : Nat) : Int) := w64_ok (by omega) (by omega)
   have hm : ((b.length : Int) + 1 - ((n + 1 : Nat) : Int)).toNat < ((b.length : Int) + 1 - (n : Int)).toNat := by omega
   refine Ok.bind (Q := fun r => r = (b, ((b.length + 1 : Nat) : Int), (n : Int), g, allTo g b (n + 1), ())) ?_ ?_
   ·have hl := allTo_len g b n
    refine Ok.cond (fun hh => Ok.room (by show (allTo g b n).length + 1 ≤ 100000; omega) (by decide) (Ok.some ?_)) (fun hh => Ok.some ?_)
    ·rw [allTo_s, show atB g b n = true from hh]; rfl
    ·rw [allTo_s, show atB g b n = false from hh, cond_false, List.append_nil]
   ·rintro _ rfl
    refine Ok.some ⟨⟨n + 1, by omega, by rw [← en]⟩, ?_⟩
    show ((b.length : Int) + 1 - w64 ((n : Int) + 1)).toNat < _
    rw [en]; exact hm
  ·have : n = b.length + 1 := by omega
   subst this
   exact Ok.some rfl
 obtain ⟨_, e, rfl⟩ := this
 exact (F9_g k g b).trans e
end Go.Pi
namespace Go.Pi
set_option linter.unusedVariables false
set_option maxRecDepth 100000
def RxW : Nat → RxT → Prop
 | 0, r => r.k = 1
 | d + 1, r => r.k = 1 ∨ (2 ≤ r.k ∧ r.k ≤ 6 ∧ 0 < r.a.length ∧ r.a.length ≤ 3 ∧ ∀ a ∈ r.a, RxW d a)
theorem l29_3 (k : Nat) (i : Int) (r : RxT) (b c : Bool) : iter (k + 5) (g29_3 (k + 5)) ([], 1, i, 0, r, [[b]], [[c]], ()) = some ([], 1, i, r, [[b || c]], ()) := by cases b <;> cases c <;> kernel_rfl
theorem l29_6 (k : Nat) (c : Bool) : iter (k + 5) (g29_6 (k + 5)) (1, 0, [[c]], ()) = some ([[true]], ()) := by cases c <;> kernel_rfl
theorem l29_7 (k : Nat) (r : RxT) (c : Bool) : iter (k + 5) (g29_7 (k + 5)) (1, 0, r, [[true]], [[c]], ()) = some (r, [[true]], [[c]], ()) := by cases c <;> kernel_rfl
theorem g29_set (k : Nat) (e : E29) (s : SetT) (a : List RxT) : g29 (k + 5) e (RxT.mk 1 s a) [] = some ([[false]], ()) := by kernel_rfl
theorem null_step {k : Nat} (hk : 20 < k) {e : E29} {r : RxT} (h1 : 1 ≤ r.k) (h6 : r.k ≤ 6) (ha : r.k ≠ 1 → 0 < r.a.length ∧ r.a.length ≤ 3) (he : r.k ≠ 1 → ∀ a ∈ r.a, ∃ b, e (a, [], ()) = some ([[b]], ())) :
  Ok (g29 k e r []) fun x => ∃ b, x = ([[b]], ()) := by
 obtain ⟨k, rfl⟩ : ∃ j, k = j + 5 := ⟨k - 5, by omega⟩
 by_cases c1 : r.k = 1
 ·obtain ⟨kk, s, a⟩ := r
  cases (show kk = 1 from c1)
  exact ⟨_, g29_set k e s a, false, rfl⟩
 obtain ⟨hl, hl3⟩ := ha c1
 have he := he c1
 have w1 : w64 ((([] : List Int).length : Int) + 1) = 1 := by decide
 unfold g29
 rw [w1]
 refine Ok.eq (F49_1 k) ?_
 refine Ok.bind (Q := fun x => match x with | .inl (t, _) => ∃ b, t = [[b]] | .inr y => y = ([], 1, r, ()) ∧ 4 ≤ r.k) ?_ ?_
 ·refine Ok.ff (by simpa using c1) ?_
  refine Ok.bind (Q := fun x => match x with | .inl (t, _) => ∃ b, t = [[b]] | .inr y => y = ([], 1, r, ()) ∧ 4 ≤ r.k) ?_ ?_
  ·by_cases c3 : r.k = 3
   ·refine Ok.tt (by rw [c3]; rfl) (Ok.bind (Q := fun x => ∃ b, x = ([[b]], ())) ?_ ?_)
    ·refine Ok.iter (fun p => ∃ (i : Nat) (b : Bool), i ≤ r.a.length ∧ p = ([], 1, (i : Int), r, [[b]], ())) (fun p => (r.a.length - p.2.2.1).toNat) ?_ (k + 5) _ ⟨0, false, by omega, rfl⟩ (by show ((r.a.length : Int) - 0).toNat < k + 5; omega)
     rintro _ ⟨i, b, hi, rfl⟩
     refine Ok.dec (p := (i : Int) < (r.a.length : Int)) (fun h => ?_) (fun h => Ok.some ⟨b, rfl⟩)
     refine Ok.at (by omega) (by omega) fun v hv _ => ?_
     obtain ⟨c, hc⟩ := he v hv
     refine Ok.eq hc (Ok.eq (l29_3 k i r b c) (Ok.some ⟨⟨i + 1, b || c, by omega, ?_⟩, ?_⟩))
     ·show ([], 1, w64 (i + 1), r, [[b || c]], ()) = _
      rw [w64_ok (by omega) (by omega)]; rfl
     ·show ((r.a.length : Int) - w64 (i + 1)).toNat < ((r.a.length : Int) - i).toNat
      rw [w64_ok (by omega) (by omega)]; omega
    ·rintro _ ⟨b, rfl⟩
     exact Ok.some ⟨b, rfl⟩
   ·refine Ok.ff (by simpa using c3) ?_
    by_cases c2 : r.k = 2
    ·refine Ok.tt (by rw [c2]; rfl) (Ok.eq (F50_1 k) (Ok.bind (Q := fun x => ∃ b, x = ([[b]], ())) ?_ ?_))
     ·refine Ok.iter (fun p => ∃ (i : Nat) (b : Bool), i ≤ r.a.length ∧ p = ([], (i : Int), r, [[b]], ())) (fun p => (r.a.length - p.2.1).toNat) ?_ (k + 5) _ ⟨0, true, by omega, rfl⟩ (by show ((r.a.length : Int) - 0).toNat < k + 5; omega)
      rintro _ ⟨i, b, hi, rfl⟩
      refine Ok.dec (p := (i : Int) < (r.a.length : Int)) (fun h => ?_) (fun h => Ok.some ⟨b, rfl⟩)
      refine Ok.at (by omega) (by omega) fun v hv _ => ?_
      obtain ⟨c, hc⟩ := he v hv
      refine Ok.eq hc (Ok.eq (F51_1 k b c) (Ok.some ⟨⟨i + 1, b && c, by omega, ?_⟩, ?_⟩))
      ·show ([], w64 (i + 1), r, [[b && c]], ()) = _
       rw [w64_ok (by omega) (by omega)]; rfl
      ·show ((r.a.length : Int) - w64 (i + 1)).toNat < ((r.a.length : Int) - i).toNat
       rw [w64_ok (by omega) (by omega)]; omega
     ·rintro _ ⟨b, rfl⟩
      exact Ok.some ⟨b, rfl⟩
    ·exact Ok.ff (by simpa using c2) (Ok.some ⟨rfl, by omega⟩)
  ·rintro (⟨t, _⟩ | y) h
   ·exact Ok.some h
   ·obtain ⟨rfl, h⟩ := h
    exact Ok.some ⟨rfl, h⟩
 ·rintro (⟨t, _⟩ | y) h
  ·obtain ⟨b, rfl⟩ := h
   exact Ok.some ⟨b, rfl⟩
  ·obtain ⟨rfl, h4⟩ := h
   refine Ok.at (by omega) (by omega) fun v hv _ => ?_
   obtain ⟨c, hc⟩ := he v hv
   refine Ok.eq hc (Ok.cond (fun _ => Ok.eq (l29_6 k c) (Ok.some ⟨true, rfl⟩)) (fun _ => Ok.eq (F50_1 k) (Ok.eq (l29_7 k r c) (Ok.cond (fun _ => Ok.eq (F51_1 k c true) (Ok.some ⟨_, rfl⟩)) (fun _ => Ok.some ⟨_, rfl⟩)))))
theorem P29_s (k D : Nat) : (P29 k (D + 1)).1 = R29 k (P29 k D).1 (P29 k D).2 := by rw [P29]
theorem null_ok {k : Nat} (hk : 20 < k) : ∀ (d D : Nat) (r : RxT), d < D → RxW d r → ∃ b, (P29 k D).1 (r, [], ()) = some ([[b]], ())
 | d, 0, r, h, _ => by omega
 | 0, D + 1, r, _, hr => by
  have hr : r.k = 1 := hr
  have := null_step hk (e := (P29 k D).1) (r := r) (by omega) (by omega) (fun h => absurd hr h) (fun h => absurd hr h)
  obtain ⟨x, e, b, hx⟩ := this
  rw [hx] at e
  exact ⟨b, (congrFun (P29_s k D) (r, [], ())).trans ((R29_g k (P29 k D).1 (P29 k D).2 r []).trans e)⟩
 | d + 1, D + 1, r, h, hr => by
  have := null_step hk (e := (P29 k D).1) (r := r) (by rcases hr with hr | hr <;> omega) (by rcases hr with hr | hr <;> omega) (fun c => hr.elim (fun x => absurd x c) fun ⟨_, _, h3, h4, _⟩ => ⟨h3, h4⟩) (fun c => hr.elim (fun x => absurd x c) fun ⟨_, _, _, _, h5⟩ a ha => null_ok hk d D a (by omega) (h5 a ha))
  obtain ⟨x, e, b, hx⟩ := this
  rw [hx] at e
  exact ⟨b, (congrFun (P29_s k D) (r, [], ())).trans ((R29_g k (P29 k D).1 (P29 k D).2 r []).trans e)⟩
theorem null15 {k d : Nat} (hk : 20 < k) (hd : d + 1 < k) {r : RxT} (h : RxW d r) : ∃ b, F15 k (r, ()) = some (b, ()) := by
 obtain ⟨b, e⟩ := null_ok hk d k r (by omega) h
 have h22 : F22 k (r, [], ()) = some (b, ()) := by
  refine (F22_g k r []).trans ?_
  unfold g22
  exact bs (show F29 k (r, [], ()) = _ from e) rfl
 exact ⟨b, (F15_g k r).trans (bs h22 rfl)⟩
end Go.Pi
namespace Go.Pi
set_option linter.unusedVariables false
theorem Ok.num (k : Nat) {p : PkT} {m : Int} {β : Type} {f : PkT × (Int × Unit) → Option β} {R : β → Prop} (h : PkOk p) (hm : 0 < m) (c : ∀ p' v, PkOk p' → 0 ≤ v → v < m → Ok (f (p', (v, ()))) R) : Ok ((F13 k (p, (m, ()))).bind f) R := by
 obtain ⟨p', v, e, h1, h2, h3⟩ := num_ok k h hm
 exact Ok.eq e (c p' v h1 h2 h3)
theorem Ok.set {k : Nat} (hk : 300 < k) {p : PkT} {β : Type} {f : PkT × (SetT × Unit) → Option β} {R : β → Prop} (h : PkOk p) (c : ∀ p' s, PkOk p' → Ok (f (p', (s, ()))) R) : Ok ((F16 k (p, ())).bind f) R := by
 obtain ⟨p', s, e, h1⟩ := set_ok hk h
 exact Ok.eq e (c p' s h1)
theorem rx_step {k d : Nat} (hk : 300 < k) {e : E14} {p : PkT} {i : Int} (hp : PkOk p) (hi : i ≤ 1000) (he : 0 < i → ∀ p', PkOk p' → Ok (e (p', (i - 1, ()))) fun x => PkOk x.1 ∧ RxW d x.2.1) :
  Ok (g14 k e p i) fun x => PkOk x.1 ∧ (x.2.1.k = 1 ∨ (0 < i ∧ RxW (d + 1) x.2.1)) := by
 refine Ok.num k hp (by decide) fun p1 v hp1 hv0 hv9 => ?_
 refine Ok.bind (Q := fun q => ∃ t, q = (i, v, t, p1, 0, z4, ()) ∧ (t = false → 0 < i ∧ 4 ≤ v)) ?_ ?_
 ·refine Ok.dec (p := i ≤ 0) (fun h => Ok.some ⟨true, rfl, fun h => by cases h⟩) (fun h => Ok.some ⟨decide (v < 4), rfl, fun h2 => ⟨by omega, ?_⟩⟩)
  have := of_decide_eq_false h2
  omega
 ·rintro _ ⟨t, rfl, ht⟩
  refine Ok.cond (fun h => Ok.set hk hp1 fun p2 s hp2 => Ok.some ⟨hp2, Or.inl rfl⟩) (fun h => ?_)
  obtain ⟨hi0, hv4⟩ := ht h
  refine Ok.nz (by decide) ?_
  obtain ⟨kd, hkd, hk2, hk6⟩ : ∃ kd, w64 (2 + Int.tmod (w64 (v + 1)) 5) = kd ∧ 2 ≤ kd ∧ kd ≤ 6 := by
   refine ⟨_, rfl, ?_⟩
   have h1 : w64 (v + 1) = v + 1 := w64_ok (by omega) (by omega)
   have h2 : 0 ≤ Int.tmod (v + 1) 5 := Int.tmod_nonneg _ (by omega)
   have h3 : Int.tmod (v + 1) 5 < 5 := Int.tmod_lt_of_pos _ (by decide)
   rw [h1, w64_ok (by omega) (by omega)]
   omega
  rw [hkd]
  refine Ok.bind (Q := fun q => ∃ n pk, q = (i, kd, n, pk, 0, z4, ()) ∧ PkOk pk ∧ 1 ≤ n ∧ n ≤ 3) ?_ ?_
  ·refine Ok.dec (p := kd ≤ 3) (fun h => Ok.num k hp1 (by decide) fun p2 w hp2 hw0 hw2 => Ok.some ⟨_, p2, rfl, hp2, ?_⟩) (fun h => Ok.some ⟨1, p1, rfl, hp1, by decide, by decide⟩)
   rw [w64_ok (by omega) (by omega)]
   omega
  ·rintro _ ⟨n, pk, rfl, hpk, hn1, hn3⟩
   refine Ok.bind (Q := fun q => ∃ pk l, q = (pk, 0, z4, kd, z4, l, ()) ∧ PkOk pk ∧ 0 < l.length ∧ l.length ≤ 3 ∧ ∀ a ∈ l, RxW d a) ?_ ?_
   ·refine Ok.iter (fun q => ∃ (j : Int) (pk : PkT) (l : List RxT), q = (i, kd, n, j, pk, 0, z4, kd, z4, l, ()) ∧ PkOk pk ∧ 0 ≤ j ∧ j ≤ n ∧ (l.length : Int) = j ∧ ∀ a ∈ l, RxW d a) (fun q => (n - q.2.2.2.1).toNat) ?_ k _ ⟨0, pk, [], rfl, hpk, by omega, by omega, rfl, by simp⟩ (by show (n - 0).toNat < k; omega)
    rintro _ ⟨j, pk, l, rfl, hpk, hj0, hjn, hl, hw⟩
    refine Ok.dec (p := j < n) (fun h => ?_) (fun h => Ok.some ⟨pk, l, rfl, hpk, by omega, by omega, hw⟩)
    have e1 : w64 (i - 1) = i - 1 := w64_ok (by omega) (by omega)
    refine Ok.bind (Q := fun x => PkOk x.1 ∧ RxW d x.2.1) (by rw [e1]; exact he hi0 pk hpk) ?_
    rintro ⟨pk2, x, _⟩ ⟨hpk2, hx⟩
    refine Ok.bind (Q := fun q => ∃ t, q = (i, kd, n, j, t, pk2, 0, z4, kd, z4, l, x, ())) ?_ ?_
    ·exact Ok.cond (fun _ => Ok.some ⟨_, rfl⟩) (fun _ => Ok.cond (fun _ => Ok.some ⟨_, rfl⟩) (fun _ => Ok.some ⟨_, rfl⟩))
    ·rintro _ ⟨t, rfl⟩
     refine Ok.bind (Q := fun q => ∃ pk3 y, q = (i, kd, n, j, pk3, 0, z4, kd, z4, l, y, ()) ∧ PkOk pk3 ∧ RxW d y) ?_ ?_
     ·refine Ok.cond (fun _ => Ok.set hk hpk2 fun p3 s hp3 => Ok.some ⟨p3, _, rfl, hp3, ?_⟩) (fun _ => Ok.some ⟨pk2, x, rfl, hpk2, hx⟩)
      cases d with
      | zero => rfl
      | succ d => exact Or.inl rfl
     ·rintro _ ⟨pk3, y, rfl, hpk3, hy⟩
      refine Ok.room (by simp only [List.length_singleton]; omega) (by decide) (Ok.some ⟨⟨j + 1, pk3, l ++ [y], ?_, hpk3, by omega, by omega, by rw [List.length_append, List.length_singleton]; omega, ?_⟩, ?_⟩)
      ·show (i, kd, n, w64 (j + 1), pk3, 0, z4, kd, z4, l ++ [y], ()) = _
       rw [w64_ok (by omega) (by omega)]
      ·intro a ha
       rcases List.mem_append.1 ha with ha | ha
       ·exact hw a ha
       ·rw [List.mem_singleton.1 ha]; exact hy
      ·show (n - w64 (j + 1)).toNat < (n - j).toNat
       rw [w64_ok (by omega) (by omega)]; omega
   ·rintro _ ⟨pk, l, rfl, hpk, hl0, hl3, hw⟩
    exact Ok.some ⟨hpk, Or.inr ⟨hi0, Or.inr ⟨hk2, hk6, hl0, hl3, hw⟩⟩⟩
theorem P14_s (k D : Nat) : (P14 k (D + 1)).1 = R14 k (P14 k D).1 (P14 k D).2 := by rw [P14]
theorem rx_ok {k : Nat} (hk : 300 < k) : ∀ (d D : Nat) (i : Int) (p : PkT), d < D → i ≤ d → d ≤ 1000 → PkOk p → Ok ((P14 k D).1 (p, (i, ()))) fun x => PkOk x.1 ∧ RxW d x.2.1
 | d, 0, i, p, h, _, _, _ => by omega
 | 0, D + 1, i, p, _, hi, _, hp => by
  rw [P14_s]
  refine Ok.of (R14_g k (P14 k D).1 (P14 k D).2 p i) ((rx_step (d := 0) hk hp (by omega) (fun h => by omega)).mono ?_)
  rintro x ⟨h1, h2 | h2⟩
  ·exact ⟨h1, h2⟩
  ·omega
 | d + 1, D + 1, i, p, h, hi, hd, hp => by
  rw [P14_s]
  refine Ok.of (R14_g k (P14 k D).1 (P14 k D).2 p i) ((rx_step (d := d) hk hp (by omega) (fun h p' hp' => rx_ok hk d D (i - 1) p' (by omega) (by omega) (by omega) hp')).mono ?_)
  rintro x ⟨h1, h2 | ⟨_, h2⟩⟩
  ·exact ⟨h1, Or.inl h2⟩
  ·exact ⟨h1, h2⟩
theorem Ok.rx {k : Nat} (hk : 300 < k) {p : PkT} {i : Int} {β : Type} {f : PkT × (RxT × Unit) → Option β} {R : β → Prop} (h : PkOk p) (hi : i ≤ 2) (c : ∀ p' r, PkOk p' → RxW 2 r → Ok (f (p', (r, ()))) R) : Ok ((F14 k (p, (i, ()))).bind f) R := by
 have h0 : Ok (F14 k (p, (i, ()))) fun x : PkT × (RxT × Unit) => PkOk x.1 ∧ RxW 2 x.2.1 := rx_ok hk 2 k i p (by omega) hi (by omega) h
 refine Ok.bind h0 ?_
 rintro ⟨p', r, _⟩ ⟨h1, h2⟩
 exact c p' r h1 h2
end Go.Pi
namespace Go.Pi
set_option linter.unusedVariables false
def nm4 : List (List UInt8) := [[97], [98], [99], [100]]
theorem RxW.set (d : Nat) (s : SetT) : RxW d (RxT.mk 1 s []) := by
 cases d with
 | zero => rfl
 | succ d => exact Or.inl rfl
theorem any1 {k : Nat} (hk : 300 < k) {i0 m : Int} {p : PkT} (hp : PkOk p) (h0 : 0 ≤ i0) (h2 : i0 ≤ 2) : Ok (iter k (g5_1 k) (i0, p, 0, m, [], nm4, ())) fun q => ∃ p' l, q = (p', 0, m, l, ()) ∧ PkOk p' ∧ 0 < l.length ∧ l.length ≤ 3 := by
 refine Ok.iter (fun q => ∃ (i : Int) (p : PkT) (l : List TokT), q = (i, p, 0, m, l, nm4, ()) ∧ PkOk p ∧ -1 ≤ i ∧ (l.length : Int) = i0 - i) (fun q => (q.1 + 1).toNat) ?_ k _ ⟨i0, p, [], rfl, hp, by omega, by show (0 : Int) = _; omega⟩ (by show (i0 + 1).toNat < k; omega)
 rintro _ ⟨i, p, l, rfl, hp, hi, hl⟩
 refine Ok.dec (p := i ≥ 0) (fun h => ?_) (fun h => Ok.some ⟨p, l, rfl, hp, by omega, by omega⟩)
 have h4 : nm4.length = 4 := rfl
 refine Ok.at (by omega) (by omega) fun _ _ _ => Ok.get (by omega) fun nm _ _ => ?_
 refine Ok.num k hp (by decide) fun p1 v hp1 hv0 hv => Ok.rx hk hp1 (by omega) fun p2 r hp2 hr => ?_
 refine Ok.bind (Q := fun q => ∃ p3 r, q = (i, p3, 0, m, l, nm4, nm, r, false, ()) ∧ PkOk p3 ∧ RxW 2 r) ?_ ?_
 ·refine Ok.iter (fun q => ∃ (j : Int) (p : PkT) (r : RxT), q = (i, j, p, 0, m, l, nm4, nm, r, false, ()) ∧ PkOk p ∧ 0 ≤ j ∧ j ≤ 5 ∧ RxW 2 r) (fun q => (5 - q.2.1).toNat) ?_ k _ ⟨0, p2, r, rfl, hp2, by decide, by decide, hr⟩ (by show (5 - 0 : Int).toNat < k; omega)
  rintro _ ⟨j, p, r, rfl, hp, hj0, hj5, hr⟩
  refine Ok.bind (Q := fun q => ∃ b, q = (i, j, b, p, 0, m, l, nm4, nm, r, false, ()) ∧ (b = true → j < 5)) ?_ ?_
  ·refine Ok.dec (p := j < 5) (fun h => ?_) (fun h => Ok.some ⟨false, rfl, fun h => by cases h⟩)
   obtain ⟨b, hb⟩ := null15 (k := k) (d := 2) (by omega) (by omega) hr
   exact Ok.eq hb (Ok.some ⟨b, rfl, fun _ => h⟩)
  ·rintro _ ⟨b, rfl, hb⟩
   refine Ok.cond (fun h => ?_) (fun h => Ok.some ⟨p, r, rfl, hp, hr⟩)
   have hj := hb h
   refine Ok.rx hk hp (by decide) fun p2 r hp2 hr => Ok.some ⟨⟨j + 1, p2, r, ?_, hp2, by omega, by omega, hr⟩, ?_⟩
   ·show (i, w64 (j + 1), p2, 0, m, l, nm4, nm, r, false, ()) = _
    rw [w64_ok (by omega) (by omega)]
   ·show (5 - w64 (j + 1)).toNat < (5 - j).toNat
    rw [w64_ok (by omega) (by omega)]; omega
 ·rintro _ ⟨p3, r, rfl, hp3, hr⟩
  obtain ⟨b, hb⟩ := null15 (k := k) (d := 2) (by omega) (by omega) hr
  refine Ok.eq hb ?_
  refine Ok.bind (Q := fun q => ∃ p4 r, q = (i, p4, 0, m, l, nm4, nm, r, false, ()) ∧ PkOk p4 ∧ RxW 2 r) ?_ ?_
  ·exact Ok.cond (fun _ => Ok.set hk hp3 fun p4 s hp4 => Ok.some ⟨p4, _, rfl, hp4, RxW.set 2 s⟩) (fun _ => Ok.some ⟨p3, r, rfl, hp3, hr⟩)
  ·rintro _ ⟨p4, r, rfl, hp4, hr⟩
   refine Ok.bind (Q := fun q => ∃ p5 t, q = (i, p5, 0, m, l, nm4, nm, r, t, ()) ∧ PkOk p5) ?_ ?_
   ·exact Ok.dec (fun _ => Ok.num k hp4 (by decide) fun p5 v hp5 _ _ => Ok.some ⟨p5, _, rfl, hp5⟩) (fun _ => Ok.some ⟨p4, false, rfl, hp4⟩)
   ·rintro _ ⟨p5, t, rfl, hp5⟩
    refine Ok.room (by simp only [List.length_singleton]; omega) (by decide) (Ok.some ⟨⟨i - 1, p5, l ++ [(nm, r, t, ())], ?_, hp5, by omega, by rw [List.length_append, List.length_singleton]; omega⟩, ?_⟩)
    ·show (w64 (i - 1), p5, 0, m, l ++ [(nm, r, t, ())], nm4, ()) = _
     rw [w64_ok (by omega) (by omega)]
    ·show (w64 (i - 1) + 1).toNat < (i + 1).toNat
     rw [w64_ok (by omega) (by omega)]; omega
theorem any5 {k : Nat} (hk : 300 < k) {n i j c0 z m x y : Int} {p : PkT} {toks : List TokT} {nms : List (List UInt8)} {scs : List ScT} {rus : List RuT} (hp : PkOk p) (hn : 1 ≤ n) (hn3 : n ≤ 3) (ht : 0 < toks.length) (ht3 : toks.length ≤ 3) (h0 : 0 ≤ c0) (h2 : c0 ≤ 3) :
  Ok (iter k (g5_5 k) (n, i, j, c0, p, z, m, toks, nms, scs, rus, x, y, [], ())) fun q => ∃ p' l, q = (n, i, j, p', z, m, toks, nms, scs, rus, x, y, l, ()) ∧ PkOk p' ∧ l.length ≤ 3 := by
 refine Ok.iter (fun q => ∃ (c : Int) (p : PkT) (l : List Int), q = (n, i, j, c, p, z, m, toks, nms, scs, rus, x, y, l, ()) ∧ PkOk p ∧ 0 ≤ c ∧ (l.length : Int) = c0 - c) (fun q => (q.2.2.2.1).toNat) ?_ k _ ⟨c0, p, [], rfl, hp, by omega, by show (0 : Int) = _; omega⟩ (by show c0.toNat < k; omega)
 rintro _ ⟨c, p, l, rfl, hp, hc, hl⟩
 refine Ok.dec (p := c > 0) (fun h => ?_) (fun h => Ok.some ⟨p, l, rfl, hp, by omega⟩)
 have e1 : w64 (n + (toks.length : Int)) = n + toks.length := w64_ok (by omega) (by omega)
 refine Ok.num k hp (by rw [e1]; omega) fun p1 v hp1 hv0 hv => ?_
 rw [e1] at hv
 refine Ok.bind (Q := fun q => ∃ s, q = (n, i, j, c, s, p1, z, m, toks, nms, scs, rus, x, y, l, ()) ∧ - (toks.length : Int) ≤ s ∧ s ≤ 10) ?_ ?_
 ·refine Ok.dec (p := v ≥ n) (fun h => Ok.some ⟨_, rfl, ?_⟩) (fun h => Ok.some ⟨v, rfl, by omega, by omega⟩)
  rw [w64_ok (z := v - n) (by omega) (by omega), w64_ok (by omega) (by omega)]
  omega
 ·rintro _ ⟨s, rfl, hs0, hs⟩
  refine Ok.bind (Q := fun q => ∃ t, q = (n, i, j, c, s, t, p1, z, m, toks, nms, scs, rus, x, y, l, ())) ?_ ?_
  ·refine Ok.dec (p := s < 0) (fun h => ?_) (fun h => Ok.some ⟨false, rfl⟩)
   have e2 : w64 ((-(1 : Int)) - s) = -1 - s := w64_ok (by omega) (by omega)
   exact Ok.at (by rw [e2]; omega) (by rw [e2]; omega) fun _ _ _ => Ok.get (by rw [e2]; omega) fun tk _ _ => Ok.some ⟨_, rfl⟩
  ·rintro _ ⟨t, rfl⟩
   refine Ok.bind (Q := fun q => ∃ s, q = (n, i, j, c, s, p1, z, m, toks, nms, scs, rus, x, y, l, ())) ?_ ?_
   ·exact Ok.cond (fun _ => Ok.some ⟨_, rfl⟩) (fun _ => Ok.some ⟨_, rfl⟩)
   ·rintro _ ⟨s, rfl⟩
    refine Ok.room (by simp only [List.length_singleton]; omega) (by decide) (Ok.some ⟨⟨c - 1, p1, l ++ [s], ?_, hp1, by omega, by rw [List.length_append, List.length_singleton]; omega⟩, ?_⟩)
    ·show (n, i, j, w64 (c - 1), p1, z, m, toks, nms, scs, rus, x, y, l ++ [s], ()) = _
     rw [w64_ok (by omega) (by omega)]
    ·show (w64 (c - 1)).toNat < c.toNat
     rw [w64_ok (by omega) (by omega)]; omega
theorem any4 {k : Nat} (hk : 300 < k) {n i j0 z m : Int} {p : PkT} {toks : List TokT} {nms : List (List UInt8)} {scs : List ScT} {rus : List RuT} (hp : PkOk p) (hn : 1 ≤ n) (hn3 : n ≤ 3) (ht : 0 < toks.length) (ht3 : toks.length ≤ 3) (h0 : 0 ≤ j0) (h2 : j0 ≤ 2) (hr : rus.length ≤ 50) :
  Ok (iter k (g5_4 k) (n, i, j0, p, z, m, toks, nms, scs, rus, ())) fun q => ∃ p' l, q = (n, i, p', z, m, toks, nms, scs, l, ()) ∧ PkOk p' ∧ l.length ≤ rus.length + 3 := by
 refine Ok.iter (fun q => ∃ (j : Int) (p : PkT) (l : List RuT), q = (n, i, j, p, z, m, toks, nms, scs, l, ()) ∧ PkOk p ∧ -1 ≤ j ∧ (l.length : Int) = rus.length + (j0 - j)) (fun q => (q.2.2.1 + 1).toNat) ?_ k _ ⟨j0, p, rus, rfl, hp, by omega, by omega⟩ (by show (j0 + 1).toNat < k; omega)
 rintro _ ⟨j, p, l, rfl, hp, hj, hl⟩
 refine Ok.dec (p := j ≥ 0) (fun h => ?_) (fun h => Ok.some ⟨p, l, rfl, hp, by omega⟩)
 refine Ok.num k hp (by decide) fun p1 v hp1 hv0 hv => ?_
 refine Ok.bind (Q := fun q => ∃ s, q = (n, i, j, p1, z, m, toks, nms, scs, l, i, s, ())) ?_ ?_
 ·exact Ok.dec (fun _ => Ok.some ⟨_, rfl⟩) (fun _ => Ok.some ⟨_, rfl⟩)
 ·rintro _ ⟨s, rfl⟩
  refine Ok.num k hp1 (by decide) fun p2 c hp2 hc0 hc => ?_
  refine Ok.bind (any5 hk hp2 hn hn3 ht ht3 hc0 (by omega)) ?_
  rintro _ ⟨p3, ri, rfl, hp3, hri⟩
  refine Ok.room (by simp only [List.length_singleton]; omega) (by decide) (Ok.some ⟨⟨j - 1, p3, l ++ [(i, ri, s, ())], ?_, hp3, by omega, by rw [List.length_append, List.length_singleton]; omega⟩, ?_⟩)
  ·show (n, i, w64 (j - 1), p3, z, m, toks, nms, scs, l ++ [(i, ri, s, ())], ()) = _
   rw [w64_ok (by omega) (by omega)]
  ·show (w64 (j - 1) + 1).toNat < (j + 1).toNat
   rw [w64_ok (by omega) (by omega)]; omega
def nm3 : List (List UInt8) := [[115], [116], [117]]
theorem any3 {k : Nat} (hk : 300 < k) {n z m : Int} {p : PkT} {toks : List TokT} {scs : List ScT} (hp : PkOk p) (hn : 1 ≤ n) (hn3 : n ≤ 3) (ht : 0 < toks.length) (ht3 : toks.length ≤ 3) :
  Ok (iter k (g5_3 k) (n, 0, p, z, m, toks, [], scs, [], ())) fun q => ∃ p' nms l, q = (p', z, m, toks, nms, scs, l, ()) ∧ PkOk p' := by
 refine Ok.iter (fun q => ∃ (i : Int) (p : PkT) (nms : List (List UInt8)) (l : List RuT), q = (n, i, p, z, m, toks, nms, scs, l, ()) ∧ PkOk p ∧ 0 ≤ i ∧ i ≤ n ∧ (nms.length : Int) = i ∧ (l.length : Int) ≤ 3 * i) (fun q => (n - q.2.1).toNat) ?_ k _ ⟨0, p, [], [], rfl, hp, by omega, by omega, rfl, by simp⟩ (by show (n - 0).toNat < k; omega)
 rintro _ ⟨i, p, nms, l, rfl, hp, hi0, hin, hnm, hl⟩
 refine Ok.dec (p := i < n) (fun h => ?_) (fun h => Ok.some ⟨p, nms, l, rfl, hp⟩)
 have h3 : nm3.length = 3 := rfl
 refine Ok.at (l := nm3) (by omega) (by omega) fun _ _ _ => Ok.get (l := nm3) (by omega) fun nm _ _ => ?_
 refine Ok.room (by simp only [List.length_singleton]; omega) (by decide) ?_
 refine Ok.num k hp (by decide) fun p1 v hp1 hv0 hv => ?_
 refine Ok.bind (any4 hk hp1 hn hn3 ht ht3 hv0 (by omega) (by omega)) ?_
 rintro _ ⟨p3, l', rfl, hp3, hl'⟩
 refine Ok.some ⟨⟨i + 1, p3, nms ++ [nm], l', ?_, hp3, by omega, by omega, by rw [List.length_append, List.length_singleton]; omega, by omega⟩, ?_⟩
 ·show (n, w64 (i + 1), p3, z, m, toks, nms ++ [nm], scs, l', ()) = _
  rw [w64_ok (by omega) (by omega)]
 ·show (n - w64 (i + 1)).toNat < (n - i).toNat
  rw [w64_ok (by omega) (by omega)]; omega
theorem any6 {k : Nat} (hk : 300 < k) {c0 z m : Int} {p : PkT} {toks : List TokT} {nms : List (List UInt8)} {scs : List ScT} {rus : List RuT} (hp : PkOk p) (h0 : 0 ≤ c0) (h2 : c0 ≤ 3) :
  Ok (iter k (g5_6 k) (c0, p, z, m, toks, nms, scs, rus, [], ())) fun q => ∃ p' l, q = (p', z, m, toks, nms, scs, rus, l, ()) ∧ PkOk p' ∧ l.length ≤ 3 := by
 refine Ok.iter (fun q => ∃ (c : Int) (p : PkT) (l : List SetT), q = (c, p, z, m, toks, nms, scs, rus, l, ()) ∧ PkOk p ∧ 0 ≤ c ∧ (l.length : Int) = c0 - c) (fun q => q.1.toNat) ?_ k _ ⟨c0, p, [], rfl, hp, by omega, by show (0 : Int) = _; omega⟩ (by show c0.toNat < k; omega)
 rintro _ ⟨c, p, l, rfl, hp, hc, hl⟩
 refine Ok.dec (p := c > 0) (fun h => ?_) (fun h => Ok.some ⟨p, l, rfl, hp, by omega⟩)
 refine Ok.set hk hp fun p1 s hp1 => ?_
 refine Ok.room (by simp only [List.length_singleton]; omega) (by decide) (Ok.some ⟨⟨c - 1, p1, l ++ [s], ?_, hp1, by omega, by rw [List.length_append, List.length_singleton]; omega⟩, ?_⟩)
 ·show (w64 (c - 1), p1, z, m, toks, nms, scs, rus, l ++ [s], ()) = _
  rw [w64_ok (by omega) (by omega)]
 ·show (w64 (c - 1)).toNat < c.toNat
  rw [w64_ok (by omega) (by omega)]; omega
theorem any7 {k : Nat} (hk : 300 < k) {c0 z m : Int} {p : PkT} {toks : List TokT} {nms : List (List UInt8)} {scs : List ScT} {rus : List RuT} {lf : List SetT} (hp : PkOk p) (h0 : 0 ≤ c0) (h2 : c0 ≤ 3) (hlf : lf.length ≤ 3) :
  Ok (iter k (g5_7 k) (c0, p, z, m, toks, nms, scs, rus, lf, [], ())) fun q => ∃ p' l, q = (p', z, m, toks, nms, scs, rus, lf, l, ()) ∧ PkOk p' ∧ l.length ≤ 4 := by
 refine Ok.iter (fun q => ∃ (c : Int) (p : PkT) (l : List SetT), q = (c, p, z, m, toks, nms, scs, rus, lf, l, ()) ∧ PkOk p ∧ -1 ≤ c ∧ (l.length : Int) = c0 - c ∧ (c < 0 → 0 < l.length)) (fun q => (q.1 + 1).toNat) ?_ k _ ⟨c0, p, [], rfl, hp, by omega, by show (0 : Int) = _; omega, fun h => by omega⟩ (by show (c0 + 1).toNat < k; omega)
 rintro _ ⟨c, p, l, rfl, hp, hc, hl, hcl⟩
 refine Ok.bind (Q := fun q => ∃ t, q = (c, t, p, z, m, toks, nms, scs, rus, lf, l, ()) ∧ (t = true → 0 ≤ c)) ?_ ?_
 ·refine Ok.dec (p := c > 0) (fun h => Ok.some ⟨true, rfl, fun _ => by omega⟩) (fun h => Ok.some ⟨_, rfl, fun h2 => ?_⟩)
  by_cases hc0 : c < 0
  ·have := hcl hc0
   rw [w64_ok (by omega) (by omega)] at h2
   have h3 : ((lf.length : Int) + (l.length : Int)) = 0 := by simpa using h2
   omega
  ·omega
 ·rintro _ ⟨t, rfl, ht⟩
  refine Ok.cond (fun h => ?_) (fun h => Ok.some ⟨p, l, rfl, hp, by omega⟩)
  have hc0 := ht h
  refine Ok.set hk hp fun p1 s hp1 => ?_
  refine Ok.room (by simp only [List.length_singleton]; omega) (by decide) (Ok.some ⟨⟨c - 1, p1, l ++ [s], ?_, hp1, by omega, by rw [List.length_append, List.length_singleton]; omega, fun _ => by rw [List.length_append, List.length_singleton]; omega⟩, ?_⟩)
  ·show (w64 (c - 1), p1, z, m, toks, nms, scs, rus, lf, l ++ [s], ()) = _
   rw [w64_ok (by omega) (by omega)]
  ·show (w64 (c - 1) + 1).toNat < (c + 1).toNat
   rw [w64_ok (by omega) (by omega)]; omega
theorem any_ok {k : Nat} (hk : 300 < k) {p : PkT} (hp : PkOk p) : Ok (F5 k (p, ())) fun x : PkT × (GrT × Unit) => GrOk x.2.1 := by
 refine Ok.of (F5_g k p) ?_
 refine Ok.num k hp (by decide) fun p1 v1 hp1 _ _ => Ok.num k hp1 (by decide) fun p2 v2 hp2 h20 h2 => ?_
 refine Ok.bind (any1 hk hp2 h20 (by omega)) ?_
 rintro _ ⟨p3, toks, rfl, hp3, ht, ht3⟩
 refine Ok.num k hp3 (by decide) fun p4 v4 hp4 h40 h4 => ?_
 have hs : ([[49], [110, 97, 110], [45, 105, 110, 102], [48, 46, 53]] : List (List UInt8)).length = 4 := rfl
 refine Ok.at (by omega) (by omega) fun _ _ _ => Ok.get (by omega) fun sc _ _ => ?_
 refine Ok.num k hp4 (by decide) fun p5 v5 hp5 h50 h5 => ?_
 have e1 : w64 (1 + v5) = 1 + v5 := w64_ok (by omega) (by omega)
 refine Ok.bind (any3 hk hp5 (by rw [e1]; omega) (by rw [e1]; omega) ht ht3) ?_
 rintro _ ⟨p6, nms, rus, rfl, hp6⟩
 refine Ok.num k hp6 (by decide) fun p7 v7 hp7 h70 h7 => ?_
 refine Ok.bind (any6 hk hp7 h70 (by omega)) ?_
 rintro _ ⟨p8, lf, rfl, hp8, hlf⟩
 refine Ok.num k hp8 (by decide) fun p9 v9 hp9 h90 h9 => ?_
 refine Ok.bind (any7 hk hp9 h90 (by omega) hlf) ?_
 rintro _ ⟨p10, rt, rfl, hp10, hrt⟩
 exact Ok.some ⟨by show lf.length ≤ 10; omega, by show rt.length ≤ 10; omega⟩
end Go.Pi
namespace Go.Pi
set_option linter.unusedVariables false
set_option maxRecDepth 100000
theorem PkOk.new {b : List Int} (h : BytesOk b) (hl : b.length ≤ 1000) : PkOk (b, (0, ())) := ⟨Int.le_refl _, by show (0 : Int) ≤ b.length; omega, hl, h⟩
theorem by8 {l : List Int} (h : ∀ a ∈ l, IntKind.u8.min ≤ a ∧ a ≤ IntKind.u8.max) : BytesOk l := fun a ha => by
 have := h a ha
 have h1 : IntKind.u8.min = 0 := by decide
 have h2 : IntKind.u8.max = 255 := by decide
 omega
def grA (g : GrT) : GrT := (g.1, g.2.1, g.2.2.1, g.2.2.2.1, g.2.2.2.2.1, [], g.2.2.2.2.2.2.1, ())
def grB (g : GrT) : GrT := (g.1, g.2.1, g.2.2.1, g.2.2.2.1, [], g.2.2.2.2.2.1, g.2.2.2.2.2.2.1, ())
theorem sides {g : GrT} {w : List Int} {q : Nat} (h : q ≤ w.length) : atB g w q = (atB (grA g) w q && atB (grB g) w q) := by
 unfold atB
 have hA : gL (grA g) = gL g := rfl
 have hA2 : gR (grA g) = [] := rfl
 have hB : gL (grB g) = [] := rfl
 have hB2 : gR (grB g) = gR g := rfl
 rw [hA, hA2, hB, hB2]
 have e1 : decide ((q : Int) ≤ (w.length : Int) - (([] : List SetT).length : Int)) = true := decide_eq_true (by show (q : Int) ≤ (w.length : Int) - 0; omega)
 have e2 : decide ((([] : List SetT).length : Int) ≤ (q : Int)) = true := decide_eq_true (by show (0 : Int) ≤ (q : Int); omega)
 rw [e1, e2]
 show _ = (_ && (true && (_ && true)) && (true && (_ && (true && _))))
 cases decide (((gL g).length : Int) ≤ (q : Int)) <;> cases decide ((q : Int) ≤ (w.length : Int) - ((gR g).length : Int)) <;> simp
theorem allTo_get {g : GrT} {w : List Int} {q : Nat} (h : atB g w q = true) : ∀ N, q < N → (allTo g w N)[(allTo g w q).length]? = some (q : Int)
 | 0, hn => by omega
 | N + 1, hn => by
  rw [allTo_s]
  by_cases hq : q = N
  ·subst hq
   rw [h, List.getElem?_append_right (Nat.le_refl _), Nat.sub_self]; rfl
  ·have := allTo_get h N (by omega)
   rw [List.getElem?_append_left (List.getElem?_eq_some_iff.1 this).1]
   exact this
def fullS : SetT := ⟨[18446744073709551615, 18446744073709551615, 18446744073709551615, 18446744073709551615], rfl⟩
def r256 : List Int := (List.range 256).map fun (n : Nat) => (n : Int)
theorem of_all : F19 1000 (r256, ()) = some (fullS, ()) := (F19_g 1000 r256).trans (by kernel_rfl)
theorem none_has : ∀ n : _root_.Fin 256, hasB z4 (n.val : Int) = false := by decide +kernel
theorem not_none : F11 1000 (z4, ()) = some (fullS, ()) := by
 have : Ok (g11 1000 z4) (fun r => r = (fullS, ())) := by
  refine Ok.bind (Q := fun r => ∃ z, r = (z, r256, ())) ?_ (by rintro _ ⟨z, rfl⟩; exact Ok.eq of_all (Ok.some rfl))
  refine Ok.iter (fun p => ∃ n : Nat, n ≤ 256 ∧ p = ((n : Int), z4, z4, (List.range n).map (fun (n : Nat) => (n : Int)), ())) (fun p => (256 - p.1).toNat) ?_ 1000 _ ⟨0, by omega, rfl⟩ (by show ((256 : Int) - 0).toNat < 1000; omega)
  rintro _ ⟨n, hn, rfl⟩
  refine Ok.dec (p := (n : Int) < 256) (fun h => ?_) (fun h => ?_)
  ·have hu : IntKind.u8.wrap (n : Int) = n := wrap8 (by omega) (by omega)
   have hh : F18 1000 (z4, (IntKind.u8.wrap (n : Int), ())) = some (false, ()) := by
    rw [hu, (has_ok (by omega) (by omega)).1]
    have := none_has ⟨n, by omega⟩
    rw [show hasB z4 (n : Int) = false from this]
   refine Ok.eq hh ?_
   refine Ok.bind (Q := fun p => p = ((n : Int), z4, z4, (List.range (n + 1)).map (fun (n : Nat) => (n : Int)), ())) ?_ ?_
   ·refine Ok.tt rfl (Ok.room (by simp; omega) (by decide) (Ok.some ?_))
    rw [hu, List.range_succ, List.map_append]; rfl
   ·rintro _ rfl
    refine Ok.some ⟨⟨n + 1, by omega, ?_⟩, ?_⟩
    ·have : w64 ((n : Int) + 1) = ((n + 1 : Nat) : Int) := w64_ok (by omega) (by omega)
     rw [← this]
    ·show (256 - w64 ((n : Int) + 1)).toNat < (256 - (n : Int)).toNat
     rw [w64_ok (by omega) (by omega)]; omega
  ·have : n = 256 := by omega
   subst this
   exact Ok.some ⟨z4, rfl⟩
 obtain ⟨_, e, rfl⟩ := this
 exact (F11_g 1000 z4).trans e
theorem full_has : ∀ n : _root_.Fin 256, hasB fullS (n.val : Int) = true := by decide +kernel
def gAny : GrT := ([], [], [], [], [fullS], [], 0, ())
theorem any_len {w : List Int} (hw : BytesOk w) : ∀ n, n ≤ w.length → (allTo gAny w (n + 1)).length = n
 | 0, _ => rfl
 | n + 1, h => by
  have hg : gL gAny = [fullS] := rfl
  have hg2 : gR gAny = [] := rfl
  rw [allTo_s, List.length_append, any_len hw n (by omega)]
  have : atB gAny w ((n + 1 : Nat) : Int) = true := by
   unfold atB
   rw [hg, hg2, decide_eq_true (by show (1 : Int) ≤ ((n + 1 : Nat) : Int); omega), decide_eq_true (by show ((n + 1 : Nat) : Int) ≤ (w.length : Int) - 0; omega)]
   show (true && (true && ((hasB fullS (w.getD _ 0) && true) && true))) = true
   rw [show (((n + 1 : Nat) : Int) - (([fullS] : List SetT).length : Int)).toNat = n by show (((n + 1 : Nat) : Int) - 1).toNat = n; omega]
   have hx : w[n]? = some (w[n]'(by omega)) := List.getElem?_eq_getElem (by omega)
   rw [getD_of hx]
   obtain ⟨h0, h1⟩ := hw _ (List.getElem_mem (l := w) (n := n) (by omega))
   have := full_has ⟨(w[n]'(by omega)).toNat, by omega⟩
   rw [show (((⟨(w[n]'(by omega)).toNat, by omega⟩ : _root_.Fin 256).val : Nat) : Int) = w[n]'(by omega) by show (((w[n]'(by omega)).toNat : Nat) : Int) = _; omega] at this
   rw [this]; rfl
  rw [this]; rfl
theorem law2 {b w : List Int} (hb : BytesOk b) (hw : BytesOk w) : F2 1000 (b, (w, ())) = some (true, ()) := by
 have : Ok (g2 1000 b w) (fun r => r = (true, ())) := by
  refine Ok.eq (a := ((true, ()) : Bool × Unit)) (by rfl) (Ok.ff rfl ?_)
  refine Ok.bind (Q := fun x => ∃ t, x = (b, w, t, ()) ∧ (t = false → b.length ≤ 40 ∧ w.length ≤ 40)) ?_ ?_
  ·refine Ok.dec (p := (b.length : Int) > 40) (fun h => Ok.some ⟨true, rfl, fun h => by cases h⟩) (fun h => Ok.some ⟨_, rfl, fun h2 => ?_⟩)
   have := of_decide_eq_false h2
   omega
  ·rintro _ ⟨t, rfl, ht⟩
   refine Ok.cond (fun h => Ok.some rfl) (fun h => ?_)
   obtain ⟨h1, h2⟩ := ht h
   refine Ok.eq (F4_eq 1000 b) (Ok.bind (any_ok (k := 1000) (by decide) (PkOk.new (b := b) hb (show b.length ≤ 1000 by omega))) ?_)
   rintro ⟨p', g, _⟩ (hg : GrOk g)
   have hgA : GrOk (grA g) := ⟨hg.l, Nat.zero_le _⟩
   have hgB : GrOk (grB g) := ⟨Nat.zero_le _, hg.r⟩
   have hlen := allTo_len g w (w.length + 1)
   refine Ok.eq (all9 hw hg (by omega) (by omega)) ?_
   refine Ok.bind (Q := fun x => x = .inl (w, ((allTo g w (w.length + 1)).length : Int), allTo g w (w.length + 1), ())) ?_ ?_
   ·refine Ok.iter (fun x => ∃ q : Nat, q ≤ w.length + 1 ∧ x = (w, ((allTo g w q).length : Int), (q : Int), g, g.1, g.2.1, g.2.2.1, g.2.2.2.1, g.2.2.2.2.1, g.2.2.2.2.2.2.1, g.1, g.2.1, g.2.2.1, g.2.2.2.1, g.2.2.2.2.2.1, g.2.2.2.2.2.2.1, allTo g w (w.length + 1), ())) (fun x => (w.length + 1 - x.2.2.1).toNat) ?_ 1000 _ ⟨0, by omega, rfl⟩ (by show ((w.length : Int) + 1 - 0).toNat < 1000; omega)
    rintro _ ⟨q, hq, rfl⟩
    refine Ok.dec (p := (q : Int) ≤ (w.length : Int)) (fun h => ?_) (fun h => Ok.some ?_)
    ·have hs := sides (g := g) (w := w) (q := q) (by omega)
     refine Ok.bind (Q := fun y => y = .inr (w, ((allTo g w (q + 1)).length : Int), (q : Int), g, g.1, g.2.1, g.2.2.1, g.2.2.2.1, g.2.2.2.2.1, g.2.2.2.2.2.2.1, g.1, g.2.1, g.2.2.1, g.2.2.2.1, g.2.2.2.2.2.1, g.2.2.2.2.2.2.1, allTo g w (w.length + 1), ())) ?_ ?_
     ·refine Ok.eq (at6 hw hg (by omega) (by decide)) ?_
      refine Ok.bind (Q := fun y => y = (w, ((allTo g w q).length : Int), (q : Int), atB g w q, false, g, g.1, g.2.1, g.2.2.1, g.2.2.2.1, g.2.2.2.2.1, g.2.2.2.2.2.2.1, g.1, g.2.1, g.2.2.1, g.2.2.2.1, g.2.2.2.2.2.1, g.2.2.2.2.2.2.1, allTo g w (w.length + 1), ())) ?_ ?_
      ·refine Ok.eq (at6 (g := grA g) hw hgA (by omega) (by decide)) ?_
       refine Ok.cond (fun hh => Ok.eq (at6 (g := grB g) hw hgB (by omega) (by decide)) (Ok.some ?_)) (fun hh => Ok.some ?_)
       ·rw [show atB (grA g) w q = true from hh, Bool.true_and] at hs
        rw [← hs]; simp
       ·rw [show atB (grA g) w q = false from hh, Bool.false_and] at hs
        rw [hs]; simp
      ·rintro _ rfl
       refine Ok.ff rfl ?_
       refine Ok.bind (Q := fun y => y = .inr (w, ((allTo g w (q + 1)).length : Int), (q : Int), g, g.1, g.2.1, g.2.2.1, g.2.2.2.1, g.2.2.2.2.1, g.2.2.2.2.2.2.1, g.1, g.2.1, g.2.2.1, g.2.2.2.1, g.2.2.2.2.2.1, g.2.2.2.2.2.2.1, allTo g w (w.length + 1), ())) ?_ (by rintro _ rfl; exact Ok.some rfl)
       refine Ok.cond (fun hh => ?_) (fun hh => Ok.some ?_)
       ·have hget := allTo_get (g := g) (w := w) (q := q) hh (w.length + 1) (by omega)
        have hlt := (List.getElem?_eq_some_iff.1 hget).1
        have hv : allTo g w (q + 1) = allTo g w q ++ [(q : Int)] := by rw [allTo_s, show atB g w q = true from hh]; rfl
        refine Ok.bind (Q := fun y => y = (w, ((allTo g w q).length : Int), (q : Int), false, g, g.1, g.2.1, g.2.2.1, g.2.2.2.1, g.2.2.2.2.1, g.2.2.2.2.2.2.1, g.1, g.2.1, g.2.2.1, g.2.2.2.1, g.2.2.2.2.2.1, g.2.2.2.2.2.2.1, allTo g w (w.length + 1), ())) ?_ ?_
        ·refine Ok.dec (p := ((allTo g w q).length : Int) ≥ ((allTo g w (w.length + 1)).length : Int)) (fun h3 => by omega) (fun h3 => ?_)
         refine Ok.at (by omega) (by omega) fun _ _ _ => Ok.get (by omega) fun x _ hx => Ok.some ?_
         rw [show ((allTo g w q).length : Int).toNat = (allTo g w q).length by omega, hget] at hx
         cases hx
         simp
        ·rintro _ rfl
         refine Ok.ff rfl (Ok.some ?_)
         rw [hv, List.length_append, List.length_singleton]
         have hq2 := allTo_len g w q
         have : w64 (((allTo g w q).length : Int) + 1) = (((allTo g w q).length + 1 : Nat) : Int) := w64_ok (by omega) (by omega)
         rw [this]
       ·have hv : allTo g w (q + 1) = allTo g w q := by rw [allTo_s, show atB g w q = false from hh, cond_false, List.append_nil]
        rw [hv]
     ·rintro _ rfl
      refine Ok.some ⟨⟨q + 1, by omega, ?_⟩, ?_⟩
      ·have : w64 ((q : Int) + 1) = ((q + 1 : Nat) : Int) := w64_ok (by omega) (by omega)
       rw [← this]
      ·show ((w.length : Int) + 1 - w64 ((q : Int) + 1)).toNat < ((w.length : Int) + 1 - (q : Int)).toNat
       rw [w64_ok (by omega) (by omega)]; omega
    ·have : q = w.length + 1 := by omega
     subst this
     rfl
   ·rintro _ rfl
    refine Ok.eq not_none ?_
    refine Ok.bind (Q := fun r => r = (true, ())) ?_ (by rintro _ rfl; exact Ok.some rfl)
    refine Ok.tt (by simp) (Ok.eq (all9 (g := gAny) hw ⟨by decide, by decide⟩ (by omega) (by omega)) (Ok.some ?_))
    rw [any_len hw w.length (Nat.le_refl _)]
    simp
 obtain ⟨_, e, rfl⟩ := this
 exact (F2_g 1000 b w).trans e
end Go.Pi
