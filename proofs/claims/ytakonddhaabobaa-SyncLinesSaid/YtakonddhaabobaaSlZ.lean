import Derived.Test.YtakonddhaabobaaSlG
import Derived.Test.YtakonddhaabobaaSlS
set_option linter.all false
namespace Go.Pi
set_option linter.unusedVariables false
set_option maxRecDepth 100000
def s10 : SetT := ⟨[1024, 0, 0, 0], rfl⟩
def nl (w : List Int) (i : Nat) : Bool := w.getD i 0 == 10
theorem has10 : ∀ n : _root_.Fin 256, hasB s10 (n.val : Int) = ((n.val : Int) == 10) := by decide +kernel
theorem has10' {a : Int} (h : 0 ≤ a) (h2 : a < 256) : hasB s10 a = (a == 10) := by
 have := has10 ⟨a.toNat, by omega⟩
 rw [show (((⟨a.toNat, by omega⟩ : _root_.Fin 256).val : Nat) : Int) = a by show ((a.toNat : Nat) : Int) = a; omega] at this
 exact this
theorem getD8 {w : List Int} (hw : BytesOk w) {n : Nat} (h : n < w.length) : 0 ≤ w.getD n 0 ∧ w.getD n 0 < 256 := by
 rw [getD_of (List.getElem?_eq_getElem h)]
 exact hw _ (List.getElem_mem h)
def behindTo (w : List Int) : Nat → List Int
 | 0 => []
 | n + 1 => behindTo w n ++ (bif nl w n then [((n + 1 : Nat) : Int)] else [])
def aheadTo (w : List Int) : Nat → List Int
 | 0 => []
 | n + 1 => aheadTo w n ++ (bif nl w n then [(n : Int)] else [])
theorem behindTo_len (w : List Int) : ∀ n, (behindTo w n).length ≤ n
 | 0 => Nat.le_refl _
 | n + 1 => by
  have := behindTo_len w n
  rw [show behindTo w (n + 1) = behindTo w n ++ (bif nl w n then [((n + 1 : Nat) : Int)] else []) from rfl, List.length_append]
  cases nl w n <;> simp <;> omega
theorem aheadTo_len (w : List Int) : ∀ n, (aheadTo w n).length ≤ n
 | 0 => Nat.le_refl _
 | n + 1 => by
  have := aheadTo_len w n
  rw [show aheadTo w (n + 1) = aheadTo w n ++ (bif nl w n then [(n : Int)] else []) from rfl, List.length_append]
  cases nl w n <;> simp <;> omega
theorem at_gr0 {w : List Int} (hw : BytesOk w) {n : Nat} (h : n < w.length) : atB gr0 w ((n + 1 : Nat) : Int) = nl w n := by
 have h1 : gL gr0 = [s10] := rfl
 have h2 : gR gr0 = [] := rfl
 unfold atB
 rw [h1, h2, decide_eq_true (by show (1 : Int) ≤ ((n + 1 : Nat) : Int); omega), decide_eq_true (by show ((n + 1 : Nat) : Int) ≤ (w.length : Int) - 0; omega)]
 show (true && (true && ((hasB s10 (w.getD _ 0) && true) && true))) = _
 rw [show (((n + 1 : Nat) : Int) - (([s10] : List SetT).length : Int)).toNat = n by show (((n + 1 : Nat) : Int) - 1).toNat = n; omega, has10' (getD8 hw h).1 (getD8 hw h).2]
 unfold nl
 cases (w.getD n 0 == 10) <;> rfl
theorem at_gr1 {w : List Int} (hw : BytesOk w) {n : Nat} (h : n < w.length) : atB gr1 w (n : Int) = nl w n := by
 have h1 : gL gr1 = [] := rfl
 have h2 : gR gr1 = [s10] := rfl
 unfold atB
 rw [h1, h2, decide_eq_true (by show (0 : Int) ≤ (n : Int); omega), decide_eq_true (by show (n : Int) ≤ (w.length : Int) - 1; omega)]
 show (true && (true && (true && (hasB s10 (w.getD _ 0) && true)))) = _
 rw [show ((n : Int)).toNat = n by omega, has10' (getD8 hw h).1 (getD8 hw h).2]
 unfold nl
 cases (w.getD n 0 == 10) <;> rfl
theorem all_gr0 {w : List Int} (hw : BytesOk w) : ∀ n, n ≤ w.length → allTo gr0 w (n + 1) = behindTo w n
 | 0, _ => rfl
 | n + 1, h => by
  rw [allTo_s, all_gr0 hw n (by omega), at_gr0 hw (by omega)]; rfl
theorem all_gr1 {w : List Int} (hw : BytesOk w) : ∀ n, n ≤ w.length → allTo gr1 w n = aheadTo w n
 | 0, _ => rfl
 | n + 1, h => by
  rw [allTo_s, all_gr1 hw n (by omega), at_gr1 hw (by omega)]; rfl
theorem all_gr1' {w : List Int} (hw : BytesOk w) : allTo gr1 w (w.length + 1) = aheadTo w w.length := by
 have h1 : gL gr1 = [] := rfl
 have h2 : gR gr1 = [s10] := rfl
 have : atB gr1 w (w.length : Int) = false := by
  unfold atB
  rw [h1, h2, decide_eq_false (p := (w.length : Int) ≤ (w.length : Int) - (([s10] : List SetT).length : Int)) (by show ¬ (w.length : Int) ≤ (w.length : Int) - 1; omega), Bool.false_and, Bool.and_false]
 rw [allTo_s, this, all_gr1 hw _ (Nat.le_refl _), cond_false, List.append_nil]
theorem F12_0 : F12 (0, ()) = some (gr0, ()) := rfl
theorem F12_1 : F12 (1, ()) = some (gr1, ()) := rfl
theorem law110 {w : List Int} (hw : BytesOk w) : F110 1000 (w, ()) = some (true, ()) := by
 have : Ok (g110 1000 w) (fun r => r = (true, ())) := by
  refine Ok.eq (a := ((true, ()) : Bool × Unit)) (by rfl) (Ok.ff rfl ?_)
  refine Ok.dec (p := (w.length : Int) > 40) (fun _ => Ok.some rfl) (fun h => ?_)
  refine Ok.bind (Q := fun x => x = (w, behindTo w w.length, aheadTo w w.length, ())) ?_ ?_
  ·refine Ok.iter (fun p => ∃ n : Nat, n ≤ w.length ∧ p = (w, (n : Int), behindTo w n, aheadTo w n, ())) (fun p => (w.length - p.2.1).toNat) ?_ 1000 _ ⟨0, by omega, rfl⟩ (by show ((w.length : Int) - 0).toNat < 1000; omega)
   rintro _ ⟨n, hn, rfl⟩
   refine Ok.dec (p := (n : Int) < (w.length : Int)) (fun h => ?_) (fun h => ?_)
   ·refine Ok.at (by omega) (by omega) fun v hv hv2 => ?_
    have hv3 : nl w n = (v == 10) := by
     unfold nl
     rw [getD_of (show w[n]? = some v by simpa using hv2)]
    have en : w64 ((n : Int) + 1) = ((n + 1 : Nat) : Int) := w64_ok (by omega) (by omega)
    have l1 := behindTo_len w n
    have l2 := aheadTo_len w n
    refine Ok.bind (Q := fun x => x = (w, (n : Int), behindTo w (n + 1), aheadTo w (n + 1), ())) ?_ ?_
    ·refine Ok.cond (fun hh => Ok.room (by simp only [List.length_singleton]; omega) (by decide) (Ok.room (by simp only [List.length_singleton]; omega) (by decide) (Ok.some ?_))) (fun hh => Ok.some ?_)
     ·rw [show behindTo w (n + 1) = behindTo w n ++ (bif nl w n then [((n + 1 : Nat) : Int)] else []) from rfl, show aheadTo w (n + 1) = aheadTo w n ++ (bif nl w n then [(n : Int)] else []) from rfl, hv3, show (v == 10) = true from hh, en]; rfl
     ·rw [show behindTo w (n + 1) = behindTo w n ++ (bif nl w n then [((n + 1 : Nat) : Int)] else []) from rfl, show aheadTo w (n + 1) = aheadTo w n ++ (bif nl w n then [(n : Int)] else []) from rfl, hv3, show (v == 10) = false from hh, cond_false, cond_false, List.append_nil, List.append_nil]
    ·rintro _ rfl
     refine Ok.some ⟨⟨n + 1, by omega, by rw [← en]⟩, ?_⟩
     show ((w.length : Int) - w64 ((n : Int) + 1)).toNat < ((w.length : Int) - (n : Int)).toNat
     rw [en]; omega
   ·have : n = w.length := by omega
    subst this
    exact Ok.some rfl
  ·rintro _ rfl
   have l1 := behindTo_len w w.length
   have l2 := aheadTo_len w w.length
   have f0 : F9 1000 (gr0, (w, ())) = some (behindTo w w.length, ()) := by
    rw [all9 hw ⟨by decide, by decide⟩ (by omega) (by omega), all_gr0 hw _ (Nat.le_refl _)]
   have f1 : F9 1000 (gr1, (w, ())) = some (aheadTo w w.length, ()) := by
    rw [all9 hw ⟨by decide, by decide⟩ (by omega) (by omega), all_gr1' hw]
   refine Ok.bind (Q := fun r => r = (true, ())) ?_ (by rintro _ rfl; exact Ok.some rfl)
   refine Ok.eq F12_0 (Ok.eq f0 (Ok.eq (same8 (by omega) (by omega)) (Ok.tt rfl ?_)))
   exact Ok.eq F12_1 (Ok.eq f1 (Ok.eq (same8 (by omega) (by omega)) (Ok.some rfl)))
 obtain ⟨_, e, rfl⟩ := this
 exact (F110_g 1000 w).trans e
end Go.Pi

