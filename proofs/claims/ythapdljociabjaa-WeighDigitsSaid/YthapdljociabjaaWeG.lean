import Derived.Test.YthapdljociabjaaWeR
import Derived.Test.YthapdljociabjaaWeS
import Derived.Test.YthapdljociabjaaWeM
import Derived.Laws.FloatBits
/-
  NUMBERS WRITTEN OUT: what is read of digits.
-/
set_option linter.all false
namespace Go.Pi
def dg (d : Nat) : UInt8 := UInt8.ofNat (48 + d)
theorem dg_nat {d : Nat} (h : d < 10) : (dg d).toNat = 48 + d := by
  unfold dg
  rw [UInt8.toNat_ofNat']
  omega
theorem dg_dig {d : Nat} (h : d < 10) : isDig (dg d) = true := by rw [isDig_iff, dg_nat h]; omega
def decD (N : Nat) (ds : List Nat) : Nat := ds.foldl (fun n d => n * 10 + d) N
theorem decD_lt : ∀ {ds : List Nat} {N K : Nat}, (∀ d ∈ ds, d < 10) → N < 10 ^ K → decD N ds < 10 ^ (K + ds.length)
  | [], N, K, _, h => h
  | d :: ds, N, K, hd, h => by
    have h0 : d < 10 := hd d (by simp)
    have := decD_lt (ds := ds) (N := N * 10 + d) (K := K + 1) (fun x hx => hd x (by simp [hx])) (by rw [Nat.pow_succ]; omega)
    rw [show K + (d :: ds).length = K + 1 + ds.length by simp; omega]
    exact this
theorem decD_app (N : Nat) (ds es : List Nat) : decD N (ds ++ es) = decD (decD N ds) es := by unfold decD; rw [List.foldl_append]
theorem decD_pow : ∀ (es : List Nat) (N : Nat), decD N es = N * 10 ^ es.length + decD 0 es
  | [], N => by simp [decD]
  | d :: es, N => by
    have e1 : decD N (d :: es) = decD (N * 10 + d) es := rfl
    have e2 : decD 0 (d :: es) = decD (0 * 10 + d) es := rfl
    rw [e1, e2, decD_pow es (N * 10 + d), decD_pow es (0 * 10 + d)]
    simp only [List.length_cons, Nat.pow_succ]
    rw [Nat.add_mul, Nat.mul_assoc, Nat.mul_comm 10, Nat.zero_mul, Nat.zero_add]
    omega
theorem digF_app : ∀ (ds : List Nat) (r : List UInt8) (N K : Nat), (∀ d ∈ ds, d < 10) → K + ds.length ≤ 15 → digF (ds.map dg ++ r) N K = digF r (decD N ds) (K + ds.length)
  | [], r, N, K, _, _ => rfl
  | d :: ds, r, N, K, hd, hK => by
    have h0 : d < 10 := hd d (by simp)
    simp only [List.length_cons] at hK
    simp only [List.map_cons, List.cons_append, digF]
    rw [if_pos (dg_dig h0), if_neg (by omega), dg_nat h0, show 48 + d - 48 = d by omega, digF_app ds r _ (K + 1) (fun x hx => hd x (by simp [hx])) (by omega)]
    rw [show K + 1 + ds.length = K + (d :: ds).length by simp; omega]
    rfl
theorem plain_digits {ds : List Nat} (hd : ∀ d ∈ ds, d < 10) (h1 : ds ≠ []) (h2 : ds.length ≤ 15) : plainF (ds.map dg) = some (some (FloatKind.f64.nearest ((decD 0 ds : Nat) : Int))) := by
  have := digF_app ds [] 0 0 hd (by omega)
  rw [List.append_nil] at this
  unfold plainF
  rw [this]
  have hl : 0 < ds.length := List.length_pos_iff.2 h1
  simp only [digF]
  rw [if_neg (by omega)]
theorem plain_point {ds es : List Nat} (hd : ∀ d ∈ ds, d < 10) (he : ∀ d ∈ es, d < 10) (h1 : ds ≠ []) (h2 : es ≠ []) (h3 : ds.length + es.length ≤ 15) :
    plainF (ds.map dg ++ 46 :: es.map dg) = some (FloatKind.f64.format.div (FloatKind.f64.nearest ((decD 0 (ds ++ es) : Nat) : Int)) (FloatKind.f64.nearest ((10 ^ es.length : Nat) : Int))) := by
  unfold plainF
  have hl : 0 < ds.length := List.length_pos_iff.2 h1
  have hl2 : 0 < es.length := List.length_pos_iff.2 h2
  have e1 : digF (46 :: es.map dg) (decD 0 ds) (0 + ds.length) = some (decD 0 ds, ds.length, 46 :: es.map dg) := by
    simp only [digF]
    rw [dig46, if_neg (by simp), if_neg (by omega), Nat.zero_add]
  have e2 : digF (es.map dg) 0 0 = some (decD 0 es, es.length, []) := by
    have := digF_app es [] 0 0 he (by omega)
    rw [List.append_nil] at this
    rw [this]
    simp only [digF]
    rw [if_neg (by omega), Nat.zero_add]
  rw [digF_app ds _ 0 0 hd (by omega), e1]
  simp only [if_true, e2]
  rw [if_pos ⟨trivial, h3⟩, decD_app, ← decD_pow]
theorem number_plain {d : Nat} {t : List UInt8} (h : d < 10) : numberF (dg d :: t) = plainF (dg d :: t) := by
  have hn := dg_nat h
  unfold numberF
  rw [if_neg, if_neg, if_neg]
  · simp only []
    rw [if_neg]
    intro e; rw [e] at hn; have : (45 : UInt8).toNat = 45 := rfl; omega
  · intro e; injection e with e _; rw [e] at hn; have : (45 : UInt8).toNat = 45 := rfl; omega
  · intro e; injection e with e _; rw [e] at hn; have : (105 : UInt8).toNat = 105 := rfl; omega
  · intro e; injection e with e _; rw [e] at hn; have : (110 : UInt8).toNat = 110 := rfl; omega
theorem number_minus {d : Nat} {t : List UInt8} (h : d < 10) : numberF (45 :: dg d :: t) = (plainF (dg d :: t)).map (Option.map copyNeg) := by
  have hn := dg_nat h
  unfold numberF
  rw [if_neg (by simp), if_neg (by simp), if_neg]
  · simp
  · intro e; injection e with _ e; injection e with e _; rw [e] at hn; have : (105 : UInt8).toNat = 105 := rfl; omega
theorem parse_digits {ds : List Nat} (hd : ∀ d ∈ ds, d < 10) (h1 : ds ≠ []) (h2 : ds.length ≤ 15) : parseF (ds.map dg) = some (some (FloatKind.f64.nearest ((decD 0 ds : Nat) : Int)), 0) := by
  unfold parseF
  cases ds with
  | nil => exact absurd rfl h1
  | cons d ds =>
    have e := number_plain (d := d) (t := ds.map dg) (hd d (by simp))
    rw [List.map_cons, e, ← List.map_cons, plain_digits hd h1 h2]
theorem parse_point {ds es : List Nat} {b : Nat} (hd : ∀ d ∈ ds, d < 10) (he : ∀ d ∈ es, d < 10) (h1 : ds ≠ []) (h2 : es ≠ []) (h3 : ds.length + es.length ≤ 15)
    (hb : FloatKind.f64.format.div (FloatKind.f64.nearest ((decD 0 (ds ++ es) : Nat) : Int)) (FloatKind.f64.nearest ((10 ^ es.length : Nat) : Int)) = some b) : parseF (ds.map dg ++ 46 :: es.map dg) = some (some b, 0) := by
  unfold parseF
  have hp := plain_point hd he h1 h2 h3
  cases ds with
  | nil => exact absurd rfl h1
  | cons d ds =>
    have e := number_plain (d := d) (t := ds.map dg ++ 46 :: es.map dg) (hd d (by simp))
    rw [List.map_cons, List.cons_append] at hp ⊢
    rw [e, hp, hb]
end Go.Pi

