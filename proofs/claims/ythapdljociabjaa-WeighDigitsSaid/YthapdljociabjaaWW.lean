import Derived.Test.YthapdljociabjaaProg
import Derived.WalkKit
import Derived.WalkLawsBesides
import Derived.Recover
import Derived.Defers
import Derived.Deep.QuietTactic
import Derived.BigQuiet
import Derived.IntWalk
import Derived.Lib.Hide
import Derived.WalkSpells
import Derived.Test.YthapdljociabjaaWp
import Derived.Laws.FloatArith
import Derived.LoopTactic
import Derived.Laws.Externs
import Derived.Tactics
import Derived.Tactics2
import Derived.Laws.Pointers
import Derived.Deep.RegionHeld
import Derived.Test.YthapdljociabjaaPE
set_option linter.all false
namespace Go.Proofs.Ythapdljociabjaa
open Go.RowKit
open Go.Pi (isDig digF plainF copyNeg numberF)

def refusal : List PanicEntry := [{ v := .iface 46 (.agg #[]), recovered := false }]
def DigPost (r : Option (Nat × Nat × List UInt8)) (w : World) (e : Ending) (w' : World) : Prop :=
  (∃ m, w' = w.drewN m) ∧ match r with
  | none => e = .panicked refusal
  | some (n, k, l) => ∃ t : ByteArray, t.data.toList = l ∧ e = .returned (.tuple #[.int .u64 n, .int .i64 k, .string t])

theorem digF_stop {u : ByteArray} {N K : Nat} (h : u.size = 0 ∨ ∃ h : 0 < u.size, isDig u[0] = false) : digF u.data.toList N K = if K = 0 then none else some (N, K, u.data.toList) := by
  obtain ⟨⟨l⟩⟩ := u
  cases l with
  | nil => rfl
  | cons c l =>
    rcases h with h | ⟨_, h⟩
    · exact absurd h (by simp [ByteArray.size])
    · have h' : isDig c = false := h
      simp [digF, h']
theorem digF_go {u : ByteArray} {N K : Nat} (h0 : 0 < u.size) (h : isDig u[0] = true) : digF u.data.toList N K = if 15 < K + 1 then none else digF (u.extract 1 u.size).data.toList (N * 10 + (u[0].toNat - 48)) (K + 1) := by
  obtain ⟨⟨l⟩⟩ := u
  cases l with
  | nil => exact absurd h0 (by simp [ByteArray.size])
  | cons c l =>
    have h' : isDig c = true := h
    have e : (ByteArray.extract ⟨⟨c :: l⟩⟩ 1 (ByteArray.size ⟨⟨c :: l⟩⟩)).data.toList = l := by simp [ByteArray.data_extract, ByteArray.size]
    rw [e]
    simp only [digF, h', if_true]
    rfl
theorem dig_pow {N K d : Nat} (h : N < 10 ^ K) (hd : d < 10) : N * 10 + d < 10 ^ (K + 1) := by rw [Nat.pow_succ]; omega
theorem post_none {r : Option (Nat × Nat × List UInt8)} {w : World} {m : Nat} (h : Hid (r = none)) : DigPost r w (.panicked refusal) (w.drewN m) := by
  rw [h.out]; exact ⟨⟨m, rfl⟩, rfl⟩
theorem post_some {r : Option (Nat × Nat × List UInt8)} {w : World} {m n k : Nat} {t : ByteArray} (h : Hid (r = some (n, k, t.data.toList))) : DigPost r w (.returned (.tuple #[.int .u64 n, .int .i64 k, .string t])) (w.drewN m) := by
  rw [h.out]; exact ⟨⟨m, rfl⟩, t, rfl, rfl⟩

set_option maxHeartbeats 800000 in
theorem digits_any (s : ByteArray) (w : World) (hs : s.size ≤ maxLen) : Calls Try.prog 38 #[.string s] w (DigPost (digF s.data.toList 0 0) w) := by
  unfold maxLen at hs
  go_enter Try.func38, Try.ntmps38
  go_wp2
  go_loopw [0, 2, 3] (fun t n k wr => ∃ (u : ByteArray) (N K : Nat), u.size ≤ s.size ∧ K ≤ 15 ∧ N < 10 ^ K ∧ t = .string u ∧ n = .int .u64 N ∧ k = .int .i64 K ∧ digF u.data.toList N K = digF s.data.toList 0 0 ∧ ∃ m, wr = w.drewN m) (fun t _ _ _ => match t with | .string u => u.size | _ => 0)
  case atStart => exact ⟨s, 0, 0, by omega, by omega, by omega, rfl, rfl, rfl, rfl, 0, rfl⟩
  case round =>
    obtain ⟨u, N, K, hu, hK, hN, rfl, rfl, rfl, hd, m, rfl⟩ := hrel
    by_cases h0 : 0 < u.size
    · by_cases hdg : isDig u[0] = true
      · have e := digF_go (N := N) (K := K) h0 hdg
        have hdg' := hdg
        simp only [isDig, Bool.and_eq_true, decide_eq_true_eq] at hdg'
        obtain ⟨ha, hb⟩ := hdg'
        clear hdg
        by_cases h15 : K = 15
        · have hn : digF s.data.toList 0 0 = none := by rw [← hd, e, if_pos (by omega)]
          have HN := Lib.hid hn; clear hn
          clear hd e
          subst h15
          have ha' : (48 : Int) ≤ (u[0].toNat : Int) := by omega
          have hb' : (u[0].toNat : Int) ≤ 57 := by omega
          go_wp2
          exact ⟨rfl, post_none HN⟩
        · have e' : digF (u.extract 1 u.size).data.toList (N * 10 + (u[0].toNat - 48)) (K + 1) = digF s.data.toList 0 0 := by rw [← hd, e, if_neg (by omega)]
          have hpw := dig_pow hN (show u[0].toNat - 48 < 10 by omega)
          have hbig : 10 ^ (K + 1) ≤ 10 ^ 15 := Nat.pow_le_pow_right (by decide) (by omega)
          have HN := Lib.hid e'; clear e'
          clear hd e
          have HP := Lib.hid hpw
          have HQ := Lib.hid hN; clear hN
          have w1 : IntKind.u64.wrap ((N : Int) * 10) = (N : Int) * 10 := IntWalk.u64_in _ (by omega)
          have w2 : IntKind.u8.wrap ((u[0].toNat : Int) - 48) = (u[0].toNat : Int) - 48 := IntWalk.u8_in _ (by omega)
          have w3 : IntKind.u64.wrap ((u[0].toNat : Int) - 48) = (u[0].toNat : Int) - 48 := IntWalk.u64_in _ (by omega)
          have w4 : IntKind.u64.wrap ((N : Int) * 10 + ((u[0].toNat : Int) - 48)) = (N : Int) * 10 + ((u[0].toNat : Int) - 48) := IntWalk.u64_in _ (by omega)
          have w5 : ((N : Int) * 10 + ((u[0].toNat : Int) - 48)) = ((N * 10 + (u[0].toNat - 48) : Nat) : Int) := by omega
          have W5 := Lib.hid w5; clear w5
          have hb5 : (N : Int) * 10 + ((u[0].toNat : Int) - 48) < 1000000000000000 := by omega
          have HB := Lib.hid hb5; clear hb5
          have hh : u.size ≤ s.size := hu
          have HU := Lib.hid hh
          have hsz : (1 : Int) ≤ (u.size : Int) := by omega
          clear hh hpw hbig hu hs
          have hK' : (K : Int) + 1 ≤ 15 := by omega
          have ha' : (48 : Int) ≤ (u[0].toNat : Int) := by omega
          have hb' : (u[0].toNat : Int) ≤ 57 := by omega
          go_wp2
          go_quiet (fail)
          go_wp2
          go_roundw
          case rel =>
            refine ⟨u.extract 1 u.size, N * 10 + (u[0].toNat - 48), K + 1, ?_, by omega, HP.out, rfl, ?_, by go_num, HN.out, m + nq, by rw [World.drewN_drewN]⟩
            · have := HU.out; simp; omega
            · have := W5.out
              rw [IntWalk.u64_in _ (by have := HB.out; omega)]
              exact congrArg (Value.int IntKind.u64) this
          case measure => simp; omega
      · have e := digF_stop (N := N) (K := K) (.inr ⟨h0, by simpa using hdg⟩)
        rw [hd] at e
        have HU := Lib.hid hu
        clear hu hs hd
        have hlt := u[0].toNat_lt
        have hcase : (u[0].toNat : Int) < 48 ∨ (57 < (u[0].toNat : Int) ∧ (48 : Int) ≤ (u[0].toNat : Int)) := by simp [isDig] at hdg; omega
        clear hdg hlt
        by_cases hk0 : K = 0
        · subst hk0
          rw [if_pos rfl] at e
          have HN := Lib.hid e; clear e
          rcases hcase with hc | ⟨hc, hc2⟩
          · go_wp2
            exact ⟨rfl, post_none HN⟩
          · go_wp2
            exact ⟨rfl, post_none HN⟩
        · rw [if_neg hk0] at e
          have HN := Lib.hid e; clear e
          have hk : ((K : Int) == 0) = false := by simp; omega
          rcases hcase with hc | ⟨hc, hc2⟩
          · go_wp2
            go_ret3
            exact post_some HN
          · go_wp2
            go_ret3
            exact post_some HN
    · have e := digF_stop (u := u) (N := N) (K := K) (.inl (by omega))
      rw [hd] at e
      have HD := Lib.hid hd; clear hd
      have h0' : u.size = 0 := by omega
      by_cases hk0 : K = 0
      · subst hk0
        rw [if_pos rfl] at e
        have HN := Lib.hid e; clear e
        go_wp2
        exact ⟨rfl, post_none HN⟩
      · rw [if_neg hk0] at e
        have HN := Lib.hid e; clear e
        have hk : ((K : Int) == 0) = false := by simp; omega
        go_wp2
        go_ret3
        exact post_some HN
end Go.Proofs.Ythapdljociabjaa
namespace Go.Proofs.Ythapdljociabjaa
open Go.RowKit
open Go.Pi (isDig digF plainF copyNeg numberF)

theorem digits_none {s : ByteArray} (w : World) (hs : s.size ≤ maxLen) (h : digF s.data.toList 0 0 = none) : Calls Try.prog 38 #[.string s] w fun e w' => e = .panicked refusal ∧ ∃ m, w' = w.drewN m :=
  (digits_any s w hs).mono fun e w' h1 => by unfold DigPost at h1; rw [h] at h1; exact ⟨h1.2, h1.1⟩
theorem digits_some {s : ByteArray} {n k : Nat} {l : List UInt8} (w : World) (hs : s.size ≤ maxLen) (h : digF s.data.toList 0 0 = some (n, k, l)) : Calls Try.prog 38 #[.string s] w fun e w' => ∃ (t : ByteArray) (m : Nat), Hid (t.data.toList = l) ∧ e = .returned (.tuple #[.int .u64 n, .int .i64 k, .string t]) ∧ w' = w.drewN m :=
  (digits_any s w hs).mono fun e w' h1 => by
    unfold DigPost at h1
    rw [h] at h1
    obtain ⟨⟨m, h2⟩, t, h4, h3⟩ := h1
    exact ⟨t, m, Lib.hid h4, h3, h2⟩
theorem ba_loop (t : ByteArray) : ∀ (k i : Nat) (r : List UInt8), t.size - i = k → ByteArray.toList.loop t i r = r.reverse ++ t.data.toList.drop i
  | 0, i, r, h => by
    rw [ByteArray.toList.loop]
    have h1 : ¬ i < t.size := by omega
    rw [if_neg h1, List.drop_of_length_le (by have : t.data.toList.length = t.size := rfl
                                              omega)]
    simp
  | k + 1, i, r, h => by
    rw [ByteArray.toList.loop]
    have h1 : i < t.size := by omega
    rw [if_pos h1, ba_loop t k (i + 1) _ (by omega)]
    have h2 : i < t.data.toList.length := h1
    rw [List.drop_eq_getElem_cons h2]
    simp [ByteArray.get!]
    obtain ⟨⟨l⟩⟩ := t
    simp at h2 ⊢
    simp [h2]
theorem ba_toList (t : ByteArray) : t.toList = t.data.toList := by
  unfold ByteArray.toList
  rw [ba_loop t t.size 0 [] (by omega)]
  simp
theorem ba_nil {t : ByteArray} (h : t.data.toList = []) : t.size = 0 := by
  obtain ⟨⟨l⟩⟩ := t; subst h; rfl
theorem ba_nil' {t : ByteArray} (h : t.data.toList = []) : t.toList = [] := by rw [ba_toList]; exact h
theorem ba_nil2 {t : ByteArray} (h : t.data.toList = []) : t.toList.isEmpty = true := by rw [ba_toList, h]; rfl
theorem ba_cons2 {t : ByteArray} {c : UInt8} {r : List UInt8} (h : t.data.toList = c :: r) : t.toList.isEmpty = false := by rw [ba_toList, h]; rfl
theorem ba_cons {t : ByteArray} {c : UInt8} {r : List UInt8} (h : t.data.toList = c :: r) : t.size = r.length + 1 ∧ (∀ h0 : 0 < t.size, t[0] = c) ∧ (t.extract 1 t.size).data.toList = r := by
  obtain ⟨⟨l⟩⟩ := t
  have h' : l = c :: r := h
  subst h'
  exact ⟨rfl, fun _ => rfl, by simp [ByteArray.data_extract, ByteArray.size]⟩
theorem digF_bound : ∀ {s : List UInt8} {N K n k : Nat} {r : List UInt8}, digF s N K = some (n, k, r) → N < 10 ^ K → K ≤ 15 → n < 10 ^ k ∧ k ≤ 15 ∧ 1 ≤ k ∧ r.length ≤ s.length ∧ K ≤ k
  | [], N, K, n, k, r, h, h1, h2 => by
    simp only [digF] at h
    split at h
    · cases h
    · injection h with h
      injection h with e1 h
      injection h with e2 e3
      subst e1; subst e2; subst e3
      exact ⟨h1, h2, by omega, by simp, Nat.le_refl _⟩
  | c :: s, N, K, n, k, r, h, h1, h2 => by
    simp only [digF] at h
    split at h
    · rename_i hc
      split at h
      · cases h
      · simp only [isDig, Bool.and_eq_true, decide_eq_true_eq] at hc
        have := digF_bound h (by rw [Nat.pow_succ]; omega) (by omega)
        simp only [List.length_cons]
        omega
    · split at h
      · cases h
      · injection h with h
        injection h with e1 h
        injection h with e2 e3
        subst e1; subst e2; subst e3
        exact ⟨h1, h2, by omega, by simp, Nat.le_refl _⟩
def PlainPost (r : Option (Option Nat)) (w : World) (e : Ending) (w' : World) : Prop :=
  (∃ m, w' = w.drewN m) ∧ match r with
  | none => e = .panicked refusal
  | some (some b) => e = .returned (.float .f64 b)
  | some none => True
theorem ba_len (l : List UInt8) : (⟨l.toArray⟩ : ByteArray).size = l.length := rfl

theorem plain_refused1 {s : ByteArray} (w : World) (hs : s.size ≤ maxLen) (h : digF s.data.toList 0 0 = none) : Calls Try.prog 35 #[.string s] w fun e w' => e = .panicked refusal ∧ ∃ m, w' = w.drewN m := by
  have H := Lib.hid h; clear h
  have HS := Lib.hid hs; clear hs
  go_enter Try.func35, Try.ntmps35
  go_wp2_with (go_at_call 38; refine (digits_none _ HS.out H.out).mono ?_; rintro e w' ⟨rfl, m, rfl⟩)
  exact ⟨rfl, rfl, m, rfl⟩
theorem plain_whole {s : ByteArray} {n k : Nat} (w : World) (hs : s.size ≤ maxLen) (h : digF s.data.toList 0 0 = some (n, k, [])) : Calls Try.prog 35 #[.string s] w fun e w' => e = .returned (.float .f64 (FloatKind.f64.nearest (n : Int))) ∧ ∃ m, w' = w.drewN m := by
  have H := Lib.hid h; clear h
  have HS := Lib.hid hs; clear hs
  go_enter Try.func35, Try.ntmps35
  go_wp2_with (go_at_call 38; refine (digits_some _ HS.out H.out).mono ?_; rintro e w' ⟨t, m, ht, rfl, rfl⟩; have ht1 := ba_nil2 ht.out)
  go_ret
  exact ⟨rfl, _, rfl⟩
theorem no_point {t : ByteArray} {c : UInt8} {r : List UInt8} (ht : t.data.toList = c :: r) (hc : c ≠ 46) : t.toList.isEmpty = false ∧ 0 < t.size ∧ ∀ h0 : 0 < t.size, ((t[0].toNat : Int) != 46) = true := by
  refine ⟨ba_cons2 ht, by have := (ba_cons ht).1; omega, fun h0 => ?_⟩
  rw [(ba_cons ht).2.1 h0]
  have h : c.toNat ≠ 46 := fun e => hc (UInt8.toNat_inj.1 (by rw [e]; rfl))
  simp
  omega
theorem plain_refused2 {s : ByteArray} {n k : Nat} {c : UInt8} {r : List UInt8} (w : World) (hs : s.size ≤ maxLen) (h : digF s.data.toList 0 0 = some (n, k, c :: r)) (hc : c ≠ 46) : Calls Try.prog 35 #[.string s] w fun e w' => e = .panicked refusal ∧ ∃ m, w' = w.drewN m := by
  have H := Lib.hid h; clear h
  have HS := Lib.hid hs; clear hs
  have HC := Lib.hid hc; clear hc
  go_enter Try.func35, Try.ntmps35
  go_wp2_with (go_at_call 38; refine (digits_some _ HS.out H.out).mono ?_; rintro e w' ⟨t, m, ht, rfl, rfl⟩; have hb := Lib.hid (no_point ht.out HC.out); have ht2 := hb.out.1; have ht0 := hb.out.2.1; have ht1 := hb.out.2.2 ht0)
  exact ⟨rfl, rfl, m, rfl⟩
/-- What stands behind the point. -/
theorem behind {t : ByteArray} {r : List UInt8} {s : ByteArray} {n k : Nat} (ht : t.data.toList = 46 :: r) (hs : s.size ≤ maxLen) (h : digF s.data.toList 0 0 = some (n, k, 46 :: r)) :
    t.toList.isEmpty = false ∧ 0 < t.size ∧ (∀ h0 : 0 < t.size, ((t[0].toNat : Int) != 46) = false) ∧ (t.extract 1 t.size).data.toList = r ∧ (t.extract 1 t.size).size ≤ maxLen := by
  obtain ⟨h1, h2, h3⟩ := ba_cons ht
  refine ⟨ba_cons2 ht, by omega, fun h0 => by rw [h2 h0]; rfl, h3, ?_⟩
  have h4 := (digF_bound h (by omega) (by omega)).2.2.2.1
  have h5 : s.data.toList.length = s.size := rfl
  have h6 : (t.extract 1 t.size).size = (t.extract 1 t.size).data.toList.length := rfl
  rw [h6, h3]
  simp at h4
  omega
theorem plain_refused3 {s : ByteArray} {n k : Nat} {r : List UInt8} (w : World) (hs : s.size ≤ maxLen) (h : digF s.data.toList 0 0 = some (n, k, 46 :: r)) (h2 : digF r 0 0 = none) : Calls Try.prog 35 #[.string s] w fun e w' => e = .panicked refusal ∧ ∃ m, w' = w.drewN m := by
  have H := Lib.hid h; clear h
  have HS := Lib.hid hs; clear hs
  have H2 := Lib.hid h2; clear h2
  have tok1 : True := trivial
  go_enter Try.func35, Try.ntmps35
  go_wp2_with (first
    | (go_at_call 38; have _t := tok1; refine (digits_some _ HS.out H.out).mono ?_; rintro e w' ⟨t, m, ht, rfl, rfl⟩; have hb := Lib.hid (behind ht.out HS.out H.out); have ht2 := hb.out.1; have ht0 := hb.out.2.1; have ht1 := hb.out.2.2.1 ht0; clear tok1)
    | (go_at_call 38; refine (digits_none _ hb.out.2.2.2.2 (by rw [hb.out.2.2.2.1]; exact H2.out)).mono ?_; rintro e w' ⟨rfl, m2, rfl⟩))
  exact ⟨rfl, rfl, _, by first | rfl | rw [World.drewN_drewN]⟩
theorem bhd {t : ByteArray} {r : List UInt8} {s : ByteArray} {n k : Nat} (ht : t.data.toList = 46 :: r) (hs : s.size ≤ maxLen) (h : digF s.data.toList 0 0 = some (n, k, 46 :: r)) {m l : Nat} {r2 : List UInt8} (h2 : digF r 0 0 = some (m, l, r2)) :
    digF (t.extract 1 t.size).data.toList 0 0 = some (m, l, r2) := by rw [(behind ht hs h).2.2.2.1]; exact h2
theorem plain_refused4 {s : ByteArray} {n k m l : Nat} {c : UInt8} {r r2 : List UInt8} (w : World) (hs : s.size ≤ maxLen) (h : digF s.data.toList 0 0 = some (n, k, 46 :: r)) (h2 : digF r 0 0 = some (m, l, c :: r2)) : Calls Try.prog 35 #[.string s] w fun e w' => e = .panicked refusal ∧ ∃ m, w' = w.drewN m := by
  have H := Lib.hid h; clear h
  have HS := Lib.hid hs; clear hs
  have H2 := Lib.hid h2; clear h2
  have tok1 : True := trivial
  go_enter Try.func35, Try.ntmps35
  go_wp2_with (first
    | (go_at_call 38; have _t := tok1; refine (digits_some _ HS.out H.out).mono ?_; rintro e w' ⟨t, m, ht, rfl, rfl⟩; have hb := Lib.hid (behind ht.out HS.out H.out); have ht2 := hb.out.1; have ht0 := hb.out.2.1; have ht1 := hb.out.2.2.1 ht0; clear tok1)
    | (go_at_call 38; refine (digits_some _ hb.out.2.2.2.2 (bhd ht.out HS.out H.out H2.out)).mono ?_; rintro e w' ⟨t2, m2, ht3, rfl, rfl⟩; have ht4 := ba_cons2 ht3.out))
  exact ⟨rfl, rfl, _, by first | rfl | rw [World.drewN_drewN]⟩
theorem plain_refused5 {s : ByteArray} {n k m l : Nat} {r : List UInt8} (w : World) (hs : s.size ≤ maxLen) (h : digF s.data.toList 0 0 = some (n, k, 46 :: r)) (h2 : digF r 0 0 = some (m, l, [])) (hkl : 15 < k + l) : Calls Try.prog 35 #[.string s] w fun e w' => e = .panicked refusal ∧ ∃ m, w' = w.drewN m := by
  have b1 := (digF_bound h (by omega) (by omega)).2.1
  have b2 := (digF_bound h2 (by omega) (by omega)).2.1
  have H := Lib.hid h; clear h
  have HS := Lib.hid hs; clear hs
  have H2 := Lib.hid h2; clear h2
  have tok1 : True := trivial
  have hk : (15 : Int) < (k : Int) + (l : Int) := by omega
  have hk1 : (k : Int) ≤ 15 := by omega
  have hk2 : (l : Int) ≤ 15 := by omega
  go_enter Try.func35, Try.ntmps35
  go_wp2_with (first
    | (go_at_call 38; have _t := tok1; refine (digits_some _ HS.out H.out).mono ?_; rintro e w' ⟨t, m, ht, rfl, rfl⟩; have hb := Lib.hid (behind ht.out HS.out H.out); have ht2 := hb.out.1; have ht0 := hb.out.2.1; have ht1 := hb.out.2.2.1 ht0; clear tok1)
    | (go_at_call 38; refine (digits_some _ hb.out.2.2.2.2 (bhd ht.out HS.out H.out H2.out)).mono ?_; rintro e w' ⟨t2, m2, ht3, rfl, rfl⟩; have ht4 := ba_nil2 ht3.out))
  exact ⟨rfl, rfl, _, by first | rfl | rw [World.drewN_drewN]⟩
set_option maxHeartbeats 800000 in
theorem plain_parts {s : ByteArray} {n k q l b : Nat} {r : List UInt8} (w : World) (hs : s.size ≤ maxLen) (h : digF s.data.toList 0 0 = some (n, k, 46 :: r)) (h2 : digF r 0 0 = some (q, l, [])) (hkl : k + l ≤ 15)
    (hq : FloatKind.f64.format.div (FloatKind.f64.nearest ((n * 10 ^ l + q : Nat) : Int)) (FloatKind.f64.nearest ((10 ^ l : Nat) : Int)) = some b) : Calls Try.prog 35 #[.string s] w fun e w' => e = .returned (.float .f64 b) ∧ ∃ m, w' = w.drewN m := by
  have b1 := digF_bound h (by omega) (by omega)
  have b2 := digF_bound h2 (by omega) (by omega)
  have b3 : n * 10 ^ l < 10 ^ (k + l) := by rw [Nat.pow_add]; exact Nat.mul_lt_mul_of_pos_right b1.1 (Nat.pow_pos (by decide))
  have b4 : 10 ^ (k + l) ≤ 10 ^ 15 := Nat.pow_le_pow_right (by decide) hkl
  have b5 : 10 ^ l ≤ 10 ^ 15 := Nat.pow_le_pow_right (by decide) (by omega)
  have H := Lib.hid h; clear h
  have HS := Lib.hid hs; clear hs
  have H2 := Lib.hid h2; clear h2
  have HB := Lib.hid (And.intro b1 (And.intro b2 (And.intro b3 (And.intro b4 b5))))
  have tok1 : True := trivial
  have hk : (k : Int) + (l : Int) ≤ 15 := by omega
  have hk1 : (k : Int) ≤ 15 := by omega
  have hk2 : (l : Int) ≤ 15 := by omega
  have HQ := Lib.hid hq
  have hdiv : ∀ w, (binOp .quo 23 (.float .f64 (FloatKind.f64.nearest ((n * 10 ^ l + q : Nat) : Int))) (.float .f64 (FloatKind.f64.nearest ((10 ^ l : Nat) : Int)))).run Try.prog w = .ok (.float .f64 b) w := fun w => run_float_arith w .quo 23 .f64 _ _ b hq
  have HD := Lib.hid hdiv
  clear hdiv hq b1 b2 b3 b4 b5 hkl
  go_enter Try.func35, Try.ntmps35
  go_wp2_with (first
    | (go_at_call 38; have _t := tok1; refine (digits_some _ HS.out H.out).mono ?_; rintro e w' ⟨t, m, ht, rfl, rfl⟩; have hb := Lib.hid (behind ht.out HS.out H.out); have ht2 := hb.out.1; have ht0 := hb.out.2.1; have ht1 := hb.out.2.2.1 ht0; clear tok1)
    | (go_at_call 38; refine (digits_some _ hb.out.2.2.2.2 (bhd ht.out HS.out H.out H2.out)).mono ?_; rintro e w' ⟨t2, m2, ht3, rfl, rfl⟩; have ht4 := ba_nil2 ht3.out))
  go_loop [8, 42] (fun t i => ∃ j : Nat, j ≤ l ∧ i = .int .i64 j ∧ t = .int .u64 ((10 ^ j : Nat) : Int)) (fun _ i => l - (intOf i).toNat)
  case atStart => exact ⟨0, Nat.zero_le _, rfl, rfl⟩
  case round =>
    obtain ⟨j, hj, rfl, rfl⟩ := hrel
    by_cases hlt : j < l
    · have w1 : IntKind.u64.wrap (((10 ^ j : Nat) : Int) * 10) = ((10 ^ (j + 1) : Nat) : Int) := by
        have h1 : 10 ^ (j + 1) ≤ 10 ^ 15 := Nat.pow_le_pow_right (by decide) (by omega)
        have h2 : 10 ^ (j + 1) = 10 ^ j * 10 := Nat.pow_succ ..
        rw [IntWalk.u64_in _ (by omega)]
        omega
      have W1 := Lib.hid w1; clear w1
      generalize hX : ((10 ^ j : Nat) : Int) = X
      have HX := Lib.hid hX; clear hX
      go_wp2
      go_round
      case rel => exact ⟨j + 1, by omega, by go_num, by rw [← HX.out, W1.out]⟩
      case measure => simp [intOf]; omega
    · obtain rfl : j = l := by omega
      have hb := HB.out
      have w2 : IntKind.u64.wrap (IntKind.u64.wrap ((n : Int) * 10 ^ j) + (q : Int)) = ((n * 10 ^ j + q : Nat) : Int) := by
        have e1 : (n : Int) * 10 ^ j = ((n * 10 ^ j : Nat) : Int) := by simp
        have b1 : 10 ^ k ≤ 10 ^ 15 := Nat.pow_le_pow_right (by decide) hb.1.2.1
        have b2 : q < 10 ^ 15 := by omega
        rw [e1, IntWalk.u64_in ((n * 10 ^ j : Nat) : Int) (by omega), IntWalk.u64_in _ (by omega)]
        omega
      have hd2 : ∀ w, (binOp .quo 23 (.float .f64 (floatOfInt .f64 (IntKind.u64.wrap (IntKind.u64.wrap ((n : Int) * 10 ^ j) + (q : Int))))) (.float .f64 (floatOfInt .f64 (10 ^ j)))).run Try.prog w = .ok (.float .f64 b) w := by
        intro w
        have e2 : ((10 : Int) ^ j) = ((10 ^ j : Nat) : Int) := by simp
        rw [w2, e2]
        exact HD.out w
      clear w2 hb
      go_wp2
      go_ret
      exact ⟨rfl, _, rfl⟩
theorem plain_any (s : ByteArray) (w : World) (hs : s.size ≤ maxLen) (hb : plainF s.data.toList ≠ some none) : Calls Try.prog 35 #[.string s] w (PlainPost (plainF s.data.toList) w) := by
  unfold plainF at hb ⊢
  cases h : digF s.data.toList 0 0 with
  | none => exact (plain_refused1 w hs h).mono fun e w' ⟨h1, h2⟩ => ⟨h2, h1⟩
  | some x =>
    obtain ⟨n, k, r⟩ := x
    rw [h] at hb
    cases r with
    | nil => exact (plain_whole w hs h).mono fun e w' ⟨h1, h2⟩ => ⟨h2, h1⟩
    | cons c r =>
      simp only at hb ⊢
      by_cases hc : c = 46
      · subst hc
        rw [if_pos rfl] at hb ⊢
        cases h2 : digF r 0 0 with
        | none => exact (plain_refused3 w hs h h2).mono fun e w' ⟨h1, h2⟩ => ⟨h2, h1⟩
        | some x =>
          obtain ⟨q, l, r2⟩ := x
          rw [h2] at hb
          simp only at hb ⊢
          cases r2 with
          | cons c r2 =>
            rw [if_neg (by simp)]
            exact (plain_refused4 w hs h h2).mono fun e w' ⟨h1, h2⟩ => ⟨h2, h1⟩
          | nil =>
            by_cases hkl : k + l ≤ 15
            · rw [if_pos ⟨rfl, hkl⟩] at hb ⊢
              cases hq : FloatKind.f64.format.div (FloatKind.f64.nearest ((n * 10 ^ l + q : Nat) : Int)) (FloatKind.f64.nearest ((10 ^ l : Nat) : Int)) with
              | none => rw [hq] at hb; exact absurd rfl hb
              | some b => exact (plain_parts w hs h h2 hkl hq).mono fun e w' ⟨h1, h2⟩ => ⟨h2, h1⟩
            · rw [if_neg (fun e => hkl e.2)]
              exact (plain_refused5 w hs h h2 (by omega)).mono fun e w' ⟨h1, h2⟩ => ⟨h2, h1⟩
      · rw [if_neg hc]
        exact (plain_refused2 w hs h hc).mono fun e w' ⟨h1, h2⟩ => ⟨h2, h1⟩
end Go.Proofs.Ythapdljociabjaa
namespace Go.Proofs.Ythapdljociabjaa
open Go.RowKit
open Go.Pi (isDig digF plainF copyNeg numberF)

theorem frombits (n : Int) (w : World) : (callFunc 27 #[.int .u64 n]).run Try.prog w = .ok (.value (.float .f64 n.toNat)) w := by
  rw [run_callFunc_extern (fn := Try.f27) (e := Extern.MathFloatBits.float64frombits) Try.func27 (by kernel_rfl) (by kernel_rfl) (by kernel_rfl) (by kernel_rfl)]
  rfl
theorem tobits (b : Nat) (w : World) : (callFunc 33 #[.float .f64 b]).run Try.prog w = .ok (.value (.int .u64 b)) w := by
  rw [run_callFunc_extern (fn := Try.f33) (e := Extern.MathFloatBits.float64bits) Try.func33 (by kernel_rfl) (by kernel_rfl) (by kernel_rfl) (by kernel_rfl)]
  rfl
theorem nan_any (w : World) : Calls Try.prog 25 #[] w fun e w' => e = .returned (.float .f64 0x7FF8000000000001) ∧ w' = w := by
  have h := frombits
  go_enter Try.func25, Try.ntmps25
  go_wp2
  go_ret
  exact ⟨rfl, rfl⟩
theorem inf_pos (w : World) : Calls Try.prog 30 #[.int .i64 1] w fun e w' => e = .returned (.float .f64 0x7FF0000000000000) ∧ w' = w := by
  have h := frombits
  go_enter Try.func30, Try.ntmps30
  go_wp2
  go_ret
  exact ⟨rfl, rfl⟩
theorem inf_neg (w : World) : Calls Try.prog 30 #[.int .i64 (-1)] w fun e w' => e = .returned (.float .f64 0xFFF0000000000000) ∧ w' = w := by
  have h := frombits
  go_enter Try.func30, Try.ntmps30
  go_wp2
  go_ret
  exact ⟨rfl, rfl⟩
theorem copysign_neg (b : Nat) (w : World) : Calls Try.prog 26 #[.float .f64 b, .float .f64 13830554455654793216] w fun e w' => e = .returned (.float .f64 (copyNeg b)) ∧ w' = w := by
  have h := frombits
  have h2 := tobits
  go_enter Try.func26, Try.ntmps26
  go_wp2
  go_ret
  exact ⟨rfl, rfl⟩
theorem number_nan {s : ByteArray} (w : World) (h : (s.toList == [110, 97, 110]) = true) : Calls Try.prog 29 #[.string s] w fun e w' => e = .returned (.float .f64 0x7FF8000000000001) ∧ ∃ m, w' = w.drewN m := by
  go_enter Try.func29, Try.ntmps29
  go_wp2_with (go_at_call 25; refine (nan_any _).mono ?_; rintro e w' ⟨rfl, rfl⟩)
  go_ret
  exact ⟨rfl, 0, rfl⟩
theorem number_inf {s : ByteArray} (w : World) (h0 : (s.toList == [110, 97, 110]) = false) (h : (s.toList == [105, 110, 102]) = true) : Calls Try.prog 29 #[.string s] w fun e w' => e = .returned (.float .f64 0x7FF0000000000000) ∧ ∃ m, w' = w.drewN m := by
  go_enter Try.func29, Try.ntmps29
  go_wp2_with (go_at_call 30; refine (inf_pos _).mono ?_; rintro e w' ⟨rfl, rfl⟩)
  go_ret
  exact ⟨rfl, 0, rfl⟩
theorem number_neginf {s : ByteArray} (w : World) (h0 : (s.toList == [110, 97, 110]) = false) (h1 : (s.toList == [105, 110, 102]) = false) (h : (s.toList == [45, 105, 110, 102]) = true) : Calls Try.prog 29 #[.string s] w fun e w' => e = .returned (.float .f64 0xFFF0000000000000) ∧ ∃ m, w' = w.drewN m := by
  go_enter Try.func29, Try.ntmps29
  go_wp2_with (go_at_call 30; refine (inf_neg _).mono ?_; rintro e w' ⟨rfl, rfl⟩)
  go_ret
  exact ⟨rfl, 0, rfl⟩
theorem plain_ret {s : ByteArray} {b : Nat} (w : World) (hs : s.size ≤ maxLen) (h : plainF s.data.toList = some (some b)) : Calls Try.prog 35 #[.string s] w fun e w' => e = .returned (.float .f64 b) ∧ ∃ m, w' = w.drewN m :=
  (plain_any s w hs (by rw [h]; simp)).mono fun e w' hp => by unfold PlainPost at hp; rw [h] at hp; exact ⟨hp.2, hp.1⟩
theorem plain_pan {s : ByteArray} (w : World) (hs : s.size ≤ maxLen) (h : plainF s.data.toList = none) : Calls Try.prog 35 #[.string s] w fun e w' => e = .panicked refusal ∧ ∃ m, w' = w.drewN m :=
  (plain_any s w hs (by rw [h]; simp)).mono fun e w' hp => by unfold PlainPost at hp; rw [h] at hp; exact ⟨hp.2, hp.1⟩
theorem number_minus_ret {s : ByteArray} {b : Nat} (w : World) (hs : s.size ≤ maxLen) (h0 : (s.toList == [110, 97, 110]) = false) (h1 : (s.toList == [105, 110, 102]) = false) (h2 : (s.toList == [45, 105, 110, 102]) = false) (h3 : 0 < s.size) (h4 : ((s[0].toNat : Int) == 45) = true) (h : plainF (s.extract 1 s.size).data.toList = some (some b)) : Calls Try.prog 29 #[.string s] w fun e w' => e = .returned (.float .f64 (copyNeg b)) ∧ ∃ m, w' = w.drewN m := by
  have HS := Lib.hid hs; clear hs
  have H := Lib.hid h; clear h
  go_enter Try.func29, Try.ntmps29
  go_wp2_with (first | (go_at_call 35; refine (plain_ret _ (by have := HS.out; simp; omega) H.out).mono ?_; rintro e w' ⟨rfl, m, rfl⟩) | (go_at_call 26; refine (copysign_neg _ _).mono ?_; rintro e w' ⟨rfl, rfl⟩))
  go_ret
  exact ⟨rfl, m, rfl⟩
theorem number_minus_pan {s : ByteArray} (w : World) (hs : s.size ≤ maxLen) (h0 : (s.toList == [110, 97, 110]) = false) (h1 : (s.toList == [105, 110, 102]) = false) (h2 : (s.toList == [45, 105, 110, 102]) = false) (h3 : 0 < s.size) (h4 : ((s[0].toNat : Int) == 45) = true) (h : plainF (s.extract 1 s.size).data.toList = none) : Calls Try.prog 29 #[.string s] w fun e w' => e = .panicked refusal ∧ ∃ m, w' = w.drewN m := by
  have HS := Lib.hid hs; clear hs
  have H := Lib.hid h; clear h
  go_enter Try.func29, Try.ntmps29
  go_wp2_with (first | (go_at_call 35; refine (plain_pan _ (by have := HS.out; simp; omega) H.out).mono ?_; rintro e w' ⟨rfl, m, rfl⟩) | (go_at_call 26; refine (copysign_neg _ _).mono ?_; rintro e w' ⟨rfl, rfl⟩))
  exact ⟨rfl, rfl, m, rfl⟩
theorem number_ret {s : ByteArray} {b : Nat} (w : World) (hs : s.size ≤ maxLen) (h0 : (s.toList == [110, 97, 110]) = false) (h1 : (s.toList == [105, 110, 102]) = false) (h2 : (s.toList == [45, 105, 110, 102]) = false) (h3 : 0 < s.size) (h4 : ((s[0].toNat : Int) == 45) = false) (h : plainF s.data.toList = some (some b)) : Calls Try.prog 29 #[.string s] w fun e w' => e = .returned (.float .f64 b) ∧ ∃ m, w' = w.drewN m := by
  have HS := Lib.hid hs; clear hs
  have H := Lib.hid h; clear h
  go_enter Try.func29, Try.ntmps29
  go_wp2_with (first | (go_at_call 35; refine (plain_ret _ HS.out H.out).mono ?_; rintro e w' ⟨rfl, m, rfl⟩) | (go_at_call 26; refine (copysign_neg _ _).mono ?_; rintro e w' ⟨rfl, rfl⟩))
  go_ret
  exact ⟨rfl, m, rfl⟩
theorem number_pan {s : ByteArray} (w : World) (hs : s.size ≤ maxLen) (h0 : (s.toList == [110, 97, 110]) = false) (h1 : (s.toList == [105, 110, 102]) = false) (h2 : (s.toList == [45, 105, 110, 102]) = false) (h3 : 0 < s.size) (h4 : ((s[0].toNat : Int) == 45) = false) (h : plainF s.data.toList = none) : Calls Try.prog 29 #[.string s] w fun e w' => e = .panicked refusal ∧ ∃ m, w' = w.drewN m := by
  have HS := Lib.hid hs; clear hs
  have H := Lib.hid h; clear h
  go_enter Try.func29, Try.ntmps29
  go_wp2_with (first | (go_at_call 35; refine (plain_pan _ HS.out H.out).mono ?_; rintro e w' ⟨rfl, m, rfl⟩) | (go_at_call 26; refine (copysign_neg _ _).mono ?_; rintro e w' ⟨rfl, rfl⟩))
  exact ⟨rfl, rfl, m, rfl⟩
theorem number_empty {s : ByteArray} (w : World) (hs : s.size ≤ maxLen) (h0 : (s.toList == [110, 97, 110]) = false) (h1 : (s.toList == [105, 110, 102]) = false) (h2 : (s.toList == [45, 105, 110, 102]) = false) (h3 : ¬ 0 < s.size) (h : plainF s.data.toList = none) : Calls Try.prog 29 #[.string s] w fun e w' => e = .panicked refusal ∧ ∃ m, w' = w.drewN m := by
  have HS := Lib.hid hs; clear hs
  have H := Lib.hid h; clear h
  go_enter Try.func29, Try.ntmps29
  go_wp2_with (first | (go_at_call 35; refine (plain_pan _ HS.out H.out).mono ?_; rintro e w' ⟨rfl, m, rfl⟩) | (go_at_call 26; refine (copysign_neg _ _).mono ?_; rintro e w' ⟨rfl, rfl⟩))
  exact ⟨rfl, rfl, m, rfl⟩
theorem number_any (s : ByteArray) (w : World) (hs : s.size ≤ maxLen) (hb : numberF s.data.toList ≠ some none) : Calls Try.prog 29 #[.string s] w (PlainPost (numberF s.data.toList) w) := by
  have e := ba_toList s
  unfold numberF at hb ⊢
  by_cases h0 : s.data.toList = [110, 97, 110]
  · rw [if_pos h0]; exact (number_nan w (by rw [e, h0]; rfl)).mono fun e w' ⟨h1, h2⟩ => ⟨h2, h1⟩
  rw [if_neg h0] at hb ⊢
  have g0 : (s.toList == [110, 97, 110]) = false := by rw [e]; simpa using h0
  by_cases h1 : s.data.toList = [105, 110, 102]
  · rw [if_pos h1]; exact (number_inf w g0 (by rw [e, h1]; rfl)).mono fun e w' ⟨h1, h2⟩ => ⟨h2, h1⟩
  rw [if_neg h1] at hb ⊢
  have g1 : (s.toList == [105, 110, 102]) = false := by rw [e]; simpa using h1
  by_cases h2 : s.data.toList = [45, 105, 110, 102]
  · rw [if_pos h2]; exact (number_neginf w g0 g1 (by rw [e, h2]; rfl)).mono fun e w' ⟨h1, h2⟩ => ⟨h2, h1⟩
  rw [if_neg h2] at hb ⊢
  have g2 : (s.toList == [45, 105, 110, 102]) = false := by rw [e]; simpa using h2
  cases hl : s.data.toList with
  | nil =>
    rw [hl] at hb
    simp only at hb ⊢
    exact (number_empty w hs g0 g1 g2 (by rw [ba_nil hl]; decide) (by rw [hl]; rfl)).mono fun e w' ⟨h1, h2⟩ => ⟨h2, h1⟩
  | cons c t =>
    rw [hl] at hb
    simp only at hb ⊢
    obtain ⟨k1, k2, k3⟩ := ba_cons hl
    have k4 : 0 < s.size := by omega
    by_cases hc : c = 45
    · rw [if_pos hc] at hb ⊢
      have g3 : ((s[0].toNat : Int) == 45) = true := by rw [k2 k4, hc]; rfl
      cases hp : plainF t with
      | none => exact (number_minus_pan w hs g0 g1 g2 k4 g3 (by rw [k3]; exact hp)).mono fun e w' ⟨h1, h2⟩ => ⟨h2, h1⟩
      | some x =>
        cases x with
        | none => rw [hp] at hb; exact absurd rfl hb
        | some b => exact (number_minus_ret w hs g0 g1 g2 k4 g3 (by rw [k3]; exact hp)).mono fun e w' ⟨h1, h2⟩ => ⟨h2, h1⟩
    · rw [if_neg hc] at hb ⊢
      have g3 : ((s[0].toNat : Int) == 45) = false := by
        rw [k2 k4]
        have : c.toNat ≠ 45 := fun e => hc (UInt8.toNat_inj.1 (by rw [e]; rfl))
        simp
        omega
      cases hp : plainF (c :: t) with
      | none => exact (number_pan w hs g0 g1 g2 k4 g3 (by rw [hl]; exact hp)).mono fun e w' ⟨h1, h2⟩ => ⟨h2, h1⟩
      | some x =>
        cases x with
        | none => rw [hp] at hb; exact absurd rfl hb
        | some b => exact (number_ret w hs g0 g1 g2 k4 g3 (by rw [hl]; exact hp)).mono fun e w' ⟨h1, h2⟩ => ⟨h2, h1⟩
end Go.Proofs.Ythapdljociabjaa
set_option linter.all false
namespace Go.Proofs.Ythapdljociabjaa
open Go.RowKit
open Go.Pi (isDig digF plainF copyNeg numberF)

theorem store_float (a : Addr) (b : Nat) (w : World) : (store a (.float .f64 b)).run Try.prog w = stored Try.prog w a (.float .f64 b) .plain := run_store Try.prog w a _ .plain rfl
theorem ta_run (w : World) : (Instr.typeAssert (.iface 46 (.agg #[])) 20 46 true).run Try.prog w = .ok (.tuple #[.agg #[], .bool true]) w := by kernel_rfl
theorem ta_nil (w : World) : (Instr.typeAssert .nilIface 20 46 true).run Try.prog w = .ok (.tuple #[.agg #[], .bool false]) w := by kernel_rfl
set_option maxHeartbeats 1000000 in
theorem catch_pan (B : Nat) (x y : Value) (w : World) (hB : B + 1 < w.heap.size) (hc : w.cell? ⟨B, 0, none⟩ = some x) (hz : w.frozen? ⟨B, 0, none⟩ = false) (hc2 : w.cell? ⟨B + 1, 0, none⟩ = some y) (hz2 : w.frozen? ⟨B + 1, 0, none⟩ = false) :
    CallsD Try.prog 28 #[.pointer (some ⟨B, 0, none⟩), .pointer (some ⟨B + 1, 0, none⟩)] (.panicking refusal) w fun e u' w' =>
      e = .returned (.tuple #[]) ∧ u' = .panicking [{ v := .iface 46 (.agg #[]), recovered := true }] ∧ w' = ((w.alloc (.cells #[] 46)).setCell ⟨B, 0, none⟩ (.float .f64 0)).setCell ⟨B + 1, 0, none⟩ (.int .i64 2) := by
  have hta := ta_run
  obtain ⟨W1, hW⟩ : ∃ W1, W1 = w.alloc (.cells #[] 46) := ⟨_, rfl⟩
  have k1 : W1.cell? ⟨B, 0, none⟩ = some x := by rw [hW, World.cell?_alloc_past _ _ _ (by omega)]; exact hc
  have k2 : W1.cell? ⟨B + 1, 0, none⟩ = some y := by rw [hW, World.cell?_alloc_past _ _ _ (by omega)]; exact hc2
  have k3 : W1.frozen? ⟨B, 0, none⟩ = false := by rw [hW, World.frozen?_alloc_past _ _ _ (by omega)]; exact hz
  have k4 : W1.frozen? ⟨B + 1, 0, none⟩ = false := by rw [hW, World.frozen?_alloc_past _ _ _ (by omega)]; exact hz2
  have k5 : (W1.setCell ⟨B, 0, none⟩ (.float .f64 0)).cell? ⟨B + 1, 0, none⟩ = some y := by rw [World.cell?_setCell_far _ _ _ _ (by simp)]; exact k2
  have s1 : (store ⟨B, 0, none⟩ (.float .f64 0)).run Try.prog W1 = .ok () (W1.setCell ⟨B, 0, none⟩ (.float .f64 0)) := by rw [store_float]; simp [go_sem, k1, k3]
  have s2 : (store ⟨B + 1, 0, none⟩ (.int .i64 2)).run Try.prog (W1.setCell ⟨B, 0, none⟩ (.float .f64 0)) = .ok () ((W1.setCell ⟨B, 0, none⟩ (.float .f64 0)).setCell ⟨B + 1, 0, none⟩ (.int .i64 2)) := by simp [go_sem, k5, k4]
  rw [← hW]
  refine callsD_of_wpS Try.func28 rfl fun c₀ cs hu => ?_
  apply wpS_seq
  apply wpS_region
  simp [wpOpsS, go_sem, recoverD, hu, refusal, Try.ntmps28, Exit.thenS, hta, storeCells]
  rw [← hW]
  apply wpS_seq
  apply wpS_region
  simp [wpOpsS, go_sem, recoverD, Try.ntmps28, Exit.thenS]
  refine wpS_cond (t := true) (by simp [Act.eval, Array.replicate]) ?_
  simp only [if_true]
  apply wpS_region
  simp [wpOpsS, go_sem, s1, k4, k5, bodyPostS, results, Try.results28]
theorem catch_idle (a b : Addr) (w : World) :
    CallsD Try.prog 28 #[.pointer (some a), .pointer (some b)] .returning w fun e u' w' => e = .returned (.tuple #[]) ∧ u' = .returning ∧ w' = w.alloc (.cells #[] 46) := by
  have hta := ta_nil
  refine callsD_of_wpS Try.func28 rfl fun c₀ cs hu => ?_
  apply wpS_seq
  apply wpS_region
  simp [wpOpsS, go_sem, recoverD, hu, refusal, Try.ntmps28, Exit.thenS, hta, storeCells]
  apply wpS_seq
  apply wpS_region
  simp [wpOpsS, go_sem, recoverD, Try.ntmps28, Exit.thenS]
  refine wpS_cond (t := false) (by simp [Act.eval, Array.replicate]) ?_
  simp only [Bool.false_eq_true, if_false]
  refine wpS_of_wp (wp_skip ?_)
  cases c₀
  simp_all [bodyPostS, results, Try.results28]
end Go.Proofs.Ythapdljociabjaa
set_option linter.all false
namespace Go.Proofs.Ythapdljociabjaa
open Go.RowKit
open Go.Pi (isDig digF plainF copyNeg numberF)

/-- What was there is as it was. -/
structure Old (B : Nat) (w w' : World) : Prop where
  size : w.heap.size ≤ w'.heap.size
  heap : ∀ b, b < B → w'.heap[b]? = w.heap[b]?
  os : w'.os = w.os
  tape : w'.tape = w.tape
  output : w'.output = w.output
theorem Old.refl (B : Nat) (w : World) : Old B w w := ⟨Nat.le_refl _, fun _ _ => rfl, rfl, rfl, rfl⟩
theorem Old.alloc {B : Nat} {w w' : World} (h : Old B w w') (hB : B ≤ w.heap.size) (o : Obj) : Old B w (w'.alloc o) := by
  refine ⟨by have := h.size; simp; omega, fun b hb => ?_, h.os, h.tape, h.output⟩
  rw [← h.heap b hb]
  show (w'.heap.push o)[b]? = _
  rw [Array.getElem?_push, if_neg (by have := h.size; omega)]
theorem Old.drewN {B : Nat} {w w' : World} (h : Old B w w') (m : Nat) : Old B w (w'.drewN m) := ⟨h.size, h.heap, h.os, h.tape, h.output⟩
theorem Old.setCell {B : Nat} {w w' : World} (h : Old B w w') {a : Addr} (ha : B ≤ a.block) (v : Value) : Old B w (w'.setCell a v) := by
  refine ⟨by simpa using h.size, fun b hb => ?_, h.os, h.tape, h.output⟩
  rw [← h.heap b hb]
  simp only [World.setCell]
  rw [Array.getElem?_modify, if_neg (by omega)]

theorem number_ok {s : ByteArray} {b : Nat} (w : World) (hs : s.size ≤ maxLen) (h : numberF s.data.toList = some (some b)) : Calls Try.prog 29 #[.string s] w fun e w' => e = .returned (.float .f64 b) ∧ ∃ m, w' = w.drewN m :=
  (number_any s w hs (by rw [h]; simp)).mono fun e w' hp => by unfold PlainPost at hp; rw [h] at hp; exact ⟨hp.2, hp.1⟩
theorem number_no {s : ByteArray} (w : World) (hs : s.size ≤ maxLen) (h : numberF s.data.toList = none) : Calls Try.prog 29 #[.string s] w fun e w' => e = .panicked refusal ∧ ∃ m, w' = w.drewN m :=
  (number_any s w hs (by rw [h]; simp)).mono fun e w' hp => by unfold PlainPost at hp; rw [h] at hp; exact ⟨hp.2, hp.1⟩
theorem res_run {B : Nat} {T : Array Value} {W : World} {x : Nat} {y : Int} (h2 : T[2]? = some (.pointer (some ⟨B, 0, none⟩))) (h3 : T[3]? = some (.pointer (some ⟨B + 1, 0, none⟩)))
    (c1 : W.cell? ⟨B, 0, none⟩ = some (.float .f64 x)) (c2 : W.cell? ⟨B + 1, 0, none⟩ = some (.int .i64 y)) : (results Try.f13 T).run Try.prog W = .ok (.tuple #[.float .f64 x, .int .i64 y]) W := by
  simp [results, Try.results13, go_sem, h2, h3, c1, c2]
set_option maxHeartbeats 1000000 in
theorem parse_ok {s : ByteArray} {b : Nat} (w : World) (hs : s.size ≤ maxLen) (h : numberF s.data.toList = some (some b)) :
    Calls Try.prog 13 #[.string s] w fun e w' => e = .returned (.tuple #[.float .f64 b, .int .i64 0]) ∧ Old w.heap.size w w' := by
  have HS := Lib.hid hs; clear hs
  have H := Lib.hid h; clear h
  have hmf : ∀ (fn : Fn) (first cap : Array Value) (w : World), (Instr.makeFunc fn first cap).run Try.prog w = .ok (.func fn first cap) w := fun _ _ _ _ => rfl
  have hst := store_float
  go_enter_defers Try.func13, Try.ntmps13
  go_wp2_with (go_at_call 29; refine (number_ok _ HS.out H.out).mono ?_; rintro e w' ⟨rfl, m, rfl⟩)
  obtain ⟨W2, hW2⟩ : ∃ W2, W2 = (((((w.alloc (Obj.cells #[Value.float FloatKind.f64 0] 23)).alloc (Obj.cells #[Value.int IntKind.i64 0] 24)).drewN m).setCell ⟨w.heap.size, 0, none⟩ (.float .f64 b)).setCell ⟨w.heap.size + 1, 0, none⟩ (.int .i64 0)) := ⟨_, rfl⟩
  have c1 : W2.cell? ⟨w.heap.size, 0, none⟩ = some (.float .f64 b) := by
    rw [hW2, World.cell?_setCell_far _ _ _ _ (by simp)]
    refine World.cell?_setCell_same' _ _ _ ?_
    simp [go_sem]
  have c2 : W2.cell? ⟨w.heap.size + 1, 0, none⟩ = some (.int .i64 0) := by
    rw [hW2]
    refine World.cell?_setCell_same' _ _ _ ?_
    rw [World.cell?_setCell_far _ _ _ _ (by simp)]
    simp [go_sem]
  have ho : Old w.heap.size w W2 := by
    rw [hW2]
    exact ((((((Old.refl _ w).alloc (Nat.le_refl _) _).alloc (Nat.le_refl _) _).drewN m).setCell (Nat.le_refl _) _).setCell (by simp) _)
  have hz : w.heap.size + 2 ≤ W2.heap.size := by rw [hW2]; simp
  rw [← hW2]
  clear hW2
  refine leaves_cons (f := 28) (args := #[.pointer (some ⟨w.heap.size, 0, none⟩), .pointer (some ⟨w.heap.size + 1, 0, none⟩)]) (by simp) (by simp [go_sem]) ?_
  refine (catch_idle _ _ _).mono ?_
  rintro e u' w'' ⟨rfl, rfl, rfl⟩
  refine ⟨_, res_run (B := w.heap.size) (x := b) (y := 0) rfl rfl ?_ ?_, rfl, ho.alloc (Nat.le_refl _) _⟩
  · rw [World.cell?_alloc_past _ _ _ (by omega)]; exact c1
  · rw [World.cell?_alloc_past _ _ _ (by omega)]; exact c2
set_option maxHeartbeats 1000000 in
theorem parse_no {s : ByteArray} (w : World) (hs : s.size ≤ maxLen) (h : numberF s.data.toList = none) :
    Calls Try.prog 13 #[.string s] w fun e w' => e = .returned (.tuple #[.float .f64 0, .int .i64 2]) ∧ Old w.heap.size w w' := by
  have HS := Lib.hid hs; clear hs
  have H := Lib.hid h; clear h
  have hmf : ∀ (fn : Fn) (first cap : Array Value) (w : World), (Instr.makeFunc fn first cap).run Try.prog w = .ok (.func fn first cap) w := fun _ _ _ _ => rfl
  have hst := store_float
  go_enter_defers Try.func13, Try.ntmps13
  go_wp2_with (go_at_call 29; refine (number_no _ HS.out H.out).mono ?_; rintro e w' ⟨rfl, m, rfl⟩)
  obtain ⟨W2, hW2⟩ : ∃ W2, W2 = (((w.alloc (Obj.cells #[Value.float FloatKind.f64 0] 23)).alloc (Obj.cells #[Value.int IntKind.i64 0] 24)).drewN m) := ⟨_, rfl⟩
  have c1 : W2.cell? ⟨w.heap.size, 0, none⟩ = some (.float .f64 0) := by rw [hW2]; simp [go_sem]
  have c2 : W2.cell? ⟨w.heap.size + 1, 0, none⟩ = some (.int .i64 0) := by rw [hW2]; simp [go_sem]
  have f1 : W2.frozen? ⟨w.heap.size, 0, none⟩ = false := by rw [hW2]; simp [go_sem]
  have f2 : W2.frozen? ⟨w.heap.size + 1, 0, none⟩ = false := by rw [hW2]; simp [go_sem]
  have ho : Old w.heap.size w W2 := by
    rw [hW2]
    exact ((((Old.refl _ w).alloc (Nat.le_refl _) _).alloc (Nat.le_refl _) _).drewN m)
  have hz : w.heap.size + 2 ≤ W2.heap.size := by rw [hW2]; simp
  rw [← hW2]
  clear hW2
  refine leaves_cons (f := 28) (args := #[.pointer (some ⟨w.heap.size, 0, none⟩), .pointer (some ⟨w.heap.size + 1, 0, none⟩)]) (by simp) (by simp [go_sem]) ?_
  refine (catch_pan w.heap.size _ _ _ (by omega) c1 f1 c2 f2).mono ?_
  rintro e u' w'' ⟨rfl, rfl, rfl⟩
  refine ⟨_, res_run (B := w.heap.size) (x := 0) (y := 2) rfl rfl ?_ ?_, rfl, ((ho.alloc (Nat.le_refl _) _).setCell (Nat.le_refl _) _).setCell (by simp) _⟩
  · rw [World.cell?_setCell_far _ _ _ _ (by simp)]
    refine World.cell?_setCell_same' _ _ _ ?_
    rw [World.cell?_alloc_past _ _ _ (by omega), c1]; rfl
  · refine World.cell?_setCell_same' _ _ _ ?_
    rw [World.cell?_setCell_far _ _ _ _ (by simp), World.cell?_alloc_past _ _ _ (by omega), c2]; rfl
end Go.Proofs.Ythapdljociabjaa
set_option linter.all false
namespace Go.Proofs.Ythapdljociabjaa
open Go.RowKit Go.Pi

theorem inv_old {fm : Nat → Nat} {B : Base} {w w' : World} {G : Gh} {H : Heap} (hI : Inv fm B w G H) (h : Old w.heap.size w w') : Adv B w G H w' G H ∧ Inv fm B w' G H := by
  have ha : Adv B w G H w' G H := adv_mk (gle_refl _) h.size (fun b hb _ => h.heap b hb) (fun b h => .inl h)
  refine ⟨ha, inv_mk hI h.size h.os h.tape h.output (fun b hb _ => h.heap b hb) (fun id sz es lv hh => ?_) hI.fresh hI.dead hI.inj⟩
  obtain ⟨b', cap', a1, a2, a3⟩ := hI.rows id sz es lv hh
  exact ⟨b', cap', a1, a2, a3.mono (fun v d hv => ha.rep hv) (h.heap _ a3.lt)⟩
theorem parse_orc {fm : Nat → Nat} {f : Nat} (hf : fm f = 13) : OrcOk Try.prog fm f parseG := by
  intro args d hg B w G H vs hI hlen hargs
  rw [hf]
  match args, hg with
  | [.str s], hg =>
    simp only [parseG] at hg
    split at hg
    · rename_i hs
      obtain ⟨v, rfl⟩ : ∃ v, vs = [v] := by
        match vs, hlen with
        | [v], _ => exact ⟨v, rfl⟩
      have hv := (hargs 0 v (.str s) rfl rfl).inv_str
      subst hv
      obtain ⟨p, hp, rfl⟩ := Option.map_eq_some_iff.1 hg
      have hsz : (⟨s.toArray⟩ : ByteArray).size ≤ maxLen := hs
      have hd : (⟨s.toArray⟩ : ByteArray).data.toList = s := rfl
      have hfl : ∃ b, p.1 = some b := by
        unfold parseF at hp
        split at hp
        · cases hp; exact ⟨_, rfl⟩
        · cases hp; exact ⟨_, rfl⟩
        · cases hp
      obtain ⟨pb, hpb⟩ := hfl
      have key : Calls Try.prog 13 #[.string ⟨s.toArray⟩] w fun e w' => e = .returned (.tuple #[.float .f64 pb, .int .i64 p.2]) ∧ Old w.heap.size w w' := by
        unfold parseF at hp
        cases hn : numberF s with
        | none => rw [hn] at hp; cases hp; cases hpb; exact parse_no w hsz hn
        | some x =>
          cases x with
          | none => rw [hn] at hp; cases hp
          | some b => rw [hn] at hp; cases hp; cases hpb; exact parse_ok w hsz hn
      have hpb2 : FlB p.1 pb := by rw [hpb]; rfl
      refine key.mono ?_
      rintro e w' ⟨rfl, ho⟩
      obtain ⟨h1, h2⟩ := inv_old hI ho
      refine ⟨_, G, rfl, h1, h2, .tup _ [.float .f64 pb, .int .i64 p.2] rfl ?_⟩
      intro j d v h3 h4
      rcases j with _ | _ | j
      · simp at h3 h4; subst h3; subst h4; exact .closed (.flt _ _ hpb2)
      · simp at h3 h4; subst h3; subst h4; exact .closed (.int _ _)
      · simp at h3
    · cases hg
end Go.Proofs.Ythapdljociabjaa
