import Derived.Test.YtnpljffnopmaiaaJM
/-
  WHAT weigh.Parse GIVES, in plain words.
-/
set_option linter.all false
namespace Go.Pi
def lenMax : Nat := 9223372036854775807
def isDig (c : UInt8) : Bool := 48 ≤ c.toNat && c.toNat ≤ 57
/-- Digits read: the number, how many, what is left. -/
def digF : List UInt8 → Nat → Nat → Option (Nat × Nat × List UInt8)
  | [], n, k => if k = 0 then none else some (n, k, [])
  | c :: l, n, k => if isDig c = true then (if 15 < k + 1 then none else digF l (n * 10 + (c.toNat - 48)) (k + 1)) else if k = 0 then none else some (n, k, c :: l)
/-- A text without a sign: refused; or the number (none: there is none). -/
def plainF (s : List UInt8) : Option (Option Nat) :=
  match digF s 0 0 with
  | none => none
  | some (n, _, []) => some (some (FloatKind.f64.nearest (n : Int)))
  | some (n, k, c :: r) => if c = 46 then (match digF r 0 0 with
    | none => none
    | some (m, l, r2) => if r2 = [] ∧ k + l ≤ 15 then some (FloatKind.f64.format.div (FloatKind.f64.nearest ((n * 10 ^ l + m : Nat) : Int)) (FloatKind.f64.nearest ((10 ^ l : Nat) : Int))) else none) else none
/-- A number below nought: the bit of the sign is laid. -/
def copyNeg (b : Nat) : Nat := (ior .u64 (iandn .u64 (b : Int) 9223372036854775808) (iand .u64 13830554455654793216 9223372036854775808)).toNat
def numberF (s : List UInt8) : Option (Option Nat) :=
  if s = [110, 97, 110] then some (some 0x7FF8000000000001) else if s = [105, 110, 102] then some (some 0x7FF0000000000000) else if s = [45, 105, 110, 102] then some (some 0xFFF0000000000000) else
  match s with
  | c :: t => if c = 45 then (plainF t).map (Option.map copyNeg) else plainF (c :: t)
  | [] => plainF []
/-- What weigh.Parse gives: the number and the error. -/
def parseF (s : List UInt8) : Option (Fl × Int) :=
  match numberF s with
  | none => some (some 0, 2)
  | some (some b) => some (some b, 0)
  | some none => none
def parseG : List D → Option D
  | [.str s] => if s.length ≤ lenMax then (parseF s).map fun p => .tup [.flt p.1, .int .i64 p.2] else none
  | _ => none
/-- As it is called. -/
def weigh_Parse (k : Nat) (a0 : List UInt8) : Option (Fl × Int) := if a0.length ≤ lenMax then parseF a0 else none
theorem weigh_Parse_orc {pr : Prog} {f : Nat} {pf : PF} (hf : pr f = some pf) (ho : pf.orc = some parseG) (k : Nat) (a0 : List UInt8) : ∀ r, weigh_Parse k a0 = some r → CallOk pr f [.x (.str a0)] true [.sc (.x (.flt r.1)), .sc (.x (.int .i64 r.2))] := by
  intro r hr
  refine CallOk.orc hf ho fun ds hds => ?_
  match ds, hds with
  | [d], hds =>
    simp only [VRs, VR] at hds
    obtain ⟨rfl, _⟩ := hds
    unfold weigh_Parse at hr
    split at hr
    · rename_i hl
      refine ⟨.tup [.flt r.1, .int .i64 r.2], by simp only [parseG, if_pos hl, hr]; rfl, rfl, [.flt r.1, .int .i64 r.2], rfl, ?_⟩
      exact ⟨⟨rfl, rfl⟩, ⟨rfl, rfl⟩, trivial⟩
    · cases hr
end Go.Pi

