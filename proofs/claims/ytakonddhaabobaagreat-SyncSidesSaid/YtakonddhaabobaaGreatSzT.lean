import Derived.Test.YtakonddhaabobaaGreatKX
set_option linter.all false
namespace Go.Pi
abbrev SetT := {l : List Int // l.length = 4}
inductive RxT where
 | mk (k : Int) (s : SetT) (a : List RxT)
def RxT.k : RxT → Int
 | .mk k _ _ => k
def RxT.s : RxT → SetT
 | .mk _ s _ => s
def RxT.a : RxT → List RxT
 | .mk _ _ a => a
mutual
def RxT.D : RxT → List D
 | .mk k s a => .int .i64 k :: (s.1.map (fun n => D.int .u64 n) ++ [.lst 6 (RxT.Ds a)])
def RxT.Ds : List RxT → List (List Go.Pi.D)
 | [] => []
 | x :: xs => x.D :: RxT.Ds xs
end
theorem RxT.Ds_map : ∀ l : List RxT, RxT.Ds l = l.map RxT.D
 | [] => rfl
 | x :: xs => by simp only [RxT.Ds, List.map, RxT.Ds_map xs]
abbrev TokT := List UInt8 × RxT × Bool × Unit
abbrev ScT := List UInt8 × List UInt8 × Unit
abbrev RuT := Int × List Int × Int × Unit
abbrev GrT := List TokT × List (List UInt8) × List ScT × List RuT × List SetT × List SetT × Int × Unit
abbrev PkT := List Int × Int × Unit
@[reducible] def SyS : Nat → Type
 | 0 => RxT
 | 1 => TokT
 | 2 => ScT
 | 3 => RuT
 | 4 => GrT
 | 5 => PkT
 | _ => Unit
def syW : Nat → Nat
 | 0 => 6
 | 1 => 8
 | 2 => 2
 | 3 => 3
 | 4 => 7
 | 5 => 2
 | _ => 0
@[reducible] def syF : Nat → List Code
 | 0 => [.int .i64, .arr 4 .u64, .list (.st 0)]
 | 1 => [.str, .st 0, .bool]
 | 2 => [.str, .str]
 | 3 => [.int .i64, .list (.int .i64), .int .i64]
 | 4 => [.list (.st 1), .list .str, .list (.st 2), .list (.st 3), .list (.arr 4 .u64), .list (.arr 4 .u64), .int .i64]
 | 5 => [.list (.int .u8), .int .i64]
 | _ => []
def syI (n : Int) : List D := [.int .i64 n]
def tokD (v : TokT) : List D := .str v.1 :: (v.2.1.D ++ [.bool v.2.2.1])
def scD2 (v : ScT) : List D := [.str v.1, .str v.2.1]
def ruD (v : RuT) : List D := [.int .i64 v.1, .lst 1 (v.2.1.map syI), .int .i64 v.2.2.1]
def setD (s : SetT) : List D := s.1.map fun n => D.int .u64 n
def syD : ∀ i, SyS i → List D
 | 0, v => RxT.D v
 | 1, v => tokD v
 | 2, v => scD2 v
 | 3, v => ruD v
 | 4, v => [.lst 8 (v.1.map tokD), .lst 1 (v.2.1.map fun s => [.str s]), .lst 2 (v.2.2.1.map scD2), .lst 3 (v.2.2.2.1.map ruD), .lst 4 (v.2.2.2.2.1.map setD), .lst 4 (v.2.2.2.2.2.1.map setD), .int .i64 v.2.2.2.2.2.2.1]
 | 5, v => [.lst 1 (v.1.map fun n => [D.int .u8 n]), .int .i64 v.2.1]
 | _ + 6, _ => []
def sySplit : ∀ i, SyS i → Flds SyS (syF i)
 | 0, v => (v.k, v.s, v.a, ())
 | 1, v => v
 | 2, v => v
 | 3, v => v
 | 4, v => v
 | 5, v => v
 | _ + 6, _ => ()
def syJoin : ∀ i, Flds SyS (syF i) → SyS i
 | 0, p => .mk p.1 p.2.1 p.2.2.1
 | 1, v => v
 | 2, v => v
 | 3, v => v
 | 4, v => v
 | 5, v => v
 | _ + 6, _ => ()
theorem RxT.len (v : RxT) : v.D.length = 6 := by
 obtain ⟨k, s, a⟩ := v
 simp [RxT.D, s.2]
theorem RxT.cell (v : RxT) : ∀ d ∈ v.D, cellD d = true := by
 obtain ⟨k, s, a⟩ := v
 intro d hd
 simp only [RxT.D, List.mem_cons, List.mem_append, List.mem_map, List.not_mem_nil, or_false] at hd
 rcases hd with rfl | ⟨_, _, rfl⟩ | rfl <;> rfl
instance : Sig SyS where
 wd := syW
 Dd := syD
 fields := syF
 split := sySplit
 join := syJoin
 sj i f := by
  match i with
  | 0 => rfl
  | 1 => rfl
  | 2 => rfl
  | 3 => rfl
  | 4 => rfl
  | 5 => rfl
  | _ + 6 => rfl
 hD i v := by
  match i, v with
  | 0, .mk k s a => simp only [syD, RxT.D, RxT.Ds_map, syF, sySplit, encF, encs, wid, syW, List.cons_append, List.nil_append, List.append_nil]; rfl
  | 1, v => rfl
  | 2, v => rfl
  | 3, v => rfl
  | 4, v => rfl
  | 5, v => rfl
  | _ + 6, _ => rfl
 hw i := by
  match i with
  | 0 => rfl
  | 1 => rfl
  | 2 => rfl
  | 3 => rfl
  | 4 => rfl
  | 5 => rfl
  | _ + 6 => rfl
 hl i v := by
  match i, v with
  | 0, v => exact RxT.len v
  | 1, v => simp [syD, tokD, RxT.len, syW]
  | 2, v => rfl
  | 3, v => rfl
  | 4, v => rfl
  | 5, v => rfl
  | _ + 6, _ => rfl
 hc i v := by
  match i, v with
  | 0, v => exact RxT.cell v
  | 1, v =>
   intro d hd
   simp only [syD, tokD, List.mem_cons, List.mem_append, List.not_mem_nil, or_false] at hd
   rcases hd with rfl | h | rfl
   ·rfl
   ·exact RxT.cell _ d h
   ·rfl
  | 2, v => intro d hd; simp [syD, scD2] at hd; rcases hd with rfl | rfl <;> rfl
  | 3, v => intro d hd; simp [syD, ruD] at hd; rcases hd with rfl | rfl | rfl <;> rfl
  | 4, v => intro d hd; simp [syD] at hd; rcases hd with rfl | rfl | rfl | rfl | rfl | rfl | rfl <;> rfl
  | 5, v => intro d hd; simp [syD] at hd; rcases hd with rfl | rfl <;> rfl
  | _ + 6, _ => intro d hd; cases hd
end Go.Pi

