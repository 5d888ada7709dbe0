import Derived.Test.YtakonddhaabobaaSlA
import Derived.Test.YtakonddhaabobaaLO
set_option linter.all false
namespace Go.Pi
set_option linter.unusedVariables false
def g17_1 (k : Nat) : LB ((List Int) × (List SetT) × Int × Int × Unit) (Unit ⊕ (Bool × Unit)) := fun (v0, v1, v2, v3, _) =>
 (bif decide (v3 < v2) then
  (at? v1 v3).bind fun v4 =>
  (at? v0 v3).bind fun v5 =>
  (F23 k (v4, v5, ())).bind fun (v6, _) =>
  (bif (!v6) then
   some (.inr (.inr (false, ())))
  else
   some (.inl (v0, v1, v2, (w64 (v3 + (1 : Int))), ())))
 else
  some (.inr (.inl ())))
def g17 (k : Nat) (a0 : (List SetT)) (a1 : (List Int)) : (Option (Bool × Unit)) :=
 (iter k (g17_1 k) (a1, a0, (a0.length : Int), (0 : Int), ())).bind fun
 | .inl _ => some (true, ())
 | .inr (v7, _) => some (v7, ())
theorem F17_g (k : Nat) (a0 : (List SetT)) (a1 : (List Int)) : F17 k (a0, a1, ()) = g17 k a0 a1 := by kernel_rfl
def g6 (k : Nat) (a0 : GrT) (a1 : (List Int)) (a2 : Int) : (Option (Bool × Unit)) :=
 ((bif decide (a2 ≥ (a0.2.2.2.2.1.length : Int)) then
   (bif decide (a2 ≤ (w64 ((a1.length : Int) - (a0.2.2.2.2.2.1.length : Int)))) then
    (hi? (List.length a1) (w64 (a2 - (a0.2.2.2.2.1.length : Int)))).bind fun v0 =>
    (F17 k (a0.2.2.2.2.1, (slC (Option.some (w64 (a2 - (a0.2.2.2.2.1.length : Int)))) (Option.none) v0 (List.length a1) a1), ())).bind fun (v1, _) =>
    (bif v1 then
     (hi? (List.length a1) a2).bind fun v2 =>
     (F17 k (a0.2.2.2.2.2.1, (slC (Option.some a2) (Option.none) v2 (List.length a1) a1), ())).bind fun (v3, _) =>
     some (v3, ())
    else
     some (false, ()))
   else
    some (false, ()))
  else
   some (false, ()))).bind fun (v4, _) =>
 some (v4, ())
theorem F6_g (k : Nat) (a0 : GrT) (a1 : (List Int)) (a2 : Int) : F6 k (a0, a1, a2, ()) = g6 k a0 a1 a2 := by kernel_rfl
def g9_1 (k : Nat) : LB ((List Int) × Int × Int × GrT × (List Int) × Unit) ((List Int) × Unit) := fun (v0, v1, v2, v3, v4, _) =>
 (bif decide (v2 < v1) then
  (F6 k (v3, v0, v2, ())).bind fun (v5, _) =>
  ((bif v5 then
    room ((List.length v4) + (List.length ([v2] : List Int))) 8 (some (v0, v1, v2, v3, (v4 ++ ([v2] : List Int)), ()))
   else
    some (v0, v1, v2, v3, v4, ()))).bind fun (v6, v7, v8, v9, v10, _) =>
  some (.inl (v6, v7, (w64 (v8 + (1 : Int))), v9, v10, ()))
 else
  some (.inr (v4, ())))
def g9 (k : Nat) (a0 : GrT) (a1 : (List Int)) : (Option ((List Int) × Unit)) :=
 (iter k (g9_1 k) (a1, (w64 ((a1.length : Int) + (1 : Int))), (0 : Int), a0, ([] : List Int), ())).bind fun (v11, _) =>
 some (v11, ())
theorem F9_g (k : Nat) (a0 : GrT) (a1 : (List Int)) : F9 k (a0, a1, ()) = g9 k a0 a1 := by kernel_rfl
def g8_1 (k : Nat) : LB ((List Int) × PkT) (Unit ⊕ (Bool × Unit)) := fun (v0, v1, v2, _) =>
 (bif decide (v2 < (v0.length : Int)) then
  (at? v0 v2).bind fun v3 =>
  (at? v1 v2).bind fun v4 =>
  (bif (v3 != v4) then
   some (.inr (.inr (false, ())))
  else
   some (.inl (v0, v1, (w64 (v2 + (1 : Int))), ())))
 else
  some (.inr (.inl ())))
def g8 (k : Nat) (a0 : (List Int)) (a1 : (List Int)) : (Option (Bool × Unit)) :=
 (bif ((a0.length : Int) != (a1.length : Int)) then
  some (false, ())
 else
  (iter k (g8_1 k) (a0, a1, (0 : Int), ())).bind fun
  | .inl _ => some (true, ())
  | .inr (v5, _) => some (v5, ()))
theorem F8_g (k : Nat) (a0 : (List Int)) (a1 : (List Int)) : F8 k (a0, a1, ()) = g8 k a0 a1 := by kernel_rfl
def g110_1 (k : Nat) : LB ((List Int) × Int × (List Int) × (List Int) × Unit) ((List Int) × (List Int) × (List Int) × Unit) := fun (v1, v2, v3, v4, _) =>
 (bif decide (v2 < (v1.length : Int)) then
  (at? v1 v2).bind fun v5 =>
  ((bif (v5 == (10 : Int)) then
    room ((List.length v3) + (List.length ([(w64 (v2 + (1 : Int)))] : List Int))) 8 (room ((List.length v4) + (List.length ([v2] : List Int))) 8 (some (v1, v2, (v3 ++ ([(w64 (v2 + (1 : Int)))] : List Int)), (v4 ++ ([v2] : List Int)), ())))
   else
    some (v1, v2, v3, v4, ()))).bind fun (v6, v7, v8, v9, _) =>
  some (.inl (v6, (w64 (v7 + (1 : Int))), v8, v9, ()))
 else
  some (.inr (v1, v3, v4, ())))
def g110 (k : Nat) (a0 : (List Int)) : (Option (Bool × Unit)) :=
 (F3 ()).bind fun (v0, _) =>
 (bif (!v0) then
  some (false, ())
 else
  (bif decide ((a0.length : Int) > (40 : Int)) then
   some (true, ())
  else
   (iter k (g110_1 k) (a0, (0 : Int), ([] : List Int), ([] : List Int), ())).bind fun (v10, v11, v12, _) =>
   ((F12 ((0 : Int), ())).bind fun (v13, _) =>
    (F9 k (v13, v10, ())).bind fun (v14, _) =>
    (F8 k (v14, v11, ())).bind fun (v15, _) =>
    (bif v15 then
     (F12 ((1 : Int), ())).bind fun (v16, _) =>
     (F9 k (v16, v10, ())).bind fun (v17, _) =>
     (F8 k (v17, v12, ())).bind fun (v18, _) =>
     some (v18, ())
    else
     some (false, ()))).bind fun (v19, _) =>
   some (v19, ())))
theorem F110_g (k : Nat) (a0 : (List Int)) : F110 k (a0, ()) = g110 k a0 := by kernel_rfl
end Go.Pi

