import Derived.Test.YtnpljffnopmaiaaFoFb
/-
  THE FUNCTIONS, as terms over lists.
-/
set_option linter.all false
namespace Go.Pi
set_option maxRecDepth 100000
set_option linter.unusedVariables false
set_option maxHeartbeats 2000000
/-! slices.stableCmpFunc[float64] -/
def slices_stableCmpFunc_l0 (a1 : Int) : Nat → Int → Int → (List Fl) → Option ((List Fl) × Int)
  | 0, _, _, _ => none
  | k + 1, x3, x4, x5 => cond (decide (x4 ≤ a1)) ((slices_insertionSortCmpFunc k x5 x3 x4).bind fun r11 => slices_stableCmpFunc_l0 a1 k x4 (IntKind.i64.wrap (x4 + (20 : Int))) r11) (some (x5, x3))
theorem slices_stableCmpFunc_l0_ok (a1 : Int) (fr : Nat → Option Blk) (o0 : Option Nat) : ∀ (k : Nat) (x3 : Int) (x4 : Int) (x5 : (List Fl)), JC prog fr 63 [(0, .ref o0 0 x5.length), (1, .x (.int .i64 a1)), (2, .x (.fn 26)), (6, .x (.int .i64 (20 : Int))), (7, .x (.int .i64 x3)), (8, .x (.int .i64 x4))] [⟨o0, 1, vl fD x5⟩] (.loop pf30_L0) (slices_stableCmpFunc_l0 a1 k x3 x4 x5) (fun x => GotA 63 fr ((fun v ex E R => ex = (.exit 0) ∧ E = [(0, .ref o0 0 v.1.length), (1, .x (.int .i64 a1)), (2, .x (.fn 26)), (6, .x (.int .i64 (20 : Int))), (7, .x (.int .i64 v.2))] ∧ R = [⟨o0, 1, vl fD v.1⟩]) x)) := by
  intro k
  induction k with
  | zero =>
    intro x3 x4 x5
    exact JC.no
  | succ k ih =>
    intro x3 x4 x5
    rw [slices_stableCmpFunc_l0]
    refine JC.loop ?_
    refine JC.seq ?_
    refine JC.seq ?_
    refine JC.region fun b8 => ?_
    refine JS.run 3 (by kernel_rfl) ?_
    refine JS.nil ?_
    refine JC.to2 [(0, .ref o0 0 x5.length), (1, .x (.int .i64 a1)), (2, .x (.fn 26)), (6, .x (.int .i64 (20 : Int))), (7, .x (.int .i64 x3)), (8, .x (.int .i64 x4)), (13, .x (.bool (decide (x4 ≤ a1))))] [⟨o0, 1, vl fD x5⟩] (by kernel_rfl) (by kernel_rfl) ?_
    refine JC.skipT ?_
    refine JC.cond (e := (decide (x4 ≤ a1))) (by kernel_rfl) (fun h9 => ?_) (fun h9 => ?_)
    · refine JC.skipT ?_
      refine JC.block ?_
      refine JC.seq ?_
      refine JC.region fun b10 => ?_
      refine JS.run 4 (by kernel_rfl) ?_
      refine JS.bind fun r11 h12 => ?_
      refine JS.callI (args := [.x (.int .i64 x3), .x (.int .i64 x4), .x (.fn 26)]) (l := x5) (o := o0) [] (slices_insertionSortCmpFunc_ok k x5 x3 x4 r11 h12) (by kernel_rfl) (by kernel_rfl) (by kernel_rfl) (by kernel_rfl) (fun h13 => ?_)
      refine JS.relen (o := o0) (off := 0) (n := x5.length) (n' := r11.length) 0 (by kernel_rfl) h13.symm ?_
      refine JS.relen (o := o0) (off := 0) (n := x5.length) (n' := r11.length) 14 (by kernel_rfl) h13.symm ?_
      refine JS.nil ?_
      refine JC.to2 [(0, .ref o0 0 r11.length), (1, .x (.int .i64 a1)), (2, .x (.fn 26)), (6, .x (.int .i64 (20 : Int))), (8, .x (.int .i64 x4))] [⟨o0, 1, vl fD r11⟩] (by kernel_rfl) (by kernel_rfl) ?_
      refine JC.skipT ?_
      refine JC.seq ?_
      refine JC.region fun b14 => ?_
      refine JS.run 2 (by kernel_rfl) ?_
      refine JS.nil ?_
      refine JC.to2 [(0, .ref o0 0 r11.length), (1, .x (.int .i64 a1)), (2, .x (.fn 26)), (6, .x (.int .i64 (20 : Int))), (7, .x (.int .i64 x4)), (8, .x (.int .i64 x4))] [⟨o0, 1, vl fD r11⟩] (by kernel_rfl) (by kernel_rfl) ?_
      refine JC.skipT ?_
      refine JC.region fun b15 => ?_
      refine JS.run 4 (by kernel_rfl) ?_
      refine JS.nil ?_
      refine JC.to2 [(0, .ref o0 0 r11.length), (1, .x (.int .i64 a1)), (2, .x (.fn 26)), (6, .x (.int .i64 (20 : Int))), (7, .x (.int .i64 x4)), (8, .x (.int .i64 (IntKind.i64.wrap (x4 + (20 : Int)))))] [⟨o0, 1, vl fD r11⟩] (by kernel_rfl) (by kernel_rfl) ?_
      refine JC.skipB ?_
      refine JC.skipL ?_
      refine JC.to2 [(0, .ref o0 0 r11.length), (1, .x (.int .i64 a1)), (2, .x (.fn 26)), (6, .x (.int .i64 (20 : Int))), (7, .x (.int .i64 x4)), (8, .x (.int .i64 (IntKind.i64.wrap (x4 + (20 : Int)))))] [⟨o0, 1, vl fD r11⟩] (by kernel_rfl) (by kernel_rfl) ?_
      exact ih x4 (IntKind.i64.wrap (x4 + (20 : Int))) r11
    · refine JC.exitT ?_
      refine JC.exitL ?_
      refine JC.to2 [(0, .ref o0 0 x5.length), (1, .x (.int .i64 a1)), (2, .x (.fn 26)), (6, .x (.int .i64 (20 : Int))), (7, .x (.int .i64 x3))] [⟨o0, 1, vl fD x5⟩] (by kernel_rfl) (by kernel_rfl) ?_
      exact JC.got (ex := (.exit 0)) rfl ⟨rfl, rfl, rfl⟩
def slices_stableCmpFunc_l2 (a1 : Int) (x20 : Int) : Nat → Int → Int → (List Fl) → Option ((List Fl) × Int)
  | 0, _, _, _ => none
  | k + 1, x26, x27, x28 => cond (decide (x27 ≤ a1)) ((slices_symMergeCmpFunc k x28 x26 (IntKind.i64.wrap (x26 + x20)) x27).bind fun r34 => slices_stableCmpFunc_l2 a1 x20 k x27 (IntKind.i64.wrap (x27 + (IntKind.i64.wrap ((2 : Int) * x20)))) r34) (some (x28, x26))
theorem slices_stableCmpFunc_l2_ok (a1 : Int) (x20 : Int) (fr : Nat → Option Blk) (o0 : Option Nat) : ∀ (k : Nat) (x26 : Int) (x27 : Int) (x28 : (List Fl)), JC prog fr 63 [(0, .ref o0 0 x28.length), (1, .x (.int .i64 a1)), (2, .x (.fn 26)), (6, .x (.int .i64 x20)), (7, .x (.int .i64 x26)), (8, .x (.int .i64 x27))] [⟨o0, 1, vl fD x28⟩] (.loop pf30_L1) (slices_stableCmpFunc_l2 a1 x20 k x26 x27 x28) (fun x => GotA 63 fr ((fun v ex E R => ex = (.exit 4) ∧ E = [(0, .ref o0 0 v.1.length), (1, .x (.int .i64 a1)), (2, .x (.fn 26)), (6, .x (.int .i64 x20)), (7, .x (.int .i64 v.2))] ∧ R = [⟨o0, 1, vl fD v.1⟩]) x)) := by
  intro k
  induction k with
  | zero =>
    intro x26 x27 x28
    exact JC.no
  | succ k ih =>
    intro x26 x27 x28
    rw [slices_stableCmpFunc_l2]
    refine JC.loop ?_
    refine JC.seq ?_
    refine JC.seq ?_
    refine JC.region fun b31 => ?_
    refine JS.run 3 (by kernel_rfl) ?_
    refine JS.nil ?_
    refine JC.to2 [(0, .ref o0 0 x28.length), (1, .x (.int .i64 a1)), (2, .x (.fn 26)), (6, .x (.int .i64 x20)), (7, .x (.int .i64 x26)), (8, .x (.int .i64 x27)), (35, .x (.bool (decide (x27 ≤ a1))))] [⟨o0, 1, vl fD x28⟩] (by kernel_rfl) (by kernel_rfl) ?_
    refine JC.skipT ?_
    refine JC.cond (e := (decide (x27 ≤ a1))) (by kernel_rfl) (fun h32 => ?_) (fun h32 => ?_)
    · refine JC.skipT ?_
      refine JC.block ?_
      refine JC.seq ?_
      refine JC.region fun b33 => ?_
      refine JS.run 7 (by kernel_rfl) ?_
      refine JS.bind fun r34 h35 => ?_
      refine JS.callI (args := [.x (.int .i64 x26), .x (.int .i64 (IntKind.i64.wrap (x26 + x20))), .x (.int .i64 x27), .x (.fn 26)]) (l := x28) (o := o0) [] (slices_symMergeCmpFunc_ok k x28 x26 (IntKind.i64.wrap (x26 + x20)) x27 r34 h35) (by kernel_rfl) (by kernel_rfl) (by kernel_rfl) (by kernel_rfl) (fun h36 => ?_)
      refine JS.relen (o := o0) (off := 0) (n := x28.length) (n' := r34.length) 0 (by kernel_rfl) h36.symm ?_
      refine JS.relen (o := o0) (off := 0) (n := x28.length) (n' := r34.length) 36 (by kernel_rfl) h36.symm ?_
      refine JS.nil ?_
      refine JC.to2 [(0, .ref o0 0 r34.length), (1, .x (.int .i64 a1)), (2, .x (.fn 26)), (6, .x (.int .i64 x20)), (8, .x (.int .i64 x27))] [⟨o0, 1, vl fD r34⟩] (by kernel_rfl) (by kernel_rfl) ?_
      refine JC.skipT ?_
      refine JC.seq ?_
      refine JC.region fun b37 => ?_
      refine JS.run 2 (by kernel_rfl) ?_
      refine JS.nil ?_
      refine JC.to2 [(0, .ref o0 0 r34.length), (1, .x (.int .i64 a1)), (2, .x (.fn 26)), (6, .x (.int .i64 x20)), (7, .x (.int .i64 x27)), (8, .x (.int .i64 x27))] [⟨o0, 1, vl fD r34⟩] (by kernel_rfl) (by kernel_rfl) ?_
      refine JC.skipT ?_
      refine JC.region fun b38 => ?_
      refine JS.run 5 (by kernel_rfl) ?_
      refine JS.nil ?_
      refine JC.to2 [(0, .ref o0 0 r34.length), (1, .x (.int .i64 a1)), (2, .x (.fn 26)), (6, .x (.int .i64 x20)), (7, .x (.int .i64 x27)), (8, .x (.int .i64 (IntKind.i64.wrap (x27 + (IntKind.i64.wrap ((2 : Int) * x20))))))] [⟨o0, 1, vl fD r34⟩] (by kernel_rfl) (by kernel_rfl) ?_
      refine JC.skipB ?_
      refine JC.skipL ?_
      refine JC.to2 [(0, .ref o0 0 r34.length), (1, .x (.int .i64 a1)), (2, .x (.fn 26)), (6, .x (.int .i64 x20)), (7, .x (.int .i64 x27)), (8, .x (.int .i64 (IntKind.i64.wrap (x27 + (IntKind.i64.wrap ((2 : Int) * x20))))))] [⟨o0, 1, vl fD r34⟩] (by kernel_rfl) (by kernel_rfl) ?_
      exact ih x27 (IntKind.i64.wrap (x27 + (IntKind.i64.wrap ((2 : Int) * x20)))) r34
    · refine JC.exitT ?_
      refine JC.exitL ?_
      refine JC.to2 [(0, .ref o0 0 x28.length), (1, .x (.int .i64 a1)), (2, .x (.fn 26)), (6, .x (.int .i64 x20)), (7, .x (.int .i64 x26))] [⟨o0, 1, vl fD x28⟩] (by kernel_rfl) (by kernel_rfl) ?_
      exact JC.got (ex := (.exit 4)) rfl ⟨rfl, rfl, rfl⟩
def slices_stableCmpFunc_l1 (a1 : Int) : Nat → Int → (List Fl) → Option (List Fl)
  | 0, _, _ => none
  | k + 1, x20, x21 => cond (decide (x20 < a1)) ((slices_stableCmpFunc_l2 a1 x20 k (0 : Int) (IntKind.i64.wrap ((2 : Int) * x20)) x21).bind fun (y29, y30) => cond (decide ((IntKind.i64.wrap (y30 + x20)) < a1)) ((slices_symMergeCmpFunc k y29 y30 (IntKind.i64.wrap (y30 + x20)) a1).bind fun r43 => slices_stableCmpFunc_l1 a1 k (IntKind.i64.wrap (x20 * (2 : Int))) r43) (slices_stableCmpFunc_l1 a1 k (IntKind.i64.wrap (x20 * (2 : Int))) y29)) (some x21)
theorem slices_stableCmpFunc_l1_ok (a1 : Int) (fr : Nat → Option Blk) (o0 : Option Nat) : ∀ (k : Nat) (x20 : Int) (x21 : (List Fl)), JC prog fr 63 [(0, .ref o0 0 x21.length), (1, .x (.int .i64 a1)), (2, .x (.fn 26)), (6, .x (.int .i64 x20))] [⟨o0, 1, vl fD x21⟩] (.loop pf30_L2) (slices_stableCmpFunc_l1 a1 k x20 x21) (fun x => GotA 63 fr ((fun v ex E R => ex = (.exit 2) ∧ E = [(0, .ref o0 0 v.length)] ∧ R = [⟨o0, 1, vl fD v⟩]) x)) := by
  intro k
  induction k with
  | zero =>
    intro x20 x21
    exact JC.no
  | succ k ih =>
    intro x20 x21
    rw [slices_stableCmpFunc_l1]
    refine JC.loop ?_
    refine JC.seq ?_
    refine JC.seq ?_
    refine JC.region fun b23 => ?_
    refine JS.run 3 (by kernel_rfl) ?_
    refine JS.nil ?_
    refine JC.to2 [(0, .ref o0 0 x21.length), (1, .x (.int .i64 a1)), (2, .x (.fn 26)), (6, .x (.int .i64 x20)), (30, .x (.bool (decide (x20 < a1))))] [⟨o0, 1, vl fD x21⟩] (by kernel_rfl) (by kernel_rfl) ?_
    refine JC.skipT ?_
    refine JC.cond (e := (decide (x20 < a1))) (by kernel_rfl) (fun h24 => ?_) (fun h24 => ?_)
    · refine JC.skipT ?_
      refine JC.block ?_
      refine JC.seq ?_
      refine JC.region fun b25 => ?_
      refine JS.run 4 (by kernel_rfl) ?_
      refine JS.nil ?_
      refine JC.to2 [(0, .ref o0 0 x21.length), (1, .x (.int .i64 a1)), (2, .x (.fn 26)), (6, .x (.int .i64 x20)), (7, .x (.int .i64 (0 : Int))), (8, .x (.int .i64 (IntKind.i64.wrap ((2 : Int) * x20))))] [⟨o0, 1, vl fD x21⟩] (by kernel_rfl) (by kernel_rfl) ?_
      refine JC.skipT ?_
      refine JC.seq ?_
      refine JC.block ?_
      refine JC.to2 [(0, .ref o0 0 x21.length), (1, .x (.int .i64 a1)), (2, .x (.fn 26)), (6, .x (.int .i64 x20)), (7, .x (.int .i64 (0 : Int))), (8, .x (.int .i64 (IntKind.i64.wrap ((2 : Int) * x20))))] [⟨o0, 1, vl fD x21⟩] (by kernel_rfl) (by kernel_rfl) ?_
      refine JC.to2 [(0, .ref o0 0 x21.length), (1, .x (.int .i64 a1)), (2, .x (.fn 26)), (6, .x (.int .i64 x20)), (7, .x (.int .i64 (0 : Int))), (8, .x (.int .i64 (IntKind.i64.wrap ((2 : Int) * x20))))] [⟨o0, 1, vl fD x21⟩] (by kernel_rfl) (by kernel_rfl) ?_
      refine JC.bind (A := fun v ex E R => ex = (.exit 4) ∧ E = [(0, .ref o0 0 v.1.length), (1, .x (.int .i64 a1)), (2, .x (.fn 26)), (6, .x (.int .i64 x20)), (7, .x (.int .i64 v.2))] ∧ R = [⟨o0, 1, vl fD v.1⟩]) (slices_stableCmpFunc_l2_ok a1 x20 fr o0 k (0 : Int) (IntKind.i64.wrap ((2 : Int) * x20)) x21) ?_
      rintro ⟨y29, y30⟩ ex E' R' hA
      obtain ⟨rfl, rfl, rfl⟩ := hA
      refine JC.to2 [(0, .ref o0 0 y29.length), (1, .x (.int .i64 a1)), (2, .x (.fn 26)), (6, .x (.int .i64 x20)), (7, .x (.int .i64 y30))] [⟨o0, 1, vl fD y29⟩] (by kernel_rfl) (by kernel_rfl) ?_
      refine JC.exitB ?_
      refine JC.skipT ?_
      refine JC.seq ?_
      refine JC.seq ?_
      refine JC.region fun b39 => ?_
      refine JS.run 4 (by kernel_rfl) ?_
      refine JS.nil ?_
      refine JC.to2 [(0, .ref o0 0 y29.length), (1, .x (.int .i64 a1)), (2, .x (.fn 26)), (6, .x (.int .i64 x20)), (7, .x (.int .i64 y30)), (9, .x (.int .i64 (IntKind.i64.wrap (y30 + x20))))] [⟨o0, 1, vl fD y29⟩] (by kernel_rfl) (by kernel_rfl) ?_
      refine JC.skipT ?_
      refine JC.seq ?_
      refine JC.region fun b40 => ?_
      refine JS.run 3 (by kernel_rfl) ?_
      refine JS.nil ?_
      refine JC.to2 [(0, .ref o0 0 y29.length), (1, .x (.int .i64 a1)), (2, .x (.fn 26)), (6, .x (.int .i64 x20)), (7, .x (.int .i64 y30)), (9, .x (.int .i64 (IntKind.i64.wrap (y30 + x20)))), (54, .x (.bool (decide ((IntKind.i64.wrap (y30 + x20)) < a1))))] [⟨o0, 1, vl fD y29⟩] (by kernel_rfl) (by kernel_rfl) ?_
      refine JC.skipT ?_
      refine JC.cond (e := (decide ((IntKind.i64.wrap (y30 + x20)) < a1))) (by kernel_rfl) (fun h41 => ?_) (fun h41 => ?_)
      · refine JC.region fun b42 => ?_
        refine JS.run 5 (by kernel_rfl) ?_
        refine JS.bind fun r43 h44 => ?_
        refine JS.callI (args := [.x (.int .i64 y30), .x (.int .i64 (IntKind.i64.wrap (y30 + x20))), .x (.int .i64 a1), .x (.fn 26)]) (l := y29) (o := o0) [] (slices_symMergeCmpFunc_ok k y29 y30 (IntKind.i64.wrap (y30 + x20)) a1 r43 h44) (by kernel_rfl) (by kernel_rfl) (by kernel_rfl) (by kernel_rfl) (fun h45 => ?_)
        refine JS.relen (o := o0) (off := 0) (n := y29.length) (n' := r43.length) 0 (by kernel_rfl) h45.symm ?_
        refine JS.relen (o := o0) (off := 0) (n := y29.length) (n' := r43.length) 55 (by kernel_rfl) h45.symm ?_
        refine JS.nil ?_
        refine JC.to2 [(0, .ref o0 0 r43.length), (1, .x (.int .i64 a1)), (2, .x (.fn 26)), (6, .x (.int .i64 x20))] [⟨o0, 1, vl fD r43⟩] (by kernel_rfl) (by kernel_rfl) ?_
        refine JC.skipT ?_
        refine JC.region fun b46 => ?_
        refine JS.run 3 (by kernel_rfl) ?_
        refine JS.nil ?_
        refine JC.to2 [(0, .ref o0 0 r43.length), (1, .x (.int .i64 a1)), (2, .x (.fn 26)), (6, .x (.int .i64 (IntKind.i64.wrap (x20 * (2 : Int)))))] [⟨o0, 1, vl fD r43⟩] (by kernel_rfl) (by kernel_rfl) ?_
        refine JC.skipB ?_
        refine JC.skipL ?_
        refine JC.to2 [(0, .ref o0 0 r43.length), (1, .x (.int .i64 a1)), (2, .x (.fn 26)), (6, .x (.int .i64 (IntKind.i64.wrap (x20 * (2 : Int)))))] [⟨o0, 1, vl fD r43⟩] (by kernel_rfl) (by kernel_rfl) ?_
        exact ih (IntKind.i64.wrap (x20 * (2 : Int))) r43
      · refine JC.skipT ?_
        refine JC.region fun b47 => ?_
        refine JS.run 3 (by kernel_rfl) ?_
        refine JS.nil ?_
        refine JC.to2 [(0, .ref o0 0 y29.length), (1, .x (.int .i64 a1)), (2, .x (.fn 26)), (6, .x (.int .i64 (IntKind.i64.wrap (x20 * (2 : Int)))))] [⟨o0, 1, vl fD y29⟩] (by kernel_rfl) (by kernel_rfl) ?_
        refine JC.skipB ?_
        refine JC.skipL ?_
        refine JC.to2 [(0, .ref o0 0 y29.length), (1, .x (.int .i64 a1)), (2, .x (.fn 26)), (6, .x (.int .i64 (IntKind.i64.wrap (x20 * (2 : Int)))))] [⟨o0, 1, vl fD y29⟩] (by kernel_rfl) (by kernel_rfl) ?_
        exact ih (IntKind.i64.wrap (x20 * (2 : Int))) y29
    · refine JC.exitT ?_
      refine JC.exitL ?_
      refine JC.to2 [(0, .ref o0 0 x21.length)] [⟨o0, 1, vl fD x21⟩] (by kernel_rfl) (by kernel_rfl) ?_
      exact JC.got (ex := (.exit 2)) rfl ⟨rfl, rfl, rfl⟩
def slices_stableCmpFunc (k : Nat) (a0 : (List Fl)) (a1 : Int) : Option (List Fl) :=
  (slices_stableCmpFunc_l0 a1 k (0 : Int) (20 : Int) a0).bind fun (y6, y7) => (slices_insertionSortCmpFunc k y6 y7 a1).bind fun r17 => (slices_stableCmpFunc_l1 a1 k (20 : Int) r17).bind fun y22 => keepL a0 y22
theorem slices_stableCmpFunc_ok (k : Nat) : ∀ (a0 : (List Fl)) (a1 : Int) (r : (List Fl)), slices_stableCmpFunc k a0 a1 = some r → InOk prog 30 1 fD [.x (.int .i64 a1), .x (.fn 26)] a0 r := by
  intro a0 a1
  refine InOk.of (pf := pf30) rfl rfl rfl rfl ?_
  intro fr o0
  unfold slices_stableCmpFunc pf30
  refine JC.seq ?_
  refine JC.region fun b1 => ?_
  refine JS.run 1 (by kernel_rfl) ?_
  refine JS.nil ?_
  refine JC.to2 [(0, .ref o0 0 a0.length), (1, .x (.int .i64 a1)), (2, .x (.fn 26)), (6, .x (.int .i64 (20 : Int)))] [⟨o0, 1, vl fD a0⟩] (by kernel_rfl) (by kernel_rfl) ?_
  refine JC.skipT ?_
  refine JC.seq ?_
  refine JC.region fun b2 => ?_
  refine JS.run 3 (by kernel_rfl) ?_
  refine JS.nil ?_
  refine JC.to2 [(0, .ref o0 0 a0.length), (1, .x (.int .i64 a1)), (2, .x (.fn 26)), (6, .x (.int .i64 (20 : Int))), (7, .x (.int .i64 (0 : Int))), (8, .x (.int .i64 (20 : Int)))] [⟨o0, 1, vl fD a0⟩] (by kernel_rfl) (by kernel_rfl) ?_
  refine JC.skipT ?_
  refine JC.seq ?_
  refine JC.block ?_
  refine JC.to2 [(0, .ref o0 0 a0.length), (1, .x (.int .i64 a1)), (2, .x (.fn 26)), (6, .x (.int .i64 (20 : Int))), (7, .x (.int .i64 (0 : Int))), (8, .x (.int .i64 (20 : Int)))] [⟨o0, 1, vl fD a0⟩] (by kernel_rfl) (by kernel_rfl) ?_
  refine JC.to2 [(0, .ref o0 0 a0.length), (1, .x (.int .i64 a1)), (2, .x (.fn 26)), (6, .x (.int .i64 (20 : Int))), (7, .x (.int .i64 (0 : Int))), (8, .x (.int .i64 (20 : Int)))] [⟨o0, 1, vl fD a0⟩] (by kernel_rfl) (by kernel_rfl) ?_
  refine JC.bind (A := fun v ex E R => ex = (.exit 0) ∧ E = [(0, .ref o0 0 v.1.length), (1, .x (.int .i64 a1)), (2, .x (.fn 26)), (6, .x (.int .i64 (20 : Int))), (7, .x (.int .i64 v.2))] ∧ R = [⟨o0, 1, vl fD v.1⟩]) (slices_stableCmpFunc_l0_ok a1 fr o0 k (0 : Int) (20 : Int) a0) ?_
  rintro ⟨y6, y7⟩ ex E' R' hA
  obtain ⟨rfl, rfl, rfl⟩ := hA
  refine JC.to2 [(0, .ref o0 0 y6.length), (1, .x (.int .i64 a1)), (2, .x (.fn 26)), (6, .x (.int .i64 (20 : Int))), (7, .x (.int .i64 y7))] [⟨o0, 1, vl fD y6⟩] (by kernel_rfl) (by kernel_rfl) ?_
  refine JC.exitB ?_
  refine JC.skipT ?_
  refine JC.seq ?_
  refine JC.region fun b16 => ?_
  refine JS.run 4 (by kernel_rfl) ?_
  refine JS.bind fun r17 h18 => ?_
  refine JS.callI (args := [.x (.int .i64 y7), .x (.int .i64 a1), .x (.fn 26)]) (l := y6) (o := o0) [] (slices_insertionSortCmpFunc_ok k y6 y7 a1 r17 h18) (by kernel_rfl) (by kernel_rfl) (by kernel_rfl) (by kernel_rfl) (fun h19 => ?_)
  refine JS.relen (o := o0) (off := 0) (n := y6.length) (n' := r17.length) 0 (by kernel_rfl) h19.symm ?_
  refine JS.relen (o := o0) (off := 0) (n := y6.length) (n' := r17.length) 23 (by kernel_rfl) h19.symm ?_
  refine JS.nil ?_
  refine JC.to2 [(0, .ref o0 0 r17.length), (1, .x (.int .i64 a1)), (2, .x (.fn 26)), (6, .x (.int .i64 (20 : Int)))] [⟨o0, 1, vl fD r17⟩] (by kernel_rfl) (by kernel_rfl) ?_
  refine JC.skipT ?_
  refine JC.block ?_
  refine JC.to2 [(0, .ref o0 0 r17.length), (1, .x (.int .i64 a1)), (2, .x (.fn 26)), (6, .x (.int .i64 (20 : Int)))] [⟨o0, 1, vl fD r17⟩] (by kernel_rfl) (by kernel_rfl) ?_
  refine JC.to2 [(0, .ref o0 0 r17.length), (1, .x (.int .i64 a1)), (2, .x (.fn 26)), (6, .x (.int .i64 (20 : Int)))] [⟨o0, 1, vl fD r17⟩] (by kernel_rfl) (by kernel_rfl) ?_
  refine JC.bind (A := fun v ex E R => ex = (.exit 2) ∧ E = [(0, .ref o0 0 v.length)] ∧ R = [⟨o0, 1, vl fD v⟩]) (slices_stableCmpFunc_l1_ok a1 fr o0 k (20 : Int) r17) ?_
  rintro y22 ex E' R' hA
  obtain ⟨rfl, rfl, rfl⟩ := hA
  refine JC.to2 [(0, .ref o0 0 y22.length)] [⟨o0, 1, vl fD y22⟩] (by kernel_rfl) (by kernel_rfl) ?_
  refine JC.exitB ?_
  exact JC.finI (ex := .normal) (l := a0) rfl normal_ne rfl
/-! slices.SortStableFunc[[]float64,float64] -/
def slices_SortStableFunc (k : Nat) (a0 : (List Fl)) : Option (List Fl) :=
  (slices_stableCmpFunc k a0 ((a0.length : Nat) : Int)).bind fun r2 => keepL a0 r2
theorem slices_SortStableFunc_ok (k : Nat) : ∀ (a0 : (List Fl)) (r : (List Fl)), slices_SortStableFunc k a0 = some r → InOk prog 25 1 fD [.x (.fn 26)] a0 r := by
  intro a0
  refine InOk.of (pf := pf25) rfl rfl rfl rfl ?_
  intro fr o0
  unfold slices_SortStableFunc pf25
  refine JC.region fun b1 => ?_
  refine JS.run 4 (by kernel_rfl) ?_
  refine JS.bind fun r2 h3 => ?_
  refine JS.callI (args := [.x (.int .i64 ((a0.length : Nat) : Int)), .x (.fn 26)]) (l := a0) (o := o0) [] (slices_stableCmpFunc_ok k a0 ((a0.length : Nat) : Int) r2 h3) (by kernel_rfl) (by kernel_rfl) (by kernel_rfl) (by kernel_rfl) (fun h4 => ?_)
  refine JS.relen (o := o0) (off := 0) (n := a0.length) (n' := r2.length) 0 (by kernel_rfl) h4.symm ?_
  refine JS.relen (o := o0) (off := 0) (n := a0.length) (n' := r2.length) 4 (by kernel_rfl) h4.symm ?_
  refine JS.relen (o := o0) (off := 0) (n := a0.length) (n' := r2.length) 5 (by kernel_rfl) h4.symm ?_
  refine JS.nil ?_
  refine JC.to2 [(0, .ref o0 0 r2.length)] [⟨o0, 1, vl fD r2⟩] (by kernel_rfl) (by kernel_rfl) ?_
  exact JC.finI (ex := .normal) (l := a0) rfl normal_ne rfl
/-! slices.Clone[[]float64,float64] -/
def slices_Clone (k : Nat) (a0 : (List Fl)) : Option (List Fl) :=
  cond (a0.map fD).isEmpty (both (some ([] : (List Fl))) (room ((([] : List Fl).length) + a0.length) 8 (some (([] : List Fl) ++ a0)))) (room ((([] : List Fl).length) + a0.length) 8 (some (([] : List Fl) ++ a0)))
theorem slices_Clone_ok (k : Nat) (a0 : (List Fl)) : ∀ r, slices_Clone k a0 = some r → CallOk prog 24 [.c 1 (.lst 1 (a0.map fD))] false [.own 1 (vl fD r)] := by
  refine CallOk.ofB (pf := pf24) (rs := [.tmp 2]) (Res := fun (r : (List Fl)) => [.own 1 (vl fD r)]) rfl rfl rfl rfl rfl ?_
  unfold slices_Clone pf24
  refine JC.seq ?_
  refine JC.region fun b1 => ?_
  refine JS.run 1 (by kernel_rfl) ?_
  refine JS.nil ?_
  refine JC.to2 [(0, .c 1 (.lst 1 (a0.map fD)))] [] (by kernel_rfl) (by kernel_rfl) ?_
  refine JC.skipT ?_
  refine JC.seq ?_
  refine JC.seq ?_
  refine JC.region fun b2 => ?_
  refine JS.run 1 (by kernel_rfl) ?_
  refine JS.eqNB (n := 1) (sz := 1) (es := (a0.map fD)) (by kernel_rfl) (by kernel_rfl) (by kernel_rfl) ?_ ?_
  · refine JS.nil ?_
    refine JC.to2 [(0, .c 1 (.lst 1 (a0.map fD))), (4, .x (.bool true))] [] (by kernel_rfl) (by kernel_rfl) ?_
    refine JC.skipT ?_
    refine JC.condT (by kernel_rfl) ?_
    refine JC.seq ?_
    refine JC.region fun b4 => ?_
    refine JS.run 1 (by kernel_rfl) ?_
    refine JS.nil ?_
    refine JC.to2 [(2, .x .nil)] [] (by kernel_rfl) (by kernel_rfl) ?_
    refine JC.skipT ?_
    refine JC.retT ?_
    exact JC.finB (ex := .ret) (vs := [.x .nil]) (is := []) rfl ret_ne ⟨(by kernel_rfl), trivial⟩ (Outs.nl Outs.nil)
  · refine JS.nil ?_
    refine JC.to2 [(0, .c 1 (.lst 1 (a0.map fD))), (4, .x (.bool false))] [] (by kernel_rfl) (by kernel_rfl) ?_
    refine JC.skipT ?_
    refine JC.condF (by kernel_rfl) ?_
    refine JC.skipT ?_
    refine JC.seq ?_
    refine JC.region fun b5 => ?_
    refine JS.buildSlice (c := fD) ([] : List Fl) (by kernel_rfl) (by kernel_rfl) (by kernel_rfl) (by kernel_rfl) (by kernel_rfl) (fun id6 => ?_)
    refine JS.run 1 (by kernel_rfl) ?_
    refine JS.appT (c := fD) (l := ([] : List Fl)) (k := a0) (o := (some id6)) 0 (by kernel_rfl) (by kernel_rfl) (srcC (c := fD) (l := a0) (n := 1) (by kernel_rfl) (fun _ => rfl) (fun _ _ => rfl)) (by kernel_rfl) (by kernel_rfl) (by kernel_rfl) (fun o7 => ?_)
    refine JS.run 1 (by kernel_rfl) ?_
    refine JS.nil ?_
    refine JC.to2 [(2, .ref o7 0 ((([] : List Fl) ++ a0).length))] [⟨o7, 1, vl fD (([] : List Fl) ++ a0)⟩] (by kernel_rfl) (by kernel_rfl) ?_
    refine JC.skipT ?_
    refine JC.relen (o := o7) (off := 0) (n := (([] : List Fl) ++ a0).length) (n' := (vl fD (([] : List Fl) ++ a0)).length) 2 (by kernel_rfl) (vl_len _ _).symm ?_
    exact JC.finB (ex := .ret) (vs := [.ref o7 0 (vl fD (([] : List Fl) ++ a0)).length]) (is := [0]) rfl ret_ne ⟨(by kernel_rfl), trivial⟩ (Outs.own (i := 0) (by kernel_rfl) (vl_out fun _ => rfl) rfl Outs.nil)
/-! eyot/fold.Sum -/
def fold_Sum_l0 (a0 : (List Fl)) : Nat → Fl → Int → Option Fl
  | 0, _, _ => none
  | k + 1, x4, x5 => cond (decide (x5 < ((a0.length : Nat) : Int))) ((at? a0 x5).bind fun w10 => fold_Sum_l0 a0 k (fAdd x4 w10) (IntKind.i64.wrap (x5 + (1 : Int)))) (some x4)
theorem fold_Sum_l0_ok (a0 : (List Fl))  : ∀ (k : Nat) (x4 : Fl) (x5 : Int), JC prog noFr 17 [(3, .x (.flt x4)), (6, .c 1 (.lst 1 (a0.map fD))), (7, .x (.int .i64 ((a0.length : Nat) : Int))), (8, .x (.int .i64 x5))] [] (.loop pf12_L0) (fold_Sum_l0 a0 k x4 x5) (fun x => GotA 17 noFr ((fun v ex E R => ex = (.exit 0) ∧ E = [(3, .x (.flt v))] ∧ R = []) x)) := by
  intro k
  induction k with
  | zero =>
    intro x4 x5
    exact JC.no
  | succ k ih =>
    intro x4 x5
    rw [fold_Sum_l0]
    refine JC.loop ?_
    refine JC.seq ?_
    refine JC.region fun b7 => ?_
    refine JS.run 1 (by kernel_rfl) ?_
    refine JS.nil ?_
    refine JC.to2 [(3, .x (.flt x4)), (6, .c 1 (.lst 1 (a0.map fD))), (7, .x (.int .i64 ((a0.length : Nat) : Int))), (8, .x (.int .i64 x5)), (9, .x (.bool (decide (x5 < ((a0.length : Nat) : Int)))))] [] (by kernel_rfl) (by kernel_rfl) ?_
    refine JC.skipT ?_
    refine JC.seq ?_
    refine JC.cond (e := (decide (x5 < ((a0.length : Nat) : Int)))) (by kernel_rfl) (fun h8 => ?_) (fun h8 => ?_)
    · refine JC.skipT ?_
      refine JC.seq ?_
      refine JC.block ?_
      refine JC.seq ?_
      refine JC.region fun b9 => ?_
      refine JS.idxC (c := fD) (l := a0) (n := 1) (kk := .i64) (z := x5) (by kernel_rfl) (by kernel_rfl) (by kernel_rfl) (by kernel_rfl) (fun w10 h11 => ?_)
      refine JS.run 2 (by kernel_rfl) ?_
      refine JS.nil ?_
      refine JC.to2 [(3, .x (.flt x4)), (5, .x (.flt w10)), (6, .c 1 (.lst 1 (a0.map fD))), (7, .x (.int .i64 ((a0.length : Nat) : Int))), (8, .x (.int .i64 x5))] [] (by kernel_rfl) (by kernel_rfl) ?_
      refine JC.skipT ?_
      refine JC.region fun b12 => ?_
      refine JS.run 4 (by kernel_rfl) ?_
      refine JS.nil ?_
      refine JC.to2 [(3, .x (.flt (fAdd x4 w10))), (6, .c 1 (.lst 1 (a0.map fD))), (7, .x (.int .i64 ((a0.length : Nat) : Int))), (8, .x (.int .i64 x5))] [] (by kernel_rfl) (by kernel_rfl) ?_
      refine JC.skipB ?_
      refine JC.skipT ?_
      refine JC.region fun b13 => ?_
      refine JS.run 2 (by kernel_rfl) ?_
      refine JS.nil ?_
      refine JC.to2 [(3, .x (.flt (fAdd x4 w10))), (6, .c 1 (.lst 1 (a0.map fD))), (7, .x (.int .i64 ((a0.length : Nat) : Int))), (8, .x (.int .i64 (IntKind.i64.wrap (x5 + (1 : Int)))))] [] (by kernel_rfl) (by kernel_rfl) ?_
      refine JC.skipL ?_
      refine JC.to2 [(3, .x (.flt (fAdd x4 w10))), (6, .c 1 (.lst 1 (a0.map fD))), (7, .x (.int .i64 ((a0.length : Nat) : Int))), (8, .x (.int .i64 (IntKind.i64.wrap (x5 + (1 : Int)))))] [] (by kernel_rfl) (by kernel_rfl) ?_
      exact ih (fAdd x4 w10) (IntKind.i64.wrap (x5 + (1 : Int)))
    · refine JC.exitT ?_
      refine JC.exitL ?_
      refine JC.to2 [(3, .x (.flt x4))] [] (by kernel_rfl) (by kernel_rfl) ?_
      exact JC.got (ex := (.exit 0)) rfl ⟨rfl, rfl, rfl⟩
def fold_Sum (k : Nat) (a0 : (List Fl)) : Option Fl :=
  (fold_Sum_l0 a0 k (some 0 : Fl) (0 : Int)).bind fun y6 => some y6
theorem fold_Sum_ok (k : Nat) (a0 : (List Fl)) : ∀ r, fold_Sum k a0 = some r → CallOk prog 12 [.c 1 (.lst 1 (a0.map fD))] false [.sc (.x (.flt r))] := by
  refine CallOk.ofB (pf := pf12) (rs := [.tmp 2]) (Res := fun (r : Fl) => [.sc (.x (.flt r))]) rfl rfl rfl rfl rfl ?_
  unfold fold_Sum pf12
  refine JC.seq ?_
  refine JC.region fun b1 => ?_
  refine JS.run 1 (by kernel_rfl) ?_
  refine JS.nil ?_
  refine JC.to2 [(0, .c 1 (.lst 1 (a0.map fD)))] [] (by kernel_rfl) (by kernel_rfl) ?_
  refine JC.skipT ?_
  refine JC.seq ?_
  refine JC.region fun b2 => ?_
  refine JS.run 1 (by kernel_rfl) ?_
  refine JS.nil ?_
  refine JC.to2 [(0, .c 1 (.lst 1 (a0.map fD))), (3, .x (.flt (some 0 : Fl)))] [] (by kernel_rfl) (by kernel_rfl) ?_
  refine JC.skipT ?_
  refine JC.seq ?_
  refine JC.seq ?_
  refine JC.region fun b3 => ?_
  refine JS.run 1 (by kernel_rfl) ?_
  refine JS.lenC (c := fD) (l := a0) (n := 1) (sz := 1) (by kernel_rfl) (by kernel_rfl) (by kernel_rfl) ?_
  refine JS.run 1 (by kernel_rfl) ?_
  refine JS.nil ?_
  refine JC.to2 [(3, .x (.flt (some 0 : Fl))), (6, .c 1 (.lst 1 (a0.map fD))), (7, .x (.int .i64 ((a0.length : Nat) : Int))), (8, .x (.int .i64 (0 : Int)))] [] (by kernel_rfl) (by kernel_rfl) ?_
  refine JC.skipT ?_
  refine JC.block ?_
  refine JC.to2 [(3, .x (.flt (some 0 : Fl))), (6, .c 1 (.lst 1 (a0.map fD))), (7, .x (.int .i64 ((a0.length : Nat) : Int))), (8, .x (.int .i64 (0 : Int)))] [] (by kernel_rfl) (by kernel_rfl) ?_
  refine JC.to2 [(3, .x (.flt (some 0 : Fl))), (6, .c 1 (.lst 1 (a0.map fD))), (7, .x (.int .i64 ((a0.length : Nat) : Int))), (8, .x (.int .i64 (0 : Int)))] [] (by kernel_rfl) (by kernel_rfl) ?_
  refine JC.bind (A := fun v ex E R => ex = (.exit 0) ∧ E = [(3, .x (.flt v))] ∧ R = []) (fold_Sum_l0_ok a0 k (some 0 : Fl) (0 : Int)) ?_
  rintro y6 ex E' R' hA
  obtain ⟨rfl, rfl, rfl⟩ := hA
  refine JC.to2 [(3, .x (.flt y6))] [] (by kernel_rfl) (by kernel_rfl) ?_
  refine JC.exitB ?_
  refine JC.skipT ?_
  refine JC.seq ?_
  refine JC.region fun b14 => ?_
  refine JS.run 2 (by kernel_rfl) ?_
  refine JS.nil ?_
  refine JC.to2 [(2, .x (.flt y6))] [] (by kernel_rfl) (by kernel_rfl) ?_
  refine JC.skipT ?_
  exact JC.finB (ex := .ret) (vs := [.x (.flt y6)]) (is := []) rfl ret_ne ⟨(by kernel_rfl), trivial⟩ (Outs.sc rfl Outs.nil)
/-! eyot/fold.Times -/
def fold_Times (k : Nat) (a0 : Fl) (a1 : Int) : Option Fl :=
  some (fMul a0 (some (FloatKind.f64.nearest a1) : Fl))
theorem fold_Times_ok (k : Nat) (a0 : Fl) (a1 : Int) : ∀ r, fold_Times k a0 a1 = some r → CallOk prog 14 [.x (.flt a0), .x (.int .i64 a1)] false [.sc (.x (.flt r))] := by
  refine CallOk.ofB (pf := pf14) (rs := [.tmp 4]) (Res := fun (r : Fl) => [.sc (.x (.flt r))]) rfl rfl rfl rfl rfl ?_
  unfold fold_Times pf14
  refine JC.seq ?_
  refine JC.region fun b1 => ?_
  refine JS.run 1 (by kernel_rfl) ?_
  refine JS.nil ?_
  refine JC.to2 [(0, .x (.flt a0)), (1, .x (.int .i64 a1))] [] (by kernel_rfl) (by kernel_rfl) ?_
  refine JC.skipT ?_
  refine JC.seq ?_
  refine JC.region fun b2 => ?_
  refine JS.run 5 (by kernel_rfl) ?_
  refine JS.nil ?_
  refine JC.to2 [(4, .x (.flt (fMul a0 (some (FloatKind.f64.nearest a1) : Fl))))] [] (by kernel_rfl) (by kernel_rfl) ?_
  refine JC.skipT ?_
  exact JC.finB (ex := .ret) (vs := [.x (.flt (fMul a0 (some (FloatKind.f64.nearest a1) : Fl)))]) (is := []) rfl ret_ne ⟨(by kernel_rfl), trivial⟩ (Outs.sc rfl Outs.nil)
/-! eyot/fold.pick -/
def fold_pick_l0 (a0 : (List Fl)) (a1 : Int) : Nat → Fl → Bool → Int → Option (Fl × Bool)
  | 0, _, _, _ => none
  | k + 1, x5, x6, x7 => cond (decide (x7 < ((a0.length : Nat) : Int))) (((at? a0 x7).bind fun w15 => cond (fOrd w15 w15 != some .eq) (some (x5, x6)) ((cond (!x6) (some true) ((weigh_Order k w15 x5).bind fun r22 => some (r22 == a1))).bind fun y19 => cond y19 (some (w15, true)) (some (x5, x6)))).bind fun (y12, y13) => fold_pick_l0 a0 a1 k y12 y13 (IntKind.i64.wrap (x7 + (1 : Int)))) (some (x5, x6))
theorem fold_pick_l0_ok (a0 : (List Fl)) (a1 : Int)  : ∀ (k : Nat) (x5 : Fl) (x6 : Bool) (x7 : Int), JC prog noFr 32 [(1, .x (.int .i64 a1)), (6, .x (.flt x5)), (7, .x (.bool x6)), (10, .c 1 (.lst 1 (a0.map fD))), (11, .x (.int .i64 ((a0.length : Nat) : Int))), (12, .x (.int .i64 x7))] [] (.loop pf23_L0) (fold_pick_l0 a0 a1 k x5 x6 x7) (fun x => GotA 32 noFr ((fun v ex E R => ex = (.exit 0) ∧ E = [(6, .x (.flt v.1)), (7, .x (.bool v.2))] ∧ R = []) x)) := by
  intro k
  induction k with
  | zero =>
    intro x5 x6 x7
    exact JC.no
  | succ k ih =>
    intro x5 x6 x7
    rw [fold_pick_l0]
    refine JC.loop ?_
    refine JC.seq ?_
    refine JC.region fun b10 => ?_
    refine JS.run 1 (by kernel_rfl) ?_
    refine JS.nil ?_
    refine JC.to2 [(1, .x (.int .i64 a1)), (6, .x (.flt x5)), (7, .x (.bool x6)), (10, .c 1 (.lst 1 (a0.map fD))), (11, .x (.int .i64 ((a0.length : Nat) : Int))), (12, .x (.int .i64 x7)), (13, .x (.bool (decide (x7 < ((a0.length : Nat) : Int)))))] [] (by kernel_rfl) (by kernel_rfl) ?_
    refine JC.skipT ?_
    refine JC.seq ?_
    refine JC.cond (e := (decide (x7 < ((a0.length : Nat) : Int)))) (by kernel_rfl) (fun h11 => ?_) (fun h11 => ?_)
    · refine JC.skipT ?_
      refine JC.seq ?_
      refine JC.bind (A := fun v ex E R => ex = .normal ∧ E = [(1, .x (.int .i64 a1)), (6, .x (.flt v.1)), (7, .x (.bool v.2)), (10, .c 1 (.lst 1 (a0.map fD))), (11, .x (.int .i64 ((a0.length : Nat) : Int))), (12, .x (.int .i64 x7))] ∧ R = []) ?_ ?_
      · refine JC.block ?_
        refine JC.seq ?_
        refine JC.region fun b14 => ?_
        refine JS.idxC (c := fD) (l := a0) (n := 1) (kk := .i64) (z := x7) (by kernel_rfl) (by kernel_rfl) (by kernel_rfl) (by kernel_rfl) (fun w15 h16 => ?_)
        refine JS.run 2 (by kernel_rfl) ?_
        refine JS.nil ?_
        refine JC.to2 [(1, .x (.int .i64 a1)), (6, .x (.flt x5)), (7, .x (.bool x6)), (9, .x (.flt w15)), (10, .c 1 (.lst 1 (a0.map fD))), (11, .x (.int .i64 ((a0.length : Nat) : Int))), (12, .x (.int .i64 x7))] [] (by kernel_rfl) (by kernel_rfl) ?_
        refine JC.skipT ?_
        refine JC.seq ?_
        refine JC.seq ?_
        refine JC.region fun b17 => ?_
        refine JS.run 3 (by kernel_rfl) ?_
        refine JS.nil ?_
        refine JC.to2 [(1, .x (.int .i64 a1)), (6, .x (.flt x5)), (7, .x (.bool x6)), (9, .x (.flt w15)), (10, .c 1 (.lst 1 (a0.map fD))), (11, .x (.int .i64 ((a0.length : Nat) : Int))), (12, .x (.int .i64 x7)), (18, .x (.bool (fOrd w15 w15 != some .eq)))] [] (by kernel_rfl) (by kernel_rfl) ?_
        refine JC.skipT ?_
        refine JC.cond (e := (fOrd w15 w15 != some .eq)) (by kernel_rfl) (fun h18 => ?_) (fun h18 => ?_)
        · refine JC.exitT ?_
          refine JC.exitB ?_
          refine JC.to2 [(1, .x (.int .i64 a1)), (6, .x (.flt x5)), (7, .x (.bool x6)), (10, .c 1 (.lst 1 (a0.map fD))), (11, .x (.int .i64 ((a0.length : Nat) : Int))), (12, .x (.int .i64 x7))] [] (by kernel_rfl) (by kernel_rfl) ?_
          exact JC.got (ex := .normal) rfl ⟨rfl, rfl, rfl⟩
        · refine JC.skipT ?_
          refine JC.seq ?_
          refine JC.bind (A := fun v ex E R => ex = .normal ∧ E = [(1, .x (.int .i64 a1)), (6, .x (.flt x5)), (7, .x (.bool x6)), (9, .x (.flt w15)), (10, .c 1 (.lst 1 (a0.map fD))), (11, .x (.int .i64 ((a0.length : Nat) : Int))), (12, .x (.int .i64 x7)), (27, .x (.bool v))] ∧ R = []) ?_ ?_
          · refine JC.region fun b20 => ?_
            refine JS.run 3 (by kernel_rfl) ?_
            refine JS.split (e := (!x6)) 21 (by kernel_rfl) (fun h21 => ?_) (fun h21 => ?_)
            · refine JS.run 6 (by kernel_rfl) ?_
              refine JS.nil ?_
              refine JC.to2 [(1, .x (.int .i64 a1)), (6, .x (.flt x5)), (7, .x (.bool x6)), (9, .x (.flt w15)), (10, .c 1 (.lst 1 (a0.map fD))), (11, .x (.int .i64 ((a0.length : Nat) : Int))), (12, .x (.int .i64 x7)), (27, .x (.bool true))] [] (by kernel_rfl) (by kernel_rfl) ?_
              refine JC.to2 [(1, .x (.int .i64 a1)), (6, .x (.flt x5)), (7, .x (.bool x6)), (9, .x (.flt w15)), (10, .c 1 (.lst 1 (a0.map fD))), (11, .x (.int .i64 ((a0.length : Nat) : Int))), (12, .x (.int .i64 x7)), (27, .x (.bool true))] [] (by kernel_rfl) (by kernel_rfl) ?_
              exact JC.got (ex := .normal) rfl ⟨rfl, rfl, rfl⟩
            · refine JS.run 2 (by kernel_rfl) ?_
              refine JS.bind fun r22 h23 => ?_
              refine JS.callS [] (weigh_Order_ok k w15 x5 r22 h23) ⟨rfl, argX (d := (.flt w15)) (by kernel_rfl) (by kernel_rfl), rfl, argX (d := (.flt x5)) (by kernel_rfl) (by kernel_rfl), trivial⟩ (by kernel_rfl) (by kernel_rfl) (by kernel_rfl) ?_
              refine JS.run 3 (by kernel_rfl) ?_
              refine JS.nil ?_
              refine JC.to2 [(1, .x (.int .i64 a1)), (6, .x (.flt x5)), (7, .x (.bool x6)), (9, .x (.flt w15)), (10, .c 1 (.lst 1 (a0.map fD))), (11, .x (.int .i64 ((a0.length : Nat) : Int))), (12, .x (.int .i64 x7)), (27, .x (.bool (r22 == a1)))] [] (by kernel_rfl) (by kernel_rfl) ?_
              refine JC.to2 [(1, .x (.int .i64 a1)), (6, .x (.flt x5)), (7, .x (.bool x6)), (9, .x (.flt w15)), (10, .c 1 (.lst 1 (a0.map fD))), (11, .x (.int .i64 ((a0.length : Nat) : Int))), (12, .x (.int .i64 x7)), (27, .x (.bool (r22 == a1)))] [] (by kernel_rfl) (by kernel_rfl) ?_
              exact JC.got (ex := .normal) rfl ⟨rfl, rfl, rfl⟩
          · rintro y19 ex E' R' hA
            obtain ⟨rfl, rfl, rfl⟩ := hA
            refine JC.to2 [(1, .x (.int .i64 a1)), (6, .x (.flt x5)), (7, .x (.bool x6)), (9, .x (.flt w15)), (10, .c 1 (.lst 1 (a0.map fD))), (11, .x (.int .i64 ((a0.length : Nat) : Int))), (12, .x (.int .i64 x7)), (27, .x (.bool y19))] [] (by kernel_rfl) (by kernel_rfl) ?_
            refine JC.skipT ?_
            refine JC.cond (e := y19) (by kernel_rfl) (fun h24 => ?_) (fun h24 => ?_)
            · refine JC.region fun b25 => ?_
              refine JS.run 3 (by kernel_rfl) ?_
              refine JS.nil ?_
              refine JC.to2 [(1, .x (.int .i64 a1)), (6, .x (.flt w15)), (7, .x (.bool true)), (10, .c 1 (.lst 1 (a0.map fD))), (11, .x (.int .i64 ((a0.length : Nat) : Int))), (12, .x (.int .i64 x7))] [] (by kernel_rfl) (by kernel_rfl) ?_
              refine JC.skipB ?_
              refine JC.to2 [(1, .x (.int .i64 a1)), (6, .x (.flt w15)), (7, .x (.bool true)), (10, .c 1 (.lst 1 (a0.map fD))), (11, .x (.int .i64 ((a0.length : Nat) : Int))), (12, .x (.int .i64 x7))] [] (by kernel_rfl) (by kernel_rfl) ?_
              exact JC.got (ex := .normal) rfl ⟨rfl, rfl, rfl⟩
            · refine JC.skipB ?_
              refine JC.to2 [(1, .x (.int .i64 a1)), (6, .x (.flt x5)), (7, .x (.bool x6)), (10, .c 1 (.lst 1 (a0.map fD))), (11, .x (.int .i64 ((a0.length : Nat) : Int))), (12, .x (.int .i64 x7))] [] (by kernel_rfl) (by kernel_rfl) ?_
              exact JC.got (ex := .normal) rfl ⟨rfl, rfl, rfl⟩
      · rintro ⟨y12, y13⟩ ex E' R' hA
        obtain ⟨rfl, rfl, rfl⟩ := hA
        refine JC.to2 [(1, .x (.int .i64 a1)), (6, .x (.flt y12)), (7, .x (.bool y13)), (10, .c 1 (.lst 1 (a0.map fD))), (11, .x (.int .i64 ((a0.length : Nat) : Int))), (12, .x (.int .i64 x7))] [] (by kernel_rfl) (by kernel_rfl) ?_
        refine JC.skipT ?_
        refine JC.region fun b26 => ?_
        refine JS.run 2 (by kernel_rfl) ?_
        refine JS.nil ?_
        refine JC.to2 [(1, .x (.int .i64 a1)), (6, .x (.flt y12)), (7, .x (.bool y13)), (10, .c 1 (.lst 1 (a0.map fD))), (11, .x (.int .i64 ((a0.length : Nat) : Int))), (12, .x (.int .i64 (IntKind.i64.wrap (x7 + (1 : Int)))))] [] (by kernel_rfl) (by kernel_rfl) ?_
        refine JC.skipL ?_
        refine JC.to2 [(1, .x (.int .i64 a1)), (6, .x (.flt y12)), (7, .x (.bool y13)), (10, .c 1 (.lst 1 (a0.map fD))), (11, .x (.int .i64 ((a0.length : Nat) : Int))), (12, .x (.int .i64 (IntKind.i64.wrap (x7 + (1 : Int)))))] [] (by kernel_rfl) (by kernel_rfl) ?_
        exact ih y12 y13 (IntKind.i64.wrap (x7 + (1 : Int)))
    · refine JC.exitT ?_
      refine JC.exitL ?_
      refine JC.to2 [(6, .x (.flt x5)), (7, .x (.bool x6))] [] (by kernel_rfl) (by kernel_rfl) ?_
      exact JC.got (ex := (.exit 0)) rfl ⟨rfl, rfl, rfl⟩
def fold_pick (k : Nat) (a0 : (List Fl)) (a1 : Int) : Option (Fl × Bool) :=
  (fold_pick_l0 a0 a1 k (some 0 : Fl) false (0 : Int)).bind fun (y8, y9) => some (y8, y9)
theorem fold_pick_ok (k : Nat) (a0 : (List Fl)) (a1 : Int) : ∀ r, fold_pick k a0 a1 = some r → CallOk prog 23 [.c 1 (.lst 1 (a0.map fD)), .x (.int .i64 a1)] true [.sc (.x (.flt r.1)), .sc (.x (.bool r.2))] := by
  refine CallOk.ofB (pf := pf23) (rs := [.tmp 4, .tmp 5]) (Res := fun (r : (Fl × Bool)) => [.sc (.x (.flt r.1)), .sc (.x (.bool r.2))]) rfl rfl rfl rfl rfl ?_
  unfold fold_pick pf23
  refine JC.seq ?_
  refine JC.region fun b1 => ?_
  refine JS.run 2 (by kernel_rfl) ?_
  refine JS.nil ?_
  refine JC.to2 [(0, .c 1 (.lst 1 (a0.map fD))), (1, .x (.int .i64 a1))] [] (by kernel_rfl) (by kernel_rfl) ?_
  refine JC.skipT ?_
  refine JC.seq ?_
  refine JC.region fun b2 => ?_
  refine JS.run 1 (by kernel_rfl) ?_
  refine JS.nil ?_
  refine JC.to2 [(0, .c 1 (.lst 1 (a0.map fD))), (1, .x (.int .i64 a1)), (6, .x (.flt (some 0 : Fl)))] [] (by kernel_rfl) (by kernel_rfl) ?_
  refine JC.skipT ?_
  refine JC.seq ?_
  refine JC.region fun b3 => ?_
  refine JS.run 1 (by kernel_rfl) ?_
  refine JS.nil ?_
  refine JC.to2 [(0, .c 1 (.lst 1 (a0.map fD))), (1, .x (.int .i64 a1)), (6, .x (.flt (some 0 : Fl))), (7, .x (.bool false))] [] (by kernel_rfl) (by kernel_rfl) ?_
  refine JC.skipT ?_
  refine JC.seq ?_
  refine JC.seq ?_
  refine JC.region fun b4 => ?_
  refine JS.run 1 (by kernel_rfl) ?_
  refine JS.lenC (c := fD) (l := a0) (n := 1) (sz := 1) (by kernel_rfl) (by kernel_rfl) (by kernel_rfl) ?_
  refine JS.run 1 (by kernel_rfl) ?_
  refine JS.nil ?_
  refine JC.to2 [(1, .x (.int .i64 a1)), (6, .x (.flt (some 0 : Fl))), (7, .x (.bool false)), (10, .c 1 (.lst 1 (a0.map fD))), (11, .x (.int .i64 ((a0.length : Nat) : Int))), (12, .x (.int .i64 (0 : Int)))] [] (by kernel_rfl) (by kernel_rfl) ?_
  refine JC.skipT ?_
  refine JC.block ?_
  refine JC.to2 [(1, .x (.int .i64 a1)), (6, .x (.flt (some 0 : Fl))), (7, .x (.bool false)), (10, .c 1 (.lst 1 (a0.map fD))), (11, .x (.int .i64 ((a0.length : Nat) : Int))), (12, .x (.int .i64 (0 : Int)))] [] (by kernel_rfl) (by kernel_rfl) ?_
  refine JC.to2 [(1, .x (.int .i64 a1)), (6, .x (.flt (some 0 : Fl))), (7, .x (.bool false)), (10, .c 1 (.lst 1 (a0.map fD))), (11, .x (.int .i64 ((a0.length : Nat) : Int))), (12, .x (.int .i64 (0 : Int)))] [] (by kernel_rfl) (by kernel_rfl) ?_
  refine JC.bind (A := fun v ex E R => ex = (.exit 0) ∧ E = [(6, .x (.flt v.1)), (7, .x (.bool v.2))] ∧ R = []) (fold_pick_l0_ok a0 a1 k (some 0 : Fl) false (0 : Int)) ?_
  rintro ⟨y8, y9⟩ ex E' R' hA
  obtain ⟨rfl, rfl, rfl⟩ := hA
  refine JC.to2 [(6, .x (.flt y8)), (7, .x (.bool y9))] [] (by kernel_rfl) (by kernel_rfl) ?_
  refine JC.exitB ?_
  refine JC.skipT ?_
  refine JC.seq ?_
  refine JC.region fun b27 => ?_
  refine JS.run 4 (by kernel_rfl) ?_
  refine JS.nil ?_
  refine JC.to2 [(4, .x (.flt y8)), (5, .x (.bool y9))] [] (by kernel_rfl) (by kernel_rfl) ?_
  refine JC.skipT ?_
  exact JC.finB (ex := .ret) (vs := [.x (.flt y8), .x (.bool y9)]) (is := []) rfl ret_ne ⟨(by kernel_rfl), ⟨(by kernel_rfl), trivial⟩⟩ (Outs.sc rfl (Outs.sc rfl Outs.nil))
/-! eyot/fold.Least -/
def fold_Least (k : Nat) (a0 : (List Fl)) : Option (Fl × Bool) :=
  (fold_pick k a0 (-1 : Int)).bind fun r3 => some (r3.1, r3.2)
theorem fold_Least_ok (k : Nat) (a0 : (List Fl)) : ∀ r, fold_Least k a0 = some r → CallOk prog 7 [.c 1 (.lst 1 (a0.map fD))] true [.sc (.x (.flt r.1)), .sc (.x (.bool r.2))] := by
  refine CallOk.ofB (pf := pf7) (rs := [.tmp 2, .tmp 3]) (Res := fun (r : (Fl × Bool)) => [.sc (.x (.flt r.1)), .sc (.x (.bool r.2))]) rfl rfl rfl rfl rfl ?_
  unfold fold_Least pf7
  refine JC.seq ?_
  refine JC.region fun b1 => ?_
  refine JS.run 2 (by kernel_rfl) ?_
  refine JS.nil ?_
  refine JC.to2 [(0, .c 1 (.lst 1 (a0.map fD)))] [] (by kernel_rfl) (by kernel_rfl) ?_
  refine JC.skipT ?_
  refine JC.seq ?_
  refine JC.region fun b2 => ?_
  refine JS.run 1 (by kernel_rfl) ?_
  refine JS.bind fun r3 h4 => ?_
  refine JS.callS [] (fold_pick_ok k a0 (-1 : Int) r3 h4) ⟨rfl, argC (n := 1) (by kernel_rfl) (by kernel_rfl) (by kernel_rfl), rfl, argX (d := (.int .i64 (-1 : Int))) (by kernel_rfl) (by kernel_rfl), trivial⟩ (by kernel_rfl) (by kernel_rfl) (by kernel_rfl) ?_
  refine JS.run 4 (by kernel_rfl) ?_
  refine JS.nil ?_
  refine JC.to2 [(2, .x (.flt r3.1)), (3, .x (.bool r3.2))] [] (by kernel_rfl) (by kernel_rfl) ?_
  refine JC.skipT ?_
  exact JC.finB (ex := .ret) (vs := [.x (.flt r3.1), .x (.bool r3.2)]) (is := []) rfl ret_ne ⟨(by kernel_rfl), ⟨(by kernel_rfl), trivial⟩⟩ (Outs.sc rfl (Outs.sc rfl Outs.nil))
/-! eyot/fold.Most -/
def fold_Most (k : Nat) (a0 : (List Fl)) : Option (Fl × Bool) :=
  (fold_pick k a0 (1 : Int)).bind fun r3 => some (r3.1, r3.2)
theorem fold_Most_ok (k : Nat) (a0 : (List Fl)) : ∀ r, fold_Most k a0 = some r → CallOk prog 8 [.c 1 (.lst 1 (a0.map fD))] true [.sc (.x (.flt r.1)), .sc (.x (.bool r.2))] := by
  refine CallOk.ofB (pf := pf8) (rs := [.tmp 2, .tmp 3]) (Res := fun (r : (Fl × Bool)) => [.sc (.x (.flt r.1)), .sc (.x (.bool r.2))]) rfl rfl rfl rfl rfl ?_
  unfold fold_Most pf8
  refine JC.seq ?_
  refine JC.region fun b1 => ?_
  refine JS.run 2 (by kernel_rfl) ?_
  refine JS.nil ?_
  refine JC.to2 [(0, .c 1 (.lst 1 (a0.map fD)))] [] (by kernel_rfl) (by kernel_rfl) ?_
  refine JC.skipT ?_
  refine JC.seq ?_
  refine JC.region fun b2 => ?_
  refine JS.run 1 (by kernel_rfl) ?_
  refine JS.bind fun r3 h4 => ?_
  refine JS.callS [] (fold_pick_ok k a0 (1 : Int) r3 h4) ⟨rfl, argC (n := 1) (by kernel_rfl) (by kernel_rfl) (by kernel_rfl), rfl, argX (d := (.int .i64 (1 : Int))) (by kernel_rfl) (by kernel_rfl), trivial⟩ (by kernel_rfl) (by kernel_rfl) (by kernel_rfl) ?_
  refine JS.run 4 (by kernel_rfl) ?_
  refine JS.nil ?_
  refine JC.to2 [(2, .x (.flt r3.1)), (3, .x (.bool r3.2))] [] (by kernel_rfl) (by kernel_rfl) ?_
  refine JC.skipT ?_
  exact JC.finB (ex := .ret) (vs := [.x (.flt r3.1), .x (.bool r3.2)]) (is := []) rfl ret_ne ⟨(by kernel_rfl), ⟨(by kernel_rfl), trivial⟩⟩ (Outs.sc rfl (Outs.sc rfl Outs.nil))
/-! eyot/fold.Sort -/
def fold_Sort (k : Nat) (a0 : (List Fl)) : Option (List Fl) :=
  (slices_Clone k a0).bind fun r3 => (slices_SortStableFunc k r3).bind fun r7 => some r7
theorem fold_Sort_ok (k : Nat) (a0 : (List Fl)) : ∀ r, fold_Sort k a0 = some r → CallOk prog 17 [.c 1 (.lst 1 (a0.map fD))] false [.own 1 (vl fD r)] := by
  refine CallOk.ofB (pf := pf17) (rs := [.tmp 2]) (Res := fun (r : (List Fl)) => [.own 1 (vl fD r)]) rfl rfl rfl rfl rfl ?_
  unfold fold_Sort pf17
  refine JC.seq ?_
  refine JC.region fun b1 => ?_
  refine JS.run 1 (by kernel_rfl) ?_
  refine JS.nil ?_
  refine JC.to2 [(0, .c 1 (.lst 1 (a0.map fD)))] [] (by kernel_rfl) (by kernel_rfl) ?_
  refine JC.skipT ?_
  refine JC.seq ?_
  refine JC.region fun b2 => ?_
  refine JS.run 1 (by kernel_rfl) ?_
  refine JS.bind fun r3 h4 => ?_
  refine JS.callK1 [] (slices_Clone_ok k a0 r3 h4) ⟨rfl, argC (n := 1) (by kernel_rfl) (by kernel_rfl) (by kernel_rfl), trivial⟩ ⟨vl_sc (fun _ => rfl), trivial⟩ (by kernel_rfl) (by kernel_rfl) (by kernel_rfl) (by kernel_rfl) (fun o5 => ?_)
  refine JS.relen (o := o5) (off := 0) (n := (vl fD r3).length) (n' := r3.length) 5 (by kernel_rfl) (vl_len _ _) ?_
  refine JS.run 1 (by kernel_rfl) ?_
  refine JS.nil ?_
  refine JC.to2 [(3, .ref o5 0 r3.length)] [⟨o5, 1, vl fD r3⟩] (by kernel_rfl) (by kernel_rfl) ?_
  refine JC.skipT ?_
  refine JC.seq ?_
  refine JC.region fun b6 => ?_
  refine JS.run 1 (by kernel_rfl) ?_
  refine JS.bind fun r7 h8 => ?_
  refine JS.callI (args := [.x (.fn 26)]) (l := r3) (o := o5) [] (slices_SortStableFunc_ok k r3 r7 h8) (by kernel_rfl) (by kernel_rfl) (by kernel_rfl) (by kernel_rfl) (fun h9 => ?_)
  refine JS.relen (o := o5) (off := 0) (n := r3.length) (n' := r7.length) 3 (by kernel_rfl) h9.symm ?_
  refine JS.relen (o := o5) (off := 0) (n := r3.length) (n' := r7.length) 6 (by kernel_rfl) h9.symm ?_
  refine JS.nil ?_
  refine JC.to2 [(3, .ref o5 0 r7.length)] [⟨o5, 1, vl fD r7⟩] (by kernel_rfl) (by kernel_rfl) ?_
  refine JC.skipT ?_
  refine JC.seq ?_
  refine JC.region fun b10 => ?_
  refine JS.run 2 (by kernel_rfl) ?_
  refine JS.nil ?_
  refine JC.to2 [(2, .ref o5 0 r7.length)] [⟨o5, 1, vl fD r7⟩] (by kernel_rfl) (by kernel_rfl) ?_
  refine JC.skipT ?_
  refine JC.relen (o := o5) (off := 0) (n := r7.length) (n' := (vl fD r7).length) 2 (by kernel_rfl) (vl_len _ _).symm ?_
  exact JC.finB (ex := .ret) (vs := [.ref o5 0 (vl fD r7).length]) (is := [0]) rfl ret_ne ⟨(by kernel_rfl), trivial⟩ (Outs.own (i := 0) (by kernel_rfl) (vl_out fun _ => rfl) rfl Outs.nil)
/-! eyot/eyotref1.Sum -/
def eyotref1_Sum_l0 (a0 : (List Fl)) : Nat → Fl → Int → Option Fl
  | 0, _, _ => none
  | k + 1, x4, x5 => cond (decide (x5 < ((a0.length : Nat) : Int))) ((at? a0 x5).bind fun w10 => eyotref1_Sum_l0 a0 k (fAdd x4 w10) (IntKind.i64.wrap (x5 + (1 : Int)))) (some x4)
theorem eyotref1_Sum_l0_ok (a0 : (List Fl))  : ∀ (k : Nat) (x4 : Fl) (x5 : Int), JC prog noFr 18 [(0, .c 1 (.lst 1 (a0.map fD))), (3, .x (.flt x4)), (4, .x (.int .i64 x5))] [] (.loop pf13_L0) (eyotref1_Sum_l0 a0 k x4 x5) (fun x => GotA 18 noFr ((fun v ex E R => ex = (.exit 0) ∧ E = [(3, .x (.flt v))] ∧ R = []) x)) := by
  intro k
  induction k with
  | zero =>
    intro x4 x5
    exact JC.no
  | succ k ih =>
    intro x4 x5
    rw [eyotref1_Sum_l0]
    refine JC.loop ?_
    refine JC.seq ?_
    refine JC.seq ?_
    refine JC.region fun b7 => ?_
    refine JS.run 2 (by kernel_rfl) ?_
    refine JS.lenC (c := fD) (l := a0) (n := 1) (sz := 1) (by kernel_rfl) (by kernel_rfl) (by kernel_rfl) ?_
    refine JS.run 1 (by kernel_rfl) ?_
    refine JS.nil ?_
    refine JC.to2 [(0, .c 1 (.lst 1 (a0.map fD))), (3, .x (.flt x4)), (4, .x (.int .i64 x5)), (8, .x (.bool (decide (x5 < ((a0.length : Nat) : Int)))))] [] (by kernel_rfl) (by kernel_rfl) ?_
    refine JC.skipT ?_
    refine JC.cond (e := (decide (x5 < ((a0.length : Nat) : Int)))) (by kernel_rfl) (fun h8 => ?_) (fun h8 => ?_)
    · refine JC.skipT ?_
      refine JC.seq ?_
      refine JC.block ?_
      refine JC.region fun b9 => ?_
      refine JS.run 3 (by kernel_rfl) ?_
      refine JS.idxC (c := fD) (l := a0) (n := 1) (kk := .i64) (z := x5) (by kernel_rfl) (by kernel_rfl) (by kernel_rfl) (by kernel_rfl) (fun w10 h11 => ?_)
      refine JS.run 3 (by kernel_rfl) ?_
      refine JS.nil ?_
      refine JC.to2 [(0, .c 1 (.lst 1 (a0.map fD))), (3, .x (.flt (fAdd x4 w10))), (4, .x (.int .i64 x5))] [] (by kernel_rfl) (by kernel_rfl) ?_
      refine JC.skipB ?_
      refine JC.skipT ?_
      refine JC.region fun b12 => ?_
      refine JS.run 3 (by kernel_rfl) ?_
      refine JS.nil ?_
      refine JC.to2 [(0, .c 1 (.lst 1 (a0.map fD))), (3, .x (.flt (fAdd x4 w10))), (4, .x (.int .i64 (IntKind.i64.wrap (x5 + (1 : Int)))))] [] (by kernel_rfl) (by kernel_rfl) ?_
      refine JC.skipL ?_
      refine JC.to2 [(0, .c 1 (.lst 1 (a0.map fD))), (3, .x (.flt (fAdd x4 w10))), (4, .x (.int .i64 (IntKind.i64.wrap (x5 + (1 : Int)))))] [] (by kernel_rfl) (by kernel_rfl) ?_
      exact ih (fAdd x4 w10) (IntKind.i64.wrap (x5 + (1 : Int)))
    · refine JC.exitT ?_
      refine JC.exitL ?_
      refine JC.to2 [(3, .x (.flt x4))] [] (by kernel_rfl) (by kernel_rfl) ?_
      exact JC.got (ex := (.exit 0)) rfl ⟨rfl, rfl, rfl⟩
def eyotref1_Sum (k : Nat) (a0 : (List Fl)) : Option Fl :=
  (eyotref1_Sum_l0 a0 k (some 0 : Fl) (0 : Int)).bind fun y6 => some y6
theorem eyotref1_Sum_ok (k : Nat) (a0 : (List Fl)) : ∀ r, eyotref1_Sum k a0 = some r → CallOk prog 13 [.c 1 (.lst 1 (a0.map fD))] false [.sc (.x (.flt r))] := by
  refine CallOk.ofB (pf := pf13) (rs := [.tmp 2]) (Res := fun (r : Fl) => [.sc (.x (.flt r))]) rfl rfl rfl rfl rfl ?_
  unfold eyotref1_Sum pf13
  refine JC.seq ?_
  refine JC.region fun b1 => ?_
  refine JS.run 1 (by kernel_rfl) ?_
  refine JS.nil ?_
  refine JC.to2 [(0, .c 1 (.lst 1 (a0.map fD)))] [] (by kernel_rfl) (by kernel_rfl) ?_
  refine JC.skipT ?_
  refine JC.seq ?_
  refine JC.region fun b2 => ?_
  refine JS.run 1 (by kernel_rfl) ?_
  refine JS.nil ?_
  refine JC.to2 [(0, .c 1 (.lst 1 (a0.map fD))), (3, .x (.flt (some 0 : Fl)))] [] (by kernel_rfl) (by kernel_rfl) ?_
  refine JC.skipT ?_
  refine JC.seq ?_
  refine JC.seq ?_
  refine JC.region fun b3 => ?_
  refine JS.run 1 (by kernel_rfl) ?_
  refine JS.nil ?_
  refine JC.to2 [(0, .c 1 (.lst 1 (a0.map fD))), (3, .x (.flt (some 0 : Fl))), (4, .x (.int .i64 (0 : Int)))] [] (by kernel_rfl) (by kernel_rfl) ?_
  refine JC.skipT ?_
  refine JC.block ?_
  refine JC.to2 [(0, .c 1 (.lst 1 (a0.map fD))), (3, .x (.flt (some 0 : Fl))), (4, .x (.int .i64 (0 : Int)))] [] (by kernel_rfl) (by kernel_rfl) ?_
  refine JC.to2 [(0, .c 1 (.lst 1 (a0.map fD))), (3, .x (.flt (some 0 : Fl))), (4, .x (.int .i64 (0 : Int)))] [] (by kernel_rfl) (by kernel_rfl) ?_
  refine JC.bind (A := fun v ex E R => ex = (.exit 0) ∧ E = [(3, .x (.flt v))] ∧ R = []) (eyotref1_Sum_l0_ok a0 k (some 0 : Fl) (0 : Int)) ?_
  rintro y6 ex E' R' hA
  obtain ⟨rfl, rfl, rfl⟩ := hA
  refine JC.to2 [(3, .x (.flt y6))] [] (by kernel_rfl) (by kernel_rfl) ?_
  refine JC.exitB ?_
  refine JC.skipT ?_
  refine JC.seq ?_
  refine JC.region fun b13 => ?_
  refine JS.run 2 (by kernel_rfl) ?_
  refine JS.nil ?_
  refine JC.to2 [(2, .x (.flt y6))] [] (by kernel_rfl) (by kernel_rfl) ?_
  refine JC.skipT ?_
  exact JC.finB (ex := .ret) (vs := [.x (.flt y6)]) (is := []) rfl ret_ne ⟨(by kernel_rfl), trivial⟩ (Outs.sc rfl Outs.nil)
/-! eyot/eyotref1.Times -/
def eyotref1_Times (k : Nat) (a0 : Fl) (a1 : Int) : Option Fl :=
  some (fMul a0 (some (FloatKind.f64.nearest a1) : Fl))
theorem eyotref1_Times_ok (k : Nat) (a0 : Fl) (a1 : Int) : ∀ r, eyotref1_Times k a0 a1 = some r → CallOk prog 15 [.x (.flt a0), .x (.int .i64 a1)] false [.sc (.x (.flt r))] := by
  refine CallOk.ofB (pf := pf15) (rs := [.tmp 4]) (Res := fun (r : Fl) => [.sc (.x (.flt r))]) rfl rfl rfl rfl rfl ?_
  unfold eyotref1_Times pf15
  refine JC.seq ?_
  refine JC.region fun b1 => ?_
  refine JS.run 1 (by kernel_rfl) ?_
  refine JS.nil ?_
  refine JC.to2 [(0, .x (.flt a0)), (1, .x (.int .i64 a1))] [] (by kernel_rfl) (by kernel_rfl) ?_
  refine JC.skipT ?_
  refine JC.seq ?_
  refine JC.region fun b2 => ?_
  refine JS.run 5 (by kernel_rfl) ?_
  refine JS.nil ?_
  refine JC.to2 [(4, .x (.flt (fMul a0 (some (FloatKind.f64.nearest a1) : Fl))))] [] (by kernel_rfl) (by kernel_rfl) ?_
  refine JC.skipT ?_
  exact JC.finB (ex := .ret) (vs := [.x (.flt (fMul a0 (some (FloatKind.f64.nearest a1) : Fl)))]) (is := []) rfl ret_ne ⟨(by kernel_rfl), trivial⟩ (Outs.sc rfl Outs.nil)
/-! eyot/eyotref1.Sort -/
def eyotref1_Sort_l1 (a0 : (List Fl)) (x4 : Int) (x5 : (List Fl)) : Nat → Int → Option Int
  | 0, _ => none
  | k + 1, x12 => (cond (decide (x12 > (0 : Int))) ((at? x5 (IntKind.i64.wrap (x12 - (1 : Int)))).bind fun w20 => (at? a0 x4).bind fun w24 => (eyotref1_Order k w20 w24).bind fun r26 => some (decide (r26 > (0 : Int)))) (some false)).bind fun y17 => cond y17 (eyotref1_Sort_l1 a0 x4 x5 k (IntKind.i64.wrap (x12 - (1 : Int)))) (some x12)
theorem eyotref1_Sort_l1_ok (a0 : (List Fl)) (x4 : Int) (x5 : (List Fl))  : ∀ (k : Nat) (x12 : Int) (o13 : Option Nat), JC prog noFr 47 [(0, .c 1 (.lst 1 (a0.map fD))), (3, .ref o13 0 x5.length), (4, .x (.int .i64 x4)), (5, .x (.int .i64 x12))] [⟨o13, 1, vl fD x5⟩] (.loop pf18_L0) (eyotref1_Sort_l1 a0 x4 x5 k x12) (fun x => GotA 47 noFr ((fun v ex E R => ∃ (o14 : Option Nat), ex = (.exit 2) ∧ E = [(0, .c 1 (.lst 1 (a0.map fD))), (3, .ref o14 0 x5.length), (4, .x (.int .i64 x4)), (5, .x (.int .i64 v))] ∧ R = [⟨o14, 1, vl fD x5⟩]) x)) := by
  intro k
  induction k with
  | zero =>
    intro x12 o13
    exact JC.no
  | succ k ih =>
    intro x12 o13
    rw [eyotref1_Sort_l1]
    refine JC.loop ?_
    refine JC.seq ?_
    refine JC.seq ?_
    refine JC.bind (A := fun v ex E R => ∃ (o16 : Option Nat), ex = .normal ∧ E = [(0, .c 1 (.lst 1 (a0.map fD))), (3, .ref o16 0 x5.length), (4, .x (.int .i64 x4)), (5, .x (.int .i64 x12)), (28, .x (.bool v))] ∧ R = [⟨o16, 1, vl fD x5⟩]) ?_ ?_
    · refine JC.region fun b18 => ?_
      refine JS.run 3 (by kernel_rfl) ?_
      refine JS.split (e := (decide (x12 > (0 : Int)))) 16 (by kernel_rfl) (fun h19 => ?_) (fun h19 => ?_)
      · refine JS.run 3 (by kernel_rfl) ?_
        refine JS.idxT (c := fD) (l := x5) (o := o13) (kk := .i64) (z := (IntKind.i64.wrap (x12 - (1 : Int)))) 0 (by kernel_rfl) (by kernel_rfl) (by kernel_rfl) (by kernel_rfl) (by kernel_rfl) (fun id22 w20 e23 h21 => ?_)
        subst e23
        refine JS.loadO (id := id22) (sz := 1) (p := (IntKind.i64.wrap (x12 - (1 : Int))).toNat) (j := 0) (es := (vl fD x5)) (e := (cv fD w20)) 0 (by kernel_rfl) (vl_get h21) (by kernel_rfl) (by kernel_rfl) (by kernel_rfl) (by kernel_rfl) ?_
        refine JS.run 2 (by kernel_rfl) ?_
        refine JS.idxC (c := fD) (l := a0) (n := 1) (kk := .i64) (z := x4) (by kernel_rfl) (by kernel_rfl) (by kernel_rfl) (by kernel_rfl) (fun w24 h25 => ?_)
        refine JS.run 1 (by kernel_rfl) ?_
        refine JS.bind fun r26 h27 => ?_
        refine JS.callQS [] (eyotref1_Order_ok k w20 w24 r26 h27) ⟨rfl, argX (d := (.flt w20)) (by kernel_rfl) (by kernel_rfl), rfl, argX (d := (.flt w24)) (by kernel_rfl) (by kernel_rfl), trivial⟩ (by kernel_rfl) (by kernel_rfl) (by kernel_rfl) ?_
        refine JS.run 2 (by kernel_rfl) ?_
        refine JS.nil ?_
        refine JC.to2 [(0, .c 1 (.lst 1 (a0.map fD))), (3, .ref (some id22) 0 x5.length), (4, .x (.int .i64 x4)), (5, .x (.int .i64 x12)), (28, .x (.bool (decide (r26 > (0 : Int)))))] [⟨(some id22), 1, vl fD x5⟩] (by kernel_rfl) (by kernel_rfl) ?_
        refine JC.to2 [(0, .c 1 (.lst 1 (a0.map fD))), (3, .ref (some id22) 0 x5.length), (4, .x (.int .i64 x4)), (5, .x (.int .i64 x12)), (28, .x (.bool (decide (r26 > (0 : Int)))))] [⟨(some id22), 1, vl fD x5⟩] (by kernel_rfl) (by kernel_rfl) ?_
        exact JC.got (ex := .normal) rfl ⟨(some id22), rfl, rfl, rfl⟩
      · refine JS.run 12 (by kernel_rfl) ?_
        refine JS.nil ?_
        refine JC.to2 [(0, .c 1 (.lst 1 (a0.map fD))), (3, .ref o13 0 x5.length), (4, .x (.int .i64 x4)), (5, .x (.int .i64 x12)), (28, .x (.bool false))] [⟨o13, 1, vl fD x5⟩] (by kernel_rfl) (by kernel_rfl) ?_
        refine JC.to2 [(0, .c 1 (.lst 1 (a0.map fD))), (3, .ref o13 0 x5.length), (4, .x (.int .i64 x4)), (5, .x (.int .i64 x12)), (28, .x (.bool false))] [⟨o13, 1, vl fD x5⟩] (by kernel_rfl) (by kernel_rfl) ?_
        exact JC.got (ex := .normal) rfl ⟨o13, rfl, rfl, rfl⟩
    · rintro y17 ex E' R' hA
      obtain ⟨o16, rfl, rfl, rfl⟩ := hA
      refine JC.to2 [(0, .c 1 (.lst 1 (a0.map fD))), (3, .ref o16 0 x5.length), (4, .x (.int .i64 x4)), (5, .x (.int .i64 x12)), (28, .x (.bool y17))] [⟨o16, 1, vl fD x5⟩] (by kernel_rfl) (by kernel_rfl) ?_
      refine JC.skipT ?_
      refine JC.cond (e := y17) (by kernel_rfl) (fun h28 => ?_) (fun h28 => ?_)
      · refine JC.skipT ?_
        refine JC.block ?_
        refine JC.region fun b29 => ?_
        refine JS.run 3 (by kernel_rfl) ?_
        refine JS.nil ?_
        refine JC.to2 [(0, .c 1 (.lst 1 (a0.map fD))), (3, .ref o16 0 x5.length), (4, .x (.int .i64 x4)), (5, .x (.int .i64 (IntKind.i64.wrap (x12 - (1 : Int)))))] [⟨o16, 1, vl fD x5⟩] (by kernel_rfl) (by kernel_rfl) ?_
        refine JC.skipB ?_
        refine JC.skipL ?_
        refine JC.to2 [(0, .c 1 (.lst 1 (a0.map fD))), (3, .ref o16 0 x5.length), (4, .x (.int .i64 x4)), (5, .x (.int .i64 (IntKind.i64.wrap (x12 - (1 : Int)))))] [⟨o16, 1, vl fD x5⟩] (by kernel_rfl) (by kernel_rfl) ?_
        exact ih (IntKind.i64.wrap (x12 - (1 : Int))) o16
      · refine JC.exitT ?_
        refine JC.exitL ?_
        refine JC.to2 [(0, .c 1 (.lst 1 (a0.map fD))), (3, .ref o16 0 x5.length), (4, .x (.int .i64 x4)), (5, .x (.int .i64 x12))] [⟨o16, 1, vl fD x5⟩] (by kernel_rfl) (by kernel_rfl) ?_
        exact JC.got (ex := (.exit 2)) rfl ⟨o16, rfl, rfl, rfl⟩
def eyotref1_Sort_l0 (a0 : (List Fl)) : Nat → Int → (List Fl) → Option (List Fl)
  | 0, _, _ => none
  | k + 1, x4, x5 => cond (decide (x4 < ((a0.length : Nat) : Int))) ((eyotref1_Sort_l1 a0 x4 x5 k ((x5.length : Nat) : Int)).bind fun y15 => (cutI x5.length none (some y15)).bind fun p32 => room ((([] : List Fl).length) + (List.take (p32.2 - p32.1) (List.drop (0 + p32.1) x5)).length) 8 ((at? a0 x4).bind fun w35 => room (((([] : List Fl) ++ (List.take (p32.2 - p32.1) (List.drop (0 + p32.1) x5))).length) + ([w35] : List Fl).length) 8 ((cutI x5.length (some y15) none).bind fun p39 => room ((((([] : List Fl) ++ (List.take (p32.2 - p32.1) (List.drop (0 + p32.1) x5))) ++ ([w35] : List Fl)).length) + (List.take (p39.2 - p39.1) (List.drop (0 + p39.1) x5)).length) 8 (eyotref1_Sort_l0 a0 k (IntKind.i64.wrap (x4 + (1 : Int))) (((([] : List Fl) ++ (List.take (p32.2 - p32.1) (List.drop (0 + p32.1) x5))) ++ ([w35] : List Fl)) ++ (List.take (p39.2 - p39.1) (List.drop (0 + p39.1) x5))))))) (some x5)
theorem eyotref1_Sort_l0_ok (a0 : (List Fl))  : ∀ (k : Nat) (x4 : Int) (x5 : (List Fl)) (o6 : Option Nat), JC prog noFr 47 [(0, .c 1 (.lst 1 (a0.map fD))), (3, .ref o6 0 x5.length), (4, .x (.int .i64 x4))] [⟨o6, 1, vl fD x5⟩] (.loop pf18_L1) (eyotref1_Sort_l0 a0 k x4 x5) (fun x => GotA 47 noFr ((fun v ex E R => ∃ (o8 : Option Nat), ex = (.exit 0) ∧ E = [(3, .ref o8 0 v.length)] ∧ R = [⟨o8, 1, vl fD v⟩]) x)) := by
  intro k
  induction k with
  | zero =>
    intro x4 x5 o6
    exact JC.no
  | succ k ih =>
    intro x4 x5 o6
    rw [eyotref1_Sort_l0]
    refine JC.loop ?_
    refine JC.seq ?_
    refine JC.seq ?_
    refine JC.region fun b9 => ?_
    refine JS.run 2 (by kernel_rfl) ?_
    refine JS.lenC (c := fD) (l := a0) (n := 1) (sz := 1) (by kernel_rfl) (by kernel_rfl) (by kernel_rfl) ?_
    refine JS.run 1 (by kernel_rfl) ?_
    refine JS.nil ?_
    refine JC.to2 [(0, .c 1 (.lst 1 (a0.map fD))), (3, .ref o6 0 x5.length), (4, .x (.int .i64 x4)), (9, .x (.bool (decide (x4 < ((a0.length : Nat) : Int)))))] [⟨o6, 1, vl fD x5⟩] (by kernel_rfl) (by kernel_rfl) ?_
    refine JC.skipT ?_
    refine JC.cond (e := (decide (x4 < ((a0.length : Nat) : Int)))) (by kernel_rfl) (fun h10 => ?_) (fun h10 => ?_)
    · refine JC.skipT ?_
      refine JC.seq ?_
      refine JC.block ?_
      refine JC.seq ?_
      refine JC.region fun b11 => ?_
      refine JS.run 3 (by kernel_rfl) ?_
      refine JS.nil ?_
      refine JC.to2 [(0, .c 1 (.lst 1 (a0.map fD))), (3, .ref o6 0 x5.length), (4, .x (.int .i64 x4)), (5, .x (.int .i64 ((x5.length : Nat) : Int)))] [⟨o6, 1, vl fD x5⟩] (by kernel_rfl) (by kernel_rfl) ?_
      refine JC.skipT ?_
      refine JC.seq ?_
      refine JC.block ?_
      refine JC.to2 [(0, .c 1 (.lst 1 (a0.map fD))), (3, .ref o6 0 x5.length), (4, .x (.int .i64 x4)), (5, .x (.int .i64 ((x5.length : Nat) : Int)))] [⟨o6, 1, vl fD x5⟩] (by kernel_rfl) (by kernel_rfl) ?_
      refine JC.to2 [(0, .c 1 (.lst 1 (a0.map fD))), (3, .ref o6 0 x5.length), (4, .x (.int .i64 x4)), (5, .x (.int .i64 ((x5.length : Nat) : Int)))] [⟨o6, 1, vl fD x5⟩] (by kernel_rfl) (by kernel_rfl) ?_
      refine JC.bind (A := fun v ex E R => ∃ (o14 : Option Nat), ex = (.exit 2) ∧ E = [(0, .c 1 (.lst 1 (a0.map fD))), (3, .ref o14 0 x5.length), (4, .x (.int .i64 x4)), (5, .x (.int .i64 v))] ∧ R = [⟨o14, 1, vl fD x5⟩]) (eyotref1_Sort_l1_ok a0 x4 x5 k ((x5.length : Nat) : Int) o6) ?_
      rintro y15 ex E' R' hA
      obtain ⟨o14, rfl, rfl, rfl⟩ := hA
      refine JC.to2 [(0, .c 1 (.lst 1 (a0.map fD))), (3, .ref o14 0 x5.length), (4, .x (.int .i64 x4)), (5, .x (.int .i64 y15))] [⟨o14, 1, vl fD x5⟩] (by kernel_rfl) (by kernel_rfl) ?_
      refine JC.exitB ?_
      refine JC.skipT ?_
      refine JC.regionD fun b30 => ?_
      refine JSD.buildSlice (c := fD) ([] : List Fl) (by kernel_rfl) (by kernel_rfl) (by kernel_rfl) (by kernel_rfl) (by kernel_rfl) (by kernel_rfl) (fun id31 => ?_)
      refine JSD.run 2 (by kernel_rfl) ?_
      refine JSD.sliceO (o := o14) (off := 0) (len := x5.length) (es := vl fD x5) (lo' := none) (hi' := (some y15)) 0 (by kernel_rfl) (by kernel_rfl) (by kernel_rfl) (by kernel_rfl) (by kernel_rfl) (by kernel_rfl) (by kernel_rfl) (fun p32 h33 => ?_)
      refine JSD.appG (c := fD) (l := ([] : List Fl)) (k := (List.take (p32.2 - p32.1) (List.drop (0 + p32.1) x5))) (o := (some id31)) 1 (by kernel_rfl) (by kernel_rfl) (srcDW (c := fD) (l := x5) (o := o14) (off := (0 + p32.1)) (len := (p32.2 - p32.1)) 0 (by kernel_rfl) (by kernel_rfl) (by have := (cutI_le h33); simp at this ⊢; omega)) (by kernel_rfl) (by kernel_rfl) (by kernel_rfl) (by kernel_rfl) (by kernel_rfl) (fun o34 => ?_) (fun o34 => ?_)
      · refine JSD.run 2 (by kernel_rfl) ?_
        refine JSD.idxC (c := fD) (l := a0) (n := 1) (kk := .i64) (z := x4) (by kernel_rfl) (by kernel_rfl) (by kernel_rfl) (by kernel_rfl) (by kernel_rfl) (fun w35 h36 => ?_)
        refine JSD.loadC (k := 1) (cs := (fD w35)) (by kernel_rfl) (by kernel_rfl) (by kernel_rfl) (by kernel_rfl) (by kernel_rfl) ?_
        refine JSD.buildSlice (c := fD) ([w35] : List Fl) (by kernel_rfl) (by kernel_rfl) (by kernel_rfl) (by kernel_rfl) (by kernel_rfl) (by kernel_rfl) (fun id37 => ?_)
        refine JSD.appT (c := fD) (l := (([] : List Fl) ++ (List.take (p32.2 - p32.1) (List.drop (0 + p32.1) x5)))) (k := ([w35] : List Fl)) (o := o34) (oy := (some id37)) 1 2 (by kernel_rfl) (by kernel_rfl) (by kernel_rfl) (by kernel_rfl) (fun e => by cases e) (by kernel_rfl) (by kernel_rfl) (by kernel_rfl) (by kernel_rfl) (fun o38 => ?_)
        refine JSD.run 2 (by kernel_rfl) ?_
        refine JSD.sliceO (o := o14) (off := 0) (len := x5.length) (es := vl fD x5) (lo' := (some y15)) (hi' := none) 0 (by kernel_rfl) (by kernel_rfl) (by kernel_rfl) (by kernel_rfl) (by kernel_rfl) (by kernel_rfl) (by kernel_rfl) (fun p39 h40 => ?_)
        refine JSD.appG (c := fD) (l := ((([] : List Fl) ++ (List.take (p32.2 - p32.1) (List.drop (0 + p32.1) x5))) ++ ([w35] : List Fl))) (k := (List.take (p39.2 - p39.1) (List.drop (0 + p39.1) x5))) (o := o38) 1 (by kernel_rfl) (by kernel_rfl) (srcDW (c := fD) (l := x5) (o := o14) (off := (0 + p39.1)) (len := (p39.2 - p39.1)) 0 (by kernel_rfl) (by kernel_rfl) (by have := (cutI_le h40); simp at this ⊢; omega)) (by kernel_rfl) (by kernel_rfl) (by kernel_rfl) (by kernel_rfl) (by kernel_rfl) (fun o41 => ?_) (fun o41 => ?_)
        · refine JSD.run 1 (by kernel_rfl) ?_
          refine JSD.nil ?_
          refine JC.drop 2 ?_
          refine JC.drop 0 ?_
          refine JC.to2 [(0, .c 1 (.lst 1 (a0.map fD))), (3, .ref o41 0 ((((([] : List Fl) ++ (List.take (p32.2 - p32.1) (List.drop (0 + p32.1) x5))) ++ ([w35] : List Fl)) ++ (List.take (p39.2 - p39.1) (List.drop (0 + p39.1) x5))).length)), (4, .x (.int .i64 x4))] [⟨o41, 1, vl fD (((([] : List Fl) ++ (List.take (p32.2 - p32.1) (List.drop (0 + p32.1) x5))) ++ ([w35] : List Fl)) ++ (List.take (p39.2 - p39.1) (List.drop (0 + p39.1) x5)))⟩] (by kernel_rfl) (by kernel_rfl) ?_
          refine JC.skipB ?_
          refine JC.skipT ?_
          refine JC.region fun b42 => ?_
          refine JS.run 3 (by kernel_rfl) ?_
          refine JS.nil ?_
          refine JC.to2 [(0, .c 1 (.lst 1 (a0.map fD))), (3, .ref o41 0 ((((([] : List Fl) ++ (List.take (p32.2 - p32.1) (List.drop (0 + p32.1) x5))) ++ ([w35] : List Fl)) ++ (List.take (p39.2 - p39.1) (List.drop (0 + p39.1) x5))).length)), (4, .x (.int .i64 (IntKind.i64.wrap (x4 + (1 : Int)))))] [⟨o41, 1, vl fD (((([] : List Fl) ++ (List.take (p32.2 - p32.1) (List.drop (0 + p32.1) x5))) ++ ([w35] : List Fl)) ++ (List.take (p39.2 - p39.1) (List.drop (0 + p39.1) x5)))⟩] (by kernel_rfl) (by kernel_rfl) ?_
          refine JC.skipL ?_
          refine JC.to2 [(0, .c 1 (.lst 1 (a0.map fD))), (3, .ref o41 0 ((((([] : List Fl) ++ (List.take (p32.2 - p32.1) (List.drop (0 + p32.1) x5))) ++ ([w35] : List Fl)) ++ (List.take (p39.2 - p39.1) (List.drop (0 + p39.1) x5))).length)), (4, .x (.int .i64 (IntKind.i64.wrap (x4 + (1 : Int)))))] [⟨o41, 1, vl fD (((([] : List Fl) ++ (List.take (p32.2 - p32.1) (List.drop (0 + p32.1) x5))) ++ ([w35] : List Fl)) ++ (List.take (p39.2 - p39.1) (List.drop (0 + p39.1) x5)))⟩] (by kernel_rfl) (by kernel_rfl) ?_
          exact ih (IntKind.i64.wrap (x4 + (1 : Int))) (((([] : List Fl) ++ (List.take (p32.2 - p32.1) (List.drop (0 + p32.1) x5))) ++ ([w35] : List Fl)) ++ (List.take (p39.2 - p39.1) (List.drop (0 + p39.1) x5))) o41
        · refine JSD.run 1 (by kernel_rfl) ?_
          refine JSD.nil ?_
          refine JC.drop 2 ?_
          refine JC.drop 0 ?_
          refine JC.to2 [(0, .c 1 (.lst 1 (a0.map fD))), (3, .ref o41 0 ((((([] : List Fl) ++ (List.take (p32.2 - p32.1) (List.drop (0 + p32.1) x5))) ++ ([w35] : List Fl)) ++ (List.take (p39.2 - p39.1) (List.drop (0 + p39.1) x5))).length)), (4, .x (.int .i64 x4))] [⟨o41, 1, vl fD (((([] : List Fl) ++ (List.take (p32.2 - p32.1) (List.drop (0 + p32.1) x5))) ++ ([w35] : List Fl)) ++ (List.take (p39.2 - p39.1) (List.drop (0 + p39.1) x5)))⟩] (by kernel_rfl) (by kernel_rfl) ?_
          refine JC.skipB ?_
          refine JC.skipT ?_
          refine JC.region fun b42 => ?_
          refine JS.run 3 (by kernel_rfl) ?_
          refine JS.nil ?_
          refine JC.to2 [(0, .c 1 (.lst 1 (a0.map fD))), (3, .ref o41 0 ((((([] : List Fl) ++ (List.take (p32.2 - p32.1) (List.drop (0 + p32.1) x5))) ++ ([w35] : List Fl)) ++ (List.take (p39.2 - p39.1) (List.drop (0 + p39.1) x5))).length)), (4, .x (.int .i64 (IntKind.i64.wrap (x4 + (1 : Int)))))] [⟨o41, 1, vl fD (((([] : List Fl) ++ (List.take (p32.2 - p32.1) (List.drop (0 + p32.1) x5))) ++ ([w35] : List Fl)) ++ (List.take (p39.2 - p39.1) (List.drop (0 + p39.1) x5)))⟩] (by kernel_rfl) (by kernel_rfl) ?_
          refine JC.skipL ?_
          refine JC.to2 [(0, .c 1 (.lst 1 (a0.map fD))), (3, .ref o41 0 ((((([] : List Fl) ++ (List.take (p32.2 - p32.1) (List.drop (0 + p32.1) x5))) ++ ([w35] : List Fl)) ++ (List.take (p39.2 - p39.1) (List.drop (0 + p39.1) x5))).length)), (4, .x (.int .i64 (IntKind.i64.wrap (x4 + (1 : Int)))))] [⟨o41, 1, vl fD (((([] : List Fl) ++ (List.take (p32.2 - p32.1) (List.drop (0 + p32.1) x5))) ++ ([w35] : List Fl)) ++ (List.take (p39.2 - p39.1) (List.drop (0 + p39.1) x5)))⟩] (by kernel_rfl) (by kernel_rfl) ?_
          exact ih (IntKind.i64.wrap (x4 + (1 : Int))) (((([] : List Fl) ++ (List.take (p32.2 - p32.1) (List.drop (0 + p32.1) x5))) ++ ([w35] : List Fl)) ++ (List.take (p39.2 - p39.1) (List.drop (0 + p39.1) x5))) o41
      · refine JSD.run 2 (by kernel_rfl) ?_
        refine JSD.idxC (c := fD) (l := a0) (n := 1) (kk := .i64) (z := x4) (by kernel_rfl) (by kernel_rfl) (by kernel_rfl) (by kernel_rfl) (by kernel_rfl) (fun w35 h36 => ?_)
        refine JSD.loadC (k := 1) (cs := (fD w35)) (by kernel_rfl) (by kernel_rfl) (by kernel_rfl) (by kernel_rfl) (by kernel_rfl) ?_
        refine JSD.buildSlice (c := fD) ([w35] : List Fl) (by kernel_rfl) (by kernel_rfl) (by kernel_rfl) (by kernel_rfl) (by kernel_rfl) (by kernel_rfl) (fun id37 => ?_)
        refine JSD.appT (c := fD) (l := (([] : List Fl) ++ (List.take (p32.2 - p32.1) (List.drop (0 + p32.1) x5)))) (k := ([w35] : List Fl)) (o := o34) (oy := (some id37)) 1 2 (by kernel_rfl) (by kernel_rfl) (by kernel_rfl) (by kernel_rfl) (fun e => by cases e) (by kernel_rfl) (by kernel_rfl) (by kernel_rfl) (by kernel_rfl) (fun o38 => ?_)
        refine JSD.run 2 (by kernel_rfl) ?_
        refine JSD.sliceO (o := o14) (off := 0) (len := x5.length) (es := vl fD x5) (lo' := (some y15)) (hi' := none) 0 (by kernel_rfl) (by kernel_rfl) (by kernel_rfl) (by kernel_rfl) (by kernel_rfl) (by kernel_rfl) (by kernel_rfl) (fun p39 h40 => ?_)
        refine JSD.appG (c := fD) (l := ((([] : List Fl) ++ (List.take (p32.2 - p32.1) (List.drop (0 + p32.1) x5))) ++ ([w35] : List Fl))) (k := (List.take (p39.2 - p39.1) (List.drop (0 + p39.1) x5))) (o := o38) 1 (by kernel_rfl) (by kernel_rfl) (srcDW (c := fD) (l := x5) (o := o14) (off := (0 + p39.1)) (len := (p39.2 - p39.1)) 0 (by kernel_rfl) (by kernel_rfl) (by have := (cutI_le h40); simp at this ⊢; omega)) (by kernel_rfl) (by kernel_rfl) (by kernel_rfl) (by kernel_rfl) (by kernel_rfl) (fun o41 => ?_) (fun o41 => ?_)
        · refine JSD.run 1 (by kernel_rfl) ?_
          refine JSD.nil ?_
          refine JC.drop 2 ?_
          refine JC.drop 0 ?_
          refine JC.to2 [(0, .c 1 (.lst 1 (a0.map fD))), (3, .ref o41 0 ((((([] : List Fl) ++ (List.take (p32.2 - p32.1) (List.drop (0 + p32.1) x5))) ++ ([w35] : List Fl)) ++ (List.take (p39.2 - p39.1) (List.drop (0 + p39.1) x5))).length)), (4, .x (.int .i64 x4))] [⟨o41, 1, vl fD (((([] : List Fl) ++ (List.take (p32.2 - p32.1) (List.drop (0 + p32.1) x5))) ++ ([w35] : List Fl)) ++ (List.take (p39.2 - p39.1) (List.drop (0 + p39.1) x5)))⟩] (by kernel_rfl) (by kernel_rfl) ?_
          refine JC.skipB ?_
          refine JC.skipT ?_
          refine JC.region fun b42 => ?_
          refine JS.run 3 (by kernel_rfl) ?_
          refine JS.nil ?_
          refine JC.to2 [(0, .c 1 (.lst 1 (a0.map fD))), (3, .ref o41 0 ((((([] : List Fl) ++ (List.take (p32.2 - p32.1) (List.drop (0 + p32.1) x5))) ++ ([w35] : List Fl)) ++ (List.take (p39.2 - p39.1) (List.drop (0 + p39.1) x5))).length)), (4, .x (.int .i64 (IntKind.i64.wrap (x4 + (1 : Int)))))] [⟨o41, 1, vl fD (((([] : List Fl) ++ (List.take (p32.2 - p32.1) (List.drop (0 + p32.1) x5))) ++ ([w35] : List Fl)) ++ (List.take (p39.2 - p39.1) (List.drop (0 + p39.1) x5)))⟩] (by kernel_rfl) (by kernel_rfl) ?_
          refine JC.skipL ?_
          refine JC.to2 [(0, .c 1 (.lst 1 (a0.map fD))), (3, .ref o41 0 ((((([] : List Fl) ++ (List.take (p32.2 - p32.1) (List.drop (0 + p32.1) x5))) ++ ([w35] : List Fl)) ++ (List.take (p39.2 - p39.1) (List.drop (0 + p39.1) x5))).length)), (4, .x (.int .i64 (IntKind.i64.wrap (x4 + (1 : Int)))))] [⟨o41, 1, vl fD (((([] : List Fl) ++ (List.take (p32.2 - p32.1) (List.drop (0 + p32.1) x5))) ++ ([w35] : List Fl)) ++ (List.take (p39.2 - p39.1) (List.drop (0 + p39.1) x5)))⟩] (by kernel_rfl) (by kernel_rfl) ?_
          exact ih (IntKind.i64.wrap (x4 + (1 : Int))) (((([] : List Fl) ++ (List.take (p32.2 - p32.1) (List.drop (0 + p32.1) x5))) ++ ([w35] : List Fl)) ++ (List.take (p39.2 - p39.1) (List.drop (0 + p39.1) x5))) o41
        · refine JSD.run 1 (by kernel_rfl) ?_
          refine JSD.nil ?_
          refine JC.drop 2 ?_
          refine JC.drop 0 ?_
          refine JC.to2 [(0, .c 1 (.lst 1 (a0.map fD))), (3, .ref o41 0 ((((([] : List Fl) ++ (List.take (p32.2 - p32.1) (List.drop (0 + p32.1) x5))) ++ ([w35] : List Fl)) ++ (List.take (p39.2 - p39.1) (List.drop (0 + p39.1) x5))).length)), (4, .x (.int .i64 x4))] [⟨o41, 1, vl fD (((([] : List Fl) ++ (List.take (p32.2 - p32.1) (List.drop (0 + p32.1) x5))) ++ ([w35] : List Fl)) ++ (List.take (p39.2 - p39.1) (List.drop (0 + p39.1) x5)))⟩] (by kernel_rfl) (by kernel_rfl) ?_
          refine JC.skipB ?_
          refine JC.skipT ?_
          refine JC.region fun b42 => ?_
          refine JS.run 3 (by kernel_rfl) ?_
          refine JS.nil ?_
          refine JC.to2 [(0, .c 1 (.lst 1 (a0.map fD))), (3, .ref o41 0 ((((([] : List Fl) ++ (List.take (p32.2 - p32.1) (List.drop (0 + p32.1) x5))) ++ ([w35] : List Fl)) ++ (List.take (p39.2 - p39.1) (List.drop (0 + p39.1) x5))).length)), (4, .x (.int .i64 (IntKind.i64.wrap (x4 + (1 : Int)))))] [⟨o41, 1, vl fD (((([] : List Fl) ++ (List.take (p32.2 - p32.1) (List.drop (0 + p32.1) x5))) ++ ([w35] : List Fl)) ++ (List.take (p39.2 - p39.1) (List.drop (0 + p39.1) x5)))⟩] (by kernel_rfl) (by kernel_rfl) ?_
          refine JC.skipL ?_
          refine JC.to2 [(0, .c 1 (.lst 1 (a0.map fD))), (3, .ref o41 0 ((((([] : List Fl) ++ (List.take (p32.2 - p32.1) (List.drop (0 + p32.1) x5))) ++ ([w35] : List Fl)) ++ (List.take (p39.2 - p39.1) (List.drop (0 + p39.1) x5))).length)), (4, .x (.int .i64 (IntKind.i64.wrap (x4 + (1 : Int)))))] [⟨o41, 1, vl fD (((([] : List Fl) ++ (List.take (p32.2 - p32.1) (List.drop (0 + p32.1) x5))) ++ ([w35] : List Fl)) ++ (List.take (p39.2 - p39.1) (List.drop (0 + p39.1) x5)))⟩] (by kernel_rfl) (by kernel_rfl) ?_
          exact ih (IntKind.i64.wrap (x4 + (1 : Int))) (((([] : List Fl) ++ (List.take (p32.2 - p32.1) (List.drop (0 + p32.1) x5))) ++ ([w35] : List Fl)) ++ (List.take (p39.2 - p39.1) (List.drop (0 + p39.1) x5))) o41
    · refine JC.exitT ?_
      refine JC.exitL ?_
      refine JC.to2 [(3, .ref o6 0 x5.length)] [⟨o6, 1, vl fD x5⟩] (by kernel_rfl) (by kernel_rfl) ?_
      exact JC.got (ex := (.exit 0)) rfl ⟨o6, rfl, rfl, rfl⟩
def eyotref1_Sort (k : Nat) (a0 : (List Fl)) : Option (List Fl) :=
  (eyotref1_Sort_l0 a0 k (0 : Int) ([] : List Fl)).bind fun y7 => some y7
theorem eyotref1_Sort_ok (k : Nat) (a0 : (List Fl)) : ∀ r, eyotref1_Sort k a0 = some r → CallOk prog 18 [.c 1 (.lst 1 (a0.map fD))] false [.own 1 (vl fD r)] := by
  refine CallOk.ofB (pf := pf18) (rs := [.tmp 2]) (Res := fun (r : (List Fl)) => [.own 1 (vl fD r)]) rfl rfl rfl rfl rfl ?_
  unfold eyotref1_Sort pf18
  refine JC.seq ?_
  refine JC.region fun b1 => ?_
  refine JS.run 1 (by kernel_rfl) ?_
  refine JS.nil ?_
  refine JC.to2 [(0, .c 1 (.lst 1 (a0.map fD)))] [] (by kernel_rfl) (by kernel_rfl) ?_
  refine JC.skipT ?_
  refine JC.seq ?_
  refine JC.region fun b2 => ?_
  refine JS.run 1 (by kernel_rfl) ?_
  refine JS.nil ?_
  refine JC.to2 [(0, .c 1 (.lst 1 (a0.map fD))), (3, .x .nil)] [] (by kernel_rfl) (by kernel_rfl) ?_
  refine JC.skipT ?_
  refine JC.seq ?_
  refine JC.seq ?_
  refine JC.region fun b3 => ?_
  refine JS.run 1 (by kernel_rfl) ?_
  refine JS.nil ?_
  refine JC.to2 [(0, .c 1 (.lst 1 (a0.map fD))), (3, .x .nil), (4, .x (.int .i64 (0 : Int)))] [] (by kernel_rfl) (by kernel_rfl) ?_
  refine JC.skipT ?_
  refine JC.block ?_
  refine JC.to2 [(0, .c 1 (.lst 1 (a0.map fD))), (3, .x .nil), (4, .x (.int .i64 (0 : Int)))] [] (by kernel_rfl) (by kernel_rfl) ?_
  refine JC.virt 3 1 (by kernel_rfl) ?_
  refine JC.to2 [(0, .c 1 (.lst 1 (a0.map fD))), (3, .ref none 0 (([] : List Fl).length)), (4, .x (.int .i64 (0 : Int)))] [⟨none, 1, vl fD ([] : List Fl)⟩] (by kernel_rfl) (by kernel_rfl) ?_
  refine JC.bind (A := fun v ex E R => ∃ (o8 : Option Nat), ex = (.exit 0) ∧ E = [(3, .ref o8 0 v.length)] ∧ R = [⟨o8, 1, vl fD v⟩]) (eyotref1_Sort_l0_ok a0 k (0 : Int) ([] : List Fl) none) ?_
  rintro y7 ex E' R' hA
  obtain ⟨o8, rfl, rfl, rfl⟩ := hA
  refine JC.to2 [(3, .ref o8 0 y7.length)] [⟨o8, 1, vl fD y7⟩] (by kernel_rfl) (by kernel_rfl) ?_
  refine JC.exitB ?_
  refine JC.skipT ?_
  refine JC.seq ?_
  refine JC.region fun b43 => ?_
  refine JS.run 2 (by kernel_rfl) ?_
  refine JS.nil ?_
  refine JC.to2 [(2, .ref o8 0 y7.length)] [⟨o8, 1, vl fD y7⟩] (by kernel_rfl) (by kernel_rfl) ?_
  refine JC.skipT ?_
  refine JC.relen (o := o8) (off := 0) (n := y7.length) (n' := (vl fD y7).length) 2 (by kernel_rfl) (vl_len _ _).symm ?_
  exact JC.finB (ex := .ret) (vs := [.ref o8 0 (vl fD y7).length]) (is := [0]) rfl ret_ne ⟨(by kernel_rfl), trivial⟩ (Outs.own (i := 0) (by kernel_rfl) (vl_out fun _ => rfl) rfl Outs.nil)
/-! eyot/eyotref1.Least -/
def eyotref1_Least (k : Nat) (a0 : (List Fl)) : Option (Fl × Bool) :=
  (eyotref1_Sort k a0).bind fun r3 => (cond (((r3.length : Nat) : Int) == (0 : Int)) (some true) ((at? r3 (0 : Int)).bind fun w10 => (at? r3 (0 : Int)).bind fun w14 => some (fOrd w10 w14 != some .eq))).bind fun y7 => cond y7 (some ((some 0 : Fl), false)) ((at? r3 (0 : Int)).bind fun w21 => some (w21, true))
theorem eyotref1_Least_ok (k : Nat) (a0 : (List Fl)) : ∀ r, eyotref1_Least k a0 = some r → CallOk prog 9 [.c 1 (.lst 1 (a0.map fD))] true [.sc (.x (.flt r.1)), .sc (.x (.bool r.2))] := by
  refine CallOk.ofB (pf := pf9) (rs := [.tmp 2, .tmp 3]) (Res := fun (r : (Fl × Bool)) => [.sc (.x (.flt r.1)), .sc (.x (.bool r.2))]) rfl rfl rfl rfl rfl ?_
  unfold eyotref1_Least pf9
  refine JC.seq ?_
  refine JC.region fun b1 => ?_
  refine JS.run 2 (by kernel_rfl) ?_
  refine JS.nil ?_
  refine JC.to2 [(0, .c 1 (.lst 1 (a0.map fD)))] [] (by kernel_rfl) (by kernel_rfl) ?_
  refine JC.skipT ?_
  refine JC.seq ?_
  refine JC.region fun b2 => ?_
  refine JS.run 1 (by kernel_rfl) ?_
  refine JS.bind fun r3 h4 => ?_
  refine JS.callK1 [] (eyotref1_Sort_ok k a0 r3 h4) ⟨rfl, argC (n := 1) (by kernel_rfl) (by kernel_rfl) (by kernel_rfl), trivial⟩ ⟨vl_sc (fun _ => rfl), trivial⟩ (by kernel_rfl) (by kernel_rfl) (by kernel_rfl) (by kernel_rfl) (fun o5 => ?_)
  refine JS.relen (o := o5) (off := 0) (n := (vl fD r3).length) (n' := r3.length) 6 (by kernel_rfl) (vl_len _ _) ?_
  refine JS.run 1 (by kernel_rfl) ?_
  refine JS.nil ?_
  refine JC.to2 [(4, .ref o5 0 r3.length)] [⟨o5, 1, vl fD r3⟩] (by kernel_rfl) (by kernel_rfl) ?_
  refine JC.skipT ?_
  refine JC.seq ?_
  refine JC.seq ?_
  refine JC.bind (A := fun v ex E R => ∃ (o6 : Option Nat), ex = .normal ∧ E = [(4, .ref o6 0 r3.length), (18, .x (.bool v))] ∧ R = [⟨o6, 1, vl fD r3⟩]) ?_ ?_
  · refine JC.region fun b8 => ?_
    refine JS.run 4 (by kernel_rfl) ?_
    refine JS.split (e := (((r3.length : Nat) : Int) == (0 : Int))) 10 (by kernel_rfl) (fun h9 => ?_) (fun h9 => ?_)
    · refine JS.run 8 (by kernel_rfl) ?_
      refine JS.nil ?_
      refine JC.to2 [(4, .ref o5 0 r3.length), (18, .x (.bool true))] [⟨o5, 1, vl fD r3⟩] (by kernel_rfl) (by kernel_rfl) ?_
      refine JC.to2 [(4, .ref o5 0 r3.length), (18, .x (.bool true))] [⟨o5, 1, vl fD r3⟩] (by kernel_rfl) (by kernel_rfl) ?_
      exact JC.got (ex := .normal) rfl ⟨o5, rfl, rfl, rfl⟩
    · refine JS.run 1 (by kernel_rfl) ?_
      refine JS.idxT (c := fD) (l := r3) (o := o5) (kk := .i64) (z := (0 : Int)) 0 (by kernel_rfl) (by kernel_rfl) (by kernel_rfl) (by kernel_rfl) (by kernel_rfl) (fun id12 w10 e13 h11 => ?_)
      subst e13
      refine JS.loadO (id := id12) (sz := 1) (p := (0 : Int).toNat) (j := 0) (es := (vl fD r3)) (e := (cv fD w10)) 0 (by kernel_rfl) (vl_get h11) (by kernel_rfl) (by kernel_rfl) (by kernel_rfl) (by kernel_rfl) ?_
      refine JS.run 1 (by kernel_rfl) ?_
      refine JS.idxT (c := fD) (l := r3) (o := (some id12)) (kk := .i64) (z := (0 : Int)) 0 (by kernel_rfl) (by kernel_rfl) (by kernel_rfl) (by kernel_rfl) (by kernel_rfl) (fun id16 w14 e17 h15 => ?_)
      have e17' : id12 = id16 := by injection e17
      subst e17'
      refine JS.loadO (id := id12) (sz := 1) (p := (0 : Int).toNat) (j := 0) (es := (vl fD r3)) (e := (cv fD w14)) 0 (by kernel_rfl) (vl_get h15) (by kernel_rfl) (by kernel_rfl) (by kernel_rfl) (by kernel_rfl) ?_
      refine JS.run 2 (by kernel_rfl) ?_
      refine JS.nil ?_
      refine JC.to2 [(4, .ref (some id12) 0 r3.length), (18, .x (.bool (fOrd w10 w14 != some .eq)))] [⟨(some id12), 1, vl fD r3⟩] (by kernel_rfl) (by kernel_rfl) ?_
      refine JC.to2 [(4, .ref (some id12) 0 r3.length), (18, .x (.bool (fOrd w10 w14 != some .eq)))] [⟨(some id12), 1, vl fD r3⟩] (by kernel_rfl) (by kernel_rfl) ?_
      exact JC.got (ex := .normal) rfl ⟨(some id12), rfl, rfl, rfl⟩
  · rintro y7 ex E' R' hA
    obtain ⟨o6, rfl, rfl, rfl⟩ := hA
    refine JC.to2 [(4, .ref o6 0 r3.length), (18, .x (.bool y7))] [⟨o6, 1, vl fD r3⟩] (by kernel_rfl) (by kernel_rfl) ?_
    refine JC.skipT ?_
    refine JC.cond (e := y7) (by kernel_rfl) (fun h18 => ?_) (fun h18 => ?_)
    · refine JC.seq ?_
      refine JC.region fun b19 => ?_
      refine JS.run 2 (by kernel_rfl) ?_
      refine JS.nil ?_
      refine JC.drop 0 ?_
      refine JC.to2 [(2, .x (.flt (some 0 : Fl))), (3, .x (.bool false))] [] (by kernel_rfl) (by kernel_rfl) ?_
      refine JC.skipT ?_
      refine JC.retT ?_
      exact JC.finB (ex := .ret) (vs := [.x (.flt (some 0 : Fl)), .x (.bool false)]) (is := []) rfl ret_ne ⟨(by kernel_rfl), ⟨(by kernel_rfl), trivial⟩⟩ (Outs.sc rfl (Outs.sc rfl Outs.nil))
    · refine JC.skipT ?_
      refine JC.seq ?_
      refine JC.region fun b20 => ?_
      refine JS.run 1 (by kernel_rfl) ?_
      refine JS.idxT (c := fD) (l := r3) (o := o6) (kk := .i64) (z := (0 : Int)) 0 (by kernel_rfl) (by kernel_rfl) (by kernel_rfl) (by kernel_rfl) (by kernel_rfl) (fun id23 w21 e24 h22 => ?_)
      subst e24
      refine JS.loadO (id := id23) (sz := 1) (p := (0 : Int).toNat) (j := 0) (es := (vl fD r3)) (e := (cv fD w21)) 0 (by kernel_rfl) (vl_get h22) (by kernel_rfl) (by kernel_rfl) (by kernel_rfl) (by kernel_rfl) ?_
      refine JS.run 2 (by kernel_rfl) ?_
      refine JS.nil ?_
      refine JC.drop 0 ?_
      refine JC.to2 [(2, .x (.flt w21)), (3, .x (.bool true))] [] (by kernel_rfl) (by kernel_rfl) ?_
      refine JC.skipT ?_
      exact JC.finB (ex := .ret) (vs := [.x (.flt w21), .x (.bool true)]) (is := []) rfl ret_ne ⟨(by kernel_rfl), ⟨(by kernel_rfl), trivial⟩⟩ (Outs.sc rfl (Outs.sc rfl Outs.nil))
/-! eyot/eyotref1.Most -/
def eyotref1_Most_l0 (r3 : (List Fl)) : Nat → Int → Option (Unit ⊕ Fl)
  | 0, _ => none
  | k + 1, x7 => cond (decide (x7 ≥ (0 : Int))) ((at? r3 x7).bind fun w13 => (at? r3 x7).bind fun w17 => cond (fOrd w13 w17 == some .eq) ((at? r3 x7).bind fun w23 => some (Sum.inr w23)) (eyotref1_Most_l0 r3 k (IntKind.i64.wrap (x7 - (1 : Int))))) (some (Sum.inl ()))
theorem eyotref1_Most_l0_ok (r3 : (List Fl))  : ∀ (k : Nat) (x7 : Int) (o8 : Option Nat), JC prog noFr 28 [(4, .ref o8 0 r3.length), (5, .x (.int .i64 x7))] [⟨o8, 1, vl fD r3⟩] (.loop pf10_L0) (eyotref1_Most_l0 r3 k x7) (fun x => GotA 28 noFr ((fun v ex E R => match v with | Sum.inl v => ex = (.exit 0) ∧ E = [] ∧ R = [] | Sum.inr v => ex = .ret ∧ E = [(2, .x (.flt v)), (3, .x (.bool true))] ∧ R = []) x)) := by
  intro k
  induction k with
  | zero =>
    intro x7 o8
    exact JC.no
  | succ k ih =>
    intro x7 o8
    rw [eyotref1_Most_l0]
    refine JC.loop ?_
    refine JC.seq ?_
    refine JC.seq ?_
    refine JC.region fun b10 => ?_
    refine JS.run 2 (by kernel_rfl) ?_
    refine JS.nil ?_
    refine JC.to2 [(4, .ref o8 0 r3.length), (5, .x (.int .i64 x7)), (12, .x (.bool (decide (x7 ≥ (0 : Int)))))] [⟨o8, 1, vl fD r3⟩] (by kernel_rfl) (by kernel_rfl) ?_
    refine JC.skipT ?_
    refine JC.cond (e := (decide (x7 ≥ (0 : Int)))) (by kernel_rfl) (fun h11 => ?_) (fun h11 => ?_)
    · refine JC.skipT ?_
      refine JC.seq ?_
      refine JC.block ?_
      refine JC.seq ?_
      refine JC.region fun b12 => ?_
      refine JS.run 2 (by kernel_rfl) ?_
      refine JS.idxT (c := fD) (l := r3) (o := o8) (kk := .i64) (z := x7) 0 (by kernel_rfl) (by kernel_rfl) (by kernel_rfl) (by kernel_rfl) (by kernel_rfl) (fun id15 w13 e16 h14 => ?_)
      subst e16
      refine JS.loadO (id := id15) (sz := 1) (p := x7.toNat) (j := 0) (es := (vl fD r3)) (e := (cv fD w13)) 0 (by kernel_rfl) (vl_get h14) (by kernel_rfl) (by kernel_rfl) (by kernel_rfl) (by kernel_rfl) ?_
      refine JS.run 2 (by kernel_rfl) ?_
      refine JS.idxT (c := fD) (l := r3) (o := (some id15)) (kk := .i64) (z := x7) 0 (by kernel_rfl) (by kernel_rfl) (by kernel_rfl) (by kernel_rfl) (by kernel_rfl) (fun id19 w17 e20 h18 => ?_)
      have e20' : id15 = id19 := by injection e20
      subst e20'
      refine JS.loadO (id := id15) (sz := 1) (p := x7.toNat) (j := 0) (es := (vl fD r3)) (e := (cv fD w17)) 0 (by kernel_rfl) (vl_get h18) (by kernel_rfl) (by kernel_rfl) (by kernel_rfl) (by kernel_rfl) ?_
      refine JS.run 1 (by kernel_rfl) ?_
      refine JS.nil ?_
      refine JC.to2 [(4, .ref (some id15) 0 r3.length), (5, .x (.int .i64 x7)), (23, .x (.bool (fOrd w13 w17 == some .eq)))] [⟨(some id15), 1, vl fD r3⟩] (by kernel_rfl) (by kernel_rfl) ?_
      refine JC.skipT ?_
      refine JC.cond (e := (fOrd w13 w17 == some .eq)) (by kernel_rfl) (fun h21 => ?_) (fun h21 => ?_)
      · refine JC.seq ?_
        refine JC.region fun b22 => ?_
        refine JS.run 2 (by kernel_rfl) ?_
        refine JS.idxT (c := fD) (l := r3) (o := (some id15)) (kk := .i64) (z := x7) 0 (by kernel_rfl) (by kernel_rfl) (by kernel_rfl) (by kernel_rfl) (by kernel_rfl) (fun id25 w23 e26 h24 => ?_)
        have e26' : id15 = id25 := by injection e26
        subst e26'
        refine JS.loadO (id := id15) (sz := 1) (p := x7.toNat) (j := 0) (es := (vl fD r3)) (e := (cv fD w23)) 0 (by kernel_rfl) (vl_get h24) (by kernel_rfl) (by kernel_rfl) (by kernel_rfl) (by kernel_rfl) ?_
        refine JS.run 2 (by kernel_rfl) ?_
        refine JS.nil ?_
        refine JC.drop 0 ?_
        refine JC.to2 [(2, .x (.flt w23)), (3, .x (.bool true))] [] (by kernel_rfl) (by kernel_rfl) ?_
        refine JC.skipT ?_
        refine JC.retB ?_
        refine JC.retT ?_
        refine JC.retL ?_
        refine JC.to2 [(2, .x (.flt w23)), (3, .x (.bool true))] [] (by kernel_rfl) (by kernel_rfl) ?_
        exact JC.got (ex := .ret) rfl ⟨rfl, rfl, rfl⟩
      · refine JC.skipB ?_
        refine JC.skipT ?_
        refine JC.region fun b27 => ?_
        refine JS.run 3 (by kernel_rfl) ?_
        refine JS.nil ?_
        refine JC.to2 [(4, .ref (some id15) 0 r3.length), (5, .x (.int .i64 (IntKind.i64.wrap (x7 - (1 : Int)))))] [⟨(some id15), 1, vl fD r3⟩] (by kernel_rfl) (by kernel_rfl) ?_
        refine JC.skipL ?_
        refine JC.to2 [(4, .ref (some id15) 0 r3.length), (5, .x (.int .i64 (IntKind.i64.wrap (x7 - (1 : Int)))))] [⟨(some id15), 1, vl fD r3⟩] (by kernel_rfl) (by kernel_rfl) ?_
        exact ih (IntKind.i64.wrap (x7 - (1 : Int))) (some id15)
    · refine JC.exitT ?_
      refine JC.exitL ?_
      refine JC.drop 0 ?_
      refine JC.to2 [] [] (by kernel_rfl) (by kernel_rfl) ?_
      exact JC.got (ex := (.exit 0)) rfl ⟨rfl, rfl, rfl⟩
def eyotref1_Most (k : Nat) (a0 : (List Fl)) : Option (Fl × Bool) :=
  (eyotref1_Sort k a0).bind fun r3 => (eyotref1_Most_l0 r3 k (IntKind.i64.wrap (((r3.length : Nat) : Int) - (1 : Int)))).bind fun v => (match v with | Sum.inl _ => some ((some 0 : Fl), false) | Sum.inr y9 => some (y9, true))
theorem eyotref1_Most_ok (k : Nat) (a0 : (List Fl)) : ∀ r, eyotref1_Most k a0 = some r → CallOk prog 10 [.c 1 (.lst 1 (a0.map fD))] true [.sc (.x (.flt r.1)), .sc (.x (.bool r.2))] := by
  refine CallOk.ofB (pf := pf10) (rs := [.tmp 2, .tmp 3]) (Res := fun (r : (Fl × Bool)) => [.sc (.x (.flt r.1)), .sc (.x (.bool r.2))]) rfl rfl rfl rfl rfl ?_
  unfold eyotref1_Most pf10
  refine JC.seq ?_
  refine JC.region fun b1 => ?_
  refine JS.run 2 (by kernel_rfl) ?_
  refine JS.nil ?_
  refine JC.to2 [(0, .c 1 (.lst 1 (a0.map fD)))] [] (by kernel_rfl) (by kernel_rfl) ?_
  refine JC.skipT ?_
  refine JC.seq ?_
  refine JC.region fun b2 => ?_
  refine JS.run 1 (by kernel_rfl) ?_
  refine JS.bind fun r3 h4 => ?_
  refine JS.callK1 [] (eyotref1_Sort_ok k a0 r3 h4) ⟨rfl, argC (n := 1) (by kernel_rfl) (by kernel_rfl) (by kernel_rfl), trivial⟩ ⟨vl_sc (fun _ => rfl), trivial⟩ (by kernel_rfl) (by kernel_rfl) (by kernel_rfl) (by kernel_rfl) (fun o5 => ?_)
  refine JS.relen (o := o5) (off := 0) (n := (vl fD r3).length) (n' := r3.length) 7 (by kernel_rfl) (vl_len _ _) ?_
  refine JS.run 1 (by kernel_rfl) ?_
  refine JS.nil ?_
  refine JC.to2 [(4, .ref o5 0 r3.length)] [⟨o5, 1, vl fD r3⟩] (by kernel_rfl) (by kernel_rfl) ?_
  refine JC.skipT ?_
  refine JC.seq ?_
  refine JC.seq ?_
  refine JC.region fun b6 => ?_
  refine JS.run 4 (by kernel_rfl) ?_
  refine JS.nil ?_
  refine JC.to2 [(4, .ref o5 0 r3.length), (5, .x (.int .i64 (IntKind.i64.wrap (((r3.length : Nat) : Int) - (1 : Int)))))] [⟨o5, 1, vl fD r3⟩] (by kernel_rfl) (by kernel_rfl) ?_
  refine JC.skipT ?_
  refine JC.block ?_
  refine JC.to2 [(4, .ref o5 0 r3.length), (5, .x (.int .i64 (IntKind.i64.wrap (((r3.length : Nat) : Int) - (1 : Int)))))] [⟨o5, 1, vl fD r3⟩] (by kernel_rfl) (by kernel_rfl) ?_
  refine JC.to2 [(4, .ref o5 0 r3.length), (5, .x (.int .i64 (IntKind.i64.wrap (((r3.length : Nat) : Int) - (1 : Int)))))] [⟨o5, 1, vl fD r3⟩] (by kernel_rfl) (by kernel_rfl) ?_
  refine JC.bind (A := fun v ex E R => match v with | Sum.inl v => ex = (.exit 0) ∧ E = [] ∧ R = [] | Sum.inr v => ex = .ret ∧ E = [(2, .x (.flt v)), (3, .x (.bool true))] ∧ R = []) (eyotref1_Most_l0_ok r3 k (IntKind.i64.wrap (((r3.length : Nat) : Int) - (1 : Int))) o5) ?_
  rintro v ex E' R' hA
  rcases v with _ | y9
  · obtain ⟨rfl, rfl, rfl⟩ := hA
    refine JC.to2 [] [] (by kernel_rfl) (by kernel_rfl) ?_
    refine JC.exitB ?_
    refine JC.skipT ?_
    refine JC.seq ?_
    refine JC.region fun b28 => ?_
    refine JS.run 2 (by kernel_rfl) ?_
    refine JS.nil ?_
    refine JC.to2 [(2, .x (.flt (some 0 : Fl))), (3, .x (.bool false))] [] (by kernel_rfl) (by kernel_rfl) ?_
    refine JC.skipT ?_
    exact JC.finB (ex := .ret) (vs := [.x (.flt (some 0 : Fl)), .x (.bool false)]) (is := []) rfl ret_ne ⟨(by kernel_rfl), ⟨(by kernel_rfl), trivial⟩⟩ (Outs.sc rfl (Outs.sc rfl Outs.nil))
  · obtain ⟨rfl, rfl, rfl⟩ := hA
    refine JC.to2 [(2, .x (.flt y9)), (3, .x (.bool true))] [] (by kernel_rfl) (by kernel_rfl) ?_
    refine JC.retB ?_
    refine JC.retT ?_
    exact JC.finB (ex := .ret) (vs := [.x (.flt y9), .x (.bool true)]) (is := []) rfl ret_ne ⟨(by kernel_rfl), ⟨(by kernel_rfl), trivial⟩⟩ (Outs.sc rfl (Outs.sc rfl Outs.nil))
/-! eyot/eyotlaw2.begun -/
def eyotlaw2_begun (k : Nat)  : Option Bool :=
  (fold_Least k ([(some 4611686018427387904 : Fl), (some 4607182418800017408 : Fl)] : List Fl)).bind fun r4 => (fold_Most k ([(some 4611686018427387904 : Fl), (some 4607182418800017408 : Fl)] : List Fl)).bind fun r8 => ((fold_Sum k ([(some 4607182418800017408 : Fl), (some 4611686018427387904 : Fl)] : List Fl)).bind fun r13 => cond (fOrd r13 (some 4613937818241073152 : Fl) == some .eq) ((fold_Times k (some 4611686018427387904 : Fl) (3 : Int)).bind fun r16 => cond (fOrd r16 (some 4618441417868443648 : Fl) == some .eq) (cond r4.2 (cond (fOrd r4.1 (some 4607182418800017408 : Fl) == some .eq) (cond r8.2 (cond (fOrd r8.1 (some 4611686018427387904 : Fl) == some .eq) ((fold_Sort k ([(some 4607182418800017408 : Fl)] : List Fl)).bind fun r24 => some (((r24.length : Nat) : Int) == (1 : Int))) (some false)) (some false)) (some false)) (some false)) (some false)) (some false)).bind fun y10 => some y10
theorem eyotlaw2_begun_ok (k : Nat)  : ∀ r, eyotlaw2_begun k = some r → CallOk prog 6 [] false [.sc (.x (.bool r))] := by
  refine CallOk.ofB (pf := pf6) (rs := [.tmp 0]) (Res := fun (r : Bool) => [.sc (.x (.bool r))]) rfl rfl rfl rfl rfl ?_
  unfold eyotlaw2_begun pf6
  refine JC.seq ?_
  refine JC.region fun b1 => ?_
  refine JS.run 1 (by kernel_rfl) ?_
  refine JS.nil ?_
  refine JC.to2 [] [] (by kernel_rfl) (by kernel_rfl) ?_
  refine JC.skipT ?_
  refine JC.seq ?_
  refine JC.region fun b2 => ?_
  refine JS.buildSlice (c := fD) ([(some 4611686018427387904 : Fl), (some 4607182418800017408 : Fl)] : List Fl) (by kernel_rfl) (by kernel_rfl) (by kernel_rfl) (by kernel_rfl) (by kernel_rfl) (fun id3 => ?_)
  refine JS.bind fun r4 h5 => ?_
  refine JS.callS [0] (fold_Least_ok k ([(some 4611686018427387904 : Fl), (some 4607182418800017408 : Fl)] : List Fl) r4 h5) ⟨rfl, argT (c := fD) (l := ([(some 4611686018427387904 : Fl), (some 4607182418800017408 : Fl)] : List Fl)) (o := (some id3)) 0 (by kernel_rfl) (by kernel_rfl) (by kernel_rfl) (fun _ => rfl), trivial⟩ (by kernel_rfl) (by kernel_rfl) (by kernel_rfl) ?_
  refine JS.run 5 (by kernel_rfl) ?_
  refine JS.nil ?_
  refine JC.drop 0 ?_
  refine JC.to2 [(1, .x (.flt r4.1)), (2, .x (.bool r4.2))] [] (by kernel_rfl) (by kernel_rfl) ?_
  refine JC.skipT ?_
  refine JC.seq ?_
  refine JC.region fun b6 => ?_
  refine JS.buildSlice (c := fD) ([(some 4611686018427387904 : Fl), (some 4607182418800017408 : Fl)] : List Fl) (by kernel_rfl) (by kernel_rfl) (by kernel_rfl) (by kernel_rfl) (by kernel_rfl) (fun id7 => ?_)
  refine JS.bind fun r8 h9 => ?_
  refine JS.callS [0] (fold_Most_ok k ([(some 4611686018427387904 : Fl), (some 4607182418800017408 : Fl)] : List Fl) r8 h9) ⟨rfl, argT (c := fD) (l := ([(some 4611686018427387904 : Fl), (some 4607182418800017408 : Fl)] : List Fl)) (o := (some id7)) 0 (by kernel_rfl) (by kernel_rfl) (by kernel_rfl) (fun _ => rfl), trivial⟩ (by kernel_rfl) (by kernel_rfl) (by kernel_rfl) ?_
  refine JS.run 5 (by kernel_rfl) ?_
  refine JS.nil ?_
  refine JC.drop 0 ?_
  refine JC.to2 [(1, .x (.flt r4.1)), (2, .x (.bool r4.2)), (3, .x (.flt r8.1)), (4, .x (.bool r8.2))] [] (by kernel_rfl) (by kernel_rfl) ?_
  refine JC.skipT ?_
  refine JC.seq ?_
  refine JC.bind (A := fun v ex E R => ex = .normal ∧ E = [(0, .x (.bool v))] ∧ R = []) ?_ ?_
  · refine JC.region fun b11 => ?_
    refine JS.buildSlice (c := fD) ([(some 4607182418800017408 : Fl), (some 4611686018427387904 : Fl)] : List Fl) (by kernel_rfl) (by kernel_rfl) (by kernel_rfl) (by kernel_rfl) (by kernel_rfl) (fun id12 => ?_)
    refine JS.bind fun r13 h14 => ?_
    refine JS.callS [0] (fold_Sum_ok k ([(some 4607182418800017408 : Fl), (some 4611686018427387904 : Fl)] : List Fl) r13 h14) ⟨rfl, argT (c := fD) (l := ([(some 4607182418800017408 : Fl), (some 4611686018427387904 : Fl)] : List Fl)) (o := (some id12)) 0 (by kernel_rfl) (by kernel_rfl) (by kernel_rfl) (fun _ => rfl), trivial⟩ (by kernel_rfl) (by kernel_rfl) (by kernel_rfl) ?_
    refine JS.run 2 (by kernel_rfl) ?_
    refine JS.split (e := (fOrd r13 (some 4613937818241073152 : Fl) == some .eq)) 18 (by kernel_rfl) (fun h15 => ?_) (fun h15 => ?_)
    · refine JS.bind fun r16 h17 => ?_
      refine JS.callS [] (fold_Times_ok k (some 4611686018427387904 : Fl) (3 : Int) r16 h17) ⟨rfl, argX (d := (.flt (some 4611686018427387904 : Fl))) (by kernel_rfl) (by kernel_rfl), rfl, argX (d := (.int .i64 (3 : Int))) (by kernel_rfl) (by kernel_rfl), trivial⟩ (by kernel_rfl) (by kernel_rfl) (by kernel_rfl) ?_
      refine JS.run 3 (by kernel_rfl) ?_
      refine JS.split (e := (fOrd r16 (some 4618441417868443648 : Fl) == some .eq)) 22 (by kernel_rfl) (fun h18 => ?_) (fun h18 => ?_)
      · refine JS.run 3 (by kernel_rfl) ?_
        refine JS.split (e := r4.2) 25 (by kernel_rfl) (fun h19 => ?_) (fun h19 => ?_)
        · refine JS.run 4 (by kernel_rfl) ?_
          refine JS.split (e := (fOrd r4.1 (some 4607182418800017408 : Fl) == some .eq)) 29 (by kernel_rfl) (fun h20 => ?_) (fun h20 => ?_)
          · refine JS.run 3 (by kernel_rfl) ?_
            refine JS.split (e := r8.2) 32 (by kernel_rfl) (fun h21 => ?_) (fun h21 => ?_)
            · refine JS.run 4 (by kernel_rfl) ?_
              refine JS.split (e := (fOrd r8.1 (some 4611686018427387904 : Fl) == some .eq)) 36 (by kernel_rfl) (fun h22 => ?_) (fun h22 => ?_)
              · refine JS.buildSlice (c := fD) ([(some 4607182418800017408 : Fl)] : List Fl) (by kernel_rfl) (by kernel_rfl) (by kernel_rfl) (by kernel_rfl) (by kernel_rfl) (fun id23 => ?_)
                refine JS.bind fun r24 h25 => ?_
                refine JS.callK1 [1] (fold_Sort_ok k ([(some 4607182418800017408 : Fl)] : List Fl) r24 h25) ⟨rfl, argT (c := fD) (l := ([(some 4607182418800017408 : Fl)] : List Fl)) (o := (some id23)) 1 (by kernel_rfl) (by kernel_rfl) (by kernel_rfl) (fun _ => rfl), trivial⟩ ⟨vl_sc (fun _ => rfl), trivial⟩ (by kernel_rfl) (by kernel_rfl) (by kernel_rfl) (by kernel_rfl) (fun o26 => ?_)
                refine JS.relen (o := o26) (off := 0) (n := (vl fD r24).length) (n' := r24.length) 38 (by kernel_rfl) (vl_len _ _) ?_
                refine JS.run 4 (by kernel_rfl) ?_
                refine JS.nil ?_
                refine JC.drop 2 ?_
                refine JC.drop 1 ?_
                refine JC.drop 0 ?_
                refine JC.to2 [(0, .x (.bool (((r24.length : Nat) : Int) == (1 : Int))))] [] (by kernel_rfl) (by kernel_rfl) ?_
                refine JC.to2 [(0, .x (.bool (((r24.length : Nat) : Int) == (1 : Int))))] [] (by kernel_rfl) (by kernel_rfl) ?_
                exact JC.got (ex := .normal) rfl ⟨rfl, rfl, rfl⟩
              · refine JS.run 6 (by kernel_rfl) ?_
                refine JS.nil ?_
                refine JC.drop 0 ?_
                refine JC.to2 [(0, .x (.bool false))] [] (by kernel_rfl) (by kernel_rfl) ?_
                refine JC.to2 [(0, .x (.bool false))] [] (by kernel_rfl) (by kernel_rfl) ?_
                exact JC.got (ex := .normal) rfl ⟨rfl, rfl, rfl⟩
            · refine JS.run 10 (by kernel_rfl) ?_
              refine JS.nil ?_
              refine JC.drop 0 ?_
              refine JC.to2 [(0, .x (.bool false))] [] (by kernel_rfl) (by kernel_rfl) ?_
              refine JC.to2 [(0, .x (.bool false))] [] (by kernel_rfl) (by kernel_rfl) ?_
              exact JC.got (ex := .normal) rfl ⟨rfl, rfl, rfl⟩
          · refine JS.run 13 (by kernel_rfl) ?_
            refine JS.nil ?_
            refine JC.drop 0 ?_
            refine JC.to2 [(0, .x (.bool false))] [] (by kernel_rfl) (by kernel_rfl) ?_
            refine JC.to2 [(0, .x (.bool false))] [] (by kernel_rfl) (by kernel_rfl) ?_
            exact JC.got (ex := .normal) rfl ⟨rfl, rfl, rfl⟩
        · refine JS.run 17 (by kernel_rfl) ?_
          refine JS.nil ?_
          refine JC.drop 0 ?_
          refine JC.to2 [(0, .x (.bool false))] [] (by kernel_rfl) (by kernel_rfl) ?_
          refine JC.to2 [(0, .x (.bool false))] [] (by kernel_rfl) (by kernel_rfl) ?_
          exact JC.got (ex := .normal) rfl ⟨rfl, rfl, rfl⟩
      · refine JS.run 20 (by kernel_rfl) ?_
        refine JS.nil ?_
        refine JC.drop 0 ?_
        refine JC.to2 [(0, .x (.bool false))] [] (by kernel_rfl) (by kernel_rfl) ?_
        refine JC.to2 [(0, .x (.bool false))] [] (by kernel_rfl) (by kernel_rfl) ?_
        exact JC.got (ex := .normal) rfl ⟨rfl, rfl, rfl⟩
    · refine JS.run 24 (by kernel_rfl) ?_
      refine JS.nil ?_
      refine JC.drop 0 ?_
      refine JC.to2 [(0, .x (.bool false))] [] (by kernel_rfl) (by kernel_rfl) ?_
      refine JC.to2 [(0, .x (.bool false))] [] (by kernel_rfl) (by kernel_rfl) ?_
      exact JC.got (ex := .normal) rfl ⟨rfl, rfl, rfl⟩
  · rintro y10 ex E' R' hA
    obtain ⟨rfl, rfl, rfl⟩ := hA
    refine JC.to2 [(0, .x (.bool y10))] [] (by kernel_rfl) (by kernel_rfl) ?_
    refine JC.skipT ?_
    exact JC.finB (ex := .ret) (vs := [.x (.bool y10)]) (is := []) rfl ret_ne ⟨(by kernel_rfl), trivial⟩ (Outs.sc rfl Outs.nil)
/-! eyot/eyotlaw2.FoldAll -/
def eyotlaw2_FoldAll (k : Nat) (a0 : (List Fl)) (a1 : Fl) (a2 : Int) : Option Bool :=
  (eyotlaw2_begun k).bind fun r3 => cond (!r3) (some false) (cond (decide (((a0.length : Nat) : Int) > (30 : Int))) (some true) ((fold_Least k a0).bind fun r11 => (fold_Most k a0).bind fun r14 => (eyotref1_Least k a0).bind fun r17 => (eyotref1_Most k a0).bind fun r20 => ((fold_Sum k a0).bind fun r25 => (eyotref1_Sum k a0).bind fun r27 => (eyotref1_Same k r25 r27).bind fun r29 => cond r29 ((fold_Times k a1 a2).bind fun r32 => (eyotref1_Times k a1 a2).bind fun r34 => (eyotref1_Same k r32 r34).bind fun r36 => cond r36 (cond (r11.2 == r17.2) ((eyotref1_Same k r11.1 r17.1).bind fun r40 => cond r40 (cond (r14.2 == r20.2) ((eyotref1_Same k r14.1 r20.1).bind fun r44 => cond r44 ((fold_Sort k a0).bind fun r47 => (eyotref1_Sort k a0).bind fun r50 => (eyotref1_SameAll k r47 r50).bind fun r53 => some r53) (some false)) (some false)) (some false)) (some false)) (some false)) (some false)).bind fun y23 => some y23))
theorem eyotlaw2_FoldAll_ok (k : Nat) (a0 : (List Fl)) (a1 : Fl) (a2 : Int) : ∀ r, eyotlaw2_FoldAll k a0 a1 a2 = some r → CallOk prog 0 [.c 1 (.lst 1 (a0.map fD)), .x (.flt a1), .x (.int .i64 a2)] false [.sc (.x (.bool r))] := by
  refine CallOk.ofB (pf := pf0) (rs := [.tmp 6]) (Res := fun (r : Bool) => [.sc (.x (.bool r))]) rfl rfl rfl rfl rfl ?_
  unfold eyotlaw2_FoldAll pf0
  refine JC.seq ?_
  refine JC.region fun b1 => ?_
  refine JS.run 1 (by kernel_rfl) ?_
  refine JS.nil ?_
  refine JC.to2 [(0, .c 1 (.lst 1 (a0.map fD))), (1, .x (.flt a1)), (2, .x (.int .i64 a2))] [] (by kernel_rfl) (by kernel_rfl) ?_
  refine JC.skipT ?_
  refine JC.seq ?_
  refine JC.seq ?_
  refine JC.region fun b2 => ?_
  refine JS.bind fun r3 h4 => ?_
  refine JS.callS [] (eyotlaw2_begun_ok k r3 h4) trivial (by kernel_rfl) (by kernel_rfl) (by kernel_rfl) ?_
  refine JS.run 1 (by kernel_rfl) ?_
  refine JS.nil ?_
  refine JC.to2 [(0, .c 1 (.lst 1 (a0.map fD))), (1, .x (.flt a1)), (2, .x (.int .i64 a2)), (17, .x (.bool (!r3)))] [] (by kernel_rfl) (by kernel_rfl) ?_
  refine JC.skipT ?_
  refine JC.cond (e := (!r3)) (by kernel_rfl) (fun h5 => ?_) (fun h5 => ?_)
  · refine JC.seq ?_
    refine JC.region fun b6 => ?_
    refine JS.run 1 (by kernel_rfl) ?_
    refine JS.nil ?_
    refine JC.to2 [(6, .x (.bool false))] [] (by kernel_rfl) (by kernel_rfl) ?_
    refine JC.skipT ?_
    refine JC.retT ?_
    exact JC.finB (ex := .ret) (vs := [.x (.bool false)]) (is := []) rfl ret_ne ⟨(by kernel_rfl), trivial⟩ (Outs.sc rfl Outs.nil)
  · refine JC.skipT ?_
    refine JC.seq ?_
    refine JC.seq ?_
    refine JC.region fun b7 => ?_
    refine JS.run 1 (by kernel_rfl) ?_
    refine JS.lenC (c := fD) (l := a0) (n := 1) (sz := 1) (by kernel_rfl) (by kernel_rfl) (by kernel_rfl) ?_
    refine JS.run 1 (by kernel_rfl) ?_
    refine JS.nil ?_
    refine JC.to2 [(0, .c 1 (.lst 1 (a0.map fD))), (1, .x (.flt a1)), (2, .x (.int .i64 a2)), (20, .x (.bool (decide (((a0.length : Nat) : Int) > (30 : Int)))))] [] (by kernel_rfl) (by kernel_rfl) ?_
    refine JC.skipT ?_
    refine JC.cond (e := (decide (((a0.length : Nat) : Int) > (30 : Int)))) (by kernel_rfl) (fun h8 => ?_) (fun h8 => ?_)
    · refine JC.seq ?_
      refine JC.region fun b9 => ?_
      refine JS.run 1 (by kernel_rfl) ?_
      refine JS.nil ?_
      refine JC.to2 [(6, .x (.bool true))] [] (by kernel_rfl) (by kernel_rfl) ?_
      refine JC.skipT ?_
      refine JC.retT ?_
      exact JC.finB (ex := .ret) (vs := [.x (.bool true)]) (is := []) rfl ret_ne ⟨(by kernel_rfl), trivial⟩ (Outs.sc rfl Outs.nil)
    · refine JC.skipT ?_
      refine JC.seq ?_
      refine JC.region fun b10 => ?_
      refine JS.run 1 (by kernel_rfl) ?_
      refine JS.bind fun r11 h12 => ?_
      refine JS.callS [] (fold_Least_ok k a0 r11 h12) ⟨rfl, argC (n := 1) (by kernel_rfl) (by kernel_rfl) (by kernel_rfl), trivial⟩ (by kernel_rfl) (by kernel_rfl) (by kernel_rfl) ?_
      refine JS.run 5 (by kernel_rfl) ?_
      refine JS.nil ?_
      refine JC.to2 [(0, .c 1 (.lst 1 (a0.map fD))), (1, .x (.flt a1)), (2, .x (.int .i64 a2)), (7, .x (.flt r11.1)), (8, .x (.bool r11.2))] [] (by kernel_rfl) (by kernel_rfl) ?_
      refine JC.skipT ?_
      refine JC.seq ?_
      refine JC.region fun b13 => ?_
      refine JS.run 1 (by kernel_rfl) ?_
      refine JS.bind fun r14 h15 => ?_
      refine JS.callS [] (fold_Most_ok k a0 r14 h15) ⟨rfl, argC (n := 1) (by kernel_rfl) (by kernel_rfl) (by kernel_rfl), trivial⟩ (by kernel_rfl) (by kernel_rfl) (by kernel_rfl) ?_
      refine JS.run 5 (by kernel_rfl) ?_
      refine JS.nil ?_
      refine JC.to2 [(0, .c 1 (.lst 1 (a0.map fD))), (1, .x (.flt a1)), (2, .x (.int .i64 a2)), (7, .x (.flt r11.1)), (8, .x (.bool r11.2)), (9, .x (.flt r14.1)), (10, .x (.bool r14.2))] [] (by kernel_rfl) (by kernel_rfl) ?_
      refine JC.skipT ?_
      refine JC.seq ?_
      refine JC.region fun b16 => ?_
      refine JS.run 1 (by kernel_rfl) ?_
      refine JS.bind fun r17 h18 => ?_
      refine JS.callS [] (eyotref1_Least_ok k a0 r17 h18) ⟨rfl, argC (n := 1) (by kernel_rfl) (by kernel_rfl) (by kernel_rfl), trivial⟩ (by kernel_rfl) (by kernel_rfl) (by kernel_rfl) ?_
      refine JS.run 5 (by kernel_rfl) ?_
      refine JS.nil ?_
      refine JC.to2 [(0, .c 1 (.lst 1 (a0.map fD))), (1, .x (.flt a1)), (2, .x (.int .i64 a2)), (7, .x (.flt r11.1)), (8, .x (.bool r11.2)), (9, .x (.flt r14.1)), (10, .x (.bool r14.2)), (11, .x (.flt r17.1)), (12, .x (.bool r17.2))] [] (by kernel_rfl) (by kernel_rfl) ?_
      refine JC.skipT ?_
      refine JC.seq ?_
      refine JC.region fun b19 => ?_
      refine JS.run 1 (by kernel_rfl) ?_
      refine JS.bind fun r20 h21 => ?_
      refine JS.callS [] (eyotref1_Most_ok k a0 r20 h21) ⟨rfl, argC (n := 1) (by kernel_rfl) (by kernel_rfl) (by kernel_rfl), trivial⟩ (by kernel_rfl) (by kernel_rfl) (by kernel_rfl) ?_
      refine JS.run 5 (by kernel_rfl) ?_
      refine JS.nil ?_
      refine JC.to2 [(0, .c 1 (.lst 1 (a0.map fD))), (1, .x (.flt a1)), (2, .x (.int .i64 a2)), (7, .x (.flt r11.1)), (8, .x (.bool r11.2)), (9, .x (.flt r14.1)), (10, .x (.bool r14.2)), (11, .x (.flt r17.1)), (12, .x (.bool r17.2)), (13, .x (.flt r20.1)), (14, .x (.bool r20.2))] [] (by kernel_rfl) (by kernel_rfl) ?_
      refine JC.skipT ?_
      refine JC.seq ?_
      refine JC.region fun b22 => ?_
      refine JS.run 1 (by kernel_rfl) ?_
      refine JS.nil ?_
      refine JC.to2 [(0, .c 1 (.lst 1 (a0.map fD))), (1, .x (.flt a1)), (2, .x (.int .i64 a2)), (7, .x (.flt r11.1)), (8, .x (.bool r11.2)), (9, .x (.flt r14.1)), (10, .x (.bool r14.2)), (11, .x (.flt r17.1)), (12, .x (.bool r17.2)), (13, .x (.flt r20.1)), (14, .x (.bool r20.2)), (15, .x (.fn 11))] [] (by kernel_rfl) (by kernel_rfl) ?_
      refine JC.skipT ?_
      refine JC.seq ?_
      refine JC.bind (A := fun v ex E R => ex = .normal ∧ E = [(6, .x (.bool v))] ∧ R = []) ?_ ?_
      · refine JC.region fun b24 => ?_
        refine JS.run 2 (by kernel_rfl) ?_
        refine JS.bind fun r25 h26 => ?_
        refine JS.callS [] (fold_Sum_ok k a0 r25 h26) ⟨rfl, argC (n := 1) (by kernel_rfl) (by kernel_rfl) (by kernel_rfl), trivial⟩ (by kernel_rfl) (by kernel_rfl) (by kernel_rfl) ?_
        refine JS.run 1 (by kernel_rfl) ?_
        refine JS.bind fun r27 h28 => ?_
        refine JS.callS [] (eyotref1_Sum_ok k a0 r27 h28) ⟨rfl, argC (n := 1) (by kernel_rfl) (by kernel_rfl) (by kernel_rfl), trivial⟩ (by kernel_rfl) (by kernel_rfl) (by kernel_rfl) ?_
        refine JS.toCallQ (p := 11) (by kernel_rfl) (by kernel_rfl) ?_
        refine JS.bind fun r29 h30 => ?_
        refine JS.callQS [] (eyotref1_Same_ok k r25 r27 r29 h30) ⟨rfl, argX (d := (.flt r25)) (by kernel_rfl) (by kernel_rfl), rfl, argX (d := (.flt r27)) (by kernel_rfl) (by kernel_rfl), trivial⟩ (by kernel_rfl) (by kernel_rfl) (by kernel_rfl) ?_
        refine JS.run 1 (by kernel_rfl) ?_
        refine JS.split (e := r29) 47 (by kernel_rfl) (fun h31 => ?_) (fun h31 => ?_)
        · refine JS.run 3 (by kernel_rfl) ?_
          refine JS.bind fun r32 h33 => ?_
          refine JS.callS [] (fold_Times_ok k a1 a2 r32 h33) ⟨rfl, argX (d := (.flt a1)) (by kernel_rfl) (by kernel_rfl), rfl, argX (d := (.int .i64 a2)) (by kernel_rfl) (by kernel_rfl), trivial⟩ (by kernel_rfl) (by kernel_rfl) (by kernel_rfl) ?_
          refine JS.run 2 (by kernel_rfl) ?_
          refine JS.bind fun r34 h35 => ?_
          refine JS.callS [] (eyotref1_Times_ok k a1 a2 r34 h35) ⟨rfl, argX (d := (.flt a1)) (by kernel_rfl) (by kernel_rfl), rfl, argX (d := (.int .i64 a2)) (by kernel_rfl) (by kernel_rfl), trivial⟩ (by kernel_rfl) (by kernel_rfl) (by kernel_rfl) ?_
          refine JS.toCallQ (p := 11) (by kernel_rfl) (by kernel_rfl) ?_
          refine JS.bind fun r36 h37 => ?_
          refine JS.callQS [] (eyotref1_Same_ok k r32 r34 r36 h37) ⟨rfl, argX (d := (.flt r32)) (by kernel_rfl) (by kernel_rfl), rfl, argX (d := (.flt r34)) (by kernel_rfl) (by kernel_rfl), trivial⟩ (by kernel_rfl) (by kernel_rfl) (by kernel_rfl) ?_
          refine JS.run 2 (by kernel_rfl) ?_
          refine JS.split (e := r36) 57 (by kernel_rfl) (fun h38 => ?_) (fun h38 => ?_)
          · refine JS.run 5 (by kernel_rfl) ?_
            refine JS.split (e := (r11.2 == r17.2)) 62 (by kernel_rfl) (fun h39 => ?_) (fun h39 => ?_)
            · refine JS.run 3 (by kernel_rfl) ?_
              refine JS.toCallQ (p := 11) (by kernel_rfl) (by kernel_rfl) ?_
              refine JS.bind fun r40 h41 => ?_
              refine JS.callQS [] (eyotref1_Same_ok k r11.1 r17.1 r40 h41) ⟨rfl, argX (d := (.flt r11.1)) (by kernel_rfl) (by kernel_rfl), rfl, argX (d := (.flt r17.1)) (by kernel_rfl) (by kernel_rfl), trivial⟩ (by kernel_rfl) (by kernel_rfl) (by kernel_rfl) ?_
              refine JS.run 2 (by kernel_rfl) ?_
              refine JS.split (e := r40) 68 (by kernel_rfl) (fun h42 => ?_) (fun h42 => ?_)
              · refine JS.run 5 (by kernel_rfl) ?_
                refine JS.split (e := (r14.2 == r20.2)) 73 (by kernel_rfl) (fun h43 => ?_) (fun h43 => ?_)
                · refine JS.run 3 (by kernel_rfl) ?_
                  refine JS.toCallQ (p := 11) (by kernel_rfl) (by kernel_rfl) ?_
                  refine JS.bind fun r44 h45 => ?_
                  refine JS.callQS [] (eyotref1_Same_ok k r14.1 r20.1 r44 h45) ⟨rfl, argX (d := (.flt r14.1)) (by kernel_rfl) (by kernel_rfl), rfl, argX (d := (.flt r20.1)) (by kernel_rfl) (by kernel_rfl), trivial⟩ (by kernel_rfl) (by kernel_rfl) (by kernel_rfl) ?_
                  refine JS.run 2 (by kernel_rfl) ?_
                  refine JS.split (e := r44) 79 (by kernel_rfl) (fun h46 => ?_) (fun h46 => ?_)
                  · refine JS.run 1 (by kernel_rfl) ?_
                    refine JS.bind fun r47 h48 => ?_
                    refine JS.callK1 [] (fold_Sort_ok k a0 r47 h48) ⟨rfl, argC (n := 1) (by kernel_rfl) (by kernel_rfl) (by kernel_rfl), trivial⟩ ⟨vl_sc (fun _ => rfl), trivial⟩ (by kernel_rfl) (by kernel_rfl) (by kernel_rfl) (by kernel_rfl) (fun o49 => ?_)
                    refine JS.relen (o := o49) (off := 0) (n := (vl fD r47).length) (n' := r47.length) 81 (by kernel_rfl) (vl_len _ _) ?_
                    refine JS.run 1 (by kernel_rfl) ?_
                    refine JS.bind fun r50 h51 => ?_
                    refine JS.callK1 [] (eyotref1_Sort_ok k a0 r50 h51) ⟨rfl, argC (n := 1) (by kernel_rfl) (by kernel_rfl) (by kernel_rfl), trivial⟩ ⟨vl_sc (fun _ => rfl), trivial⟩ (by kernel_rfl) (by kernel_rfl) (by kernel_rfl) (by kernel_rfl) (fun o52 => ?_)
                    refine JS.relen (o := o52) (off := 0) (n := (vl fD r50).length) (n' := r50.length) 83 (by kernel_rfl) (vl_len _ _) ?_
                    refine JS.bind fun r53 h54 => ?_
                    refine JS.callS [0, 1] (eyotref1_SameAll_ok k r47 r50 r53 h54) ⟨rfl, argT (c := fD) (l := r47) (o := o49) 0 (by kernel_rfl) (by kernel_rfl) (by kernel_rfl) (fun _ => rfl), rfl, argT (c := fD) (l := r50) (o := o52) 1 (by kernel_rfl) (by kernel_rfl) (by kernel_rfl) (fun _ => rfl), trivial⟩ (by kernel_rfl) (by kernel_rfl) (by kernel_rfl) ?_
                    refine JS.run 2 (by kernel_rfl) ?_
                    refine JS.nil ?_
                    refine JC.drop 1 ?_
                    refine JC.drop 0 ?_
                    refine JC.to2 [(6, .x (.bool r53))] [] (by kernel_rfl) (by kernel_rfl) ?_
                    refine JC.to2 [(6, .x (.bool r53))] [] (by kernel_rfl) (by kernel_rfl) ?_
                    exact JC.got (ex := .normal) rfl ⟨rfl, rfl, rfl⟩
                  · refine JS.run 7 (by kernel_rfl) ?_
                    refine JS.nil ?_
                    refine JC.to2 [(6, .x (.bool false))] [] (by kernel_rfl) (by kernel_rfl) ?_
                    refine JC.to2 [(6, .x (.bool false))] [] (by kernel_rfl) (by kernel_rfl) ?_
                    exact JC.got (ex := .normal) rfl ⟨rfl, rfl, rfl⟩
                · refine JS.run 13 (by kernel_rfl) ?_
                  refine JS.nil ?_
                  refine JC.to2 [(6, .x (.bool false))] [] (by kernel_rfl) (by kernel_rfl) ?_
                  refine JC.to2 [(6, .x (.bool false))] [] (by kernel_rfl) (by kernel_rfl) ?_
                  exact JC.got (ex := .normal) rfl ⟨rfl, rfl, rfl⟩
              · refine JS.run 18 (by kernel_rfl) ?_
                refine JS.nil ?_
                refine JC.to2 [(6, .x (.bool false))] [] (by kernel_rfl) (by kernel_rfl) ?_
                refine JC.to2 [(6, .x (.bool false))] [] (by kernel_rfl) (by kernel_rfl) ?_
                exact JC.got (ex := .normal) rfl ⟨rfl, rfl, rfl⟩
            · refine JS.run 24 (by kernel_rfl) ?_
              refine JS.nil ?_
              refine JC.to2 [(6, .x (.bool false))] [] (by kernel_rfl) (by kernel_rfl) ?_
              refine JC.to2 [(6, .x (.bool false))] [] (by kernel_rfl) (by kernel_rfl) ?_
              exact JC.got (ex := .normal) rfl ⟨rfl, rfl, rfl⟩
          · refine JS.run 29 (by kernel_rfl) ?_
            refine JS.nil ?_
            refine JC.to2 [(6, .x (.bool false))] [] (by kernel_rfl) (by kernel_rfl) ?_
            refine JC.to2 [(6, .x (.bool false))] [] (by kernel_rfl) (by kernel_rfl) ?_
            exact JC.got (ex := .normal) rfl ⟨rfl, rfl, rfl⟩
        · refine JS.run 39 (by kernel_rfl) ?_
          refine JS.nil ?_
          refine JC.to2 [(6, .x (.bool false))] [] (by kernel_rfl) (by kernel_rfl) ?_
          refine JC.to2 [(6, .x (.bool false))] [] (by kernel_rfl) (by kernel_rfl) ?_
          exact JC.got (ex := .normal) rfl ⟨rfl, rfl, rfl⟩
      · rintro y23 ex E' R' hA
        obtain ⟨rfl, rfl, rfl⟩ := hA
        refine JC.to2 [(6, .x (.bool y23))] [] (by kernel_rfl) (by kernel_rfl) ?_
        refine JC.skipT ?_
        exact JC.finB (ex := .ret) (vs := [.x (.bool y23)]) (is := []) rfl ret_ne ⟨(by kernel_rfl), trivial⟩ (Outs.sc rfl Outs.nil)
end Go.Pi

