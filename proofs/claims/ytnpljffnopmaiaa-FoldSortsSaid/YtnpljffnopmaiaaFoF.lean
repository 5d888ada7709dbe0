import Derived.Test.YtnpljffnopmaiaaFoFb
/-
  THE FUNCTIONS, as terms over lists.
-/
set_option linter.all false
namespace Go.Pi
set_option maxRecDepth 100000
set_option linter.unusedVariables false
set_option maxHeartbeats 2000000
/-! slices.stableCmpFunc[float64] -/
def slices_stableCmpFunc_l0 (a1 : Int) : Nat → Int → Int → (List Fl) → Option ((List Fl) × Int)
  | 0, _, _, _ => none
  | k + 1, x3, x4, x5 => cond (decide (x4 ≤ a1)) ((slices_insertionSortCmpFunc k x5 x3 x4).bind fun r11 => slices_stableCmpFunc_l0 a1 k x4 (IntKind.i64.wrap (x4 + (20 : Int))) r11) (some (x5, x3))
theorem slices_stableCmpFunc_l0_ok (a1 : Int) (fr : Nat → Option Blk) (o0 : Option Nat) : ∀ (k : Nat) (x3 : Int) (x4 : Int) (x5 : (List Fl)), JC prog fr 63 [(0, .ref o0 0 x5.length), (1, .x (.int .i64 a1)), (2, .x (.fn 26)), (6, .x (.int .i64 (20 : Int))), (7, .x (.int .i64 x3)), (8, .x (.int .i64 x4))] [⟨o0, 1, vl fD x5⟩] (.loop pf30_L0) (slices_stableCmpFunc_l0 a1 k x3 x4 x5) (fun x => GotA 63 fr ((fun v ex E R => ex = (.exit 0) ∧ E = [(0, .ref o0 0 v.1.length), (1, .x (.int .i64 a1)), (2, .x (.fn 26)), (6, .x (.int .i64 (20 : Int))), (7, .x (.int .i64 v.2))] ∧ R = [⟨o0, 1, vl fD v.1⟩]) x)) := by
  intro k
  induction k with
  | zero =>
    intro x3 x4 x5
    exact JC.no
  | succ k ih =>
    intro x3 x4 x5
    rw [slices_stableCmpFunc_l0]
    refine JC.loop ?_
    refine JC.seq ?_
    refine JC.seq ?_
    refine JC.region fun b8 => ?_
    refine JS.run 3 (by kernel_rfl) ?_
    refine JS.nil ?_
    refine JC.to2 [(0, .ref o0 0 x5.length), (1, .x (.int .i64 a1)), (2, .x (.fn 26)), (6, .x (.int .i64 (20 : Int))), (7, .x (.int .i64 x3)), (8, .x (.int .i64 x4)), (13, .x (.bool (decide (x4 ≤ a1))))] [⟨o0, 1, vl fD x5⟩] (by kernel_rfl) (by kernel_rfl) ?_
    refine JC.skipT ?_
    refine JC.cond (e := (decide (x4 ≤ a1))) (by kernel_rfl) (fun h9 => ?_) (fun h9 => ?_)
    · refine JC.skipT ?_
      refine JC.block ?_
      refine JC.seq ?_
      refine JC.region fun b10 => ?_
      refine JS.run 4 (by kernel_rfl) ?_
      refine JS.bind fun r11 h12 => ?_
      refine JS.callI (args := [.x (.int .i64 x3), .x (.int .i64 x4), .x (.fn 26)]) (l := x5) (o := o0) [] (slices_insertionSortCmpFunc_ok k x5 x3 x4 r11 h12) (by kernel_rfl) (by kernel_rfl) (by kernel_rfl) (by kernel_rfl) (fun h13 => ?_)
      refine JS.relen (o := o0) (off := 0) (n := x5.length) (n' := r11.length) 0 (by kernel_rfl) h13.symm ?_
      refine JS.relen (o := o0) (off := 0) (n := x5.length) (n' := r11.length) 14 (by kernel_rfl) h13.symm ?_
      refine JS.nil ?_
      refine JC.to2 [(0, .ref o0 0 r11.length), (1, .x (.int .i64 a1)), (2, .x (.fn 26)), (6, .x (.int .i64 (20 : Int))), (8, .x (.int .i64 x4))] [⟨o0, 1, vl fD r11⟩] (by kernel_rfl) (by kernel_rfl) ?_
      refine JC.skipT ?_
      refine JC.seq ?_
      refine JC.region fun b14 => ?_
      refine JS.run 2 (by kernel_rfl) ?_
      refine JS.nil ?_
      refine JC.to2 [(0, .ref o0 0 r11.length), (1, .x (.int .i64 a1)), (2, .x (.fn 26)), (6, .x (.int .i64 (20 : Int))), (7, .x (.int .i64 x4)), (8, .x (.int .i64 x4))] [⟨o0, 1, vl fD r11⟩] (by kernel_rfl) (by kernel_rfl) ?_
      refine JC.skipT ?_
      refine JC.region fun b15 => ?_
      refine JS.run 4 (by kernel_rfl) ?_
      refine JS.nil ?_
      refine JC.to2 [(0, .ref o0 0 r11.length), (1, .x (.int .i64 a1)), (2, .x (.fn 26)), (6, .x (.int .i64 (20 : Int))), (7, .x (.int .i64 x4)), (8, .x (.int .i64 (IntKind.i64.wrap (x4 + (20 : Int)))))] [⟨o0, 1, vl fD r11⟩] (by kernel_rfl) (by kernel_rfl) ?_
      refine JC.skipB ?_
      refine JC.skipL ?_
      refine JC.to2 [(0, .ref o0 0 r11.length), (1, .x (.int .i64 a1)), (2, .x (.fn 26)), (6, .x (.int .i64 (20 : Int))), (7, .x (.int .i64 x4)), (8, .x (.int .i64 (IntKind.i64.wrap (x4 + (20 : Int)))))] [⟨o0, 1, vl fD r11⟩] (by kernel_rfl) (by kernel_rfl) ?_
      exact ih x4 (IntKind.i64.wrap (x4 + (20 : Int))) r11
    · refine JC.exitT ?_
      refine JC.exitL ?_
      refine JC.to2 [(0, .ref o0 0 x5.length), (1, .x (.int .i64 a1)), (2, .x (.fn 26)), (6, .x (.int .i64 (20 : Int))), (7, .x (.int .i64 x3))] [⟨o0, 1, vl fD x5⟩] (by kernel_rfl) (by kernel_rfl) ?_
      exact JC.got (ex := (.exit 0)) rfl ⟨rfl, rfl, rfl⟩
def slices_stableCmpFunc_l2 (a1 : Int) (x20 : Int) : Nat → Int → Int → (List Fl) → Option ((List Fl) × Int)
  | 0, _, _, _ => none
  | k + 1, x26, x27, x28 => cond (decide (x27 ≤ a1)) ((slices_symMergeCmpFunc k x28 x26 (IntKind.i64.wrap (x26 + x20)) x27).bind fun r34 => slices_stableCmpFunc_l2 a1 x20 k x27 (IntKind.i64.wrap (x27 + (IntKind.i64.wrap ((2 : Int) * x20)))) r34) (some (x28, x26))
theorem slices_stableCmpFunc_l2_ok (a1 : Int) (x20 : Int) (fr : Nat → Option Blk) (o0 : Option Nat) : ∀ (k : Nat) (x26 : Int) (x27 : Int) (x28 : (List Fl)), JC prog fr 63 [(0, .ref o0 0 x28.length), (1, .x (.int .i64 a1)), (2, .x (.fn 26)), (6, .x (.int .i64 x20)), (7, .x (.int .i64 x26)), (8, .x (.int .i64 x27))] [⟨o0, 1, vl fD x28⟩] (.loop pf30_L1) (slices_stableCmpFunc_l2 a1 x20 k x26 x27 x28) (fun x => GotA 63 fr ((fun v ex E R => ex = (.exit 4) ∧ E = [(0, .ref o0 0 v.1.length), (1, .x (.int .i64 a1)), (2, .x (.fn 26)), (6, .x (.int .i64 x20)), (7, .x (.int .i64 v.2))] ∧ R = [⟨o0, 1, vl fD v.1⟩]) x)) := by
  intro k
  induction k with
  | zero =>
    intro x26 x27 x28
    exact JC.no
  | succ k ih =>
    intro x26 x27 x28
    rw [slices_stableCmpFunc_l2]
    refine JC.loop ?_
    refine JC.seq ?_
    refine JC.seq ?_
    refine JC.region fun b31 => ?_
    refine JS.run 3 (by kernel_rfl) ?_
    refine JS.nil ?_
    refine JC.to2 [(0, .ref o0 0 x28.length), (1, .x (.int .i64 a1)), (2, .x (.fn 26)), (6, .x (.int .i64 x20)), (7, .x (.int .i64 x26)), (8, .x (.int .i64 x27)), (35, .x (.bool (decide (x27 ≤ a1))))] [⟨o0, 1, vl fD x28⟩] (by kernel_rfl) (by kernel_rfl) ?_
    refine JC.skipT ?_
    refine JC.cond (e := (decide (x27 ≤ a1))) (by kernel_rfl) (fun h32 => ?_) (fun h32 => ?_)
    · refine JC.skipT ?_
      refine JC.block ?_
      refine JC.seq ?_
      refine JC.region fun b33 => ?_
      refine JS.run 7 (by kernel_rfl) ?_
      refine JS.bind fun r34 h35 => ?_
      refine JS.callI (args := [.x (.int .i64 x26), .x (.int .i64 (IntKind.i64.wrap (x26 + x20))), .x (.int .i64 x27), .x (.fn 26)]) (l := x28) (o := o0) [] (slices_symMergeCmpFunc_ok k x28 x26 (IntKind.i64.wrap (x26 + x20)) x27 r34 h35) (by kernel_rfl) (by kernel_rfl) (by kernel_rfl) (by kernel_rfl) (fun h36 => ?_)
      refine JS.relen (o := o0) (off := 0) (n := x28.length) (n' := r34.length) 0 (by kernel_rfl) h36.symm ?_
      refine JS.relen (o := o0) (off := 0) (n := x28.length) (n' := r34.length) 36 (by kernel_rfl) h36.symm ?_
      refine JS.nil ?_
      refine JC.to2 [(0, .ref o0 0 r34.length), (1, .x (.int .i64 a1)), (2, .x (.fn 26)), (6, .x (.int .i64 x20)), (8, .x (.int .i64 x27))] [⟨o0, 1, vl fD r34⟩] (by kernel_rfl) (by kernel_rfl) ?_
      refine JC.skipT ?_
      refine JC.seq ?_
      refine JC.region fun b37 => ?_
      refine JS.run 2 (by kernel_rfl) ?_
      refine JS.nil ?_
      refine JC.to2 [(0, .ref o0 0 r34.length), (1, .x (.int .i64 a1)), (2, .x (.fn 26)), (6, .x (.int .i64 x20)), (7, .x (.int .i64 x27)), (8, .x (.int .i64 x27))] [⟨o0, 1, vl fD r34⟩] (by kernel_rfl) (by kernel_rfl) ?_
      refine JC.skipT ?_
      refine JC.region fun b38 => ?_
      refine JS.run 5 (by kernel_rfl) ?_
      refine JS.nil ?_
      refine JC.to2 [(0, .ref o0 0 r34.length), (1, .x (.int .i64 a1)), (2, .x (.fn 26)), (6, .x (.int .i64 x20)), (7, .x (.int .i64 x27)), (8, .x (.int .i64 (IntKind.i64.wrap (x27 + (IntKind.i64.wrap ((2 : Int) * x20))))))] [⟨o0, 1, vl fD r34⟩] (by kernel_rfl) (by kernel_rfl) ?_
      refine JC.skipB ?_
      refine JC.skipL ?_
      refine JC.to2 [(0, .ref o0 0 r34.length), (1, .x (.int .i64 a1)), (2, .x (.fn 26)), (6, .x (.int .i64 x20)), (7, .x (.int .i64 x27)), (8, .x (.int .i64 (IntKind.i64.wrap (x27 + (IntKind.i64.wrap ((2 : Int) * x20))))))] [⟨o0, 1, vl fD r34⟩] (by kernel_rfl) (by kernel_rfl) ?_
      exact ih x27 (IntKind.i64.wrap (x27 + (IntKind.i64.wrap ((2 : Int) * x20)))) r34
    · refine JC.exitT ?_
      refine JC.exitL ?_
      refine JC.to2 [(0, .ref o0 0 x28.length), (1, .x (.int .i64 a1)), (2, .x (.fn 26)), (6, .x (.int .i64 x20)), (7, .x (.int .i64 x26))] [⟨o0, 1, vl fD x28⟩] (by kernel_rfl) (by kernel_rfl) ?_
      exact JC.got (ex := (.exit 4)) rfl ⟨rfl, rfl, rfl⟩
def slices_stableCmpFunc_l1 (a1 : Int) : Nat → Int → (List Fl) → Option (List Fl)
  | 0, _, _ => none
  | k + 1, x20, x21 => cond (decide (x20 < a1)) ((slices_stableCmpFunc_l2 a1 x20 k (0 : Int) (IntKind.i64.wrap ((2 : Int) * x20)) x21).bind fun (y29, y30) => cond (decide ((IntKind.i64.wrap (y30 + x20)) < a1)) ((slices_symMergeCmpFunc k y29 y30 (IntKind.i64.wrap (y30 + x20)) a1).bind fun r43 => slices_stableCmpFunc_l1 a1 k (IntKind.i64.wrap (x20 * (2 : Int))) r43) (slices_stableCmpFunc_l1 a1 k (IntKind.i64.wrap (x20 * (2 : Int))) y29)) (some x21)
theorem slices_stableCmpFunc_l1_ok (a1 : Int) (fr : Nat → Option Blk) (o0 : Option Nat) : ∀ (k : Nat) (x20 : Int) (x21 : (List Fl)), JC prog fr 63 [(0, .ref o0 0 x21.length), (1, .x (.int .i64 a1)), (2, .x (.fn 26)), (6, .x (.int .i64 x20))] [⟨o0, 1, vl fD x21⟩] (.loop pf30_L2) (slices_stableCmpFunc_l1 a1 k x20 x21) (fun x => GotA 63 fr ((fun v ex E R => ex = (.exit 2) ∧ E = [(0, .ref o0 0 v.length)] ∧ R = [⟨o0, 1, vl fD v⟩]) x)) := by
  intro k
  induction k with
  | zero =>
    intro x20 x21
    exact JC.no
  | succ k ih =>
    intro x20 x21
    rw [slices_stableCmpFunc_l1]
    refine JC.loop ?_
    refine JC.seq ?_
    refine JC.seq ?_
    refine JC.region fun b23 => ?_
    refine JS.run 3 (by kernel_rfl) ?_
    refine JS.nil ?_
    refine JC.to2 [(0, .ref o0 0 x21.length), (1, .x (.int .i64 a1)), (2, .x (.fn 26)), (6, .x (.int .i64 x20)), (30, .x (.bool (decide (x20 < a1))))] [⟨o0, 1, vl fD x21⟩] (by kernel_rfl) (by kernel_rfl) ?_
    refine JC.skipT ?_
    refine JC.cond (e := (decide (x20 < a1))) (by kernel_rfl) (fun h24 => ?_) (fun h24 => ?_)
    · refine JC.skipT ?_
      refine JC.block ?_
      refine JC.seq ?_
      refine JC.region fun b25 => ?_
      refine JS.run 4 (by kernel_rfl) ?_
      refine JS.nil ?_
      refine JC.to2 [(0, .ref o0 0 x21.length), (1, .x (.int .i64 a1)), (2, .x (.fn 26)), (6, .x (.int .i64 x20)), (7, .x (.int .i64 (0 : Int))), (8, .x (.int .i64 (IntKind.i64.wrap ((2 : Int) * x20))))] [⟨o0, 1, vl fD x21⟩] (by kernel_rfl) (by kernel_rfl) ?_
      refine JC.skipT ?_
      refine JC.seq ?_
      refine JC.block ?_
      refine JC.to2 [(0, .ref o0 0 x21.length), (1, .x (.int .i64 a1)), (2, .x (.fn 26)), (6, .x (.int .i64 x20)), (7, .x (.int .i64 (0 : Int))), (8, .x (.int .i64 (IntKind.i64.wrap ((2 : Int) * x20))))] [⟨o0, 1, vl fD x21⟩] (by kernel_rfl) (by kernel_rfl) ?_
      refine JC.to2 [(0, .ref o0 0 x21.length), (1, .x (.int .i64 a1)), (2, .x (.fn 26)), (6, .x (.int .i64 x20)), (7, .x (.int .i64 (0 : Int))), (8, .x (.int .i64 (IntKind.i64.wrap ((2 : Int) * x20))))] [⟨o0, 1, vl fD x21⟩] (by kernel_rfl) (by kernel_rfl) ?_
      refine JC.bind (A := fun v ex E R => ex = (.exit 4) ∧ E = [(0, .ref o0 0 v.1.length), (1, .x (.int .i64 a1)), (2, .x (.fn 26)), (6, .x (.int .i64 x20)), (7, .x (.int .i64 v.2))] ∧ R = [⟨o0, 1, vl fD v.1⟩]) (slices_stableCmpFunc_l2_ok a1 x20 fr o0 k (0 : Int) (IntKind.i64.wrap ((2 : Int) * x20)) x21) ?_
      rintro ⟨y29, y30⟩ ex E' R' hA
      obtain ⟨rfl, rfl, rfl⟩ := hA
      refine JC.to2 [(0, .ref o0 0 y29.length), (1, .x (.int .i64 a1)), (2, .x (.fn 26)), (6, .x (.int .i64 x20)), (7, .x (.int .i64 y30))] [⟨o0, 1, vl fD y29⟩] (by kernel_rfl) (by kernel_rfl) ?_
      refine JC.exitB ?_
      refine JC.skipT ?_
      refine JC.seq ?_
      refine JC.seq ?_
      refine JC.region fun b39 => ?_
      refine JS.run 4 (by kernel_rfl) ?_
      refine JS.nil ?_
      refine JC.to2 [(0, .ref o0 0 y29.length), (1, .x (.int .i64 a1)), (2, .x (.fn 26)), (6, .x (.int .i64 x20)), (7, .x (.int .i64 y30)), (9, .x (.int .i64 (IntKind.i64.wrap (y30 + x20))))] [⟨o0, 1, vl fD y29⟩] (by kernel_rfl) (by kernel_rfl) ?_
      refine JC.skipT ?_
      refine JC.seq ?_
      refine JC.region fun b40 => ?_
      refine JS.run 3 (by kernel_rfl) ?_
      refine JS.nil ?_
      refine JC.to2 [(0, .ref o0 0 y29.length), (1, .x (.int .i64 a1)), (2, .x (.fn 26)), (6, .x (.int .i64 x20)), (7, .x (.int .i64 y30)), (9, .x (.int .i64 (IntKind.i64.wrap (y30 + x20)))), (54, .x (.bool (decide ((IntKind.i64.wrap (y30 + x20)) < a1))))] [⟨o0, 1, vl fD y29⟩] (by kernel_rfl) (by kernel_rfl) ?_
      refine JC.skipT ?_
      refine JC.cond (e := (decide ((IntKind.i64.wrap (y30 + x20)) < a1))) (by kernel_rfl) (fun h41 => ?_) (fun h41 => ?_)
      · refine JC.region fun b42 => ?_
        refine JS.run 5 (by kernel_rfl) ?_
        refine JS.bind fun r43 h44 => ?_
        refine JS.callI (args := [.x (.int .i64 y30), .x (.int .i64 (IntKind.i64.wrap (y30 + x20))), .x (.int .i64 a1), .x (.fn 26)]) (l := y29) (o := o0) [] (slices_symMergeCmpFunc_ok k y29 y30 (IntKind.i64.wrap (y30 + x20)) a1 r43 h44) (by kernel_rfl) (by kernel_rfl) (by kernel_rfl) (by kernel_rfl) (fun h45 => ?_)
        refine JS.relen (o := o0) (off := 0) (n := y29.length) (n' := r43.length) 0 (by kernel_rfl) h45.symm ?_
        refine JS.relen (o := o0) (off := 0) (n := y29.length) (n' := r43.length) 55 (by kernel_rfl) h45.symm ?_
        refine JS.nil ?_
        refine JC.to2 [(0, .ref o0 0 r43.length), (1, .x (.int .i64 a1)), (2, .x (.fn 26)), (6, .x (.int .i64 x20))] [⟨o0, 1, vl fD r43⟩] (by kernel_rfl) (by kernel_rfl) ?_
        refine JC.skipT ?_
        refine JC.region fun b46 => ?_
        refine JS.run 3 (by kernel_rfl) ?_
        refine JS.nil ?_
        refine JC.to2 [(0, .ref o0 0 r43.length), (1, .x (.int .i64 a1)), (2, .x (.fn 26)), (6, .x (.int .i64 (IntKind.i64.wrap (x20 * (2 : Int)))))] [⟨o0, 1, vl fD r43⟩] (by kernel_rfl) (by kernel_rfl) ?_
        refine JC.skipB ?_
        refine JC.skipL ?_
        refine JC.to2 [(0, .ref o0 0 r43.length), (1, .x (.int .i64 a1)), (2, .x (.fn 26)), (6, .x (.int .i64 (IntKind.i64.wrap (x20 * (2 : Int)))))] [⟨o0, 1, vl fD r43⟩] (by kernel_rfl) (by kernel_rfl) ?_
        exact ih (IntKind.i64.wrap (x20 * (2 : Int))) r43
      · refine JC.skipT ?_
        refine JC.region fun b47 => ?_
        refine JS.run 3 (by kernel_rfl) ?_
        refine JS.nil ?_
        refine JC.to2 [(0, .ref o0 0 y29.length), (1, .x (.int .i64 a1)), (2, .x (.fn 26)), (6, .x (.int .i64 (IntKind.i64.wrap (x20 * (2 : Int)))))] [⟨o0, 1, vl fD y29⟩] (by kernel_rfl) (by kernel_rfl) ?_
        refine JC.skipB ?_
        refine JC.skipL ?_
        refine JC.to2 [(0, .ref o0 0 y29.length), (1, .x (.int .i64 a1)), (2, .x (.fn 26)), (6, .x (.int .i64 (IntKind.i64.wrap (x20 * (2 : Int)))))] [⟨o0, 1, vl fD y29⟩] (by kernel_rfl) (by kernel_rfl) ?_
        exact ih (IntKind.i64.wrap (x20 * (2 : Int))) y29
    · refine JC.exitT ?_
      refine JC.exitL ?_
      refine JC.to2 [(0, .ref o0 0 x21.length)] [⟨o0, 1, vl fD x21⟩] (by kernel_rfl) (by kernel_rfl) ?_
      exact JC.got (ex := (.exit 2)) rfl ⟨rfl, rfl, rfl⟩
def slices_stableCmpFunc (k : Nat) (a0 : (List Fl)) (a1 : Int) : Option (List Fl) :=
  (slices_stableCmpFunc_l0 a1 k (0 : Int) (20 : Int) a0).bind fun (y6, y7) => (slices_insertionSortCmpFunc k y6 y7 a1).bind fun r17 => (slices_stableCmpFunc_l1 a1 k (20 : Int) r17).bind fun y22 => keepL a0 y22
theorem slices_stableCmpFunc_ok (k : Nat) : ∀ (a0 : (List Fl)) (a1 : Int) (r : (List Fl)), slices_stableCmpFunc k a0 a1 = some r → InOk prog 30 1 fD [.x (.int .i64 a1), .x (.fn 26)] a0 r := by
  intro a0 a1
  refine InOk.of (pf := pf30) rfl rfl rfl rfl ?_
  intro fr o0
  unfold slices_stableCmpFunc pf30
  refine JC.seq ?_
  refine JC.region fun b1 => ?_
  refine JS.run 1 (by kernel_rfl) ?_
  refine JS.nil ?_
  refine JC.to2 [(0, .ref o0 0 a0.length), (1, .x (.int .i64 a1)), (2, .x (.fn 26)), (6, .x (.int .i64 (20 : Int)))] [⟨o0, 1, vl fD a0⟩] (by kernel_rfl) (by kernel_rfl) ?_
  refine JC.skipT ?_
  refine JC.seq ?_
  refine JC.region fun b2 => ?_
  refine JS.run 3 (by kernel_rfl) ?_
  refine JS.nil ?_
  refine JC.to2 [(0, .ref o0 0 a0.length), (1, .x (.int .i64 a1)), (2, .x (.fn 26)), (6, .x (.int .i64 (20 : Int))), (7, .x (.int .i64 (0 : Int))), (8, .x (.int .i64 (20 : Int)))] [⟨o0, 1, vl fD a0⟩] (by kernel_rfl) (by kernel_rfl) ?_
  refine JC.skipT ?_
  refine JC.seq ?_
  refine JC.block ?_
  refine JC.to2 [(0, .ref o0 0 a0.length), (1, .x (.int .i64 a1)), (2, .x (.fn 26)), (6, .x (.int .i64 (20 : Int))), (7, .x (.int .i64 (0 : Int))), (8, .x (.int .i64 (20 : Int)))] [⟨o0, 1, vl fD a0⟩] (by kernel_rfl) (by kernel_rfl) ?_
  refine JC.to2 [(0, .ref o0 0 a0.length), (1, .x (.int .i64 a1)), (2, .x (.fn 26)), (6, .x (.int .i64 (20 : Int))), (7, .x (.int .i64 (0 : Int))), (8, .x (.int .i64 (20 : Int)))] [⟨o0, 1, vl fD a0⟩] (by kernel_rfl) (by kernel_rfl) ?_
  refine JC.bind (A := fun v ex E R => ex = (.exit 0) ∧ E = [(0, .ref o0 0 v.1.length), (1, .x (.int .i64 a1)), (2, .x (.fn 26)), (6, .x (.int .i64 (20 : Int))), (7, .x (.int .i64 v.2))] ∧ R = [⟨o0, 1, vl fD v.1⟩]) (slices_stableCmpFunc_l0_ok a1 fr o0 k (0 : Int) (20 : Int) a0) ?_
  rintro ⟨y6, y7⟩ ex E' R' hA
  obtain ⟨rfl, rfl, rfl⟩ := hA
  refine JC.to2 [(0, .ref o0 0 y6.length), (1, .x (.int .i64 a1)), (2, .x (.fn 26)), (6, .x (.int .i64 (20 : Int))), (7, .x (.int .i64 y7))] [⟨o0, 1, vl fD y6⟩] (by kernel_rfl) (by kernel_rfl) ?_
  refine JC.exitB ?_
  refine JC.skipT ?_
  refine JC.seq ?_
  refine JC.region fun b16 => ?_
  refine JS.run 4 (by kernel_rfl) ?_
  refine JS.bind fun r17 h18 => ?_
  refine JS.callI (args := [.x (.int .i64 y7), .x (.int .i64 a1), .x (.fn 26)]) (l := y6) (o := o0) [] (slices_insertionSortCmpFunc_ok k y6 y7 a1 r17 h18) (by kernel_rfl) (by kernel_rfl) (by kernel_rfl) (by kernel_rfl) (fun h19 => ?_)
  refine JS.relen (o := o0) (off := 0) (n := y6.length) (n' := r17.length) 0 (by kernel_rfl) h19.symm ?_
  refine JS.relen (o := o0) (off := 0) (n := y6.length) (n' := r17.length) 23 (by kernel_rfl) h19.symm ?_
  refine JS.nil ?_
  refine JC.to2 [(0, .ref o0 0 r17.length), (1, .x (.int .i64 a1)), (2, .x (.fn 26)), (6, .x (.int .i64 (20 : Int)))] [⟨o0, 1, vl fD r17⟩] (by kernel_rfl) (by kernel_rfl) ?_
  refine JC.skipT ?_
  refine JC.block ?_
  refine JC.to2 [(0, .ref o0 0 r17.length), (1, .x (.int .i64 a1)), (2, .x (.fn 26)), (6, .x (.int .i64 (20 : Int)))] [⟨o0, 1, vl fD r17⟩] (by kernel_rfl) (by kernel_rfl) ?_
  refine JC.to2 [(0, .ref o0 0 r17.length), (1, .x (.int .i64 a1)), (2, .x (.fn 26)), (6, .x (.int .i64 (20 : Int)))] [⟨o0, 1, vl fD r17⟩] (by kernel_rfl) (by kernel_rfl) ?_
  refine JC.bind (A := fun v ex E R => ex = (.exit 2) ∧ E = [(0, .ref o0 0 v.length)] ∧ R = [⟨o0, 1, vl fD v⟩]) (slices_stableCmpFunc_l1_ok a1 fr o0 k (20 : Int) r17) ?_
  rintro y22 ex E' R' hA
  obtain ⟨rfl, rfl, rfl⟩ := hA
  refine JC.to2 [(0, .ref o0 0 y22.length)] [⟨o0, 1, vl fD y22⟩] (by kernel_rfl) (by kernel_rfl) ?_
  refine JC.exitB ?_
  exact JC.finI (ex := .normal) (l := a0) rfl normal_ne rfl
/-! slices.SortStableFunc[[]float64,float64] -/
def slices_SortStableFunc (k : Nat) (a0 : (List Fl)) : Option (List Fl) :=
  (slices_stableCmpFunc k a0 ((a0.length : Nat) : Int)).bind fun r2 => keepL a0 r2
theorem slices_SortStableFunc_ok (k : Nat) : ∀ (a0 : (List Fl)) (r : (List Fl)), slices_SortStableFunc k a0 = some r → InOk prog 25 1 fD [.x (.fn 26)] a0 r := by
  intro a0
  refine InOk.of (pf := pf25) rfl rfl rfl rfl ?_
  intro fr o0
  unfold slices_SortStableFunc pf25
  refine JC.region fun b1 => ?_
  refine JS.run 4 (by kernel_rfl) ?_
  refine JS.bind fun r2 h3 => ?_
  refine JS.callI (args := [.x (.int .i64 ((a0.length : Nat) : Int)), .x (.fn 26)]) (l := a0) (o := o0) [] (slices_stableCmpFunc_ok k a0 ((a0.length : Nat) : Int) r2 h3) (by kernel_rfl) (by kernel_rfl) (by kernel_rfl) (by kernel_rfl) (fun h4 => ?_)
  refine JS.relen (o := o0) (off := 0) (n := a0.length) (n' := r2.length) 0 (by kernel_rfl) h4.symm ?_
  refine JS.relen (o := o0) (off := 0) (n := a0.length) (n' := r2.length) 4 (by kernel_rfl) h4.symm ?_
  refine JS.relen (o := o0) (off := 0) (n := a0.length) (n' := r2.length) 5 (by kernel_rfl) h4.symm ?_
  refine JS.nil ?_
  refine JC.to2 [(0, .ref o0 0 r2.length)] [⟨o0, 1, vl fD r2⟩] (by kernel_rfl) (by kernel_rfl) ?_
  exact JC.finI (ex := .normal) (l := a0) rfl normal_ne rfl
/-! slices.Clone[[]float64,float64] -/
def slices_Clone (k : Nat) (a0 : (List Fl)) : Option (List Fl) :=
  cond (a0.map fD).isEmpty (both (some ([] : (List Fl))) (room ((([] : List Fl).length) + a0.length) 8 (some (([] : List Fl) ++ a0)))) (room ((([] : List Fl).length) + a0.length) 8 (some (([] : List Fl) ++ a0)))
theorem slices_Clone_ok (k : Nat) (a0 : (List Fl)) : ∀ r, slices_Clone k a0 = some r → CallOk prog 24 [.c 1 (.lst 1 (a0.map fD))] false [.own 1 (vl fD r)] := by
  refine CallOk.ofB (pf := pf24) (rs := [.tmp 2]) (Res := fun (r : (List Fl)) => [.own 1 (vl fD r)]) rfl rfl rfl rfl rfl ?_
  unfold slices_Clone pf24
  refine JC.seq ?_
  refine JC.region fun b1 => ?_
  refine JS.run 1 (by kernel_rfl) ?_
  refine JS.nil ?_
  refine JC.to2 [(0, .c 1 (.lst 1 (a0.map fD)))] [] (by kernel_rfl) (by kernel_rfl) ?_
  refine JC.skipT ?_
  refine JC.seq ?_
  refine JC.seq ?_
  refine JC.region fun b2 => ?_
  refine JS.run 1 (by kernel_rfl) ?_
  refine JS.eqNB (n := 1) (sz := 1) (es := (a0.map fD)) (by kernel_rfl) (by kernel_rfl) (by kernel_rfl) ?_ ?_
  · refine JS.nil ?_
    refine JC.to2 [(0, .c 1 (.lst 1 (a0.map fD))), (4, .x (.bool true))] [] (by kernel_rfl) (by kernel_rfl) ?_
    refine JC.skipT ?_
    refine JC.condT (by kernel_rfl) ?_
    refine JC.seq ?_
    refine JC.region fun b4 => ?_
    refine JS.run 1 (by kernel_rfl) ?_
    refine JS.nil ?_
    refine JC.to2 [(2, .x .nil)] [] (by kernel_rfl) (by kernel_rfl) ?_
    refine JC.skipT ?_
    refine JC.retT ?_
    exact JC.finB (ex := .ret) (vs := [.x .nil]) (is := []) rfl ret_ne ⟨(by kernel_rfl), trivial⟩ (Outs.nl Outs.nil)
  · refine JS.nil ?_
    refine JC.to2 [(0, .c 1 (.lst 1 (a0.map fD))), (4, .x (.bool false))] [] (by kernel_rfl) (by kernel_rfl) ?_
    refine JC.skipT ?_
    refine JC.condF (by kernel_rfl) ?_
    refine JC.skipT ?_
    refine JC.seq ?_
    refine JC.region fun b5 => ?_
    refine JS.buildSlice (c := fD) ([] : List Fl) (by kernel_rfl) (by kernel_rfl) (by kernel_rfl) (by kernel_rfl) (by kernel_rfl) (fun id6 => ?_)
    refine JS.run 1 (by kernel_rfl) ?_
    refine JS.appT (c := fD) (l := ([] : List Fl)) (k := a0) (o := (some id6)) 0 (by kernel_rfl) (by kernel_rfl) (srcC (c := fD) (l := a0) (n := 1) (by kernel_rfl) (fun _ => rfl) (fun _ _ => rfl)) (by kernel_rfl) (by kernel_rfl) (by kernel_rfl) (fun o7 => ?_)
    refine JS.run 1 (by kernel_rfl) ?_
    refine JS.nil ?_
    refine JC.to2 [(2, .ref o7 0 ((([] : List Fl) ++ a0).length))] [⟨o7, 1, vl fD (([] : List Fl) ++ a0)⟩] (by kernel_rfl) (by kernel_rfl) ?_
    refine JC.skipT ?_
    refine JC.relen (o := o7) (off := 0) (n := (([] : List Fl) ++ a0).length) (n' := (vl fD (([] : List Fl) ++ a0)).length) 2 (by kernel_rfl) (vl_len _ _).symm ?_
    exact JC.finB (ex := .ret) (vs := [.ref o7 0 (vl fD (([] : List Fl) ++ a0)).length]) (is := [0]) rfl ret_ne ⟨(by kernel_rfl), trivial⟩ (Outs.own (i := 0) (by kernel_rfl) (vl_out fun _ => rfl) rfl Outs.nil)
/-! eyot/fold.Sum -/
def fold_Sum_l0 (a0 : (List Fl)) : Nat → Fl → Int → Option Fl
  | 0, _, _ => none
  | k + 1, x4, x5 => cond (decide (x5 < ((a0.length : Nat) : Int))) ((at? a0 x5).bind fun w10 => fold_Sum_l0 a0 k (fAdd x4 w10) (IntKind.i64.wrap (x5 + (1 : Int)))) (some x4)
theorem fold_Sum_l0_ok (a0 : (List Fl))  : ∀ (k : Nat) (x4 : Fl) (x5 : Int), JC prog noFr 17 [(3, .x (.flt x4)), (6, .c 1 (.lst 1 (a0.map fD))), (7, .x (.int .i64 ((a0.length : Nat) : Int))), (8, .x (.int .i64 x5))] [] (.loop pf12_L0) (fold_Sum_l0 a0 k x4 x5) (fun x => GotA 17 noFr ((fun v ex E R => ex = (.exit 0) ∧ E = [(3, .x (.flt v))] ∧ R = []) x)) := by
  intro k
  induction k with
  | zero =>
    intro x4 x5
    exact JC.no
  | succ k ih =>
    intro x4 x5
    rw [fold_Sum_l0]
    refine JC.loop ?_
    refine JC.seq ?_
    refine JC.region fun b7 => ?_
    refine JS.run 1 (by kernel_rfl) ?_
    refine JS.nil ?_
    refine JC.to2 [(3, .x (.flt x4)), (6, .c 1 (.lst 1 (a0.map fD))), (7, .x (.int .i64 ((a0.length : Nat) : Int))), (8, .x (.int .i64 x5)), (9, .x (.bool (decide (x5 < ((a0.length : Nat) : Int)))))] [] (by kernel_rfl) (by kernel_rfl) ?_
    refine JC.skipT ?_
    refine JC.seq ?_
    refine JC.cond (e := (decide (x5 < ((a0.length : Nat) : Int)))) (by kernel_rfl) (fun h8 => ?_) (fun h8 => ?_)
    · refine JC.skipT ?_
      refine JC.seq ?_
      refine JC.block ?_
      refine JC.seq ?_
      refine JC.region fun b9 => ?_
      refine JS.idxC (c := fD) (l := a0) (n := 1) (kk := .i64) (z := x5) (by kernel_rfl) (by kernel_rfl) (by kernel_rfl) (by kernel_rfl) (fun w10 h11 => ?_)
      refine JS.run 2 (by kernel_rfl) ?_
      refine JS.nil ?_
      refine JC.to2 [(3, .x (.flt x4)), (5, .x (.flt w10)), (6, .c 1 (.lst 1 (a0.map fD))), (7, .x (.int .i64 ((a0.length : Nat) : Int))), (8, .x (.int .i64 x5))] [] (by kernel_rfl) (by kernel_rfl) ?_
      refine JC.skipT ?_
      refine JC.region fun b12 => ?_
      refine JS.run 4 (by kernel_rfl) ?_
      refine JS.nil ?_
      refine JC.to2 [(3, .x (.flt (fAdd x4 w10))), (6, .c 1 (.lst 1 (a0.map fD))), (7, .x (.int .i64 ((a0.length : Nat) : Int))), (8, .x (.int .i64 x5))] [] (by kernel_rfl) (by kernel_rfl) ?_
      refine JC.skipB ?_
      refine JC.skipT ?_
      refine JC.region fun b13 => ?_
      refine JS.run 2 (by kernel_rfl) ?_
      refine JS.nil ?_
      refine JC.to2 [(3, .x (.flt (fAdd x4 w10))), (6, .c 1 (.lst 1 (a0.map fD))), (7, .x (.int .i64 ((a0.length : Nat) : Int))), (8, .x (.int .i64 (IntKind.i64.wrap (x5 + (1 : Int)))))] [] (by kernel_rfl) (by kernel_rfl) ?_
      refine JC.skipL ?_
      refine JC.to2 [(3, .x (.flt (fAdd x4 w10))), (6, .c 1 (.lst 1 (a0.map fD))), (7, .x (.int .i64 ((a0.length : Nat) : Int))), (8, .x (.int .i64 (IntKind.i64.wrap (x5 + (1 : Int)))))] [] (by kernel_rfl) (by kernel_rfl) ?_
      exact ih (fAdd x4 w10) (IntKind.i64.wrap (x5 + (1 : Int)))
    · refine JC.exitT ?_
      refine JC.exitL ?_
      refine JC.to2 [(3, .x (.flt x4))] [] (by kernel_rfl) (by kernel_rfl) ?_
      exact JC.got (ex := (.exit 0)) rfl ⟨rfl, rfl, rfl⟩
def fold_Sum (k : Nat) (a0 : (List Fl)) : Option Fl :=
  (fold_Sum_l0 a0 k (some 0 : Fl) (0 : Int)).bind fun y6 => some y6
theorem fold_Sum_ok (k : Nat) (a0 : (List Fl)) : ∀ r, fold_Sum k a0 = some r → CallOk prog 12 [.c 1 (.lst 1 (a0.map fD))] false [.sc (.x (.flt r))] := by
  refine CallOk.ofB (pf := pf12) (rs := [.tmp 2]) (Res := fun (r : Fl) => [.sc (.x (.flt r))]) rfl rfl rfl rfl rfl ?_
  unfold fold_Sum pf12
  refine JC.seq ?_
  refine JC.region fun b1 => ?_
  refine JS.run 1 (by kernel_rfl) ?_
  refine JS.nil ?_
  refine JC.to2 [(0, .c 1 (.lst 1 (a0.map fD)))] [] (by kernel_rfl) (by kernel_rfl) ?_
  refine JC.skipT ?_
  refine JC.seq ?_
  refine JC.region fun b2 => ?_
  refine JS.run 1 (by kernel_rfl) ?_
  refine JS.nil ?_
  refine JC.to2 [(0, .c 1 (.lst 1 (a0.map fD))), (3, .x (.flt (some 0 : Fl)))] [] (by kernel_rfl) (by kernel_rfl) ?_
  refine JC.skipT ?_
  refine JC.seq ?_
  refine JC.seq ?_
  refine JC.region fun b3 => ?_
  refine JS.run 1 (by kernel_rfl) ?_
  refine JS.lenC (c := fD) (l := a0) (n := 1) (sz := 1) (by kernel_rfl) (by kernel_rfl) (by kernel_rfl) ?_
  refine JS.run 1 (by kernel_rfl) ?_
  refine JS.nil ?_
  refine JC.to2 [(3, .x (.flt (some 0 : Fl))), (6, .c 1 (.lst 1 (a0.map fD))), (7, .x (.int .i64 ((a0.length : Nat) : Int))), (8, .x (.int .i64 (0 : Int)))] [] (by kernel_rfl) (by kernel_rfl) ?_
  refine JC.skipT ?_
  refine JC.block ?_
  refine JC.to2 [(3, .x (.flt (some 0 : Fl))), (6, .c 1 (.lst 1 (a0.map fD))), (7, .x (.int .i64 ((a0.length : Nat) : Int))), (8, .x (.int .i64 (0 : Int)))] [] (by kernel_rfl) (by kernel_rfl) ?_
  refine JC.to2 [(3, .x (.flt (some 0 : Fl))), (6, .c 1 (.lst 1 (a0.map fD))), (7, .x (.int .i64 ((a0.length : Nat) : Int))), (8, .x (.int .i64 (0 : Int)))] [] (by kernel_rfl) (by kernel_rfl) ?_
  refine JC.bind (A := fun v ex E R => ex = (.exit 0) ∧ E = [(3, .x (.flt v))] ∧ R = []) (fold_Sum_l0_ok a0 k (some 0 : Fl) (0 : Int)) ?_
  rintro y6 ex E' R' hA
  obtain ⟨rfl, rfl, rfl⟩ := hA
  refine JC.to2 [(3, .x (.flt y6))] [] (by kernel_rfl) (by kernel_rfl) ?_
  refine JC.exitB ?_
  refine JC.skipT ?_
  refine JC.seq ?_
  refine JC.region fun b14 => ?_
  refine JS.run 2 (by kernel_rfl) ?_
  refine JS.nil ?_
  refine JC.to2 [(2, .x (.flt y6))] [] (by kernel_rfl) (by kernel_rfl) ?_
  refine JC.skipT ?_
  exact JC.finB (ex := .ret) (vs := [.x (.flt y6)]) (is := []) rfl ret_ne ⟨(by kernel_rfl), trivial⟩ (Outs.sc rfl Outs.nil)
/-! eyot/fold.Times -/
def fold_Times (k : Nat) (a0 : Fl) (a1 : Int) : Option Fl :=
  some (fMul a0 (some (FloatKind.f64.nearest a1) : Fl))
theorem fold_Times_ok (k : Nat) (a0 : Fl) (a1 : Int) : ∀ r, fold_Times k a0 a1 = some r → CallOk prog 14 [.x (.flt a0), .x (.int .i64 a1)] false [.sc (.x (.flt r))] := by
  refine CallOk.ofB (pf := pf14) (rs := [.tmp 4]) (Res := fun (r : Fl) => [.sc (.x (.flt r))]) rfl rfl rfl rfl rfl ?_
  unfold fold_Times pf14
  refine JC.seq ?_
  refine JC.region fun b1 => ?_
  refine JS.run 1 (by kernel_rfl) ?_
  refine JS.nil ?_
  refine JC.to2 [(0, .x (.flt a0)), (1, .x (.int .i64 a1))] [] (by kernel_rfl) (by kernel_rfl) ?_
  refine JC.skipT ?_
  refine JC.seq ?_
  refine JC.region fun b2 => ?_
  refine JS.run 5 (by kernel_rfl) ?_
  refine JS.nil ?_
  refine JC.to2 [(4, .x (.flt (fMul a0 (some (FloatKind.f64.nearest a1) : Fl))))] [] (by kernel_rfl) (by kernel_rfl) ?_
  refine JC.skipT ?_
  exact JC.finB (ex := .ret) (vs := [.x (.flt (fMul a0 (some (FloatKind.f64.nearest a1) : Fl)))]) (is := []) rfl ret_ne ⟨(by kernel_rfl), trivial⟩ (Outs.sc rfl Outs.nil)
/-! eyot/fold.pick -/
def fold_pick_l0 (a0 : (List Fl)) (a1 : Int) : Nat → Fl → Bool → Int → Option (Fl × Bool)
  | 0, _, _, _ => none
  | k + 1, x5, x6, x7 => cond (decide (x7 < ((a0.length : Nat) : Int))) (((at? a0 x7).bind fun w15 => cond (fOrd w15 w15 != some .eq) (some (x5, x6)) ((cond (!x6) (some true) ((weigh_Order k w15 x5).bind fun r22 => some (r22 == a1))).bind fun y19 => cond y19 (some (w15, true)) (some (x5, x6)))).bind fun (y12, y13) => fold_pick_l0 a0 a1 k y12 y13 (IntKind.i64.wrap (x7 + (1 : Int)))) (some (x5, x6))
theorem fold_pick_l0_ok (a0 : (List Fl)) (a1 : Int)  : ∀ (k : Nat) (x5 : Fl) (x6 : Bool) (x7 : Int), JC prog noFr 32 [(1, .x (.int .i64 a1)), (6, .x (.flt x5)), (7, .x (.bool x6)), (10, .c 1 (.lst 1 (a0.map fD))), (11, .x (.int .i64 ((a0.length : Nat) : Int))), (12, .x (.int .i64 x7))] [] (.loop pf23_L0) (fold_pick_l0 a0 a1 k x5 x6 x7) (fun x => GotA 32 noFr ((fun v ex E R => ex = (.exit 0) ∧ E = [(6, .x (.flt v.1)), (7, .x (.bool v.2))] ∧ R = []) x)) := by
  intro k
  induction k with
  | zero =>
    intro x5 x6 x7
    exact JC.no
  | succ k ih =>
    intro x5 x6 x7
    rw [fold_pick_l0]
    refine JC.loop ?_
    refine JC.seq ?_
    refine JC.region fun b10 => ?_
    refine JS.run 1 (by kernel_rfl) ?_
    refine JS.nil ?_
    refine JC.to2 [(1, .x (.int .i64 a1)), (6, .x (.flt x5)), (7, .x (.bool x6)), (10, .c 1 (.lst 1 (a0.map fD))), (11, .x (.int .i64 ((a0.length : Nat) : Int))), (12, .x (.int .i64 x7)), (13, .x (.bool (decide (x7 < ((a0.length : Nat) : Int)))))] [] (by kernel_rfl) (by kernel_rfl) ?_
    refine JC.skipT ?_
    refine JC.seq ?_
    refine JC.cond (e := (decide (x7 < ((a0.length : Nat) : Int)))) (by kernel_rfl) (fun h11 => ?_) (fun h11 => ?_)
    · refine JC.skipT ?_
      refine JC.seq ?_
      refine JC.bind (A := fun v ex E R => ex = .normal ∧ E = [(1, .x (.int .i64 a1)), (6, .x (.flt v.1)), (7, .x (.bool v.2)), (10, .c 1 (.lst 1 (a0.map fD))), (11, .x (.int .i64 ((a0.length : Nat) : Int))), (12, .x (.int .i64 x7))] ∧ R = []) ?_ ?_
      · refine JC.block ?_
        refine JC.seq ?_
        refine JC.region fun b14 => ?_
        refine JS.idxC (c := fD) (l := a0) (n := 1) (kk := .i64) (z := x7) (by kernel_rfl) (by kernel_rfl) (by kernel_rfl) (by kernel_rfl) (fun w15 h16 => ?_)
        refine JS.run 2 (by kernel_rfl) ?_
        refine JS.nil ?_
        refine JC.to2 [(1, .x (.int .i64 a1)), (6, .x (.flt x5)), (7, .x (.bool x6)), (9, .x (.flt w15)), (10, .c 1 (.lst 1 (a0.map fD))), (11, .x (.int .i64 ((a0.length : Nat) : Int))), (12, .x (.int .i64 x7))] [] (by kernel_rfl) (by kernel_rfl) ?_
        refine JC.skipT ?_
        refine JC.seq ?_
        refine JC.seq ?_
        refine JC.region fun b17 => ?_
        refine JS.run 3 (by kernel_rfl) ?_
        refine JS.nil ?_
        refine JC.to2 [(1, .x (.int .i64 a1)), (6, .x (.flt x5)), (7, .x (.bool x6)), (9, .x (.flt w15)), (10, .c 1 (.lst 1 (a0.map fD))), (11, .x (.int .i64 ((a0.length : Nat) : Int))), (12, .x (.int .i64 x7)), (18, .x (.bool (fOrd w15 w15 != some .eq)))] [] (by kernel_rfl) (by kernel_rfl) ?_
        refine JC.skipT ?_
        refine JC.cond (e := (fOrd w15 w15 != some .eq)) (by kernel_rfl) (fun h18 => ?_) (fun h18 => ?_)
        · refine JC.exitT ?_
          refine JC.exitB ?_
          refine JC.to2 [(1, .x (.int .i64 a1)), (6, .x (.flt x5)), (7, .x (.bool x6)), (10, .c 1 (.lst 1 (a0.map fD))), (11, .x (.int .i64 ((a0.length : Nat) : Int))), (12, .x (.int .i64 x7))] [] (by kernel_rfl) (by kernel_rfl) ?_
          exact JC.got (ex := .normal) rfl ⟨rfl, rfl, rfl⟩
        · refine JC.skipT ?_
          refine JC.seq ?_
          refine JC.bind (A := fun v ex E R => ex = .normal ∧ E = [(1, .x (.int .i64 a1)), (6, .x (.flt x5)), (7, .x (.bool x6)), (9, .x (.flt w15)), (10, .c 1 (.lst 1 (a0.map fD))), (11, .x (.int .i64 ((a0.length : Nat) : Int))), (12, .x (.int .i64 x7)), (27, .x (.bool v))] ∧ R = []) ?_ ?_
          · refine JC.region fun b20 => ?_
            refine JS.run 3 (by kernel_rfl) ?_
            refine JS.split (e := (!x6)) 21 (by kernel_rfl) (fun h21 => ?_) (fun h21 => ?_)
            · refine JS.run 6 (by kernel_rfl) ?_
              refine JS.nil ?_
              refine JC.to2 [(1, .x (.int .i64 a1)), (6, .x (.flt x5)), (7, .x (.bool x6)), (9, .x (.flt w15)), (10, .c 1 (.lst 1 (a0.map fD))), (11, .x (.int .i64 ((a0.length : Nat) : Int))), (12, .x (.int .i64 x7)), (27, .x (.bool true))] [] (by kernel_rfl) (by kernel_rfl) ?_
              refine JC.to2 [(1, .x (.int .i64 a1)), (6, .x (.flt x5)), (7, .x (.bool x6)), (9, .x (.flt w15)), (10, .c 1 (.lst 1 (a0.map fD))), (11, .x (.int .i64 ((a0.length : Nat) : Int))), (12, .x (.int .i64 x7)), (27, .x (.bool true))] [] (by kernel_rfl) (by kernel_rfl) ?_
              exact JC.got (ex := .normal) rfl ⟨rfl, rfl, rfl⟩
            · refine JS.run 2 (by kernel_rfl) ?_
              refine JS.bind fun r22 h23 => ?_
              refine JS.callS [] (weigh_Order_ok k w15 x5 r22 h23) ⟨rfl, argX (d := (.flt w15)) (by kernel_rfl) (by kernel_rfl), rfl, argX (d := (.flt x5)) (by kernel_rfl) (by kernel_rfl), trivial⟩ (by kernel_rfl) (by kernel_rfl) (by kernel_rfl) ?_
              refine JS.run 3 (by kernel_rfl) ?_
              refine JS.nil ?_
              refine JC.to2 [(1, .x (.int .i64 a1)), (6, .x (.flt x5)), (7, .x (.bool x6)), (9, .x (.flt w15)), (10, .c 1 (.lst 1 (a0.map fD))), (11, .x (.int .i64 ((a0.length : Nat) : Int))), (12, .x (.int .i64 x7)), (27, .x (.bool (r22 == a1)))] [] (by kernel_rfl) (by kernel_rfl) ?_
              refine JC.to2 [(1, .x (.int .i64 a1)), (6, .x (.flt x5)), (7, .x (.bool x6)), (9, .x (.flt w15)), (10, .c 1 (.lst 1 (a0.map fD))), (11, .x (.int .i64 ((a0.length : Nat) : Int))), (12, .x (.int .i64 x7)), (27, .x (.bool (r22 == a1)))] [] (by kernel_rfl) (by kernel_rfl) ?_
              exact JC.got (ex := .normal) rfl ⟨rfl, rfl, rfl⟩
          · rintro y19 ex E' R' hA
            obtain ⟨rfl, rfl, rfl⟩ := hA
            refine JC.to2 [(1, .x (.int .i64 a1)), (6, .x (.flt x5)), (7, .x (.bool x6)), (9, .x (.flt w15)), (10, .c 1 (.lst 1 (a0.map fD))), (11, .x (.int .i64 ((a0.length : Nat) : Int))), (12, .x (.int .i64 x7)), (27, .x (.bool y19))] [] (by kernel_rfl) (by kernel_rfl) ?_
            refine JC.skipT ?_
            refine JC.cond (e := y19) (by kernel_rfl) (fun h24 => ?_) (fun h24 => ?_)
            · refine JC.region fun b25 => ?_
              refine JS.run 3 (by kernel_rfl) ?_
              refine JS.nil ?_
              refine JC.to2 [(1, .x (.int .i64 a1)), (6, .x (.flt w15)), (7, .x (.bool true)), (10, .c 1 (.lst 1 (a0.map fD))), (11, .x (.int .i64 ((a0.length : Nat) : Int))), (12, .x (.int .i64 x7))] [] (by kernel_rfl) (by kernel_rfl) ?_
              refine JC.skipB ?_
              refine JC.to2 [(1, .x (.int .i64 a1)), (6, .x (.flt w15)), (7, .x (.bool true)), (10, .c 1 (.lst 1 (a0.map fD))), (11, .x (.int .i64 ((a0.length : Nat) : Int))), (12, .x (.int .i64 x7))] [] (by kernel_rfl) (by kernel_rfl) ?_
              exact JC.got (ex := .normal) rfl ⟨rfl, rfl, rfl⟩
            · refine JC.skipB ?_
              refine JC.to2 [(1, .x (.int .i64 a1)), (6, .x (.flt x5)), (7, .x (.bool x6)), (10, .c 1 (.lst 1 (a0.map fD))), (11, .x (.int .i64 ((a0.length : Nat) : Int))), (12, .x (.int .i64 x7))] [] (by kernel_rfl) (by kernel_rfl) ?_
              exact JC.got (ex := .normal) rfl ⟨rfl, rfl, rfl⟩
      · rintro ⟨y12, y13⟩ ex E' R' hA
        obtain ⟨rfl, rfl, rfl⟩ := hA
        refine JC.to2 [(1, .x (.int .i64 a1)), (6, .x (.flt y12)), (7, .x (.bool y13)), (10, .c 1 (.lst 1 (a0.map fD))), (11, .x (.int .i64 ((a0.length : Nat) : Int))), (12, .x (.int .i64 x7))] [] (by kernel_rfl) (by kernel_rfl) ?_
        refine JC.skipT ?_
        refine JC.region fun b26 => ?_
        refine JS.run 2 (by kernel_rfl) ?_
        refine JS.nil ?_
        refine JC.to2 [(1, .x (.int .i64 a1)), (6, .x (.flt y12)), (7, .x (.bool y13)), (10, .c 1 (.lst 1 (a0.map fD))), (11, .x (.int .i64 ((a0.length : Nat) : Int))), (12, .x (.int .i64 (IntKind.i64.wrap (x7 + (1 : Int)))))] [] (by kernel_rfl) (by kernel_rfl) ?_
        refine JC.skipL ?_
        refine JC.to2 [(1, .x (.int .i64 a1)), (6, .x (.flt y12)), (7, .x (.bool y13)), (10, .c 1 (.lst 1 (a0.map fD))), (11, .x (.int .i64 ((a0.length : Nat) : Int))), (12, .x (.int .i64 (IntKind.i64.wrap (x7 + (1 : Int)))))] [] (by kernel_rfl) (by kernel_rfl) ?_
        exact ih y12 y13 (IntKind.i64.wrap (x7 + (1 : Int)))
    · refine JC.exitT ?_
      refine JC.exitL ?_
      refine JC.to2 [(6, .x (.flt x5)), (7, .x (.bool x6))] [] (by kernel_rfl) (by kernel_rfl) ?_
      exact JC.got (ex := (.exit 0)) rfl ⟨rfl, rfl, rfl⟩
def fold_pick (k : Nat) (a0 : (List Fl)) (a1 : Int) : Option (Fl × Bool) :=
  (fold_pick_l0 a0 a1 k (some 0 : Fl) false (0 : Int)).bind fun (y8, y9) => some (y8, y9)
theorem fold_pick_ok (k : Nat) (a0 : (List Fl)) (a1 : Int) : ∀ r, fold_pick k a0 a1 = some r → CallOk prog 23 [.c 1 (.lst 1 (a0.map fD)), .x (.int .i64 a1)] true [.sc (.x (.flt r.1)), .sc (.x (.bool r.2))] := by
  refine CallOk.ofB (pf := pf23) (rs := [.tmp 4, .tmp 5]) (Res := fun (r : (Fl × Bool)) => [.sc (.x (.flt r.1)), .sc (.x (.bool r.2))]) rfl rfl rfl rfl rfl ?_
  unfold fold_pick pf23
  refine JC.seq ?_
  refine JC.region fun b1 => ?_
  refine JS.run 2 (by kernel_rfl) ?_
  refine JS.nil ?_
  refine JC.to2 [(0, .c 1 (.lst 1 (a0.map fD))), (1, .x (.int .i64 a1))] [] (by kernel_rfl) (by kernel_rfl) ?_
  refine JC.skipT ?_
  refine JC.seq ?_
  refine JC.region fun b2 => ?_
  refine JS.run 1 (by kernel_rfl) ?_
  refine JS.nil ?_
  refine JC.to2 [(0, .c 1 (.lst 1 (a0.map fD))), (1, .x (.int .i64 a1)), (6, .x (.flt (some 0 : Fl)))] [] (by kernel_rfl) (by kernel_rfl) ?_
  refine JC.skipT ?_
  refine JC.seq ?_
  refine JC.region fun b3 => ?_
  refine JS.run 1 (by kernel_rfl) ?_
  refine JS.nil ?_
  refine JC.to2 [(0, .c 1 (.lst 1 (a0.map fD))), (1, .x (.int .i64 a1)), (6, .x (.flt (some 0 : Fl))), (7, .x (.bool false))] [] (by kernel_rfl) (by kernel_rfl) ?_
  refine JC.skipT ?_
  refine JC.seq ?_
  refine JC.seq ?_
  refine JC.region fun b4 => ?_
  refine JS.run 1 (by kernel_rfl) ?_
  refine JS.lenC (c := fD) (l := a0) (n := 1) (sz := 1) (by kernel_rfl) (by kernel_rfl) (by kernel_rfl) ?_
  refine JS.run 1 (by kernel_rfl) ?_
  refine JS.nil ?_
  refine JC.to2 [(1, .x (.int .i64 a1)), (6, .x (.flt (some 0 : Fl))), (7, .x (.bool false)), (10, .c 1 (.lst 1 (a0.map fD))), (11, .x (.int .i64 ((a0.length : Nat) : Int))), (12, .x (.int .i64 (0 : Int)))] [] (by kernel_rfl) (by kernel_rfl) ?_
  refine JC.skipT ?_
  refine JC.block ?_
  refine JC.to2 [(1, .x (.int .i64 a1)), (6, .x (.flt (some 0 : Fl))), (7, .x (.bool false)), (10, .c 1 (.lst 1 (a0.map fD))), (11, .x (.int .i64 ((a0.length : Nat) : Int))), (12, .x (.int .i64 (0 : Int)))] [] (by kernel_rfl) (by kernel_rfl) ?_
  refine JC.to2 [(1, .x (.int .i64 a1)), (6, .x (.flt (some 0 : Fl))), (7, .x (.bool false)), (10, .c 1 (.lst 1 (a0.map fD))), (11, .x (.int .i64 ((a0.length : Nat) : Int))), (12, .x (.int .i64 (0 : Int)))] [] (by kernel_rfl) (by kernel_rfl) ?_
  refine JC.bind (A := fun v ex E R => ex = (.exit 0) ∧ E = [(6, .x (.flt v.1)), (7, .x (.bool v.2))] ∧ R = []) (fold_pick_l0_ok a0 a1 k (some 0 : Fl) false (0 : Int)) ?_
  rintro ⟨y8, y9⟩ ex E' R' hA
  obtain ⟨rfl, rfl, rfl⟩ := hA
  refine JC.to2 [(6, .x (.flt y8)), (7, .x (.bool y9))] [] (by kernel_rfl) (by kernel_rfl) ?_
  refine JC.exitB ?_
  refine JC.skipT ?_
  refine JC.seq ?_
  refine JC.region fun b27 => ?_
  refine JS.run 4 (by kernel_rfl) ?_
  refine JS.nil ?_
  refine JC.to2 [(4, .x (.flt y8)), (5, .x (.bool y9))] [] (by kernel_rfl) (by kernel_rfl) ?_
  refine JC.skipT ?_
  exact JC.finB (ex := .ret) (vs := [.x (.flt y8), .x (.bool y9)]) (is := []) rfl ret_ne ⟨(by kernel_rfl), ⟨(by kernel_rfl), trivial⟩⟩ (Outs.sc rfl (Outs.sc rfl Outs.nil))
/-! eyot/fold.Least -/
def fold_Least (k : Nat) (a0 : (List Fl)) : Option (Fl × Bool) :=
  (fold_pick k a0 (-1 : Int)).bind fun r3 => some (r3.1, r3.2)
theorem fold_Least_ok (k : Nat) (a0 : (List Fl)) : ∀ r, fold_Least k a0 = some r → CallOk prog 7 [.c 1 (.lst 1 (a0.map fD))] true [.sc (.x (.flt r.1)), .sc (.x (.bool r.2))] := by
  refine CallOk.ofB (pf := pf7) (rs := [.tmp 2, .tmp 3]) (Res := fun (r : (Fl × Bool)) => [.sc (.x (.flt r.1)), .sc (.x (.bool r.2))]) rfl rfl rfl rfl rfl ?_
  unfold fold_Least pf7
  refine JC.seq ?_
  refine JC.region fun b1 => ?_
  refine JS.run 2 (by kernel_rfl) ?_
  refine JS.nil ?_
  refine JC.to2 [(0, .c 1 (.lst 1 (a0.map fD)))] [] (by kernel_rfl) (by kernel_rfl) ?_
  refine JC.skipT ?_
  refine JC.seq ?_
  refine JC.region fun b2 => ?_
  refine JS.run 1 (by kernel_rfl) ?_
  refine JS.bind fun r3 h4 => ?_
  refine JS.callS [] (fold_pick_ok k a0 (-1 : Int) r3 h4) ⟨rfl, argC (n := 1) (by kernel_rfl) (by kernel_rfl) (by kernel_rfl), rfl, argX (d := (.int .i64 (-1 : Int))) (by kernel_rfl) (by kernel_rfl), trivial⟩ (by kernel_rfl) (by kernel_rfl) (by kernel_rfl) ?_
  refine JS.run 4 (by kernel_rfl) ?_
  refine JS.nil ?_
  refine JC.to2 [(2, .x (.flt r3.1)), (3, .x (.bool r3.2))] [] (by kernel_rfl) (by kernel_rfl) ?_
  refine JC.skipT ?_
  exact JC.finB (ex := .ret) (vs := [.x (.flt r3.1), .x (.bool r3.2)]) (is := []) rfl ret_ne ⟨(by kernel_rfl), ⟨(by kernel_rfl), trivial⟩⟩ (Outs.sc rfl (Outs.sc rfl Outs.nil))
/-! eyot/fold.Most -/
def fold_Most (k : Nat) (a0 : (List Fl)) : Option (Fl × Bool) :=
  (fold_pick k a0 (1 : Int)).bind fun r3 => some (r3.1, r3.2)
theorem fold_Most_ok (k : Nat) (a0 : (List Fl)) : ∀ r, fold_Most k a0 = some r → CallOk prog 8 [.c 1 (.lst 1 (a0.map fD))] true [.sc (.x (.flt r.1)), .sc (.x (.bool r.2))] := by
  refine CallOk.ofB (pf := pf8) (rs := [.tmp 2, .tmp 3]) (Res := fun (r : (Fl × Bool)) => [.sc (.x (.flt r.1)), .sc (.x (.bool r.2))]) rfl rfl rfl rfl rfl ?_
  unfold fold_Most pf8
  refine JC.seq ?_
  refine JC.region fun b1 => ?_
  refine JS.run 2 (by kernel_rfl) ?_
  refine JS.nil ?_
  refine JC.to2 [(0, .c 1 (.lst 1 (a0.map fD)))] [] (by kernel_rfl) (by kernel_rfl) ?_
  refine JC.skipT ?_
  refine JC.seq ?_
  refine JC.region fun b2 => ?_
  refine JS.run 1 (by kernel_rfl) ?_
  refine JS.bind fun r3 h4 => ?_
  refine JS.callS [] (fold_pick_ok k a0 (1 : Int) r3 h4) ⟨rfl, argC (n := 1) (by kernel_rfl) (by kernel_rfl) (by kernel_rfl), rfl, argX (d := (.int .i64 (1 : Int))) (by kernel_rfl) (by kernel_rfl), trivial⟩ (by kernel_rfl) (by kernel_rfl) (by kernel_rfl) ?_
  refine JS.run 4 (by kernel_rfl) ?_
  refine JS.nil ?_
  refine JC.to2 [(2, .x (.flt r3.1)), (3, .x (.bool r3.2))] [] (by kernel_rfl) (by kernel_rfl) ?_
  refine JC.skipT ?_
  exact JC.finB (ex := .ret) (vs := [.x (.flt r3.1), .x (.bool r3.2)]) (is := []) rfl ret_ne ⟨(by kernel_rfl), ⟨(by kernel_rfl), trivial⟩⟩ (Outs.sc rfl (Outs.sc rfl Outs.nil))
/-! eyot/fold.Sort -/
def fold_Sort (k : Nat) (a0 : (List Fl)) : Option (List Fl) :=
  (slices_Clone k a0).bind fun r3 => (slices_SortStableFunc k r3).bind fun r7 => some r7
theorem fold_Sort_ok (k : Nat) (a0 : (List Fl)) : ∀ r, fold_Sort k a0 = some r → CallOk prog 17 [.c 1 (.lst 1 (a0.map fD))] false [.own 1 (vl fD r)] := by
  refine CallOk.ofB (pf := pf17) (rs := [.tmp 2]) (Res := fun (r : (List Fl)) => [.own 1 (vl fD r)]) rfl rfl rfl rfl rfl ?_
  unfold fold_Sort pf17
  refine JC.seq ?_
  refine JC.region fun b1 => ?_
  refine JS.run 1 (by kernel_rfl) ?_
  refine JS.nil ?_
  refine JC.to2 [(0, .c 1 (.lst 1 (a0.map fD)))] [] (by kernel_rfl) (by kernel_rfl) ?_
  refine JC.skipT ?_
  refine JC.seq ?_
  refine JC.region fun b2 => ?_
  refine JS.run 1 (by kernel_rfl) ?_
  refine JS.bind fun r3 h4 => ?_
  refine JS.callK1 [] (slices_Clone_ok k a0 r3 h4) ⟨rfl, argC (n := 1) (by kernel_rfl) (by kernel_rfl) (by kernel_rfl), trivial⟩ ⟨vl_sc (fun _ => rfl), trivial⟩ (by kernel_rfl) (by kernel_rfl) (by kernel_rfl) (by kernel_rfl) (fun o5 => ?_)
  refine JS.relen (o := o5) (off := 0) (n := (vl fD r3).length) (n' := r3.length) 5 (by kernel_rfl) (vl_len _ _) ?_
  refine JS.run 1 (by kernel_rfl) ?_
  refine JS.nil ?_
  refine JC.to2 [(3, .ref o5 0 r3.length)] [⟨o5, 1, vl fD r3⟩] (by kernel_rfl) (by kernel_rfl) ?_
  refine JC.skipT ?_
  refine JC.seq ?_
  refine JC.region fun b6 => ?_
  refine JS.run 1 (by kernel_rfl) ?_
  refine JS.bind fun r7 h8 => ?_
  refine JS.callI (args := [.x (.fn 26)]) (l := r3) (o := o5) [] (slices_SortStableFunc_ok k r3 r7 h8) (by kernel_rfl) (by kernel_rfl) (by kernel_rfl) (by kernel_rfl) (fun h9 => ?_)
  refine JS.relen (o := o5) (off := 0) (n := r3.length) (n' := r7.length) 3 (by kernel_rfl) h9.symm ?_
  refine JS.relen (o := o5) (off := 0) (n := r3.length) (n' := r7.length) 6 (by kernel_rfl) h9.symm ?_
  refine JS.nil ?_
  refine JC.to2 [(3, .ref o5 0 r7.length)] [⟨o5, 1, vl fD r7⟩] (by kernel_rfl) (by kernel_rfl) ?_
  refine JC.skipT ?_
  refine JC.seq ?_
  refine JC.region fun b10 => ?_
  refine JS.run 2 (by kernel_rfl) ?_
  refine JS.nil ?_
  refine JC.to2 [(2, .ref o5 0 r7.length)] [⟨o5, 1, vl fD r7⟩] (by kernel_rfl) (by kernel_rfl) ?_
  refine JC.skipT ?_
  refine JC.relen (o := o5) (off := 0) (n := r7.length) (n' := (vl fD r7).length) 2 (by kernel_rfl) (vl_len _ _).symm ?_
  exact JC.finB (ex := .ret) (vs := [.ref o5 0 (vl fD r7).length]) (is := [0]) rfl ret_ne ⟨(by kernel_rfl), trivial⟩ (Outs.own (i := 0) (by kernel_rfl) (vl_out fun _ => rfl) rfl Outs.nil)
/-! eyot/eyotlaw2.begun -/
def eyotlaw2_begun (k : Nat)  : Option Bool :=
  (fold_Least k ([(some 4611686018427387904 : Fl), (some 4607182418800017408 : Fl)] : List Fl)).bind fun r4 => (fold_Most k ([(some 4611686018427387904 : Fl), (some 4607182418800017408 : Fl)] : List Fl)).bind fun r8 => ((fold_Sum k ([(some 4607182418800017408 : Fl), (some 4611686018427387904 : Fl)] : List Fl)).bind fun r13 => cond (fOrd r13 (some 4613937818241073152 : Fl) == some .eq) ((fold_Times k (some 4611686018427387904 : Fl) (3 : Int)).bind fun r16 => cond (fOrd r16 (some 4618441417868443648 : Fl) == some .eq) (cond r4.2 (cond (fOrd r4.1 (some 4607182418800017408 : Fl) == some .eq) (cond r8.2 (cond (fOrd r8.1 (some 4611686018427387904 : Fl) == some .eq) ((fold_Sort k ([(some 4607182418800017408 : Fl)] : List Fl)).bind fun r24 => some (((r24.length : Nat) : Int) == (1 : Int))) (some false)) (some false)) (some false)) (some false)) (some false)) (some false)).bind fun y10 => some y10
theorem eyotlaw2_begun_ok (k : Nat)  : ∀ r, eyotlaw2_begun k = some r → CallOk prog 6 [] false [.sc (.x (.bool r))] := by
  refine CallOk.ofB (pf := pf6) (rs := [.tmp 0]) (Res := fun (r : Bool) => [.sc (.x (.bool r))]) rfl rfl rfl rfl rfl ?_
  unfold eyotlaw2_begun pf6
  refine JC.seq ?_
  refine JC.region fun b1 => ?_
  refine JS.run 1 (by kernel_rfl) ?_
  refine JS.nil ?_
  refine JC.to2 [] [] (by kernel_rfl) (by kernel_rfl) ?_
  refine JC.skipT ?_
  refine JC.seq ?_
  refine JC.region fun b2 => ?_
  refine JS.buildSlice (c := fD) ([(some 4611686018427387904 : Fl), (some 4607182418800017408 : Fl)] : List Fl) (by kernel_rfl) (by kernel_rfl) (by kernel_rfl) (by kernel_rfl) (by kernel_rfl) (fun id3 => ?_)
  refine JS.bind fun r4 h5 => ?_
  refine JS.callS [0] (fold_Least_ok k ([(some 4611686018427387904 : Fl), (some 4607182418800017408 : Fl)] : List Fl) r4 h5) ⟨rfl, argT (c := fD) (l := ([(some 4611686018427387904 : Fl), (some 4607182418800017408 : Fl)] : List Fl)) (o := (some id3)) 0 (by kernel_rfl) (by kernel_rfl) (by kernel_rfl) (fun _ => rfl), trivial⟩ (by kernel_rfl) (by kernel_rfl) (by kernel_rfl) ?_
  refine JS.run 5 (by kernel_rfl) ?_
  refine JS.nil ?_
  refine JC.drop 0 ?_
  refine JC.to2 [(1, .x (.flt r4.1)), (2, .x (.bool r4.2))] [] (by kernel_rfl) (by kernel_rfl) ?_
  refine JC.skipT ?_
  refine JC.seq ?_
  refine JC.region fun b6 => ?_
  refine JS.buildSlice (c := fD) ([(some 4611686018427387904 : Fl), (some 4607182418800017408 : Fl)] : List Fl) (by kernel_rfl) (by kernel_rfl) (by kernel_rfl) (by kernel_rfl) (by kernel_rfl) (fun id7 => ?_)
  refine JS.bind fun r8 h9 => ?_
  refine JS.callS [0] (fold_Most_ok k ([(some 4611686018427387904 : Fl), (some 4607182418800017408 : Fl)] : List Fl) r8 h9) ⟨rfl, argT (c := fD) (l := ([(some 4611686018427387904 : Fl), (some 4607182418800017408 : Fl)] : List Fl)) (o := (some id7)) 0 (by kernel_rfl) (by kernel_rfl) (by kernel_rfl) (fun _ => rfl), trivial⟩ (by kernel_rfl) (by kernel_rfl) (by kernel_rfl) ?_
  refine JS.run 5 (by kernel_rfl) ?_
  refine JS.nil ?_
  refine JC.drop 0 ?_
  refine JC.to2 [(1, .x (.flt r4.1)), (2, .x (.bool r4.2)), (3, .x (.flt r8.1)), (4, .x (.bool r8.2))] [] (by kernel_rfl) (by kernel_rfl) ?_
  refine JC.skipT ?_
  refine JC.seq ?_
  refine JC.bind (A := fun v ex E R => ex = .normal ∧ E = [(0, .x (.bool v))] ∧ R = []) ?_ ?_
  · refine JC.region fun b11 => ?_
    refine JS.buildSlice (c := fD) ([(some 4607182418800017408 : Fl), (some 4611686018427387904 : Fl)] : List Fl) (by kernel_rfl) (by kernel_rfl) (by kernel_rfl) (by kernel_rfl) (by kernel_rfl) (fun id12 => ?_)
    refine JS.bind fun r13 h14 => ?_
    refine JS.callS [0] (fold_Sum_ok k ([(some 4607182418800017408 : Fl), (some 4611686018427387904 : Fl)] : List Fl) r13 h14) ⟨rfl, argT (c := fD) (l := ([(some 4607182418800017408 : Fl), (some 4611686018427387904 : Fl)] : List Fl)) (o := (some id12)) 0 (by kernel_rfl) (by kernel_rfl) (by kernel_rfl) (fun _ => rfl), trivial⟩ (by kernel_rfl) (by kernel_rfl) (by kernel_rfl) ?_
    refine JS.run 2 (by kernel_rfl) ?_
    refine JS.split (e := (fOrd r13 (some 4613937818241073152 : Fl) == some .eq)) 18 (by kernel_rfl) (fun h15 => ?_) (fun h15 => ?_)
    · refine JS.bind fun r16 h17 => ?_
      refine JS.callS [] (fold_Times_ok k (some 4611686018427387904 : Fl) (3 : Int) r16 h17) ⟨rfl, argX (d := (.flt (some 4611686018427387904 : Fl))) (by kernel_rfl) (by kernel_rfl), rfl, argX (d := (.int .i64 (3 : Int))) (by kernel_rfl) (by kernel_rfl), trivial⟩ (by kernel_rfl) (by kernel_rfl) (by kernel_rfl) ?_
      refine JS.run 3 (by kernel_rfl) ?_
      refine JS.split (e := (fOrd r16 (some 4618441417868443648 : Fl) == some .eq)) 22 (by kernel_rfl) (fun h18 => ?_) (fun h18 => ?_)
      · refine JS.run 3 (by kernel_rfl) ?_
        refine JS.split (e := r4.2) 25 (by kernel_rfl) (fun h19 => ?_) (fun h19 => ?_)
        · refine JS.run 4 (by kernel_rfl) ?_
          refine JS.split (e := (fOrd r4.1 (some 4607182418800017408 : Fl) == some .eq)) 29 (by kernel_rfl) (fun h20 => ?_) (fun h20 => ?_)
          · refine JS.run 3 (by kernel_rfl) ?_
            refine JS.split (e := r8.2) 32 (by kernel_rfl) (fun h21 => ?_) (fun h21 => ?_)
            · refine JS.run 4 (by kernel_rfl) ?_
              refine JS.split (e := (fOrd r8.1 (some 4611686018427387904 : Fl) == some .eq)) 36 (by kernel_rfl) (fun h22 => ?_) (fun h22 => ?_)
              · refine JS.buildSlice (c := fD) ([(some 4607182418800017408 : Fl)] : List Fl) (by kernel_rfl) (by kernel_rfl) (by kernel_rfl) (by kernel_rfl) (by kernel_rfl) (fun id23 => ?_)
                refine JS.bind fun r24 h25 => ?_
                refine JS.callK1 [1] (fold_Sort_ok k ([(some 4607182418800017408 : Fl)] : List Fl) r24 h25) ⟨rfl, argT (c := fD) (l := ([(some 4607182418800017408 : Fl)] : List Fl)) (o := (some id23)) 1 (by kernel_rfl) (by kernel_rfl) (by kernel_rfl) (fun _ => rfl), trivial⟩ ⟨vl_sc (fun _ => rfl), trivial⟩ (by kernel_rfl) (by kernel_rfl) (by kernel_rfl) (by kernel_rfl) (fun o26 => ?_)
                refine JS.relen (o := o26) (off := 0) (n := (vl fD r24).length) (n' := r24.length) 38 (by kernel_rfl) (vl_len _ _) ?_
                refine JS.run 4 (by kernel_rfl) ?_
                refine JS.nil ?_
                refine JC.drop 2 ?_
                refine JC.drop 1 ?_
                refine JC.drop 0 ?_
                refine JC.to2 [(0, .x (.bool (((r24.length : Nat) : Int) == (1 : Int))))] [] (by kernel_rfl) (by kernel_rfl) ?_
                refine JC.to2 [(0, .x (.bool (((r24.length : Nat) : Int) == (1 : Int))))] [] (by kernel_rfl) (by kernel_rfl) ?_
                exact JC.got (ex := .normal) rfl ⟨rfl, rfl, rfl⟩
              · refine JS.run 6 (by kernel_rfl) ?_
                refine JS.nil ?_
                refine JC.drop 0 ?_
                refine JC.to2 [(0, .x (.bool false))] [] (by kernel_rfl) (by kernel_rfl) ?_
                refine JC.to2 [(0, .x (.bool false))] [] (by kernel_rfl) (by kernel_rfl) ?_
                exact JC.got (ex := .normal) rfl ⟨rfl, rfl, rfl⟩
            · refine JS.run 10 (by kernel_rfl) ?_
              refine JS.nil ?_
              refine JC.drop 0 ?_
              refine JC.to2 [(0, .x (.bool false))] [] (by kernel_rfl) (by kernel_rfl) ?_
              refine JC.to2 [(0, .x (.bool false))] [] (by kernel_rfl) (by kernel_rfl) ?_
              exact JC.got (ex := .normal) rfl ⟨rfl, rfl, rfl⟩
          · refine JS.run 13 (by kernel_rfl) ?_
            refine JS.nil ?_
            refine JC.drop 0 ?_
            refine JC.to2 [(0, .x (.bool false))] [] (by kernel_rfl) (by kernel_rfl) ?_
            refine JC.to2 [(0, .x (.bool false))] [] (by kernel_rfl) (by kernel_rfl) ?_
            exact JC.got (ex := .normal) rfl ⟨rfl, rfl, rfl⟩
        · refine JS.run 17 (by kernel_rfl) ?_
          refine JS.nil ?_
          refine JC.drop 0 ?_
          refine JC.to2 [(0, .x (.bool false))] [] (by kernel_rfl) (by kernel_rfl) ?_
          refine JC.to2 [(0, .x (.bool false))] [] (by kernel_rfl) (by kernel_rfl) ?_
          exact JC.got (ex := .normal) rfl ⟨rfl, rfl, rfl⟩
      · refine JS.run 20 (by kernel_rfl) ?_
        refine JS.nil ?_
        refine JC.drop 0 ?_
        refine JC.to2 [(0, .x (.bool false))] [] (by kernel_rfl) (by kernel_rfl) ?_
        refine JC.to2 [(0, .x (.bool false))] [] (by kernel_rfl) (by kernel_rfl) ?_
        exact JC.got (ex := .normal) rfl ⟨rfl, rfl, rfl⟩
    · refine JS.run 24 (by kernel_rfl) ?_
      refine JS.nil ?_
      refine JC.drop 0 ?_
      refine JC.to2 [(0, .x (.bool false))] [] (by kernel_rfl) (by kernel_rfl) ?_
      refine JC.to2 [(0, .x (.bool false))] [] (by kernel_rfl) (by kernel_rfl) ?_
      exact JC.got (ex := .normal) rfl ⟨rfl, rfl, rfl⟩
  · rintro y10 ex E' R' hA
    obtain ⟨rfl, rfl, rfl⟩ := hA
    refine JC.to2 [(0, .x (.bool y10))] [] (by kernel_rfl) (by kernel_rfl) ?_
    refine JC.skipT ?_
    exact JC.finB (ex := .ret) (vs := [.x (.bool y10)]) (is := []) rfl ret_ne ⟨(by kernel_rfl), trivial⟩ (Outs.sc rfl Outs.nil)
/-! eyot/eyotlaw2.FoldSorts -/
def eyotlaw2_FoldSorts_l0 (a0 : (List Fl)) (r14 : (List Fl)) : Nat → Int → Option (Unit ⊕ Unit)
  | 0, _ => none
  | k + 1, x36 => cond (decide (x36 < ((r14.length : Nat) : Int))) ((at? r14 (IntKind.i64.wrap (x36 - (1 : Int)))).bind fun w42 => (at? r14 x36).bind fun w46 => (eyotref1_Order k w42 w46).bind fun r50 => cond (decide (r50 > (0 : Int))) (some (Sum.inr ())) (eyotlaw2_FoldSorts_l0 a0 r14 k (IntKind.i64.wrap (x36 + (1 : Int))))) (some (Sum.inl ()))
theorem eyotlaw2_FoldSorts_l0_ok (a0 : (List Fl)) (r14 : (List Fl))  : ∀ (k : Nat) (x36 : Int) (o37 : Option Nat), JC prog noFr 110 [(0, .c 1 (.lst 1 (a0.map fD))), (6, .ref o37 0 r14.length), (8, .x (.int .i64 x36))] [⟨o37, 1, vl fD r14⟩] (.loop pf1_L0) (eyotlaw2_FoldSorts_l0 a0 r14 k x36) (fun x => GotA 110 noFr ((fun v ex E R => match v with | Sum.inl v => ∃ (o38 : Option Nat), ex = (.exit 0) ∧ E = [(0, .c 1 (.lst 1 (a0.map fD))), (6, .ref o38 0 r14.length)] ∧ R = [⟨o38, 1, vl fD r14⟩] | Sum.inr v => ex = .ret ∧ E = [(4, .x (.bool false))] ∧ R = []) x)) := by
  intro k
  induction k with
  | zero =>
    intro x36 o37
    exact JC.no
  | succ k ih =>
    intro x36 o37
    rw [eyotlaw2_FoldSorts_l0]
    refine JC.loop ?_
    refine JC.seq ?_
    refine JC.seq ?_
    refine JC.region fun b39 => ?_
    refine JS.run 4 (by kernel_rfl) ?_
    refine JS.nil ?_
    refine JC.to2 [(0, .c 1 (.lst 1 (a0.map fD))), (6, .ref o37 0 r14.length), (8, .x (.int .i64 x36)), (54, .x (.bool (decide (x36 < ((r14.length : Nat) : Int)))))] [⟨o37, 1, vl fD r14⟩] (by kernel_rfl) (by kernel_rfl) ?_
    refine JC.skipT ?_
    refine JC.cond (e := (decide (x36 < ((r14.length : Nat) : Int)))) (by kernel_rfl) (fun h40 => ?_) (fun h40 => ?_)
    · refine JC.skipT ?_
      refine JC.seq ?_
      refine JC.block ?_
      refine JC.seq ?_
      refine JC.region fun b41 => ?_
      refine JS.run 3 (by kernel_rfl) ?_
      refine JS.idxT (c := fD) (l := r14) (o := o37) (kk := .i64) (z := (IntKind.i64.wrap (x36 - (1 : Int)))) 0 (by kernel_rfl) (by kernel_rfl) (by kernel_rfl) (by kernel_rfl) (by kernel_rfl) (fun id44 w42 e45 h43 => ?_)
      subst e45
      refine JS.loadO (id := id44) (sz := 1) (p := (IntKind.i64.wrap (x36 - (1 : Int))).toNat) (j := 0) (es := (vl fD r14)) (e := (cv fD w42)) 0 (by kernel_rfl) (vl_get h43) (by kernel_rfl) (by kernel_rfl) (by kernel_rfl) (by kernel_rfl) ?_
      refine JS.run 2 (by kernel_rfl) ?_
      refine JS.idxT (c := fD) (l := r14) (o := (some id44)) (kk := .i64) (z := x36) 0 (by kernel_rfl) (by kernel_rfl) (by kernel_rfl) (by kernel_rfl) (by kernel_rfl) (fun id48 w46 e49 h47 => ?_)
      have e49' : id44 = id48 := by injection e49
      subst e49'
      refine JS.loadO (id := id44) (sz := 1) (p := x36.toNat) (j := 0) (es := (vl fD r14)) (e := (cv fD w46)) 0 (by kernel_rfl) (vl_get h47) (by kernel_rfl) (by kernel_rfl) (by kernel_rfl) (by kernel_rfl) ?_
      refine JS.bind fun r50 h51 => ?_
      refine JS.callQS [] (eyotref1_Order_ok k w42 w46 r50 h51) ⟨rfl, argX (d := (.flt w42)) (by kernel_rfl) (by kernel_rfl), rfl, argX (d := (.flt w46)) (by kernel_rfl) (by kernel_rfl), trivial⟩ (by kernel_rfl) (by kernel_rfl) (by kernel_rfl) ?_
      refine JS.run 1 (by kernel_rfl) ?_
      refine JS.nil ?_
      refine JC.to2 [(0, .c 1 (.lst 1 (a0.map fD))), (6, .ref (some id44) 0 r14.length), (8, .x (.int .i64 x36)), (67, .x (.bool (decide (r50 > (0 : Int)))))] [⟨(some id44), 1, vl fD r14⟩] (by kernel_rfl) (by kernel_rfl) ?_
      refine JC.skipT ?_
      refine JC.cond (e := (decide (r50 > (0 : Int)))) (by kernel_rfl) (fun h52 => ?_) (fun h52 => ?_)
      · refine JC.seq ?_
        refine JC.region fun b53 => ?_
        refine JS.run 1 (by kernel_rfl) ?_
        refine JS.nil ?_
        refine JC.drop 0 ?_
        refine JC.to2 [(4, .x (.bool false))] [] (by kernel_rfl) (by kernel_rfl) ?_
        refine JC.skipT ?_
        refine JC.retB ?_
        refine JC.retT ?_
        refine JC.retL ?_
        refine JC.to2 [(4, .x (.bool false))] [] (by kernel_rfl) (by kernel_rfl) ?_
        exact JC.got (ex := .ret) rfl ⟨rfl, rfl, rfl⟩
      · refine JC.skipB ?_
        refine JC.skipT ?_
        refine JC.region fun b54 => ?_
        refine JS.run 3 (by kernel_rfl) ?_
        refine JS.nil ?_
        refine JC.to2 [(0, .c 1 (.lst 1 (a0.map fD))), (6, .ref (some id44) 0 r14.length), (8, .x (.int .i64 (IntKind.i64.wrap (x36 + (1 : Int)))))] [⟨(some id44), 1, vl fD r14⟩] (by kernel_rfl) (by kernel_rfl) ?_
        refine JC.skipL ?_
        refine JC.to2 [(0, .c 1 (.lst 1 (a0.map fD))), (6, .ref (some id44) 0 r14.length), (8, .x (.int .i64 (IntKind.i64.wrap (x36 + (1 : Int)))))] [⟨(some id44), 1, vl fD r14⟩] (by kernel_rfl) (by kernel_rfl) ?_
        exact ih (IntKind.i64.wrap (x36 + (1 : Int))) (some id44)
    · refine JC.exitT ?_
      refine JC.exitL ?_
      refine JC.to2 [(0, .c 1 (.lst 1 (a0.map fD))), (6, .ref o37 0 r14.length)] [⟨o37, 1, vl fD r14⟩] (by kernel_rfl) (by kernel_rfl) ?_
      exact JC.got (ex := (.exit 0)) rfl ⟨o37, rfl, rfl, rfl⟩
def eyotlaw2_FoldSorts (k : Nat) (a0 : (List Fl)) (a1 : Int) : Option Bool :=
  (eyotlaw2_begun k).bind fun r3 => cond (!r3) (some false) ((cond (((a0.length : Nat) : Int) == (0 : Int)) (some true) (some (decide (((a0.length : Nat) : Int) > (30 : Int))))).bind fun y7 => cond y7 (some true) (nz ((a0.length : Nat) : Int) ((fold_Sort k a0).bind fun r14 => (cutI a0.length (some (Int.tmod (IntKind.i64.wrap a1) ((a0.length : Nat) : Int))) none).bind fun p19 => room ((([] : List Fl).length) + (sl a0 p19).length) 8 ((cutI a0.length none (some (Int.tmod (IntKind.i64.wrap a1) ((a0.length : Nat) : Int)))).bind fun p22 => room (((([] : List Fl) ++ (sl a0 p19)).length) + (sl a0 p22).length) 8 ((fold_Sort k ((([] : List Fl) ++ (sl a0 p19)) ++ (sl a0 p22))).bind fun r25 => (cond (((r14.length : Nat) : Int) != ((a0.length : Nat) : Int)) (some true) ((eyotref1_SameAll k r14 r25).bind fun r31 => some (!r31))).bind fun y28 => cond y28 (some false) ((eyotlaw2_FoldSorts_l0 a0 r14 k (1 : Int)).bind fun v => (match v with | Sum.inl _ => (fold_Least k a0).bind fun r56 => (fold_Most k a0).bind fun r59 => cond (!r56.2) ((cond (!r59.2) ((at? r14 (0 : Int)).bind fun w66 => (at? r14 (0 : Int)).bind fun w70 => some (fOrd w66 w70 != some .eq)) (some false)).bind fun y63 => some y63) ((cond r59.2 ((at? r14 (0 : Int)).bind fun w77 => (eyotref1_Same k r56.1 w77).bind fun r81 => cond r81 ((eyotref1_Order k r56.1 r59.1).bind fun r84 => cond (decide (r84 ≤ (0 : Int))) (some (fOrd r59.1 r59.1 == some .eq)) (some false)) (some false)) (some false)).bind fun y74 => some y74) | Sum.inr _ => some false)))))))
theorem eyotlaw2_FoldSorts_ok (k : Nat) (a0 : (List Fl)) (a1 : Int) : ∀ r, eyotlaw2_FoldSorts k a0 a1 = some r → CallOk prog 1 [.c 1 (.lst 1 (a0.map fD)), .x (.int .u8 a1)] false [.sc (.x (.bool r))] := by
  refine CallOk.ofB (pf := pf1) (rs := [.tmp 4]) (Res := fun (r : Bool) => [.sc (.x (.bool r))]) rfl rfl rfl rfl rfl ?_
  unfold eyotlaw2_FoldSorts pf1
  refine JC.seq ?_
  refine JC.region fun b1 => ?_
  refine JS.run 1 (by kernel_rfl) ?_
  refine JS.nil ?_
  refine JC.to2 [(0, .c 1 (.lst 1 (a0.map fD))), (1, .x (.int .u8 a1))] [] (by kernel_rfl) (by kernel_rfl) ?_
  refine JC.skipT ?_
  refine JC.seq ?_
  refine JC.seq ?_
  refine JC.region fun b2 => ?_
  refine JS.bind fun r3 h4 => ?_
  refine JS.callS [] (eyotlaw2_begun_ok k r3 h4) trivial (by kernel_rfl) (by kernel_rfl) (by kernel_rfl) ?_
  refine JS.run 1 (by kernel_rfl) ?_
  refine JS.nil ?_
  refine JC.to2 [(0, .c 1 (.lst 1 (a0.map fD))), (1, .x (.int .u8 a1)), (14, .x (.bool (!r3)))] [] (by kernel_rfl) (by kernel_rfl) ?_
  refine JC.skipT ?_
  refine JC.cond (e := (!r3)) (by kernel_rfl) (fun h5 => ?_) (fun h5 => ?_)
  · refine JC.seq ?_
    refine JC.region fun b6 => ?_
    refine JS.run 1 (by kernel_rfl) ?_
    refine JS.nil ?_
    refine JC.to2 [(4, .x (.bool false))] [] (by kernel_rfl) (by kernel_rfl) ?_
    refine JC.skipT ?_
    refine JC.retT ?_
    exact JC.finB (ex := .ret) (vs := [.x (.bool false)]) (is := []) rfl ret_ne ⟨(by kernel_rfl), trivial⟩ (Outs.sc rfl Outs.nil)
  · refine JC.skipT ?_
    refine JC.seq ?_
    refine JC.seq ?_
    refine JC.bind (A := fun v ex E R => ex = .normal ∧ E = [(0, .c 1 (.lst 1 (a0.map fD))), (1, .x (.int .u8 a1)), (22, .x (.bool v))] ∧ R = []) ?_ ?_
    · refine JC.region fun b8 => ?_
      refine JS.run 1 (by kernel_rfl) ?_
      refine JS.lenC (c := fD) (l := a0) (n := 1) (sz := 1) (by kernel_rfl) (by kernel_rfl) (by kernel_rfl) ?_
      refine JS.run 2 (by kernel_rfl) ?_
      refine JS.split (e := (((a0.length : Nat) : Int) == (0 : Int))) 18 (by kernel_rfl) (fun h9 => ?_) (fun h9 => ?_)
      · refine JS.run 4 (by kernel_rfl) ?_
        refine JS.nil ?_
        refine JC.to2 [(0, .c 1 (.lst 1 (a0.map fD))), (1, .x (.int .u8 a1)), (22, .x (.bool true))] [] (by kernel_rfl) (by kernel_rfl) ?_
        refine JC.to2 [(0, .c 1 (.lst 1 (a0.map fD))), (1, .x (.int .u8 a1)), (22, .x (.bool true))] [] (by kernel_rfl) (by kernel_rfl) ?_
        exact JC.got (ex := .normal) rfl ⟨rfl, rfl, rfl⟩
      · refine JS.run 1 (by kernel_rfl) ?_
        refine JS.lenC (c := fD) (l := a0) (n := 1) (sz := 1) (by kernel_rfl) (by kernel_rfl) (by kernel_rfl) ?_
        refine JS.run 2 (by kernel_rfl) ?_
        refine JS.nil ?_
        refine JC.to2 [(0, .c 1 (.lst 1 (a0.map fD))), (1, .x (.int .u8 a1)), (22, .x (.bool (decide (((a0.length : Nat) : Int) > (30 : Int)))))] [] (by kernel_rfl) (by kernel_rfl) ?_
        refine JC.to2 [(0, .c 1 (.lst 1 (a0.map fD))), (1, .x (.int .u8 a1)), (22, .x (.bool (decide (((a0.length : Nat) : Int) > (30 : Int)))))] [] (by kernel_rfl) (by kernel_rfl) ?_
        exact JC.got (ex := .normal) rfl ⟨rfl, rfl, rfl⟩
    · rintro y7 ex E' R' hA
      obtain ⟨rfl, rfl, rfl⟩ := hA
      refine JC.to2 [(0, .c 1 (.lst 1 (a0.map fD))), (1, .x (.int .u8 a1)), (22, .x (.bool y7))] [] (by kernel_rfl) (by kernel_rfl) ?_
      refine JC.skipT ?_
      refine JC.cond (e := y7) (by kernel_rfl) (fun h10 => ?_) (fun h10 => ?_)
      · refine JC.seq ?_
        refine JC.region fun b11 => ?_
        refine JS.run 1 (by kernel_rfl) ?_
        refine JS.nil ?_
        refine JC.to2 [(4, .x (.bool true))] [] (by kernel_rfl) (by kernel_rfl) ?_
        refine JC.skipT ?_
        refine JC.retT ?_
        exact JC.finB (ex := .ret) (vs := [.x (.bool true)]) (is := []) rfl ret_ne ⟨(by kernel_rfl), trivial⟩ (Outs.sc rfl Outs.nil)
      · refine JC.skipT ?_
        refine JC.seq ?_
        refine JC.region fun b12 => ?_
        refine JS.run 3 (by kernel_rfl) ?_
        refine JS.lenC (c := fD) (l := a0) (n := 1) (sz := 1) (by kernel_rfl) (by kernel_rfl) (by kernel_rfl) ?_
        refine JS.rem (k := .i64) (a := (IntKind.i64.wrap a1)) (c := ((a0.length : Nat) : Int)) (by kernel_rfl) (by kernel_rfl) (by kernel_rfl) (by kernel_rfl) ?_
        refine JS.run 1 (by kernel_rfl) ?_
        refine JS.nil ?_
        refine JC.to2 [(0, .c 1 (.lst 1 (a0.map fD))), (5, .x (.int .i64 (Int.tmod (IntKind.i64.wrap a1) ((a0.length : Nat) : Int))))] [] (by kernel_rfl) (by kernel_rfl) ?_
        refine JC.skipT ?_
        refine JC.seq ?_
        refine JC.region fun b13 => ?_
        refine JS.run 1 (by kernel_rfl) ?_
        refine JS.bind fun r14 h15 => ?_
        refine JS.callK1 [] (fold_Sort_ok k a0 r14 h15) ⟨rfl, argC (n := 1) (by kernel_rfl) (by kernel_rfl) (by kernel_rfl), trivial⟩ ⟨vl_sc (fun _ => rfl), trivial⟩ (by kernel_rfl) (by kernel_rfl) (by kernel_rfl) (by kernel_rfl) (fun o16 => ?_)
        refine JS.relen (o := o16) (off := 0) (n := (vl fD r14).length) (n' := r14.length) 29 (by kernel_rfl) (vl_len _ _) ?_
        refine JS.run 1 (by kernel_rfl) ?_
        refine JS.nil ?_
        refine JC.to2 [(0, .c 1 (.lst 1 (a0.map fD))), (5, .x (.int .i64 (Int.tmod (IntKind.i64.wrap a1) ((a0.length : Nat) : Int)))), (6, .ref o16 0 r14.length)] [⟨o16, 1, vl fD r14⟩] (by kernel_rfl) (by kernel_rfl) ?_
        refine JC.skipT ?_
        refine JC.seq ?_
        refine JC.regionD fun b17 => ?_
        refine JSD.buildSlice (c := fD) ([] : List Fl) (by kernel_rfl) (by kernel_rfl) (by kernel_rfl) (by kernel_rfl) (by kernel_rfl) (by kernel_rfl) (fun id18 => ?_)
        refine JSD.run 2 (by kernel_rfl) ?_
        refine JSD.sliceC (c := fD) (l := a0) (n := 1) (lo' := (some (Int.tmod (IntKind.i64.wrap a1) ((a0.length : Nat) : Int)))) (hi' := none) (by kernel_rfl) (by kernel_rfl) (by kernel_rfl) (by kernel_rfl) (by kernel_rfl) (by kernel_rfl) (fun p19 h20 => ?_)
        refine JSD.appG (c := fD) (l := ([] : List Fl)) (k := (sl a0 p19)) (o := (some id18)) 1 (by kernel_rfl) (by kernel_rfl) (srcDC (c := fD) (l := (sl a0 p19)) (n := 1) (by kernel_rfl) (fun _ => rfl) (fun _ _ => rfl)) (by kernel_rfl) (by kernel_rfl) (by kernel_rfl) (by kernel_rfl) (by kernel_rfl) (fun o21 => ?_) (fun o21 => ?_)
        · refine JSD.run 2 (by kernel_rfl) ?_
          refine JSD.sliceC (c := fD) (l := a0) (n := 1) (lo' := none) (hi' := (some (Int.tmod (IntKind.i64.wrap a1) ((a0.length : Nat) : Int)))) (by kernel_rfl) (by kernel_rfl) (by kernel_rfl) (by kernel_rfl) (by kernel_rfl) (by kernel_rfl) (fun p22 h23 => ?_)
          refine JSD.appG (c := fD) (l := (([] : List Fl) ++ (sl a0 p19))) (k := (sl a0 p22)) (o := o21) 1 (by kernel_rfl) (by kernel_rfl) (srcDC (c := fD) (l := (sl a0 p22)) (n := 1) (by kernel_rfl) (fun _ => rfl) (fun _ _ => rfl)) (by kernel_rfl) (by kernel_rfl) (by kernel_rfl) (by kernel_rfl) (by kernel_rfl) (fun o24 => ?_) (fun o24 => ?_)
          · refine JSD.toJS (by kernel_rfl) (by kernel_rfl) ?_
            refine JS.bind fun r25 h26 => ?_
            refine JS.callK1 [1] (fold_Sort_ok k ((([] : List Fl) ++ (sl a0 p19)) ++ (sl a0 p22)) r25 h26) ⟨rfl, argT (c := fD) (l := ((([] : List Fl) ++ (sl a0 p19)) ++ (sl a0 p22))) (o := o24) 1 (by kernel_rfl) (by kernel_rfl) (by kernel_rfl) (fun _ => rfl), trivial⟩ ⟨vl_sc (fun _ => rfl), trivial⟩ (by kernel_rfl) (by kernel_rfl) (by kernel_rfl) (by kernel_rfl) (fun o27 => ?_)
            refine JS.relen (o := o27) (off := 0) (n := (vl fD r25).length) (n' := r25.length) 39 (by kernel_rfl) (vl_len _ _) ?_
            refine JS.run 1 (by kernel_rfl) ?_
            refine JS.nil ?_
            refine JC.drop 1 ?_
            refine JC.to2 [(0, .c 1 (.lst 1 (a0.map fD))), (6, .ref o16 0 r14.length), (7, .ref o27 0 r25.length)] [⟨o16, 1, vl fD r14⟩, ⟨o27, 1, vl fD r25⟩] (by kernel_rfl) (by kernel_rfl) ?_
            refine JC.skipT ?_
            refine JC.seq ?_
            refine JC.seq ?_
            refine JC.bind (A := fun v ex E R => ex = .normal ∧ E = [(0, .c 1 (.lst 1 (a0.map fD))), (6, .ref o16 0 r14.length), (50, .x (.bool v))] ∧ R = [⟨o16, 1, vl fD r14⟩]) ?_ ?_
            · refine JC.region fun b29 => ?_
              refine JS.run 3 (by kernel_rfl) ?_
              refine JS.lenC (c := fD) (l := a0) (n := 1) (sz := 1) (by kernel_rfl) (by kernel_rfl) (by kernel_rfl) ?_
              refine JS.run 2 (by kernel_rfl) ?_
              refine JS.split (e := (((r14.length : Nat) : Int) != ((a0.length : Nat) : Int))) 45 (by kernel_rfl) (fun h30 => ?_) (fun h30 => ?_)
              · refine JS.run 5 (by kernel_rfl) ?_
                refine JS.nil ?_
                refine JC.drop 1 ?_
                refine JC.to2 [(0, .c 1 (.lst 1 (a0.map fD))), (6, .ref o16 0 r14.length), (50, .x (.bool true))] [⟨o16, 1, vl fD r14⟩] (by kernel_rfl) (by kernel_rfl) ?_
                refine JC.to2 [(0, .c 1 (.lst 1 (a0.map fD))), (6, .ref o16 0 r14.length), (50, .x (.bool true))] [⟨o16, 1, vl fD r14⟩] (by kernel_rfl) (by kernel_rfl) ?_
                exact JC.got (ex := .normal) rfl ⟨rfl, rfl, rfl⟩
              · refine JS.run 2 (by kernel_rfl) ?_
                refine JS.bind fun r31 h32 => ?_
                refine JS.callS [0, 1] (eyotref1_SameAll_ok k r14 r25 r31 h32) ⟨rfl, argT (c := fD) (l := r14) (o := o16) 0 (by kernel_rfl) (by kernel_rfl) (by kernel_rfl) (fun _ => rfl), rfl, argT (c := fD) (l := r25) (o := o27) 1 (by kernel_rfl) (by kernel_rfl) (by kernel_rfl) (fun _ => rfl), trivial⟩ (by kernel_rfl) (by kernel_rfl) (by kernel_rfl) ?_
                refine JS.run 2 (by kernel_rfl) ?_
                refine JS.nil ?_
                refine JC.drop 1 ?_
                refine JC.to2 [(0, .c 1 (.lst 1 (a0.map fD))), (6, .ref o16 0 r14.length), (50, .x (.bool (!r31)))] [⟨o16, 1, vl fD r14⟩] (by kernel_rfl) (by kernel_rfl) ?_
                refine JC.to2 [(0, .c 1 (.lst 1 (a0.map fD))), (6, .ref o16 0 r14.length), (50, .x (.bool (!r31)))] [⟨o16, 1, vl fD r14⟩] (by kernel_rfl) (by kernel_rfl) ?_
                exact JC.got (ex := .normal) rfl ⟨rfl, rfl, rfl⟩
            · rintro y28 ex E' R' hA
              obtain ⟨rfl, rfl, rfl⟩ := hA
              refine JC.to2 [(0, .c 1 (.lst 1 (a0.map fD))), (6, .ref o16 0 r14.length), (50, .x (.bool y28))] [⟨o16, 1, vl fD r14⟩] (by kernel_rfl) (by kernel_rfl) ?_
              refine JC.skipT ?_
              refine JC.cond (e := y28) (by kernel_rfl) (fun h33 => ?_) (fun h33 => ?_)
              · refine JC.seq ?_
                refine JC.region fun b34 => ?_
                refine JS.run 1 (by kernel_rfl) ?_
                refine JS.nil ?_
                refine JC.drop 0 ?_
                refine JC.to2 [(4, .x (.bool false))] [] (by kernel_rfl) (by kernel_rfl) ?_
                refine JC.skipT ?_
                refine JC.retT ?_
                exact JC.finB (ex := .ret) (vs := [.x (.bool false)]) (is := []) rfl ret_ne ⟨(by kernel_rfl), trivial⟩ (Outs.sc rfl Outs.nil)
              · refine JC.skipT ?_
                refine JC.seq ?_
                refine JC.seq ?_
                refine JC.region fun b35 => ?_
                refine JS.run 1 (by kernel_rfl) ?_
                refine JS.nil ?_
                refine JC.to2 [(0, .c 1 (.lst 1 (a0.map fD))), (6, .ref o16 0 r14.length), (8, .x (.int .i64 (1 : Int)))] [⟨o16, 1, vl fD r14⟩] (by kernel_rfl) (by kernel_rfl) ?_
                refine JC.skipT ?_
                refine JC.block ?_
                refine JC.to2 [(0, .c 1 (.lst 1 (a0.map fD))), (6, .ref o16 0 r14.length), (8, .x (.int .i64 (1 : Int)))] [⟨o16, 1, vl fD r14⟩] (by kernel_rfl) (by kernel_rfl) ?_
                refine JC.to2 [(0, .c 1 (.lst 1 (a0.map fD))), (6, .ref o16 0 r14.length), (8, .x (.int .i64 (1 : Int)))] [⟨o16, 1, vl fD r14⟩] (by kernel_rfl) (by kernel_rfl) ?_
                refine JC.bind (A := fun v ex E R => match v with | Sum.inl v => ∃ (o38 : Option Nat), ex = (.exit 0) ∧ E = [(0, .c 1 (.lst 1 (a0.map fD))), (6, .ref o38 0 r14.length)] ∧ R = [⟨o38, 1, vl fD r14⟩] | Sum.inr v => ex = .ret ∧ E = [(4, .x (.bool false))] ∧ R = []) (eyotlaw2_FoldSorts_l0_ok a0 r14 k (1 : Int) o16) ?_
                rintro v ex E' R' hA
                rcases v with _ | _
                · obtain ⟨o38, rfl, rfl, rfl⟩ := hA
                  refine JC.to2 [(0, .c 1 (.lst 1 (a0.map fD))), (6, .ref o38 0 r14.length)] [⟨o38, 1, vl fD r14⟩] (by kernel_rfl) (by kernel_rfl) ?_
                  refine JC.exitB ?_
                  refine JC.skipT ?_
                  refine JC.seq ?_
                  refine JC.region fun b55 => ?_
                  refine JS.run 1 (by kernel_rfl) ?_
                  refine JS.bind fun r56 h57 => ?_
                  refine JS.callS [] (fold_Least_ok k a0 r56 h57) ⟨rfl, argC (n := 1) (by kernel_rfl) (by kernel_rfl) (by kernel_rfl), trivial⟩ (by kernel_rfl) (by kernel_rfl) (by kernel_rfl) ?_
                  refine JS.run 5 (by kernel_rfl) ?_
                  refine JS.nil ?_
                  refine JC.to2 [(0, .c 1 (.lst 1 (a0.map fD))), (6, .ref o38 0 r14.length), (9, .x (.flt r56.1)), (10, .x (.bool r56.2))] [⟨o38, 1, vl fD r14⟩] (by kernel_rfl) (by kernel_rfl) ?_
                  refine JC.skipT ?_
                  refine JC.seq ?_
                  refine JC.region fun b58 => ?_
                  refine JS.run 1 (by kernel_rfl) ?_
                  refine JS.bind fun r59 h60 => ?_
                  refine JS.callS [] (fold_Most_ok k a0 r59 h60) ⟨rfl, argC (n := 1) (by kernel_rfl) (by kernel_rfl) (by kernel_rfl), trivial⟩ (by kernel_rfl) (by kernel_rfl) (by kernel_rfl) ?_
                  refine JS.run 5 (by kernel_rfl) ?_
                  refine JS.nil ?_
                  refine JC.to2 [(6, .ref o38 0 r14.length), (9, .x (.flt r56.1)), (10, .x (.bool r56.2)), (11, .x (.flt r59.1)), (12, .x (.bool r59.2))] [⟨o38, 1, vl fD r14⟩] (by kernel_rfl) (by kernel_rfl) ?_
                  refine JC.skipT ?_
                  refine JC.seq ?_
                  refine JC.seq ?_
                  refine JC.region fun b61 => ?_
                  refine JS.run 2 (by kernel_rfl) ?_
                  refine JS.nil ?_
                  refine JC.to2 [(6, .ref o38 0 r14.length), (9, .x (.flt r56.1)), (11, .x (.flt r59.1)), (12, .x (.bool r59.2)), (79, .x (.bool (!r56.2)))] [⟨o38, 1, vl fD r14⟩] (by kernel_rfl) (by kernel_rfl) ?_
                  refine JC.skipT ?_
                  refine JC.cond (e := (!r56.2)) (by kernel_rfl) (fun h62 => ?_) (fun h62 => ?_)
                  · refine JC.seq ?_
                    refine JC.bind (A := fun v ex E R => ex = .normal ∧ E = [(4, .x (.bool v))] ∧ R = []) ?_ ?_
                    · refine JC.region fun b64 => ?_
                      refine JS.run 3 (by kernel_rfl) ?_
                      refine JS.split (e := (!r59.2)) 82 (by kernel_rfl) (fun h65 => ?_) (fun h65 => ?_)
                      · refine JS.run 1 (by kernel_rfl) ?_
                        refine JS.idxT (c := fD) (l := r14) (o := o38) (kk := .i64) (z := (0 : Int)) 0 (by kernel_rfl) (by kernel_rfl) (by kernel_rfl) (by kernel_rfl) (by kernel_rfl) (fun id68 w66 e69 h67 => ?_)
                        subst e69
                        refine JS.loadO (id := id68) (sz := 1) (p := (0 : Int).toNat) (j := 0) (es := (vl fD r14)) (e := (cv fD w66)) 0 (by kernel_rfl) (vl_get h67) (by kernel_rfl) (by kernel_rfl) (by kernel_rfl) (by kernel_rfl) ?_
                        refine JS.run 1 (by kernel_rfl) ?_
                        refine JS.idxT (c := fD) (l := r14) (o := (some id68)) (kk := .i64) (z := (0 : Int)) 0 (by kernel_rfl) (by kernel_rfl) (by kernel_rfl) (by kernel_rfl) (by kernel_rfl) (fun id72 w70 e73 h71 => ?_)
                        have e73' : id68 = id72 := by injection e73
                        subst e73'
                        refine JS.loadO (id := id68) (sz := 1) (p := (0 : Int).toNat) (j := 0) (es := (vl fD r14)) (e := (cv fD w70)) 0 (by kernel_rfl) (vl_get h71) (by kernel_rfl) (by kernel_rfl) (by kernel_rfl) (by kernel_rfl) ?_
                        refine JS.run 3 (by kernel_rfl) ?_
                        refine JS.nil ?_
                        refine JC.drop 0 ?_
                        refine JC.to2 [(4, .x (.bool (fOrd w66 w70 != some .eq)))] [] (by kernel_rfl) (by kernel_rfl) ?_
                        refine JC.to2 [(4, .x (.bool (fOrd w66 w70 != some .eq)))] [] (by kernel_rfl) (by kernel_rfl) ?_
                        exact JC.got (ex := .normal) rfl ⟨rfl, rfl, rfl⟩
                      · refine JS.run 9 (by kernel_rfl) ?_
                        refine JS.nil ?_
                        refine JC.drop 0 ?_
                        refine JC.to2 [(4, .x (.bool false))] [] (by kernel_rfl) (by kernel_rfl) ?_
                        refine JC.to2 [(4, .x (.bool false))] [] (by kernel_rfl) (by kernel_rfl) ?_
                        exact JC.got (ex := .normal) rfl ⟨rfl, rfl, rfl⟩
                    · rintro y63 ex E' R' hA
                      obtain ⟨rfl, rfl, rfl⟩ := hA
                      refine JC.to2 [(4, .x (.bool y63))] [] (by kernel_rfl) (by kernel_rfl) ?_
                      refine JC.skipT ?_
                      refine JC.retT ?_
                      exact JC.finB (ex := .ret) (vs := [.x (.bool y63)]) (is := []) rfl ret_ne ⟨(by kernel_rfl), trivial⟩ (Outs.sc rfl Outs.nil)
                  · refine JC.skipT ?_
                    refine JC.seq ?_
                    refine JC.bind (A := fun v ex E R => ex = .normal ∧ E = [(4, .x (.bool v))] ∧ R = []) ?_ ?_
                    · refine JC.region fun b75 => ?_
                      refine JS.run 2 (by kernel_rfl) ?_
                      refine JS.split (e := r59.2) 92 (by kernel_rfl) (fun h76 => ?_) (fun h76 => ?_)
                      · refine JS.run 2 (by kernel_rfl) ?_
                        refine JS.idxT (c := fD) (l := r14) (o := o38) (kk := .i64) (z := (0 : Int)) 0 (by kernel_rfl) (by kernel_rfl) (by kernel_rfl) (by kernel_rfl) (by kernel_rfl) (fun id79 w77 e80 h78 => ?_)
                        subst e80
                        refine JS.loadO (id := id79) (sz := 1) (p := (0 : Int).toNat) (j := 0) (es := (vl fD r14)) (e := (cv fD w77)) 0 (by kernel_rfl) (vl_get h78) (by kernel_rfl) (by kernel_rfl) (by kernel_rfl) (by kernel_rfl) ?_
                        refine JS.bind fun r81 h82 => ?_
                        refine JS.callS [] (eyotref1_Same_ok k r56.1 w77 r81 h82) ⟨rfl, argX (d := (.flt r56.1)) (by kernel_rfl) (by kernel_rfl), rfl, argX (d := (.flt w77)) (by kernel_rfl) (by kernel_rfl), trivial⟩ (by kernel_rfl) (by kernel_rfl) (by kernel_rfl) ?_
                        refine JS.run 2 (by kernel_rfl) ?_
                        refine JS.split (e := r81) 99 (by kernel_rfl) (fun h83 => ?_) (fun h83 => ?_)
                        · refine JS.run 2 (by kernel_rfl) ?_
                          refine JS.bind fun r84 h85 => ?_
                          refine JS.callS [] (eyotref1_Order_ok k r56.1 r59.1 r84 h85) ⟨rfl, argX (d := (.flt r56.1)) (by kernel_rfl) (by kernel_rfl), rfl, argX (d := (.flt r59.1)) (by kernel_rfl) (by kernel_rfl), trivial⟩ (by kernel_rfl) (by kernel_rfl) (by kernel_rfl) ?_
                          refine JS.run 3 (by kernel_rfl) ?_
                          refine JS.split (e := (decide (r84 ≤ (0 : Int)))) 105 (by kernel_rfl) (fun h86 => ?_) (fun h86 => ?_)
                          · refine JS.run 5 (by kernel_rfl) ?_
                            refine JS.nil ?_
                            refine JC.drop 0 ?_
                            refine JC.to2 [(4, .x (.bool (fOrd r59.1 r59.1 == some .eq)))] [] (by kernel_rfl) (by kernel_rfl) ?_
                            refine JC.to2 [(4, .x (.bool (fOrd r59.1 r59.1 == some .eq)))] [] (by kernel_rfl) (by kernel_rfl) ?_
                            exact JC.got (ex := .normal) rfl ⟨rfl, rfl, rfl⟩
                          · refine JS.run 5 (by kernel_rfl) ?_
                            refine JS.nil ?_
                            refine JC.drop 0 ?_
                            refine JC.to2 [(4, .x (.bool false))] [] (by kernel_rfl) (by kernel_rfl) ?_
                            refine JC.to2 [(4, .x (.bool false))] [] (by kernel_rfl) (by kernel_rfl) ?_
                            exact JC.got (ex := .normal) rfl ⟨rfl, rfl, rfl⟩
                        · refine JS.run 11 (by kernel_rfl) ?_
                          refine JS.nil ?_
                          refine JC.drop 0 ?_
                          refine JC.to2 [(4, .x (.bool false))] [] (by kernel_rfl) (by kernel_rfl) ?_
                          refine JC.to2 [(4, .x (.bool false))] [] (by kernel_rfl) (by kernel_rfl) ?_
                          exact JC.got (ex := .normal) rfl ⟨rfl, rfl, rfl⟩
                      · refine JS.run 18 (by kernel_rfl) ?_
                        refine JS.nil ?_
                        refine JC.drop 0 ?_
                        refine JC.to2 [(4, .x (.bool false))] [] (by kernel_rfl) (by kernel_rfl) ?_
                        refine JC.to2 [(4, .x (.bool false))] [] (by kernel_rfl) (by kernel_rfl) ?_
                        exact JC.got (ex := .normal) rfl ⟨rfl, rfl, rfl⟩
                    · rintro y74 ex E' R' hA
                      obtain ⟨rfl, rfl, rfl⟩ := hA
                      refine JC.to2 [(4, .x (.bool y74))] [] (by kernel_rfl) (by kernel_rfl) ?_
                      refine JC.skipT ?_
                      exact JC.finB (ex := .ret) (vs := [.x (.bool y74)]) (is := []) rfl ret_ne ⟨(by kernel_rfl), trivial⟩ (Outs.sc rfl Outs.nil)
                · obtain ⟨rfl, rfl, rfl⟩ := hA
                  refine JC.to2 [(4, .x (.bool false))] [] (by kernel_rfl) (by kernel_rfl) ?_
                  refine JC.retB ?_
                  refine JC.retT ?_
                  exact JC.finB (ex := .ret) (vs := [.x (.bool false)]) (is := []) rfl ret_ne ⟨(by kernel_rfl), trivial⟩ (Outs.sc rfl Outs.nil)
          · refine JSD.toJS (by kernel_rfl) (by kernel_rfl) ?_
            refine JS.bind fun r25 h26 => ?_
            refine JS.callK1 [1] (fold_Sort_ok k ((([] : List Fl) ++ (sl a0 p19)) ++ (sl a0 p22)) r25 h26) ⟨rfl, argT (c := fD) (l := ((([] : List Fl) ++ (sl a0 p19)) ++ (sl a0 p22))) (o := o24) 1 (by kernel_rfl) (by kernel_rfl) (by kernel_rfl) (fun _ => rfl), trivial⟩ ⟨vl_sc (fun _ => rfl), trivial⟩ (by kernel_rfl) (by kernel_rfl) (by kernel_rfl) (by kernel_rfl) (fun o27 => ?_)
            refine JS.relen (o := o27) (off := 0) (n := (vl fD r25).length) (n' := r25.length) 39 (by kernel_rfl) (vl_len _ _) ?_
            refine JS.run 1 (by kernel_rfl) ?_
            refine JS.nil ?_
            refine JC.drop 1 ?_
            refine JC.to2 [(0, .c 1 (.lst 1 (a0.map fD))), (6, .ref o16 0 r14.length), (7, .ref o27 0 r25.length)] [⟨o16, 1, vl fD r14⟩, ⟨o27, 1, vl fD r25⟩] (by kernel_rfl) (by kernel_rfl) ?_
            refine JC.skipT ?_
            refine JC.seq ?_
            refine JC.seq ?_
            refine JC.bind (A := fun v ex E R => ex = .normal ∧ E = [(0, .c 1 (.lst 1 (a0.map fD))), (6, .ref o16 0 r14.length), (50, .x (.bool v))] ∧ R = [⟨o16, 1, vl fD r14⟩]) ?_ ?_
            · refine JC.region fun b29 => ?_
              refine JS.run 3 (by kernel_rfl) ?_
              refine JS.lenC (c := fD) (l := a0) (n := 1) (sz := 1) (by kernel_rfl) (by kernel_rfl) (by kernel_rfl) ?_
              refine JS.run 2 (by kernel_rfl) ?_
              refine JS.split (e := (((r14.length : Nat) : Int) != ((a0.length : Nat) : Int))) 45 (by kernel_rfl) (fun h30 => ?_) (fun h30 => ?_)
              · refine JS.run 5 (by kernel_rfl) ?_
                refine JS.nil ?_
                refine JC.drop 1 ?_
                refine JC.to2 [(0, .c 1 (.lst 1 (a0.map fD))), (6, .ref o16 0 r14.length), (50, .x (.bool true))] [⟨o16, 1, vl fD r14⟩] (by kernel_rfl) (by kernel_rfl) ?_
                refine JC.to2 [(0, .c 1 (.lst 1 (a0.map fD))), (6, .ref o16 0 r14.length), (50, .x (.bool true))] [⟨o16, 1, vl fD r14⟩] (by kernel_rfl) (by kernel_rfl) ?_
                exact JC.got (ex := .normal) rfl ⟨rfl, rfl, rfl⟩
              · refine JS.run 2 (by kernel_rfl) ?_
                refine JS.bind fun r31 h32 => ?_
                refine JS.callS [0, 1] (eyotref1_SameAll_ok k r14 r25 r31 h32) ⟨rfl, argT (c := fD) (l := r14) (o := o16) 0 (by kernel_rfl) (by kernel_rfl) (by kernel_rfl) (fun _ => rfl), rfl, argT (c := fD) (l := r25) (o := o27) 1 (by kernel_rfl) (by kernel_rfl) (by kernel_rfl) (fun _ => rfl), trivial⟩ (by kernel_rfl) (by kernel_rfl) (by kernel_rfl) ?_
                refine JS.run 2 (by kernel_rfl) ?_
                refine JS.nil ?_
                refine JC.drop 1 ?_
                refine JC.to2 [(0, .c 1 (.lst 1 (a0.map fD))), (6, .ref o16 0 r14.length), (50, .x (.bool (!r31)))] [⟨o16, 1, vl fD r14⟩] (by kernel_rfl) (by kernel_rfl) ?_
                refine JC.to2 [(0, .c 1 (.lst 1 (a0.map fD))), (6, .ref o16 0 r14.length), (50, .x (.bool (!r31)))] [⟨o16, 1, vl fD r14⟩] (by kernel_rfl) (by kernel_rfl) ?_
                exact JC.got (ex := .normal) rfl ⟨rfl, rfl, rfl⟩
            · rintro y28 ex E' R' hA
              obtain ⟨rfl, rfl, rfl⟩ := hA
              refine JC.to2 [(0, .c 1 (.lst 1 (a0.map fD))), (6, .ref o16 0 r14.length), (50, .x (.bool y28))] [⟨o16, 1, vl fD r14⟩] (by kernel_rfl) (by kernel_rfl) ?_
              refine JC.skipT ?_
              refine JC.cond (e := y28) (by kernel_rfl) (fun h33 => ?_) (fun h33 => ?_)
              · refine JC.seq ?_
                refine JC.region fun b34 => ?_
                refine JS.run 1 (by kernel_rfl) ?_
                refine JS.nil ?_
                refine JC.drop 0 ?_
                refine JC.to2 [(4, .x (.bool false))] [] (by kernel_rfl) (by kernel_rfl) ?_
                refine JC.skipT ?_
                refine JC.retT ?_
                exact JC.finB (ex := .ret) (vs := [.x (.bool false)]) (is := []) rfl ret_ne ⟨(by kernel_rfl), trivial⟩ (Outs.sc rfl Outs.nil)
              · refine JC.skipT ?_
                refine JC.seq ?_
                refine JC.seq ?_
                refine JC.region fun b35 => ?_
                refine JS.run 1 (by kernel_rfl) ?_
                refine JS.nil ?_
                refine JC.to2 [(0, .c 1 (.lst 1 (a0.map fD))), (6, .ref o16 0 r14.length), (8, .x (.int .i64 (1 : Int)))] [⟨o16, 1, vl fD r14⟩] (by kernel_rfl) (by kernel_rfl) ?_
                refine JC.skipT ?_
                refine JC.block ?_
                refine JC.to2 [(0, .c 1 (.lst 1 (a0.map fD))), (6, .ref o16 0 r14.length), (8, .x (.int .i64 (1 : Int)))] [⟨o16, 1, vl fD r14⟩] (by kernel_rfl) (by kernel_rfl) ?_
                refine JC.to2 [(0, .c 1 (.lst 1 (a0.map fD))), (6, .ref o16 0 r14.length), (8, .x (.int .i64 (1 : Int)))] [⟨o16, 1, vl fD r14⟩] (by kernel_rfl) (by kernel_rfl) ?_
                refine JC.bind (A := fun v ex E R => match v with | Sum.inl v => ∃ (o38 : Option Nat), ex = (.exit 0) ∧ E = [(0, .c 1 (.lst 1 (a0.map fD))), (6, .ref o38 0 r14.length)] ∧ R = [⟨o38, 1, vl fD r14⟩] | Sum.inr v => ex = .ret ∧ E = [(4, .x (.bool false))] ∧ R = []) (eyotlaw2_FoldSorts_l0_ok a0 r14 k (1 : Int) o16) ?_
                rintro v ex E' R' hA
                rcases v with _ | _
                · obtain ⟨o38, rfl, rfl, rfl⟩ := hA
                  refine JC.to2 [(0, .c 1 (.lst 1 (a0.map fD))), (6, .ref o38 0 r14.length)] [⟨o38, 1, vl fD r14⟩] (by kernel_rfl) (by kernel_rfl) ?_
                  refine JC.exitB ?_
                  refine JC.skipT ?_
                  refine JC.seq ?_
                  refine JC.region fun b55 => ?_
                  refine JS.run 1 (by kernel_rfl) ?_
                  refine JS.bind fun r56 h57 => ?_
                  refine JS.callS [] (fold_Least_ok k a0 r56 h57) ⟨rfl, argC (n := 1) (by kernel_rfl) (by kernel_rfl) (by kernel_rfl), trivial⟩ (by kernel_rfl) (by kernel_rfl) (by kernel_rfl) ?_
                  refine JS.run 5 (by kernel_rfl) ?_
                  refine JS.nil ?_
                  refine JC.to2 [(0, .c 1 (.lst 1 (a0.map fD))), (6, .ref o38 0 r14.length), (9, .x (.flt r56.1)), (10, .x (.bool r56.2))] [⟨o38, 1, vl fD r14⟩] (by kernel_rfl) (by kernel_rfl) ?_
                  refine JC.skipT ?_
                  refine JC.seq ?_
                  refine JC.region fun b58 => ?_
                  refine JS.run 1 (by kernel_rfl) ?_
                  refine JS.bind fun r59 h60 => ?_
                  refine JS.callS [] (fold_Most_ok k a0 r59 h60) ⟨rfl, argC (n := 1) (by kernel_rfl) (by kernel_rfl) (by kernel_rfl), trivial⟩ (by kernel_rfl) (by kernel_rfl) (by kernel_rfl) ?_
                  refine JS.run 5 (by kernel_rfl) ?_
                  refine JS.nil ?_
                  refine JC.to2 [(6, .ref o38 0 r14.length), (9, .x (.flt r56.1)), (10, .x (.bool r56.2)), (11, .x (.flt r59.1)), (12, .x (.bool r59.2))] [⟨o38, 1, vl fD r14⟩] (by kernel_rfl) (by kernel_rfl) ?_
                  refine JC.skipT ?_
                  refine JC.seq ?_
                  refine JC.seq ?_
                  refine JC.region fun b61 => ?_
                  refine JS.run 2 (by kernel_rfl) ?_
                  refine JS.nil ?_
                  refine JC.to2 [(6, .ref o38 0 r14.length), (9, .x (.flt r56.1)), (11, .x (.flt r59.1)), (12, .x (.bool r59.2)), (79, .x (.bool (!r56.2)))] [⟨o38, 1, vl fD r14⟩] (by kernel_rfl) (by kernel_rfl) ?_
                  refine JC.skipT ?_
                  refine JC.cond (e := (!r56.2)) (by kernel_rfl) (fun h62 => ?_) (fun h62 => ?_)
                  · refine JC.seq ?_
                    refine JC.bind (A := fun v ex E R => ex = .normal ∧ E = [(4, .x (.bool v))] ∧ R = []) ?_ ?_
                    · refine JC.region fun b64 => ?_
                      refine JS.run 3 (by kernel_rfl) ?_
                      refine JS.split (e := (!r59.2)) 82 (by kernel_rfl) (fun h65 => ?_) (fun h65 => ?_)
                      · refine JS.run 1 (by kernel_rfl) ?_
                        refine JS.idxT (c := fD) (l := r14) (o := o38) (kk := .i64) (z := (0 : Int)) 0 (by kernel_rfl) (by kernel_rfl) (by kernel_rfl) (by kernel_rfl) (by kernel_rfl) (fun id68 w66 e69 h67 => ?_)
                        subst e69
                        refine JS.loadO (id := id68) (sz := 1) (p := (0 : Int).toNat) (j := 0) (es := (vl fD r14)) (e := (cv fD w66)) 0 (by kernel_rfl) (vl_get h67) (by kernel_rfl) (by kernel_rfl) (by kernel_rfl) (by kernel_rfl) ?_
                        refine JS.run 1 (by kernel_rfl) ?_
                        refine JS.idxT (c := fD) (l := r14) (o := (some id68)) (kk := .i64) (z := (0 : Int)) 0 (by kernel_rfl) (by kernel_rfl) (by kernel_rfl) (by kernel_rfl) (by kernel_rfl) (fun id72 w70 e73 h71 => ?_)
                        have e73' : id68 = id72 := by injection e73
                        subst e73'
                        refine JS.loadO (id := id68) (sz := 1) (p := (0 : Int).toNat) (j := 0) (es := (vl fD r14)) (e := (cv fD w70)) 0 (by kernel_rfl) (vl_get h71) (by kernel_rfl) (by kernel_rfl) (by kernel_rfl) (by kernel_rfl) ?_
                        refine JS.run 3 (by kernel_rfl) ?_
                        refine JS.nil ?_
                        refine JC.drop 0 ?_
                        refine JC.to2 [(4, .x (.bool (fOrd w66 w70 != some .eq)))] [] (by kernel_rfl) (by kernel_rfl) ?_
                        refine JC.to2 [(4, .x (.bool (fOrd w66 w70 != some .eq)))] [] (by kernel_rfl) (by kernel_rfl) ?_
                        exact JC.got (ex := .normal) rfl ⟨rfl, rfl, rfl⟩
                      · refine JS.run 9 (by kernel_rfl) ?_
                        refine JS.nil ?_
                        refine JC.drop 0 ?_
                        refine JC.to2 [(4, .x (.bool false))] [] (by kernel_rfl) (by kernel_rfl) ?_
                        refine JC.to2 [(4, .x (.bool false))] [] (by kernel_rfl) (by kernel_rfl) ?_
                        exact JC.got (ex := .normal) rfl ⟨rfl, rfl, rfl⟩
                    · rintro y63 ex E' R' hA
                      obtain ⟨rfl, rfl, rfl⟩ := hA
                      refine JC.to2 [(4, .x (.bool y63))] [] (by kernel_rfl) (by kernel_rfl) ?_
                      refine JC.skipT ?_
                      refine JC.retT ?_
                      exact JC.finB (ex := .ret) (vs := [.x (.bool y63)]) (is := []) rfl ret_ne ⟨(by kernel_rfl), trivial⟩ (Outs.sc rfl Outs.nil)
                  · refine JC.skipT ?_
                    refine JC.seq ?_
                    refine JC.bind (A := fun v ex E R => ex = .normal ∧ E = [(4, .x (.bool v))] ∧ R = []) ?_ ?_
                    · refine JC.region fun b75 => ?_
                      refine JS.run 2 (by kernel_rfl) ?_
                      refine JS.split (e := r59.2) 92 (by kernel_rfl) (fun h76 => ?_) (fun h76 => ?_)
                      · refine JS.run 2 (by kernel_rfl) ?_
                        refine JS.idxT (c := fD) (l := r14) (o := o38) (kk := .i64) (z := (0 : Int)) 0 (by kernel_rfl) (by kernel_rfl) (by kernel_rfl) (by kernel_rfl) (by kernel_rfl) (fun id79 w77 e80 h78 => ?_)
                        subst e80
                        refine JS.loadO (id := id79) (sz := 1) (p := (0 : Int).toNat) (j := 0) (es := (vl fD r14)) (e := (cv fD w77)) 0 (by kernel_rfl) (vl_get h78) (by kernel_rfl) (by kernel_rfl) (by kernel_rfl) (by kernel_rfl) ?_
                        refine JS.bind fun r81 h82 => ?_
                        refine JS.callS [] (eyotref1_Same_ok k r56.1 w77 r81 h82) ⟨rfl, argX (d := (.flt r56.1)) (by kernel_rfl) (by kernel_rfl), rfl, argX (d := (.flt w77)) (by kernel_rfl) (by kernel_rfl), trivial⟩ (by kernel_rfl) (by kernel_rfl) (by kernel_rfl) ?_
                        refine JS.run 2 (by kernel_rfl) ?_
                        refine JS.split (e := r81) 99 (by kernel_rfl) (fun h83 => ?_) (fun h83 => ?_)
                        · refine JS.run 2 (by kernel_rfl) ?_
                          refine JS.bind fun r84 h85 => ?_
                          refine JS.callS [] (eyotref1_Order_ok k r56.1 r59.1 r84 h85) ⟨rfl, argX (d := (.flt r56.1)) (by kernel_rfl) (by kernel_rfl), rfl, argX (d := (.flt r59.1)) (by kernel_rfl) (by kernel_rfl), trivial⟩ (by kernel_rfl) (by kernel_rfl) (by kernel_rfl) ?_
                          refine JS.run 3 (by kernel_rfl) ?_
                          refine JS.split (e := (decide (r84 ≤ (0 : Int)))) 105 (by kernel_rfl) (fun h86 => ?_) (fun h86 => ?_)
                          · refine JS.run 5 (by kernel_rfl) ?_
                            refine JS.nil ?_
                            refine JC.drop 0 ?_
                            refine JC.to2 [(4, .x (.bool (fOrd r59.1 r59.1 == some .eq)))] [] (by kernel_rfl) (by kernel_rfl) ?_
                            refine JC.to2 [(4, .x (.bool (fOrd r59.1 r59.1 == some .eq)))] [] (by kernel_rfl) (by kernel_rfl) ?_
                            exact JC.got (ex := .normal) rfl ⟨rfl, rfl, rfl⟩
                          · refine JS.run 5 (by kernel_rfl) ?_
                            refine JS.nil ?_
                            refine JC.drop 0 ?_
                            refine JC.to2 [(4, .x (.bool false))] [] (by kernel_rfl) (by kernel_rfl) ?_
                            refine JC.to2 [(4, .x (.bool false))] [] (by kernel_rfl) (by kernel_rfl) ?_
                            exact JC.got (ex := .normal) rfl ⟨rfl, rfl, rfl⟩
                        · refine JS.run 11 (by kernel_rfl) ?_
                          refine JS.nil ?_
                          refine JC.drop 0 ?_
                          refine JC.to2 [(4, .x (.bool false))] [] (by kernel_rfl) (by kernel_rfl) ?_
                          refine JC.to2 [(4, .x (.bool false))] [] (by kernel_rfl) (by kernel_rfl) ?_
                          exact JC.got (ex := .normal) rfl ⟨rfl, rfl, rfl⟩
                      · refine JS.run 18 (by kernel_rfl) ?_
                        refine JS.nil ?_
                        refine JC.drop 0 ?_
                        refine JC.to2 [(4, .x (.bool false))] [] (by kernel_rfl) (by kernel_rfl) ?_
                        refine JC.to2 [(4, .x (.bool false))] [] (by kernel_rfl) (by kernel_rfl) ?_
                        exact JC.got (ex := .normal) rfl ⟨rfl, rfl, rfl⟩
                    · rintro y74 ex E' R' hA
                      obtain ⟨rfl, rfl, rfl⟩ := hA
                      refine JC.to2 [(4, .x (.bool y74))] [] (by kernel_rfl) (by kernel_rfl) ?_
                      refine JC.skipT ?_
                      exact JC.finB (ex := .ret) (vs := [.x (.bool y74)]) (is := []) rfl ret_ne ⟨(by kernel_rfl), trivial⟩ (Outs.sc rfl Outs.nil)
                · obtain ⟨rfl, rfl, rfl⟩ := hA
                  refine JC.to2 [(4, .x (.bool false))] [] (by kernel_rfl) (by kernel_rfl) ?_
                  refine JC.retB ?_
                  refine JC.retT ?_
                  exact JC.finB (ex := .ret) (vs := [.x (.bool false)]) (is := []) rfl ret_ne ⟨(by kernel_rfl), trivial⟩ (Outs.sc rfl Outs.nil)
        · refine JSD.run 2 (by kernel_rfl) ?_
          refine JSD.sliceC (c := fD) (l := a0) (n := 1) (lo' := none) (hi' := (some (Int.tmod (IntKind.i64.wrap a1) ((a0.length : Nat) : Int)))) (by kernel_rfl) (by kernel_rfl) (by kernel_rfl) (by kernel_rfl) (by kernel_rfl) (by kernel_rfl) (fun p22 h23 => ?_)
          refine JSD.appG (c := fD) (l := (([] : List Fl) ++ (sl a0 p19))) (k := (sl a0 p22)) (o := o21) 1 (by kernel_rfl) (by kernel_rfl) (srcDC (c := fD) (l := (sl a0 p22)) (n := 1) (by kernel_rfl) (fun _ => rfl) (fun _ _ => rfl)) (by kernel_rfl) (by kernel_rfl) (by kernel_rfl) (by kernel_rfl) (by kernel_rfl) (fun o24 => ?_) (fun o24 => ?_)
          · refine JSD.toJS (by kernel_rfl) (by kernel_rfl) ?_
            refine JS.bind fun r25 h26 => ?_
            refine JS.callK1 [1] (fold_Sort_ok k ((([] : List Fl) ++ (sl a0 p19)) ++ (sl a0 p22)) r25 h26) ⟨rfl, argT (c := fD) (l := ((([] : List Fl) ++ (sl a0 p19)) ++ (sl a0 p22))) (o := o24) 1 (by kernel_rfl) (by kernel_rfl) (by kernel_rfl) (fun _ => rfl), trivial⟩ ⟨vl_sc (fun _ => rfl), trivial⟩ (by kernel_rfl) (by kernel_rfl) (by kernel_rfl) (by kernel_rfl) (fun o27 => ?_)
            refine JS.relen (o := o27) (off := 0) (n := (vl fD r25).length) (n' := r25.length) 39 (by kernel_rfl) (vl_len _ _) ?_
            refine JS.run 1 (by kernel_rfl) ?_
            refine JS.nil ?_
            refine JC.drop 1 ?_
            refine JC.to2 [(0, .c 1 (.lst 1 (a0.map fD))), (6, .ref o16 0 r14.length), (7, .ref o27 0 r25.length)] [⟨o16, 1, vl fD r14⟩, ⟨o27, 1, vl fD r25⟩] (by kernel_rfl) (by kernel_rfl) ?_
            refine JC.skipT ?_
            refine JC.seq ?_
            refine JC.seq ?_
            refine JC.bind (A := fun v ex E R => ex = .normal ∧ E = [(0, .c 1 (.lst 1 (a0.map fD))), (6, .ref o16 0 r14.length), (50, .x (.bool v))] ∧ R = [⟨o16, 1, vl fD r14⟩]) ?_ ?_
            · refine JC.region fun b29 => ?_
              refine JS.run 3 (by kernel_rfl) ?_
              refine JS.lenC (c := fD) (l := a0) (n := 1) (sz := 1) (by kernel_rfl) (by kernel_rfl) (by kernel_rfl) ?_
              refine JS.run 2 (by kernel_rfl) ?_
              refine JS.split (e := (((r14.length : Nat) : Int) != ((a0.length : Nat) : Int))) 45 (by kernel_rfl) (fun h30 => ?_) (fun h30 => ?_)
              · refine JS.run 5 (by kernel_rfl) ?_
                refine JS.nil ?_
                refine JC.drop 1 ?_
                refine JC.to2 [(0, .c 1 (.lst 1 (a0.map fD))), (6, .ref o16 0 r14.length), (50, .x (.bool true))] [⟨o16, 1, vl fD r14⟩] (by kernel_rfl) (by kernel_rfl) ?_
                refine JC.to2 [(0, .c 1 (.lst 1 (a0.map fD))), (6, .ref o16 0 r14.length), (50, .x (.bool true))] [⟨o16, 1, vl fD r14⟩] (by kernel_rfl) (by kernel_rfl) ?_
                exact JC.got (ex := .normal) rfl ⟨rfl, rfl, rfl⟩
              · refine JS.run 2 (by kernel_rfl) ?_
                refine JS.bind fun r31 h32 => ?_
                refine JS.callS [0, 1] (eyotref1_SameAll_ok k r14 r25 r31 h32) ⟨rfl, argT (c := fD) (l := r14) (o := o16) 0 (by kernel_rfl) (by kernel_rfl) (by kernel_rfl) (fun _ => rfl), rfl, argT (c := fD) (l := r25) (o := o27) 1 (by kernel_rfl) (by kernel_rfl) (by kernel_rfl) (fun _ => rfl), trivial⟩ (by kernel_rfl) (by kernel_rfl) (by kernel_rfl) ?_
                refine JS.run 2 (by kernel_rfl) ?_
                refine JS.nil ?_
                refine JC.drop 1 ?_
                refine JC.to2 [(0, .c 1 (.lst 1 (a0.map fD))), (6, .ref o16 0 r14.length), (50, .x (.bool (!r31)))] [⟨o16, 1, vl fD r14⟩] (by kernel_rfl) (by kernel_rfl) ?_
                refine JC.to2 [(0, .c 1 (.lst 1 (a0.map fD))), (6, .ref o16 0 r14.length), (50, .x (.bool (!r31)))] [⟨o16, 1, vl fD r14⟩] (by kernel_rfl) (by kernel_rfl) ?_
                exact JC.got (ex := .normal) rfl ⟨rfl, rfl, rfl⟩
            · rintro y28 ex E' R' hA
              obtain ⟨rfl, rfl, rfl⟩ := hA
              refine JC.to2 [(0, .c 1 (.lst 1 (a0.map fD))), (6, .ref o16 0 r14.length), (50, .x (.bool y28))] [⟨o16, 1, vl fD r14⟩] (by kernel_rfl) (by kernel_rfl) ?_
              refine JC.skipT ?_
              refine JC.cond (e := y28) (by kernel_rfl) (fun h33 => ?_) (fun h33 => ?_)
              · refine JC.seq ?_
                refine JC.region fun b34 => ?_
                refine JS.run 1 (by kernel_rfl) ?_
                refine JS.nil ?_
                refine JC.drop 0 ?_
                refine JC.to2 [(4, .x (.bool false))] [] (by kernel_rfl) (by kernel_rfl) ?_
                refine JC.skipT ?_
                refine JC.retT ?_
                exact JC.finB (ex := .ret) (vs := [.x (.bool false)]) (is := []) rfl ret_ne ⟨(by kernel_rfl), trivial⟩ (Outs.sc rfl Outs.nil)
              · refine JC.skipT ?_
                refine JC.seq ?_
                refine JC.seq ?_
                refine JC.region fun b35 => ?_
                refine JS.run 1 (by kernel_rfl) ?_
                refine JS.nil ?_
                refine JC.to2 [(0, .c 1 (.lst 1 (a0.map fD))), (6, .ref o16 0 r14.length), (8, .x (.int .i64 (1 : Int)))] [⟨o16, 1, vl fD r14⟩] (by kernel_rfl) (by kernel_rfl) ?_
                refine JC.skipT ?_
                refine JC.block ?_
                refine JC.to2 [(0, .c 1 (.lst 1 (a0.map fD))), (6, .ref o16 0 r14.length), (8, .x (.int .i64 (1 : Int)))] [⟨o16, 1, vl fD r14⟩] (by kernel_rfl) (by kernel_rfl) ?_
                refine JC.to2 [(0, .c 1 (.lst 1 (a0.map fD))), (6, .ref o16 0 r14.length), (8, .x (.int .i64 (1 : Int)))] [⟨o16, 1, vl fD r14⟩] (by kernel_rfl) (by kernel_rfl) ?_
                refine JC.bind (A := fun v ex E R => match v with | Sum.inl v => ∃ (o38 : Option Nat), ex = (.exit 0) ∧ E = [(0, .c 1 (.lst 1 (a0.map fD))), (6, .ref o38 0 r14.length)] ∧ R = [⟨o38, 1, vl fD r14⟩] | Sum.inr v => ex = .ret ∧ E = [(4, .x (.bool false))] ∧ R = []) (eyotlaw2_FoldSorts_l0_ok a0 r14 k (1 : Int) o16) ?_
                rintro v ex E' R' hA
                rcases v with _ | _
                · obtain ⟨o38, rfl, rfl, rfl⟩ := hA
                  refine JC.to2 [(0, .c 1 (.lst 1 (a0.map fD))), (6, .ref o38 0 r14.length)] [⟨o38, 1, vl fD r14⟩] (by kernel_rfl) (by kernel_rfl) ?_
                  refine JC.exitB ?_
                  refine JC.skipT ?_
                  refine JC.seq ?_
                  refine JC.region fun b55 => ?_
                  refine JS.run 1 (by kernel_rfl) ?_
                  refine JS.bind fun r56 h57 => ?_
                  refine JS.callS [] (fold_Least_ok k a0 r56 h57) ⟨rfl, argC (n := 1) (by kernel_rfl) (by kernel_rfl) (by kernel_rfl), trivial⟩ (by kernel_rfl) (by kernel_rfl) (by kernel_rfl) ?_
                  refine JS.run 5 (by kernel_rfl) ?_
                  refine JS.nil ?_
                  refine JC.to2 [(0, .c 1 (.lst 1 (a0.map fD))), (6, .ref o38 0 r14.length), (9, .x (.flt r56.1)), (10, .x (.bool r56.2))] [⟨o38, 1, vl fD r14⟩] (by kernel_rfl) (by kernel_rfl) ?_
                  refine JC.skipT ?_
                  refine JC.seq ?_
                  refine JC.region fun b58 => ?_
                  refine JS.run 1 (by kernel_rfl) ?_
                  refine JS.bind fun r59 h60 => ?_
                  refine JS.callS [] (fold_Most_ok k a0 r59 h60) ⟨rfl, argC (n := 1) (by kernel_rfl) (by kernel_rfl) (by kernel_rfl), trivial⟩ (by kernel_rfl) (by kernel_rfl) (by kernel_rfl) ?_
                  refine JS.run 5 (by kernel_rfl) ?_
                  refine JS.nil ?_
                  refine JC.to2 [(6, .ref o38 0 r14.length), (9, .x (.flt r56.1)), (10, .x (.bool r56.2)), (11, .x (.flt r59.1)), (12, .x (.bool r59.2))] [⟨o38, 1, vl fD r14⟩] (by kernel_rfl) (by kernel_rfl) ?_
                  refine JC.skipT ?_
                  refine JC.seq ?_
                  refine JC.seq ?_
                  refine JC.region fun b61 => ?_
                  refine JS.run 2 (by kernel_rfl) ?_
                  refine JS.nil ?_
                  refine JC.to2 [(6, .ref o38 0 r14.length), (9, .x (.flt r56.1)), (11, .x (.flt r59.1)), (12, .x (.bool r59.2)), (79, .x (.bool (!r56.2)))] [⟨o38, 1, vl fD r14⟩] (by kernel_rfl) (by kernel_rfl) ?_
                  refine JC.skipT ?_
                  refine JC.cond (e := (!r56.2)) (by kernel_rfl) (fun h62 => ?_) (fun h62 => ?_)
                  · refine JC.seq ?_
                    refine JC.bind (A := fun v ex E R => ex = .normal ∧ E = [(4, .x (.bool v))] ∧ R = []) ?_ ?_
                    · refine JC.region fun b64 => ?_
                      refine JS.run 3 (by kernel_rfl) ?_
                      refine JS.split (e := (!r59.2)) 82 (by kernel_rfl) (fun h65 => ?_) (fun h65 => ?_)
                      · refine JS.run 1 (by kernel_rfl) ?_
                        refine JS.idxT (c := fD) (l := r14) (o := o38) (kk := .i64) (z := (0 : Int)) 0 (by kernel_rfl) (by kernel_rfl) (by kernel_rfl) (by kernel_rfl) (by kernel_rfl) (fun id68 w66 e69 h67 => ?_)
                        subst e69
                        refine JS.loadO (id := id68) (sz := 1) (p := (0 : Int).toNat) (j := 0) (es := (vl fD r14)) (e := (cv fD w66)) 0 (by kernel_rfl) (vl_get h67) (by kernel_rfl) (by kernel_rfl) (by kernel_rfl) (by kernel_rfl) ?_
                        refine JS.run 1 (by kernel_rfl) ?_
                        refine JS.idxT (c := fD) (l := r14) (o := (some id68)) (kk := .i64) (z := (0 : Int)) 0 (by kernel_rfl) (by kernel_rfl) (by kernel_rfl) (by kernel_rfl) (by kernel_rfl) (fun id72 w70 e73 h71 => ?_)
                        have e73' : id68 = id72 := by injection e73
                        subst e73'
                        refine JS.loadO (id := id68) (sz := 1) (p := (0 : Int).toNat) (j := 0) (es := (vl fD r14)) (e := (cv fD w70)) 0 (by kernel_rfl) (vl_get h71) (by kernel_rfl) (by kernel_rfl) (by kernel_rfl) (by kernel_rfl) ?_
                        refine JS.run 3 (by kernel_rfl) ?_
                        refine JS.nil ?_
                        refine JC.drop 0 ?_
                        refine JC.to2 [(4, .x (.bool (fOrd w66 w70 != some .eq)))] [] (by kernel_rfl) (by kernel_rfl) ?_
                        refine JC.to2 [(4, .x (.bool (fOrd w66 w70 != some .eq)))] [] (by kernel_rfl) (by kernel_rfl) ?_
                        exact JC.got (ex := .normal) rfl ⟨rfl, rfl, rfl⟩
                      · refine JS.run 9 (by kernel_rfl) ?_
                        refine JS.nil ?_
                        refine JC.drop 0 ?_
                        refine JC.to2 [(4, .x (.bool false))] [] (by kernel_rfl) (by kernel_rfl) ?_
                        refine JC.to2 [(4, .x (.bool false))] [] (by kernel_rfl) (by kernel_rfl) ?_
                        exact JC.got (ex := .normal) rfl ⟨rfl, rfl, rfl⟩
                    · rintro y63 ex E' R' hA
                      obtain ⟨rfl, rfl, rfl⟩ := hA
                      refine JC.to2 [(4, .x (.bool y63))] [] (by kernel_rfl) (by kernel_rfl) ?_
                      refine JC.skipT ?_
                      refine JC.retT ?_
                      exact JC.finB (ex := .ret) (vs := [.x (.bool y63)]) (is := []) rfl ret_ne ⟨(by kernel_rfl), trivial⟩ (Outs.sc rfl Outs.nil)
                  · refine JC.skipT ?_
                    refine JC.seq ?_
                    refine JC.bind (A := fun v ex E R => ex = .normal ∧ E = [(4, .x (.bool v))] ∧ R = []) ?_ ?_
                    · refine JC.region fun b75 => ?_
                      refine JS.run 2 (by kernel_rfl) ?_
                      refine JS.split (e := r59.2) 92 (by kernel_rfl) (fun h76 => ?_) (fun h76 => ?_)
                      · refine JS.run 2 (by kernel_rfl) ?_
                        refine JS.idxT (c := fD) (l := r14) (o := o38) (kk := .i64) (z := (0 : Int)) 0 (by kernel_rfl) (by kernel_rfl) (by kernel_rfl) (by kernel_rfl) (by kernel_rfl) (fun id79 w77 e80 h78 => ?_)
                        subst e80
                        refine JS.loadO (id := id79) (sz := 1) (p := (0 : Int).toNat) (j := 0) (es := (vl fD r14)) (e := (cv fD w77)) 0 (by kernel_rfl) (vl_get h78) (by kernel_rfl) (by kernel_rfl) (by kernel_rfl) (by kernel_rfl) ?_
                        refine JS.bind fun r81 h82 => ?_
                        refine JS.callS [] (eyotref1_Same_ok k r56.1 w77 r81 h82) ⟨rfl, argX (d := (.flt r56.1)) (by kernel_rfl) (by kernel_rfl), rfl, argX (d := (.flt w77)) (by kernel_rfl) (by kernel_rfl), trivial⟩ (by kernel_rfl) (by kernel_rfl) (by kernel_rfl) ?_
                        refine JS.run 2 (by kernel_rfl) ?_
                        refine JS.split (e := r81) 99 (by kernel_rfl) (fun h83 => ?_) (fun h83 => ?_)
                        · refine JS.run 2 (by kernel_rfl) ?_
                          refine JS.bind fun r84 h85 => ?_
                          refine JS.callS [] (eyotref1_Order_ok k r56.1 r59.1 r84 h85) ⟨rfl, argX (d := (.flt r56.1)) (by kernel_rfl) (by kernel_rfl), rfl, argX (d := (.flt r59.1)) (by kernel_rfl) (by kernel_rfl), trivial⟩ (by kernel_rfl) (by kernel_rfl) (by kernel_rfl) ?_
                          refine JS.run 3 (by kernel_rfl) ?_
                          refine JS.split (e := (decide (r84 ≤ (0 : Int)))) 105 (by kernel_rfl) (fun h86 => ?_) (fun h86 => ?_)
                          · refine JS.run 5 (by kernel_rfl) ?_
                            refine JS.nil ?_
                            refine JC.drop 0 ?_
                            refine JC.to2 [(4, .x (.bool (fOrd r59.1 r59.1 == some .eq)))] [] (by kernel_rfl) (by kernel_rfl) ?_
                            refine JC.to2 [(4, .x (.bool (fOrd r59.1 r59.1 == some .eq)))] [] (by kernel_rfl) (by kernel_rfl) ?_
                            exact JC.got (ex := .normal) rfl ⟨rfl, rfl, rfl⟩
                          · refine JS.run 5 (by kernel_rfl) ?_
                            refine JS.nil ?_
                            refine JC.drop 0 ?_
                            refine JC.to2 [(4, .x (.bool false))] [] (by kernel_rfl) (by kernel_rfl) ?_
                            refine JC.to2 [(4, .x (.bool false))] [] (by kernel_rfl) (by kernel_rfl) ?_
                            exact JC.got (ex := .normal) rfl ⟨rfl, rfl, rfl⟩
                        · refine JS.run 11 (by kernel_rfl) ?_
                          refine JS.nil ?_
                          refine JC.drop 0 ?_
                          refine JC.to2 [(4, .x (.bool false))] [] (by kernel_rfl) (by kernel_rfl) ?_
                          refine JC.to2 [(4, .x (.bool false))] [] (by kernel_rfl) (by kernel_rfl) ?_
                          exact JC.got (ex := .normal) rfl ⟨rfl, rfl, rfl⟩
                      · refine JS.run 18 (by kernel_rfl) ?_
                        refine JS.nil ?_
                        refine JC.drop 0 ?_
                        refine JC.to2 [(4, .x (.bool false))] [] (by kernel_rfl) (by kernel_rfl) ?_
                        refine JC.to2 [(4, .x (.bool false))] [] (by kernel_rfl) (by kernel_rfl) ?_
                        exact JC.got (ex := .normal) rfl ⟨rfl, rfl, rfl⟩
                    · rintro y74 ex E' R' hA
                      obtain ⟨rfl, rfl, rfl⟩ := hA
                      refine JC.to2 [(4, .x (.bool y74))] [] (by kernel_rfl) (by kernel_rfl) ?_
                      refine JC.skipT ?_
                      exact JC.finB (ex := .ret) (vs := [.x (.bool y74)]) (is := []) rfl ret_ne ⟨(by kernel_rfl), trivial⟩ (Outs.sc rfl Outs.nil)
                · obtain ⟨rfl, rfl, rfl⟩ := hA
                  refine JC.to2 [(4, .x (.bool false))] [] (by kernel_rfl) (by kernel_rfl) ?_
                  refine JC.retB ?_
                  refine JC.retT ?_
                  exact JC.finB (ex := .ret) (vs := [.x (.bool false)]) (is := []) rfl ret_ne ⟨(by kernel_rfl), trivial⟩ (Outs.sc rfl Outs.nil)
          · refine JSD.toJS (by kernel_rfl) (by kernel_rfl) ?_
            refine JS.bind fun r25 h26 => ?_
            refine JS.callK1 [1] (fold_Sort_ok k ((([] : List Fl) ++ (sl a0 p19)) ++ (sl a0 p22)) r25 h26) ⟨rfl, argT (c := fD) (l := ((([] : List Fl) ++ (sl a0 p19)) ++ (sl a0 p22))) (o := o24) 1 (by kernel_rfl) (by kernel_rfl) (by kernel_rfl) (fun _ => rfl), trivial⟩ ⟨vl_sc (fun _ => rfl), trivial⟩ (by kernel_rfl) (by kernel_rfl) (by kernel_rfl) (by kernel_rfl) (fun o27 => ?_)
            refine JS.relen (o := o27) (off := 0) (n := (vl fD r25).length) (n' := r25.length) 39 (by kernel_rfl) (vl_len _ _) ?_
            refine JS.run 1 (by kernel_rfl) ?_
            refine JS.nil ?_
            refine JC.drop 1 ?_
            refine JC.to2 [(0, .c 1 (.lst 1 (a0.map fD))), (6, .ref o16 0 r14.length), (7, .ref o27 0 r25.length)] [⟨o16, 1, vl fD r14⟩, ⟨o27, 1, vl fD r25⟩] (by kernel_rfl) (by kernel_rfl) ?_
            refine JC.skipT ?_
            refine JC.seq ?_
            refine JC.seq ?_
            refine JC.bind (A := fun v ex E R => ex = .normal ∧ E = [(0, .c 1 (.lst 1 (a0.map fD))), (6, .ref o16 0 r14.length), (50, .x (.bool v))] ∧ R = [⟨o16, 1, vl fD r14⟩]) ?_ ?_
            · refine JC.region fun b29 => ?_
              refine JS.run 3 (by kernel_rfl) ?_
              refine JS.lenC (c := fD) (l := a0) (n := 1) (sz := 1) (by kernel_rfl) (by kernel_rfl) (by kernel_rfl) ?_
              refine JS.run 2 (by kernel_rfl) ?_
              refine JS.split (e := (((r14.length : Nat) : Int) != ((a0.length : Nat) : Int))) 45 (by kernel_rfl) (fun h30 => ?_) (fun h30 => ?_)
              · refine JS.run 5 (by kernel_rfl) ?_
                refine JS.nil ?_
                refine JC.drop 1 ?_
                refine JC.to2 [(0, .c 1 (.lst 1 (a0.map fD))), (6, .ref o16 0 r14.length), (50, .x (.bool true))] [⟨o16, 1, vl fD r14⟩] (by kernel_rfl) (by kernel_rfl) ?_
                refine JC.to2 [(0, .c 1 (.lst 1 (a0.map fD))), (6, .ref o16 0 r14.length), (50, .x (.bool true))] [⟨o16, 1, vl fD r14⟩] (by kernel_rfl) (by kernel_rfl) ?_
                exact JC.got (ex := .normal) rfl ⟨rfl, rfl, rfl⟩
              · refine JS.run 2 (by kernel_rfl) ?_
                refine JS.bind fun r31 h32 => ?_
                refine JS.callS [0, 1] (eyotref1_SameAll_ok k r14 r25 r31 h32) ⟨rfl, argT (c := fD) (l := r14) (o := o16) 0 (by kernel_rfl) (by kernel_rfl) (by kernel_rfl) (fun _ => rfl), rfl, argT (c := fD) (l := r25) (o := o27) 1 (by kernel_rfl) (by kernel_rfl) (by kernel_rfl) (fun _ => rfl), trivial⟩ (by kernel_rfl) (by kernel_rfl) (by kernel_rfl) ?_
                refine JS.run 2 (by kernel_rfl) ?_
                refine JS.nil ?_
                refine JC.drop 1 ?_
                refine JC.to2 [(0, .c 1 (.lst 1 (a0.map fD))), (6, .ref o16 0 r14.length), (50, .x (.bool (!r31)))] [⟨o16, 1, vl fD r14⟩] (by kernel_rfl) (by kernel_rfl) ?_
                refine JC.to2 [(0, .c 1 (.lst 1 (a0.map fD))), (6, .ref o16 0 r14.length), (50, .x (.bool (!r31)))] [⟨o16, 1, vl fD r14⟩] (by kernel_rfl) (by kernel_rfl) ?_
                exact JC.got (ex := .normal) rfl ⟨rfl, rfl, rfl⟩
            · rintro y28 ex E' R' hA
              obtain ⟨rfl, rfl, rfl⟩ := hA
              refine JC.to2 [(0, .c 1 (.lst 1 (a0.map fD))), (6, .ref o16 0 r14.length), (50, .x (.bool y28))] [⟨o16, 1, vl fD r14⟩] (by kernel_rfl) (by kernel_rfl) ?_
              refine JC.skipT ?_
              refine JC.cond (e := y28) (by kernel_rfl) (fun h33 => ?_) (fun h33 => ?_)
              · refine JC.seq ?_
                refine JC.region fun b34 => ?_
                refine JS.run 1 (by kernel_rfl) ?_
                refine JS.nil ?_
                refine JC.drop 0 ?_
                refine JC.to2 [(4, .x (.bool false))] [] (by kernel_rfl) (by kernel_rfl) ?_
                refine JC.skipT ?_
                refine JC.retT ?_
                exact JC.finB (ex := .ret) (vs := [.x (.bool false)]) (is := []) rfl ret_ne ⟨(by kernel_rfl), trivial⟩ (Outs.sc rfl Outs.nil)
              · refine JC.skipT ?_
                refine JC.seq ?_
                refine JC.seq ?_
                refine JC.region fun b35 => ?_
                refine JS.run 1 (by kernel_rfl) ?_
                refine JS.nil ?_
                refine JC.to2 [(0, .c 1 (.lst 1 (a0.map fD))), (6, .ref o16 0 r14.length), (8, .x (.int .i64 (1 : Int)))] [⟨o16, 1, vl fD r14⟩] (by kernel_rfl) (by kernel_rfl) ?_
                refine JC.skipT ?_
                refine JC.block ?_
                refine JC.to2 [(0, .c 1 (.lst 1 (a0.map fD))), (6, .ref o16 0 r14.length), (8, .x (.int .i64 (1 : Int)))] [⟨o16, 1, vl fD r14⟩] (by kernel_rfl) (by kernel_rfl) ?_
                refine JC.to2 [(0, .c 1 (.lst 1 (a0.map fD))), (6, .ref o16 0 r14.length), (8, .x (.int .i64 (1 : Int)))] [⟨o16, 1, vl fD r14⟩] (by kernel_rfl) (by kernel_rfl) ?_
                refine JC.bind (A := fun v ex E R => match v with | Sum.inl v => ∃ (o38 : Option Nat), ex = (.exit 0) ∧ E = [(0, .c 1 (.lst 1 (a0.map fD))), (6, .ref o38 0 r14.length)] ∧ R = [⟨o38, 1, vl fD r14⟩] | Sum.inr v => ex = .ret ∧ E = [(4, .x (.bool false))] ∧ R = []) (eyotlaw2_FoldSorts_l0_ok a0 r14 k (1 : Int) o16) ?_
                rintro v ex E' R' hA
                rcases v with _ | _
                · obtain ⟨o38, rfl, rfl, rfl⟩ := hA
                  refine JC.to2 [(0, .c 1 (.lst 1 (a0.map fD))), (6, .ref o38 0 r14.length)] [⟨o38, 1, vl fD r14⟩] (by kernel_rfl) (by kernel_rfl) ?_
                  refine JC.exitB ?_
                  refine JC.skipT ?_
                  refine JC.seq ?_
                  refine JC.region fun b55 => ?_
                  refine JS.run 1 (by kernel_rfl) ?_
                  refine JS.bind fun r56 h57 => ?_
                  refine JS.callS [] (fold_Least_ok k a0 r56 h57) ⟨rfl, argC (n := 1) (by kernel_rfl) (by kernel_rfl) (by kernel_rfl), trivial⟩ (by kernel_rfl) (by kernel_rfl) (by kernel_rfl) ?_
                  refine JS.run 5 (by kernel_rfl) ?_
                  refine JS.nil ?_
                  refine JC.to2 [(0, .c 1 (.lst 1 (a0.map fD))), (6, .ref o38 0 r14.length), (9, .x (.flt r56.1)), (10, .x (.bool r56.2))] [⟨o38, 1, vl fD r14⟩] (by kernel_rfl) (by kernel_rfl) ?_
                  refine JC.skipT ?_
                  refine JC.seq ?_
                  refine JC.region fun b58 => ?_
                  refine JS.run 1 (by kernel_rfl) ?_
                  refine JS.bind fun r59 h60 => ?_
                  refine JS.callS [] (fold_Most_ok k a0 r59 h60) ⟨rfl, argC (n := 1) (by kernel_rfl) (by kernel_rfl) (by kernel_rfl), trivial⟩ (by kernel_rfl) (by kernel_rfl) (by kernel_rfl) ?_
                  refine JS.run 5 (by kernel_rfl) ?_
                  refine JS.nil ?_
                  refine JC.to2 [(6, .ref o38 0 r14.length), (9, .x (.flt r56.1)), (10, .x (.bool r56.2)), (11, .x (.flt r59.1)), (12, .x (.bool r59.2))] [⟨o38, 1, vl fD r14⟩] (by kernel_rfl) (by kernel_rfl) ?_
                  refine JC.skipT ?_
                  refine JC.seq ?_
                  refine JC.seq ?_
                  refine JC.region fun b61 => ?_
                  refine JS.run 2 (by kernel_rfl) ?_
                  refine JS.nil ?_
                  refine JC.to2 [(6, .ref o38 0 r14.length), (9, .x (.flt r56.1)), (11, .x (.flt r59.1)), (12, .x (.bool r59.2)), (79, .x (.bool (!r56.2)))] [⟨o38, 1, vl fD r14⟩] (by kernel_rfl) (by kernel_rfl) ?_
                  refine JC.skipT ?_
                  refine JC.cond (e := (!r56.2)) (by kernel_rfl) (fun h62 => ?_) (fun h62 => ?_)
                  · refine JC.seq ?_
                    refine JC.bind (A := fun v ex E R => ex = .normal ∧ E = [(4, .x (.bool v))] ∧ R = []) ?_ ?_
                    · refine JC.region fun b64 => ?_
                      refine JS.run 3 (by kernel_rfl) ?_
                      refine JS.split (e := (!r59.2)) 82 (by kernel_rfl) (fun h65 => ?_) (fun h65 => ?_)
                      · refine JS.run 1 (by kernel_rfl) ?_
                        refine JS.idxT (c := fD) (l := r14) (o := o38) (kk := .i64) (z := (0 : Int)) 0 (by kernel_rfl) (by kernel_rfl) (by kernel_rfl) (by kernel_rfl) (by kernel_rfl) (fun id68 w66 e69 h67 => ?_)
                        subst e69
                        refine JS.loadO (id := id68) (sz := 1) (p := (0 : Int).toNat) (j := 0) (es := (vl fD r14)) (e := (cv fD w66)) 0 (by kernel_rfl) (vl_get h67) (by kernel_rfl) (by kernel_rfl) (by kernel_rfl) (by kernel_rfl) ?_
                        refine JS.run 1 (by kernel_rfl) ?_
                        refine JS.idxT (c := fD) (l := r14) (o := (some id68)) (kk := .i64) (z := (0 : Int)) 0 (by kernel_rfl) (by kernel_rfl) (by kernel_rfl) (by kernel_rfl) (by kernel_rfl) (fun id72 w70 e73 h71 => ?_)
                        have e73' : id68 = id72 := by injection e73
                        subst e73'
                        refine JS.loadO (id := id68) (sz := 1) (p := (0 : Int).toNat) (j := 0) (es := (vl fD r14)) (e := (cv fD w70)) 0 (by kernel_rfl) (vl_get h71) (by kernel_rfl) (by kernel_rfl) (by kernel_rfl) (by kernel_rfl) ?_
                        refine JS.run 3 (by kernel_rfl) ?_
                        refine JS.nil ?_
                        refine JC.drop 0 ?_
                        refine JC.to2 [(4, .x (.bool (fOrd w66 w70 != some .eq)))] [] (by kernel_rfl) (by kernel_rfl) ?_
                        refine JC.to2 [(4, .x (.bool (fOrd w66 w70 != some .eq)))] [] (by kernel_rfl) (by kernel_rfl) ?_
                        exact JC.got (ex := .normal) rfl ⟨rfl, rfl, rfl⟩
                      · refine JS.run 9 (by kernel_rfl) ?_
                        refine JS.nil ?_
                        refine JC.drop 0 ?_
                        refine JC.to2 [(4, .x (.bool false))] [] (by kernel_rfl) (by kernel_rfl) ?_
                        refine JC.to2 [(4, .x (.bool false))] [] (by kernel_rfl) (by kernel_rfl) ?_
                        exact JC.got (ex := .normal) rfl ⟨rfl, rfl, rfl⟩
                    · rintro y63 ex E' R' hA
                      obtain ⟨rfl, rfl, rfl⟩ := hA
                      refine JC.to2 [(4, .x (.bool y63))] [] (by kernel_rfl) (by kernel_rfl) ?_
                      refine JC.skipT ?_
                      refine JC.retT ?_
                      exact JC.finB (ex := .ret) (vs := [.x (.bool y63)]) (is := []) rfl ret_ne ⟨(by kernel_rfl), trivial⟩ (Outs.sc rfl Outs.nil)
                  · refine JC.skipT ?_
                    refine JC.seq ?_
                    refine JC.bind (A := fun v ex E R => ex = .normal ∧ E = [(4, .x (.bool v))] ∧ R = []) ?_ ?_
                    · refine JC.region fun b75 => ?_
                      refine JS.run 2 (by kernel_rfl) ?_
                      refine JS.split (e := r59.2) 92 (by kernel_rfl) (fun h76 => ?_) (fun h76 => ?_)
                      · refine JS.run 2 (by kernel_rfl) ?_
                        refine JS.idxT (c := fD) (l := r14) (o := o38) (kk := .i64) (z := (0 : Int)) 0 (by kernel_rfl) (by kernel_rfl) (by kernel_rfl) (by kernel_rfl) (by kernel_rfl) (fun id79 w77 e80 h78 => ?_)
                        subst e80
                        refine JS.loadO (id := id79) (sz := 1) (p := (0 : Int).toNat) (j := 0) (es := (vl fD r14)) (e := (cv fD w77)) 0 (by kernel_rfl) (vl_get h78) (by kernel_rfl) (by kernel_rfl) (by kernel_rfl) (by kernel_rfl) ?_
                        refine JS.bind fun r81 h82 => ?_
                        refine JS.callS [] (eyotref1_Same_ok k r56.1 w77 r81 h82) ⟨rfl, argX (d := (.flt r56.1)) (by kernel_rfl) (by kernel_rfl), rfl, argX (d := (.flt w77)) (by kernel_rfl) (by kernel_rfl), trivial⟩ (by kernel_rfl) (by kernel_rfl) (by kernel_rfl) ?_
                        refine JS.run 2 (by kernel_rfl) ?_
                        refine JS.split (e := r81) 99 (by kernel_rfl) (fun h83 => ?_) (fun h83 => ?_)
                        · refine JS.run 2 (by kernel_rfl) ?_
                          refine JS.bind fun r84 h85 => ?_
                          refine JS.callS [] (eyotref1_Order_ok k r56.1 r59.1 r84 h85) ⟨rfl, argX (d := (.flt r56.1)) (by kernel_rfl) (by kernel_rfl), rfl, argX (d := (.flt r59.1)) (by kernel_rfl) (by kernel_rfl), trivial⟩ (by kernel_rfl) (by kernel_rfl) (by kernel_rfl) ?_
                          refine JS.run 3 (by kernel_rfl) ?_
                          refine JS.split (e := (decide (r84 ≤ (0 : Int)))) 105 (by kernel_rfl) (fun h86 => ?_) (fun h86 => ?_)
                          · refine JS.run 5 (by kernel_rfl) ?_
                            refine JS.nil ?_
                            refine JC.drop 0 ?_
                            refine JC.to2 [(4, .x (.bool (fOrd r59.1 r59.1 == some .eq)))] [] (by kernel_rfl) (by kernel_rfl) ?_
                            refine JC.to2 [(4, .x (.bool (fOrd r59.1 r59.1 == some .eq)))] [] (by kernel_rfl) (by kernel_rfl) ?_
                            exact JC.got (ex := .normal) rfl ⟨rfl, rfl, rfl⟩
                          · refine JS.run 5 (by kernel_rfl) ?_
                            refine JS.nil ?_
                            refine JC.drop 0 ?_
                            refine JC.to2 [(4, .x (.bool false))] [] (by kernel_rfl) (by kernel_rfl) ?_
                            refine JC.to2 [(4, .x (.bool false))] [] (by kernel_rfl) (by kernel_rfl) ?_
                            exact JC.got (ex := .normal) rfl ⟨rfl, rfl, rfl⟩
                        · refine JS.run 11 (by kernel_rfl) ?_
                          refine JS.nil ?_
                          refine JC.drop 0 ?_
                          refine JC.to2 [(4, .x (.bool false))] [] (by kernel_rfl) (by kernel_rfl) ?_
                          refine JC.to2 [(4, .x (.bool false))] [] (by kernel_rfl) (by kernel_rfl) ?_
                          exact JC.got (ex := .normal) rfl ⟨rfl, rfl, rfl⟩
                      · refine JS.run 18 (by kernel_rfl) ?_
                        refine JS.nil ?_
                        refine JC.drop 0 ?_
                        refine JC.to2 [(4, .x (.bool false))] [] (by kernel_rfl) (by kernel_rfl) ?_
                        refine JC.to2 [(4, .x (.bool false))] [] (by kernel_rfl) (by kernel_rfl) ?_
                        exact JC.got (ex := .normal) rfl ⟨rfl, rfl, rfl⟩
                    · rintro y74 ex E' R' hA
                      obtain ⟨rfl, rfl, rfl⟩ := hA
                      refine JC.to2 [(4, .x (.bool y74))] [] (by kernel_rfl) (by kernel_rfl) ?_
                      refine JC.skipT ?_
                      exact JC.finB (ex := .ret) (vs := [.x (.bool y74)]) (is := []) rfl ret_ne ⟨(by kernel_rfl), trivial⟩ (Outs.sc rfl Outs.nil)
                · obtain ⟨rfl, rfl, rfl⟩ := hA
                  refine JC.to2 [(4, .x (.bool false))] [] (by kernel_rfl) (by kernel_rfl) ?_
                  refine JC.retB ?_
                  refine JC.retT ?_
                  exact JC.finB (ex := .ret) (vs := [.x (.bool false)]) (is := []) rfl ret_ne ⟨(by kernel_rfl), trivial⟩ (Outs.sc rfl Outs.nil)
end Go.Pi

