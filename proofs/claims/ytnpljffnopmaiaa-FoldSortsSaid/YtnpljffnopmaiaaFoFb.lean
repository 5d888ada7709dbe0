import Derived.Test.YtnpljffnopmaiaaFoFa
/-
  THE FUNCTIONS, as terms over lists.
-/
set_option linter.all false
namespace Go.Pi
set_option maxRecDepth 100000
set_option linter.unusedVariables false
set_option maxHeartbeats 2000000
/-! slices.symMergeCmpFunc[float64] -/
def slices_symMergeCmpFunc_l0 (a0 : (List Fl)) (a1 : Int) : Nat → Int → Int → Option Int
  | 0, _, _ => none
  | k + 1, x5, x6 => cond (decide (x5 < x6)) ((at? a0 (IntKind.i64.wrap (shrI .u64 (IntKind.u64.wrap (IntKind.i64.wrap (x5 + x6))) (1 : Int)))).bind fun w12 => (at? a0 a1).bind fun w16 => (weigh_Order k w12 w16).bind fun r20 => cond (decide (r20 < (0 : Int))) (slices_symMergeCmpFunc_l0 a0 a1 k (IntKind.i64.wrap ((IntKind.i64.wrap (shrI .u64 (IntKind.u64.wrap (IntKind.i64.wrap (x5 + x6))) (1 : Int))) + (1 : Int))) x6) (slices_symMergeCmpFunc_l0 a0 a1 k x5 (IntKind.i64.wrap (shrI .u64 (IntKind.u64.wrap (IntKind.i64.wrap (x5 + x6))) (1 : Int))))) (some x5)
theorem slices_symMergeCmpFunc_l0_ok (a0 : (List Fl)) (a1 : Int) (fr : Nat → Option Blk) (o0 : Option Nat) : ∀ (k : Nat) (x5 : Int) (x6 : Int), JC prog fr 220 [(0, .ref o0 0 a0.length), (1, .x (.int .i64 a1)), (4, .x (.fn 26)), (10, .x (.int .i64 x5)), (11, .x (.int .i64 x6))] [⟨o0, 1, vl fD a0⟩] (.loop pf34_L0) (slices_symMergeCmpFunc_l0 a0 a1 k x5 x6) (fun x => GotA 220 fr ((fun v ex E R => ex = (.exit 0) ∧ E = [(0, .ref o0 0 a0.length), (1, .x (.int .i64 a1)), (10, .x (.int .i64 v))] ∧ R = [⟨o0, 1, vl fD a0⟩]) x)) := by
  intro k
  induction k with
  | zero =>
    intro x5 x6
    exact JC.no
  | succ k ih =>
    intro x5 x6
    rw [slices_symMergeCmpFunc_l0]
    refine JC.loop ?_
    refine JC.seq ?_
    refine JC.seq ?_
    refine JC.region fun b8 => ?_
    refine JS.run 3 (by kernel_rfl) ?_
    refine JS.nil ?_
    refine JC.to2 [(0, .ref o0 0 a0.length), (1, .x (.int .i64 a1)), (4, .x (.fn 26)), (10, .x (.int .i64 x5)), (11, .x (.int .i64 x6)), (33, .x (.bool (decide (x5 < x6))))] [⟨o0, 1, vl fD a0⟩] (by kernel_rfl) (by kernel_rfl) ?_
    refine JC.skipT ?_
    refine JC.cond (e := (decide (x5 < x6))) (by kernel_rfl) (fun h9 => ?_) (fun h9 => ?_)
    · refine JC.skipT ?_
      refine JC.block ?_
      refine JC.seq ?_
      refine JC.region fun b10 => ?_
      refine JS.run 7 (by kernel_rfl) ?_
      refine JS.nil ?_
      refine JC.to2 [(0, .ref o0 0 a0.length), (1, .x (.int .i64 a1)), (4, .x (.fn 26)), (10, .x (.int .i64 x5)), (11, .x (.int .i64 x6)), (12, .x (.int .i64 (IntKind.i64.wrap (shrI .u64 (IntKind.u64.wrap (IntKind.i64.wrap (x5 + x6))) (1 : Int)))))] [⟨o0, 1, vl fD a0⟩] (by kernel_rfl) (by kernel_rfl) ?_
      refine JC.skipT ?_
      refine JC.seq ?_
      refine JC.region fun b11 => ?_
      refine JS.run 3 (by kernel_rfl) ?_
      refine JS.idxT (c := fD) (l := a0) (o := o0) (kk := .i64) (z := (IntKind.i64.wrap (shrI .u64 (IntKind.u64.wrap (IntKind.i64.wrap (x5 + x6))) (1 : Int)))) 0 (by kernel_rfl) (by kernel_rfl) (by kernel_rfl) (by kernel_rfl) (by kernel_rfl) (fun id14 w12 e15 h13 => ?_)
      subst e15
      refine JS.loadO (id := id14) (sz := 1) (p := (IntKind.i64.wrap (shrI .u64 (IntKind.u64.wrap (IntKind.i64.wrap (x5 + x6))) (1 : Int))).toNat) (j := 0) (es := (vl fD a0)) (e := (cv fD w12)) 0 (by kernel_rfl) (vl_get h13) (by kernel_rfl) (by kernel_rfl) (by kernel_rfl) (by kernel_rfl) ?_
      refine JS.run 2 (by kernel_rfl) ?_
      refine JS.idxT (c := fD) (l := a0) (o := (some id14)) (kk := .i64) (z := a1) 0 (by kernel_rfl) (by kernel_rfl) (by kernel_rfl) (by kernel_rfl) (by kernel_rfl) (fun id18 w16 e19 h17 => ?_)
      have e19' : id14 = id18 := by injection e19
      subst e19'
      refine JS.loadO (id := id14) (sz := 1) (p := a1.toNat) (j := 0) (es := (vl fD a0)) (e := (cv fD w16)) 0 (by kernel_rfl) (vl_get h17) (by kernel_rfl) (by kernel_rfl) (by kernel_rfl) (by kernel_rfl) ?_
      refine JS.toCallQ (p := 26) (by kernel_rfl) (by kernel_rfl) ?_
      refine JS.bind fun r20 h21 => ?_
      refine JS.callQS [] (weigh_Order_ok k w12 w16 r20 h21) ⟨rfl, argX (d := (.flt w12)) (by kernel_rfl) (by kernel_rfl), rfl, argX (d := (.flt w16)) (by kernel_rfl) (by kernel_rfl), trivial⟩ (by kernel_rfl) (by kernel_rfl) (by kernel_rfl) ?_
      refine JS.run 1 (by kernel_rfl) ?_
      refine JS.nil ?_
      refine JC.to2 [(0, .ref (some id14) 0 a0.length), (1, .x (.int .i64 a1)), (4, .x (.fn 26)), (10, .x (.int .i64 x5)), (11, .x (.int .i64 x6)), (12, .x (.int .i64 (IntKind.i64.wrap (shrI .u64 (IntKind.u64.wrap (IntKind.i64.wrap (x5 + x6))) (1 : Int))))), (50, .x (.bool (decide (r20 < (0 : Int)))))] [⟨(some id14), 1, vl fD a0⟩] (by kernel_rfl) (by kernel_rfl) ?_
      refine JC.skipT ?_
      refine JC.cond (e := (decide (r20 < (0 : Int)))) (by kernel_rfl) (fun h22 => ?_) (fun h22 => ?_)
      · refine JC.region fun b23 => ?_
        refine JS.run 3 (by kernel_rfl) ?_
        refine JS.nil ?_
        refine JC.to2 [(0, .ref (some id14) 0 a0.length), (1, .x (.int .i64 a1)), (4, .x (.fn 26)), (10, .x (.int .i64 (IntKind.i64.wrap ((IntKind.i64.wrap (shrI .u64 (IntKind.u64.wrap (IntKind.i64.wrap (x5 + x6))) (1 : Int))) + (1 : Int))))), (11, .x (.int .i64 x6))] [⟨(some id14), 1, vl fD a0⟩] (by kernel_rfl) (by kernel_rfl) ?_
        refine JC.skipB ?_
        refine JC.skipL ?_
        refine JC.to2 [(0, .ref (some id14) 0 a0.length), (1, .x (.int .i64 a1)), (4, .x (.fn 26)), (10, .x (.int .i64 (IntKind.i64.wrap ((IntKind.i64.wrap (shrI .u64 (IntKind.u64.wrap (IntKind.i64.wrap (x5 + x6))) (1 : Int))) + (1 : Int))))), (11, .x (.int .i64 x6))] [⟨(some id14), 1, vl fD a0⟩] (by kernel_rfl) (by kernel_rfl) ?_
        exact ih (IntKind.i64.wrap ((IntKind.i64.wrap (shrI .u64 (IntKind.u64.wrap (IntKind.i64.wrap (x5 + x6))) (1 : Int))) + (1 : Int))) x6
      · refine JC.region fun b24 => ?_
        refine JS.run 2 (by kernel_rfl) ?_
        refine JS.nil ?_
        refine JC.to2 [(0, .ref (some id14) 0 a0.length), (1, .x (.int .i64 a1)), (4, .x (.fn 26)), (10, .x (.int .i64 x5)), (11, .x (.int .i64 (IntKind.i64.wrap (shrI .u64 (IntKind.u64.wrap (IntKind.i64.wrap (x5 + x6))) (1 : Int)))))] [⟨(some id14), 1, vl fD a0⟩] (by kernel_rfl) (by kernel_rfl) ?_
        refine JC.skipB ?_
        refine JC.skipL ?_
        refine JC.to2 [(0, .ref (some id14) 0 a0.length), (1, .x (.int .i64 a1)), (4, .x (.fn 26)), (10, .x (.int .i64 x5)), (11, .x (.int .i64 (IntKind.i64.wrap (shrI .u64 (IntKind.u64.wrap (IntKind.i64.wrap (x5 + x6))) (1 : Int)))))] [⟨(some id14), 1, vl fD a0⟩] (by kernel_rfl) (by kernel_rfl) ?_
        exact ih x5 (IntKind.i64.wrap (shrI .u64 (IntKind.u64.wrap (IntKind.i64.wrap (x5 + x6))) (1 : Int)))
    · refine JC.exitT ?_
      refine JC.exitL ?_
      refine JC.to2 [(0, .ref o0 0 a0.length), (1, .x (.int .i64 a1)), (10, .x (.int .i64 x5))] [⟨o0, 1, vl fD a0⟩] (by kernel_rfl) (by kernel_rfl) ?_
      exact JC.got (ex := (.exit 0)) rfl ⟨rfl, rfl, rfl⟩
def slices_symMergeCmpFunc_l1 (y7 : Int) : Nat → Int → (List Fl) → Option (List Fl)
  | 0, _, _ => none
  | k + 1, x26, x27 => cond (decide (x26 < (IntKind.i64.wrap (y7 - (1 : Int))))) ((at? x27 (IntKind.i64.wrap (x26 + (1 : Int)))).bind fun w32 => (at? x27 x26).bind fun w36 => (at? x27 x26).bind fun w40 => (at? (List.set x27 x26.toNat w32) (IntKind.i64.wrap (x26 + (1 : Int)))).bind fun w44 => slices_symMergeCmpFunc_l1 y7 k (IntKind.i64.wrap (x26 + (1 : Int))) (List.set (List.set x27 x26.toNat w32) ((IntKind.i64.wrap (x26 + (1 : Int))).toNat) w36)) (some x27)
theorem slices_symMergeCmpFunc_l1_ok (y7 : Int) (fr : Nat → Option Blk) (o0 : Option Nat) : ∀ (k : Nat) (x26 : Int) (x27 : (List Fl)), JC prog fr 220 [(0, .ref o0 0 x27.length), (10, .x (.int .i64 y7)), (13, .x (.int .i64 x26))] [⟨o0, 1, vl fD x27⟩] (.loop pf34_L1) (slices_symMergeCmpFunc_l1 y7 k x26 x27) (fun x => GotA 220 fr ((fun v ex E R => ex = (.exit 2) ∧ E = [(0, .ref o0 0 v.length)] ∧ R = [⟨o0, 1, vl fD v⟩]) x)) := by
  intro k
  induction k with
  | zero =>
    intro x26 x27
    exact JC.no
  | succ k ih =>
    intro x26 x27
    rw [slices_symMergeCmpFunc_l1]
    refine JC.loop ?_
    refine JC.seq ?_
    refine JC.seq ?_
    refine JC.region fun b29 => ?_
    refine JS.run 4 (by kernel_rfl) ?_
    refine JS.nil ?_
    refine JC.to2 [(0, .ref o0 0 x27.length), (10, .x (.int .i64 y7)), (13, .x (.int .i64 x26)), (58, .x (.bool (decide (x26 < (IntKind.i64.wrap (y7 - (1 : Int)))))))] [⟨o0, 1, vl fD x27⟩] (by kernel_rfl) (by kernel_rfl) ?_
    refine JC.skipT ?_
    refine JC.cond (e := (decide (x26 < (IntKind.i64.wrap (y7 - (1 : Int)))))) (by kernel_rfl) (fun h30 => ?_) (fun h30 => ?_)
    · refine JC.skipT ?_
      refine JC.seq ?_
      refine JC.block ?_
      refine JC.region fun b31 => ?_
      refine JS.run 8 (by kernel_rfl) ?_
      refine JS.idxT (c := fD) (l := x27) (o := o0) (kk := .i64) (z := (IntKind.i64.wrap (x26 + (1 : Int)))) 0 (by kernel_rfl) (by kernel_rfl) (by kernel_rfl) (by kernel_rfl) (by kernel_rfl) (fun id34 w32 e35 h33 => ?_)
      subst e35
      refine JS.loadO (id := id34) (sz := 1) (p := (IntKind.i64.wrap (x26 + (1 : Int))).toNat) (j := 0) (es := (vl fD x27)) (e := (cv fD w32)) 0 (by kernel_rfl) (vl_get h33) (by kernel_rfl) (by kernel_rfl) (by kernel_rfl) (by kernel_rfl) ?_
      refine JS.run 2 (by kernel_rfl) ?_
      refine JS.idxT (c := fD) (l := x27) (o := (some id34)) (kk := .i64) (z := x26) 0 (by kernel_rfl) (by kernel_rfl) (by kernel_rfl) (by kernel_rfl) (by kernel_rfl) (fun id38 w36 e39 h37 => ?_)
      have e39' : id34 = id38 := by injection e39
      subst e39'
      refine JS.loadO (id := id34) (sz := 1) (p := x26.toNat) (j := 0) (es := (vl fD x27)) (e := (cv fD w36)) 0 (by kernel_rfl) (vl_get h37) (by kernel_rfl) (by kernel_rfl) (by kernel_rfl) (by kernel_rfl) ?_
      refine JS.idxT (c := fD) (l := x27) (o := (some id34)) (kk := .i64) (z := x26) 0 (by kernel_rfl) (by kernel_rfl) (by kernel_rfl) (by kernel_rfl) (by kernel_rfl) (fun id42 w40 e43 h41 => ?_)
      have e43' : id34 = id42 := by injection e43
      subst e43'
      refine JS.storeO (id := id34) (sz := 1) (p := x26.toNat) (j := 0) (es := (vl fD x27)) (es2 := (vl fD (List.set x27 x26.toNat w32))) (e := (cv fD w40)) (w := .x (.flt w32)) 0 (by kernel_rfl) (vl_get h41) (by kernel_rfl) (by kernel_rfl) (by kernel_rfl) (vl_set (a := w32) (by kernel_rfl)) (by kernel_rfl) ?_
      refine JS.relen (o := (some id34)) (off := 0) (n := x27.length) (n' := (List.set x27 x26.toNat w32).length) 63 (by kernel_rfl) (by simp [vl]) ?_
      refine JS.idxT (c := fD) (l := (List.set x27 x26.toNat w32)) (o := (some id34)) (kk := .i64) (z := (IntKind.i64.wrap (x26 + (1 : Int)))) 0 (by kernel_rfl) (by kernel_rfl) (by kernel_rfl) (by kernel_rfl) (by kernel_rfl) (fun id46 w44 e47 h45 => ?_)
      have e47' : id34 = id46 := by injection e47
      subst e47'
      refine JS.storeO (id := id34) (sz := 1) (p := (IntKind.i64.wrap (x26 + (1 : Int))).toNat) (j := 0) (es := (vl fD (List.set x27 x26.toNat w32))) (es2 := (vl fD (List.set (List.set x27 x26.toNat w32) ((IntKind.i64.wrap (x26 + (1 : Int))).toNat) w36))) (e := (cv fD w44)) (w := .x (.flt w36)) 0 (by kernel_rfl) (vl_get h45) (by kernel_rfl) (by kernel_rfl) (by kernel_rfl) (vl_set (a := w36) (by kernel_rfl)) (by kernel_rfl) ?_
      refine JS.nil ?_
      refine JC.to2 [(0, .ref (some id34) 0 x27.length), (10, .x (.int .i64 y7)), (13, .x (.int .i64 x26))] [⟨(some id34), 1, vl fD (List.set (List.set x27 x26.toNat w32) ((IntKind.i64.wrap (x26 + (1 : Int))).toNat) w36)⟩] (by kernel_rfl) (by kernel_rfl) ?_
      refine JC.skipB ?_
      refine JC.skipT ?_
      refine JC.region fun b48 => ?_
      refine JS.run 3 (by kernel_rfl) ?_
      refine JS.nil ?_
      refine JC.to2 [(0, .ref (some id34) 0 x27.length), (10, .x (.int .i64 y7)), (13, .x (.int .i64 (IntKind.i64.wrap (x26 + (1 : Int)))))] [⟨(some id34), 1, vl fD (List.set (List.set x27 x26.toNat w32) ((IntKind.i64.wrap (x26 + (1 : Int))).toNat) w36)⟩] (by kernel_rfl) (by kernel_rfl) ?_
      refine JC.skipL ?_
      refine JC.relen (o := (some id34)) (off := 0) (n := x27.length) (n' := (List.set (List.set x27 x26.toNat w32) ((IntKind.i64.wrap (x26 + (1 : Int))).toNat) w36).length) 0 (by kernel_rfl) (by simp [vl]) ?_
      refine JC.to2 [(0, .ref (some id34) 0 ((List.set (List.set x27 x26.toNat w32) ((IntKind.i64.wrap (x26 + (1 : Int))).toNat) w36).length)), (10, .x (.int .i64 y7)), (13, .x (.int .i64 (IntKind.i64.wrap (x26 + (1 : Int)))))] [⟨(some id34), 1, vl fD (List.set (List.set x27 x26.toNat w32) ((IntKind.i64.wrap (x26 + (1 : Int))).toNat) w36)⟩] (by kernel_rfl) (by kernel_rfl) ?_
      exact ih (IntKind.i64.wrap (x26 + (1 : Int))) (List.set (List.set x27 x26.toNat w32) ((IntKind.i64.wrap (x26 + (1 : Int))).toNat) w36)
    · refine JC.exitT ?_
      refine JC.exitL ?_
      refine JC.to2 [(0, .ref o0 0 x27.length)] [⟨o0, 1, vl fD x27⟩] (by kernel_rfl) (by kernel_rfl) ?_
      exact JC.got (ex := (.exit 2)) rfl ⟨rfl, rfl, rfl⟩
def slices_symMergeCmpFunc_l2 (a0 : (List Fl)) (a2 : Int) : Nat → Int → Int → Option Int
  | 0, _, _ => none
  | k + 1, x53, x54 => cond (decide (x53 < x54)) ((at? a0 a2).bind fun w60 => (at? a0 (IntKind.i64.wrap (shrI .u64 (IntKind.u64.wrap (IntKind.i64.wrap (x53 + x54))) (1 : Int)))).bind fun w64 => (weigh_Order k w60 w64).bind fun r68 => cond (!(decide (r68 < (0 : Int)))) (slices_symMergeCmpFunc_l2 a0 a2 k (IntKind.i64.wrap ((IntKind.i64.wrap (shrI .u64 (IntKind.u64.wrap (IntKind.i64.wrap (x53 + x54))) (1 : Int))) + (1 : Int))) x54) (slices_symMergeCmpFunc_l2 a0 a2 k x53 (IntKind.i64.wrap (shrI .u64 (IntKind.u64.wrap (IntKind.i64.wrap (x53 + x54))) (1 : Int))))) (some x53)
theorem slices_symMergeCmpFunc_l2_ok (a0 : (List Fl)) (a2 : Int) (fr : Nat → Option Blk) (o0 : Option Nat) : ∀ (k : Nat) (x53 : Int) (x54 : Int), JC prog fr 220 [(0, .ref o0 0 a0.length), (2, .x (.int .i64 a2)), (4, .x (.fn 26)), (14, .x (.int .i64 x53)), (15, .x (.int .i64 x54))] [⟨o0, 1, vl fD a0⟩] (.loop pf34_L2) (slices_symMergeCmpFunc_l2 a0 a2 k x53 x54) (fun x => GotA 220 fr ((fun v ex E R => ex = (.exit 4) ∧ E = [(0, .ref o0 0 a0.length), (2, .x (.int .i64 a2)), (14, .x (.int .i64 v))] ∧ R = [⟨o0, 1, vl fD a0⟩]) x)) := by
  intro k
  induction k with
  | zero =>
    intro x53 x54
    exact JC.no
  | succ k ih =>
    intro x53 x54
    rw [slices_symMergeCmpFunc_l2]
    refine JC.loop ?_
    refine JC.seq ?_
    refine JC.seq ?_
    refine JC.region fun b56 => ?_
    refine JS.run 3 (by kernel_rfl) ?_
    refine JS.nil ?_
    refine JC.to2 [(0, .ref o0 0 a0.length), (2, .x (.int .i64 a2)), (4, .x (.fn 26)), (14, .x (.int .i64 x53)), (15, .x (.int .i64 x54)), (85, .x (.bool (decide (x53 < x54))))] [⟨o0, 1, vl fD a0⟩] (by kernel_rfl) (by kernel_rfl) ?_
    refine JC.skipT ?_
    refine JC.cond (e := (decide (x53 < x54))) (by kernel_rfl) (fun h57 => ?_) (fun h57 => ?_)
    · refine JC.skipT ?_
      refine JC.block ?_
      refine JC.seq ?_
      refine JC.region fun b58 => ?_
      refine JS.run 7 (by kernel_rfl) ?_
      refine JS.nil ?_
      refine JC.to2 [(0, .ref o0 0 a0.length), (2, .x (.int .i64 a2)), (4, .x (.fn 26)), (14, .x (.int .i64 x53)), (15, .x (.int .i64 x54)), (16, .x (.int .i64 (IntKind.i64.wrap (shrI .u64 (IntKind.u64.wrap (IntKind.i64.wrap (x53 + x54))) (1 : Int)))))] [⟨o0, 1, vl fD a0⟩] (by kernel_rfl) (by kernel_rfl) ?_
      refine JC.skipT ?_
      refine JC.seq ?_
      refine JC.region fun b59 => ?_
      refine JS.run 3 (by kernel_rfl) ?_
      refine JS.idxT (c := fD) (l := a0) (o := o0) (kk := .i64) (z := a2) 0 (by kernel_rfl) (by kernel_rfl) (by kernel_rfl) (by kernel_rfl) (by kernel_rfl) (fun id62 w60 e63 h61 => ?_)
      subst e63
      refine JS.loadO (id := id62) (sz := 1) (p := a2.toNat) (j := 0) (es := (vl fD a0)) (e := (cv fD w60)) 0 (by kernel_rfl) (vl_get h61) (by kernel_rfl) (by kernel_rfl) (by kernel_rfl) (by kernel_rfl) ?_
      refine JS.run 2 (by kernel_rfl) ?_
      refine JS.idxT (c := fD) (l := a0) (o := (some id62)) (kk := .i64) (z := (IntKind.i64.wrap (shrI .u64 (IntKind.u64.wrap (IntKind.i64.wrap (x53 + x54))) (1 : Int)))) 0 (by kernel_rfl) (by kernel_rfl) (by kernel_rfl) (by kernel_rfl) (by kernel_rfl) (fun id66 w64 e67 h65 => ?_)
      have e67' : id62 = id66 := by injection e67
      subst e67'
      refine JS.loadO (id := id62) (sz := 1) (p := (IntKind.i64.wrap (shrI .u64 (IntKind.u64.wrap (IntKind.i64.wrap (x53 + x54))) (1 : Int))).toNat) (j := 0) (es := (vl fD a0)) (e := (cv fD w64)) 0 (by kernel_rfl) (vl_get h65) (by kernel_rfl) (by kernel_rfl) (by kernel_rfl) (by kernel_rfl) ?_
      refine JS.toCallQ (p := 26) (by kernel_rfl) (by kernel_rfl) ?_
      refine JS.bind fun r68 h69 => ?_
      refine JS.callQS [] (weigh_Order_ok k w60 w64 r68 h69) ⟨rfl, argX (d := (.flt w60)) (by kernel_rfl) (by kernel_rfl), rfl, argX (d := (.flt w64)) (by kernel_rfl) (by kernel_rfl), trivial⟩ (by kernel_rfl) (by kernel_rfl) (by kernel_rfl) ?_
      refine JS.run 2 (by kernel_rfl) ?_
      refine JS.nil ?_
      refine JC.to2 [(0, .ref (some id62) 0 a0.length), (2, .x (.int .i64 a2)), (4, .x (.fn 26)), (14, .x (.int .i64 x53)), (15, .x (.int .i64 x54)), (16, .x (.int .i64 (IntKind.i64.wrap (shrI .u64 (IntKind.u64.wrap (IntKind.i64.wrap (x53 + x54))) (1 : Int))))), (103, .x (.bool (!(decide (r68 < (0 : Int))))))] [⟨(some id62), 1, vl fD a0⟩] (by kernel_rfl) (by kernel_rfl) ?_
      refine JC.skipT ?_
      refine JC.cond (e := (!(decide (r68 < (0 : Int))))) (by kernel_rfl) (fun h70 => ?_) (fun h70 => ?_)
      · refine JC.region fun b71 => ?_
        refine JS.run 3 (by kernel_rfl) ?_
        refine JS.nil ?_
        refine JC.to2 [(0, .ref (some id62) 0 a0.length), (2, .x (.int .i64 a2)), (4, .x (.fn 26)), (14, .x (.int .i64 (IntKind.i64.wrap ((IntKind.i64.wrap (shrI .u64 (IntKind.u64.wrap (IntKind.i64.wrap (x53 + x54))) (1 : Int))) + (1 : Int))))), (15, .x (.int .i64 x54))] [⟨(some id62), 1, vl fD a0⟩] (by kernel_rfl) (by kernel_rfl) ?_
        refine JC.skipB ?_
        refine JC.skipL ?_
        refine JC.to2 [(0, .ref (some id62) 0 a0.length), (2, .x (.int .i64 a2)), (4, .x (.fn 26)), (14, .x (.int .i64 (IntKind.i64.wrap ((IntKind.i64.wrap (shrI .u64 (IntKind.u64.wrap (IntKind.i64.wrap (x53 + x54))) (1 : Int))) + (1 : Int))))), (15, .x (.int .i64 x54))] [⟨(some id62), 1, vl fD a0⟩] (by kernel_rfl) (by kernel_rfl) ?_
        exact ih (IntKind.i64.wrap ((IntKind.i64.wrap (shrI .u64 (IntKind.u64.wrap (IntKind.i64.wrap (x53 + x54))) (1 : Int))) + (1 : Int))) x54
      · refine JC.region fun b72 => ?_
        refine JS.run 2 (by kernel_rfl) ?_
        refine JS.nil ?_
        refine JC.to2 [(0, .ref (some id62) 0 a0.length), (2, .x (.int .i64 a2)), (4, .x (.fn 26)), (14, .x (.int .i64 x53)), (15, .x (.int .i64 (IntKind.i64.wrap (shrI .u64 (IntKind.u64.wrap (IntKind.i64.wrap (x53 + x54))) (1 : Int)))))] [⟨(some id62), 1, vl fD a0⟩] (by kernel_rfl) (by kernel_rfl) ?_
        refine JC.skipB ?_
        refine JC.skipL ?_
        refine JC.to2 [(0, .ref (some id62) 0 a0.length), (2, .x (.int .i64 a2)), (4, .x (.fn 26)), (14, .x (.int .i64 x53)), (15, .x (.int .i64 (IntKind.i64.wrap (shrI .u64 (IntKind.u64.wrap (IntKind.i64.wrap (x53 + x54))) (1 : Int)))))] [⟨(some id62), 1, vl fD a0⟩] (by kernel_rfl) (by kernel_rfl) ?_
        exact ih x53 (IntKind.i64.wrap (shrI .u64 (IntKind.u64.wrap (IntKind.i64.wrap (x53 + x54))) (1 : Int)))
    · refine JC.exitT ?_
      refine JC.exitL ?_
      refine JC.to2 [(0, .ref o0 0 a0.length), (2, .x (.int .i64 a2)), (14, .x (.int .i64 x53))] [⟨o0, 1, vl fD a0⟩] (by kernel_rfl) (by kernel_rfl) ?_
      exact JC.got (ex := (.exit 4)) rfl ⟨rfl, rfl, rfl⟩
def slices_symMergeCmpFunc_l3 (y55 : Int) : Nat → Int → (List Fl) → Option (List Fl)
  | 0, _, _ => none
  | k + 1, x74, x75 => cond (decide (x74 > y55)) ((at? x75 (IntKind.i64.wrap (x74 - (1 : Int)))).bind fun w80 => (at? x75 x74).bind fun w84 => (at? x75 x74).bind fun w88 => (at? (List.set x75 x74.toNat w80) (IntKind.i64.wrap (x74 - (1 : Int)))).bind fun w92 => slices_symMergeCmpFunc_l3 y55 k (IntKind.i64.wrap (x74 - (1 : Int))) (List.set (List.set x75 x74.toNat w80) ((IntKind.i64.wrap (x74 - (1 : Int))).toNat) w84)) (some x75)
theorem slices_symMergeCmpFunc_l3_ok (y55 : Int) (fr : Nat → Option Blk) (o0 : Option Nat) : ∀ (k : Nat) (x74 : Int) (x75 : (List Fl)), JC prog fr 220 [(0, .ref o0 0 x75.length), (14, .x (.int .i64 y55)), (17, .x (.int .i64 x74))] [⟨o0, 1, vl fD x75⟩] (.loop pf34_L3) (slices_symMergeCmpFunc_l3 y55 k x74 x75) (fun x => GotA 220 fr ((fun v ex E R => ex = (.exit 6) ∧ E = [(0, .ref o0 0 v.length)] ∧ R = [⟨o0, 1, vl fD v⟩]) x)) := by
  intro k
  induction k with
  | zero =>
    intro x74 x75
    exact JC.no
  | succ k ih =>
    intro x74 x75
    rw [slices_symMergeCmpFunc_l3]
    refine JC.loop ?_
    refine JC.seq ?_
    refine JC.seq ?_
    refine JC.region fun b77 => ?_
    refine JS.run 3 (by kernel_rfl) ?_
    refine JS.nil ?_
    refine JC.to2 [(0, .ref o0 0 x75.length), (14, .x (.int .i64 y55)), (17, .x (.int .i64 x74)), (110, .x (.bool (decide (x74 > y55))))] [⟨o0, 1, vl fD x75⟩] (by kernel_rfl) (by kernel_rfl) ?_
    refine JC.skipT ?_
    refine JC.cond (e := (decide (x74 > y55))) (by kernel_rfl) (fun h78 => ?_) (fun h78 => ?_)
    · refine JC.skipT ?_
      refine JC.seq ?_
      refine JC.block ?_
      refine JC.region fun b79 => ?_
      refine JS.run 8 (by kernel_rfl) ?_
      refine JS.idxT (c := fD) (l := x75) (o := o0) (kk := .i64) (z := (IntKind.i64.wrap (x74 - (1 : Int)))) 0 (by kernel_rfl) (by kernel_rfl) (by kernel_rfl) (by kernel_rfl) (by kernel_rfl) (fun id82 w80 e83 h81 => ?_)
      subst e83
      refine JS.loadO (id := id82) (sz := 1) (p := (IntKind.i64.wrap (x74 - (1 : Int))).toNat) (j := 0) (es := (vl fD x75)) (e := (cv fD w80)) 0 (by kernel_rfl) (vl_get h81) (by kernel_rfl) (by kernel_rfl) (by kernel_rfl) (by kernel_rfl) ?_
      refine JS.run 2 (by kernel_rfl) ?_
      refine JS.idxT (c := fD) (l := x75) (o := (some id82)) (kk := .i64) (z := x74) 0 (by kernel_rfl) (by kernel_rfl) (by kernel_rfl) (by kernel_rfl) (by kernel_rfl) (fun id86 w84 e87 h85 => ?_)
      have e87' : id82 = id86 := by injection e87
      subst e87'
      refine JS.loadO (id := id82) (sz := 1) (p := x74.toNat) (j := 0) (es := (vl fD x75)) (e := (cv fD w84)) 0 (by kernel_rfl) (vl_get h85) (by kernel_rfl) (by kernel_rfl) (by kernel_rfl) (by kernel_rfl) ?_
      refine JS.idxT (c := fD) (l := x75) (o := (some id82)) (kk := .i64) (z := x74) 0 (by kernel_rfl) (by kernel_rfl) (by kernel_rfl) (by kernel_rfl) (by kernel_rfl) (fun id90 w88 e91 h89 => ?_)
      have e91' : id82 = id90 := by injection e91
      subst e91'
      refine JS.storeO (id := id82) (sz := 1) (p := x74.toNat) (j := 0) (es := (vl fD x75)) (es2 := (vl fD (List.set x75 x74.toNat w80))) (e := (cv fD w88)) (w := .x (.flt w80)) 0 (by kernel_rfl) (vl_get h89) (by kernel_rfl) (by kernel_rfl) (by kernel_rfl) (vl_set (a := w80) (by kernel_rfl)) (by kernel_rfl) ?_
      refine JS.relen (o := (some id82)) (off := 0) (n := x75.length) (n' := (List.set x75 x74.toNat w80).length) 115 (by kernel_rfl) (by simp [vl]) ?_
      refine JS.idxT (c := fD) (l := (List.set x75 x74.toNat w80)) (o := (some id82)) (kk := .i64) (z := (IntKind.i64.wrap (x74 - (1 : Int)))) 0 (by kernel_rfl) (by kernel_rfl) (by kernel_rfl) (by kernel_rfl) (by kernel_rfl) (fun id94 w92 e95 h93 => ?_)
      have e95' : id82 = id94 := by injection e95
      subst e95'
      refine JS.storeO (id := id82) (sz := 1) (p := (IntKind.i64.wrap (x74 - (1 : Int))).toNat) (j := 0) (es := (vl fD (List.set x75 x74.toNat w80))) (es2 := (vl fD (List.set (List.set x75 x74.toNat w80) ((IntKind.i64.wrap (x74 - (1 : Int))).toNat) w84))) (e := (cv fD w92)) (w := .x (.flt w84)) 0 (by kernel_rfl) (vl_get h93) (by kernel_rfl) (by kernel_rfl) (by kernel_rfl) (vl_set (a := w84) (by kernel_rfl)) (by kernel_rfl) ?_
      refine JS.nil ?_
      refine JC.to2 [(0, .ref (some id82) 0 x75.length), (14, .x (.int .i64 y55)), (17, .x (.int .i64 x74))] [⟨(some id82), 1, vl fD (List.set (List.set x75 x74.toNat w80) ((IntKind.i64.wrap (x74 - (1 : Int))).toNat) w84)⟩] (by kernel_rfl) (by kernel_rfl) ?_
      refine JC.skipB ?_
      refine JC.skipT ?_
      refine JC.region fun b96 => ?_
      refine JS.run 3 (by kernel_rfl) ?_
      refine JS.nil ?_
      refine JC.to2 [(0, .ref (some id82) 0 x75.length), (14, .x (.int .i64 y55)), (17, .x (.int .i64 (IntKind.i64.wrap (x74 - (1 : Int)))))] [⟨(some id82), 1, vl fD (List.set (List.set x75 x74.toNat w80) ((IntKind.i64.wrap (x74 - (1 : Int))).toNat) w84)⟩] (by kernel_rfl) (by kernel_rfl) ?_
      refine JC.skipL ?_
      refine JC.relen (o := (some id82)) (off := 0) (n := x75.length) (n' := (List.set (List.set x75 x74.toNat w80) ((IntKind.i64.wrap (x74 - (1 : Int))).toNat) w84).length) 0 (by kernel_rfl) (by simp [vl]) ?_
      refine JC.to2 [(0, .ref (some id82) 0 ((List.set (List.set x75 x74.toNat w80) ((IntKind.i64.wrap (x74 - (1 : Int))).toNat) w84).length)), (14, .x (.int .i64 y55)), (17, .x (.int .i64 (IntKind.i64.wrap (x74 - (1 : Int)))))] [⟨(some id82), 1, vl fD (List.set (List.set x75 x74.toNat w80) ((IntKind.i64.wrap (x74 - (1 : Int))).toNat) w84)⟩] (by kernel_rfl) (by kernel_rfl) ?_
      exact ih (IntKind.i64.wrap (x74 - (1 : Int))) (List.set (List.set x75 x74.toNat w80) ((IntKind.i64.wrap (x74 - (1 : Int))).toNat) w84)
    · refine JC.exitT ?_
      refine JC.exitL ?_
      refine JC.to2 [(0, .ref o0 0 x75.length)] [⟨o0, 1, vl fD x75⟩] (by kernel_rfl) (by kernel_rfl) ?_
      exact JC.got (ex := (.exit 6)) rfl ⟨rfl, rfl, rfl⟩
def slices_symMergeCmpFunc_l4 (a0 : (List Fl)) (a1 : Int) (a2 : Int) (a3 : Int) : Nat → Int → Int → Option Int
  | 0, _, _ => none
  | k + 1, x105, x106 => cond (decide (x105 < x106)) ((at? a0 (IntKind.i64.wrap ((IntKind.i64.wrap ((IntKind.i64.wrap ((IntKind.i64.wrap (shrI .u64 (IntKind.u64.wrap (IntKind.i64.wrap (a1 + a3))) (1 : Int))) + a2)) - (1 : Int))) - (IntKind.i64.wrap (shrI .u64 (IntKind.u64.wrap (IntKind.i64.wrap (x105 + x106))) (1 : Int)))))).bind fun w112 => (at? a0 (IntKind.i64.wrap (shrI .u64 (IntKind.u64.wrap (IntKind.i64.wrap (x105 + x106))) (1 : Int)))).bind fun w116 => (weigh_Order k w112 w116).bind fun r120 => cond (!(decide (r120 < (0 : Int)))) (slices_symMergeCmpFunc_l4 a0 a1 a2 a3 k (IntKind.i64.wrap ((IntKind.i64.wrap (shrI .u64 (IntKind.u64.wrap (IntKind.i64.wrap (x105 + x106))) (1 : Int))) + (1 : Int))) x106) (slices_symMergeCmpFunc_l4 a0 a1 a2 a3 k x105 (IntKind.i64.wrap (shrI .u64 (IntKind.u64.wrap (IntKind.i64.wrap (x105 + x106))) (1 : Int))))) (some x105)
theorem slices_symMergeCmpFunc_l4_ok (a0 : (List Fl)) (a1 : Int) (a2 : Int) (a3 : Int) (fr : Nat → Option Blk) (o0 : Option Nat) : ∀ (k : Nat) (x105 : Int) (x106 : Int), JC prog fr 220 [(0, .ref o0 0 a0.length), (1, .x (.int .i64 a1)), (2, .x (.int .i64 a2)), (3, .x (.int .i64 a3)), (4, .x (.fn 26)), (18, .x (.int .i64 (IntKind.i64.wrap (shrI .u64 (IntKind.u64.wrap (IntKind.i64.wrap (a1 + a3))) (1 : Int))))), (19, .x (.int .i64 (IntKind.i64.wrap ((IntKind.i64.wrap (shrI .u64 (IntKind.u64.wrap (IntKind.i64.wrap (a1 + a3))) (1 : Int))) + a2)))), (20, .x (.int .i64 x105)), (21, .x (.int .i64 x106)), (22, .x (.int .i64 (IntKind.i64.wrap ((IntKind.i64.wrap ((IntKind.i64.wrap (shrI .u64 (IntKind.u64.wrap (IntKind.i64.wrap (a1 + a3))) (1 : Int))) + a2)) - (1 : Int)))))] [⟨o0, 1, vl fD a0⟩] (.loop pf34_L4) (slices_symMergeCmpFunc_l4 a0 a1 a2 a3 k x105 x106) (fun x => GotA 220 fr ((fun v ex E R => ex = (.exit 8) ∧ E = [(0, .ref o0 0 a0.length), (1, .x (.int .i64 a1)), (2, .x (.int .i64 a2)), (3, .x (.int .i64 a3)), (4, .x (.fn 26)), (18, .x (.int .i64 (IntKind.i64.wrap (shrI .u64 (IntKind.u64.wrap (IntKind.i64.wrap (a1 + a3))) (1 : Int))))), (19, .x (.int .i64 (IntKind.i64.wrap ((IntKind.i64.wrap (shrI .u64 (IntKind.u64.wrap (IntKind.i64.wrap (a1 + a3))) (1 : Int))) + a2)))), (20, .x (.int .i64 v))] ∧ R = [⟨o0, 1, vl fD a0⟩]) x)) := by
  intro k
  induction k with
  | zero =>
    intro x105 x106
    exact JC.no
  | succ k ih =>
    intro x105 x106
    rw [slices_symMergeCmpFunc_l4]
    refine JC.loop ?_
    refine JC.seq ?_
    refine JC.seq ?_
    refine JC.region fun b108 => ?_
    refine JS.run 3 (by kernel_rfl) ?_
    refine JS.nil ?_
    refine JC.to2 [(0, .ref o0 0 a0.length), (1, .x (.int .i64 a1)), (2, .x (.int .i64 a2)), (3, .x (.int .i64 a3)), (4, .x (.fn 26)), (18, .x (.int .i64 (IntKind.i64.wrap (shrI .u64 (IntKind.u64.wrap (IntKind.i64.wrap (a1 + a3))) (1 : Int))))), (19, .x (.int .i64 (IntKind.i64.wrap ((IntKind.i64.wrap (shrI .u64 (IntKind.u64.wrap (IntKind.i64.wrap (a1 + a3))) (1 : Int))) + a2)))), (20, .x (.int .i64 x105)), (21, .x (.int .i64 x106)), (22, .x (.int .i64 (IntKind.i64.wrap ((IntKind.i64.wrap ((IntKind.i64.wrap (shrI .u64 (IntKind.u64.wrap (IntKind.i64.wrap (a1 + a3))) (1 : Int))) + a2)) - (1 : Int))))), (151, .x (.bool (decide (x105 < x106))))] [⟨o0, 1, vl fD a0⟩] (by kernel_rfl) (by kernel_rfl) ?_
    refine JC.skipT ?_
    refine JC.cond (e := (decide (x105 < x106))) (by kernel_rfl) (fun h109 => ?_) (fun h109 => ?_)
    · refine JC.skipT ?_
      refine JC.block ?_
      refine JC.seq ?_
      refine JC.region fun b110 => ?_
      refine JS.run 7 (by kernel_rfl) ?_
      refine JS.nil ?_
      refine JC.to2 [(0, .ref o0 0 a0.length), (1, .x (.int .i64 a1)), (2, .x (.int .i64 a2)), (3, .x (.int .i64 a3)), (4, .x (.fn 26)), (18, .x (.int .i64 (IntKind.i64.wrap (shrI .u64 (IntKind.u64.wrap (IntKind.i64.wrap (a1 + a3))) (1 : Int))))), (19, .x (.int .i64 (IntKind.i64.wrap ((IntKind.i64.wrap (shrI .u64 (IntKind.u64.wrap (IntKind.i64.wrap (a1 + a3))) (1 : Int))) + a2)))), (20, .x (.int .i64 x105)), (21, .x (.int .i64 x106)), (22, .x (.int .i64 (IntKind.i64.wrap ((IntKind.i64.wrap ((IntKind.i64.wrap (shrI .u64 (IntKind.u64.wrap (IntKind.i64.wrap (a1 + a3))) (1 : Int))) + a2)) - (1 : Int))))), (23, .x (.int .i64 (IntKind.i64.wrap (shrI .u64 (IntKind.u64.wrap (IntKind.i64.wrap (x105 + x106))) (1 : Int)))))] [⟨o0, 1, vl fD a0⟩] (by kernel_rfl) (by kernel_rfl) ?_
      refine JC.skipT ?_
      refine JC.seq ?_
      refine JC.region fun b111 => ?_
      refine JS.run 5 (by kernel_rfl) ?_
      refine JS.idxT (c := fD) (l := a0) (o := o0) (kk := .i64) (z := (IntKind.i64.wrap ((IntKind.i64.wrap ((IntKind.i64.wrap ((IntKind.i64.wrap (shrI .u64 (IntKind.u64.wrap (IntKind.i64.wrap (a1 + a3))) (1 : Int))) + a2)) - (1 : Int))) - (IntKind.i64.wrap (shrI .u64 (IntKind.u64.wrap (IntKind.i64.wrap (x105 + x106))) (1 : Int)))))) 0 (by kernel_rfl) (by kernel_rfl) (by kernel_rfl) (by kernel_rfl) (by kernel_rfl) (fun id114 w112 e115 h113 => ?_)
      subst e115
      refine JS.loadO (id := id114) (sz := 1) (p := (IntKind.i64.wrap ((IntKind.i64.wrap ((IntKind.i64.wrap ((IntKind.i64.wrap (shrI .u64 (IntKind.u64.wrap (IntKind.i64.wrap (a1 + a3))) (1 : Int))) + a2)) - (1 : Int))) - (IntKind.i64.wrap (shrI .u64 (IntKind.u64.wrap (IntKind.i64.wrap (x105 + x106))) (1 : Int))))).toNat) (j := 0) (es := (vl fD a0)) (e := (cv fD w112)) 0 (by kernel_rfl) (vl_get h113) (by kernel_rfl) (by kernel_rfl) (by kernel_rfl) (by kernel_rfl) ?_
      refine JS.run 2 (by kernel_rfl) ?_
      refine JS.idxT (c := fD) (l := a0) (o := (some id114)) (kk := .i64) (z := (IntKind.i64.wrap (shrI .u64 (IntKind.u64.wrap (IntKind.i64.wrap (x105 + x106))) (1 : Int)))) 0 (by kernel_rfl) (by kernel_rfl) (by kernel_rfl) (by kernel_rfl) (by kernel_rfl) (fun id118 w116 e119 h117 => ?_)
      have e119' : id114 = id118 := by injection e119
      subst e119'
      refine JS.loadO (id := id114) (sz := 1) (p := (IntKind.i64.wrap (shrI .u64 (IntKind.u64.wrap (IntKind.i64.wrap (x105 + x106))) (1 : Int))).toNat) (j := 0) (es := (vl fD a0)) (e := (cv fD w116)) 0 (by kernel_rfl) (vl_get h117) (by kernel_rfl) (by kernel_rfl) (by kernel_rfl) (by kernel_rfl) ?_
      refine JS.toCallQ (p := 26) (by kernel_rfl) (by kernel_rfl) ?_
      refine JS.bind fun r120 h121 => ?_
      refine JS.callQS [] (weigh_Order_ok k w112 w116 r120 h121) ⟨rfl, argX (d := (.flt w112)) (by kernel_rfl) (by kernel_rfl), rfl, argX (d := (.flt w116)) (by kernel_rfl) (by kernel_rfl), trivial⟩ (by kernel_rfl) (by kernel_rfl) (by kernel_rfl) ?_
      refine JS.run 2 (by kernel_rfl) ?_
      refine JS.nil ?_
      refine JC.to2 [(0, .ref (some id114) 0 a0.length), (1, .x (.int .i64 a1)), (2, .x (.int .i64 a2)), (3, .x (.int .i64 a3)), (4, .x (.fn 26)), (18, .x (.int .i64 (IntKind.i64.wrap (shrI .u64 (IntKind.u64.wrap (IntKind.i64.wrap (a1 + a3))) (1 : Int))))), (19, .x (.int .i64 (IntKind.i64.wrap ((IntKind.i64.wrap (shrI .u64 (IntKind.u64.wrap (IntKind.i64.wrap (a1 + a3))) (1 : Int))) + a2)))), (20, .x (.int .i64 x105)), (21, .x (.int .i64 x106)), (22, .x (.int .i64 (IntKind.i64.wrap ((IntKind.i64.wrap ((IntKind.i64.wrap (shrI .u64 (IntKind.u64.wrap (IntKind.i64.wrap (a1 + a3))) (1 : Int))) + a2)) - (1 : Int))))), (23, .x (.int .i64 (IntKind.i64.wrap (shrI .u64 (IntKind.u64.wrap (IntKind.i64.wrap (x105 + x106))) (1 : Int))))), (171, .x (.bool (!(decide (r120 < (0 : Int))))))] [⟨(some id114), 1, vl fD a0⟩] (by kernel_rfl) (by kernel_rfl) ?_
      refine JC.skipT ?_
      refine JC.cond (e := (!(decide (r120 < (0 : Int))))) (by kernel_rfl) (fun h122 => ?_) (fun h122 => ?_)
      · refine JC.region fun b123 => ?_
        refine JS.run 3 (by kernel_rfl) ?_
        refine JS.nil ?_
        refine JC.to2 [(0, .ref (some id114) 0 a0.length), (1, .x (.int .i64 a1)), (2, .x (.int .i64 a2)), (3, .x (.int .i64 a3)), (4, .x (.fn 26)), (18, .x (.int .i64 (IntKind.i64.wrap (shrI .u64 (IntKind.u64.wrap (IntKind.i64.wrap (a1 + a3))) (1 : Int))))), (19, .x (.int .i64 (IntKind.i64.wrap ((IntKind.i64.wrap (shrI .u64 (IntKind.u64.wrap (IntKind.i64.wrap (a1 + a3))) (1 : Int))) + a2)))), (20, .x (.int .i64 (IntKind.i64.wrap ((IntKind.i64.wrap (shrI .u64 (IntKind.u64.wrap (IntKind.i64.wrap (x105 + x106))) (1 : Int))) + (1 : Int))))), (21, .x (.int .i64 x106)), (22, .x (.int .i64 (IntKind.i64.wrap ((IntKind.i64.wrap ((IntKind.i64.wrap (shrI .u64 (IntKind.u64.wrap (IntKind.i64.wrap (a1 + a3))) (1 : Int))) + a2)) - (1 : Int)))))] [⟨(some id114), 1, vl fD a0⟩] (by kernel_rfl) (by kernel_rfl) ?_
        refine JC.skipB ?_
        refine JC.skipL ?_
        refine JC.to2 [(0, .ref (some id114) 0 a0.length), (1, .x (.int .i64 a1)), (2, .x (.int .i64 a2)), (3, .x (.int .i64 a3)), (4, .x (.fn 26)), (18, .x (.int .i64 (IntKind.i64.wrap (shrI .u64 (IntKind.u64.wrap (IntKind.i64.wrap (a1 + a3))) (1 : Int))))), (19, .x (.int .i64 (IntKind.i64.wrap ((IntKind.i64.wrap (shrI .u64 (IntKind.u64.wrap (IntKind.i64.wrap (a1 + a3))) (1 : Int))) + a2)))), (20, .x (.int .i64 (IntKind.i64.wrap ((IntKind.i64.wrap (shrI .u64 (IntKind.u64.wrap (IntKind.i64.wrap (x105 + x106))) (1 : Int))) + (1 : Int))))), (21, .x (.int .i64 x106)), (22, .x (.int .i64 (IntKind.i64.wrap ((IntKind.i64.wrap ((IntKind.i64.wrap (shrI .u64 (IntKind.u64.wrap (IntKind.i64.wrap (a1 + a3))) (1 : Int))) + a2)) - (1 : Int)))))] [⟨(some id114), 1, vl fD a0⟩] (by kernel_rfl) (by kernel_rfl) ?_
        exact ih (IntKind.i64.wrap ((IntKind.i64.wrap (shrI .u64 (IntKind.u64.wrap (IntKind.i64.wrap (x105 + x106))) (1 : Int))) + (1 : Int))) x106
      · refine JC.region fun b124 => ?_
        refine JS.run 2 (by kernel_rfl) ?_
        refine JS.nil ?_
        refine JC.to2 [(0, .ref (some id114) 0 a0.length), (1, .x (.int .i64 a1)), (2, .x (.int .i64 a2)), (3, .x (.int .i64 a3)), (4, .x (.fn 26)), (18, .x (.int .i64 (IntKind.i64.wrap (shrI .u64 (IntKind.u64.wrap (IntKind.i64.wrap (a1 + a3))) (1 : Int))))), (19, .x (.int .i64 (IntKind.i64.wrap ((IntKind.i64.wrap (shrI .u64 (IntKind.u64.wrap (IntKind.i64.wrap (a1 + a3))) (1 : Int))) + a2)))), (20, .x (.int .i64 x105)), (21, .x (.int .i64 (IntKind.i64.wrap (shrI .u64 (IntKind.u64.wrap (IntKind.i64.wrap (x105 + x106))) (1 : Int))))), (22, .x (.int .i64 (IntKind.i64.wrap ((IntKind.i64.wrap ((IntKind.i64.wrap (shrI .u64 (IntKind.u64.wrap (IntKind.i64.wrap (a1 + a3))) (1 : Int))) + a2)) - (1 : Int)))))] [⟨(some id114), 1, vl fD a0⟩] (by kernel_rfl) (by kernel_rfl) ?_
        refine JC.skipB ?_
        refine JC.skipL ?_
        refine JC.to2 [(0, .ref (some id114) 0 a0.length), (1, .x (.int .i64 a1)), (2, .x (.int .i64 a2)), (3, .x (.int .i64 a3)), (4, .x (.fn 26)), (18, .x (.int .i64 (IntKind.i64.wrap (shrI .u64 (IntKind.u64.wrap (IntKind.i64.wrap (a1 + a3))) (1 : Int))))), (19, .x (.int .i64 (IntKind.i64.wrap ((IntKind.i64.wrap (shrI .u64 (IntKind.u64.wrap (IntKind.i64.wrap (a1 + a3))) (1 : Int))) + a2)))), (20, .x (.int .i64 x105)), (21, .x (.int .i64 (IntKind.i64.wrap (shrI .u64 (IntKind.u64.wrap (IntKind.i64.wrap (x105 + x106))) (1 : Int))))), (22, .x (.int .i64 (IntKind.i64.wrap ((IntKind.i64.wrap ((IntKind.i64.wrap (shrI .u64 (IntKind.u64.wrap (IntKind.i64.wrap (a1 + a3))) (1 : Int))) + a2)) - (1 : Int)))))] [⟨(some id114), 1, vl fD a0⟩] (by kernel_rfl) (by kernel_rfl) ?_
        exact ih x105 (IntKind.i64.wrap (shrI .u64 (IntKind.u64.wrap (IntKind.i64.wrap (x105 + x106))) (1 : Int)))
    · refine JC.exitT ?_
      refine JC.exitL ?_
      refine JC.to2 [(0, .ref o0 0 a0.length), (1, .x (.int .i64 a1)), (2, .x (.int .i64 a2)), (3, .x (.int .i64 a3)), (4, .x (.fn 26)), (18, .x (.int .i64 (IntKind.i64.wrap (shrI .u64 (IntKind.u64.wrap (IntKind.i64.wrap (a1 + a3))) (1 : Int))))), (19, .x (.int .i64 (IntKind.i64.wrap ((IntKind.i64.wrap (shrI .u64 (IntKind.u64.wrap (IntKind.i64.wrap (a1 + a3))) (1 : Int))) + a2)))), (20, .x (.int .i64 x105))] [⟨o0, 1, vl fD a0⟩] (by kernel_rfl) (by kernel_rfl) ?_
      exact JC.got (ex := (.exit 8)) rfl ⟨rfl, rfl, rfl⟩
def slices_symMergeCmpFunc_l5 (a0 : (List Fl)) (a1 : Int) (a2 : Int) (a3 : Int) : Nat → Int → Int → Option Int
  | 0, _, _ => none
  | k + 1, x185, x186 => cond (decide (x185 < x186)) ((at? a0 (IntKind.i64.wrap ((IntKind.i64.wrap ((IntKind.i64.wrap ((IntKind.i64.wrap (shrI .u64 (IntKind.u64.wrap (IntKind.i64.wrap (a1 + a3))) (1 : Int))) + a2)) - (1 : Int))) - (IntKind.i64.wrap (shrI .u64 (IntKind.u64.wrap (IntKind.i64.wrap (x185 + x186))) (1 : Int)))))).bind fun w192 => (at? a0 (IntKind.i64.wrap (shrI .u64 (IntKind.u64.wrap (IntKind.i64.wrap (x185 + x186))) (1 : Int)))).bind fun w196 => (weigh_Order k w192 w196).bind fun r200 => cond (!(decide (r200 < (0 : Int)))) (slices_symMergeCmpFunc_l5 a0 a1 a2 a3 k (IntKind.i64.wrap ((IntKind.i64.wrap (shrI .u64 (IntKind.u64.wrap (IntKind.i64.wrap (x185 + x186))) (1 : Int))) + (1 : Int))) x186) (slices_symMergeCmpFunc_l5 a0 a1 a2 a3 k x185 (IntKind.i64.wrap (shrI .u64 (IntKind.u64.wrap (IntKind.i64.wrap (x185 + x186))) (1 : Int))))) (some x185)
theorem slices_symMergeCmpFunc_l5_ok (a0 : (List Fl)) (a1 : Int) (a2 : Int) (a3 : Int) (fr : Nat → Option Blk) (o0 : Option Nat) : ∀ (k : Nat) (x185 : Int) (x186 : Int), JC prog fr 220 [(0, .ref o0 0 a0.length), (1, .x (.int .i64 a1)), (2, .x (.int .i64 a2)), (3, .x (.int .i64 a3)), (4, .x (.fn 26)), (18, .x (.int .i64 (IntKind.i64.wrap (shrI .u64 (IntKind.u64.wrap (IntKind.i64.wrap (a1 + a3))) (1 : Int))))), (19, .x (.int .i64 (IntKind.i64.wrap ((IntKind.i64.wrap (shrI .u64 (IntKind.u64.wrap (IntKind.i64.wrap (a1 + a3))) (1 : Int))) + a2)))), (20, .x (.int .i64 x185)), (21, .x (.int .i64 x186)), (22, .x (.int .i64 (IntKind.i64.wrap ((IntKind.i64.wrap ((IntKind.i64.wrap (shrI .u64 (IntKind.u64.wrap (IntKind.i64.wrap (a1 + a3))) (1 : Int))) + a2)) - (1 : Int)))))] [⟨o0, 1, vl fD a0⟩] (.loop pf34_L4) (slices_symMergeCmpFunc_l5 a0 a1 a2 a3 k x185 x186) (fun x => GotA 220 fr ((fun v ex E R => ex = (.exit 8) ∧ E = [(0, .ref o0 0 a0.length), (1, .x (.int .i64 a1)), (2, .x (.int .i64 a2)), (3, .x (.int .i64 a3)), (4, .x (.fn 26)), (18, .x (.int .i64 (IntKind.i64.wrap (shrI .u64 (IntKind.u64.wrap (IntKind.i64.wrap (a1 + a3))) (1 : Int))))), (19, .x (.int .i64 (IntKind.i64.wrap ((IntKind.i64.wrap (shrI .u64 (IntKind.u64.wrap (IntKind.i64.wrap (a1 + a3))) (1 : Int))) + a2)))), (20, .x (.int .i64 v))] ∧ R = [⟨o0, 1, vl fD a0⟩]) x)) := by
  intro k
  induction k with
  | zero =>
    intro x185 x186
    exact JC.no
  | succ k ih =>
    intro x185 x186
    rw [slices_symMergeCmpFunc_l5]
    refine JC.loop ?_
    refine JC.seq ?_
    refine JC.seq ?_
    refine JC.region fun b188 => ?_
    refine JS.run 3 (by kernel_rfl) ?_
    refine JS.nil ?_
    refine JC.to2 [(0, .ref o0 0 a0.length), (1, .x (.int .i64 a1)), (2, .x (.int .i64 a2)), (3, .x (.int .i64 a3)), (4, .x (.fn 26)), (18, .x (.int .i64 (IntKind.i64.wrap (shrI .u64 (IntKind.u64.wrap (IntKind.i64.wrap (a1 + a3))) (1 : Int))))), (19, .x (.int .i64 (IntKind.i64.wrap ((IntKind.i64.wrap (shrI .u64 (IntKind.u64.wrap (IntKind.i64.wrap (a1 + a3))) (1 : Int))) + a2)))), (20, .x (.int .i64 x185)), (21, .x (.int .i64 x186)), (22, .x (.int .i64 (IntKind.i64.wrap ((IntKind.i64.wrap ((IntKind.i64.wrap (shrI .u64 (IntKind.u64.wrap (IntKind.i64.wrap (a1 + a3))) (1 : Int))) + a2)) - (1 : Int))))), (151, .x (.bool (decide (x185 < x186))))] [⟨o0, 1, vl fD a0⟩] (by kernel_rfl) (by kernel_rfl) ?_
    refine JC.skipT ?_
    refine JC.cond (e := (decide (x185 < x186))) (by kernel_rfl) (fun h189 => ?_) (fun h189 => ?_)
    · refine JC.skipT ?_
      refine JC.block ?_
      refine JC.seq ?_
      refine JC.region fun b190 => ?_
      refine JS.run 7 (by kernel_rfl) ?_
      refine JS.nil ?_
      refine JC.to2 [(0, .ref o0 0 a0.length), (1, .x (.int .i64 a1)), (2, .x (.int .i64 a2)), (3, .x (.int .i64 a3)), (4, .x (.fn 26)), (18, .x (.int .i64 (IntKind.i64.wrap (shrI .u64 (IntKind.u64.wrap (IntKind.i64.wrap (a1 + a3))) (1 : Int))))), (19, .x (.int .i64 (IntKind.i64.wrap ((IntKind.i64.wrap (shrI .u64 (IntKind.u64.wrap (IntKind.i64.wrap (a1 + a3))) (1 : Int))) + a2)))), (20, .x (.int .i64 x185)), (21, .x (.int .i64 x186)), (22, .x (.int .i64 (IntKind.i64.wrap ((IntKind.i64.wrap ((IntKind.i64.wrap (shrI .u64 (IntKind.u64.wrap (IntKind.i64.wrap (a1 + a3))) (1 : Int))) + a2)) - (1 : Int))))), (23, .x (.int .i64 (IntKind.i64.wrap (shrI .u64 (IntKind.u64.wrap (IntKind.i64.wrap (x185 + x186))) (1 : Int)))))] [⟨o0, 1, vl fD a0⟩] (by kernel_rfl) (by kernel_rfl) ?_
      refine JC.skipT ?_
      refine JC.seq ?_
      refine JC.region fun b191 => ?_
      refine JS.run 5 (by kernel_rfl) ?_
      refine JS.idxT (c := fD) (l := a0) (o := o0) (kk := .i64) (z := (IntKind.i64.wrap ((IntKind.i64.wrap ((IntKind.i64.wrap ((IntKind.i64.wrap (shrI .u64 (IntKind.u64.wrap (IntKind.i64.wrap (a1 + a3))) (1 : Int))) + a2)) - (1 : Int))) - (IntKind.i64.wrap (shrI .u64 (IntKind.u64.wrap (IntKind.i64.wrap (x185 + x186))) (1 : Int)))))) 0 (by kernel_rfl) (by kernel_rfl) (by kernel_rfl) (by kernel_rfl) (by kernel_rfl) (fun id194 w192 e195 h193 => ?_)
      subst e195
      refine JS.loadO (id := id194) (sz := 1) (p := (IntKind.i64.wrap ((IntKind.i64.wrap ((IntKind.i64.wrap ((IntKind.i64.wrap (shrI .u64 (IntKind.u64.wrap (IntKind.i64.wrap (a1 + a3))) (1 : Int))) + a2)) - (1 : Int))) - (IntKind.i64.wrap (shrI .u64 (IntKind.u64.wrap (IntKind.i64.wrap (x185 + x186))) (1 : Int))))).toNat) (j := 0) (es := (vl fD a0)) (e := (cv fD w192)) 0 (by kernel_rfl) (vl_get h193) (by kernel_rfl) (by kernel_rfl) (by kernel_rfl) (by kernel_rfl) ?_
      refine JS.run 2 (by kernel_rfl) ?_
      refine JS.idxT (c := fD) (l := a0) (o := (some id194)) (kk := .i64) (z := (IntKind.i64.wrap (shrI .u64 (IntKind.u64.wrap (IntKind.i64.wrap (x185 + x186))) (1 : Int)))) 0 (by kernel_rfl) (by kernel_rfl) (by kernel_rfl) (by kernel_rfl) (by kernel_rfl) (fun id198 w196 e199 h197 => ?_)
      have e199' : id194 = id198 := by injection e199
      subst e199'
      refine JS.loadO (id := id194) (sz := 1) (p := (IntKind.i64.wrap (shrI .u64 (IntKind.u64.wrap (IntKind.i64.wrap (x185 + x186))) (1 : Int))).toNat) (j := 0) (es := (vl fD a0)) (e := (cv fD w196)) 0 (by kernel_rfl) (vl_get h197) (by kernel_rfl) (by kernel_rfl) (by kernel_rfl) (by kernel_rfl) ?_
      refine JS.toCallQ (p := 26) (by kernel_rfl) (by kernel_rfl) ?_
      refine JS.bind fun r200 h201 => ?_
      refine JS.callQS [] (weigh_Order_ok k w192 w196 r200 h201) ⟨rfl, argX (d := (.flt w192)) (by kernel_rfl) (by kernel_rfl), rfl, argX (d := (.flt w196)) (by kernel_rfl) (by kernel_rfl), trivial⟩ (by kernel_rfl) (by kernel_rfl) (by kernel_rfl) ?_
      refine JS.run 2 (by kernel_rfl) ?_
      refine JS.nil ?_
      refine JC.to2 [(0, .ref (some id194) 0 a0.length), (1, .x (.int .i64 a1)), (2, .x (.int .i64 a2)), (3, .x (.int .i64 a3)), (4, .x (.fn 26)), (18, .x (.int .i64 (IntKind.i64.wrap (shrI .u64 (IntKind.u64.wrap (IntKind.i64.wrap (a1 + a3))) (1 : Int))))), (19, .x (.int .i64 (IntKind.i64.wrap ((IntKind.i64.wrap (shrI .u64 (IntKind.u64.wrap (IntKind.i64.wrap (a1 + a3))) (1 : Int))) + a2)))), (20, .x (.int .i64 x185)), (21, .x (.int .i64 x186)), (22, .x (.int .i64 (IntKind.i64.wrap ((IntKind.i64.wrap ((IntKind.i64.wrap (shrI .u64 (IntKind.u64.wrap (IntKind.i64.wrap (a1 + a3))) (1 : Int))) + a2)) - (1 : Int))))), (23, .x (.int .i64 (IntKind.i64.wrap (shrI .u64 (IntKind.u64.wrap (IntKind.i64.wrap (x185 + x186))) (1 : Int))))), (171, .x (.bool (!(decide (r200 < (0 : Int))))))] [⟨(some id194), 1, vl fD a0⟩] (by kernel_rfl) (by kernel_rfl) ?_
      refine JC.skipT ?_
      refine JC.cond (e := (!(decide (r200 < (0 : Int))))) (by kernel_rfl) (fun h202 => ?_) (fun h202 => ?_)
      · refine JC.region fun b203 => ?_
        refine JS.run 3 (by kernel_rfl) ?_
        refine JS.nil ?_
        refine JC.to2 [(0, .ref (some id194) 0 a0.length), (1, .x (.int .i64 a1)), (2, .x (.int .i64 a2)), (3, .x (.int .i64 a3)), (4, .x (.fn 26)), (18, .x (.int .i64 (IntKind.i64.wrap (shrI .u64 (IntKind.u64.wrap (IntKind.i64.wrap (a1 + a3))) (1 : Int))))), (19, .x (.int .i64 (IntKind.i64.wrap ((IntKind.i64.wrap (shrI .u64 (IntKind.u64.wrap (IntKind.i64.wrap (a1 + a3))) (1 : Int))) + a2)))), (20, .x (.int .i64 (IntKind.i64.wrap ((IntKind.i64.wrap (shrI .u64 (IntKind.u64.wrap (IntKind.i64.wrap (x185 + x186))) (1 : Int))) + (1 : Int))))), (21, .x (.int .i64 x186)), (22, .x (.int .i64 (IntKind.i64.wrap ((IntKind.i64.wrap ((IntKind.i64.wrap (shrI .u64 (IntKind.u64.wrap (IntKind.i64.wrap (a1 + a3))) (1 : Int))) + a2)) - (1 : Int)))))] [⟨(some id194), 1, vl fD a0⟩] (by kernel_rfl) (by kernel_rfl) ?_
        refine JC.skipB ?_
        refine JC.skipL ?_
        refine JC.to2 [(0, .ref (some id194) 0 a0.length), (1, .x (.int .i64 a1)), (2, .x (.int .i64 a2)), (3, .x (.int .i64 a3)), (4, .x (.fn 26)), (18, .x (.int .i64 (IntKind.i64.wrap (shrI .u64 (IntKind.u64.wrap (IntKind.i64.wrap (a1 + a3))) (1 : Int))))), (19, .x (.int .i64 (IntKind.i64.wrap ((IntKind.i64.wrap (shrI .u64 (IntKind.u64.wrap (IntKind.i64.wrap (a1 + a3))) (1 : Int))) + a2)))), (20, .x (.int .i64 (IntKind.i64.wrap ((IntKind.i64.wrap (shrI .u64 (IntKind.u64.wrap (IntKind.i64.wrap (x185 + x186))) (1 : Int))) + (1 : Int))))), (21, .x (.int .i64 x186)), (22, .x (.int .i64 (IntKind.i64.wrap ((IntKind.i64.wrap ((IntKind.i64.wrap (shrI .u64 (IntKind.u64.wrap (IntKind.i64.wrap (a1 + a3))) (1 : Int))) + a2)) - (1 : Int)))))] [⟨(some id194), 1, vl fD a0⟩] (by kernel_rfl) (by kernel_rfl) ?_
        exact ih (IntKind.i64.wrap ((IntKind.i64.wrap (shrI .u64 (IntKind.u64.wrap (IntKind.i64.wrap (x185 + x186))) (1 : Int))) + (1 : Int))) x186
      · refine JC.region fun b204 => ?_
        refine JS.run 2 (by kernel_rfl) ?_
        refine JS.nil ?_
        refine JC.to2 [(0, .ref (some id194) 0 a0.length), (1, .x (.int .i64 a1)), (2, .x (.int .i64 a2)), (3, .x (.int .i64 a3)), (4, .x (.fn 26)), (18, .x (.int .i64 (IntKind.i64.wrap (shrI .u64 (IntKind.u64.wrap (IntKind.i64.wrap (a1 + a3))) (1 : Int))))), (19, .x (.int .i64 (IntKind.i64.wrap ((IntKind.i64.wrap (shrI .u64 (IntKind.u64.wrap (IntKind.i64.wrap (a1 + a3))) (1 : Int))) + a2)))), (20, .x (.int .i64 x185)), (21, .x (.int .i64 (IntKind.i64.wrap (shrI .u64 (IntKind.u64.wrap (IntKind.i64.wrap (x185 + x186))) (1 : Int))))), (22, .x (.int .i64 (IntKind.i64.wrap ((IntKind.i64.wrap ((IntKind.i64.wrap (shrI .u64 (IntKind.u64.wrap (IntKind.i64.wrap (a1 + a3))) (1 : Int))) + a2)) - (1 : Int)))))] [⟨(some id194), 1, vl fD a0⟩] (by kernel_rfl) (by kernel_rfl) ?_
        refine JC.skipB ?_
        refine JC.skipL ?_
        refine JC.to2 [(0, .ref (some id194) 0 a0.length), (1, .x (.int .i64 a1)), (2, .x (.int .i64 a2)), (3, .x (.int .i64 a3)), (4, .x (.fn 26)), (18, .x (.int .i64 (IntKind.i64.wrap (shrI .u64 (IntKind.u64.wrap (IntKind.i64.wrap (a1 + a3))) (1 : Int))))), (19, .x (.int .i64 (IntKind.i64.wrap ((IntKind.i64.wrap (shrI .u64 (IntKind.u64.wrap (IntKind.i64.wrap (a1 + a3))) (1 : Int))) + a2)))), (20, .x (.int .i64 x185)), (21, .x (.int .i64 (IntKind.i64.wrap (shrI .u64 (IntKind.u64.wrap (IntKind.i64.wrap (x185 + x186))) (1 : Int))))), (22, .x (.int .i64 (IntKind.i64.wrap ((IntKind.i64.wrap ((IntKind.i64.wrap (shrI .u64 (IntKind.u64.wrap (IntKind.i64.wrap (a1 + a3))) (1 : Int))) + a2)) - (1 : Int)))))] [⟨(some id194), 1, vl fD a0⟩] (by kernel_rfl) (by kernel_rfl) ?_
        exact ih x185 (IntKind.i64.wrap (shrI .u64 (IntKind.u64.wrap (IntKind.i64.wrap (x185 + x186))) (1 : Int)))
    · refine JC.exitT ?_
      refine JC.exitL ?_
      refine JC.to2 [(0, .ref o0 0 a0.length), (1, .x (.int .i64 a1)), (2, .x (.int .i64 a2)), (3, .x (.int .i64 a3)), (4, .x (.fn 26)), (18, .x (.int .i64 (IntKind.i64.wrap (shrI .u64 (IntKind.u64.wrap (IntKind.i64.wrap (a1 + a3))) (1 : Int))))), (19, .x (.int .i64 (IntKind.i64.wrap ((IntKind.i64.wrap (shrI .u64 (IntKind.u64.wrap (IntKind.i64.wrap (a1 + a3))) (1 : Int))) + a2)))), (20, .x (.int .i64 x185))] [⟨o0, 1, vl fD a0⟩] (by kernel_rfl) (by kernel_rfl) ?_
      exact JC.got (ex := (.exit 8)) rfl ⟨rfl, rfl, rfl⟩
def slices_symMergeCmpFunc_body (k : Nat) (rec_slices_symMergeCmpFunc : (List Fl) → Int → Int → Int → Option (List Fl)) (a0 : (List Fl)) (a1 : Int) (a2 : Int) (a3 : Int) : Option (List Fl) :=
  cond ((IntKind.i64.wrap (a2 - a1)) == (1 : Int)) ((slices_symMergeCmpFunc_l0 a0 a1 k a2 a3).bind fun y7 => (slices_symMergeCmpFunc_l1 y7 k a1 a0).bind fun y28 => keepL a0 y28) (cond ((IntKind.i64.wrap (a3 - a2)) == (1 : Int)) ((slices_symMergeCmpFunc_l2 a0 a2 k a1 a2).bind fun y55 => (slices_symMergeCmpFunc_l3 y55 k a2 a0).bind fun y76 => keepL a0 y76) (cond (decide (a2 > (IntKind.i64.wrap (shrI .u64 (IntKind.u64.wrap (IntKind.i64.wrap (a1 + a3))) (1 : Int))))) ((slices_symMergeCmpFunc_l4 a0 a1 a2 a3 k (IntKind.i64.wrap ((IntKind.i64.wrap ((IntKind.i64.wrap (shrI .u64 (IntKind.u64.wrap (IntKind.i64.wrap (a1 + a3))) (1 : Int))) + a2)) - a3)) (IntKind.i64.wrap (shrI .u64 (IntKind.u64.wrap (IntKind.i64.wrap (a1 + a3))) (1 : Int)))).bind fun y107 => (cond (decide (y107 < a2)) (some (decide (a2 < (IntKind.i64.wrap ((IntKind.i64.wrap ((IntKind.i64.wrap (shrI .u64 (IntKind.u64.wrap (IntKind.i64.wrap (a1 + a3))) (1 : Int))) + a2)) - y107))))) (some false)).bind fun y126 => cond y126 ((slices_rotateCmpFunc k a0 y107 a2 (IntKind.i64.wrap ((IntKind.i64.wrap ((IntKind.i64.wrap (shrI .u64 (IntKind.u64.wrap (IntKind.i64.wrap (a1 + a3))) (1 : Int))) + a2)) - y107))).bind fun r131 => (cond (decide (a1 < y107)) (some (decide (y107 < (IntKind.i64.wrap (shrI .u64 (IntKind.u64.wrap (IntKind.i64.wrap (a1 + a3))) (1 : Int)))))) (some false)).bind fun y134 => cond y134 ((rec_slices_symMergeCmpFunc r131 a1 y107 (IntKind.i64.wrap (shrI .u64 (IntKind.u64.wrap (IntKind.i64.wrap (a1 + a3))) (1 : Int)))).bind fun r139 => (cond (decide ((IntKind.i64.wrap (shrI .u64 (IntKind.u64.wrap (IntKind.i64.wrap (a1 + a3))) (1 : Int))) < (IntKind.i64.wrap ((IntKind.i64.wrap ((IntKind.i64.wrap (shrI .u64 (IntKind.u64.wrap (IntKind.i64.wrap (a1 + a3))) (1 : Int))) + a2)) - y107)))) (some (decide ((IntKind.i64.wrap ((IntKind.i64.wrap ((IntKind.i64.wrap (shrI .u64 (IntKind.u64.wrap (IntKind.i64.wrap (a1 + a3))) (1 : Int))) + a2)) - y107)) < a3))) (some false)).bind fun y142 => cond y142 ((rec_slices_symMergeCmpFunc r139 (IntKind.i64.wrap (shrI .u64 (IntKind.u64.wrap (IntKind.i64.wrap (a1 + a3))) (1 : Int))) (IntKind.i64.wrap ((IntKind.i64.wrap ((IntKind.i64.wrap (shrI .u64 (IntKind.u64.wrap (IntKind.i64.wrap (a1 + a3))) (1 : Int))) + a2)) - y107)) a3).bind fun r147 => keepL a0 r147) (keepL a0 r139)) ((cond (decide ((IntKind.i64.wrap (shrI .u64 (IntKind.u64.wrap (IntKind.i64.wrap (a1 + a3))) (1 : Int))) < (IntKind.i64.wrap ((IntKind.i64.wrap ((IntKind.i64.wrap (shrI .u64 (IntKind.u64.wrap (IntKind.i64.wrap (a1 + a3))) (1 : Int))) + a2)) - y107)))) (some (decide ((IntKind.i64.wrap ((IntKind.i64.wrap ((IntKind.i64.wrap (shrI .u64 (IntKind.u64.wrap (IntKind.i64.wrap (a1 + a3))) (1 : Int))) + a2)) - y107)) < a3))) (some false)).bind fun y150 => cond y150 ((rec_slices_symMergeCmpFunc r131 (IntKind.i64.wrap (shrI .u64 (IntKind.u64.wrap (IntKind.i64.wrap (a1 + a3))) (1 : Int))) (IntKind.i64.wrap ((IntKind.i64.wrap ((IntKind.i64.wrap (shrI .u64 (IntKind.u64.wrap (IntKind.i64.wrap (a1 + a3))) (1 : Int))) + a2)) - y107)) a3).bind fun r155 => keepL a0 r155) (keepL a0 r131))) ((cond (decide (a1 < y107)) (some (decide (y107 < (IntKind.i64.wrap (shrI .u64 (IntKind.u64.wrap (IntKind.i64.wrap (a1 + a3))) (1 : Int)))))) (some false)).bind fun y158 => cond y158 ((rec_slices_symMergeCmpFunc a0 a1 y107 (IntKind.i64.wrap (shrI .u64 (IntKind.u64.wrap (IntKind.i64.wrap (a1 + a3))) (1 : Int)))).bind fun r163 => (cond (decide ((IntKind.i64.wrap (shrI .u64 (IntKind.u64.wrap (IntKind.i64.wrap (a1 + a3))) (1 : Int))) < (IntKind.i64.wrap ((IntKind.i64.wrap ((IntKind.i64.wrap (shrI .u64 (IntKind.u64.wrap (IntKind.i64.wrap (a1 + a3))) (1 : Int))) + a2)) - y107)))) (some (decide ((IntKind.i64.wrap ((IntKind.i64.wrap ((IntKind.i64.wrap (shrI .u64 (IntKind.u64.wrap (IntKind.i64.wrap (a1 + a3))) (1 : Int))) + a2)) - y107)) < a3))) (some false)).bind fun y166 => cond y166 ((rec_slices_symMergeCmpFunc r163 (IntKind.i64.wrap (shrI .u64 (IntKind.u64.wrap (IntKind.i64.wrap (a1 + a3))) (1 : Int))) (IntKind.i64.wrap ((IntKind.i64.wrap ((IntKind.i64.wrap (shrI .u64 (IntKind.u64.wrap (IntKind.i64.wrap (a1 + a3))) (1 : Int))) + a2)) - y107)) a3).bind fun r171 => keepL a0 r171) (keepL a0 r163)) ((cond (decide ((IntKind.i64.wrap (shrI .u64 (IntKind.u64.wrap (IntKind.i64.wrap (a1 + a3))) (1 : Int))) < (IntKind.i64.wrap ((IntKind.i64.wrap ((IntKind.i64.wrap (shrI .u64 (IntKind.u64.wrap (IntKind.i64.wrap (a1 + a3))) (1 : Int))) + a2)) - y107)))) (some (decide ((IntKind.i64.wrap ((IntKind.i64.wrap ((IntKind.i64.wrap (shrI .u64 (IntKind.u64.wrap (IntKind.i64.wrap (a1 + a3))) (1 : Int))) + a2)) - y107)) < a3))) (some false)).bind fun y174 => cond y174 ((rec_slices_symMergeCmpFunc a0 (IntKind.i64.wrap (shrI .u64 (IntKind.u64.wrap (IntKind.i64.wrap (a1 + a3))) (1 : Int))) (IntKind.i64.wrap ((IntKind.i64.wrap ((IntKind.i64.wrap (shrI .u64 (IntKind.u64.wrap (IntKind.i64.wrap (a1 + a3))) (1 : Int))) + a2)) - y107)) a3).bind fun r179 => keepL a0 r179) (keepL a0 a0)))) ((slices_symMergeCmpFunc_l5 a0 a1 a2 a3 k a1 a2).bind fun y187 => (cond (decide (y187 < a2)) (some (decide (a2 < (IntKind.i64.wrap ((IntKind.i64.wrap ((IntKind.i64.wrap (shrI .u64 (IntKind.u64.wrap (IntKind.i64.wrap (a1 + a3))) (1 : Int))) + a2)) - y187))))) (some false)).bind fun y206 => cond y206 ((slices_rotateCmpFunc k a0 y187 a2 (IntKind.i64.wrap ((IntKind.i64.wrap ((IntKind.i64.wrap (shrI .u64 (IntKind.u64.wrap (IntKind.i64.wrap (a1 + a3))) (1 : Int))) + a2)) - y187))).bind fun r211 => (cond (decide (a1 < y187)) (some (decide (y187 < (IntKind.i64.wrap (shrI .u64 (IntKind.u64.wrap (IntKind.i64.wrap (a1 + a3))) (1 : Int)))))) (some false)).bind fun y214 => cond y214 ((rec_slices_symMergeCmpFunc r211 a1 y187 (IntKind.i64.wrap (shrI .u64 (IntKind.u64.wrap (IntKind.i64.wrap (a1 + a3))) (1 : Int)))).bind fun r219 => (cond (decide ((IntKind.i64.wrap (shrI .u64 (IntKind.u64.wrap (IntKind.i64.wrap (a1 + a3))) (1 : Int))) < (IntKind.i64.wrap ((IntKind.i64.wrap ((IntKind.i64.wrap (shrI .u64 (IntKind.u64.wrap (IntKind.i64.wrap (a1 + a3))) (1 : Int))) + a2)) - y187)))) (some (decide ((IntKind.i64.wrap ((IntKind.i64.wrap ((IntKind.i64.wrap (shrI .u64 (IntKind.u64.wrap (IntKind.i64.wrap (a1 + a3))) (1 : Int))) + a2)) - y187)) < a3))) (some false)).bind fun y222 => cond y222 ((rec_slices_symMergeCmpFunc r219 (IntKind.i64.wrap (shrI .u64 (IntKind.u64.wrap (IntKind.i64.wrap (a1 + a3))) (1 : Int))) (IntKind.i64.wrap ((IntKind.i64.wrap ((IntKind.i64.wrap (shrI .u64 (IntKind.u64.wrap (IntKind.i64.wrap (a1 + a3))) (1 : Int))) + a2)) - y187)) a3).bind fun r227 => keepL a0 r227) (keepL a0 r219)) ((cond (decide ((IntKind.i64.wrap (shrI .u64 (IntKind.u64.wrap (IntKind.i64.wrap (a1 + a3))) (1 : Int))) < (IntKind.i64.wrap ((IntKind.i64.wrap ((IntKind.i64.wrap (shrI .u64 (IntKind.u64.wrap (IntKind.i64.wrap (a1 + a3))) (1 : Int))) + a2)) - y187)))) (some (decide ((IntKind.i64.wrap ((IntKind.i64.wrap ((IntKind.i64.wrap (shrI .u64 (IntKind.u64.wrap (IntKind.i64.wrap (a1 + a3))) (1 : Int))) + a2)) - y187)) < a3))) (some false)).bind fun y230 => cond y230 ((rec_slices_symMergeCmpFunc r211 (IntKind.i64.wrap (shrI .u64 (IntKind.u64.wrap (IntKind.i64.wrap (a1 + a3))) (1 : Int))) (IntKind.i64.wrap ((IntKind.i64.wrap ((IntKind.i64.wrap (shrI .u64 (IntKind.u64.wrap (IntKind.i64.wrap (a1 + a3))) (1 : Int))) + a2)) - y187)) a3).bind fun r235 => keepL a0 r235) (keepL a0 r211))) ((cond (decide (a1 < y187)) (some (decide (y187 < (IntKind.i64.wrap (shrI .u64 (IntKind.u64.wrap (IntKind.i64.wrap (a1 + a3))) (1 : Int)))))) (some false)).bind fun y238 => cond y238 ((rec_slices_symMergeCmpFunc a0 a1 y187 (IntKind.i64.wrap (shrI .u64 (IntKind.u64.wrap (IntKind.i64.wrap (a1 + a3))) (1 : Int)))).bind fun r243 => (cond (decide ((IntKind.i64.wrap (shrI .u64 (IntKind.u64.wrap (IntKind.i64.wrap (a1 + a3))) (1 : Int))) < (IntKind.i64.wrap ((IntKind.i64.wrap ((IntKind.i64.wrap (shrI .u64 (IntKind.u64.wrap (IntKind.i64.wrap (a1 + a3))) (1 : Int))) + a2)) - y187)))) (some (decide ((IntKind.i64.wrap ((IntKind.i64.wrap ((IntKind.i64.wrap (shrI .u64 (IntKind.u64.wrap (IntKind.i64.wrap (a1 + a3))) (1 : Int))) + a2)) - y187)) < a3))) (some false)).bind fun y246 => cond y246 ((rec_slices_symMergeCmpFunc r243 (IntKind.i64.wrap (shrI .u64 (IntKind.u64.wrap (IntKind.i64.wrap (a1 + a3))) (1 : Int))) (IntKind.i64.wrap ((IntKind.i64.wrap ((IntKind.i64.wrap (shrI .u64 (IntKind.u64.wrap (IntKind.i64.wrap (a1 + a3))) (1 : Int))) + a2)) - y187)) a3).bind fun r251 => keepL a0 r251) (keepL a0 r243)) ((cond (decide ((IntKind.i64.wrap (shrI .u64 (IntKind.u64.wrap (IntKind.i64.wrap (a1 + a3))) (1 : Int))) < (IntKind.i64.wrap ((IntKind.i64.wrap ((IntKind.i64.wrap (shrI .u64 (IntKind.u64.wrap (IntKind.i64.wrap (a1 + a3))) (1 : Int))) + a2)) - y187)))) (some (decide ((IntKind.i64.wrap ((IntKind.i64.wrap ((IntKind.i64.wrap (shrI .u64 (IntKind.u64.wrap (IntKind.i64.wrap (a1 + a3))) (1 : Int))) + a2)) - y187)) < a3))) (some false)).bind fun y254 => cond y254 ((rec_slices_symMergeCmpFunc a0 (IntKind.i64.wrap (shrI .u64 (IntKind.u64.wrap (IntKind.i64.wrap (a1 + a3))) (1 : Int))) (IntKind.i64.wrap ((IntKind.i64.wrap ((IntKind.i64.wrap (shrI .u64 (IntKind.u64.wrap (IntKind.i64.wrap (a1 + a3))) (1 : Int))) + a2)) - y187)) a3).bind fun r259 => keepL a0 r259) (keepL a0 a0))))))
theorem slices_symMergeCmpFunc_body_ok (k : Nat) (rec_slices_symMergeCmpFunc : (List Fl) → Int → Int → Int → Option (List Fl)) (h_slices_symMergeCmpFunc : ∀ (a0 : (List Fl)) (a1 : Int) (a2 : Int) (a3 : Int) (r : (List Fl)), rec_slices_symMergeCmpFunc a0 a1 a2 a3 = some r → InOk prog 34 1 fD [.x (.int .i64 a1), .x (.int .i64 a2), .x (.int .i64 a3), .x (.fn 26)] a0 r) : ∀ (a0 : (List Fl)) (a1 : Int) (a2 : Int) (a3 : Int) (r : (List Fl)), slices_symMergeCmpFunc_body k rec_slices_symMergeCmpFunc a0 a1 a2 a3 = some r → InOk prog 34 1 fD [.x (.int .i64 a1), .x (.int .i64 a2), .x (.int .i64 a3), .x (.fn 26)] a0 r := by
  intro a0 a1 a2 a3
  refine InOk.of (pf := pf34) rfl rfl rfl rfl ?_
  intro fr o0
  unfold slices_symMergeCmpFunc_body pf34
  refine JC.seq ?_
  refine JC.seq ?_
  refine JC.region fun b1 => ?_
  refine JS.run 4 (by kernel_rfl) ?_
  refine JS.nil ?_
  refine JC.to2 [(0, .ref o0 0 a0.length), (1, .x (.int .i64 a1)), (2, .x (.int .i64 a2)), (3, .x (.int .i64 a3)), (4, .x (.fn 26)), (28, .x (.bool ((IntKind.i64.wrap (a2 - a1)) == (1 : Int))))] [⟨o0, 1, vl fD a0⟩] (by kernel_rfl) (by kernel_rfl) ?_
  refine JC.skipT ?_
  refine JC.cond (e := ((IntKind.i64.wrap (a2 - a1)) == (1 : Int))) (by kernel_rfl) (fun h2 => ?_) (fun h2 => ?_)
  · refine JC.seq ?_
    refine JC.region fun b3 => ?_
    refine JS.run 2 (by kernel_rfl) ?_
    refine JS.nil ?_
    refine JC.to2 [(0, .ref o0 0 a0.length), (1, .x (.int .i64 a1)), (3, .x (.int .i64 a3)), (4, .x (.fn 26)), (10, .x (.int .i64 a2))] [⟨o0, 1, vl fD a0⟩] (by kernel_rfl) (by kernel_rfl) ?_
    refine JC.skipT ?_
    refine JC.seq ?_
    refine JC.region fun b4 => ?_
    refine JS.run 2 (by kernel_rfl) ?_
    refine JS.nil ?_
    refine JC.to2 [(0, .ref o0 0 a0.length), (1, .x (.int .i64 a1)), (4, .x (.fn 26)), (10, .x (.int .i64 a2)), (11, .x (.int .i64 a3))] [⟨o0, 1, vl fD a0⟩] (by kernel_rfl) (by kernel_rfl) ?_
    refine JC.skipT ?_
    refine JC.seq ?_
    refine JC.block ?_
    refine JC.to2 [(0, .ref o0 0 a0.length), (1, .x (.int .i64 a1)), (4, .x (.fn 26)), (10, .x (.int .i64 a2)), (11, .x (.int .i64 a3))] [⟨o0, 1, vl fD a0⟩] (by kernel_rfl) (by kernel_rfl) ?_
    refine JC.to2 [(0, .ref o0 0 a0.length), (1, .x (.int .i64 a1)), (4, .x (.fn 26)), (10, .x (.int .i64 a2)), (11, .x (.int .i64 a3))] [⟨o0, 1, vl fD a0⟩] (by kernel_rfl) (by kernel_rfl) ?_
    refine JC.bind (A := fun v ex E R => ex = (.exit 0) ∧ E = [(0, .ref o0 0 a0.length), (1, .x (.int .i64 a1)), (10, .x (.int .i64 v))] ∧ R = [⟨o0, 1, vl fD a0⟩]) (slices_symMergeCmpFunc_l0_ok a0 a1 fr o0 k a2 a3) ?_
    rintro y7 ex E' R' hA
    obtain ⟨rfl, rfl, rfl⟩ := hA
    refine JC.to2 [(0, .ref o0 0 a0.length), (1, .x (.int .i64 a1)), (10, .x (.int .i64 y7))] [⟨o0, 1, vl fD a0⟩] (by kernel_rfl) (by kernel_rfl) ?_
    refine JC.exitB ?_
    refine JC.skipT ?_
    refine JC.seq ?_
    refine JC.seq ?_
    refine JC.region fun b25 => ?_
    refine JS.run 2 (by kernel_rfl) ?_
    refine JS.nil ?_
    refine JC.to2 [(0, .ref o0 0 a0.length), (10, .x (.int .i64 y7)), (13, .x (.int .i64 a1))] [⟨o0, 1, vl fD a0⟩] (by kernel_rfl) (by kernel_rfl) ?_
    refine JC.skipT ?_
    refine JC.block ?_
    refine JC.to2 [(0, .ref o0 0 a0.length), (10, .x (.int .i64 y7)), (13, .x (.int .i64 a1))] [⟨o0, 1, vl fD a0⟩] (by kernel_rfl) (by kernel_rfl) ?_
    refine JC.to2 [(0, .ref o0 0 a0.length), (10, .x (.int .i64 y7)), (13, .x (.int .i64 a1))] [⟨o0, 1, vl fD a0⟩] (by kernel_rfl) (by kernel_rfl) ?_
    refine JC.bind (A := fun v ex E R => ex = (.exit 2) ∧ E = [(0, .ref o0 0 v.length)] ∧ R = [⟨o0, 1, vl fD v⟩]) (slices_symMergeCmpFunc_l1_ok y7 fr o0 k a1 a0) ?_
    rintro y28 ex E' R' hA
    obtain ⟨rfl, rfl, rfl⟩ := hA
    refine JC.to2 [(0, .ref o0 0 y28.length)] [⟨o0, 1, vl fD y28⟩] (by kernel_rfl) (by kernel_rfl) ?_
    refine JC.exitB ?_
    refine JC.skipT ?_
    refine JC.retT ?_
    exact JC.finI (ex := .ret) (l := a0) rfl ret_ne rfl
  · refine JC.skipT ?_
    refine JC.seq ?_
    refine JC.seq ?_
    refine JC.region fun b49 => ?_
    refine JS.run 4 (by kernel_rfl) ?_
    refine JS.nil ?_
    refine JC.to2 [(0, .ref o0 0 a0.length), (1, .x (.int .i64 a1)), (2, .x (.int .i64 a2)), (3, .x (.int .i64 a3)), (4, .x (.fn 26)), (80, .x (.bool ((IntKind.i64.wrap (a3 - a2)) == (1 : Int))))] [⟨o0, 1, vl fD a0⟩] (by kernel_rfl) (by kernel_rfl) ?_
    refine JC.skipT ?_
    refine JC.cond (e := ((IntKind.i64.wrap (a3 - a2)) == (1 : Int))) (by kernel_rfl) (fun h50 => ?_) (fun h50 => ?_)
    · refine JC.seq ?_
      refine JC.region fun b51 => ?_
      refine JS.run 2 (by kernel_rfl) ?_
      refine JS.nil ?_
      refine JC.to2 [(0, .ref o0 0 a0.length), (2, .x (.int .i64 a2)), (4, .x (.fn 26)), (14, .x (.int .i64 a1))] [⟨o0, 1, vl fD a0⟩] (by kernel_rfl) (by kernel_rfl) ?_
      refine JC.skipT ?_
      refine JC.seq ?_
      refine JC.region fun b52 => ?_
      refine JS.run 2 (by kernel_rfl) ?_
      refine JS.nil ?_
      refine JC.to2 [(0, .ref o0 0 a0.length), (2, .x (.int .i64 a2)), (4, .x (.fn 26)), (14, .x (.int .i64 a1)), (15, .x (.int .i64 a2))] [⟨o0, 1, vl fD a0⟩] (by kernel_rfl) (by kernel_rfl) ?_
      refine JC.skipT ?_
      refine JC.seq ?_
      refine JC.block ?_
      refine JC.to2 [(0, .ref o0 0 a0.length), (2, .x (.int .i64 a2)), (4, .x (.fn 26)), (14, .x (.int .i64 a1)), (15, .x (.int .i64 a2))] [⟨o0, 1, vl fD a0⟩] (by kernel_rfl) (by kernel_rfl) ?_
      refine JC.to2 [(0, .ref o0 0 a0.length), (2, .x (.int .i64 a2)), (4, .x (.fn 26)), (14, .x (.int .i64 a1)), (15, .x (.int .i64 a2))] [⟨o0, 1, vl fD a0⟩] (by kernel_rfl) (by kernel_rfl) ?_
      refine JC.bind (A := fun v ex E R => ex = (.exit 4) ∧ E = [(0, .ref o0 0 a0.length), (2, .x (.int .i64 a2)), (14, .x (.int .i64 v))] ∧ R = [⟨o0, 1, vl fD a0⟩]) (slices_symMergeCmpFunc_l2_ok a0 a2 fr o0 k a1 a2) ?_
      rintro y55 ex E' R' hA
      obtain ⟨rfl, rfl, rfl⟩ := hA
      refine JC.to2 [(0, .ref o0 0 a0.length), (2, .x (.int .i64 a2)), (14, .x (.int .i64 y55))] [⟨o0, 1, vl fD a0⟩] (by kernel_rfl) (by kernel_rfl) ?_
      refine JC.exitB ?_
      refine JC.skipT ?_
      refine JC.seq ?_
      refine JC.seq ?_
      refine JC.region fun b73 => ?_
      refine JS.run 2 (by kernel_rfl) ?_
      refine JS.nil ?_
      refine JC.to2 [(0, .ref o0 0 a0.length), (14, .x (.int .i64 y55)), (17, .x (.int .i64 a2))] [⟨o0, 1, vl fD a0⟩] (by kernel_rfl) (by kernel_rfl) ?_
      refine JC.skipT ?_
      refine JC.block ?_
      refine JC.to2 [(0, .ref o0 0 a0.length), (14, .x (.int .i64 y55)), (17, .x (.int .i64 a2))] [⟨o0, 1, vl fD a0⟩] (by kernel_rfl) (by kernel_rfl) ?_
      refine JC.to2 [(0, .ref o0 0 a0.length), (14, .x (.int .i64 y55)), (17, .x (.int .i64 a2))] [⟨o0, 1, vl fD a0⟩] (by kernel_rfl) (by kernel_rfl) ?_
      refine JC.bind (A := fun v ex E R => ex = (.exit 6) ∧ E = [(0, .ref o0 0 v.length)] ∧ R = [⟨o0, 1, vl fD v⟩]) (slices_symMergeCmpFunc_l3_ok y55 fr o0 k a2 a0) ?_
      rintro y76 ex E' R' hA
      obtain ⟨rfl, rfl, rfl⟩ := hA
      refine JC.to2 [(0, .ref o0 0 y76.length)] [⟨o0, 1, vl fD y76⟩] (by kernel_rfl) (by kernel_rfl) ?_
      refine JC.exitB ?_
      refine JC.skipT ?_
      refine JC.retT ?_
      exact JC.finI (ex := .ret) (l := a0) rfl ret_ne rfl
    · refine JC.skipT ?_
      refine JC.seq ?_
      refine JC.region fun b97 => ?_
      refine JS.run 7 (by kernel_rfl) ?_
      refine JS.nil ?_
      refine JC.to2 [(0, .ref o0 0 a0.length), (1, .x (.int .i64 a1)), (2, .x (.int .i64 a2)), (3, .x (.int .i64 a3)), (4, .x (.fn 26)), (18, .x (.int .i64 (IntKind.i64.wrap (shrI .u64 (IntKind.u64.wrap (IntKind.i64.wrap (a1 + a3))) (1 : Int)))))] [⟨o0, 1, vl fD a0⟩] (by kernel_rfl) (by kernel_rfl) ?_
      refine JC.skipT ?_
      refine JC.seq ?_
      refine JC.region fun b98 => ?_
      refine JS.run 4 (by kernel_rfl) ?_
      refine JS.nil ?_
      refine JC.to2 [(0, .ref o0 0 a0.length), (1, .x (.int .i64 a1)), (2, .x (.int .i64 a2)), (3, .x (.int .i64 a3)), (4, .x (.fn 26)), (18, .x (.int .i64 (IntKind.i64.wrap (shrI .u64 (IntKind.u64.wrap (IntKind.i64.wrap (a1 + a3))) (1 : Int))))), (19, .x (.int .i64 (IntKind.i64.wrap ((IntKind.i64.wrap (shrI .u64 (IntKind.u64.wrap (IntKind.i64.wrap (a1 + a3))) (1 : Int))) + a2))))] [⟨o0, 1, vl fD a0⟩] (by kernel_rfl) (by kernel_rfl) ?_
      refine JC.skipT ?_
      refine JC.seq ?_
      refine JC.region fun b99 => ?_
      refine JS.run 2 (by kernel_rfl) ?_
      refine JS.nil ?_
      refine JC.to2 [(0, .ref o0 0 a0.length), (1, .x (.int .i64 a1)), (2, .x (.int .i64 a2)), (3, .x (.int .i64 a3)), (4, .x (.fn 26)), (18, .x (.int .i64 (IntKind.i64.wrap (shrI .u64 (IntKind.u64.wrap (IntKind.i64.wrap (a1 + a3))) (1 : Int))))), (19, .x (.int .i64 (IntKind.i64.wrap ((IntKind.i64.wrap (shrI .u64 (IntKind.u64.wrap (IntKind.i64.wrap (a1 + a3))) (1 : Int))) + a2))))] [⟨o0, 1, vl fD a0⟩] (by kernel_rfl) (by kernel_rfl) ?_
      refine JC.skipT ?_
      refine JC.seq ?_
      refine JC.seq ?_
      refine JC.region fun b100 => ?_
      refine JS.run 3 (by kernel_rfl) ?_
      refine JS.nil ?_
      refine JC.to2 [(0, .ref o0 0 a0.length), (1, .x (.int .i64 a1)), (2, .x (.int .i64 a2)), (3, .x (.int .i64 a3)), (4, .x (.fn 26)), (18, .x (.int .i64 (IntKind.i64.wrap (shrI .u64 (IntKind.u64.wrap (IntKind.i64.wrap (a1 + a3))) (1 : Int))))), (19, .x (.int .i64 (IntKind.i64.wrap ((IntKind.i64.wrap (shrI .u64 (IntKind.u64.wrap (IntKind.i64.wrap (a1 + a3))) (1 : Int))) + a2)))), (140, .x (.bool (decide (a2 > (IntKind.i64.wrap (shrI .u64 (IntKind.u64.wrap (IntKind.i64.wrap (a1 + a3))) (1 : Int)))))))] [⟨o0, 1, vl fD a0⟩] (by kernel_rfl) (by kernel_rfl) ?_
      refine JC.skipT ?_
      refine JC.cond (e := (decide (a2 > (IntKind.i64.wrap (shrI .u64 (IntKind.u64.wrap (IntKind.i64.wrap (a1 + a3))) (1 : Int)))))) (by kernel_rfl) (fun h101 => ?_) (fun h101 => ?_)
      · refine JC.seq ?_
        refine JC.region fun b102 => ?_
        refine JS.run 4 (by kernel_rfl) ?_
        refine JS.nil ?_
        refine JC.to2 [(0, .ref o0 0 a0.length), (1, .x (.int .i64 a1)), (2, .x (.int .i64 a2)), (3, .x (.int .i64 a3)), (4, .x (.fn 26)), (18, .x (.int .i64 (IntKind.i64.wrap (shrI .u64 (IntKind.u64.wrap (IntKind.i64.wrap (a1 + a3))) (1 : Int))))), (19, .x (.int .i64 (IntKind.i64.wrap ((IntKind.i64.wrap (shrI .u64 (IntKind.u64.wrap (IntKind.i64.wrap (a1 + a3))) (1 : Int))) + a2)))), (20, .x (.int .i64 (IntKind.i64.wrap ((IntKind.i64.wrap ((IntKind.i64.wrap (shrI .u64 (IntKind.u64.wrap (IntKind.i64.wrap (a1 + a3))) (1 : Int))) + a2)) - a3))))] [⟨o0, 1, vl fD a0⟩] (by kernel_rfl) (by kernel_rfl) ?_
        refine JC.skipT ?_
        refine JC.region fun b103 => ?_
        refine JS.run 2 (by kernel_rfl) ?_
        refine JS.nil ?_
        refine JC.to2 [(0, .ref o0 0 a0.length), (1, .x (.int .i64 a1)), (2, .x (.int .i64 a2)), (3, .x (.int .i64 a3)), (4, .x (.fn 26)), (18, .x (.int .i64 (IntKind.i64.wrap (shrI .u64 (IntKind.u64.wrap (IntKind.i64.wrap (a1 + a3))) (1 : Int))))), (19, .x (.int .i64 (IntKind.i64.wrap ((IntKind.i64.wrap (shrI .u64 (IntKind.u64.wrap (IntKind.i64.wrap (a1 + a3))) (1 : Int))) + a2)))), (20, .x (.int .i64 (IntKind.i64.wrap ((IntKind.i64.wrap ((IntKind.i64.wrap (shrI .u64 (IntKind.u64.wrap (IntKind.i64.wrap (a1 + a3))) (1 : Int))) + a2)) - a3)))), (21, .x (.int .i64 (IntKind.i64.wrap (shrI .u64 (IntKind.u64.wrap (IntKind.i64.wrap (a1 + a3))) (1 : Int)))))] [⟨o0, 1, vl fD a0⟩] (by kernel_rfl) (by kernel_rfl) ?_
        refine JC.skipT ?_
        refine JC.seq ?_
        refine JC.region fun b104 => ?_
        refine JS.run 3 (by kernel_rfl) ?_
        refine JS.nil ?_
        refine JC.to2 [(0, .ref o0 0 a0.length), (1, .x (.int .i64 a1)), (2, .x (.int .i64 a2)), (3, .x (.int .i64 a3)), (4, .x (.fn 26)), (18, .x (.int .i64 (IntKind.i64.wrap (shrI .u64 (IntKind.u64.wrap (IntKind.i64.wrap (a1 + a3))) (1 : Int))))), (19, .x (.int .i64 (IntKind.i64.wrap ((IntKind.i64.wrap (shrI .u64 (IntKind.u64.wrap (IntKind.i64.wrap (a1 + a3))) (1 : Int))) + a2)))), (20, .x (.int .i64 (IntKind.i64.wrap ((IntKind.i64.wrap ((IntKind.i64.wrap (shrI .u64 (IntKind.u64.wrap (IntKind.i64.wrap (a1 + a3))) (1 : Int))) + a2)) - a3)))), (21, .x (.int .i64 (IntKind.i64.wrap (shrI .u64 (IntKind.u64.wrap (IntKind.i64.wrap (a1 + a3))) (1 : Int))))), (22, .x (.int .i64 (IntKind.i64.wrap ((IntKind.i64.wrap ((IntKind.i64.wrap (shrI .u64 (IntKind.u64.wrap (IntKind.i64.wrap (a1 + a3))) (1 : Int))) + a2)) - (1 : Int)))))] [⟨o0, 1, vl fD a0⟩] (by kernel_rfl) (by kernel_rfl) ?_
        refine JC.skipT ?_
        refine JC.seq ?_
        refine JC.block ?_
        refine JC.to2 [(0, .ref o0 0 a0.length), (1, .x (.int .i64 a1)), (2, .x (.int .i64 a2)), (3, .x (.int .i64 a3)), (4, .x (.fn 26)), (18, .x (.int .i64 (IntKind.i64.wrap (shrI .u64 (IntKind.u64.wrap (IntKind.i64.wrap (a1 + a3))) (1 : Int))))), (19, .x (.int .i64 (IntKind.i64.wrap ((IntKind.i64.wrap (shrI .u64 (IntKind.u64.wrap (IntKind.i64.wrap (a1 + a3))) (1 : Int))) + a2)))), (20, .x (.int .i64 (IntKind.i64.wrap ((IntKind.i64.wrap ((IntKind.i64.wrap (shrI .u64 (IntKind.u64.wrap (IntKind.i64.wrap (a1 + a3))) (1 : Int))) + a2)) - a3)))), (21, .x (.int .i64 (IntKind.i64.wrap (shrI .u64 (IntKind.u64.wrap (IntKind.i64.wrap (a1 + a3))) (1 : Int))))), (22, .x (.int .i64 (IntKind.i64.wrap ((IntKind.i64.wrap ((IntKind.i64.wrap (shrI .u64 (IntKind.u64.wrap (IntKind.i64.wrap (a1 + a3))) (1 : Int))) + a2)) - (1 : Int)))))] [⟨o0, 1, vl fD a0⟩] (by kernel_rfl) (by kernel_rfl) ?_
        refine JC.to2 [(0, .ref o0 0 a0.length), (1, .x (.int .i64 a1)), (2, .x (.int .i64 a2)), (3, .x (.int .i64 a3)), (4, .x (.fn 26)), (18, .x (.int .i64 (IntKind.i64.wrap (shrI .u64 (IntKind.u64.wrap (IntKind.i64.wrap (a1 + a3))) (1 : Int))))), (19, .x (.int .i64 (IntKind.i64.wrap ((IntKind.i64.wrap (shrI .u64 (IntKind.u64.wrap (IntKind.i64.wrap (a1 + a3))) (1 : Int))) + a2)))), (20, .x (.int .i64 (IntKind.i64.wrap ((IntKind.i64.wrap ((IntKind.i64.wrap (shrI .u64 (IntKind.u64.wrap (IntKind.i64.wrap (a1 + a3))) (1 : Int))) + a2)) - a3)))), (21, .x (.int .i64 (IntKind.i64.wrap (shrI .u64 (IntKind.u64.wrap (IntKind.i64.wrap (a1 + a3))) (1 : Int))))), (22, .x (.int .i64 (IntKind.i64.wrap ((IntKind.i64.wrap ((IntKind.i64.wrap (shrI .u64 (IntKind.u64.wrap (IntKind.i64.wrap (a1 + a3))) (1 : Int))) + a2)) - (1 : Int)))))] [⟨o0, 1, vl fD a0⟩] (by kernel_rfl) (by kernel_rfl) ?_
        refine JC.bind (A := fun v ex E R => ex = (.exit 8) ∧ E = [(0, .ref o0 0 a0.length), (1, .x (.int .i64 a1)), (2, .x (.int .i64 a2)), (3, .x (.int .i64 a3)), (4, .x (.fn 26)), (18, .x (.int .i64 (IntKind.i64.wrap (shrI .u64 (IntKind.u64.wrap (IntKind.i64.wrap (a1 + a3))) (1 : Int))))), (19, .x (.int .i64 (IntKind.i64.wrap ((IntKind.i64.wrap (shrI .u64 (IntKind.u64.wrap (IntKind.i64.wrap (a1 + a3))) (1 : Int))) + a2)))), (20, .x (.int .i64 v))] ∧ R = [⟨o0, 1, vl fD a0⟩]) (slices_symMergeCmpFunc_l4_ok a0 a1 a2 a3 fr o0 k (IntKind.i64.wrap ((IntKind.i64.wrap ((IntKind.i64.wrap (shrI .u64 (IntKind.u64.wrap (IntKind.i64.wrap (a1 + a3))) (1 : Int))) + a2)) - a3)) (IntKind.i64.wrap (shrI .u64 (IntKind.u64.wrap (IntKind.i64.wrap (a1 + a3))) (1 : Int)))) ?_
        rintro y107 ex E' R' hA
        obtain ⟨rfl, rfl, rfl⟩ := hA
        refine JC.to2 [(0, .ref o0 0 a0.length), (1, .x (.int .i64 a1)), (2, .x (.int .i64 a2)), (3, .x (.int .i64 a3)), (4, .x (.fn 26)), (18, .x (.int .i64 (IntKind.i64.wrap (shrI .u64 (IntKind.u64.wrap (IntKind.i64.wrap (a1 + a3))) (1 : Int))))), (19, .x (.int .i64 (IntKind.i64.wrap ((IntKind.i64.wrap (shrI .u64 (IntKind.u64.wrap (IntKind.i64.wrap (a1 + a3))) (1 : Int))) + a2)))), (20, .x (.int .i64 y107))] [⟨o0, 1, vl fD a0⟩] (by kernel_rfl) (by kernel_rfl) ?_
        refine JC.exitB ?_
        refine JC.skipT ?_
        refine JC.seq ?_
        refine JC.region fun b125 => ?_
        refine JS.run 4 (by kernel_rfl) ?_
        refine JS.nil ?_
        refine JC.to2 [(0, .ref o0 0 a0.length), (1, .x (.int .i64 a1)), (2, .x (.int .i64 a2)), (3, .x (.int .i64 a3)), (4, .x (.fn 26)), (18, .x (.int .i64 (IntKind.i64.wrap (shrI .u64 (IntKind.u64.wrap (IntKind.i64.wrap (a1 + a3))) (1 : Int))))), (20, .x (.int .i64 y107)), (24, .x (.int .i64 (IntKind.i64.wrap ((IntKind.i64.wrap ((IntKind.i64.wrap (shrI .u64 (IntKind.u64.wrap (IntKind.i64.wrap (a1 + a3))) (1 : Int))) + a2)) - y107))))] [⟨o0, 1, vl fD a0⟩] (by kernel_rfl) (by kernel_rfl) ?_
        refine JC.skipT ?_
        refine JC.seq ?_
        refine JC.seq ?_
        refine JC.bind (A := fun v ex E R => ex = .normal ∧ E = [(0, .ref o0 0 a0.length), (1, .x (.int .i64 a1)), (2, .x (.int .i64 a2)), (3, .x (.int .i64 a3)), (4, .x (.fn 26)), (18, .x (.int .i64 (IntKind.i64.wrap (shrI .u64 (IntKind.u64.wrap (IntKind.i64.wrap (a1 + a3))) (1 : Int))))), (20, .x (.int .i64 y107)), (24, .x (.int .i64 (IntKind.i64.wrap ((IntKind.i64.wrap ((IntKind.i64.wrap (shrI .u64 (IntKind.u64.wrap (IntKind.i64.wrap (a1 + a3))) (1 : Int))) + a2)) - y107)))), (185, .x (.bool v))] ∧ R = [⟨o0, 1, vl fD a0⟩]) ?_ ?_
        · refine JC.region fun b127 => ?_
          refine JS.run 4 (by kernel_rfl) ?_
          refine JS.split (e := (decide (y107 < a2))) 181 (by kernel_rfl) (fun h128 => ?_) (fun h128 => ?_)
          · refine JS.run 4 (by kernel_rfl) ?_
            refine JS.nil ?_
            refine JC.to2 [(0, .ref o0 0 a0.length), (1, .x (.int .i64 a1)), (2, .x (.int .i64 a2)), (3, .x (.int .i64 a3)), (4, .x (.fn 26)), (18, .x (.int .i64 (IntKind.i64.wrap (shrI .u64 (IntKind.u64.wrap (IntKind.i64.wrap (a1 + a3))) (1 : Int))))), (20, .x (.int .i64 y107)), (24, .x (.int .i64 (IntKind.i64.wrap ((IntKind.i64.wrap ((IntKind.i64.wrap (shrI .u64 (IntKind.u64.wrap (IntKind.i64.wrap (a1 + a3))) (1 : Int))) + a2)) - y107)))), (185, .x (.bool (decide (a2 < (IntKind.i64.wrap ((IntKind.i64.wrap ((IntKind.i64.wrap (shrI .u64 (IntKind.u64.wrap (IntKind.i64.wrap (a1 + a3))) (1 : Int))) + a2)) - y107))))))] [⟨o0, 1, vl fD a0⟩] (by kernel_rfl) (by kernel_rfl) ?_
            refine JC.to2 [(0, .ref o0 0 a0.length), (1, .x (.int .i64 a1)), (2, .x (.int .i64 a2)), (3, .x (.int .i64 a3)), (4, .x (.fn 26)), (18, .x (.int .i64 (IntKind.i64.wrap (shrI .u64 (IntKind.u64.wrap (IntKind.i64.wrap (a1 + a3))) (1 : Int))))), (20, .x (.int .i64 y107)), (24, .x (.int .i64 (IntKind.i64.wrap ((IntKind.i64.wrap ((IntKind.i64.wrap (shrI .u64 (IntKind.u64.wrap (IntKind.i64.wrap (a1 + a3))) (1 : Int))) + a2)) - y107)))), (185, .x (.bool (decide (a2 < (IntKind.i64.wrap ((IntKind.i64.wrap ((IntKind.i64.wrap (shrI .u64 (IntKind.u64.wrap (IntKind.i64.wrap (a1 + a3))) (1 : Int))) + a2)) - y107))))))] [⟨o0, 1, vl fD a0⟩] (by kernel_rfl) (by kernel_rfl) ?_
            exact JC.got (ex := .normal) rfl ⟨rfl, rfl, rfl⟩
          · refine JS.run 4 (by kernel_rfl) ?_
            refine JS.nil ?_
            refine JC.to2 [(0, .ref o0 0 a0.length), (1, .x (.int .i64 a1)), (2, .x (.int .i64 a2)), (3, .x (.int .i64 a3)), (4, .x (.fn 26)), (18, .x (.int .i64 (IntKind.i64.wrap (shrI .u64 (IntKind.u64.wrap (IntKind.i64.wrap (a1 + a3))) (1 : Int))))), (20, .x (.int .i64 y107)), (24, .x (.int .i64 (IntKind.i64.wrap ((IntKind.i64.wrap ((IntKind.i64.wrap (shrI .u64 (IntKind.u64.wrap (IntKind.i64.wrap (a1 + a3))) (1 : Int))) + a2)) - y107)))), (185, .x (.bool false))] [⟨o0, 1, vl fD a0⟩] (by kernel_rfl) (by kernel_rfl) ?_
            refine JC.to2 [(0, .ref o0 0 a0.length), (1, .x (.int .i64 a1)), (2, .x (.int .i64 a2)), (3, .x (.int .i64 a3)), (4, .x (.fn 26)), (18, .x (.int .i64 (IntKind.i64.wrap (shrI .u64 (IntKind.u64.wrap (IntKind.i64.wrap (a1 + a3))) (1 : Int))))), (20, .x (.int .i64 y107)), (24, .x (.int .i64 (IntKind.i64.wrap ((IntKind.i64.wrap ((IntKind.i64.wrap (shrI .u64 (IntKind.u64.wrap (IntKind.i64.wrap (a1 + a3))) (1 : Int))) + a2)) - y107)))), (185, .x (.bool false))] [⟨o0, 1, vl fD a0⟩] (by kernel_rfl) (by kernel_rfl) ?_
            exact JC.got (ex := .normal) rfl ⟨rfl, rfl, rfl⟩
        · rintro y126 ex E' R' hA
          obtain ⟨rfl, rfl, rfl⟩ := hA
          refine JC.to2 [(0, .ref o0 0 a0.length), (1, .x (.int .i64 a1)), (2, .x (.int .i64 a2)), (3, .x (.int .i64 a3)), (4, .x (.fn 26)), (18, .x (.int .i64 (IntKind.i64.wrap (shrI .u64 (IntKind.u64.wrap (IntKind.i64.wrap (a1 + a3))) (1 : Int))))), (20, .x (.int .i64 y107)), (24, .x (.int .i64 (IntKind.i64.wrap ((IntKind.i64.wrap ((IntKind.i64.wrap (shrI .u64 (IntKind.u64.wrap (IntKind.i64.wrap (a1 + a3))) (1 : Int))) + a2)) - y107)))), (185, .x (.bool y126))] [⟨o0, 1, vl fD a0⟩] (by kernel_rfl) (by kernel_rfl) ?_
          refine JC.skipT ?_
          refine JC.cond (e := y126) (by kernel_rfl) (fun h129 => ?_) (fun h129 => ?_)
          · refine JC.region fun b130 => ?_
            refine JS.run 5 (by kernel_rfl) ?_
            refine JS.bind fun r131 h132 => ?_
            refine JS.callI (args := [.x (.int .i64 y107), .x (.int .i64 a2), .x (.int .i64 (IntKind.i64.wrap ((IntKind.i64.wrap ((IntKind.i64.wrap (shrI .u64 (IntKind.u64.wrap (IntKind.i64.wrap (a1 + a3))) (1 : Int))) + a2)) - y107))), .x (.fn 26)]) (l := a0) (o := o0) [] (slices_rotateCmpFunc_ok k a0 y107 a2 (IntKind.i64.wrap ((IntKind.i64.wrap ((IntKind.i64.wrap (shrI .u64 (IntKind.u64.wrap (IntKind.i64.wrap (a1 + a3))) (1 : Int))) + a2)) - y107)) r131 h132) (by kernel_rfl) (by kernel_rfl) (by kernel_rfl) (by kernel_rfl) (fun h133 => ?_)
            refine JS.relen (o := o0) (off := 0) (n := a0.length) (n' := r131.length) 0 (by kernel_rfl) h133.symm ?_
            refine JS.relen (o := o0) (off := 0) (n := a0.length) (n' := r131.length) 186 (by kernel_rfl) h133.symm ?_
            refine JS.nil ?_
            refine JC.to2 [(0, .ref o0 0 r131.length), (1, .x (.int .i64 a1)), (3, .x (.int .i64 a3)), (4, .x (.fn 26)), (18, .x (.int .i64 (IntKind.i64.wrap (shrI .u64 (IntKind.u64.wrap (IntKind.i64.wrap (a1 + a3))) (1 : Int))))), (20, .x (.int .i64 y107)), (24, .x (.int .i64 (IntKind.i64.wrap ((IntKind.i64.wrap ((IntKind.i64.wrap (shrI .u64 (IntKind.u64.wrap (IntKind.i64.wrap (a1 + a3))) (1 : Int))) + a2)) - y107))))] [⟨o0, 1, vl fD r131⟩] (by kernel_rfl) (by kernel_rfl) ?_
            refine JC.skipT ?_
            refine JC.seq ?_
            refine JC.seq ?_
            refine JC.bind (A := fun v ex E R => ex = .normal ∧ E = [(0, .ref o0 0 r131.length), (1, .x (.int .i64 a1)), (3, .x (.int .i64 a3)), (4, .x (.fn 26)), (18, .x (.int .i64 (IntKind.i64.wrap (shrI .u64 (IntKind.u64.wrap (IntKind.i64.wrap (a1 + a3))) (1 : Int))))), (20, .x (.int .i64 y107)), (24, .x (.int .i64 (IntKind.i64.wrap ((IntKind.i64.wrap ((IntKind.i64.wrap (shrI .u64 (IntKind.u64.wrap (IntKind.i64.wrap (a1 + a3))) (1 : Int))) + a2)) - y107)))), (199, .x (.bool v))] ∧ R = [⟨o0, 1, vl fD r131⟩]) ?_ ?_
            · refine JC.region fun b135 => ?_
              refine JS.run 4 (by kernel_rfl) ?_
              refine JS.split (e := (decide (a1 < y107))) 195 (by kernel_rfl) (fun h136 => ?_) (fun h136 => ?_)
              · refine JS.run 4 (by kernel_rfl) ?_
                refine JS.nil ?_
                refine JC.to2 [(0, .ref o0 0 r131.length), (1, .x (.int .i64 a1)), (3, .x (.int .i64 a3)), (4, .x (.fn 26)), (18, .x (.int .i64 (IntKind.i64.wrap (shrI .u64 (IntKind.u64.wrap (IntKind.i64.wrap (a1 + a3))) (1 : Int))))), (20, .x (.int .i64 y107)), (24, .x (.int .i64 (IntKind.i64.wrap ((IntKind.i64.wrap ((IntKind.i64.wrap (shrI .u64 (IntKind.u64.wrap (IntKind.i64.wrap (a1 + a3))) (1 : Int))) + a2)) - y107)))), (199, .x (.bool (decide (y107 < (IntKind.i64.wrap (shrI .u64 (IntKind.u64.wrap (IntKind.i64.wrap (a1 + a3))) (1 : Int)))))))] [⟨o0, 1, vl fD r131⟩] (by kernel_rfl) (by kernel_rfl) ?_
                refine JC.to2 [(0, .ref o0 0 r131.length), (1, .x (.int .i64 a1)), (3, .x (.int .i64 a3)), (4, .x (.fn 26)), (18, .x (.int .i64 (IntKind.i64.wrap (shrI .u64 (IntKind.u64.wrap (IntKind.i64.wrap (a1 + a3))) (1 : Int))))), (20, .x (.int .i64 y107)), (24, .x (.int .i64 (IntKind.i64.wrap ((IntKind.i64.wrap ((IntKind.i64.wrap (shrI .u64 (IntKind.u64.wrap (IntKind.i64.wrap (a1 + a3))) (1 : Int))) + a2)) - y107)))), (199, .x (.bool (decide (y107 < (IntKind.i64.wrap (shrI .u64 (IntKind.u64.wrap (IntKind.i64.wrap (a1 + a3))) (1 : Int)))))))] [⟨o0, 1, vl fD r131⟩] (by kernel_rfl) (by kernel_rfl) ?_
                exact JC.got (ex := .normal) rfl ⟨rfl, rfl, rfl⟩
              · refine JS.run 4 (by kernel_rfl) ?_
                refine JS.nil ?_
                refine JC.to2 [(0, .ref o0 0 r131.length), (1, .x (.int .i64 a1)), (3, .x (.int .i64 a3)), (4, .x (.fn 26)), (18, .x (.int .i64 (IntKind.i64.wrap (shrI .u64 (IntKind.u64.wrap (IntKind.i64.wrap (a1 + a3))) (1 : Int))))), (20, .x (.int .i64 y107)), (24, .x (.int .i64 (IntKind.i64.wrap ((IntKind.i64.wrap ((IntKind.i64.wrap (shrI .u64 (IntKind.u64.wrap (IntKind.i64.wrap (a1 + a3))) (1 : Int))) + a2)) - y107)))), (199, .x (.bool false))] [⟨o0, 1, vl fD r131⟩] (by kernel_rfl) (by kernel_rfl) ?_
                refine JC.to2 [(0, .ref o0 0 r131.length), (1, .x (.int .i64 a1)), (3, .x (.int .i64 a3)), (4, .x (.fn 26)), (18, .x (.int .i64 (IntKind.i64.wrap (shrI .u64 (IntKind.u64.wrap (IntKind.i64.wrap (a1 + a3))) (1 : Int))))), (20, .x (.int .i64 y107)), (24, .x (.int .i64 (IntKind.i64.wrap ((IntKind.i64.wrap ((IntKind.i64.wrap (shrI .u64 (IntKind.u64.wrap (IntKind.i64.wrap (a1 + a3))) (1 : Int))) + a2)) - y107)))), (199, .x (.bool false))] [⟨o0, 1, vl fD r131⟩] (by kernel_rfl) (by kernel_rfl) ?_
                exact JC.got (ex := .normal) rfl ⟨rfl, rfl, rfl⟩
            · rintro y134 ex E' R' hA
              obtain ⟨rfl, rfl, rfl⟩ := hA
              refine JC.to2 [(0, .ref o0 0 r131.length), (1, .x (.int .i64 a1)), (3, .x (.int .i64 a3)), (4, .x (.fn 26)), (18, .x (.int .i64 (IntKind.i64.wrap (shrI .u64 (IntKind.u64.wrap (IntKind.i64.wrap (a1 + a3))) (1 : Int))))), (20, .x (.int .i64 y107)), (24, .x (.int .i64 (IntKind.i64.wrap ((IntKind.i64.wrap ((IntKind.i64.wrap (shrI .u64 (IntKind.u64.wrap (IntKind.i64.wrap (a1 + a3))) (1 : Int))) + a2)) - y107)))), (199, .x (.bool y134))] [⟨o0, 1, vl fD r131⟩] (by kernel_rfl) (by kernel_rfl) ?_
              refine JC.skipT ?_
              refine JC.cond (e := y134) (by kernel_rfl) (fun h137 => ?_) (fun h137 => ?_)
              · refine JC.region fun b138 => ?_
                refine JS.run 5 (by kernel_rfl) ?_
                refine JS.bind fun r139 h140 => ?_
                refine JS.callI (args := [.x (.int .i64 a1), .x (.int .i64 y107), .x (.int .i64 (IntKind.i64.wrap (shrI .u64 (IntKind.u64.wrap (IntKind.i64.wrap (a1 + a3))) (1 : Int)))), .x (.fn 26)]) (l := r131) (o := o0) [] (h_slices_symMergeCmpFunc r131 a1 y107 (IntKind.i64.wrap (shrI .u64 (IntKind.u64.wrap (IntKind.i64.wrap (a1 + a3))) (1 : Int))) r139 h140) (by kernel_rfl) (by kernel_rfl) (by kernel_rfl) (by kernel_rfl) (fun h141 => ?_)
                refine JS.relen (o := o0) (off := 0) (n := r131.length) (n' := r139.length) 0 (by kernel_rfl) h141.symm ?_
                refine JS.relen (o := o0) (off := 0) (n := r131.length) (n' := r139.length) 200 (by kernel_rfl) h141.symm ?_
                refine JS.nil ?_
                refine JC.to2 [(0, .ref o0 0 r139.length), (3, .x (.int .i64 a3)), (4, .x (.fn 26)), (18, .x (.int .i64 (IntKind.i64.wrap (shrI .u64 (IntKind.u64.wrap (IntKind.i64.wrap (a1 + a3))) (1 : Int))))), (24, .x (.int .i64 (IntKind.i64.wrap ((IntKind.i64.wrap ((IntKind.i64.wrap (shrI .u64 (IntKind.u64.wrap (IntKind.i64.wrap (a1 + a3))) (1 : Int))) + a2)) - y107))))] [⟨o0, 1, vl fD r139⟩] (by kernel_rfl) (by kernel_rfl) ?_
                refine JC.skipT ?_
                refine JC.seq ?_
                refine JC.bind (A := fun v ex E R => ex = .normal ∧ E = [(0, .ref o0 0 r139.length), (3, .x (.int .i64 a3)), (4, .x (.fn 26)), (18, .x (.int .i64 (IntKind.i64.wrap (shrI .u64 (IntKind.u64.wrap (IntKind.i64.wrap (a1 + a3))) (1 : Int))))), (24, .x (.int .i64 (IntKind.i64.wrap ((IntKind.i64.wrap ((IntKind.i64.wrap (shrI .u64 (IntKind.u64.wrap (IntKind.i64.wrap (a1 + a3))) (1 : Int))) + a2)) - y107)))), (213, .x (.bool v))] ∧ R = [⟨o0, 1, vl fD r139⟩]) ?_ ?_
                · refine JC.region fun b143 => ?_
                  refine JS.run 4 (by kernel_rfl) ?_
                  refine JS.split (e := (decide ((IntKind.i64.wrap (shrI .u64 (IntKind.u64.wrap (IntKind.i64.wrap (a1 + a3))) (1 : Int))) < (IntKind.i64.wrap ((IntKind.i64.wrap ((IntKind.i64.wrap (shrI .u64 (IntKind.u64.wrap (IntKind.i64.wrap (a1 + a3))) (1 : Int))) + a2)) - y107))))) 209 (by kernel_rfl) (fun h144 => ?_) (fun h144 => ?_)
                  · refine JS.run 4 (by kernel_rfl) ?_
                    refine JS.nil ?_
                    refine JC.to2 [(0, .ref o0 0 r139.length), (3, .x (.int .i64 a3)), (4, .x (.fn 26)), (18, .x (.int .i64 (IntKind.i64.wrap (shrI .u64 (IntKind.u64.wrap (IntKind.i64.wrap (a1 + a3))) (1 : Int))))), (24, .x (.int .i64 (IntKind.i64.wrap ((IntKind.i64.wrap ((IntKind.i64.wrap (shrI .u64 (IntKind.u64.wrap (IntKind.i64.wrap (a1 + a3))) (1 : Int))) + a2)) - y107)))), (213, .x (.bool (decide ((IntKind.i64.wrap ((IntKind.i64.wrap ((IntKind.i64.wrap (shrI .u64 (IntKind.u64.wrap (IntKind.i64.wrap (a1 + a3))) (1 : Int))) + a2)) - y107)) < a3))))] [⟨o0, 1, vl fD r139⟩] (by kernel_rfl) (by kernel_rfl) ?_
                    refine JC.to2 [(0, .ref o0 0 r139.length), (3, .x (.int .i64 a3)), (4, .x (.fn 26)), (18, .x (.int .i64 (IntKind.i64.wrap (shrI .u64 (IntKind.u64.wrap (IntKind.i64.wrap (a1 + a3))) (1 : Int))))), (24, .x (.int .i64 (IntKind.i64.wrap ((IntKind.i64.wrap ((IntKind.i64.wrap (shrI .u64 (IntKind.u64.wrap (IntKind.i64.wrap (a1 + a3))) (1 : Int))) + a2)) - y107)))), (213, .x (.bool (decide ((IntKind.i64.wrap ((IntKind.i64.wrap ((IntKind.i64.wrap (shrI .u64 (IntKind.u64.wrap (IntKind.i64.wrap (a1 + a3))) (1 : Int))) + a2)) - y107)) < a3))))] [⟨o0, 1, vl fD r139⟩] (by kernel_rfl) (by kernel_rfl) ?_
                    exact JC.got (ex := .normal) rfl ⟨rfl, rfl, rfl⟩
                  · refine JS.run 4 (by kernel_rfl) ?_
                    refine JS.nil ?_
                    refine JC.to2 [(0, .ref o0 0 r139.length), (3, .x (.int .i64 a3)), (4, .x (.fn 26)), (18, .x (.int .i64 (IntKind.i64.wrap (shrI .u64 (IntKind.u64.wrap (IntKind.i64.wrap (a1 + a3))) (1 : Int))))), (24, .x (.int .i64 (IntKind.i64.wrap ((IntKind.i64.wrap ((IntKind.i64.wrap (shrI .u64 (IntKind.u64.wrap (IntKind.i64.wrap (a1 + a3))) (1 : Int))) + a2)) - y107)))), (213, .x (.bool false))] [⟨o0, 1, vl fD r139⟩] (by kernel_rfl) (by kernel_rfl) ?_
                    refine JC.to2 [(0, .ref o0 0 r139.length), (3, .x (.int .i64 a3)), (4, .x (.fn 26)), (18, .x (.int .i64 (IntKind.i64.wrap (shrI .u64 (IntKind.u64.wrap (IntKind.i64.wrap (a1 + a3))) (1 : Int))))), (24, .x (.int .i64 (IntKind.i64.wrap ((IntKind.i64.wrap ((IntKind.i64.wrap (shrI .u64 (IntKind.u64.wrap (IntKind.i64.wrap (a1 + a3))) (1 : Int))) + a2)) - y107)))), (213, .x (.bool false))] [⟨o0, 1, vl fD r139⟩] (by kernel_rfl) (by kernel_rfl) ?_
                    exact JC.got (ex := .normal) rfl ⟨rfl, rfl, rfl⟩
                · rintro y142 ex E' R' hA
                  obtain ⟨rfl, rfl, rfl⟩ := hA
                  refine JC.to2 [(0, .ref o0 0 r139.length), (3, .x (.int .i64 a3)), (4, .x (.fn 26)), (18, .x (.int .i64 (IntKind.i64.wrap (shrI .u64 (IntKind.u64.wrap (IntKind.i64.wrap (a1 + a3))) (1 : Int))))), (24, .x (.int .i64 (IntKind.i64.wrap ((IntKind.i64.wrap ((IntKind.i64.wrap (shrI .u64 (IntKind.u64.wrap (IntKind.i64.wrap (a1 + a3))) (1 : Int))) + a2)) - y107)))), (213, .x (.bool y142))] [⟨o0, 1, vl fD r139⟩] (by kernel_rfl) (by kernel_rfl) ?_
                  refine JC.skipT ?_
                  refine JC.cond (e := y142) (by kernel_rfl) (fun h145 => ?_) (fun h145 => ?_)
                  · refine JC.region fun b146 => ?_
                    refine JS.run 5 (by kernel_rfl) ?_
                    refine JS.bind fun r147 h148 => ?_
                    refine JS.callI (args := [.x (.int .i64 (IntKind.i64.wrap (shrI .u64 (IntKind.u64.wrap (IntKind.i64.wrap (a1 + a3))) (1 : Int)))), .x (.int .i64 (IntKind.i64.wrap ((IntKind.i64.wrap ((IntKind.i64.wrap (shrI .u64 (IntKind.u64.wrap (IntKind.i64.wrap (a1 + a3))) (1 : Int))) + a2)) - y107))), .x (.int .i64 a3), .x (.fn 26)]) (l := r139) (o := o0) [] (h_slices_symMergeCmpFunc r139 (IntKind.i64.wrap (shrI .u64 (IntKind.u64.wrap (IntKind.i64.wrap (a1 + a3))) (1 : Int))) (IntKind.i64.wrap ((IntKind.i64.wrap ((IntKind.i64.wrap (shrI .u64 (IntKind.u64.wrap (IntKind.i64.wrap (a1 + a3))) (1 : Int))) + a2)) - y107)) a3 r147 h148) (by kernel_rfl) (by kernel_rfl) (by kernel_rfl) (by kernel_rfl) (fun h149 => ?_)
                    refine JS.relen (o := o0) (off := 0) (n := r139.length) (n' := r147.length) 0 (by kernel_rfl) h149.symm ?_
                    refine JS.relen (o := o0) (off := 0) (n := r139.length) (n' := r147.length) 214 (by kernel_rfl) h149.symm ?_
                    refine JS.nil ?_
                    refine JC.to2 [(0, .ref o0 0 r147.length)] [⟨o0, 1, vl fD r147⟩] (by kernel_rfl) (by kernel_rfl) ?_
                    exact JC.finI (ex := .normal) (l := a0) rfl normal_ne rfl
                  · exact JC.finI (ex := .normal) (l := a0) rfl normal_ne rfl
              · refine JC.skipT ?_
                refine JC.seq ?_
                refine JC.bind (A := fun v ex E R => ex = .normal ∧ E = [(0, .ref o0 0 r131.length), (3, .x (.int .i64 a3)), (4, .x (.fn 26)), (18, .x (.int .i64 (IntKind.i64.wrap (shrI .u64 (IntKind.u64.wrap (IntKind.i64.wrap (a1 + a3))) (1 : Int))))), (24, .x (.int .i64 (IntKind.i64.wrap ((IntKind.i64.wrap ((IntKind.i64.wrap (shrI .u64 (IntKind.u64.wrap (IntKind.i64.wrap (a1 + a3))) (1 : Int))) + a2)) - y107)))), (213, .x (.bool v))] ∧ R = [⟨o0, 1, vl fD r131⟩]) ?_ ?_
                · refine JC.region fun b151 => ?_
                  refine JS.run 4 (by kernel_rfl) ?_
                  refine JS.split (e := (decide ((IntKind.i64.wrap (shrI .u64 (IntKind.u64.wrap (IntKind.i64.wrap (a1 + a3))) (1 : Int))) < (IntKind.i64.wrap ((IntKind.i64.wrap ((IntKind.i64.wrap (shrI .u64 (IntKind.u64.wrap (IntKind.i64.wrap (a1 + a3))) (1 : Int))) + a2)) - y107))))) 209 (by kernel_rfl) (fun h152 => ?_) (fun h152 => ?_)
                  · refine JS.run 4 (by kernel_rfl) ?_
                    refine JS.nil ?_
                    refine JC.to2 [(0, .ref o0 0 r131.length), (3, .x (.int .i64 a3)), (4, .x (.fn 26)), (18, .x (.int .i64 (IntKind.i64.wrap (shrI .u64 (IntKind.u64.wrap (IntKind.i64.wrap (a1 + a3))) (1 : Int))))), (24, .x (.int .i64 (IntKind.i64.wrap ((IntKind.i64.wrap ((IntKind.i64.wrap (shrI .u64 (IntKind.u64.wrap (IntKind.i64.wrap (a1 + a3))) (1 : Int))) + a2)) - y107)))), (213, .x (.bool (decide ((IntKind.i64.wrap ((IntKind.i64.wrap ((IntKind.i64.wrap (shrI .u64 (IntKind.u64.wrap (IntKind.i64.wrap (a1 + a3))) (1 : Int))) + a2)) - y107)) < a3))))] [⟨o0, 1, vl fD r131⟩] (by kernel_rfl) (by kernel_rfl) ?_
                    refine JC.to2 [(0, .ref o0 0 r131.length), (3, .x (.int .i64 a3)), (4, .x (.fn 26)), (18, .x (.int .i64 (IntKind.i64.wrap (shrI .u64 (IntKind.u64.wrap (IntKind.i64.wrap (a1 + a3))) (1 : Int))))), (24, .x (.int .i64 (IntKind.i64.wrap ((IntKind.i64.wrap ((IntKind.i64.wrap (shrI .u64 (IntKind.u64.wrap (IntKind.i64.wrap (a1 + a3))) (1 : Int))) + a2)) - y107)))), (213, .x (.bool (decide ((IntKind.i64.wrap ((IntKind.i64.wrap ((IntKind.i64.wrap (shrI .u64 (IntKind.u64.wrap (IntKind.i64.wrap (a1 + a3))) (1 : Int))) + a2)) - y107)) < a3))))] [⟨o0, 1, vl fD r131⟩] (by kernel_rfl) (by kernel_rfl) ?_
                    exact JC.got (ex := .normal) rfl ⟨rfl, rfl, rfl⟩
                  · refine JS.run 4 (by kernel_rfl) ?_
                    refine JS.nil ?_
                    refine JC.to2 [(0, .ref o0 0 r131.length), (3, .x (.int .i64 a3)), (4, .x (.fn 26)), (18, .x (.int .i64 (IntKind.i64.wrap (shrI .u64 (IntKind.u64.wrap (IntKind.i64.wrap (a1 + a3))) (1 : Int))))), (24, .x (.int .i64 (IntKind.i64.wrap ((IntKind.i64.wrap ((IntKind.i64.wrap (shrI .u64 (IntKind.u64.wrap (IntKind.i64.wrap (a1 + a3))) (1 : Int))) + a2)) - y107)))), (213, .x (.bool false))] [⟨o0, 1, vl fD r131⟩] (by kernel_rfl) (by kernel_rfl) ?_
                    refine JC.to2 [(0, .ref o0 0 r131.length), (3, .x (.int .i64 a3)), (4, .x (.fn 26)), (18, .x (.int .i64 (IntKind.i64.wrap (shrI .u64 (IntKind.u64.wrap (IntKind.i64.wrap (a1 + a3))) (1 : Int))))), (24, .x (.int .i64 (IntKind.i64.wrap ((IntKind.i64.wrap ((IntKind.i64.wrap (shrI .u64 (IntKind.u64.wrap (IntKind.i64.wrap (a1 + a3))) (1 : Int))) + a2)) - y107)))), (213, .x (.bool false))] [⟨o0, 1, vl fD r131⟩] (by kernel_rfl) (by kernel_rfl) ?_
                    exact JC.got (ex := .normal) rfl ⟨rfl, rfl, rfl⟩
                · rintro y150 ex E' R' hA
                  obtain ⟨rfl, rfl, rfl⟩ := hA
                  refine JC.to2 [(0, .ref o0 0 r131.length), (3, .x (.int .i64 a3)), (4, .x (.fn 26)), (18, .x (.int .i64 (IntKind.i64.wrap (shrI .u64 (IntKind.u64.wrap (IntKind.i64.wrap (a1 + a3))) (1 : Int))))), (24, .x (.int .i64 (IntKind.i64.wrap ((IntKind.i64.wrap ((IntKind.i64.wrap (shrI .u64 (IntKind.u64.wrap (IntKind.i64.wrap (a1 + a3))) (1 : Int))) + a2)) - y107)))), (213, .x (.bool y150))] [⟨o0, 1, vl fD r131⟩] (by kernel_rfl) (by kernel_rfl) ?_
                  refine JC.skipT ?_
                  refine JC.cond (e := y150) (by kernel_rfl) (fun h153 => ?_) (fun h153 => ?_)
                  · refine JC.region fun b154 => ?_
                    refine JS.run 5 (by kernel_rfl) ?_
                    refine JS.bind fun r155 h156 => ?_
                    refine JS.callI (args := [.x (.int .i64 (IntKind.i64.wrap (shrI .u64 (IntKind.u64.wrap (IntKind.i64.wrap (a1 + a3))) (1 : Int)))), .x (.int .i64 (IntKind.i64.wrap ((IntKind.i64.wrap ((IntKind.i64.wrap (shrI .u64 (IntKind.u64.wrap (IntKind.i64.wrap (a1 + a3))) (1 : Int))) + a2)) - y107))), .x (.int .i64 a3), .x (.fn 26)]) (l := r131) (o := o0) [] (h_slices_symMergeCmpFunc r131 (IntKind.i64.wrap (shrI .u64 (IntKind.u64.wrap (IntKind.i64.wrap (a1 + a3))) (1 : Int))) (IntKind.i64.wrap ((IntKind.i64.wrap ((IntKind.i64.wrap (shrI .u64 (IntKind.u64.wrap (IntKind.i64.wrap (a1 + a3))) (1 : Int))) + a2)) - y107)) a3 r155 h156) (by kernel_rfl) (by kernel_rfl) (by kernel_rfl) (by kernel_rfl) (fun h157 => ?_)
                    refine JS.relen (o := o0) (off := 0) (n := r131.length) (n' := r155.length) 0 (by kernel_rfl) h157.symm ?_
                    refine JS.relen (o := o0) (off := 0) (n := r131.length) (n' := r155.length) 214 (by kernel_rfl) h157.symm ?_
                    refine JS.nil ?_
                    refine JC.to2 [(0, .ref o0 0 r155.length)] [⟨o0, 1, vl fD r155⟩] (by kernel_rfl) (by kernel_rfl) ?_
                    exact JC.finI (ex := .normal) (l := a0) rfl normal_ne rfl
                  · exact JC.finI (ex := .normal) (l := a0) rfl normal_ne rfl
          · refine JC.skipT ?_
            refine JC.seq ?_
            refine JC.seq ?_
            refine JC.bind (A := fun v ex E R => ex = .normal ∧ E = [(0, .ref o0 0 a0.length), (1, .x (.int .i64 a1)), (3, .x (.int .i64 a3)), (4, .x (.fn 26)), (18, .x (.int .i64 (IntKind.i64.wrap (shrI .u64 (IntKind.u64.wrap (IntKind.i64.wrap (a1 + a3))) (1 : Int))))), (20, .x (.int .i64 y107)), (24, .x (.int .i64 (IntKind.i64.wrap ((IntKind.i64.wrap ((IntKind.i64.wrap (shrI .u64 (IntKind.u64.wrap (IntKind.i64.wrap (a1 + a3))) (1 : Int))) + a2)) - y107)))), (199, .x (.bool v))] ∧ R = [⟨o0, 1, vl fD a0⟩]) ?_ ?_
            · refine JC.region fun b159 => ?_
              refine JS.run 4 (by kernel_rfl) ?_
              refine JS.split (e := (decide (a1 < y107))) 195 (by kernel_rfl) (fun h160 => ?_) (fun h160 => ?_)
              · refine JS.run 4 (by kernel_rfl) ?_
                refine JS.nil ?_
                refine JC.to2 [(0, .ref o0 0 a0.length), (1, .x (.int .i64 a1)), (3, .x (.int .i64 a3)), (4, .x (.fn 26)), (18, .x (.int .i64 (IntKind.i64.wrap (shrI .u64 (IntKind.u64.wrap (IntKind.i64.wrap (a1 + a3))) (1 : Int))))), (20, .x (.int .i64 y107)), (24, .x (.int .i64 (IntKind.i64.wrap ((IntKind.i64.wrap ((IntKind.i64.wrap (shrI .u64 (IntKind.u64.wrap (IntKind.i64.wrap (a1 + a3))) (1 : Int))) + a2)) - y107)))), (199, .x (.bool (decide (y107 < (IntKind.i64.wrap (shrI .u64 (IntKind.u64.wrap (IntKind.i64.wrap (a1 + a3))) (1 : Int)))))))] [⟨o0, 1, vl fD a0⟩] (by kernel_rfl) (by kernel_rfl) ?_
                refine JC.to2 [(0, .ref o0 0 a0.length), (1, .x (.int .i64 a1)), (3, .x (.int .i64 a3)), (4, .x (.fn 26)), (18, .x (.int .i64 (IntKind.i64.wrap (shrI .u64 (IntKind.u64.wrap (IntKind.i64.wrap (a1 + a3))) (1 : Int))))), (20, .x (.int .i64 y107)), (24, .x (.int .i64 (IntKind.i64.wrap ((IntKind.i64.wrap ((IntKind.i64.wrap (shrI .u64 (IntKind.u64.wrap (IntKind.i64.wrap (a1 + a3))) (1 : Int))) + a2)) - y107)))), (199, .x (.bool (decide (y107 < (IntKind.i64.wrap (shrI .u64 (IntKind.u64.wrap (IntKind.i64.wrap (a1 + a3))) (1 : Int)))))))] [⟨o0, 1, vl fD a0⟩] (by kernel_rfl) (by kernel_rfl) ?_
                exact JC.got (ex := .normal) rfl ⟨rfl, rfl, rfl⟩
              · refine JS.run 4 (by kernel_rfl) ?_
                refine JS.nil ?_
                refine JC.to2 [(0, .ref o0 0 a0.length), (1, .x (.int .i64 a1)), (3, .x (.int .i64 a3)), (4, .x (.fn 26)), (18, .x (.int .i64 (IntKind.i64.wrap (shrI .u64 (IntKind.u64.wrap (IntKind.i64.wrap (a1 + a3))) (1 : Int))))), (20, .x (.int .i64 y107)), (24, .x (.int .i64 (IntKind.i64.wrap ((IntKind.i64.wrap ((IntKind.i64.wrap (shrI .u64 (IntKind.u64.wrap (IntKind.i64.wrap (a1 + a3))) (1 : Int))) + a2)) - y107)))), (199, .x (.bool false))] [⟨o0, 1, vl fD a0⟩] (by kernel_rfl) (by kernel_rfl) ?_
                refine JC.to2 [(0, .ref o0 0 a0.length), (1, .x (.int .i64 a1)), (3, .x (.int .i64 a3)), (4, .x (.fn 26)), (18, .x (.int .i64 (IntKind.i64.wrap (shrI .u64 (IntKind.u64.wrap (IntKind.i64.wrap (a1 + a3))) (1 : Int))))), (20, .x (.int .i64 y107)), (24, .x (.int .i64 (IntKind.i64.wrap ((IntKind.i64.wrap ((IntKind.i64.wrap (shrI .u64 (IntKind.u64.wrap (IntKind.i64.wrap (a1 + a3))) (1 : Int))) + a2)) - y107)))), (199, .x (.bool false))] [⟨o0, 1, vl fD a0⟩] (by kernel_rfl) (by kernel_rfl) ?_
                exact JC.got (ex := .normal) rfl ⟨rfl, rfl, rfl⟩
            · rintro y158 ex E' R' hA
              obtain ⟨rfl, rfl, rfl⟩ := hA
              refine JC.to2 [(0, .ref o0 0 a0.length), (1, .x (.int .i64 a1)), (3, .x (.int .i64 a3)), (4, .x (.fn 26)), (18, .x (.int .i64 (IntKind.i64.wrap (shrI .u64 (IntKind.u64.wrap (IntKind.i64.wrap (a1 + a3))) (1 : Int))))), (20, .x (.int .i64 y107)), (24, .x (.int .i64 (IntKind.i64.wrap ((IntKind.i64.wrap ((IntKind.i64.wrap (shrI .u64 (IntKind.u64.wrap (IntKind.i64.wrap (a1 + a3))) (1 : Int))) + a2)) - y107)))), (199, .x (.bool y158))] [⟨o0, 1, vl fD a0⟩] (by kernel_rfl) (by kernel_rfl) ?_
              refine JC.skipT ?_
              refine JC.cond (e := y158) (by kernel_rfl) (fun h161 => ?_) (fun h161 => ?_)
              · refine JC.region fun b162 => ?_
                refine JS.run 5 (by kernel_rfl) ?_
                refine JS.bind fun r163 h164 => ?_
                refine JS.callI (args := [.x (.int .i64 a1), .x (.int .i64 y107), .x (.int .i64 (IntKind.i64.wrap (shrI .u64 (IntKind.u64.wrap (IntKind.i64.wrap (a1 + a3))) (1 : Int)))), .x (.fn 26)]) (l := a0) (o := o0) [] (h_slices_symMergeCmpFunc a0 a1 y107 (IntKind.i64.wrap (shrI .u64 (IntKind.u64.wrap (IntKind.i64.wrap (a1 + a3))) (1 : Int))) r163 h164) (by kernel_rfl) (by kernel_rfl) (by kernel_rfl) (by kernel_rfl) (fun h165 => ?_)
                refine JS.relen (o := o0) (off := 0) (n := a0.length) (n' := r163.length) 0 (by kernel_rfl) h165.symm ?_
                refine JS.relen (o := o0) (off := 0) (n := a0.length) (n' := r163.length) 200 (by kernel_rfl) h165.symm ?_
                refine JS.nil ?_
                refine JC.to2 [(0, .ref o0 0 r163.length), (3, .x (.int .i64 a3)), (4, .x (.fn 26)), (18, .x (.int .i64 (IntKind.i64.wrap (shrI .u64 (IntKind.u64.wrap (IntKind.i64.wrap (a1 + a3))) (1 : Int))))), (24, .x (.int .i64 (IntKind.i64.wrap ((IntKind.i64.wrap ((IntKind.i64.wrap (shrI .u64 (IntKind.u64.wrap (IntKind.i64.wrap (a1 + a3))) (1 : Int))) + a2)) - y107))))] [⟨o0, 1, vl fD r163⟩] (by kernel_rfl) (by kernel_rfl) ?_
                refine JC.skipT ?_
                refine JC.seq ?_
                refine JC.bind (A := fun v ex E R => ex = .normal ∧ E = [(0, .ref o0 0 r163.length), (3, .x (.int .i64 a3)), (4, .x (.fn 26)), (18, .x (.int .i64 (IntKind.i64.wrap (shrI .u64 (IntKind.u64.wrap (IntKind.i64.wrap (a1 + a3))) (1 : Int))))), (24, .x (.int .i64 (IntKind.i64.wrap ((IntKind.i64.wrap ((IntKind.i64.wrap (shrI .u64 (IntKind.u64.wrap (IntKind.i64.wrap (a1 + a3))) (1 : Int))) + a2)) - y107)))), (213, .x (.bool v))] ∧ R = [⟨o0, 1, vl fD r163⟩]) ?_ ?_
                · refine JC.region fun b167 => ?_
                  refine JS.run 4 (by kernel_rfl) ?_
                  refine JS.split (e := (decide ((IntKind.i64.wrap (shrI .u64 (IntKind.u64.wrap (IntKind.i64.wrap (a1 + a3))) (1 : Int))) < (IntKind.i64.wrap ((IntKind.i64.wrap ((IntKind.i64.wrap (shrI .u64 (IntKind.u64.wrap (IntKind.i64.wrap (a1 + a3))) (1 : Int))) + a2)) - y107))))) 209 (by kernel_rfl) (fun h168 => ?_) (fun h168 => ?_)
                  · refine JS.run 4 (by kernel_rfl) ?_
                    refine JS.nil ?_
                    refine JC.to2 [(0, .ref o0 0 r163.length), (3, .x (.int .i64 a3)), (4, .x (.fn 26)), (18, .x (.int .i64 (IntKind.i64.wrap (shrI .u64 (IntKind.u64.wrap (IntKind.i64.wrap (a1 + a3))) (1 : Int))))), (24, .x (.int .i64 (IntKind.i64.wrap ((IntKind.i64.wrap ((IntKind.i64.wrap (shrI .u64 (IntKind.u64.wrap (IntKind.i64.wrap (a1 + a3))) (1 : Int))) + a2)) - y107)))), (213, .x (.bool (decide ((IntKind.i64.wrap ((IntKind.i64.wrap ((IntKind.i64.wrap (shrI .u64 (IntKind.u64.wrap (IntKind.i64.wrap (a1 + a3))) (1 : Int))) + a2)) - y107)) < a3))))] [⟨o0, 1, vl fD r163⟩] (by kernel_rfl) (by kernel_rfl) ?_
                    refine JC.to2 [(0, .ref o0 0 r163.length), (3, .x (.int .i64 a3)), (4, .x (.fn 26)), (18, .x (.int .i64 (IntKind.i64.wrap (shrI .u64 (IntKind.u64.wrap (IntKind.i64.wrap (a1 + a3))) (1 : Int))))), (24, .x (.int .i64 (IntKind.i64.wrap ((IntKind.i64.wrap ((IntKind.i64.wrap (shrI .u64 (IntKind.u64.wrap (IntKind.i64.wrap (a1 + a3))) (1 : Int))) + a2)) - y107)))), (213, .x (.bool (decide ((IntKind.i64.wrap ((IntKind.i64.wrap ((IntKind.i64.wrap (shrI .u64 (IntKind.u64.wrap (IntKind.i64.wrap (a1 + a3))) (1 : Int))) + a2)) - y107)) < a3))))] [⟨o0, 1, vl fD r163⟩] (by kernel_rfl) (by kernel_rfl) ?_
                    exact JC.got (ex := .normal) rfl ⟨rfl, rfl, rfl⟩
                  · refine JS.run 4 (by kernel_rfl) ?_
                    refine JS.nil ?_
                    refine JC.to2 [(0, .ref o0 0 r163.length), (3, .x (.int .i64 a3)), (4, .x (.fn 26)), (18, .x (.int .i64 (IntKind.i64.wrap (shrI .u64 (IntKind.u64.wrap (IntKind.i64.wrap (a1 + a3))) (1 : Int))))), (24, .x (.int .i64 (IntKind.i64.wrap ((IntKind.i64.wrap ((IntKind.i64.wrap (shrI .u64 (IntKind.u64.wrap (IntKind.i64.wrap (a1 + a3))) (1 : Int))) + a2)) - y107)))), (213, .x (.bool false))] [⟨o0, 1, vl fD r163⟩] (by kernel_rfl) (by kernel_rfl) ?_
                    refine JC.to2 [(0, .ref o0 0 r163.length), (3, .x (.int .i64 a3)), (4, .x (.fn 26)), (18, .x (.int .i64 (IntKind.i64.wrap (shrI .u64 (IntKind.u64.wrap (IntKind.i64.wrap (a1 + a3))) (1 : Int))))), (24, .x (.int .i64 (IntKind.i64.wrap ((IntKind.i64.wrap ((IntKind.i64.wrap (shrI .u64 (IntKind.u64.wrap (IntKind.i64.wrap (a1 + a3))) (1 : Int))) + a2)) - y107)))), (213, .x (.bool false))] [⟨o0, 1, vl fD r163⟩] (by kernel_rfl) (by kernel_rfl) ?_
                    exact JC.got (ex := .normal) rfl ⟨rfl, rfl, rfl⟩
                · rintro y166 ex E' R' hA
                  obtain ⟨rfl, rfl, rfl⟩ := hA
                  refine JC.to2 [(0, .ref o0 0 r163.length), (3, .x (.int .i64 a3)), (4, .x (.fn 26)), (18, .x (.int .i64 (IntKind.i64.wrap (shrI .u64 (IntKind.u64.wrap (IntKind.i64.wrap (a1 + a3))) (1 : Int))))), (24, .x (.int .i64 (IntKind.i64.wrap ((IntKind.i64.wrap ((IntKind.i64.wrap (shrI .u64 (IntKind.u64.wrap (IntKind.i64.wrap (a1 + a3))) (1 : Int))) + a2)) - y107)))), (213, .x (.bool y166))] [⟨o0, 1, vl fD r163⟩] (by kernel_rfl) (by kernel_rfl) ?_
                  refine JC.skipT ?_
                  refine JC.cond (e := y166) (by kernel_rfl) (fun h169 => ?_) (fun h169 => ?_)
                  · refine JC.region fun b170 => ?_
                    refine JS.run 5 (by kernel_rfl) ?_
                    refine JS.bind fun r171 h172 => ?_
                    refine JS.callI (args := [.x (.int .i64 (IntKind.i64.wrap (shrI .u64 (IntKind.u64.wrap (IntKind.i64.wrap (a1 + a3))) (1 : Int)))), .x (.int .i64 (IntKind.i64.wrap ((IntKind.i64.wrap ((IntKind.i64.wrap (shrI .u64 (IntKind.u64.wrap (IntKind.i64.wrap (a1 + a3))) (1 : Int))) + a2)) - y107))), .x (.int .i64 a3), .x (.fn 26)]) (l := r163) (o := o0) [] (h_slices_symMergeCmpFunc r163 (IntKind.i64.wrap (shrI .u64 (IntKind.u64.wrap (IntKind.i64.wrap (a1 + a3))) (1 : Int))) (IntKind.i64.wrap ((IntKind.i64.wrap ((IntKind.i64.wrap (shrI .u64 (IntKind.u64.wrap (IntKind.i64.wrap (a1 + a3))) (1 : Int))) + a2)) - y107)) a3 r171 h172) (by kernel_rfl) (by kernel_rfl) (by kernel_rfl) (by kernel_rfl) (fun h173 => ?_)
                    refine JS.relen (o := o0) (off := 0) (n := r163.length) (n' := r171.length) 0 (by kernel_rfl) h173.symm ?_
                    refine JS.relen (o := o0) (off := 0) (n := r163.length) (n' := r171.length) 214 (by kernel_rfl) h173.symm ?_
                    refine JS.nil ?_
                    refine JC.to2 [(0, .ref o0 0 r171.length)] [⟨o0, 1, vl fD r171⟩] (by kernel_rfl) (by kernel_rfl) ?_
                    exact JC.finI (ex := .normal) (l := a0) rfl normal_ne rfl
                  · exact JC.finI (ex := .normal) (l := a0) rfl normal_ne rfl
              · refine JC.skipT ?_
                refine JC.seq ?_
                refine JC.bind (A := fun v ex E R => ex = .normal ∧ E = [(0, .ref o0 0 a0.length), (3, .x (.int .i64 a3)), (4, .x (.fn 26)), (18, .x (.int .i64 (IntKind.i64.wrap (shrI .u64 (IntKind.u64.wrap (IntKind.i64.wrap (a1 + a3))) (1 : Int))))), (24, .x (.int .i64 (IntKind.i64.wrap ((IntKind.i64.wrap ((IntKind.i64.wrap (shrI .u64 (IntKind.u64.wrap (IntKind.i64.wrap (a1 + a3))) (1 : Int))) + a2)) - y107)))), (213, .x (.bool v))] ∧ R = [⟨o0, 1, vl fD a0⟩]) ?_ ?_
                · refine JC.region fun b175 => ?_
                  refine JS.run 4 (by kernel_rfl) ?_
                  refine JS.split (e := (decide ((IntKind.i64.wrap (shrI .u64 (IntKind.u64.wrap (IntKind.i64.wrap (a1 + a3))) (1 : Int))) < (IntKind.i64.wrap ((IntKind.i64.wrap ((IntKind.i64.wrap (shrI .u64 (IntKind.u64.wrap (IntKind.i64.wrap (a1 + a3))) (1 : Int))) + a2)) - y107))))) 209 (by kernel_rfl) (fun h176 => ?_) (fun h176 => ?_)
                  · refine JS.run 4 (by kernel_rfl) ?_
                    refine JS.nil ?_
                    refine JC.to2 [(0, .ref o0 0 a0.length), (3, .x (.int .i64 a3)), (4, .x (.fn 26)), (18, .x (.int .i64 (IntKind.i64.wrap (shrI .u64 (IntKind.u64.wrap (IntKind.i64.wrap (a1 + a3))) (1 : Int))))), (24, .x (.int .i64 (IntKind.i64.wrap ((IntKind.i64.wrap ((IntKind.i64.wrap (shrI .u64 (IntKind.u64.wrap (IntKind.i64.wrap (a1 + a3))) (1 : Int))) + a2)) - y107)))), (213, .x (.bool (decide ((IntKind.i64.wrap ((IntKind.i64.wrap ((IntKind.i64.wrap (shrI .u64 (IntKind.u64.wrap (IntKind.i64.wrap (a1 + a3))) (1 : Int))) + a2)) - y107)) < a3))))] [⟨o0, 1, vl fD a0⟩] (by kernel_rfl) (by kernel_rfl) ?_
                    refine JC.to2 [(0, .ref o0 0 a0.length), (3, .x (.int .i64 a3)), (4, .x (.fn 26)), (18, .x (.int .i64 (IntKind.i64.wrap (shrI .u64 (IntKind.u64.wrap (IntKind.i64.wrap (a1 + a3))) (1 : Int))))), (24, .x (.int .i64 (IntKind.i64.wrap ((IntKind.i64.wrap ((IntKind.i64.wrap (shrI .u64 (IntKind.u64.wrap (IntKind.i64.wrap (a1 + a3))) (1 : Int))) + a2)) - y107)))), (213, .x (.bool (decide ((IntKind.i64.wrap ((IntKind.i64.wrap ((IntKind.i64.wrap (shrI .u64 (IntKind.u64.wrap (IntKind.i64.wrap (a1 + a3))) (1 : Int))) + a2)) - y107)) < a3))))] [⟨o0, 1, vl fD a0⟩] (by kernel_rfl) (by kernel_rfl) ?_
                    exact JC.got (ex := .normal) rfl ⟨rfl, rfl, rfl⟩
                  · refine JS.run 4 (by kernel_rfl) ?_
                    refine JS.nil ?_
                    refine JC.to2 [(0, .ref o0 0 a0.length), (3, .x (.int .i64 a3)), (4, .x (.fn 26)), (18, .x (.int .i64 (IntKind.i64.wrap (shrI .u64 (IntKind.u64.wrap (IntKind.i64.wrap (a1 + a3))) (1 : Int))))), (24, .x (.int .i64 (IntKind.i64.wrap ((IntKind.i64.wrap ((IntKind.i64.wrap (shrI .u64 (IntKind.u64.wrap (IntKind.i64.wrap (a1 + a3))) (1 : Int))) + a2)) - y107)))), (213, .x (.bool false))] [⟨o0, 1, vl fD a0⟩] (by kernel_rfl) (by kernel_rfl) ?_
                    refine JC.to2 [(0, .ref o0 0 a0.length), (3, .x (.int .i64 a3)), (4, .x (.fn 26)), (18, .x (.int .i64 (IntKind.i64.wrap (shrI .u64 (IntKind.u64.wrap (IntKind.i64.wrap (a1 + a3))) (1 : Int))))), (24, .x (.int .i64 (IntKind.i64.wrap ((IntKind.i64.wrap ((IntKind.i64.wrap (shrI .u64 (IntKind.u64.wrap (IntKind.i64.wrap (a1 + a3))) (1 : Int))) + a2)) - y107)))), (213, .x (.bool false))] [⟨o0, 1, vl fD a0⟩] (by kernel_rfl) (by kernel_rfl) ?_
                    exact JC.got (ex := .normal) rfl ⟨rfl, rfl, rfl⟩
                · rintro y174 ex E' R' hA
                  obtain ⟨rfl, rfl, rfl⟩ := hA
                  refine JC.to2 [(0, .ref o0 0 a0.length), (3, .x (.int .i64 a3)), (4, .x (.fn 26)), (18, .x (.int .i64 (IntKind.i64.wrap (shrI .u64 (IntKind.u64.wrap (IntKind.i64.wrap (a1 + a3))) (1 : Int))))), (24, .x (.int .i64 (IntKind.i64.wrap ((IntKind.i64.wrap ((IntKind.i64.wrap (shrI .u64 (IntKind.u64.wrap (IntKind.i64.wrap (a1 + a3))) (1 : Int))) + a2)) - y107)))), (213, .x (.bool y174))] [⟨o0, 1, vl fD a0⟩] (by kernel_rfl) (by kernel_rfl) ?_
                  refine JC.skipT ?_
                  refine JC.cond (e := y174) (by kernel_rfl) (fun h177 => ?_) (fun h177 => ?_)
                  · refine JC.region fun b178 => ?_
                    refine JS.run 5 (by kernel_rfl) ?_
                    refine JS.bind fun r179 h180 => ?_
                    refine JS.callI (args := [.x (.int .i64 (IntKind.i64.wrap (shrI .u64 (IntKind.u64.wrap (IntKind.i64.wrap (a1 + a3))) (1 : Int)))), .x (.int .i64 (IntKind.i64.wrap ((IntKind.i64.wrap ((IntKind.i64.wrap (shrI .u64 (IntKind.u64.wrap (IntKind.i64.wrap (a1 + a3))) (1 : Int))) + a2)) - y107))), .x (.int .i64 a3), .x (.fn 26)]) (l := a0) (o := o0) [] (h_slices_symMergeCmpFunc a0 (IntKind.i64.wrap (shrI .u64 (IntKind.u64.wrap (IntKind.i64.wrap (a1 + a3))) (1 : Int))) (IntKind.i64.wrap ((IntKind.i64.wrap ((IntKind.i64.wrap (shrI .u64 (IntKind.u64.wrap (IntKind.i64.wrap (a1 + a3))) (1 : Int))) + a2)) - y107)) a3 r179 h180) (by kernel_rfl) (by kernel_rfl) (by kernel_rfl) (by kernel_rfl) (fun h181 => ?_)
                    refine JS.relen (o := o0) (off := 0) (n := a0.length) (n' := r179.length) 0 (by kernel_rfl) h181.symm ?_
                    refine JS.relen (o := o0) (off := 0) (n := a0.length) (n' := r179.length) 214 (by kernel_rfl) h181.symm ?_
                    refine JS.nil ?_
                    refine JC.to2 [(0, .ref o0 0 r179.length)] [⟨o0, 1, vl fD r179⟩] (by kernel_rfl) (by kernel_rfl) ?_
                    exact JC.finI (ex := .normal) (l := a0) rfl normal_ne rfl
                  · exact JC.finI (ex := .normal) (l := a0) rfl normal_ne rfl
      · refine JC.seq ?_
        refine JC.region fun b182 => ?_
        refine JS.run 2 (by kernel_rfl) ?_
        refine JS.nil ?_
        refine JC.to2 [(0, .ref o0 0 a0.length), (1, .x (.int .i64 a1)), (2, .x (.int .i64 a2)), (3, .x (.int .i64 a3)), (4, .x (.fn 26)), (18, .x (.int .i64 (IntKind.i64.wrap (shrI .u64 (IntKind.u64.wrap (IntKind.i64.wrap (a1 + a3))) (1 : Int))))), (19, .x (.int .i64 (IntKind.i64.wrap ((IntKind.i64.wrap (shrI .u64 (IntKind.u64.wrap (IntKind.i64.wrap (a1 + a3))) (1 : Int))) + a2)))), (20, .x (.int .i64 a1))] [⟨o0, 1, vl fD a0⟩] (by kernel_rfl) (by kernel_rfl) ?_
        refine JC.skipT ?_
        refine JC.region fun b183 => ?_
        refine JS.run 2 (by kernel_rfl) ?_
        refine JS.nil ?_
        refine JC.to2 [(0, .ref o0 0 a0.length), (1, .x (.int .i64 a1)), (2, .x (.int .i64 a2)), (3, .x (.int .i64 a3)), (4, .x (.fn 26)), (18, .x (.int .i64 (IntKind.i64.wrap (shrI .u64 (IntKind.u64.wrap (IntKind.i64.wrap (a1 + a3))) (1 : Int))))), (19, .x (.int .i64 (IntKind.i64.wrap ((IntKind.i64.wrap (shrI .u64 (IntKind.u64.wrap (IntKind.i64.wrap (a1 + a3))) (1 : Int))) + a2)))), (20, .x (.int .i64 a1)), (21, .x (.int .i64 a2))] [⟨o0, 1, vl fD a0⟩] (by kernel_rfl) (by kernel_rfl) ?_
        refine JC.skipT ?_
        refine JC.seq ?_
        refine JC.region fun b184 => ?_
        refine JS.run 3 (by kernel_rfl) ?_
        refine JS.nil ?_
        refine JC.to2 [(0, .ref o0 0 a0.length), (1, .x (.int .i64 a1)), (2, .x (.int .i64 a2)), (3, .x (.int .i64 a3)), (4, .x (.fn 26)), (18, .x (.int .i64 (IntKind.i64.wrap (shrI .u64 (IntKind.u64.wrap (IntKind.i64.wrap (a1 + a3))) (1 : Int))))), (19, .x (.int .i64 (IntKind.i64.wrap ((IntKind.i64.wrap (shrI .u64 (IntKind.u64.wrap (IntKind.i64.wrap (a1 + a3))) (1 : Int))) + a2)))), (20, .x (.int .i64 a1)), (21, .x (.int .i64 a2)), (22, .x (.int .i64 (IntKind.i64.wrap ((IntKind.i64.wrap ((IntKind.i64.wrap (shrI .u64 (IntKind.u64.wrap (IntKind.i64.wrap (a1 + a3))) (1 : Int))) + a2)) - (1 : Int)))))] [⟨o0, 1, vl fD a0⟩] (by kernel_rfl) (by kernel_rfl) ?_
        refine JC.skipT ?_
        refine JC.seq ?_
        refine JC.block ?_
        refine JC.to2 [(0, .ref o0 0 a0.length), (1, .x (.int .i64 a1)), (2, .x (.int .i64 a2)), (3, .x (.int .i64 a3)), (4, .x (.fn 26)), (18, .x (.int .i64 (IntKind.i64.wrap (shrI .u64 (IntKind.u64.wrap (IntKind.i64.wrap (a1 + a3))) (1 : Int))))), (19, .x (.int .i64 (IntKind.i64.wrap ((IntKind.i64.wrap (shrI .u64 (IntKind.u64.wrap (IntKind.i64.wrap (a1 + a3))) (1 : Int))) + a2)))), (20, .x (.int .i64 a1)), (21, .x (.int .i64 a2)), (22, .x (.int .i64 (IntKind.i64.wrap ((IntKind.i64.wrap ((IntKind.i64.wrap (shrI .u64 (IntKind.u64.wrap (IntKind.i64.wrap (a1 + a3))) (1 : Int))) + a2)) - (1 : Int)))))] [⟨o0, 1, vl fD a0⟩] (by kernel_rfl) (by kernel_rfl) ?_
        refine JC.to2 [(0, .ref o0 0 a0.length), (1, .x (.int .i64 a1)), (2, .x (.int .i64 a2)), (3, .x (.int .i64 a3)), (4, .x (.fn 26)), (18, .x (.int .i64 (IntKind.i64.wrap (shrI .u64 (IntKind.u64.wrap (IntKind.i64.wrap (a1 + a3))) (1 : Int))))), (19, .x (.int .i64 (IntKind.i64.wrap ((IntKind.i64.wrap (shrI .u64 (IntKind.u64.wrap (IntKind.i64.wrap (a1 + a3))) (1 : Int))) + a2)))), (20, .x (.int .i64 a1)), (21, .x (.int .i64 a2)), (22, .x (.int .i64 (IntKind.i64.wrap ((IntKind.i64.wrap ((IntKind.i64.wrap (shrI .u64 (IntKind.u64.wrap (IntKind.i64.wrap (a1 + a3))) (1 : Int))) + a2)) - (1 : Int)))))] [⟨o0, 1, vl fD a0⟩] (by kernel_rfl) (by kernel_rfl) ?_
        refine JC.bind (A := fun v ex E R => ex = (.exit 8) ∧ E = [(0, .ref o0 0 a0.length), (1, .x (.int .i64 a1)), (2, .x (.int .i64 a2)), (3, .x (.int .i64 a3)), (4, .x (.fn 26)), (18, .x (.int .i64 (IntKind.i64.wrap (shrI .u64 (IntKind.u64.wrap (IntKind.i64.wrap (a1 + a3))) (1 : Int))))), (19, .x (.int .i64 (IntKind.i64.wrap ((IntKind.i64.wrap (shrI .u64 (IntKind.u64.wrap (IntKind.i64.wrap (a1 + a3))) (1 : Int))) + a2)))), (20, .x (.int .i64 v))] ∧ R = [⟨o0, 1, vl fD a0⟩]) (slices_symMergeCmpFunc_l5_ok a0 a1 a2 a3 fr o0 k a1 a2) ?_
        rintro y187 ex E' R' hA
        obtain ⟨rfl, rfl, rfl⟩ := hA
        refine JC.to2 [(0, .ref o0 0 a0.length), (1, .x (.int .i64 a1)), (2, .x (.int .i64 a2)), (3, .x (.int .i64 a3)), (4, .x (.fn 26)), (18, .x (.int .i64 (IntKind.i64.wrap (shrI .u64 (IntKind.u64.wrap (IntKind.i64.wrap (a1 + a3))) (1 : Int))))), (19, .x (.int .i64 (IntKind.i64.wrap ((IntKind.i64.wrap (shrI .u64 (IntKind.u64.wrap (IntKind.i64.wrap (a1 + a3))) (1 : Int))) + a2)))), (20, .x (.int .i64 y187))] [⟨o0, 1, vl fD a0⟩] (by kernel_rfl) (by kernel_rfl) ?_
        refine JC.exitB ?_
        refine JC.skipT ?_
        refine JC.seq ?_
        refine JC.region fun b205 => ?_
        refine JS.run 4 (by kernel_rfl) ?_
        refine JS.nil ?_
        refine JC.to2 [(0, .ref o0 0 a0.length), (1, .x (.int .i64 a1)), (2, .x (.int .i64 a2)), (3, .x (.int .i64 a3)), (4, .x (.fn 26)), (18, .x (.int .i64 (IntKind.i64.wrap (shrI .u64 (IntKind.u64.wrap (IntKind.i64.wrap (a1 + a3))) (1 : Int))))), (20, .x (.int .i64 y187)), (24, .x (.int .i64 (IntKind.i64.wrap ((IntKind.i64.wrap ((IntKind.i64.wrap (shrI .u64 (IntKind.u64.wrap (IntKind.i64.wrap (a1 + a3))) (1 : Int))) + a2)) - y187))))] [⟨o0, 1, vl fD a0⟩] (by kernel_rfl) (by kernel_rfl) ?_
        refine JC.skipT ?_
        refine JC.seq ?_
        refine JC.seq ?_
        refine JC.bind (A := fun v ex E R => ex = .normal ∧ E = [(0, .ref o0 0 a0.length), (1, .x (.int .i64 a1)), (2, .x (.int .i64 a2)), (3, .x (.int .i64 a3)), (4, .x (.fn 26)), (18, .x (.int .i64 (IntKind.i64.wrap (shrI .u64 (IntKind.u64.wrap (IntKind.i64.wrap (a1 + a3))) (1 : Int))))), (20, .x (.int .i64 y187)), (24, .x (.int .i64 (IntKind.i64.wrap ((IntKind.i64.wrap ((IntKind.i64.wrap (shrI .u64 (IntKind.u64.wrap (IntKind.i64.wrap (a1 + a3))) (1 : Int))) + a2)) - y187)))), (185, .x (.bool v))] ∧ R = [⟨o0, 1, vl fD a0⟩]) ?_ ?_
        · refine JC.region fun b207 => ?_
          refine JS.run 4 (by kernel_rfl) ?_
          refine JS.split (e := (decide (y187 < a2))) 181 (by kernel_rfl) (fun h208 => ?_) (fun h208 => ?_)
          · refine JS.run 4 (by kernel_rfl) ?_
            refine JS.nil ?_
            refine JC.to2 [(0, .ref o0 0 a0.length), (1, .x (.int .i64 a1)), (2, .x (.int .i64 a2)), (3, .x (.int .i64 a3)), (4, .x (.fn 26)), (18, .x (.int .i64 (IntKind.i64.wrap (shrI .u64 (IntKind.u64.wrap (IntKind.i64.wrap (a1 + a3))) (1 : Int))))), (20, .x (.int .i64 y187)), (24, .x (.int .i64 (IntKind.i64.wrap ((IntKind.i64.wrap ((IntKind.i64.wrap (shrI .u64 (IntKind.u64.wrap (IntKind.i64.wrap (a1 + a3))) (1 : Int))) + a2)) - y187)))), (185, .x (.bool (decide (a2 < (IntKind.i64.wrap ((IntKind.i64.wrap ((IntKind.i64.wrap (shrI .u64 (IntKind.u64.wrap (IntKind.i64.wrap (a1 + a3))) (1 : Int))) + a2)) - y187))))))] [⟨o0, 1, vl fD a0⟩] (by kernel_rfl) (by kernel_rfl) ?_
            refine JC.to2 [(0, .ref o0 0 a0.length), (1, .x (.int .i64 a1)), (2, .x (.int .i64 a2)), (3, .x (.int .i64 a3)), (4, .x (.fn 26)), (18, .x (.int .i64 (IntKind.i64.wrap (shrI .u64 (IntKind.u64.wrap (IntKind.i64.wrap (a1 + a3))) (1 : Int))))), (20, .x (.int .i64 y187)), (24, .x (.int .i64 (IntKind.i64.wrap ((IntKind.i64.wrap ((IntKind.i64.wrap (shrI .u64 (IntKind.u64.wrap (IntKind.i64.wrap (a1 + a3))) (1 : Int))) + a2)) - y187)))), (185, .x (.bool (decide (a2 < (IntKind.i64.wrap ((IntKind.i64.wrap ((IntKind.i64.wrap (shrI .u64 (IntKind.u64.wrap (IntKind.i64.wrap (a1 + a3))) (1 : Int))) + a2)) - y187))))))] [⟨o0, 1, vl fD a0⟩] (by kernel_rfl) (by kernel_rfl) ?_
            exact JC.got (ex := .normal) rfl ⟨rfl, rfl, rfl⟩
          · refine JS.run 4 (by kernel_rfl) ?_
            refine JS.nil ?_
            refine JC.to2 [(0, .ref o0 0 a0.length), (1, .x (.int .i64 a1)), (2, .x (.int .i64 a2)), (3, .x (.int .i64 a3)), (4, .x (.fn 26)), (18, .x (.int .i64 (IntKind.i64.wrap (shrI .u64 (IntKind.u64.wrap (IntKind.i64.wrap (a1 + a3))) (1 : Int))))), (20, .x (.int .i64 y187)), (24, .x (.int .i64 (IntKind.i64.wrap ((IntKind.i64.wrap ((IntKind.i64.wrap (shrI .u64 (IntKind.u64.wrap (IntKind.i64.wrap (a1 + a3))) (1 : Int))) + a2)) - y187)))), (185, .x (.bool false))] [⟨o0, 1, vl fD a0⟩] (by kernel_rfl) (by kernel_rfl) ?_
            refine JC.to2 [(0, .ref o0 0 a0.length), (1, .x (.int .i64 a1)), (2, .x (.int .i64 a2)), (3, .x (.int .i64 a3)), (4, .x (.fn 26)), (18, .x (.int .i64 (IntKind.i64.wrap (shrI .u64 (IntKind.u64.wrap (IntKind.i64.wrap (a1 + a3))) (1 : Int))))), (20, .x (.int .i64 y187)), (24, .x (.int .i64 (IntKind.i64.wrap ((IntKind.i64.wrap ((IntKind.i64.wrap (shrI .u64 (IntKind.u64.wrap (IntKind.i64.wrap (a1 + a3))) (1 : Int))) + a2)) - y187)))), (185, .x (.bool false))] [⟨o0, 1, vl fD a0⟩] (by kernel_rfl) (by kernel_rfl) ?_
            exact JC.got (ex := .normal) rfl ⟨rfl, rfl, rfl⟩
        · rintro y206 ex E' R' hA
          obtain ⟨rfl, rfl, rfl⟩ := hA
          refine JC.to2 [(0, .ref o0 0 a0.length), (1, .x (.int .i64 a1)), (2, .x (.int .i64 a2)), (3, .x (.int .i64 a3)), (4, .x (.fn 26)), (18, .x (.int .i64 (IntKind.i64.wrap (shrI .u64 (IntKind.u64.wrap (IntKind.i64.wrap (a1 + a3))) (1 : Int))))), (20, .x (.int .i64 y187)), (24, .x (.int .i64 (IntKind.i64.wrap ((IntKind.i64.wrap ((IntKind.i64.wrap (shrI .u64 (IntKind.u64.wrap (IntKind.i64.wrap (a1 + a3))) (1 : Int))) + a2)) - y187)))), (185, .x (.bool y206))] [⟨o0, 1, vl fD a0⟩] (by kernel_rfl) (by kernel_rfl) ?_
          refine JC.skipT ?_
          refine JC.cond (e := y206) (by kernel_rfl) (fun h209 => ?_) (fun h209 => ?_)
          · refine JC.region fun b210 => ?_
            refine JS.run 5 (by kernel_rfl) ?_
            refine JS.bind fun r211 h212 => ?_
            refine JS.callI (args := [.x (.int .i64 y187), .x (.int .i64 a2), .x (.int .i64 (IntKind.i64.wrap ((IntKind.i64.wrap ((IntKind.i64.wrap (shrI .u64 (IntKind.u64.wrap (IntKind.i64.wrap (a1 + a3))) (1 : Int))) + a2)) - y187))), .x (.fn 26)]) (l := a0) (o := o0) [] (slices_rotateCmpFunc_ok k a0 y187 a2 (IntKind.i64.wrap ((IntKind.i64.wrap ((IntKind.i64.wrap (shrI .u64 (IntKind.u64.wrap (IntKind.i64.wrap (a1 + a3))) (1 : Int))) + a2)) - y187)) r211 h212) (by kernel_rfl) (by kernel_rfl) (by kernel_rfl) (by kernel_rfl) (fun h213 => ?_)
            refine JS.relen (o := o0) (off := 0) (n := a0.length) (n' := r211.length) 0 (by kernel_rfl) h213.symm ?_
            refine JS.relen (o := o0) (off := 0) (n := a0.length) (n' := r211.length) 186 (by kernel_rfl) h213.symm ?_
            refine JS.nil ?_
            refine JC.to2 [(0, .ref o0 0 r211.length), (1, .x (.int .i64 a1)), (3, .x (.int .i64 a3)), (4, .x (.fn 26)), (18, .x (.int .i64 (IntKind.i64.wrap (shrI .u64 (IntKind.u64.wrap (IntKind.i64.wrap (a1 + a3))) (1 : Int))))), (20, .x (.int .i64 y187)), (24, .x (.int .i64 (IntKind.i64.wrap ((IntKind.i64.wrap ((IntKind.i64.wrap (shrI .u64 (IntKind.u64.wrap (IntKind.i64.wrap (a1 + a3))) (1 : Int))) + a2)) - y187))))] [⟨o0, 1, vl fD r211⟩] (by kernel_rfl) (by kernel_rfl) ?_
            refine JC.skipT ?_
            refine JC.seq ?_
            refine JC.seq ?_
            refine JC.bind (A := fun v ex E R => ex = .normal ∧ E = [(0, .ref o0 0 r211.length), (1, .x (.int .i64 a1)), (3, .x (.int .i64 a3)), (4, .x (.fn 26)), (18, .x (.int .i64 (IntKind.i64.wrap (shrI .u64 (IntKind.u64.wrap (IntKind.i64.wrap (a1 + a3))) (1 : Int))))), (20, .x (.int .i64 y187)), (24, .x (.int .i64 (IntKind.i64.wrap ((IntKind.i64.wrap ((IntKind.i64.wrap (shrI .u64 (IntKind.u64.wrap (IntKind.i64.wrap (a1 + a3))) (1 : Int))) + a2)) - y187)))), (199, .x (.bool v))] ∧ R = [⟨o0, 1, vl fD r211⟩]) ?_ ?_
            · refine JC.region fun b215 => ?_
              refine JS.run 4 (by kernel_rfl) ?_
              refine JS.split (e := (decide (a1 < y187))) 195 (by kernel_rfl) (fun h216 => ?_) (fun h216 => ?_)
              · refine JS.run 4 (by kernel_rfl) ?_
                refine JS.nil ?_
                refine JC.to2 [(0, .ref o0 0 r211.length), (1, .x (.int .i64 a1)), (3, .x (.int .i64 a3)), (4, .x (.fn 26)), (18, .x (.int .i64 (IntKind.i64.wrap (shrI .u64 (IntKind.u64.wrap (IntKind.i64.wrap (a1 + a3))) (1 : Int))))), (20, .x (.int .i64 y187)), (24, .x (.int .i64 (IntKind.i64.wrap ((IntKind.i64.wrap ((IntKind.i64.wrap (shrI .u64 (IntKind.u64.wrap (IntKind.i64.wrap (a1 + a3))) (1 : Int))) + a2)) - y187)))), (199, .x (.bool (decide (y187 < (IntKind.i64.wrap (shrI .u64 (IntKind.u64.wrap (IntKind.i64.wrap (a1 + a3))) (1 : Int)))))))] [⟨o0, 1, vl fD r211⟩] (by kernel_rfl) (by kernel_rfl) ?_
                refine JC.to2 [(0, .ref o0 0 r211.length), (1, .x (.int .i64 a1)), (3, .x (.int .i64 a3)), (4, .x (.fn 26)), (18, .x (.int .i64 (IntKind.i64.wrap (shrI .u64 (IntKind.u64.wrap (IntKind.i64.wrap (a1 + a3))) (1 : Int))))), (20, .x (.int .i64 y187)), (24, .x (.int .i64 (IntKind.i64.wrap ((IntKind.i64.wrap ((IntKind.i64.wrap (shrI .u64 (IntKind.u64.wrap (IntKind.i64.wrap (a1 + a3))) (1 : Int))) + a2)) - y187)))), (199, .x (.bool (decide (y187 < (IntKind.i64.wrap (shrI .u64 (IntKind.u64.wrap (IntKind.i64.wrap (a1 + a3))) (1 : Int)))))))] [⟨o0, 1, vl fD r211⟩] (by kernel_rfl) (by kernel_rfl) ?_
                exact JC.got (ex := .normal) rfl ⟨rfl, rfl, rfl⟩
              · refine JS.run 4 (by kernel_rfl) ?_
                refine JS.nil ?_
                refine JC.to2 [(0, .ref o0 0 r211.length), (1, .x (.int .i64 a1)), (3, .x (.int .i64 a3)), (4, .x (.fn 26)), (18, .x (.int .i64 (IntKind.i64.wrap (shrI .u64 (IntKind.u64.wrap (IntKind.i64.wrap (a1 + a3))) (1 : Int))))), (20, .x (.int .i64 y187)), (24, .x (.int .i64 (IntKind.i64.wrap ((IntKind.i64.wrap ((IntKind.i64.wrap (shrI .u64 (IntKind.u64.wrap (IntKind.i64.wrap (a1 + a3))) (1 : Int))) + a2)) - y187)))), (199, .x (.bool false))] [⟨o0, 1, vl fD r211⟩] (by kernel_rfl) (by kernel_rfl) ?_
                refine JC.to2 [(0, .ref o0 0 r211.length), (1, .x (.int .i64 a1)), (3, .x (.int .i64 a3)), (4, .x (.fn 26)), (18, .x (.int .i64 (IntKind.i64.wrap (shrI .u64 (IntKind.u64.wrap (IntKind.i64.wrap (a1 + a3))) (1 : Int))))), (20, .x (.int .i64 y187)), (24, .x (.int .i64 (IntKind.i64.wrap ((IntKind.i64.wrap ((IntKind.i64.wrap (shrI .u64 (IntKind.u64.wrap (IntKind.i64.wrap (a1 + a3))) (1 : Int))) + a2)) - y187)))), (199, .x (.bool false))] [⟨o0, 1, vl fD r211⟩] (by kernel_rfl) (by kernel_rfl) ?_
                exact JC.got (ex := .normal) rfl ⟨rfl, rfl, rfl⟩
            · rintro y214 ex E' R' hA
              obtain ⟨rfl, rfl, rfl⟩ := hA
              refine JC.to2 [(0, .ref o0 0 r211.length), (1, .x (.int .i64 a1)), (3, .x (.int .i64 a3)), (4, .x (.fn 26)), (18, .x (.int .i64 (IntKind.i64.wrap (shrI .u64 (IntKind.u64.wrap (IntKind.i64.wrap (a1 + a3))) (1 : Int))))), (20, .x (.int .i64 y187)), (24, .x (.int .i64 (IntKind.i64.wrap ((IntKind.i64.wrap ((IntKind.i64.wrap (shrI .u64 (IntKind.u64.wrap (IntKind.i64.wrap (a1 + a3))) (1 : Int))) + a2)) - y187)))), (199, .x (.bool y214))] [⟨o0, 1, vl fD r211⟩] (by kernel_rfl) (by kernel_rfl) ?_
              refine JC.skipT ?_
              refine JC.cond (e := y214) (by kernel_rfl) (fun h217 => ?_) (fun h217 => ?_)
              · refine JC.region fun b218 => ?_
                refine JS.run 5 (by kernel_rfl) ?_
                refine JS.bind fun r219 h220 => ?_
                refine JS.callI (args := [.x (.int .i64 a1), .x (.int .i64 y187), .x (.int .i64 (IntKind.i64.wrap (shrI .u64 (IntKind.u64.wrap (IntKind.i64.wrap (a1 + a3))) (1 : Int)))), .x (.fn 26)]) (l := r211) (o := o0) [] (h_slices_symMergeCmpFunc r211 a1 y187 (IntKind.i64.wrap (shrI .u64 (IntKind.u64.wrap (IntKind.i64.wrap (a1 + a3))) (1 : Int))) r219 h220) (by kernel_rfl) (by kernel_rfl) (by kernel_rfl) (by kernel_rfl) (fun h221 => ?_)
                refine JS.relen (o := o0) (off := 0) (n := r211.length) (n' := r219.length) 0 (by kernel_rfl) h221.symm ?_
                refine JS.relen (o := o0) (off := 0) (n := r211.length) (n' := r219.length) 200 (by kernel_rfl) h221.symm ?_
                refine JS.nil ?_
                refine JC.to2 [(0, .ref o0 0 r219.length), (3, .x (.int .i64 a3)), (4, .x (.fn 26)), (18, .x (.int .i64 (IntKind.i64.wrap (shrI .u64 (IntKind.u64.wrap (IntKind.i64.wrap (a1 + a3))) (1 : Int))))), (24, .x (.int .i64 (IntKind.i64.wrap ((IntKind.i64.wrap ((IntKind.i64.wrap (shrI .u64 (IntKind.u64.wrap (IntKind.i64.wrap (a1 + a3))) (1 : Int))) + a2)) - y187))))] [⟨o0, 1, vl fD r219⟩] (by kernel_rfl) (by kernel_rfl) ?_
                refine JC.skipT ?_
                refine JC.seq ?_
                refine JC.bind (A := fun v ex E R => ex = .normal ∧ E = [(0, .ref o0 0 r219.length), (3, .x (.int .i64 a3)), (4, .x (.fn 26)), (18, .x (.int .i64 (IntKind.i64.wrap (shrI .u64 (IntKind.u64.wrap (IntKind.i64.wrap (a1 + a3))) (1 : Int))))), (24, .x (.int .i64 (IntKind.i64.wrap ((IntKind.i64.wrap ((IntKind.i64.wrap (shrI .u64 (IntKind.u64.wrap (IntKind.i64.wrap (a1 + a3))) (1 : Int))) + a2)) - y187)))), (213, .x (.bool v))] ∧ R = [⟨o0, 1, vl fD r219⟩]) ?_ ?_
                · refine JC.region fun b223 => ?_
                  refine JS.run 4 (by kernel_rfl) ?_
                  refine JS.split (e := (decide ((IntKind.i64.wrap (shrI .u64 (IntKind.u64.wrap (IntKind.i64.wrap (a1 + a3))) (1 : Int))) < (IntKind.i64.wrap ((IntKind.i64.wrap ((IntKind.i64.wrap (shrI .u64 (IntKind.u64.wrap (IntKind.i64.wrap (a1 + a3))) (1 : Int))) + a2)) - y187))))) 209 (by kernel_rfl) (fun h224 => ?_) (fun h224 => ?_)
                  · refine JS.run 4 (by kernel_rfl) ?_
                    refine JS.nil ?_
                    refine JC.to2 [(0, .ref o0 0 r219.length), (3, .x (.int .i64 a3)), (4, .x (.fn 26)), (18, .x (.int .i64 (IntKind.i64.wrap (shrI .u64 (IntKind.u64.wrap (IntKind.i64.wrap (a1 + a3))) (1 : Int))))), (24, .x (.int .i64 (IntKind.i64.wrap ((IntKind.i64.wrap ((IntKind.i64.wrap (shrI .u64 (IntKind.u64.wrap (IntKind.i64.wrap (a1 + a3))) (1 : Int))) + a2)) - y187)))), (213, .x (.bool (decide ((IntKind.i64.wrap ((IntKind.i64.wrap ((IntKind.i64.wrap (shrI .u64 (IntKind.u64.wrap (IntKind.i64.wrap (a1 + a3))) (1 : Int))) + a2)) - y187)) < a3))))] [⟨o0, 1, vl fD r219⟩] (by kernel_rfl) (by kernel_rfl) ?_
                    refine JC.to2 [(0, .ref o0 0 r219.length), (3, .x (.int .i64 a3)), (4, .x (.fn 26)), (18, .x (.int .i64 (IntKind.i64.wrap (shrI .u64 (IntKind.u64.wrap (IntKind.i64.wrap (a1 + a3))) (1 : Int))))), (24, .x (.int .i64 (IntKind.i64.wrap ((IntKind.i64.wrap ((IntKind.i64.wrap (shrI .u64 (IntKind.u64.wrap (IntKind.i64.wrap (a1 + a3))) (1 : Int))) + a2)) - y187)))), (213, .x (.bool (decide ((IntKind.i64.wrap ((IntKind.i64.wrap ((IntKind.i64.wrap (shrI .u64 (IntKind.u64.wrap (IntKind.i64.wrap (a1 + a3))) (1 : Int))) + a2)) - y187)) < a3))))] [⟨o0, 1, vl fD r219⟩] (by kernel_rfl) (by kernel_rfl) ?_
                    exact JC.got (ex := .normal) rfl ⟨rfl, rfl, rfl⟩
                  · refine JS.run 4 (by kernel_rfl) ?_
                    refine JS.nil ?_
                    refine JC.to2 [(0, .ref o0 0 r219.length), (3, .x (.int .i64 a3)), (4, .x (.fn 26)), (18, .x (.int .i64 (IntKind.i64.wrap (shrI .u64 (IntKind.u64.wrap (IntKind.i64.wrap (a1 + a3))) (1 : Int))))), (24, .x (.int .i64 (IntKind.i64.wrap ((IntKind.i64.wrap ((IntKind.i64.wrap (shrI .u64 (IntKind.u64.wrap (IntKind.i64.wrap (a1 + a3))) (1 : Int))) + a2)) - y187)))), (213, .x (.bool false))] [⟨o0, 1, vl fD r219⟩] (by kernel_rfl) (by kernel_rfl) ?_
                    refine JC.to2 [(0, .ref o0 0 r219.length), (3, .x (.int .i64 a3)), (4, .x (.fn 26)), (18, .x (.int .i64 (IntKind.i64.wrap (shrI .u64 (IntKind.u64.wrap (IntKind.i64.wrap (a1 + a3))) (1 : Int))))), (24, .x (.int .i64 (IntKind.i64.wrap ((IntKind.i64.wrap ((IntKind.i64.wrap (shrI .u64 (IntKind.u64.wrap (IntKind.i64.wrap (a1 + a3))) (1 : Int))) + a2)) - y187)))), (213, .x (.bool false))] [⟨o0, 1, vl fD r219⟩] (by kernel_rfl) (by kernel_rfl) ?_
                    exact JC.got (ex := .normal) rfl ⟨rfl, rfl, rfl⟩
                · rintro y222 ex E' R' hA
                  obtain ⟨rfl, rfl, rfl⟩ := hA
                  refine JC.to2 [(0, .ref o0 0 r219.length), (3, .x (.int .i64 a3)), (4, .x (.fn 26)), (18, .x (.int .i64 (IntKind.i64.wrap (shrI .u64 (IntKind.u64.wrap (IntKind.i64.wrap (a1 + a3))) (1 : Int))))), (24, .x (.int .i64 (IntKind.i64.wrap ((IntKind.i64.wrap ((IntKind.i64.wrap (shrI .u64 (IntKind.u64.wrap (IntKind.i64.wrap (a1 + a3))) (1 : Int))) + a2)) - y187)))), (213, .x (.bool y222))] [⟨o0, 1, vl fD r219⟩] (by kernel_rfl) (by kernel_rfl) ?_
                  refine JC.skipT ?_
                  refine JC.cond (e := y222) (by kernel_rfl) (fun h225 => ?_) (fun h225 => ?_)
                  · refine JC.region fun b226 => ?_
                    refine JS.run 5 (by kernel_rfl) ?_
                    refine JS.bind fun r227 h228 => ?_
                    refine JS.callI (args := [.x (.int .i64 (IntKind.i64.wrap (shrI .u64 (IntKind.u64.wrap (IntKind.i64.wrap (a1 + a3))) (1 : Int)))), .x (.int .i64 (IntKind.i64.wrap ((IntKind.i64.wrap ((IntKind.i64.wrap (shrI .u64 (IntKind.u64.wrap (IntKind.i64.wrap (a1 + a3))) (1 : Int))) + a2)) - y187))), .x (.int .i64 a3), .x (.fn 26)]) (l := r219) (o := o0) [] (h_slices_symMergeCmpFunc r219 (IntKind.i64.wrap (shrI .u64 (IntKind.u64.wrap (IntKind.i64.wrap (a1 + a3))) (1 : Int))) (IntKind.i64.wrap ((IntKind.i64.wrap ((IntKind.i64.wrap (shrI .u64 (IntKind.u64.wrap (IntKind.i64.wrap (a1 + a3))) (1 : Int))) + a2)) - y187)) a3 r227 h228) (by kernel_rfl) (by kernel_rfl) (by kernel_rfl) (by kernel_rfl) (fun h229 => ?_)
                    refine JS.relen (o := o0) (off := 0) (n := r219.length) (n' := r227.length) 0 (by kernel_rfl) h229.symm ?_
                    refine JS.relen (o := o0) (off := 0) (n := r219.length) (n' := r227.length) 214 (by kernel_rfl) h229.symm ?_
                    refine JS.nil ?_
                    refine JC.to2 [(0, .ref o0 0 r227.length)] [⟨o0, 1, vl fD r227⟩] (by kernel_rfl) (by kernel_rfl) ?_
                    exact JC.finI (ex := .normal) (l := a0) rfl normal_ne rfl
                  · exact JC.finI (ex := .normal) (l := a0) rfl normal_ne rfl
              · refine JC.skipT ?_
                refine JC.seq ?_
                refine JC.bind (A := fun v ex E R => ex = .normal ∧ E = [(0, .ref o0 0 r211.length), (3, .x (.int .i64 a3)), (4, .x (.fn 26)), (18, .x (.int .i64 (IntKind.i64.wrap (shrI .u64 (IntKind.u64.wrap (IntKind.i64.wrap (a1 + a3))) (1 : Int))))), (24, .x (.int .i64 (IntKind.i64.wrap ((IntKind.i64.wrap ((IntKind.i64.wrap (shrI .u64 (IntKind.u64.wrap (IntKind.i64.wrap (a1 + a3))) (1 : Int))) + a2)) - y187)))), (213, .x (.bool v))] ∧ R = [⟨o0, 1, vl fD r211⟩]) ?_ ?_
                · refine JC.region fun b231 => ?_
                  refine JS.run 4 (by kernel_rfl) ?_
                  refine JS.split (e := (decide ((IntKind.i64.wrap (shrI .u64 (IntKind.u64.wrap (IntKind.i64.wrap (a1 + a3))) (1 : Int))) < (IntKind.i64.wrap ((IntKind.i64.wrap ((IntKind.i64.wrap (shrI .u64 (IntKind.u64.wrap (IntKind.i64.wrap (a1 + a3))) (1 : Int))) + a2)) - y187))))) 209 (by kernel_rfl) (fun h232 => ?_) (fun h232 => ?_)
                  · refine JS.run 4 (by kernel_rfl) ?_
                    refine JS.nil ?_
                    refine JC.to2 [(0, .ref o0 0 r211.length), (3, .x (.int .i64 a3)), (4, .x (.fn 26)), (18, .x (.int .i64 (IntKind.i64.wrap (shrI .u64 (IntKind.u64.wrap (IntKind.i64.wrap (a1 + a3))) (1 : Int))))), (24, .x (.int .i64 (IntKind.i64.wrap ((IntKind.i64.wrap ((IntKind.i64.wrap (shrI .u64 (IntKind.u64.wrap (IntKind.i64.wrap (a1 + a3))) (1 : Int))) + a2)) - y187)))), (213, .x (.bool (decide ((IntKind.i64.wrap ((IntKind.i64.wrap ((IntKind.i64.wrap (shrI .u64 (IntKind.u64.wrap (IntKind.i64.wrap (a1 + a3))) (1 : Int))) + a2)) - y187)) < a3))))] [⟨o0, 1, vl fD r211⟩] (by kernel_rfl) (by kernel_rfl) ?_
                    refine JC.to2 [(0, .ref o0 0 r211.length), (3, .x (.int .i64 a3)), (4, .x (.fn 26)), (18, .x (.int .i64 (IntKind.i64.wrap (shrI .u64 (IntKind.u64.wrap (IntKind.i64.wrap (a1 + a3))) (1 : Int))))), (24, .x (.int .i64 (IntKind.i64.wrap ((IntKind.i64.wrap ((IntKind.i64.wrap (shrI .u64 (IntKind.u64.wrap (IntKind.i64.wrap (a1 + a3))) (1 : Int))) + a2)) - y187)))), (213, .x (.bool (decide ((IntKind.i64.wrap ((IntKind.i64.wrap ((IntKind.i64.wrap (shrI .u64 (IntKind.u64.wrap (IntKind.i64.wrap (a1 + a3))) (1 : Int))) + a2)) - y187)) < a3))))] [⟨o0, 1, vl fD r211⟩] (by kernel_rfl) (by kernel_rfl) ?_
                    exact JC.got (ex := .normal) rfl ⟨rfl, rfl, rfl⟩
                  · refine JS.run 4 (by kernel_rfl) ?_
                    refine JS.nil ?_
                    refine JC.to2 [(0, .ref o0 0 r211.length), (3, .x (.int .i64 a3)), (4, .x (.fn 26)), (18, .x (.int .i64 (IntKind.i64.wrap (shrI .u64 (IntKind.u64.wrap (IntKind.i64.wrap (a1 + a3))) (1 : Int))))), (24, .x (.int .i64 (IntKind.i64.wrap ((IntKind.i64.wrap ((IntKind.i64.wrap (shrI .u64 (IntKind.u64.wrap (IntKind.i64.wrap (a1 + a3))) (1 : Int))) + a2)) - y187)))), (213, .x (.bool false))] [⟨o0, 1, vl fD r211⟩] (by kernel_rfl) (by kernel_rfl) ?_
                    refine JC.to2 [(0, .ref o0 0 r211.length), (3, .x (.int .i64 a3)), (4, .x (.fn 26)), (18, .x (.int .i64 (IntKind.i64.wrap (shrI .u64 (IntKind.u64.wrap (IntKind.i64.wrap (a1 + a3))) (1 : Int))))), (24, .x (.int .i64 (IntKind.i64.wrap ((IntKind.i64.wrap ((IntKind.i64.wrap (shrI .u64 (IntKind.u64.wrap (IntKind.i64.wrap (a1 + a3))) (1 : Int))) + a2)) - y187)))), (213, .x (.bool false))] [⟨o0, 1, vl fD r211⟩] (by kernel_rfl) (by kernel_rfl) ?_
                    exact JC.got (ex := .normal) rfl ⟨rfl, rfl, rfl⟩
                · rintro y230 ex E' R' hA
                  obtain ⟨rfl, rfl, rfl⟩ := hA
                  refine JC.to2 [(0, .ref o0 0 r211.length), (3, .x (.int .i64 a3)), (4, .x (.fn 26)), (18, .x (.int .i64 (IntKind.i64.wrap (shrI .u64 (IntKind.u64.wrap (IntKind.i64.wrap (a1 + a3))) (1 : Int))))), (24, .x (.int .i64 (IntKind.i64.wrap ((IntKind.i64.wrap ((IntKind.i64.wrap (shrI .u64 (IntKind.u64.wrap (IntKind.i64.wrap (a1 + a3))) (1 : Int))) + a2)) - y187)))), (213, .x (.bool y230))] [⟨o0, 1, vl fD r211⟩] (by kernel_rfl) (by kernel_rfl) ?_
                  refine JC.skipT ?_
                  refine JC.cond (e := y230) (by kernel_rfl) (fun h233 => ?_) (fun h233 => ?_)
                  · refine JC.region fun b234 => ?_
                    refine JS.run 5 (by kernel_rfl) ?_
                    refine JS.bind fun r235 h236 => ?_
                    refine JS.callI (args := [.x (.int .i64 (IntKind.i64.wrap (shrI .u64 (IntKind.u64.wrap (IntKind.i64.wrap (a1 + a3))) (1 : Int)))), .x (.int .i64 (IntKind.i64.wrap ((IntKind.i64.wrap ((IntKind.i64.wrap (shrI .u64 (IntKind.u64.wrap (IntKind.i64.wrap (a1 + a3))) (1 : Int))) + a2)) - y187))), .x (.int .i64 a3), .x (.fn 26)]) (l := r211) (o := o0) [] (h_slices_symMergeCmpFunc r211 (IntKind.i64.wrap (shrI .u64 (IntKind.u64.wrap (IntKind.i64.wrap (a1 + a3))) (1 : Int))) (IntKind.i64.wrap ((IntKind.i64.wrap ((IntKind.i64.wrap (shrI .u64 (IntKind.u64.wrap (IntKind.i64.wrap (a1 + a3))) (1 : Int))) + a2)) - y187)) a3 r235 h236) (by kernel_rfl) (by kernel_rfl) (by kernel_rfl) (by kernel_rfl) (fun h237 => ?_)
                    refine JS.relen (o := o0) (off := 0) (n := r211.length) (n' := r235.length) 0 (by kernel_rfl) h237.symm ?_
                    refine JS.relen (o := o0) (off := 0) (n := r211.length) (n' := r235.length) 214 (by kernel_rfl) h237.symm ?_
                    refine JS.nil ?_
                    refine JC.to2 [(0, .ref o0 0 r235.length)] [⟨o0, 1, vl fD r235⟩] (by kernel_rfl) (by kernel_rfl) ?_
                    exact JC.finI (ex := .normal) (l := a0) rfl normal_ne rfl
                  · exact JC.finI (ex := .normal) (l := a0) rfl normal_ne rfl
          · refine JC.skipT ?_
            refine JC.seq ?_
            refine JC.seq ?_
            refine JC.bind (A := fun v ex E R => ex = .normal ∧ E = [(0, .ref o0 0 a0.length), (1, .x (.int .i64 a1)), (3, .x (.int .i64 a3)), (4, .x (.fn 26)), (18, .x (.int .i64 (IntKind.i64.wrap (shrI .u64 (IntKind.u64.wrap (IntKind.i64.wrap (a1 + a3))) (1 : Int))))), (20, .x (.int .i64 y187)), (24, .x (.int .i64 (IntKind.i64.wrap ((IntKind.i64.wrap ((IntKind.i64.wrap (shrI .u64 (IntKind.u64.wrap (IntKind.i64.wrap (a1 + a3))) (1 : Int))) + a2)) - y187)))), (199, .x (.bool v))] ∧ R = [⟨o0, 1, vl fD a0⟩]) ?_ ?_
            · refine JC.region fun b239 => ?_
              refine JS.run 4 (by kernel_rfl) ?_
              refine JS.split (e := (decide (a1 < y187))) 195 (by kernel_rfl) (fun h240 => ?_) (fun h240 => ?_)
              · refine JS.run 4 (by kernel_rfl) ?_
                refine JS.nil ?_
                refine JC.to2 [(0, .ref o0 0 a0.length), (1, .x (.int .i64 a1)), (3, .x (.int .i64 a3)), (4, .x (.fn 26)), (18, .x (.int .i64 (IntKind.i64.wrap (shrI .u64 (IntKind.u64.wrap (IntKind.i64.wrap (a1 + a3))) (1 : Int))))), (20, .x (.int .i64 y187)), (24, .x (.int .i64 (IntKind.i64.wrap ((IntKind.i64.wrap ((IntKind.i64.wrap (shrI .u64 (IntKind.u64.wrap (IntKind.i64.wrap (a1 + a3))) (1 : Int))) + a2)) - y187)))), (199, .x (.bool (decide (y187 < (IntKind.i64.wrap (shrI .u64 (IntKind.u64.wrap (IntKind.i64.wrap (a1 + a3))) (1 : Int)))))))] [⟨o0, 1, vl fD a0⟩] (by kernel_rfl) (by kernel_rfl) ?_
                refine JC.to2 [(0, .ref o0 0 a0.length), (1, .x (.int .i64 a1)), (3, .x (.int .i64 a3)), (4, .x (.fn 26)), (18, .x (.int .i64 (IntKind.i64.wrap (shrI .u64 (IntKind.u64.wrap (IntKind.i64.wrap (a1 + a3))) (1 : Int))))), (20, .x (.int .i64 y187)), (24, .x (.int .i64 (IntKind.i64.wrap ((IntKind.i64.wrap ((IntKind.i64.wrap (shrI .u64 (IntKind.u64.wrap (IntKind.i64.wrap (a1 + a3))) (1 : Int))) + a2)) - y187)))), (199, .x (.bool (decide (y187 < (IntKind.i64.wrap (shrI .u64 (IntKind.u64.wrap (IntKind.i64.wrap (a1 + a3))) (1 : Int)))))))] [⟨o0, 1, vl fD a0⟩] (by kernel_rfl) (by kernel_rfl) ?_
                exact JC.got (ex := .normal) rfl ⟨rfl, rfl, rfl⟩
              · refine JS.run 4 (by kernel_rfl) ?_
                refine JS.nil ?_
                refine JC.to2 [(0, .ref o0 0 a0.length), (1, .x (.int .i64 a1)), (3, .x (.int .i64 a3)), (4, .x (.fn 26)), (18, .x (.int .i64 (IntKind.i64.wrap (shrI .u64 (IntKind.u64.wrap (IntKind.i64.wrap (a1 + a3))) (1 : Int))))), (20, .x (.int .i64 y187)), (24, .x (.int .i64 (IntKind.i64.wrap ((IntKind.i64.wrap ((IntKind.i64.wrap (shrI .u64 (IntKind.u64.wrap (IntKind.i64.wrap (a1 + a3))) (1 : Int))) + a2)) - y187)))), (199, .x (.bool false))] [⟨o0, 1, vl fD a0⟩] (by kernel_rfl) (by kernel_rfl) ?_
                refine JC.to2 [(0, .ref o0 0 a0.length), (1, .x (.int .i64 a1)), (3, .x (.int .i64 a3)), (4, .x (.fn 26)), (18, .x (.int .i64 (IntKind.i64.wrap (shrI .u64 (IntKind.u64.wrap (IntKind.i64.wrap (a1 + a3))) (1 : Int))))), (20, .x (.int .i64 y187)), (24, .x (.int .i64 (IntKind.i64.wrap ((IntKind.i64.wrap ((IntKind.i64.wrap (shrI .u64 (IntKind.u64.wrap (IntKind.i64.wrap (a1 + a3))) (1 : Int))) + a2)) - y187)))), (199, .x (.bool false))] [⟨o0, 1, vl fD a0⟩] (by kernel_rfl) (by kernel_rfl) ?_
                exact JC.got (ex := .normal) rfl ⟨rfl, rfl, rfl⟩
            · rintro y238 ex E' R' hA
              obtain ⟨rfl, rfl, rfl⟩ := hA
              refine JC.to2 [(0, .ref o0 0 a0.length), (1, .x (.int .i64 a1)), (3, .x (.int .i64 a3)), (4, .x (.fn 26)), (18, .x (.int .i64 (IntKind.i64.wrap (shrI .u64 (IntKind.u64.wrap (IntKind.i64.wrap (a1 + a3))) (1 : Int))))), (20, .x (.int .i64 y187)), (24, .x (.int .i64 (IntKind.i64.wrap ((IntKind.i64.wrap ((IntKind.i64.wrap (shrI .u64 (IntKind.u64.wrap (IntKind.i64.wrap (a1 + a3))) (1 : Int))) + a2)) - y187)))), (199, .x (.bool y238))] [⟨o0, 1, vl fD a0⟩] (by kernel_rfl) (by kernel_rfl) ?_
              refine JC.skipT ?_
              refine JC.cond (e := y238) (by kernel_rfl) (fun h241 => ?_) (fun h241 => ?_)
              · refine JC.region fun b242 => ?_
                refine JS.run 5 (by kernel_rfl) ?_
                refine JS.bind fun r243 h244 => ?_
                refine JS.callI (args := [.x (.int .i64 a1), .x (.int .i64 y187), .x (.int .i64 (IntKind.i64.wrap (shrI .u64 (IntKind.u64.wrap (IntKind.i64.wrap (a1 + a3))) (1 : Int)))), .x (.fn 26)]) (l := a0) (o := o0) [] (h_slices_symMergeCmpFunc a0 a1 y187 (IntKind.i64.wrap (shrI .u64 (IntKind.u64.wrap (IntKind.i64.wrap (a1 + a3))) (1 : Int))) r243 h244) (by kernel_rfl) (by kernel_rfl) (by kernel_rfl) (by kernel_rfl) (fun h245 => ?_)
                refine JS.relen (o := o0) (off := 0) (n := a0.length) (n' := r243.length) 0 (by kernel_rfl) h245.symm ?_
                refine JS.relen (o := o0) (off := 0) (n := a0.length) (n' := r243.length) 200 (by kernel_rfl) h245.symm ?_
                refine JS.nil ?_
                refine JC.to2 [(0, .ref o0 0 r243.length), (3, .x (.int .i64 a3)), (4, .x (.fn 26)), (18, .x (.int .i64 (IntKind.i64.wrap (shrI .u64 (IntKind.u64.wrap (IntKind.i64.wrap (a1 + a3))) (1 : Int))))), (24, .x (.int .i64 (IntKind.i64.wrap ((IntKind.i64.wrap ((IntKind.i64.wrap (shrI .u64 (IntKind.u64.wrap (IntKind.i64.wrap (a1 + a3))) (1 : Int))) + a2)) - y187))))] [⟨o0, 1, vl fD r243⟩] (by kernel_rfl) (by kernel_rfl) ?_
                refine JC.skipT ?_
                refine JC.seq ?_
                refine JC.bind (A := fun v ex E R => ex = .normal ∧ E = [(0, .ref o0 0 r243.length), (3, .x (.int .i64 a3)), (4, .x (.fn 26)), (18, .x (.int .i64 (IntKind.i64.wrap (shrI .u64 (IntKind.u64.wrap (IntKind.i64.wrap (a1 + a3))) (1 : Int))))), (24, .x (.int .i64 (IntKind.i64.wrap ((IntKind.i64.wrap ((IntKind.i64.wrap (shrI .u64 (IntKind.u64.wrap (IntKind.i64.wrap (a1 + a3))) (1 : Int))) + a2)) - y187)))), (213, .x (.bool v))] ∧ R = [⟨o0, 1, vl fD r243⟩]) ?_ ?_
                · refine JC.region fun b247 => ?_
                  refine JS.run 4 (by kernel_rfl) ?_
                  refine JS.split (e := (decide ((IntKind.i64.wrap (shrI .u64 (IntKind.u64.wrap (IntKind.i64.wrap (a1 + a3))) (1 : Int))) < (IntKind.i64.wrap ((IntKind.i64.wrap ((IntKind.i64.wrap (shrI .u64 (IntKind.u64.wrap (IntKind.i64.wrap (a1 + a3))) (1 : Int))) + a2)) - y187))))) 209 (by kernel_rfl) (fun h248 => ?_) (fun h248 => ?_)
                  · refine JS.run 4 (by kernel_rfl) ?_
                    refine JS.nil ?_
                    refine JC.to2 [(0, .ref o0 0 r243.length), (3, .x (.int .i64 a3)), (4, .x (.fn 26)), (18, .x (.int .i64 (IntKind.i64.wrap (shrI .u64 (IntKind.u64.wrap (IntKind.i64.wrap (a1 + a3))) (1 : Int))))), (24, .x (.int .i64 (IntKind.i64.wrap ((IntKind.i64.wrap ((IntKind.i64.wrap (shrI .u64 (IntKind.u64.wrap (IntKind.i64.wrap (a1 + a3))) (1 : Int))) + a2)) - y187)))), (213, .x (.bool (decide ((IntKind.i64.wrap ((IntKind.i64.wrap ((IntKind.i64.wrap (shrI .u64 (IntKind.u64.wrap (IntKind.i64.wrap (a1 + a3))) (1 : Int))) + a2)) - y187)) < a3))))] [⟨o0, 1, vl fD r243⟩] (by kernel_rfl) (by kernel_rfl) ?_
                    refine JC.to2 [(0, .ref o0 0 r243.length), (3, .x (.int .i64 a3)), (4, .x (.fn 26)), (18, .x (.int .i64 (IntKind.i64.wrap (shrI .u64 (IntKind.u64.wrap (IntKind.i64.wrap (a1 + a3))) (1 : Int))))), (24, .x (.int .i64 (IntKind.i64.wrap ((IntKind.i64.wrap ((IntKind.i64.wrap (shrI .u64 (IntKind.u64.wrap (IntKind.i64.wrap (a1 + a3))) (1 : Int))) + a2)) - y187)))), (213, .x (.bool (decide ((IntKind.i64.wrap ((IntKind.i64.wrap ((IntKind.i64.wrap (shrI .u64 (IntKind.u64.wrap (IntKind.i64.wrap (a1 + a3))) (1 : Int))) + a2)) - y187)) < a3))))] [⟨o0, 1, vl fD r243⟩] (by kernel_rfl) (by kernel_rfl) ?_
                    exact JC.got (ex := .normal) rfl ⟨rfl, rfl, rfl⟩
                  · refine JS.run 4 (by kernel_rfl) ?_
                    refine JS.nil ?_
                    refine JC.to2 [(0, .ref o0 0 r243.length), (3, .x (.int .i64 a3)), (4, .x (.fn 26)), (18, .x (.int .i64 (IntKind.i64.wrap (shrI .u64 (IntKind.u64.wrap (IntKind.i64.wrap (a1 + a3))) (1 : Int))))), (24, .x (.int .i64 (IntKind.i64.wrap ((IntKind.i64.wrap ((IntKind.i64.wrap (shrI .u64 (IntKind.u64.wrap (IntKind.i64.wrap (a1 + a3))) (1 : Int))) + a2)) - y187)))), (213, .x (.bool false))] [⟨o0, 1, vl fD r243⟩] (by kernel_rfl) (by kernel_rfl) ?_
                    refine JC.to2 [(0, .ref o0 0 r243.length), (3, .x (.int .i64 a3)), (4, .x (.fn 26)), (18, .x (.int .i64 (IntKind.i64.wrap (shrI .u64 (IntKind.u64.wrap (IntKind.i64.wrap (a1 + a3))) (1 : Int))))), (24, .x (.int .i64 (IntKind.i64.wrap ((IntKind.i64.wrap ((IntKind.i64.wrap (shrI .u64 (IntKind.u64.wrap (IntKind.i64.wrap (a1 + a3))) (1 : Int))) + a2)) - y187)))), (213, .x (.bool false))] [⟨o0, 1, vl fD r243⟩] (by kernel_rfl) (by kernel_rfl) ?_
                    exact JC.got (ex := .normal) rfl ⟨rfl, rfl, rfl⟩
                · rintro y246 ex E' R' hA
                  obtain ⟨rfl, rfl, rfl⟩ := hA
                  refine JC.to2 [(0, .ref o0 0 r243.length), (3, .x (.int .i64 a3)), (4, .x (.fn 26)), (18, .x (.int .i64 (IntKind.i64.wrap (shrI .u64 (IntKind.u64.wrap (IntKind.i64.wrap (a1 + a3))) (1 : Int))))), (24, .x (.int .i64 (IntKind.i64.wrap ((IntKind.i64.wrap ((IntKind.i64.wrap (shrI .u64 (IntKind.u64.wrap (IntKind.i64.wrap (a1 + a3))) (1 : Int))) + a2)) - y187)))), (213, .x (.bool y246))] [⟨o0, 1, vl fD r243⟩] (by kernel_rfl) (by kernel_rfl) ?_
                  refine JC.skipT ?_
                  refine JC.cond (e := y246) (by kernel_rfl) (fun h249 => ?_) (fun h249 => ?_)
                  · refine JC.region fun b250 => ?_
                    refine JS.run 5 (by kernel_rfl) ?_
                    refine JS.bind fun r251 h252 => ?_
                    refine JS.callI (args := [.x (.int .i64 (IntKind.i64.wrap (shrI .u64 (IntKind.u64.wrap (IntKind.i64.wrap (a1 + a3))) (1 : Int)))), .x (.int .i64 (IntKind.i64.wrap ((IntKind.i64.wrap ((IntKind.i64.wrap (shrI .u64 (IntKind.u64.wrap (IntKind.i64.wrap (a1 + a3))) (1 : Int))) + a2)) - y187))), .x (.int .i64 a3), .x (.fn 26)]) (l := r243) (o := o0) [] (h_slices_symMergeCmpFunc r243 (IntKind.i64.wrap (shrI .u64 (IntKind.u64.wrap (IntKind.i64.wrap (a1 + a3))) (1 : Int))) (IntKind.i64.wrap ((IntKind.i64.wrap ((IntKind.i64.wrap (shrI .u64 (IntKind.u64.wrap (IntKind.i64.wrap (a1 + a3))) (1 : Int))) + a2)) - y187)) a3 r251 h252) (by kernel_rfl) (by kernel_rfl) (by kernel_rfl) (by kernel_rfl) (fun h253 => ?_)
                    refine JS.relen (o := o0) (off := 0) (n := r243.length) (n' := r251.length) 0 (by kernel_rfl) h253.symm ?_
                    refine JS.relen (o := o0) (off := 0) (n := r243.length) (n' := r251.length) 214 (by kernel_rfl) h253.symm ?_
                    refine JS.nil ?_
                    refine JC.to2 [(0, .ref o0 0 r251.length)] [⟨o0, 1, vl fD r251⟩] (by kernel_rfl) (by kernel_rfl) ?_
                    exact JC.finI (ex := .normal) (l := a0) rfl normal_ne rfl
                  · exact JC.finI (ex := .normal) (l := a0) rfl normal_ne rfl
              · refine JC.skipT ?_
                refine JC.seq ?_
                refine JC.bind (A := fun v ex E R => ex = .normal ∧ E = [(0, .ref o0 0 a0.length), (3, .x (.int .i64 a3)), (4, .x (.fn 26)), (18, .x (.int .i64 (IntKind.i64.wrap (shrI .u64 (IntKind.u64.wrap (IntKind.i64.wrap (a1 + a3))) (1 : Int))))), (24, .x (.int .i64 (IntKind.i64.wrap ((IntKind.i64.wrap ((IntKind.i64.wrap (shrI .u64 (IntKind.u64.wrap (IntKind.i64.wrap (a1 + a3))) (1 : Int))) + a2)) - y187)))), (213, .x (.bool v))] ∧ R = [⟨o0, 1, vl fD a0⟩]) ?_ ?_
                · refine JC.region fun b255 => ?_
                  refine JS.run 4 (by kernel_rfl) ?_
                  refine JS.split (e := (decide ((IntKind.i64.wrap (shrI .u64 (IntKind.u64.wrap (IntKind.i64.wrap (a1 + a3))) (1 : Int))) < (IntKind.i64.wrap ((IntKind.i64.wrap ((IntKind.i64.wrap (shrI .u64 (IntKind.u64.wrap (IntKind.i64.wrap (a1 + a3))) (1 : Int))) + a2)) - y187))))) 209 (by kernel_rfl) (fun h256 => ?_) (fun h256 => ?_)
                  · refine JS.run 4 (by kernel_rfl) ?_
                    refine JS.nil ?_
                    refine JC.to2 [(0, .ref o0 0 a0.length), (3, .x (.int .i64 a3)), (4, .x (.fn 26)), (18, .x (.int .i64 (IntKind.i64.wrap (shrI .u64 (IntKind.u64.wrap (IntKind.i64.wrap (a1 + a3))) (1 : Int))))), (24, .x (.int .i64 (IntKind.i64.wrap ((IntKind.i64.wrap ((IntKind.i64.wrap (shrI .u64 (IntKind.u64.wrap (IntKind.i64.wrap (a1 + a3))) (1 : Int))) + a2)) - y187)))), (213, .x (.bool (decide ((IntKind.i64.wrap ((IntKind.i64.wrap ((IntKind.i64.wrap (shrI .u64 (IntKind.u64.wrap (IntKind.i64.wrap (a1 + a3))) (1 : Int))) + a2)) - y187)) < a3))))] [⟨o0, 1, vl fD a0⟩] (by kernel_rfl) (by kernel_rfl) ?_
                    refine JC.to2 [(0, .ref o0 0 a0.length), (3, .x (.int .i64 a3)), (4, .x (.fn 26)), (18, .x (.int .i64 (IntKind.i64.wrap (shrI .u64 (IntKind.u64.wrap (IntKind.i64.wrap (a1 + a3))) (1 : Int))))), (24, .x (.int .i64 (IntKind.i64.wrap ((IntKind.i64.wrap ((IntKind.i64.wrap (shrI .u64 (IntKind.u64.wrap (IntKind.i64.wrap (a1 + a3))) (1 : Int))) + a2)) - y187)))), (213, .x (.bool (decide ((IntKind.i64.wrap ((IntKind.i64.wrap ((IntKind.i64.wrap (shrI .u64 (IntKind.u64.wrap (IntKind.i64.wrap (a1 + a3))) (1 : Int))) + a2)) - y187)) < a3))))] [⟨o0, 1, vl fD a0⟩] (by kernel_rfl) (by kernel_rfl) ?_
                    exact JC.got (ex := .normal) rfl ⟨rfl, rfl, rfl⟩
                  · refine JS.run 4 (by kernel_rfl) ?_
                    refine JS.nil ?_
                    refine JC.to2 [(0, .ref o0 0 a0.length), (3, .x (.int .i64 a3)), (4, .x (.fn 26)), (18, .x (.int .i64 (IntKind.i64.wrap (shrI .u64 (IntKind.u64.wrap (IntKind.i64.wrap (a1 + a3))) (1 : Int))))), (24, .x (.int .i64 (IntKind.i64.wrap ((IntKind.i64.wrap ((IntKind.i64.wrap (shrI .u64 (IntKind.u64.wrap (IntKind.i64.wrap (a1 + a3))) (1 : Int))) + a2)) - y187)))), (213, .x (.bool false))] [⟨o0, 1, vl fD a0⟩] (by kernel_rfl) (by kernel_rfl) ?_
                    refine JC.to2 [(0, .ref o0 0 a0.length), (3, .x (.int .i64 a3)), (4, .x (.fn 26)), (18, .x (.int .i64 (IntKind.i64.wrap (shrI .u64 (IntKind.u64.wrap (IntKind.i64.wrap (a1 + a3))) (1 : Int))))), (24, .x (.int .i64 (IntKind.i64.wrap ((IntKind.i64.wrap ((IntKind.i64.wrap (shrI .u64 (IntKind.u64.wrap (IntKind.i64.wrap (a1 + a3))) (1 : Int))) + a2)) - y187)))), (213, .x (.bool false))] [⟨o0, 1, vl fD a0⟩] (by kernel_rfl) (by kernel_rfl) ?_
                    exact JC.got (ex := .normal) rfl ⟨rfl, rfl, rfl⟩
                · rintro y254 ex E' R' hA
                  obtain ⟨rfl, rfl, rfl⟩ := hA
                  refine JC.to2 [(0, .ref o0 0 a0.length), (3, .x (.int .i64 a3)), (4, .x (.fn 26)), (18, .x (.int .i64 (IntKind.i64.wrap (shrI .u64 (IntKind.u64.wrap (IntKind.i64.wrap (a1 + a3))) (1 : Int))))), (24, .x (.int .i64 (IntKind.i64.wrap ((IntKind.i64.wrap ((IntKind.i64.wrap (shrI .u64 (IntKind.u64.wrap (IntKind.i64.wrap (a1 + a3))) (1 : Int))) + a2)) - y187)))), (213, .x (.bool y254))] [⟨o0, 1, vl fD a0⟩] (by kernel_rfl) (by kernel_rfl) ?_
                  refine JC.skipT ?_
                  refine JC.cond (e := y254) (by kernel_rfl) (fun h257 => ?_) (fun h257 => ?_)
                  · refine JC.region fun b258 => ?_
                    refine JS.run 5 (by kernel_rfl) ?_
                    refine JS.bind fun r259 h260 => ?_
                    refine JS.callI (args := [.x (.int .i64 (IntKind.i64.wrap (shrI .u64 (IntKind.u64.wrap (IntKind.i64.wrap (a1 + a3))) (1 : Int)))), .x (.int .i64 (IntKind.i64.wrap ((IntKind.i64.wrap ((IntKind.i64.wrap (shrI .u64 (IntKind.u64.wrap (IntKind.i64.wrap (a1 + a3))) (1 : Int))) + a2)) - y187))), .x (.int .i64 a3), .x (.fn 26)]) (l := a0) (o := o0) [] (h_slices_symMergeCmpFunc a0 (IntKind.i64.wrap (shrI .u64 (IntKind.u64.wrap (IntKind.i64.wrap (a1 + a3))) (1 : Int))) (IntKind.i64.wrap ((IntKind.i64.wrap ((IntKind.i64.wrap (shrI .u64 (IntKind.u64.wrap (IntKind.i64.wrap (a1 + a3))) (1 : Int))) + a2)) - y187)) a3 r259 h260) (by kernel_rfl) (by kernel_rfl) (by kernel_rfl) (by kernel_rfl) (fun h261 => ?_)
                    refine JS.relen (o := o0) (off := 0) (n := a0.length) (n' := r259.length) 0 (by kernel_rfl) h261.symm ?_
                    refine JS.relen (o := o0) (off := 0) (n := a0.length) (n' := r259.length) 214 (by kernel_rfl) h261.symm ?_
                    refine JS.nil ?_
                    refine JC.to2 [(0, .ref o0 0 r259.length)] [⟨o0, 1, vl fD r259⟩] (by kernel_rfl) (by kernel_rfl) ?_
                    exact JC.finI (ex := .normal) (l := a0) rfl normal_ne rfl
                  · exact JC.finI (ex := .normal) (l := a0) rfl normal_ne rfl
def slices_symMergeCmpFunc : Nat → (List Fl) → Int → Int → Int → Option (List Fl)
  | 0, _, _, _, _ => none
  | k + 1, a0, a1, a2, a3 => slices_symMergeCmpFunc_body k (fun x0 x1 x2 x3 => slices_symMergeCmpFunc k x0 x1 x2 x3) a0 a1 a2 a3
theorem slices_symMergeCmpFunc_knot : ∀ k, (∀ (a0 : (List Fl)) (a1 : Int) (a2 : Int) (a3 : Int) (r : (List Fl)), slices_symMergeCmpFunc k a0 a1 a2 a3 = some r → InOk prog 34 1 fD [.x (.int .i64 a1), .x (.int .i64 a2), .x (.int .i64 a3), .x (.fn 26)] a0 r) := by
  intro k
  induction k with
  | zero => exact (by intro a0 a1 a2 a3 r h; simp [slices_symMergeCmpFunc] at h)
  | succ k ih => exact (by intro a0 a1 a2 a3 r h; rw [slices_symMergeCmpFunc] at h; exact slices_symMergeCmpFunc_body_ok k _ ih a0 a1 a2 a3 r h)
theorem slices_symMergeCmpFunc_ok (k : Nat) : ∀ (a0 : (List Fl)) (a1 : Int) (a2 : Int) (a3 : Int) (r : (List Fl)), slices_symMergeCmpFunc k a0 a1 a2 a3 = some r → InOk prog 34 1 fD [.x (.int .i64 a1), .x (.int .i64 a2), .x (.int .i64 a3), .x (.fn 26)] a0 r := (slices_symMergeCmpFunc_knot k)
end Go.Pi

