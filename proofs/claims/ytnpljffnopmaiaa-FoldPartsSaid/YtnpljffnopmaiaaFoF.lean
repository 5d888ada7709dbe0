import Derived.Test.YtnpljffnopmaiaaFoT
import Derived.Test.YtnpljffnopmaiaaFoP
import Derived.KernelRfl
/-
  THE FUNCTIONS, as terms over lists.
-/
set_option linter.all false
namespace Go.Pi
set_option maxRecDepth 100000
set_option linter.unusedVariables false
set_option maxHeartbeats 2000000
/-! math.Signbit -/
def math_Signbit (k : Nat) (a0 : Fl) : Option Bool :=
  fcase a0 (fun w3 => some (decide ((IntKind.i64.wrap ((w3 : Nat) : Int)) < (0 : Int)))) (none)
theorem math_Signbit_ok (k : Nat) (a0 : Fl) : ∀ r, math_Signbit k a0 = some r → CallOk prog 27 [.x (.flt a0)] false [.sc (.x (.bool r))] := by
  refine CallOk.ofB (pf := pf27) (rs := [.tmp 2]) (Res := fun (r : Bool) => [.sc (.x (.bool r))]) rfl rfl rfl rfl rfl ?_
  unfold math_Signbit pf27
  refine JC.seq ?_
  refine JC.region fun b1 => ?_
  refine JS.run 1 (by kernel_rfl) ?_
  refine JS.nil ?_
  refine JC.to2 [(0, .x (.flt a0))] [] (by kernel_rfl) (by kernel_rfl) ?_
  refine JC.skipT ?_
  refine JC.seq ?_
  refine JC.region fun b2 => ?_
  refine JS.run 1 (by kernel_rfl) ?_
  refine JS.bits (e := a0) (by kernel_rfl) (by kernel_rfl) (by kernel_rfl) (fun w3 h4 => ?_) (fun h4 => ?_)
  · refine JS.run 3 (by kernel_rfl) ?_
    refine JS.nil ?_
    refine JC.to2 [(2, .x (.bool (decide ((IntKind.i64.wrap ((w3 : Nat) : Int)) < (0 : Int)))))] [] (by kernel_rfl) (by kernel_rfl) ?_
    refine JC.skipT ?_
    exact JC.finB (ex := .ret) (vs := [.x (.bool (decide ((IntKind.i64.wrap ((w3 : Nat) : Int)) < (0 : Int))))]) (is := []) rfl ret_ne ⟨(by kernel_rfl), trivial⟩ (Outs.sc rfl Outs.nil)
  · exact JS.no
/-! cmp.isNaN[uint64] -/
def cmp_isNaN (k : Nat) (a0 : Int) : Option Bool :=
  some (a0 != a0)
theorem cmp_isNaN_ok (k : Nat) (a0 : Int) : ∀ r, cmp_isNaN k a0 = some r → CallOk prog 35 [.x (.int .u64 a0)] false [.sc (.x (.bool r))] := by
  refine CallOk.ofB (pf := pf35) (rs := [.tmp 2]) (Res := fun (r : Bool) => [.sc (.x (.bool r))]) rfl rfl rfl rfl rfl ?_
  unfold cmp_isNaN pf35
  refine JC.seq ?_
  refine JC.region fun b1 => ?_
  refine JS.run 1 (by kernel_rfl) ?_
  refine JS.nil ?_
  refine JC.to2 [(0, .x (.int .u64 a0))] [] (by kernel_rfl) (by kernel_rfl) ?_
  refine JC.skipT ?_
  refine JC.seq ?_
  refine JC.region fun b2 => ?_
  refine JS.run 4 (by kernel_rfl) ?_
  refine JS.nil ?_
  refine JC.to2 [(2, .x (.bool (a0 != a0)))] [] (by kernel_rfl) (by kernel_rfl) ?_
  refine JC.skipT ?_
  exact JC.finB (ex := .ret) (vs := [.x (.bool (a0 != a0))]) (is := []) rfl ret_ne ⟨(by kernel_rfl), trivial⟩ (Outs.sc rfl Outs.nil)
/-! cmp.Compare[uint64] -/
def cmp_Compare (k : Nat) (a0 : Int) (a1 : Int) : Option Int :=
  (cmp_isNaN k a0).bind fun r3 => (cmp_isNaN k a1).bind fun r6 => cond r3 (cond r6 (some (0 : Int)) (some (-1 : Int))) (cond r6 (some (1 : Int)) (cond (decide (a0 < a1)) (some (-1 : Int)) (cond (decide (a0 > a1)) (some (1 : Int)) (some (0 : Int)))))
theorem cmp_Compare_ok (k : Nat) (a0 : Int) (a1 : Int) : ∀ r, cmp_Compare k a0 a1 = some r → CallOk prog 31 [.x (.int .u64 a0), .x (.int .u64 a1)] false [.sc (.x (.int .i64 r))] := by
  refine CallOk.ofB (pf := pf31) (rs := [.tmp 4]) (Res := fun (r : Int) => [.sc (.x (.int .i64 r))]) rfl rfl rfl rfl rfl ?_
  unfold cmp_Compare pf31
  refine JC.seq ?_
  refine JC.region fun b1 => ?_
  refine JS.run 1 (by kernel_rfl) ?_
  refine JS.nil ?_
  refine JC.to2 [(0, .x (.int .u64 a0)), (1, .x (.int .u64 a1))] [] (by kernel_rfl) (by kernel_rfl) ?_
  refine JC.skipT ?_
  refine JC.seq ?_
  refine JC.region fun b2 => ?_
  refine JS.run 1 (by kernel_rfl) ?_
  refine JS.bind fun r3 h4 => ?_
  refine JS.callS [] (cmp_isNaN_ok k a0 r3 h4) ⟨rfl, argX (d := (.int .u64 a0)) (by kernel_rfl) (by kernel_rfl), trivial⟩ (by kernel_rfl) (by kernel_rfl) (by kernel_rfl) ?_
  refine JS.run 1 (by kernel_rfl) ?_
  refine JS.nil ?_
  refine JC.to2 [(0, .x (.int .u64 a0)), (1, .x (.int .u64 a1)), (5, .x (.bool r3))] [] (by kernel_rfl) (by kernel_rfl) ?_
  refine JC.skipT ?_
  refine JC.seq ?_
  refine JC.region fun b5 => ?_
  refine JS.run 1 (by kernel_rfl) ?_
  refine JS.bind fun r6 h7 => ?_
  refine JS.callS [] (cmp_isNaN_ok k a1 r6 h7) ⟨rfl, argX (d := (.int .u64 a1)) (by kernel_rfl) (by kernel_rfl), trivial⟩ (by kernel_rfl) (by kernel_rfl) (by kernel_rfl) ?_
  refine JS.run 1 (by kernel_rfl) ?_
  refine JS.nil ?_
  refine JC.to2 [(0, .x (.int .u64 a0)), (1, .x (.int .u64 a1)), (5, .x (.bool r3)), (6, .x (.bool r6))] [] (by kernel_rfl) (by kernel_rfl) ?_
  refine JC.skipT ?_
  refine JC.seq ?_
  refine JC.seq ?_
  refine JC.region fun b8 => ?_
  refine JS.run 1 (by kernel_rfl) ?_
  refine JS.nil ?_
  refine JC.to2 [(0, .x (.int .u64 a0)), (1, .x (.int .u64 a1)), (6, .x (.bool r6)), (11, .x (.bool r3))] [] (by kernel_rfl) (by kernel_rfl) ?_
  refine JC.skipT ?_
  refine JC.cond (e := r3) (by kernel_rfl) (fun h9 => ?_) (fun h9 => ?_)
  · refine JC.seq ?_
    refine JC.seq ?_
    refine JC.region fun b10 => ?_
    refine JS.run 1 (by kernel_rfl) ?_
    refine JS.nil ?_
    refine JC.to2 [(12, .x (.bool r6))] [] (by kernel_rfl) (by kernel_rfl) ?_
    refine JC.skipT ?_
    refine JC.cond (e := r6) (by kernel_rfl) (fun h11 => ?_) (fun h11 => ?_)
    · refine JC.seq ?_
      refine JC.region fun b12 => ?_
      refine JS.run 1 (by kernel_rfl) ?_
      refine JS.nil ?_
      refine JC.to2 [(4, .x (.int .i64 (0 : Int)))] [] (by kernel_rfl) (by kernel_rfl) ?_
      refine JC.skipT ?_
      refine JC.retT ?_
      refine JC.retT ?_
      exact JC.finB (ex := .ret) (vs := [.x (.int .i64 (0 : Int))]) (is := []) rfl ret_ne ⟨(by kernel_rfl), trivial⟩ (Outs.sc rfl Outs.nil)
    · refine JC.skipT ?_
      refine JC.seq ?_
      refine JC.region fun b13 => ?_
      refine JS.run 1 (by kernel_rfl) ?_
      refine JS.nil ?_
      refine JC.to2 [(4, .x (.int .i64 (-1 : Int)))] [] (by kernel_rfl) (by kernel_rfl) ?_
      refine JC.skipT ?_
      refine JC.retT ?_
      exact JC.finB (ex := .ret) (vs := [.x (.int .i64 (-1 : Int))]) (is := []) rfl ret_ne ⟨(by kernel_rfl), trivial⟩ (Outs.sc rfl Outs.nil)
  · refine JC.skipT ?_
    refine JC.seq ?_
    refine JC.seq ?_
    refine JC.region fun b14 => ?_
    refine JS.run 1 (by kernel_rfl) ?_
    refine JS.nil ?_
    refine JC.to2 [(0, .x (.int .u64 a0)), (1, .x (.int .u64 a1)), (13, .x (.bool r6))] [] (by kernel_rfl) (by kernel_rfl) ?_
    refine JC.skipT ?_
    refine JC.cond (e := r6) (by kernel_rfl) (fun h15 => ?_) (fun h15 => ?_)
    · refine JC.seq ?_
      refine JC.region fun b16 => ?_
      refine JS.run 1 (by kernel_rfl) ?_
      refine JS.nil ?_
      refine JC.to2 [(4, .x (.int .i64 (1 : Int)))] [] (by kernel_rfl) (by kernel_rfl) ?_
      refine JC.skipT ?_
      refine JC.retT ?_
      exact JC.finB (ex := .ret) (vs := [.x (.int .i64 (1 : Int))]) (is := []) rfl ret_ne ⟨(by kernel_rfl), trivial⟩ (Outs.sc rfl Outs.nil)
    · refine JC.skipT ?_
      refine JC.seq ?_
      refine JC.seq ?_
      refine JC.region fun b17 => ?_
      refine JS.run 3 (by kernel_rfl) ?_
      refine JS.nil ?_
      refine JC.to2 [(0, .x (.int .u64 a0)), (1, .x (.int .u64 a1)), (16, .x (.bool (decide (a0 < a1))))] [] (by kernel_rfl) (by kernel_rfl) ?_
      refine JC.skipT ?_
      refine JC.cond (e := (decide (a0 < a1))) (by kernel_rfl) (fun h18 => ?_) (fun h18 => ?_)
      · refine JC.seq ?_
        refine JC.region fun b19 => ?_
        refine JS.run 1 (by kernel_rfl) ?_
        refine JS.nil ?_
        refine JC.to2 [(4, .x (.int .i64 (-1 : Int)))] [] (by kernel_rfl) (by kernel_rfl) ?_
        refine JC.skipT ?_
        refine JC.retT ?_
        exact JC.finB (ex := .ret) (vs := [.x (.int .i64 (-1 : Int))]) (is := []) rfl ret_ne ⟨(by kernel_rfl), trivial⟩ (Outs.sc rfl Outs.nil)
      · refine JC.skipT ?_
        refine JC.seq ?_
        refine JC.seq ?_
        refine JC.region fun b20 => ?_
        refine JS.run 3 (by kernel_rfl) ?_
        refine JS.nil ?_
        refine JC.to2 [(19, .x (.bool (decide (a0 > a1))))] [] (by kernel_rfl) (by kernel_rfl) ?_
        refine JC.skipT ?_
        refine JC.cond (e := (decide (a0 > a1))) (by kernel_rfl) (fun h21 => ?_) (fun h21 => ?_)
        · refine JC.seq ?_
          refine JC.region fun b22 => ?_
          refine JS.run 1 (by kernel_rfl) ?_
          refine JS.nil ?_
          refine JC.to2 [(4, .x (.int .i64 (1 : Int)))] [] (by kernel_rfl) (by kernel_rfl) ?_
          refine JC.skipT ?_
          refine JC.retT ?_
          exact JC.finB (ex := .ret) (vs := [.x (.int .i64 (1 : Int))]) (is := []) rfl ret_ne ⟨(by kernel_rfl), trivial⟩ (Outs.sc rfl Outs.nil)
        · refine JC.skipT ?_
          refine JC.seq ?_
          refine JC.region fun b23 => ?_
          refine JS.run 1 (by kernel_rfl) ?_
          refine JS.nil ?_
          refine JC.to2 [(4, .x (.int .i64 (0 : Int)))] [] (by kernel_rfl) (by kernel_rfl) ?_
          refine JC.skipT ?_
          exact JC.finB (ex := .ret) (vs := [.x (.int .i64 (0 : Int))]) (is := []) rfl ret_ne ⟨(by kernel_rfl), trivial⟩ (Outs.sc rfl Outs.nil)
/-! eyot/weigh.Key -/
def weigh_Key (k : Nat) (a0 : Fl) : Option Int :=
  fcase a0 (fun w3 => cond (fOrd a0 a0 != some .eq) (some (18446744073709551615 : Int)) (cond (decide (((w3 : Nat) : Int) ≥ (9223372036854775808 : Int))) (some (ixor .u64 (IntKind.max .u64) ((w3 : Nat) : Int))) (some (ixor .u64 ((w3 : Nat) : Int) (9223372036854775808 : Int))))) (cond (fOrd a0 a0 != some .eq) (some (18446744073709551615 : Int)) (none))
theorem weigh_Key_ok (k : Nat) (a0 : Fl) : ∀ r, weigh_Key k a0 = some r → CallOk prog 32 [.x (.flt a0)] false [.sc (.x (.int .u64 r))] := by
  refine CallOk.ofB (pf := pf32) (rs := [.tmp 2]) (Res := fun (r : Int) => [.sc (.x (.int .u64 r))]) rfl rfl rfl rfl rfl ?_
  unfold weigh_Key pf32
  refine JC.seq ?_
  refine JC.region fun b1 => ?_
  refine JS.run 1 (by kernel_rfl) ?_
  refine JS.nil ?_
  refine JC.to2 [(0, .x (.flt a0))] [] (by kernel_rfl) (by kernel_rfl) ?_
  refine JC.skipT ?_
  refine JC.seq ?_
  refine JC.region fun b2 => ?_
  refine JS.run 1 (by kernel_rfl) ?_
  refine JS.bits (e := a0) (by kernel_rfl) (by kernel_rfl) (by kernel_rfl) (fun w3 h4 => ?_) (fun h4 => ?_)
  · refine JS.run 1 (by kernel_rfl) ?_
    refine JS.nil ?_
    refine JC.to2 [(0, .x (.flt a0)), (3, .x (.int .u64 ((w3 : Nat) : Int)))] [] (by kernel_rfl) (by kernel_rfl) ?_
    refine JC.skipT ?_
    refine JC.seq ?_
    refine JC.block ?_
    refine JC.seq ?_
    refine JC.region fun b5 => ?_
    refine JS.run 4 (by kernel_rfl) ?_
    refine JS.nil ?_
    refine JC.to2 [(3, .x (.int .u64 ((w3 : Nat) : Int))), (6, .x (.bool (fOrd a0 a0 != some .eq)))] [] (by kernel_rfl) (by kernel_rfl) ?_
    refine JC.skipT ?_
    refine JC.cond (e := (fOrd a0 a0 != some .eq)) (by kernel_rfl) (fun h6 => ?_) (fun h6 => ?_)
    · refine JC.seq ?_
      refine JC.region fun b7 => ?_
      refine JS.run 1 (by kernel_rfl) ?_
      refine JS.nil ?_
      refine JC.to2 [(2, .x (.int .u64 (18446744073709551615 : Int)))] [] (by kernel_rfl) (by kernel_rfl) ?_
      refine JC.skipT ?_
      refine JC.retB ?_
      refine JC.retT ?_
      exact JC.finB (ex := .ret) (vs := [.x (.int .u64 (18446744073709551615 : Int))]) (is := []) rfl ret_ne ⟨(by kernel_rfl), trivial⟩ (Outs.sc rfl Outs.nil)
    · refine JC.seq ?_
      refine JC.region fun b8 => ?_
      refine JS.run 3 (by kernel_rfl) ?_
      refine JS.nil ?_
      refine JC.to2 [(3, .x (.int .u64 ((w3 : Nat) : Int))), (10, .x (.bool (decide (((w3 : Nat) : Int) ≥ (9223372036854775808 : Int)))))] [] (by kernel_rfl) (by kernel_rfl) ?_
      refine JC.skipT ?_
      refine JC.cond (e := (decide (((w3 : Nat) : Int) ≥ (9223372036854775808 : Int)))) (by kernel_rfl) (fun h9 => ?_) (fun h9 => ?_)
      · refine JC.seq ?_
        refine JC.region fun b10 => ?_
        refine JS.run 3 (by kernel_rfl) ?_
        refine JS.nil ?_
        refine JC.to2 [(2, .x (.int .u64 (ixor .u64 (IntKind.max .u64) ((w3 : Nat) : Int))))] [] (by kernel_rfl) (by kernel_rfl) ?_
        refine JC.skipT ?_
        refine JC.retB ?_
        refine JC.retT ?_
        exact JC.finB (ex := .ret) (vs := [.x (.int .u64 (ixor .u64 (IntKind.max .u64) ((w3 : Nat) : Int)))]) (is := []) rfl ret_ne ⟨(by kernel_rfl), trivial⟩ (Outs.sc rfl Outs.nil)
      · refine JC.skipB ?_
        refine JC.skipT ?_
        refine JC.seq ?_
        refine JC.region fun b11 => ?_
        refine JS.run 3 (by kernel_rfl) ?_
        refine JS.nil ?_
        refine JC.to2 [(2, .x (.int .u64 (ixor .u64 ((w3 : Nat) : Int) (9223372036854775808 : Int))))] [] (by kernel_rfl) (by kernel_rfl) ?_
        refine JC.skipT ?_
        exact JC.finB (ex := .ret) (vs := [.x (.int .u64 (ixor .u64 ((w3 : Nat) : Int) (9223372036854775808 : Int)))]) (is := []) rfl ret_ne ⟨(by kernel_rfl), trivial⟩ (Outs.sc rfl Outs.nil)
  · refine JS.run 1 (by kernel_rfl) ?_
    refine JS.nil ?_
    refine JC.to2 [(0, .x (.flt a0))] [] (by kernel_rfl) (by kernel_rfl) ?_
    refine JC.skipT ?_
    refine JC.seq ?_
    refine JC.block ?_
    refine JC.seq ?_
    refine JC.region fun b12 => ?_
    refine JS.run 4 (by kernel_rfl) ?_
    refine JS.nil ?_
    refine JC.to2 [(6, .x (.bool (fOrd a0 a0 != some .eq)))] [] (by kernel_rfl) (by kernel_rfl) ?_
    refine JC.skipT ?_
    refine JC.cond (e := (fOrd a0 a0 != some .eq)) (by kernel_rfl) (fun h13 => ?_) (fun h13 => ?_)
    · refine JC.seq ?_
      refine JC.region fun b14 => ?_
      refine JS.run 1 (by kernel_rfl) ?_
      refine JS.nil ?_
      refine JC.to2 [(2, .x (.int .u64 (18446744073709551615 : Int)))] [] (by kernel_rfl) (by kernel_rfl) ?_
      refine JC.skipT ?_
      refine JC.retB ?_
      refine JC.retT ?_
      exact JC.finB (ex := .ret) (vs := [.x (.int .u64 (18446744073709551615 : Int))]) (is := []) rfl ret_ne ⟨(by kernel_rfl), trivial⟩ (Outs.sc rfl Outs.nil)
    · exact JC.no
/-! eyot/weigh.Order -/
def weigh_Order (k : Nat) (a0 : Fl) (a1 : Fl) : Option Int :=
  (weigh_Key k a0).bind fun r3 => (weigh_Key k a1).bind fun r5 => (cmp_Compare k r3 r5).bind fun r7 => some r7
theorem weigh_Order_ok (k : Nat) (a0 : Fl) (a1 : Fl) : ∀ r, weigh_Order k a0 a1 = some r → CallOk prog 26 [.x (.flt a0), .x (.flt a1)] false [.sc (.x (.int .i64 r))] := by
  refine CallOk.ofB (pf := pf26) (rs := [.tmp 4]) (Res := fun (r : Int) => [.sc (.x (.int .i64 r))]) rfl rfl rfl rfl rfl ?_
  unfold weigh_Order pf26
  refine JC.seq ?_
  refine JC.region fun b1 => ?_
  refine JS.run 1 (by kernel_rfl) ?_
  refine JS.nil ?_
  refine JC.to2 [(0, .x (.flt a0)), (1, .x (.flt a1))] [] (by kernel_rfl) (by kernel_rfl) ?_
  refine JC.skipT ?_
  refine JC.seq ?_
  refine JC.region fun b2 => ?_
  refine JS.run 1 (by kernel_rfl) ?_
  refine JS.bind fun r3 h4 => ?_
  refine JS.callS [] (weigh_Key_ok k a0 r3 h4) ⟨rfl, argX (d := (.flt a0)) (by kernel_rfl) (by kernel_rfl), trivial⟩ (by kernel_rfl) (by kernel_rfl) (by kernel_rfl) ?_
  refine JS.run 1 (by kernel_rfl) ?_
  refine JS.bind fun r5 h6 => ?_
  refine JS.callS [] (weigh_Key_ok k a1 r5 h6) ⟨rfl, argX (d := (.flt a1)) (by kernel_rfl) (by kernel_rfl), trivial⟩ (by kernel_rfl) (by kernel_rfl) (by kernel_rfl) ?_
  refine JS.bind fun r7 h8 => ?_
  refine JS.callS [] (cmp_Compare_ok k r3 r5 r7 h8) ⟨rfl, argX (d := (.int .u64 r3)) (by kernel_rfl) (by kernel_rfl), rfl, argX (d := (.int .u64 r5)) (by kernel_rfl) (by kernel_rfl), trivial⟩ (by kernel_rfl) (by kernel_rfl) (by kernel_rfl) ?_
  refine JS.run 1 (by kernel_rfl) ?_
  refine JS.nil ?_
  refine JC.to2 [(4, .x (.int .i64 r7))] [] (by kernel_rfl) (by kernel_rfl) ?_
  refine JC.skipT ?_
  exact JC.finB (ex := .ret) (vs := [.x (.int .i64 r7)]) (is := []) rfl ret_ne ⟨(by kernel_rfl), trivial⟩ (Outs.sc rfl Outs.nil)
/-! eyot/eyotref1.Order -/
def eyotref1_Order (k : Nat) (a0 : Fl) (a1 : Fl) : Option Int :=
  (cond (fOrd a0 a0 != some .eq) (some (fOrd a1 a1 != some .eq)) (some false)).bind fun y2 => cond y2 (some (0 : Int)) (cond (fOrd a0 a0 != some .eq) (some (1 : Int)) (cond (fOrd a1 a1 != some .eq) (some (-1 : Int)) (cond (fOrd a0 a1 == some .lt) (some (-1 : Int)) (cond (fOrd a0 a1 == some .gt) (some (1 : Int)) ((cond (fOrd a0 (some 0 : Fl) == some .eq) ((math_Signbit k a0).bind fun r22 => (math_Signbit k a1).bind fun r24 => some (!(r22 == r24))) (some false)).bind fun y19 => cond y19 ((math_Signbit k a0).bind fun r28 => cond r28 (some (-1 : Int)) (some (1 : Int))) (some (0 : Int)))))))
theorem eyotref1_Order_ok (k : Nat) (a0 : Fl) (a1 : Fl) : ∀ r, eyotref1_Order k a0 a1 = some r → CallOk prog 19 [.x (.flt a0), .x (.flt a1)] false [.sc (.x (.int .i64 r))] := by
  refine CallOk.ofB (pf := pf19) (rs := [.tmp 4]) (Res := fun (r : Int) => [.sc (.x (.int .i64 r))]) rfl rfl rfl rfl rfl ?_
  unfold eyotref1_Order pf19
  refine JC.seq ?_
  refine JC.region fun b1 => ?_
  refine JS.run 1 (by kernel_rfl) ?_
  refine JS.nil ?_
  refine JC.to2 [(0, .x (.flt a0)), (1, .x (.flt a1))] [] (by kernel_rfl) (by kernel_rfl) ?_
  refine JC.skipT ?_
  refine JC.seq ?_
  refine JC.block ?_
  refine JC.seq ?_
  refine JC.bind (A := fun v ex E R => ex = .normal ∧ E = [(0, .x (.flt a0)), (1, .x (.flt a1)), (5, .x (.bool v))] ∧ R = []) ?_ ?_
  · refine JC.region fun b3 => ?_
    refine JS.run 4 (by kernel_rfl) ?_
    refine JS.split (e := (fOrd a0 a0 != some .eq)) 9 (by kernel_rfl) (fun h4 => ?_) (fun h4 => ?_)
    · refine JS.run 5 (by kernel_rfl) ?_
      refine JS.nil ?_
      refine JC.to2 [(0, .x (.flt a0)), (1, .x (.flt a1)), (5, .x (.bool (fOrd a1 a1 != some .eq)))] [] (by kernel_rfl) (by kernel_rfl) ?_
      refine JC.to2 [(0, .x (.flt a0)), (1, .x (.flt a1)), (5, .x (.bool (fOrd a1 a1 != some .eq)))] [] (by kernel_rfl) (by kernel_rfl) ?_
      exact JC.got (ex := .normal) rfl ⟨rfl, rfl, rfl⟩
    · refine JS.run 5 (by kernel_rfl) ?_
      refine JS.nil ?_
      refine JC.to2 [(0, .x (.flt a0)), (1, .x (.flt a1)), (5, .x (.bool false))] [] (by kernel_rfl) (by kernel_rfl) ?_
      refine JC.to2 [(0, .x (.flt a0)), (1, .x (.flt a1)), (5, .x (.bool false))] [] (by kernel_rfl) (by kernel_rfl) ?_
      exact JC.got (ex := .normal) rfl ⟨rfl, rfl, rfl⟩
  · rintro y2 ex E' R' hA
    obtain ⟨rfl, rfl, rfl⟩ := hA
    refine JC.to2 [(0, .x (.flt a0)), (1, .x (.flt a1)), (5, .x (.bool y2))] [] (by kernel_rfl) (by kernel_rfl) ?_
    refine JC.skipT ?_
    refine JC.cond (e := y2) (by kernel_rfl) (fun h5 => ?_) (fun h5 => ?_)
    · refine JC.seq ?_
      refine JC.region fun b6 => ?_
      refine JS.run 1 (by kernel_rfl) ?_
      refine JS.nil ?_
      refine JC.to2 [(4, .x (.int .i64 (0 : Int)))] [] (by kernel_rfl) (by kernel_rfl) ?_
      refine JC.skipT ?_
      refine JC.retB ?_
      refine JC.retT ?_
      exact JC.finB (ex := .ret) (vs := [.x (.int .i64 (0 : Int))]) (is := []) rfl ret_ne ⟨(by kernel_rfl), trivial⟩ (Outs.sc rfl Outs.nil)
    · refine JC.seq ?_
      refine JC.region fun b7 => ?_
      refine JS.run 4 (by kernel_rfl) ?_
      refine JS.nil ?_
      refine JC.to2 [(0, .x (.flt a0)), (1, .x (.flt a1)), (14, .x (.bool (fOrd a0 a0 != some .eq)))] [] (by kernel_rfl) (by kernel_rfl) ?_
      refine JC.skipT ?_
      refine JC.cond (e := (fOrd a0 a0 != some .eq)) (by kernel_rfl) (fun h8 => ?_) (fun h8 => ?_)
      · refine JC.seq ?_
        refine JC.region fun b9 => ?_
        refine JS.run 1 (by kernel_rfl) ?_
        refine JS.nil ?_
        refine JC.to2 [(4, .x (.int .i64 (1 : Int)))] [] (by kernel_rfl) (by kernel_rfl) ?_
        refine JC.skipT ?_
        refine JC.retB ?_
        refine JC.retT ?_
        exact JC.finB (ex := .ret) (vs := [.x (.int .i64 (1 : Int))]) (is := []) rfl ret_ne ⟨(by kernel_rfl), trivial⟩ (Outs.sc rfl Outs.nil)
      · refine JC.seq ?_
        refine JC.region fun b10 => ?_
        refine JS.run 4 (by kernel_rfl) ?_
        refine JS.nil ?_
        refine JC.to2 [(0, .x (.flt a0)), (1, .x (.flt a1)), (18, .x (.bool (fOrd a1 a1 != some .eq)))] [] (by kernel_rfl) (by kernel_rfl) ?_
        refine JC.skipT ?_
        refine JC.cond (e := (fOrd a1 a1 != some .eq)) (by kernel_rfl) (fun h11 => ?_) (fun h11 => ?_)
        · refine JC.seq ?_
          refine JC.region fun b12 => ?_
          refine JS.run 1 (by kernel_rfl) ?_
          refine JS.nil ?_
          refine JC.to2 [(4, .x (.int .i64 (-1 : Int)))] [] (by kernel_rfl) (by kernel_rfl) ?_
          refine JC.skipT ?_
          refine JC.retB ?_
          refine JC.retT ?_
          exact JC.finB (ex := .ret) (vs := [.x (.int .i64 (-1 : Int))]) (is := []) rfl ret_ne ⟨(by kernel_rfl), trivial⟩ (Outs.sc rfl Outs.nil)
        · refine JC.seq ?_
          refine JC.region fun b13 => ?_
          refine JS.run 4 (by kernel_rfl) ?_
          refine JS.nil ?_
          refine JC.to2 [(0, .x (.flt a0)), (1, .x (.flt a1)), (22, .x (.bool (fOrd a0 a1 == some .lt)))] [] (by kernel_rfl) (by kernel_rfl) ?_
          refine JC.skipT ?_
          refine JC.cond (e := (fOrd a0 a1 == some .lt)) (by kernel_rfl) (fun h14 => ?_) (fun h14 => ?_)
          · refine JC.seq ?_
            refine JC.region fun b15 => ?_
            refine JS.run 1 (by kernel_rfl) ?_
            refine JS.nil ?_
            refine JC.to2 [(4, .x (.int .i64 (-1 : Int)))] [] (by kernel_rfl) (by kernel_rfl) ?_
            refine JC.skipT ?_
            refine JC.retB ?_
            refine JC.retT ?_
            exact JC.finB (ex := .ret) (vs := [.x (.int .i64 (-1 : Int))]) (is := []) rfl ret_ne ⟨(by kernel_rfl), trivial⟩ (Outs.sc rfl Outs.nil)
          · refine JC.seq ?_
            refine JC.region fun b16 => ?_
            refine JS.run 4 (by kernel_rfl) ?_
            refine JS.nil ?_
            refine JC.to2 [(0, .x (.flt a0)), (1, .x (.flt a1)), (26, .x (.bool (fOrd a0 a1 == some .gt)))] [] (by kernel_rfl) (by kernel_rfl) ?_
            refine JC.skipT ?_
            refine JC.cond (e := (fOrd a0 a1 == some .gt)) (by kernel_rfl) (fun h17 => ?_) (fun h17 => ?_)
            · refine JC.seq ?_
              refine JC.region fun b18 => ?_
              refine JS.run 1 (by kernel_rfl) ?_
              refine JS.nil ?_
              refine JC.to2 [(4, .x (.int .i64 (1 : Int)))] [] (by kernel_rfl) (by kernel_rfl) ?_
              refine JC.skipT ?_
              refine JC.retB ?_
              refine JC.retT ?_
              exact JC.finB (ex := .ret) (vs := [.x (.int .i64 (1 : Int))]) (is := []) rfl ret_ne ⟨(by kernel_rfl), trivial⟩ (Outs.sc rfl Outs.nil)
            · refine JC.seq ?_
              refine JC.bind (A := fun v ex E R => ex = .normal ∧ E = [(0, .x (.flt a0)), (30, .x (.bool v))] ∧ R = []) ?_ ?_
              · refine JC.region fun b20 => ?_
                refine JS.run 3 (by kernel_rfl) ?_
                refine JS.split (e := (fOrd a0 (some 0 : Fl) == some .eq)) 33 (by kernel_rfl) (fun h21 => ?_) (fun h21 => ?_)
                · refine JS.run 1 (by kernel_rfl) ?_
                  refine JS.bind fun r22 h23 => ?_
                  refine JS.callS [] (math_Signbit_ok k a0 r22 h23) ⟨rfl, argX (d := (.flt a0)) (by kernel_rfl) (by kernel_rfl), trivial⟩ (by kernel_rfl) (by kernel_rfl) (by kernel_rfl) ?_
                  refine JS.run 1 (by kernel_rfl) ?_
                  refine JS.bind fun r24 h25 => ?_
                  refine JS.callS [] (math_Signbit_ok k a1 r24 h25) ⟨rfl, argX (d := (.flt a1)) (by kernel_rfl) (by kernel_rfl), trivial⟩ (by kernel_rfl) (by kernel_rfl) (by kernel_rfl) ?_
                  refine JS.run 3 (by kernel_rfl) ?_
                  refine JS.nil ?_
                  refine JC.to2 [(0, .x (.flt a0)), (30, .x (.bool (!(r22 == r24))))] [] (by kernel_rfl) (by kernel_rfl) ?_
                  refine JC.to2 [(0, .x (.flt a0)), (30, .x (.bool (!(r22 == r24))))] [] (by kernel_rfl) (by kernel_rfl) ?_
                  exact JC.got (ex := .normal) rfl ⟨rfl, rfl, rfl⟩
                · refine JS.run 7 (by kernel_rfl) ?_
                  refine JS.nil ?_
                  refine JC.to2 [(0, .x (.flt a0)), (30, .x (.bool false))] [] (by kernel_rfl) (by kernel_rfl) ?_
                  refine JC.to2 [(0, .x (.flt a0)), (30, .x (.bool false))] [] (by kernel_rfl) (by kernel_rfl) ?_
                  exact JC.got (ex := .normal) rfl ⟨rfl, rfl, rfl⟩
              · rintro y19 ex E' R' hA
                obtain ⟨rfl, rfl, rfl⟩ := hA
                refine JC.to2 [(0, .x (.flt a0)), (30, .x (.bool y19))] [] (by kernel_rfl) (by kernel_rfl) ?_
                refine JC.skipT ?_
                refine JC.cond (e := y19) (by kernel_rfl) (fun h26 => ?_) (fun h26 => ?_)
                · refine JC.seq ?_
                  refine JC.seq ?_
                  refine JC.region fun b27 => ?_
                  refine JS.run 1 (by kernel_rfl) ?_
                  refine JS.bind fun r28 h29 => ?_
                  refine JS.callS [] (math_Signbit_ok k a0 r28 h29) ⟨rfl, argX (d := (.flt a0)) (by kernel_rfl) (by kernel_rfl), trivial⟩ (by kernel_rfl) (by kernel_rfl) (by kernel_rfl) ?_
                  refine JS.nil ?_
                  refine JC.to2 [(41, .x (.bool r28))] [] (by kernel_rfl) (by kernel_rfl) ?_
                  refine JC.skipT ?_
                  refine JC.cond (e := r28) (by kernel_rfl) (fun h30 => ?_) (fun h30 => ?_)
                  · refine JC.seq ?_
                    refine JC.region fun b31 => ?_
                    refine JS.run 1 (by kernel_rfl) ?_
                    refine JS.nil ?_
                    refine JC.to2 [(4, .x (.int .i64 (-1 : Int)))] [] (by kernel_rfl) (by kernel_rfl) ?_
                    refine JC.skipT ?_
                    refine JC.retT ?_
                    refine JC.retB ?_
                    refine JC.retT ?_
                    exact JC.finB (ex := .ret) (vs := [.x (.int .i64 (-1 : Int))]) (is := []) rfl ret_ne ⟨(by kernel_rfl), trivial⟩ (Outs.sc rfl Outs.nil)
                  · refine JC.skipT ?_
                    refine JC.seq ?_
                    refine JC.region fun b32 => ?_
                    refine JS.run 1 (by kernel_rfl) ?_
                    refine JS.nil ?_
                    refine JC.to2 [(4, .x (.int .i64 (1 : Int)))] [] (by kernel_rfl) (by kernel_rfl) ?_
                    refine JC.skipT ?_
                    refine JC.retB ?_
                    refine JC.retT ?_
                    exact JC.finB (ex := .ret) (vs := [.x (.int .i64 (1 : Int))]) (is := []) rfl ret_ne ⟨(by kernel_rfl), trivial⟩ (Outs.sc rfl Outs.nil)
                · refine JC.skipB ?_
                  refine JC.skipT ?_
                  refine JC.seq ?_
                  refine JC.region fun b33 => ?_
                  refine JS.run 1 (by kernel_rfl) ?_
                  refine JS.nil ?_
                  refine JC.to2 [(4, .x (.int .i64 (0 : Int)))] [] (by kernel_rfl) (by kernel_rfl) ?_
                  refine JC.skipT ?_
                  exact JC.finB (ex := .ret) (vs := [.x (.int .i64 (0 : Int))]) (is := []) rfl ret_ne ⟨(by kernel_rfl), trivial⟩ (Outs.sc rfl Outs.nil)
/-! eyot/eyotref1.Same -/
def eyotref1_Same (k : Nat) (a0 : Fl) (a1 : Fl) : Option Bool :=
  (eyotref1_Order k a0 a1).bind fun r3 => some (r3 == (0 : Int))
theorem eyotref1_Same_ok (k : Nat) (a0 : Fl) (a1 : Fl) : ∀ r, eyotref1_Same k a0 a1 = some r → CallOk prog 11 [.x (.flt a0), .x (.flt a1)] false [.sc (.x (.bool r))] := by
  refine CallOk.ofB (pf := pf11) (rs := [.tmp 4]) (Res := fun (r : Bool) => [.sc (.x (.bool r))]) rfl rfl rfl rfl rfl ?_
  unfold eyotref1_Same pf11
  refine JC.seq ?_
  refine JC.region fun b1 => ?_
  refine JS.run 1 (by kernel_rfl) ?_
  refine JS.nil ?_
  refine JC.to2 [(0, .x (.flt a0)), (1, .x (.flt a1))] [] (by kernel_rfl) (by kernel_rfl) ?_
  refine JC.skipT ?_
  refine JC.seq ?_
  refine JC.region fun b2 => ?_
  refine JS.run 2 (by kernel_rfl) ?_
  refine JS.bind fun r3 h4 => ?_
  refine JS.callS [] (eyotref1_Order_ok k a0 a1 r3 h4) ⟨rfl, argX (d := (.flt a0)) (by kernel_rfl) (by kernel_rfl), rfl, argX (d := (.flt a1)) (by kernel_rfl) (by kernel_rfl), trivial⟩ (by kernel_rfl) (by kernel_rfl) (by kernel_rfl) ?_
  refine JS.run 2 (by kernel_rfl) ?_
  refine JS.nil ?_
  refine JC.to2 [(4, .x (.bool (r3 == (0 : Int))))] [] (by kernel_rfl) (by kernel_rfl) ?_
  refine JC.skipT ?_
  exact JC.finB (ex := .ret) (vs := [.x (.bool (r3 == (0 : Int)))]) (is := []) rfl ret_ne ⟨(by kernel_rfl), trivial⟩ (Outs.sc rfl Outs.nil)
/-! slices.swapRangeCmpFunc[float64] -/
def slices_swapRangeCmpFunc_l0 (a1 : Int) (a2 : Int) (a3 : Int) : Nat → Int → (List Fl) → Option (List Fl)
  | 0, _, _ => none
  | k + 1, x2, x3 => cond (decide (x2 < a3)) ((at? x3 (IntKind.i64.wrap (a2 + x2))).bind fun w8 => (at? x3 (IntKind.i64.wrap (a1 + x2))).bind fun w12 => (at? x3 (IntKind.i64.wrap (a1 + x2))).bind fun w16 => (at? (List.set x3 ((IntKind.i64.wrap (a1 + x2)).toNat) w8) (IntKind.i64.wrap (a2 + x2))).bind fun w20 => slices_swapRangeCmpFunc_l0 a1 a2 a3 k (IntKind.i64.wrap (x2 + (1 : Int))) (List.set (List.set x3 ((IntKind.i64.wrap (a1 + x2)).toNat) w8) ((IntKind.i64.wrap (a2 + x2)).toNat) w12)) (some x3)
theorem slices_swapRangeCmpFunc_l0_ok (a1 : Int) (a2 : Int) (a3 : Int) (fr : Nat → Option Blk) (o0 : Option Nat) : ∀ (k : Nat) (x2 : Int) (x3 : (List Fl)), JC prog fr 38 [(0, .ref o0 0 x3.length), (1, .x (.int .i64 a1)), (2, .x (.int .i64 a2)), (3, .x (.int .i64 a3)), (10, .x (.int .i64 x2))] [⟨o0, 1, vl fD x3⟩] (.loop pf37_L0) (slices_swapRangeCmpFunc_l0 a1 a2 a3 k x2 x3) (fun x => GotA 38 fr ((fun v ex E R => ex = (.exit 0) ∧ E = [(0, .ref o0 0 v.length)] ∧ R = [⟨o0, 1, vl fD v⟩]) x)) := by
  intro k
  induction k with
  | zero =>
    intro x2 x3
    exact JC.no
  | succ k ih =>
    intro x2 x3
    rw [slices_swapRangeCmpFunc_l0]
    refine JC.loop ?_
    refine JC.seq ?_
    refine JC.seq ?_
    refine JC.region fun b5 => ?_
    refine JS.run 3 (by kernel_rfl) ?_
    refine JS.nil ?_
    refine JC.to2 [(0, .ref o0 0 x3.length), (1, .x (.int .i64 a1)), (2, .x (.int .i64 a2)), (3, .x (.int .i64 a3)), (10, .x (.int .i64 x2)), (13, .x (.bool (decide (x2 < a3))))] [⟨o0, 1, vl fD x3⟩] (by kernel_rfl) (by kernel_rfl) ?_
    refine JC.skipT ?_
    refine JC.cond (e := (decide (x2 < a3))) (by kernel_rfl) (fun h6 => ?_) (fun h6 => ?_)
    · refine JC.skipT ?_
      refine JC.seq ?_
      refine JC.block ?_
      refine JC.region fun b7 => ?_
      refine JS.run 12 (by kernel_rfl) ?_
      refine JS.idxT (c := fD) (l := x3) (o := o0) (kk := .i64) (z := (IntKind.i64.wrap (a2 + x2))) 0 (by kernel_rfl) (by kernel_rfl) (by kernel_rfl) (by kernel_rfl) (by kernel_rfl) (fun id10 w8 e11 h9 => ?_)
      subst e11
      refine JS.loadO (id := id10) (sz := 1) (p := (IntKind.i64.wrap (a2 + x2)).toNat) (j := 0) (es := (vl fD x3)) (e := (cv fD w8)) 0 (by kernel_rfl) (vl_get h9) (by kernel_rfl) (by kernel_rfl) (by kernel_rfl) (by kernel_rfl) ?_
      refine JS.run 4 (by kernel_rfl) ?_
      refine JS.idxT (c := fD) (l := x3) (o := (some id10)) (kk := .i64) (z := (IntKind.i64.wrap (a1 + x2))) 0 (by kernel_rfl) (by kernel_rfl) (by kernel_rfl) (by kernel_rfl) (by kernel_rfl) (fun id14 w12 e15 h13 => ?_)
      have e15' : id10 = id14 := by injection e15
      subst e15'
      refine JS.loadO (id := id10) (sz := 1) (p := (IntKind.i64.wrap (a1 + x2)).toNat) (j := 0) (es := (vl fD x3)) (e := (cv fD w12)) 0 (by kernel_rfl) (vl_get h13) (by kernel_rfl) (by kernel_rfl) (by kernel_rfl) (by kernel_rfl) ?_
      refine JS.idxT (c := fD) (l := x3) (o := (some id10)) (kk := .i64) (z := (IntKind.i64.wrap (a1 + x2))) 0 (by kernel_rfl) (by kernel_rfl) (by kernel_rfl) (by kernel_rfl) (by kernel_rfl) (fun id18 w16 e19 h17 => ?_)
      have e19' : id10 = id18 := by injection e19
      subst e19'
      refine JS.storeO (id := id10) (sz := 1) (p := (IntKind.i64.wrap (a1 + x2)).toNat) (j := 0) (es := (vl fD x3)) (es2 := (vl fD (List.set x3 ((IntKind.i64.wrap (a1 + x2)).toNat) w8))) (e := (cv fD w16)) (w := .x (.flt w8)) 0 (by kernel_rfl) (vl_get h17) (by kernel_rfl) (by kernel_rfl) (by kernel_rfl) (vl_set (a := w8) (by kernel_rfl)) (by kernel_rfl) ?_
      refine JS.relen (o := (some id10)) (off := 0) (n := x3.length) (n' := (List.set x3 ((IntKind.i64.wrap (a1 + x2)).toNat) w8).length) 20 (by kernel_rfl) (by simp [vl]) ?_
      refine JS.idxT (c := fD) (l := (List.set x3 ((IntKind.i64.wrap (a1 + x2)).toNat) w8)) (o := (some id10)) (kk := .i64) (z := (IntKind.i64.wrap (a2 + x2))) 0 (by kernel_rfl) (by kernel_rfl) (by kernel_rfl) (by kernel_rfl) (by kernel_rfl) (fun id22 w20 e23 h21 => ?_)
      have e23' : id10 = id22 := by injection e23
      subst e23'
      refine JS.storeO (id := id10) (sz := 1) (p := (IntKind.i64.wrap (a2 + x2)).toNat) (j := 0) (es := (vl fD (List.set x3 ((IntKind.i64.wrap (a1 + x2)).toNat) w8))) (es2 := (vl fD (List.set (List.set x3 ((IntKind.i64.wrap (a1 + x2)).toNat) w8) ((IntKind.i64.wrap (a2 + x2)).toNat) w12))) (e := (cv fD w20)) (w := .x (.flt w12)) 0 (by kernel_rfl) (vl_get h21) (by kernel_rfl) (by kernel_rfl) (by kernel_rfl) (vl_set (a := w12) (by kernel_rfl)) (by kernel_rfl) ?_
      refine JS.nil ?_
      refine JC.to2 [(0, .ref (some id10) 0 x3.length), (1, .x (.int .i64 a1)), (2, .x (.int .i64 a2)), (3, .x (.int .i64 a3)), (10, .x (.int .i64 x2))] [⟨(some id10), 1, vl fD (List.set (List.set x3 ((IntKind.i64.wrap (a1 + x2)).toNat) w8) ((IntKind.i64.wrap (a2 + x2)).toNat) w12)⟩] (by kernel_rfl) (by kernel_rfl) ?_
      refine JC.skipB ?_
      refine JC.skipT ?_
      refine JC.region fun b24 => ?_
      refine JS.run 3 (by kernel_rfl) ?_
      refine JS.nil ?_
      refine JC.to2 [(0, .ref (some id10) 0 x3.length), (1, .x (.int .i64 a1)), (2, .x (.int .i64 a2)), (3, .x (.int .i64 a3)), (10, .x (.int .i64 (IntKind.i64.wrap (x2 + (1 : Int)))))] [⟨(some id10), 1, vl fD (List.set (List.set x3 ((IntKind.i64.wrap (a1 + x2)).toNat) w8) ((IntKind.i64.wrap (a2 + x2)).toNat) w12)⟩] (by kernel_rfl) (by kernel_rfl) ?_
      refine JC.skipL ?_
      refine JC.relen (o := (some id10)) (off := 0) (n := x3.length) (n' := (List.set (List.set x3 ((IntKind.i64.wrap (a1 + x2)).toNat) w8) ((IntKind.i64.wrap (a2 + x2)).toNat) w12).length) 0 (by kernel_rfl) (by simp [vl]) ?_
      refine JC.to2 [(0, .ref (some id10) 0 ((List.set (List.set x3 ((IntKind.i64.wrap (a1 + x2)).toNat) w8) ((IntKind.i64.wrap (a2 + x2)).toNat) w12).length)), (1, .x (.int .i64 a1)), (2, .x (.int .i64 a2)), (3, .x (.int .i64 a3)), (10, .x (.int .i64 (IntKind.i64.wrap (x2 + (1 : Int)))))] [⟨(some id10), 1, vl fD (List.set (List.set x3 ((IntKind.i64.wrap (a1 + x2)).toNat) w8) ((IntKind.i64.wrap (a2 + x2)).toNat) w12)⟩] (by kernel_rfl) (by kernel_rfl) ?_
      exact ih (IntKind.i64.wrap (x2 + (1 : Int))) (List.set (List.set x3 ((IntKind.i64.wrap (a1 + x2)).toNat) w8) ((IntKind.i64.wrap (a2 + x2)).toNat) w12)
    · refine JC.exitT ?_
      refine JC.exitL ?_
      refine JC.to2 [(0, .ref o0 0 x3.length)] [⟨o0, 1, vl fD x3⟩] (by kernel_rfl) (by kernel_rfl) ?_
      exact JC.got (ex := (.exit 0)) rfl ⟨rfl, rfl, rfl⟩
def slices_swapRangeCmpFunc (k : Nat) (a0 : (List Fl)) (a1 : Int) (a2 : Int) (a3 : Int) : Option (List Fl) :=
  (slices_swapRangeCmpFunc_l0 a1 a2 a3 k (0 : Int) a0).bind fun y4 => keepL a0 y4
theorem slices_swapRangeCmpFunc_ok (k : Nat) : ∀ (a0 : (List Fl)) (a1 : Int) (a2 : Int) (a3 : Int) (r : (List Fl)), slices_swapRangeCmpFunc k a0 a1 a2 a3 = some r → InOk prog 37 1 fD [.x (.int .i64 a1), .x (.int .i64 a2), .x (.int .i64 a3), .x (.fn 26)] a0 r := by
  intro a0 a1 a2 a3
  refine InOk.of (pf := pf37) rfl rfl rfl rfl ?_
  intro fr o0
  unfold slices_swapRangeCmpFunc pf37
  refine JC.seq ?_
  refine JC.region fun b1 => ?_
  refine JS.run 1 (by kernel_rfl) ?_
  refine JS.nil ?_
  refine JC.to2 [(0, .ref o0 0 a0.length), (1, .x (.int .i64 a1)), (2, .x (.int .i64 a2)), (3, .x (.int .i64 a3)), (10, .x (.int .i64 (0 : Int)))] [⟨o0, 1, vl fD a0⟩] (by kernel_rfl) (by kernel_rfl) ?_
  refine JC.skipT ?_
  refine JC.block ?_
  refine JC.to2 [(0, .ref o0 0 a0.length), (1, .x (.int .i64 a1)), (2, .x (.int .i64 a2)), (3, .x (.int .i64 a3)), (10, .x (.int .i64 (0 : Int)))] [⟨o0, 1, vl fD a0⟩] (by kernel_rfl) (by kernel_rfl) ?_
  refine JC.to2 [(0, .ref o0 0 a0.length), (1, .x (.int .i64 a1)), (2, .x (.int .i64 a2)), (3, .x (.int .i64 a3)), (10, .x (.int .i64 (0 : Int)))] [⟨o0, 1, vl fD a0⟩] (by kernel_rfl) (by kernel_rfl) ?_
  refine JC.bind (A := fun v ex E R => ex = (.exit 0) ∧ E = [(0, .ref o0 0 v.length)] ∧ R = [⟨o0, 1, vl fD v⟩]) (slices_swapRangeCmpFunc_l0_ok a1 a2 a3 fr o0 k (0 : Int) a0) ?_
  rintro y4 ex E' R' hA
  obtain ⟨rfl, rfl, rfl⟩ := hA
  refine JC.to2 [(0, .ref o0 0 y4.length)] [⟨o0, 1, vl fD y4⟩] (by kernel_rfl) (by kernel_rfl) ?_
  refine JC.exitB ?_
  exact JC.finI (ex := .normal) (l := a0) rfl normal_ne rfl
/-! slices.rotateCmpFunc[float64] -/
def slices_rotateCmpFunc_l0 (a2 : Int) : Nat → Int → Int → (List Fl) → Option ((List Fl) × Int)
  | 0, _, _, _ => none
  | k + 1, x3, x4, x5 => cond (x3 != x4) (cond (decide (x3 > x4)) ((slices_swapRangeCmpFunc k x5 (IntKind.i64.wrap (a2 - x3)) a2 x4).bind fun r13 => slices_rotateCmpFunc_l0 a2 k (IntKind.i64.wrap (x3 - x4)) x4 r13) ((slices_swapRangeCmpFunc k x5 (IntKind.i64.wrap (a2 - x3)) (IntKind.i64.wrap ((IntKind.i64.wrap (a2 + x4)) - x3)) x3).bind fun r18 => slices_rotateCmpFunc_l0 a2 k x3 (IntKind.i64.wrap (x4 - x3)) r18)) (some (x5, x3))
theorem slices_rotateCmpFunc_l0_ok (a2 : Int) (fr : Nat → Option Blk) (o0 : Option Nat) : ∀ (k : Nat) (x3 : Int) (x4 : Int) (x5 : (List Fl)), JC prog fr 58 [(0, .ref o0 0 x5.length), (2, .x (.int .i64 a2)), (4, .x (.fn 26)), (10, .x (.int .i64 x3)), (11, .x (.int .i64 x4))] [⟨o0, 1, vl fD x5⟩] (.loop pf36_L0) (slices_rotateCmpFunc_l0 a2 k x3 x4 x5) (fun x => GotA 58 fr ((fun v ex E R => ex = (.exit 0) ∧ E = [(0, .ref o0 0 v.1.length), (2, .x (.int .i64 a2)), (4, .x (.fn 26)), (10, .x (.int .i64 v.2))] ∧ R = [⟨o0, 1, vl fD v.1⟩]) x)) := by
  intro k
  induction k with
  | zero =>
    intro x3 x4 x5
    exact JC.no
  | succ k ih =>
    intro x3 x4 x5
    rw [slices_rotateCmpFunc_l0]
    refine JC.loop ?_
    refine JC.seq ?_
    refine JC.seq ?_
    refine JC.region fun b8 => ?_
    refine JS.run 3 (by kernel_rfl) ?_
    refine JS.nil ?_
    refine JC.to2 [(0, .ref o0 0 x5.length), (2, .x (.int .i64 a2)), (4, .x (.fn 26)), (10, .x (.int .i64 x3)), (11, .x (.int .i64 x4)), (20, .x (.bool (x3 != x4)))] [⟨o0, 1, vl fD x5⟩] (by kernel_rfl) (by kernel_rfl) ?_
    refine JC.skipT ?_
    refine JC.cond (e := (x3 != x4)) (by kernel_rfl) (fun h9 => ?_) (fun h9 => ?_)
    · refine JC.skipT ?_
      refine JC.block ?_
      refine JC.seq ?_
      refine JC.region fun b10 => ?_
      refine JS.run 3 (by kernel_rfl) ?_
      refine JS.nil ?_
      refine JC.to2 [(0, .ref o0 0 x5.length), (2, .x (.int .i64 a2)), (4, .x (.fn 26)), (10, .x (.int .i64 x3)), (11, .x (.int .i64 x4)), (23, .x (.bool (decide (x3 > x4))))] [⟨o0, 1, vl fD x5⟩] (by kernel_rfl) (by kernel_rfl) ?_
      refine JC.skipT ?_
      refine JC.cond (e := (decide (x3 > x4))) (by kernel_rfl) (fun h11 => ?_) (fun h11 => ?_)
      · refine JC.seq ?_
        refine JC.region fun b12 => ?_
        refine JS.run 7 (by kernel_rfl) ?_
        refine JS.bind fun r13 h14 => ?_
        refine JS.callI (args := [.x (.int .i64 (IntKind.i64.wrap (a2 - x3))), .x (.int .i64 a2), .x (.int .i64 x4), .x (.fn 26)]) (l := x5) (o := o0) [] (slices_swapRangeCmpFunc_ok k x5 (IntKind.i64.wrap (a2 - x3)) a2 x4 r13 h14) (by kernel_rfl) (by kernel_rfl) (by kernel_rfl) (by kernel_rfl) (fun h15 => ?_)
        refine JS.relen (o := o0) (off := 0) (n := x5.length) (n' := r13.length) 0 (by kernel_rfl) h15.symm ?_
        refine JS.relen (o := o0) (off := 0) (n := x5.length) (n' := r13.length) 24 (by kernel_rfl) h15.symm ?_
        refine JS.nil ?_
        refine JC.to2 [(0, .ref o0 0 r13.length), (2, .x (.int .i64 a2)), (4, .x (.fn 26)), (10, .x (.int .i64 x3)), (11, .x (.int .i64 x4))] [⟨o0, 1, vl fD r13⟩] (by kernel_rfl) (by kernel_rfl) ?_
        refine JC.skipT ?_
        refine JC.region fun b16 => ?_
        refine JS.run 4 (by kernel_rfl) ?_
        refine JS.nil ?_
        refine JC.to2 [(0, .ref o0 0 r13.length), (2, .x (.int .i64 a2)), (4, .x (.fn 26)), (10, .x (.int .i64 (IntKind.i64.wrap (x3 - x4)))), (11, .x (.int .i64 x4))] [⟨o0, 1, vl fD r13⟩] (by kernel_rfl) (by kernel_rfl) ?_
        refine JC.skipB ?_
        refine JC.skipL ?_
        refine JC.to2 [(0, .ref o0 0 r13.length), (2, .x (.int .i64 a2)), (4, .x (.fn 26)), (10, .x (.int .i64 (IntKind.i64.wrap (x3 - x4)))), (11, .x (.int .i64 x4))] [⟨o0, 1, vl fD r13⟩] (by kernel_rfl) (by kernel_rfl) ?_
        exact ih (IntKind.i64.wrap (x3 - x4)) x4 r13
      · refine JC.seq ?_
        refine JC.region fun b17 => ?_
        refine JS.run 11 (by kernel_rfl) ?_
        refine JS.bind fun r18 h19 => ?_
        refine JS.callI (args := [.x (.int .i64 (IntKind.i64.wrap (a2 - x3))), .x (.int .i64 (IntKind.i64.wrap ((IntKind.i64.wrap (a2 + x4)) - x3))), .x (.int .i64 x3), .x (.fn 26)]) (l := x5) (o := o0) [] (slices_swapRangeCmpFunc_ok k x5 (IntKind.i64.wrap (a2 - x3)) (IntKind.i64.wrap ((IntKind.i64.wrap (a2 + x4)) - x3)) x3 r18 h19) (by kernel_rfl) (by kernel_rfl) (by kernel_rfl) (by kernel_rfl) (fun h20 => ?_)
        refine JS.relen (o := o0) (off := 0) (n := x5.length) (n' := r18.length) 0 (by kernel_rfl) h20.symm ?_
        refine JS.relen (o := o0) (off := 0) (n := x5.length) (n' := r18.length) 35 (by kernel_rfl) h20.symm ?_
        refine JS.nil ?_
        refine JC.to2 [(0, .ref o0 0 r18.length), (2, .x (.int .i64 a2)), (4, .x (.fn 26)), (10, .x (.int .i64 x3)), (11, .x (.int .i64 x4))] [⟨o0, 1, vl fD r18⟩] (by kernel_rfl) (by kernel_rfl) ?_
        refine JC.skipT ?_
        refine JC.region fun b21 => ?_
        refine JS.run 4 (by kernel_rfl) ?_
        refine JS.nil ?_
        refine JC.to2 [(0, .ref o0 0 r18.length), (2, .x (.int .i64 a2)), (4, .x (.fn 26)), (10, .x (.int .i64 x3)), (11, .x (.int .i64 (IntKind.i64.wrap (x4 - x3))))] [⟨o0, 1, vl fD r18⟩] (by kernel_rfl) (by kernel_rfl) ?_
        refine JC.skipB ?_
        refine JC.skipL ?_
        refine JC.to2 [(0, .ref o0 0 r18.length), (2, .x (.int .i64 a2)), (4, .x (.fn 26)), (10, .x (.int .i64 x3)), (11, .x (.int .i64 (IntKind.i64.wrap (x4 - x3))))] [⟨o0, 1, vl fD r18⟩] (by kernel_rfl) (by kernel_rfl) ?_
        exact ih x3 (IntKind.i64.wrap (x4 - x3)) r18
    · refine JC.exitT ?_
      refine JC.exitL ?_
      refine JC.to2 [(0, .ref o0 0 x5.length), (2, .x (.int .i64 a2)), (4, .x (.fn 26)), (10, .x (.int .i64 x3))] [⟨o0, 1, vl fD x5⟩] (by kernel_rfl) (by kernel_rfl) ?_
      exact JC.got (ex := (.exit 0)) rfl ⟨rfl, rfl, rfl⟩
def slices_rotateCmpFunc (k : Nat) (a0 : (List Fl)) (a1 : Int) (a2 : Int) (a3 : Int) : Option (List Fl) :=
  (slices_rotateCmpFunc_l0 a2 k (IntKind.i64.wrap (a2 - a1)) (IntKind.i64.wrap (a3 - a2)) a0).bind fun (y6, y7) => (slices_swapRangeCmpFunc k y6 (IntKind.i64.wrap (a2 - y7)) a2 y7).bind fun r23 => keepL a0 r23
theorem slices_rotateCmpFunc_ok (k : Nat) : ∀ (a0 : (List Fl)) (a1 : Int) (a2 : Int) (a3 : Int) (r : (List Fl)), slices_rotateCmpFunc k a0 a1 a2 a3 = some r → InOk prog 36 1 fD [.x (.int .i64 a1), .x (.int .i64 a2), .x (.int .i64 a3), .x (.fn 26)] a0 r := by
  intro a0 a1 a2 a3
  refine InOk.of (pf := pf36) rfl rfl rfl rfl ?_
  intro fr o0
  unfold slices_rotateCmpFunc pf36
  refine JC.seq ?_
  refine JC.region fun b1 => ?_
  refine JS.run 4 (by kernel_rfl) ?_
  refine JS.nil ?_
  refine JC.to2 [(0, .ref o0 0 a0.length), (2, .x (.int .i64 a2)), (3, .x (.int .i64 a3)), (4, .x (.fn 26)), (10, .x (.int .i64 (IntKind.i64.wrap (a2 - a1))))] [⟨o0, 1, vl fD a0⟩] (by kernel_rfl) (by kernel_rfl) ?_
  refine JC.skipT ?_
  refine JC.seq ?_
  refine JC.region fun b2 => ?_
  refine JS.run 4 (by kernel_rfl) ?_
  refine JS.nil ?_
  refine JC.to2 [(0, .ref o0 0 a0.length), (2, .x (.int .i64 a2)), (4, .x (.fn 26)), (10, .x (.int .i64 (IntKind.i64.wrap (a2 - a1)))), (11, .x (.int .i64 (IntKind.i64.wrap (a3 - a2))))] [⟨o0, 1, vl fD a0⟩] (by kernel_rfl) (by kernel_rfl) ?_
  refine JC.skipT ?_
  refine JC.seq ?_
  refine JC.block ?_
  refine JC.to2 [(0, .ref o0 0 a0.length), (2, .x (.int .i64 a2)), (4, .x (.fn 26)), (10, .x (.int .i64 (IntKind.i64.wrap (a2 - a1)))), (11, .x (.int .i64 (IntKind.i64.wrap (a3 - a2))))] [⟨o0, 1, vl fD a0⟩] (by kernel_rfl) (by kernel_rfl) ?_
  refine JC.to2 [(0, .ref o0 0 a0.length), (2, .x (.int .i64 a2)), (4, .x (.fn 26)), (10, .x (.int .i64 (IntKind.i64.wrap (a2 - a1)))), (11, .x (.int .i64 (IntKind.i64.wrap (a3 - a2))))] [⟨o0, 1, vl fD a0⟩] (by kernel_rfl) (by kernel_rfl) ?_
  refine JC.bind (A := fun v ex E R => ex = (.exit 0) ∧ E = [(0, .ref o0 0 v.1.length), (2, .x (.int .i64 a2)), (4, .x (.fn 26)), (10, .x (.int .i64 v.2))] ∧ R = [⟨o0, 1, vl fD v.1⟩]) (slices_rotateCmpFunc_l0_ok a2 fr o0 k (IntKind.i64.wrap (a2 - a1)) (IntKind.i64.wrap (a3 - a2)) a0) ?_
  rintro ⟨y6, y7⟩ ex E' R' hA
  obtain ⟨rfl, rfl, rfl⟩ := hA
  refine JC.to2 [(0, .ref o0 0 y6.length), (2, .x (.int .i64 a2)), (4, .x (.fn 26)), (10, .x (.int .i64 y7))] [⟨o0, 1, vl fD y6⟩] (by kernel_rfl) (by kernel_rfl) ?_
  refine JC.exitB ?_
  refine JC.skipT ?_
  refine JC.region fun b22 => ?_
  refine JS.run 7 (by kernel_rfl) ?_
  refine JS.bind fun r23 h24 => ?_
  refine JS.callI (args := [.x (.int .i64 (IntKind.i64.wrap (a2 - y7))), .x (.int .i64 a2), .x (.int .i64 y7), .x (.fn 26)]) (l := y6) (o := o0) [] (slices_swapRangeCmpFunc_ok k y6 (IntKind.i64.wrap (a2 - y7)) a2 y7 r23 h24) (by kernel_rfl) (by kernel_rfl) (by kernel_rfl) (by kernel_rfl) (fun h25 => ?_)
  refine JS.relen (o := o0) (off := 0) (n := y6.length) (n' := r23.length) 0 (by kernel_rfl) h25.symm ?_
  refine JS.relen (o := o0) (off := 0) (n := y6.length) (n' := r23.length) 50 (by kernel_rfl) h25.symm ?_
  refine JS.nil ?_
  refine JC.to2 [(0, .ref o0 0 r23.length)] [⟨o0, 1, vl fD r23⟩] (by kernel_rfl) (by kernel_rfl) ?_
  exact JC.finI (ex := .normal) (l := a0) rfl normal_ne rfl
/-! slices.insertionSortCmpFunc[float64] -/
def slices_insertionSortCmpFunc_l1 (a1 : Int) (a2 : Int) (x2 : Int) : Nat → Int → (List Fl) → Option (List Fl)
  | 0, _, _ => none
  | k + 1, x8, x9 => (cond (decide (x8 > a1)) ((at? x9 x8).bind fun w14 => (at? x9 (IntKind.i64.wrap (x8 - (1 : Int)))).bind fun w18 => (weigh_Order k w14 w18).bind fun r22 => some (decide (r22 < (0 : Int)))) (some false)).bind fun y11 => cond y11 ((at? x9 (IntKind.i64.wrap (x8 - (1 : Int)))).bind fun w26 => (at? x9 x8).bind fun w30 => (at? x9 x8).bind fun w34 => (at? (List.set x9 x8.toNat w26) (IntKind.i64.wrap (x8 - (1 : Int)))).bind fun w38 => slices_insertionSortCmpFunc_l1 a1 a2 x2 k (IntKind.i64.wrap (x8 - (1 : Int))) (List.set (List.set x9 x8.toNat w26) ((IntKind.i64.wrap (x8 - (1 : Int))).toNat) w30)) (some x9)
theorem slices_insertionSortCmpFunc_l1_ok (a1 : Int) (a2 : Int) (x2 : Int) (fr : Nat → Option Blk) (o0 : Option Nat) : ∀ (k : Nat) (x8 : Int) (x9 : (List Fl)), JC prog fr 53 [(0, .ref o0 0 x9.length), (1, .x (.int .i64 a1)), (2, .x (.int .i64 a2)), (3, .x (.fn 26)), (8, .x (.int .i64 x2)), (9, .x (.int .i64 x8))] [⟨o0, 1, vl fD x9⟩] (.loop pf33_L0) (slices_insertionSortCmpFunc_l1 a1 a2 x2 k x8 x9) (fun x => GotA 53 fr ((fun v ex E R => ex = (.exit 2) ∧ E = [(0, .ref o0 0 v.length), (1, .x (.int .i64 a1)), (2, .x (.int .i64 a2)), (3, .x (.fn 26)), (8, .x (.int .i64 x2))] ∧ R = [⟨o0, 1, vl fD v⟩]) x)) := by
  intro k
  induction k with
  | zero =>
    intro x8 x9
    exact JC.no
  | succ k ih =>
    intro x8 x9
    rw [slices_insertionSortCmpFunc_l1]
    refine JC.loop ?_
    refine JC.seq ?_
    refine JC.seq ?_
    refine JC.bind (A := fun v ex E R => ex = .normal ∧ E = [(0, .ref o0 0 x9.length), (1, .x (.int .i64 a1)), (2, .x (.int .i64 a2)), (3, .x (.fn 26)), (8, .x (.int .i64 x2)), (9, .x (.int .i64 x8)), (34, .x (.bool v))] ∧ R = [⟨o0, 1, vl fD x9⟩]) ?_ ?_
    · refine JC.region fun b12 => ?_
      refine JS.run 4 (by kernel_rfl) ?_
      refine JS.split (e := (decide (x8 > a1))) 21 (by kernel_rfl) (fun h13 => ?_) (fun h13 => ?_)
      · refine JS.run 3 (by kernel_rfl) ?_
        refine JS.idxT (c := fD) (l := x9) (o := o0) (kk := .i64) (z := x8) 0 (by kernel_rfl) (by kernel_rfl) (by kernel_rfl) (by kernel_rfl) (by kernel_rfl) (fun id16 w14 e17 h15 => ?_)
        subst e17
        refine JS.loadO (id := id16) (sz := 1) (p := x8.toNat) (j := 0) (es := (vl fD x9)) (e := (cv fD w14)) 0 (by kernel_rfl) (vl_get h15) (by kernel_rfl) (by kernel_rfl) (by kernel_rfl) (by kernel_rfl) ?_
        refine JS.run 3 (by kernel_rfl) ?_
        refine JS.idxT (c := fD) (l := x9) (o := (some id16)) (kk := .i64) (z := (IntKind.i64.wrap (x8 - (1 : Int)))) 0 (by kernel_rfl) (by kernel_rfl) (by kernel_rfl) (by kernel_rfl) (by kernel_rfl) (fun id20 w18 e21 h19 => ?_)
        have e21' : id16 = id20 := by injection e21
        subst e21'
        refine JS.loadO (id := id16) (sz := 1) (p := (IntKind.i64.wrap (x8 - (1 : Int))).toNat) (j := 0) (es := (vl fD x9)) (e := (cv fD w18)) 0 (by kernel_rfl) (vl_get h19) (by kernel_rfl) (by kernel_rfl) (by kernel_rfl) (by kernel_rfl) ?_
        refine JS.toCallQ (p := 26) (by kernel_rfl) (by kernel_rfl) ?_
        refine JS.bind fun r22 h23 => ?_
        refine JS.callQS [] (weigh_Order_ok k w14 w18 r22 h23) ⟨rfl, argX (d := (.flt w14)) (by kernel_rfl) (by kernel_rfl), rfl, argX (d := (.flt w18)) (by kernel_rfl) (by kernel_rfl), trivial⟩ (by kernel_rfl) (by kernel_rfl) (by kernel_rfl) ?_
        refine JS.run 2 (by kernel_rfl) ?_
        refine JS.nil ?_
        refine JC.to2 [(0, .ref (some id16) 0 x9.length), (1, .x (.int .i64 a1)), (2, .x (.int .i64 a2)), (3, .x (.fn 26)), (8, .x (.int .i64 x2)), (9, .x (.int .i64 x8)), (34, .x (.bool (decide (r22 < (0 : Int)))))] [⟨(some id16), 1, vl fD x9⟩] (by kernel_rfl) (by kernel_rfl) ?_
        refine JC.to2 [(0, .ref (some id16) 0 x9.length), (1, .x (.int .i64 a1)), (2, .x (.int .i64 a2)), (3, .x (.fn 26)), (8, .x (.int .i64 x2)), (9, .x (.int .i64 x8)), (34, .x (.bool (decide (r22 < (0 : Int)))))] [⟨(some id16), 1, vl fD x9⟩] (by kernel_rfl) (by kernel_rfl) ?_
        exact JC.got (ex := .normal) rfl ⟨rfl, rfl, rfl⟩
      · refine JS.run 13 (by kernel_rfl) ?_
        refine JS.nil ?_
        refine JC.to2 [(0, .ref o0 0 x9.length), (1, .x (.int .i64 a1)), (2, .x (.int .i64 a2)), (3, .x (.fn 26)), (8, .x (.int .i64 x2)), (9, .x (.int .i64 x8)), (34, .x (.bool false))] [⟨o0, 1, vl fD x9⟩] (by kernel_rfl) (by kernel_rfl) ?_
        refine JC.to2 [(0, .ref o0 0 x9.length), (1, .x (.int .i64 a1)), (2, .x (.int .i64 a2)), (3, .x (.fn 26)), (8, .x (.int .i64 x2)), (9, .x (.int .i64 x8)), (34, .x (.bool false))] [⟨o0, 1, vl fD x9⟩] (by kernel_rfl) (by kernel_rfl) ?_
        exact JC.got (ex := .normal) rfl ⟨rfl, rfl, rfl⟩
    · rintro y11 ex E' R' hA
      obtain ⟨rfl, rfl, rfl⟩ := hA
      refine JC.to2 [(0, .ref o0 0 x9.length), (1, .x (.int .i64 a1)), (2, .x (.int .i64 a2)), (3, .x (.fn 26)), (8, .x (.int .i64 x2)), (9, .x (.int .i64 x8)), (34, .x (.bool y11))] [⟨o0, 1, vl fD x9⟩] (by kernel_rfl) (by kernel_rfl) ?_
      refine JC.skipT ?_
      refine JC.cond (e := y11) (by kernel_rfl) (fun h24 => ?_) (fun h24 => ?_)
      · refine JC.skipT ?_
        refine JC.seq ?_
        refine JC.block ?_
        refine JC.region fun b25 => ?_
        refine JS.run 8 (by kernel_rfl) ?_
        refine JS.idxT (c := fD) (l := x9) (o := o0) (kk := .i64) (z := (IntKind.i64.wrap (x8 - (1 : Int)))) 0 (by kernel_rfl) (by kernel_rfl) (by kernel_rfl) (by kernel_rfl) (by kernel_rfl) (fun id28 w26 e29 h27 => ?_)
        subst e29
        refine JS.loadO (id := id28) (sz := 1) (p := (IntKind.i64.wrap (x8 - (1 : Int))).toNat) (j := 0) (es := (vl fD x9)) (e := (cv fD w26)) 0 (by kernel_rfl) (vl_get h27) (by kernel_rfl) (by kernel_rfl) (by kernel_rfl) (by kernel_rfl) ?_
        refine JS.run 2 (by kernel_rfl) ?_
        refine JS.idxT (c := fD) (l := x9) (o := (some id28)) (kk := .i64) (z := x8) 0 (by kernel_rfl) (by kernel_rfl) (by kernel_rfl) (by kernel_rfl) (by kernel_rfl) (fun id32 w30 e33 h31 => ?_)
        have e33' : id28 = id32 := by injection e33
        subst e33'
        refine JS.loadO (id := id28) (sz := 1) (p := x8.toNat) (j := 0) (es := (vl fD x9)) (e := (cv fD w30)) 0 (by kernel_rfl) (vl_get h31) (by kernel_rfl) (by kernel_rfl) (by kernel_rfl) (by kernel_rfl) ?_
        refine JS.idxT (c := fD) (l := x9) (o := (some id28)) (kk := .i64) (z := x8) 0 (by kernel_rfl) (by kernel_rfl) (by kernel_rfl) (by kernel_rfl) (by kernel_rfl) (fun id36 w34 e37 h35 => ?_)
        have e37' : id28 = id36 := by injection e37
        subst e37'
        refine JS.storeO (id := id28) (sz := 1) (p := x8.toNat) (j := 0) (es := (vl fD x9)) (es2 := (vl fD (List.set x9 x8.toNat w26))) (e := (cv fD w34)) (w := .x (.flt w26)) 0 (by kernel_rfl) (vl_get h35) (by kernel_rfl) (by kernel_rfl) (by kernel_rfl) (vl_set (a := w26) (by kernel_rfl)) (by kernel_rfl) ?_
        refine JS.relen (o := (some id28)) (off := 0) (n := x9.length) (n' := (List.set x9 x8.toNat w26).length) 39 (by kernel_rfl) (by simp [vl]) ?_
        refine JS.idxT (c := fD) (l := (List.set x9 x8.toNat w26)) (o := (some id28)) (kk := .i64) (z := (IntKind.i64.wrap (x8 - (1 : Int)))) 0 (by kernel_rfl) (by kernel_rfl) (by kernel_rfl) (by kernel_rfl) (by kernel_rfl) (fun id40 w38 e41 h39 => ?_)
        have e41' : id28 = id40 := by injection e41
        subst e41'
        refine JS.storeO (id := id28) (sz := 1) (p := (IntKind.i64.wrap (x8 - (1 : Int))).toNat) (j := 0) (es := (vl fD (List.set x9 x8.toNat w26))) (es2 := (vl fD (List.set (List.set x9 x8.toNat w26) ((IntKind.i64.wrap (x8 - (1 : Int))).toNat) w30))) (e := (cv fD w38)) (w := .x (.flt w30)) 0 (by kernel_rfl) (vl_get h39) (by kernel_rfl) (by kernel_rfl) (by kernel_rfl) (vl_set (a := w30) (by kernel_rfl)) (by kernel_rfl) ?_
        refine JS.nil ?_
        refine JC.to2 [(0, .ref (some id28) 0 x9.length), (1, .x (.int .i64 a1)), (2, .x (.int .i64 a2)), (3, .x (.fn 26)), (8, .x (.int .i64 x2)), (9, .x (.int .i64 x8))] [⟨(some id28), 1, vl fD (List.set (List.set x9 x8.toNat w26) ((IntKind.i64.wrap (x8 - (1 : Int))).toNat) w30)⟩] (by kernel_rfl) (by kernel_rfl) ?_
        refine JC.skipB ?_
        refine JC.skipT ?_
        refine JC.region fun b42 => ?_
        refine JS.run 3 (by kernel_rfl) ?_
        refine JS.nil ?_
        refine JC.to2 [(0, .ref (some id28) 0 x9.length), (1, .x (.int .i64 a1)), (2, .x (.int .i64 a2)), (3, .x (.fn 26)), (8, .x (.int .i64 x2)), (9, .x (.int .i64 (IntKind.i64.wrap (x8 - (1 : Int)))))] [⟨(some id28), 1, vl fD (List.set (List.set x9 x8.toNat w26) ((IntKind.i64.wrap (x8 - (1 : Int))).toNat) w30)⟩] (by kernel_rfl) (by kernel_rfl) ?_
        refine JC.skipL ?_
        refine JC.relen (o := (some id28)) (off := 0) (n := x9.length) (n' := (List.set (List.set x9 x8.toNat w26) ((IntKind.i64.wrap (x8 - (1 : Int))).toNat) w30).length) 0 (by kernel_rfl) (by simp [vl]) ?_
        refine JC.to2 [(0, .ref (some id28) 0 ((List.set (List.set x9 x8.toNat w26) ((IntKind.i64.wrap (x8 - (1 : Int))).toNat) w30).length)), (1, .x (.int .i64 a1)), (2, .x (.int .i64 a2)), (3, .x (.fn 26)), (8, .x (.int .i64 x2)), (9, .x (.int .i64 (IntKind.i64.wrap (x8 - (1 : Int)))))] [⟨(some id28), 1, vl fD (List.set (List.set x9 x8.toNat w26) ((IntKind.i64.wrap (x8 - (1 : Int))).toNat) w30)⟩] (by kernel_rfl) (by kernel_rfl) ?_
        exact ih (IntKind.i64.wrap (x8 - (1 : Int))) (List.set (List.set x9 x8.toNat w26) ((IntKind.i64.wrap (x8 - (1 : Int))).toNat) w30)
      · refine JC.exitT ?_
        refine JC.exitL ?_
        refine JC.to2 [(0, .ref o0 0 x9.length), (1, .x (.int .i64 a1)), (2, .x (.int .i64 a2)), (3, .x (.fn 26)), (8, .x (.int .i64 x2))] [⟨o0, 1, vl fD x9⟩] (by kernel_rfl) (by kernel_rfl) ?_
        exact JC.got (ex := (.exit 2)) rfl ⟨rfl, rfl, rfl⟩
def slices_insertionSortCmpFunc_l0 (a1 : Int) (a2 : Int) : Nat → Int → (List Fl) → Option (List Fl)
  | 0, _, _ => none
  | k + 1, x2, x3 => cond (decide (x2 < a2)) ((slices_insertionSortCmpFunc_l1 a1 a2 x2 k x2 x3).bind fun y10 => slices_insertionSortCmpFunc_l0 a1 a2 k (IntKind.i64.wrap (x2 + (1 : Int))) y10) (some x3)
theorem slices_insertionSortCmpFunc_l0_ok (a1 : Int) (a2 : Int) (fr : Nat → Option Blk) (o0 : Option Nat) : ∀ (k : Nat) (x2 : Int) (x3 : (List Fl)), JC prog fr 53 [(0, .ref o0 0 x3.length), (1, .x (.int .i64 a1)), (2, .x (.int .i64 a2)), (3, .x (.fn 26)), (8, .x (.int .i64 x2))] [⟨o0, 1, vl fD x3⟩] (.loop pf33_L1) (slices_insertionSortCmpFunc_l0 a1 a2 k x2 x3) (fun x => GotA 53 fr ((fun v ex E R => ex = (.exit 0) ∧ E = [(0, .ref o0 0 v.length)] ∧ R = [⟨o0, 1, vl fD v⟩]) x)) := by
  intro k
  induction k with
  | zero =>
    intro x2 x3
    exact JC.no
  | succ k ih =>
    intro x2 x3
    rw [slices_insertionSortCmpFunc_l0]
    refine JC.loop ?_
    refine JC.seq ?_
    refine JC.seq ?_
    refine JC.region fun b5 => ?_
    refine JS.run 3 (by kernel_rfl) ?_
    refine JS.nil ?_
    refine JC.to2 [(0, .ref o0 0 x3.length), (1, .x (.int .i64 a1)), (2, .x (.int .i64 a2)), (3, .x (.fn 26)), (8, .x (.int .i64 x2)), (14, .x (.bool (decide (x2 < a2))))] [⟨o0, 1, vl fD x3⟩] (by kernel_rfl) (by kernel_rfl) ?_
    refine JC.skipT ?_
    refine JC.cond (e := (decide (x2 < a2))) (by kernel_rfl) (fun h6 => ?_) (fun h6 => ?_)
    · refine JC.skipT ?_
      refine JC.seq ?_
      refine JC.block ?_
      refine JC.seq ?_
      refine JC.region fun b7 => ?_
      refine JS.run 2 (by kernel_rfl) ?_
      refine JS.nil ?_
      refine JC.to2 [(0, .ref o0 0 x3.length), (1, .x (.int .i64 a1)), (2, .x (.int .i64 a2)), (3, .x (.fn 26)), (8, .x (.int .i64 x2)), (9, .x (.int .i64 x2))] [⟨o0, 1, vl fD x3⟩] (by kernel_rfl) (by kernel_rfl) ?_
      refine JC.skipT ?_
      refine JC.block ?_
      refine JC.to2 [(0, .ref o0 0 x3.length), (1, .x (.int .i64 a1)), (2, .x (.int .i64 a2)), (3, .x (.fn 26)), (8, .x (.int .i64 x2)), (9, .x (.int .i64 x2))] [⟨o0, 1, vl fD x3⟩] (by kernel_rfl) (by kernel_rfl) ?_
      refine JC.to2 [(0, .ref o0 0 x3.length), (1, .x (.int .i64 a1)), (2, .x (.int .i64 a2)), (3, .x (.fn 26)), (8, .x (.int .i64 x2)), (9, .x (.int .i64 x2))] [⟨o0, 1, vl fD x3⟩] (by kernel_rfl) (by kernel_rfl) ?_
      refine JC.bind (A := fun v ex E R => ex = (.exit 2) ∧ E = [(0, .ref o0 0 v.length), (1, .x (.int .i64 a1)), (2, .x (.int .i64 a2)), (3, .x (.fn 26)), (8, .x (.int .i64 x2))] ∧ R = [⟨o0, 1, vl fD v⟩]) (slices_insertionSortCmpFunc_l1_ok a1 a2 x2 fr o0 k x2 x3) ?_
      rintro y10 ex E' R' hA
      obtain ⟨rfl, rfl, rfl⟩ := hA
      refine JC.to2 [(0, .ref o0 0 y10.length), (1, .x (.int .i64 a1)), (2, .x (.int .i64 a2)), (3, .x (.fn 26)), (8, .x (.int .i64 x2))] [⟨o0, 1, vl fD y10⟩] (by kernel_rfl) (by kernel_rfl) ?_
      refine JC.exitB ?_
      refine JC.skipB ?_
      refine JC.skipT ?_
      refine JC.region fun b43 => ?_
      refine JS.run 3 (by kernel_rfl) ?_
      refine JS.nil ?_
      refine JC.to2 [(0, .ref o0 0 y10.length), (1, .x (.int .i64 a1)), (2, .x (.int .i64 a2)), (3, .x (.fn 26)), (8, .x (.int .i64 (IntKind.i64.wrap (x2 + (1 : Int)))))] [⟨o0, 1, vl fD y10⟩] (by kernel_rfl) (by kernel_rfl) ?_
      refine JC.skipL ?_
      refine JC.to2 [(0, .ref o0 0 y10.length), (1, .x (.int .i64 a1)), (2, .x (.int .i64 a2)), (3, .x (.fn 26)), (8, .x (.int .i64 (IntKind.i64.wrap (x2 + (1 : Int)))))] [⟨o0, 1, vl fD y10⟩] (by kernel_rfl) (by kernel_rfl) ?_
      exact ih (IntKind.i64.wrap (x2 + (1 : Int))) y10
    · refine JC.exitT ?_
      refine JC.exitL ?_
      refine JC.to2 [(0, .ref o0 0 x3.length)] [⟨o0, 1, vl fD x3⟩] (by kernel_rfl) (by kernel_rfl) ?_
      exact JC.got (ex := (.exit 0)) rfl ⟨rfl, rfl, rfl⟩
def slices_insertionSortCmpFunc (k : Nat) (a0 : (List Fl)) (a1 : Int) (a2 : Int) : Option (List Fl) :=
  (slices_insertionSortCmpFunc_l0 a1 a2 k (IntKind.i64.wrap (a1 + (1 : Int))) a0).bind fun y4 => keepL a0 y4
theorem slices_insertionSortCmpFunc_ok (k : Nat) : ∀ (a0 : (List Fl)) (a1 : Int) (a2 : Int) (r : (List Fl)), slices_insertionSortCmpFunc k a0 a1 a2 = some r → InOk prog 33 1 fD [.x (.int .i64 a1), .x (.int .i64 a2), .x (.fn 26)] a0 r := by
  intro a0 a1 a2
  refine InOk.of (pf := pf33) rfl rfl rfl rfl ?_
  intro fr o0
  unfold slices_insertionSortCmpFunc pf33
  refine JC.seq ?_
  refine JC.region fun b1 => ?_
  refine JS.run 3 (by kernel_rfl) ?_
  refine JS.nil ?_
  refine JC.to2 [(0, .ref o0 0 a0.length), (1, .x (.int .i64 a1)), (2, .x (.int .i64 a2)), (3, .x (.fn 26)), (8, .x (.int .i64 (IntKind.i64.wrap (a1 + (1 : Int)))))] [⟨o0, 1, vl fD a0⟩] (by kernel_rfl) (by kernel_rfl) ?_
  refine JC.skipT ?_
  refine JC.block ?_
  refine JC.to2 [(0, .ref o0 0 a0.length), (1, .x (.int .i64 a1)), (2, .x (.int .i64 a2)), (3, .x (.fn 26)), (8, .x (.int .i64 (IntKind.i64.wrap (a1 + (1 : Int)))))] [⟨o0, 1, vl fD a0⟩] (by kernel_rfl) (by kernel_rfl) ?_
  refine JC.to2 [(0, .ref o0 0 a0.length), (1, .x (.int .i64 a1)), (2, .x (.int .i64 a2)), (3, .x (.fn 26)), (8, .x (.int .i64 (IntKind.i64.wrap (a1 + (1 : Int)))))] [⟨o0, 1, vl fD a0⟩] (by kernel_rfl) (by kernel_rfl) ?_
  refine JC.bind (A := fun v ex E R => ex = (.exit 0) ∧ E = [(0, .ref o0 0 v.length)] ∧ R = [⟨o0, 1, vl fD v⟩]) (slices_insertionSortCmpFunc_l0_ok a1 a2 fr o0 k (IntKind.i64.wrap (a1 + (1 : Int))) a0) ?_
  rintro y4 ex E' R' hA
  obtain ⟨rfl, rfl, rfl⟩ := hA
  refine JC.to2 [(0, .ref o0 0 y4.length)] [⟨o0, 1, vl fD y4⟩] (by kernel_rfl) (by kernel_rfl) ?_
  refine JC.exitB ?_
  exact JC.finI (ex := .normal) (l := a0) rfl normal_ne rfl
/-! slices.symMergeCmpFunc[float64] -/
def slices_symMergeCmpFunc_l0 (a0 : (List Fl)) (a1 : Int) : Nat → Int → Int → Option Int
  | 0, _, _ => none
  | k + 1, x5, x6 => cond (decide (x5 < x6)) ((at? a0 (IntKind.i64.wrap (shrI .u64 (IntKind.u64.wrap (IntKind.i64.wrap (x5 + x6))) (1 : Int)))).bind fun w12 => (at? a0 a1).bind fun w16 => (weigh_Order k w12 w16).bind fun r20 => cond (decide (r20 < (0 : Int))) (slices_symMergeCmpFunc_l0 a0 a1 k (IntKind.i64.wrap ((IntKind.i64.wrap (shrI .u64 (IntKind.u64.wrap (IntKind.i64.wrap (x5 + x6))) (1 : Int))) + (1 : Int))) x6) (slices_symMergeCmpFunc_l0 a0 a1 k x5 (IntKind.i64.wrap (shrI .u64 (IntKind.u64.wrap (IntKind.i64.wrap (x5 + x6))) (1 : Int))))) (some x5)
theorem slices_symMergeCmpFunc_l0_ok (a0 : (List Fl)) (a1 : Int) (fr : Nat → Option Blk) (o0 : Option Nat) : ∀ (k : Nat) (x5 : Int) (x6 : Int), JC prog fr 220 [(0, .ref o0 0 a0.length), (1, .x (.int .i64 a1)), (4, .x (.fn 26)), (10, .x (.int .i64 x5)), (11, .x (.int .i64 x6))] [⟨o0, 1, vl fD a0⟩] (.loop pf34_L0) (slices_symMergeCmpFunc_l0 a0 a1 k x5 x6) (fun x => GotA 220 fr ((fun v ex E R => ex = (.exit 0) ∧ E = [(0, .ref o0 0 a0.length), (1, .x (.int .i64 a1)), (10, .x (.int .i64 v))] ∧ R = [⟨o0, 1, vl fD a0⟩]) x)) := by
  intro k
  induction k with
  | zero =>
    intro x5 x6
    exact JC.no
  | succ k ih =>
    intro x5 x6
    rw [slices_symMergeCmpFunc_l0]
    refine JC.loop ?_
    refine JC.seq ?_
    refine JC.seq ?_
    refine JC.region fun b8 => ?_
    refine JS.run 3 (by kernel_rfl) ?_
    refine JS.nil ?_
    refine JC.to2 [(0, .ref o0 0 a0.length), (1, .x (.int .i64 a1)), (4, .x (.fn 26)), (10, .x (.int .i64 x5)), (11, .x (.int .i64 x6)), (33, .x (.bool (decide (x5 < x6))))] [⟨o0, 1, vl fD a0⟩] (by kernel_rfl) (by kernel_rfl) ?_
    refine JC.skipT ?_
    refine JC.cond (e := (decide (x5 < x6))) (by kernel_rfl) (fun h9 => ?_) (fun h9 => ?_)
    · refine JC.skipT ?_
      refine JC.block ?_
      refine JC.seq ?_
      refine JC.region fun b10 => ?_
      refine JS.run 7 (by kernel_rfl) ?_
      refine JS.nil ?_
      refine JC.to2 [(0, .ref o0 0 a0.length), (1, .x (.int .i64 a1)), (4, .x (.fn 26)), (10, .x (.int .i64 x5)), (11, .x (.int .i64 x6)), (12, .x (.int .i64 (IntKind.i64.wrap (shrI .u64 (IntKind.u64.wrap (IntKind.i64.wrap (x5 + x6))) (1 : Int)))))] [⟨o0, 1, vl fD a0⟩] (by kernel_rfl) (by kernel_rfl) ?_
      refine JC.skipT ?_
      refine JC.seq ?_
      refine JC.region fun b11 => ?_
      refine JS.run 3 (by kernel_rfl) ?_
      refine JS.idxT (c := fD) (l := a0) (o := o0) (kk := .i64) (z := (IntKind.i64.wrap (shrI .u64 (IntKind.u64.wrap (IntKind.i64.wrap (x5 + x6))) (1 : Int)))) 0 (by kernel_rfl) (by kernel_rfl) (by kernel_rfl) (by kernel_rfl) (by kernel_rfl) (fun id14 w12 e15 h13 => ?_)
      subst e15
      refine JS.loadO (id := id14) (sz := 1) (p := (IntKind.i64.wrap (shrI .u64 (IntKind.u64.wrap (IntKind.i64.wrap (x5 + x6))) (1 : Int))).toNat) (j := 0) (es := (vl fD a0)) (e := (cv fD w12)) 0 (by kernel_rfl) (vl_get h13) (by kernel_rfl) (by kernel_rfl) (by kernel_rfl) (by kernel_rfl) ?_
      refine JS.run 2 (by kernel_rfl) ?_
      refine JS.idxT (c := fD) (l := a0) (o := (some id14)) (kk := .i64) (z := a1) 0 (by kernel_rfl) (by kernel_rfl) (by kernel_rfl) (by kernel_rfl) (by kernel_rfl) (fun id18 w16 e19 h17 => ?_)
      have e19' : id14 = id18 := by injection e19
      subst e19'
      refine JS.loadO (id := id14) (sz := 1) (p := a1.toNat) (j := 0) (es := (vl fD a0)) (e := (cv fD w16)) 0 (by kernel_rfl) (vl_get h17) (by kernel_rfl) (by kernel_rfl) (by kernel_rfl) (by kernel_rfl) ?_
      refine JS.toCallQ (p := 26) (by kernel_rfl) (by kernel_rfl) ?_
      refine JS.bind fun r20 h21 => ?_
      refine JS.callQS [] (weigh_Order_ok k w12 w16 r20 h21) ⟨rfl, argX (d := (.flt w12)) (by kernel_rfl) (by kernel_rfl), rfl, argX (d := (.flt w16)) (by kernel_rfl) (by kernel_rfl), trivial⟩ (by kernel_rfl) (by kernel_rfl) (by kernel_rfl) ?_
      refine JS.run 1 (by kernel_rfl) ?_
      refine JS.nil ?_
      refine JC.to2 [(0, .ref (some id14) 0 a0.length), (1, .x (.int .i64 a1)), (4, .x (.fn 26)), (10, .x (.int .i64 x5)), (11, .x (.int .i64 x6)), (12, .x (.int .i64 (IntKind.i64.wrap (shrI .u64 (IntKind.u64.wrap (IntKind.i64.wrap (x5 + x6))) (1 : Int))))), (50, .x (.bool (decide (r20 < (0 : Int)))))] [⟨(some id14), 1, vl fD a0⟩] (by kernel_rfl) (by kernel_rfl) ?_
      refine JC.skipT ?_
      refine JC.cond (e := (decide (r20 < (0 : Int)))) (by kernel_rfl) (fun h22 => ?_) (fun h22 => ?_)
      · refine JC.region fun b23 => ?_
        refine JS.run 3 (by kernel_rfl) ?_
        refine JS.nil ?_
        refine JC.to2 [(0, .ref (some id14) 0 a0.length), (1, .x (.int .i64 a1)), (4, .x (.fn 26)), (10, .x (.int .i64 (IntKind.i64.wrap ((IntKind.i64.wrap (shrI .u64 (IntKind.u64.wrap (IntKind.i64.wrap (x5 + x6))) (1 : Int))) + (1 : Int))))), (11, .x (.int .i64 x6))] [⟨(some id14), 1, vl fD a0⟩] (by kernel_rfl) (by kernel_rfl) ?_
        refine JC.skipB ?_
        refine JC.skipL ?_
        refine JC.to2 [(0, .ref (some id14) 0 a0.length), (1, .x (.int .i64 a1)), (4, .x (.fn 26)), (10, .x (.int .i64 (IntKind.i64.wrap ((IntKind.i64.wrap (shrI .u64 (IntKind.u64.wrap (IntKind.i64.wrap (x5 + x6))) (1 : Int))) + (1 : Int))))), (11, .x (.int .i64 x6))] [⟨(some id14), 1, vl fD a0⟩] (by kernel_rfl) (by kernel_rfl) ?_
        exact ih (IntKind.i64.wrap ((IntKind.i64.wrap (shrI .u64 (IntKind.u64.wrap (IntKind.i64.wrap (x5 + x6))) (1 : Int))) + (1 : Int))) x6
      · refine JC.region fun b24 => ?_
        refine JS.run 2 (by kernel_rfl) ?_
        refine JS.nil ?_
        refine JC.to2 [(0, .ref (some id14) 0 a0.length), (1, .x (.int .i64 a1)), (4, .x (.fn 26)), (10, .x (.int .i64 x5)), (11, .x (.int .i64 (IntKind.i64.wrap (shrI .u64 (IntKind.u64.wrap (IntKind.i64.wrap (x5 + x6))) (1 : Int)))))] [⟨(some id14), 1, vl fD a0⟩] (by kernel_rfl) (by kernel_rfl) ?_
        refine JC.skipB ?_
        refine JC.skipL ?_
        refine JC.to2 [(0, .ref (some id14) 0 a0.length), (1, .x (.int .i64 a1)), (4, .x (.fn 26)), (10, .x (.int .i64 x5)), (11, .x (.int .i64 (IntKind.i64.wrap (shrI .u64 (IntKind.u64.wrap (IntKind.i64.wrap (x5 + x6))) (1 : Int)))))] [⟨(some id14), 1, vl fD a0⟩] (by kernel_rfl) (by kernel_rfl) ?_
        exact ih x5 (IntKind.i64.wrap (shrI .u64 (IntKind.u64.wrap (IntKind.i64.wrap (x5 + x6))) (1 : Int)))
    · refine JC.exitT ?_
      refine JC.exitL ?_
      refine JC.to2 [(0, .ref o0 0 a0.length), (1, .x (.int .i64 a1)), (10, .x (.int .i64 x5))] [⟨o0, 1, vl fD a0⟩] (by kernel_rfl) (by kernel_rfl) ?_
      exact JC.got (ex := (.exit 0)) rfl ⟨rfl, rfl, rfl⟩
def slices_symMergeCmpFunc_l1 (y7 : Int) : Nat → Int → (List Fl) → Option (List Fl)
  | 0, _, _ => none
  | k + 1, x26, x27 => cond (decide (x26 < (IntKind.i64.wrap (y7 - (1 : Int))))) ((at? x27 (IntKind.i64.wrap (x26 + (1 : Int)))).bind fun w32 => (at? x27 x26).bind fun w36 => (at? x27 x26).bind fun w40 => (at? (List.set x27 x26.toNat w32) (IntKind.i64.wrap (x26 + (1 : Int)))).bind fun w44 => slices_symMergeCmpFunc_l1 y7 k (IntKind.i64.wrap (x26 + (1 : Int))) (List.set (List.set x27 x26.toNat w32) ((IntKind.i64.wrap (x26 + (1 : Int))).toNat) w36)) (some x27)
theorem slices_symMergeCmpFunc_l1_ok (y7 : Int) (fr : Nat → Option Blk) (o0 : Option Nat) : ∀ (k : Nat) (x26 : Int) (x27 : (List Fl)), JC prog fr 220 [(0, .ref o0 0 x27.length), (10, .x (.int .i64 y7)), (13, .x (.int .i64 x26))] [⟨o0, 1, vl fD x27⟩] (.loop pf34_L1) (slices_symMergeCmpFunc_l1 y7 k x26 x27) (fun x => GotA 220 fr ((fun v ex E R => ex = (.exit 2) ∧ E = [(0, .ref o0 0 v.length)] ∧ R = [⟨o0, 1, vl fD v⟩]) x)) := by
  intro k
  induction k with
  | zero =>
    intro x26 x27
    exact JC.no
  | succ k ih =>
    intro x26 x27
    rw [slices_symMergeCmpFunc_l1]
    refine JC.loop ?_
    refine JC.seq ?_
    refine JC.seq ?_
    refine JC.region fun b29 => ?_
    refine JS.run 4 (by kernel_rfl) ?_
    refine JS.nil ?_
    refine JC.to2 [(0, .ref o0 0 x27.length), (10, .x (.int .i64 y7)), (13, .x (.int .i64 x26)), (58, .x (.bool (decide (x26 < (IntKind.i64.wrap (y7 - (1 : Int)))))))] [⟨o0, 1, vl fD x27⟩] (by kernel_rfl) (by kernel_rfl) ?_
    refine JC.skipT ?_
    refine JC.cond (e := (decide (x26 < (IntKind.i64.wrap (y7 - (1 : Int)))))) (by kernel_rfl) (fun h30 => ?_) (fun h30 => ?_)
    · refine JC.skipT ?_
      refine JC.seq ?_
      refine JC.block ?_
      refine JC.region fun b31 => ?_
      refine JS.run 8 (by kernel_rfl) ?_
      refine JS.idxT (c := fD) (l := x27) (o := o0) (kk := .i64) (z := (IntKind.i64.wrap (x26 + (1 : Int)))) 0 (by kernel_rfl) (by kernel_rfl) (by kernel_rfl) (by kernel_rfl) (by kernel_rfl) (fun id34 w32 e35 h33 => ?_)
      subst e35
      refine JS.loadO (id := id34) (sz := 1) (p := (IntKind.i64.wrap (x26 + (1 : Int))).toNat) (j := 0) (es := (vl fD x27)) (e := (cv fD w32)) 0 (by kernel_rfl) (vl_get h33) (by kernel_rfl) (by kernel_rfl) (by kernel_rfl) (by kernel_rfl) ?_
      refine JS.run 2 (by kernel_rfl) ?_
      refine JS.idxT (c := fD) (l := x27) (o := (some id34)) (kk := .i64) (z := x26) 0 (by kernel_rfl) (by kernel_rfl) (by kernel_rfl) (by kernel_rfl) (by kernel_rfl) (fun id38 w36 e39 h37 => ?_)
      have e39' : id34 = id38 := by injection e39
      subst e39'
      refine JS.loadO (id := id34) (sz := 1) (p := x26.toNat) (j := 0) (es := (vl fD x27)) (e := (cv fD w36)) 0 (by kernel_rfl) (vl_get h37) (by kernel_rfl) (by kernel_rfl) (by kernel_rfl) (by kernel_rfl) ?_
      refine JS.idxT (c := fD) (l := x27) (o := (some id34)) (kk := .i64) (z := x26) 0 (by kernel_rfl) (by kernel_rfl) (by kernel_rfl) (by kernel_rfl) (by kernel_rfl) (fun id42 w40 e43 h41 => ?_)
      have e43' : id34 = id42 := by injection e43
      subst e43'
      refine JS.storeO (id := id34) (sz := 1) (p := x26.toNat) (j := 0) (es := (vl fD x27)) (es2 := (vl fD (List.set x27 x26.toNat w32))) (e := (cv fD w40)) (w := .x (.flt w32)) 0 (by kernel_rfl) (vl_get h41) (by kernel_rfl) (by kernel_rfl) (by kernel_rfl) (vl_set (a := w32) (by kernel_rfl)) (by kernel_rfl) ?_
      refine JS.relen (o := (some id34)) (off := 0) (n := x27.length) (n' := (List.set x27 x26.toNat w32).length) 63 (by kernel_rfl) (by simp [vl]) ?_
      refine JS.idxT (c := fD) (l := (List.set x27 x26.toNat w32)) (o := (some id34)) (kk := .i64) (z := (IntKind.i64.wrap (x26 + (1 : Int)))) 0 (by kernel_rfl) (by kernel_rfl) (by kernel_rfl) (by kernel_rfl) (by kernel_rfl) (fun id46 w44 e47 h45 => ?_)
      have e47' : id34 = id46 := by injection e47
      subst e47'
      refine JS.storeO (id := id34) (sz := 1) (p := (IntKind.i64.wrap (x26 + (1 : Int))).toNat) (j := 0) (es := (vl fD (List.set x27 x26.toNat w32))) (es2 := (vl fD (List.set (List.set x27 x26.toNat w32) ((IntKind.i64.wrap (x26 + (1 : Int))).toNat) w36))) (e := (cv fD w44)) (w := .x (.flt w36)) 0 (by kernel_rfl) (vl_get h45) (by kernel_rfl) (by kernel_rfl) (by kernel_rfl) (vl_set (a := w36) (by kernel_rfl)) (by kernel_rfl) ?_
      refine JS.nil ?_
      refine JC.to2 [(0, .ref (some id34) 0 x27.length), (10, .x (.int .i64 y7)), (13, .x (.int .i64 x26))] [⟨(some id34), 1, vl fD (List.set (List.set x27 x26.toNat w32) ((IntKind.i64.wrap (x26 + (1 : Int))).toNat) w36)⟩] (by kernel_rfl) (by kernel_rfl) ?_
      refine JC.skipB ?_
      refine JC.skipT ?_
      refine JC.region fun b48 => ?_
      refine JS.run 3 (by kernel_rfl) ?_
      refine JS.nil ?_
      refine JC.to2 [(0, .ref (some id34) 0 x27.length), (10, .x (.int .i64 y7)), (13, .x (.int .i64 (IntKind.i64.wrap (x26 + (1 : Int)))))] [⟨(some id34), 1, vl fD (List.set (List.set x27 x26.toNat w32) ((IntKind.i64.wrap (x26 + (1 : Int))).toNat) w36)⟩] (by kernel_rfl) (by kernel_rfl) ?_
      refine JC.skipL ?_
      refine JC.relen (o := (some id34)) (off := 0) (n := x27.length) (n' := (List.set (List.set x27 x26.toNat w32) ((IntKind.i64.wrap (x26 + (1 : Int))).toNat) w36).length) 0 (by kernel_rfl) (by simp [vl]) ?_
      refine JC.to2 [(0, .ref (some id34) 0 ((List.set (List.set x27 x26.toNat w32) ((IntKind.i64.wrap (x26 + (1 : Int))).toNat) w36).length)), (10, .x (.int .i64 y7)), (13, .x (.int .i64 (IntKind.i64.wrap (x26 + (1 : Int)))))] [⟨(some id34), 1, vl fD (List.set (List.set x27 x26.toNat w32) ((IntKind.i64.wrap (x26 + (1 : Int))).toNat) w36)⟩] (by kernel_rfl) (by kernel_rfl) ?_
      exact ih (IntKind.i64.wrap (x26 + (1 : Int))) (List.set (List.set x27 x26.toNat w32) ((IntKind.i64.wrap (x26 + (1 : Int))).toNat) w36)
    · refine JC.exitT ?_
      refine JC.exitL ?_
      refine JC.to2 [(0, .ref o0 0 x27.length)] [⟨o0, 1, vl fD x27⟩] (by kernel_rfl) (by kernel_rfl) ?_
      exact JC.got (ex := (.exit 2)) rfl ⟨rfl, rfl, rfl⟩
def slices_symMergeCmpFunc_l2 (a0 : (List Fl)) (a2 : Int) : Nat → Int → Int → Option Int
  | 0, _, _ => none
  | k + 1, x53, x54 => cond (decide (x53 < x54)) ((at? a0 a2).bind fun w60 => (at? a0 (IntKind.i64.wrap (shrI .u64 (IntKind.u64.wrap (IntKind.i64.wrap (x53 + x54))) (1 : Int)))).bind fun w64 => (weigh_Order k w60 w64).bind fun r68 => cond (!(decide (r68 < (0 : Int)))) (slices_symMergeCmpFunc_l2 a0 a2 k (IntKind.i64.wrap ((IntKind.i64.wrap (shrI .u64 (IntKind.u64.wrap (IntKind.i64.wrap (x53 + x54))) (1 : Int))) + (1 : Int))) x54) (slices_symMergeCmpFunc_l2 a0 a2 k x53 (IntKind.i64.wrap (shrI .u64 (IntKind.u64.wrap (IntKind.i64.wrap (x53 + x54))) (1 : Int))))) (some x53)
theorem slices_symMergeCmpFunc_l2_ok (a0 : (List Fl)) (a2 : Int) (fr : Nat → Option Blk) (o0 : Option Nat) : ∀ (k : Nat) (x53 : Int) (x54 : Int), JC prog fr 220 [(0, .ref o0 0 a0.length), (2, .x (.int .i64 a2)), (4, .x (.fn 26)), (14, .x (.int .i64 x53)), (15, .x (.int .i64 x54))] [⟨o0, 1, vl fD a0⟩] (.loop pf34_L2) (slices_symMergeCmpFunc_l2 a0 a2 k x53 x54) (fun x => GotA 220 fr ((fun v ex E R => ex = (.exit 4) ∧ E = [(0, .ref o0 0 a0.length), (2, .x (.int .i64 a2)), (14, .x (.int .i64 v))] ∧ R = [⟨o0, 1, vl fD a0⟩]) x)) := by
  intro k
  induction k with
  | zero =>
    intro x53 x54
    exact JC.no
  | succ k ih =>
    intro x53 x54
    rw [slices_symMergeCmpFunc_l2]
    refine JC.loop ?_
    refine JC.seq ?_
    refine JC.seq ?_
    refine JC.region fun b56 => ?_
    refine JS.run 3 (by kernel_rfl) ?_
    refine JS.nil ?_
    refine JC.to2 [(0, .ref o0 0 a0.length), (2, .x (.int .i64 a2)), (4, .x (.fn 26)), (14, .x (.int .i64 x53)), (15, .x (.int .i64 x54)), (85, .x (.bool (decide (x53 < x54))))] [⟨o0, 1, vl fD a0⟩] (by kernel_rfl) (by kernel_rfl) ?_
    refine JC.skipT ?_
    refine JC.cond (e := (decide (x53 < x54))) (by kernel_rfl) (fun h57 => ?_) (fun h57 => ?_)
    · refine JC.skipT ?_
      refine JC.block ?_
      refine JC.seq ?_
      refine JC.region fun b58 => ?_
      refine JS.run 7 (by kernel_rfl) ?_
      refine JS.nil ?_
      refine JC.to2 [(0, .ref o0 0 a0.length), (2, .x (.int .i64 a2)), (4, .x (.fn 26)), (14, .x (.int .i64 x53)), (15, .x (.int .i64 x54)), (16, .x (.int .i64 (IntKind.i64.wrap (shrI .u64 (IntKind.u64.wrap (IntKind.i64.wrap (x53 + x54))) (1 : Int)))))] [⟨o0, 1, vl fD a0⟩] (by kernel_rfl) (by kernel_rfl) ?_
      refine JC.skipT ?_
      refine JC.seq ?_
      refine JC.region fun b59 => ?_
      refine JS.run 3 (by kernel_rfl) ?_
      refine JS.idxT (c := fD) (l := a0) (o := o0) (kk := .i64) (z := a2) 0 (by kernel_rfl) (by kernel_rfl) (by kernel_rfl) (by kernel_rfl) (by kernel_rfl) (fun id62 w60 e63 h61 => ?_)
      subst e63
      refine JS.loadO (id := id62) (sz := 1) (p := a2.toNat) (j := 0) (es := (vl fD a0)) (e := (cv fD w60)) 0 (by kernel_rfl) (vl_get h61) (by kernel_rfl) (by kernel_rfl) (by kernel_rfl) (by kernel_rfl) ?_
      refine JS.run 2 (by kernel_rfl) ?_
      refine JS.idxT (c := fD) (l := a0) (o := (some id62)) (kk := .i64) (z := (IntKind.i64.wrap (shrI .u64 (IntKind.u64.wrap (IntKind.i64.wrap (x53 + x54))) (1 : Int)))) 0 (by kernel_rfl) (by kernel_rfl) (by kernel_rfl) (by kernel_rfl) (by kernel_rfl) (fun id66 w64 e67 h65 => ?_)
      have e67' : id62 = id66 := by injection e67
      subst e67'
      refine JS.loadO (id := id62) (sz := 1) (p := (IntKind.i64.wrap (shrI .u64 (IntKind.u64.wrap (IntKind.i64.wrap (x53 + x54))) (1 : Int))).toNat) (j := 0) (es := (vl fD a0)) (e := (cv fD w64)) 0 (by kernel_rfl) (vl_get h65) (by kernel_rfl) (by kernel_rfl) (by kernel_rfl) (by kernel_rfl) ?_
      refine JS.toCallQ (p := 26) (by kernel_rfl) (by kernel_rfl) ?_
      refine JS.bind fun r68 h69 => ?_
      refine JS.callQS [] (weigh_Order_ok k w60 w64 r68 h69) ⟨rfl, argX (d := (.flt w60)) (by kernel_rfl) (by kernel_rfl), rfl, argX (d := (.flt w64)) (by kernel_rfl) (by kernel_rfl), trivial⟩ (by kernel_rfl) (by kernel_rfl) (by kernel_rfl) ?_
      refine JS.run 2 (by kernel_rfl) ?_
      refine JS.nil ?_
      refine JC.to2 [(0, .ref (some id62) 0 a0.length), (2, .x (.int .i64 a2)), (4, .x (.fn 26)), (14, .x (.int .i64 x53)), (15, .x (.int .i64 x54)), (16, .x (.int .i64 (IntKind.i64.wrap (shrI .u64 (IntKind.u64.wrap (IntKind.i64.wrap (x53 + x54))) (1 : Int))))), (103, .x (.bool (!(decide (r68 < (0 : Int))))))] [⟨(some id62), 1, vl fD a0⟩] (by kernel_rfl) (by kernel_rfl) ?_
      refine JC.skipT ?_
      refine JC.cond (e := (!(decide (r68 < (0 : Int))))) (by kernel_rfl) (fun h70 => ?_) (fun h70 => ?_)
      · refine JC.region fun b71 => ?_
        refine JS.run 3 (by kernel_rfl) ?_
        refine JS.nil ?_
        refine JC.to2 [(0, .ref (some id62) 0 a0.length), (2, .x (.int .i64 a2)), (4, .x (.fn 26)), (14, .x (.int .i64 (IntKind.i64.wrap ((IntKind.i64.wrap (shrI .u64 (IntKind.u64.wrap (IntKind.i64.wrap (x53 + x54))) (1 : Int))) + (1 : Int))))), (15, .x (.int .i64 x54))] [⟨(some id62), 1, vl fD a0⟩] (by kernel_rfl) (by kernel_rfl) ?_
        refine JC.skipB ?_
        refine JC.skipL ?_
        refine JC.to2 [(0, .ref (some id62) 0 a0.length), (2, .x (.int .i64 a2)), (4, .x (.fn 26)), (14, .x (.int .i64 (IntKind.i64.wrap ((IntKind.i64.wrap (shrI .u64 (IntKind.u64.wrap (IntKind.i64.wrap (x53 + x54))) (1 : Int))) + (1 : Int))))), (15, .x (.int .i64 x54))] [⟨(some id62), 1, vl fD a0⟩] (by kernel_rfl) (by kernel_rfl) ?_
        exact ih (IntKind.i64.wrap ((IntKind.i64.wrap (shrI .u64 (IntKind.u64.wrap (IntKind.i64.wrap (x53 + x54))) (1 : Int))) + (1 : Int))) x54
      · refine JC.region fun b72 => ?_
        refine JS.run 2 (by kernel_rfl) ?_
        refine JS.nil ?_
        refine JC.to2 [(0, .ref (some id62) 0 a0.length), (2, .x (.int .i64 a2)), (4, .x (.fn 26)), (14, .x (.int .i64 x53)), (15, .x (.int .i64 (IntKind.i64.wrap (shrI .u64 (IntKind.u64.wrap (IntKind.i64.wrap (x53 + x54))) (1 : Int)))))] [⟨(some id62), 1, vl fD a0⟩] (by kernel_rfl) (by kernel_rfl) ?_
        refine JC.skipB ?_
        refine JC.skipL ?_
        refine JC.to2 [(0, .ref (some id62) 0 a0.length), (2, .x (.int .i64 a2)), (4, .x (.fn 26)), (14, .x (.int .i64 x53)), (15, .x (.int .i64 (IntKind.i64.wrap (shrI .u64 (IntKind.u64.wrap (IntKind.i64.wrap (x53 + x54))) (1 : Int)))))] [⟨(some id62), 1, vl fD a0⟩] (by kernel_rfl) (by kernel_rfl) ?_
        exact ih x53 (IntKind.i64.wrap (shrI .u64 (IntKind.u64.wrap (IntKind.i64.wrap (x53 + x54))) (1 : Int)))
    · refine JC.exitT ?_
      refine JC.exitL ?_
      refine JC.to2 [(0, .ref o0 0 a0.length), (2, .x (.int .i64 a2)), (14, .x (.int .i64 x53))] [⟨o0, 1, vl fD a0⟩] (by kernel_rfl) (by kernel_rfl) ?_
      exact JC.got (ex := (.exit 4)) rfl ⟨rfl, rfl, rfl⟩
def slices_symMergeCmpFunc_l3 (y55 : Int) : Nat → Int → (List Fl) → Option (List Fl)
  | 0, _, _ => none
  | k + 1, x74, x75 => cond (decide (x74 > y55)) ((at? x75 (IntKind.i64.wrap (x74 - (1 : Int)))).bind fun w80 => (at? x75 x74).bind fun w84 => (at? x75 x74).bind fun w88 => (at? (List.set x75 x74.toNat w80) (IntKind.i64.wrap (x74 - (1 : Int)))).bind fun w92 => slices_symMergeCmpFunc_l3 y55 k (IntKind.i64.wrap (x74 - (1 : Int))) (List.set (List.set x75 x74.toNat w80) ((IntKind.i64.wrap (x74 - (1 : Int))).toNat) w84)) (some x75)
theorem slices_symMergeCmpFunc_l3_ok (y55 : Int) (fr : Nat → Option Blk) (o0 : Option Nat) : ∀ (k : Nat) (x74 : Int) (x75 : (List Fl)), JC prog fr 220 [(0, .ref o0 0 x75.length), (14, .x (.int .i64 y55)), (17, .x (.int .i64 x74))] [⟨o0, 1, vl fD x75⟩] (.loop pf34_L3) (slices_symMergeCmpFunc_l3 y55 k x74 x75) (fun x => GotA 220 fr ((fun v ex E R => ex = (.exit 6) ∧ E = [(0, .ref o0 0 v.length)] ∧ R = [⟨o0, 1, vl fD v⟩]) x)) := by
  intro k
  induction k with
  | zero =>
    intro x74 x75
    exact JC.no
  | succ k ih =>
    intro x74 x75
    rw [slices_symMergeCmpFunc_l3]
    refine JC.loop ?_
    refine JC.seq ?_
    refine JC.seq ?_
    refine JC.region fun b77 => ?_
    refine JS.run 3 (by kernel_rfl) ?_
    refine JS.nil ?_
    refine JC.to2 [(0, .ref o0 0 x75.length), (14, .x (.int .i64 y55)), (17, .x (.int .i64 x74)), (110, .x (.bool (decide (x74 > y55))))] [⟨o0, 1, vl fD x75⟩] (by kernel_rfl) (by kernel_rfl) ?_
    refine JC.skipT ?_
    refine JC.cond (e := (decide (x74 > y55))) (by kernel_rfl) (fun h78 => ?_) (fun h78 => ?_)
    · refine JC.skipT ?_
      refine JC.seq ?_
      refine JC.block ?_
      refine JC.region fun b79 => ?_
      refine JS.run 8 (by kernel_rfl) ?_
      refine JS.idxT (c := fD) (l := x75) (o := o0) (kk := .i64) (z := (IntKind.i64.wrap (x74 - (1 : Int)))) 0 (by kernel_rfl) (by kernel_rfl) (by kernel_rfl) (by kernel_rfl) (by kernel_rfl) (fun id82 w80 e83 h81 => ?_)
      subst e83
      refine JS.loadO (id := id82) (sz := 1) (p := (IntKind.i64.wrap (x74 - (1 : Int))).toNat) (j := 0) (es := (vl fD x75)) (e := (cv fD w80)) 0 (by kernel_rfl) (vl_get h81) (by kernel_rfl) (by kernel_rfl) (by kernel_rfl) (by kernel_rfl) ?_
      refine JS.run 2 (by kernel_rfl) ?_
      refine JS.idxT (c := fD) (l := x75) (o := (some id82)) (kk := .i64) (z := x74) 0 (by kernel_rfl) (by kernel_rfl) (by kernel_rfl) (by kernel_rfl) (by kernel_rfl) (fun id86 w84 e87 h85 => ?_)
      have e87' : id82 = id86 := by injection e87
      subst e87'
      refine JS.loadO (id := id82) (sz := 1) (p := x74.toNat) (j := 0) (es := (vl fD x75)) (e := (cv fD w84)) 0 (by kernel_rfl) (vl_get h85) (by kernel_rfl) (by kernel_rfl) (by kernel_rfl) (by kernel_rfl) ?_
      refine JS.idxT (c := fD) (l := x75) (o := (some id82)) (kk := .i64) (z := x74) 0 (by kernel_rfl) (by kernel_rfl) (by kernel_rfl) (by kernel_rfl) (by kernel_rfl) (fun id90 w88 e91 h89 => ?_)
      have e91' : id82 = id90 := by injection e91
      subst e91'
      refine JS.storeO (id := id82) (sz := 1) (p := x74.toNat) (j := 0) (es := (vl fD x75)) (es2 := (vl fD (List.set x75 x74.toNat w80))) (e := (cv fD w88)) (w := .x (.flt w80)) 0 (by kernel_rfl) (vl_get h89) (by kernel_rfl) (by kernel_rfl) (by kernel_rfl) (vl_set (a := w80) (by kernel_rfl)) (by kernel_rfl) ?_
      refine JS.relen (o := (some id82)) (off := 0) (n := x75.length) (n' := (List.set x75 x74.toNat w80).length) 115 (by kernel_rfl) (by simp [vl]) ?_
      refine JS.idxT (c := fD) (l := (List.set x75 x74.toNat w80)) (o := (some id82)) (kk := .i64) (z := (IntKind.i64.wrap (x74 - (1 : Int)))) 0 (by kernel_rfl) (by kernel_rfl) (by kernel_rfl) (by kernel_rfl) (by kernel_rfl) (fun id94 w92 e95 h93 => ?_)
      have e95' : id82 = id94 := by injection e95
      subst e95'
      refine JS.storeO (id := id82) (sz := 1) (p := (IntKind.i64.wrap (x74 - (1 : Int))).toNat) (j := 0) (es := (vl fD (List.set x75 x74.toNat w80))) (es2 := (vl fD (List.set (List.set x75 x74.toNat w80) ((IntKind.i64.wrap (x74 - (1 : Int))).toNat) w84))) (e := (cv fD w92)) (w := .x (.flt w84)) 0 (by kernel_rfl) (vl_get h93) (by kernel_rfl) (by kernel_rfl) (by kernel_rfl) (vl_set (a := w84) (by kernel_rfl)) (by kernel_rfl) ?_
      refine JS.nil ?_
      refine JC.to2 [(0, .ref (some id82) 0 x75.length), (14, .x (.int .i64 y55)), (17, .x (.int .i64 x74))] [⟨(some id82), 1, vl fD (List.set (List.set x75 x74.toNat w80) ((IntKind.i64.wrap (x74 - (1 : Int))).toNat) w84)⟩] (by kernel_rfl) (by kernel_rfl) ?_
      refine JC.skipB ?_
      refine JC.skipT ?_
      refine JC.region fun b96 => ?_
      refine JS.run 3 (by kernel_rfl) ?_
      refine JS.nil ?_
      refine JC.to2 [(0, .ref (some id82) 0 x75.length), (14, .x (.int .i64 y55)), (17, .x (.int .i64 (IntKind.i64.wrap (x74 - (1 : Int)))))] [⟨(some id82), 1, vl fD (List.set (List.set x75 x74.toNat w80) ((IntKind.i64.wrap (x74 - (1 : Int))).toNat) w84)⟩] (by kernel_rfl) (by kernel_rfl) ?_
      refine JC.skipL ?_
      refine JC.relen (o := (some id82)) (off := 0) (n := x75.length) (n' := (List.set (List.set x75 x74.toNat w80) ((IntKind.i64.wrap (x74 - (1 : Int))).toNat) w84).length) 0 (by kernel_rfl) (by simp [vl]) ?_
      refine JC.to2 [(0, .ref (some id82) 0 ((List.set (List.set x75 x74.toNat w80) ((IntKind.i64.wrap (x74 - (1 : Int))).toNat) w84).length)), (14, .x (.int .i64 y55)), (17, .x (.int .i64 (IntKind.i64.wrap (x74 - (1 : Int)))))] [⟨(some id82), 1, vl fD (List.set (List.set x75 x74.toNat w80) ((IntKind.i64.wrap (x74 - (1 : Int))).toNat) w84)⟩] (by kernel_rfl) (by kernel_rfl) ?_
      exact ih (IntKind.i64.wrap (x74 - (1 : Int))) (List.set (List.set x75 x74.toNat w80) ((IntKind.i64.wrap (x74 - (1 : Int))).toNat) w84)
    · refine JC.exitT ?_
      refine JC.exitL ?_
      refine JC.to2 [(0, .ref o0 0 x75.length)] [⟨o0, 1, vl fD x75⟩] (by kernel_rfl) (by kernel_rfl) ?_
      exact JC.got (ex := (.exit 6)) rfl ⟨rfl, rfl, rfl⟩
def slices_symMergeCmpFunc_l4 (a0 : (List Fl)) (a1 : Int) (a2 : Int) (a3 : Int) : Nat → Int → Int → Option Int
  | 0, _, _ => none
  | k + 1, x105, x106 => cond (decide (x105 < x106)) ((at? a0 (IntKind.i64.wrap ((IntKind.i64.wrap ((IntKind.i64.wrap ((IntKind.i64.wrap (shrI .u64 (IntKind.u64.wrap (IntKind.i64.wrap (a1 + a3))) (1 : Int))) + a2)) - (1 : Int))) - (IntKind.i64.wrap (shrI .u64 (IntKind.u64.wrap (IntKind.i64.wrap (x105 + x106))) (1 : Int)))))).bind fun w112 => (at? a0 (IntKind.i64.wrap (shrI .u64 (IntKind.u64.wrap (IntKind.i64.wrap (x105 + x106))) (1 : Int)))).bind fun w116 => (weigh_Order k w112 w116).bind fun r120 => cond (!(decide (r120 < (0 : Int)))) (slices_symMergeCmpFunc_l4 a0 a1 a2 a3 k (IntKind.i64.wrap ((IntKind.i64.wrap (shrI .u64 (IntKind.u64.wrap (IntKind.i64.wrap (x105 + x106))) (1 : Int))) + (1 : Int))) x106) (slices_symMergeCmpFunc_l4 a0 a1 a2 a3 k x105 (IntKind.i64.wrap (shrI .u64 (IntKind.u64.wrap (IntKind.i64.wrap (x105 + x106))) (1 : Int))))) (some x105)
theorem slices_symMergeCmpFunc_l4_ok (a0 : (List Fl)) (a1 : Int) (a2 : Int) (a3 : Int) (fr : Nat → Option Blk) (o0 : Option Nat) : ∀ (k : Nat) (x105 : Int) (x106 : Int), JC prog fr 220 [(0, .ref o0 0 a0.length), (1, .x (.int .i64 a1)), (2, .x (.int .i64 a2)), (3, .x (.int .i64 a3)), (4, .x (.fn 26)), (18, .x (.int .i64 (IntKind.i64.wrap (shrI .u64 (IntKind.u64.wrap (IntKind.i64.wrap (a1 + a3))) (1 : Int))))), (19, .x (.int .i64 (IntKind.i64.wrap ((IntKind.i64.wrap (shrI .u64 (IntKind.u64.wrap (IntKind.i64.wrap (a1 + a3))) (1 : Int))) + a2)))), (20, .x (.int .i64 x105)), (21, .x (.int .i64 x106)), (22, .x (.int .i64 (IntKind.i64.wrap ((IntKind.i64.wrap ((IntKind.i64.wrap (shrI .u64 (IntKind.u64.wrap (IntKind.i64.wrap (a1 + a3))) (1 : Int))) + a2)) - (1 : Int)))))] [⟨o0, 1, vl fD a0⟩] (.loop pf34_L4) (slices_symMergeCmpFunc_l4 a0 a1 a2 a3 k x105 x106) (fun x => GotA 220 fr ((fun v ex E R => ex = (.exit 8) ∧ E = [(0, .ref o0 0 a0.length), (1, .x (.int .i64 a1)), (2, .x (.int .i64 a2)), (3, .x (.int .i64 a3)), (4, .x (.fn 26)), (18, .x (.int .i64 (IntKind.i64.wrap (shrI .u64 (IntKind.u64.wrap (IntKind.i64.wrap (a1 + a3))) (1 : Int))))), (19, .x (.int .i64 (IntKind.i64.wrap ((IntKind.i64.wrap (shrI .u64 (IntKind.u64.wrap (IntKind.i64.wrap (a1 + a3))) (1 : Int))) + a2)))), (20, .x (.int .i64 v))] ∧ R = [⟨o0, 1, vl fD a0⟩]) x)) := by
  intro k
  induction k with
  | zero =>
    intro x105 x106
    exact JC.no
  | succ k ih =>
    intro x105 x106
    rw [slices_symMergeCmpFunc_l4]
    refine JC.loop ?_
    refine JC.seq ?_
    refine JC.seq ?_
    refine JC.region fun b108 => ?_
    refine JS.run 3 (by kernel_rfl) ?_
    refine JS.nil ?_
    refine JC.to2 [(0, .ref o0 0 a0.length), (1, .x (.int .i64 a1)), (2, .x (.int .i64 a2)), (3, .x (.int .i64 a3)), (4, .x (.fn 26)), (18, .x (.int .i64 (IntKind.i64.wrap (shrI .u64 (IntKind.u64.wrap (IntKind.i64.wrap (a1 + a3))) (1 : Int))))), (19, .x (.int .i64 (IntKind.i64.wrap ((IntKind.i64.wrap (shrI .u64 (IntKind.u64.wrap (IntKind.i64.wrap (a1 + a3))) (1 : Int))) + a2)))), (20, .x (.int .i64 x105)), (21, .x (.int .i64 x106)), (22, .x (.int .i64 (IntKind.i64.wrap ((IntKind.i64.wrap ((IntKind.i64.wrap (shrI .u64 (IntKind.u64.wrap (IntKind.i64.wrap (a1 + a3))) (1 : Int))) + a2)) - (1 : Int))))), (151, .x (.bool (decide (x105 < x106))))] [⟨o0, 1, vl fD a0⟩] (by kernel_rfl) (by kernel_rfl) ?_
    refine JC.skipT ?_
    refine JC.cond (e := (decide (x105 < x106))) (by kernel_rfl) (fun h109 => ?_) (fun h109 => ?_)
    · refine JC.skipT ?_
      refine JC.block ?_
      refine JC.seq ?_
      refine JC.region fun b110 => ?_
      refine JS.run 7 (by kernel_rfl) ?_
      refine JS.nil ?_
      refine JC.to2 [(0, .ref o0 0 a0.length), (1, .x (.int .i64 a1)), (2, .x (.int .i64 a2)), (3, .x (.int .i64 a3)), (4, .x (.fn 26)), (18, .x (.int .i64 (IntKind.i64.wrap (shrI .u64 (IntKind.u64.wrap (IntKind.i64.wrap (a1 + a3))) (1 : Int))))), (19, .x (.int .i64 (IntKind.i64.wrap ((IntKind.i64.wrap (shrI .u64 (IntKind.u64.wrap (IntKind.i64.wrap (a1 + a3))) (1 : Int))) + a2)))), (20, .x (.int .i64 x105)), (21, .x (.int .i64 x106)), (22, .x (.int .i64 (IntKind.i64.wrap ((IntKind.i64.wrap ((IntKind.i64.wrap (shrI .u64 (IntKind.u64.wrap (IntKind.i64.wrap (a1 + a3))) (1 : Int))) + a2)) - (1 : Int))))), (23, .x (.int .i64 (IntKind.i64.wrap (shrI .u64 (IntKind.u64.wrap (IntKind.i64.wrap (x105 + x106))) (1 : Int)))))] [⟨o0, 1, vl fD a0⟩] (by kernel_rfl) (by kernel_rfl) ?_
      refine JC.skipT ?_
      refine JC.seq ?_
      refine JC.region fun b111 => ?_
      refine JS.run 5 (by kernel_rfl) ?_
      refine JS.idxT (c := fD) (l := a0) (o := o0) (kk := .i64) (z := (IntKind.i64.wrap ((IntKind.i64.wrap ((IntKind.i64.wrap ((IntKind.i64.wrap (shrI .u64 (IntKind.u64.wrap (IntKind.i64.wrap (a1 + a3))) (1 : Int))) + a2)) - (1 : Int))) - (IntKind.i64.wrap (shrI .u64 (IntKind.u64.wrap (IntKind.i64.wrap (x105 + x106))) (1 : Int)))))) 0 (by kernel_rfl) (by kernel_rfl) (by kernel_rfl) (by kernel_rfl) (by kernel_rfl) (fun id114 w112 e115 h113 => ?_)
      subst e115
      refine JS.loadO (id := id114) (sz := 1) (p := (IntKind.i64.wrap ((IntKind.i64.wrap ((IntKind.i64.wrap ((IntKind.i64.wrap (shrI .u64 (IntKind.u64.wrap (IntKind.i64.wrap (a1 + a3))) (1 : Int))) + a2)) - (1 : Int))) - (IntKind.i64.wrap (shrI .u64 (IntKind.u64.wrap (IntKind.i64.wrap (x105 + x106))) (1 : Int))))).toNat) (j := 0) (es := (vl fD a0)) (e := (cv fD w112)) 0 (by kernel_rfl) (vl_get h113) (by kernel_rfl) (by kernel_rfl) (by kernel_rfl) (by kernel_rfl) ?_
      refine JS.run 2 (by kernel_rfl) ?_
      refine JS.idxT (c := fD) (l := a0) (o := (some id114)) (kk := .i64) (z := (IntKind.i64.wrap (shrI .u64 (IntKind.u64.wrap (IntKind.i64.wrap (x105 + x106))) (1 : Int)))) 0 (by kernel_rfl) (by kernel_rfl) (by kernel_rfl) (by kernel_rfl) (by kernel_rfl) (fun id118 w116 e119 h117 => ?_)
      have e119' : id114 = id118 := by injection e119
      subst e119'
      refine JS.loadO (id := id114) (sz := 1) (p := (IntKind.i64.wrap (shrI .u64 (IntKind.u64.wrap (IntKind.i64.wrap (x105 + x106))) (1 : Int))).toNat) (j := 0) (es := (vl fD a0)) (e := (cv fD w116)) 0 (by kernel_rfl) (vl_get h117) (by kernel_rfl) (by kernel_rfl) (by kernel_rfl) (by kernel_rfl) ?_
      refine JS.toCallQ (p := 26) (by kernel_rfl) (by kernel_rfl) ?_
      refine JS.bind fun r120 h121 => ?_
      refine JS.callQS [] (weigh_Order_ok k w112 w116 r120 h121) ⟨rfl, argX (d := (.flt w112)) (by kernel_rfl) (by kernel_rfl), rfl, argX (d := (.flt w116)) (by kernel_rfl) (by kernel_rfl), trivial⟩ (by kernel_rfl) (by kernel_rfl) (by kernel_rfl) ?_
      refine JS.run 2 (by kernel_rfl) ?_
      refine JS.nil ?_
      refine JC.to2 [(0, .ref (some id114) 0 a0.length), (1, .x (.int .i64 a1)), (2, .x (.int .i64 a2)), (3, .x (.int .i64 a3)), (4, .x (.fn 26)), (18, .x (.int .i64 (IntKind.i64.wrap (shrI .u64 (IntKind.u64.wrap (IntKind.i64.wrap (a1 + a3))) (1 : Int))))), (19, .x (.int .i64 (IntKind.i64.wrap ((IntKind.i64.wrap (shrI .u64 (IntKind.u64.wrap (IntKind.i64.wrap (a1 + a3))) (1 : Int))) + a2)))), (20, .x (.int .i64 x105)), (21, .x (.int .i64 x106)), (22, .x (.int .i64 (IntKind.i64.wrap ((IntKind.i64.wrap ((IntKind.i64.wrap (shrI .u64 (IntKind.u64.wrap (IntKind.i64.wrap (a1 + a3))) (1 : Int))) + a2)) - (1 : Int))))), (23, .x (.int .i64 (IntKind.i64.wrap (shrI .u64 (IntKind.u64.wrap (IntKind.i64.wrap (x105 + x106))) (1 : Int))))), (171, .x (.bool (!(decide (r120 < (0 : Int))))))] [⟨(some id114), 1, vl fD a0⟩] (by kernel_rfl) (by kernel_rfl) ?_
      refine JC.skipT ?_
      refine JC.cond (e := (!(decide (r120 < (0 : Int))))) (by kernel_rfl) (fun h122 => ?_) (fun h122 => ?_)
      · refine JC.region fun b123 => ?_
        refine JS.run 3 (by kernel_rfl) ?_
        refine JS.nil ?_
        refine JC.to2 [(0, .ref (some id114) 0 a0.length), (1, .x (.int .i64 a1)), (2, .x (.int .i64 a2)), (3, .x (.int .i64 a3)), (4, .x (.fn 26)), (18, .x (.int .i64 (IntKind.i64.wrap (shrI .u64 (IntKind.u64.wrap (IntKind.i64.wrap (a1 + a3))) (1 : Int))))), (19, .x (.int .i64 (IntKind.i64.wrap ((IntKind.i64.wrap (shrI .u64 (IntKind.u64.wrap (IntKind.i64.wrap (a1 + a3))) (1 : Int))) + a2)))), (20, .x (.int .i64 (IntKind.i64.wrap ((IntKind.i64.wrap (shrI .u64 (IntKind.u64.wrap (IntKind.i64.wrap (x105 + x106))) (1 : Int))) + (1 : Int))))), (21, .x (.int .i64 x106)), (22, .x (.int .i64 (IntKind.i64.wrap ((IntKind.i64.wrap ((IntKind.i64.wrap (shrI .u64 (IntKind.u64.wrap (IntKind.i64.wrap (a1 + a3))) (1 : Int))) + a2)) - (1 : Int)))))] [⟨(some id114), 1, vl fD a0⟩] (by kernel_rfl) (by kernel_rfl) ?_
        refine JC.skipB ?_
        refine JC.skipL ?_
        refine JC.to2 [(0, .ref (some id114) 0 a0.length), (1, .x (.int .i64 a1)), (2, .x (.int .i64 a2)), (3, .x (.int .i64 a3)), (4, .x (.fn 26)), (18, .x (.int .i64 (IntKind.i64.wrap (shrI .u64 (IntKind.u64.wrap (IntKind.i64.wrap (a1 + a3))) (1 : Int))))), (19, .x (.int .i64 (IntKind.i64.wrap ((IntKind.i64.wrap (shrI .u64 (IntKind.u64.wrap (IntKind.i64.wrap (a1 + a3))) (1 : Int))) + a2)))), (20, .x (.int .i64 (IntKind.i64.wrap ((IntKind.i64.wrap (shrI .u64 (IntKind.u64.wrap (IntKind.i64.wrap (x105 + x106))) (1 : Int))) + (1 : Int))))), (21, .x (.int .i64 x106)), (22, .x (.int .i64 (IntKind.i64.wrap ((IntKind.i64.wrap ((IntKind.i64.wrap (shrI .u64 (IntKind.u64.wrap (IntKind.i64.wrap (a1 + a3))) (1 : Int))) + a2)) - (1 : Int)))))] [⟨(some id114), 1, vl fD a0⟩] (by kernel_rfl) (by kernel_rfl) ?_
        exact ih (IntKind.i64.wrap ((IntKind.i64.wrap (shrI .u64 (IntKind.u64.wrap (IntKind.i64.wrap (x105 + x106))) (1 : Int))) + (1 : Int))) x106
      · refine JC.region fun b124 => ?_
        refine JS.run 2 (by kernel_rfl) ?_
        refine JS.nil ?_
        refine JC.to2 [(0, .ref (some id114) 0 a0.length), (1, .x (.int .i64 a1)), (2, .x (.int .i64 a2)), (3, .x (.int .i64 a3)), (4, .x (.fn 26)), (18, .x (.int .i64 (IntKind.i64.wrap (shrI .u64 (IntKind.u64.wrap (IntKind.i64.wrap (a1 + a3))) (1 : Int))))), (19, .x (.int .i64 (IntKind.i64.wrap ((IntKind.i64.wrap (shrI .u64 (IntKind.u64.wrap (IntKind.i64.wrap (a1 + a3))) (1 : Int))) + a2)))), (20, .x (.int .i64 x105)), (21, .x (.int .i64 (IntKind.i64.wrap (shrI .u64 (IntKind.u64.wrap (IntKind.i64.wrap (x105 + x106))) (1 : Int))))), (22, .x (.int .i64 (IntKind.i64.wrap ((IntKind.i64.wrap ((IntKind.i64.wrap (shrI .u64 (IntKind.u64.wrap (IntKind.i64.wrap (a1 + a3))) (1 : Int))) + a2)) - (1 : Int)))))] [⟨(some id114), 1, vl fD a0⟩] (by kernel_rfl) (by kernel_rfl) ?_
        refine JC.skipB ?_
        refine JC.skipL ?_
        refine JC.to2 [(0, .ref (some id114) 0 a0.length), (1, .x (.int .i64 a1)), (2, .x (.int .i64 a2)), (3, .x (.int .i64 a3)), (4, .x (.fn 26)), (18, .x (.int .i64 (IntKind.i64.wrap (shrI .u64 (IntKind.u64.wrap (IntKind.i64.wrap (a1 + a3))) (1 : Int))))), (19, .x (.int .i64 (IntKind.i64.wrap ((IntKind.i64.wrap (shrI .u64 (IntKind.u64.wrap (IntKind.i64.wrap (a1 + a3))) (1 : Int))) + a2)))), (20, .x (.int .i64 x105)), (21, .x (.int .i64 (IntKind.i64.wrap (shrI .u64 (IntKind.u64.wrap (IntKind.i64.wrap (x105 + x106))) (1 : Int))))), (22, .x (.int .i64 (IntKind.i64.wrap ((IntKind.i64.wrap ((IntKind.i64.wrap (shrI .u64 (IntKind.u64.wrap (IntKind.i64.wrap (a1 + a3))) (1 : Int))) + a2)) - (1 : Int)))))] [⟨(some id114), 1, vl fD a0⟩] (by kernel_rfl) (by kernel_rfl) ?_
        exact ih x105 (IntKind.i64.wrap (shrI .u64 (IntKind.u64.wrap (IntKind.i64.wrap (x105 + x106))) (1 : Int)))
    · refine JC.exitT ?_
      refine JC.exitL ?_
      refine JC.to2 [(0, .ref o0 0 a0.length), (1, .x (.int .i64 a1)), (2, .x (.int .i64 a2)), (3, .x (.int .i64 a3)), (4, .x (.fn 26)), (18, .x (.int .i64 (IntKind.i64.wrap (shrI .u64 (IntKind.u64.wrap (IntKind.i64.wrap (a1 + a3))) (1 : Int))))), (19, .x (.int .i64 (IntKind.i64.wrap ((IntKind.i64.wrap (shrI .u64 (IntKind.u64.wrap (IntKind.i64.wrap (a1 + a3))) (1 : Int))) + a2)))), (20, .x (.int .i64 x105))] [⟨o0, 1, vl fD a0⟩] (by kernel_rfl) (by kernel_rfl) ?_
      exact JC.got (ex := (.exit 8)) rfl ⟨rfl, rfl, rfl⟩
def slices_symMergeCmpFunc_l5 (a0 : (List Fl)) (a1 : Int) (a2 : Int) (a3 : Int) : Nat → Int → Int → Option Int
  | 0, _, _ => none
  | k + 1, x185, x186 => cond (decide (x185 < x186)) ((at? a0 (IntKind.i64.wrap ((IntKind.i64.wrap ((IntKind.i64.wrap ((IntKind.i64.wrap (shrI .u64 (IntKind.u64.wrap (IntKind.i64.wrap (a1 + a3))) (1 : Int))) + a2)) - (1 : Int))) - (IntKind.i64.wrap (shrI .u64 (IntKind.u64.wrap (IntKind.i64.wrap (x185 + x186))) (1 : Int)))))).bind fun w192 => (at? a0 (IntKind.i64.wrap (shrI .u64 (IntKind.u64.wrap (IntKind.i64.wrap (x185 + x186))) (1 : Int)))).bind fun w196 => (weigh_Order k w192 w196).bind fun r200 => cond (!(decide (r200 < (0 : Int)))) (slices_symMergeCmpFunc_l5 a0 a1 a2 a3 k (IntKind.i64.wrap ((IntKind.i64.wrap (shrI .u64 (IntKind.u64.wrap (IntKind.i64.wrap (x185 + x186))) (1 : Int))) + (1 : Int))) x186) (slices_symMergeCmpFunc_l5 a0 a1 a2 a3 k x185 (IntKind.i64.wrap (shrI .u64 (IntKind.u64.wrap (IntKind.i64.wrap (x185 + x186))) (1 : Int))))) (some x185)
theorem slices_symMergeCmpFunc_l5_ok (a0 : (List Fl)) (a1 : Int) (a2 : Int) (a3 : Int) (fr : Nat → Option Blk) (o0 : Option Nat) : ∀ (k : Nat) (x185 : Int) (x186 : Int), JC prog fr 220 [(0, .ref o0 0 a0.length), (1, .x (.int .i64 a1)), (2, .x (.int .i64 a2)), (3, .x (.int .i64 a3)), (4, .x (.fn 26)), (18, .x (.int .i64 (IntKind.i64.wrap (shrI .u64 (IntKind.u64.wrap (IntKind.i64.wrap (a1 + a3))) (1 : Int))))), (19, .x (.int .i64 (IntKind.i64.wrap ((IntKind.i64.wrap (shrI .u64 (IntKind.u64.wrap (IntKind.i64.wrap (a1 + a3))) (1 : Int))) + a2)))), (20, .x (.int .i64 x185)), (21, .x (.int .i64 x186)), (22, .x (.int .i64 (IntKind.i64.wrap ((IntKind.i64.wrap ((IntKind.i64.wrap (shrI .u64 (IntKind.u64.wrap (IntKind.i64.wrap (a1 + a3))) (1 : Int))) + a2)) - (1 : Int)))))] [⟨o0, 1, vl fD a0⟩] (.loop pf34_L4) (slices_symMergeCmpFunc_l5 a0 a1 a2 a3 k x185 x186) (fun x => GotA 220 fr ((fun v ex E R => ex = (.exit 8) ∧ E = [(0, .ref o0 0 a0.length), (1, .x (.int .i64 a1)), (2, .x (.int .i64 a2)), (3, .x (.int .i64 a3)), (4, .x (.fn 26)), (18, .x (.int .i64 (IntKind.i64.wrap (shrI .u64 (IntKind.u64.wrap (IntKind.i64.wrap (a1 + a3))) (1 : Int))))), (19, .x (.int .i64 (IntKind.i64.wrap ((IntKind.i64.wrap (shrI .u64 (IntKind.u64.wrap (IntKind.i64.wrap (a1 + a3))) (1 : Int))) + a2)))), (20, .x (.int .i64 v))] ∧ R = [⟨o0, 1, vl fD a0⟩]) x)) := by
  intro k
  induction k with
  | zero =>
    intro x185 x186
    exact JC.no
  | succ k ih =>
    intro x185 x186
    rw [slices_symMergeCmpFunc_l5]
    refine JC.loop ?_
    refine JC.seq ?_
    refine JC.seq ?_
    refine JC.region fun b188 => ?_
    refine JS.run 3 (by kernel_rfl) ?_
    refine JS.nil ?_
    refine JC.to2 [(0, .ref o0 0 a0.length), (1, .x (.int .i64 a1)), (2, .x (.int .i64 a2)), (3, .x (.int .i64 a3)), (4, .x (.fn 26)), (18, .x (.int .i64 (IntKind.i64.wrap (shrI .u64 (IntKind.u64.wrap (IntKind.i64.wrap (a1 + a3))) (1 : Int))))), (19, .x (.int .i64 (IntKind.i64.wrap ((IntKind.i64.wrap (shrI .u64 (IntKind.u64.wrap (IntKind.i64.wrap (a1 + a3))) (1 : Int))) + a2)))), (20, .x (.int .i64 x185)), (21, .x (.int .i64 x186)), (22, .x (.int .i64 (IntKind.i64.wrap ((IntKind.i64.wrap ((IntKind.i64.wrap (shrI .u64 (IntKind.u64.wrap (IntKind.i64.wrap (a1 + a3))) (1 : Int))) + a2)) - (1 : Int))))), (151, .x (.bool (decide (x185 < x186))))] [⟨o0, 1, vl fD a0⟩] (by kernel_rfl) (by kernel_rfl) ?_
    refine JC.skipT ?_
    refine JC.cond (e := (decide (x185 < x186))) (by kernel_rfl) (fun h189 => ?_) (fun h189 => ?_)
    · refine JC.skipT ?_
      refine JC.block ?_
      refine JC.seq ?_
      refine JC.region fun b190 => ?_
      refine JS.run 7 (by kernel_rfl) ?_
      refine JS.nil ?_
      refine JC.to2 [(0, .ref o0 0 a0.length), (1, .x (.int .i64 a1)), (2, .x (.int .i64 a2)), (3, .x (.int .i64 a3)), (4, .x (.fn 26)), (18, .x (.int .i64 (IntKind.i64.wrap (shrI .u64 (IntKind.u64.wrap (IntKind.i64.wrap (a1 + a3))) (1 : Int))))), (19, .x (.int .i64 (IntKind.i64.wrap ((IntKind.i64.wrap (shrI .u64 (IntKind.u64.wrap (IntKind.i64.wrap (a1 + a3))) (1 : Int))) + a2)))), (20, .x (.int .i64 x185)), (21, .x (.int .i64 x186)), (22, .x (.int .i64 (IntKind.i64.wrap ((IntKind.i64.wrap ((IntKind.i64.wrap (shrI .u64 (IntKind.u64.wrap (IntKind.i64.wrap (a1 + a3))) (1 : Int))) + a2)) - (1 : Int))))), (23, .x (.int .i64 (IntKind.i64.wrap (shrI .u64 (IntKind.u64.wrap (IntKind.i64.wrap (x185 + x186))) (1 : Int)))))] [⟨o0, 1, vl fD a0⟩] (by kernel_rfl) (by kernel_rfl) ?_
      refine JC.skipT ?_
      refine JC.seq ?_
      refine JC.region fun b191 => ?_
      refine JS.run 5 (by kernel_rfl) ?_
      refine JS.idxT (c := fD) (l := a0) (o := o0) (kk := .i64) (z := (IntKind.i64.wrap ((IntKind.i64.wrap ((IntKind.i64.wrap ((IntKind.i64.wrap (shrI .u64 (IntKind.u64.wrap (IntKind.i64.wrap (a1 + a3))) (1 : Int))) + a2)) - (1 : Int))) - (IntKind.i64.wrap (shrI .u64 (IntKind.u64.wrap (IntKind.i64.wrap (x185 + x186))) (1 : Int)))))) 0 (by kernel_rfl) (by kernel_rfl) (by kernel_rfl) (by kernel_rfl) (by kernel_rfl) (fun id194 w192 e195 h193 => ?_)
      subst e195
      refine JS.loadO (id := id194) (sz := 1) (p := (IntKind.i64.wrap ((IntKind.i64.wrap ((IntKind.i64.wrap ((IntKind.i64.wrap (shrI .u64 (IntKind.u64.wrap (IntKind.i64.wrap (a1 + a3))) (1 : Int))) + a2)) - (1 : Int))) - (IntKind.i64.wrap (shrI .u64 (IntKind.u64.wrap (IntKind.i64.wrap (x185 + x186))) (1 : Int))))).toNat) (j := 0) (es := (vl fD a0)) (e := (cv fD w192)) 0 (by kernel_rfl) (vl_get h193) (by kernel_rfl) (by kernel_rfl) (by kernel_rfl) (by kernel_rfl) ?_
      refine JS.run 2 (by kernel_rfl) ?_
      refine JS.idxT (c := fD) (l := a0) (o := (some id194)) (kk := .i64) (z := (IntKind.i64.wrap (shrI .u64 (IntKind.u64.wrap (IntKind.i64.wrap (x185 + x186))) (1 : Int)))) 0 (by kernel_rfl) (by kernel_rfl) (by kernel_rfl) (by kernel_rfl) (by kernel_rfl) (fun id198 w196 e199 h197 => ?_)
      have e199' : id194 = id198 := by injection e199
      subst e199'
      refine JS.loadO (id := id194) (sz := 1) (p := (IntKind.i64.wrap (shrI .u64 (IntKind.u64.wrap (IntKind.i64.wrap (x185 + x186))) (1 : Int))).toNat) (j := 0) (es := (vl fD a0)) (e := (cv fD w196)) 0 (by kernel_rfl) (vl_get h197) (by kernel_rfl) (by kernel_rfl) (by kernel_rfl) (by kernel_rfl) ?_
      refine JS.toCallQ (p := 26) (by kernel_rfl) (by kernel_rfl) ?_
      refine JS.bind fun r200 h201 => ?_
      refine JS.callQS [] (weigh_Order_ok k w192 w196 r200 h201) ⟨rfl, argX (d := (.flt w192)) (by kernel_rfl) (by kernel_rfl), rfl, argX (d := (.flt w196)) (by kernel_rfl) (by kernel_rfl), trivial⟩ (by kernel_rfl) (by kernel_rfl) (by kernel_rfl) ?_
      refine JS.run 2 (by kernel_rfl) ?_
      refine JS.nil ?_
      refine JC.to2 [(0, .ref (some id194) 0 a0.length), (1, .x (.int .i64 a1)), (2, .x (.int .i64 a2)), (3, .x (.int .i64 a3)), (4, .x (.fn 26)), (18, .x (.int .i64 (IntKind.i64.wrap (shrI .u64 (IntKind.u64.wrap (IntKind.i64.wrap (a1 + a3))) (1 : Int))))), (19, .x (.int .i64 (IntKind.i64.wrap ((IntKind.i64.wrap (shrI .u64 (IntKind.u64.wrap (IntKind.i64.wrap (a1 + a3))) (1 : Int))) + a2)))), (20, .x (.int .i64 x185)), (21, .x (.int .i64 x186)), (22, .x (.int .i64 (IntKind.i64.wrap ((IntKind.i64.wrap ((IntKind.i64.wrap (shrI .u64 (IntKind.u64.wrap (IntKind.i64.wrap (a1 + a3))) (1 : Int))) + a2)) - (1 : Int))))), (23, .x (.int .i64 (IntKind.i64.wrap (shrI .u64 (IntKind.u64.wrap (IntKind.i64.wrap (x185 + x186))) (1 : Int))))), (171, .x (.bool (!(decide (r200 < (0 : Int))))))] [⟨(some id194), 1, vl fD a0⟩] (by kernel_rfl) (by kernel_rfl) ?_
      refine JC.skipT ?_
      refine JC.cond (e := (!(decide (r200 < (0 : Int))))) (by kernel_rfl) (fun h202 => ?_) (fun h202 => ?_)
      · refine JC.region fun b203 => ?_
        refine JS.run 3 (by kernel_rfl) ?_
        refine JS.nil ?_
        refine JC.to2 [(0, .ref (some id194) 0 a0.length), (1, .x (.int .i64 a1)), (2, .x (.int .i64 a2)), (3, .x (.int .i64 a3)), (4, .x (.fn 26)), (18, .x (.int .i64 (IntKind.i64.wrap (shrI .u64 (IntKind.u64.wrap (IntKind.i64.wrap (a1 + a3))) (1 : Int))))), (19, .x (.int .i64 (IntKind.i64.wrap ((IntKind.i64.wrap (shrI .u64 (IntKind.u64.wrap (IntKind.i64.wrap (a1 + a3))) (1 : Int))) + a2)))), (20, .x (.int .i64 (IntKind.i64.wrap ((IntKind.i64.wrap (shrI .u64 (IntKind.u64.wrap (IntKind.i64.wrap (x185 + x186))) (1 : Int))) + (1 : Int))))), (21, .x (.int .i64 x186)), (22, .x (.int .i64 (IntKind.i64.wrap ((IntKind.i64.wrap ((IntKind.i64.wrap (shrI .u64 (IntKind.u64.wrap (IntKind.i64.wrap (a1 + a3))) (1 : Int))) + a2)) - (1 : Int)))))] [⟨(some id194), 1, vl fD a0⟩] (by kernel_rfl) (by kernel_rfl) ?_
        refine JC.skipB ?_
        refine JC.skipL ?_
        refine JC.to2 [(0, .ref (some id194) 0 a0.length), (1, .x (.int .i64 a1)), (2, .x (.int .i64 a2)), (3, .x (.int .i64 a3)), (4, .x (.fn 26)), (18, .x (.int .i64 (IntKind.i64.wrap (shrI .u64 (IntKind.u64.wrap (IntKind.i64.wrap (a1 + a3))) (1 : Int))))), (19, .x (.int .i64 (IntKind.i64.wrap ((IntKind.i64.wrap (shrI .u64 (IntKind.u64.wrap (IntKind.i64.wrap (a1 + a3))) (1 : Int))) + a2)))), (20, .x (.int .i64 (IntKind.i64.wrap ((IntKind.i64.wrap (shrI .u64 (IntKind.u64.wrap (IntKind.i64.wrap (x185 + x186))) (1 : Int))) + (1 : Int))))), (21, .x (.int .i64 x186)), (22, .x (.int .i64 (IntKind.i64.wrap ((IntKind.i64.wrap ((IntKind.i64.wrap (shrI .u64 (IntKind.u64.wrap (IntKind.i64.wrap (a1 + a3))) (1 : Int))) + a2)) - (1 : Int)))))] [⟨(some id194), 1, vl fD a0⟩] (by kernel_rfl) (by kernel_rfl) ?_
        exact ih (IntKind.i64.wrap ((IntKind.i64.wrap (shrI .u64 (IntKind.u64.wrap (IntKind.i64.wrap (x185 + x186))) (1 : Int))) + (1 : Int))) x186
      · refine JC.region fun b204 => ?_
        refine JS.run 2 (by kernel_rfl) ?_
        refine JS.nil ?_
        refine JC.to2 [(0, .ref (some id194) 0 a0.length), (1, .x (.int .i64 a1)), (2, .x (.int .i64 a2)), (3, .x (.int .i64 a3)), (4, .x (.fn 26)), (18, .x (.int .i64 (IntKind.i64.wrap (shrI .u64 (IntKind.u64.wrap (IntKind.i64.wrap (a1 + a3))) (1 : Int))))), (19, .x (.int .i64 (IntKind.i64.wrap ((IntKind.i64.wrap (shrI .u64 (IntKind.u64.wrap (IntKind.i64.wrap (a1 + a3))) (1 : Int))) + a2)))), (20, .x (.int .i64 x185)), (21, .x (.int .i64 (IntKind.i64.wrap (shrI .u64 (IntKind.u64.wrap (IntKind.i64.wrap (x185 + x186))) (1 : Int))))), (22, .x (.int .i64 (IntKind.i64.wrap ((IntKind.i64.wrap ((IntKind.i64.wrap (shrI .u64 (IntKind.u64.wrap (IntKind.i64.wrap (a1 + a3))) (1 : Int))) + a2)) - (1 : Int)))))] [⟨(some id194), 1, vl fD a0⟩] (by kernel_rfl) (by kernel_rfl) ?_
        refine JC.skipB ?_
        refine JC.skipL ?_
        refine JC.to2 [(0, .ref (some id194) 0 a0.length), (1, .x (.int .i64 a1)), (2, .x (.int .i64 a2)), (3, .x (.int .i64 a3)), (4, .x (.fn 26)), (18, .x (.int .i64 (IntKind.i64.wrap (shrI .u64 (IntKind.u64.wrap (IntKind.i64.wrap (a1 + a3))) (1 : Int))))), (19, .x (.int .i64 (IntKind.i64.wrap ((IntKind.i64.wrap (shrI .u64 (IntKind.u64.wrap (IntKind.i64.wrap (a1 + a3))) (1 : Int))) + a2)))), (20, .x (.int .i64 x185)), (21, .x (.int .i64 (IntKind.i64.wrap (shrI .u64 (IntKind.u64.wrap (IntKind.i64.wrap (x185 + x186))) (1 : Int))))), (22, .x (.int .i64 (IntKind.i64.wrap ((IntKind.i64.wrap ((IntKind.i64.wrap (shrI .u64 (IntKind.u64.wrap (IntKind.i64.wrap (a1 + a3))) (1 : Int))) + a2)) - (1 : Int)))))] [⟨(some id194), 1, vl fD a0⟩] (by kernel_rfl) (by kernel_rfl) ?_
        exact ih x185 (IntKind.i64.wrap (shrI .u64 (IntKind.u64.wrap (IntKind.i64.wrap (x185 + x186))) (1 : Int)))
    · refine JC.exitT ?_
      refine JC.exitL ?_
      refine JC.to2 [(0, .ref o0 0 a0.length), (1, .x (.int .i64 a1)), (2, .x (.int .i64 a2)), (3, .x (.int .i64 a3)), (4, .x (.fn 26)), (18, .x (.int .i64 (IntKind.i64.wrap (shrI .u64 (IntKind.u64.wrap (IntKind.i64.wrap (a1 + a3))) (1 : Int))))), (19, .x (.int .i64 (IntKind.i64.wrap ((IntKind.i64.wrap (shrI .u64 (IntKind.u64.wrap (IntKind.i64.wrap (a1 + a3))) (1 : Int))) + a2)))), (20, .x (.int .i64 x185))] [⟨o0, 1, vl fD a0⟩] (by kernel_rfl) (by kernel_rfl) ?_
      exact JC.got (ex := (.exit 8)) rfl ⟨rfl, rfl, rfl⟩
def slices_symMergeCmpFunc_body (k : Nat) (rec_slices_symMergeCmpFunc : (List Fl) → Int → Int → Int → Option (List Fl)) (a0 : (List Fl)) (a1 : Int) (a2 : Int) (a3 : Int) : Option (List Fl) :=
  cond ((IntKind.i64.wrap (a2 - a1)) == (1 : Int)) ((slices_symMergeCmpFunc_l0 a0 a1 k a2 a3).bind fun y7 => (slices_symMergeCmpFunc_l1 y7 k a1 a0).bind fun y28 => keepL a0 y28) (cond ((IntKind.i64.wrap (a3 - a2)) == (1 : Int)) ((slices_symMergeCmpFunc_l2 a0 a2 k a1 a2).bind fun y55 => (slices_symMergeCmpFunc_l3 y55 k a2 a0).bind fun y76 => keepL a0 y76) (cond (decide (a2 > (IntKind.i64.wrap (shrI .u64 (IntKind.u64.wrap (IntKind.i64.wrap (a1 + a3))) (1 : Int))))) ((slices_symMergeCmpFunc_l4 a0 a1 a2 a3 k (IntKind.i64.wrap ((IntKind.i64.wrap ((IntKind.i64.wrap (shrI .u64 (IntKind.u64.wrap (IntKind.i64.wrap (a1 + a3))) (1 : Int))) + a2)) - a3)) (IntKind.i64.wrap (shrI .u64 (IntKind.u64.wrap (IntKind.i64.wrap (a1 + a3))) (1 : Int)))).bind fun y107 => (cond (decide (y107 < a2)) (some (decide (a2 < (IntKind.i64.wrap ((IntKind.i64.wrap ((IntKind.i64.wrap (shrI .u64 (IntKind.u64.wrap (IntKind.i64.wrap (a1 + a3))) (1 : Int))) + a2)) - y107))))) (some false)).bind fun y126 => cond y126 ((slices_rotateCmpFunc k a0 y107 a2 (IntKind.i64.wrap ((IntKind.i64.wrap ((IntKind.i64.wrap (shrI .u64 (IntKind.u64.wrap (IntKind.i64.wrap (a1 + a3))) (1 : Int))) + a2)) - y107))).bind fun r131 => (cond (decide (a1 < y107)) (some (decide (y107 < (IntKind.i64.wrap (shrI .u64 (IntKind.u64.wrap (IntKind.i64.wrap (a1 + a3))) (1 : Int)))))) (some false)).bind fun y134 => cond y134 ((rec_slices_symMergeCmpFunc r131 a1 y107 (IntKind.i64.wrap (shrI .u64 (IntKind.u64.wrap (IntKind.i64.wrap (a1 + a3))) (1 : Int)))).bind fun r139 => (cond (decide ((IntKind.i64.wrap (shrI .u64 (IntKind.u64.wrap (IntKind.i64.wrap (a1 + a3))) (1 : Int))) < (IntKind.i64.wrap ((IntKind.i64.wrap ((IntKind.i64.wrap (shrI .u64 (IntKind.u64.wrap (IntKind.i64.wrap (a1 + a3))) (1 : Int))) + a2)) - y107)))) (some (decide ((IntKind.i64.wrap ((IntKind.i64.wrap ((IntKind.i64.wrap (shrI .u64 (IntKind.u64.wrap (IntKind.i64.wrap (a1 + a3))) (1 : Int))) + a2)) - y107)) < a3))) (some false)).bind fun y142 => cond y142 ((rec_slices_symMergeCmpFunc r139 (IntKind.i64.wrap (shrI .u64 (IntKind.u64.wrap (IntKind.i64.wrap (a1 + a3))) (1 : Int))) (IntKind.i64.wrap ((IntKind.i64.wrap ((IntKind.i64.wrap (shrI .u64 (IntKind.u64.wrap (IntKind.i64.wrap (a1 + a3))) (1 : Int))) + a2)) - y107)) a3).bind fun r147 => keepL a0 r147) (keepL a0 r139)) ((cond (decide ((IntKind.i64.wrap (shrI .u64 (IntKind.u64.wrap (IntKind.i64.wrap (a1 + a3))) (1 : Int))) < (IntKind.i64.wrap ((IntKind.i64.wrap ((IntKind.i64.wrap (shrI .u64 (IntKind.u64.wrap (IntKind.i64.wrap (a1 + a3))) (1 : Int))) + a2)) - y107)))) (some (decide ((IntKind.i64.wrap ((IntKind.i64.wrap ((IntKind.i64.wrap (shrI .u64 (IntKind.u64.wrap (IntKind.i64.wrap (a1 + a3))) (1 : Int))) + a2)) - y107)) < a3))) (some false)).bind fun y150 => cond y150 ((rec_slices_symMergeCmpFunc r131 (IntKind.i64.wrap (shrI .u64 (IntKind.u64.wrap (IntKind.i64.wrap (a1 + a3))) (1 : Int))) (IntKind.i64.wrap ((IntKind.i64.wrap ((IntKind.i64.wrap (shrI .u64 (IntKind.u64.wrap (IntKind.i64.wrap (a1 + a3))) (1 : Int))) + a2)) - y107)) a3).bind fun r155 => keepL a0 r155) (keepL a0 r131))) ((cond (decide (a1 < y107)) (some (decide (y107 < (IntKind.i64.wrap (shrI .u64 (IntKind.u64.wrap (IntKind.i64.wrap (a1 + a3))) (1 : Int)))))) (some false)).bind fun y158 => cond y158 ((rec_slices_symMergeCmpFunc a0 a1 y107 (IntKind.i64.wrap (shrI .u64 (IntKind.u64.wrap (IntKind.i64.wrap (a1 + a3))) (1 : Int)))).bind fun r163 => (cond (decide ((IntKind.i64.wrap (shrI .u64 (IntKind.u64.wrap (IntKind.i64.wrap (a1 + a3))) (1 : Int))) < (IntKind.i64.wrap ((IntKind.i64.wrap ((IntKind.i64.wrap (shrI .u64 (IntKind.u64.wrap (IntKind.i64.wrap (a1 + a3))) (1 : Int))) + a2)) - y107)))) (some (decide ((IntKind.i64.wrap ((IntKind.i64.wrap ((IntKind.i64.wrap (shrI .u64 (IntKind.u64.wrap (IntKind.i64.wrap (a1 + a3))) (1 : Int))) + a2)) - y107)) < a3))) (some false)).bind fun y166 => cond y166 ((rec_slices_symMergeCmpFunc r163 (IntKind.i64.wrap (shrI .u64 (IntKind.u64.wrap (IntKind.i64.wrap (a1 + a3))) (1 : Int))) (IntKind.i64.wrap ((IntKind.i64.wrap ((IntKind.i64.wrap (shrI .u64 (IntKind.u64.wrap (IntKind.i64.wrap (a1 + a3))) (1 : Int))) + a2)) - y107)) a3).bind fun r171 => keepL a0 r171) (keepL a0 r163)) ((cond (decide ((IntKind.i64.wrap (shrI .u64 (IntKind.u64.wrap (IntKind.i64.wrap (a1 + a3))) (1 : Int))) < (IntKind.i64.wrap ((IntKind.i64.wrap ((IntKind.i64.wrap (shrI .u64 (IntKind.u64.wrap (IntKind.i64.wrap (a1 + a3))) (1 : Int))) + a2)) - y107)))) (some (decide ((IntKind.i64.wrap ((IntKind.i64.wrap ((IntKind.i64.wrap (shrI .u64 (IntKind.u64.wrap (IntKind.i64.wrap (a1 + a3))) (1 : Int))) + a2)) - y107)) < a3))) (some false)).bind fun y174 => cond y174 ((rec_slices_symMergeCmpFunc a0 (IntKind.i64.wrap (shrI .u64 (IntKind.u64.wrap (IntKind.i64.wrap (a1 + a3))) (1 : Int))) (IntKind.i64.wrap ((IntKind.i64.wrap ((IntKind.i64.wrap (shrI .u64 (IntKind.u64.wrap (IntKind.i64.wrap (a1 + a3))) (1 : Int))) + a2)) - y107)) a3).bind fun r179 => keepL a0 r179) (keepL a0 a0)))) ((slices_symMergeCmpFunc_l5 a0 a1 a2 a3 k a1 a2).bind fun y187 => (cond (decide (y187 < a2)) (some (decide (a2 < (IntKind.i64.wrap ((IntKind.i64.wrap ((IntKind.i64.wrap (shrI .u64 (IntKind.u64.wrap (IntKind.i64.wrap (a1 + a3))) (1 : Int))) + a2)) - y187))))) (some false)).bind fun y206 => cond y206 ((slices_rotateCmpFunc k a0 y187 a2 (IntKind.i64.wrap ((IntKind.i64.wrap ((IntKind.i64.wrap (shrI .u64 (IntKind.u64.wrap (IntKind.i64.wrap (a1 + a3))) (1 : Int))) + a2)) - y187))).bind fun r211 => (cond (decide (a1 < y187)) (some (decide (y187 < (IntKind.i64.wrap (shrI .u64 (IntKind.u64.wrap (IntKind.i64.wrap (a1 + a3))) (1 : Int)))))) (some false)).bind fun y214 => cond y214 ((rec_slices_symMergeCmpFunc r211 a1 y187 (IntKind.i64.wrap (shrI .u64 (IntKind.u64.wrap (IntKind.i64.wrap (a1 + a3))) (1 : Int)))).bind fun r219 => (cond (decide ((IntKind.i64.wrap (shrI .u64 (IntKind.u64.wrap (IntKind.i64.wrap (a1 + a3))) (1 : Int))) < (IntKind.i64.wrap ((IntKind.i64.wrap ((IntKind.i64.wrap (shrI .u64 (IntKind.u64.wrap (IntKind.i64.wrap (a1 + a3))) (1 : Int))) + a2)) - y187)))) (some (decide ((IntKind.i64.wrap ((IntKind.i64.wrap ((IntKind.i64.wrap (shrI .u64 (IntKind.u64.wrap (IntKind.i64.wrap (a1 + a3))) (1 : Int))) + a2)) - y187)) < a3))) (some false)).bind fun y222 => cond y222 ((rec_slices_symMergeCmpFunc r219 (IntKind.i64.wrap (shrI .u64 (IntKind.u64.wrap (IntKind.i64.wrap (a1 + a3))) (1 : Int))) (IntKind.i64.wrap ((IntKind.i64.wrap ((IntKind.i64.wrap (shrI .u64 (IntKind.u64.wrap (IntKind.i64.wrap (a1 + a3))) (1 : Int))) + a2)) - y187)) a3).bind fun r227 => keepL a0 r227) (keepL a0 r219)) ((cond (decide ((IntKind.i64.wrap (shrI .u64 (IntKind.u64.wrap (IntKind.i64.wrap (a1 + a3))) (1 : Int))) < (IntKind.i64.wrap ((IntKind.i64.wrap ((IntKind.i64.wrap (shrI .u64 (IntKind.u64.wrap (IntKind.i64.wrap (a1 + a3))) (1 : Int))) + a2)) - y187)))) (some (decide ((IntKind.i64.wrap ((IntKind.i64.wrap ((IntKind.i64.wrap (shrI .u64 (IntKind.u64.wrap (IntKind.i64.wrap (a1 + a3))) (1 : Int))) + a2)) - y187)) < a3))) (some false)).bind fun y230 => cond y230 ((rec_slices_symMergeCmpFunc r211 (IntKind.i64.wrap (shrI .u64 (IntKind.u64.wrap (IntKind.i64.wrap (a1 + a3))) (1 : Int))) (IntKind.i64.wrap ((IntKind.i64.wrap ((IntKind.i64.wrap (shrI .u64 (IntKind.u64.wrap (IntKind.i64.wrap (a1 + a3))) (1 : Int))) + a2)) - y187)) a3).bind fun r235 => keepL a0 r235) (keepL a0 r211))) ((cond (decide (a1 < y187)) (some (decide (y187 < (IntKind.i64.wrap (shrI .u64 (IntKind.u64.wrap (IntKind.i64.wrap (a1 + a3))) (1 : Int)))))) (some false)).bind fun y238 => cond y238 ((rec_slices_symMergeCmpFunc a0 a1 y187 (IntKind.i64.wrap (shrI .u64 (IntKind.u64.wrap (IntKind.i64.wrap (a1 + a3))) (1 : Int)))).bind fun r243 => (cond (decide ((IntKind.i64.wrap (shrI .u64 (IntKind.u64.wrap (IntKind.i64.wrap (a1 + a3))) (1 : Int))) < (IntKind.i64.wrap ((IntKind.i64.wrap ((IntKind.i64.wrap (shrI .u64 (IntKind.u64.wrap (IntKind.i64.wrap (a1 + a3))) (1 : Int))) + a2)) - y187)))) (some (decide ((IntKind.i64.wrap ((IntKind.i64.wrap ((IntKind.i64.wrap (shrI .u64 (IntKind.u64.wrap (IntKind.i64.wrap (a1 + a3))) (1 : Int))) + a2)) - y187)) < a3))) (some false)).bind fun y246 => cond y246 ((rec_slices_symMergeCmpFunc r243 (IntKind.i64.wrap (shrI .u64 (IntKind.u64.wrap (IntKind.i64.wrap (a1 + a3))) (1 : Int))) (IntKind.i64.wrap ((IntKind.i64.wrap ((IntKind.i64.wrap (shrI .u64 (IntKind.u64.wrap (IntKind.i64.wrap (a1 + a3))) (1 : Int))) + a2)) - y187)) a3).bind fun r251 => keepL a0 r251) (keepL a0 r243)) ((cond (decide ((IntKind.i64.wrap (shrI .u64 (IntKind.u64.wrap (IntKind.i64.wrap (a1 + a3))) (1 : Int))) < (IntKind.i64.wrap ((IntKind.i64.wrap ((IntKind.i64.wrap (shrI .u64 (IntKind.u64.wrap (IntKind.i64.wrap (a1 + a3))) (1 : Int))) + a2)) - y187)))) (some (decide ((IntKind.i64.wrap ((IntKind.i64.wrap ((IntKind.i64.wrap (shrI .u64 (IntKind.u64.wrap (IntKind.i64.wrap (a1 + a3))) (1 : Int))) + a2)) - y187)) < a3))) (some false)).bind fun y254 => cond y254 ((rec_slices_symMergeCmpFunc a0 (IntKind.i64.wrap (shrI .u64 (IntKind.u64.wrap (IntKind.i64.wrap (a1 + a3))) (1 : Int))) (IntKind.i64.wrap ((IntKind.i64.wrap ((IntKind.i64.wrap (shrI .u64 (IntKind.u64.wrap (IntKind.i64.wrap (a1 + a3))) (1 : Int))) + a2)) - y187)) a3).bind fun r259 => keepL a0 r259) (keepL a0 a0))))))
theorem slices_symMergeCmpFunc_body_ok (k : Nat) (rec_slices_symMergeCmpFunc : (List Fl) → Int → Int → Int → Option (List Fl)) (h_slices_symMergeCmpFunc : ∀ (a0 : (List Fl)) (a1 : Int) (a2 : Int) (a3 : Int) (r : (List Fl)), rec_slices_symMergeCmpFunc a0 a1 a2 a3 = some r → InOk prog 34 1 fD [.x (.int .i64 a1), .x (.int .i64 a2), .x (.int .i64 a3), .x (.fn 26)] a0 r) : ∀ (a0 : (List Fl)) (a1 : Int) (a2 : Int) (a3 : Int) (r : (List Fl)), slices_symMergeCmpFunc_body k rec_slices_symMergeCmpFunc a0 a1 a2 a3 = some r → InOk prog 34 1 fD [.x (.int .i64 a1), .x (.int .i64 a2), .x (.int .i64 a3), .x (.fn 26)] a0 r := by
  intro a0 a1 a2 a3
  refine InOk.of (pf := pf34) rfl rfl rfl rfl ?_
  intro fr o0
  unfold slices_symMergeCmpFunc_body pf34
  refine JC.seq ?_
  refine JC.seq ?_
  refine JC.region fun b1 => ?_
  refine JS.run 4 (by kernel_rfl) ?_
  refine JS.nil ?_
  refine JC.to2 [(0, .ref o0 0 a0.length), (1, .x (.int .i64 a1)), (2, .x (.int .i64 a2)), (3, .x (.int .i64 a3)), (4, .x (.fn 26)), (28, .x (.bool ((IntKind.i64.wrap (a2 - a1)) == (1 : Int))))] [⟨o0, 1, vl fD a0⟩] (by kernel_rfl) (by kernel_rfl) ?_
  refine JC.skipT ?_
  refine JC.cond (e := ((IntKind.i64.wrap (a2 - a1)) == (1 : Int))) (by kernel_rfl) (fun h2 => ?_) (fun h2 => ?_)
  · refine JC.seq ?_
    refine JC.region fun b3 => ?_
    refine JS.run 2 (by kernel_rfl) ?_
    refine JS.nil ?_
    refine JC.to2 [(0, .ref o0 0 a0.length), (1, .x (.int .i64 a1)), (3, .x (.int .i64 a3)), (4, .x (.fn 26)), (10, .x (.int .i64 a2))] [⟨o0, 1, vl fD a0⟩] (by kernel_rfl) (by kernel_rfl) ?_
    refine JC.skipT ?_
    refine JC.seq ?_
    refine JC.region fun b4 => ?_
    refine JS.run 2 (by kernel_rfl) ?_
    refine JS.nil ?_
    refine JC.to2 [(0, .ref o0 0 a0.length), (1, .x (.int .i64 a1)), (4, .x (.fn 26)), (10, .x (.int .i64 a2)), (11, .x (.int .i64 a3))] [⟨o0, 1, vl fD a0⟩] (by kernel_rfl) (by kernel_rfl) ?_
    refine JC.skipT ?_
    refine JC.seq ?_
    refine JC.block ?_
    refine JC.to2 [(0, .ref o0 0 a0.length), (1, .x (.int .i64 a1)), (4, .x (.fn 26)), (10, .x (.int .i64 a2)), (11, .x (.int .i64 a3))] [⟨o0, 1, vl fD a0⟩] (by kernel_rfl) (by kernel_rfl) ?_
    refine JC.to2 [(0, .ref o0 0 a0.length), (1, .x (.int .i64 a1)), (4, .x (.fn 26)), (10, .x (.int .i64 a2)), (11, .x (.int .i64 a3))] [⟨o0, 1, vl fD a0⟩] (by kernel_rfl) (by kernel_rfl) ?_
    refine JC.bind (A := fun v ex E R => ex = (.exit 0) ∧ E = [(0, .ref o0 0 a0.length), (1, .x (.int .i64 a1)), (10, .x (.int .i64 v))] ∧ R = [⟨o0, 1, vl fD a0⟩]) (slices_symMergeCmpFunc_l0_ok a0 a1 fr o0 k a2 a3) ?_
    rintro y7 ex E' R' hA
    obtain ⟨rfl, rfl, rfl⟩ := hA
    refine JC.to2 [(0, .ref o0 0 a0.length), (1, .x (.int .i64 a1)), (10, .x (.int .i64 y7))] [⟨o0, 1, vl fD a0⟩] (by kernel_rfl) (by kernel_rfl) ?_
    refine JC.exitB ?_
    refine JC.skipT ?_
    refine JC.seq ?_
    refine JC.seq ?_
    refine JC.region fun b25 => ?_
    refine JS.run 2 (by kernel_rfl) ?_
    refine JS.nil ?_
    refine JC.to2 [(0, .ref o0 0 a0.length), (10, .x (.int .i64 y7)), (13, .x (.int .i64 a1))] [⟨o0, 1, vl fD a0⟩] (by kernel_rfl) (by kernel_rfl) ?_
    refine JC.skipT ?_
    refine JC.block ?_
    refine JC.to2 [(0, .ref o0 0 a0.length), (10, .x (.int .i64 y7)), (13, .x (.int .i64 a1))] [⟨o0, 1, vl fD a0⟩] (by kernel_rfl) (by kernel_rfl) ?_
    refine JC.to2 [(0, .ref o0 0 a0.length), (10, .x (.int .i64 y7)), (13, .x (.int .i64 a1))] [⟨o0, 1, vl fD a0⟩] (by kernel_rfl) (by kernel_rfl) ?_
    refine JC.bind (A := fun v ex E R => ex = (.exit 2) ∧ E = [(0, .ref o0 0 v.length)] ∧ R = [⟨o0, 1, vl fD v⟩]) (slices_symMergeCmpFunc_l1_ok y7 fr o0 k a1 a0) ?_
    rintro y28 ex E' R' hA
    obtain ⟨rfl, rfl, rfl⟩ := hA
    refine JC.to2 [(0, .ref o0 0 y28.length)] [⟨o0, 1, vl fD y28⟩] (by kernel_rfl) (by kernel_rfl) ?_
    refine JC.exitB ?_
    refine JC.skipT ?_
    refine JC.retT ?_
    exact JC.finI (ex := .ret) (l := a0) rfl ret_ne rfl
  · refine JC.skipT ?_
    refine JC.seq ?_
    refine JC.seq ?_
    refine JC.region fun b49 => ?_
    refine JS.run 4 (by kernel_rfl) ?_
    refine JS.nil ?_
    refine JC.to2 [(0, .ref o0 0 a0.length), (1, .x (.int .i64 a1)), (2, .x (.int .i64 a2)), (3, .x (.int .i64 a3)), (4, .x (.fn 26)), (80, .x (.bool ((IntKind.i64.wrap (a3 - a2)) == (1 : Int))))] [⟨o0, 1, vl fD a0⟩] (by kernel_rfl) (by kernel_rfl) ?_
    refine JC.skipT ?_
    refine JC.cond (e := ((IntKind.i64.wrap (a3 - a2)) == (1 : Int))) (by kernel_rfl) (fun h50 => ?_) (fun h50 => ?_)
    · refine JC.seq ?_
      refine JC.region fun b51 => ?_
      refine JS.run 2 (by kernel_rfl) ?_
      refine JS.nil ?_
      refine JC.to2 [(0, .ref o0 0 a0.length), (2, .x (.int .i64 a2)), (4, .x (.fn 26)), (14, .x (.int .i64 a1))] [⟨o0, 1, vl fD a0⟩] (by kernel_rfl) (by kernel_rfl) ?_
      refine JC.skipT ?_
      refine JC.seq ?_
      refine JC.region fun b52 => ?_
      refine JS.run 2 (by kernel_rfl) ?_
      refine JS.nil ?_
      refine JC.to2 [(0, .ref o0 0 a0.length), (2, .x (.int .i64 a2)), (4, .x (.fn 26)), (14, .x (.int .i64 a1)), (15, .x (.int .i64 a2))] [⟨o0, 1, vl fD a0⟩] (by kernel_rfl) (by kernel_rfl) ?_
      refine JC.skipT ?_
      refine JC.seq ?_
      refine JC.block ?_
      refine JC.to2 [(0, .ref o0 0 a0.length), (2, .x (.int .i64 a2)), (4, .x (.fn 26)), (14, .x (.int .i64 a1)), (15, .x (.int .i64 a2))] [⟨o0, 1, vl fD a0⟩] (by kernel_rfl) (by kernel_rfl) ?_
      refine JC.to2 [(0, .ref o0 0 a0.length), (2, .x (.int .i64 a2)), (4, .x (.fn 26)), (14, .x (.int .i64 a1)), (15, .x (.int .i64 a2))] [⟨o0, 1, vl fD a0⟩] (by kernel_rfl) (by kernel_rfl) ?_
      refine JC.bind (A := fun v ex E R => ex = (.exit 4) ∧ E = [(0, .ref o0 0 a0.length), (2, .x (.int .i64 a2)), (14, .x (.int .i64 v))] ∧ R = [⟨o0, 1, vl fD a0⟩]) (slices_symMergeCmpFunc_l2_ok a0 a2 fr o0 k a1 a2) ?_
      rintro y55 ex E' R' hA
      obtain ⟨rfl, rfl, rfl⟩ := hA
      refine JC.to2 [(0, .ref o0 0 a0.length), (2, .x (.int .i64 a2)), (14, .x (.int .i64 y55))] [⟨o0, 1, vl fD a0⟩] (by kernel_rfl) (by kernel_rfl) ?_
      refine JC.exitB ?_
      refine JC.skipT ?_
      refine JC.seq ?_
      refine JC.seq ?_
      refine JC.region fun b73 => ?_
      refine JS.run 2 (by kernel_rfl) ?_
      refine JS.nil ?_
      refine JC.to2 [(0, .ref o0 0 a0.length), (14, .x (.int .i64 y55)), (17, .x (.int .i64 a2))] [⟨o0, 1, vl fD a0⟩] (by kernel_rfl) (by kernel_rfl) ?_
      refine JC.skipT ?_
      refine JC.block ?_
      refine JC.to2 [(0, .ref o0 0 a0.length), (14, .x (.int .i64 y55)), (17, .x (.int .i64 a2))] [⟨o0, 1, vl fD a0⟩] (by kernel_rfl) (by kernel_rfl) ?_
      refine JC.to2 [(0, .ref o0 0 a0.length), (14, .x (.int .i64 y55)), (17, .x (.int .i64 a2))] [⟨o0, 1, vl fD a0⟩] (by kernel_rfl) (by kernel_rfl) ?_
      refine JC.bind (A := fun v ex E R => ex = (.exit 6) ∧ E = [(0, .ref o0 0 v.length)] ∧ R = [⟨o0, 1, vl fD v⟩]) (slices_symMergeCmpFunc_l3_ok y55 fr o0 k a2 a0) ?_
      rintro y76 ex E' R' hA
      obtain ⟨rfl, rfl, rfl⟩ := hA
      refine JC.to2 [(0, .ref o0 0 y76.length)] [⟨o0, 1, vl fD y76⟩] (by kernel_rfl) (by kernel_rfl) ?_
      refine JC.exitB ?_
      refine JC.skipT ?_
      refine JC.retT ?_
      exact JC.finI (ex := .ret) (l := a0) rfl ret_ne rfl
    · refine JC.skipT ?_
      refine JC.seq ?_
      refine JC.region fun b97 => ?_
      refine JS.run 7 (by kernel_rfl) ?_
      refine JS.nil ?_
      refine JC.to2 [(0, .ref o0 0 a0.length), (1, .x (.int .i64 a1)), (2, .x (.int .i64 a2)), (3, .x (.int .i64 a3)), (4, .x (.fn 26)), (18, .x (.int .i64 (IntKind.i64.wrap (shrI .u64 (IntKind.u64.wrap (IntKind.i64.wrap (a1 + a3))) (1 : Int)))))] [⟨o0, 1, vl fD a0⟩] (by kernel_rfl) (by kernel_rfl) ?_
      refine JC.skipT ?_
      refine JC.seq ?_
      refine JC.region fun b98 => ?_
      refine JS.run 4 (by kernel_rfl) ?_
      refine JS.nil ?_
      refine JC.to2 [(0, .ref o0 0 a0.length), (1, .x (.int .i64 a1)), (2, .x (.int .i64 a2)), (3, .x (.int .i64 a3)), (4, .x (.fn 26)), (18, .x (.int .i64 (IntKind.i64.wrap (shrI .u64 (IntKind.u64.wrap (IntKind.i64.wrap (a1 + a3))) (1 : Int))))), (19, .x (.int .i64 (IntKind.i64.wrap ((IntKind.i64.wrap (shrI .u64 (IntKind.u64.wrap (IntKind.i64.wrap (a1 + a3))) (1 : Int))) + a2))))] [⟨o0, 1, vl fD a0⟩] (by kernel_rfl) (by kernel_rfl) ?_
      refine JC.skipT ?_
      refine JC.seq ?_
      refine JC.region fun b99 => ?_
      refine JS.run 2 (by kernel_rfl) ?_
      refine JS.nil ?_
      refine JC.to2 [(0, .ref o0 0 a0.length), (1, .x (.int .i64 a1)), (2, .x (.int .i64 a2)), (3, .x (.int .i64 a3)), (4, .x (.fn 26)), (18, .x (.int .i64 (IntKind.i64.wrap (shrI .u64 (IntKind.u64.wrap (IntKind.i64.wrap (a1 + a3))) (1 : Int))))), (19, .x (.int .i64 (IntKind.i64.wrap ((IntKind.i64.wrap (shrI .u64 (IntKind.u64.wrap (IntKind.i64.wrap (a1 + a3))) (1 : Int))) + a2))))] [⟨o0, 1, vl fD a0⟩] (by kernel_rfl) (by kernel_rfl) ?_
      refine JC.skipT ?_
      refine JC.seq ?_
      refine JC.seq ?_
      refine JC.region fun b100 => ?_
      refine JS.run 3 (by kernel_rfl) ?_
      refine JS.nil ?_
      refine JC.to2 [(0, .ref o0 0 a0.length), (1, .x (.int .i64 a1)), (2, .x (.int .i64 a2)), (3, .x (.int .i64 a3)), (4, .x (.fn 26)), (18, .x (.int .i64 (IntKind.i64.wrap (shrI .u64 (IntKind.u64.wrap (IntKind.i64.wrap (a1 + a3))) (1 : Int))))), (19, .x (.int .i64 (IntKind.i64.wrap ((IntKind.i64.wrap (shrI .u64 (IntKind.u64.wrap (IntKind.i64.wrap (a1 + a3))) (1 : Int))) + a2)))), (140, .x (.bool (decide (a2 > (IntKind.i64.wrap (shrI .u64 (IntKind.u64.wrap (IntKind.i64.wrap (a1 + a3))) (1 : Int)))))))] [⟨o0, 1, vl fD a0⟩] (by kernel_rfl) (by kernel_rfl) ?_
      refine JC.skipT ?_
      refine JC.cond (e := (decide (a2 > (IntKind.i64.wrap (shrI .u64 (IntKind.u64.wrap (IntKind.i64.wrap (a1 + a3))) (1 : Int)))))) (by kernel_rfl) (fun h101 => ?_) (fun h101 => ?_)
      · refine JC.seq ?_
        refine JC.region fun b102 => ?_
        refine JS.run 4 (by kernel_rfl) ?_
        refine JS.nil ?_
        refine JC.to2 [(0, .ref o0 0 a0.length), (1, .x (.int .i64 a1)), (2, .x (.int .i64 a2)), (3, .x (.int .i64 a3)), (4, .x (.fn 26)), (18, .x (.int .i64 (IntKind.i64.wrap (shrI .u64 (IntKind.u64.wrap (IntKind.i64.wrap (a1 + a3))) (1 : Int))))), (19, .x (.int .i64 (IntKind.i64.wrap ((IntKind.i64.wrap (shrI .u64 (IntKind.u64.wrap (IntKind.i64.wrap (a1 + a3))) (1 : Int))) + a2)))), (20, .x (.int .i64 (IntKind.i64.wrap ((IntKind.i64.wrap ((IntKind.i64.wrap (shrI .u64 (IntKind.u64.wrap (IntKind.i64.wrap (a1 + a3))) (1 : Int))) + a2)) - a3))))] [⟨o0, 1, vl fD a0⟩] (by kernel_rfl) (by kernel_rfl) ?_
        refine JC.skipT ?_
        refine JC.region fun b103 => ?_
        refine JS.run 2 (by kernel_rfl) ?_
        refine JS.nil ?_
        refine JC.to2 [(0, .ref o0 0 a0.length), (1, .x (.int .i64 a1)), (2, .x (.int .i64 a2)), (3, .x (.int .i64 a3)), (4, .x (.fn 26)), (18, .x (.int .i64 (IntKind.i64.wrap (shrI .u64 (IntKind.u64.wrap (IntKind.i64.wrap (a1 + a3))) (1 : Int))))), (19, .x (.int .i64 (IntKind.i64.wrap ((IntKind.i64.wrap (shrI .u64 (IntKind.u64.wrap (IntKind.i64.wrap (a1 + a3))) (1 : Int))) + a2)))), (20, .x (.int .i64 (IntKind.i64.wrap ((IntKind.i64.wrap ((IntKind.i64.wrap (shrI .u64 (IntKind.u64.wrap (IntKind.i64.wrap (a1 + a3))) (1 : Int))) + a2)) - a3)))), (21, .x (.int .i64 (IntKind.i64.wrap (shrI .u64 (IntKind.u64.wrap (IntKind.i64.wrap (a1 + a3))) (1 : Int)))))] [⟨o0, 1, vl fD a0⟩] (by kernel_rfl) (by kernel_rfl) ?_
        refine JC.skipT ?_
        refine JC.seq ?_
        refine JC.region fun b104 => ?_
        refine JS.run 3 (by kernel_rfl) ?_
        refine JS.nil ?_
        refine JC.to2 [(0, .ref o0 0 a0.length), (1, .x (.int .i64 a1)), (2, .x (.int .i64 a2)), (3, .x (.int .i64 a3)), (4, .x (.fn 26)), (18, .x (.int .i64 (IntKind.i64.wrap (shrI .u64 (IntKind.u64.wrap (IntKind.i64.wrap (a1 + a3))) (1 : Int))))), (19, .x (.int .i64 (IntKind.i64.wrap ((IntKind.i64.wrap (shrI .u64 (IntKind.u64.wrap (IntKind.i64.wrap (a1 + a3))) (1 : Int))) + a2)))), (20, .x (.int .i64 (IntKind.i64.wrap ((IntKind.i64.wrap ((IntKind.i64.wrap (shrI .u64 (IntKind.u64.wrap (IntKind.i64.wrap (a1 + a3))) (1 : Int))) + a2)) - a3)))), (21, .x (.int .i64 (IntKind.i64.wrap (shrI .u64 (IntKind.u64.wrap (IntKind.i64.wrap (a1 + a3))) (1 : Int))))), (22, .x (.int .i64 (IntKind.i64.wrap ((IntKind.i64.wrap ((IntKind.i64.wrap (shrI .u64 (IntKind.u64.wrap (IntKind.i64.wrap (a1 + a3))) (1 : Int))) + a2)) - (1 : Int)))))] [⟨o0, 1, vl fD a0⟩] (by kernel_rfl) (by kernel_rfl) ?_
        refine JC.skipT ?_
        refine JC.seq ?_
        refine JC.block ?_
        refine JC.to2 [(0, .ref o0 0 a0.length), (1, .x (.int .i64 a1)), (2, .x (.int .i64 a2)), (3, .x (.int .i64 a3)), (4, .x (.fn 26)), (18, .x (.int .i64 (IntKind.i64.wrap (shrI .u64 (IntKind.u64.wrap (IntKind.i64.wrap (a1 + a3))) (1 : Int))))), (19, .x (.int .i64 (IntKind.i64.wrap ((IntKind.i64.wrap (shrI .u64 (IntKind.u64.wrap (IntKind.i64.wrap (a1 + a3))) (1 : Int))) + a2)))), (20, .x (.int .i64 (IntKind.i64.wrap ((IntKind.i64.wrap ((IntKind.i64.wrap (shrI .u64 (IntKind.u64.wrap (IntKind.i64.wrap (a1 + a3))) (1 : Int))) + a2)) - a3)))), (21, .x (.int .i64 (IntKind.i64.wrap (shrI .u64 (IntKind.u64.wrap (IntKind.i64.wrap (a1 + a3))) (1 : Int))))), (22, .x (.int .i64 (IntKind.i64.wrap ((IntKind.i64.wrap ((IntKind.i64.wrap (shrI .u64 (IntKind.u64.wrap (IntKind.i64.wrap (a1 + a3))) (1 : Int))) + a2)) - (1 : Int)))))] [⟨o0, 1, vl fD a0⟩] (by kernel_rfl) (by kernel_rfl) ?_
        refine JC.to2 [(0, .ref o0 0 a0.length), (1, .x (.int .i64 a1)), (2, .x (.int .i64 a2)), (3, .x (.int .i64 a3)), (4, .x (.fn 26)), (18, .x (.int .i64 (IntKind.i64.wrap (shrI .u64 (IntKind.u64.wrap (IntKind.i64.wrap (a1 + a3))) (1 : Int))))), (19, .x (.int .i64 (IntKind.i64.wrap ((IntKind.i64.wrap (shrI .u64 (IntKind.u64.wrap (IntKind.i64.wrap (a1 + a3))) (1 : Int))) + a2)))), (20, .x (.int .i64 (IntKind.i64.wrap ((IntKind.i64.wrap ((IntKind.i64.wrap (shrI .u64 (IntKind.u64.wrap (IntKind.i64.wrap (a1 + a3))) (1 : Int))) + a2)) - a3)))), (21, .x (.int .i64 (IntKind.i64.wrap (shrI .u64 (IntKind.u64.wrap (IntKind.i64.wrap (a1 + a3))) (1 : Int))))), (22, .x (.int .i64 (IntKind.i64.wrap ((IntKind.i64.wrap ((IntKind.i64.wrap (shrI .u64 (IntKind.u64.wrap (IntKind.i64.wrap (a1 + a3))) (1 : Int))) + a2)) - (1 : Int)))))] [⟨o0, 1, vl fD a0⟩] (by kernel_rfl) (by kernel_rfl) ?_
        refine JC.bind (A := fun v ex E R => ex = (.exit 8) ∧ E = [(0, .ref o0 0 a0.length), (1, .x (.int .i64 a1)), (2, .x (.int .i64 a2)), (3, .x (.int .i64 a3)), (4, .x (.fn 26)), (18, .x (.int .i64 (IntKind.i64.wrap (shrI .u64 (IntKind.u64.wrap (IntKind.i64.wrap (a1 + a3))) (1 : Int))))), (19, .x (.int .i64 (IntKind.i64.wrap ((IntKind.i64.wrap (shrI .u64 (IntKind.u64.wrap (IntKind.i64.wrap (a1 + a3))) (1 : Int))) + a2)))), (20, .x (.int .i64 v))] ∧ R = [⟨o0, 1, vl fD a0⟩]) (slices_symMergeCmpFunc_l4_ok a0 a1 a2 a3 fr o0 k (IntKind.i64.wrap ((IntKind.i64.wrap ((IntKind.i64.wrap (shrI .u64 (IntKind.u64.wrap (IntKind.i64.wrap (a1 + a3))) (1 : Int))) + a2)) - a3)) (IntKind.i64.wrap (shrI .u64 (IntKind.u64.wrap (IntKind.i64.wrap (a1 + a3))) (1 : Int)))) ?_
        rintro y107 ex E' R' hA
        obtain ⟨rfl, rfl, rfl⟩ := hA
        refine JC.to2 [(0, .ref o0 0 a0.length), (1, .x (.int .i64 a1)), (2, .x (.int .i64 a2)), (3, .x (.int .i64 a3)), (4, .x (.fn 26)), (18, .x (.int .i64 (IntKind.i64.wrap (shrI .u64 (IntKind.u64.wrap (IntKind.i64.wrap (a1 + a3))) (1 : Int))))), (19, .x (.int .i64 (IntKind.i64.wrap ((IntKind.i64.wrap (shrI .u64 (IntKind.u64.wrap (IntKind.i64.wrap (a1 + a3))) (1 : Int))) + a2)))), (20, .x (.int .i64 y107))] [⟨o0, 1, vl fD a0⟩] (by kernel_rfl) (by kernel_rfl) ?_
        refine JC.exitB ?_
        refine JC.skipT ?_
        refine JC.seq ?_
        refine JC.region fun b125 => ?_
        refine JS.run 4 (by kernel_rfl) ?_
        refine JS.nil ?_
        refine JC.to2 [(0, .ref o0 0 a0.length), (1, .x (.int .i64 a1)), (2, .x (.int .i64 a2)), (3, .x (.int .i64 a3)), (4, .x (.fn 26)), (18, .x (.int .i64 (IntKind.i64.wrap (shrI .u64 (IntKind.u64.wrap (IntKind.i64.wrap (a1 + a3))) (1 : Int))))), (20, .x (.int .i64 y107)), (24, .x (.int .i64 (IntKind.i64.wrap ((IntKind.i64.wrap ((IntKind.i64.wrap (shrI .u64 (IntKind.u64.wrap (IntKind.i64.wrap (a1 + a3))) (1 : Int))) + a2)) - y107))))] [⟨o0, 1, vl fD a0⟩] (by kernel_rfl) (by kernel_rfl) ?_
        refine JC.skipT ?_
        refine JC.seq ?_
        refine JC.seq ?_
        refine JC.bind (A := fun v ex E R => ex = .normal ∧ E = [(0, .ref o0 0 a0.length), (1, .x (.int .i64 a1)), (2, .x (.int .i64 a2)), (3, .x (.int .i64 a3)), (4, .x (.fn 26)), (18, .x (.int .i64 (IntKind.i64.wrap (shrI .u64 (IntKind.u64.wrap (IntKind.i64.wrap (a1 + a3))) (1 : Int))))), (20, .x (.int .i64 y107)), (24, .x (.int .i64 (IntKind.i64.wrap ((IntKind.i64.wrap ((IntKind.i64.wrap (shrI .u64 (IntKind.u64.wrap (IntKind.i64.wrap (a1 + a3))) (1 : Int))) + a2)) - y107)))), (185, .x (.bool v))] ∧ R = [⟨o0, 1, vl fD a0⟩]) ?_ ?_
        · refine JC.region fun b127 => ?_
          refine JS.run 4 (by kernel_rfl) ?_
          refine JS.split (e := (decide (y107 < a2))) 181 (by kernel_rfl) (fun h128 => ?_) (fun h128 => ?_)
          · refine JS.run 4 (by kernel_rfl) ?_
            refine JS.nil ?_
            refine JC.to2 [(0, .ref o0 0 a0.length), (1, .x (.int .i64 a1)), (2, .x (.int .i64 a2)), (3, .x (.int .i64 a3)), (4, .x (.fn 26)), (18, .x (.int .i64 (IntKind.i64.wrap (shrI .u64 (IntKind.u64.wrap (IntKind.i64.wrap (a1 + a3))) (1 : Int))))), (20, .x (.int .i64 y107)), (24, .x (.int .i64 (IntKind.i64.wrap ((IntKind.i64.wrap ((IntKind.i64.wrap (shrI .u64 (IntKind.u64.wrap (IntKind.i64.wrap (a1 + a3))) (1 : Int))) + a2)) - y107)))), (185, .x (.bool (decide (a2 < (IntKind.i64.wrap ((IntKind.i64.wrap ((IntKind.i64.wrap (shrI .u64 (IntKind.u64.wrap (IntKind.i64.wrap (a1 + a3))) (1 : Int))) + a2)) - y107))))))] [⟨o0, 1, vl fD a0⟩] (by kernel_rfl) (by kernel_rfl) ?_
            refine JC.to2 [(0, .ref o0 0 a0.length), (1, .x (.int .i64 a1)), (2, .x (.int .i64 a2)), (3, .x (.int .i64 a3)), (4, .x (.fn 26)), (18, .x (.int .i64 (IntKind.i64.wrap (shrI .u64 (IntKind.u64.wrap (IntKind.i64.wrap (a1 + a3))) (1 : Int))))), (20, .x (.int .i64 y107)), (24, .x (.int .i64 (IntKind.i64.wrap ((IntKind.i64.wrap ((IntKind.i64.wrap (shrI .u64 (IntKind.u64.wrap (IntKind.i64.wrap (a1 + a3))) (1 : Int))) + a2)) - y107)))), (185, .x (.bool (decide (a2 < (IntKind.i64.wrap ((IntKind.i64.wrap ((IntKind.i64.wrap (shrI .u64 (IntKind.u64.wrap (IntKind.i64.wrap (a1 + a3))) (1 : Int))) + a2)) - y107))))))] [⟨o0, 1, vl fD a0⟩] (by kernel_rfl) (by kernel_rfl) ?_
            exact JC.got (ex := .normal) rfl ⟨rfl, rfl, rfl⟩
          · refine JS.run 4 (by kernel_rfl) ?_
            refine JS.nil ?_
            refine JC.to2 [(0, .ref o0 0 a0.length), (1, .x (.int .i64 a1)), (2, .x (.int .i64 a2)), (3, .x (.int .i64 a3)), (4, .x (.fn 26)), (18, .x (.int .i64 (IntKind.i64.wrap (shrI .u64 (IntKind.u64.wrap (IntKind.i64.wrap (a1 + a3))) (1 : Int))))), (20, .x (.int .i64 y107)), (24, .x (.int .i64 (IntKind.i64.wrap ((IntKind.i64.wrap ((IntKind.i64.wrap (shrI .u64 (IntKind.u64.wrap (IntKind.i64.wrap (a1 + a3))) (1 : Int))) + a2)) - y107)))), (185, .x (.bool false))] [⟨o0, 1, vl fD a0⟩] (by kernel_rfl) (by kernel_rfl) ?_
            refine JC.to2 [(0, .ref o0 0 a0.length), (1, .x (.int .i64 a1)), (2, .x (.int .i64 a2)), (3, .x (.int .i64 a3)), (4, .x (.fn 26)), (18, .x (.int .i64 (IntKind.i64.wrap (shrI .u64 (IntKind.u64.wrap (IntKind.i64.wrap (a1 + a3))) (1 : Int))))), (20, .x (.int .i64 y107)), (24, .x (.int .i64 (IntKind.i64.wrap ((IntKind.i64.wrap ((IntKind.i64.wrap (shrI .u64 (IntKind.u64.wrap (IntKind.i64.wrap (a1 + a3))) (1 : Int))) + a2)) - y107)))), (185, .x (.bool false))] [⟨o0, 1, vl fD a0⟩] (by kernel_rfl) (by kernel_rfl) ?_
            exact JC.got (ex := .normal) rfl ⟨rfl, rfl, rfl⟩
        · rintro y126 ex E' R' hA
          obtain ⟨rfl, rfl, rfl⟩ := hA
          refine JC.to2 [(0, .ref o0 0 a0.length), (1, .x (.int .i64 a1)), (2, .x (.int .i64 a2)), (3, .x (.int .i64 a3)), (4, .x (.fn 26)), (18, .x (.int .i64 (IntKind.i64.wrap (shrI .u64 (IntKind.u64.wrap (IntKind.i64.wrap (a1 + a3))) (1 : Int))))), (20, .x (.int .i64 y107)), (24, .x (.int .i64 (IntKind.i64.wrap ((IntKind.i64.wrap ((IntKind.i64.wrap (shrI .u64 (IntKind.u64.wrap (IntKind.i64.wrap (a1 + a3))) (1 : Int))) + a2)) - y107)))), (185, .x (.bool y126))] [⟨o0, 1, vl fD a0⟩] (by kernel_rfl) (by kernel_rfl) ?_
          refine JC.skipT ?_
          refine JC.cond (e := y126) (by kernel_rfl) (fun h129 => ?_) (fun h129 => ?_)
          · refine JC.region fun b130 => ?_
            refine JS.run 5 (by kernel_rfl) ?_
            refine JS.bind fun r131 h132 => ?_
            refine JS.callI (args := [.x (.int .i64 y107), .x (.int .i64 a2), .x (.int .i64 (IntKind.i64.wrap ((IntKind.i64.wrap ((IntKind.i64.wrap (shrI .u64 (IntKind.u64.wrap (IntKind.i64.wrap (a1 + a3))) (1 : Int))) + a2)) - y107))), .x (.fn 26)]) (l := a0) (o := o0) [] (slices_rotateCmpFunc_ok k a0 y107 a2 (IntKind.i64.wrap ((IntKind.i64.wrap ((IntKind.i64.wrap (shrI .u64 (IntKind.u64.wrap (IntKind.i64.wrap (a1 + a3))) (1 : Int))) + a2)) - y107)) r131 h132) (by kernel_rfl) (by kernel_rfl) (by kernel_rfl) (by kernel_rfl) (fun h133 => ?_)
            refine JS.relen (o := o0) (off := 0) (n := a0.length) (n' := r131.length) 0 (by kernel_rfl) h133.symm ?_
            refine JS.relen (o := o0) (off := 0) (n := a0.length) (n' := r131.length) 186 (by kernel_rfl) h133.symm ?_
            refine JS.nil ?_
            refine JC.to2 [(0, .ref o0 0 r131.length), (1, .x (.int .i64 a1)), (3, .x (.int .i64 a3)), (4, .x (.fn 26)), (18, .x (.int .i64 (IntKind.i64.wrap (shrI .u64 (IntKind.u64.wrap (IntKind.i64.wrap (a1 + a3))) (1 : Int))))), (20, .x (.int .i64 y107)), (24, .x (.int .i64 (IntKind.i64.wrap ((IntKind.i64.wrap ((IntKind.i64.wrap (shrI .u64 (IntKind.u64.wrap (IntKind.i64.wrap (a1 + a3))) (1 : Int))) + a2)) - y107))))] [⟨o0, 1, vl fD r131⟩] (by kernel_rfl) (by kernel_rfl) ?_
            refine JC.skipT ?_
            refine JC.seq ?_
            refine JC.seq ?_
            refine JC.bind (A := fun v ex E R => ex = .normal ∧ E = [(0, .ref o0 0 r131.length), (1, .x (.int .i64 a1)), (3, .x (.int .i64 a3)), (4, .x (.fn 26)), (18, .x (.int .i64 (IntKind.i64.wrap (shrI .u64 (IntKind.u64.wrap (IntKind.i64.wrap (a1 + a3))) (1 : Int))))), (20, .x (.int .i64 y107)), (24, .x (.int .i64 (IntKind.i64.wrap ((IntKind.i64.wrap ((IntKind.i64.wrap (shrI .u64 (IntKind.u64.wrap (IntKind.i64.wrap (a1 + a3))) (1 : Int))) + a2)) - y107)))), (199, .x (.bool v))] ∧ R = [⟨o0, 1, vl fD r131⟩]) ?_ ?_
            · refine JC.region fun b135 => ?_
              refine JS.run 4 (by kernel_rfl) ?_
              refine JS.split (e := (decide (a1 < y107))) 195 (by kernel_rfl) (fun h136 => ?_) (fun h136 => ?_)
              · refine JS.run 4 (by kernel_rfl) ?_
                refine JS.nil ?_
                refine JC.to2 [(0, .ref o0 0 r131.length), (1, .x (.int .i64 a1)), (3, .x (.int .i64 a3)), (4, .x (.fn 26)), (18, .x (.int .i64 (IntKind.i64.wrap (shrI .u64 (IntKind.u64.wrap (IntKind.i64.wrap (a1 + a3))) (1 : Int))))), (20, .x (.int .i64 y107)), (24, .x (.int .i64 (IntKind.i64.wrap ((IntKind.i64.wrap ((IntKind.i64.wrap (shrI .u64 (IntKind.u64.wrap (IntKind.i64.wrap (a1 + a3))) (1 : Int))) + a2)) - y107)))), (199, .x (.bool (decide (y107 < (IntKind.i64.wrap (shrI .u64 (IntKind.u64.wrap (IntKind.i64.wrap (a1 + a3))) (1 : Int)))))))] [⟨o0, 1, vl fD r131⟩] (by kernel_rfl) (by kernel_rfl) ?_
                refine JC.to2 [(0, .ref o0 0 r131.length), (1, .x (.int .i64 a1)), (3, .x (.int .i64 a3)), (4, .x (.fn 26)), (18, .x (.int .i64 (IntKind.i64.wrap (shrI .u64 (IntKind.u64.wrap (IntKind.i64.wrap (a1 + a3))) (1 : Int))))), (20, .x (.int .i64 y107)), (24, .x (.int .i64 (IntKind.i64.wrap ((IntKind.i64.wrap ((IntKind.i64.wrap (shrI .u64 (IntKind.u64.wrap (IntKind.i64.wrap (a1 + a3))) (1 : Int))) + a2)) - y107)))), (199, .x (.bool (decide (y107 < (IntKind.i64.wrap (shrI .u64 (IntKind.u64.wrap (IntKind.i64.wrap (a1 + a3))) (1 : Int)))))))] [⟨o0, 1, vl fD r131⟩] (by kernel_rfl) (by kernel_rfl) ?_
                exact JC.got (ex := .normal) rfl ⟨rfl, rfl, rfl⟩
              · refine JS.run 4 (by kernel_rfl) ?_
                refine JS.nil ?_
                refine JC.to2 [(0, .ref o0 0 r131.length), (1, .x (.int .i64 a1)), (3, .x (.int .i64 a3)), (4, .x (.fn 26)), (18, .x (.int .i64 (IntKind.i64.wrap (shrI .u64 (IntKind.u64.wrap (IntKind.i64.wrap (a1 + a3))) (1 : Int))))), (20, .x (.int .i64 y107)), (24, .x (.int .i64 (IntKind.i64.wrap ((IntKind.i64.wrap ((IntKind.i64.wrap (shrI .u64 (IntKind.u64.wrap (IntKind.i64.wrap (a1 + a3))) (1 : Int))) + a2)) - y107)))), (199, .x (.bool false))] [⟨o0, 1, vl fD r131⟩] (by kernel_rfl) (by kernel_rfl) ?_
                refine JC.to2 [(0, .ref o0 0 r131.length), (1, .x (.int .i64 a1)), (3, .x (.int .i64 a3)), (4, .x (.fn 26)), (18, .x (.int .i64 (IntKind.i64.wrap (shrI .u64 (IntKind.u64.wrap (IntKind.i64.wrap (a1 + a3))) (1 : Int))))), (20, .x (.int .i64 y107)), (24, .x (.int .i64 (IntKind.i64.wrap ((IntKind.i64.wrap ((IntKind.i64.wrap (shrI .u64 (IntKind.u64.wrap (IntKind.i64.wrap (a1 + a3))) (1 : Int))) + a2)) - y107)))), (199, .x (.bool false))] [⟨o0, 1, vl fD r131⟩] (by kernel_rfl) (by kernel_rfl) ?_
                exact JC.got (ex := .normal) rfl ⟨rfl, rfl, rfl⟩
            · rintro y134 ex E' R' hA
              obtain ⟨rfl, rfl, rfl⟩ := hA
              refine JC.to2 [(0, .ref o0 0 r131.length), (1, .x (.int .i64 a1)), (3, .x (.int .i64 a3)), (4, .x (.fn 26)), (18, .x (.int .i64 (IntKind.i64.wrap (shrI .u64 (IntKind.u64.wrap (IntKind.i64.wrap (a1 + a3))) (1 : Int))))), (20, .x (.int .i64 y107)), (24, .x (.int .i64 (IntKind.i64.wrap ((IntKind.i64.wrap ((IntKind.i64.wrap (shrI .u64 (IntKind.u64.wrap (IntKind.i64.wrap (a1 + a3))) (1 : Int))) + a2)) - y107)))), (199, .x (.bool y134))] [⟨o0, 1, vl fD r131⟩] (by kernel_rfl) (by kernel_rfl) ?_
              refine JC.skipT ?_
              refine JC.cond (e := y134) (by kernel_rfl) (fun h137 => ?_) (fun h137 => ?_)
              · refine JC.region fun b138 => ?_
                refine JS.run 5 (by kernel_rfl) ?_
                refine JS.bind fun r139 h140 => ?_
                refine JS.callI (args := [.x (.int .i64 a1), .x (.int .i64 y107), .x (.int .i64 (IntKind.i64.wrap (shrI .u64 (IntKind.u64.wrap (IntKind.i64.wrap (a1 + a3))) (1 : Int)))), .x (.fn 26)]) (l := r131) (o := o0) [] (h_slices_symMergeCmpFunc r131 a1 y107 (IntKind.i64.wrap (shrI .u64 (IntKind.u64.wrap (IntKind.i64.wrap (a1 + a3))) (1 : Int))) r139 h140) (by kernel_rfl) (by kernel_rfl) (by kernel_rfl) (by kernel_rfl) (fun h141 => ?_)
                refine JS.relen (o := o0) (off := 0) (n := r131.length) (n' := r139.length) 0 (by kernel_rfl) h141.symm ?_
                refine JS.relen (o := o0) (off := 0) (n := r131.length) (n' := r139.length) 200 (by kernel_rfl) h141.symm ?_
                refine JS.nil ?_
                refine JC.to2 [(0, .ref o0 0 r139.length), (3, .x (.int .i64 a3)), (4, .x (.fn 26)), (18, .x (.int .i64 (IntKind.i64.wrap (shrI .u64 (IntKind.u64.wrap (IntKind.i64.wrap (a1 + a3))) (1 : Int))))), (24, .x (.int .i64 (IntKind.i64.wrap ((IntKind.i64.wrap ((IntKind.i64.wrap (shrI .u64 (IntKind.u64.wrap (IntKind.i64.wrap (a1 + a3))) (1 : Int))) + a2)) - y107))))] [⟨o0, 1, vl fD r139⟩] (by kernel_rfl) (by kernel_rfl) ?_
                refine JC.skipT ?_
                refine JC.seq ?_
                refine JC.bind (A := fun v ex E R => ex = .normal ∧ E = [(0, .ref o0 0 r139.length), (3, .x (.int .i64 a3)), (4, .x (.fn 26)), (18, .x (.int .i64 (IntKind.i64.wrap (shrI .u64 (IntKind.u64.wrap (IntKind.i64.wrap (a1 + a3))) (1 : Int))))), (24, .x (.int .i64 (IntKind.i64.wrap ((IntKind.i64.wrap ((IntKind.i64.wrap (shrI .u64 (IntKind.u64.wrap (IntKind.i64.wrap (a1 + a3))) (1 : Int))) + a2)) - y107)))), (213, .x (.bool v))] ∧ R = [⟨o0, 1, vl fD r139⟩]) ?_ ?_
                · refine JC.region fun b143 => ?_
                  refine JS.run 4 (by kernel_rfl) ?_
                  refine JS.split (e := (decide ((IntKind.i64.wrap (shrI .u64 (IntKind.u64.wrap (IntKind.i64.wrap (a1 + a3))) (1 : Int))) < (IntKind.i64.wrap ((IntKind.i64.wrap ((IntKind.i64.wrap (shrI .u64 (IntKind.u64.wrap (IntKind.i64.wrap (a1 + a3))) (1 : Int))) + a2)) - y107))))) 209 (by kernel_rfl) (fun h144 => ?_) (fun h144 => ?_)
                  · refine JS.run 4 (by kernel_rfl) ?_
                    refine JS.nil ?_
                    refine JC.to2 [(0, .ref o0 0 r139.length), (3, .x (.int .i64 a3)), (4, .x (.fn 26)), (18, .x (.int .i64 (IntKind.i64.wrap (shrI .u64 (IntKind.u64.wrap (IntKind.i64.wrap (a1 + a3))) (1 : Int))))), (24, .x (.int .i64 (IntKind.i64.wrap ((IntKind.i64.wrap ((IntKind.i64.wrap (shrI .u64 (IntKind.u64.wrap (IntKind.i64.wrap (a1 + a3))) (1 : Int))) + a2)) - y107)))), (213, .x (.bool (decide ((IntKind.i64.wrap ((IntKind.i64.wrap ((IntKind.i64.wrap (shrI .u64 (IntKind.u64.wrap (IntKind.i64.wrap (a1 + a3))) (1 : Int))) + a2)) - y107)) < a3))))] [⟨o0, 1, vl fD r139⟩] (by kernel_rfl) (by kernel_rfl) ?_
                    refine JC.to2 [(0, .ref o0 0 r139.length), (3, .x (.int .i64 a3)), (4, .x (.fn 26)), (18, .x (.int .i64 (IntKind.i64.wrap (shrI .u64 (IntKind.u64.wrap (IntKind.i64.wrap (a1 + a3))) (1 : Int))))), (24, .x (.int .i64 (IntKind.i64.wrap ((IntKind.i64.wrap ((IntKind.i64.wrap (shrI .u64 (IntKind.u64.wrap (IntKind.i64.wrap (a1 + a3))) (1 : Int))) + a2)) - y107)))), (213, .x (.bool (decide ((IntKind.i64.wrap ((IntKind.i64.wrap ((IntKind.i64.wrap (shrI .u64 (IntKind.u64.wrap (IntKind.i64.wrap (a1 + a3))) (1 : Int))) + a2)) - y107)) < a3))))] [⟨o0, 1, vl fD r139⟩] (by kernel_rfl) (by kernel_rfl) ?_
                    exact JC.got (ex := .normal) rfl ⟨rfl, rfl, rfl⟩
                  · refine JS.run 4 (by kernel_rfl) ?_
                    refine JS.nil ?_
                    refine JC.to2 [(0, .ref o0 0 r139.length), (3, .x (.int .i64 a3)), (4, .x (.fn 26)), (18, .x (.int .i64 (IntKind.i64.wrap (shrI .u64 (IntKind.u64.wrap (IntKind.i64.wrap (a1 + a3))) (1 : Int))))), (24, .x (.int .i64 (IntKind.i64.wrap ((IntKind.i64.wrap ((IntKind.i64.wrap (shrI .u64 (IntKind.u64.wrap (IntKind.i64.wrap (a1 + a3))) (1 : Int))) + a2)) - y107)))), (213, .x (.bool false))] [⟨o0, 1, vl fD r139⟩] (by kernel_rfl) (by kernel_rfl) ?_
                    refine JC.to2 [(0, .ref o0 0 r139.length), (3, .x (.int .i64 a3)), (4, .x (.fn 26)), (18, .x (.int .i64 (IntKind.i64.wrap (shrI .u64 (IntKind.u64.wrap (IntKind.i64.wrap (a1 + a3))) (1 : Int))))), (24, .x (.int .i64 (IntKind.i64.wrap ((IntKind.i64.wrap ((IntKind.i64.wrap (shrI .u64 (IntKind.u64.wrap (IntKind.i64.wrap (a1 + a3))) (1 : Int))) + a2)) - y107)))), (213, .x (.bool false))] [⟨o0, 1, vl fD r139⟩] (by kernel_rfl) (by kernel_rfl) ?_
                    exact JC.got (ex := .normal) rfl ⟨rfl, rfl, rfl⟩
                · rintro y142 ex E' R' hA
                  obtain ⟨rfl, rfl, rfl⟩ := hA
                  refine JC.to2 [(0, .ref o0 0 r139.length), (3, .x (.int .i64 a3)), (4, .x (.fn 26)), (18, .x (.int .i64 (IntKind.i64.wrap (shrI .u64 (IntKind.u64.wrap (IntKind.i64.wrap (a1 + a3))) (1 : Int))))), (24, .x (.int .i64 (IntKind.i64.wrap ((IntKind.i64.wrap ((IntKind.i64.wrap (shrI .u64 (IntKind.u64.wrap (IntKind.i64.wrap (a1 + a3))) (1 : Int))) + a2)) - y107)))), (213, .x (.bool y142))] [⟨o0, 1, vl fD r139⟩] (by kernel_rfl) (by kernel_rfl) ?_
                  refine JC.skipT ?_
                  refine JC.cond (e := y142) (by kernel_rfl) (fun h145 => ?_) (fun h145 => ?_)
                  · refine JC.region fun b146 => ?_
                    refine JS.run 5 (by kernel_rfl) ?_
                    refine JS.bind fun r147 h148 => ?_
                    refine JS.callI (args := [.x (.int .i64 (IntKind.i64.wrap (shrI .u64 (IntKind.u64.wrap (IntKind.i64.wrap (a1 + a3))) (1 : Int)))), .x (.int .i64 (IntKind.i64.wrap ((IntKind.i64.wrap ((IntKind.i64.wrap (shrI .u64 (IntKind.u64.wrap (IntKind.i64.wrap (a1 + a3))) (1 : Int))) + a2)) - y107))), .x (.int .i64 a3), .x (.fn 26)]) (l := r139) (o := o0) [] (h_slices_symMergeCmpFunc r139 (IntKind.i64.wrap (shrI .u64 (IntKind.u64.wrap (IntKind.i64.wrap (a1 + a3))) (1 : Int))) (IntKind.i64.wrap ((IntKind.i64.wrap ((IntKind.i64.wrap (shrI .u64 (IntKind.u64.wrap (IntKind.i64.wrap (a1 + a3))) (1 : Int))) + a2)) - y107)) a3 r147 h148) (by kernel_rfl) (by kernel_rfl) (by kernel_rfl) (by kernel_rfl) (fun h149 => ?_)
                    refine JS.relen (o := o0) (off := 0) (n := r139.length) (n' := r147.length) 0 (by kernel_rfl) h149.symm ?_
                    refine JS.relen (o := o0) (off := 0) (n := r139.length) (n' := r147.length) 214 (by kernel_rfl) h149.symm ?_
                    refine JS.nil ?_
                    refine JC.to2 [(0, .ref o0 0 r147.length)] [⟨o0, 1, vl fD r147⟩] (by kernel_rfl) (by kernel_rfl) ?_
                    exact JC.finI (ex := .normal) (l := a0) rfl normal_ne rfl
                  · exact JC.finI (ex := .normal) (l := a0) rfl normal_ne rfl
              · refine JC.skipT ?_
                refine JC.seq ?_
                refine JC.bind (A := fun v ex E R => ex = .normal ∧ E = [(0, .ref o0 0 r131.length), (3, .x (.int .i64 a3)), (4, .x (.fn 26)), (18, .x (.int .i64 (IntKind.i64.wrap (shrI .u64 (IntKind.u64.wrap (IntKind.i64.wrap (a1 + a3))) (1 : Int))))), (24, .x (.int .i64 (IntKind.i64.wrap ((IntKind.i64.wrap ((IntKind.i64.wrap (shrI .u64 (IntKind.u64.wrap (IntKind.i64.wrap (a1 + a3))) (1 : Int))) + a2)) - y107)))), (213, .x (.bool v))] ∧ R = [⟨o0, 1, vl fD r131⟩]) ?_ ?_
                · refine JC.region fun b151 => ?_
                  refine JS.run 4 (by kernel_rfl) ?_
                  refine JS.split (e := (decide ((IntKind.i64.wrap (shrI .u64 (IntKind.u64.wrap (IntKind.i64.wrap (a1 + a3))) (1 : Int))) < (IntKind.i64.wrap ((IntKind.i64.wrap ((IntKind.i64.wrap (shrI .u64 (IntKind.u64.wrap (IntKind.i64.wrap (a1 + a3))) (1 : Int))) + a2)) - y107))))) 209 (by kernel_rfl) (fun h152 => ?_) (fun h152 => ?_)
                  · refine JS.run 4 (by kernel_rfl) ?_
                    refine JS.nil ?_
                    refine JC.to2 [(0, .ref o0 0 r131.length), (3, .x (.int .i64 a3)), (4, .x (.fn 26)), (18, .x (.int .i64 (IntKind.i64.wrap (shrI .u64 (IntKind.u64.wrap (IntKind.i64.wrap (a1 + a3))) (1 : Int))))), (24, .x (.int .i64 (IntKind.i64.wrap ((IntKind.i64.wrap ((IntKind.i64.wrap (shrI .u64 (IntKind.u64.wrap (IntKind.i64.wrap (a1 + a3))) (1 : Int))) + a2)) - y107)))), (213, .x (.bool (decide ((IntKind.i64.wrap ((IntKind.i64.wrap ((IntKind.i64.wrap (shrI .u64 (IntKind.u64.wrap (IntKind.i64.wrap (a1 + a3))) (1 : Int))) + a2)) - y107)) < a3))))] [⟨o0, 1, vl fD r131⟩] (by kernel_rfl) (by kernel_rfl) ?_
                    refine JC.to2 [(0, .ref o0 0 r131.length), (3, .x (.int .i64 a3)), (4, .x (.fn 26)), (18, .x (.int .i64 (IntKind.i64.wrap (shrI .u64 (IntKind.u64.wrap (IntKind.i64.wrap (a1 + a3))) (1 : Int))))), (24, .x (.int .i64 (IntKind.i64.wrap ((IntKind.i64.wrap ((IntKind.i64.wrap (shrI .u64 (IntKind.u64.wrap (IntKind.i64.wrap (a1 + a3))) (1 : Int))) + a2)) - y107)))), (213, .x (.bool (decide ((IntKind.i64.wrap ((IntKind.i64.wrap ((IntKind.i64.wrap (shrI .u64 (IntKind.u64.wrap (IntKind.i64.wrap (a1 + a3))) (1 : Int))) + a2)) - y107)) < a3))))] [⟨o0, 1, vl fD r131⟩] (by kernel_rfl) (by kernel_rfl) ?_
                    exact JC.got (ex := .normal) rfl ⟨rfl, rfl, rfl⟩
                  · refine JS.run 4 (by kernel_rfl) ?_
                    refine JS.nil ?_
                    refine JC.to2 [(0, .ref o0 0 r131.length), (3, .x (.int .i64 a3)), (4, .x (.fn 26)), (18, .x (.int .i64 (IntKind.i64.wrap (shrI .u64 (IntKind.u64.wrap (IntKind.i64.wrap (a1 + a3))) (1 : Int))))), (24, .x (.int .i64 (IntKind.i64.wrap ((IntKind.i64.wrap ((IntKind.i64.wrap (shrI .u64 (IntKind.u64.wrap (IntKind.i64.wrap (a1 + a3))) (1 : Int))) + a2)) - y107)))), (213, .x (.bool false))] [⟨o0, 1, vl fD r131⟩] (by kernel_rfl) (by kernel_rfl) ?_
                    refine JC.to2 [(0, .ref o0 0 r131.length), (3, .x (.int .i64 a3)), (4, .x (.fn 26)), (18, .x (.int .i64 (IntKind.i64.wrap (shrI .u64 (IntKind.u64.wrap (IntKind.i64.wrap (a1 + a3))) (1 : Int))))), (24, .x (.int .i64 (IntKind.i64.wrap ((IntKind.i64.wrap ((IntKind.i64.wrap (shrI .u64 (IntKind.u64.wrap (IntKind.i64.wrap (a1 + a3))) (1 : Int))) + a2)) - y107)))), (213, .x (.bool false))] [⟨o0, 1, vl fD r131⟩] (by kernel_rfl) (by kernel_rfl) ?_
                    exact JC.got (ex := .normal) rfl ⟨rfl, rfl, rfl⟩
                · rintro y150 ex E' R' hA
                  obtain ⟨rfl, rfl, rfl⟩ := hA
                  refine JC.to2 [(0, .ref o0 0 r131.length), (3, .x (.int .i64 a3)), (4, .x (.fn 26)), (18, .x (.int .i64 (IntKind.i64.wrap (shrI .u64 (IntKind.u64.wrap (IntKind.i64.wrap (a1 + a3))) (1 : Int))))), (24, .x (.int .i64 (IntKind.i64.wrap ((IntKind.i64.wrap ((IntKind.i64.wrap (shrI .u64 (IntKind.u64.wrap (IntKind.i64.wrap (a1 + a3))) (1 : Int))) + a2)) - y107)))), (213, .x (.bool y150))] [⟨o0, 1, vl fD r131⟩] (by kernel_rfl) (by kernel_rfl) ?_
                  refine JC.skipT ?_
                  refine JC.cond (e := y150) (by kernel_rfl) (fun h153 => ?_) (fun h153 => ?_)
                  · refine JC.region fun b154 => ?_
                    refine JS.run 5 (by kernel_rfl) ?_
                    refine JS.bind fun r155 h156 => ?_
                    refine JS.callI (args := [.x (.int .i64 (IntKind.i64.wrap (shrI .u64 (IntKind.u64.wrap (IntKind.i64.wrap (a1 + a3))) (1 : Int)))), .x (.int .i64 (IntKind.i64.wrap ((IntKind.i64.wrap ((IntKind.i64.wrap (shrI .u64 (IntKind.u64.wrap (IntKind.i64.wrap (a1 + a3))) (1 : Int))) + a2)) - y107))), .x (.int .i64 a3), .x (.fn 26)]) (l := r131) (o := o0) [] (h_slices_symMergeCmpFunc r131 (IntKind.i64.wrap (shrI .u64 (IntKind.u64.wrap (IntKind.i64.wrap (a1 + a3))) (1 : Int))) (IntKind.i64.wrap ((IntKind.i64.wrap ((IntKind.i64.wrap (shrI .u64 (IntKind.u64.wrap (IntKind.i64.wrap (a1 + a3))) (1 : Int))) + a2)) - y107)) a3 r155 h156) (by kernel_rfl) (by kernel_rfl) (by kernel_rfl) (by kernel_rfl) (fun h157 => ?_)
                    refine JS.relen (o := o0) (off := 0) (n := r131.length) (n' := r155.length) 0 (by kernel_rfl) h157.symm ?_
                    refine JS.relen (o := o0) (off := 0) (n := r131.length) (n' := r155.length) 214 (by kernel_rfl) h157.symm ?_
                    refine JS.nil ?_
                    refine JC.to2 [(0, .ref o0 0 r155.length)] [⟨o0, 1, vl fD r155⟩] (by kernel_rfl) (by kernel_rfl) ?_
                    exact JC.finI (ex := .normal) (l := a0) rfl normal_ne rfl
                  · exact JC.finI (ex := .normal) (l := a0) rfl normal_ne rfl
          · refine JC.skipT ?_
            refine JC.seq ?_
            refine JC.seq ?_
            refine JC.bind (A := fun v ex E R => ex = .normal ∧ E = [(0, .ref o0 0 a0.length), (1, .x (.int .i64 a1)), (3, .x (.int .i64 a3)), (4, .x (.fn 26)), (18, .x (.int .i64 (IntKind.i64.wrap (shrI .u64 (IntKind.u64.wrap (IntKind.i64.wrap (a1 + a3))) (1 : Int))))), (20, .x (.int .i64 y107)), (24, .x (.int .i64 (IntKind.i64.wrap ((IntKind.i64.wrap ((IntKind.i64.wrap (shrI .u64 (IntKind.u64.wrap (IntKind.i64.wrap (a1 + a3))) (1 : Int))) + a2)) - y107)))), (199, .x (.bool v))] ∧ R = [⟨o0, 1, vl fD a0⟩]) ?_ ?_
            · refine JC.region fun b159 => ?_
              refine JS.run 4 (by kernel_rfl) ?_
              refine JS.split (e := (decide (a1 < y107))) 195 (by kernel_rfl) (fun h160 => ?_) (fun h160 => ?_)
              · refine JS.run 4 (by kernel_rfl) ?_
                refine JS.nil ?_
                refine JC.to2 [(0, .ref o0 0 a0.length), (1, .x (.int .i64 a1)), (3, .x (.int .i64 a3)), (4, .x (.fn 26)), (18, .x (.int .i64 (IntKind.i64.wrap (shrI .u64 (IntKind.u64.wrap (IntKind.i64.wrap (a1 + a3))) (1 : Int))))), (20, .x (.int .i64 y107)), (24, .x (.int .i64 (IntKind.i64.wrap ((IntKind.i64.wrap ((IntKind.i64.wrap (shrI .u64 (IntKind.u64.wrap (IntKind.i64.wrap (a1 + a3))) (1 : Int))) + a2)) - y107)))), (199, .x (.bool (decide (y107 < (IntKind.i64.wrap (shrI .u64 (IntKind.u64.wrap (IntKind.i64.wrap (a1 + a3))) (1 : Int)))))))] [⟨o0, 1, vl fD a0⟩] (by kernel_rfl) (by kernel_rfl) ?_
                refine JC.to2 [(0, .ref o0 0 a0.length), (1, .x (.int .i64 a1)), (3, .x (.int .i64 a3)), (4, .x (.fn 26)), (18, .x (.int .i64 (IntKind.i64.wrap (shrI .u64 (IntKind.u64.wrap (IntKind.i64.wrap (a1 + a3))) (1 : Int))))), (20, .x (.int .i64 y107)), (24, .x (.int .i64 (IntKind.i64.wrap ((IntKind.i64.wrap ((IntKind.i64.wrap (shrI .u64 (IntKind.u64.wrap (IntKind.i64.wrap (a1 + a3))) (1 : Int))) + a2)) - y107)))), (199, .x (.bool (decide (y107 < (IntKind.i64.wrap (shrI .u64 (IntKind.u64.wrap (IntKind.i64.wrap (a1 + a3))) (1 : Int)))))))] [⟨o0, 1, vl fD a0⟩] (by kernel_rfl) (by kernel_rfl) ?_
                exact JC.got (ex := .normal) rfl ⟨rfl, rfl, rfl⟩
              · refine JS.run 4 (by kernel_rfl) ?_
                refine JS.nil ?_
                refine JC.to2 [(0, .ref o0 0 a0.length), (1, .x (.int .i64 a1)), (3, .x (.int .i64 a3)), (4, .x (.fn 26)), (18, .x (.int .i64 (IntKind.i64.wrap (shrI .u64 (IntKind.u64.wrap (IntKind.i64.wrap (a1 + a3))) (1 : Int))))), (20, .x (.int .i64 y107)), (24, .x (.int .i64 (IntKind.i64.wrap ((IntKind.i64.wrap ((IntKind.i64.wrap (shrI .u64 (IntKind.u64.wrap (IntKind.i64.wrap (a1 + a3))) (1 : Int))) + a2)) - y107)))), (199, .x (.bool false))] [⟨o0, 1, vl fD a0⟩] (by kernel_rfl) (by kernel_rfl) ?_
                refine JC.to2 [(0, .ref o0 0 a0.length), (1, .x (.int .i64 a1)), (3, .x (.int .i64 a3)), (4, .x (.fn 26)), (18, .x (.int .i64 (IntKind.i64.wrap (shrI .u64 (IntKind.u64.wrap (IntKind.i64.wrap (a1 + a3))) (1 : Int))))), (20, .x (.int .i64 y107)), (24, .x (.int .i64 (IntKind.i64.wrap ((IntKind.i64.wrap ((IntKind.i64.wrap (shrI .u64 (IntKind.u64.wrap (IntKind.i64.wrap (a1 + a3))) (1 : Int))) + a2)) - y107)))), (199, .x (.bool false))] [⟨o0, 1, vl fD a0⟩] (by kernel_rfl) (by kernel_rfl) ?_
                exact JC.got (ex := .normal) rfl ⟨rfl, rfl, rfl⟩
            · rintro y158 ex E' R' hA
              obtain ⟨rfl, rfl, rfl⟩ := hA
              refine JC.to2 [(0, .ref o0 0 a0.length), (1, .x (.int .i64 a1)), (3, .x (.int .i64 a3)), (4, .x (.fn 26)), (18, .x (.int .i64 (IntKind.i64.wrap (shrI .u64 (IntKind.u64.wrap (IntKind.i64.wrap (a1 + a3))) (1 : Int))))), (20, .x (.int .i64 y107)), (24, .x (.int .i64 (IntKind.i64.wrap ((IntKind.i64.wrap ((IntKind.i64.wrap (shrI .u64 (IntKind.u64.wrap (IntKind.i64.wrap (a1 + a3))) (1 : Int))) + a2)) - y107)))), (199, .x (.bool y158))] [⟨o0, 1, vl fD a0⟩] (by kernel_rfl) (by kernel_rfl) ?_
              refine JC.skipT ?_
              refine JC.cond (e := y158) (by kernel_rfl) (fun h161 => ?_) (fun h161 => ?_)
              · refine JC.region fun b162 => ?_
                refine JS.run 5 (by kernel_rfl) ?_
                refine JS.bind fun r163 h164 => ?_
                refine JS.callI (args := [.x (.int .i64 a1), .x (.int .i64 y107), .x (.int .i64 (IntKind.i64.wrap (shrI .u64 (IntKind.u64.wrap (IntKind.i64.wrap (a1 + a3))) (1 : Int)))), .x (.fn 26)]) (l := a0) (o := o0) [] (h_slices_symMergeCmpFunc a0 a1 y107 (IntKind.i64.wrap (shrI .u64 (IntKind.u64.wrap (IntKind.i64.wrap (a1 + a3))) (1 : Int))) r163 h164) (by kernel_rfl) (by kernel_rfl) (by kernel_rfl) (by kernel_rfl) (fun h165 => ?_)
                refine JS.relen (o := o0) (off := 0) (n := a0.length) (n' := r163.length) 0 (by kernel_rfl) h165.symm ?_
                refine JS.relen (o := o0) (off := 0) (n := a0.length) (n' := r163.length) 200 (by kernel_rfl) h165.symm ?_
                refine JS.nil ?_
                refine JC.to2 [(0, .ref o0 0 r163.length), (3, .x (.int .i64 a3)), (4, .x (.fn 26)), (18, .x (.int .i64 (IntKind.i64.wrap (shrI .u64 (IntKind.u64.wrap (IntKind.i64.wrap (a1 + a3))) (1 : Int))))), (24, .x (.int .i64 (IntKind.i64.wrap ((IntKind.i64.wrap ((IntKind.i64.wrap (shrI .u64 (IntKind.u64.wrap (IntKind.i64.wrap (a1 + a3))) (1 : Int))) + a2)) - y107))))] [⟨o0, 1, vl fD r163⟩] (by kernel_rfl) (by kernel_rfl) ?_
                refine JC.skipT ?_
                refine JC.seq ?_
                refine JC.bind (A := fun v ex E R => ex = .normal ∧ E = [(0, .ref o0 0 r163.length), (3, .x (.int .i64 a3)), (4, .x (.fn 26)), (18, .x (.int .i64 (IntKind.i64.wrap (shrI .u64 (IntKind.u64.wrap (IntKind.i64.wrap (a1 + a3))) (1 : Int))))), (24, .x (.int .i64 (IntKind.i64.wrap ((IntKind.i64.wrap ((IntKind.i64.wrap (shrI .u64 (IntKind.u64.wrap (IntKind.i64.wrap (a1 + a3))) (1 : Int))) + a2)) - y107)))), (213, .x (.bool v))] ∧ R = [⟨o0, 1, vl fD r163⟩]) ?_ ?_
                · refine JC.region fun b167 => ?_
                  refine JS.run 4 (by kernel_rfl) ?_
                  refine JS.split (e := (decide ((IntKind.i64.wrap (shrI .u64 (IntKind.u64.wrap (IntKind.i64.wrap (a1 + a3))) (1 : Int))) < (IntKind.i64.wrap ((IntKind.i64.wrap ((IntKind.i64.wrap (shrI .u64 (IntKind.u64.wrap (IntKind.i64.wrap (a1 + a3))) (1 : Int))) + a2)) - y107))))) 209 (by kernel_rfl) (fun h168 => ?_) (fun h168 => ?_)
                  · refine JS.run 4 (by kernel_rfl) ?_
                    refine JS.nil ?_
                    refine JC.to2 [(0, .ref o0 0 r163.length), (3, .x (.int .i64 a3)), (4, .x (.fn 26)), (18, .x (.int .i64 (IntKind.i64.wrap (shrI .u64 (IntKind.u64.wrap (IntKind.i64.wrap (a1 + a3))) (1 : Int))))), (24, .x (.int .i64 (IntKind.i64.wrap ((IntKind.i64.wrap ((IntKind.i64.wrap (shrI .u64 (IntKind.u64.wrap (IntKind.i64.wrap (a1 + a3))) (1 : Int))) + a2)) - y107)))), (213, .x (.bool (decide ((IntKind.i64.wrap ((IntKind.i64.wrap ((IntKind.i64.wrap (shrI .u64 (IntKind.u64.wrap (IntKind.i64.wrap (a1 + a3))) (1 : Int))) + a2)) - y107)) < a3))))] [⟨o0, 1, vl fD r163⟩] (by kernel_rfl) (by kernel_rfl) ?_
                    refine JC.to2 [(0, .ref o0 0 r163.length), (3, .x (.int .i64 a3)), (4, .x (.fn 26)), (18, .x (.int .i64 (IntKind.i64.wrap (shrI .u64 (IntKind.u64.wrap (IntKind.i64.wrap (a1 + a3))) (1 : Int))))), (24, .x (.int .i64 (IntKind.i64.wrap ((IntKind.i64.wrap ((IntKind.i64.wrap (shrI .u64 (IntKind.u64.wrap (IntKind.i64.wrap (a1 + a3))) (1 : Int))) + a2)) - y107)))), (213, .x (.bool (decide ((IntKind.i64.wrap ((IntKind.i64.wrap ((IntKind.i64.wrap (shrI .u64 (IntKind.u64.wrap (IntKind.i64.wrap (a1 + a3))) (1 : Int))) + a2)) - y107)) < a3))))] [⟨o0, 1, vl fD r163⟩] (by kernel_rfl) (by kernel_rfl) ?_
                    exact JC.got (ex := .normal) rfl ⟨rfl, rfl, rfl⟩
                  · refine JS.run 4 (by kernel_rfl) ?_
                    refine JS.nil ?_
                    refine JC.to2 [(0, .ref o0 0 r163.length), (3, .x (.int .i64 a3)), (4, .x (.fn 26)), (18, .x (.int .i64 (IntKind.i64.wrap (shrI .u64 (IntKind.u64.wrap (IntKind.i64.wrap (a1 + a3))) (1 : Int))))), (24, .x (.int .i64 (IntKind.i64.wrap ((IntKind.i64.wrap ((IntKind.i64.wrap (shrI .u64 (IntKind.u64.wrap (IntKind.i64.wrap (a1 + a3))) (1 : Int))) + a2)) - y107)))), (213, .x (.bool false))] [⟨o0, 1, vl fD r163⟩] (by kernel_rfl) (by kernel_rfl) ?_
                    refine JC.to2 [(0, .ref o0 0 r163.length), (3, .x (.int .i64 a3)), (4, .x (.fn 26)), (18, .x (.int .i64 (IntKind.i64.wrap (shrI .u64 (IntKind.u64.wrap (IntKind.i64.wrap (a1 + a3))) (1 : Int))))), (24, .x (.int .i64 (IntKind.i64.wrap ((IntKind.i64.wrap ((IntKind.i64.wrap (shrI .u64 (IntKind.u64.wrap (IntKind.i64.wrap (a1 + a3))) (1 : Int))) + a2)) - y107)))), (213, .x (.bool false))] [⟨o0, 1, vl fD r163⟩] (by kernel_rfl) (by kernel_rfl) ?_
                    exact JC.got (ex := .normal) rfl ⟨rfl, rfl, rfl⟩
                · rintro y166 ex E' R' hA
                  obtain ⟨rfl, rfl, rfl⟩ := hA
                  refine JC.to2 [(0, .ref o0 0 r163.length), (3, .x (.int .i64 a3)), (4, .x (.fn 26)), (18, .x (.int .i64 (IntKind.i64.wrap (shrI .u64 (IntKind.u64.wrap (IntKind.i64.wrap (a1 + a3))) (1 : Int))))), (24, .x (.int .i64 (IntKind.i64.wrap ((IntKind.i64.wrap ((IntKind.i64.wrap (shrI .u64 (IntKind.u64.wrap (IntKind.i64.wrap (a1 + a3))) (1 : Int))) + a2)) - y107)))), (213, .x (.bool y166))] [⟨o0, 1, vl fD r163⟩] (by kernel_rfl) (by kernel_rfl) ?_
                  refine JC.skipT ?_
                  refine JC.cond (e := y166) (by kernel_rfl) (fun h169 => ?_) (fun h169 => ?_)
                  · refine JC.region fun b170 => ?_
                    refine JS.run 5 (by kernel_rfl) ?_
                    refine JS.bind fun r171 h172 => ?_
                    refine JS.callI (args := [.x (.int .i64 (IntKind.i64.wrap (shrI .u64 (IntKind.u64.wrap (IntKind.i64.wrap (a1 + a3))) (1 : Int)))), .x (.int .i64 (IntKind.i64.wrap ((IntKind.i64.wrap ((IntKind.i64.wrap (shrI .u64 (IntKind.u64.wrap (IntKind.i64.wrap (a1 + a3))) (1 : Int))) + a2)) - y107))), .x (.int .i64 a3), .x (.fn 26)]) (l := r163) (o := o0) [] (h_slices_symMergeCmpFunc r163 (IntKind.i64.wrap (shrI .u64 (IntKind.u64.wrap (IntKind.i64.wrap (a1 + a3))) (1 : Int))) (IntKind.i64.wrap ((IntKind.i64.wrap ((IntKind.i64.wrap (shrI .u64 (IntKind.u64.wrap (IntKind.i64.wrap (a1 + a3))) (1 : Int))) + a2)) - y107)) a3 r171 h172) (by kernel_rfl) (by kernel_rfl) (by kernel_rfl) (by kernel_rfl) (fun h173 => ?_)
                    refine JS.relen (o := o0) (off := 0) (n := r163.length) (n' := r171.length) 0 (by kernel_rfl) h173.symm ?_
                    refine JS.relen (o := o0) (off := 0) (n := r163.length) (n' := r171.length) 214 (by kernel_rfl) h173.symm ?_
                    refine JS.nil ?_
                    refine JC.to2 [(0, .ref o0 0 r171.length)] [⟨o0, 1, vl fD r171⟩] (by kernel_rfl) (by kernel_rfl) ?_
                    exact JC.finI (ex := .normal) (l := a0) rfl normal_ne rfl
                  · exact JC.finI (ex := .normal) (l := a0) rfl normal_ne rfl
              · refine JC.skipT ?_
                refine JC.seq ?_
                refine JC.bind (A := fun v ex E R => ex = .normal ∧ E = [(0, .ref o0 0 a0.length), (3, .x (.int .i64 a3)), (4, .x (.fn 26)), (18, .x (.int .i64 (IntKind.i64.wrap (shrI .u64 (IntKind.u64.wrap (IntKind.i64.wrap (a1 + a3))) (1 : Int))))), (24, .x (.int .i64 (IntKind.i64.wrap ((IntKind.i64.wrap ((IntKind.i64.wrap (shrI .u64 (IntKind.u64.wrap (IntKind.i64.wrap (a1 + a3))) (1 : Int))) + a2)) - y107)))), (213, .x (.bool v))] ∧ R = [⟨o0, 1, vl fD a0⟩]) ?_ ?_
                · refine JC.region fun b175 => ?_
                  refine JS.run 4 (by kernel_rfl) ?_
                  refine JS.split (e := (decide ((IntKind.i64.wrap (shrI .u64 (IntKind.u64.wrap (IntKind.i64.wrap (a1 + a3))) (1 : Int))) < (IntKind.i64.wrap ((IntKind.i64.wrap ((IntKind.i64.wrap (shrI .u64 (IntKind.u64.wrap (IntKind.i64.wrap (a1 + a3))) (1 : Int))) + a2)) - y107))))) 209 (by kernel_rfl) (fun h176 => ?_) (fun h176 => ?_)
                  · refine JS.run 4 (by kernel_rfl) ?_
                    refine JS.nil ?_
                    refine JC.to2 [(0, .ref o0 0 a0.length), (3, .x (.int .i64 a3)), (4, .x (.fn 26)), (18, .x (.int .i64 (IntKind.i64.wrap (shrI .u64 (IntKind.u64.wrap (IntKind.i64.wrap (a1 + a3))) (1 : Int))))), (24, .x (.int .i64 (IntKind.i64.wrap ((IntKind.i64.wrap ((IntKind.i64.wrap (shrI .u64 (IntKind.u64.wrap (IntKind.i64.wrap (a1 + a3))) (1 : Int))) + a2)) - y107)))), (213, .x (.bool (decide ((IntKind.i64.wrap ((IntKind.i64.wrap ((IntKind.i64.wrap (shrI .u64 (IntKind.u64.wrap (IntKind.i64.wrap (a1 + a3))) (1 : Int))) + a2)) - y107)) < a3))))] [⟨o0, 1, vl fD a0⟩] (by kernel_rfl) (by kernel_rfl) ?_
                    refine JC.to2 [(0, .ref o0 0 a0.length), (3, .x (.int .i64 a3)), (4, .x (.fn 26)), (18, .x (.int .i64 (IntKind.i64.wrap (shrI .u64 (IntKind.u64.wrap (IntKind.i64.wrap (a1 + a3))) (1 : Int))))), (24, .x (.int .i64 (IntKind.i64.wrap ((IntKind.i64.wrap ((IntKind.i64.wrap (shrI .u64 (IntKind.u64.wrap (IntKind.i64.wrap (a1 + a3))) (1 : Int))) + a2)) - y107)))), (213, .x (.bool (decide ((IntKind.i64.wrap ((IntKind.i64.wrap ((IntKind.i64.wrap (shrI .u64 (IntKind.u64.wrap (IntKind.i64.wrap (a1 + a3))) (1 : Int))) + a2)) - y107)) < a3))))] [⟨o0, 1, vl fD a0⟩] (by kernel_rfl) (by kernel_rfl) ?_
                    exact JC.got (ex := .normal) rfl ⟨rfl, rfl, rfl⟩
                  · refine JS.run 4 (by kernel_rfl) ?_
                    refine JS.nil ?_
                    refine JC.to2 [(0, .ref o0 0 a0.length), (3, .x (.int .i64 a3)), (4, .x (.fn 26)), (18, .x (.int .i64 (IntKind.i64.wrap (shrI .u64 (IntKind.u64.wrap (IntKind.i64.wrap (a1 + a3))) (1 : Int))))), (24, .x (.int .i64 (IntKind.i64.wrap ((IntKind.i64.wrap ((IntKind.i64.wrap (shrI .u64 (IntKind.u64.wrap (IntKind.i64.wrap (a1 + a3))) (1 : Int))) + a2)) - y107)))), (213, .x (.bool false))] [⟨o0, 1, vl fD a0⟩] (by kernel_rfl) (by kernel_rfl) ?_
                    refine JC.to2 [(0, .ref o0 0 a0.length), (3, .x (.int .i64 a3)), (4, .x (.fn 26)), (18, .x (.int .i64 (IntKind.i64.wrap (shrI .u64 (IntKind.u64.wrap (IntKind.i64.wrap (a1 + a3))) (1 : Int))))), (24, .x (.int .i64 (IntKind.i64.wrap ((IntKind.i64.wrap ((IntKind.i64.wrap (shrI .u64 (IntKind.u64.wrap (IntKind.i64.wrap (a1 + a3))) (1 : Int))) + a2)) - y107)))), (213, .x (.bool false))] [⟨o0, 1, vl fD a0⟩] (by kernel_rfl) (by kernel_rfl) ?_
                    exact JC.got (ex := .normal) rfl ⟨rfl, rfl, rfl⟩
                · rintro y174 ex E' R' hA
                  obtain ⟨rfl, rfl, rfl⟩ := hA
                  refine JC.to2 [(0, .ref o0 0 a0.length), (3, .x (.int .i64 a3)), (4, .x (.fn 26)), (18, .x (.int .i64 (IntKind.i64.wrap (shrI .u64 (IntKind.u64.wrap (IntKind.i64.wrap (a1 + a3))) (1 : Int))))), (24, .x (.int .i64 (IntKind.i64.wrap ((IntKind.i64.wrap ((IntKind.i64.wrap (shrI .u64 (IntKind.u64.wrap (IntKind.i64.wrap (a1 + a3))) (1 : Int))) + a2)) - y107)))), (213, .x (.bool y174))] [⟨o0, 1, vl fD a0⟩] (by kernel_rfl) (by kernel_rfl) ?_
                  refine JC.skipT ?_
                  refine JC.cond (e := y174) (by kernel_rfl) (fun h177 => ?_) (fun h177 => ?_)
                  · refine JC.region fun b178 => ?_
                    refine JS.run 5 (by kernel_rfl) ?_
                    refine JS.bind fun r179 h180 => ?_
                    refine JS.callI (args := [.x (.int .i64 (IntKind.i64.wrap (shrI .u64 (IntKind.u64.wrap (IntKind.i64.wrap (a1 + a3))) (1 : Int)))), .x (.int .i64 (IntKind.i64.wrap ((IntKind.i64.wrap ((IntKind.i64.wrap (shrI .u64 (IntKind.u64.wrap (IntKind.i64.wrap (a1 + a3))) (1 : Int))) + a2)) - y107))), .x (.int .i64 a3), .x (.fn 26)]) (l := a0) (o := o0) [] (h_slices_symMergeCmpFunc a0 (IntKind.i64.wrap (shrI .u64 (IntKind.u64.wrap (IntKind.i64.wrap (a1 + a3))) (1 : Int))) (IntKind.i64.wrap ((IntKind.i64.wrap ((IntKind.i64.wrap (shrI .u64 (IntKind.u64.wrap (IntKind.i64.wrap (a1 + a3))) (1 : Int))) + a2)) - y107)) a3 r179 h180) (by kernel_rfl) (by kernel_rfl) (by kernel_rfl) (by kernel_rfl) (fun h181 => ?_)
                    refine JS.relen (o := o0) (off := 0) (n := a0.length) (n' := r179.length) 0 (by kernel_rfl) h181.symm ?_
                    refine JS.relen (o := o0) (off := 0) (n := a0.length) (n' := r179.length) 214 (by kernel_rfl) h181.symm ?_
                    refine JS.nil ?_
                    refine JC.to2 [(0, .ref o0 0 r179.length)] [⟨o0, 1, vl fD r179⟩] (by kernel_rfl) (by kernel_rfl) ?_
                    exact JC.finI (ex := .normal) (l := a0) rfl normal_ne rfl
                  · exact JC.finI (ex := .normal) (l := a0) rfl normal_ne rfl
      · refine JC.seq ?_
        refine JC.region fun b182 => ?_
        refine JS.run 2 (by kernel_rfl) ?_
        refine JS.nil ?_
        refine JC.to2 [(0, .ref o0 0 a0.length), (1, .x (.int .i64 a1)), (2, .x (.int .i64 a2)), (3, .x (.int .i64 a3)), (4, .x (.fn 26)), (18, .x (.int .i64 (IntKind.i64.wrap (shrI .u64 (IntKind.u64.wrap (IntKind.i64.wrap (a1 + a3))) (1 : Int))))), (19, .x (.int .i64 (IntKind.i64.wrap ((IntKind.i64.wrap (shrI .u64 (IntKind.u64.wrap (IntKind.i64.wrap (a1 + a3))) (1 : Int))) + a2)))), (20, .x (.int .i64 a1))] [⟨o0, 1, vl fD a0⟩] (by kernel_rfl) (by kernel_rfl) ?_
        refine JC.skipT ?_
        refine JC.region fun b183 => ?_
        refine JS.run 2 (by kernel_rfl) ?_
        refine JS.nil ?_
        refine JC.to2 [(0, .ref o0 0 a0.length), (1, .x (.int .i64 a1)), (2, .x (.int .i64 a2)), (3, .x (.int .i64 a3)), (4, .x (.fn 26)), (18, .x (.int .i64 (IntKind.i64.wrap (shrI .u64 (IntKind.u64.wrap (IntKind.i64.wrap (a1 + a3))) (1 : Int))))), (19, .x (.int .i64 (IntKind.i64.wrap ((IntKind.i64.wrap (shrI .u64 (IntKind.u64.wrap (IntKind.i64.wrap (a1 + a3))) (1 : Int))) + a2)))), (20, .x (.int .i64 a1)), (21, .x (.int .i64 a2))] [⟨o0, 1, vl fD a0⟩] (by kernel_rfl) (by kernel_rfl) ?_
        refine JC.skipT ?_
        refine JC.seq ?_
        refine JC.region fun b184 => ?_
        refine JS.run 3 (by kernel_rfl) ?_
        refine JS.nil ?_
        refine JC.to2 [(0, .ref o0 0 a0.length), (1, .x (.int .i64 a1)), (2, .x (.int .i64 a2)), (3, .x (.int .i64 a3)), (4, .x (.fn 26)), (18, .x (.int .i64 (IntKind.i64.wrap (shrI .u64 (IntKind.u64.wrap (IntKind.i64.wrap (a1 + a3))) (1 : Int))))), (19, .x (.int .i64 (IntKind.i64.wrap ((IntKind.i64.wrap (shrI .u64 (IntKind.u64.wrap (IntKind.i64.wrap (a1 + a3))) (1 : Int))) + a2)))), (20, .x (.int .i64 a1)), (21, .x (.int .i64 a2)), (22, .x (.int .i64 (IntKind.i64.wrap ((IntKind.i64.wrap ((IntKind.i64.wrap (shrI .u64 (IntKind.u64.wrap (IntKind.i64.wrap (a1 + a3))) (1 : Int))) + a2)) - (1 : Int)))))] [⟨o0, 1, vl fD a0⟩] (by kernel_rfl) (by kernel_rfl) ?_
        refine JC.skipT ?_
        refine JC.seq ?_
        refine JC.block ?_
        refine JC.to2 [(0, .ref o0 0 a0.length), (1, .x (.int .i64 a1)), (2, .x (.int .i64 a2)), (3, .x (.int .i64 a3)), (4, .x (.fn 26)), (18, .x (.int .i64 (IntKind.i64.wrap (shrI .u64 (IntKind.u64.wrap (IntKind.i64.wrap (a1 + a3))) (1 : Int))))), (19, .x (.int .i64 (IntKind.i64.wrap ((IntKind.i64.wrap (shrI .u64 (IntKind.u64.wrap (IntKind.i64.wrap (a1 + a3))) (1 : Int))) + a2)))), (20, .x (.int .i64 a1)), (21, .x (.int .i64 a2)), (22, .x (.int .i64 (IntKind.i64.wrap ((IntKind.i64.wrap ((IntKind.i64.wrap (shrI .u64 (IntKind.u64.wrap (IntKind.i64.wrap (a1 + a3))) (1 : Int))) + a2)) - (1 : Int)))))] [⟨o0, 1, vl fD a0⟩] (by kernel_rfl) (by kernel_rfl) ?_
        refine JC.to2 [(0, .ref o0 0 a0.length), (1, .x (.int .i64 a1)), (2, .x (.int .i64 a2)), (3, .x (.int .i64 a3)), (4, .x (.fn 26)), (18, .x (.int .i64 (IntKind.i64.wrap (shrI .u64 (IntKind.u64.wrap (IntKind.i64.wrap (a1 + a3))) (1 : Int))))), (19, .x (.int .i64 (IntKind.i64.wrap ((IntKind.i64.wrap (shrI .u64 (IntKind.u64.wrap (IntKind.i64.wrap (a1 + a3))) (1 : Int))) + a2)))), (20, .x (.int .i64 a1)), (21, .x (.int .i64 a2)), (22, .x (.int .i64 (IntKind.i64.wrap ((IntKind.i64.wrap ((IntKind.i64.wrap (shrI .u64 (IntKind.u64.wrap (IntKind.i64.wrap (a1 + a3))) (1 : Int))) + a2)) - (1 : Int)))))] [⟨o0, 1, vl fD a0⟩] (by kernel_rfl) (by kernel_rfl) ?_
        refine JC.bind (A := fun v ex E R => ex = (.exit 8) ∧ E = [(0, .ref o0 0 a0.length), (1, .x (.int .i64 a1)), (2, .x (.int .i64 a2)), (3, .x (.int .i64 a3)), (4, .x (.fn 26)), (18, .x (.int .i64 (IntKind.i64.wrap (shrI .u64 (IntKind.u64.wrap (IntKind.i64.wrap (a1 + a3))) (1 : Int))))), (19, .x (.int .i64 (IntKind.i64.wrap ((IntKind.i64.wrap (shrI .u64 (IntKind.u64.wrap (IntKind.i64.wrap (a1 + a3))) (1 : Int))) + a2)))), (20, .x (.int .i64 v))] ∧ R = [⟨o0, 1, vl fD a0⟩]) (slices_symMergeCmpFunc_l5_ok a0 a1 a2 a3 fr o0 k a1 a2) ?_
        rintro y187 ex E' R' hA
        obtain ⟨rfl, rfl, rfl⟩ := hA
        refine JC.to2 [(0, .ref o0 0 a0.length), (1, .x (.int .i64 a1)), (2, .x (.int .i64 a2)), (3, .x (.int .i64 a3)), (4, .x (.fn 26)), (18, .x (.int .i64 (IntKind.i64.wrap (shrI .u64 (IntKind.u64.wrap (IntKind.i64.wrap (a1 + a3))) (1 : Int))))), (19, .x (.int .i64 (IntKind.i64.wrap ((IntKind.i64.wrap (shrI .u64 (IntKind.u64.wrap (IntKind.i64.wrap (a1 + a3))) (1 : Int))) + a2)))), (20, .x (.int .i64 y187))] [⟨o0, 1, vl fD a0⟩] (by kernel_rfl) (by kernel_rfl) ?_
        refine JC.exitB ?_
        refine JC.skipT ?_
        refine JC.seq ?_
        refine JC.region fun b205 => ?_
        refine JS.run 4 (by kernel_rfl) ?_
        refine JS.nil ?_
        refine JC.to2 [(0, .ref o0 0 a0.length), (1, .x (.int .i64 a1)), (2, .x (.int .i64 a2)), (3, .x (.int .i64 a3)), (4, .x (.fn 26)), (18, .x (.int .i64 (IntKind.i64.wrap (shrI .u64 (IntKind.u64.wrap (IntKind.i64.wrap (a1 + a3))) (1 : Int))))), (20, .x (.int .i64 y187)), (24, .x (.int .i64 (IntKind.i64.wrap ((IntKind.i64.wrap ((IntKind.i64.wrap (shrI .u64 (IntKind.u64.wrap (IntKind.i64.wrap (a1 + a3))) (1 : Int))) + a2)) - y187))))] [⟨o0, 1, vl fD a0⟩] (by kernel_rfl) (by kernel_rfl) ?_
        refine JC.skipT ?_
        refine JC.seq ?_
        refine JC.seq ?_
        refine JC.bind (A := fun v ex E R => ex = .normal ∧ E = [(0, .ref o0 0 a0.length), (1, .x (.int .i64 a1)), (2, .x (.int .i64 a2)), (3, .x (.int .i64 a3)), (4, .x (.fn 26)), (18, .x (.int .i64 (IntKind.i64.wrap (shrI .u64 (IntKind.u64.wrap (IntKind.i64.wrap (a1 + a3))) (1 : Int))))), (20, .x (.int .i64 y187)), (24, .x (.int .i64 (IntKind.i64.wrap ((IntKind.i64.wrap ((IntKind.i64.wrap (shrI .u64 (IntKind.u64.wrap (IntKind.i64.wrap (a1 + a3))) (1 : Int))) + a2)) - y187)))), (185, .x (.bool v))] ∧ R = [⟨o0, 1, vl fD a0⟩]) ?_ ?_
        · refine JC.region fun b207 => ?_
          refine JS.run 4 (by kernel_rfl) ?_
          refine JS.split (e := (decide (y187 < a2))) 181 (by kernel_rfl) (fun h208 => ?_) (fun h208 => ?_)
          · refine JS.run 4 (by kernel_rfl) ?_
            refine JS.nil ?_
            refine JC.to2 [(0, .ref o0 0 a0.length), (1, .x (.int .i64 a1)), (2, .x (.int .i64 a2)), (3, .x (.int .i64 a3)), (4, .x (.fn 26)), (18, .x (.int .i64 (IntKind.i64.wrap (shrI .u64 (IntKind.u64.wrap (IntKind.i64.wrap (a1 + a3))) (1 : Int))))), (20, .x (.int .i64 y187)), (24, .x (.int .i64 (IntKind.i64.wrap ((IntKind.i64.wrap ((IntKind.i64.wrap (shrI .u64 (IntKind.u64.wrap (IntKind.i64.wrap (a1 + a3))) (1 : Int))) + a2)) - y187)))), (185, .x (.bool (decide (a2 < (IntKind.i64.wrap ((IntKind.i64.wrap ((IntKind.i64.wrap (shrI .u64 (IntKind.u64.wrap (IntKind.i64.wrap (a1 + a3))) (1 : Int))) + a2)) - y187))))))] [⟨o0, 1, vl fD a0⟩] (by kernel_rfl) (by kernel_rfl) ?_
            refine JC.to2 [(0, .ref o0 0 a0.length), (1, .x (.int .i64 a1)), (2, .x (.int .i64 a2)), (3, .x (.int .i64 a3)), (4, .x (.fn 26)), (18, .x (.int .i64 (IntKind.i64.wrap (shrI .u64 (IntKind.u64.wrap (IntKind.i64.wrap (a1 + a3))) (1 : Int))))), (20, .x (.int .i64 y187)), (24, .x (.int .i64 (IntKind.i64.wrap ((IntKind.i64.wrap ((IntKind.i64.wrap (shrI .u64 (IntKind.u64.wrap (IntKind.i64.wrap (a1 + a3))) (1 : Int))) + a2)) - y187)))), (185, .x (.bool (decide (a2 < (IntKind.i64.wrap ((IntKind.i64.wrap ((IntKind.i64.wrap (shrI .u64 (IntKind.u64.wrap (IntKind.i64.wrap (a1 + a3))) (1 : Int))) + a2)) - y187))))))] [⟨o0, 1, vl fD a0⟩] (by kernel_rfl) (by kernel_rfl) ?_
            exact JC.got (ex := .normal) rfl ⟨rfl, rfl, rfl⟩
          · refine JS.run 4 (by kernel_rfl) ?_
            refine JS.nil ?_
            refine JC.to2 [(0, .ref o0 0 a0.length), (1, .x (.int .i64 a1)), (2, .x (.int .i64 a2)), (3, .x (.int .i64 a3)), (4, .x (.fn 26)), (18, .x (.int .i64 (IntKind.i64.wrap (shrI .u64 (IntKind.u64.wrap (IntKind.i64.wrap (a1 + a3))) (1 : Int))))), (20, .x (.int .i64 y187)), (24, .x (.int .i64 (IntKind.i64.wrap ((IntKind.i64.wrap ((IntKind.i64.wrap (shrI .u64 (IntKind.u64.wrap (IntKind.i64.wrap (a1 + a3))) (1 : Int))) + a2)) - y187)))), (185, .x (.bool false))] [⟨o0, 1, vl fD a0⟩] (by kernel_rfl) (by kernel_rfl) ?_
            refine JC.to2 [(0, .ref o0 0 a0.length), (1, .x (.int .i64 a1)), (2, .x (.int .i64 a2)), (3, .x (.int .i64 a3)), (4, .x (.fn 26)), (18, .x (.int .i64 (IntKind.i64.wrap (shrI .u64 (IntKind.u64.wrap (IntKind.i64.wrap (a1 + a3))) (1 : Int))))), (20, .x (.int .i64 y187)), (24, .x (.int .i64 (IntKind.i64.wrap ((IntKind.i64.wrap ((IntKind.i64.wrap (shrI .u64 (IntKind.u64.wrap (IntKind.i64.wrap (a1 + a3))) (1 : Int))) + a2)) - y187)))), (185, .x (.bool false))] [⟨o0, 1, vl fD a0⟩] (by kernel_rfl) (by kernel_rfl) ?_
            exact JC.got (ex := .normal) rfl ⟨rfl, rfl, rfl⟩
        · rintro y206 ex E' R' hA
          obtain ⟨rfl, rfl, rfl⟩ := hA
          refine JC.to2 [(0, .ref o0 0 a0.length), (1, .x (.int .i64 a1)), (2, .x (.int .i64 a2)), (3, .x (.int .i64 a3)), (4, .x (.fn 26)), (18, .x (.int .i64 (IntKind.i64.wrap (shrI .u64 (IntKind.u64.wrap (IntKind.i64.wrap (a1 + a3))) (1 : Int))))), (20, .x (.int .i64 y187)), (24, .x (.int .i64 (IntKind.i64.wrap ((IntKind.i64.wrap ((IntKind.i64.wrap (shrI .u64 (IntKind.u64.wrap (IntKind.i64.wrap (a1 + a3))) (1 : Int))) + a2)) - y187)))), (185, .x (.bool y206))] [⟨o0, 1, vl fD a0⟩] (by kernel_rfl) (by kernel_rfl) ?_
          refine JC.skipT ?_
          refine JC.cond (e := y206) (by kernel_rfl) (fun h209 => ?_) (fun h209 => ?_)
          · refine JC.region fun b210 => ?_
            refine JS.run 5 (by kernel_rfl) ?_
            refine JS.bind fun r211 h212 => ?_
            refine JS.callI (args := [.x (.int .i64 y187), .x (.int .i64 a2), .x (.int .i64 (IntKind.i64.wrap ((IntKind.i64.wrap ((IntKind.i64.wrap (shrI .u64 (IntKind.u64.wrap (IntKind.i64.wrap (a1 + a3))) (1 : Int))) + a2)) - y187))), .x (.fn 26)]) (l := a0) (o := o0) [] (slices_rotateCmpFunc_ok k a0 y187 a2 (IntKind.i64.wrap ((IntKind.i64.wrap ((IntKind.i64.wrap (shrI .u64 (IntKind.u64.wrap (IntKind.i64.wrap (a1 + a3))) (1 : Int))) + a2)) - y187)) r211 h212) (by kernel_rfl) (by kernel_rfl) (by kernel_rfl) (by kernel_rfl) (fun h213 => ?_)
            refine JS.relen (o := o0) (off := 0) (n := a0.length) (n' := r211.length) 0 (by kernel_rfl) h213.symm ?_
            refine JS.relen (o := o0) (off := 0) (n := a0.length) (n' := r211.length) 186 (by kernel_rfl) h213.symm ?_
            refine JS.nil ?_
            refine JC.to2 [(0, .ref o0 0 r211.length), (1, .x (.int .i64 a1)), (3, .x (.int .i64 a3)), (4, .x (.fn 26)), (18, .x (.int .i64 (IntKind.i64.wrap (shrI .u64 (IntKind.u64.wrap (IntKind.i64.wrap (a1 + a3))) (1 : Int))))), (20, .x (.int .i64 y187)), (24, .x (.int .i64 (IntKind.i64.wrap ((IntKind.i64.wrap ((IntKind.i64.wrap (shrI .u64 (IntKind.u64.wrap (IntKind.i64.wrap (a1 + a3))) (1 : Int))) + a2)) - y187))))] [⟨o0, 1, vl fD r211⟩] (by kernel_rfl) (by kernel_rfl) ?_
            refine JC.skipT ?_
            refine JC.seq ?_
            refine JC.seq ?_
            refine JC.bind (A := fun v ex E R => ex = .normal ∧ E = [(0, .ref o0 0 r211.length), (1, .x (.int .i64 a1)), (3, .x (.int .i64 a3)), (4, .x (.fn 26)), (18, .x (.int .i64 (IntKind.i64.wrap (shrI .u64 (IntKind.u64.wrap (IntKind.i64.wrap (a1 + a3))) (1 : Int))))), (20, .x (.int .i64 y187)), (24, .x (.int .i64 (IntKind.i64.wrap ((IntKind.i64.wrap ((IntKind.i64.wrap (shrI .u64 (IntKind.u64.wrap (IntKind.i64.wrap (a1 + a3))) (1 : Int))) + a2)) - y187)))), (199, .x (.bool v))] ∧ R = [⟨o0, 1, vl fD r211⟩]) ?_ ?_
            · refine JC.region fun b215 => ?_
              refine JS.run 4 (by kernel_rfl) ?_
              refine JS.split (e := (decide (a1 < y187))) 195 (by kernel_rfl) (fun h216 => ?_) (fun h216 => ?_)
              · refine JS.run 4 (by kernel_rfl) ?_
                refine JS.nil ?_
                refine JC.to2 [(0, .ref o0 0 r211.length), (1, .x (.int .i64 a1)), (3, .x (.int .i64 a3)), (4, .x (.fn 26)), (18, .x (.int .i64 (IntKind.i64.wrap (shrI .u64 (IntKind.u64.wrap (IntKind.i64.wrap (a1 + a3))) (1 : Int))))), (20, .x (.int .i64 y187)), (24, .x (.int .i64 (IntKind.i64.wrap ((IntKind.i64.wrap ((IntKind.i64.wrap (shrI .u64 (IntKind.u64.wrap (IntKind.i64.wrap (a1 + a3))) (1 : Int))) + a2)) - y187)))), (199, .x (.bool (decide (y187 < (IntKind.i64.wrap (shrI .u64 (IntKind.u64.wrap (IntKind.i64.wrap (a1 + a3))) (1 : Int)))))))] [⟨o0, 1, vl fD r211⟩] (by kernel_rfl) (by kernel_rfl) ?_
                refine JC.to2 [(0, .ref o0 0 r211.length), (1, .x (.int .i64 a1)), (3, .x (.int .i64 a3)), (4, .x (.fn 26)), (18, .x (.int .i64 (IntKind.i64.wrap (shrI .u64 (IntKind.u64.wrap (IntKind.i64.wrap (a1 + a3))) (1 : Int))))), (20, .x (.int .i64 y187)), (24, .x (.int .i64 (IntKind.i64.wrap ((IntKind.i64.wrap ((IntKind.i64.wrap (shrI .u64 (IntKind.u64.wrap (IntKind.i64.wrap (a1 + a3))) (1 : Int))) + a2)) - y187)))), (199, .x (.bool (decide (y187 < (IntKind.i64.wrap (shrI .u64 (IntKind.u64.wrap (IntKind.i64.wrap (a1 + a3))) (1 : Int)))))))] [⟨o0, 1, vl fD r211⟩] (by kernel_rfl) (by kernel_rfl) ?_
                exact JC.got (ex := .normal) rfl ⟨rfl, rfl, rfl⟩
              · refine JS.run 4 (by kernel_rfl) ?_
                refine JS.nil ?_
                refine JC.to2 [(0, .ref o0 0 r211.length), (1, .x (.int .i64 a1)), (3, .x (.int .i64 a3)), (4, .x (.fn 26)), (18, .x (.int .i64 (IntKind.i64.wrap (shrI .u64 (IntKind.u64.wrap (IntKind.i64.wrap (a1 + a3))) (1 : Int))))), (20, .x (.int .i64 y187)), (24, .x (.int .i64 (IntKind.i64.wrap ((IntKind.i64.wrap ((IntKind.i64.wrap (shrI .u64 (IntKind.u64.wrap (IntKind.i64.wrap (a1 + a3))) (1 : Int))) + a2)) - y187)))), (199, .x (.bool false))] [⟨o0, 1, vl fD r211⟩] (by kernel_rfl) (by kernel_rfl) ?_
                refine JC.to2 [(0, .ref o0 0 r211.length), (1, .x (.int .i64 a1)), (3, .x (.int .i64 a3)), (4, .x (.fn 26)), (18, .x (.int .i64 (IntKind.i64.wrap (shrI .u64 (IntKind.u64.wrap (IntKind.i64.wrap (a1 + a3))) (1 : Int))))), (20, .x (.int .i64 y187)), (24, .x (.int .i64 (IntKind.i64.wrap ((IntKind.i64.wrap ((IntKind.i64.wrap (shrI .u64 (IntKind.u64.wrap (IntKind.i64.wrap (a1 + a3))) (1 : Int))) + a2)) - y187)))), (199, .x (.bool false))] [⟨o0, 1, vl fD r211⟩] (by kernel_rfl) (by kernel_rfl) ?_
                exact JC.got (ex := .normal) rfl ⟨rfl, rfl, rfl⟩
            · rintro y214 ex E' R' hA
              obtain ⟨rfl, rfl, rfl⟩ := hA
              refine JC.to2 [(0, .ref o0 0 r211.length), (1, .x (.int .i64 a1)), (3, .x (.int .i64 a3)), (4, .x (.fn 26)), (18, .x (.int .i64 (IntKind.i64.wrap (shrI .u64 (IntKind.u64.wrap (IntKind.i64.wrap (a1 + a3))) (1 : Int))))), (20, .x (.int .i64 y187)), (24, .x (.int .i64 (IntKind.i64.wrap ((IntKind.i64.wrap ((IntKind.i64.wrap (shrI .u64 (IntKind.u64.wrap (IntKind.i64.wrap (a1 + a3))) (1 : Int))) + a2)) - y187)))), (199, .x (.bool y214))] [⟨o0, 1, vl fD r211⟩] (by kernel_rfl) (by kernel_rfl) ?_
              refine JC.skipT ?_
              refine JC.cond (e := y214) (by kernel_rfl) (fun h217 => ?_) (fun h217 => ?_)
              · refine JC.region fun b218 => ?_
                refine JS.run 5 (by kernel_rfl) ?_
                refine JS.bind fun r219 h220 => ?_
                refine JS.callI (args := [.x (.int .i64 a1), .x (.int .i64 y187), .x (.int .i64 (IntKind.i64.wrap (shrI .u64 (IntKind.u64.wrap (IntKind.i64.wrap (a1 + a3))) (1 : Int)))), .x (.fn 26)]) (l := r211) (o := o0) [] (h_slices_symMergeCmpFunc r211 a1 y187 (IntKind.i64.wrap (shrI .u64 (IntKind.u64.wrap (IntKind.i64.wrap (a1 + a3))) (1 : Int))) r219 h220) (by kernel_rfl) (by kernel_rfl) (by kernel_rfl) (by kernel_rfl) (fun h221 => ?_)
                refine JS.relen (o := o0) (off := 0) (n := r211.length) (n' := r219.length) 0 (by kernel_rfl) h221.symm ?_
                refine JS.relen (o := o0) (off := 0) (n := r211.length) (n' := r219.length) 200 (by kernel_rfl) h221.symm ?_
                refine JS.nil ?_
                refine JC.to2 [(0, .ref o0 0 r219.length), (3, .x (.int .i64 a3)), (4, .x (.fn 26)), (18, .x (.int .i64 (IntKind.i64.wrap (shrI .u64 (IntKind.u64.wrap (IntKind.i64.wrap (a1 + a3))) (1 : Int))))), (24, .x (.int .i64 (IntKind.i64.wrap ((IntKind.i64.wrap ((IntKind.i64.wrap (shrI .u64 (IntKind.u64.wrap (IntKind.i64.wrap (a1 + a3))) (1 : Int))) + a2)) - y187))))] [⟨o0, 1, vl fD r219⟩] (by kernel_rfl) (by kernel_rfl) ?_
                refine JC.skipT ?_
                refine JC.seq ?_
                refine JC.bind (A := fun v ex E R => ex = .normal ∧ E = [(0, .ref o0 0 r219.length), (3, .x (.int .i64 a3)), (4, .x (.fn 26)), (18, .x (.int .i64 (IntKind.i64.wrap (shrI .u64 (IntKind.u64.wrap (IntKind.i64.wrap (a1 + a3))) (1 : Int))))), (24, .x (.int .i64 (IntKind.i64.wrap ((IntKind.i64.wrap ((IntKind.i64.wrap (shrI .u64 (IntKind.u64.wrap (IntKind.i64.wrap (a1 + a3))) (1 : Int))) + a2)) - y187)))), (213, .x (.bool v))] ∧ R = [⟨o0, 1, vl fD r219⟩]) ?_ ?_
                · refine JC.region fun b223 => ?_
                  refine JS.run 4 (by kernel_rfl) ?_
                  refine JS.split (e := (decide ((IntKind.i64.wrap (shrI .u64 (IntKind.u64.wrap (IntKind.i64.wrap (a1 + a3))) (1 : Int))) < (IntKind.i64.wrap ((IntKind.i64.wrap ((IntKind.i64.wrap (shrI .u64 (IntKind.u64.wrap (IntKind.i64.wrap (a1 + a3))) (1 : Int))) + a2)) - y187))))) 209 (by kernel_rfl) (fun h224 => ?_) (fun h224 => ?_)
                  · refine JS.run 4 (by kernel_rfl) ?_
                    refine JS.nil ?_
                    refine JC.to2 [(0, .ref o0 0 r219.length), (3, .x (.int .i64 a3)), (4, .x (.fn 26)), (18, .x (.int .i64 (IntKind.i64.wrap (shrI .u64 (IntKind.u64.wrap (IntKind.i64.wrap (a1 + a3))) (1 : Int))))), (24, .x (.int .i64 (IntKind.i64.wrap ((IntKind.i64.wrap ((IntKind.i64.wrap (shrI .u64 (IntKind.u64.wrap (IntKind.i64.wrap (a1 + a3))) (1 : Int))) + a2)) - y187)))), (213, .x (.bool (decide ((IntKind.i64.wrap ((IntKind.i64.wrap ((IntKind.i64.wrap (shrI .u64 (IntKind.u64.wrap (IntKind.i64.wrap (a1 + a3))) (1 : Int))) + a2)) - y187)) < a3))))] [⟨o0, 1, vl fD r219⟩] (by kernel_rfl) (by kernel_rfl) ?_
                    refine JC.to2 [(0, .ref o0 0 r219.length), (3, .x (.int .i64 a3)), (4, .x (.fn 26)), (18, .x (.int .i64 (IntKind.i64.wrap (shrI .u64 (IntKind.u64.wrap (IntKind.i64.wrap (a1 + a3))) (1 : Int))))), (24, .x (.int .i64 (IntKind.i64.wrap ((IntKind.i64.wrap ((IntKind.i64.wrap (shrI .u64 (IntKind.u64.wrap (IntKind.i64.wrap (a1 + a3))) (1 : Int))) + a2)) - y187)))), (213, .x (.bool (decide ((IntKind.i64.wrap ((IntKind.i64.wrap ((IntKind.i64.wrap (shrI .u64 (IntKind.u64.wrap (IntKind.i64.wrap (a1 + a3))) (1 : Int))) + a2)) - y187)) < a3))))] [⟨o0, 1, vl fD r219⟩] (by kernel_rfl) (by kernel_rfl) ?_
                    exact JC.got (ex := .normal) rfl ⟨rfl, rfl, rfl⟩
                  · refine JS.run 4 (by kernel_rfl) ?_
                    refine JS.nil ?_
                    refine JC.to2 [(0, .ref o0 0 r219.length), (3, .x (.int .i64 a3)), (4, .x (.fn 26)), (18, .x (.int .i64 (IntKind.i64.wrap (shrI .u64 (IntKind.u64.wrap (IntKind.i64.wrap (a1 + a3))) (1 : Int))))), (24, .x (.int .i64 (IntKind.i64.wrap ((IntKind.i64.wrap ((IntKind.i64.wrap (shrI .u64 (IntKind.u64.wrap (IntKind.i64.wrap (a1 + a3))) (1 : Int))) + a2)) - y187)))), (213, .x (.bool false))] [⟨o0, 1, vl fD r219⟩] (by kernel_rfl) (by kernel_rfl) ?_
                    refine JC.to2 [(0, .ref o0 0 r219.length), (3, .x (.int .i64 a3)), (4, .x (.fn 26)), (18, .x (.int .i64 (IntKind.i64.wrap (shrI .u64 (IntKind.u64.wrap (IntKind.i64.wrap (a1 + a3))) (1 : Int))))), (24, .x (.int .i64 (IntKind.i64.wrap ((IntKind.i64.wrap ((IntKind.i64.wrap (shrI .u64 (IntKind.u64.wrap (IntKind.i64.wrap (a1 + a3))) (1 : Int))) + a2)) - y187)))), (213, .x (.bool false))] [⟨o0, 1, vl fD r219⟩] (by kernel_rfl) (by kernel_rfl) ?_
                    exact JC.got (ex := .normal) rfl ⟨rfl, rfl, rfl⟩
                · rintro y222 ex E' R' hA
                  obtain ⟨rfl, rfl, rfl⟩ := hA
                  refine JC.to2 [(0, .ref o0 0 r219.length), (3, .x (.int .i64 a3)), (4, .x (.fn 26)), (18, .x (.int .i64 (IntKind.i64.wrap (shrI .u64 (IntKind.u64.wrap (IntKind.i64.wrap (a1 + a3))) (1 : Int))))), (24, .x (.int .i64 (IntKind.i64.wrap ((IntKind.i64.wrap ((IntKind.i64.wrap (shrI .u64 (IntKind.u64.wrap (IntKind.i64.wrap (a1 + a3))) (1 : Int))) + a2)) - y187)))), (213, .x (.bool y222))] [⟨o0, 1, vl fD r219⟩] (by kernel_rfl) (by kernel_rfl) ?_
                  refine JC.skipT ?_
                  refine JC.cond (e := y222) (by kernel_rfl) (fun h225 => ?_) (fun h225 => ?_)
                  · refine JC.region fun b226 => ?_
                    refine JS.run 5 (by kernel_rfl) ?_
                    refine JS.bind fun r227 h228 => ?_
                    refine JS.callI (args := [.x (.int .i64 (IntKind.i64.wrap (shrI .u64 (IntKind.u64.wrap (IntKind.i64.wrap (a1 + a3))) (1 : Int)))), .x (.int .i64 (IntKind.i64.wrap ((IntKind.i64.wrap ((IntKind.i64.wrap (shrI .u64 (IntKind.u64.wrap (IntKind.i64.wrap (a1 + a3))) (1 : Int))) + a2)) - y187))), .x (.int .i64 a3), .x (.fn 26)]) (l := r219) (o := o0) [] (h_slices_symMergeCmpFunc r219 (IntKind.i64.wrap (shrI .u64 (IntKind.u64.wrap (IntKind.i64.wrap (a1 + a3))) (1 : Int))) (IntKind.i64.wrap ((IntKind.i64.wrap ((IntKind.i64.wrap (shrI .u64 (IntKind.u64.wrap (IntKind.i64.wrap (a1 + a3))) (1 : Int))) + a2)) - y187)) a3 r227 h228) (by kernel_rfl) (by kernel_rfl) (by kernel_rfl) (by kernel_rfl) (fun h229 => ?_)
                    refine JS.relen (o := o0) (off := 0) (n := r219.length) (n' := r227.length) 0 (by kernel_rfl) h229.symm ?_
                    refine JS.relen (o := o0) (off := 0) (n := r219.length) (n' := r227.length) 214 (by kernel_rfl) h229.symm ?_
                    refine JS.nil ?_
                    refine JC.to2 [(0, .ref o0 0 r227.length)] [⟨o0, 1, vl fD r227⟩] (by kernel_rfl) (by kernel_rfl) ?_
                    exact JC.finI (ex := .normal) (l := a0) rfl normal_ne rfl
                  · exact JC.finI (ex := .normal) (l := a0) rfl normal_ne rfl
              · refine JC.skipT ?_
                refine JC.seq ?_
                refine JC.bind (A := fun v ex E R => ex = .normal ∧ E = [(0, .ref o0 0 r211.length), (3, .x (.int .i64 a3)), (4, .x (.fn 26)), (18, .x (.int .i64 (IntKind.i64.wrap (shrI .u64 (IntKind.u64.wrap (IntKind.i64.wrap (a1 + a3))) (1 : Int))))), (24, .x (.int .i64 (IntKind.i64.wrap ((IntKind.i64.wrap ((IntKind.i64.wrap (shrI .u64 (IntKind.u64.wrap (IntKind.i64.wrap (a1 + a3))) (1 : Int))) + a2)) - y187)))), (213, .x (.bool v))] ∧ R = [⟨o0, 1, vl fD r211⟩]) ?_ ?_
                · refine JC.region fun b231 => ?_
                  refine JS.run 4 (by kernel_rfl) ?_
                  refine JS.split (e := (decide ((IntKind.i64.wrap (shrI .u64 (IntKind.u64.wrap (IntKind.i64.wrap (a1 + a3))) (1 : Int))) < (IntKind.i64.wrap ((IntKind.i64.wrap ((IntKind.i64.wrap (shrI .u64 (IntKind.u64.wrap (IntKind.i64.wrap (a1 + a3))) (1 : Int))) + a2)) - y187))))) 209 (by kernel_rfl) (fun h232 => ?_) (fun h232 => ?_)
                  · refine JS.run 4 (by kernel_rfl) ?_
                    refine JS.nil ?_
                    refine JC.to2 [(0, .ref o0 0 r211.length), (3, .x (.int .i64 a3)), (4, .x (.fn 26)), (18, .x (.int .i64 (IntKind.i64.wrap (shrI .u64 (IntKind.u64.wrap (IntKind.i64.wrap (a1 + a3))) (1 : Int))))), (24, .x (.int .i64 (IntKind.i64.wrap ((IntKind.i64.wrap ((IntKind.i64.wrap (shrI .u64 (IntKind.u64.wrap (IntKind.i64.wrap (a1 + a3))) (1 : Int))) + a2)) - y187)))), (213, .x (.bool (decide ((IntKind.i64.wrap ((IntKind.i64.wrap ((IntKind.i64.wrap (shrI .u64 (IntKind.u64.wrap (IntKind.i64.wrap (a1 + a3))) (1 : Int))) + a2)) - y187)) < a3))))] [⟨o0, 1, vl fD r211⟩] (by kernel_rfl) (by kernel_rfl) ?_
                    refine JC.to2 [(0, .ref o0 0 r211.length), (3, .x (.int .i64 a3)), (4, .x (.fn 26)), (18, .x (.int .i64 (IntKind.i64.wrap (shrI .u64 (IntKind.u64.wrap (IntKind.i64.wrap (a1 + a3))) (1 : Int))))), (24, .x (.int .i64 (IntKind.i64.wrap ((IntKind.i64.wrap ((IntKind.i64.wrap (shrI .u64 (IntKind.u64.wrap (IntKind.i64.wrap (a1 + a3))) (1 : Int))) + a2)) - y187)))), (213, .x (.bool (decide ((IntKind.i64.wrap ((IntKind.i64.wrap ((IntKind.i64.wrap (shrI .u64 (IntKind.u64.wrap (IntKind.i64.wrap (a1 + a3))) (1 : Int))) + a2)) - y187)) < a3))))] [⟨o0, 1, vl fD r211⟩] (by kernel_rfl) (by kernel_rfl) ?_
                    exact JC.got (ex := .normal) rfl ⟨rfl, rfl, rfl⟩
                  · refine JS.run 4 (by kernel_rfl) ?_
                    refine JS.nil ?_
                    refine JC.to2 [(0, .ref o0 0 r211.length), (3, .x (.int .i64 a3)), (4, .x (.fn 26)), (18, .x (.int .i64 (IntKind.i64.wrap (shrI .u64 (IntKind.u64.wrap (IntKind.i64.wrap (a1 + a3))) (1 : Int))))), (24, .x (.int .i64 (IntKind.i64.wrap ((IntKind.i64.wrap ((IntKind.i64.wrap (shrI .u64 (IntKind.u64.wrap (IntKind.i64.wrap (a1 + a3))) (1 : Int))) + a2)) - y187)))), (213, .x (.bool false))] [⟨o0, 1, vl fD r211⟩] (by kernel_rfl) (by kernel_rfl) ?_
                    refine JC.to2 [(0, .ref o0 0 r211.length), (3, .x (.int .i64 a3)), (4, .x (.fn 26)), (18, .x (.int .i64 (IntKind.i64.wrap (shrI .u64 (IntKind.u64.wrap (IntKind.i64.wrap (a1 + a3))) (1 : Int))))), (24, .x (.int .i64 (IntKind.i64.wrap ((IntKind.i64.wrap ((IntKind.i64.wrap (shrI .u64 (IntKind.u64.wrap (IntKind.i64.wrap (a1 + a3))) (1 : Int))) + a2)) - y187)))), (213, .x (.bool false))] [⟨o0, 1, vl fD r211⟩] (by kernel_rfl) (by kernel_rfl) ?_
                    exact JC.got (ex := .normal) rfl ⟨rfl, rfl, rfl⟩
                · rintro y230 ex E' R' hA
                  obtain ⟨rfl, rfl, rfl⟩ := hA
                  refine JC.to2 [(0, .ref o0 0 r211.length), (3, .x (.int .i64 a3)), (4, .x (.fn 26)), (18, .x (.int .i64 (IntKind.i64.wrap (shrI .u64 (IntKind.u64.wrap (IntKind.i64.wrap (a1 + a3))) (1 : Int))))), (24, .x (.int .i64 (IntKind.i64.wrap ((IntKind.i64.wrap ((IntKind.i64.wrap (shrI .u64 (IntKind.u64.wrap (IntKind.i64.wrap (a1 + a3))) (1 : Int))) + a2)) - y187)))), (213, .x (.bool y230))] [⟨o0, 1, vl fD r211⟩] (by kernel_rfl) (by kernel_rfl) ?_
                  refine JC.skipT ?_
                  refine JC.cond (e := y230) (by kernel_rfl) (fun h233 => ?_) (fun h233 => ?_)
                  · refine JC.region fun b234 => ?_
                    refine JS.run 5 (by kernel_rfl) ?_
                    refine JS.bind fun r235 h236 => ?_
                    refine JS.callI (args := [.x (.int .i64 (IntKind.i64.wrap (shrI .u64 (IntKind.u64.wrap (IntKind.i64.wrap (a1 + a3))) (1 : Int)))), .x (.int .i64 (IntKind.i64.wrap ((IntKind.i64.wrap ((IntKind.i64.wrap (shrI .u64 (IntKind.u64.wrap (IntKind.i64.wrap (a1 + a3))) (1 : Int))) + a2)) - y187))), .x (.int .i64 a3), .x (.fn 26)]) (l := r211) (o := o0) [] (h_slices_symMergeCmpFunc r211 (IntKind.i64.wrap (shrI .u64 (IntKind.u64.wrap (IntKind.i64.wrap (a1 + a3))) (1 : Int))) (IntKind.i64.wrap ((IntKind.i64.wrap ((IntKind.i64.wrap (shrI .u64 (IntKind.u64.wrap (IntKind.i64.wrap (a1 + a3))) (1 : Int))) + a2)) - y187)) a3 r235 h236) (by kernel_rfl) (by kernel_rfl) (by kernel_rfl) (by kernel_rfl) (fun h237 => ?_)
                    refine JS.relen (o := o0) (off := 0) (n := r211.length) (n' := r235.length) 0 (by kernel_rfl) h237.symm ?_
                    refine JS.relen (o := o0) (off := 0) (n := r211.length) (n' := r235.length) 214 (by kernel_rfl) h237.symm ?_
                    refine JS.nil ?_
                    refine JC.to2 [(0, .ref o0 0 r235.length)] [⟨o0, 1, vl fD r235⟩] (by kernel_rfl) (by kernel_rfl) ?_
                    exact JC.finI (ex := .normal) (l := a0) rfl normal_ne rfl
                  · exact JC.finI (ex := .normal) (l := a0) rfl normal_ne rfl
          · refine JC.skipT ?_
            refine JC.seq ?_
            refine JC.seq ?_
            refine JC.bind (A := fun v ex E R => ex = .normal ∧ E = [(0, .ref o0 0 a0.length), (1, .x (.int .i64 a1)), (3, .x (.int .i64 a3)), (4, .x (.fn 26)), (18, .x (.int .i64 (IntKind.i64.wrap (shrI .u64 (IntKind.u64.wrap (IntKind.i64.wrap (a1 + a3))) (1 : Int))))), (20, .x (.int .i64 y187)), (24, .x (.int .i64 (IntKind.i64.wrap ((IntKind.i64.wrap ((IntKind.i64.wrap (shrI .u64 (IntKind.u64.wrap (IntKind.i64.wrap (a1 + a3))) (1 : Int))) + a2)) - y187)))), (199, .x (.bool v))] ∧ R = [⟨o0, 1, vl fD a0⟩]) ?_ ?_
            · refine JC.region fun b239 => ?_
              refine JS.run 4 (by kernel_rfl) ?_
              refine JS.split (e := (decide (a1 < y187))) 195 (by kernel_rfl) (fun h240 => ?_) (fun h240 => ?_)
              · refine JS.run 4 (by kernel_rfl) ?_
                refine JS.nil ?_
                refine JC.to2 [(0, .ref o0 0 a0.length), (1, .x (.int .i64 a1)), (3, .x (.int .i64 a3)), (4, .x (.fn 26)), (18, .x (.int .i64 (IntKind.i64.wrap (shrI .u64 (IntKind.u64.wrap (IntKind.i64.wrap (a1 + a3))) (1 : Int))))), (20, .x (.int .i64 y187)), (24, .x (.int .i64 (IntKind.i64.wrap ((IntKind.i64.wrap ((IntKind.i64.wrap (shrI .u64 (IntKind.u64.wrap (IntKind.i64.wrap (a1 + a3))) (1 : Int))) + a2)) - y187)))), (199, .x (.bool (decide (y187 < (IntKind.i64.wrap (shrI .u64 (IntKind.u64.wrap (IntKind.i64.wrap (a1 + a3))) (1 : Int)))))))] [⟨o0, 1, vl fD a0⟩] (by kernel_rfl) (by kernel_rfl) ?_
                refine JC.to2 [(0, .ref o0 0 a0.length), (1, .x (.int .i64 a1)), (3, .x (.int .i64 a3)), (4, .x (.fn 26)), (18, .x (.int .i64 (IntKind.i64.wrap (shrI .u64 (IntKind.u64.wrap (IntKind.i64.wrap (a1 + a3))) (1 : Int))))), (20, .x (.int .i64 y187)), (24, .x (.int .i64 (IntKind.i64.wrap ((IntKind.i64.wrap ((IntKind.i64.wrap (shrI .u64 (IntKind.u64.wrap (IntKind.i64.wrap (a1 + a3))) (1 : Int))) + a2)) - y187)))), (199, .x (.bool (decide (y187 < (IntKind.i64.wrap (shrI .u64 (IntKind.u64.wrap (IntKind.i64.wrap (a1 + a3))) (1 : Int)))))))] [⟨o0, 1, vl fD a0⟩] (by kernel_rfl) (by kernel_rfl) ?_
                exact JC.got (ex := .normal) rfl ⟨rfl, rfl, rfl⟩
              · refine JS.run 4 (by kernel_rfl) ?_
                refine JS.nil ?_
                refine JC.to2 [(0, .ref o0 0 a0.length), (1, .x (.int .i64 a1)), (3, .x (.int .i64 a3)), (4, .x (.fn 26)), (18, .x (.int .i64 (IntKind.i64.wrap (shrI .u64 (IntKind.u64.wrap (IntKind.i64.wrap (a1 + a3))) (1 : Int))))), (20, .x (.int .i64 y187)), (24, .x (.int .i64 (IntKind.i64.wrap ((IntKind.i64.wrap ((IntKind.i64.wrap (shrI .u64 (IntKind.u64.wrap (IntKind.i64.wrap (a1 + a3))) (1 : Int))) + a2)) - y187)))), (199, .x (.bool false))] [⟨o0, 1, vl fD a0⟩] (by kernel_rfl) (by kernel_rfl) ?_
                refine JC.to2 [(0, .ref o0 0 a0.length), (1, .x (.int .i64 a1)), (3, .x (.int .i64 a3)), (4, .x (.fn 26)), (18, .x (.int .i64 (IntKind.i64.wrap (shrI .u64 (IntKind.u64.wrap (IntKind.i64.wrap (a1 + a3))) (1 : Int))))), (20, .x (.int .i64 y187)), (24, .x (.int .i64 (IntKind.i64.wrap ((IntKind.i64.wrap ((IntKind.i64.wrap (shrI .u64 (IntKind.u64.wrap (IntKind.i64.wrap (a1 + a3))) (1 : Int))) + a2)) - y187)))), (199, .x (.bool false))] [⟨o0, 1, vl fD a0⟩] (by kernel_rfl) (by kernel_rfl) ?_
                exact JC.got (ex := .normal) rfl ⟨rfl, rfl, rfl⟩
            · rintro y238 ex E' R' hA
              obtain ⟨rfl, rfl, rfl⟩ := hA
              refine JC.to2 [(0, .ref o0 0 a0.length), (1, .x (.int .i64 a1)), (3, .x (.int .i64 a3)), (4, .x (.fn 26)), (18, .x (.int .i64 (IntKind.i64.wrap (shrI .u64 (IntKind.u64.wrap (IntKind.i64.wrap (a1 + a3))) (1 : Int))))), (20, .x (.int .i64 y187)), (24, .x (.int .i64 (IntKind.i64.wrap ((IntKind.i64.wrap ((IntKind.i64.wrap (shrI .u64 (IntKind.u64.wrap (IntKind.i64.wrap (a1 + a3))) (1 : Int))) + a2)) - y187)))), (199, .x (.bool y238))] [⟨o0, 1, vl fD a0⟩] (by kernel_rfl) (by kernel_rfl) ?_
              refine JC.skipT ?_
              refine JC.cond (e := y238) (by kernel_rfl) (fun h241 => ?_) (fun h241 => ?_)
              · refine JC.region fun b242 => ?_
                refine JS.run 5 (by kernel_rfl) ?_
                refine JS.bind fun r243 h244 => ?_
                refine JS.callI (args := [.x (.int .i64 a1), .x (.int .i64 y187), .x (.int .i64 (IntKind.i64.wrap (shrI .u64 (IntKind.u64.wrap (IntKind.i64.wrap (a1 + a3))) (1 : Int)))), .x (.fn 26)]) (l := a0) (o := o0) [] (h_slices_symMergeCmpFunc a0 a1 y187 (IntKind.i64.wrap (shrI .u64 (IntKind.u64.wrap (IntKind.i64.wrap (a1 + a3))) (1 : Int))) r243 h244) (by kernel_rfl) (by kernel_rfl) (by kernel_rfl) (by kernel_rfl) (fun h245 => ?_)
                refine JS.relen (o := o0) (off := 0) (n := a0.length) (n' := r243.length) 0 (by kernel_rfl) h245.symm ?_
                refine JS.relen (o := o0) (off := 0) (n := a0.length) (n' := r243.length) 200 (by kernel_rfl) h245.symm ?_
                refine JS.nil ?_
                refine JC.to2 [(0, .ref o0 0 r243.length), (3, .x (.int .i64 a3)), (4, .x (.fn 26)), (18, .x (.int .i64 (IntKind.i64.wrap (shrI .u64 (IntKind.u64.wrap (IntKind.i64.wrap (a1 + a3))) (1 : Int))))), (24, .x (.int .i64 (IntKind.i64.wrap ((IntKind.i64.wrap ((IntKind.i64.wrap (shrI .u64 (IntKind.u64.wrap (IntKind.i64.wrap (a1 + a3))) (1 : Int))) + a2)) - y187))))] [⟨o0, 1, vl fD r243⟩] (by kernel_rfl) (by kernel_rfl) ?_
                refine JC.skipT ?_
                refine JC.seq ?_
                refine JC.bind (A := fun v ex E R => ex = .normal ∧ E = [(0, .ref o0 0 r243.length), (3, .x (.int .i64 a3)), (4, .x (.fn 26)), (18, .x (.int .i64 (IntKind.i64.wrap (shrI .u64 (IntKind.u64.wrap (IntKind.i64.wrap (a1 + a3))) (1 : Int))))), (24, .x (.int .i64 (IntKind.i64.wrap ((IntKind.i64.wrap ((IntKind.i64.wrap (shrI .u64 (IntKind.u64.wrap (IntKind.i64.wrap (a1 + a3))) (1 : Int))) + a2)) - y187)))), (213, .x (.bool v))] ∧ R = [⟨o0, 1, vl fD r243⟩]) ?_ ?_
                · refine JC.region fun b247 => ?_
                  refine JS.run 4 (by kernel_rfl) ?_
                  refine JS.split (e := (decide ((IntKind.i64.wrap (shrI .u64 (IntKind.u64.wrap (IntKind.i64.wrap (a1 + a3))) (1 : Int))) < (IntKind.i64.wrap ((IntKind.i64.wrap ((IntKind.i64.wrap (shrI .u64 (IntKind.u64.wrap (IntKind.i64.wrap (a1 + a3))) (1 : Int))) + a2)) - y187))))) 209 (by kernel_rfl) (fun h248 => ?_) (fun h248 => ?_)
                  · refine JS.run 4 (by kernel_rfl) ?_
                    refine JS.nil ?_
                    refine JC.to2 [(0, .ref o0 0 r243.length), (3, .x (.int .i64 a3)), (4, .x (.fn 26)), (18, .x (.int .i64 (IntKind.i64.wrap (shrI .u64 (IntKind.u64.wrap (IntKind.i64.wrap (a1 + a3))) (1 : Int))))), (24, .x (.int .i64 (IntKind.i64.wrap ((IntKind.i64.wrap ((IntKind.i64.wrap (shrI .u64 (IntKind.u64.wrap (IntKind.i64.wrap (a1 + a3))) (1 : Int))) + a2)) - y187)))), (213, .x (.bool (decide ((IntKind.i64.wrap ((IntKind.i64.wrap ((IntKind.i64.wrap (shrI .u64 (IntKind.u64.wrap (IntKind.i64.wrap (a1 + a3))) (1 : Int))) + a2)) - y187)) < a3))))] [⟨o0, 1, vl fD r243⟩] (by kernel_rfl) (by kernel_rfl) ?_
                    refine JC.to2 [(0, .ref o0 0 r243.length), (3, .x (.int .i64 a3)), (4, .x (.fn 26)), (18, .x (.int .i64 (IntKind.i64.wrap (shrI .u64 (IntKind.u64.wrap (IntKind.i64.wrap (a1 + a3))) (1 : Int))))), (24, .x (.int .i64 (IntKind.i64.wrap ((IntKind.i64.wrap ((IntKind.i64.wrap (shrI .u64 (IntKind.u64.wrap (IntKind.i64.wrap (a1 + a3))) (1 : Int))) + a2)) - y187)))), (213, .x (.bool (decide ((IntKind.i64.wrap ((IntKind.i64.wrap ((IntKind.i64.wrap (shrI .u64 (IntKind.u64.wrap (IntKind.i64.wrap (a1 + a3))) (1 : Int))) + a2)) - y187)) < a3))))] [⟨o0, 1, vl fD r243⟩] (by kernel_rfl) (by kernel_rfl) ?_
                    exact JC.got (ex := .normal) rfl ⟨rfl, rfl, rfl⟩
                  · refine JS.run 4 (by kernel_rfl) ?_
                    refine JS.nil ?_
                    refine JC.to2 [(0, .ref o0 0 r243.length), (3, .x (.int .i64 a3)), (4, .x (.fn 26)), (18, .x (.int .i64 (IntKind.i64.wrap (shrI .u64 (IntKind.u64.wrap (IntKind.i64.wrap (a1 + a3))) (1 : Int))))), (24, .x (.int .i64 (IntKind.i64.wrap ((IntKind.i64.wrap ((IntKind.i64.wrap (shrI .u64 (IntKind.u64.wrap (IntKind.i64.wrap (a1 + a3))) (1 : Int))) + a2)) - y187)))), (213, .x (.bool false))] [⟨o0, 1, vl fD r243⟩] (by kernel_rfl) (by kernel_rfl) ?_
                    refine JC.to2 [(0, .ref o0 0 r243.length), (3, .x (.int .i64 a3)), (4, .x (.fn 26)), (18, .x (.int .i64 (IntKind.i64.wrap (shrI .u64 (IntKind.u64.wrap (IntKind.i64.wrap (a1 + a3))) (1 : Int))))), (24, .x (.int .i64 (IntKind.i64.wrap ((IntKind.i64.wrap ((IntKind.i64.wrap (shrI .u64 (IntKind.u64.wrap (IntKind.i64.wrap (a1 + a3))) (1 : Int))) + a2)) - y187)))), (213, .x (.bool false))] [⟨o0, 1, vl fD r243⟩] (by kernel_rfl) (by kernel_rfl) ?_
                    exact JC.got (ex := .normal) rfl ⟨rfl, rfl, rfl⟩
                · rintro y246 ex E' R' hA
                  obtain ⟨rfl, rfl, rfl⟩ := hA
                  refine JC.to2 [(0, .ref o0 0 r243.length), (3, .x (.int .i64 a3)), (4, .x (.fn 26)), (18, .x (.int .i64 (IntKind.i64.wrap (shrI .u64 (IntKind.u64.wrap (IntKind.i64.wrap (a1 + a3))) (1 : Int))))), (24, .x (.int .i64 (IntKind.i64.wrap ((IntKind.i64.wrap ((IntKind.i64.wrap (shrI .u64 (IntKind.u64.wrap (IntKind.i64.wrap (a1 + a3))) (1 : Int))) + a2)) - y187)))), (213, .x (.bool y246))] [⟨o0, 1, vl fD r243⟩] (by kernel_rfl) (by kernel_rfl) ?_
                  refine JC.skipT ?_
                  refine JC.cond (e := y246) (by kernel_rfl) (fun h249 => ?_) (fun h249 => ?_)
                  · refine JC.region fun b250 => ?_
                    refine JS.run 5 (by kernel_rfl) ?_
                    refine JS.bind fun r251 h252 => ?_
                    refine JS.callI (args := [.x (.int .i64 (IntKind.i64.wrap (shrI .u64 (IntKind.u64.wrap (IntKind.i64.wrap (a1 + a3))) (1 : Int)))), .x (.int .i64 (IntKind.i64.wrap ((IntKind.i64.wrap ((IntKind.i64.wrap (shrI .u64 (IntKind.u64.wrap (IntKind.i64.wrap (a1 + a3))) (1 : Int))) + a2)) - y187))), .x (.int .i64 a3), .x (.fn 26)]) (l := r243) (o := o0) [] (h_slices_symMergeCmpFunc r243 (IntKind.i64.wrap (shrI .u64 (IntKind.u64.wrap (IntKind.i64.wrap (a1 + a3))) (1 : Int))) (IntKind.i64.wrap ((IntKind.i64.wrap ((IntKind.i64.wrap (shrI .u64 (IntKind.u64.wrap (IntKind.i64.wrap (a1 + a3))) (1 : Int))) + a2)) - y187)) a3 r251 h252) (by kernel_rfl) (by kernel_rfl) (by kernel_rfl) (by kernel_rfl) (fun h253 => ?_)
                    refine JS.relen (o := o0) (off := 0) (n := r243.length) (n' := r251.length) 0 (by kernel_rfl) h253.symm ?_
                    refine JS.relen (o := o0) (off := 0) (n := r243.length) (n' := r251.length) 214 (by kernel_rfl) h253.symm ?_
                    refine JS.nil ?_
                    refine JC.to2 [(0, .ref o0 0 r251.length)] [⟨o0, 1, vl fD r251⟩] (by kernel_rfl) (by kernel_rfl) ?_
                    exact JC.finI (ex := .normal) (l := a0) rfl normal_ne rfl
                  · exact JC.finI (ex := .normal) (l := a0) rfl normal_ne rfl
              · refine JC.skipT ?_
                refine JC.seq ?_
                refine JC.bind (A := fun v ex E R => ex = .normal ∧ E = [(0, .ref o0 0 a0.length), (3, .x (.int .i64 a3)), (4, .x (.fn 26)), (18, .x (.int .i64 (IntKind.i64.wrap (shrI .u64 (IntKind.u64.wrap (IntKind.i64.wrap (a1 + a3))) (1 : Int))))), (24, .x (.int .i64 (IntKind.i64.wrap ((IntKind.i64.wrap ((IntKind.i64.wrap (shrI .u64 (IntKind.u64.wrap (IntKind.i64.wrap (a1 + a3))) (1 : Int))) + a2)) - y187)))), (213, .x (.bool v))] ∧ R = [⟨o0, 1, vl fD a0⟩]) ?_ ?_
                · refine JC.region fun b255 => ?_
                  refine JS.run 4 (by kernel_rfl) ?_
                  refine JS.split (e := (decide ((IntKind.i64.wrap (shrI .u64 (IntKind.u64.wrap (IntKind.i64.wrap (a1 + a3))) (1 : Int))) < (IntKind.i64.wrap ((IntKind.i64.wrap ((IntKind.i64.wrap (shrI .u64 (IntKind.u64.wrap (IntKind.i64.wrap (a1 + a3))) (1 : Int))) + a2)) - y187))))) 209 (by kernel_rfl) (fun h256 => ?_) (fun h256 => ?_)
                  · refine JS.run 4 (by kernel_rfl) ?_
                    refine JS.nil ?_
                    refine JC.to2 [(0, .ref o0 0 a0.length), (3, .x (.int .i64 a3)), (4, .x (.fn 26)), (18, .x (.int .i64 (IntKind.i64.wrap (shrI .u64 (IntKind.u64.wrap (IntKind.i64.wrap (a1 + a3))) (1 : Int))))), (24, .x (.int .i64 (IntKind.i64.wrap ((IntKind.i64.wrap ((IntKind.i64.wrap (shrI .u64 (IntKind.u64.wrap (IntKind.i64.wrap (a1 + a3))) (1 : Int))) + a2)) - y187)))), (213, .x (.bool (decide ((IntKind.i64.wrap ((IntKind.i64.wrap ((IntKind.i64.wrap (shrI .u64 (IntKind.u64.wrap (IntKind.i64.wrap (a1 + a3))) (1 : Int))) + a2)) - y187)) < a3))))] [⟨o0, 1, vl fD a0⟩] (by kernel_rfl) (by kernel_rfl) ?_
                    refine JC.to2 [(0, .ref o0 0 a0.length), (3, .x (.int .i64 a3)), (4, .x (.fn 26)), (18, .x (.int .i64 (IntKind.i64.wrap (shrI .u64 (IntKind.u64.wrap (IntKind.i64.wrap (a1 + a3))) (1 : Int))))), (24, .x (.int .i64 (IntKind.i64.wrap ((IntKind.i64.wrap ((IntKind.i64.wrap (shrI .u64 (IntKind.u64.wrap (IntKind.i64.wrap (a1 + a3))) (1 : Int))) + a2)) - y187)))), (213, .x (.bool (decide ((IntKind.i64.wrap ((IntKind.i64.wrap ((IntKind.i64.wrap (shrI .u64 (IntKind.u64.wrap (IntKind.i64.wrap (a1 + a3))) (1 : Int))) + a2)) - y187)) < a3))))] [⟨o0, 1, vl fD a0⟩] (by kernel_rfl) (by kernel_rfl) ?_
                    exact JC.got (ex := .normal) rfl ⟨rfl, rfl, rfl⟩
                  · refine JS.run 4 (by kernel_rfl) ?_
                    refine JS.nil ?_
                    refine JC.to2 [(0, .ref o0 0 a0.length), (3, .x (.int .i64 a3)), (4, .x (.fn 26)), (18, .x (.int .i64 (IntKind.i64.wrap (shrI .u64 (IntKind.u64.wrap (IntKind.i64.wrap (a1 + a3))) (1 : Int))))), (24, .x (.int .i64 (IntKind.i64.wrap ((IntKind.i64.wrap ((IntKind.i64.wrap (shrI .u64 (IntKind.u64.wrap (IntKind.i64.wrap (a1 + a3))) (1 : Int))) + a2)) - y187)))), (213, .x (.bool false))] [⟨o0, 1, vl fD a0⟩] (by kernel_rfl) (by kernel_rfl) ?_
                    refine JC.to2 [(0, .ref o0 0 a0.length), (3, .x (.int .i64 a3)), (4, .x (.fn 26)), (18, .x (.int .i64 (IntKind.i64.wrap (shrI .u64 (IntKind.u64.wrap (IntKind.i64.wrap (a1 + a3))) (1 : Int))))), (24, .x (.int .i64 (IntKind.i64.wrap ((IntKind.i64.wrap ((IntKind.i64.wrap (shrI .u64 (IntKind.u64.wrap (IntKind.i64.wrap (a1 + a3))) (1 : Int))) + a2)) - y187)))), (213, .x (.bool false))] [⟨o0, 1, vl fD a0⟩] (by kernel_rfl) (by kernel_rfl) ?_
                    exact JC.got (ex := .normal) rfl ⟨rfl, rfl, rfl⟩
                · rintro y254 ex E' R' hA
                  obtain ⟨rfl, rfl, rfl⟩ := hA
                  refine JC.to2 [(0, .ref o0 0 a0.length), (3, .x (.int .i64 a3)), (4, .x (.fn 26)), (18, .x (.int .i64 (IntKind.i64.wrap (shrI .u64 (IntKind.u64.wrap (IntKind.i64.wrap (a1 + a3))) (1 : Int))))), (24, .x (.int .i64 (IntKind.i64.wrap ((IntKind.i64.wrap ((IntKind.i64.wrap (shrI .u64 (IntKind.u64.wrap (IntKind.i64.wrap (a1 + a3))) (1 : Int))) + a2)) - y187)))), (213, .x (.bool y254))] [⟨o0, 1, vl fD a0⟩] (by kernel_rfl) (by kernel_rfl) ?_
                  refine JC.skipT ?_
                  refine JC.cond (e := y254) (by kernel_rfl) (fun h257 => ?_) (fun h257 => ?_)
                  · refine JC.region fun b258 => ?_
                    refine JS.run 5 (by kernel_rfl) ?_
                    refine JS.bind fun r259 h260 => ?_
                    refine JS.callI (args := [.x (.int .i64 (IntKind.i64.wrap (shrI .u64 (IntKind.u64.wrap (IntKind.i64.wrap (a1 + a3))) (1 : Int)))), .x (.int .i64 (IntKind.i64.wrap ((IntKind.i64.wrap ((IntKind.i64.wrap (shrI .u64 (IntKind.u64.wrap (IntKind.i64.wrap (a1 + a3))) (1 : Int))) + a2)) - y187))), .x (.int .i64 a3), .x (.fn 26)]) (l := a0) (o := o0) [] (h_slices_symMergeCmpFunc a0 (IntKind.i64.wrap (shrI .u64 (IntKind.u64.wrap (IntKind.i64.wrap (a1 + a3))) (1 : Int))) (IntKind.i64.wrap ((IntKind.i64.wrap ((IntKind.i64.wrap (shrI .u64 (IntKind.u64.wrap (IntKind.i64.wrap (a1 + a3))) (1 : Int))) + a2)) - y187)) a3 r259 h260) (by kernel_rfl) (by kernel_rfl) (by kernel_rfl) (by kernel_rfl) (fun h261 => ?_)
                    refine JS.relen (o := o0) (off := 0) (n := a0.length) (n' := r259.length) 0 (by kernel_rfl) h261.symm ?_
                    refine JS.relen (o := o0) (off := 0) (n := a0.length) (n' := r259.length) 214 (by kernel_rfl) h261.symm ?_
                    refine JS.nil ?_
                    refine JC.to2 [(0, .ref o0 0 r259.length)] [⟨o0, 1, vl fD r259⟩] (by kernel_rfl) (by kernel_rfl) ?_
                    exact JC.finI (ex := .normal) (l := a0) rfl normal_ne rfl
                  · exact JC.finI (ex := .normal) (l := a0) rfl normal_ne rfl
def slices_symMergeCmpFunc : Nat → (List Fl) → Int → Int → Int → Option (List Fl)
  | 0, _, _, _, _ => none
  | k + 1, a0, a1, a2, a3 => slices_symMergeCmpFunc_body k (fun x0 x1 x2 x3 => slices_symMergeCmpFunc k x0 x1 x2 x3) a0 a1 a2 a3
theorem slices_symMergeCmpFunc_knot : ∀ k, (∀ (a0 : (List Fl)) (a1 : Int) (a2 : Int) (a3 : Int) (r : (List Fl)), slices_symMergeCmpFunc k a0 a1 a2 a3 = some r → InOk prog 34 1 fD [.x (.int .i64 a1), .x (.int .i64 a2), .x (.int .i64 a3), .x (.fn 26)] a0 r) := by
  intro k
  induction k with
  | zero => exact (by intro a0 a1 a2 a3 r h; simp [slices_symMergeCmpFunc] at h)
  | succ k ih => exact (by intro a0 a1 a2 a3 r h; rw [slices_symMergeCmpFunc] at h; exact slices_symMergeCmpFunc_body_ok k _ ih a0 a1 a2 a3 r h)
theorem slices_symMergeCmpFunc_ok (k : Nat) : ∀ (a0 : (List Fl)) (a1 : Int) (a2 : Int) (a3 : Int) (r : (List Fl)), slices_symMergeCmpFunc k a0 a1 a2 a3 = some r → InOk prog 34 1 fD [.x (.int .i64 a1), .x (.int .i64 a2), .x (.int .i64 a3), .x (.fn 26)] a0 r := (slices_symMergeCmpFunc_knot k)
/-! slices.stableCmpFunc[float64] -/
def slices_stableCmpFunc_l0 (a1 : Int) : Nat → Int → Int → (List Fl) → Option ((List Fl) × Int)
  | 0, _, _, _ => none
  | k + 1, x3, x4, x5 => cond (decide (x4 ≤ a1)) ((slices_insertionSortCmpFunc k x5 x3 x4).bind fun r11 => slices_stableCmpFunc_l0 a1 k x4 (IntKind.i64.wrap (x4 + (20 : Int))) r11) (some (x5, x3))
theorem slices_stableCmpFunc_l0_ok (a1 : Int) (fr : Nat → Option Blk) (o0 : Option Nat) : ∀ (k : Nat) (x3 : Int) (x4 : Int) (x5 : (List Fl)), JC prog fr 63 [(0, .ref o0 0 x5.length), (1, .x (.int .i64 a1)), (2, .x (.fn 26)), (6, .x (.int .i64 (20 : Int))), (7, .x (.int .i64 x3)), (8, .x (.int .i64 x4))] [⟨o0, 1, vl fD x5⟩] (.loop pf30_L0) (slices_stableCmpFunc_l0 a1 k x3 x4 x5) (fun x => GotA 63 fr ((fun v ex E R => ex = (.exit 0) ∧ E = [(0, .ref o0 0 v.1.length), (1, .x (.int .i64 a1)), (2, .x (.fn 26)), (6, .x (.int .i64 (20 : Int))), (7, .x (.int .i64 v.2))] ∧ R = [⟨o0, 1, vl fD v.1⟩]) x)) := by
  intro k
  induction k with
  | zero =>
    intro x3 x4 x5
    exact JC.no
  | succ k ih =>
    intro x3 x4 x5
    rw [slices_stableCmpFunc_l0]
    refine JC.loop ?_
    refine JC.seq ?_
    refine JC.seq ?_
    refine JC.region fun b8 => ?_
    refine JS.run 3 (by kernel_rfl) ?_
    refine JS.nil ?_
    refine JC.to2 [(0, .ref o0 0 x5.length), (1, .x (.int .i64 a1)), (2, .x (.fn 26)), (6, .x (.int .i64 (20 : Int))), (7, .x (.int .i64 x3)), (8, .x (.int .i64 x4)), (13, .x (.bool (decide (x4 ≤ a1))))] [⟨o0, 1, vl fD x5⟩] (by kernel_rfl) (by kernel_rfl) ?_
    refine JC.skipT ?_
    refine JC.cond (e := (decide (x4 ≤ a1))) (by kernel_rfl) (fun h9 => ?_) (fun h9 => ?_)
    · refine JC.skipT ?_
      refine JC.block ?_
      refine JC.seq ?_
      refine JC.region fun b10 => ?_
      refine JS.run 4 (by kernel_rfl) ?_
      refine JS.bind fun r11 h12 => ?_
      refine JS.callI (args := [.x (.int .i64 x3), .x (.int .i64 x4), .x (.fn 26)]) (l := x5) (o := o0) [] (slices_insertionSortCmpFunc_ok k x5 x3 x4 r11 h12) (by kernel_rfl) (by kernel_rfl) (by kernel_rfl) (by kernel_rfl) (fun h13 => ?_)
      refine JS.relen (o := o0) (off := 0) (n := x5.length) (n' := r11.length) 0 (by kernel_rfl) h13.symm ?_
      refine JS.relen (o := o0) (off := 0) (n := x5.length) (n' := r11.length) 14 (by kernel_rfl) h13.symm ?_
      refine JS.nil ?_
      refine JC.to2 [(0, .ref o0 0 r11.length), (1, .x (.int .i64 a1)), (2, .x (.fn 26)), (6, .x (.int .i64 (20 : Int))), (8, .x (.int .i64 x4))] [⟨o0, 1, vl fD r11⟩] (by kernel_rfl) (by kernel_rfl) ?_
      refine JC.skipT ?_
      refine JC.seq ?_
      refine JC.region fun b14 => ?_
      refine JS.run 2 (by kernel_rfl) ?_
      refine JS.nil ?_
      refine JC.to2 [(0, .ref o0 0 r11.length), (1, .x (.int .i64 a1)), (2, .x (.fn 26)), (6, .x (.int .i64 (20 : Int))), (7, .x (.int .i64 x4)), (8, .x (.int .i64 x4))] [⟨o0, 1, vl fD r11⟩] (by kernel_rfl) (by kernel_rfl) ?_
      refine JC.skipT ?_
      refine JC.region fun b15 => ?_
      refine JS.run 4 (by kernel_rfl) ?_
      refine JS.nil ?_
      refine JC.to2 [(0, .ref o0 0 r11.length), (1, .x (.int .i64 a1)), (2, .x (.fn 26)), (6, .x (.int .i64 (20 : Int))), (7, .x (.int .i64 x4)), (8, .x (.int .i64 (IntKind.i64.wrap (x4 + (20 : Int)))))] [⟨o0, 1, vl fD r11⟩] (by kernel_rfl) (by kernel_rfl) ?_
      refine JC.skipB ?_
      refine JC.skipL ?_
      refine JC.to2 [(0, .ref o0 0 r11.length), (1, .x (.int .i64 a1)), (2, .x (.fn 26)), (6, .x (.int .i64 (20 : Int))), (7, .x (.int .i64 x4)), (8, .x (.int .i64 (IntKind.i64.wrap (x4 + (20 : Int)))))] [⟨o0, 1, vl fD r11⟩] (by kernel_rfl) (by kernel_rfl) ?_
      exact ih x4 (IntKind.i64.wrap (x4 + (20 : Int))) r11
    · refine JC.exitT ?_
      refine JC.exitL ?_
      refine JC.to2 [(0, .ref o0 0 x5.length), (1, .x (.int .i64 a1)), (2, .x (.fn 26)), (6, .x (.int .i64 (20 : Int))), (7, .x (.int .i64 x3))] [⟨o0, 1, vl fD x5⟩] (by kernel_rfl) (by kernel_rfl) ?_
      exact JC.got (ex := (.exit 0)) rfl ⟨rfl, rfl, rfl⟩
def slices_stableCmpFunc_l2 (a1 : Int) (x20 : Int) : Nat → Int → Int → (List Fl) → Option ((List Fl) × Int)
  | 0, _, _, _ => none
  | k + 1, x26, x27, x28 => cond (decide (x27 ≤ a1)) ((slices_symMergeCmpFunc k x28 x26 (IntKind.i64.wrap (x26 + x20)) x27).bind fun r34 => slices_stableCmpFunc_l2 a1 x20 k x27 (IntKind.i64.wrap (x27 + (IntKind.i64.wrap ((2 : Int) * x20)))) r34) (some (x28, x26))
theorem slices_stableCmpFunc_l2_ok (a1 : Int) (x20 : Int) (fr : Nat → Option Blk) (o0 : Option Nat) : ∀ (k : Nat) (x26 : Int) (x27 : Int) (x28 : (List Fl)), JC prog fr 63 [(0, .ref o0 0 x28.length), (1, .x (.int .i64 a1)), (2, .x (.fn 26)), (6, .x (.int .i64 x20)), (7, .x (.int .i64 x26)), (8, .x (.int .i64 x27))] [⟨o0, 1, vl fD x28⟩] (.loop pf30_L1) (slices_stableCmpFunc_l2 a1 x20 k x26 x27 x28) (fun x => GotA 63 fr ((fun v ex E R => ex = (.exit 4) ∧ E = [(0, .ref o0 0 v.1.length), (1, .x (.int .i64 a1)), (2, .x (.fn 26)), (6, .x (.int .i64 x20)), (7, .x (.int .i64 v.2))] ∧ R = [⟨o0, 1, vl fD v.1⟩]) x)) := by
  intro k
  induction k with
  | zero =>
    intro x26 x27 x28
    exact JC.no
  | succ k ih =>
    intro x26 x27 x28
    rw [slices_stableCmpFunc_l2]
    refine JC.loop ?_
    refine JC.seq ?_
    refine JC.seq ?_
    refine JC.region fun b31 => ?_
    refine JS.run 3 (by kernel_rfl) ?_
    refine JS.nil ?_
    refine JC.to2 [(0, .ref o0 0 x28.length), (1, .x (.int .i64 a1)), (2, .x (.fn 26)), (6, .x (.int .i64 x20)), (7, .x (.int .i64 x26)), (8, .x (.int .i64 x27)), (35, .x (.bool (decide (x27 ≤ a1))))] [⟨o0, 1, vl fD x28⟩] (by kernel_rfl) (by kernel_rfl) ?_
    refine JC.skipT ?_
    refine JC.cond (e := (decide (x27 ≤ a1))) (by kernel_rfl) (fun h32 => ?_) (fun h32 => ?_)
    · refine JC.skipT ?_
      refine JC.block ?_
      refine JC.seq ?_
      refine JC.region fun b33 => ?_
      refine JS.run 7 (by kernel_rfl) ?_
      refine JS.bind fun r34 h35 => ?_
      refine JS.callI (args := [.x (.int .i64 x26), .x (.int .i64 (IntKind.i64.wrap (x26 + x20))), .x (.int .i64 x27), .x (.fn 26)]) (l := x28) (o := o0) [] (slices_symMergeCmpFunc_ok k x28 x26 (IntKind.i64.wrap (x26 + x20)) x27 r34 h35) (by kernel_rfl) (by kernel_rfl) (by kernel_rfl) (by kernel_rfl) (fun h36 => ?_)
      refine JS.relen (o := o0) (off := 0) (n := x28.length) (n' := r34.length) 0 (by kernel_rfl) h36.symm ?_
      refine JS.relen (o := o0) (off := 0) (n := x28.length) (n' := r34.length) 36 (by kernel_rfl) h36.symm ?_
      refine JS.nil ?_
      refine JC.to2 [(0, .ref o0 0 r34.length), (1, .x (.int .i64 a1)), (2, .x (.fn 26)), (6, .x (.int .i64 x20)), (8, .x (.int .i64 x27))] [⟨o0, 1, vl fD r34⟩] (by kernel_rfl) (by kernel_rfl) ?_
      refine JC.skipT ?_
      refine JC.seq ?_
      refine JC.region fun b37 => ?_
      refine JS.run 2 (by kernel_rfl) ?_
      refine JS.nil ?_
      refine JC.to2 [(0, .ref o0 0 r34.length), (1, .x (.int .i64 a1)), (2, .x (.fn 26)), (6, .x (.int .i64 x20)), (7, .x (.int .i64 x27)), (8, .x (.int .i64 x27))] [⟨o0, 1, vl fD r34⟩] (by kernel_rfl) (by kernel_rfl) ?_
      refine JC.skipT ?_
      refine JC.region fun b38 => ?_
      refine JS.run 5 (by kernel_rfl) ?_
      refine JS.nil ?_
      refine JC.to2 [(0, .ref o0 0 r34.length), (1, .x (.int .i64 a1)), (2, .x (.fn 26)), (6, .x (.int .i64 x20)), (7, .x (.int .i64 x27)), (8, .x (.int .i64 (IntKind.i64.wrap (x27 + (IntKind.i64.wrap ((2 : Int) * x20))))))] [⟨o0, 1, vl fD r34⟩] (by kernel_rfl) (by kernel_rfl) ?_
      refine JC.skipB ?_
      refine JC.skipL ?_
      refine JC.to2 [(0, .ref o0 0 r34.length), (1, .x (.int .i64 a1)), (2, .x (.fn 26)), (6, .x (.int .i64 x20)), (7, .x (.int .i64 x27)), (8, .x (.int .i64 (IntKind.i64.wrap (x27 + (IntKind.i64.wrap ((2 : Int) * x20))))))] [⟨o0, 1, vl fD r34⟩] (by kernel_rfl) (by kernel_rfl) ?_
      exact ih x27 (IntKind.i64.wrap (x27 + (IntKind.i64.wrap ((2 : Int) * x20)))) r34
    · refine JC.exitT ?_
      refine JC.exitL ?_
      refine JC.to2 [(0, .ref o0 0 x28.length), (1, .x (.int .i64 a1)), (2, .x (.fn 26)), (6, .x (.int .i64 x20)), (7, .x (.int .i64 x26))] [⟨o0, 1, vl fD x28⟩] (by kernel_rfl) (by kernel_rfl) ?_
      exact JC.got (ex := (.exit 4)) rfl ⟨rfl, rfl, rfl⟩
def slices_stableCmpFunc_l1 (a1 : Int) : Nat → Int → (List Fl) → Option (List Fl)
  | 0, _, _ => none
  | k + 1, x20, x21 => cond (decide (x20 < a1)) ((slices_stableCmpFunc_l2 a1 x20 k (0 : Int) (IntKind.i64.wrap ((2 : Int) * x20)) x21).bind fun (y29, y30) => cond (decide ((IntKind.i64.wrap (y30 + x20)) < a1)) ((slices_symMergeCmpFunc k y29 y30 (IntKind.i64.wrap (y30 + x20)) a1).bind fun r43 => slices_stableCmpFunc_l1 a1 k (IntKind.i64.wrap (x20 * (2 : Int))) r43) (slices_stableCmpFunc_l1 a1 k (IntKind.i64.wrap (x20 * (2 : Int))) y29)) (some x21)
theorem slices_stableCmpFunc_l1_ok (a1 : Int) (fr : Nat → Option Blk) (o0 : Option Nat) : ∀ (k : Nat) (x20 : Int) (x21 : (List Fl)), JC prog fr 63 [(0, .ref o0 0 x21.length), (1, .x (.int .i64 a1)), (2, .x (.fn 26)), (6, .x (.int .i64 x20))] [⟨o0, 1, vl fD x21⟩] (.loop pf30_L2) (slices_stableCmpFunc_l1 a1 k x20 x21) (fun x => GotA 63 fr ((fun v ex E R => ex = (.exit 2) ∧ E = [(0, .ref o0 0 v.length)] ∧ R = [⟨o0, 1, vl fD v⟩]) x)) := by
  intro k
  induction k with
  | zero =>
    intro x20 x21
    exact JC.no
  | succ k ih =>
    intro x20 x21
    rw [slices_stableCmpFunc_l1]
    refine JC.loop ?_
    refine JC.seq ?_
    refine JC.seq ?_
    refine JC.region fun b23 => ?_
    refine JS.run 3 (by kernel_rfl) ?_
    refine JS.nil ?_
    refine JC.to2 [(0, .ref o0 0 x21.length), (1, .x (.int .i64 a1)), (2, .x (.fn 26)), (6, .x (.int .i64 x20)), (30, .x (.bool (decide (x20 < a1))))] [⟨o0, 1, vl fD x21⟩] (by kernel_rfl) (by kernel_rfl) ?_
    refine JC.skipT ?_
    refine JC.cond (e := (decide (x20 < a1))) (by kernel_rfl) (fun h24 => ?_) (fun h24 => ?_)
    · refine JC.skipT ?_
      refine JC.block ?_
      refine JC.seq ?_
      refine JC.region fun b25 => ?_
      refine JS.run 4 (by kernel_rfl) ?_
      refine JS.nil ?_
      refine JC.to2 [(0, .ref o0 0 x21.length), (1, .x (.int .i64 a1)), (2, .x (.fn 26)), (6, .x (.int .i64 x20)), (7, .x (.int .i64 (0 : Int))), (8, .x (.int .i64 (IntKind.i64.wrap ((2 : Int) * x20))))] [⟨o0, 1, vl fD x21⟩] (by kernel_rfl) (by kernel_rfl) ?_
      refine JC.skipT ?_
      refine JC.seq ?_
      refine JC.block ?_
      refine JC.to2 [(0, .ref o0 0 x21.length), (1, .x (.int .i64 a1)), (2, .x (.fn 26)), (6, .x (.int .i64 x20)), (7, .x (.int .i64 (0 : Int))), (8, .x (.int .i64 (IntKind.i64.wrap ((2 : Int) * x20))))] [⟨o0, 1, vl fD x21⟩] (by kernel_rfl) (by kernel_rfl) ?_
      refine JC.to2 [(0, .ref o0 0 x21.length), (1, .x (.int .i64 a1)), (2, .x (.fn 26)), (6, .x (.int .i64 x20)), (7, .x (.int .i64 (0 : Int))), (8, .x (.int .i64 (IntKind.i64.wrap ((2 : Int) * x20))))] [⟨o0, 1, vl fD x21⟩] (by kernel_rfl) (by kernel_rfl) ?_
      refine JC.bind (A := fun v ex E R => ex = (.exit 4) ∧ E = [(0, .ref o0 0 v.1.length), (1, .x (.int .i64 a1)), (2, .x (.fn 26)), (6, .x (.int .i64 x20)), (7, .x (.int .i64 v.2))] ∧ R = [⟨o0, 1, vl fD v.1⟩]) (slices_stableCmpFunc_l2_ok a1 x20 fr o0 k (0 : Int) (IntKind.i64.wrap ((2 : Int) * x20)) x21) ?_
      rintro ⟨y29, y30⟩ ex E' R' hA
      obtain ⟨rfl, rfl, rfl⟩ := hA
      refine JC.to2 [(0, .ref o0 0 y29.length), (1, .x (.int .i64 a1)), (2, .x (.fn 26)), (6, .x (.int .i64 x20)), (7, .x (.int .i64 y30))] [⟨o0, 1, vl fD y29⟩] (by kernel_rfl) (by kernel_rfl) ?_
      refine JC.exitB ?_
      refine JC.skipT ?_
      refine JC.seq ?_
      refine JC.seq ?_
      refine JC.region fun b39 => ?_
      refine JS.run 4 (by kernel_rfl) ?_
      refine JS.nil ?_
      refine JC.to2 [(0, .ref o0 0 y29.length), (1, .x (.int .i64 a1)), (2, .x (.fn 26)), (6, .x (.int .i64 x20)), (7, .x (.int .i64 y30)), (9, .x (.int .i64 (IntKind.i64.wrap (y30 + x20))))] [⟨o0, 1, vl fD y29⟩] (by kernel_rfl) (by kernel_rfl) ?_
      refine JC.skipT ?_
      refine JC.seq ?_
      refine JC.region fun b40 => ?_
      refine JS.run 3 (by kernel_rfl) ?_
      refine JS.nil ?_
      refine JC.to2 [(0, .ref o0 0 y29.length), (1, .x (.int .i64 a1)), (2, .x (.fn 26)), (6, .x (.int .i64 x20)), (7, .x (.int .i64 y30)), (9, .x (.int .i64 (IntKind.i64.wrap (y30 + x20)))), (54, .x (.bool (decide ((IntKind.i64.wrap (y30 + x20)) < a1))))] [⟨o0, 1, vl fD y29⟩] (by kernel_rfl) (by kernel_rfl) ?_
      refine JC.skipT ?_
      refine JC.cond (e := (decide ((IntKind.i64.wrap (y30 + x20)) < a1))) (by kernel_rfl) (fun h41 => ?_) (fun h41 => ?_)
      · refine JC.region fun b42 => ?_
        refine JS.run 5 (by kernel_rfl) ?_
        refine JS.bind fun r43 h44 => ?_
        refine JS.callI (args := [.x (.int .i64 y30), .x (.int .i64 (IntKind.i64.wrap (y30 + x20))), .x (.int .i64 a1), .x (.fn 26)]) (l := y29) (o := o0) [] (slices_symMergeCmpFunc_ok k y29 y30 (IntKind.i64.wrap (y30 + x20)) a1 r43 h44) (by kernel_rfl) (by kernel_rfl) (by kernel_rfl) (by kernel_rfl) (fun h45 => ?_)
        refine JS.relen (o := o0) (off := 0) (n := y29.length) (n' := r43.length) 0 (by kernel_rfl) h45.symm ?_
        refine JS.relen (o := o0) (off := 0) (n := y29.length) (n' := r43.length) 55 (by kernel_rfl) h45.symm ?_
        refine JS.nil ?_
        refine JC.to2 [(0, .ref o0 0 r43.length), (1, .x (.int .i64 a1)), (2, .x (.fn 26)), (6, .x (.int .i64 x20))] [⟨o0, 1, vl fD r43⟩] (by kernel_rfl) (by kernel_rfl) ?_
        refine JC.skipT ?_
        refine JC.region fun b46 => ?_
        refine JS.run 3 (by kernel_rfl) ?_
        refine JS.nil ?_
        refine JC.to2 [(0, .ref o0 0 r43.length), (1, .x (.int .i64 a1)), (2, .x (.fn 26)), (6, .x (.int .i64 (IntKind.i64.wrap (x20 * (2 : Int)))))] [⟨o0, 1, vl fD r43⟩] (by kernel_rfl) (by kernel_rfl) ?_
        refine JC.skipB ?_
        refine JC.skipL ?_
        refine JC.to2 [(0, .ref o0 0 r43.length), (1, .x (.int .i64 a1)), (2, .x (.fn 26)), (6, .x (.int .i64 (IntKind.i64.wrap (x20 * (2 : Int)))))] [⟨o0, 1, vl fD r43⟩] (by kernel_rfl) (by kernel_rfl) ?_
        exact ih (IntKind.i64.wrap (x20 * (2 : Int))) r43
      · refine JC.skipT ?_
        refine JC.region fun b47 => ?_
        refine JS.run 3 (by kernel_rfl) ?_
        refine JS.nil ?_
        refine JC.to2 [(0, .ref o0 0 y29.length), (1, .x (.int .i64 a1)), (2, .x (.fn 26)), (6, .x (.int .i64 (IntKind.i64.wrap (x20 * (2 : Int)))))] [⟨o0, 1, vl fD y29⟩] (by kernel_rfl) (by kernel_rfl) ?_
        refine JC.skipB ?_
        refine JC.skipL ?_
        refine JC.to2 [(0, .ref o0 0 y29.length), (1, .x (.int .i64 a1)), (2, .x (.fn 26)), (6, .x (.int .i64 (IntKind.i64.wrap (x20 * (2 : Int)))))] [⟨o0, 1, vl fD y29⟩] (by kernel_rfl) (by kernel_rfl) ?_
        exact ih (IntKind.i64.wrap (x20 * (2 : Int))) y29
    · refine JC.exitT ?_
      refine JC.exitL ?_
      refine JC.to2 [(0, .ref o0 0 x21.length)] [⟨o0, 1, vl fD x21⟩] (by kernel_rfl) (by kernel_rfl) ?_
      exact JC.got (ex := (.exit 2)) rfl ⟨rfl, rfl, rfl⟩
def slices_stableCmpFunc (k : Nat) (a0 : (List Fl)) (a1 : Int) : Option (List Fl) :=
  (slices_stableCmpFunc_l0 a1 k (0 : Int) (20 : Int) a0).bind fun (y6, y7) => (slices_insertionSortCmpFunc k y6 y7 a1).bind fun r17 => (slices_stableCmpFunc_l1 a1 k (20 : Int) r17).bind fun y22 => keepL a0 y22
theorem slices_stableCmpFunc_ok (k : Nat) : ∀ (a0 : (List Fl)) (a1 : Int) (r : (List Fl)), slices_stableCmpFunc k a0 a1 = some r → InOk prog 30 1 fD [.x (.int .i64 a1), .x (.fn 26)] a0 r := by
  intro a0 a1
  refine InOk.of (pf := pf30) rfl rfl rfl rfl ?_
  intro fr o0
  unfold slices_stableCmpFunc pf30
  refine JC.seq ?_
  refine JC.region fun b1 => ?_
  refine JS.run 1 (by kernel_rfl) ?_
  refine JS.nil ?_
  refine JC.to2 [(0, .ref o0 0 a0.length), (1, .x (.int .i64 a1)), (2, .x (.fn 26)), (6, .x (.int .i64 (20 : Int)))] [⟨o0, 1, vl fD a0⟩] (by kernel_rfl) (by kernel_rfl) ?_
  refine JC.skipT ?_
  refine JC.seq ?_
  refine JC.region fun b2 => ?_
  refine JS.run 3 (by kernel_rfl) ?_
  refine JS.nil ?_
  refine JC.to2 [(0, .ref o0 0 a0.length), (1, .x (.int .i64 a1)), (2, .x (.fn 26)), (6, .x (.int .i64 (20 : Int))), (7, .x (.int .i64 (0 : Int))), (8, .x (.int .i64 (20 : Int)))] [⟨o0, 1, vl fD a0⟩] (by kernel_rfl) (by kernel_rfl) ?_
  refine JC.skipT ?_
  refine JC.seq ?_
  refine JC.block ?_
  refine JC.to2 [(0, .ref o0 0 a0.length), (1, .x (.int .i64 a1)), (2, .x (.fn 26)), (6, .x (.int .i64 (20 : Int))), (7, .x (.int .i64 (0 : Int))), (8, .x (.int .i64 (20 : Int)))] [⟨o0, 1, vl fD a0⟩] (by kernel_rfl) (by kernel_rfl) ?_
  refine JC.to2 [(0, .ref o0 0 a0.length), (1, .x (.int .i64 a1)), (2, .x (.fn 26)), (6, .x (.int .i64 (20 : Int))), (7, .x (.int .i64 (0 : Int))), (8, .x (.int .i64 (20 : Int)))] [⟨o0, 1, vl fD a0⟩] (by kernel_rfl) (by kernel_rfl) ?_
  refine JC.bind (A := fun v ex E R => ex = (.exit 0) ∧ E = [(0, .ref o0 0 v.1.length), (1, .x (.int .i64 a1)), (2, .x (.fn 26)), (6, .x (.int .i64 (20 : Int))), (7, .x (.int .i64 v.2))] ∧ R = [⟨o0, 1, vl fD v.1⟩]) (slices_stableCmpFunc_l0_ok a1 fr o0 k (0 : Int) (20 : Int) a0) ?_
  rintro ⟨y6, y7⟩ ex E' R' hA
  obtain ⟨rfl, rfl, rfl⟩ := hA
  refine JC.to2 [(0, .ref o0 0 y6.length), (1, .x (.int .i64 a1)), (2, .x (.fn 26)), (6, .x (.int .i64 (20 : Int))), (7, .x (.int .i64 y7))] [⟨o0, 1, vl fD y6⟩] (by kernel_rfl) (by kernel_rfl) ?_
  refine JC.exitB ?_
  refine JC.skipT ?_
  refine JC.seq ?_
  refine JC.region fun b16 => ?_
  refine JS.run 4 (by kernel_rfl) ?_
  refine JS.bind fun r17 h18 => ?_
  refine JS.callI (args := [.x (.int .i64 y7), .x (.int .i64 a1), .x (.fn 26)]) (l := y6) (o := o0) [] (slices_insertionSortCmpFunc_ok k y6 y7 a1 r17 h18) (by kernel_rfl) (by kernel_rfl) (by kernel_rfl) (by kernel_rfl) (fun h19 => ?_)
  refine JS.relen (o := o0) (off := 0) (n := y6.length) (n' := r17.length) 0 (by kernel_rfl) h19.symm ?_
  refine JS.relen (o := o0) (off := 0) (n := y6.length) (n' := r17.length) 23 (by kernel_rfl) h19.symm ?_
  refine JS.nil ?_
  refine JC.to2 [(0, .ref o0 0 r17.length), (1, .x (.int .i64 a1)), (2, .x (.fn 26)), (6, .x (.int .i64 (20 : Int)))] [⟨o0, 1, vl fD r17⟩] (by kernel_rfl) (by kernel_rfl) ?_
  refine JC.skipT ?_
  refine JC.block ?_
  refine JC.to2 [(0, .ref o0 0 r17.length), (1, .x (.int .i64 a1)), (2, .x (.fn 26)), (6, .x (.int .i64 (20 : Int)))] [⟨o0, 1, vl fD r17⟩] (by kernel_rfl) (by kernel_rfl) ?_
  refine JC.to2 [(0, .ref o0 0 r17.length), (1, .x (.int .i64 a1)), (2, .x (.fn 26)), (6, .x (.int .i64 (20 : Int)))] [⟨o0, 1, vl fD r17⟩] (by kernel_rfl) (by kernel_rfl) ?_
  refine JC.bind (A := fun v ex E R => ex = (.exit 2) ∧ E = [(0, .ref o0 0 v.length)] ∧ R = [⟨o0, 1, vl fD v⟩]) (slices_stableCmpFunc_l1_ok a1 fr o0 k (20 : Int) r17) ?_
  rintro y22 ex E' R' hA
  obtain ⟨rfl, rfl, rfl⟩ := hA
  refine JC.to2 [(0, .ref o0 0 y22.length)] [⟨o0, 1, vl fD y22⟩] (by kernel_rfl) (by kernel_rfl) ?_
  refine JC.exitB ?_
  exact JC.finI (ex := .normal) (l := a0) rfl normal_ne rfl
/-! slices.SortStableFunc[[]float64,float64] -/
def slices_SortStableFunc (k : Nat) (a0 : (List Fl)) : Option (List Fl) :=
  (slices_stableCmpFunc k a0 ((a0.length : Nat) : Int)).bind fun r2 => keepL a0 r2
theorem slices_SortStableFunc_ok (k : Nat) : ∀ (a0 : (List Fl)) (r : (List Fl)), slices_SortStableFunc k a0 = some r → InOk prog 25 1 fD [.x (.fn 26)] a0 r := by
  intro a0
  refine InOk.of (pf := pf25) rfl rfl rfl rfl ?_
  intro fr o0
  unfold slices_SortStableFunc pf25
  refine JC.region fun b1 => ?_
  refine JS.run 4 (by kernel_rfl) ?_
  refine JS.bind fun r2 h3 => ?_
  refine JS.callI (args := [.x (.int .i64 ((a0.length : Nat) : Int)), .x (.fn 26)]) (l := a0) (o := o0) [] (slices_stableCmpFunc_ok k a0 ((a0.length : Nat) : Int) r2 h3) (by kernel_rfl) (by kernel_rfl) (by kernel_rfl) (by kernel_rfl) (fun h4 => ?_)
  refine JS.relen (o := o0) (off := 0) (n := a0.length) (n' := r2.length) 0 (by kernel_rfl) h4.symm ?_
  refine JS.relen (o := o0) (off := 0) (n := a0.length) (n' := r2.length) 4 (by kernel_rfl) h4.symm ?_
  refine JS.relen (o := o0) (off := 0) (n := a0.length) (n' := r2.length) 5 (by kernel_rfl) h4.symm ?_
  refine JS.nil ?_
  refine JC.to2 [(0, .ref o0 0 r2.length)] [⟨o0, 1, vl fD r2⟩] (by kernel_rfl) (by kernel_rfl) ?_
  exact JC.finI (ex := .normal) (l := a0) rfl normal_ne rfl
/-! slices.Clone[[]float64,float64] -/
def slices_Clone (k : Nat) (a0 : (List Fl)) : Option (List Fl) :=
  cond (a0.map fD).isEmpty (both (some ([] : (List Fl))) (room ((([] : List Fl).length) + a0.length) 8 (some (([] : List Fl) ++ a0)))) (room ((([] : List Fl).length) + a0.length) 8 (some (([] : List Fl) ++ a0)))
theorem slices_Clone_ok (k : Nat) (a0 : (List Fl)) : ∀ r, slices_Clone k a0 = some r → CallOk prog 24 [.c 1 (.lst 1 (a0.map fD))] false [.own 1 (vl fD r)] := by
  refine CallOk.ofB (pf := pf24) (rs := [.tmp 2]) (Res := fun (r : (List Fl)) => [.own 1 (vl fD r)]) rfl rfl rfl rfl rfl ?_
  unfold slices_Clone pf24
  refine JC.seq ?_
  refine JC.region fun b1 => ?_
  refine JS.run 1 (by kernel_rfl) ?_
  refine JS.nil ?_
  refine JC.to2 [(0, .c 1 (.lst 1 (a0.map fD)))] [] (by kernel_rfl) (by kernel_rfl) ?_
  refine JC.skipT ?_
  refine JC.seq ?_
  refine JC.seq ?_
  refine JC.region fun b2 => ?_
  refine JS.run 1 (by kernel_rfl) ?_
  refine JS.eqNB (n := 1) (sz := 1) (es := (a0.map fD)) (by kernel_rfl) (by kernel_rfl) (by kernel_rfl) ?_ ?_
  · refine JS.nil ?_
    refine JC.to2 [(0, .c 1 (.lst 1 (a0.map fD))), (4, .x (.bool true))] [] (by kernel_rfl) (by kernel_rfl) ?_
    refine JC.skipT ?_
    refine JC.condT (by kernel_rfl) ?_
    refine JC.seq ?_
    refine JC.region fun b4 => ?_
    refine JS.run 1 (by kernel_rfl) ?_
    refine JS.nil ?_
    refine JC.to2 [(2, .x .nil)] [] (by kernel_rfl) (by kernel_rfl) ?_
    refine JC.skipT ?_
    refine JC.retT ?_
    exact JC.finB (ex := .ret) (vs := [.x .nil]) (is := []) rfl ret_ne ⟨(by kernel_rfl), trivial⟩ (Outs.nl Outs.nil)
  · refine JS.nil ?_
    refine JC.to2 [(0, .c 1 (.lst 1 (a0.map fD))), (4, .x (.bool false))] [] (by kernel_rfl) (by kernel_rfl) ?_
    refine JC.skipT ?_
    refine JC.condF (by kernel_rfl) ?_
    refine JC.skipT ?_
    refine JC.seq ?_
    refine JC.region fun b5 => ?_
    refine JS.buildSlice (c := fD) ([] : List Fl) (by kernel_rfl) (by kernel_rfl) (by kernel_rfl) (by kernel_rfl) (by kernel_rfl) (fun id6 => ?_)
    refine JS.run 1 (by kernel_rfl) ?_
    refine JS.appT (c := fD) (l := ([] : List Fl)) (k := a0) (o := (some id6)) 0 (by kernel_rfl) (by kernel_rfl) (srcC (c := fD) (l := a0) (n := 1) (by kernel_rfl) (fun _ => rfl) (fun _ _ => rfl)) (by kernel_rfl) (by kernel_rfl) (by kernel_rfl) (fun o7 => ?_)
    refine JS.run 1 (by kernel_rfl) ?_
    refine JS.nil ?_
    refine JC.to2 [(2, .ref o7 0 ((([] : List Fl) ++ a0).length))] [⟨o7, 1, vl fD (([] : List Fl) ++ a0)⟩] (by kernel_rfl) (by kernel_rfl) ?_
    refine JC.skipT ?_
    refine JC.relen (o := o7) (off := 0) (n := (([] : List Fl) ++ a0).length) (n' := (vl fD (([] : List Fl) ++ a0)).length) 2 (by kernel_rfl) (vl_len _ _).symm ?_
    exact JC.finB (ex := .ret) (vs := [.ref o7 0 (vl fD (([] : List Fl) ++ a0)).length]) (is := [0]) rfl ret_ne ⟨(by kernel_rfl), trivial⟩ (Outs.own (i := 0) (by kernel_rfl) (vl_out fun _ => rfl) rfl Outs.nil)
/-! eyot/fold.Sum -/
def fold_Sum_l0 (a0 : (List Fl)) : Nat → Fl → Int → Option Fl
  | 0, _, _ => none
  | k + 1, x4, x5 => cond (decide (x5 < ((a0.length : Nat) : Int))) ((at? a0 x5).bind fun w10 => fold_Sum_l0 a0 k (fAdd x4 w10) (IntKind.i64.wrap (x5 + (1 : Int)))) (some x4)
theorem fold_Sum_l0_ok (a0 : (List Fl))  : ∀ (k : Nat) (x4 : Fl) (x5 : Int), JC prog noFr 17 [(3, .x (.flt x4)), (6, .c 1 (.lst 1 (a0.map fD))), (7, .x (.int .i64 ((a0.length : Nat) : Int))), (8, .x (.int .i64 x5))] [] (.loop pf12_L0) (fold_Sum_l0 a0 k x4 x5) (fun x => GotA 17 noFr ((fun v ex E R => ex = (.exit 0) ∧ E = [(3, .x (.flt v))] ∧ R = []) x)) := by
  intro k
  induction k with
  | zero =>
    intro x4 x5
    exact JC.no
  | succ k ih =>
    intro x4 x5
    rw [fold_Sum_l0]
    refine JC.loop ?_
    refine JC.seq ?_
    refine JC.region fun b7 => ?_
    refine JS.run 1 (by kernel_rfl) ?_
    refine JS.nil ?_
    refine JC.to2 [(3, .x (.flt x4)), (6, .c 1 (.lst 1 (a0.map fD))), (7, .x (.int .i64 ((a0.length : Nat) : Int))), (8, .x (.int .i64 x5)), (9, .x (.bool (decide (x5 < ((a0.length : Nat) : Int)))))] [] (by kernel_rfl) (by kernel_rfl) ?_
    refine JC.skipT ?_
    refine JC.seq ?_
    refine JC.cond (e := (decide (x5 < ((a0.length : Nat) : Int)))) (by kernel_rfl) (fun h8 => ?_) (fun h8 => ?_)
    · refine JC.skipT ?_
      refine JC.seq ?_
      refine JC.block ?_
      refine JC.seq ?_
      refine JC.region fun b9 => ?_
      refine JS.idxC (c := fD) (l := a0) (n := 1) (kk := .i64) (z := x5) (by kernel_rfl) (by kernel_rfl) (by kernel_rfl) (by kernel_rfl) (fun w10 h11 => ?_)
      refine JS.run 2 (by kernel_rfl) ?_
      refine JS.nil ?_
      refine JC.to2 [(3, .x (.flt x4)), (5, .x (.flt w10)), (6, .c 1 (.lst 1 (a0.map fD))), (7, .x (.int .i64 ((a0.length : Nat) : Int))), (8, .x (.int .i64 x5))] [] (by kernel_rfl) (by kernel_rfl) ?_
      refine JC.skipT ?_
      refine JC.region fun b12 => ?_
      refine JS.run 4 (by kernel_rfl) ?_
      refine JS.nil ?_
      refine JC.to2 [(3, .x (.flt (fAdd x4 w10))), (6, .c 1 (.lst 1 (a0.map fD))), (7, .x (.int .i64 ((a0.length : Nat) : Int))), (8, .x (.int .i64 x5))] [] (by kernel_rfl) (by kernel_rfl) ?_
      refine JC.skipB ?_
      refine JC.skipT ?_
      refine JC.region fun b13 => ?_
      refine JS.run 2 (by kernel_rfl) ?_
      refine JS.nil ?_
      refine JC.to2 [(3, .x (.flt (fAdd x4 w10))), (6, .c 1 (.lst 1 (a0.map fD))), (7, .x (.int .i64 ((a0.length : Nat) : Int))), (8, .x (.int .i64 (IntKind.i64.wrap (x5 + (1 : Int)))))] [] (by kernel_rfl) (by kernel_rfl) ?_
      refine JC.skipL ?_
      refine JC.to2 [(3, .x (.flt (fAdd x4 w10))), (6, .c 1 (.lst 1 (a0.map fD))), (7, .x (.int .i64 ((a0.length : Nat) : Int))), (8, .x (.int .i64 (IntKind.i64.wrap (x5 + (1 : Int)))))] [] (by kernel_rfl) (by kernel_rfl) ?_
      exact ih (fAdd x4 w10) (IntKind.i64.wrap (x5 + (1 : Int)))
    · refine JC.exitT ?_
      refine JC.exitL ?_
      refine JC.to2 [(3, .x (.flt x4))] [] (by kernel_rfl) (by kernel_rfl) ?_
      exact JC.got (ex := (.exit 0)) rfl ⟨rfl, rfl, rfl⟩
def fold_Sum (k : Nat) (a0 : (List Fl)) : Option Fl :=
  (fold_Sum_l0 a0 k (some 0 : Fl) (0 : Int)).bind fun y6 => some y6
theorem fold_Sum_ok (k : Nat) (a0 : (List Fl)) : ∀ r, fold_Sum k a0 = some r → CallOk prog 12 [.c 1 (.lst 1 (a0.map fD))] false [.sc (.x (.flt r))] := by
  refine CallOk.ofB (pf := pf12) (rs := [.tmp 2]) (Res := fun (r : Fl) => [.sc (.x (.flt r))]) rfl rfl rfl rfl rfl ?_
  unfold fold_Sum pf12
  refine JC.seq ?_
  refine JC.region fun b1 => ?_
  refine JS.run 1 (by kernel_rfl) ?_
  refine JS.nil ?_
  refine JC.to2 [(0, .c 1 (.lst 1 (a0.map fD)))] [] (by kernel_rfl) (by kernel_rfl) ?_
  refine JC.skipT ?_
  refine JC.seq ?_
  refine JC.region fun b2 => ?_
  refine JS.run 1 (by kernel_rfl) ?_
  refine JS.nil ?_
  refine JC.to2 [(0, .c 1 (.lst 1 (a0.map fD))), (3, .x (.flt (some 0 : Fl)))] [] (by kernel_rfl) (by kernel_rfl) ?_
  refine JC.skipT ?_
  refine JC.seq ?_
  refine JC.seq ?_
  refine JC.region fun b3 => ?_
  refine JS.run 1 (by kernel_rfl) ?_
  refine JS.lenC (c := fD) (l := a0) (n := 1) (sz := 1) (by kernel_rfl) (by kernel_rfl) (by kernel_rfl) ?_
  refine JS.run 1 (by kernel_rfl) ?_
  refine JS.nil ?_
  refine JC.to2 [(3, .x (.flt (some 0 : Fl))), (6, .c 1 (.lst 1 (a0.map fD))), (7, .x (.int .i64 ((a0.length : Nat) : Int))), (8, .x (.int .i64 (0 : Int)))] [] (by kernel_rfl) (by kernel_rfl) ?_
  refine JC.skipT ?_
  refine JC.block ?_
  refine JC.to2 [(3, .x (.flt (some 0 : Fl))), (6, .c 1 (.lst 1 (a0.map fD))), (7, .x (.int .i64 ((a0.length : Nat) : Int))), (8, .x (.int .i64 (0 : Int)))] [] (by kernel_rfl) (by kernel_rfl) ?_
  refine JC.to2 [(3, .x (.flt (some 0 : Fl))), (6, .c 1 (.lst 1 (a0.map fD))), (7, .x (.int .i64 ((a0.length : Nat) : Int))), (8, .x (.int .i64 (0 : Int)))] [] (by kernel_rfl) (by kernel_rfl) ?_
  refine JC.bind (A := fun v ex E R => ex = (.exit 0) ∧ E = [(3, .x (.flt v))] ∧ R = []) (fold_Sum_l0_ok a0 k (some 0 : Fl) (0 : Int)) ?_
  rintro y6 ex E' R' hA
  obtain ⟨rfl, rfl, rfl⟩ := hA
  refine JC.to2 [(3, .x (.flt y6))] [] (by kernel_rfl) (by kernel_rfl) ?_
  refine JC.exitB ?_
  refine JC.skipT ?_
  refine JC.seq ?_
  refine JC.region fun b14 => ?_
  refine JS.run 2 (by kernel_rfl) ?_
  refine JS.nil ?_
  refine JC.to2 [(2, .x (.flt y6))] [] (by kernel_rfl) (by kernel_rfl) ?_
  refine JC.skipT ?_
  exact JC.finB (ex := .ret) (vs := [.x (.flt y6)]) (is := []) rfl ret_ne ⟨(by kernel_rfl), trivial⟩ (Outs.sc rfl Outs.nil)
/-! eyot/fold.Times -/
def fold_Times (k : Nat) (a0 : Fl) (a1 : Int) : Option Fl :=
  some (fMul a0 (some (FloatKind.f64.nearest a1) : Fl))
theorem fold_Times_ok (k : Nat) (a0 : Fl) (a1 : Int) : ∀ r, fold_Times k a0 a1 = some r → CallOk prog 14 [.x (.flt a0), .x (.int .i64 a1)] false [.sc (.x (.flt r))] := by
  refine CallOk.ofB (pf := pf14) (rs := [.tmp 4]) (Res := fun (r : Fl) => [.sc (.x (.flt r))]) rfl rfl rfl rfl rfl ?_
  unfold fold_Times pf14
  refine JC.seq ?_
  refine JC.region fun b1 => ?_
  refine JS.run 1 (by kernel_rfl) ?_
  refine JS.nil ?_
  refine JC.to2 [(0, .x (.flt a0)), (1, .x (.int .i64 a1))] [] (by kernel_rfl) (by kernel_rfl) ?_
  refine JC.skipT ?_
  refine JC.seq ?_
  refine JC.region fun b2 => ?_
  refine JS.run 5 (by kernel_rfl) ?_
  refine JS.nil ?_
  refine JC.to2 [(4, .x (.flt (fMul a0 (some (FloatKind.f64.nearest a1) : Fl))))] [] (by kernel_rfl) (by kernel_rfl) ?_
  refine JC.skipT ?_
  exact JC.finB (ex := .ret) (vs := [.x (.flt (fMul a0 (some (FloatKind.f64.nearest a1) : Fl)))]) (is := []) rfl ret_ne ⟨(by kernel_rfl), trivial⟩ (Outs.sc rfl Outs.nil)
/-! eyot/fold.pick -/
def fold_pick_l0 (a0 : (List Fl)) (a1 : Int) : Nat → Fl → Bool → Int → Option (Fl × Bool)
  | 0, _, _, _ => none
  | k + 1, x5, x6, x7 => cond (decide (x7 < ((a0.length : Nat) : Int))) (((at? a0 x7).bind fun w15 => cond (fOrd w15 w15 != some .eq) (some (x5, x6)) ((cond (!x6) (some true) ((weigh_Order k w15 x5).bind fun r22 => some (r22 == a1))).bind fun y19 => cond y19 (some (w15, true)) (some (x5, x6)))).bind fun (y12, y13) => fold_pick_l0 a0 a1 k y12 y13 (IntKind.i64.wrap (x7 + (1 : Int)))) (some (x5, x6))
theorem fold_pick_l0_ok (a0 : (List Fl)) (a1 : Int)  : ∀ (k : Nat) (x5 : Fl) (x6 : Bool) (x7 : Int), JC prog noFr 32 [(1, .x (.int .i64 a1)), (6, .x (.flt x5)), (7, .x (.bool x6)), (10, .c 1 (.lst 1 (a0.map fD))), (11, .x (.int .i64 ((a0.length : Nat) : Int))), (12, .x (.int .i64 x7))] [] (.loop pf23_L0) (fold_pick_l0 a0 a1 k x5 x6 x7) (fun x => GotA 32 noFr ((fun v ex E R => ex = (.exit 0) ∧ E = [(6, .x (.flt v.1)), (7, .x (.bool v.2))] ∧ R = []) x)) := by
  intro k
  induction k with
  | zero =>
    intro x5 x6 x7
    exact JC.no
  | succ k ih =>
    intro x5 x6 x7
    rw [fold_pick_l0]
    refine JC.loop ?_
    refine JC.seq ?_
    refine JC.region fun b10 => ?_
    refine JS.run 1 (by kernel_rfl) ?_
    refine JS.nil ?_
    refine JC.to2 [(1, .x (.int .i64 a1)), (6, .x (.flt x5)), (7, .x (.bool x6)), (10, .c 1 (.lst 1 (a0.map fD))), (11, .x (.int .i64 ((a0.length : Nat) : Int))), (12, .x (.int .i64 x7)), (13, .x (.bool (decide (x7 < ((a0.length : Nat) : Int)))))] [] (by kernel_rfl) (by kernel_rfl) ?_
    refine JC.skipT ?_
    refine JC.seq ?_
    refine JC.cond (e := (decide (x7 < ((a0.length : Nat) : Int)))) (by kernel_rfl) (fun h11 => ?_) (fun h11 => ?_)
    · refine JC.skipT ?_
      refine JC.seq ?_
      refine JC.bind (A := fun v ex E R => ex = .normal ∧ E = [(1, .x (.int .i64 a1)), (6, .x (.flt v.1)), (7, .x (.bool v.2)), (10, .c 1 (.lst 1 (a0.map fD))), (11, .x (.int .i64 ((a0.length : Nat) : Int))), (12, .x (.int .i64 x7))] ∧ R = []) ?_ ?_
      · refine JC.block ?_
        refine JC.seq ?_
        refine JC.region fun b14 => ?_
        refine JS.idxC (c := fD) (l := a0) (n := 1) (kk := .i64) (z := x7) (by kernel_rfl) (by kernel_rfl) (by kernel_rfl) (by kernel_rfl) (fun w15 h16 => ?_)
        refine JS.run 2 (by kernel_rfl) ?_
        refine JS.nil ?_
        refine JC.to2 [(1, .x (.int .i64 a1)), (6, .x (.flt x5)), (7, .x (.bool x6)), (9, .x (.flt w15)), (10, .c 1 (.lst 1 (a0.map fD))), (11, .x (.int .i64 ((a0.length : Nat) : Int))), (12, .x (.int .i64 x7))] [] (by kernel_rfl) (by kernel_rfl) ?_
        refine JC.skipT ?_
        refine JC.seq ?_
        refine JC.seq ?_
        refine JC.region fun b17 => ?_
        refine JS.run 3 (by kernel_rfl) ?_
        refine JS.nil ?_
        refine JC.to2 [(1, .x (.int .i64 a1)), (6, .x (.flt x5)), (7, .x (.bool x6)), (9, .x (.flt w15)), (10, .c 1 (.lst 1 (a0.map fD))), (11, .x (.int .i64 ((a0.length : Nat) : Int))), (12, .x (.int .i64 x7)), (18, .x (.bool (fOrd w15 w15 != some .eq)))] [] (by kernel_rfl) (by kernel_rfl) ?_
        refine JC.skipT ?_
        refine JC.cond (e := (fOrd w15 w15 != some .eq)) (by kernel_rfl) (fun h18 => ?_) (fun h18 => ?_)
        · refine JC.exitT ?_
          refine JC.exitB ?_
          refine JC.to2 [(1, .x (.int .i64 a1)), (6, .x (.flt x5)), (7, .x (.bool x6)), (10, .c 1 (.lst 1 (a0.map fD))), (11, .x (.int .i64 ((a0.length : Nat) : Int))), (12, .x (.int .i64 x7))] [] (by kernel_rfl) (by kernel_rfl) ?_
          exact JC.got (ex := .normal) rfl ⟨rfl, rfl, rfl⟩
        · refine JC.skipT ?_
          refine JC.seq ?_
          refine JC.bind (A := fun v ex E R => ex = .normal ∧ E = [(1, .x (.int .i64 a1)), (6, .x (.flt x5)), (7, .x (.bool x6)), (9, .x (.flt w15)), (10, .c 1 (.lst 1 (a0.map fD))), (11, .x (.int .i64 ((a0.length : Nat) : Int))), (12, .x (.int .i64 x7)), (27, .x (.bool v))] ∧ R = []) ?_ ?_
          · refine JC.region fun b20 => ?_
            refine JS.run 3 (by kernel_rfl) ?_
            refine JS.split (e := (!x6)) 21 (by kernel_rfl) (fun h21 => ?_) (fun h21 => ?_)
            · refine JS.run 6 (by kernel_rfl) ?_
              refine JS.nil ?_
              refine JC.to2 [(1, .x (.int .i64 a1)), (6, .x (.flt x5)), (7, .x (.bool x6)), (9, .x (.flt w15)), (10, .c 1 (.lst 1 (a0.map fD))), (11, .x (.int .i64 ((a0.length : Nat) : Int))), (12, .x (.int .i64 x7)), (27, .x (.bool true))] [] (by kernel_rfl) (by kernel_rfl) ?_
              refine JC.to2 [(1, .x (.int .i64 a1)), (6, .x (.flt x5)), (7, .x (.bool x6)), (9, .x (.flt w15)), (10, .c 1 (.lst 1 (a0.map fD))), (11, .x (.int .i64 ((a0.length : Nat) : Int))), (12, .x (.int .i64 x7)), (27, .x (.bool true))] [] (by kernel_rfl) (by kernel_rfl) ?_
              exact JC.got (ex := .normal) rfl ⟨rfl, rfl, rfl⟩
            · refine JS.run 2 (by kernel_rfl) ?_
              refine JS.bind fun r22 h23 => ?_
              refine JS.callS [] (weigh_Order_ok k w15 x5 r22 h23) ⟨rfl, argX (d := (.flt w15)) (by kernel_rfl) (by kernel_rfl), rfl, argX (d := (.flt x5)) (by kernel_rfl) (by kernel_rfl), trivial⟩ (by kernel_rfl) (by kernel_rfl) (by kernel_rfl) ?_
              refine JS.run 3 (by kernel_rfl) ?_
              refine JS.nil ?_
              refine JC.to2 [(1, .x (.int .i64 a1)), (6, .x (.flt x5)), (7, .x (.bool x6)), (9, .x (.flt w15)), (10, .c 1 (.lst 1 (a0.map fD))), (11, .x (.int .i64 ((a0.length : Nat) : Int))), (12, .x (.int .i64 x7)), (27, .x (.bool (r22 == a1)))] [] (by kernel_rfl) (by kernel_rfl) ?_
              refine JC.to2 [(1, .x (.int .i64 a1)), (6, .x (.flt x5)), (7, .x (.bool x6)), (9, .x (.flt w15)), (10, .c 1 (.lst 1 (a0.map fD))), (11, .x (.int .i64 ((a0.length : Nat) : Int))), (12, .x (.int .i64 x7)), (27, .x (.bool (r22 == a1)))] [] (by kernel_rfl) (by kernel_rfl) ?_
              exact JC.got (ex := .normal) rfl ⟨rfl, rfl, rfl⟩
          · rintro y19 ex E' R' hA
            obtain ⟨rfl, rfl, rfl⟩ := hA
            refine JC.to2 [(1, .x (.int .i64 a1)), (6, .x (.flt x5)), (7, .x (.bool x6)), (9, .x (.flt w15)), (10, .c 1 (.lst 1 (a0.map fD))), (11, .x (.int .i64 ((a0.length : Nat) : Int))), (12, .x (.int .i64 x7)), (27, .x (.bool y19))] [] (by kernel_rfl) (by kernel_rfl) ?_
            refine JC.skipT ?_
            refine JC.cond (e := y19) (by kernel_rfl) (fun h24 => ?_) (fun h24 => ?_)
            · refine JC.region fun b25 => ?_
              refine JS.run 3 (by kernel_rfl) ?_
              refine JS.nil ?_
              refine JC.to2 [(1, .x (.int .i64 a1)), (6, .x (.flt w15)), (7, .x (.bool true)), (10, .c 1 (.lst 1 (a0.map fD))), (11, .x (.int .i64 ((a0.length : Nat) : Int))), (12, .x (.int .i64 x7))] [] (by kernel_rfl) (by kernel_rfl) ?_
              refine JC.skipB ?_
              refine JC.to2 [(1, .x (.int .i64 a1)), (6, .x (.flt w15)), (7, .x (.bool true)), (10, .c 1 (.lst 1 (a0.map fD))), (11, .x (.int .i64 ((a0.length : Nat) : Int))), (12, .x (.int .i64 x7))] [] (by kernel_rfl) (by kernel_rfl) ?_
              exact JC.got (ex := .normal) rfl ⟨rfl, rfl, rfl⟩
            · refine JC.skipB ?_
              refine JC.to2 [(1, .x (.int .i64 a1)), (6, .x (.flt x5)), (7, .x (.bool x6)), (10, .c 1 (.lst 1 (a0.map fD))), (11, .x (.int .i64 ((a0.length : Nat) : Int))), (12, .x (.int .i64 x7))] [] (by kernel_rfl) (by kernel_rfl) ?_
              exact JC.got (ex := .normal) rfl ⟨rfl, rfl, rfl⟩
      · rintro ⟨y12, y13⟩ ex E' R' hA
        obtain ⟨rfl, rfl, rfl⟩ := hA
        refine JC.to2 [(1, .x (.int .i64 a1)), (6, .x (.flt y12)), (7, .x (.bool y13)), (10, .c 1 (.lst 1 (a0.map fD))), (11, .x (.int .i64 ((a0.length : Nat) : Int))), (12, .x (.int .i64 x7))] [] (by kernel_rfl) (by kernel_rfl) ?_
        refine JC.skipT ?_
        refine JC.region fun b26 => ?_
        refine JS.run 2 (by kernel_rfl) ?_
        refine JS.nil ?_
        refine JC.to2 [(1, .x (.int .i64 a1)), (6, .x (.flt y12)), (7, .x (.bool y13)), (10, .c 1 (.lst 1 (a0.map fD))), (11, .x (.int .i64 ((a0.length : Nat) : Int))), (12, .x (.int .i64 (IntKind.i64.wrap (x7 + (1 : Int)))))] [] (by kernel_rfl) (by kernel_rfl) ?_
        refine JC.skipL ?_
        refine JC.to2 [(1, .x (.int .i64 a1)), (6, .x (.flt y12)), (7, .x (.bool y13)), (10, .c 1 (.lst 1 (a0.map fD))), (11, .x (.int .i64 ((a0.length : Nat) : Int))), (12, .x (.int .i64 (IntKind.i64.wrap (x7 + (1 : Int)))))] [] (by kernel_rfl) (by kernel_rfl) ?_
        exact ih y12 y13 (IntKind.i64.wrap (x7 + (1 : Int)))
    · refine JC.exitT ?_
      refine JC.exitL ?_
      refine JC.to2 [(6, .x (.flt x5)), (7, .x (.bool x6))] [] (by kernel_rfl) (by kernel_rfl) ?_
      exact JC.got (ex := (.exit 0)) rfl ⟨rfl, rfl, rfl⟩
def fold_pick (k : Nat) (a0 : (List Fl)) (a1 : Int) : Option (Fl × Bool) :=
  (fold_pick_l0 a0 a1 k (some 0 : Fl) false (0 : Int)).bind fun (y8, y9) => some (y8, y9)
theorem fold_pick_ok (k : Nat) (a0 : (List Fl)) (a1 : Int) : ∀ r, fold_pick k a0 a1 = some r → CallOk prog 23 [.c 1 (.lst 1 (a0.map fD)), .x (.int .i64 a1)] true [.sc (.x (.flt r.1)), .sc (.x (.bool r.2))] := by
  refine CallOk.ofB (pf := pf23) (rs := [.tmp 4, .tmp 5]) (Res := fun (r : (Fl × Bool)) => [.sc (.x (.flt r.1)), .sc (.x (.bool r.2))]) rfl rfl rfl rfl rfl ?_
  unfold fold_pick pf23
  refine JC.seq ?_
  refine JC.region fun b1 => ?_
  refine JS.run 2 (by kernel_rfl) ?_
  refine JS.nil ?_
  refine JC.to2 [(0, .c 1 (.lst 1 (a0.map fD))), (1, .x (.int .i64 a1))] [] (by kernel_rfl) (by kernel_rfl) ?_
  refine JC.skipT ?_
  refine JC.seq ?_
  refine JC.region fun b2 => ?_
  refine JS.run 1 (by kernel_rfl) ?_
  refine JS.nil ?_
  refine JC.to2 [(0, .c 1 (.lst 1 (a0.map fD))), (1, .x (.int .i64 a1)), (6, .x (.flt (some 0 : Fl)))] [] (by kernel_rfl) (by kernel_rfl) ?_
  refine JC.skipT ?_
  refine JC.seq ?_
  refine JC.region fun b3 => ?_
  refine JS.run 1 (by kernel_rfl) ?_
  refine JS.nil ?_
  refine JC.to2 [(0, .c 1 (.lst 1 (a0.map fD))), (1, .x (.int .i64 a1)), (6, .x (.flt (some 0 : Fl))), (7, .x (.bool false))] [] (by kernel_rfl) (by kernel_rfl) ?_
  refine JC.skipT ?_
  refine JC.seq ?_
  refine JC.seq ?_
  refine JC.region fun b4 => ?_
  refine JS.run 1 (by kernel_rfl) ?_
  refine JS.lenC (c := fD) (l := a0) (n := 1) (sz := 1) (by kernel_rfl) (by kernel_rfl) (by kernel_rfl) ?_
  refine JS.run 1 (by kernel_rfl) ?_
  refine JS.nil ?_
  refine JC.to2 [(1, .x (.int .i64 a1)), (6, .x (.flt (some 0 : Fl))), (7, .x (.bool false)), (10, .c 1 (.lst 1 (a0.map fD))), (11, .x (.int .i64 ((a0.length : Nat) : Int))), (12, .x (.int .i64 (0 : Int)))] [] (by kernel_rfl) (by kernel_rfl) ?_
  refine JC.skipT ?_
  refine JC.block ?_
  refine JC.to2 [(1, .x (.int .i64 a1)), (6, .x (.flt (some 0 : Fl))), (7, .x (.bool false)), (10, .c 1 (.lst 1 (a0.map fD))), (11, .x (.int .i64 ((a0.length : Nat) : Int))), (12, .x (.int .i64 (0 : Int)))] [] (by kernel_rfl) (by kernel_rfl) ?_
  refine JC.to2 [(1, .x (.int .i64 a1)), (6, .x (.flt (some 0 : Fl))), (7, .x (.bool false)), (10, .c 1 (.lst 1 (a0.map fD))), (11, .x (.int .i64 ((a0.length : Nat) : Int))), (12, .x (.int .i64 (0 : Int)))] [] (by kernel_rfl) (by kernel_rfl) ?_
  refine JC.bind (A := fun v ex E R => ex = (.exit 0) ∧ E = [(6, .x (.flt v.1)), (7, .x (.bool v.2))] ∧ R = []) (fold_pick_l0_ok a0 a1 k (some 0 : Fl) false (0 : Int)) ?_
  rintro ⟨y8, y9⟩ ex E' R' hA
  obtain ⟨rfl, rfl, rfl⟩ := hA
  refine JC.to2 [(6, .x (.flt y8)), (7, .x (.bool y9))] [] (by kernel_rfl) (by kernel_rfl) ?_
  refine JC.exitB ?_
  refine JC.skipT ?_
  refine JC.seq ?_
  refine JC.region fun b27 => ?_
  refine JS.run 4 (by kernel_rfl) ?_
  refine JS.nil ?_
  refine JC.to2 [(4, .x (.flt y8)), (5, .x (.bool y9))] [] (by kernel_rfl) (by kernel_rfl) ?_
  refine JC.skipT ?_
  exact JC.finB (ex := .ret) (vs := [.x (.flt y8), .x (.bool y9)]) (is := []) rfl ret_ne ⟨(by kernel_rfl), ⟨(by kernel_rfl), trivial⟩⟩ (Outs.sc rfl (Outs.sc rfl Outs.nil))
/-! eyot/fold.Least -/
def fold_Least (k : Nat) (a0 : (List Fl)) : Option (Fl × Bool) :=
  (fold_pick k a0 (-1 : Int)).bind fun r3 => some (r3.1, r3.2)
theorem fold_Least_ok (k : Nat) (a0 : (List Fl)) : ∀ r, fold_Least k a0 = some r → CallOk prog 7 [.c 1 (.lst 1 (a0.map fD))] true [.sc (.x (.flt r.1)), .sc (.x (.bool r.2))] := by
  refine CallOk.ofB (pf := pf7) (rs := [.tmp 2, .tmp 3]) (Res := fun (r : (Fl × Bool)) => [.sc (.x (.flt r.1)), .sc (.x (.bool r.2))]) rfl rfl rfl rfl rfl ?_
  unfold fold_Least pf7
  refine JC.seq ?_
  refine JC.region fun b1 => ?_
  refine JS.run 2 (by kernel_rfl) ?_
  refine JS.nil ?_
  refine JC.to2 [(0, .c 1 (.lst 1 (a0.map fD)))] [] (by kernel_rfl) (by kernel_rfl) ?_
  refine JC.skipT ?_
  refine JC.seq ?_
  refine JC.region fun b2 => ?_
  refine JS.run 1 (by kernel_rfl) ?_
  refine JS.bind fun r3 h4 => ?_
  refine JS.callS [] (fold_pick_ok k a0 (-1 : Int) r3 h4) ⟨rfl, argC (n := 1) (by kernel_rfl) (by kernel_rfl) (by kernel_rfl), rfl, argX (d := (.int .i64 (-1 : Int))) (by kernel_rfl) (by kernel_rfl), trivial⟩ (by kernel_rfl) (by kernel_rfl) (by kernel_rfl) ?_
  refine JS.run 4 (by kernel_rfl) ?_
  refine JS.nil ?_
  refine JC.to2 [(2, .x (.flt r3.1)), (3, .x (.bool r3.2))] [] (by kernel_rfl) (by kernel_rfl) ?_
  refine JC.skipT ?_
  exact JC.finB (ex := .ret) (vs := [.x (.flt r3.1), .x (.bool r3.2)]) (is := []) rfl ret_ne ⟨(by kernel_rfl), ⟨(by kernel_rfl), trivial⟩⟩ (Outs.sc rfl (Outs.sc rfl Outs.nil))
/-! eyot/fold.Most -/
def fold_Most (k : Nat) (a0 : (List Fl)) : Option (Fl × Bool) :=
  (fold_pick k a0 (1 : Int)).bind fun r3 => some (r3.1, r3.2)
theorem fold_Most_ok (k : Nat) (a0 : (List Fl)) : ∀ r, fold_Most k a0 = some r → CallOk prog 8 [.c 1 (.lst 1 (a0.map fD))] true [.sc (.x (.flt r.1)), .sc (.x (.bool r.2))] := by
  refine CallOk.ofB (pf := pf8) (rs := [.tmp 2, .tmp 3]) (Res := fun (r : (Fl × Bool)) => [.sc (.x (.flt r.1)), .sc (.x (.bool r.2))]) rfl rfl rfl rfl rfl ?_
  unfold fold_Most pf8
  refine JC.seq ?_
  refine JC.region fun b1 => ?_
  refine JS.run 2 (by kernel_rfl) ?_
  refine JS.nil ?_
  refine JC.to2 [(0, .c 1 (.lst 1 (a0.map fD)))] [] (by kernel_rfl) (by kernel_rfl) ?_
  refine JC.skipT ?_
  refine JC.seq ?_
  refine JC.region fun b2 => ?_
  refine JS.run 1 (by kernel_rfl) ?_
  refine JS.bind fun r3 h4 => ?_
  refine JS.callS [] (fold_pick_ok k a0 (1 : Int) r3 h4) ⟨rfl, argC (n := 1) (by kernel_rfl) (by kernel_rfl) (by kernel_rfl), rfl, argX (d := (.int .i64 (1 : Int))) (by kernel_rfl) (by kernel_rfl), trivial⟩ (by kernel_rfl) (by kernel_rfl) (by kernel_rfl) ?_
  refine JS.run 4 (by kernel_rfl) ?_
  refine JS.nil ?_
  refine JC.to2 [(2, .x (.flt r3.1)), (3, .x (.bool r3.2))] [] (by kernel_rfl) (by kernel_rfl) ?_
  refine JC.skipT ?_
  exact JC.finB (ex := .ret) (vs := [.x (.flt r3.1), .x (.bool r3.2)]) (is := []) rfl ret_ne ⟨(by kernel_rfl), ⟨(by kernel_rfl), trivial⟩⟩ (Outs.sc rfl (Outs.sc rfl Outs.nil))
/-! eyot/fold.Sort -/
def fold_Sort (k : Nat) (a0 : (List Fl)) : Option (List Fl) :=
  (slices_Clone k a0).bind fun r3 => (slices_SortStableFunc k r3).bind fun r7 => some r7
theorem fold_Sort_ok (k : Nat) (a0 : (List Fl)) : ∀ r, fold_Sort k a0 = some r → CallOk prog 17 [.c 1 (.lst 1 (a0.map fD))] false [.own 1 (vl fD r)] := by
  refine CallOk.ofB (pf := pf17) (rs := [.tmp 2]) (Res := fun (r : (List Fl)) => [.own 1 (vl fD r)]) rfl rfl rfl rfl rfl ?_
  unfold fold_Sort pf17
  refine JC.seq ?_
  refine JC.region fun b1 => ?_
  refine JS.run 1 (by kernel_rfl) ?_
  refine JS.nil ?_
  refine JC.to2 [(0, .c 1 (.lst 1 (a0.map fD)))] [] (by kernel_rfl) (by kernel_rfl) ?_
  refine JC.skipT ?_
  refine JC.seq ?_
  refine JC.region fun b2 => ?_
  refine JS.run 1 (by kernel_rfl) ?_
  refine JS.bind fun r3 h4 => ?_
  refine JS.callK1 [] (slices_Clone_ok k a0 r3 h4) ⟨rfl, argC (n := 1) (by kernel_rfl) (by kernel_rfl) (by kernel_rfl), trivial⟩ ⟨vl_sc (fun _ => rfl), trivial⟩ (by kernel_rfl) (by kernel_rfl) (by kernel_rfl) (by kernel_rfl) (fun o5 => ?_)
  refine JS.relen (o := o5) (off := 0) (n := (vl fD r3).length) (n' := r3.length) 5 (by kernel_rfl) (vl_len _ _) ?_
  refine JS.run 1 (by kernel_rfl) ?_
  refine JS.nil ?_
  refine JC.to2 [(3, .ref o5 0 r3.length)] [⟨o5, 1, vl fD r3⟩] (by kernel_rfl) (by kernel_rfl) ?_
  refine JC.skipT ?_
  refine JC.seq ?_
  refine JC.region fun b6 => ?_
  refine JS.run 1 (by kernel_rfl) ?_
  refine JS.bind fun r7 h8 => ?_
  refine JS.callI (args := [.x (.fn 26)]) (l := r3) (o := o5) [] (slices_SortStableFunc_ok k r3 r7 h8) (by kernel_rfl) (by kernel_rfl) (by kernel_rfl) (by kernel_rfl) (fun h9 => ?_)
  refine JS.relen (o := o5) (off := 0) (n := r3.length) (n' := r7.length) 3 (by kernel_rfl) h9.symm ?_
  refine JS.relen (o := o5) (off := 0) (n := r3.length) (n' := r7.length) 6 (by kernel_rfl) h9.symm ?_
  refine JS.nil ?_
  refine JC.to2 [(3, .ref o5 0 r7.length)] [⟨o5, 1, vl fD r7⟩] (by kernel_rfl) (by kernel_rfl) ?_
  refine JC.skipT ?_
  refine JC.seq ?_
  refine JC.region fun b10 => ?_
  refine JS.run 2 (by kernel_rfl) ?_
  refine JS.nil ?_
  refine JC.to2 [(2, .ref o5 0 r7.length)] [⟨o5, 1, vl fD r7⟩] (by kernel_rfl) (by kernel_rfl) ?_
  refine JC.skipT ?_
  refine JC.relen (o := o5) (off := 0) (n := r7.length) (n' := (vl fD r7).length) 2 (by kernel_rfl) (vl_len _ _).symm ?_
  exact JC.finB (ex := .ret) (vs := [.ref o5 0 (vl fD r7).length]) (is := [0]) rfl ret_ne ⟨(by kernel_rfl), trivial⟩ (Outs.own (i := 0) (by kernel_rfl) (vl_out fun _ => rfl) rfl Outs.nil)
/-! eyot/eyotlaw2.begun -/
def eyotlaw2_begun (k : Nat)  : Option Bool :=
  (fold_Least k ([(some 4611686018427387904 : Fl), (some 4607182418800017408 : Fl)] : List Fl)).bind fun r4 => (fold_Most k ([(some 4611686018427387904 : Fl), (some 4607182418800017408 : Fl)] : List Fl)).bind fun r8 => ((fold_Sum k ([(some 4607182418800017408 : Fl), (some 4611686018427387904 : Fl)] : List Fl)).bind fun r13 => cond (fOrd r13 (some 4613937818241073152 : Fl) == some .eq) ((fold_Times k (some 4611686018427387904 : Fl) (3 : Int)).bind fun r16 => cond (fOrd r16 (some 4618441417868443648 : Fl) == some .eq) (cond r4.2 (cond (fOrd r4.1 (some 4607182418800017408 : Fl) == some .eq) (cond r8.2 (cond (fOrd r8.1 (some 4611686018427387904 : Fl) == some .eq) ((fold_Sort k ([(some 4607182418800017408 : Fl)] : List Fl)).bind fun r24 => some (((r24.length : Nat) : Int) == (1 : Int))) (some false)) (some false)) (some false)) (some false)) (some false)) (some false)).bind fun y10 => some y10
theorem eyotlaw2_begun_ok (k : Nat)  : ∀ r, eyotlaw2_begun k = some r → CallOk prog 6 [] false [.sc (.x (.bool r))] := by
  refine CallOk.ofB (pf := pf6) (rs := [.tmp 0]) (Res := fun (r : Bool) => [.sc (.x (.bool r))]) rfl rfl rfl rfl rfl ?_
  unfold eyotlaw2_begun pf6
  refine JC.seq ?_
  refine JC.region fun b1 => ?_
  refine JS.run 1 (by kernel_rfl) ?_
  refine JS.nil ?_
  refine JC.to2 [] [] (by kernel_rfl) (by kernel_rfl) ?_
  refine JC.skipT ?_
  refine JC.seq ?_
  refine JC.region fun b2 => ?_
  refine JS.buildSlice (c := fD) ([(some 4611686018427387904 : Fl), (some 4607182418800017408 : Fl)] : List Fl) (by kernel_rfl) (by kernel_rfl) (by kernel_rfl) (by kernel_rfl) (by kernel_rfl) (fun id3 => ?_)
  refine JS.bind fun r4 h5 => ?_
  refine JS.callS [0] (fold_Least_ok k ([(some 4611686018427387904 : Fl), (some 4607182418800017408 : Fl)] : List Fl) r4 h5) ⟨rfl, argT (c := fD) (l := ([(some 4611686018427387904 : Fl), (some 4607182418800017408 : Fl)] : List Fl)) (o := (some id3)) 0 (by kernel_rfl) (by kernel_rfl) (by kernel_rfl) (fun _ => rfl), trivial⟩ (by kernel_rfl) (by kernel_rfl) (by kernel_rfl) ?_
  refine JS.run 5 (by kernel_rfl) ?_
  refine JS.nil ?_
  refine JC.drop 0 ?_
  refine JC.to2 [(1, .x (.flt r4.1)), (2, .x (.bool r4.2))] [] (by kernel_rfl) (by kernel_rfl) ?_
  refine JC.skipT ?_
  refine JC.seq ?_
  refine JC.region fun b6 => ?_
  refine JS.buildSlice (c := fD) ([(some 4611686018427387904 : Fl), (some 4607182418800017408 : Fl)] : List Fl) (by kernel_rfl) (by kernel_rfl) (by kernel_rfl) (by kernel_rfl) (by kernel_rfl) (fun id7 => ?_)
  refine JS.bind fun r8 h9 => ?_
  refine JS.callS [0] (fold_Most_ok k ([(some 4611686018427387904 : Fl), (some 4607182418800017408 : Fl)] : List Fl) r8 h9) ⟨rfl, argT (c := fD) (l := ([(some 4611686018427387904 : Fl), (some 4607182418800017408 : Fl)] : List Fl)) (o := (some id7)) 0 (by kernel_rfl) (by kernel_rfl) (by kernel_rfl) (fun _ => rfl), trivial⟩ (by kernel_rfl) (by kernel_rfl) (by kernel_rfl) ?_
  refine JS.run 5 (by kernel_rfl) ?_
  refine JS.nil ?_
  refine JC.drop 0 ?_
  refine JC.to2 [(1, .x (.flt r4.1)), (2, .x (.bool r4.2)), (3, .x (.flt r8.1)), (4, .x (.bool r8.2))] [] (by kernel_rfl) (by kernel_rfl) ?_
  refine JC.skipT ?_
  refine JC.seq ?_
  refine JC.bind (A := fun v ex E R => ex = .normal ∧ E = [(0, .x (.bool v))] ∧ R = []) ?_ ?_
  · refine JC.region fun b11 => ?_
    refine JS.buildSlice (c := fD) ([(some 4607182418800017408 : Fl), (some 4611686018427387904 : Fl)] : List Fl) (by kernel_rfl) (by kernel_rfl) (by kernel_rfl) (by kernel_rfl) (by kernel_rfl) (fun id12 => ?_)
    refine JS.bind fun r13 h14 => ?_
    refine JS.callS [0] (fold_Sum_ok k ([(some 4607182418800017408 : Fl), (some 4611686018427387904 : Fl)] : List Fl) r13 h14) ⟨rfl, argT (c := fD) (l := ([(some 4607182418800017408 : Fl), (some 4611686018427387904 : Fl)] : List Fl)) (o := (some id12)) 0 (by kernel_rfl) (by kernel_rfl) (by kernel_rfl) (fun _ => rfl), trivial⟩ (by kernel_rfl) (by kernel_rfl) (by kernel_rfl) ?_
    refine JS.run 2 (by kernel_rfl) ?_
    refine JS.split (e := (fOrd r13 (some 4613937818241073152 : Fl) == some .eq)) 18 (by kernel_rfl) (fun h15 => ?_) (fun h15 => ?_)
    · refine JS.bind fun r16 h17 => ?_
      refine JS.callS [] (fold_Times_ok k (some 4611686018427387904 : Fl) (3 : Int) r16 h17) ⟨rfl, argX (d := (.flt (some 4611686018427387904 : Fl))) (by kernel_rfl) (by kernel_rfl), rfl, argX (d := (.int .i64 (3 : Int))) (by kernel_rfl) (by kernel_rfl), trivial⟩ (by kernel_rfl) (by kernel_rfl) (by kernel_rfl) ?_
      refine JS.run 3 (by kernel_rfl) ?_
      refine JS.split (e := (fOrd r16 (some 4618441417868443648 : Fl) == some .eq)) 22 (by kernel_rfl) (fun h18 => ?_) (fun h18 => ?_)
      · refine JS.run 3 (by kernel_rfl) ?_
        refine JS.split (e := r4.2) 25 (by kernel_rfl) (fun h19 => ?_) (fun h19 => ?_)
        · refine JS.run 4 (by kernel_rfl) ?_
          refine JS.split (e := (fOrd r4.1 (some 4607182418800017408 : Fl) == some .eq)) 29 (by kernel_rfl) (fun h20 => ?_) (fun h20 => ?_)
          · refine JS.run 3 (by kernel_rfl) ?_
            refine JS.split (e := r8.2) 32 (by kernel_rfl) (fun h21 => ?_) (fun h21 => ?_)
            · refine JS.run 4 (by kernel_rfl) ?_
              refine JS.split (e := (fOrd r8.1 (some 4611686018427387904 : Fl) == some .eq)) 36 (by kernel_rfl) (fun h22 => ?_) (fun h22 => ?_)
              · refine JS.buildSlice (c := fD) ([(some 4607182418800017408 : Fl)] : List Fl) (by kernel_rfl) (by kernel_rfl) (by kernel_rfl) (by kernel_rfl) (by kernel_rfl) (fun id23 => ?_)
                refine JS.bind fun r24 h25 => ?_
                refine JS.callK1 [1] (fold_Sort_ok k ([(some 4607182418800017408 : Fl)] : List Fl) r24 h25) ⟨rfl, argT (c := fD) (l := ([(some 4607182418800017408 : Fl)] : List Fl)) (o := (some id23)) 1 (by kernel_rfl) (by kernel_rfl) (by kernel_rfl) (fun _ => rfl), trivial⟩ ⟨vl_sc (fun _ => rfl), trivial⟩ (by kernel_rfl) (by kernel_rfl) (by kernel_rfl) (by kernel_rfl) (fun o26 => ?_)
                refine JS.relen (o := o26) (off := 0) (n := (vl fD r24).length) (n' := r24.length) 38 (by kernel_rfl) (vl_len _ _) ?_
                refine JS.run 4 (by kernel_rfl) ?_
                refine JS.nil ?_
                refine JC.drop 2 ?_
                refine JC.drop 1 ?_
                refine JC.drop 0 ?_
                refine JC.to2 [(0, .x (.bool (((r24.length : Nat) : Int) == (1 : Int))))] [] (by kernel_rfl) (by kernel_rfl) ?_
                refine JC.to2 [(0, .x (.bool (((r24.length : Nat) : Int) == (1 : Int))))] [] (by kernel_rfl) (by kernel_rfl) ?_
                exact JC.got (ex := .normal) rfl ⟨rfl, rfl, rfl⟩
              · refine JS.run 6 (by kernel_rfl) ?_
                refine JS.nil ?_
                refine JC.drop 0 ?_
                refine JC.to2 [(0, .x (.bool false))] [] (by kernel_rfl) (by kernel_rfl) ?_
                refine JC.to2 [(0, .x (.bool false))] [] (by kernel_rfl) (by kernel_rfl) ?_
                exact JC.got (ex := .normal) rfl ⟨rfl, rfl, rfl⟩
            · refine JS.run 10 (by kernel_rfl) ?_
              refine JS.nil ?_
              refine JC.drop 0 ?_
              refine JC.to2 [(0, .x (.bool false))] [] (by kernel_rfl) (by kernel_rfl) ?_
              refine JC.to2 [(0, .x (.bool false))] [] (by kernel_rfl) (by kernel_rfl) ?_
              exact JC.got (ex := .normal) rfl ⟨rfl, rfl, rfl⟩
          · refine JS.run 13 (by kernel_rfl) ?_
            refine JS.nil ?_
            refine JC.drop 0 ?_
            refine JC.to2 [(0, .x (.bool false))] [] (by kernel_rfl) (by kernel_rfl) ?_
            refine JC.to2 [(0, .x (.bool false))] [] (by kernel_rfl) (by kernel_rfl) ?_
            exact JC.got (ex := .normal) rfl ⟨rfl, rfl, rfl⟩
        · refine JS.run 17 (by kernel_rfl) ?_
          refine JS.nil ?_
          refine JC.drop 0 ?_
          refine JC.to2 [(0, .x (.bool false))] [] (by kernel_rfl) (by kernel_rfl) ?_
          refine JC.to2 [(0, .x (.bool false))] [] (by kernel_rfl) (by kernel_rfl) ?_
          exact JC.got (ex := .normal) rfl ⟨rfl, rfl, rfl⟩
      · refine JS.run 20 (by kernel_rfl) ?_
        refine JS.nil ?_
        refine JC.drop 0 ?_
        refine JC.to2 [(0, .x (.bool false))] [] (by kernel_rfl) (by kernel_rfl) ?_
        refine JC.to2 [(0, .x (.bool false))] [] (by kernel_rfl) (by kernel_rfl) ?_
        exact JC.got (ex := .normal) rfl ⟨rfl, rfl, rfl⟩
    · refine JS.run 24 (by kernel_rfl) ?_
      refine JS.nil ?_
      refine JC.drop 0 ?_
      refine JC.to2 [(0, .x (.bool false))] [] (by kernel_rfl) (by kernel_rfl) ?_
      refine JC.to2 [(0, .x (.bool false))] [] (by kernel_rfl) (by kernel_rfl) ?_
      exact JC.got (ex := .normal) rfl ⟨rfl, rfl, rfl⟩
  · rintro y10 ex E' R' hA
    obtain ⟨rfl, rfl, rfl⟩ := hA
    refine JC.to2 [(0, .x (.bool y10))] [] (by kernel_rfl) (by kernel_rfl) ?_
    refine JC.skipT ?_
    exact JC.finB (ex := .ret) (vs := [.x (.bool y10)]) (is := []) rfl ret_ne ⟨(by kernel_rfl), trivial⟩ (Outs.sc rfl Outs.nil)
/-! eyot/eyotlaw2.FoldParts -/
def eyotlaw2_FoldParts (k : Nat) (a0 : (List Fl)) (a1 : Fl) : Option Bool :=
  (eyotlaw2_begun k).bind fun r3 => cond (!r3) (some false) (cond (decide (((a0.length : Nat) : Int) > (20 : Int))) (some true) (room ((([] : List Fl).length) + a0.length) 8 (room (((([] : List Fl) ++ a0).length) + ([a1] : List Fl).length) 8 (room ((([] : List Fl).length) + a0.length) 8 (room (((([] : List Fl) ++ a0).length) + a0.length) 8 ((fold_Least k a0).bind fun r20 => (fold_Least k ((([] : List Fl) ++ a0) ++ a0)).bind fun r23 => (fold_Most k a0).bind fun r26 => (fold_Most k ((([] : List Fl) ++ a0) ++ a0)).bind fun r29 => ((fold_Sum k ((([] : List Fl) ++ a0) ++ ([a1] : List Fl))).bind fun r33 => (fold_Sum k a0).bind fun r35 => (eyotref1_Same k r33 (fAdd r35 a1)).bind fun r37 => cond r37 (cond (r20.2 == r23.2) ((eyotref1_Same k r20.1 r23.1).bind fun r41 => cond r41 (cond (r26.2 == r29.2) ((eyotref1_Same k r26.1 r29.1).bind fun r45 => cond r45 (some (r20.2 == r26.2)) (some false)) (some false)) (some false)) (some false)) (some false)).bind fun y31 => some y31))))))
theorem eyotlaw2_FoldParts_ok (k : Nat) (a0 : (List Fl)) (a1 : Fl) : ∀ r, eyotlaw2_FoldParts k a0 a1 = some r → CallOk prog 4 [.c 1 (.lst 1 (a0.map fD)), .x (.flt a1)] false [.sc (.x (.bool r))] := by
  refine CallOk.ofB (pf := pf4) (rs := [.tmp 4]) (Res := fun (r : Bool) => [.sc (.x (.bool r))]) rfl rfl rfl rfl rfl ?_
  unfold eyotlaw2_FoldParts pf4
  refine JC.seq ?_
  refine JC.region fun b1 => ?_
  refine JS.run 1 (by kernel_rfl) ?_
  refine JS.nil ?_
  refine JC.to2 [(0, .c 1 (.lst 1 (a0.map fD))), (1, .x (.flt a1))] [] (by kernel_rfl) (by kernel_rfl) ?_
  refine JC.skipT ?_
  refine JC.seq ?_
  refine JC.seq ?_
  refine JC.region fun b2 => ?_
  refine JS.bind fun r3 h4 => ?_
  refine JS.callS [] (eyotlaw2_begun_ok k r3 h4) trivial (by kernel_rfl) (by kernel_rfl) (by kernel_rfl) ?_
  refine JS.run 1 (by kernel_rfl) ?_
  refine JS.nil ?_
  refine JC.to2 [(0, .c 1 (.lst 1 (a0.map fD))), (1, .x (.flt a1)), (16, .x (.bool (!r3)))] [] (by kernel_rfl) (by kernel_rfl) ?_
  refine JC.skipT ?_
  refine JC.cond (e := (!r3)) (by kernel_rfl) (fun h5 => ?_) (fun h5 => ?_)
  · refine JC.seq ?_
    refine JC.region fun b6 => ?_
    refine JS.run 1 (by kernel_rfl) ?_
    refine JS.nil ?_
    refine JC.to2 [(4, .x (.bool false))] [] (by kernel_rfl) (by kernel_rfl) ?_
    refine JC.skipT ?_
    refine JC.retT ?_
    exact JC.finB (ex := .ret) (vs := [.x (.bool false)]) (is := []) rfl ret_ne ⟨(by kernel_rfl), trivial⟩ (Outs.sc rfl Outs.nil)
  · refine JC.skipT ?_
    refine JC.seq ?_
    refine JC.seq ?_
    refine JC.region fun b7 => ?_
    refine JS.run 1 (by kernel_rfl) ?_
    refine JS.lenC (c := fD) (l := a0) (n := 1) (sz := 1) (by kernel_rfl) (by kernel_rfl) (by kernel_rfl) ?_
    refine JS.run 1 (by kernel_rfl) ?_
    refine JS.nil ?_
    refine JC.to2 [(0, .c 1 (.lst 1 (a0.map fD))), (1, .x (.flt a1)), (19, .x (.bool (decide (((a0.length : Nat) : Int) > (20 : Int)))))] [] (by kernel_rfl) (by kernel_rfl) ?_
    refine JC.skipT ?_
    refine JC.cond (e := (decide (((a0.length : Nat) : Int) > (20 : Int)))) (by kernel_rfl) (fun h8 => ?_) (fun h8 => ?_)
    · refine JC.seq ?_
      refine JC.region fun b9 => ?_
      refine JS.run 1 (by kernel_rfl) ?_
      refine JS.nil ?_
      refine JC.to2 [(4, .x (.bool true))] [] (by kernel_rfl) (by kernel_rfl) ?_
      refine JC.skipT ?_
      refine JC.retT ?_
      exact JC.finB (ex := .ret) (vs := [.x (.bool true)]) (is := []) rfl ret_ne ⟨(by kernel_rfl), trivial⟩ (Outs.sc rfl Outs.nil)
    · refine JC.skipT ?_
      refine JC.seq ?_
      refine JC.region fun b10 => ?_
      refine JS.buildSlice (c := fD) ([] : List Fl) (by kernel_rfl) (by kernel_rfl) (by kernel_rfl) (by kernel_rfl) (by kernel_rfl) (fun id11 => ?_)
      refine JS.run 1 (by kernel_rfl) ?_
      refine JS.appT (c := fD) (l := ([] : List Fl)) (k := a0) (o := (some id11)) 0 (by kernel_rfl) (by kernel_rfl) (srcC (c := fD) (l := a0) (n := 1) (by kernel_rfl) (fun _ => rfl) (fun _ _ => rfl)) (by kernel_rfl) (by kernel_rfl) (by kernel_rfl) (fun o12 => ?_)
      refine JS.run 1 (by kernel_rfl) ?_
      refine JS.buildSlice (c := fD) ([a1] : List Fl) (by kernel_rfl) (by kernel_rfl) (by kernel_rfl) (by kernel_rfl) (by kernel_rfl) (fun id13 => ?_)
      refine JS.appT (c := fD) (l := (([] : List Fl) ++ a0)) (k := ([a1] : List Fl)) (o := o12) 0 (by kernel_rfl) (by kernel_rfl) (srcT (c := fD) (l := ([a1] : List Fl)) (o := (some id13)) 1 (by kernel_rfl) (by kernel_rfl)) (by kernel_rfl) (by kernel_rfl) (by kernel_rfl) (fun o14 => ?_)
      refine JS.run 1 (by kernel_rfl) ?_
      refine JS.nil ?_
      refine JC.drop 1 ?_
      refine JC.to2 [(0, .c 1 (.lst 1 (a0.map fD))), (1, .x (.flt a1)), (5, .ref o14 0 (((([] : List Fl) ++ a0) ++ ([a1] : List Fl)).length))] [⟨o14, 1, vl fD ((([] : List Fl) ++ a0) ++ ([a1] : List Fl))⟩] (by kernel_rfl) (by kernel_rfl) ?_
      refine JC.skipT ?_
      refine JC.seq ?_
      refine JC.region fun b15 => ?_
      refine JS.buildSlice (c := fD) ([] : List Fl) (by kernel_rfl) (by kernel_rfl) (by kernel_rfl) (by kernel_rfl) (by kernel_rfl) (fun id16 => ?_)
      refine JS.run 1 (by kernel_rfl) ?_
      refine JS.appT (c := fD) (l := ([] : List Fl)) (k := a0) (o := (some id16)) 1 (by kernel_rfl) (by kernel_rfl) (srcC (c := fD) (l := a0) (n := 1) (by kernel_rfl) (fun _ => rfl) (fun _ _ => rfl)) (by kernel_rfl) (by kernel_rfl) (by kernel_rfl) (fun o17 => ?_)
      refine JS.run 1 (by kernel_rfl) ?_
      refine JS.appT (c := fD) (l := (([] : List Fl) ++ a0)) (k := a0) (o := o17) 1 (by kernel_rfl) (by kernel_rfl) (srcC (c := fD) (l := a0) (n := 1) (by kernel_rfl) (fun _ => rfl) (fun _ _ => rfl)) (by kernel_rfl) (by kernel_rfl) (by kernel_rfl) (fun o18 => ?_)
      refine JS.run 1 (by kernel_rfl) ?_
      refine JS.nil ?_
      refine JC.to2 [(0, .c 1 (.lst 1 (a0.map fD))), (1, .x (.flt a1)), (5, .ref o14 0 (((([] : List Fl) ++ a0) ++ ([a1] : List Fl)).length)), (6, .ref o18 0 (((([] : List Fl) ++ a0) ++ a0).length))] [⟨o14, 1, vl fD ((([] : List Fl) ++ a0) ++ ([a1] : List Fl))⟩, ⟨o18, 1, vl fD ((([] : List Fl) ++ a0) ++ a0)⟩] (by kernel_rfl) (by kernel_rfl) ?_
      refine JC.skipT ?_
      refine JC.seq ?_
      refine JC.region fun b19 => ?_
      refine JS.run 1 (by kernel_rfl) ?_
      refine JS.bind fun r20 h21 => ?_
      refine JS.callS [] (fold_Least_ok k a0 r20 h21) ⟨rfl, argC (n := 1) (by kernel_rfl) (by kernel_rfl) (by kernel_rfl), trivial⟩ (by kernel_rfl) (by kernel_rfl) (by kernel_rfl) ?_
      refine JS.run 5 (by kernel_rfl) ?_
      refine JS.nil ?_
      refine JC.to2 [(0, .c 1 (.lst 1 (a0.map fD))), (1, .x (.flt a1)), (5, .ref o14 0 (((([] : List Fl) ++ a0) ++ ([a1] : List Fl)).length)), (6, .ref o18 0 (((([] : List Fl) ++ a0) ++ a0).length)), (7, .x (.flt r20.1)), (8, .x (.bool r20.2))] [⟨o14, 1, vl fD ((([] : List Fl) ++ a0) ++ ([a1] : List Fl))⟩, ⟨o18, 1, vl fD ((([] : List Fl) ++ a0) ++ a0)⟩] (by kernel_rfl) (by kernel_rfl) ?_
      refine JC.skipT ?_
      refine JC.seq ?_
      refine JC.region fun b22 => ?_
      refine JS.run 1 (by kernel_rfl) ?_
      refine JS.bind fun r23 h24 => ?_
      refine JS.callS [1] (fold_Least_ok k ((([] : List Fl) ++ a0) ++ a0) r23 h24) ⟨rfl, argT (c := fD) (l := ((([] : List Fl) ++ a0) ++ a0)) (o := o18) 1 (by kernel_rfl) (by kernel_rfl) (by kernel_rfl) (fun _ => rfl), trivial⟩ (by kernel_rfl) (by kernel_rfl) (by kernel_rfl) ?_
      refine JS.run 5 (by kernel_rfl) ?_
      refine JS.nil ?_
      refine JC.to2 [(0, .c 1 (.lst 1 (a0.map fD))), (1, .x (.flt a1)), (5, .ref o14 0 (((([] : List Fl) ++ a0) ++ ([a1] : List Fl)).length)), (6, .ref o18 0 (((([] : List Fl) ++ a0) ++ a0).length)), (7, .x (.flt r20.1)), (8, .x (.bool r20.2)), (9, .x (.flt r23.1)), (10, .x (.bool r23.2))] [⟨o14, 1, vl fD ((([] : List Fl) ++ a0) ++ ([a1] : List Fl))⟩, ⟨o18, 1, vl fD ((([] : List Fl) ++ a0) ++ a0)⟩] (by kernel_rfl) (by kernel_rfl) ?_
      refine JC.skipT ?_
      refine JC.seq ?_
      refine JC.region fun b25 => ?_
      refine JS.run 1 (by kernel_rfl) ?_
      refine JS.bind fun r26 h27 => ?_
      refine JS.callS [] (fold_Most_ok k a0 r26 h27) ⟨rfl, argC (n := 1) (by kernel_rfl) (by kernel_rfl) (by kernel_rfl), trivial⟩ (by kernel_rfl) (by kernel_rfl) (by kernel_rfl) ?_
      refine JS.run 5 (by kernel_rfl) ?_
      refine JS.nil ?_
      refine JC.to2 [(0, .c 1 (.lst 1 (a0.map fD))), (1, .x (.flt a1)), (5, .ref o14 0 (((([] : List Fl) ++ a0) ++ ([a1] : List Fl)).length)), (6, .ref o18 0 (((([] : List Fl) ++ a0) ++ a0).length)), (7, .x (.flt r20.1)), (8, .x (.bool r20.2)), (9, .x (.flt r23.1)), (10, .x (.bool r23.2)), (11, .x (.flt r26.1)), (12, .x (.bool r26.2))] [⟨o14, 1, vl fD ((([] : List Fl) ++ a0) ++ ([a1] : List Fl))⟩, ⟨o18, 1, vl fD ((([] : List Fl) ++ a0) ++ a0)⟩] (by kernel_rfl) (by kernel_rfl) ?_
      refine JC.skipT ?_
      refine JC.seq ?_
      refine JC.region fun b28 => ?_
      refine JS.run 1 (by kernel_rfl) ?_
      refine JS.bind fun r29 h30 => ?_
      refine JS.callS [1] (fold_Most_ok k ((([] : List Fl) ++ a0) ++ a0) r29 h30) ⟨rfl, argT (c := fD) (l := ((([] : List Fl) ++ a0) ++ a0)) (o := o18) 1 (by kernel_rfl) (by kernel_rfl) (by kernel_rfl) (fun _ => rfl), trivial⟩ (by kernel_rfl) (by kernel_rfl) (by kernel_rfl) ?_
      refine JS.run 5 (by kernel_rfl) ?_
      refine JS.nil ?_
      refine JC.drop 1 ?_
      refine JC.to2 [(0, .c 1 (.lst 1 (a0.map fD))), (1, .x (.flt a1)), (5, .ref o14 0 (((([] : List Fl) ++ a0) ++ ([a1] : List Fl)).length)), (7, .x (.flt r20.1)), (8, .x (.bool r20.2)), (9, .x (.flt r23.1)), (10, .x (.bool r23.2)), (11, .x (.flt r26.1)), (12, .x (.bool r26.2)), (13, .x (.flt r29.1)), (14, .x (.bool r29.2))] [⟨o14, 1, vl fD ((([] : List Fl) ++ a0) ++ ([a1] : List Fl))⟩] (by kernel_rfl) (by kernel_rfl) ?_
      refine JC.skipT ?_
      refine JC.seq ?_
      refine JC.bind (A := fun v ex E R => ex = .normal ∧ E = [(4, .x (.bool v))] ∧ R = []) ?_ ?_
      · refine JC.region fun b32 => ?_
        refine JS.run 1 (by kernel_rfl) ?_
        refine JS.bind fun r33 h34 => ?_
        refine JS.callS [0] (fold_Sum_ok k ((([] : List Fl) ++ a0) ++ ([a1] : List Fl)) r33 h34) ⟨rfl, argT (c := fD) (l := ((([] : List Fl) ++ a0) ++ ([a1] : List Fl))) (o := o14) 0 (by kernel_rfl) (by kernel_rfl) (by kernel_rfl) (fun _ => rfl), trivial⟩ (by kernel_rfl) (by kernel_rfl) (by kernel_rfl) ?_
        refine JS.run 1 (by kernel_rfl) ?_
        refine JS.bind fun r35 h36 => ?_
        refine JS.callS [] (fold_Sum_ok k a0 r35 h36) ⟨rfl, argC (n := 1) (by kernel_rfl) (by kernel_rfl) (by kernel_rfl), trivial⟩ (by kernel_rfl) (by kernel_rfl) (by kernel_rfl) ?_
        refine JS.run 2 (by kernel_rfl) ?_
        refine JS.bind fun r37 h38 => ?_
        refine JS.callS [] (eyotref1_Same_ok k r33 (fAdd r35 a1) r37 h38) ⟨rfl, argX (d := (.flt r33)) (by kernel_rfl) (by kernel_rfl), rfl, argX (d := (.flt (fAdd r35 a1))) (by kernel_rfl) (by kernel_rfl), trivial⟩ (by kernel_rfl) (by kernel_rfl) (by kernel_rfl) ?_
        refine JS.run 1 (by kernel_rfl) ?_
        refine JS.split (e := r37) 58 (by kernel_rfl) (fun h39 => ?_) (fun h39 => ?_)
        · refine JS.run 5 (by kernel_rfl) ?_
          refine JS.split (e := (r20.2 == r23.2)) 63 (by kernel_rfl) (fun h40 => ?_) (fun h40 => ?_)
          · refine JS.run 2 (by kernel_rfl) ?_
            refine JS.bind fun r41 h42 => ?_
            refine JS.callS [] (eyotref1_Same_ok k r20.1 r23.1 r41 h42) ⟨rfl, argX (d := (.flt r20.1)) (by kernel_rfl) (by kernel_rfl), rfl, argX (d := (.flt r23.1)) (by kernel_rfl) (by kernel_rfl), trivial⟩ (by kernel_rfl) (by kernel_rfl) (by kernel_rfl) ?_
            refine JS.run 2 (by kernel_rfl) ?_
            refine JS.split (e := r41) 68 (by kernel_rfl) (fun h43 => ?_) (fun h43 => ?_)
            · refine JS.run 5 (by kernel_rfl) ?_
              refine JS.split (e := (r26.2 == r29.2)) 73 (by kernel_rfl) (fun h44 => ?_) (fun h44 => ?_)
              · refine JS.run 2 (by kernel_rfl) ?_
                refine JS.bind fun r45 h46 => ?_
                refine JS.callS [] (eyotref1_Same_ok k r26.1 r29.1 r45 h46) ⟨rfl, argX (d := (.flt r26.1)) (by kernel_rfl) (by kernel_rfl), rfl, argX (d := (.flt r29.1)) (by kernel_rfl) (by kernel_rfl), trivial⟩ (by kernel_rfl) (by kernel_rfl) (by kernel_rfl) ?_
                refine JS.run 2 (by kernel_rfl) ?_
                refine JS.split (e := r45) 78 (by kernel_rfl) (fun h47 => ?_) (fun h47 => ?_)
                · refine JS.run 5 (by kernel_rfl) ?_
                  refine JS.nil ?_
                  refine JC.drop 0 ?_
                  refine JC.to2 [(4, .x (.bool (r20.2 == r26.2)))] [] (by kernel_rfl) (by kernel_rfl) ?_
                  refine JC.to2 [(4, .x (.bool (r20.2 == r26.2)))] [] (by kernel_rfl) (by kernel_rfl) ?_
                  exact JC.got (ex := .normal) rfl ⟨rfl, rfl, rfl⟩
                · refine JS.run 5 (by kernel_rfl) ?_
                  refine JS.nil ?_
                  refine JC.drop 0 ?_
                  refine JC.to2 [(4, .x (.bool false))] [] (by kernel_rfl) (by kernel_rfl) ?_
                  refine JC.to2 [(4, .x (.bool false))] [] (by kernel_rfl) (by kernel_rfl) ?_
                  exact JC.got (ex := .normal) rfl ⟨rfl, rfl, rfl⟩
              · refine JS.run 10 (by kernel_rfl) ?_
                refine JS.nil ?_
                refine JC.drop 0 ?_
                refine JC.to2 [(4, .x (.bool false))] [] (by kernel_rfl) (by kernel_rfl) ?_
                refine JC.to2 [(4, .x (.bool false))] [] (by kernel_rfl) (by kernel_rfl) ?_
                exact JC.got (ex := .normal) rfl ⟨rfl, rfl, rfl⟩
            · refine JS.run 15 (by kernel_rfl) ?_
              refine JS.nil ?_
              refine JC.drop 0 ?_
              refine JC.to2 [(4, .x (.bool false))] [] (by kernel_rfl) (by kernel_rfl) ?_
              refine JC.to2 [(4, .x (.bool false))] [] (by kernel_rfl) (by kernel_rfl) ?_
              exact JC.got (ex := .normal) rfl ⟨rfl, rfl, rfl⟩
          · refine JS.run 20 (by kernel_rfl) ?_
            refine JS.nil ?_
            refine JC.drop 0 ?_
            refine JC.to2 [(4, .x (.bool false))] [] (by kernel_rfl) (by kernel_rfl) ?_
            refine JC.to2 [(4, .x (.bool false))] [] (by kernel_rfl) (by kernel_rfl) ?_
            exact JC.got (ex := .normal) rfl ⟨rfl, rfl, rfl⟩
        · refine JS.run 25 (by kernel_rfl) ?_
          refine JS.nil ?_
          refine JC.drop 0 ?_
          refine JC.to2 [(4, .x (.bool false))] [] (by kernel_rfl) (by kernel_rfl) ?_
          refine JC.to2 [(4, .x (.bool false))] [] (by kernel_rfl) (by kernel_rfl) ?_
          exact JC.got (ex := .normal) rfl ⟨rfl, rfl, rfl⟩
      · rintro y31 ex E' R' hA
        obtain ⟨rfl, rfl, rfl⟩ := hA
        refine JC.to2 [(4, .x (.bool y31))] [] (by kernel_rfl) (by kernel_rfl) ?_
        refine JC.skipT ?_
        exact JC.finB (ex := .ret) (vs := [.x (.bool y31)]) (is := []) rfl ret_ne ⟨(by kernel_rfl), trivial⟩ (Outs.sc rfl Outs.nil)
end Go.Pi

