import Derived.Test.YtnpljffnopmaiaaFoT
import Derived.Test.YtnpljffnopmaiaaFoP
import Derived.KernelRfl
/-
  THE FUNCTIONS, as terms over lists.
-/
set_option linter.all false
namespace Go.Pi
set_option maxRecDepth 100000
set_option linter.unusedVariables false
set_option maxHeartbeats 2000000
/-! math.Signbit -/
def math_Signbit (k : Nat) (a0 : Fl) : Option Bool :=
  fcase a0 (fun w3 => some (decide ((IntKind.i64.wrap ((w3 : Nat) : Int)) < (0 : Int)))) (none)
theorem math_Signbit_ok (k : Nat) (a0 : Fl) : ∀ r, math_Signbit k a0 = some r → CallOk prog 27 [.x (.flt a0)] false [.sc (.x (.bool r))] := by
  refine CallOk.ofB (pf := pf27) (rs := [.tmp 2]) (Res := fun (r : Bool) => [.sc (.x (.bool r))]) rfl rfl rfl rfl rfl ?_
  unfold math_Signbit pf27
  refine JC.seq ?_
  refine JC.region fun b1 => ?_
  refine JS.run 1 (by kernel_rfl) ?_
  refine JS.nil ?_
  refine JC.to2 [(0, .x (.flt a0))] [] (by kernel_rfl) (by kernel_rfl) ?_
  refine JC.skipT ?_
  refine JC.seq ?_
  refine JC.region fun b2 => ?_
  refine JS.run 1 (by kernel_rfl) ?_
  refine JS.bits (e := a0) (by kernel_rfl) (by kernel_rfl) (by kernel_rfl) (fun w3 h4 => ?_) (fun h4 => ?_)
  · refine JS.run 3 (by kernel_rfl) ?_
    refine JS.nil ?_
    refine JC.to2 [(2, .x (.bool (decide ((IntKind.i64.wrap ((w3 : Nat) : Int)) < (0 : Int)))))] [] (by kernel_rfl) (by kernel_rfl) ?_
    refine JC.skipT ?_
    exact JC.finB (ex := .ret) (vs := [.x (.bool (decide ((IntKind.i64.wrap ((w3 : Nat) : Int)) < (0 : Int))))]) (is := []) rfl ret_ne ⟨(by kernel_rfl), trivial⟩ (Outs.sc rfl Outs.nil)
  · exact JS.no
/-! cmp.isNaN[uint64] -/
def cmp_isNaN (k : Nat) (a0 : Int) : Option Bool :=
  some (a0 != a0)
theorem cmp_isNaN_ok (k : Nat) (a0 : Int) : ∀ r, cmp_isNaN k a0 = some r → CallOk prog 35 [.x (.int .u64 a0)] false [.sc (.x (.bool r))] := by
  refine CallOk.ofB (pf := pf35) (rs := [.tmp 2]) (Res := fun (r : Bool) => [.sc (.x (.bool r))]) rfl rfl rfl rfl rfl ?_
  unfold cmp_isNaN pf35
  refine JC.seq ?_
  refine JC.region fun b1 => ?_
  refine JS.run 1 (by kernel_rfl) ?_
  refine JS.nil ?_
  refine JC.to2 [(0, .x (.int .u64 a0))] [] (by kernel_rfl) (by kernel_rfl) ?_
  refine JC.skipT ?_
  refine JC.seq ?_
  refine JC.region fun b2 => ?_
  refine JS.run 4 (by kernel_rfl) ?_
  refine JS.nil ?_
  refine JC.to2 [(2, .x (.bool (a0 != a0)))] [] (by kernel_rfl) (by kernel_rfl) ?_
  refine JC.skipT ?_
  exact JC.finB (ex := .ret) (vs := [.x (.bool (a0 != a0))]) (is := []) rfl ret_ne ⟨(by kernel_rfl), trivial⟩ (Outs.sc rfl Outs.nil)
/-! cmp.Compare[uint64] -/
def cmp_Compare (k : Nat) (a0 : Int) (a1 : Int) : Option Int :=
  (cmp_isNaN k a0).bind fun r3 => (cmp_isNaN k a1).bind fun r6 => cond r3 (cond r6 (some (0 : Int)) (some (-1 : Int))) (cond r6 (some (1 : Int)) (cond (decide (a0 < a1)) (some (-1 : Int)) (cond (decide (a0 > a1)) (some (1 : Int)) (some (0 : Int)))))
theorem cmp_Compare_ok (k : Nat) (a0 : Int) (a1 : Int) : ∀ r, cmp_Compare k a0 a1 = some r → CallOk prog 31 [.x (.int .u64 a0), .x (.int .u64 a1)] false [.sc (.x (.int .i64 r))] := by
  refine CallOk.ofB (pf := pf31) (rs := [.tmp 4]) (Res := fun (r : Int) => [.sc (.x (.int .i64 r))]) rfl rfl rfl rfl rfl ?_
  unfold cmp_Compare pf31
  refine JC.seq ?_
  refine JC.region fun b1 => ?_
  refine JS.run 1 (by kernel_rfl) ?_
  refine JS.nil ?_
  refine JC.to2 [(0, .x (.int .u64 a0)), (1, .x (.int .u64 a1))] [] (by kernel_rfl) (by kernel_rfl) ?_
  refine JC.skipT ?_
  refine JC.seq ?_
  refine JC.region fun b2 => ?_
  refine JS.run 1 (by kernel_rfl) ?_
  refine JS.bind fun r3 h4 => ?_
  refine JS.callS [] (cmp_isNaN_ok k a0 r3 h4) ⟨rfl, argX (d := (.int .u64 a0)) (by kernel_rfl) (by kernel_rfl), trivial⟩ (by kernel_rfl) (by kernel_rfl) (by kernel_rfl) ?_
  refine JS.run 1 (by kernel_rfl) ?_
  refine JS.nil ?_
  refine JC.to2 [(0, .x (.int .u64 a0)), (1, .x (.int .u64 a1)), (5, .x (.bool r3))] [] (by kernel_rfl) (by kernel_rfl) ?_
  refine JC.skipT ?_
  refine JC.seq ?_
  refine JC.region fun b5 => ?_
  refine JS.run 1 (by kernel_rfl) ?_
  refine JS.bind fun r6 h7 => ?_
  refine JS.callS [] (cmp_isNaN_ok k a1 r6 h7) ⟨rfl, argX (d := (.int .u64 a1)) (by kernel_rfl) (by kernel_rfl), trivial⟩ (by kernel_rfl) (by kernel_rfl) (by kernel_rfl) ?_
  refine JS.run 1 (by kernel_rfl) ?_
  refine JS.nil ?_
  refine JC.to2 [(0, .x (.int .u64 a0)), (1, .x (.int .u64 a1)), (5, .x (.bool r3)), (6, .x (.bool r6))] [] (by kernel_rfl) (by kernel_rfl) ?_
  refine JC.skipT ?_
  refine JC.seq ?_
  refine JC.seq ?_
  refine JC.region fun b8 => ?_
  refine JS.run 1 (by kernel_rfl) ?_
  refine JS.nil ?_
  refine JC.to2 [(0, .x (.int .u64 a0)), (1, .x (.int .u64 a1)), (6, .x (.bool r6)), (11, .x (.bool r3))] [] (by kernel_rfl) (by kernel_rfl) ?_
  refine JC.skipT ?_
  refine JC.cond (e := r3) (by kernel_rfl) (fun h9 => ?_) (fun h9 => ?_)
  · refine JC.seq ?_
    refine JC.seq ?_
    refine JC.region fun b10 => ?_
    refine JS.run 1 (by kernel_rfl) ?_
    refine JS.nil ?_
    refine JC.to2 [(12, .x (.bool r6))] [] (by kernel_rfl) (by kernel_rfl) ?_
    refine JC.skipT ?_
    refine JC.cond (e := r6) (by kernel_rfl) (fun h11 => ?_) (fun h11 => ?_)
    · refine JC.seq ?_
      refine JC.region fun b12 => ?_
      refine JS.run 1 (by kernel_rfl) ?_
      refine JS.nil ?_
      refine JC.to2 [(4, .x (.int .i64 (0 : Int)))] [] (by kernel_rfl) (by kernel_rfl) ?_
      refine JC.skipT ?_
      refine JC.retT ?_
      refine JC.retT ?_
      exact JC.finB (ex := .ret) (vs := [.x (.int .i64 (0 : Int))]) (is := []) rfl ret_ne ⟨(by kernel_rfl), trivial⟩ (Outs.sc rfl Outs.nil)
    · refine JC.skipT ?_
      refine JC.seq ?_
      refine JC.region fun b13 => ?_
      refine JS.run 1 (by kernel_rfl) ?_
      refine JS.nil ?_
      refine JC.to2 [(4, .x (.int .i64 (-1 : Int)))] [] (by kernel_rfl) (by kernel_rfl) ?_
      refine JC.skipT ?_
      refine JC.retT ?_
      exact JC.finB (ex := .ret) (vs := [.x (.int .i64 (-1 : Int))]) (is := []) rfl ret_ne ⟨(by kernel_rfl), trivial⟩ (Outs.sc rfl Outs.nil)
  · refine JC.skipT ?_
    refine JC.seq ?_
    refine JC.seq ?_
    refine JC.region fun b14 => ?_
    refine JS.run 1 (by kernel_rfl) ?_
    refine JS.nil ?_
    refine JC.to2 [(0, .x (.int .u64 a0)), (1, .x (.int .u64 a1)), (13, .x (.bool r6))] [] (by kernel_rfl) (by kernel_rfl) ?_
    refine JC.skipT ?_
    refine JC.cond (e := r6) (by kernel_rfl) (fun h15 => ?_) (fun h15 => ?_)
    · refine JC.seq ?_
      refine JC.region fun b16 => ?_
      refine JS.run 1 (by kernel_rfl) ?_
      refine JS.nil ?_
      refine JC.to2 [(4, .x (.int .i64 (1 : Int)))] [] (by kernel_rfl) (by kernel_rfl) ?_
      refine JC.skipT ?_
      refine JC.retT ?_
      exact JC.finB (ex := .ret) (vs := [.x (.int .i64 (1 : Int))]) (is := []) rfl ret_ne ⟨(by kernel_rfl), trivial⟩ (Outs.sc rfl Outs.nil)
    · refine JC.skipT ?_
      refine JC.seq ?_
      refine JC.seq ?_
      refine JC.region fun b17 => ?_
      refine JS.run 3 (by kernel_rfl) ?_
      refine JS.nil ?_
      refine JC.to2 [(0, .x (.int .u64 a0)), (1, .x (.int .u64 a1)), (16, .x (.bool (decide (a0 < a1))))] [] (by kernel_rfl) (by kernel_rfl) ?_
      refine JC.skipT ?_
      refine JC.cond (e := (decide (a0 < a1))) (by kernel_rfl) (fun h18 => ?_) (fun h18 => ?_)
      · refine JC.seq ?_
        refine JC.region fun b19 => ?_
        refine JS.run 1 (by kernel_rfl) ?_
        refine JS.nil ?_
        refine JC.to2 [(4, .x (.int .i64 (-1 : Int)))] [] (by kernel_rfl) (by kernel_rfl) ?_
        refine JC.skipT ?_
        refine JC.retT ?_
        exact JC.finB (ex := .ret) (vs := [.x (.int .i64 (-1 : Int))]) (is := []) rfl ret_ne ⟨(by kernel_rfl), trivial⟩ (Outs.sc rfl Outs.nil)
      · refine JC.skipT ?_
        refine JC.seq ?_
        refine JC.seq ?_
        refine JC.region fun b20 => ?_
        refine JS.run 3 (by kernel_rfl) ?_
        refine JS.nil ?_
        refine JC.to2 [(19, .x (.bool (decide (a0 > a1))))] [] (by kernel_rfl) (by kernel_rfl) ?_
        refine JC.skipT ?_
        refine JC.cond (e := (decide (a0 > a1))) (by kernel_rfl) (fun h21 => ?_) (fun h21 => ?_)
        · refine JC.seq ?_
          refine JC.region fun b22 => ?_
          refine JS.run 1 (by kernel_rfl) ?_
          refine JS.nil ?_
          refine JC.to2 [(4, .x (.int .i64 (1 : Int)))] [] (by kernel_rfl) (by kernel_rfl) ?_
          refine JC.skipT ?_
          refine JC.retT ?_
          exact JC.finB (ex := .ret) (vs := [.x (.int .i64 (1 : Int))]) (is := []) rfl ret_ne ⟨(by kernel_rfl), trivial⟩ (Outs.sc rfl Outs.nil)
        · refine JC.skipT ?_
          refine JC.seq ?_
          refine JC.region fun b23 => ?_
          refine JS.run 1 (by kernel_rfl) ?_
          refine JS.nil ?_
          refine JC.to2 [(4, .x (.int .i64 (0 : Int)))] [] (by kernel_rfl) (by kernel_rfl) ?_
          refine JC.skipT ?_
          exact JC.finB (ex := .ret) (vs := [.x (.int .i64 (0 : Int))]) (is := []) rfl ret_ne ⟨(by kernel_rfl), trivial⟩ (Outs.sc rfl Outs.nil)
/-! eyot/weigh.Key -/
def weigh_Key (k : Nat) (a0 : Fl) : Option Int :=
  fcase a0 (fun w3 => cond (fOrd a0 a0 != some .eq) (some (18446744073709551615 : Int)) (cond (decide (((w3 : Nat) : Int) ≥ (9223372036854775808 : Int))) (some (ixor .u64 (IntKind.max .u64) ((w3 : Nat) : Int))) (some (ixor .u64 ((w3 : Nat) : Int) (9223372036854775808 : Int))))) (cond (fOrd a0 a0 != some .eq) (some (18446744073709551615 : Int)) (none))
theorem weigh_Key_ok (k : Nat) (a0 : Fl) : ∀ r, weigh_Key k a0 = some r → CallOk prog 32 [.x (.flt a0)] false [.sc (.x (.int .u64 r))] := by
  refine CallOk.ofB (pf := pf32) (rs := [.tmp 2]) (Res := fun (r : Int) => [.sc (.x (.int .u64 r))]) rfl rfl rfl rfl rfl ?_
  unfold weigh_Key pf32
  refine JC.seq ?_
  refine JC.region fun b1 => ?_
  refine JS.run 1 (by kernel_rfl) ?_
  refine JS.nil ?_
  refine JC.to2 [(0, .x (.flt a0))] [] (by kernel_rfl) (by kernel_rfl) ?_
  refine JC.skipT ?_
  refine JC.seq ?_
  refine JC.region fun b2 => ?_
  refine JS.run 1 (by kernel_rfl) ?_
  refine JS.bits (e := a0) (by kernel_rfl) (by kernel_rfl) (by kernel_rfl) (fun w3 h4 => ?_) (fun h4 => ?_)
  · refine JS.run 1 (by kernel_rfl) ?_
    refine JS.nil ?_
    refine JC.to2 [(0, .x (.flt a0)), (3, .x (.int .u64 ((w3 : Nat) : Int)))] [] (by kernel_rfl) (by kernel_rfl) ?_
    refine JC.skipT ?_
    refine JC.seq ?_
    refine JC.block ?_
    refine JC.seq ?_
    refine JC.region fun b5 => ?_
    refine JS.run 4 (by kernel_rfl) ?_
    refine JS.nil ?_
    refine JC.to2 [(3, .x (.int .u64 ((w3 : Nat) : Int))), (6, .x (.bool (fOrd a0 a0 != some .eq)))] [] (by kernel_rfl) (by kernel_rfl) ?_
    refine JC.skipT ?_
    refine JC.cond (e := (fOrd a0 a0 != some .eq)) (by kernel_rfl) (fun h6 => ?_) (fun h6 => ?_)
    · refine JC.seq ?_
      refine JC.region fun b7 => ?_
      refine JS.run 1 (by kernel_rfl) ?_
      refine JS.nil ?_
      refine JC.to2 [(2, .x (.int .u64 (18446744073709551615 : Int)))] [] (by kernel_rfl) (by kernel_rfl) ?_
      refine JC.skipT ?_
      refine JC.retB ?_
      refine JC.retT ?_
      exact JC.finB (ex := .ret) (vs := [.x (.int .u64 (18446744073709551615 : Int))]) (is := []) rfl ret_ne ⟨(by kernel_rfl), trivial⟩ (Outs.sc rfl Outs.nil)
    · refine JC.seq ?_
      refine JC.region fun b8 => ?_
      refine JS.run 3 (by kernel_rfl) ?_
      refine JS.nil ?_
      refine JC.to2 [(3, .x (.int .u64 ((w3 : Nat) : Int))), (10, .x (.bool (decide (((w3 : Nat) : Int) ≥ (9223372036854775808 : Int)))))] [] (by kernel_rfl) (by kernel_rfl) ?_
      refine JC.skipT ?_
      refine JC.cond (e := (decide (((w3 : Nat) : Int) ≥ (9223372036854775808 : Int)))) (by kernel_rfl) (fun h9 => ?_) (fun h9 => ?_)
      · refine JC.seq ?_
        refine JC.region fun b10 => ?_
        refine JS.run 3 (by kernel_rfl) ?_
        refine JS.nil ?_
        refine JC.to2 [(2, .x (.int .u64 (ixor .u64 (IntKind.max .u64) ((w3 : Nat) : Int))))] [] (by kernel_rfl) (by kernel_rfl) ?_
        refine JC.skipT ?_
        refine JC.retB ?_
        refine JC.retT ?_
        exact JC.finB (ex := .ret) (vs := [.x (.int .u64 (ixor .u64 (IntKind.max .u64) ((w3 : Nat) : Int)))]) (is := []) rfl ret_ne ⟨(by kernel_rfl), trivial⟩ (Outs.sc rfl Outs.nil)
      · refine JC.skipB ?_
        refine JC.skipT ?_
        refine JC.seq ?_
        refine JC.region fun b11 => ?_
        refine JS.run 3 (by kernel_rfl) ?_
        refine JS.nil ?_
        refine JC.to2 [(2, .x (.int .u64 (ixor .u64 ((w3 : Nat) : Int) (9223372036854775808 : Int))))] [] (by kernel_rfl) (by kernel_rfl) ?_
        refine JC.skipT ?_
        exact JC.finB (ex := .ret) (vs := [.x (.int .u64 (ixor .u64 ((w3 : Nat) : Int) (9223372036854775808 : Int)))]) (is := []) rfl ret_ne ⟨(by kernel_rfl), trivial⟩ (Outs.sc rfl Outs.nil)
  · refine JS.run 1 (by kernel_rfl) ?_
    refine JS.nil ?_
    refine JC.to2 [(0, .x (.flt a0))] [] (by kernel_rfl) (by kernel_rfl) ?_
    refine JC.skipT ?_
    refine JC.seq ?_
    refine JC.block ?_
    refine JC.seq ?_
    refine JC.region fun b12 => ?_
    refine JS.run 4 (by kernel_rfl) ?_
    refine JS.nil ?_
    refine JC.to2 [(6, .x (.bool (fOrd a0 a0 != some .eq)))] [] (by kernel_rfl) (by kernel_rfl) ?_
    refine JC.skipT ?_
    refine JC.cond (e := (fOrd a0 a0 != some .eq)) (by kernel_rfl) (fun h13 => ?_) (fun h13 => ?_)
    · refine JC.seq ?_
      refine JC.region fun b14 => ?_
      refine JS.run 1 (by kernel_rfl) ?_
      refine JS.nil ?_
      refine JC.to2 [(2, .x (.int .u64 (18446744073709551615 : Int)))] [] (by kernel_rfl) (by kernel_rfl) ?_
      refine JC.skipT ?_
      refine JC.retB ?_
      refine JC.retT ?_
      exact JC.finB (ex := .ret) (vs := [.x (.int .u64 (18446744073709551615 : Int))]) (is := []) rfl ret_ne ⟨(by kernel_rfl), trivial⟩ (Outs.sc rfl Outs.nil)
    · exact JC.no
/-! eyot/weigh.Order -/
def weigh_Order (k : Nat) (a0 : Fl) (a1 : Fl) : Option Int :=
  (weigh_Key k a0).bind fun r3 => (weigh_Key k a1).bind fun r5 => (cmp_Compare k r3 r5).bind fun r7 => some r7
theorem weigh_Order_ok (k : Nat) (a0 : Fl) (a1 : Fl) : ∀ r, weigh_Order k a0 a1 = some r → CallOk prog 26 [.x (.flt a0), .x (.flt a1)] false [.sc (.x (.int .i64 r))] := by
  refine CallOk.ofB (pf := pf26) (rs := [.tmp 4]) (Res := fun (r : Int) => [.sc (.x (.int .i64 r))]) rfl rfl rfl rfl rfl ?_
  unfold weigh_Order pf26
  refine JC.seq ?_
  refine JC.region fun b1 => ?_
  refine JS.run 1 (by kernel_rfl) ?_
  refine JS.nil ?_
  refine JC.to2 [(0, .x (.flt a0)), (1, .x (.flt a1))] [] (by kernel_rfl) (by kernel_rfl) ?_
  refine JC.skipT ?_
  refine JC.seq ?_
  refine JC.region fun b2 => ?_
  refine JS.run 1 (by kernel_rfl) ?_
  refine JS.bind fun r3 h4 => ?_
  refine JS.callS [] (weigh_Key_ok k a0 r3 h4) ⟨rfl, argX (d := (.flt a0)) (by kernel_rfl) (by kernel_rfl), trivial⟩ (by kernel_rfl) (by kernel_rfl) (by kernel_rfl) ?_
  refine JS.run 1 (by kernel_rfl) ?_
  refine JS.bind fun r5 h6 => ?_
  refine JS.callS [] (weigh_Key_ok k a1 r5 h6) ⟨rfl, argX (d := (.flt a1)) (by kernel_rfl) (by kernel_rfl), trivial⟩ (by kernel_rfl) (by kernel_rfl) (by kernel_rfl) ?_
  refine JS.bind fun r7 h8 => ?_
  refine JS.callS [] (cmp_Compare_ok k r3 r5 r7 h8) ⟨rfl, argX (d := (.int .u64 r3)) (by kernel_rfl) (by kernel_rfl), rfl, argX (d := (.int .u64 r5)) (by kernel_rfl) (by kernel_rfl), trivial⟩ (by kernel_rfl) (by kernel_rfl) (by kernel_rfl) ?_
  refine JS.run 1 (by kernel_rfl) ?_
  refine JS.nil ?_
  refine JC.to2 [(4, .x (.int .i64 r7))] [] (by kernel_rfl) (by kernel_rfl) ?_
  refine JC.skipT ?_
  exact JC.finB (ex := .ret) (vs := [.x (.int .i64 r7)]) (is := []) rfl ret_ne ⟨(by kernel_rfl), trivial⟩ (Outs.sc rfl Outs.nil)
/-! eyot/eyotref1.Order -/
def eyotref1_Order (k : Nat) (a0 : Fl) (a1 : Fl) : Option Int :=
  (cond (fOrd a0 a0 != some .eq) (some (fOrd a1 a1 != some .eq)) (some false)).bind fun y2 => cond y2 (some (0 : Int)) (cond (fOrd a0 a0 != some .eq) (some (1 : Int)) (cond (fOrd a1 a1 != some .eq) (some (-1 : Int)) (cond (fOrd a0 a1 == some .lt) (some (-1 : Int)) (cond (fOrd a0 a1 == some .gt) (some (1 : Int)) ((cond (fOrd a0 (some 0 : Fl) == some .eq) ((math_Signbit k a0).bind fun r22 => (math_Signbit k a1).bind fun r24 => some (!(r22 == r24))) (some false)).bind fun y19 => cond y19 ((math_Signbit k a0).bind fun r28 => cond r28 (some (-1 : Int)) (some (1 : Int))) (some (0 : Int)))))))
theorem eyotref1_Order_ok (k : Nat) (a0 : Fl) (a1 : Fl) : ∀ r, eyotref1_Order k a0 a1 = some r → CallOk prog 19 [.x (.flt a0), .x (.flt a1)] false [.sc (.x (.int .i64 r))] := by
  refine CallOk.ofB (pf := pf19) (rs := [.tmp 4]) (Res := fun (r : Int) => [.sc (.x (.int .i64 r))]) rfl rfl rfl rfl rfl ?_
  unfold eyotref1_Order pf19
  refine JC.seq ?_
  refine JC.region fun b1 => ?_
  refine JS.run 1 (by kernel_rfl) ?_
  refine JS.nil ?_
  refine JC.to2 [(0, .x (.flt a0)), (1, .x (.flt a1))] [] (by kernel_rfl) (by kernel_rfl) ?_
  refine JC.skipT ?_
  refine JC.seq ?_
  refine JC.block ?_
  refine JC.seq ?_
  refine JC.bind (A := fun v ex E R => ex = .normal ∧ E = [(0, .x (.flt a0)), (1, .x (.flt a1)), (5, .x (.bool v))] ∧ R = []) ?_ ?_
  · refine JC.region fun b3 => ?_
    refine JS.run 4 (by kernel_rfl) ?_
    refine JS.split (e := (fOrd a0 a0 != some .eq)) 9 (by kernel_rfl) (fun h4 => ?_) (fun h4 => ?_)
    · refine JS.run 5 (by kernel_rfl) ?_
      refine JS.nil ?_
      refine JC.to2 [(0, .x (.flt a0)), (1, .x (.flt a1)), (5, .x (.bool (fOrd a1 a1 != some .eq)))] [] (by kernel_rfl) (by kernel_rfl) ?_
      refine JC.to2 [(0, .x (.flt a0)), (1, .x (.flt a1)), (5, .x (.bool (fOrd a1 a1 != some .eq)))] [] (by kernel_rfl) (by kernel_rfl) ?_
      exact JC.got (ex := .normal) rfl ⟨rfl, rfl, rfl⟩
    · refine JS.run 5 (by kernel_rfl) ?_
      refine JS.nil ?_
      refine JC.to2 [(0, .x (.flt a0)), (1, .x (.flt a1)), (5, .x (.bool false))] [] (by kernel_rfl) (by kernel_rfl) ?_
      refine JC.to2 [(0, .x (.flt a0)), (1, .x (.flt a1)), (5, .x (.bool false))] [] (by kernel_rfl) (by kernel_rfl) ?_
      exact JC.got (ex := .normal) rfl ⟨rfl, rfl, rfl⟩
  · rintro y2 ex E' R' hA
    obtain ⟨rfl, rfl, rfl⟩ := hA
    refine JC.to2 [(0, .x (.flt a0)), (1, .x (.flt a1)), (5, .x (.bool y2))] [] (by kernel_rfl) (by kernel_rfl) ?_
    refine JC.skipT ?_
    refine JC.cond (e := y2) (by kernel_rfl) (fun h5 => ?_) (fun h5 => ?_)
    · refine JC.seq ?_
      refine JC.region fun b6 => ?_
      refine JS.run 1 (by kernel_rfl) ?_
      refine JS.nil ?_
      refine JC.to2 [(4, .x (.int .i64 (0 : Int)))] [] (by kernel_rfl) (by kernel_rfl) ?_
      refine JC.skipT ?_
      refine JC.retB ?_
      refine JC.retT ?_
      exact JC.finB (ex := .ret) (vs := [.x (.int .i64 (0 : Int))]) (is := []) rfl ret_ne ⟨(by kernel_rfl), trivial⟩ (Outs.sc rfl Outs.nil)
    · refine JC.seq ?_
      refine JC.region fun b7 => ?_
      refine JS.run 4 (by kernel_rfl) ?_
      refine JS.nil ?_
      refine JC.to2 [(0, .x (.flt a0)), (1, .x (.flt a1)), (14, .x (.bool (fOrd a0 a0 != some .eq)))] [] (by kernel_rfl) (by kernel_rfl) ?_
      refine JC.skipT ?_
      refine JC.cond (e := (fOrd a0 a0 != some .eq)) (by kernel_rfl) (fun h8 => ?_) (fun h8 => ?_)
      · refine JC.seq ?_
        refine JC.region fun b9 => ?_
        refine JS.run 1 (by kernel_rfl) ?_
        refine JS.nil ?_
        refine JC.to2 [(4, .x (.int .i64 (1 : Int)))] [] (by kernel_rfl) (by kernel_rfl) ?_
        refine JC.skipT ?_
        refine JC.retB ?_
        refine JC.retT ?_
        exact JC.finB (ex := .ret) (vs := [.x (.int .i64 (1 : Int))]) (is := []) rfl ret_ne ⟨(by kernel_rfl), trivial⟩ (Outs.sc rfl Outs.nil)
      · refine JC.seq ?_
        refine JC.region fun b10 => ?_
        refine JS.run 4 (by kernel_rfl) ?_
        refine JS.nil ?_
        refine JC.to2 [(0, .x (.flt a0)), (1, .x (.flt a1)), (18, .x (.bool (fOrd a1 a1 != some .eq)))] [] (by kernel_rfl) (by kernel_rfl) ?_
        refine JC.skipT ?_
        refine JC.cond (e := (fOrd a1 a1 != some .eq)) (by kernel_rfl) (fun h11 => ?_) (fun h11 => ?_)
        · refine JC.seq ?_
          refine JC.region fun b12 => ?_
          refine JS.run 1 (by kernel_rfl) ?_
          refine JS.nil ?_
          refine JC.to2 [(4, .x (.int .i64 (-1 : Int)))] [] (by kernel_rfl) (by kernel_rfl) ?_
          refine JC.skipT ?_
          refine JC.retB ?_
          refine JC.retT ?_
          exact JC.finB (ex := .ret) (vs := [.x (.int .i64 (-1 : Int))]) (is := []) rfl ret_ne ⟨(by kernel_rfl), trivial⟩ (Outs.sc rfl Outs.nil)
        · refine JC.seq ?_
          refine JC.region fun b13 => ?_
          refine JS.run 4 (by kernel_rfl) ?_
          refine JS.nil ?_
          refine JC.to2 [(0, .x (.flt a0)), (1, .x (.flt a1)), (22, .x (.bool (fOrd a0 a1 == some .lt)))] [] (by kernel_rfl) (by kernel_rfl) ?_
          refine JC.skipT ?_
          refine JC.cond (e := (fOrd a0 a1 == some .lt)) (by kernel_rfl) (fun h14 => ?_) (fun h14 => ?_)
          · refine JC.seq ?_
            refine JC.region fun b15 => ?_
            refine JS.run 1 (by kernel_rfl) ?_
            refine JS.nil ?_
            refine JC.to2 [(4, .x (.int .i64 (-1 : Int)))] [] (by kernel_rfl) (by kernel_rfl) ?_
            refine JC.skipT ?_
            refine JC.retB ?_
            refine JC.retT ?_
            exact JC.finB (ex := .ret) (vs := [.x (.int .i64 (-1 : Int))]) (is := []) rfl ret_ne ⟨(by kernel_rfl), trivial⟩ (Outs.sc rfl Outs.nil)
          · refine JC.seq ?_
            refine JC.region fun b16 => ?_
            refine JS.run 4 (by kernel_rfl) ?_
            refine JS.nil ?_
            refine JC.to2 [(0, .x (.flt a0)), (1, .x (.flt a1)), (26, .x (.bool (fOrd a0 a1 == some .gt)))] [] (by kernel_rfl) (by kernel_rfl) ?_
            refine JC.skipT ?_
            refine JC.cond (e := (fOrd a0 a1 == some .gt)) (by kernel_rfl) (fun h17 => ?_) (fun h17 => ?_)
            · refine JC.seq ?_
              refine JC.region fun b18 => ?_
              refine JS.run 1 (by kernel_rfl) ?_
              refine JS.nil ?_
              refine JC.to2 [(4, .x (.int .i64 (1 : Int)))] [] (by kernel_rfl) (by kernel_rfl) ?_
              refine JC.skipT ?_
              refine JC.retB ?_
              refine JC.retT ?_
              exact JC.finB (ex := .ret) (vs := [.x (.int .i64 (1 : Int))]) (is := []) rfl ret_ne ⟨(by kernel_rfl), trivial⟩ (Outs.sc rfl Outs.nil)
            · refine JC.seq ?_
              refine JC.bind (A := fun v ex E R => ex = .normal ∧ E = [(0, .x (.flt a0)), (30, .x (.bool v))] ∧ R = []) ?_ ?_
              · refine JC.region fun b20 => ?_
                refine JS.run 3 (by kernel_rfl) ?_
                refine JS.split (e := (fOrd a0 (some 0 : Fl) == some .eq)) 33 (by kernel_rfl) (fun h21 => ?_) (fun h21 => ?_)
                · refine JS.run 1 (by kernel_rfl) ?_
                  refine JS.bind fun r22 h23 => ?_
                  refine JS.callS [] (math_Signbit_ok k a0 r22 h23) ⟨rfl, argX (d := (.flt a0)) (by kernel_rfl) (by kernel_rfl), trivial⟩ (by kernel_rfl) (by kernel_rfl) (by kernel_rfl) ?_
                  refine JS.run 1 (by kernel_rfl) ?_
                  refine JS.bind fun r24 h25 => ?_
                  refine JS.callS [] (math_Signbit_ok k a1 r24 h25) ⟨rfl, argX (d := (.flt a1)) (by kernel_rfl) (by kernel_rfl), trivial⟩ (by kernel_rfl) (by kernel_rfl) (by kernel_rfl) ?_
                  refine JS.run 3 (by kernel_rfl) ?_
                  refine JS.nil ?_
                  refine JC.to2 [(0, .x (.flt a0)), (30, .x (.bool (!(r22 == r24))))] [] (by kernel_rfl) (by kernel_rfl) ?_
                  refine JC.to2 [(0, .x (.flt a0)), (30, .x (.bool (!(r22 == r24))))] [] (by kernel_rfl) (by kernel_rfl) ?_
                  exact JC.got (ex := .normal) rfl ⟨rfl, rfl, rfl⟩
                · refine JS.run 7 (by kernel_rfl) ?_
                  refine JS.nil ?_
                  refine JC.to2 [(0, .x (.flt a0)), (30, .x (.bool false))] [] (by kernel_rfl) (by kernel_rfl) ?_
                  refine JC.to2 [(0, .x (.flt a0)), (30, .x (.bool false))] [] (by kernel_rfl) (by kernel_rfl) ?_
                  exact JC.got (ex := .normal) rfl ⟨rfl, rfl, rfl⟩
              · rintro y19 ex E' R' hA
                obtain ⟨rfl, rfl, rfl⟩ := hA
                refine JC.to2 [(0, .x (.flt a0)), (30, .x (.bool y19))] [] (by kernel_rfl) (by kernel_rfl) ?_
                refine JC.skipT ?_
                refine JC.cond (e := y19) (by kernel_rfl) (fun h26 => ?_) (fun h26 => ?_)
                · refine JC.seq ?_
                  refine JC.seq ?_
                  refine JC.region fun b27 => ?_
                  refine JS.run 1 (by kernel_rfl) ?_
                  refine JS.bind fun r28 h29 => ?_
                  refine JS.callS [] (math_Signbit_ok k a0 r28 h29) ⟨rfl, argX (d := (.flt a0)) (by kernel_rfl) (by kernel_rfl), trivial⟩ (by kernel_rfl) (by kernel_rfl) (by kernel_rfl) ?_
                  refine JS.nil ?_
                  refine JC.to2 [(41, .x (.bool r28))] [] (by kernel_rfl) (by kernel_rfl) ?_
                  refine JC.skipT ?_
                  refine JC.cond (e := r28) (by kernel_rfl) (fun h30 => ?_) (fun h30 => ?_)
                  · refine JC.seq ?_
                    refine JC.region fun b31 => ?_
                    refine JS.run 1 (by kernel_rfl) ?_
                    refine JS.nil ?_
                    refine JC.to2 [(4, .x (.int .i64 (-1 : Int)))] [] (by kernel_rfl) (by kernel_rfl) ?_
                    refine JC.skipT ?_
                    refine JC.retT ?_
                    refine JC.retB ?_
                    refine JC.retT ?_
                    exact JC.finB (ex := .ret) (vs := [.x (.int .i64 (-1 : Int))]) (is := []) rfl ret_ne ⟨(by kernel_rfl), trivial⟩ (Outs.sc rfl Outs.nil)
                  · refine JC.skipT ?_
                    refine JC.seq ?_
                    refine JC.region fun b32 => ?_
                    refine JS.run 1 (by kernel_rfl) ?_
                    refine JS.nil ?_
                    refine JC.to2 [(4, .x (.int .i64 (1 : Int)))] [] (by kernel_rfl) (by kernel_rfl) ?_
                    refine JC.skipT ?_
                    refine JC.retB ?_
                    refine JC.retT ?_
                    exact JC.finB (ex := .ret) (vs := [.x (.int .i64 (1 : Int))]) (is := []) rfl ret_ne ⟨(by kernel_rfl), trivial⟩ (Outs.sc rfl Outs.nil)
                · refine JC.skipB ?_
                  refine JC.skipT ?_
                  refine JC.seq ?_
                  refine JC.region fun b33 => ?_
                  refine JS.run 1 (by kernel_rfl) ?_
                  refine JS.nil ?_
                  refine JC.to2 [(4, .x (.int .i64 (0 : Int)))] [] (by kernel_rfl) (by kernel_rfl) ?_
                  refine JC.skipT ?_
                  exact JC.finB (ex := .ret) (vs := [.x (.int .i64 (0 : Int))]) (is := []) rfl ret_ne ⟨(by kernel_rfl), trivial⟩ (Outs.sc rfl Outs.nil)
/-! eyot/eyotref1.Same -/
def eyotref1_Same (k : Nat) (a0 : Fl) (a1 : Fl) : Option Bool :=
  (eyotref1_Order k a0 a1).bind fun r3 => some (r3 == (0 : Int))
theorem eyotref1_Same_ok (k : Nat) (a0 : Fl) (a1 : Fl) : ∀ r, eyotref1_Same k a0 a1 = some r → CallOk prog 11 [.x (.flt a0), .x (.flt a1)] false [.sc (.x (.bool r))] := by
  refine CallOk.ofB (pf := pf11) (rs := [.tmp 4]) (Res := fun (r : Bool) => [.sc (.x (.bool r))]) rfl rfl rfl rfl rfl ?_
  unfold eyotref1_Same pf11
  refine JC.seq ?_
  refine JC.region fun b1 => ?_
  refine JS.run 1 (by kernel_rfl) ?_
  refine JS.nil ?_
  refine JC.to2 [(0, .x (.flt a0)), (1, .x (.flt a1))] [] (by kernel_rfl) (by kernel_rfl) ?_
  refine JC.skipT ?_
  refine JC.seq ?_
  refine JC.region fun b2 => ?_
  refine JS.run 2 (by kernel_rfl) ?_
  refine JS.bind fun r3 h4 => ?_
  refine JS.callS [] (eyotref1_Order_ok k a0 a1 r3 h4) ⟨rfl, argX (d := (.flt a0)) (by kernel_rfl) (by kernel_rfl), rfl, argX (d := (.flt a1)) (by kernel_rfl) (by kernel_rfl), trivial⟩ (by kernel_rfl) (by kernel_rfl) (by kernel_rfl) ?_
  refine JS.run 2 (by kernel_rfl) ?_
  refine JS.nil ?_
  refine JC.to2 [(4, .x (.bool (r3 == (0 : Int))))] [] (by kernel_rfl) (by kernel_rfl) ?_
  refine JC.skipT ?_
  exact JC.finB (ex := .ret) (vs := [.x (.bool (r3 == (0 : Int)))]) (is := []) rfl ret_ne ⟨(by kernel_rfl), trivial⟩ (Outs.sc rfl Outs.nil)
/-! eyot/eyotref1.SameAll -/
def eyotref1_SameAll_l0 (a0 : (List Fl)) (a1 : (List Fl)) : Nat → Int → Option (Unit ⊕ Unit)
  | 0, _ => none
  | k + 1, x6 => cond (decide (x6 < ((a0.length : Nat) : Int))) ((at? a0 x6).bind fun w10 => (at? a1 x6).bind fun w12 => (eyotref1_Same k w10 w12).bind fun r14 => cond (!r14) (some (Sum.inr ())) (eyotref1_SameAll_l0 a0 a1 k (IntKind.i64.wrap (x6 + (1 : Int))))) (some (Sum.inl ()))
theorem eyotref1_SameAll_l0_ok (a0 : (List Fl)) (a1 : (List Fl))  : ∀ (k : Nat) (x6 : Int), JC prog noFr 27 [(0, .c 1 (.lst 1 (a0.map fD))), (1, .c 1 (.lst 1 (a1.map fD))), (5, .x (.int .i64 x6))] [] (.loop pf16_L0) (eyotref1_SameAll_l0 a0 a1 k x6) (fun x => GotA 27 noFr ((fun v ex E R => match v with | Sum.inl v => ex = (.exit 0) ∧ E = [] ∧ R = [] | Sum.inr v => ex = .ret ∧ E = [(4, .x (.bool false))] ∧ R = []) x)) := by
  intro k
  induction k with
  | zero =>
    intro x6
    exact JC.no
  | succ k ih =>
    intro x6
    rw [eyotref1_SameAll_l0]
    refine JC.loop ?_
    refine JC.seq ?_
    refine JC.seq ?_
    refine JC.region fun b7 => ?_
    refine JS.run 2 (by kernel_rfl) ?_
    refine JS.lenC (c := fD) (l := a0) (n := 1) (sz := 1) (by kernel_rfl) (by kernel_rfl) (by kernel_rfl) ?_
    refine JS.run 1 (by kernel_rfl) ?_
    refine JS.nil ?_
    refine JC.to2 [(0, .c 1 (.lst 1 (a0.map fD))), (1, .c 1 (.lst 1 (a1.map fD))), (5, .x (.int .i64 x6)), (14, .x (.bool (decide (x6 < ((a0.length : Nat) : Int)))))] [] (by kernel_rfl) (by kernel_rfl) ?_
    refine JC.skipT ?_
    refine JC.cond (e := (decide (x6 < ((a0.length : Nat) : Int)))) (by kernel_rfl) (fun h8 => ?_) (fun h8 => ?_)
    · refine JC.skipT ?_
      refine JC.seq ?_
      refine JC.block ?_
      refine JC.seq ?_
      refine JC.region fun b9 => ?_
      refine JS.run 2 (by kernel_rfl) ?_
      refine JS.idxC (c := fD) (l := a0) (n := 1) (kk := .i64) (z := x6) (by kernel_rfl) (by kernel_rfl) (by kernel_rfl) (by kernel_rfl) (fun w10 h11 => ?_)
      refine JS.run 3 (by kernel_rfl) ?_
      refine JS.idxC (c := fD) (l := a1) (n := 1) (kk := .i64) (z := x6) (by kernel_rfl) (by kernel_rfl) (by kernel_rfl) (by kernel_rfl) (fun w12 h13 => ?_)
      refine JS.run 1 (by kernel_rfl) ?_
      refine JS.bind fun r14 h15 => ?_
      refine JS.callQS [] (eyotref1_Same_ok k w10 w12 r14 h15) ⟨rfl, argX (d := (.flt w10)) (by kernel_rfl) (by kernel_rfl), rfl, argX (d := (.flt w12)) (by kernel_rfl) (by kernel_rfl), trivial⟩ (by kernel_rfl) (by kernel_rfl) (by kernel_rfl) ?_
      refine JS.run 1 (by kernel_rfl) ?_
      refine JS.nil ?_
      refine JC.to2 [(0, .c 1 (.lst 1 (a0.map fD))), (1, .c 1 (.lst 1 (a1.map fD))), (5, .x (.int .i64 x6)), (26, .x (.bool (!r14)))] [] (by kernel_rfl) (by kernel_rfl) ?_
      refine JC.skipT ?_
      refine JC.cond (e := (!r14)) (by kernel_rfl) (fun h16 => ?_) (fun h16 => ?_)
      · refine JC.seq ?_
        refine JC.region fun b17 => ?_
        refine JS.run 1 (by kernel_rfl) ?_
        refine JS.nil ?_
        refine JC.to2 [(4, .x (.bool false))] [] (by kernel_rfl) (by kernel_rfl) ?_
        refine JC.skipT ?_
        refine JC.retB ?_
        refine JC.retT ?_
        refine JC.retL ?_
        refine JC.to2 [(4, .x (.bool false))] [] (by kernel_rfl) (by kernel_rfl) ?_
        exact JC.got (ex := .ret) rfl ⟨rfl, rfl, rfl⟩
      · refine JC.skipB ?_
        refine JC.skipT ?_
        refine JC.region fun b18 => ?_
        refine JS.run 3 (by kernel_rfl) ?_
        refine JS.nil ?_
        refine JC.to2 [(0, .c 1 (.lst 1 (a0.map fD))), (1, .c 1 (.lst 1 (a1.map fD))), (5, .x (.int .i64 (IntKind.i64.wrap (x6 + (1 : Int)))))] [] (by kernel_rfl) (by kernel_rfl) ?_
        refine JC.skipL ?_
        refine JC.to2 [(0, .c 1 (.lst 1 (a0.map fD))), (1, .c 1 (.lst 1 (a1.map fD))), (5, .x (.int .i64 (IntKind.i64.wrap (x6 + (1 : Int)))))] [] (by kernel_rfl) (by kernel_rfl) ?_
        exact ih (IntKind.i64.wrap (x6 + (1 : Int)))
    · refine JC.exitT ?_
      refine JC.exitL ?_
      refine JC.to2 [] [] (by kernel_rfl) (by kernel_rfl) ?_
      exact JC.got (ex := (.exit 0)) rfl ⟨rfl, rfl, rfl⟩
def eyotref1_SameAll (k : Nat) (a0 : (List Fl)) (a1 : (List Fl)) : Option Bool :=
  cond (((a0.length : Nat) : Int) != ((a1.length : Nat) : Int)) (some false) ((eyotref1_SameAll_l0 a0 a1 k (0 : Int)).bind fun v => (match v with | Sum.inl _ => some true | Sum.inr _ => some false))
theorem eyotref1_SameAll_ok (k : Nat) (a0 : (List Fl)) (a1 : (List Fl)) : ∀ r, eyotref1_SameAll k a0 a1 = some r → CallOk prog 16 [.c 1 (.lst 1 (a0.map fD)), .c 1 (.lst 1 (a1.map fD))] false [.sc (.x (.bool r))] := by
  refine CallOk.ofB (pf := pf16) (rs := [.tmp 4]) (Res := fun (r : Bool) => [.sc (.x (.bool r))]) rfl rfl rfl rfl rfl ?_
  unfold eyotref1_SameAll pf16
  refine JC.seq ?_
  refine JC.region fun b1 => ?_
  refine JS.run 1 (by kernel_rfl) ?_
  refine JS.nil ?_
  refine JC.to2 [(0, .c 1 (.lst 1 (a0.map fD))), (1, .c 1 (.lst 1 (a1.map fD)))] [] (by kernel_rfl) (by kernel_rfl) ?_
  refine JC.skipT ?_
  refine JC.seq ?_
  refine JC.seq ?_
  refine JC.region fun b2 => ?_
  refine JS.run 1 (by kernel_rfl) ?_
  refine JS.lenC (c := fD) (l := a0) (n := 1) (sz := 1) (by kernel_rfl) (by kernel_rfl) (by kernel_rfl) ?_
  refine JS.run 1 (by kernel_rfl) ?_
  refine JS.lenC (c := fD) (l := a1) (n := 1) (sz := 1) (by kernel_rfl) (by kernel_rfl) (by kernel_rfl) ?_
  refine JS.run 1 (by kernel_rfl) ?_
  refine JS.nil ?_
  refine JC.to2 [(0, .c 1 (.lst 1 (a0.map fD))), (1, .c 1 (.lst 1 (a1.map fD))), (10, .x (.bool (((a0.length : Nat) : Int) != ((a1.length : Nat) : Int))))] [] (by kernel_rfl) (by kernel_rfl) ?_
  refine JC.skipT ?_
  refine JC.cond (e := (((a0.length : Nat) : Int) != ((a1.length : Nat) : Int))) (by kernel_rfl) (fun h3 => ?_) (fun h3 => ?_)
  · refine JC.seq ?_
    refine JC.region fun b4 => ?_
    refine JS.run 1 (by kernel_rfl) ?_
    refine JS.nil ?_
    refine JC.to2 [(4, .x (.bool false))] [] (by kernel_rfl) (by kernel_rfl) ?_
    refine JC.skipT ?_
    refine JC.retT ?_
    exact JC.finB (ex := .ret) (vs := [.x (.bool false)]) (is := []) rfl ret_ne ⟨(by kernel_rfl), trivial⟩ (Outs.sc rfl Outs.nil)
  · refine JC.skipT ?_
    refine JC.seq ?_
    refine JC.seq ?_
    refine JC.region fun b5 => ?_
    refine JS.run 1 (by kernel_rfl) ?_
    refine JS.nil ?_
    refine JC.to2 [(0, .c 1 (.lst 1 (a0.map fD))), (1, .c 1 (.lst 1 (a1.map fD))), (5, .x (.int .i64 (0 : Int)))] [] (by kernel_rfl) (by kernel_rfl) ?_
    refine JC.skipT ?_
    refine JC.block ?_
    refine JC.to2 [(0, .c 1 (.lst 1 (a0.map fD))), (1, .c 1 (.lst 1 (a1.map fD))), (5, .x (.int .i64 (0 : Int)))] [] (by kernel_rfl) (by kernel_rfl) ?_
    refine JC.to2 [(0, .c 1 (.lst 1 (a0.map fD))), (1, .c 1 (.lst 1 (a1.map fD))), (5, .x (.int .i64 (0 : Int)))] [] (by kernel_rfl) (by kernel_rfl) ?_
    refine JC.bind (A := fun v ex E R => match v with | Sum.inl v => ex = (.exit 0) ∧ E = [] ∧ R = [] | Sum.inr v => ex = .ret ∧ E = [(4, .x (.bool false))] ∧ R = []) (eyotref1_SameAll_l0_ok a0 a1 k (0 : Int)) ?_
    rintro v ex E' R' hA
    rcases v with _ | _
    · obtain ⟨rfl, rfl, rfl⟩ := hA
      refine JC.to2 [] [] (by kernel_rfl) (by kernel_rfl) ?_
      refine JC.exitB ?_
      refine JC.skipT ?_
      refine JC.seq ?_
      refine JC.region fun b19 => ?_
      refine JS.run 1 (by kernel_rfl) ?_
      refine JS.nil ?_
      refine JC.to2 [(4, .x (.bool true))] [] (by kernel_rfl) (by kernel_rfl) ?_
      refine JC.skipT ?_
      exact JC.finB (ex := .ret) (vs := [.x (.bool true)]) (is := []) rfl ret_ne ⟨(by kernel_rfl), trivial⟩ (Outs.sc rfl Outs.nil)
    · obtain ⟨rfl, rfl, rfl⟩ := hA
      refine JC.to2 [(4, .x (.bool false))] [] (by kernel_rfl) (by kernel_rfl) ?_
      refine JC.retB ?_
      refine JC.retT ?_
      exact JC.finB (ex := .ret) (vs := [.x (.bool false)]) (is := []) rfl ret_ne ⟨(by kernel_rfl), trivial⟩ (Outs.sc rfl Outs.nil)
/-! slices.swapRangeCmpFunc[float64] -/
def slices_swapRangeCmpFunc_l0 (a1 : Int) (a2 : Int) (a3 : Int) : Nat → Int → (List Fl) → Option (List Fl)
  | 0, _, _ => none
  | k + 1, x2, x3 => cond (decide (x2 < a3)) ((at? x3 (IntKind.i64.wrap (a2 + x2))).bind fun w8 => (at? x3 (IntKind.i64.wrap (a1 + x2))).bind fun w12 => (at? x3 (IntKind.i64.wrap (a1 + x2))).bind fun w16 => (at? (List.set x3 ((IntKind.i64.wrap (a1 + x2)).toNat) w8) (IntKind.i64.wrap (a2 + x2))).bind fun w20 => slices_swapRangeCmpFunc_l0 a1 a2 a3 k (IntKind.i64.wrap (x2 + (1 : Int))) (List.set (List.set x3 ((IntKind.i64.wrap (a1 + x2)).toNat) w8) ((IntKind.i64.wrap (a2 + x2)).toNat) w12)) (some x3)
theorem slices_swapRangeCmpFunc_l0_ok (a1 : Int) (a2 : Int) (a3 : Int) (fr : Nat → Option Blk) (o0 : Option Nat) : ∀ (k : Nat) (x2 : Int) (x3 : (List Fl)), JC prog fr 38 [(0, .ref o0 0 x3.length), (1, .x (.int .i64 a1)), (2, .x (.int .i64 a2)), (3, .x (.int .i64 a3)), (10, .x (.int .i64 x2))] [⟨o0, 1, vl fD x3⟩] (.loop pf37_L0) (slices_swapRangeCmpFunc_l0 a1 a2 a3 k x2 x3) (fun x => GotA 38 fr ((fun v ex E R => ex = (.exit 0) ∧ E = [(0, .ref o0 0 v.length)] ∧ R = [⟨o0, 1, vl fD v⟩]) x)) := by
  intro k
  induction k with
  | zero =>
    intro x2 x3
    exact JC.no
  | succ k ih =>
    intro x2 x3
    rw [slices_swapRangeCmpFunc_l0]
    refine JC.loop ?_
    refine JC.seq ?_
    refine JC.seq ?_
    refine JC.region fun b5 => ?_
    refine JS.run 3 (by kernel_rfl) ?_
    refine JS.nil ?_
    refine JC.to2 [(0, .ref o0 0 x3.length), (1, .x (.int .i64 a1)), (2, .x (.int .i64 a2)), (3, .x (.int .i64 a3)), (10, .x (.int .i64 x2)), (13, .x (.bool (decide (x2 < a3))))] [⟨o0, 1, vl fD x3⟩] (by kernel_rfl) (by kernel_rfl) ?_
    refine JC.skipT ?_
    refine JC.cond (e := (decide (x2 < a3))) (by kernel_rfl) (fun h6 => ?_) (fun h6 => ?_)
    · refine JC.skipT ?_
      refine JC.seq ?_
      refine JC.block ?_
      refine JC.region fun b7 => ?_
      refine JS.run 12 (by kernel_rfl) ?_
      refine JS.idxT (c := fD) (l := x3) (o := o0) (kk := .i64) (z := (IntKind.i64.wrap (a2 + x2))) 0 (by kernel_rfl) (by kernel_rfl) (by kernel_rfl) (by kernel_rfl) (by kernel_rfl) (fun id10 w8 e11 h9 => ?_)
      subst e11
      refine JS.loadO (id := id10) (sz := 1) (p := (IntKind.i64.wrap (a2 + x2)).toNat) (j := 0) (es := (vl fD x3)) (e := (cv fD w8)) 0 (by kernel_rfl) (vl_get h9) (by kernel_rfl) (by kernel_rfl) (by kernel_rfl) (by kernel_rfl) ?_
      refine JS.run 4 (by kernel_rfl) ?_
      refine JS.idxT (c := fD) (l := x3) (o := (some id10)) (kk := .i64) (z := (IntKind.i64.wrap (a1 + x2))) 0 (by kernel_rfl) (by kernel_rfl) (by kernel_rfl) (by kernel_rfl) (by kernel_rfl) (fun id14 w12 e15 h13 => ?_)
      have e15' : id10 = id14 := by injection e15
      subst e15'
      refine JS.loadO (id := id10) (sz := 1) (p := (IntKind.i64.wrap (a1 + x2)).toNat) (j := 0) (es := (vl fD x3)) (e := (cv fD w12)) 0 (by kernel_rfl) (vl_get h13) (by kernel_rfl) (by kernel_rfl) (by kernel_rfl) (by kernel_rfl) ?_
      refine JS.idxT (c := fD) (l := x3) (o := (some id10)) (kk := .i64) (z := (IntKind.i64.wrap (a1 + x2))) 0 (by kernel_rfl) (by kernel_rfl) (by kernel_rfl) (by kernel_rfl) (by kernel_rfl) (fun id18 w16 e19 h17 => ?_)
      have e19' : id10 = id18 := by injection e19
      subst e19'
      refine JS.storeO (id := id10) (sz := 1) (p := (IntKind.i64.wrap (a1 + x2)).toNat) (j := 0) (es := (vl fD x3)) (es2 := (vl fD (List.set x3 ((IntKind.i64.wrap (a1 + x2)).toNat) w8))) (e := (cv fD w16)) (w := .x (.flt w8)) 0 (by kernel_rfl) (vl_get h17) (by kernel_rfl) (by kernel_rfl) (by kernel_rfl) (vl_set (a := w8) (by kernel_rfl)) (by kernel_rfl) ?_
      refine JS.relen (o := (some id10)) (off := 0) (n := x3.length) (n' := (List.set x3 ((IntKind.i64.wrap (a1 + x2)).toNat) w8).length) 20 (by kernel_rfl) (by simp [vl]) ?_
      refine JS.idxT (c := fD) (l := (List.set x3 ((IntKind.i64.wrap (a1 + x2)).toNat) w8)) (o := (some id10)) (kk := .i64) (z := (IntKind.i64.wrap (a2 + x2))) 0 (by kernel_rfl) (by kernel_rfl) (by kernel_rfl) (by kernel_rfl) (by kernel_rfl) (fun id22 w20 e23 h21 => ?_)
      have e23' : id10 = id22 := by injection e23
      subst e23'
      refine JS.storeO (id := id10) (sz := 1) (p := (IntKind.i64.wrap (a2 + x2)).toNat) (j := 0) (es := (vl fD (List.set x3 ((IntKind.i64.wrap (a1 + x2)).toNat) w8))) (es2 := (vl fD (List.set (List.set x3 ((IntKind.i64.wrap (a1 + x2)).toNat) w8) ((IntKind.i64.wrap (a2 + x2)).toNat) w12))) (e := (cv fD w20)) (w := .x (.flt w12)) 0 (by kernel_rfl) (vl_get h21) (by kernel_rfl) (by kernel_rfl) (by kernel_rfl) (vl_set (a := w12) (by kernel_rfl)) (by kernel_rfl) ?_
      refine JS.nil ?_
      refine JC.to2 [(0, .ref (some id10) 0 x3.length), (1, .x (.int .i64 a1)), (2, .x (.int .i64 a2)), (3, .x (.int .i64 a3)), (10, .x (.int .i64 x2))] [⟨(some id10), 1, vl fD (List.set (List.set x3 ((IntKind.i64.wrap (a1 + x2)).toNat) w8) ((IntKind.i64.wrap (a2 + x2)).toNat) w12)⟩] (by kernel_rfl) (by kernel_rfl) ?_
      refine JC.skipB ?_
      refine JC.skipT ?_
      refine JC.region fun b24 => ?_
      refine JS.run 3 (by kernel_rfl) ?_
      refine JS.nil ?_
      refine JC.to2 [(0, .ref (some id10) 0 x3.length), (1, .x (.int .i64 a1)), (2, .x (.int .i64 a2)), (3, .x (.int .i64 a3)), (10, .x (.int .i64 (IntKind.i64.wrap (x2 + (1 : Int)))))] [⟨(some id10), 1, vl fD (List.set (List.set x3 ((IntKind.i64.wrap (a1 + x2)).toNat) w8) ((IntKind.i64.wrap (a2 + x2)).toNat) w12)⟩] (by kernel_rfl) (by kernel_rfl) ?_
      refine JC.skipL ?_
      refine JC.relen (o := (some id10)) (off := 0) (n := x3.length) (n' := (List.set (List.set x3 ((IntKind.i64.wrap (a1 + x2)).toNat) w8) ((IntKind.i64.wrap (a2 + x2)).toNat) w12).length) 0 (by kernel_rfl) (by simp [vl]) ?_
      refine JC.to2 [(0, .ref (some id10) 0 ((List.set (List.set x3 ((IntKind.i64.wrap (a1 + x2)).toNat) w8) ((IntKind.i64.wrap (a2 + x2)).toNat) w12).length)), (1, .x (.int .i64 a1)), (2, .x (.int .i64 a2)), (3, .x (.int .i64 a3)), (10, .x (.int .i64 (IntKind.i64.wrap (x2 + (1 : Int)))))] [⟨(some id10), 1, vl fD (List.set (List.set x3 ((IntKind.i64.wrap (a1 + x2)).toNat) w8) ((IntKind.i64.wrap (a2 + x2)).toNat) w12)⟩] (by kernel_rfl) (by kernel_rfl) ?_
      exact ih (IntKind.i64.wrap (x2 + (1 : Int))) (List.set (List.set x3 ((IntKind.i64.wrap (a1 + x2)).toNat) w8) ((IntKind.i64.wrap (a2 + x2)).toNat) w12)
    · refine JC.exitT ?_
      refine JC.exitL ?_
      refine JC.to2 [(0, .ref o0 0 x3.length)] [⟨o0, 1, vl fD x3⟩] (by kernel_rfl) (by kernel_rfl) ?_
      exact JC.got (ex := (.exit 0)) rfl ⟨rfl, rfl, rfl⟩
def slices_swapRangeCmpFunc (k : Nat) (a0 : (List Fl)) (a1 : Int) (a2 : Int) (a3 : Int) : Option (List Fl) :=
  (slices_swapRangeCmpFunc_l0 a1 a2 a3 k (0 : Int) a0).bind fun y4 => keepL a0 y4
theorem slices_swapRangeCmpFunc_ok (k : Nat) : ∀ (a0 : (List Fl)) (a1 : Int) (a2 : Int) (a3 : Int) (r : (List Fl)), slices_swapRangeCmpFunc k a0 a1 a2 a3 = some r → InOk prog 37 1 fD [.x (.int .i64 a1), .x (.int .i64 a2), .x (.int .i64 a3), .x (.fn 26)] a0 r := by
  intro a0 a1 a2 a3
  refine InOk.of (pf := pf37) rfl rfl rfl rfl ?_
  intro fr o0
  unfold slices_swapRangeCmpFunc pf37
  refine JC.seq ?_
  refine JC.region fun b1 => ?_
  refine JS.run 1 (by kernel_rfl) ?_
  refine JS.nil ?_
  refine JC.to2 [(0, .ref o0 0 a0.length), (1, .x (.int .i64 a1)), (2, .x (.int .i64 a2)), (3, .x (.int .i64 a3)), (10, .x (.int .i64 (0 : Int)))] [⟨o0, 1, vl fD a0⟩] (by kernel_rfl) (by kernel_rfl) ?_
  refine JC.skipT ?_
  refine JC.block ?_
  refine JC.to2 [(0, .ref o0 0 a0.length), (1, .x (.int .i64 a1)), (2, .x (.int .i64 a2)), (3, .x (.int .i64 a3)), (10, .x (.int .i64 (0 : Int)))] [⟨o0, 1, vl fD a0⟩] (by kernel_rfl) (by kernel_rfl) ?_
  refine JC.to2 [(0, .ref o0 0 a0.length), (1, .x (.int .i64 a1)), (2, .x (.int .i64 a2)), (3, .x (.int .i64 a3)), (10, .x (.int .i64 (0 : Int)))] [⟨o0, 1, vl fD a0⟩] (by kernel_rfl) (by kernel_rfl) ?_
  refine JC.bind (A := fun v ex E R => ex = (.exit 0) ∧ E = [(0, .ref o0 0 v.length)] ∧ R = [⟨o0, 1, vl fD v⟩]) (slices_swapRangeCmpFunc_l0_ok a1 a2 a3 fr o0 k (0 : Int) a0) ?_
  rintro y4 ex E' R' hA
  obtain ⟨rfl, rfl, rfl⟩ := hA
  refine JC.to2 [(0, .ref o0 0 y4.length)] [⟨o0, 1, vl fD y4⟩] (by kernel_rfl) (by kernel_rfl) ?_
  refine JC.exitB ?_
  exact JC.finI (ex := .normal) (l := a0) rfl normal_ne rfl
/-! slices.rotateCmpFunc[float64] -/
def slices_rotateCmpFunc_l0 (a2 : Int) : Nat → Int → Int → (List Fl) → Option ((List Fl) × Int)
  | 0, _, _, _ => none
  | k + 1, x3, x4, x5 => cond (x3 != x4) (cond (decide (x3 > x4)) ((slices_swapRangeCmpFunc k x5 (IntKind.i64.wrap (a2 - x3)) a2 x4).bind fun r13 => slices_rotateCmpFunc_l0 a2 k (IntKind.i64.wrap (x3 - x4)) x4 r13) ((slices_swapRangeCmpFunc k x5 (IntKind.i64.wrap (a2 - x3)) (IntKind.i64.wrap ((IntKind.i64.wrap (a2 + x4)) - x3)) x3).bind fun r18 => slices_rotateCmpFunc_l0 a2 k x3 (IntKind.i64.wrap (x4 - x3)) r18)) (some (x5, x3))
theorem slices_rotateCmpFunc_l0_ok (a2 : Int) (fr : Nat → Option Blk) (o0 : Option Nat) : ∀ (k : Nat) (x3 : Int) (x4 : Int) (x5 : (List Fl)), JC prog fr 58 [(0, .ref o0 0 x5.length), (2, .x (.int .i64 a2)), (4, .x (.fn 26)), (10, .x (.int .i64 x3)), (11, .x (.int .i64 x4))] [⟨o0, 1, vl fD x5⟩] (.loop pf36_L0) (slices_rotateCmpFunc_l0 a2 k x3 x4 x5) (fun x => GotA 58 fr ((fun v ex E R => ex = (.exit 0) ∧ E = [(0, .ref o0 0 v.1.length), (2, .x (.int .i64 a2)), (4, .x (.fn 26)), (10, .x (.int .i64 v.2))] ∧ R = [⟨o0, 1, vl fD v.1⟩]) x)) := by
  intro k
  induction k with
  | zero =>
    intro x3 x4 x5
    exact JC.no
  | succ k ih =>
    intro x3 x4 x5
    rw [slices_rotateCmpFunc_l0]
    refine JC.loop ?_
    refine JC.seq ?_
    refine JC.seq ?_
    refine JC.region fun b8 => ?_
    refine JS.run 3 (by kernel_rfl) ?_
    refine JS.nil ?_
    refine JC.to2 [(0, .ref o0 0 x5.length), (2, .x (.int .i64 a2)), (4, .x (.fn 26)), (10, .x (.int .i64 x3)), (11, .x (.int .i64 x4)), (20, .x (.bool (x3 != x4)))] [⟨o0, 1, vl fD x5⟩] (by kernel_rfl) (by kernel_rfl) ?_
    refine JC.skipT ?_
    refine JC.cond (e := (x3 != x4)) (by kernel_rfl) (fun h9 => ?_) (fun h9 => ?_)
    · refine JC.skipT ?_
      refine JC.block ?_
      refine JC.seq ?_
      refine JC.region fun b10 => ?_
      refine JS.run 3 (by kernel_rfl) ?_
      refine JS.nil ?_
      refine JC.to2 [(0, .ref o0 0 x5.length), (2, .x (.int .i64 a2)), (4, .x (.fn 26)), (10, .x (.int .i64 x3)), (11, .x (.int .i64 x4)), (23, .x (.bool (decide (x3 > x4))))] [⟨o0, 1, vl fD x5⟩] (by kernel_rfl) (by kernel_rfl) ?_
      refine JC.skipT ?_
      refine JC.cond (e := (decide (x3 > x4))) (by kernel_rfl) (fun h11 => ?_) (fun h11 => ?_)
      · refine JC.seq ?_
        refine JC.region fun b12 => ?_
        refine JS.run 7 (by kernel_rfl) ?_
        refine JS.bind fun r13 h14 => ?_
        refine JS.callI (args := [.x (.int .i64 (IntKind.i64.wrap (a2 - x3))), .x (.int .i64 a2), .x (.int .i64 x4), .x (.fn 26)]) (l := x5) (o := o0) [] (slices_swapRangeCmpFunc_ok k x5 (IntKind.i64.wrap (a2 - x3)) a2 x4 r13 h14) (by kernel_rfl) (by kernel_rfl) (by kernel_rfl) (by kernel_rfl) (fun h15 => ?_)
        refine JS.relen (o := o0) (off := 0) (n := x5.length) (n' := r13.length) 0 (by kernel_rfl) h15.symm ?_
        refine JS.relen (o := o0) (off := 0) (n := x5.length) (n' := r13.length) 24 (by kernel_rfl) h15.symm ?_
        refine JS.nil ?_
        refine JC.to2 [(0, .ref o0 0 r13.length), (2, .x (.int .i64 a2)), (4, .x (.fn 26)), (10, .x (.int .i64 x3)), (11, .x (.int .i64 x4))] [⟨o0, 1, vl fD r13⟩] (by kernel_rfl) (by kernel_rfl) ?_
        refine JC.skipT ?_
        refine JC.region fun b16 => ?_
        refine JS.run 4 (by kernel_rfl) ?_
        refine JS.nil ?_
        refine JC.to2 [(0, .ref o0 0 r13.length), (2, .x (.int .i64 a2)), (4, .x (.fn 26)), (10, .x (.int .i64 (IntKind.i64.wrap (x3 - x4)))), (11, .x (.int .i64 x4))] [⟨o0, 1, vl fD r13⟩] (by kernel_rfl) (by kernel_rfl) ?_
        refine JC.skipB ?_
        refine JC.skipL ?_
        refine JC.to2 [(0, .ref o0 0 r13.length), (2, .x (.int .i64 a2)), (4, .x (.fn 26)), (10, .x (.int .i64 (IntKind.i64.wrap (x3 - x4)))), (11, .x (.int .i64 x4))] [⟨o0, 1, vl fD r13⟩] (by kernel_rfl) (by kernel_rfl) ?_
        exact ih (IntKind.i64.wrap (x3 - x4)) x4 r13
      · refine JC.seq ?_
        refine JC.region fun b17 => ?_
        refine JS.run 11 (by kernel_rfl) ?_
        refine JS.bind fun r18 h19 => ?_
        refine JS.callI (args := [.x (.int .i64 (IntKind.i64.wrap (a2 - x3))), .x (.int .i64 (IntKind.i64.wrap ((IntKind.i64.wrap (a2 + x4)) - x3))), .x (.int .i64 x3), .x (.fn 26)]) (l := x5) (o := o0) [] (slices_swapRangeCmpFunc_ok k x5 (IntKind.i64.wrap (a2 - x3)) (IntKind.i64.wrap ((IntKind.i64.wrap (a2 + x4)) - x3)) x3 r18 h19) (by kernel_rfl) (by kernel_rfl) (by kernel_rfl) (by kernel_rfl) (fun h20 => ?_)
        refine JS.relen (o := o0) (off := 0) (n := x5.length) (n' := r18.length) 0 (by kernel_rfl) h20.symm ?_
        refine JS.relen (o := o0) (off := 0) (n := x5.length) (n' := r18.length) 35 (by kernel_rfl) h20.symm ?_
        refine JS.nil ?_
        refine JC.to2 [(0, .ref o0 0 r18.length), (2, .x (.int .i64 a2)), (4, .x (.fn 26)), (10, .x (.int .i64 x3)), (11, .x (.int .i64 x4))] [⟨o0, 1, vl fD r18⟩] (by kernel_rfl) (by kernel_rfl) ?_
        refine JC.skipT ?_
        refine JC.region fun b21 => ?_
        refine JS.run 4 (by kernel_rfl) ?_
        refine JS.nil ?_
        refine JC.to2 [(0, .ref o0 0 r18.length), (2, .x (.int .i64 a2)), (4, .x (.fn 26)), (10, .x (.int .i64 x3)), (11, .x (.int .i64 (IntKind.i64.wrap (x4 - x3))))] [⟨o0, 1, vl fD r18⟩] (by kernel_rfl) (by kernel_rfl) ?_
        refine JC.skipB ?_
        refine JC.skipL ?_
        refine JC.to2 [(0, .ref o0 0 r18.length), (2, .x (.int .i64 a2)), (4, .x (.fn 26)), (10, .x (.int .i64 x3)), (11, .x (.int .i64 (IntKind.i64.wrap (x4 - x3))))] [⟨o0, 1, vl fD r18⟩] (by kernel_rfl) (by kernel_rfl) ?_
        exact ih x3 (IntKind.i64.wrap (x4 - x3)) r18
    · refine JC.exitT ?_
      refine JC.exitL ?_
      refine JC.to2 [(0, .ref o0 0 x5.length), (2, .x (.int .i64 a2)), (4, .x (.fn 26)), (10, .x (.int .i64 x3))] [⟨o0, 1, vl fD x5⟩] (by kernel_rfl) (by kernel_rfl) ?_
      exact JC.got (ex := (.exit 0)) rfl ⟨rfl, rfl, rfl⟩
def slices_rotateCmpFunc (k : Nat) (a0 : (List Fl)) (a1 : Int) (a2 : Int) (a3 : Int) : Option (List Fl) :=
  (slices_rotateCmpFunc_l0 a2 k (IntKind.i64.wrap (a2 - a1)) (IntKind.i64.wrap (a3 - a2)) a0).bind fun (y6, y7) => (slices_swapRangeCmpFunc k y6 (IntKind.i64.wrap (a2 - y7)) a2 y7).bind fun r23 => keepL a0 r23
theorem slices_rotateCmpFunc_ok (k : Nat) : ∀ (a0 : (List Fl)) (a1 : Int) (a2 : Int) (a3 : Int) (r : (List Fl)), slices_rotateCmpFunc k a0 a1 a2 a3 = some r → InOk prog 36 1 fD [.x (.int .i64 a1), .x (.int .i64 a2), .x (.int .i64 a3), .x (.fn 26)] a0 r := by
  intro a0 a1 a2 a3
  refine InOk.of (pf := pf36) rfl rfl rfl rfl ?_
  intro fr o0
  unfold slices_rotateCmpFunc pf36
  refine JC.seq ?_
  refine JC.region fun b1 => ?_
  refine JS.run 4 (by kernel_rfl) ?_
  refine JS.nil ?_
  refine JC.to2 [(0, .ref o0 0 a0.length), (2, .x (.int .i64 a2)), (3, .x (.int .i64 a3)), (4, .x (.fn 26)), (10, .x (.int .i64 (IntKind.i64.wrap (a2 - a1))))] [⟨o0, 1, vl fD a0⟩] (by kernel_rfl) (by kernel_rfl) ?_
  refine JC.skipT ?_
  refine JC.seq ?_
  refine JC.region fun b2 => ?_
  refine JS.run 4 (by kernel_rfl) ?_
  refine JS.nil ?_
  refine JC.to2 [(0, .ref o0 0 a0.length), (2, .x (.int .i64 a2)), (4, .x (.fn 26)), (10, .x (.int .i64 (IntKind.i64.wrap (a2 - a1)))), (11, .x (.int .i64 (IntKind.i64.wrap (a3 - a2))))] [⟨o0, 1, vl fD a0⟩] (by kernel_rfl) (by kernel_rfl) ?_
  refine JC.skipT ?_
  refine JC.seq ?_
  refine JC.block ?_
  refine JC.to2 [(0, .ref o0 0 a0.length), (2, .x (.int .i64 a2)), (4, .x (.fn 26)), (10, .x (.int .i64 (IntKind.i64.wrap (a2 - a1)))), (11, .x (.int .i64 (IntKind.i64.wrap (a3 - a2))))] [⟨o0, 1, vl fD a0⟩] (by kernel_rfl) (by kernel_rfl) ?_
  refine JC.to2 [(0, .ref o0 0 a0.length), (2, .x (.int .i64 a2)), (4, .x (.fn 26)), (10, .x (.int .i64 (IntKind.i64.wrap (a2 - a1)))), (11, .x (.int .i64 (IntKind.i64.wrap (a3 - a2))))] [⟨o0, 1, vl fD a0⟩] (by kernel_rfl) (by kernel_rfl) ?_
  refine JC.bind (A := fun v ex E R => ex = (.exit 0) ∧ E = [(0, .ref o0 0 v.1.length), (2, .x (.int .i64 a2)), (4, .x (.fn 26)), (10, .x (.int .i64 v.2))] ∧ R = [⟨o0, 1, vl fD v.1⟩]) (slices_rotateCmpFunc_l0_ok a2 fr o0 k (IntKind.i64.wrap (a2 - a1)) (IntKind.i64.wrap (a3 - a2)) a0) ?_
  rintro ⟨y6, y7⟩ ex E' R' hA
  obtain ⟨rfl, rfl, rfl⟩ := hA
  refine JC.to2 [(0, .ref o0 0 y6.length), (2, .x (.int .i64 a2)), (4, .x (.fn 26)), (10, .x (.int .i64 y7))] [⟨o0, 1, vl fD y6⟩] (by kernel_rfl) (by kernel_rfl) ?_
  refine JC.exitB ?_
  refine JC.skipT ?_
  refine JC.region fun b22 => ?_
  refine JS.run 7 (by kernel_rfl) ?_
  refine JS.bind fun r23 h24 => ?_
  refine JS.callI (args := [.x (.int .i64 (IntKind.i64.wrap (a2 - y7))), .x (.int .i64 a2), .x (.int .i64 y7), .x (.fn 26)]) (l := y6) (o := o0) [] (slices_swapRangeCmpFunc_ok k y6 (IntKind.i64.wrap (a2 - y7)) a2 y7 r23 h24) (by kernel_rfl) (by kernel_rfl) (by kernel_rfl) (by kernel_rfl) (fun h25 => ?_)
  refine JS.relen (o := o0) (off := 0) (n := y6.length) (n' := r23.length) 0 (by kernel_rfl) h25.symm ?_
  refine JS.relen (o := o0) (off := 0) (n := y6.length) (n' := r23.length) 50 (by kernel_rfl) h25.symm ?_
  refine JS.nil ?_
  refine JC.to2 [(0, .ref o0 0 r23.length)] [⟨o0, 1, vl fD r23⟩] (by kernel_rfl) (by kernel_rfl) ?_
  exact JC.finI (ex := .normal) (l := a0) rfl normal_ne rfl
/-! slices.insertionSortCmpFunc[float64] -/
def slices_insertionSortCmpFunc_l1 (a1 : Int) (a2 : Int) (x2 : Int) : Nat → Int → (List Fl) → Option (List Fl)
  | 0, _, _ => none
  | k + 1, x8, x9 => (cond (decide (x8 > a1)) ((at? x9 x8).bind fun w14 => (at? x9 (IntKind.i64.wrap (x8 - (1 : Int)))).bind fun w18 => (weigh_Order k w14 w18).bind fun r22 => some (decide (r22 < (0 : Int)))) (some false)).bind fun y11 => cond y11 ((at? x9 (IntKind.i64.wrap (x8 - (1 : Int)))).bind fun w26 => (at? x9 x8).bind fun w30 => (at? x9 x8).bind fun w34 => (at? (List.set x9 x8.toNat w26) (IntKind.i64.wrap (x8 - (1 : Int)))).bind fun w38 => slices_insertionSortCmpFunc_l1 a1 a2 x2 k (IntKind.i64.wrap (x8 - (1 : Int))) (List.set (List.set x9 x8.toNat w26) ((IntKind.i64.wrap (x8 - (1 : Int))).toNat) w30)) (some x9)
theorem slices_insertionSortCmpFunc_l1_ok (a1 : Int) (a2 : Int) (x2 : Int) (fr : Nat → Option Blk) (o0 : Option Nat) : ∀ (k : Nat) (x8 : Int) (x9 : (List Fl)), JC prog fr 53 [(0, .ref o0 0 x9.length), (1, .x (.int .i64 a1)), (2, .x (.int .i64 a2)), (3, .x (.fn 26)), (8, .x (.int .i64 x2)), (9, .x (.int .i64 x8))] [⟨o0, 1, vl fD x9⟩] (.loop pf33_L0) (slices_insertionSortCmpFunc_l1 a1 a2 x2 k x8 x9) (fun x => GotA 53 fr ((fun v ex E R => ex = (.exit 2) ∧ E = [(0, .ref o0 0 v.length), (1, .x (.int .i64 a1)), (2, .x (.int .i64 a2)), (3, .x (.fn 26)), (8, .x (.int .i64 x2))] ∧ R = [⟨o0, 1, vl fD v⟩]) x)) := by
  intro k
  induction k with
  | zero =>
    intro x8 x9
    exact JC.no
  | succ k ih =>
    intro x8 x9
    rw [slices_insertionSortCmpFunc_l1]
    refine JC.loop ?_
    refine JC.seq ?_
    refine JC.seq ?_
    refine JC.bind (A := fun v ex E R => ex = .normal ∧ E = [(0, .ref o0 0 x9.length), (1, .x (.int .i64 a1)), (2, .x (.int .i64 a2)), (3, .x (.fn 26)), (8, .x (.int .i64 x2)), (9, .x (.int .i64 x8)), (34, .x (.bool v))] ∧ R = [⟨o0, 1, vl fD x9⟩]) ?_ ?_
    · refine JC.region fun b12 => ?_
      refine JS.run 4 (by kernel_rfl) ?_
      refine JS.split (e := (decide (x8 > a1))) 21 (by kernel_rfl) (fun h13 => ?_) (fun h13 => ?_)
      · refine JS.run 3 (by kernel_rfl) ?_
        refine JS.idxT (c := fD) (l := x9) (o := o0) (kk := .i64) (z := x8) 0 (by kernel_rfl) (by kernel_rfl) (by kernel_rfl) (by kernel_rfl) (by kernel_rfl) (fun id16 w14 e17 h15 => ?_)
        subst e17
        refine JS.loadO (id := id16) (sz := 1) (p := x8.toNat) (j := 0) (es := (vl fD x9)) (e := (cv fD w14)) 0 (by kernel_rfl) (vl_get h15) (by kernel_rfl) (by kernel_rfl) (by kernel_rfl) (by kernel_rfl) ?_
        refine JS.run 3 (by kernel_rfl) ?_
        refine JS.idxT (c := fD) (l := x9) (o := (some id16)) (kk := .i64) (z := (IntKind.i64.wrap (x8 - (1 : Int)))) 0 (by kernel_rfl) (by kernel_rfl) (by kernel_rfl) (by kernel_rfl) (by kernel_rfl) (fun id20 w18 e21 h19 => ?_)
        have e21' : id16 = id20 := by injection e21
        subst e21'
        refine JS.loadO (id := id16) (sz := 1) (p := (IntKind.i64.wrap (x8 - (1 : Int))).toNat) (j := 0) (es := (vl fD x9)) (e := (cv fD w18)) 0 (by kernel_rfl) (vl_get h19) (by kernel_rfl) (by kernel_rfl) (by kernel_rfl) (by kernel_rfl) ?_
        refine JS.toCallQ (p := 26) (by kernel_rfl) (by kernel_rfl) ?_
        refine JS.bind fun r22 h23 => ?_
        refine JS.callQS [] (weigh_Order_ok k w14 w18 r22 h23) ⟨rfl, argX (d := (.flt w14)) (by kernel_rfl) (by kernel_rfl), rfl, argX (d := (.flt w18)) (by kernel_rfl) (by kernel_rfl), trivial⟩ (by kernel_rfl) (by kernel_rfl) (by kernel_rfl) ?_
        refine JS.run 2 (by kernel_rfl) ?_
        refine JS.nil ?_
        refine JC.to2 [(0, .ref (some id16) 0 x9.length), (1, .x (.int .i64 a1)), (2, .x (.int .i64 a2)), (3, .x (.fn 26)), (8, .x (.int .i64 x2)), (9, .x (.int .i64 x8)), (34, .x (.bool (decide (r22 < (0 : Int)))))] [⟨(some id16), 1, vl fD x9⟩] (by kernel_rfl) (by kernel_rfl) ?_
        refine JC.to2 [(0, .ref (some id16) 0 x9.length), (1, .x (.int .i64 a1)), (2, .x (.int .i64 a2)), (3, .x (.fn 26)), (8, .x (.int .i64 x2)), (9, .x (.int .i64 x8)), (34, .x (.bool (decide (r22 < (0 : Int)))))] [⟨(some id16), 1, vl fD x9⟩] (by kernel_rfl) (by kernel_rfl) ?_
        exact JC.got (ex := .normal) rfl ⟨rfl, rfl, rfl⟩
      · refine JS.run 13 (by kernel_rfl) ?_
        refine JS.nil ?_
        refine JC.to2 [(0, .ref o0 0 x9.length), (1, .x (.int .i64 a1)), (2, .x (.int .i64 a2)), (3, .x (.fn 26)), (8, .x (.int .i64 x2)), (9, .x (.int .i64 x8)), (34, .x (.bool false))] [⟨o0, 1, vl fD x9⟩] (by kernel_rfl) (by kernel_rfl) ?_
        refine JC.to2 [(0, .ref o0 0 x9.length), (1, .x (.int .i64 a1)), (2, .x (.int .i64 a2)), (3, .x (.fn 26)), (8, .x (.int .i64 x2)), (9, .x (.int .i64 x8)), (34, .x (.bool false))] [⟨o0, 1, vl fD x9⟩] (by kernel_rfl) (by kernel_rfl) ?_
        exact JC.got (ex := .normal) rfl ⟨rfl, rfl, rfl⟩
    · rintro y11 ex E' R' hA
      obtain ⟨rfl, rfl, rfl⟩ := hA
      refine JC.to2 [(0, .ref o0 0 x9.length), (1, .x (.int .i64 a1)), (2, .x (.int .i64 a2)), (3, .x (.fn 26)), (8, .x (.int .i64 x2)), (9, .x (.int .i64 x8)), (34, .x (.bool y11))] [⟨o0, 1, vl fD x9⟩] (by kernel_rfl) (by kernel_rfl) ?_
      refine JC.skipT ?_
      refine JC.cond (e := y11) (by kernel_rfl) (fun h24 => ?_) (fun h24 => ?_)
      · refine JC.skipT ?_
        refine JC.seq ?_
        refine JC.block ?_
        refine JC.region fun b25 => ?_
        refine JS.run 8 (by kernel_rfl) ?_
        refine JS.idxT (c := fD) (l := x9) (o := o0) (kk := .i64) (z := (IntKind.i64.wrap (x8 - (1 : Int)))) 0 (by kernel_rfl) (by kernel_rfl) (by kernel_rfl) (by kernel_rfl) (by kernel_rfl) (fun id28 w26 e29 h27 => ?_)
        subst e29
        refine JS.loadO (id := id28) (sz := 1) (p := (IntKind.i64.wrap (x8 - (1 : Int))).toNat) (j := 0) (es := (vl fD x9)) (e := (cv fD w26)) 0 (by kernel_rfl) (vl_get h27) (by kernel_rfl) (by kernel_rfl) (by kernel_rfl) (by kernel_rfl) ?_
        refine JS.run 2 (by kernel_rfl) ?_
        refine JS.idxT (c := fD) (l := x9) (o := (some id28)) (kk := .i64) (z := x8) 0 (by kernel_rfl) (by kernel_rfl) (by kernel_rfl) (by kernel_rfl) (by kernel_rfl) (fun id32 w30 e33 h31 => ?_)
        have e33' : id28 = id32 := by injection e33
        subst e33'
        refine JS.loadO (id := id28) (sz := 1) (p := x8.toNat) (j := 0) (es := (vl fD x9)) (e := (cv fD w30)) 0 (by kernel_rfl) (vl_get h31) (by kernel_rfl) (by kernel_rfl) (by kernel_rfl) (by kernel_rfl) ?_
        refine JS.idxT (c := fD) (l := x9) (o := (some id28)) (kk := .i64) (z := x8) 0 (by kernel_rfl) (by kernel_rfl) (by kernel_rfl) (by kernel_rfl) (by kernel_rfl) (fun id36 w34 e37 h35 => ?_)
        have e37' : id28 = id36 := by injection e37
        subst e37'
        refine JS.storeO (id := id28) (sz := 1) (p := x8.toNat) (j := 0) (es := (vl fD x9)) (es2 := (vl fD (List.set x9 x8.toNat w26))) (e := (cv fD w34)) (w := .x (.flt w26)) 0 (by kernel_rfl) (vl_get h35) (by kernel_rfl) (by kernel_rfl) (by kernel_rfl) (vl_set (a := w26) (by kernel_rfl)) (by kernel_rfl) ?_
        refine JS.relen (o := (some id28)) (off := 0) (n := x9.length) (n' := (List.set x9 x8.toNat w26).length) 39 (by kernel_rfl) (by simp [vl]) ?_
        refine JS.idxT (c := fD) (l := (List.set x9 x8.toNat w26)) (o := (some id28)) (kk := .i64) (z := (IntKind.i64.wrap (x8 - (1 : Int)))) 0 (by kernel_rfl) (by kernel_rfl) (by kernel_rfl) (by kernel_rfl) (by kernel_rfl) (fun id40 w38 e41 h39 => ?_)
        have e41' : id28 = id40 := by injection e41
        subst e41'
        refine JS.storeO (id := id28) (sz := 1) (p := (IntKind.i64.wrap (x8 - (1 : Int))).toNat) (j := 0) (es := (vl fD (List.set x9 x8.toNat w26))) (es2 := (vl fD (List.set (List.set x9 x8.toNat w26) ((IntKind.i64.wrap (x8 - (1 : Int))).toNat) w30))) (e := (cv fD w38)) (w := .x (.flt w30)) 0 (by kernel_rfl) (vl_get h39) (by kernel_rfl) (by kernel_rfl) (by kernel_rfl) (vl_set (a := w30) (by kernel_rfl)) (by kernel_rfl) ?_
        refine JS.nil ?_
        refine JC.to2 [(0, .ref (some id28) 0 x9.length), (1, .x (.int .i64 a1)), (2, .x (.int .i64 a2)), (3, .x (.fn 26)), (8, .x (.int .i64 x2)), (9, .x (.int .i64 x8))] [⟨(some id28), 1, vl fD (List.set (List.set x9 x8.toNat w26) ((IntKind.i64.wrap (x8 - (1 : Int))).toNat) w30)⟩] (by kernel_rfl) (by kernel_rfl) ?_
        refine JC.skipB ?_
        refine JC.skipT ?_
        refine JC.region fun b42 => ?_
        refine JS.run 3 (by kernel_rfl) ?_
        refine JS.nil ?_
        refine JC.to2 [(0, .ref (some id28) 0 x9.length), (1, .x (.int .i64 a1)), (2, .x (.int .i64 a2)), (3, .x (.fn 26)), (8, .x (.int .i64 x2)), (9, .x (.int .i64 (IntKind.i64.wrap (x8 - (1 : Int)))))] [⟨(some id28), 1, vl fD (List.set (List.set x9 x8.toNat w26) ((IntKind.i64.wrap (x8 - (1 : Int))).toNat) w30)⟩] (by kernel_rfl) (by kernel_rfl) ?_
        refine JC.skipL ?_
        refine JC.relen (o := (some id28)) (off := 0) (n := x9.length) (n' := (List.set (List.set x9 x8.toNat w26) ((IntKind.i64.wrap (x8 - (1 : Int))).toNat) w30).length) 0 (by kernel_rfl) (by simp [vl]) ?_
        refine JC.to2 [(0, .ref (some id28) 0 ((List.set (List.set x9 x8.toNat w26) ((IntKind.i64.wrap (x8 - (1 : Int))).toNat) w30).length)), (1, .x (.int .i64 a1)), (2, .x (.int .i64 a2)), (3, .x (.fn 26)), (8, .x (.int .i64 x2)), (9, .x (.int .i64 (IntKind.i64.wrap (x8 - (1 : Int)))))] [⟨(some id28), 1, vl fD (List.set (List.set x9 x8.toNat w26) ((IntKind.i64.wrap (x8 - (1 : Int))).toNat) w30)⟩] (by kernel_rfl) (by kernel_rfl) ?_
        exact ih (IntKind.i64.wrap (x8 - (1 : Int))) (List.set (List.set x9 x8.toNat w26) ((IntKind.i64.wrap (x8 - (1 : Int))).toNat) w30)
      · refine JC.exitT ?_
        refine JC.exitL ?_
        refine JC.to2 [(0, .ref o0 0 x9.length), (1, .x (.int .i64 a1)), (2, .x (.int .i64 a2)), (3, .x (.fn 26)), (8, .x (.int .i64 x2))] [⟨o0, 1, vl fD x9⟩] (by kernel_rfl) (by kernel_rfl) ?_
        exact JC.got (ex := (.exit 2)) rfl ⟨rfl, rfl, rfl⟩
def slices_insertionSortCmpFunc_l0 (a1 : Int) (a2 : Int) : Nat → Int → (List Fl) → Option (List Fl)
  | 0, _, _ => none
  | k + 1, x2, x3 => cond (decide (x2 < a2)) ((slices_insertionSortCmpFunc_l1 a1 a2 x2 k x2 x3).bind fun y10 => slices_insertionSortCmpFunc_l0 a1 a2 k (IntKind.i64.wrap (x2 + (1 : Int))) y10) (some x3)
theorem slices_insertionSortCmpFunc_l0_ok (a1 : Int) (a2 : Int) (fr : Nat → Option Blk) (o0 : Option Nat) : ∀ (k : Nat) (x2 : Int) (x3 : (List Fl)), JC prog fr 53 [(0, .ref o0 0 x3.length), (1, .x (.int .i64 a1)), (2, .x (.int .i64 a2)), (3, .x (.fn 26)), (8, .x (.int .i64 x2))] [⟨o0, 1, vl fD x3⟩] (.loop pf33_L1) (slices_insertionSortCmpFunc_l0 a1 a2 k x2 x3) (fun x => GotA 53 fr ((fun v ex E R => ex = (.exit 0) ∧ E = [(0, .ref o0 0 v.length)] ∧ R = [⟨o0, 1, vl fD v⟩]) x)) := by
  intro k
  induction k with
  | zero =>
    intro x2 x3
    exact JC.no
  | succ k ih =>
    intro x2 x3
    rw [slices_insertionSortCmpFunc_l0]
    refine JC.loop ?_
    refine JC.seq ?_
    refine JC.seq ?_
    refine JC.region fun b5 => ?_
    refine JS.run 3 (by kernel_rfl) ?_
    refine JS.nil ?_
    refine JC.to2 [(0, .ref o0 0 x3.length), (1, .x (.int .i64 a1)), (2, .x (.int .i64 a2)), (3, .x (.fn 26)), (8, .x (.int .i64 x2)), (14, .x (.bool (decide (x2 < a2))))] [⟨o0, 1, vl fD x3⟩] (by kernel_rfl) (by kernel_rfl) ?_
    refine JC.skipT ?_
    refine JC.cond (e := (decide (x2 < a2))) (by kernel_rfl) (fun h6 => ?_) (fun h6 => ?_)
    · refine JC.skipT ?_
      refine JC.seq ?_
      refine JC.block ?_
      refine JC.seq ?_
      refine JC.region fun b7 => ?_
      refine JS.run 2 (by kernel_rfl) ?_
      refine JS.nil ?_
      refine JC.to2 [(0, .ref o0 0 x3.length), (1, .x (.int .i64 a1)), (2, .x (.int .i64 a2)), (3, .x (.fn 26)), (8, .x (.int .i64 x2)), (9, .x (.int .i64 x2))] [⟨o0, 1, vl fD x3⟩] (by kernel_rfl) (by kernel_rfl) ?_
      refine JC.skipT ?_
      refine JC.block ?_
      refine JC.to2 [(0, .ref o0 0 x3.length), (1, .x (.int .i64 a1)), (2, .x (.int .i64 a2)), (3, .x (.fn 26)), (8, .x (.int .i64 x2)), (9, .x (.int .i64 x2))] [⟨o0, 1, vl fD x3⟩] (by kernel_rfl) (by kernel_rfl) ?_
      refine JC.to2 [(0, .ref o0 0 x3.length), (1, .x (.int .i64 a1)), (2, .x (.int .i64 a2)), (3, .x (.fn 26)), (8, .x (.int .i64 x2)), (9, .x (.int .i64 x2))] [⟨o0, 1, vl fD x3⟩] (by kernel_rfl) (by kernel_rfl) ?_
      refine JC.bind (A := fun v ex E R => ex = (.exit 2) ∧ E = [(0, .ref o0 0 v.length), (1, .x (.int .i64 a1)), (2, .x (.int .i64 a2)), (3, .x (.fn 26)), (8, .x (.int .i64 x2))] ∧ R = [⟨o0, 1, vl fD v⟩]) (slices_insertionSortCmpFunc_l1_ok a1 a2 x2 fr o0 k x2 x3) ?_
      rintro y10 ex E' R' hA
      obtain ⟨rfl, rfl, rfl⟩ := hA
      refine JC.to2 [(0, .ref o0 0 y10.length), (1, .x (.int .i64 a1)), (2, .x (.int .i64 a2)), (3, .x (.fn 26)), (8, .x (.int .i64 x2))] [⟨o0, 1, vl fD y10⟩] (by kernel_rfl) (by kernel_rfl) ?_
      refine JC.exitB ?_
      refine JC.skipB ?_
      refine JC.skipT ?_
      refine JC.region fun b43 => ?_
      refine JS.run 3 (by kernel_rfl) ?_
      refine JS.nil ?_
      refine JC.to2 [(0, .ref o0 0 y10.length), (1, .x (.int .i64 a1)), (2, .x (.int .i64 a2)), (3, .x (.fn 26)), (8, .x (.int .i64 (IntKind.i64.wrap (x2 + (1 : Int)))))] [⟨o0, 1, vl fD y10⟩] (by kernel_rfl) (by kernel_rfl) ?_
      refine JC.skipL ?_
      refine JC.to2 [(0, .ref o0 0 y10.length), (1, .x (.int .i64 a1)), (2, .x (.int .i64 a2)), (3, .x (.fn 26)), (8, .x (.int .i64 (IntKind.i64.wrap (x2 + (1 : Int)))))] [⟨o0, 1, vl fD y10⟩] (by kernel_rfl) (by kernel_rfl) ?_
      exact ih (IntKind.i64.wrap (x2 + (1 : Int))) y10
    · refine JC.exitT ?_
      refine JC.exitL ?_
      refine JC.to2 [(0, .ref o0 0 x3.length)] [⟨o0, 1, vl fD x3⟩] (by kernel_rfl) (by kernel_rfl) ?_
      exact JC.got (ex := (.exit 0)) rfl ⟨rfl, rfl, rfl⟩
def slices_insertionSortCmpFunc (k : Nat) (a0 : (List Fl)) (a1 : Int) (a2 : Int) : Option (List Fl) :=
  (slices_insertionSortCmpFunc_l0 a1 a2 k (IntKind.i64.wrap (a1 + (1 : Int))) a0).bind fun y4 => keepL a0 y4
theorem slices_insertionSortCmpFunc_ok (k : Nat) : ∀ (a0 : (List Fl)) (a1 : Int) (a2 : Int) (r : (List Fl)), slices_insertionSortCmpFunc k a0 a1 a2 = some r → InOk prog 33 1 fD [.x (.int .i64 a1), .x (.int .i64 a2), .x (.fn 26)] a0 r := by
  intro a0 a1 a2
  refine InOk.of (pf := pf33) rfl rfl rfl rfl ?_
  intro fr o0
  unfold slices_insertionSortCmpFunc pf33
  refine JC.seq ?_
  refine JC.region fun b1 => ?_
  refine JS.run 3 (by kernel_rfl) ?_
  refine JS.nil ?_
  refine JC.to2 [(0, .ref o0 0 a0.length), (1, .x (.int .i64 a1)), (2, .x (.int .i64 a2)), (3, .x (.fn 26)), (8, .x (.int .i64 (IntKind.i64.wrap (a1 + (1 : Int)))))] [⟨o0, 1, vl fD a0⟩] (by kernel_rfl) (by kernel_rfl) ?_
  refine JC.skipT ?_
  refine JC.block ?_
  refine JC.to2 [(0, .ref o0 0 a0.length), (1, .x (.int .i64 a1)), (2, .x (.int .i64 a2)), (3, .x (.fn 26)), (8, .x (.int .i64 (IntKind.i64.wrap (a1 + (1 : Int)))))] [⟨o0, 1, vl fD a0⟩] (by kernel_rfl) (by kernel_rfl) ?_
  refine JC.to2 [(0, .ref o0 0 a0.length), (1, .x (.int .i64 a1)), (2, .x (.int .i64 a2)), (3, .x (.fn 26)), (8, .x (.int .i64 (IntKind.i64.wrap (a1 + (1 : Int)))))] [⟨o0, 1, vl fD a0⟩] (by kernel_rfl) (by kernel_rfl) ?_
  refine JC.bind (A := fun v ex E R => ex = (.exit 0) ∧ E = [(0, .ref o0 0 v.length)] ∧ R = [⟨o0, 1, vl fD v⟩]) (slices_insertionSortCmpFunc_l0_ok a1 a2 fr o0 k (IntKind.i64.wrap (a1 + (1 : Int))) a0) ?_
  rintro y4 ex E' R' hA
  obtain ⟨rfl, rfl, rfl⟩ := hA
  refine JC.to2 [(0, .ref o0 0 y4.length)] [⟨o0, 1, vl fD y4⟩] (by kernel_rfl) (by kernel_rfl) ?_
  refine JC.exitB ?_
  exact JC.finI (ex := .normal) (l := a0) rfl normal_ne rfl
end Go.Pi

