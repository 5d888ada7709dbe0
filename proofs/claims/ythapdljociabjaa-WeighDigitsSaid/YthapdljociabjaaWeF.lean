import Derived.Test.YthapdljociabjaaWeT
import Derived.Test.YthapdljociabjaaWeP
import Derived.KernelRfl
/-
  THE FUNCTIONS, as terms over lists.
-/
set_option linter.all false
namespace Go.Pi
set_option maxRecDepth 100000
set_option linter.unusedVariables false
set_option maxHeartbeats 2000000
/-! math.NaN -/
def math_NaN (k : Nat)  : Option Fl :=
  some (some (9221120237041090561 : Int).toNat : Fl)
theorem math_NaN_ok (k : Nat)  : ∀ r, math_NaN k = some r → CallOk prog 22 [] false [.sc (.x (.flt r))] := by
  refine CallOk.ofB (pf := pf22) (rs := [.tmp 0]) (Res := fun (r : Fl) => [.sc (.x (.flt r))]) rfl rfl rfl rfl rfl ?_
  unfold math_NaN pf22
  refine JC.seq ?_
  refine JC.region fun b1 => ?_
  refine JS.run 1 (by kernel_rfl) ?_
  refine JS.nil ?_
  refine JC.to2 [] [] (by kernel_rfl) (by kernel_rfl) ?_
  refine JC.skipT ?_
  refine JC.seq ?_
  refine JC.region fun b2 => ?_
  refine JS.run 2 (by kernel_rfl) ?_
  refine JS.nil ?_
  refine JC.to2 [(0, .x (.flt (some (9221120237041090561 : Int).toNat : Fl)))] [] (by kernel_rfl) (by kernel_rfl) ?_
  refine JC.skipT ?_
  exact JC.finB (ex := .ret) (vs := [.x (.flt (some (9221120237041090561 : Int).toNat : Fl))]) (is := []) rfl ret_ne ⟨(by kernel_rfl), trivial⟩ (Outs.sc rfl Outs.nil)
/-! math.Signbit -/
def math_Signbit (k : Nat) (a0 : Fl) : Option Bool :=
  fcase a0 (fun w3 => some (decide ((IntKind.i64.wrap ((w3 : Nat) : Int)) < (0 : Int)))) (none)
theorem math_Signbit_ok (k : Nat) (a0 : Fl) : ∀ r, math_Signbit k a0 = some r → CallOk prog 29 [.x (.flt a0)] false [.sc (.x (.bool r))] := by
  refine CallOk.ofB (pf := pf29) (rs := [.tmp 2]) (Res := fun (r : Bool) => [.sc (.x (.bool r))]) rfl rfl rfl rfl rfl ?_
  unfold math_Signbit pf29
  refine JC.seq ?_
  refine JC.region fun b1 => ?_
  refine JS.run 1 (by kernel_rfl) ?_
  refine JS.nil ?_
  refine JC.to2 [(0, .x (.flt a0))] [] (by kernel_rfl) (by kernel_rfl) ?_
  refine JC.skipT ?_
  refine JC.seq ?_
  refine JC.region fun b2 => ?_
  refine JS.run 1 (by kernel_rfl) ?_
  refine JS.bits (e := a0) (by kernel_rfl) (by kernel_rfl) (by kernel_rfl) (fun w3 h4 => ?_) (fun h4 => ?_)
  · refine JS.run 3 (by kernel_rfl) ?_
    refine JS.nil ?_
    refine JC.to2 [(2, .x (.bool (decide ((IntKind.i64.wrap ((w3 : Nat) : Int)) < (0 : Int)))))] [] (by kernel_rfl) (by kernel_rfl) ?_
    refine JC.skipT ?_
    exact JC.finB (ex := .ret) (vs := [.x (.bool (decide ((IntKind.i64.wrap ((w3 : Nat) : Int)) < (0 : Int))))]) (is := []) rfl ret_ne ⟨(by kernel_rfl), trivial⟩ (Outs.sc rfl Outs.nil)
  · exact JS.no
/-! math.Abs -/
def math_Abs (k : Nat) (a0 : Fl) : Option Fl :=
  fcase a0 (fun w3 => some (some (iandn .u64 ((w3 : Nat) : Int) (9223372036854775808 : Int)).toNat : Fl)) (none)
theorem math_Abs_ok (k : Nat) (a0 : Fl) : ∀ r, math_Abs k a0 = some r → CallOk prog 34 [.x (.flt a0)] false [.sc (.x (.flt r))] := by
  refine CallOk.ofB (pf := pf34) (rs := [.tmp 2]) (Res := fun (r : Fl) => [.sc (.x (.flt r))]) rfl rfl rfl rfl rfl ?_
  unfold math_Abs pf34
  refine JC.seq ?_
  refine JC.region fun b1 => ?_
  refine JS.run 1 (by kernel_rfl) ?_
  refine JS.nil ?_
  refine JC.to2 [(0, .x (.flt a0))] [] (by kernel_rfl) (by kernel_rfl) ?_
  refine JC.skipT ?_
  refine JC.seq ?_
  refine JC.region fun b2 => ?_
  refine JS.run 1 (by kernel_rfl) ?_
  refine JS.bits (e := a0) (by kernel_rfl) (by kernel_rfl) (by kernel_rfl) (fun w3 h4 => ?_) (fun h4 => ?_)
  · refine JS.run 3 (by kernel_rfl) ?_
    refine JS.nil ?_
    refine JC.to2 [(2, .x (.flt (some (iandn .u64 ((w3 : Nat) : Int) (9223372036854775808 : Int)).toNat : Fl)))] [] (by kernel_rfl) (by kernel_rfl) ?_
    refine JC.skipT ?_
    exact JC.finB (ex := .ret) (vs := [.x (.flt (some (iandn .u64 ((w3 : Nat) : Int) (9223372036854775808 : Int)).toNat : Fl))]) (is := []) rfl ret_ne ⟨(by kernel_rfl), trivial⟩ (Outs.sc rfl Outs.nil)
  · exact JS.no
/-! math.IsInf -/
def math_IsInf (k : Nat) (a0 : Fl) (a1 : Int) : Option Bool :=
  cond (a1 == (0 : Int)) ((math_Abs k a0).bind fun r5 => some (fOrd r5 (some 9218868437227405311 : Fl) == some .gt)) (cond (decide (a1 < (0 : Int))) (some (fOrd (fNeg a0) (some 9218868437227405311 : Fl) == some .gt)) (some (fOrd a0 (some 9218868437227405311 : Fl) == some .gt)))
theorem math_IsInf_ok (k : Nat) (a0 : Fl) (a1 : Int) : ∀ r, math_IsInf k a0 a1 = some r → CallOk prog 31 [.x (.flt a0), .x (.int .i64 a1)] false [.sc (.x (.bool r))] := by
  refine CallOk.ofB (pf := pf31) (rs := [.tmp 4]) (Res := fun (r : Bool) => [.sc (.x (.bool r))]) rfl rfl rfl rfl rfl ?_
  unfold math_IsInf pf31
  refine JC.seq ?_
  refine JC.region fun b1 => ?_
  refine JS.run 1 (by kernel_rfl) ?_
  refine JS.nil ?_
  refine JC.to2 [(0, .x (.flt a0)), (1, .x (.int .i64 a1))] [] (by kernel_rfl) (by kernel_rfl) ?_
  refine JC.skipT ?_
  refine JC.seq ?_
  refine JC.seq ?_
  refine JC.region fun b2 => ?_
  refine JS.run 2 (by kernel_rfl) ?_
  refine JS.nil ?_
  refine JC.to2 [(0, .x (.flt a0)), (1, .x (.int .i64 a1)), (6, .x (.bool (a1 == (0 : Int))))] [] (by kernel_rfl) (by kernel_rfl) ?_
  refine JC.skipT ?_
  refine JC.cond (e := (a1 == (0 : Int))) (by kernel_rfl) (fun h3 => ?_) (fun h3 => ?_)
  · refine JC.region fun b4 => ?_
    refine JS.run 1 (by kernel_rfl) ?_
    refine JS.bind fun r5 h6 => ?_
    refine JS.callS [] (math_Abs_ok k a0 r5 h6) ⟨rfl, argX (d := (.flt a0)) (by kernel_rfl) (by kernel_rfl), trivial⟩ (by kernel_rfl) (by kernel_rfl) (by kernel_rfl) ?_
    refine JS.run 1 (by kernel_rfl) ?_
    refine JS.nil ?_
    refine JC.to2 [(0, .x (.flt r5))] [] (by kernel_rfl) (by kernel_rfl) ?_
    refine JC.skipT ?_
    refine JC.seq ?_
    refine JC.region fun b7 => ?_
    refine JS.run 3 (by kernel_rfl) ?_
    refine JS.nil ?_
    refine JC.to2 [(4, .x (.bool (fOrd r5 (some 9218868437227405311 : Fl) == some .gt)))] [] (by kernel_rfl) (by kernel_rfl) ?_
    refine JC.skipT ?_
    exact JC.finB (ex := .ret) (vs := [.x (.bool (fOrd r5 (some 9218868437227405311 : Fl) == some .gt))]) (is := []) rfl ret_ne ⟨(by kernel_rfl), trivial⟩ (Outs.sc rfl Outs.nil)
  · refine JC.seq ?_
    refine JC.region fun b8 => ?_
    refine JS.run 2 (by kernel_rfl) ?_
    refine JS.nil ?_
    refine JC.to2 [(0, .x (.flt a0)), (10, .x (.bool (decide (a1 < (0 : Int)))))] [] (by kernel_rfl) (by kernel_rfl) ?_
    refine JC.skipT ?_
    refine JC.cond (e := (decide (a1 < (0 : Int)))) (by kernel_rfl) (fun h9 => ?_) (fun h9 => ?_)
    · refine JC.region fun b10 => ?_
      refine JS.run 3 (by kernel_rfl) ?_
      refine JS.nil ?_
      refine JC.to2 [(0, .x (.flt (fNeg a0)))] [] (by kernel_rfl) (by kernel_rfl) ?_
      refine JC.skipT ?_
      refine JC.seq ?_
      refine JC.region fun b11 => ?_
      refine JS.run 3 (by kernel_rfl) ?_
      refine JS.nil ?_
      refine JC.to2 [(4, .x (.bool (fOrd (fNeg a0) (some 9218868437227405311 : Fl) == some .gt)))] [] (by kernel_rfl) (by kernel_rfl) ?_
      refine JC.skipT ?_
      exact JC.finB (ex := .ret) (vs := [.x (.bool (fOrd (fNeg a0) (some 9218868437227405311 : Fl) == some .gt))]) (is := []) rfl ret_ne ⟨(by kernel_rfl), trivial⟩ (Outs.sc rfl Outs.nil)
    · refine JC.skipT ?_
      refine JC.seq ?_
      refine JC.region fun b12 => ?_
      refine JS.run 3 (by kernel_rfl) ?_
      refine JS.nil ?_
      refine JC.to2 [(4, .x (.bool (fOrd a0 (some 9218868437227405311 : Fl) == some .gt)))] [] (by kernel_rfl) (by kernel_rfl) ?_
      refine JC.skipT ?_
      exact JC.finB (ex := .ret) (vs := [.x (.bool (fOrd a0 (some 9218868437227405311 : Fl) == some .gt))]) (is := []) rfl ret_ne ⟨(by kernel_rfl), trivial⟩ (Outs.sc rfl Outs.nil)
/-! cmp.isNaN[uint64] -/
def cmp_isNaN (k : Nat) (a0 : Int) : Option Bool :=
  some (a0 != a0)
theorem cmp_isNaN_ok (k : Nat) (a0 : Int) : ∀ r, cmp_isNaN k a0 = some r → CallOk prog 33 [.x (.int .u64 a0)] false [.sc (.x (.bool r))] := by
  refine CallOk.ofB (pf := pf33) (rs := [.tmp 2]) (Res := fun (r : Bool) => [.sc (.x (.bool r))]) rfl rfl rfl rfl rfl ?_
  unfold cmp_isNaN pf33
  refine JC.seq ?_
  refine JC.region fun b1 => ?_
  refine JS.run 1 (by kernel_rfl) ?_
  refine JS.nil ?_
  refine JC.to2 [(0, .x (.int .u64 a0))] [] (by kernel_rfl) (by kernel_rfl) ?_
  refine JC.skipT ?_
  refine JC.seq ?_
  refine JC.region fun b2 => ?_
  refine JS.run 4 (by kernel_rfl) ?_
  refine JS.nil ?_
  refine JC.to2 [(2, .x (.bool (a0 != a0)))] [] (by kernel_rfl) (by kernel_rfl) ?_
  refine JC.skipT ?_
  exact JC.finB (ex := .ret) (vs := [.x (.bool (a0 != a0))]) (is := []) rfl ret_ne ⟨(by kernel_rfl), trivial⟩ (Outs.sc rfl Outs.nil)
/-! cmp.Compare[uint64] -/
def cmp_Compare (k : Nat) (a0 : Int) (a1 : Int) : Option Int :=
  (cmp_isNaN k a0).bind fun r3 => (cmp_isNaN k a1).bind fun r6 => cond r3 (cond r6 (some (0 : Int)) (some (-1 : Int))) (cond r6 (some (1 : Int)) (cond (decide (a0 < a1)) (some (-1 : Int)) (cond (decide (a0 > a1)) (some (1 : Int)) (some (0 : Int)))))
theorem cmp_Compare_ok (k : Nat) (a0 : Int) (a1 : Int) : ∀ r, cmp_Compare k a0 a1 = some r → CallOk prog 28 [.x (.int .u64 a0), .x (.int .u64 a1)] false [.sc (.x (.int .i64 r))] := by
  refine CallOk.ofB (pf := pf28) (rs := [.tmp 4]) (Res := fun (r : Int) => [.sc (.x (.int .i64 r))]) rfl rfl rfl rfl rfl ?_
  unfold cmp_Compare pf28
  refine JC.seq ?_
  refine JC.region fun b1 => ?_
  refine JS.run 1 (by kernel_rfl) ?_
  refine JS.nil ?_
  refine JC.to2 [(0, .x (.int .u64 a0)), (1, .x (.int .u64 a1))] [] (by kernel_rfl) (by kernel_rfl) ?_
  refine JC.skipT ?_
  refine JC.seq ?_
  refine JC.region fun b2 => ?_
  refine JS.run 1 (by kernel_rfl) ?_
  refine JS.bind fun r3 h4 => ?_
  refine JS.callS [] (cmp_isNaN_ok k a0 r3 h4) ⟨rfl, argX (d := (.int .u64 a0)) (by kernel_rfl) (by kernel_rfl), trivial⟩ (by kernel_rfl) (by kernel_rfl) (by kernel_rfl) ?_
  refine JS.run 1 (by kernel_rfl) ?_
  refine JS.nil ?_
  refine JC.to2 [(0, .x (.int .u64 a0)), (1, .x (.int .u64 a1)), (5, .x (.bool r3))] [] (by kernel_rfl) (by kernel_rfl) ?_
  refine JC.skipT ?_
  refine JC.seq ?_
  refine JC.region fun b5 => ?_
  refine JS.run 1 (by kernel_rfl) ?_
  refine JS.bind fun r6 h7 => ?_
  refine JS.callS [] (cmp_isNaN_ok k a1 r6 h7) ⟨rfl, argX (d := (.int .u64 a1)) (by kernel_rfl) (by kernel_rfl), trivial⟩ (by kernel_rfl) (by kernel_rfl) (by kernel_rfl) ?_
  refine JS.run 1 (by kernel_rfl) ?_
  refine JS.nil ?_
  refine JC.to2 [(0, .x (.int .u64 a0)), (1, .x (.int .u64 a1)), (5, .x (.bool r3)), (6, .x (.bool r6))] [] (by kernel_rfl) (by kernel_rfl) ?_
  refine JC.skipT ?_
  refine JC.seq ?_
  refine JC.seq ?_
  refine JC.region fun b8 => ?_
  refine JS.run 1 (by kernel_rfl) ?_
  refine JS.nil ?_
  refine JC.to2 [(0, .x (.int .u64 a0)), (1, .x (.int .u64 a1)), (6, .x (.bool r6)), (11, .x (.bool r3))] [] (by kernel_rfl) (by kernel_rfl) ?_
  refine JC.skipT ?_
  refine JC.cond (e := r3) (by kernel_rfl) (fun h9 => ?_) (fun h9 => ?_)
  · refine JC.seq ?_
    refine JC.seq ?_
    refine JC.region fun b10 => ?_
    refine JS.run 1 (by kernel_rfl) ?_
    refine JS.nil ?_
    refine JC.to2 [(12, .x (.bool r6))] [] (by kernel_rfl) (by kernel_rfl) ?_
    refine JC.skipT ?_
    refine JC.cond (e := r6) (by kernel_rfl) (fun h11 => ?_) (fun h11 => ?_)
    · refine JC.seq ?_
      refine JC.region fun b12 => ?_
      refine JS.run 1 (by kernel_rfl) ?_
      refine JS.nil ?_
      refine JC.to2 [(4, .x (.int .i64 (0 : Int)))] [] (by kernel_rfl) (by kernel_rfl) ?_
      refine JC.skipT ?_
      refine JC.retT ?_
      refine JC.retT ?_
      exact JC.finB (ex := .ret) (vs := [.x (.int .i64 (0 : Int))]) (is := []) rfl ret_ne ⟨(by kernel_rfl), trivial⟩ (Outs.sc rfl Outs.nil)
    · refine JC.skipT ?_
      refine JC.seq ?_
      refine JC.region fun b13 => ?_
      refine JS.run 1 (by kernel_rfl) ?_
      refine JS.nil ?_
      refine JC.to2 [(4, .x (.int .i64 (-1 : Int)))] [] (by kernel_rfl) (by kernel_rfl) ?_
      refine JC.skipT ?_
      refine JC.retT ?_
      exact JC.finB (ex := .ret) (vs := [.x (.int .i64 (-1 : Int))]) (is := []) rfl ret_ne ⟨(by kernel_rfl), trivial⟩ (Outs.sc rfl Outs.nil)
  · refine JC.skipT ?_
    refine JC.seq ?_
    refine JC.seq ?_
    refine JC.region fun b14 => ?_
    refine JS.run 1 (by kernel_rfl) ?_
    refine JS.nil ?_
    refine JC.to2 [(0, .x (.int .u64 a0)), (1, .x (.int .u64 a1)), (13, .x (.bool r6))] [] (by kernel_rfl) (by kernel_rfl) ?_
    refine JC.skipT ?_
    refine JC.cond (e := r6) (by kernel_rfl) (fun h15 => ?_) (fun h15 => ?_)
    · refine JC.seq ?_
      refine JC.region fun b16 => ?_
      refine JS.run 1 (by kernel_rfl) ?_
      refine JS.nil ?_
      refine JC.to2 [(4, .x (.int .i64 (1 : Int)))] [] (by kernel_rfl) (by kernel_rfl) ?_
      refine JC.skipT ?_
      refine JC.retT ?_
      exact JC.finB (ex := .ret) (vs := [.x (.int .i64 (1 : Int))]) (is := []) rfl ret_ne ⟨(by kernel_rfl), trivial⟩ (Outs.sc rfl Outs.nil)
    · refine JC.skipT ?_
      refine JC.seq ?_
      refine JC.seq ?_
      refine JC.region fun b17 => ?_
      refine JS.run 3 (by kernel_rfl) ?_
      refine JS.nil ?_
      refine JC.to2 [(0, .x (.int .u64 a0)), (1, .x (.int .u64 a1)), (16, .x (.bool (decide (a0 < a1))))] [] (by kernel_rfl) (by kernel_rfl) ?_
      refine JC.skipT ?_
      refine JC.cond (e := (decide (a0 < a1))) (by kernel_rfl) (fun h18 => ?_) (fun h18 => ?_)
      · refine JC.seq ?_
        refine JC.region fun b19 => ?_
        refine JS.run 1 (by kernel_rfl) ?_
        refine JS.nil ?_
        refine JC.to2 [(4, .x (.int .i64 (-1 : Int)))] [] (by kernel_rfl) (by kernel_rfl) ?_
        refine JC.skipT ?_
        refine JC.retT ?_
        exact JC.finB (ex := .ret) (vs := [.x (.int .i64 (-1 : Int))]) (is := []) rfl ret_ne ⟨(by kernel_rfl), trivial⟩ (Outs.sc rfl Outs.nil)
      · refine JC.skipT ?_
        refine JC.seq ?_
        refine JC.seq ?_
        refine JC.region fun b20 => ?_
        refine JS.run 3 (by kernel_rfl) ?_
        refine JS.nil ?_
        refine JC.to2 [(19, .x (.bool (decide (a0 > a1))))] [] (by kernel_rfl) (by kernel_rfl) ?_
        refine JC.skipT ?_
        refine JC.cond (e := (decide (a0 > a1))) (by kernel_rfl) (fun h21 => ?_) (fun h21 => ?_)
        · refine JC.seq ?_
          refine JC.region fun b22 => ?_
          refine JS.run 1 (by kernel_rfl) ?_
          refine JS.nil ?_
          refine JC.to2 [(4, .x (.int .i64 (1 : Int)))] [] (by kernel_rfl) (by kernel_rfl) ?_
          refine JC.skipT ?_
          refine JC.retT ?_
          exact JC.finB (ex := .ret) (vs := [.x (.int .i64 (1 : Int))]) (is := []) rfl ret_ne ⟨(by kernel_rfl), trivial⟩ (Outs.sc rfl Outs.nil)
        · refine JC.skipT ?_
          refine JC.seq ?_
          refine JC.region fun b23 => ?_
          refine JS.run 1 (by kernel_rfl) ?_
          refine JS.nil ?_
          refine JC.to2 [(4, .x (.int .i64 (0 : Int)))] [] (by kernel_rfl) (by kernel_rfl) ?_
          refine JC.skipT ?_
          exact JC.finB (ex := .ret) (vs := [.x (.int .i64 (0 : Int))]) (is := []) rfl ret_ne ⟨(by kernel_rfl), trivial⟩ (Outs.sc rfl Outs.nil)
/-! eyot/weigh.Key -/
def weigh_Key (k : Nat) (a0 : Fl) : Option Int :=
  fcase a0 (fun w3 => cond (fOrd a0 a0 != some .eq) (some (18446744073709551615 : Int)) (cond (decide (((w3 : Nat) : Int) ≥ (9223372036854775808 : Int))) (some (ixor .u64 (IntKind.max .u64) ((w3 : Nat) : Int))) (some (ixor .u64 ((w3 : Nat) : Int) (9223372036854775808 : Int))))) (cond (fOrd a0 a0 != some .eq) (some (18446744073709551615 : Int)) (none))
theorem weigh_Key_ok (k : Nat) (a0 : Fl) : ∀ r, weigh_Key k a0 = some r → CallOk prog 17 [.x (.flt a0)] false [.sc (.x (.int .u64 r))] := by
  refine CallOk.ofB (pf := pf17) (rs := [.tmp 2]) (Res := fun (r : Int) => [.sc (.x (.int .u64 r))]) rfl rfl rfl rfl rfl ?_
  unfold weigh_Key pf17
  refine JC.seq ?_
  refine JC.region fun b1 => ?_
  refine JS.run 1 (by kernel_rfl) ?_
  refine JS.nil ?_
  refine JC.to2 [(0, .x (.flt a0))] [] (by kernel_rfl) (by kernel_rfl) ?_
  refine JC.skipT ?_
  refine JC.seq ?_
  refine JC.region fun b2 => ?_
  refine JS.run 1 (by kernel_rfl) ?_
  refine JS.bits (e := a0) (by kernel_rfl) (by kernel_rfl) (by kernel_rfl) (fun w3 h4 => ?_) (fun h4 => ?_)
  · refine JS.run 1 (by kernel_rfl) ?_
    refine JS.nil ?_
    refine JC.to2 [(0, .x (.flt a0)), (3, .x (.int .u64 ((w3 : Nat) : Int)))] [] (by kernel_rfl) (by kernel_rfl) ?_
    refine JC.skipT ?_
    refine JC.seq ?_
    refine JC.block ?_
    refine JC.seq ?_
    refine JC.region fun b5 => ?_
    refine JS.run 4 (by kernel_rfl) ?_
    refine JS.nil ?_
    refine JC.to2 [(3, .x (.int .u64 ((w3 : Nat) : Int))), (6, .x (.bool (fOrd a0 a0 != some .eq)))] [] (by kernel_rfl) (by kernel_rfl) ?_
    refine JC.skipT ?_
    refine JC.cond (e := (fOrd a0 a0 != some .eq)) (by kernel_rfl) (fun h6 => ?_) (fun h6 => ?_)
    · refine JC.seq ?_
      refine JC.region fun b7 => ?_
      refine JS.run 1 (by kernel_rfl) ?_
      refine JS.nil ?_
      refine JC.to2 [(2, .x (.int .u64 (18446744073709551615 : Int)))] [] (by kernel_rfl) (by kernel_rfl) ?_
      refine JC.skipT ?_
      refine JC.retB ?_
      refine JC.retT ?_
      exact JC.finB (ex := .ret) (vs := [.x (.int .u64 (18446744073709551615 : Int))]) (is := []) rfl ret_ne ⟨(by kernel_rfl), trivial⟩ (Outs.sc rfl Outs.nil)
    · refine JC.seq ?_
      refine JC.region fun b8 => ?_
      refine JS.run 3 (by kernel_rfl) ?_
      refine JS.nil ?_
      refine JC.to2 [(3, .x (.int .u64 ((w3 : Nat) : Int))), (10, .x (.bool (decide (((w3 : Nat) : Int) ≥ (9223372036854775808 : Int)))))] [] (by kernel_rfl) (by kernel_rfl) ?_
      refine JC.skipT ?_
      refine JC.cond (e := (decide (((w3 : Nat) : Int) ≥ (9223372036854775808 : Int)))) (by kernel_rfl) (fun h9 => ?_) (fun h9 => ?_)
      · refine JC.seq ?_
        refine JC.region fun b10 => ?_
        refine JS.run 3 (by kernel_rfl) ?_
        refine JS.nil ?_
        refine JC.to2 [(2, .x (.int .u64 (ixor .u64 (IntKind.max .u64) ((w3 : Nat) : Int))))] [] (by kernel_rfl) (by kernel_rfl) ?_
        refine JC.skipT ?_
        refine JC.retB ?_
        refine JC.retT ?_
        exact JC.finB (ex := .ret) (vs := [.x (.int .u64 (ixor .u64 (IntKind.max .u64) ((w3 : Nat) : Int)))]) (is := []) rfl ret_ne ⟨(by kernel_rfl), trivial⟩ (Outs.sc rfl Outs.nil)
      · refine JC.skipB ?_
        refine JC.skipT ?_
        refine JC.seq ?_
        refine JC.region fun b11 => ?_
        refine JS.run 3 (by kernel_rfl) ?_
        refine JS.nil ?_
        refine JC.to2 [(2, .x (.int .u64 (ixor .u64 ((w3 : Nat) : Int) (9223372036854775808 : Int))))] [] (by kernel_rfl) (by kernel_rfl) ?_
        refine JC.skipT ?_
        exact JC.finB (ex := .ret) (vs := [.x (.int .u64 (ixor .u64 ((w3 : Nat) : Int) (9223372036854775808 : Int)))]) (is := []) rfl ret_ne ⟨(by kernel_rfl), trivial⟩ (Outs.sc rfl Outs.nil)
  · refine JS.run 1 (by kernel_rfl) ?_
    refine JS.nil ?_
    refine JC.to2 [(0, .x (.flt a0))] [] (by kernel_rfl) (by kernel_rfl) ?_
    refine JC.skipT ?_
    refine JC.seq ?_
    refine JC.block ?_
    refine JC.seq ?_
    refine JC.region fun b12 => ?_
    refine JS.run 4 (by kernel_rfl) ?_
    refine JS.nil ?_
    refine JC.to2 [(6, .x (.bool (fOrd a0 a0 != some .eq)))] [] (by kernel_rfl) (by kernel_rfl) ?_
    refine JC.skipT ?_
    refine JC.cond (e := (fOrd a0 a0 != some .eq)) (by kernel_rfl) (fun h13 => ?_) (fun h13 => ?_)
    · refine JC.seq ?_
      refine JC.region fun b14 => ?_
      refine JS.run 1 (by kernel_rfl) ?_
      refine JS.nil ?_
      refine JC.to2 [(2, .x (.int .u64 (18446744073709551615 : Int)))] [] (by kernel_rfl) (by kernel_rfl) ?_
      refine JC.skipT ?_
      refine JC.retB ?_
      refine JC.retT ?_
      exact JC.finB (ex := .ret) (vs := [.x (.int .u64 (18446744073709551615 : Int))]) (is := []) rfl ret_ne ⟨(by kernel_rfl), trivial⟩ (Outs.sc rfl Outs.nil)
    · exact JC.no
/-! eyot/weigh.Order -/
def weigh_Order (k : Nat) (a0 : Fl) (a1 : Fl) : Option Int :=
  (weigh_Key k a0).bind fun r3 => (weigh_Key k a1).bind fun r5 => (cmp_Compare k r3 r5).bind fun r7 => some r7
theorem weigh_Order_ok (k : Nat) (a0 : Fl) (a1 : Fl) : ∀ r, weigh_Order k a0 a1 = some r → CallOk prog 15 [.x (.flt a0), .x (.flt a1)] false [.sc (.x (.int .i64 r))] := by
  refine CallOk.ofB (pf := pf15) (rs := [.tmp 4]) (Res := fun (r : Int) => [.sc (.x (.int .i64 r))]) rfl rfl rfl rfl rfl ?_
  unfold weigh_Order pf15
  refine JC.seq ?_
  refine JC.region fun b1 => ?_
  refine JS.run 1 (by kernel_rfl) ?_
  refine JS.nil ?_
  refine JC.to2 [(0, .x (.flt a0)), (1, .x (.flt a1))] [] (by kernel_rfl) (by kernel_rfl) ?_
  refine JC.skipT ?_
  refine JC.seq ?_
  refine JC.region fun b2 => ?_
  refine JS.run 1 (by kernel_rfl) ?_
  refine JS.bind fun r3 h4 => ?_
  refine JS.callS [] (weigh_Key_ok k a0 r3 h4) ⟨rfl, argX (d := (.flt a0)) (by kernel_rfl) (by kernel_rfl), trivial⟩ (by kernel_rfl) (by kernel_rfl) (by kernel_rfl) ?_
  refine JS.run 1 (by kernel_rfl) ?_
  refine JS.bind fun r5 h6 => ?_
  refine JS.callS [] (weigh_Key_ok k a1 r5 h6) ⟨rfl, argX (d := (.flt a1)) (by kernel_rfl) (by kernel_rfl), trivial⟩ (by kernel_rfl) (by kernel_rfl) (by kernel_rfl) ?_
  refine JS.bind fun r7 h8 => ?_
  refine JS.callS [] (cmp_Compare_ok k r3 r5 r7 h8) ⟨rfl, argX (d := (.int .u64 r3)) (by kernel_rfl) (by kernel_rfl), rfl, argX (d := (.int .u64 r5)) (by kernel_rfl) (by kernel_rfl), trivial⟩ (by kernel_rfl) (by kernel_rfl) (by kernel_rfl) ?_
  refine JS.run 1 (by kernel_rfl) ?_
  refine JS.nil ?_
  refine JC.to2 [(4, .x (.int .i64 r7))] [] (by kernel_rfl) (by kernel_rfl) ?_
  refine JC.skipT ?_
  exact JC.finB (ex := .ret) (vs := [.x (.int .i64 r7)]) (is := []) rfl ret_ne ⟨(by kernel_rfl), trivial⟩ (Outs.sc rfl Outs.nil)
/-! eyot/weigh.Same -/
def weigh_Same (k : Nat) (a0 : Fl) (a1 : Fl) : Option Bool :=
  (weigh_Order k a0 a1).bind fun r3 => some (r3 == (0 : Int))
theorem weigh_Same_ok (k : Nat) (a0 : Fl) (a1 : Fl) : ∀ r, weigh_Same k a0 a1 = some r → CallOk prog 12 [.x (.flt a0), .x (.flt a1)] false [.sc (.x (.bool r))] := by
  refine CallOk.ofB (pf := pf12) (rs := [.tmp 4]) (Res := fun (r : Bool) => [.sc (.x (.bool r))]) rfl rfl rfl rfl rfl ?_
  unfold weigh_Same pf12
  refine JC.seq ?_
  refine JC.region fun b1 => ?_
  refine JS.run 1 (by kernel_rfl) ?_
  refine JS.nil ?_
  refine JC.to2 [(0, .x (.flt a0)), (1, .x (.flt a1))] [] (by kernel_rfl) (by kernel_rfl) ?_
  refine JC.skipT ?_
  refine JC.seq ?_
  refine JC.region fun b2 => ?_
  refine JS.run 2 (by kernel_rfl) ?_
  refine JS.bind fun r3 h4 => ?_
  refine JS.callS [] (weigh_Order_ok k a0 a1 r3 h4) ⟨rfl, argX (d := (.flt a0)) (by kernel_rfl) (by kernel_rfl), rfl, argX (d := (.flt a1)) (by kernel_rfl) (by kernel_rfl), trivial⟩ (by kernel_rfl) (by kernel_rfl) (by kernel_rfl) ?_
  refine JS.run 2 (by kernel_rfl) ?_
  refine JS.nil ?_
  refine JC.to2 [(4, .x (.bool (r3 == (0 : Int))))] [] (by kernel_rfl) (by kernel_rfl) ?_
  refine JC.skipT ?_
  exact JC.finB (ex := .ret) (vs := [.x (.bool (r3 == (0 : Int)))]) (is := []) rfl ret_ne ⟨(by kernel_rfl), trivial⟩ (Outs.sc rfl Outs.nil)
/-! eyot/weigh.Of -/
def weigh_Of (k : Nat) (a0 : Int) : Option Fl :=
  cond (decide (a0 < (9223372036854775808 : Int))) ((weigh_Key k (some (ixor .u64 (IntKind.max .u64) a0).toNat : Fl)).bind fun r8 => cond (r8 != a0) ((math_NaN k).bind fun r12 => some r12) (some (some (ixor .u64 (IntKind.max .u64) a0).toNat : Fl))) ((weigh_Key k (some (ixor .u64 a0 (9223372036854775808 : Int)).toNat : Fl)).bind fun r17 => cond (r17 != a0) ((math_NaN k).bind fun r21 => some r21) (some (some (ixor .u64 a0 (9223372036854775808 : Int)).toNat : Fl)))
theorem weigh_Of_ok (k : Nat) (a0 : Int) : ∀ r, weigh_Of k a0 = some r → CallOk prog 14 [.x (.int .u64 a0)] false [.sc (.x (.flt r))] := by
  refine CallOk.ofB (pf := pf14) (rs := [.tmp 2]) (Res := fun (r : Fl) => [.sc (.x (.flt r))]) rfl rfl rfl rfl rfl ?_
  unfold weigh_Of pf14
  refine JC.seq ?_
  refine JC.region fun b1 => ?_
  refine JS.run 1 (by kernel_rfl) ?_
  refine JS.nil ?_
  refine JC.to2 [(0, .x (.int .u64 a0))] [] (by kernel_rfl) (by kernel_rfl) ?_
  refine JC.skipT ?_
  refine JC.seq ?_
  refine JC.region fun b2 => ?_
  refine JS.run 3 (by kernel_rfl) ?_
  refine JS.nil ?_
  refine JC.to2 [(0, .x (.int .u64 a0)), (3, .x (.int .u64 (ixor .u64 a0 (9223372036854775808 : Int))))] [] (by kernel_rfl) (by kernel_rfl) ?_
  refine JC.skipT ?_
  refine JC.seq ?_
  refine JC.seq ?_
  refine JC.region fun b3 => ?_
  refine JS.run 2 (by kernel_rfl) ?_
  refine JS.nil ?_
  refine JC.to2 [(0, .x (.int .u64 a0)), (3, .x (.int .u64 (ixor .u64 a0 (9223372036854775808 : Int)))), (8, .x (.bool (decide (a0 < (9223372036854775808 : Int)))))] [] (by kernel_rfl) (by kernel_rfl) ?_
  refine JC.skipT ?_
  refine JC.cond (e := (decide (a0 < (9223372036854775808 : Int)))) (by kernel_rfl) (fun h4 => ?_) (fun h4 => ?_)
  · refine JC.region fun b5 => ?_
    refine JS.run 3 (by kernel_rfl) ?_
    refine JS.nil ?_
    refine JC.to2 [(0, .x (.int .u64 a0)), (3, .x (.int .u64 (ixor .u64 (IntKind.max .u64) a0)))] [] (by kernel_rfl) (by kernel_rfl) ?_
    refine JC.skipT ?_
    refine JC.seq ?_
    refine JC.region fun b6 => ?_
    refine JS.run 3 (by kernel_rfl) ?_
    refine JS.nil ?_
    refine JC.to2 [(0, .x (.int .u64 a0)), (4, .x (.flt (some (ixor .u64 (IntKind.max .u64) a0).toNat : Fl)))] [] (by kernel_rfl) (by kernel_rfl) ?_
    refine JC.skipT ?_
    refine JC.seq ?_
    refine JC.seq ?_
    refine JC.region fun b7 => ?_
    refine JS.run 1 (by kernel_rfl) ?_
    refine JS.bind fun r8 h9 => ?_
    refine JS.callS [] (weigh_Key_ok k (some (ixor .u64 (IntKind.max .u64) a0).toNat : Fl) r8 h9) ⟨rfl, argX (d := (.flt (some (ixor .u64 (IntKind.max .u64) a0).toNat : Fl))) (by kernel_rfl) (by kernel_rfl), trivial⟩ (by kernel_rfl) (by kernel_rfl) (by kernel_rfl) ?_
    refine JS.run 2 (by kernel_rfl) ?_
    refine JS.nil ?_
    refine JC.to2 [(4, .x (.flt (some (ixor .u64 (IntKind.max .u64) a0).toNat : Fl))), (16, .x (.bool (r8 != a0)))] [] (by kernel_rfl) (by kernel_rfl) ?_
    refine JC.skipT ?_
    refine JC.cond (e := (r8 != a0)) (by kernel_rfl) (fun h10 => ?_) (fun h10 => ?_)
    · refine JC.seq ?_
      refine JC.region fun b11 => ?_
      refine JS.bind fun r12 h13 => ?_
      refine JS.callS [] (math_NaN_ok k r12 h13) trivial (by kernel_rfl) (by kernel_rfl) (by kernel_rfl) ?_
      refine JS.run 1 (by kernel_rfl) ?_
      refine JS.nil ?_
      refine JC.to2 [(2, .x (.flt r12))] [] (by kernel_rfl) (by kernel_rfl) ?_
      refine JC.skipT ?_
      refine JC.retT ?_
      exact JC.finB (ex := .ret) (vs := [.x (.flt r12)]) (is := []) rfl ret_ne ⟨(by kernel_rfl), trivial⟩ (Outs.sc rfl Outs.nil)
    · refine JC.skipT ?_
      refine JC.seq ?_
      refine JC.region fun b14 => ?_
      refine JS.run 2 (by kernel_rfl) ?_
      refine JS.nil ?_
      refine JC.to2 [(2, .x (.flt (some (ixor .u64 (IntKind.max .u64) a0).toNat : Fl)))] [] (by kernel_rfl) (by kernel_rfl) ?_
      refine JC.skipT ?_
      exact JC.finB (ex := .ret) (vs := [.x (.flt (some (ixor .u64 (IntKind.max .u64) a0).toNat : Fl))]) (is := []) rfl ret_ne ⟨(by kernel_rfl), trivial⟩ (Outs.sc rfl Outs.nil)
  · refine JC.skipT ?_
    refine JC.seq ?_
    refine JC.region fun b15 => ?_
    refine JS.run 3 (by kernel_rfl) ?_
    refine JS.nil ?_
    refine JC.to2 [(0, .x (.int .u64 a0)), (4, .x (.flt (some (ixor .u64 a0 (9223372036854775808 : Int)).toNat : Fl)))] [] (by kernel_rfl) (by kernel_rfl) ?_
    refine JC.skipT ?_
    refine JC.seq ?_
    refine JC.seq ?_
    refine JC.region fun b16 => ?_
    refine JS.run 1 (by kernel_rfl) ?_
    refine JS.bind fun r17 h18 => ?_
    refine JS.callS [] (weigh_Key_ok k (some (ixor .u64 a0 (9223372036854775808 : Int)).toNat : Fl) r17 h18) ⟨rfl, argX (d := (.flt (some (ixor .u64 a0 (9223372036854775808 : Int)).toNat : Fl))) (by kernel_rfl) (by kernel_rfl), trivial⟩ (by kernel_rfl) (by kernel_rfl) (by kernel_rfl) ?_
    refine JS.run 2 (by kernel_rfl) ?_
    refine JS.nil ?_
    refine JC.to2 [(4, .x (.flt (some (ixor .u64 a0 (9223372036854775808 : Int)).toNat : Fl))), (16, .x (.bool (r17 != a0)))] [] (by kernel_rfl) (by kernel_rfl) ?_
    refine JC.skipT ?_
    refine JC.cond (e := (r17 != a0)) (by kernel_rfl) (fun h19 => ?_) (fun h19 => ?_)
    · refine JC.seq ?_
      refine JC.region fun b20 => ?_
      refine JS.bind fun r21 h22 => ?_
      refine JS.callS [] (math_NaN_ok k r21 h22) trivial (by kernel_rfl) (by kernel_rfl) (by kernel_rfl) ?_
      refine JS.run 1 (by kernel_rfl) ?_
      refine JS.nil ?_
      refine JC.to2 [(2, .x (.flt r21))] [] (by kernel_rfl) (by kernel_rfl) ?_
      refine JC.skipT ?_
      refine JC.retT ?_
      exact JC.finB (ex := .ret) (vs := [.x (.flt r21)]) (is := []) rfl ret_ne ⟨(by kernel_rfl), trivial⟩ (Outs.sc rfl Outs.nil)
    · refine JC.skipT ?_
      refine JC.seq ?_
      refine JC.region fun b23 => ?_
      refine JS.run 2 (by kernel_rfl) ?_
      refine JS.nil ?_
      refine JC.to2 [(2, .x (.flt (some (ixor .u64 a0 (9223372036854775808 : Int)).toNat : Fl)))] [] (by kernel_rfl) (by kernel_rfl) ?_
      refine JC.skipT ?_
      exact JC.finB (ex := .ret) (vs := [.x (.flt (some (ixor .u64 a0 (9223372036854775808 : Int)).toNat : Fl))]) (is := []) rfl ret_ne ⟨(by kernel_rfl), trivial⟩ (Outs.sc rfl Outs.nil)
/-! eyot/weigh.Kind -/
def weigh_Kind (k : Nat) (a0 : Fl) : Option Int :=
  cond (fOrd a0 a0 != some .eq) (some (0 : Int)) ((math_IsInf k a0 (-1 : Int)).bind fun r6 => cond r6 (some (1 : Int)) (cond (fOrd a0 (some 0 : Fl) == some .lt) (some (2 : Int)) ((math_IsInf k a0 (1 : Int)).bind fun r14 => cond r14 (some (6 : Int)) (cond (fOrd a0 (some 0 : Fl) == some .gt) (some (5 : Int)) ((math_Signbit k a0).bind fun r22 => cond r22 (some (3 : Int)) (some (4 : Int)))))))
theorem weigh_Kind_ok (k : Nat) (a0 : Fl) : ∀ r, weigh_Kind k a0 = some r → CallOk prog 20 [.x (.flt a0)] false [.sc (.x (.int .i64 r))] := by
  refine CallOk.ofB (pf := pf20) (rs := [.tmp 2]) (Res := fun (r : Int) => [.sc (.x (.int .i64 r))]) rfl rfl rfl rfl rfl ?_
  unfold weigh_Kind pf20
  refine JC.seq ?_
  refine JC.region fun b1 => ?_
  refine JS.run 1 (by kernel_rfl) ?_
  refine JS.nil ?_
  refine JC.to2 [(0, .x (.flt a0))] [] (by kernel_rfl) (by kernel_rfl) ?_
  refine JC.skipT ?_
  refine JC.seq ?_
  refine JC.block ?_
  refine JC.seq ?_
  refine JC.region fun b2 => ?_
  refine JS.run 4 (by kernel_rfl) ?_
  refine JS.nil ?_
  refine JC.to2 [(0, .x (.flt a0)), (3, .x (.bool (fOrd a0 a0 != some .eq)))] [] (by kernel_rfl) (by kernel_rfl) ?_
  refine JC.skipT ?_
  refine JC.cond (e := (fOrd a0 a0 != some .eq)) (by kernel_rfl) (fun h3 => ?_) (fun h3 => ?_)
  · refine JC.seq ?_
    refine JC.region fun b4 => ?_
    refine JS.run 1 (by kernel_rfl) ?_
    refine JS.nil ?_
    refine JC.to2 [(2, .x (.int .i64 (0 : Int)))] [] (by kernel_rfl) (by kernel_rfl) ?_
    refine JC.skipT ?_
    refine JC.retB ?_
    refine JC.retT ?_
    exact JC.finB (ex := .ret) (vs := [.x (.int .i64 (0 : Int))]) (is := []) rfl ret_ne ⟨(by kernel_rfl), trivial⟩ (Outs.sc rfl Outs.nil)
  · refine JC.seq ?_
    refine JC.region fun b5 => ?_
    refine JS.run 1 (by kernel_rfl) ?_
    refine JS.bind fun r6 h7 => ?_
    refine JS.callS [] (math_IsInf_ok k a0 (-1 : Int) r6 h7) ⟨rfl, argX (d := (.flt a0)) (by kernel_rfl) (by kernel_rfl), rfl, argX (d := (.int .i64 (-1 : Int))) (by kernel_rfl) (by kernel_rfl), trivial⟩ (by kernel_rfl) (by kernel_rfl) (by kernel_rfl) ?_
    refine JS.run 1 (by kernel_rfl) ?_
    refine JS.nil ?_
    refine JC.to2 [(0, .x (.flt a0)), (7, .x (.bool r6))] [] (by kernel_rfl) (by kernel_rfl) ?_
    refine JC.skipT ?_
    refine JC.cond (e := r6) (by kernel_rfl) (fun h8 => ?_) (fun h8 => ?_)
    · refine JC.seq ?_
      refine JC.region fun b9 => ?_
      refine JS.run 1 (by kernel_rfl) ?_
      refine JS.nil ?_
      refine JC.to2 [(2, .x (.int .i64 (1 : Int)))] [] (by kernel_rfl) (by kernel_rfl) ?_
      refine JC.skipT ?_
      refine JC.retB ?_
      refine JC.retT ?_
      exact JC.finB (ex := .ret) (vs := [.x (.int .i64 (1 : Int))]) (is := []) rfl ret_ne ⟨(by kernel_rfl), trivial⟩ (Outs.sc rfl Outs.nil)
    · refine JC.seq ?_
      refine JC.region fun b10 => ?_
      refine JS.run 3 (by kernel_rfl) ?_
      refine JS.nil ?_
      refine JC.to2 [(0, .x (.flt a0)), (10, .x (.bool (fOrd a0 (some 0 : Fl) == some .lt)))] [] (by kernel_rfl) (by kernel_rfl) ?_
      refine JC.skipT ?_
      refine JC.cond (e := (fOrd a0 (some 0 : Fl) == some .lt)) (by kernel_rfl) (fun h11 => ?_) (fun h11 => ?_)
      · refine JC.seq ?_
        refine JC.region fun b12 => ?_
        refine JS.run 1 (by kernel_rfl) ?_
        refine JS.nil ?_
        refine JC.to2 [(2, .x (.int .i64 (2 : Int)))] [] (by kernel_rfl) (by kernel_rfl) ?_
        refine JC.skipT ?_
        refine JC.retB ?_
        refine JC.retT ?_
        exact JC.finB (ex := .ret) (vs := [.x (.int .i64 (2 : Int))]) (is := []) rfl ret_ne ⟨(by kernel_rfl), trivial⟩ (Outs.sc rfl Outs.nil)
      · refine JC.seq ?_
        refine JC.region fun b13 => ?_
        refine JS.run 1 (by kernel_rfl) ?_
        refine JS.bind fun r14 h15 => ?_
        refine JS.callS [] (math_IsInf_ok k a0 (1 : Int) r14 h15) ⟨rfl, argX (d := (.flt a0)) (by kernel_rfl) (by kernel_rfl), rfl, argX (d := (.int .i64 (1 : Int))) (by kernel_rfl) (by kernel_rfl), trivial⟩ (by kernel_rfl) (by kernel_rfl) (by kernel_rfl) ?_
        refine JS.run 1 (by kernel_rfl) ?_
        refine JS.nil ?_
        refine JC.to2 [(0, .x (.flt a0)), (13, .x (.bool r14))] [] (by kernel_rfl) (by kernel_rfl) ?_
        refine JC.skipT ?_
        refine JC.cond (e := r14) (by kernel_rfl) (fun h16 => ?_) (fun h16 => ?_)
        · refine JC.seq ?_
          refine JC.region fun b17 => ?_
          refine JS.run 1 (by kernel_rfl) ?_
          refine JS.nil ?_
          refine JC.to2 [(2, .x (.int .i64 (6 : Int)))] [] (by kernel_rfl) (by kernel_rfl) ?_
          refine JC.skipT ?_
          refine JC.retB ?_
          refine JC.retT ?_
          exact JC.finB (ex := .ret) (vs := [.x (.int .i64 (6 : Int))]) (is := []) rfl ret_ne ⟨(by kernel_rfl), trivial⟩ (Outs.sc rfl Outs.nil)
        · refine JC.seq ?_
          refine JC.region fun b18 => ?_
          refine JS.run 3 (by kernel_rfl) ?_
          refine JS.nil ?_
          refine JC.to2 [(0, .x (.flt a0)), (16, .x (.bool (fOrd a0 (some 0 : Fl) == some .gt)))] [] (by kernel_rfl) (by kernel_rfl) ?_
          refine JC.skipT ?_
          refine JC.cond (e := (fOrd a0 (some 0 : Fl) == some .gt)) (by kernel_rfl) (fun h19 => ?_) (fun h19 => ?_)
          · refine JC.seq ?_
            refine JC.region fun b20 => ?_
            refine JS.run 1 (by kernel_rfl) ?_
            refine JS.nil ?_
            refine JC.to2 [(2, .x (.int .i64 (5 : Int)))] [] (by kernel_rfl) (by kernel_rfl) ?_
            refine JC.skipT ?_
            refine JC.retB ?_
            refine JC.retT ?_
            exact JC.finB (ex := .ret) (vs := [.x (.int .i64 (5 : Int))]) (is := []) rfl ret_ne ⟨(by kernel_rfl), trivial⟩ (Outs.sc rfl Outs.nil)
          · refine JC.seq ?_
            refine JC.region fun b21 => ?_
            refine JS.run 1 (by kernel_rfl) ?_
            refine JS.bind fun r22 h23 => ?_
            refine JS.callS [] (math_Signbit_ok k a0 r22 h23) ⟨rfl, argX (d := (.flt a0)) (by kernel_rfl) (by kernel_rfl), trivial⟩ (by kernel_rfl) (by kernel_rfl) (by kernel_rfl) ?_
            refine JS.run 1 (by kernel_rfl) ?_
            refine JS.nil ?_
            refine JC.to2 [(19, .x (.bool r22))] [] (by kernel_rfl) (by kernel_rfl) ?_
            refine JC.skipT ?_
            refine JC.cond (e := r22) (by kernel_rfl) (fun h24 => ?_) (fun h24 => ?_)
            · refine JC.seq ?_
              refine JC.region fun b25 => ?_
              refine JS.run 1 (by kernel_rfl) ?_
              refine JS.nil ?_
              refine JC.to2 [(2, .x (.int .i64 (3 : Int)))] [] (by kernel_rfl) (by kernel_rfl) ?_
              refine JC.skipT ?_
              refine JC.retB ?_
              refine JC.retT ?_
              exact JC.finB (ex := .ret) (vs := [.x (.int .i64 (3 : Int))]) (is := []) rfl ret_ne ⟨(by kernel_rfl), trivial⟩ (Outs.sc rfl Outs.nil)
            · refine JC.skipB ?_
              refine JC.skipT ?_
              refine JC.seq ?_
              refine JC.region fun b26 => ?_
              refine JS.run 1 (by kernel_rfl) ?_
              refine JS.nil ?_
              refine JC.to2 [(2, .x (.int .i64 (4 : Int)))] [] (by kernel_rfl) (by kernel_rfl) ?_
              refine JC.skipT ?_
              exact JC.finB (ex := .ret) (vs := [.x (.int .i64 (4 : Int))]) (is := []) rfl ret_ne ⟨(by kernel_rfl), trivial⟩ (Outs.sc rfl Outs.nil)
/-! eyot/weigh.Parse -/
theorem weigh_Parse_ok (k : Nat) : ∀ (a0 : (List UInt8)) (r : (Fl × Int)), weigh_Parse k a0 = some r → CallOk prog 10 [.x (.str a0)] true [.sc (.x (.flt r.1)), .sc (.x (.int .i64 r.2))] := fun a0 => weigh_Parse_orc rfl rfl k a0
/-! eyot/eyotlaw1.begun -/
def eyotlaw1_begun (k : Nat)  : Option Bool :=
  (weigh_Parse k ([49, 46, 50, 53] : List UInt8)).bind fun r3 => (weigh_Parse k ([49, 46] : List UInt8)).bind fun r6 => (cond (r3.2 == (0 : Int)) (cond (fOrd r3.1 (some 4608308318706860032 : Fl) == some .eq) (cond (r6.2 == (2 : Int)) ((weigh_Order k (some 4607182418800017408 : Fl) (some 4611686018427387904 : Fl)).bind fun r13 => cond (r13 == (-1 : Int)) ((weigh_Same k (some 4611686018427387904 : Fl) (some 4611686018427387904 : Fl)).bind fun r16 => cond r16 ((weigh_Key k (some 4607182418800017408 : Fl)).bind fun r19 => (weigh_Key k (some 13830554455654793216 : Fl)).bind fun r21 => cond (decide (r19 > r21)) ((weigh_Key k (some 4613937818241073152 : Fl)).bind fun r24 => (weigh_Of k r24).bind fun r26 => cond (fOrd r26 (some 4613937818241073152 : Fl) == some .eq) ((weigh_Kind k (some 4607182418800017408 : Fl)).bind fun r29 => some (r29 == (5 : Int))) (some false)) (some false)) (some false)) (some false)) (some false)) (some false)) (some false)).bind fun y8 => some y8
theorem eyotlaw1_begun_ok (k : Nat)  : ∀ r, eyotlaw1_begun k = some r → CallOk prog 9 [] false [.sc (.x (.bool r))] := by
  refine CallOk.ofB (pf := pf9) (rs := [.tmp 0]) (Res := fun (r : Bool) => [.sc (.x (.bool r))]) rfl rfl rfl rfl rfl ?_
  unfold eyotlaw1_begun pf9
  refine JC.seq ?_
  refine JC.region fun b1 => ?_
  refine JS.run 1 (by kernel_rfl) ?_
  refine JS.nil ?_
  refine JC.to2 [] [] (by kernel_rfl) (by kernel_rfl) ?_
  refine JC.skipT ?_
  refine JC.seq ?_
  refine JC.region fun b2 => ?_
  refine JS.bind fun r3 h4 => ?_
  refine JS.callS [] (weigh_Parse_ok k ([49, 46, 50, 53] : List UInt8) r3 h4) ⟨rfl, argX (d := (.str ([49, 46, 50, 53] : List UInt8))) (by kernel_rfl) (by kernel_rfl), trivial⟩ (by kernel_rfl) (by kernel_rfl) (by kernel_rfl) ?_
  refine JS.run 5 (by kernel_rfl) ?_
  refine JS.nil ?_
  refine JC.to2 [(1, .x (.flt r3.1)), (2, .x (.int .i64 r3.2))] [] (by kernel_rfl) (by kernel_rfl) ?_
  refine JC.skipT ?_
  refine JC.seq ?_
  refine JC.region fun b5 => ?_
  refine JS.bind fun r6 h7 => ?_
  refine JS.callS [] (weigh_Parse_ok k ([49, 46] : List UInt8) r6 h7) ⟨rfl, argX (d := (.str ([49, 46] : List UInt8))) (by kernel_rfl) (by kernel_rfl), trivial⟩ (by kernel_rfl) (by kernel_rfl) (by kernel_rfl) ?_
  refine JS.run 5 (by kernel_rfl) ?_
  refine JS.nil ?_
  refine JC.to2 [(1, .x (.flt r3.1)), (2, .x (.int .i64 r3.2)), (4, .x (.int .i64 r6.2))] [] (by kernel_rfl) (by kernel_rfl) ?_
  refine JC.skipT ?_
  refine JC.seq ?_
  refine JC.bind (A := fun v ex E R => ex = .normal ∧ E = [(0, .x (.bool v))] ∧ R = []) ?_ ?_
  · refine JC.region fun b9 => ?_
    refine JS.run 3 (by kernel_rfl) ?_
    refine JS.split (e := (r3.2 == (0 : Int))) 15 (by kernel_rfl) (fun h10 => ?_) (fun h10 => ?_)
    · refine JS.run 4 (by kernel_rfl) ?_
      refine JS.split (e := (fOrd r3.1 (some 4608308318706860032 : Fl) == some .eq)) 19 (by kernel_rfl) (fun h11 => ?_) (fun h11 => ?_)
      · refine JS.run 4 (by kernel_rfl) ?_
        refine JS.split (e := (r6.2 == (2 : Int))) 23 (by kernel_rfl) (fun h12 => ?_) (fun h12 => ?_)
        · refine JS.bind fun r13 h14 => ?_
          refine JS.callS [] (weigh_Order_ok k (some 4607182418800017408 : Fl) (some 4611686018427387904 : Fl) r13 h14) ⟨rfl, argX (d := (.flt (some 4607182418800017408 : Fl))) (by kernel_rfl) (by kernel_rfl), rfl, argX (d := (.flt (some 4611686018427387904 : Fl))) (by kernel_rfl) (by kernel_rfl), trivial⟩ (by kernel_rfl) (by kernel_rfl) (by kernel_rfl) ?_
          refine JS.run 3 (by kernel_rfl) ?_
          refine JS.split (e := (r13 == (-1 : Int))) 27 (by kernel_rfl) (fun h15 => ?_) (fun h15 => ?_)
          · refine JS.bind fun r16 h17 => ?_
            refine JS.callS [] (weigh_Same_ok k (some 4611686018427387904 : Fl) (some 4611686018427387904 : Fl) r16 h17) ⟨rfl, argX (d := (.flt (some 4611686018427387904 : Fl))) (by kernel_rfl) (by kernel_rfl), rfl, argX (d := (.flt (some 4611686018427387904 : Fl))) (by kernel_rfl) (by kernel_rfl), trivial⟩ (by kernel_rfl) (by kernel_rfl) (by kernel_rfl) ?_
            refine JS.run 2 (by kernel_rfl) ?_
            refine JS.split (e := r16) 30 (by kernel_rfl) (fun h18 => ?_) (fun h18 => ?_)
            · refine JS.bind fun r19 h20 => ?_
              refine JS.callS [] (weigh_Key_ok k (some 4607182418800017408 : Fl) r19 h20) ⟨rfl, argX (d := (.flt (some 4607182418800017408 : Fl))) (by kernel_rfl) (by kernel_rfl), trivial⟩ (by kernel_rfl) (by kernel_rfl) (by kernel_rfl) ?_
              refine JS.bind fun r21 h22 => ?_
              refine JS.callS [] (weigh_Key_ok k (some 13830554455654793216 : Fl) r21 h22) ⟨rfl, argX (d := (.flt (some 13830554455654793216 : Fl))) (by kernel_rfl) (by kernel_rfl), trivial⟩ (by kernel_rfl) (by kernel_rfl) (by kernel_rfl) ?_
              refine JS.run 3 (by kernel_rfl) ?_
              refine JS.split (e := (decide (r19 > r21))) 35 (by kernel_rfl) (fun h23 => ?_) (fun h23 => ?_)
              · refine JS.bind fun r24 h25 => ?_
                refine JS.callS [] (weigh_Key_ok k (some 4613937818241073152 : Fl) r24 h25) ⟨rfl, argX (d := (.flt (some 4613937818241073152 : Fl))) (by kernel_rfl) (by kernel_rfl), trivial⟩ (by kernel_rfl) (by kernel_rfl) (by kernel_rfl) ?_
                refine JS.bind fun r26 h27 => ?_
                refine JS.callS [] (weigh_Of_ok k r24 r26 h27) ⟨rfl, argX (d := (.int .u64 r24)) (by kernel_rfl) (by kernel_rfl), trivial⟩ (by kernel_rfl) (by kernel_rfl) (by kernel_rfl) ?_
                refine JS.run 3 (by kernel_rfl) ?_
                refine JS.split (e := (fOrd r26 (some 4613937818241073152 : Fl) == some .eq)) 40 (by kernel_rfl) (fun h28 => ?_) (fun h28 => ?_)
                · refine JS.bind fun r29 h30 => ?_
                  refine JS.callS [] (weigh_Kind_ok k (some 4607182418800017408 : Fl) r29 h30) ⟨rfl, argX (d := (.flt (some 4607182418800017408 : Fl))) (by kernel_rfl) (by kernel_rfl), trivial⟩ (by kernel_rfl) (by kernel_rfl) (by kernel_rfl) ?_
                  refine JS.run 3 (by kernel_rfl) ?_
                  refine JS.nil ?_
                  refine JC.to2 [(0, .x (.bool (r29 == (5 : Int))))] [] (by kernel_rfl) (by kernel_rfl) ?_
                  refine JC.to2 [(0, .x (.bool (r29 == (5 : Int))))] [] (by kernel_rfl) (by kernel_rfl) ?_
                  exact JC.got (ex := .normal) rfl ⟨rfl, rfl, rfl⟩
                · refine JS.run 4 (by kernel_rfl) ?_
                  refine JS.nil ?_
                  refine JC.to2 [(0, .x (.bool false))] [] (by kernel_rfl) (by kernel_rfl) ?_
                  refine JC.to2 [(0, .x (.bool false))] [] (by kernel_rfl) (by kernel_rfl) ?_
                  exact JC.got (ex := .normal) rfl ⟨rfl, rfl, rfl⟩
              · refine JS.run 9 (by kernel_rfl) ?_
                refine JS.nil ?_
                refine JC.to2 [(0, .x (.bool false))] [] (by kernel_rfl) (by kernel_rfl) ?_
                refine JC.to2 [(0, .x (.bool false))] [] (by kernel_rfl) (by kernel_rfl) ?_
                exact JC.got (ex := .normal) rfl ⟨rfl, rfl, rfl⟩
            · refine JS.run 14 (by kernel_rfl) ?_
              refine JS.nil ?_
              refine JC.to2 [(0, .x (.bool false))] [] (by kernel_rfl) (by kernel_rfl) ?_
              refine JC.to2 [(0, .x (.bool false))] [] (by kernel_rfl) (by kernel_rfl) ?_
              exact JC.got (ex := .normal) rfl ⟨rfl, rfl, rfl⟩
          · refine JS.run 17 (by kernel_rfl) ?_
            refine JS.nil ?_
            refine JC.to2 [(0, .x (.bool false))] [] (by kernel_rfl) (by kernel_rfl) ?_
            refine JC.to2 [(0, .x (.bool false))] [] (by kernel_rfl) (by kernel_rfl) ?_
            exact JC.got (ex := .normal) rfl ⟨rfl, rfl, rfl⟩
        · refine JS.run 21 (by kernel_rfl) ?_
          refine JS.nil ?_
          refine JC.to2 [(0, .x (.bool false))] [] (by kernel_rfl) (by kernel_rfl) ?_
          refine JC.to2 [(0, .x (.bool false))] [] (by kernel_rfl) (by kernel_rfl) ?_
          exact JC.got (ex := .normal) rfl ⟨rfl, rfl, rfl⟩
      · refine JS.run 25 (by kernel_rfl) ?_
        refine JS.nil ?_
        refine JC.to2 [(0, .x (.bool false))] [] (by kernel_rfl) (by kernel_rfl) ?_
        refine JC.to2 [(0, .x (.bool false))] [] (by kernel_rfl) (by kernel_rfl) ?_
        exact JC.got (ex := .normal) rfl ⟨rfl, rfl, rfl⟩
    · refine JS.run 29 (by kernel_rfl) ?_
      refine JS.nil ?_
      refine JC.to2 [(0, .x (.bool false))] [] (by kernel_rfl) (by kernel_rfl) ?_
      refine JC.to2 [(0, .x (.bool false))] [] (by kernel_rfl) (by kernel_rfl) ?_
      exact JC.got (ex := .normal) rfl ⟨rfl, rfl, rfl⟩
  · rintro y8 ex E' R' hA
    obtain ⟨rfl, rfl, rfl⟩ := hA
    refine JC.to2 [(0, .x (.bool y8))] [] (by kernel_rfl) (by kernel_rfl) ?_
    refine JC.skipT ?_
    exact JC.finB (ex := .ret) (vs := [.x (.bool y8)]) (is := []) rfl ret_ne ⟨(by kernel_rfl), trivial⟩ (Outs.sc rfl Outs.nil)
/-! eyot/eyotlaw1.WeighDigits -/
def eyotlaw1_WeighDigits_l0 (a0 : Int) (a1 : Int) (a2 : Int) : Nat → (List UInt8) → Int → Option (List UInt8)
  | 0, _, _ => none
  | k + 1, x9, x10 => (cond (decide (x10 > (0 : Int))) (some true) (some (x9 == ([] : List UInt8)))).bind fun y12 => cond y12 (room ((bytesL ([(IntKind.u8.wrap (IntKind.u32.wrap ((48 : Int) + (Int.tmod x10 (10 : Int)))))] : List Int)).length + x9.length) 1 (eyotlaw1_WeighDigits_l0 a0 a1 a2 k ((bytesL ([(IntKind.u8.wrap (IntKind.u32.wrap ((48 : Int) + (Int.tmod x10 (10 : Int)))))] : List Int)) ++ x9) (IntKind.u32.wrap (Int.tdiv x10 (10 : Int))))) (some x9)
theorem eyotlaw1_WeighDigits_l0_ok (a0 : Int) (a1 : Int) (a2 : Int)  : ∀ (k : Nat) (x9 : (List UInt8)) (x10 : Int), JC prog noFr 131 [(0, .x (.int .u32 a0)), (1, .x (.int .u8 a1)), (2, .x (.int .u8 a2)), (7, .x (.str x9)), (8, .x (.int .u32 x10))] [] (.loop pf4_L0) (eyotlaw1_WeighDigits_l0 a0 a1 a2 k x9 x10) (fun x => GotA 131 noFr ((fun v ex E R => ex = (.exit 0) ∧ E = [(0, .x (.int .u32 a0)), (1, .x (.int .u8 a1)), (2, .x (.int .u8 a2)), (7, .x (.str v))] ∧ R = []) x)) := by
  intro k
  induction k with
  | zero =>
    intro x9 x10
    exact JC.no
  | succ k ih =>
    intro x9 x10
    rw [eyotlaw1_WeighDigits_l0]
    refine JC.loop ?_
    refine JC.seq ?_
    refine JC.seq ?_
    refine JC.bind (A := fun v ex E R => ex = .normal ∧ E = [(0, .x (.int .u32 a0)), (1, .x (.int .u8 a1)), (2, .x (.int .u8 a2)), (7, .x (.str x9)), (8, .x (.int .u32 x10)), (30, .x (.bool v))] ∧ R = []) ?_ ?_
    · refine JC.region fun b13 => ?_
      refine JS.run 3 (by kernel_rfl) ?_
      refine JS.split (e := (decide (x10 > (0 : Int)))) 27 (by kernel_rfl) (fun h14 => ?_) (fun h14 => ?_)
      · refine JS.run 3 (by kernel_rfl) ?_
        refine JS.nil ?_
        refine JC.to2 [(0, .x (.int .u32 a0)), (1, .x (.int .u8 a1)), (2, .x (.int .u8 a2)), (7, .x (.str x9)), (8, .x (.int .u32 x10)), (30, .x (.bool true))] [] (by kernel_rfl) (by kernel_rfl) ?_
        refine JC.to2 [(0, .x (.int .u32 a0)), (1, .x (.int .u8 a1)), (2, .x (.int .u8 a2)), (7, .x (.str x9)), (8, .x (.int .u32 x10)), (30, .x (.bool true))] [] (by kernel_rfl) (by kernel_rfl) ?_
        exact JC.got (ex := .normal) rfl ⟨rfl, rfl, rfl⟩
      · refine JS.run 3 (by kernel_rfl) ?_
        refine JS.nil ?_
        refine JC.to2 [(0, .x (.int .u32 a0)), (1, .x (.int .u8 a1)), (2, .x (.int .u8 a2)), (7, .x (.str x9)), (8, .x (.int .u32 x10)), (30, .x (.bool (x9 == ([] : List UInt8))))] [] (by kernel_rfl) (by kernel_rfl) ?_
        refine JC.to2 [(0, .x (.int .u32 a0)), (1, .x (.int .u8 a1)), (2, .x (.int .u8 a2)), (7, .x (.str x9)), (8, .x (.int .u32 x10)), (30, .x (.bool (x9 == ([] : List UInt8))))] [] (by kernel_rfl) (by kernel_rfl) ?_
        exact JC.got (ex := .normal) rfl ⟨rfl, rfl, rfl⟩
    · rintro y12 ex E' R' hA
      obtain ⟨rfl, rfl, rfl⟩ := hA
      refine JC.to2 [(0, .x (.int .u32 a0)), (1, .x (.int .u8 a1)), (2, .x (.int .u8 a2)), (7, .x (.str x9)), (8, .x (.int .u32 x10)), (30, .x (.bool y12))] [] (by kernel_rfl) (by kernel_rfl) ?_
      refine JC.skipT ?_
      refine JC.cond (e := y12) (by kernel_rfl) (fun h15 => ?_) (fun h15 => ?_)
      · refine JC.skipT ?_
        refine JC.seq ?_
        refine JC.block ?_
        refine JC.region fun b16 => ?_
        refine JS.run 4 (by kernel_rfl) ?_
        refine JS.buildSlice (c := (iD .u8)) ([(IntKind.u8.wrap (IntKind.u32.wrap ((48 : Int) + (Int.tmod x10 (10 : Int)))))] : List Int) (by kernel_rfl) (by kernel_rfl) (by kernel_rfl) (by kernel_rfl) (by kernel_rfl) (fun id17 => ?_)
        refine JS.bytesStrO (l := ([(IntKind.u8.wrap (IntKind.u32.wrap ((48 : Int) + (Int.tmod x10 (10 : Int)))))] : List Int)) (o := (some id17)) 0 (by kernel_rfl) (by kernel_rfl) (by kernel_rfl) (by kernel_rfl) ?_
        refine JS.run 1 (by kernel_rfl) ?_
        refine JS.addS (t := (bytesL ([(IntKind.u8.wrap (IntKind.u32.wrap ((48 : Int) + (Int.tmod x10 (10 : Int)))))] : List Int))) (u := x9) (by kernel_rfl) (by kernel_rfl) (by kernel_rfl) (by kernel_rfl) ?_
        refine JS.run 1 (by kernel_rfl) ?_
        refine JS.nil ?_
        refine JC.drop 0 ?_
        refine JC.to2 [(0, .x (.int .u32 a0)), (1, .x (.int .u8 a1)), (2, .x (.int .u8 a2)), (7, .x (.str ((bytesL ([(IntKind.u8.wrap (IntKind.u32.wrap ((48 : Int) + (Int.tmod x10 (10 : Int)))))] : List Int)) ++ x9))), (8, .x (.int .u32 x10))] [] (by kernel_rfl) (by kernel_rfl) ?_
        refine JC.skipB ?_
        refine JC.skipT ?_
        refine JC.region fun b18 => ?_
        refine JS.run 3 (by kernel_rfl) ?_
        refine JS.nil ?_
        refine JC.to2 [(0, .x (.int .u32 a0)), (1, .x (.int .u8 a1)), (2, .x (.int .u8 a2)), (7, .x (.str ((bytesL ([(IntKind.u8.wrap (IntKind.u32.wrap ((48 : Int) + (Int.tmod x10 (10 : Int)))))] : List Int)) ++ x9))), (8, .x (.int .u32 (IntKind.u32.wrap (Int.tdiv x10 (10 : Int)))))] [] (by kernel_rfl) (by kernel_rfl) ?_
        refine JC.skipL ?_
        refine JC.to2 [(0, .x (.int .u32 a0)), (1, .x (.int .u8 a1)), (2, .x (.int .u8 a2)), (7, .x (.str ((bytesL ([(IntKind.u8.wrap (IntKind.u32.wrap ((48 : Int) + (Int.tmod x10 (10 : Int)))))] : List Int)) ++ x9))), (8, .x (.int .u32 (IntKind.u32.wrap (Int.tdiv x10 (10 : Int)))))] [] (by kernel_rfl) (by kernel_rfl) ?_
        exact ih ((bytesL ([(IntKind.u8.wrap (IntKind.u32.wrap ((48 : Int) + (Int.tmod x10 (10 : Int)))))] : List Int)) ++ x9) (IntKind.u32.wrap (Int.tdiv x10 (10 : Int)))
      · refine JC.exitT ?_
        refine JC.exitL ?_
        refine JC.to2 [(0, .x (.int .u32 a0)), (1, .x (.int .u8 a1)), (2, .x (.int .u8 a2)), (7, .x (.str x9))] [] (by kernel_rfl) (by kernel_rfl) ?_
        exact JC.got (ex := (.exit 0)) rfl ⟨rfl, rfl, rfl⟩
def eyotlaw1_WeighDigits_l1 (a0 : Int) (a1 : Int) (y11 : (List UInt8)) (r42 : (Fl × Int)) (r45 : (Fl × Int)) (r48 : (Fl × Int)) : Nat → Fl → Int → Option Fl
  | 0, _, _ => none
  | k + 1, x52, x53 => cond (decide (x53 < (Int.tmod (IntKind.i64.wrap a1) (IntKind.i64.wrap ((y11.length : Int) + (1 : Int)))))) (eyotlaw1_WeighDigits_l1 a0 a1 y11 r42 r45 r48 k (fMul x52 (some 4621819117588971520 : Fl)) (IntKind.i64.wrap (x53 + (1 : Int)))) (some x52)
theorem eyotlaw1_WeighDigits_l1_ok (a0 : Int) (a1 : Int) (y11 : (List UInt8)) (r42 : (Fl × Int)) (r45 : (Fl × Int)) (r48 : (Fl × Int))  : ∀ (k : Nat) (x52 : Fl) (x53 : Int), JC prog noFr 131 [(0, .x (.int .u32 a0)), (9, .x (.int .i64 (Int.tmod (IntKind.i64.wrap a1) (IntKind.i64.wrap ((y11.length : Int) + (1 : Int)))))), (14, .x (.flt r42.1)), (15, .x (.int .i64 r42.2)), (16, .x (.flt r45.1)), (17, .x (.int .i64 r45.2)), (18, .x (.flt r48.1)), (19, .x (.int .i64 r48.2)), (20, .x (.flt x52)), (21, .x (.int .i64 x53))] [] (.loop pf4_L1) (eyotlaw1_WeighDigits_l1 a0 a1 y11 r42 r45 r48 k x52 x53) (fun x => GotA 131 noFr ((fun v ex E R => ex = (.exit 2) ∧ E = [(0, .x (.int .u32 a0)), (14, .x (.flt r42.1)), (15, .x (.int .i64 r42.2)), (16, .x (.flt r45.1)), (17, .x (.int .i64 r45.2)), (18, .x (.flt r48.1)), (19, .x (.int .i64 r48.2)), (20, .x (.flt v))] ∧ R = []) x)) := by
  intro k
  induction k with
  | zero =>
    intro x52 x53
    exact JC.no
  | succ k ih =>
    intro x52 x53
    rw [eyotlaw1_WeighDigits_l1]
    refine JC.loop ?_
    refine JC.seq ?_
    refine JC.seq ?_
    refine JC.region fun b55 => ?_
    refine JS.run 3 (by kernel_rfl) ?_
    refine JS.nil ?_
    refine JC.to2 [(0, .x (.int .u32 a0)), (9, .x (.int .i64 (Int.tmod (IntKind.i64.wrap a1) (IntKind.i64.wrap ((y11.length : Int) + (1 : Int)))))), (14, .x (.flt r42.1)), (15, .x (.int .i64 r42.2)), (16, .x (.flt r45.1)), (17, .x (.int .i64 r45.2)), (18, .x (.flt r48.1)), (19, .x (.int .i64 r48.2)), (20, .x (.flt x52)), (21, .x (.int .i64 x53)), (97, .x (.bool (decide (x53 < (Int.tmod (IntKind.i64.wrap a1) (IntKind.i64.wrap ((y11.length : Int) + (1 : Int))))))))] [] (by kernel_rfl) (by kernel_rfl) ?_
    refine JC.skipT ?_
    refine JC.cond (e := (decide (x53 < (Int.tmod (IntKind.i64.wrap a1) (IntKind.i64.wrap ((y11.length : Int) + (1 : Int))))))) (by kernel_rfl) (fun h56 => ?_) (fun h56 => ?_)
    · refine JC.skipT ?_
      refine JC.seq ?_
      refine JC.block ?_
      refine JC.region fun b57 => ?_
      refine JS.run 3 (by kernel_rfl) ?_
      refine JS.nil ?_
      refine JC.to2 [(0, .x (.int .u32 a0)), (9, .x (.int .i64 (Int.tmod (IntKind.i64.wrap a1) (IntKind.i64.wrap ((y11.length : Int) + (1 : Int)))))), (14, .x (.flt r42.1)), (15, .x (.int .i64 r42.2)), (16, .x (.flt r45.1)), (17, .x (.int .i64 r45.2)), (18, .x (.flt r48.1)), (19, .x (.int .i64 r48.2)), (20, .x (.flt (fMul x52 (some 4621819117588971520 : Fl)))), (21, .x (.int .i64 x53))] [] (by kernel_rfl) (by kernel_rfl) ?_
      refine JC.skipB ?_
      refine JC.skipT ?_
      refine JC.region fun b58 => ?_
      refine JS.run 3 (by kernel_rfl) ?_
      refine JS.nil ?_
      refine JC.to2 [(0, .x (.int .u32 a0)), (9, .x (.int .i64 (Int.tmod (IntKind.i64.wrap a1) (IntKind.i64.wrap ((y11.length : Int) + (1 : Int)))))), (14, .x (.flt r42.1)), (15, .x (.int .i64 r42.2)), (16, .x (.flt r45.1)), (17, .x (.int .i64 r45.2)), (18, .x (.flt r48.1)), (19, .x (.int .i64 r48.2)), (20, .x (.flt (fMul x52 (some 4621819117588971520 : Fl)))), (21, .x (.int .i64 (IntKind.i64.wrap (x53 + (1 : Int)))))] [] (by kernel_rfl) (by kernel_rfl) ?_
      refine JC.skipL ?_
      refine JC.to2 [(0, .x (.int .u32 a0)), (9, .x (.int .i64 (Int.tmod (IntKind.i64.wrap a1) (IntKind.i64.wrap ((y11.length : Int) + (1 : Int)))))), (14, .x (.flt r42.1)), (15, .x (.int .i64 r42.2)), (16, .x (.flt r45.1)), (17, .x (.int .i64 r45.2)), (18, .x (.flt r48.1)), (19, .x (.int .i64 r48.2)), (20, .x (.flt (fMul x52 (some 4621819117588971520 : Fl)))), (21, .x (.int .i64 (IntKind.i64.wrap (x53 + (1 : Int)))))] [] (by kernel_rfl) (by kernel_rfl) ?_
      exact ih (fMul x52 (some 4621819117588971520 : Fl)) (IntKind.i64.wrap (x53 + (1 : Int)))
    · refine JC.exitT ?_
      refine JC.exitL ?_
      refine JC.to2 [(0, .x (.int .u32 a0)), (14, .x (.flt r42.1)), (15, .x (.int .i64 r42.2)), (16, .x (.flt r45.1)), (17, .x (.int .i64 r45.2)), (18, .x (.flt r48.1)), (19, .x (.int .i64 r48.2)), (20, .x (.flt x52))] [] (by kernel_rfl) (by kernel_rfl) ?_
      exact JC.got (ex := (.exit 2)) rfl ⟨rfl, rfl, rfl⟩
def eyotlaw1_WeighDigits_l2 (a0 : Int) (a1 : Int) (y11 : (List UInt8)) (r71 : (Fl × Int)) (r74 : (Fl × Int)) (r77 : (Fl × Int)) : Nat → Fl → Int → Option Fl
  | 0, _, _ => none
  | k + 1, x81, x82 => cond (decide (x82 < (Int.tmod (IntKind.i64.wrap a1) (IntKind.i64.wrap ((y11.length : Int) + (1 : Int)))))) (eyotlaw1_WeighDigits_l2 a0 a1 y11 r71 r74 r77 k (fMul x81 (some 4621819117588971520 : Fl)) (IntKind.i64.wrap (x82 + (1 : Int)))) (some x81)
theorem eyotlaw1_WeighDigits_l2_ok (a0 : Int) (a1 : Int) (y11 : (List UInt8)) (r71 : (Fl × Int)) (r74 : (Fl × Int)) (r77 : (Fl × Int))  : ∀ (k : Nat) (x81 : Fl) (x82 : Int), JC prog noFr 131 [(0, .x (.int .u32 a0)), (9, .x (.int .i64 (Int.tmod (IntKind.i64.wrap a1) (IntKind.i64.wrap ((y11.length : Int) + (1 : Int)))))), (14, .x (.flt r71.1)), (15, .x (.int .i64 r71.2)), (16, .x (.flt r74.1)), (17, .x (.int .i64 r74.2)), (18, .x (.flt r77.1)), (19, .x (.int .i64 r77.2)), (20, .x (.flt x81)), (21, .x (.int .i64 x82))] [] (.loop pf4_L1) (eyotlaw1_WeighDigits_l2 a0 a1 y11 r71 r74 r77 k x81 x82) (fun x => GotA 131 noFr ((fun v ex E R => ex = (.exit 2) ∧ E = [(0, .x (.int .u32 a0)), (14, .x (.flt r71.1)), (15, .x (.int .i64 r71.2)), (16, .x (.flt r74.1)), (17, .x (.int .i64 r74.2)), (18, .x (.flt r77.1)), (19, .x (.int .i64 r77.2)), (20, .x (.flt v))] ∧ R = []) x)) := by
  intro k
  induction k with
  | zero =>
    intro x81 x82
    exact JC.no
  | succ k ih =>
    intro x81 x82
    rw [eyotlaw1_WeighDigits_l2]
    refine JC.loop ?_
    refine JC.seq ?_
    refine JC.seq ?_
    refine JC.region fun b84 => ?_
    refine JS.run 3 (by kernel_rfl) ?_
    refine JS.nil ?_
    refine JC.to2 [(0, .x (.int .u32 a0)), (9, .x (.int .i64 (Int.tmod (IntKind.i64.wrap a1) (IntKind.i64.wrap ((y11.length : Int) + (1 : Int)))))), (14, .x (.flt r71.1)), (15, .x (.int .i64 r71.2)), (16, .x (.flt r74.1)), (17, .x (.int .i64 r74.2)), (18, .x (.flt r77.1)), (19, .x (.int .i64 r77.2)), (20, .x (.flt x81)), (21, .x (.int .i64 x82)), (97, .x (.bool (decide (x82 < (Int.tmod (IntKind.i64.wrap a1) (IntKind.i64.wrap ((y11.length : Int) + (1 : Int))))))))] [] (by kernel_rfl) (by kernel_rfl) ?_
    refine JC.skipT ?_
    refine JC.cond (e := (decide (x82 < (Int.tmod (IntKind.i64.wrap a1) (IntKind.i64.wrap ((y11.length : Int) + (1 : Int))))))) (by kernel_rfl) (fun h85 => ?_) (fun h85 => ?_)
    · refine JC.skipT ?_
      refine JC.seq ?_
      refine JC.block ?_
      refine JC.region fun b86 => ?_
      refine JS.run 3 (by kernel_rfl) ?_
      refine JS.nil ?_
      refine JC.to2 [(0, .x (.int .u32 a0)), (9, .x (.int .i64 (Int.tmod (IntKind.i64.wrap a1) (IntKind.i64.wrap ((y11.length : Int) + (1 : Int)))))), (14, .x (.flt r71.1)), (15, .x (.int .i64 r71.2)), (16, .x (.flt r74.1)), (17, .x (.int .i64 r74.2)), (18, .x (.flt r77.1)), (19, .x (.int .i64 r77.2)), (20, .x (.flt (fMul x81 (some 4621819117588971520 : Fl)))), (21, .x (.int .i64 x82))] [] (by kernel_rfl) (by kernel_rfl) ?_
      refine JC.skipB ?_
      refine JC.skipT ?_
      refine JC.region fun b87 => ?_
      refine JS.run 3 (by kernel_rfl) ?_
      refine JS.nil ?_
      refine JC.to2 [(0, .x (.int .u32 a0)), (9, .x (.int .i64 (Int.tmod (IntKind.i64.wrap a1) (IntKind.i64.wrap ((y11.length : Int) + (1 : Int)))))), (14, .x (.flt r71.1)), (15, .x (.int .i64 r71.2)), (16, .x (.flt r74.1)), (17, .x (.int .i64 r74.2)), (18, .x (.flt r77.1)), (19, .x (.int .i64 r77.2)), (20, .x (.flt (fMul x81 (some 4621819117588971520 : Fl)))), (21, .x (.int .i64 (IntKind.i64.wrap (x82 + (1 : Int)))))] [] (by kernel_rfl) (by kernel_rfl) ?_
      refine JC.skipL ?_
      refine JC.to2 [(0, .x (.int .u32 a0)), (9, .x (.int .i64 (Int.tmod (IntKind.i64.wrap a1) (IntKind.i64.wrap ((y11.length : Int) + (1 : Int)))))), (14, .x (.flt r71.1)), (15, .x (.int .i64 r71.2)), (16, .x (.flt r74.1)), (17, .x (.int .i64 r74.2)), (18, .x (.flt r77.1)), (19, .x (.int .i64 r77.2)), (20, .x (.flt (fMul x81 (some 4621819117588971520 : Fl)))), (21, .x (.int .i64 (IntKind.i64.wrap (x82 + (1 : Int)))))] [] (by kernel_rfl) (by kernel_rfl) ?_
      exact ih (fMul x81 (some 4621819117588971520 : Fl)) (IntKind.i64.wrap (x82 + (1 : Int)))
    · refine JC.exitT ?_
      refine JC.exitL ?_
      refine JC.to2 [(0, .x (.int .u32 a0)), (14, .x (.flt r71.1)), (15, .x (.int .i64 r71.2)), (16, .x (.flt r74.1)), (17, .x (.int .i64 r74.2)), (18, .x (.flt r77.1)), (19, .x (.int .i64 r77.2)), (20, .x (.flt x81))] [] (by kernel_rfl) (by kernel_rfl) ?_
      exact JC.got (ex := (.exit 2)) rfl ⟨rfl, rfl, rfl⟩
def eyotlaw1_WeighDigits_l3 (a0 : Int) (a1 : Int) (y11 : (List UInt8)) (r106 : (Fl × Int)) (r109 : (Fl × Int)) (r112 : (Fl × Int)) : Nat → Fl → Int → Option Fl
  | 0, _, _ => none
  | k + 1, x116, x117 => cond (decide (x117 < (Int.tmod (IntKind.i64.wrap a1) (IntKind.i64.wrap ((y11.length : Int) + (1 : Int)))))) (eyotlaw1_WeighDigits_l3 a0 a1 y11 r106 r109 r112 k (fMul x116 (some 4621819117588971520 : Fl)) (IntKind.i64.wrap (x117 + (1 : Int)))) (some x116)
theorem eyotlaw1_WeighDigits_l3_ok (a0 : Int) (a1 : Int) (y11 : (List UInt8)) (r106 : (Fl × Int)) (r109 : (Fl × Int)) (r112 : (Fl × Int))  : ∀ (k : Nat) (x116 : Fl) (x117 : Int), JC prog noFr 131 [(0, .x (.int .u32 a0)), (9, .x (.int .i64 (Int.tmod (IntKind.i64.wrap a1) (IntKind.i64.wrap ((y11.length : Int) + (1 : Int)))))), (14, .x (.flt r106.1)), (15, .x (.int .i64 r106.2)), (16, .x (.flt r109.1)), (17, .x (.int .i64 r109.2)), (18, .x (.flt r112.1)), (19, .x (.int .i64 r112.2)), (20, .x (.flt x116)), (21, .x (.int .i64 x117))] [] (.loop pf4_L1) (eyotlaw1_WeighDigits_l3 a0 a1 y11 r106 r109 r112 k x116 x117) (fun x => GotA 131 noFr ((fun v ex E R => ex = (.exit 2) ∧ E = [(0, .x (.int .u32 a0)), (14, .x (.flt r106.1)), (15, .x (.int .i64 r106.2)), (16, .x (.flt r109.1)), (17, .x (.int .i64 r109.2)), (18, .x (.flt r112.1)), (19, .x (.int .i64 r112.2)), (20, .x (.flt v))] ∧ R = []) x)) := by
  intro k
  induction k with
  | zero =>
    intro x116 x117
    exact JC.no
  | succ k ih =>
    intro x116 x117
    rw [eyotlaw1_WeighDigits_l3]
    refine JC.loop ?_
    refine JC.seq ?_
    refine JC.seq ?_
    refine JC.region fun b119 => ?_
    refine JS.run 3 (by kernel_rfl) ?_
    refine JS.nil ?_
    refine JC.to2 [(0, .x (.int .u32 a0)), (9, .x (.int .i64 (Int.tmod (IntKind.i64.wrap a1) (IntKind.i64.wrap ((y11.length : Int) + (1 : Int)))))), (14, .x (.flt r106.1)), (15, .x (.int .i64 r106.2)), (16, .x (.flt r109.1)), (17, .x (.int .i64 r109.2)), (18, .x (.flt r112.1)), (19, .x (.int .i64 r112.2)), (20, .x (.flt x116)), (21, .x (.int .i64 x117)), (97, .x (.bool (decide (x117 < (Int.tmod (IntKind.i64.wrap a1) (IntKind.i64.wrap ((y11.length : Int) + (1 : Int))))))))] [] (by kernel_rfl) (by kernel_rfl) ?_
    refine JC.skipT ?_
    refine JC.cond (e := (decide (x117 < (Int.tmod (IntKind.i64.wrap a1) (IntKind.i64.wrap ((y11.length : Int) + (1 : Int))))))) (by kernel_rfl) (fun h120 => ?_) (fun h120 => ?_)
    · refine JC.skipT ?_
      refine JC.seq ?_
      refine JC.block ?_
      refine JC.region fun b121 => ?_
      refine JS.run 3 (by kernel_rfl) ?_
      refine JS.nil ?_
      refine JC.to2 [(0, .x (.int .u32 a0)), (9, .x (.int .i64 (Int.tmod (IntKind.i64.wrap a1) (IntKind.i64.wrap ((y11.length : Int) + (1 : Int)))))), (14, .x (.flt r106.1)), (15, .x (.int .i64 r106.2)), (16, .x (.flt r109.1)), (17, .x (.int .i64 r109.2)), (18, .x (.flt r112.1)), (19, .x (.int .i64 r112.2)), (20, .x (.flt (fMul x116 (some 4621819117588971520 : Fl)))), (21, .x (.int .i64 x117))] [] (by kernel_rfl) (by kernel_rfl) ?_
      refine JC.skipB ?_
      refine JC.skipT ?_
      refine JC.region fun b122 => ?_
      refine JS.run 3 (by kernel_rfl) ?_
      refine JS.nil ?_
      refine JC.to2 [(0, .x (.int .u32 a0)), (9, .x (.int .i64 (Int.tmod (IntKind.i64.wrap a1) (IntKind.i64.wrap ((y11.length : Int) + (1 : Int)))))), (14, .x (.flt r106.1)), (15, .x (.int .i64 r106.2)), (16, .x (.flt r109.1)), (17, .x (.int .i64 r109.2)), (18, .x (.flt r112.1)), (19, .x (.int .i64 r112.2)), (20, .x (.flt (fMul x116 (some 4621819117588971520 : Fl)))), (21, .x (.int .i64 (IntKind.i64.wrap (x117 + (1 : Int)))))] [] (by kernel_rfl) (by kernel_rfl) ?_
      refine JC.skipL ?_
      refine JC.to2 [(0, .x (.int .u32 a0)), (9, .x (.int .i64 (Int.tmod (IntKind.i64.wrap a1) (IntKind.i64.wrap ((y11.length : Int) + (1 : Int)))))), (14, .x (.flt r106.1)), (15, .x (.int .i64 r106.2)), (16, .x (.flt r109.1)), (17, .x (.int .i64 r109.2)), (18, .x (.flt r112.1)), (19, .x (.int .i64 r112.2)), (20, .x (.flt (fMul x116 (some 4621819117588971520 : Fl)))), (21, .x (.int .i64 (IntKind.i64.wrap (x117 + (1 : Int)))))] [] (by kernel_rfl) (by kernel_rfl) ?_
      exact ih (fMul x116 (some 4621819117588971520 : Fl)) (IntKind.i64.wrap (x117 + (1 : Int)))
    · refine JC.exitT ?_
      refine JC.exitL ?_
      refine JC.to2 [(0, .x (.int .u32 a0)), (14, .x (.flt r106.1)), (15, .x (.int .i64 r106.2)), (16, .x (.flt r109.1)), (17, .x (.int .i64 r109.2)), (18, .x (.flt r112.1)), (19, .x (.int .i64 r112.2)), (20, .x (.flt x116))] [] (by kernel_rfl) (by kernel_rfl) ?_
      exact JC.got (ex := (.exit 2)) rfl ⟨rfl, rfl, rfl⟩
def eyotlaw1_WeighDigits_l4 (a0 : Int) (a1 : Int) (y11 : (List UInt8)) (r135 : (Fl × Int)) (r138 : (Fl × Int)) (r141 : (Fl × Int)) : Nat → Fl → Int → Option Fl
  | 0, _, _ => none
  | k + 1, x145, x146 => cond (decide (x146 < (Int.tmod (IntKind.i64.wrap a1) (IntKind.i64.wrap ((y11.length : Int) + (1 : Int)))))) (eyotlaw1_WeighDigits_l4 a0 a1 y11 r135 r138 r141 k (fMul x145 (some 4621819117588971520 : Fl)) (IntKind.i64.wrap (x146 + (1 : Int)))) (some x145)
theorem eyotlaw1_WeighDigits_l4_ok (a0 : Int) (a1 : Int) (y11 : (List UInt8)) (r135 : (Fl × Int)) (r138 : (Fl × Int)) (r141 : (Fl × Int))  : ∀ (k : Nat) (x145 : Fl) (x146 : Int), JC prog noFr 131 [(0, .x (.int .u32 a0)), (9, .x (.int .i64 (Int.tmod (IntKind.i64.wrap a1) (IntKind.i64.wrap ((y11.length : Int) + (1 : Int)))))), (14, .x (.flt r135.1)), (15, .x (.int .i64 r135.2)), (16, .x (.flt r138.1)), (17, .x (.int .i64 r138.2)), (18, .x (.flt r141.1)), (19, .x (.int .i64 r141.2)), (20, .x (.flt x145)), (21, .x (.int .i64 x146))] [] (.loop pf4_L1) (eyotlaw1_WeighDigits_l4 a0 a1 y11 r135 r138 r141 k x145 x146) (fun x => GotA 131 noFr ((fun v ex E R => ex = (.exit 2) ∧ E = [(0, .x (.int .u32 a0)), (14, .x (.flt r135.1)), (15, .x (.int .i64 r135.2)), (16, .x (.flt r138.1)), (17, .x (.int .i64 r138.2)), (18, .x (.flt r141.1)), (19, .x (.int .i64 r141.2)), (20, .x (.flt v))] ∧ R = []) x)) := by
  intro k
  induction k with
  | zero =>
    intro x145 x146
    exact JC.no
  | succ k ih =>
    intro x145 x146
    rw [eyotlaw1_WeighDigits_l4]
    refine JC.loop ?_
    refine JC.seq ?_
    refine JC.seq ?_
    refine JC.region fun b148 => ?_
    refine JS.run 3 (by kernel_rfl) ?_
    refine JS.nil ?_
    refine JC.to2 [(0, .x (.int .u32 a0)), (9, .x (.int .i64 (Int.tmod (IntKind.i64.wrap a1) (IntKind.i64.wrap ((y11.length : Int) + (1 : Int)))))), (14, .x (.flt r135.1)), (15, .x (.int .i64 r135.2)), (16, .x (.flt r138.1)), (17, .x (.int .i64 r138.2)), (18, .x (.flt r141.1)), (19, .x (.int .i64 r141.2)), (20, .x (.flt x145)), (21, .x (.int .i64 x146)), (97, .x (.bool (decide (x146 < (Int.tmod (IntKind.i64.wrap a1) (IntKind.i64.wrap ((y11.length : Int) + (1 : Int))))))))] [] (by kernel_rfl) (by kernel_rfl) ?_
    refine JC.skipT ?_
    refine JC.cond (e := (decide (x146 < (Int.tmod (IntKind.i64.wrap a1) (IntKind.i64.wrap ((y11.length : Int) + (1 : Int))))))) (by kernel_rfl) (fun h149 => ?_) (fun h149 => ?_)
    · refine JC.skipT ?_
      refine JC.seq ?_
      refine JC.block ?_
      refine JC.region fun b150 => ?_
      refine JS.run 3 (by kernel_rfl) ?_
      refine JS.nil ?_
      refine JC.to2 [(0, .x (.int .u32 a0)), (9, .x (.int .i64 (Int.tmod (IntKind.i64.wrap a1) (IntKind.i64.wrap ((y11.length : Int) + (1 : Int)))))), (14, .x (.flt r135.1)), (15, .x (.int .i64 r135.2)), (16, .x (.flt r138.1)), (17, .x (.int .i64 r138.2)), (18, .x (.flt r141.1)), (19, .x (.int .i64 r141.2)), (20, .x (.flt (fMul x145 (some 4621819117588971520 : Fl)))), (21, .x (.int .i64 x146))] [] (by kernel_rfl) (by kernel_rfl) ?_
      refine JC.skipB ?_
      refine JC.skipT ?_
      refine JC.region fun b151 => ?_
      refine JS.run 3 (by kernel_rfl) ?_
      refine JS.nil ?_
      refine JC.to2 [(0, .x (.int .u32 a0)), (9, .x (.int .i64 (Int.tmod (IntKind.i64.wrap a1) (IntKind.i64.wrap ((y11.length : Int) + (1 : Int)))))), (14, .x (.flt r135.1)), (15, .x (.int .i64 r135.2)), (16, .x (.flt r138.1)), (17, .x (.int .i64 r138.2)), (18, .x (.flt r141.1)), (19, .x (.int .i64 r141.2)), (20, .x (.flt (fMul x145 (some 4621819117588971520 : Fl)))), (21, .x (.int .i64 (IntKind.i64.wrap (x146 + (1 : Int)))))] [] (by kernel_rfl) (by kernel_rfl) ?_
      refine JC.skipL ?_
      refine JC.to2 [(0, .x (.int .u32 a0)), (9, .x (.int .i64 (Int.tmod (IntKind.i64.wrap a1) (IntKind.i64.wrap ((y11.length : Int) + (1 : Int)))))), (14, .x (.flt r135.1)), (15, .x (.int .i64 r135.2)), (16, .x (.flt r138.1)), (17, .x (.int .i64 r138.2)), (18, .x (.flt r141.1)), (19, .x (.int .i64 r141.2)), (20, .x (.flt (fMul x145 (some 4621819117588971520 : Fl)))), (21, .x (.int .i64 (IntKind.i64.wrap (x146 + (1 : Int)))))] [] (by kernel_rfl) (by kernel_rfl) ?_
      exact ih (fMul x145 (some 4621819117588971520 : Fl)) (IntKind.i64.wrap (x146 + (1 : Int)))
    · refine JC.exitT ?_
      refine JC.exitL ?_
      refine JC.to2 [(0, .x (.int .u32 a0)), (14, .x (.flt r135.1)), (15, .x (.int .i64 r135.2)), (16, .x (.flt r138.1)), (17, .x (.int .i64 r138.2)), (18, .x (.flt r141.1)), (19, .x (.int .i64 r141.2)), (20, .x (.flt x145))] [] (by kernel_rfl) (by kernel_rfl) ?_
      exact JC.got (ex := (.exit 2)) rfl ⟨rfl, rfl, rfl⟩
def eyotlaw1_WeighDigits_l5 (a0 : Int) (a1 : Int) (y11 : (List UInt8)) (r179 : (Fl × Int)) (r182 : (Fl × Int)) (r185 : (Fl × Int)) : Nat → Fl → Int → Option Fl
  | 0, _, _ => none
  | k + 1, x189, x190 => cond (decide (x190 < (Int.tmod (IntKind.i64.wrap a1) (IntKind.i64.wrap ((y11.length : Int) + (1 : Int)))))) (eyotlaw1_WeighDigits_l5 a0 a1 y11 r179 r182 r185 k (fMul x189 (some 4621819117588971520 : Fl)) (IntKind.i64.wrap (x190 + (1 : Int)))) (some x189)
theorem eyotlaw1_WeighDigits_l5_ok (a0 : Int) (a1 : Int) (y11 : (List UInt8)) (r179 : (Fl × Int)) (r182 : (Fl × Int)) (r185 : (Fl × Int))  : ∀ (k : Nat) (x189 : Fl) (x190 : Int), JC prog noFr 131 [(0, .x (.int .u32 a0)), (9, .x (.int .i64 (Int.tmod (IntKind.i64.wrap a1) (IntKind.i64.wrap ((y11.length : Int) + (1 : Int)))))), (14, .x (.flt r179.1)), (15, .x (.int .i64 r179.2)), (16, .x (.flt r182.1)), (17, .x (.int .i64 r182.2)), (18, .x (.flt r185.1)), (19, .x (.int .i64 r185.2)), (20, .x (.flt x189)), (21, .x (.int .i64 x190))] [] (.loop pf4_L1) (eyotlaw1_WeighDigits_l5 a0 a1 y11 r179 r182 r185 k x189 x190) (fun x => GotA 131 noFr ((fun v ex E R => ex = (.exit 2) ∧ E = [(0, .x (.int .u32 a0)), (14, .x (.flt r179.1)), (15, .x (.int .i64 r179.2)), (16, .x (.flt r182.1)), (17, .x (.int .i64 r182.2)), (18, .x (.flt r185.1)), (19, .x (.int .i64 r185.2)), (20, .x (.flt v))] ∧ R = []) x)) := by
  intro k
  induction k with
  | zero =>
    intro x189 x190
    exact JC.no
  | succ k ih =>
    intro x189 x190
    rw [eyotlaw1_WeighDigits_l5]
    refine JC.loop ?_
    refine JC.seq ?_
    refine JC.seq ?_
    refine JC.region fun b192 => ?_
    refine JS.run 3 (by kernel_rfl) ?_
    refine JS.nil ?_
    refine JC.to2 [(0, .x (.int .u32 a0)), (9, .x (.int .i64 (Int.tmod (IntKind.i64.wrap a1) (IntKind.i64.wrap ((y11.length : Int) + (1 : Int)))))), (14, .x (.flt r179.1)), (15, .x (.int .i64 r179.2)), (16, .x (.flt r182.1)), (17, .x (.int .i64 r182.2)), (18, .x (.flt r185.1)), (19, .x (.int .i64 r185.2)), (20, .x (.flt x189)), (21, .x (.int .i64 x190)), (97, .x (.bool (decide (x190 < (Int.tmod (IntKind.i64.wrap a1) (IntKind.i64.wrap ((y11.length : Int) + (1 : Int))))))))] [] (by kernel_rfl) (by kernel_rfl) ?_
    refine JC.skipT ?_
    refine JC.cond (e := (decide (x190 < (Int.tmod (IntKind.i64.wrap a1) (IntKind.i64.wrap ((y11.length : Int) + (1 : Int))))))) (by kernel_rfl) (fun h193 => ?_) (fun h193 => ?_)
    · refine JC.skipT ?_
      refine JC.seq ?_
      refine JC.block ?_
      refine JC.region fun b194 => ?_
      refine JS.run 3 (by kernel_rfl) ?_
      refine JS.nil ?_
      refine JC.to2 [(0, .x (.int .u32 a0)), (9, .x (.int .i64 (Int.tmod (IntKind.i64.wrap a1) (IntKind.i64.wrap ((y11.length : Int) + (1 : Int)))))), (14, .x (.flt r179.1)), (15, .x (.int .i64 r179.2)), (16, .x (.flt r182.1)), (17, .x (.int .i64 r182.2)), (18, .x (.flt r185.1)), (19, .x (.int .i64 r185.2)), (20, .x (.flt (fMul x189 (some 4621819117588971520 : Fl)))), (21, .x (.int .i64 x190))] [] (by kernel_rfl) (by kernel_rfl) ?_
      refine JC.skipB ?_
      refine JC.skipT ?_
      refine JC.region fun b195 => ?_
      refine JS.run 3 (by kernel_rfl) ?_
      refine JS.nil ?_
      refine JC.to2 [(0, .x (.int .u32 a0)), (9, .x (.int .i64 (Int.tmod (IntKind.i64.wrap a1) (IntKind.i64.wrap ((y11.length : Int) + (1 : Int)))))), (14, .x (.flt r179.1)), (15, .x (.int .i64 r179.2)), (16, .x (.flt r182.1)), (17, .x (.int .i64 r182.2)), (18, .x (.flt r185.1)), (19, .x (.int .i64 r185.2)), (20, .x (.flt (fMul x189 (some 4621819117588971520 : Fl)))), (21, .x (.int .i64 (IntKind.i64.wrap (x190 + (1 : Int)))))] [] (by kernel_rfl) (by kernel_rfl) ?_
      refine JC.skipL ?_
      refine JC.to2 [(0, .x (.int .u32 a0)), (9, .x (.int .i64 (Int.tmod (IntKind.i64.wrap a1) (IntKind.i64.wrap ((y11.length : Int) + (1 : Int)))))), (14, .x (.flt r179.1)), (15, .x (.int .i64 r179.2)), (16, .x (.flt r182.1)), (17, .x (.int .i64 r182.2)), (18, .x (.flt r185.1)), (19, .x (.int .i64 r185.2)), (20, .x (.flt (fMul x189 (some 4621819117588971520 : Fl)))), (21, .x (.int .i64 (IntKind.i64.wrap (x190 + (1 : Int)))))] [] (by kernel_rfl) (by kernel_rfl) ?_
      exact ih (fMul x189 (some 4621819117588971520 : Fl)) (IntKind.i64.wrap (x190 + (1 : Int)))
    · refine JC.exitT ?_
      refine JC.exitL ?_
      refine JC.to2 [(0, .x (.int .u32 a0)), (14, .x (.flt r179.1)), (15, .x (.int .i64 r179.2)), (16, .x (.flt r182.1)), (17, .x (.int .i64 r182.2)), (18, .x (.flt r185.1)), (19, .x (.int .i64 r185.2)), (20, .x (.flt x189))] [] (by kernel_rfl) (by kernel_rfl) ?_
      exact JC.got (ex := (.exit 2)) rfl ⟨rfl, rfl, rfl⟩
def eyotlaw1_WeighDigits_l6 (a0 : Int) (a1 : Int) (y11 : (List UInt8)) (r208 : (Fl × Int)) (r211 : (Fl × Int)) (r214 : (Fl × Int)) : Nat → Fl → Int → Option Fl
  | 0, _, _ => none
  | k + 1, x218, x219 => cond (decide (x219 < (Int.tmod (IntKind.i64.wrap a1) (IntKind.i64.wrap ((y11.length : Int) + (1 : Int)))))) (eyotlaw1_WeighDigits_l6 a0 a1 y11 r208 r211 r214 k (fMul x218 (some 4621819117588971520 : Fl)) (IntKind.i64.wrap (x219 + (1 : Int)))) (some x218)
theorem eyotlaw1_WeighDigits_l6_ok (a0 : Int) (a1 : Int) (y11 : (List UInt8)) (r208 : (Fl × Int)) (r211 : (Fl × Int)) (r214 : (Fl × Int))  : ∀ (k : Nat) (x218 : Fl) (x219 : Int), JC prog noFr 131 [(0, .x (.int .u32 a0)), (9, .x (.int .i64 (Int.tmod (IntKind.i64.wrap a1) (IntKind.i64.wrap ((y11.length : Int) + (1 : Int)))))), (14, .x (.flt r208.1)), (15, .x (.int .i64 r208.2)), (16, .x (.flt r211.1)), (17, .x (.int .i64 r211.2)), (18, .x (.flt r214.1)), (19, .x (.int .i64 r214.2)), (20, .x (.flt x218)), (21, .x (.int .i64 x219))] [] (.loop pf4_L1) (eyotlaw1_WeighDigits_l6 a0 a1 y11 r208 r211 r214 k x218 x219) (fun x => GotA 131 noFr ((fun v ex E R => ex = (.exit 2) ∧ E = [(0, .x (.int .u32 a0)), (14, .x (.flt r208.1)), (15, .x (.int .i64 r208.2)), (16, .x (.flt r211.1)), (17, .x (.int .i64 r211.2)), (18, .x (.flt r214.1)), (19, .x (.int .i64 r214.2)), (20, .x (.flt v))] ∧ R = []) x)) := by
  intro k
  induction k with
  | zero =>
    intro x218 x219
    exact JC.no
  | succ k ih =>
    intro x218 x219
    rw [eyotlaw1_WeighDigits_l6]
    refine JC.loop ?_
    refine JC.seq ?_
    refine JC.seq ?_
    refine JC.region fun b221 => ?_
    refine JS.run 3 (by kernel_rfl) ?_
    refine JS.nil ?_
    refine JC.to2 [(0, .x (.int .u32 a0)), (9, .x (.int .i64 (Int.tmod (IntKind.i64.wrap a1) (IntKind.i64.wrap ((y11.length : Int) + (1 : Int)))))), (14, .x (.flt r208.1)), (15, .x (.int .i64 r208.2)), (16, .x (.flt r211.1)), (17, .x (.int .i64 r211.2)), (18, .x (.flt r214.1)), (19, .x (.int .i64 r214.2)), (20, .x (.flt x218)), (21, .x (.int .i64 x219)), (97, .x (.bool (decide (x219 < (Int.tmod (IntKind.i64.wrap a1) (IntKind.i64.wrap ((y11.length : Int) + (1 : Int))))))))] [] (by kernel_rfl) (by kernel_rfl) ?_
    refine JC.skipT ?_
    refine JC.cond (e := (decide (x219 < (Int.tmod (IntKind.i64.wrap a1) (IntKind.i64.wrap ((y11.length : Int) + (1 : Int))))))) (by kernel_rfl) (fun h222 => ?_) (fun h222 => ?_)
    · refine JC.skipT ?_
      refine JC.seq ?_
      refine JC.block ?_
      refine JC.region fun b223 => ?_
      refine JS.run 3 (by kernel_rfl) ?_
      refine JS.nil ?_
      refine JC.to2 [(0, .x (.int .u32 a0)), (9, .x (.int .i64 (Int.tmod (IntKind.i64.wrap a1) (IntKind.i64.wrap ((y11.length : Int) + (1 : Int)))))), (14, .x (.flt r208.1)), (15, .x (.int .i64 r208.2)), (16, .x (.flt r211.1)), (17, .x (.int .i64 r211.2)), (18, .x (.flt r214.1)), (19, .x (.int .i64 r214.2)), (20, .x (.flt (fMul x218 (some 4621819117588971520 : Fl)))), (21, .x (.int .i64 x219))] [] (by kernel_rfl) (by kernel_rfl) ?_
      refine JC.skipB ?_
      refine JC.skipT ?_
      refine JC.region fun b224 => ?_
      refine JS.run 3 (by kernel_rfl) ?_
      refine JS.nil ?_
      refine JC.to2 [(0, .x (.int .u32 a0)), (9, .x (.int .i64 (Int.tmod (IntKind.i64.wrap a1) (IntKind.i64.wrap ((y11.length : Int) + (1 : Int)))))), (14, .x (.flt r208.1)), (15, .x (.int .i64 r208.2)), (16, .x (.flt r211.1)), (17, .x (.int .i64 r211.2)), (18, .x (.flt r214.1)), (19, .x (.int .i64 r214.2)), (20, .x (.flt (fMul x218 (some 4621819117588971520 : Fl)))), (21, .x (.int .i64 (IntKind.i64.wrap (x219 + (1 : Int)))))] [] (by kernel_rfl) (by kernel_rfl) ?_
      refine JC.skipL ?_
      refine JC.to2 [(0, .x (.int .u32 a0)), (9, .x (.int .i64 (Int.tmod (IntKind.i64.wrap a1) (IntKind.i64.wrap ((y11.length : Int) + (1 : Int)))))), (14, .x (.flt r208.1)), (15, .x (.int .i64 r208.2)), (16, .x (.flt r211.1)), (17, .x (.int .i64 r211.2)), (18, .x (.flt r214.1)), (19, .x (.int .i64 r214.2)), (20, .x (.flt (fMul x218 (some 4621819117588971520 : Fl)))), (21, .x (.int .i64 (IntKind.i64.wrap (x219 + (1 : Int)))))] [] (by kernel_rfl) (by kernel_rfl) ?_
      exact ih (fMul x218 (some 4621819117588971520 : Fl)) (IntKind.i64.wrap (x219 + (1 : Int)))
    · refine JC.exitT ?_
      refine JC.exitL ?_
      refine JC.to2 [(0, .x (.int .u32 a0)), (14, .x (.flt r208.1)), (15, .x (.int .i64 r208.2)), (16, .x (.flt r211.1)), (17, .x (.int .i64 r211.2)), (18, .x (.flt r214.1)), (19, .x (.int .i64 r214.2)), (20, .x (.flt x218))] [] (by kernel_rfl) (by kernel_rfl) ?_
      exact JC.got (ex := (.exit 2)) rfl ⟨rfl, rfl, rfl⟩
def eyotlaw1_WeighDigits_l7 (a0 : Int) (a1 : Int) (y11 : (List UInt8)) (r245 : (Fl × Int)) (r248 : (Fl × Int)) (r251 : (Fl × Int)) : Nat → Fl → Int → Option Fl
  | 0, _, _ => none
  | k + 1, x255, x256 => cond (decide (x256 < (Int.tmod (IntKind.i64.wrap a1) (IntKind.i64.wrap ((y11.length : Int) + (1 : Int)))))) (eyotlaw1_WeighDigits_l7 a0 a1 y11 r245 r248 r251 k (fMul x255 (some 4621819117588971520 : Fl)) (IntKind.i64.wrap (x256 + (1 : Int)))) (some x255)
theorem eyotlaw1_WeighDigits_l7_ok (a0 : Int) (a1 : Int) (y11 : (List UInt8)) (r245 : (Fl × Int)) (r248 : (Fl × Int)) (r251 : (Fl × Int))  : ∀ (k : Nat) (x255 : Fl) (x256 : Int), JC prog noFr 131 [(0, .x (.int .u32 a0)), (9, .x (.int .i64 (Int.tmod (IntKind.i64.wrap a1) (IntKind.i64.wrap ((y11.length : Int) + (1 : Int)))))), (14, .x (.flt r245.1)), (15, .x (.int .i64 r245.2)), (16, .x (.flt r248.1)), (17, .x (.int .i64 r248.2)), (18, .x (.flt r251.1)), (19, .x (.int .i64 r251.2)), (20, .x (.flt x255)), (21, .x (.int .i64 x256))] [] (.loop pf4_L1) (eyotlaw1_WeighDigits_l7 a0 a1 y11 r245 r248 r251 k x255 x256) (fun x => GotA 131 noFr ((fun v ex E R => ex = (.exit 2) ∧ E = [(0, .x (.int .u32 a0)), (14, .x (.flt r245.1)), (15, .x (.int .i64 r245.2)), (16, .x (.flt r248.1)), (17, .x (.int .i64 r248.2)), (18, .x (.flt r251.1)), (19, .x (.int .i64 r251.2)), (20, .x (.flt v))] ∧ R = []) x)) := by
  intro k
  induction k with
  | zero =>
    intro x255 x256
    exact JC.no
  | succ k ih =>
    intro x255 x256
    rw [eyotlaw1_WeighDigits_l7]
    refine JC.loop ?_
    refine JC.seq ?_
    refine JC.seq ?_
    refine JC.region fun b258 => ?_
    refine JS.run 3 (by kernel_rfl) ?_
    refine JS.nil ?_
    refine JC.to2 [(0, .x (.int .u32 a0)), (9, .x (.int .i64 (Int.tmod (IntKind.i64.wrap a1) (IntKind.i64.wrap ((y11.length : Int) + (1 : Int)))))), (14, .x (.flt r245.1)), (15, .x (.int .i64 r245.2)), (16, .x (.flt r248.1)), (17, .x (.int .i64 r248.2)), (18, .x (.flt r251.1)), (19, .x (.int .i64 r251.2)), (20, .x (.flt x255)), (21, .x (.int .i64 x256)), (97, .x (.bool (decide (x256 < (Int.tmod (IntKind.i64.wrap a1) (IntKind.i64.wrap ((y11.length : Int) + (1 : Int))))))))] [] (by kernel_rfl) (by kernel_rfl) ?_
    refine JC.skipT ?_
    refine JC.cond (e := (decide (x256 < (Int.tmod (IntKind.i64.wrap a1) (IntKind.i64.wrap ((y11.length : Int) + (1 : Int))))))) (by kernel_rfl) (fun h259 => ?_) (fun h259 => ?_)
    · refine JC.skipT ?_
      refine JC.seq ?_
      refine JC.block ?_
      refine JC.region fun b260 => ?_
      refine JS.run 3 (by kernel_rfl) ?_
      refine JS.nil ?_
      refine JC.to2 [(0, .x (.int .u32 a0)), (9, .x (.int .i64 (Int.tmod (IntKind.i64.wrap a1) (IntKind.i64.wrap ((y11.length : Int) + (1 : Int)))))), (14, .x (.flt r245.1)), (15, .x (.int .i64 r245.2)), (16, .x (.flt r248.1)), (17, .x (.int .i64 r248.2)), (18, .x (.flt r251.1)), (19, .x (.int .i64 r251.2)), (20, .x (.flt (fMul x255 (some 4621819117588971520 : Fl)))), (21, .x (.int .i64 x256))] [] (by kernel_rfl) (by kernel_rfl) ?_
      refine JC.skipB ?_
      refine JC.skipT ?_
      refine JC.region fun b261 => ?_
      refine JS.run 3 (by kernel_rfl) ?_
      refine JS.nil ?_
      refine JC.to2 [(0, .x (.int .u32 a0)), (9, .x (.int .i64 (Int.tmod (IntKind.i64.wrap a1) (IntKind.i64.wrap ((y11.length : Int) + (1 : Int)))))), (14, .x (.flt r245.1)), (15, .x (.int .i64 r245.2)), (16, .x (.flt r248.1)), (17, .x (.int .i64 r248.2)), (18, .x (.flt r251.1)), (19, .x (.int .i64 r251.2)), (20, .x (.flt (fMul x255 (some 4621819117588971520 : Fl)))), (21, .x (.int .i64 (IntKind.i64.wrap (x256 + (1 : Int)))))] [] (by kernel_rfl) (by kernel_rfl) ?_
      refine JC.skipL ?_
      refine JC.to2 [(0, .x (.int .u32 a0)), (9, .x (.int .i64 (Int.tmod (IntKind.i64.wrap a1) (IntKind.i64.wrap ((y11.length : Int) + (1 : Int)))))), (14, .x (.flt r245.1)), (15, .x (.int .i64 r245.2)), (16, .x (.flt r248.1)), (17, .x (.int .i64 r248.2)), (18, .x (.flt r251.1)), (19, .x (.int .i64 r251.2)), (20, .x (.flt (fMul x255 (some 4621819117588971520 : Fl)))), (21, .x (.int .i64 (IntKind.i64.wrap (x256 + (1 : Int)))))] [] (by kernel_rfl) (by kernel_rfl) ?_
      exact ih (fMul x255 (some 4621819117588971520 : Fl)) (IntKind.i64.wrap (x256 + (1 : Int)))
    · refine JC.exitT ?_
      refine JC.exitL ?_
      refine JC.to2 [(0, .x (.int .u32 a0)), (14, .x (.flt r245.1)), (15, .x (.int .i64 r245.2)), (16, .x (.flt r248.1)), (17, .x (.int .i64 r248.2)), (18, .x (.flt r251.1)), (19, .x (.int .i64 r251.2)), (20, .x (.flt x255))] [] (by kernel_rfl) (by kernel_rfl) ?_
      exact JC.got (ex := (.exit 2)) rfl ⟨rfl, rfl, rfl⟩
def eyotlaw1_WeighDigits_l8 (a0 : Int) (a1 : Int) (y11 : (List UInt8)) (r274 : (Fl × Int)) (r277 : (Fl × Int)) (r280 : (Fl × Int)) : Nat → Fl → Int → Option Fl
  | 0, _, _ => none
  | k + 1, x284, x285 => cond (decide (x285 < (Int.tmod (IntKind.i64.wrap a1) (IntKind.i64.wrap ((y11.length : Int) + (1 : Int)))))) (eyotlaw1_WeighDigits_l8 a0 a1 y11 r274 r277 r280 k (fMul x284 (some 4621819117588971520 : Fl)) (IntKind.i64.wrap (x285 + (1 : Int)))) (some x284)
theorem eyotlaw1_WeighDigits_l8_ok (a0 : Int) (a1 : Int) (y11 : (List UInt8)) (r274 : (Fl × Int)) (r277 : (Fl × Int)) (r280 : (Fl × Int))  : ∀ (k : Nat) (x284 : Fl) (x285 : Int), JC prog noFr 131 [(0, .x (.int .u32 a0)), (9, .x (.int .i64 (Int.tmod (IntKind.i64.wrap a1) (IntKind.i64.wrap ((y11.length : Int) + (1 : Int)))))), (14, .x (.flt r274.1)), (15, .x (.int .i64 r274.2)), (16, .x (.flt r277.1)), (17, .x (.int .i64 r277.2)), (18, .x (.flt r280.1)), (19, .x (.int .i64 r280.2)), (20, .x (.flt x284)), (21, .x (.int .i64 x285))] [] (.loop pf4_L1) (eyotlaw1_WeighDigits_l8 a0 a1 y11 r274 r277 r280 k x284 x285) (fun x => GotA 131 noFr ((fun v ex E R => ex = (.exit 2) ∧ E = [(0, .x (.int .u32 a0)), (14, .x (.flt r274.1)), (15, .x (.int .i64 r274.2)), (16, .x (.flt r277.1)), (17, .x (.int .i64 r277.2)), (18, .x (.flt r280.1)), (19, .x (.int .i64 r280.2)), (20, .x (.flt v))] ∧ R = []) x)) := by
  intro k
  induction k with
  | zero =>
    intro x284 x285
    exact JC.no
  | succ k ih =>
    intro x284 x285
    rw [eyotlaw1_WeighDigits_l8]
    refine JC.loop ?_
    refine JC.seq ?_
    refine JC.seq ?_
    refine JC.region fun b287 => ?_
    refine JS.run 3 (by kernel_rfl) ?_
    refine JS.nil ?_
    refine JC.to2 [(0, .x (.int .u32 a0)), (9, .x (.int .i64 (Int.tmod (IntKind.i64.wrap a1) (IntKind.i64.wrap ((y11.length : Int) + (1 : Int)))))), (14, .x (.flt r274.1)), (15, .x (.int .i64 r274.2)), (16, .x (.flt r277.1)), (17, .x (.int .i64 r277.2)), (18, .x (.flt r280.1)), (19, .x (.int .i64 r280.2)), (20, .x (.flt x284)), (21, .x (.int .i64 x285)), (97, .x (.bool (decide (x285 < (Int.tmod (IntKind.i64.wrap a1) (IntKind.i64.wrap ((y11.length : Int) + (1 : Int))))))))] [] (by kernel_rfl) (by kernel_rfl) ?_
    refine JC.skipT ?_
    refine JC.cond (e := (decide (x285 < (Int.tmod (IntKind.i64.wrap a1) (IntKind.i64.wrap ((y11.length : Int) + (1 : Int))))))) (by kernel_rfl) (fun h288 => ?_) (fun h288 => ?_)
    · refine JC.skipT ?_
      refine JC.seq ?_
      refine JC.block ?_
      refine JC.region fun b289 => ?_
      refine JS.run 3 (by kernel_rfl) ?_
      refine JS.nil ?_
      refine JC.to2 [(0, .x (.int .u32 a0)), (9, .x (.int .i64 (Int.tmod (IntKind.i64.wrap a1) (IntKind.i64.wrap ((y11.length : Int) + (1 : Int)))))), (14, .x (.flt r274.1)), (15, .x (.int .i64 r274.2)), (16, .x (.flt r277.1)), (17, .x (.int .i64 r277.2)), (18, .x (.flt r280.1)), (19, .x (.int .i64 r280.2)), (20, .x (.flt (fMul x284 (some 4621819117588971520 : Fl)))), (21, .x (.int .i64 x285))] [] (by kernel_rfl) (by kernel_rfl) ?_
      refine JC.skipB ?_
      refine JC.skipT ?_
      refine JC.region fun b290 => ?_
      refine JS.run 3 (by kernel_rfl) ?_
      refine JS.nil ?_
      refine JC.to2 [(0, .x (.int .u32 a0)), (9, .x (.int .i64 (Int.tmod (IntKind.i64.wrap a1) (IntKind.i64.wrap ((y11.length : Int) + (1 : Int)))))), (14, .x (.flt r274.1)), (15, .x (.int .i64 r274.2)), (16, .x (.flt r277.1)), (17, .x (.int .i64 r277.2)), (18, .x (.flt r280.1)), (19, .x (.int .i64 r280.2)), (20, .x (.flt (fMul x284 (some 4621819117588971520 : Fl)))), (21, .x (.int .i64 (IntKind.i64.wrap (x285 + (1 : Int)))))] [] (by kernel_rfl) (by kernel_rfl) ?_
      refine JC.skipL ?_
      refine JC.to2 [(0, .x (.int .u32 a0)), (9, .x (.int .i64 (Int.tmod (IntKind.i64.wrap a1) (IntKind.i64.wrap ((y11.length : Int) + (1 : Int)))))), (14, .x (.flt r274.1)), (15, .x (.int .i64 r274.2)), (16, .x (.flt r277.1)), (17, .x (.int .i64 r277.2)), (18, .x (.flt r280.1)), (19, .x (.int .i64 r280.2)), (20, .x (.flt (fMul x284 (some 4621819117588971520 : Fl)))), (21, .x (.int .i64 (IntKind.i64.wrap (x285 + (1 : Int)))))] [] (by kernel_rfl) (by kernel_rfl) ?_
      exact ih (fMul x284 (some 4621819117588971520 : Fl)) (IntKind.i64.wrap (x285 + (1 : Int)))
    · refine JC.exitT ?_
      refine JC.exitL ?_
      refine JC.to2 [(0, .x (.int .u32 a0)), (14, .x (.flt r274.1)), (15, .x (.int .i64 r274.2)), (16, .x (.flt r277.1)), (17, .x (.int .i64 r277.2)), (18, .x (.flt r280.1)), (19, .x (.int .i64 r280.2)), (20, .x (.flt x284))] [] (by kernel_rfl) (by kernel_rfl) ?_
      exact JC.got (ex := (.exit 2)) rfl ⟨rfl, rfl, rfl⟩
def eyotlaw1_WeighDigits (k : Nat) (a0 : Int) (a1 : Int) (a2 : Int) : Option Bool :=
  (eyotlaw1_begun k).bind fun r3 => cond (!r3) (some false) ((eyotlaw1_WeighDigits_l0 a0 a1 a2 k ([] : List UInt8) a0).bind fun y11 => nz (IntKind.i64.wrap ((y11.length : Int) + (1 : Int))) ((cutI y11.length none (some (IntKind.i64.wrap ((y11.length : Int) - (Int.tmod (IntKind.i64.wrap a1) (IntKind.i64.wrap ((y11.length : Int) + (1 : Int)))))))).bind fun p21 => cond ((sl y11 p21) == ([] : List UInt8)) ((cutI y11.length (some (IntKind.i64.wrap ((y11.length : Int) - (Int.tmod (IntKind.i64.wrap a1) (IntKind.i64.wrap ((y11.length : Int) + (1 : Int))))))) none).bind fun p27 => cond (!((sl y11 p27) == ([] : List UInt8))) (room (([48] : List UInt8).length + ([46] : List UInt8).length) 1 (room ((([48] : List UInt8) ++ ([46] : List UInt8)).length + (sl y11 p27).length) 1 (room (([48] : List UInt8).length + ((([48] : List UInt8) ++ ([46] : List UInt8)) ++ (sl y11 p27)).length) 1 ((cond (!((sl y11 p27) == ([] : List UInt8))) (some (((([48] : List UInt8) ++ ([46] : List UInt8)) ++ (sl y11 p27)), (([48] : List UInt8) ++ ((([48] : List UInt8) ++ ([46] : List UInt8)) ++ (sl y11 p27))), ((Int.tmod a2 (2 : Int)) == (1 : Int)))) (some (((([48] : List UInt8) ++ ([46] : List UInt8)) ++ (sl y11 p27)), (([48] : List UInt8) ++ ((([48] : List UInt8) ++ ([46] : List UInt8)) ++ (sl y11 p27))), false))).bind fun (y34, y35, y36) => cond y36 (room (y35.length + ([48] : List UInt8).length) 1 ((weigh_Parse k y34).bind fun r42 => (weigh_Parse k (y35 ++ ([48] : List UInt8))).bind fun r45 => room (([45] : List UInt8).length + y34.length) 1 ((weigh_Parse k (([45] : List UInt8) ++ y34)).bind fun r48 => (eyotlaw1_WeighDigits_l1 a0 a1 y11 r42 r45 r48 k (some 4607182418800017408 : Fl) (0 : Int)).bind fun y54 => (cond (r42.2 == (0 : Int)) (cond (r45.2 == (0 : Int)) (cond (r48.2 == (0 : Int)) ((weigh_Same k r42.1 r45.1).bind fun r64 => cond r64 ((weigh_Same k r48.1 (fNeg r42.1)).bind fun r67 => cond r67 (some (fOrd r42.1 (fDiv (some (FloatKind.f64.nearest a0) : Fl) y54) == some .eq)) (some false)) (some false)) (some false)) (some false)) (some false)).bind fun y59 => some y59))) ((weigh_Parse k y34).bind fun r71 => (weigh_Parse k y35).bind fun r74 => room (([45] : List UInt8).length + y34.length) 1 ((weigh_Parse k (([45] : List UInt8) ++ y34)).bind fun r77 => (eyotlaw1_WeighDigits_l2 a0 a1 y11 r71 r74 r77 k (some 4607182418800017408 : Fl) (0 : Int)).bind fun y83 => (cond (r71.2 == (0 : Int)) (cond (r74.2 == (0 : Int)) (cond (r77.2 == (0 : Int)) ((weigh_Same k r71.1 r74.1).bind fun r93 => cond r93 ((weigh_Same k r77.1 (fNeg r71.1)).bind fun r96 => cond r96 (some (fOrd r71.1 (fDiv (some (FloatKind.f64.nearest a0) : Fl) y83) == some .eq)) (some false)) (some false)) (some false)) (some false)) (some false)).bind fun y88 => some y88)))))) (room (([48] : List UInt8).length + ([48] : List UInt8).length) 1 ((cond (!((sl y11 p27) == ([] : List UInt8))) (some ((Int.tmod a2 (2 : Int)) == (1 : Int))) (some false)).bind fun y100 => cond y100 (room ((([48] : List UInt8) ++ ([48] : List UInt8)).length + ([48] : List UInt8).length) 1 ((weigh_Parse k ([48] : List UInt8)).bind fun r106 => (weigh_Parse k ((([48] : List UInt8) ++ ([48] : List UInt8)) ++ ([48] : List UInt8))).bind fun r109 => room (([45] : List UInt8).length + ([48] : List UInt8).length) 1 ((weigh_Parse k (([45] : List UInt8) ++ ([48] : List UInt8))).bind fun r112 => (eyotlaw1_WeighDigits_l3 a0 a1 y11 r106 r109 r112 k (some 4607182418800017408 : Fl) (0 : Int)).bind fun y118 => (cond (r106.2 == (0 : Int)) (cond (r109.2 == (0 : Int)) (cond (r112.2 == (0 : Int)) ((weigh_Same k r106.1 r109.1).bind fun r128 => cond r128 ((weigh_Same k r112.1 (fNeg r106.1)).bind fun r131 => cond r131 (some (fOrd r106.1 (fDiv (some (FloatKind.f64.nearest a0) : Fl) y118) == some .eq)) (some false)) (some false)) (some false)) (some false)) (some false)).bind fun y123 => some y123))) ((weigh_Parse k ([48] : List UInt8)).bind fun r135 => (weigh_Parse k (([48] : List UInt8) ++ ([48] : List UInt8))).bind fun r138 => room (([45] : List UInt8).length + ([48] : List UInt8).length) 1 ((weigh_Parse k (([45] : List UInt8) ++ ([48] : List UInt8))).bind fun r141 => (eyotlaw1_WeighDigits_l4 a0 a1 y11 r135 r138 r141 k (some 4607182418800017408 : Fl) (0 : Int)).bind fun y147 => (cond (r135.2 == (0 : Int)) (cond (r138.2 == (0 : Int)) (cond (r141.2 == (0 : Int)) ((weigh_Same k r135.1 r138.1).bind fun r157 => cond r157 ((weigh_Same k r141.1 (fNeg r135.1)).bind fun r160 => cond r160 (some (fOrd r135.1 (fDiv (some (FloatKind.f64.nearest a0) : Fl) y147) == some .eq)) (some false)) (some false)) (some false)) (some false)) (some false)).bind fun y152 => some y152))))) ((cutI y11.length (some (IntKind.i64.wrap ((y11.length : Int) - (Int.tmod (IntKind.i64.wrap a1) (IntKind.i64.wrap ((y11.length : Int) + (1 : Int))))))) none).bind fun p164 => cond (!((sl y11 p164) == ([] : List UInt8))) (room ((sl y11 p21).length + ([46] : List UInt8).length) 1 (room (((sl y11 p21) ++ ([46] : List UInt8)).length + (sl y11 p164).length) 1 (room (([48] : List UInt8).length + (((sl y11 p21) ++ ([46] : List UInt8)) ++ (sl y11 p164)).length) 1 ((cond (!((sl y11 p164) == ([] : List UInt8))) (some ((((sl y11 p21) ++ ([46] : List UInt8)) ++ (sl y11 p164)), (([48] : List UInt8) ++ (((sl y11 p21) ++ ([46] : List UInt8)) ++ (sl y11 p164))), ((Int.tmod a2 (2 : Int)) == (1 : Int)))) (some ((((sl y11 p21) ++ ([46] : List UInt8)) ++ (sl y11 p164)), (([48] : List UInt8) ++ (((sl y11 p21) ++ ([46] : List UInt8)) ++ (sl y11 p164))), false))).bind fun (y171, y172, y173) => cond y173 (room (y172.length + ([48] : List UInt8).length) 1 ((weigh_Parse k y171).bind fun r179 => (weigh_Parse k (y172 ++ ([48] : List UInt8))).bind fun r182 => room (([45] : List UInt8).length + y171.length) 1 ((weigh_Parse k (([45] : List UInt8) ++ y171)).bind fun r185 => (eyotlaw1_WeighDigits_l5 a0 a1 y11 r179 r182 r185 k (some 4607182418800017408 : Fl) (0 : Int)).bind fun y191 => (cond (r179.2 == (0 : Int)) (cond (r182.2 == (0 : Int)) (cond (r185.2 == (0 : Int)) ((weigh_Same k r179.1 r182.1).bind fun r201 => cond r201 ((weigh_Same k r185.1 (fNeg r179.1)).bind fun r204 => cond r204 (some (fOrd r179.1 (fDiv (some (FloatKind.f64.nearest a0) : Fl) y191) == some .eq)) (some false)) (some false)) (some false)) (some false)) (some false)).bind fun y196 => some y196))) ((weigh_Parse k y171).bind fun r208 => (weigh_Parse k y172).bind fun r211 => room (([45] : List UInt8).length + y171.length) 1 ((weigh_Parse k (([45] : List UInt8) ++ y171)).bind fun r214 => (eyotlaw1_WeighDigits_l6 a0 a1 y11 r208 r211 r214 k (some 4607182418800017408 : Fl) (0 : Int)).bind fun y220 => (cond (r208.2 == (0 : Int)) (cond (r211.2 == (0 : Int)) (cond (r214.2 == (0 : Int)) ((weigh_Same k r208.1 r211.1).bind fun r230 => cond r230 ((weigh_Same k r214.1 (fNeg r208.1)).bind fun r233 => cond r233 (some (fOrd r208.1 (fDiv (some (FloatKind.f64.nearest a0) : Fl) y220) == some .eq)) (some false)) (some false)) (some false)) (some false)) (some false)).bind fun y225 => some y225)))))) (room (([48] : List UInt8).length + (sl y11 p21).length) 1 ((cond (!((sl y11 p164) == ([] : List UInt8))) (some ((sl y11 p21), (([48] : List UInt8) ++ (sl y11 p21)), ((Int.tmod a2 (2 : Int)) == (1 : Int)))) (some ((sl y11 p21), (([48] : List UInt8) ++ (sl y11 p21)), false))).bind fun (y237, y238, y239) => cond y239 (room (y238.length + ([48] : List UInt8).length) 1 ((weigh_Parse k y237).bind fun r245 => (weigh_Parse k (y238 ++ ([48] : List UInt8))).bind fun r248 => room (([45] : List UInt8).length + y237.length) 1 ((weigh_Parse k (([45] : List UInt8) ++ y237)).bind fun r251 => (eyotlaw1_WeighDigits_l7 a0 a1 y11 r245 r248 r251 k (some 4607182418800017408 : Fl) (0 : Int)).bind fun y257 => (cond (r245.2 == (0 : Int)) (cond (r248.2 == (0 : Int)) (cond (r251.2 == (0 : Int)) ((weigh_Same k r245.1 r248.1).bind fun r267 => cond r267 ((weigh_Same k r251.1 (fNeg r245.1)).bind fun r270 => cond r270 (some (fOrd r245.1 (fDiv (some (FloatKind.f64.nearest a0) : Fl) y257) == some .eq)) (some false)) (some false)) (some false)) (some false)) (some false)).bind fun y262 => some y262))) ((weigh_Parse k y237).bind fun r274 => (weigh_Parse k y238).bind fun r277 => room (([45] : List UInt8).length + y237.length) 1 ((weigh_Parse k (([45] : List UInt8) ++ y237)).bind fun r280 => (eyotlaw1_WeighDigits_l8 a0 a1 y11 r274 r277 r280 k (some 4607182418800017408 : Fl) (0 : Int)).bind fun y286 => (cond (r274.2 == (0 : Int)) (cond (r277.2 == (0 : Int)) (cond (r280.2 == (0 : Int)) ((weigh_Same k r274.1 r277.1).bind fun r296 => cond r296 ((weigh_Same k r280.1 (fNeg r274.1)).bind fun r299 => cond r299 (some (fOrd r274.1 (fDiv (some (FloatKind.f64.nearest a0) : Fl) y286) == some .eq)) (some false)) (some false)) (some false)) (some false)) (some false)).bind fun y291 => some y291)))))))
theorem eyotlaw1_WeighDigits_ok (k : Nat) (a0 : Int) (a1 : Int) (a2 : Int) : ∀ r, eyotlaw1_WeighDigits k a0 a1 a2 = some r → CallOk prog 4 [.x (.int .u32 a0), .x (.int .u8 a1), .x (.int .u8 a2)] false [.sc (.x (.bool r))] := by
  refine CallOk.ofB (pf := pf4) (rs := [.tmp 6]) (Res := fun (r : Bool) => [.sc (.x (.bool r))]) rfl rfl rfl rfl rfl ?_
  unfold eyotlaw1_WeighDigits pf4
  refine JC.seq ?_
  refine JC.region fun b1 => ?_
  refine JS.run 1 (by kernel_rfl) ?_
  refine JS.nil ?_
  refine JC.to2 [(0, .x (.int .u32 a0)), (1, .x (.int .u8 a1)), (2, .x (.int .u8 a2))] [] (by kernel_rfl) (by kernel_rfl) ?_
  refine JC.skipT ?_
  refine JC.seq ?_
  refine JC.seq ?_
  refine JC.region fun b2 => ?_
  refine JS.bind fun r3 h4 => ?_
  refine JS.callS [] (eyotlaw1_begun_ok k r3 h4) trivial (by kernel_rfl) (by kernel_rfl) (by kernel_rfl) ?_
  refine JS.run 1 (by kernel_rfl) ?_
  refine JS.nil ?_
  refine JC.to2 [(0, .x (.int .u32 a0)), (1, .x (.int .u8 a1)), (2, .x (.int .u8 a2)), (23, .x (.bool (!r3)))] [] (by kernel_rfl) (by kernel_rfl) ?_
  refine JC.skipT ?_
  refine JC.cond (e := (!r3)) (by kernel_rfl) (fun h5 => ?_) (fun h5 => ?_)
  · refine JC.seq ?_
    refine JC.region fun b6 => ?_
    refine JS.run 1 (by kernel_rfl) ?_
    refine JS.nil ?_
    refine JC.to2 [(6, .x (.bool false))] [] (by kernel_rfl) (by kernel_rfl) ?_
    refine JC.skipT ?_
    refine JC.retT ?_
    exact JC.finB (ex := .ret) (vs := [.x (.bool false)]) (is := []) rfl ret_ne ⟨(by kernel_rfl), trivial⟩ (Outs.sc rfl Outs.nil)
  · refine JC.skipT ?_
    refine JC.seq ?_
    refine JC.region fun b7 => ?_
    refine JS.run 1 (by kernel_rfl) ?_
    refine JS.nil ?_
    refine JC.to2 [(0, .x (.int .u32 a0)), (1, .x (.int .u8 a1)), (2, .x (.int .u8 a2)), (7, .x (.str ([] : List UInt8)))] [] (by kernel_rfl) (by kernel_rfl) ?_
    refine JC.skipT ?_
    refine JC.seq ?_
    refine JC.seq ?_
    refine JC.region fun b8 => ?_
    refine JS.run 2 (by kernel_rfl) ?_
    refine JS.nil ?_
    refine JC.to2 [(0, .x (.int .u32 a0)), (1, .x (.int .u8 a1)), (2, .x (.int .u8 a2)), (7, .x (.str ([] : List UInt8))), (8, .x (.int .u32 a0))] [] (by kernel_rfl) (by kernel_rfl) ?_
    refine JC.skipT ?_
    refine JC.block ?_
    refine JC.to2 [(0, .x (.int .u32 a0)), (1, .x (.int .u8 a1)), (2, .x (.int .u8 a2)), (7, .x (.str ([] : List UInt8))), (8, .x (.int .u32 a0))] [] (by kernel_rfl) (by kernel_rfl) ?_
    refine JC.to2 [(0, .x (.int .u32 a0)), (1, .x (.int .u8 a1)), (2, .x (.int .u8 a2)), (7, .x (.str ([] : List UInt8))), (8, .x (.int .u32 a0))] [] (by kernel_rfl) (by kernel_rfl) ?_
    refine JC.bind (A := fun v ex E R => ex = (.exit 0) ∧ E = [(0, .x (.int .u32 a0)), (1, .x (.int .u8 a1)), (2, .x (.int .u8 a2)), (7, .x (.str v))] ∧ R = []) (eyotlaw1_WeighDigits_l0_ok a0 a1 a2 k ([] : List UInt8) a0) ?_
    rintro y11 ex E' R' hA
    obtain ⟨rfl, rfl, rfl⟩ := hA
    refine JC.to2 [(0, .x (.int .u32 a0)), (1, .x (.int .u8 a1)), (2, .x (.int .u8 a2)), (7, .x (.str y11))] [] (by kernel_rfl) (by kernel_rfl) ?_
    refine JC.exitB ?_
    refine JC.skipT ?_
    refine JC.seq ?_
    refine JC.region fun b19 => ?_
    refine JS.run 5 (by kernel_rfl) ?_
    refine JS.rem (k := .i64) (a := (IntKind.i64.wrap a1)) (c := (IntKind.i64.wrap ((y11.length : Int) + (1 : Int)))) (by kernel_rfl) (by kernel_rfl) (by kernel_rfl) (by kernel_rfl) ?_
    refine JS.run 1 (by kernel_rfl) ?_
    refine JS.nil ?_
    refine JC.to2 [(0, .x (.int .u32 a0)), (2, .x (.int .u8 a2)), (7, .x (.str y11)), (9, .x (.int .i64 (Int.tmod (IntKind.i64.wrap a1) (IntKind.i64.wrap ((y11.length : Int) + (1 : Int))))))] [] (by kernel_rfl) (by kernel_rfl) ?_
    refine JC.skipT ?_
    refine JC.seq ?_
    refine JC.region fun b20 => ?_
    refine JS.run 5 (by kernel_rfl) ?_
    refine JS.sliceS (t := y11) (lo' := none) (hi' := (some (IntKind.i64.wrap ((y11.length : Int) - (Int.tmod (IntKind.i64.wrap a1) (IntKind.i64.wrap ((y11.length : Int) + (1 : Int)))))))) (by kernel_rfl) (by kernel_rfl) (by kernel_rfl) (by kernel_rfl) (by kernel_rfl) (fun p21 h22 => ?_)
    refine JS.run 1 (by kernel_rfl) ?_
    refine JS.nil ?_
    refine JC.to2 [(0, .x (.int .u32 a0)), (2, .x (.int .u8 a2)), (7, .x (.str y11)), (9, .x (.int .i64 (Int.tmod (IntKind.i64.wrap a1) (IntKind.i64.wrap ((y11.length : Int) + (1 : Int)))))), (10, .x (.str (sl y11 p21)))] [] (by kernel_rfl) (by kernel_rfl) ?_
    refine JC.skipT ?_
    refine JC.seq ?_
    refine JC.seq ?_
    refine JC.region fun b23 => ?_
    refine JS.run 2 (by kernel_rfl) ?_
    refine JS.nil ?_
    refine JC.to2 [(0, .x (.int .u32 a0)), (2, .x (.int .u8 a2)), (7, .x (.str y11)), (9, .x (.int .i64 (Int.tmod (IntKind.i64.wrap a1) (IntKind.i64.wrap ((y11.length : Int) + (1 : Int)))))), (10, .x (.str (sl y11 p21))), (54, .x (.bool ((sl y11 p21) == ([] : List UInt8))))] [] (by kernel_rfl) (by kernel_rfl) ?_
    refine JC.skipT ?_
    refine JC.cond (e := ((sl y11 p21) == ([] : List UInt8))) (by kernel_rfl) (fun h24 => ?_) (fun h24 => ?_)
    · refine JC.region fun b25 => ?_
      refine JS.run 1 (by kernel_rfl) ?_
      refine JS.nil ?_
      refine JC.to2 [(0, .x (.int .u32 a0)), (2, .x (.int .u8 a2)), (7, .x (.str y11)), (9, .x (.int .i64 (Int.tmod (IntKind.i64.wrap a1) (IntKind.i64.wrap ((y11.length : Int) + (1 : Int)))))), (10, .x (.str ([48] : List UInt8)))] [] (by kernel_rfl) (by kernel_rfl) ?_
      refine JC.skipT ?_
      refine JC.seq ?_
      refine JC.region fun b26 => ?_
      refine JS.run 5 (by kernel_rfl) ?_
      refine JS.sliceS (t := y11) (lo' := (some (IntKind.i64.wrap ((y11.length : Int) - (Int.tmod (IntKind.i64.wrap a1) (IntKind.i64.wrap ((y11.length : Int) + (1 : Int)))))))) (hi' := none) (by kernel_rfl) (by kernel_rfl) (by kernel_rfl) (by kernel_rfl) (by kernel_rfl) (fun p27 h28 => ?_)
      refine JS.run 1 (by kernel_rfl) ?_
      refine JS.nil ?_
      refine JC.to2 [(0, .x (.int .u32 a0)), (2, .x (.int .u8 a2)), (9, .x (.int .i64 (Int.tmod (IntKind.i64.wrap a1) (IntKind.i64.wrap ((y11.length : Int) + (1 : Int)))))), (10, .x (.str ([48] : List UInt8))), (11, .x (.str (sl y11 p27)))] [] (by kernel_rfl) (by kernel_rfl) ?_
      refine JC.skipT ?_
      refine JC.seq ?_
      refine JC.region fun b29 => ?_
      refine JS.run 2 (by kernel_rfl) ?_
      refine JS.nil ?_
      refine JC.to2 [(0, .x (.int .u32 a0)), (2, .x (.int .u8 a2)), (9, .x (.int .i64 (Int.tmod (IntKind.i64.wrap a1) (IntKind.i64.wrap ((y11.length : Int) + (1 : Int)))))), (10, .x (.str ([48] : List UInt8))), (11, .x (.str (sl y11 p27))), (12, .x (.str ([48] : List UInt8)))] [] (by kernel_rfl) (by kernel_rfl) ?_
      refine JC.skipT ?_
      refine JC.seq ?_
      refine JC.seq ?_
      refine JC.region fun b30 => ?_
      refine JS.run 2 (by kernel_rfl) ?_
      refine JS.nil ?_
      refine JC.to2 [(0, .x (.int .u32 a0)), (2, .x (.int .u8 a2)), (9, .x (.int .i64 (Int.tmod (IntKind.i64.wrap a1) (IntKind.i64.wrap ((y11.length : Int) + (1 : Int)))))), (10, .x (.str ([48] : List UInt8))), (11, .x (.str (sl y11 p27))), (12, .x (.str ([48] : List UInt8))), (63, .x (.bool (!((sl y11 p27) == ([] : List UInt8)))))] [] (by kernel_rfl) (by kernel_rfl) ?_
      refine JC.skipT ?_
      refine JC.cond (e := (!((sl y11 p27) == ([] : List UInt8)))) (by kernel_rfl) (fun h31 => ?_) (fun h31 => ?_)
      · refine JC.region fun b32 => ?_
        refine JS.run 1 (by kernel_rfl) ?_
        refine JS.addS (t := ([48] : List UInt8)) (u := ([46] : List UInt8)) (by kernel_rfl) (by kernel_rfl) (by kernel_rfl) (by kernel_rfl) ?_
        refine JS.run 1 (by kernel_rfl) ?_
        refine JS.addS (t := (([48] : List UInt8) ++ ([46] : List UInt8))) (u := (sl y11 p27)) (by kernel_rfl) (by kernel_rfl) (by kernel_rfl) (by kernel_rfl) ?_
        refine JS.run 1 (by kernel_rfl) ?_
        refine JS.nil ?_
        refine JC.to2 [(0, .x (.int .u32 a0)), (2, .x (.int .u8 a2)), (9, .x (.int .i64 (Int.tmod (IntKind.i64.wrap a1) (IntKind.i64.wrap ((y11.length : Int) + (1 : Int)))))), (11, .x (.str (sl y11 p27))), (12, .x (.str ((([48] : List UInt8) ++ ([46] : List UInt8)) ++ (sl y11 p27))))] [] (by kernel_rfl) (by kernel_rfl) ?_
        refine JC.skipT ?_
        refine JC.seq ?_
        refine JC.region fun b33 => ?_
        refine JS.run 1 (by kernel_rfl) ?_
        refine JS.addS (t := ([48] : List UInt8)) (u := ((([48] : List UInt8) ++ ([46] : List UInt8)) ++ (sl y11 p27))) (by kernel_rfl) (by kernel_rfl) (by kernel_rfl) (by kernel_rfl) ?_
        refine JS.run 1 (by kernel_rfl) ?_
        refine JS.nil ?_
        refine JC.to2 [(0, .x (.int .u32 a0)), (2, .x (.int .u8 a2)), (9, .x (.int .i64 (Int.tmod (IntKind.i64.wrap a1) (IntKind.i64.wrap ((y11.length : Int) + (1 : Int)))))), (11, .x (.str (sl y11 p27))), (12, .x (.str ((([48] : List UInt8) ++ ([46] : List UInt8)) ++ (sl y11 p27)))), (13, .x (.str (([48] : List UInt8) ++ ((([48] : List UInt8) ++ ([46] : List UInt8)) ++ (sl y11 p27)))))] [] (by kernel_rfl) (by kernel_rfl) ?_
        refine JC.skipT ?_
        refine JC.seq ?_
        refine JC.seq ?_
        refine JC.bind (A := fun v ex E R => ex = .normal ∧ E = [(0, .x (.int .u32 a0)), (9, .x (.int .i64 (Int.tmod (IntKind.i64.wrap a1) (IntKind.i64.wrap ((y11.length : Int) + (1 : Int)))))), (12, .x (.str v.1)), (13, .x (.str v.2.1)), (76, .x (.bool v.2.2))] ∧ R = []) ?_ ?_
        · refine JC.region fun b37 => ?_
          refine JS.run 3 (by kernel_rfl) ?_
          refine JS.split (e := (!((sl y11 p27) == ([] : List UInt8)))) 72 (by kernel_rfl) (fun h38 => ?_) (fun h38 => ?_)
          · refine JS.run 4 (by kernel_rfl) ?_
            refine JS.nil ?_
            refine JC.to2 [(0, .x (.int .u32 a0)), (9, .x (.int .i64 (Int.tmod (IntKind.i64.wrap a1) (IntKind.i64.wrap ((y11.length : Int) + (1 : Int)))))), (12, .x (.str ((([48] : List UInt8) ++ ([46] : List UInt8)) ++ (sl y11 p27)))), (13, .x (.str (([48] : List UInt8) ++ ((([48] : List UInt8) ++ ([46] : List UInt8)) ++ (sl y11 p27))))), (76, .x (.bool ((Int.tmod a2 (2 : Int)) == (1 : Int))))] [] (by kernel_rfl) (by kernel_rfl) ?_
            refine JC.to2 [(0, .x (.int .u32 a0)), (9, .x (.int .i64 (Int.tmod (IntKind.i64.wrap a1) (IntKind.i64.wrap ((y11.length : Int) + (1 : Int)))))), (12, .x (.str ((([48] : List UInt8) ++ ([46] : List UInt8)) ++ (sl y11 p27)))), (13, .x (.str (([48] : List UInt8) ++ ((([48] : List UInt8) ++ ([46] : List UInt8)) ++ (sl y11 p27))))), (76, .x (.bool ((Int.tmod a2 (2 : Int)) == (1 : Int))))] [] (by kernel_rfl) (by kernel_rfl) ?_
            exact JC.got (ex := .normal) rfl ⟨rfl, rfl, rfl⟩
          · refine JS.run 4 (by kernel_rfl) ?_
            refine JS.nil ?_
            refine JC.to2 [(0, .x (.int .u32 a0)), (9, .x (.int .i64 (Int.tmod (IntKind.i64.wrap a1) (IntKind.i64.wrap ((y11.length : Int) + (1 : Int)))))), (12, .x (.str ((([48] : List UInt8) ++ ([46] : List UInt8)) ++ (sl y11 p27)))), (13, .x (.str (([48] : List UInt8) ++ ((([48] : List UInt8) ++ ([46] : List UInt8)) ++ (sl y11 p27))))), (76, .x (.bool false))] [] (by kernel_rfl) (by kernel_rfl) ?_
            refine JC.to2 [(0, .x (.int .u32 a0)), (9, .x (.int .i64 (Int.tmod (IntKind.i64.wrap a1) (IntKind.i64.wrap ((y11.length : Int) + (1 : Int)))))), (12, .x (.str ((([48] : List UInt8) ++ ([46] : List UInt8)) ++ (sl y11 p27)))), (13, .x (.str (([48] : List UInt8) ++ ((([48] : List UInt8) ++ ([46] : List UInt8)) ++ (sl y11 p27))))), (76, .x (.bool false))] [] (by kernel_rfl) (by kernel_rfl) ?_
            exact JC.got (ex := .normal) rfl ⟨rfl, rfl, rfl⟩
        · rintro ⟨y34, y35, y36⟩ ex E' R' hA
          obtain ⟨rfl, rfl, rfl⟩ := hA
          refine JC.to2 [(0, .x (.int .u32 a0)), (9, .x (.int .i64 (Int.tmod (IntKind.i64.wrap a1) (IntKind.i64.wrap ((y11.length : Int) + (1 : Int)))))), (12, .x (.str y34)), (13, .x (.str y35)), (76, .x (.bool y36))] [] (by kernel_rfl) (by kernel_rfl) ?_
          refine JC.skipT ?_
          refine JC.cond (e := y36) (by kernel_rfl) (fun h39 => ?_) (fun h39 => ?_)
          · refine JC.region fun b40 => ?_
            refine JS.run 1 (by kernel_rfl) ?_
            refine JS.addS (t := y35) (u := ([48] : List UInt8)) (by kernel_rfl) (by kernel_rfl) (by kernel_rfl) (by kernel_rfl) ?_
            refine JS.run 1 (by kernel_rfl) ?_
            refine JS.nil ?_
            refine JC.to2 [(0, .x (.int .u32 a0)), (9, .x (.int .i64 (Int.tmod (IntKind.i64.wrap a1) (IntKind.i64.wrap ((y11.length : Int) + (1 : Int)))))), (12, .x (.str y34)), (13, .x (.str (y35 ++ ([48] : List UInt8))))] [] (by kernel_rfl) (by kernel_rfl) ?_
            refine JC.skipT ?_
            refine JC.seq ?_
            refine JC.region fun b41 => ?_
            refine JS.run 1 (by kernel_rfl) ?_
            refine JS.bind fun r42 h43 => ?_
            refine JS.callS [] (weigh_Parse_ok k y34 r42 h43) ⟨rfl, argX (d := (.str y34)) (by kernel_rfl) (by kernel_rfl), trivial⟩ (by kernel_rfl) (by kernel_rfl) (by kernel_rfl) ?_
            refine JS.run 5 (by kernel_rfl) ?_
            refine JS.nil ?_
            refine JC.to2 [(0, .x (.int .u32 a0)), (9, .x (.int .i64 (Int.tmod (IntKind.i64.wrap a1) (IntKind.i64.wrap ((y11.length : Int) + (1 : Int)))))), (12, .x (.str y34)), (13, .x (.str (y35 ++ ([48] : List UInt8)))), (14, .x (.flt r42.1)), (15, .x (.int .i64 r42.2))] [] (by kernel_rfl) (by kernel_rfl) ?_
            refine JC.skipT ?_
            refine JC.seq ?_
            refine JC.region fun b44 => ?_
            refine JS.run 1 (by kernel_rfl) ?_
            refine JS.bind fun r45 h46 => ?_
            refine JS.callS [] (weigh_Parse_ok k (y35 ++ ([48] : List UInt8)) r45 h46) ⟨rfl, argX (d := (.str (y35 ++ ([48] : List UInt8)))) (by kernel_rfl) (by kernel_rfl), trivial⟩ (by kernel_rfl) (by kernel_rfl) (by kernel_rfl) ?_
            refine JS.run 5 (by kernel_rfl) ?_
            refine JS.nil ?_
            refine JC.to2 [(0, .x (.int .u32 a0)), (9, .x (.int .i64 (Int.tmod (IntKind.i64.wrap a1) (IntKind.i64.wrap ((y11.length : Int) + (1 : Int)))))), (12, .x (.str y34)), (14, .x (.flt r42.1)), (15, .x (.int .i64 r42.2)), (16, .x (.flt r45.1)), (17, .x (.int .i64 r45.2))] [] (by kernel_rfl) (by kernel_rfl) ?_
            refine JC.skipT ?_
            refine JC.seq ?_
            refine JC.region fun b47 => ?_
            refine JS.run 1 (by kernel_rfl) ?_
            refine JS.addS (t := ([45] : List UInt8)) (u := y34) (by kernel_rfl) (by kernel_rfl) (by kernel_rfl) (by kernel_rfl) ?_
            refine JS.bind fun r48 h49 => ?_
            refine JS.callS [] (weigh_Parse_ok k (([45] : List UInt8) ++ y34) r48 h49) ⟨rfl, argX (d := (.str (([45] : List UInt8) ++ y34))) (by kernel_rfl) (by kernel_rfl), trivial⟩ (by kernel_rfl) (by kernel_rfl) (by kernel_rfl) ?_
            refine JS.run 5 (by kernel_rfl) ?_
            refine JS.nil ?_
            refine JC.to2 [(0, .x (.int .u32 a0)), (9, .x (.int .i64 (Int.tmod (IntKind.i64.wrap a1) (IntKind.i64.wrap ((y11.length : Int) + (1 : Int)))))), (14, .x (.flt r42.1)), (15, .x (.int .i64 r42.2)), (16, .x (.flt r45.1)), (17, .x (.int .i64 r45.2)), (18, .x (.flt r48.1)), (19, .x (.int .i64 r48.2))] [] (by kernel_rfl) (by kernel_rfl) ?_
            refine JC.skipT ?_
            refine JC.seq ?_
            refine JC.region fun b50 => ?_
            refine JS.run 1 (by kernel_rfl) ?_
            refine JS.nil ?_
            refine JC.to2 [(0, .x (.int .u32 a0)), (9, .x (.int .i64 (Int.tmod (IntKind.i64.wrap a1) (IntKind.i64.wrap ((y11.length : Int) + (1 : Int)))))), (14, .x (.flt r42.1)), (15, .x (.int .i64 r42.2)), (16, .x (.flt r45.1)), (17, .x (.int .i64 r45.2)), (18, .x (.flt r48.1)), (19, .x (.int .i64 r48.2)), (20, .x (.flt (some 4607182418800017408 : Fl)))] [] (by kernel_rfl) (by kernel_rfl) ?_
            refine JC.skipT ?_
            refine JC.seq ?_
            refine JC.seq ?_
            refine JC.region fun b51 => ?_
            refine JS.run 1 (by kernel_rfl) ?_
            refine JS.nil ?_
            refine JC.to2 [(0, .x (.int .u32 a0)), (9, .x (.int .i64 (Int.tmod (IntKind.i64.wrap a1) (IntKind.i64.wrap ((y11.length : Int) + (1 : Int)))))), (14, .x (.flt r42.1)), (15, .x (.int .i64 r42.2)), (16, .x (.flt r45.1)), (17, .x (.int .i64 r45.2)), (18, .x (.flt r48.1)), (19, .x (.int .i64 r48.2)), (20, .x (.flt (some 4607182418800017408 : Fl))), (21, .x (.int .i64 (0 : Int)))] [] (by kernel_rfl) (by kernel_rfl) ?_
            refine JC.skipT ?_
            refine JC.block ?_
            refine JC.to2 [(0, .x (.int .u32 a0)), (9, .x (.int .i64 (Int.tmod (IntKind.i64.wrap a1) (IntKind.i64.wrap ((y11.length : Int) + (1 : Int)))))), (14, .x (.flt r42.1)), (15, .x (.int .i64 r42.2)), (16, .x (.flt r45.1)), (17, .x (.int .i64 r45.2)), (18, .x (.flt r48.1)), (19, .x (.int .i64 r48.2)), (20, .x (.flt (some 4607182418800017408 : Fl))), (21, .x (.int .i64 (0 : Int)))] [] (by kernel_rfl) (by kernel_rfl) ?_
            refine JC.to2 [(0, .x (.int .u32 a0)), (9, .x (.int .i64 (Int.tmod (IntKind.i64.wrap a1) (IntKind.i64.wrap ((y11.length : Int) + (1 : Int)))))), (14, .x (.flt r42.1)), (15, .x (.int .i64 r42.2)), (16, .x (.flt r45.1)), (17, .x (.int .i64 r45.2)), (18, .x (.flt r48.1)), (19, .x (.int .i64 r48.2)), (20, .x (.flt (some 4607182418800017408 : Fl))), (21, .x (.int .i64 (0 : Int)))] [] (by kernel_rfl) (by kernel_rfl) ?_
            refine JC.bind (A := fun v ex E R => ex = (.exit 2) ∧ E = [(0, .x (.int .u32 a0)), (14, .x (.flt r42.1)), (15, .x (.int .i64 r42.2)), (16, .x (.flt r45.1)), (17, .x (.int .i64 r45.2)), (18, .x (.flt r48.1)), (19, .x (.int .i64 r48.2)), (20, .x (.flt v))] ∧ R = []) (eyotlaw1_WeighDigits_l1_ok a0 a1 y11 r42 r45 r48 k (some 4607182418800017408 : Fl) (0 : Int)) ?_
            rintro y54 ex E' R' hA
            obtain ⟨rfl, rfl, rfl⟩ := hA
            refine JC.to2 [(0, .x (.int .u32 a0)), (14, .x (.flt r42.1)), (15, .x (.int .i64 r42.2)), (16, .x (.flt r45.1)), (17, .x (.int .i64 r45.2)), (18, .x (.flt r48.1)), (19, .x (.int .i64 r48.2)), (20, .x (.flt y54))] [] (by kernel_rfl) (by kernel_rfl) ?_
            refine JC.exitB ?_
            refine JC.skipT ?_
            refine JC.seq ?_
            refine JC.bind (A := fun v ex E R => ex = .normal ∧ E = [(6, .x (.bool v))] ∧ R = []) ?_ ?_
            · refine JC.region fun b60 => ?_
              refine JS.run 3 (by kernel_rfl) ?_
              refine JS.split (e := (r42.2 == (0 : Int))) 104 (by kernel_rfl) (fun h61 => ?_) (fun h61 => ?_)
              · refine JS.run 4 (by kernel_rfl) ?_
                refine JS.split (e := (r45.2 == (0 : Int))) 108 (by kernel_rfl) (fun h62 => ?_) (fun h62 => ?_)
                · refine JS.run 4 (by kernel_rfl) ?_
                  refine JS.split (e := (r48.2 == (0 : Int))) 112 (by kernel_rfl) (fun h63 => ?_) (fun h63 => ?_)
                  · refine JS.run 2 (by kernel_rfl) ?_
                    refine JS.bind fun r64 h65 => ?_
                    refine JS.callS [] (weigh_Same_ok k r42.1 r45.1 r64 h65) ⟨rfl, argX (d := (.flt r42.1)) (by kernel_rfl) (by kernel_rfl), rfl, argX (d := (.flt r45.1)) (by kernel_rfl) (by kernel_rfl), trivial⟩ (by kernel_rfl) (by kernel_rfl) (by kernel_rfl) ?_
                    refine JS.run 2 (by kernel_rfl) ?_
                    refine JS.split (e := r64) 117 (by kernel_rfl) (fun h66 => ?_) (fun h66 => ?_)
                    · refine JS.run 3 (by kernel_rfl) ?_
                      refine JS.bind fun r67 h68 => ?_
                      refine JS.callS [] (weigh_Same_ok k r48.1 (fNeg r42.1) r67 h68) ⟨rfl, argX (d := (.flt r48.1)) (by kernel_rfl) (by kernel_rfl), rfl, argX (d := (.flt (fNeg r42.1))) (by kernel_rfl) (by kernel_rfl), trivial⟩ (by kernel_rfl) (by kernel_rfl) (by kernel_rfl) ?_
                      refine JS.run 2 (by kernel_rfl) ?_
                      refine JS.split (e := r67) 123 (by kernel_rfl) (fun h69 => ?_) (fun h69 => ?_)
                      · refine JS.run 8 (by kernel_rfl) ?_
                        refine JS.nil ?_
                        refine JC.to2 [(6, .x (.bool (fOrd r42.1 (fDiv (some (FloatKind.f64.nearest a0) : Fl) y54) == some .eq)))] [] (by kernel_rfl) (by kernel_rfl) ?_
                        refine JC.to2 [(6, .x (.bool (fOrd r42.1 (fDiv (some (FloatKind.f64.nearest a0) : Fl) y54) == some .eq)))] [] (by kernel_rfl) (by kernel_rfl) ?_
                        exact JC.got (ex := .normal) rfl ⟨rfl, rfl, rfl⟩
                      · refine JS.run 8 (by kernel_rfl) ?_
                        refine JS.nil ?_
                        refine JC.to2 [(6, .x (.bool false))] [] (by kernel_rfl) (by kernel_rfl) ?_
                        refine JC.to2 [(6, .x (.bool false))] [] (by kernel_rfl) (by kernel_rfl) ?_
                        exact JC.got (ex := .normal) rfl ⟨rfl, rfl, rfl⟩
                    · refine JS.run 14 (by kernel_rfl) ?_
                      refine JS.nil ?_
                      refine JC.to2 [(6, .x (.bool false))] [] (by kernel_rfl) (by kernel_rfl) ?_
                      refine JC.to2 [(6, .x (.bool false))] [] (by kernel_rfl) (by kernel_rfl) ?_
                      exact JC.got (ex := .normal) rfl ⟨rfl, rfl, rfl⟩
                  · refine JS.run 19 (by kernel_rfl) ?_
                    refine JS.nil ?_
                    refine JC.to2 [(6, .x (.bool false))] [] (by kernel_rfl) (by kernel_rfl) ?_
                    refine JC.to2 [(6, .x (.bool false))] [] (by kernel_rfl) (by kernel_rfl) ?_
                    exact JC.got (ex := .normal) rfl ⟨rfl, rfl, rfl⟩
                · refine JS.run 23 (by kernel_rfl) ?_
                  refine JS.nil ?_
                  refine JC.to2 [(6, .x (.bool false))] [] (by kernel_rfl) (by kernel_rfl) ?_
                  refine JC.to2 [(6, .x (.bool false))] [] (by kernel_rfl) (by kernel_rfl) ?_
                  exact JC.got (ex := .normal) rfl ⟨rfl, rfl, rfl⟩
              · refine JS.run 27 (by kernel_rfl) ?_
                refine JS.nil ?_
                refine JC.to2 [(6, .x (.bool false))] [] (by kernel_rfl) (by kernel_rfl) ?_
                refine JC.to2 [(6, .x (.bool false))] [] (by kernel_rfl) (by kernel_rfl) ?_
                exact JC.got (ex := .normal) rfl ⟨rfl, rfl, rfl⟩
            · rintro y59 ex E' R' hA
              obtain ⟨rfl, rfl, rfl⟩ := hA
              refine JC.to2 [(6, .x (.bool y59))] [] (by kernel_rfl) (by kernel_rfl) ?_
              refine JC.skipT ?_
              exact JC.finB (ex := .ret) (vs := [.x (.bool y59)]) (is := []) rfl ret_ne ⟨(by kernel_rfl), trivial⟩ (Outs.sc rfl Outs.nil)
          · refine JC.skipT ?_
            refine JC.seq ?_
            refine JC.region fun b70 => ?_
            refine JS.run 1 (by kernel_rfl) ?_
            refine JS.bind fun r71 h72 => ?_
            refine JS.callS [] (weigh_Parse_ok k y34 r71 h72) ⟨rfl, argX (d := (.str y34)) (by kernel_rfl) (by kernel_rfl), trivial⟩ (by kernel_rfl) (by kernel_rfl) (by kernel_rfl) ?_
            refine JS.run 5 (by kernel_rfl) ?_
            refine JS.nil ?_
            refine JC.to2 [(0, .x (.int .u32 a0)), (9, .x (.int .i64 (Int.tmod (IntKind.i64.wrap a1) (IntKind.i64.wrap ((y11.length : Int) + (1 : Int)))))), (12, .x (.str y34)), (13, .x (.str y35)), (14, .x (.flt r71.1)), (15, .x (.int .i64 r71.2))] [] (by kernel_rfl) (by kernel_rfl) ?_
            refine JC.skipT ?_
            refine JC.seq ?_
            refine JC.region fun b73 => ?_
            refine JS.run 1 (by kernel_rfl) ?_
            refine JS.bind fun r74 h75 => ?_
            refine JS.callS [] (weigh_Parse_ok k y35 r74 h75) ⟨rfl, argX (d := (.str y35)) (by kernel_rfl) (by kernel_rfl), trivial⟩ (by kernel_rfl) (by kernel_rfl) (by kernel_rfl) ?_
            refine JS.run 5 (by kernel_rfl) ?_
            refine JS.nil ?_
            refine JC.to2 [(0, .x (.int .u32 a0)), (9, .x (.int .i64 (Int.tmod (IntKind.i64.wrap a1) (IntKind.i64.wrap ((y11.length : Int) + (1 : Int)))))), (12, .x (.str y34)), (14, .x (.flt r71.1)), (15, .x (.int .i64 r71.2)), (16, .x (.flt r74.1)), (17, .x (.int .i64 r74.2))] [] (by kernel_rfl) (by kernel_rfl) ?_
            refine JC.skipT ?_
            refine JC.seq ?_
            refine JC.region fun b76 => ?_
            refine JS.run 1 (by kernel_rfl) ?_
            refine JS.addS (t := ([45] : List UInt8)) (u := y34) (by kernel_rfl) (by kernel_rfl) (by kernel_rfl) (by kernel_rfl) ?_
            refine JS.bind fun r77 h78 => ?_
            refine JS.callS [] (weigh_Parse_ok k (([45] : List UInt8) ++ y34) r77 h78) ⟨rfl, argX (d := (.str (([45] : List UInt8) ++ y34))) (by kernel_rfl) (by kernel_rfl), trivial⟩ (by kernel_rfl) (by kernel_rfl) (by kernel_rfl) ?_
            refine JS.run 5 (by kernel_rfl) ?_
            refine JS.nil ?_
            refine JC.to2 [(0, .x (.int .u32 a0)), (9, .x (.int .i64 (Int.tmod (IntKind.i64.wrap a1) (IntKind.i64.wrap ((y11.length : Int) + (1 : Int)))))), (14, .x (.flt r71.1)), (15, .x (.int .i64 r71.2)), (16, .x (.flt r74.1)), (17, .x (.int .i64 r74.2)), (18, .x (.flt r77.1)), (19, .x (.int .i64 r77.2))] [] (by kernel_rfl) (by kernel_rfl) ?_
            refine JC.skipT ?_
            refine JC.seq ?_
            refine JC.region fun b79 => ?_
            refine JS.run 1 (by kernel_rfl) ?_
            refine JS.nil ?_
            refine JC.to2 [(0, .x (.int .u32 a0)), (9, .x (.int .i64 (Int.tmod (IntKind.i64.wrap a1) (IntKind.i64.wrap ((y11.length : Int) + (1 : Int)))))), (14, .x (.flt r71.1)), (15, .x (.int .i64 r71.2)), (16, .x (.flt r74.1)), (17, .x (.int .i64 r74.2)), (18, .x (.flt r77.1)), (19, .x (.int .i64 r77.2)), (20, .x (.flt (some 4607182418800017408 : Fl)))] [] (by kernel_rfl) (by kernel_rfl) ?_
            refine JC.skipT ?_
            refine JC.seq ?_
            refine JC.seq ?_
            refine JC.region fun b80 => ?_
            refine JS.run 1 (by kernel_rfl) ?_
            refine JS.nil ?_
            refine JC.to2 [(0, .x (.int .u32 a0)), (9, .x (.int .i64 (Int.tmod (IntKind.i64.wrap a1) (IntKind.i64.wrap ((y11.length : Int) + (1 : Int)))))), (14, .x (.flt r71.1)), (15, .x (.int .i64 r71.2)), (16, .x (.flt r74.1)), (17, .x (.int .i64 r74.2)), (18, .x (.flt r77.1)), (19, .x (.int .i64 r77.2)), (20, .x (.flt (some 4607182418800017408 : Fl))), (21, .x (.int .i64 (0 : Int)))] [] (by kernel_rfl) (by kernel_rfl) ?_
            refine JC.skipT ?_
            refine JC.block ?_
            refine JC.to2 [(0, .x (.int .u32 a0)), (9, .x (.int .i64 (Int.tmod (IntKind.i64.wrap a1) (IntKind.i64.wrap ((y11.length : Int) + (1 : Int)))))), (14, .x (.flt r71.1)), (15, .x (.int .i64 r71.2)), (16, .x (.flt r74.1)), (17, .x (.int .i64 r74.2)), (18, .x (.flt r77.1)), (19, .x (.int .i64 r77.2)), (20, .x (.flt (some 4607182418800017408 : Fl))), (21, .x (.int .i64 (0 : Int)))] [] (by kernel_rfl) (by kernel_rfl) ?_
            refine JC.to2 [(0, .x (.int .u32 a0)), (9, .x (.int .i64 (Int.tmod (IntKind.i64.wrap a1) (IntKind.i64.wrap ((y11.length : Int) + (1 : Int)))))), (14, .x (.flt r71.1)), (15, .x (.int .i64 r71.2)), (16, .x (.flt r74.1)), (17, .x (.int .i64 r74.2)), (18, .x (.flt r77.1)), (19, .x (.int .i64 r77.2)), (20, .x (.flt (some 4607182418800017408 : Fl))), (21, .x (.int .i64 (0 : Int)))] [] (by kernel_rfl) (by kernel_rfl) ?_
            refine JC.bind (A := fun v ex E R => ex = (.exit 2) ∧ E = [(0, .x (.int .u32 a0)), (14, .x (.flt r71.1)), (15, .x (.int .i64 r71.2)), (16, .x (.flt r74.1)), (17, .x (.int .i64 r74.2)), (18, .x (.flt r77.1)), (19, .x (.int .i64 r77.2)), (20, .x (.flt v))] ∧ R = []) (eyotlaw1_WeighDigits_l2_ok a0 a1 y11 r71 r74 r77 k (some 4607182418800017408 : Fl) (0 : Int)) ?_
            rintro y83 ex E' R' hA
            obtain ⟨rfl, rfl, rfl⟩ := hA
            refine JC.to2 [(0, .x (.int .u32 a0)), (14, .x (.flt r71.1)), (15, .x (.int .i64 r71.2)), (16, .x (.flt r74.1)), (17, .x (.int .i64 r74.2)), (18, .x (.flt r77.1)), (19, .x (.int .i64 r77.2)), (20, .x (.flt y83))] [] (by kernel_rfl) (by kernel_rfl) ?_
            refine JC.exitB ?_
            refine JC.skipT ?_
            refine JC.seq ?_
            refine JC.bind (A := fun v ex E R => ex = .normal ∧ E = [(6, .x (.bool v))] ∧ R = []) ?_ ?_
            · refine JC.region fun b89 => ?_
              refine JS.run 3 (by kernel_rfl) ?_
              refine JS.split (e := (r71.2 == (0 : Int))) 104 (by kernel_rfl) (fun h90 => ?_) (fun h90 => ?_)
              · refine JS.run 4 (by kernel_rfl) ?_
                refine JS.split (e := (r74.2 == (0 : Int))) 108 (by kernel_rfl) (fun h91 => ?_) (fun h91 => ?_)
                · refine JS.run 4 (by kernel_rfl) ?_
                  refine JS.split (e := (r77.2 == (0 : Int))) 112 (by kernel_rfl) (fun h92 => ?_) (fun h92 => ?_)
                  · refine JS.run 2 (by kernel_rfl) ?_
                    refine JS.bind fun r93 h94 => ?_
                    refine JS.callS [] (weigh_Same_ok k r71.1 r74.1 r93 h94) ⟨rfl, argX (d := (.flt r71.1)) (by kernel_rfl) (by kernel_rfl), rfl, argX (d := (.flt r74.1)) (by kernel_rfl) (by kernel_rfl), trivial⟩ (by kernel_rfl) (by kernel_rfl) (by kernel_rfl) ?_
                    refine JS.run 2 (by kernel_rfl) ?_
                    refine JS.split (e := r93) 117 (by kernel_rfl) (fun h95 => ?_) (fun h95 => ?_)
                    · refine JS.run 3 (by kernel_rfl) ?_
                      refine JS.bind fun r96 h97 => ?_
                      refine JS.callS [] (weigh_Same_ok k r77.1 (fNeg r71.1) r96 h97) ⟨rfl, argX (d := (.flt r77.1)) (by kernel_rfl) (by kernel_rfl), rfl, argX (d := (.flt (fNeg r71.1))) (by kernel_rfl) (by kernel_rfl), trivial⟩ (by kernel_rfl) (by kernel_rfl) (by kernel_rfl) ?_
                      refine JS.run 2 (by kernel_rfl) ?_
                      refine JS.split (e := r96) 123 (by kernel_rfl) (fun h98 => ?_) (fun h98 => ?_)
                      · refine JS.run 8 (by kernel_rfl) ?_
                        refine JS.nil ?_
                        refine JC.to2 [(6, .x (.bool (fOrd r71.1 (fDiv (some (FloatKind.f64.nearest a0) : Fl) y83) == some .eq)))] [] (by kernel_rfl) (by kernel_rfl) ?_
                        refine JC.to2 [(6, .x (.bool (fOrd r71.1 (fDiv (some (FloatKind.f64.nearest a0) : Fl) y83) == some .eq)))] [] (by kernel_rfl) (by kernel_rfl) ?_
                        exact JC.got (ex := .normal) rfl ⟨rfl, rfl, rfl⟩
                      · refine JS.run 8 (by kernel_rfl) ?_
                        refine JS.nil ?_
                        refine JC.to2 [(6, .x (.bool false))] [] (by kernel_rfl) (by kernel_rfl) ?_
                        refine JC.to2 [(6, .x (.bool false))] [] (by kernel_rfl) (by kernel_rfl) ?_
                        exact JC.got (ex := .normal) rfl ⟨rfl, rfl, rfl⟩
                    · refine JS.run 14 (by kernel_rfl) ?_
                      refine JS.nil ?_
                      refine JC.to2 [(6, .x (.bool false))] [] (by kernel_rfl) (by kernel_rfl) ?_
                      refine JC.to2 [(6, .x (.bool false))] [] (by kernel_rfl) (by kernel_rfl) ?_
                      exact JC.got (ex := .normal) rfl ⟨rfl, rfl, rfl⟩
                  · refine JS.run 19 (by kernel_rfl) ?_
                    refine JS.nil ?_
                    refine JC.to2 [(6, .x (.bool false))] [] (by kernel_rfl) (by kernel_rfl) ?_
                    refine JC.to2 [(6, .x (.bool false))] [] (by kernel_rfl) (by kernel_rfl) ?_
                    exact JC.got (ex := .normal) rfl ⟨rfl, rfl, rfl⟩
                · refine JS.run 23 (by kernel_rfl) ?_
                  refine JS.nil ?_
                  refine JC.to2 [(6, .x (.bool false))] [] (by kernel_rfl) (by kernel_rfl) ?_
                  refine JC.to2 [(6, .x (.bool false))] [] (by kernel_rfl) (by kernel_rfl) ?_
                  exact JC.got (ex := .normal) rfl ⟨rfl, rfl, rfl⟩
              · refine JS.run 27 (by kernel_rfl) ?_
                refine JS.nil ?_
                refine JC.to2 [(6, .x (.bool false))] [] (by kernel_rfl) (by kernel_rfl) ?_
                refine JC.to2 [(6, .x (.bool false))] [] (by kernel_rfl) (by kernel_rfl) ?_
                exact JC.got (ex := .normal) rfl ⟨rfl, rfl, rfl⟩
            · rintro y88 ex E' R' hA
              obtain ⟨rfl, rfl, rfl⟩ := hA
              refine JC.to2 [(6, .x (.bool y88))] [] (by kernel_rfl) (by kernel_rfl) ?_
              refine JC.skipT ?_
              exact JC.finB (ex := .ret) (vs := [.x (.bool y88)]) (is := []) rfl ret_ne ⟨(by kernel_rfl), trivial⟩ (Outs.sc rfl Outs.nil)
      · refine JC.skipT ?_
        refine JC.seq ?_
        refine JC.region fun b99 => ?_
        refine JS.run 1 (by kernel_rfl) ?_
        refine JS.addS (t := ([48] : List UInt8)) (u := ([48] : List UInt8)) (by kernel_rfl) (by kernel_rfl) (by kernel_rfl) (by kernel_rfl) ?_
        refine JS.run 1 (by kernel_rfl) ?_
        refine JS.nil ?_
        refine JC.to2 [(0, .x (.int .u32 a0)), (2, .x (.int .u8 a2)), (9, .x (.int .i64 (Int.tmod (IntKind.i64.wrap a1) (IntKind.i64.wrap ((y11.length : Int) + (1 : Int)))))), (11, .x (.str (sl y11 p27))), (12, .x (.str ([48] : List UInt8))), (13, .x (.str (([48] : List UInt8) ++ ([48] : List UInt8))))] [] (by kernel_rfl) (by kernel_rfl) ?_
        refine JC.skipT ?_
        refine JC.seq ?_
        refine JC.seq ?_
        refine JC.bind (A := fun v ex E R => ex = .normal ∧ E = [(0, .x (.int .u32 a0)), (9, .x (.int .i64 (Int.tmod (IntKind.i64.wrap a1) (IntKind.i64.wrap ((y11.length : Int) + (1 : Int)))))), (12, .x (.str ([48] : List UInt8))), (13, .x (.str (([48] : List UInt8) ++ ([48] : List UInt8)))), (76, .x (.bool v))] ∧ R = []) ?_ ?_
        · refine JC.region fun b101 => ?_
          refine JS.run 3 (by kernel_rfl) ?_
          refine JS.split (e := (!((sl y11 p27) == ([] : List UInt8)))) 72 (by kernel_rfl) (fun h102 => ?_) (fun h102 => ?_)
          · refine JS.run 4 (by kernel_rfl) ?_
            refine JS.nil ?_
            refine JC.to2 [(0, .x (.int .u32 a0)), (9, .x (.int .i64 (Int.tmod (IntKind.i64.wrap a1) (IntKind.i64.wrap ((y11.length : Int) + (1 : Int)))))), (12, .x (.str ([48] : List UInt8))), (13, .x (.str (([48] : List UInt8) ++ ([48] : List UInt8)))), (76, .x (.bool ((Int.tmod a2 (2 : Int)) == (1 : Int))))] [] (by kernel_rfl) (by kernel_rfl) ?_
            refine JC.to2 [(0, .x (.int .u32 a0)), (9, .x (.int .i64 (Int.tmod (IntKind.i64.wrap a1) (IntKind.i64.wrap ((y11.length : Int) + (1 : Int)))))), (12, .x (.str ([48] : List UInt8))), (13, .x (.str (([48] : List UInt8) ++ ([48] : List UInt8)))), (76, .x (.bool ((Int.tmod a2 (2 : Int)) == (1 : Int))))] [] (by kernel_rfl) (by kernel_rfl) ?_
            exact JC.got (ex := .normal) rfl ⟨rfl, rfl, rfl⟩
          · refine JS.run 4 (by kernel_rfl) ?_
            refine JS.nil ?_
            refine JC.to2 [(0, .x (.int .u32 a0)), (9, .x (.int .i64 (Int.tmod (IntKind.i64.wrap a1) (IntKind.i64.wrap ((y11.length : Int) + (1 : Int)))))), (12, .x (.str ([48] : List UInt8))), (13, .x (.str (([48] : List UInt8) ++ ([48] : List UInt8)))), (76, .x (.bool false))] [] (by kernel_rfl) (by kernel_rfl) ?_
            refine JC.to2 [(0, .x (.int .u32 a0)), (9, .x (.int .i64 (Int.tmod (IntKind.i64.wrap a1) (IntKind.i64.wrap ((y11.length : Int) + (1 : Int)))))), (12, .x (.str ([48] : List UInt8))), (13, .x (.str (([48] : List UInt8) ++ ([48] : List UInt8)))), (76, .x (.bool false))] [] (by kernel_rfl) (by kernel_rfl) ?_
            exact JC.got (ex := .normal) rfl ⟨rfl, rfl, rfl⟩
        · rintro y100 ex E' R' hA
          obtain ⟨rfl, rfl, rfl⟩ := hA
          refine JC.to2 [(0, .x (.int .u32 a0)), (9, .x (.int .i64 (Int.tmod (IntKind.i64.wrap a1) (IntKind.i64.wrap ((y11.length : Int) + (1 : Int)))))), (12, .x (.str ([48] : List UInt8))), (13, .x (.str (([48] : List UInt8) ++ ([48] : List UInt8)))), (76, .x (.bool y100))] [] (by kernel_rfl) (by kernel_rfl) ?_
          refine JC.skipT ?_
          refine JC.cond (e := y100) (by kernel_rfl) (fun h103 => ?_) (fun h103 => ?_)
          · refine JC.region fun b104 => ?_
            refine JS.run 1 (by kernel_rfl) ?_
            refine JS.addS (t := (([48] : List UInt8) ++ ([48] : List UInt8))) (u := ([48] : List UInt8)) (by kernel_rfl) (by kernel_rfl) (by kernel_rfl) (by kernel_rfl) ?_
            refine JS.run 1 (by kernel_rfl) ?_
            refine JS.nil ?_
            refine JC.to2 [(0, .x (.int .u32 a0)), (9, .x (.int .i64 (Int.tmod (IntKind.i64.wrap a1) (IntKind.i64.wrap ((y11.length : Int) + (1 : Int)))))), (12, .x (.str ([48] : List UInt8))), (13, .x (.str ((([48] : List UInt8) ++ ([48] : List UInt8)) ++ ([48] : List UInt8))))] [] (by kernel_rfl) (by kernel_rfl) ?_
            refine JC.skipT ?_
            refine JC.seq ?_
            refine JC.region fun b105 => ?_
            refine JS.run 1 (by kernel_rfl) ?_
            refine JS.bind fun r106 h107 => ?_
            refine JS.callS [] (weigh_Parse_ok k ([48] : List UInt8) r106 h107) ⟨rfl, argX (d := (.str ([48] : List UInt8))) (by kernel_rfl) (by kernel_rfl), trivial⟩ (by kernel_rfl) (by kernel_rfl) (by kernel_rfl) ?_
            refine JS.run 5 (by kernel_rfl) ?_
            refine JS.nil ?_
            refine JC.to2 [(0, .x (.int .u32 a0)), (9, .x (.int .i64 (Int.tmod (IntKind.i64.wrap a1) (IntKind.i64.wrap ((y11.length : Int) + (1 : Int)))))), (12, .x (.str ([48] : List UInt8))), (13, .x (.str ((([48] : List UInt8) ++ ([48] : List UInt8)) ++ ([48] : List UInt8)))), (14, .x (.flt r106.1)), (15, .x (.int .i64 r106.2))] [] (by kernel_rfl) (by kernel_rfl) ?_
            refine JC.skipT ?_
            refine JC.seq ?_
            refine JC.region fun b108 => ?_
            refine JS.run 1 (by kernel_rfl) ?_
            refine JS.bind fun r109 h110 => ?_
            refine JS.callS [] (weigh_Parse_ok k ((([48] : List UInt8) ++ ([48] : List UInt8)) ++ ([48] : List UInt8)) r109 h110) ⟨rfl, argX (d := (.str ((([48] : List UInt8) ++ ([48] : List UInt8)) ++ ([48] : List UInt8)))) (by kernel_rfl) (by kernel_rfl), trivial⟩ (by kernel_rfl) (by kernel_rfl) (by kernel_rfl) ?_
            refine JS.run 5 (by kernel_rfl) ?_
            refine JS.nil ?_
            refine JC.to2 [(0, .x (.int .u32 a0)), (9, .x (.int .i64 (Int.tmod (IntKind.i64.wrap a1) (IntKind.i64.wrap ((y11.length : Int) + (1 : Int)))))), (12, .x (.str ([48] : List UInt8))), (14, .x (.flt r106.1)), (15, .x (.int .i64 r106.2)), (16, .x (.flt r109.1)), (17, .x (.int .i64 r109.2))] [] (by kernel_rfl) (by kernel_rfl) ?_
            refine JC.skipT ?_
            refine JC.seq ?_
            refine JC.region fun b111 => ?_
            refine JS.run 1 (by kernel_rfl) ?_
            refine JS.addS (t := ([45] : List UInt8)) (u := ([48] : List UInt8)) (by kernel_rfl) (by kernel_rfl) (by kernel_rfl) (by kernel_rfl) ?_
            refine JS.bind fun r112 h113 => ?_
            refine JS.callS [] (weigh_Parse_ok k (([45] : List UInt8) ++ ([48] : List UInt8)) r112 h113) ⟨rfl, argX (d := (.str (([45] : List UInt8) ++ ([48] : List UInt8)))) (by kernel_rfl) (by kernel_rfl), trivial⟩ (by kernel_rfl) (by kernel_rfl) (by kernel_rfl) ?_
            refine JS.run 5 (by kernel_rfl) ?_
            refine JS.nil ?_
            refine JC.to2 [(0, .x (.int .u32 a0)), (9, .x (.int .i64 (Int.tmod (IntKind.i64.wrap a1) (IntKind.i64.wrap ((y11.length : Int) + (1 : Int)))))), (14, .x (.flt r106.1)), (15, .x (.int .i64 r106.2)), (16, .x (.flt r109.1)), (17, .x (.int .i64 r109.2)), (18, .x (.flt r112.1)), (19, .x (.int .i64 r112.2))] [] (by kernel_rfl) (by kernel_rfl) ?_
            refine JC.skipT ?_
            refine JC.seq ?_
            refine JC.region fun b114 => ?_
            refine JS.run 1 (by kernel_rfl) ?_
            refine JS.nil ?_
            refine JC.to2 [(0, .x (.int .u32 a0)), (9, .x (.int .i64 (Int.tmod (IntKind.i64.wrap a1) (IntKind.i64.wrap ((y11.length : Int) + (1 : Int)))))), (14, .x (.flt r106.1)), (15, .x (.int .i64 r106.2)), (16, .x (.flt r109.1)), (17, .x (.int .i64 r109.2)), (18, .x (.flt r112.1)), (19, .x (.int .i64 r112.2)), (20, .x (.flt (some 4607182418800017408 : Fl)))] [] (by kernel_rfl) (by kernel_rfl) ?_
            refine JC.skipT ?_
            refine JC.seq ?_
            refine JC.seq ?_
            refine JC.region fun b115 => ?_
            refine JS.run 1 (by kernel_rfl) ?_
            refine JS.nil ?_
            refine JC.to2 [(0, .x (.int .u32 a0)), (9, .x (.int .i64 (Int.tmod (IntKind.i64.wrap a1) (IntKind.i64.wrap ((y11.length : Int) + (1 : Int)))))), (14, .x (.flt r106.1)), (15, .x (.int .i64 r106.2)), (16, .x (.flt r109.1)), (17, .x (.int .i64 r109.2)), (18, .x (.flt r112.1)), (19, .x (.int .i64 r112.2)), (20, .x (.flt (some 4607182418800017408 : Fl))), (21, .x (.int .i64 (0 : Int)))] [] (by kernel_rfl) (by kernel_rfl) ?_
            refine JC.skipT ?_
            refine JC.block ?_
            refine JC.to2 [(0, .x (.int .u32 a0)), (9, .x (.int .i64 (Int.tmod (IntKind.i64.wrap a1) (IntKind.i64.wrap ((y11.length : Int) + (1 : Int)))))), (14, .x (.flt r106.1)), (15, .x (.int .i64 r106.2)), (16, .x (.flt r109.1)), (17, .x (.int .i64 r109.2)), (18, .x (.flt r112.1)), (19, .x (.int .i64 r112.2)), (20, .x (.flt (some 4607182418800017408 : Fl))), (21, .x (.int .i64 (0 : Int)))] [] (by kernel_rfl) (by kernel_rfl) ?_
            refine JC.to2 [(0, .x (.int .u32 a0)), (9, .x (.int .i64 (Int.tmod (IntKind.i64.wrap a1) (IntKind.i64.wrap ((y11.length : Int) + (1 : Int)))))), (14, .x (.flt r106.1)), (15, .x (.int .i64 r106.2)), (16, .x (.flt r109.1)), (17, .x (.int .i64 r109.2)), (18, .x (.flt r112.1)), (19, .x (.int .i64 r112.2)), (20, .x (.flt (some 4607182418800017408 : Fl))), (21, .x (.int .i64 (0 : Int)))] [] (by kernel_rfl) (by kernel_rfl) ?_
            refine JC.bind (A := fun v ex E R => ex = (.exit 2) ∧ E = [(0, .x (.int .u32 a0)), (14, .x (.flt r106.1)), (15, .x (.int .i64 r106.2)), (16, .x (.flt r109.1)), (17, .x (.int .i64 r109.2)), (18, .x (.flt r112.1)), (19, .x (.int .i64 r112.2)), (20, .x (.flt v))] ∧ R = []) (eyotlaw1_WeighDigits_l3_ok a0 a1 y11 r106 r109 r112 k (some 4607182418800017408 : Fl) (0 : Int)) ?_
            rintro y118 ex E' R' hA
            obtain ⟨rfl, rfl, rfl⟩ := hA
            refine JC.to2 [(0, .x (.int .u32 a0)), (14, .x (.flt r106.1)), (15, .x (.int .i64 r106.2)), (16, .x (.flt r109.1)), (17, .x (.int .i64 r109.2)), (18, .x (.flt r112.1)), (19, .x (.int .i64 r112.2)), (20, .x (.flt y118))] [] (by kernel_rfl) (by kernel_rfl) ?_
            refine JC.exitB ?_
            refine JC.skipT ?_
            refine JC.seq ?_
            refine JC.bind (A := fun v ex E R => ex = .normal ∧ E = [(6, .x (.bool v))] ∧ R = []) ?_ ?_
            · refine JC.region fun b124 => ?_
              refine JS.run 3 (by kernel_rfl) ?_
              refine JS.split (e := (r106.2 == (0 : Int))) 104 (by kernel_rfl) (fun h125 => ?_) (fun h125 => ?_)
              · refine JS.run 4 (by kernel_rfl) ?_
                refine JS.split (e := (r109.2 == (0 : Int))) 108 (by kernel_rfl) (fun h126 => ?_) (fun h126 => ?_)
                · refine JS.run 4 (by kernel_rfl) ?_
                  refine JS.split (e := (r112.2 == (0 : Int))) 112 (by kernel_rfl) (fun h127 => ?_) (fun h127 => ?_)
                  · refine JS.run 2 (by kernel_rfl) ?_
                    refine JS.bind fun r128 h129 => ?_
                    refine JS.callS [] (weigh_Same_ok k r106.1 r109.1 r128 h129) ⟨rfl, argX (d := (.flt r106.1)) (by kernel_rfl) (by kernel_rfl), rfl, argX (d := (.flt r109.1)) (by kernel_rfl) (by kernel_rfl), trivial⟩ (by kernel_rfl) (by kernel_rfl) (by kernel_rfl) ?_
                    refine JS.run 2 (by kernel_rfl) ?_
                    refine JS.split (e := r128) 117 (by kernel_rfl) (fun h130 => ?_) (fun h130 => ?_)
                    · refine JS.run 3 (by kernel_rfl) ?_
                      refine JS.bind fun r131 h132 => ?_
                      refine JS.callS [] (weigh_Same_ok k r112.1 (fNeg r106.1) r131 h132) ⟨rfl, argX (d := (.flt r112.1)) (by kernel_rfl) (by kernel_rfl), rfl, argX (d := (.flt (fNeg r106.1))) (by kernel_rfl) (by kernel_rfl), trivial⟩ (by kernel_rfl) (by kernel_rfl) (by kernel_rfl) ?_
                      refine JS.run 2 (by kernel_rfl) ?_
                      refine JS.split (e := r131) 123 (by kernel_rfl) (fun h133 => ?_) (fun h133 => ?_)
                      · refine JS.run 8 (by kernel_rfl) ?_
                        refine JS.nil ?_
                        refine JC.to2 [(6, .x (.bool (fOrd r106.1 (fDiv (some (FloatKind.f64.nearest a0) : Fl) y118) == some .eq)))] [] (by kernel_rfl) (by kernel_rfl) ?_
                        refine JC.to2 [(6, .x (.bool (fOrd r106.1 (fDiv (some (FloatKind.f64.nearest a0) : Fl) y118) == some .eq)))] [] (by kernel_rfl) (by kernel_rfl) ?_
                        exact JC.got (ex := .normal) rfl ⟨rfl, rfl, rfl⟩
                      · refine JS.run 8 (by kernel_rfl) ?_
                        refine JS.nil ?_
                        refine JC.to2 [(6, .x (.bool false))] [] (by kernel_rfl) (by kernel_rfl) ?_
                        refine JC.to2 [(6, .x (.bool false))] [] (by kernel_rfl) (by kernel_rfl) ?_
                        exact JC.got (ex := .normal) rfl ⟨rfl, rfl, rfl⟩
                    · refine JS.run 14 (by kernel_rfl) ?_
                      refine JS.nil ?_
                      refine JC.to2 [(6, .x (.bool false))] [] (by kernel_rfl) (by kernel_rfl) ?_
                      refine JC.to2 [(6, .x (.bool false))] [] (by kernel_rfl) (by kernel_rfl) ?_
                      exact JC.got (ex := .normal) rfl ⟨rfl, rfl, rfl⟩
                  · refine JS.run 19 (by kernel_rfl) ?_
                    refine JS.nil ?_
                    refine JC.to2 [(6, .x (.bool false))] [] (by kernel_rfl) (by kernel_rfl) ?_
                    refine JC.to2 [(6, .x (.bool false))] [] (by kernel_rfl) (by kernel_rfl) ?_
                    exact JC.got (ex := .normal) rfl ⟨rfl, rfl, rfl⟩
                · refine JS.run 23 (by kernel_rfl) ?_
                  refine JS.nil ?_
                  refine JC.to2 [(6, .x (.bool false))] [] (by kernel_rfl) (by kernel_rfl) ?_
                  refine JC.to2 [(6, .x (.bool false))] [] (by kernel_rfl) (by kernel_rfl) ?_
                  exact JC.got (ex := .normal) rfl ⟨rfl, rfl, rfl⟩
              · refine JS.run 27 (by kernel_rfl) ?_
                refine JS.nil ?_
                refine JC.to2 [(6, .x (.bool false))] [] (by kernel_rfl) (by kernel_rfl) ?_
                refine JC.to2 [(6, .x (.bool false))] [] (by kernel_rfl) (by kernel_rfl) ?_
                exact JC.got (ex := .normal) rfl ⟨rfl, rfl, rfl⟩
            · rintro y123 ex E' R' hA
              obtain ⟨rfl, rfl, rfl⟩ := hA
              refine JC.to2 [(6, .x (.bool y123))] [] (by kernel_rfl) (by kernel_rfl) ?_
              refine JC.skipT ?_
              exact JC.finB (ex := .ret) (vs := [.x (.bool y123)]) (is := []) rfl ret_ne ⟨(by kernel_rfl), trivial⟩ (Outs.sc rfl Outs.nil)
          · refine JC.skipT ?_
            refine JC.seq ?_
            refine JC.region fun b134 => ?_
            refine JS.run 1 (by kernel_rfl) ?_
            refine JS.bind fun r135 h136 => ?_
            refine JS.callS [] (weigh_Parse_ok k ([48] : List UInt8) r135 h136) ⟨rfl, argX (d := (.str ([48] : List UInt8))) (by kernel_rfl) (by kernel_rfl), trivial⟩ (by kernel_rfl) (by kernel_rfl) (by kernel_rfl) ?_
            refine JS.run 5 (by kernel_rfl) ?_
            refine JS.nil ?_
            refine JC.to2 [(0, .x (.int .u32 a0)), (9, .x (.int .i64 (Int.tmod (IntKind.i64.wrap a1) (IntKind.i64.wrap ((y11.length : Int) + (1 : Int)))))), (12, .x (.str ([48] : List UInt8))), (13, .x (.str (([48] : List UInt8) ++ ([48] : List UInt8)))), (14, .x (.flt r135.1)), (15, .x (.int .i64 r135.2))] [] (by kernel_rfl) (by kernel_rfl) ?_
            refine JC.skipT ?_
            refine JC.seq ?_
            refine JC.region fun b137 => ?_
            refine JS.run 1 (by kernel_rfl) ?_
            refine JS.bind fun r138 h139 => ?_
            refine JS.callS [] (weigh_Parse_ok k (([48] : List UInt8) ++ ([48] : List UInt8)) r138 h139) ⟨rfl, argX (d := (.str (([48] : List UInt8) ++ ([48] : List UInt8)))) (by kernel_rfl) (by kernel_rfl), trivial⟩ (by kernel_rfl) (by kernel_rfl) (by kernel_rfl) ?_
            refine JS.run 5 (by kernel_rfl) ?_
            refine JS.nil ?_
            refine JC.to2 [(0, .x (.int .u32 a0)), (9, .x (.int .i64 (Int.tmod (IntKind.i64.wrap a1) (IntKind.i64.wrap ((y11.length : Int) + (1 : Int)))))), (12, .x (.str ([48] : List UInt8))), (14, .x (.flt r135.1)), (15, .x (.int .i64 r135.2)), (16, .x (.flt r138.1)), (17, .x (.int .i64 r138.2))] [] (by kernel_rfl) (by kernel_rfl) ?_
            refine JC.skipT ?_
            refine JC.seq ?_
            refine JC.region fun b140 => ?_
            refine JS.run 1 (by kernel_rfl) ?_
            refine JS.addS (t := ([45] : List UInt8)) (u := ([48] : List UInt8)) (by kernel_rfl) (by kernel_rfl) (by kernel_rfl) (by kernel_rfl) ?_
            refine JS.bind fun r141 h142 => ?_
            refine JS.callS [] (weigh_Parse_ok k (([45] : List UInt8) ++ ([48] : List UInt8)) r141 h142) ⟨rfl, argX (d := (.str (([45] : List UInt8) ++ ([48] : List UInt8)))) (by kernel_rfl) (by kernel_rfl), trivial⟩ (by kernel_rfl) (by kernel_rfl) (by kernel_rfl) ?_
            refine JS.run 5 (by kernel_rfl) ?_
            refine JS.nil ?_
            refine JC.to2 [(0, .x (.int .u32 a0)), (9, .x (.int .i64 (Int.tmod (IntKind.i64.wrap a1) (IntKind.i64.wrap ((y11.length : Int) + (1 : Int)))))), (14, .x (.flt r135.1)), (15, .x (.int .i64 r135.2)), (16, .x (.flt r138.1)), (17, .x (.int .i64 r138.2)), (18, .x (.flt r141.1)), (19, .x (.int .i64 r141.2))] [] (by kernel_rfl) (by kernel_rfl) ?_
            refine JC.skipT ?_
            refine JC.seq ?_
            refine JC.region fun b143 => ?_
            refine JS.run 1 (by kernel_rfl) ?_
            refine JS.nil ?_
            refine JC.to2 [(0, .x (.int .u32 a0)), (9, .x (.int .i64 (Int.tmod (IntKind.i64.wrap a1) (IntKind.i64.wrap ((y11.length : Int) + (1 : Int)))))), (14, .x (.flt r135.1)), (15, .x (.int .i64 r135.2)), (16, .x (.flt r138.1)), (17, .x (.int .i64 r138.2)), (18, .x (.flt r141.1)), (19, .x (.int .i64 r141.2)), (20, .x (.flt (some 4607182418800017408 : Fl)))] [] (by kernel_rfl) (by kernel_rfl) ?_
            refine JC.skipT ?_
            refine JC.seq ?_
            refine JC.seq ?_
            refine JC.region fun b144 => ?_
            refine JS.run 1 (by kernel_rfl) ?_
            refine JS.nil ?_
            refine JC.to2 [(0, .x (.int .u32 a0)), (9, .x (.int .i64 (Int.tmod (IntKind.i64.wrap a1) (IntKind.i64.wrap ((y11.length : Int) + (1 : Int)))))), (14, .x (.flt r135.1)), (15, .x (.int .i64 r135.2)), (16, .x (.flt r138.1)), (17, .x (.int .i64 r138.2)), (18, .x (.flt r141.1)), (19, .x (.int .i64 r141.2)), (20, .x (.flt (some 4607182418800017408 : Fl))), (21, .x (.int .i64 (0 : Int)))] [] (by kernel_rfl) (by kernel_rfl) ?_
            refine JC.skipT ?_
            refine JC.block ?_
            refine JC.to2 [(0, .x (.int .u32 a0)), (9, .x (.int .i64 (Int.tmod (IntKind.i64.wrap a1) (IntKind.i64.wrap ((y11.length : Int) + (1 : Int)))))), (14, .x (.flt r135.1)), (15, .x (.int .i64 r135.2)), (16, .x (.flt r138.1)), (17, .x (.int .i64 r138.2)), (18, .x (.flt r141.1)), (19, .x (.int .i64 r141.2)), (20, .x (.flt (some 4607182418800017408 : Fl))), (21, .x (.int .i64 (0 : Int)))] [] (by kernel_rfl) (by kernel_rfl) ?_
            refine JC.to2 [(0, .x (.int .u32 a0)), (9, .x (.int .i64 (Int.tmod (IntKind.i64.wrap a1) (IntKind.i64.wrap ((y11.length : Int) + (1 : Int)))))), (14, .x (.flt r135.1)), (15, .x (.int .i64 r135.2)), (16, .x (.flt r138.1)), (17, .x (.int .i64 r138.2)), (18, .x (.flt r141.1)), (19, .x (.int .i64 r141.2)), (20, .x (.flt (some 4607182418800017408 : Fl))), (21, .x (.int .i64 (0 : Int)))] [] (by kernel_rfl) (by kernel_rfl) ?_
            refine JC.bind (A := fun v ex E R => ex = (.exit 2) ∧ E = [(0, .x (.int .u32 a0)), (14, .x (.flt r135.1)), (15, .x (.int .i64 r135.2)), (16, .x (.flt r138.1)), (17, .x (.int .i64 r138.2)), (18, .x (.flt r141.1)), (19, .x (.int .i64 r141.2)), (20, .x (.flt v))] ∧ R = []) (eyotlaw1_WeighDigits_l4_ok a0 a1 y11 r135 r138 r141 k (some 4607182418800017408 : Fl) (0 : Int)) ?_
            rintro y147 ex E' R' hA
            obtain ⟨rfl, rfl, rfl⟩ := hA
            refine JC.to2 [(0, .x (.int .u32 a0)), (14, .x (.flt r135.1)), (15, .x (.int .i64 r135.2)), (16, .x (.flt r138.1)), (17, .x (.int .i64 r138.2)), (18, .x (.flt r141.1)), (19, .x (.int .i64 r141.2)), (20, .x (.flt y147))] [] (by kernel_rfl) (by kernel_rfl) ?_
            refine JC.exitB ?_
            refine JC.skipT ?_
            refine JC.seq ?_
            refine JC.bind (A := fun v ex E R => ex = .normal ∧ E = [(6, .x (.bool v))] ∧ R = []) ?_ ?_
            · refine JC.region fun b153 => ?_
              refine JS.run 3 (by kernel_rfl) ?_
              refine JS.split (e := (r135.2 == (0 : Int))) 104 (by kernel_rfl) (fun h154 => ?_) (fun h154 => ?_)
              · refine JS.run 4 (by kernel_rfl) ?_
                refine JS.split (e := (r138.2 == (0 : Int))) 108 (by kernel_rfl) (fun h155 => ?_) (fun h155 => ?_)
                · refine JS.run 4 (by kernel_rfl) ?_
                  refine JS.split (e := (r141.2 == (0 : Int))) 112 (by kernel_rfl) (fun h156 => ?_) (fun h156 => ?_)
                  · refine JS.run 2 (by kernel_rfl) ?_
                    refine JS.bind fun r157 h158 => ?_
                    refine JS.callS [] (weigh_Same_ok k r135.1 r138.1 r157 h158) ⟨rfl, argX (d := (.flt r135.1)) (by kernel_rfl) (by kernel_rfl), rfl, argX (d := (.flt r138.1)) (by kernel_rfl) (by kernel_rfl), trivial⟩ (by kernel_rfl) (by kernel_rfl) (by kernel_rfl) ?_
                    refine JS.run 2 (by kernel_rfl) ?_
                    refine JS.split (e := r157) 117 (by kernel_rfl) (fun h159 => ?_) (fun h159 => ?_)
                    · refine JS.run 3 (by kernel_rfl) ?_
                      refine JS.bind fun r160 h161 => ?_
                      refine JS.callS [] (weigh_Same_ok k r141.1 (fNeg r135.1) r160 h161) ⟨rfl, argX (d := (.flt r141.1)) (by kernel_rfl) (by kernel_rfl), rfl, argX (d := (.flt (fNeg r135.1))) (by kernel_rfl) (by kernel_rfl), trivial⟩ (by kernel_rfl) (by kernel_rfl) (by kernel_rfl) ?_
                      refine JS.run 2 (by kernel_rfl) ?_
                      refine JS.split (e := r160) 123 (by kernel_rfl) (fun h162 => ?_) (fun h162 => ?_)
                      · refine JS.run 8 (by kernel_rfl) ?_
                        refine JS.nil ?_
                        refine JC.to2 [(6, .x (.bool (fOrd r135.1 (fDiv (some (FloatKind.f64.nearest a0) : Fl) y147) == some .eq)))] [] (by kernel_rfl) (by kernel_rfl) ?_
                        refine JC.to2 [(6, .x (.bool (fOrd r135.1 (fDiv (some (FloatKind.f64.nearest a0) : Fl) y147) == some .eq)))] [] (by kernel_rfl) (by kernel_rfl) ?_
                        exact JC.got (ex := .normal) rfl ⟨rfl, rfl, rfl⟩
                      · refine JS.run 8 (by kernel_rfl) ?_
                        refine JS.nil ?_
                        refine JC.to2 [(6, .x (.bool false))] [] (by kernel_rfl) (by kernel_rfl) ?_
                        refine JC.to2 [(6, .x (.bool false))] [] (by kernel_rfl) (by kernel_rfl) ?_
                        exact JC.got (ex := .normal) rfl ⟨rfl, rfl, rfl⟩
                    · refine JS.run 14 (by kernel_rfl) ?_
                      refine JS.nil ?_
                      refine JC.to2 [(6, .x (.bool false))] [] (by kernel_rfl) (by kernel_rfl) ?_
                      refine JC.to2 [(6, .x (.bool false))] [] (by kernel_rfl) (by kernel_rfl) ?_
                      exact JC.got (ex := .normal) rfl ⟨rfl, rfl, rfl⟩
                  · refine JS.run 19 (by kernel_rfl) ?_
                    refine JS.nil ?_
                    refine JC.to2 [(6, .x (.bool false))] [] (by kernel_rfl) (by kernel_rfl) ?_
                    refine JC.to2 [(6, .x (.bool false))] [] (by kernel_rfl) (by kernel_rfl) ?_
                    exact JC.got (ex := .normal) rfl ⟨rfl, rfl, rfl⟩
                · refine JS.run 23 (by kernel_rfl) ?_
                  refine JS.nil ?_
                  refine JC.to2 [(6, .x (.bool false))] [] (by kernel_rfl) (by kernel_rfl) ?_
                  refine JC.to2 [(6, .x (.bool false))] [] (by kernel_rfl) (by kernel_rfl) ?_
                  exact JC.got (ex := .normal) rfl ⟨rfl, rfl, rfl⟩
              · refine JS.run 27 (by kernel_rfl) ?_
                refine JS.nil ?_
                refine JC.to2 [(6, .x (.bool false))] [] (by kernel_rfl) (by kernel_rfl) ?_
                refine JC.to2 [(6, .x (.bool false))] [] (by kernel_rfl) (by kernel_rfl) ?_
                exact JC.got (ex := .normal) rfl ⟨rfl, rfl, rfl⟩
            · rintro y152 ex E' R' hA
              obtain ⟨rfl, rfl, rfl⟩ := hA
              refine JC.to2 [(6, .x (.bool y152))] [] (by kernel_rfl) (by kernel_rfl) ?_
              refine JC.skipT ?_
              exact JC.finB (ex := .ret) (vs := [.x (.bool y152)]) (is := []) rfl ret_ne ⟨(by kernel_rfl), trivial⟩ (Outs.sc rfl Outs.nil)
    · refine JC.skipT ?_
      refine JC.seq ?_
      refine JC.region fun b163 => ?_
      refine JS.run 5 (by kernel_rfl) ?_
      refine JS.sliceS (t := y11) (lo' := (some (IntKind.i64.wrap ((y11.length : Int) - (Int.tmod (IntKind.i64.wrap a1) (IntKind.i64.wrap ((y11.length : Int) + (1 : Int)))))))) (hi' := none) (by kernel_rfl) (by kernel_rfl) (by kernel_rfl) (by kernel_rfl) (by kernel_rfl) (fun p164 h165 => ?_)
      refine JS.run 1 (by kernel_rfl) ?_
      refine JS.nil ?_
      refine JC.to2 [(0, .x (.int .u32 a0)), (2, .x (.int .u8 a2)), (9, .x (.int .i64 (Int.tmod (IntKind.i64.wrap a1) (IntKind.i64.wrap ((y11.length : Int) + (1 : Int)))))), (10, .x (.str (sl y11 p21))), (11, .x (.str (sl y11 p164)))] [] (by kernel_rfl) (by kernel_rfl) ?_
      refine JC.skipT ?_
      refine JC.seq ?_
      refine JC.region fun b166 => ?_
      refine JS.run 2 (by kernel_rfl) ?_
      refine JS.nil ?_
      refine JC.to2 [(0, .x (.int .u32 a0)), (2, .x (.int .u8 a2)), (9, .x (.int .i64 (Int.tmod (IntKind.i64.wrap a1) (IntKind.i64.wrap ((y11.length : Int) + (1 : Int)))))), (10, .x (.str (sl y11 p21))), (11, .x (.str (sl y11 p164))), (12, .x (.str (sl y11 p21)))] [] (by kernel_rfl) (by kernel_rfl) ?_
      refine JC.skipT ?_
      refine JC.seq ?_
      refine JC.seq ?_
      refine JC.region fun b167 => ?_
      refine JS.run 2 (by kernel_rfl) ?_
      refine JS.nil ?_
      refine JC.to2 [(0, .x (.int .u32 a0)), (2, .x (.int .u8 a2)), (9, .x (.int .i64 (Int.tmod (IntKind.i64.wrap a1) (IntKind.i64.wrap ((y11.length : Int) + (1 : Int)))))), (10, .x (.str (sl y11 p21))), (11, .x (.str (sl y11 p164))), (12, .x (.str (sl y11 p21))), (63, .x (.bool (!((sl y11 p164) == ([] : List UInt8)))))] [] (by kernel_rfl) (by kernel_rfl) ?_
      refine JC.skipT ?_
      refine JC.cond (e := (!((sl y11 p164) == ([] : List UInt8)))) (by kernel_rfl) (fun h168 => ?_) (fun h168 => ?_)
      · refine JC.region fun b169 => ?_
        refine JS.run 1 (by kernel_rfl) ?_
        refine JS.addS (t := (sl y11 p21)) (u := ([46] : List UInt8)) (by kernel_rfl) (by kernel_rfl) (by kernel_rfl) (by kernel_rfl) ?_
        refine JS.run 1 (by kernel_rfl) ?_
        refine JS.addS (t := ((sl y11 p21) ++ ([46] : List UInt8))) (u := (sl y11 p164)) (by kernel_rfl) (by kernel_rfl) (by kernel_rfl) (by kernel_rfl) ?_
        refine JS.run 1 (by kernel_rfl) ?_
        refine JS.nil ?_
        refine JC.to2 [(0, .x (.int .u32 a0)), (2, .x (.int .u8 a2)), (9, .x (.int .i64 (Int.tmod (IntKind.i64.wrap a1) (IntKind.i64.wrap ((y11.length : Int) + (1 : Int)))))), (11, .x (.str (sl y11 p164))), (12, .x (.str (((sl y11 p21) ++ ([46] : List UInt8)) ++ (sl y11 p164))))] [] (by kernel_rfl) (by kernel_rfl) ?_
        refine JC.skipT ?_
        refine JC.seq ?_
        refine JC.region fun b170 => ?_
        refine JS.run 1 (by kernel_rfl) ?_
        refine JS.addS (t := ([48] : List UInt8)) (u := (((sl y11 p21) ++ ([46] : List UInt8)) ++ (sl y11 p164))) (by kernel_rfl) (by kernel_rfl) (by kernel_rfl) (by kernel_rfl) ?_
        refine JS.run 1 (by kernel_rfl) ?_
        refine JS.nil ?_
        refine JC.to2 [(0, .x (.int .u32 a0)), (2, .x (.int .u8 a2)), (9, .x (.int .i64 (Int.tmod (IntKind.i64.wrap a1) (IntKind.i64.wrap ((y11.length : Int) + (1 : Int)))))), (11, .x (.str (sl y11 p164))), (12, .x (.str (((sl y11 p21) ++ ([46] : List UInt8)) ++ (sl y11 p164)))), (13, .x (.str (([48] : List UInt8) ++ (((sl y11 p21) ++ ([46] : List UInt8)) ++ (sl y11 p164)))))] [] (by kernel_rfl) (by kernel_rfl) ?_
        refine JC.skipT ?_
        refine JC.seq ?_
        refine JC.seq ?_
        refine JC.bind (A := fun v ex E R => ex = .normal ∧ E = [(0, .x (.int .u32 a0)), (9, .x (.int .i64 (Int.tmod (IntKind.i64.wrap a1) (IntKind.i64.wrap ((y11.length : Int) + (1 : Int)))))), (12, .x (.str v.1)), (13, .x (.str v.2.1)), (76, .x (.bool v.2.2))] ∧ R = []) ?_ ?_
        · refine JC.region fun b174 => ?_
          refine JS.run 3 (by kernel_rfl) ?_
          refine JS.split (e := (!((sl y11 p164) == ([] : List UInt8)))) 72 (by kernel_rfl) (fun h175 => ?_) (fun h175 => ?_)
          · refine JS.run 4 (by kernel_rfl) ?_
            refine JS.nil ?_
            refine JC.to2 [(0, .x (.int .u32 a0)), (9, .x (.int .i64 (Int.tmod (IntKind.i64.wrap a1) (IntKind.i64.wrap ((y11.length : Int) + (1 : Int)))))), (12, .x (.str (((sl y11 p21) ++ ([46] : List UInt8)) ++ (sl y11 p164)))), (13, .x (.str (([48] : List UInt8) ++ (((sl y11 p21) ++ ([46] : List UInt8)) ++ (sl y11 p164))))), (76, .x (.bool ((Int.tmod a2 (2 : Int)) == (1 : Int))))] [] (by kernel_rfl) (by kernel_rfl) ?_
            refine JC.to2 [(0, .x (.int .u32 a0)), (9, .x (.int .i64 (Int.tmod (IntKind.i64.wrap a1) (IntKind.i64.wrap ((y11.length : Int) + (1 : Int)))))), (12, .x (.str (((sl y11 p21) ++ ([46] : List UInt8)) ++ (sl y11 p164)))), (13, .x (.str (([48] : List UInt8) ++ (((sl y11 p21) ++ ([46] : List UInt8)) ++ (sl y11 p164))))), (76, .x (.bool ((Int.tmod a2 (2 : Int)) == (1 : Int))))] [] (by kernel_rfl) (by kernel_rfl) ?_
            exact JC.got (ex := .normal) rfl ⟨rfl, rfl, rfl⟩
          · refine JS.run 4 (by kernel_rfl) ?_
            refine JS.nil ?_
            refine JC.to2 [(0, .x (.int .u32 a0)), (9, .x (.int .i64 (Int.tmod (IntKind.i64.wrap a1) (IntKind.i64.wrap ((y11.length : Int) + (1 : Int)))))), (12, .x (.str (((sl y11 p21) ++ ([46] : List UInt8)) ++ (sl y11 p164)))), (13, .x (.str (([48] : List UInt8) ++ (((sl y11 p21) ++ ([46] : List UInt8)) ++ (sl y11 p164))))), (76, .x (.bool false))] [] (by kernel_rfl) (by kernel_rfl) ?_
            refine JC.to2 [(0, .x (.int .u32 a0)), (9, .x (.int .i64 (Int.tmod (IntKind.i64.wrap a1) (IntKind.i64.wrap ((y11.length : Int) + (1 : Int)))))), (12, .x (.str (((sl y11 p21) ++ ([46] : List UInt8)) ++ (sl y11 p164)))), (13, .x (.str (([48] : List UInt8) ++ (((sl y11 p21) ++ ([46] : List UInt8)) ++ (sl y11 p164))))), (76, .x (.bool false))] [] (by kernel_rfl) (by kernel_rfl) ?_
            exact JC.got (ex := .normal) rfl ⟨rfl, rfl, rfl⟩
        · rintro ⟨y171, y172, y173⟩ ex E' R' hA
          obtain ⟨rfl, rfl, rfl⟩ := hA
          refine JC.to2 [(0, .x (.int .u32 a0)), (9, .x (.int .i64 (Int.tmod (IntKind.i64.wrap a1) (IntKind.i64.wrap ((y11.length : Int) + (1 : Int)))))), (12, .x (.str y171)), (13, .x (.str y172)), (76, .x (.bool y173))] [] (by kernel_rfl) (by kernel_rfl) ?_
          refine JC.skipT ?_
          refine JC.cond (e := y173) (by kernel_rfl) (fun h176 => ?_) (fun h176 => ?_)
          · refine JC.region fun b177 => ?_
            refine JS.run 1 (by kernel_rfl) ?_
            refine JS.addS (t := y172) (u := ([48] : List UInt8)) (by kernel_rfl) (by kernel_rfl) (by kernel_rfl) (by kernel_rfl) ?_
            refine JS.run 1 (by kernel_rfl) ?_
            refine JS.nil ?_
            refine JC.to2 [(0, .x (.int .u32 a0)), (9, .x (.int .i64 (Int.tmod (IntKind.i64.wrap a1) (IntKind.i64.wrap ((y11.length : Int) + (1 : Int)))))), (12, .x (.str y171)), (13, .x (.str (y172 ++ ([48] : List UInt8))))] [] (by kernel_rfl) (by kernel_rfl) ?_
            refine JC.skipT ?_
            refine JC.seq ?_
            refine JC.region fun b178 => ?_
            refine JS.run 1 (by kernel_rfl) ?_
            refine JS.bind fun r179 h180 => ?_
            refine JS.callS [] (weigh_Parse_ok k y171 r179 h180) ⟨rfl, argX (d := (.str y171)) (by kernel_rfl) (by kernel_rfl), trivial⟩ (by kernel_rfl) (by kernel_rfl) (by kernel_rfl) ?_
            refine JS.run 5 (by kernel_rfl) ?_
            refine JS.nil ?_
            refine JC.to2 [(0, .x (.int .u32 a0)), (9, .x (.int .i64 (Int.tmod (IntKind.i64.wrap a1) (IntKind.i64.wrap ((y11.length : Int) + (1 : Int)))))), (12, .x (.str y171)), (13, .x (.str (y172 ++ ([48] : List UInt8)))), (14, .x (.flt r179.1)), (15, .x (.int .i64 r179.2))] [] (by kernel_rfl) (by kernel_rfl) ?_
            refine JC.skipT ?_
            refine JC.seq ?_
            refine JC.region fun b181 => ?_
            refine JS.run 1 (by kernel_rfl) ?_
            refine JS.bind fun r182 h183 => ?_
            refine JS.callS [] (weigh_Parse_ok k (y172 ++ ([48] : List UInt8)) r182 h183) ⟨rfl, argX (d := (.str (y172 ++ ([48] : List UInt8)))) (by kernel_rfl) (by kernel_rfl), trivial⟩ (by kernel_rfl) (by kernel_rfl) (by kernel_rfl) ?_
            refine JS.run 5 (by kernel_rfl) ?_
            refine JS.nil ?_
            refine JC.to2 [(0, .x (.int .u32 a0)), (9, .x (.int .i64 (Int.tmod (IntKind.i64.wrap a1) (IntKind.i64.wrap ((y11.length : Int) + (1 : Int)))))), (12, .x (.str y171)), (14, .x (.flt r179.1)), (15, .x (.int .i64 r179.2)), (16, .x (.flt r182.1)), (17, .x (.int .i64 r182.2))] [] (by kernel_rfl) (by kernel_rfl) ?_
            refine JC.skipT ?_
            refine JC.seq ?_
            refine JC.region fun b184 => ?_
            refine JS.run 1 (by kernel_rfl) ?_
            refine JS.addS (t := ([45] : List UInt8)) (u := y171) (by kernel_rfl) (by kernel_rfl) (by kernel_rfl) (by kernel_rfl) ?_
            refine JS.bind fun r185 h186 => ?_
            refine JS.callS [] (weigh_Parse_ok k (([45] : List UInt8) ++ y171) r185 h186) ⟨rfl, argX (d := (.str (([45] : List UInt8) ++ y171))) (by kernel_rfl) (by kernel_rfl), trivial⟩ (by kernel_rfl) (by kernel_rfl) (by kernel_rfl) ?_
            refine JS.run 5 (by kernel_rfl) ?_
            refine JS.nil ?_
            refine JC.to2 [(0, .x (.int .u32 a0)), (9, .x (.int .i64 (Int.tmod (IntKind.i64.wrap a1) (IntKind.i64.wrap ((y11.length : Int) + (1 : Int)))))), (14, .x (.flt r179.1)), (15, .x (.int .i64 r179.2)), (16, .x (.flt r182.1)), (17, .x (.int .i64 r182.2)), (18, .x (.flt r185.1)), (19, .x (.int .i64 r185.2))] [] (by kernel_rfl) (by kernel_rfl) ?_
            refine JC.skipT ?_
            refine JC.seq ?_
            refine JC.region fun b187 => ?_
            refine JS.run 1 (by kernel_rfl) ?_
            refine JS.nil ?_
            refine JC.to2 [(0, .x (.int .u32 a0)), (9, .x (.int .i64 (Int.tmod (IntKind.i64.wrap a1) (IntKind.i64.wrap ((y11.length : Int) + (1 : Int)))))), (14, .x (.flt r179.1)), (15, .x (.int .i64 r179.2)), (16, .x (.flt r182.1)), (17, .x (.int .i64 r182.2)), (18, .x (.flt r185.1)), (19, .x (.int .i64 r185.2)), (20, .x (.flt (some 4607182418800017408 : Fl)))] [] (by kernel_rfl) (by kernel_rfl) ?_
            refine JC.skipT ?_
            refine JC.seq ?_
            refine JC.seq ?_
            refine JC.region fun b188 => ?_
            refine JS.run 1 (by kernel_rfl) ?_
            refine JS.nil ?_
            refine JC.to2 [(0, .x (.int .u32 a0)), (9, .x (.int .i64 (Int.tmod (IntKind.i64.wrap a1) (IntKind.i64.wrap ((y11.length : Int) + (1 : Int)))))), (14, .x (.flt r179.1)), (15, .x (.int .i64 r179.2)), (16, .x (.flt r182.1)), (17, .x (.int .i64 r182.2)), (18, .x (.flt r185.1)), (19, .x (.int .i64 r185.2)), (20, .x (.flt (some 4607182418800017408 : Fl))), (21, .x (.int .i64 (0 : Int)))] [] (by kernel_rfl) (by kernel_rfl) ?_
            refine JC.skipT ?_
            refine JC.block ?_
            refine JC.to2 [(0, .x (.int .u32 a0)), (9, .x (.int .i64 (Int.tmod (IntKind.i64.wrap a1) (IntKind.i64.wrap ((y11.length : Int) + (1 : Int)))))), (14, .x (.flt r179.1)), (15, .x (.int .i64 r179.2)), (16, .x (.flt r182.1)), (17, .x (.int .i64 r182.2)), (18, .x (.flt r185.1)), (19, .x (.int .i64 r185.2)), (20, .x (.flt (some 4607182418800017408 : Fl))), (21, .x (.int .i64 (0 : Int)))] [] (by kernel_rfl) (by kernel_rfl) ?_
            refine JC.to2 [(0, .x (.int .u32 a0)), (9, .x (.int .i64 (Int.tmod (IntKind.i64.wrap a1) (IntKind.i64.wrap ((y11.length : Int) + (1 : Int)))))), (14, .x (.flt r179.1)), (15, .x (.int .i64 r179.2)), (16, .x (.flt r182.1)), (17, .x (.int .i64 r182.2)), (18, .x (.flt r185.1)), (19, .x (.int .i64 r185.2)), (20, .x (.flt (some 4607182418800017408 : Fl))), (21, .x (.int .i64 (0 : Int)))] [] (by kernel_rfl) (by kernel_rfl) ?_
            refine JC.bind (A := fun v ex E R => ex = (.exit 2) ∧ E = [(0, .x (.int .u32 a0)), (14, .x (.flt r179.1)), (15, .x (.int .i64 r179.2)), (16, .x (.flt r182.1)), (17, .x (.int .i64 r182.2)), (18, .x (.flt r185.1)), (19, .x (.int .i64 r185.2)), (20, .x (.flt v))] ∧ R = []) (eyotlaw1_WeighDigits_l5_ok a0 a1 y11 r179 r182 r185 k (some 4607182418800017408 : Fl) (0 : Int)) ?_
            rintro y191 ex E' R' hA
            obtain ⟨rfl, rfl, rfl⟩ := hA
            refine JC.to2 [(0, .x (.int .u32 a0)), (14, .x (.flt r179.1)), (15, .x (.int .i64 r179.2)), (16, .x (.flt r182.1)), (17, .x (.int .i64 r182.2)), (18, .x (.flt r185.1)), (19, .x (.int .i64 r185.2)), (20, .x (.flt y191))] [] (by kernel_rfl) (by kernel_rfl) ?_
            refine JC.exitB ?_
            refine JC.skipT ?_
            refine JC.seq ?_
            refine JC.bind (A := fun v ex E R => ex = .normal ∧ E = [(6, .x (.bool v))] ∧ R = []) ?_ ?_
            · refine JC.region fun b197 => ?_
              refine JS.run 3 (by kernel_rfl) ?_
              refine JS.split (e := (r179.2 == (0 : Int))) 104 (by kernel_rfl) (fun h198 => ?_) (fun h198 => ?_)
              · refine JS.run 4 (by kernel_rfl) ?_
                refine JS.split (e := (r182.2 == (0 : Int))) 108 (by kernel_rfl) (fun h199 => ?_) (fun h199 => ?_)
                · refine JS.run 4 (by kernel_rfl) ?_
                  refine JS.split (e := (r185.2 == (0 : Int))) 112 (by kernel_rfl) (fun h200 => ?_) (fun h200 => ?_)
                  · refine JS.run 2 (by kernel_rfl) ?_
                    refine JS.bind fun r201 h202 => ?_
                    refine JS.callS [] (weigh_Same_ok k r179.1 r182.1 r201 h202) ⟨rfl, argX (d := (.flt r179.1)) (by kernel_rfl) (by kernel_rfl), rfl, argX (d := (.flt r182.1)) (by kernel_rfl) (by kernel_rfl), trivial⟩ (by kernel_rfl) (by kernel_rfl) (by kernel_rfl) ?_
                    refine JS.run 2 (by kernel_rfl) ?_
                    refine JS.split (e := r201) 117 (by kernel_rfl) (fun h203 => ?_) (fun h203 => ?_)
                    · refine JS.run 3 (by kernel_rfl) ?_
                      refine JS.bind fun r204 h205 => ?_
                      refine JS.callS [] (weigh_Same_ok k r185.1 (fNeg r179.1) r204 h205) ⟨rfl, argX (d := (.flt r185.1)) (by kernel_rfl) (by kernel_rfl), rfl, argX (d := (.flt (fNeg r179.1))) (by kernel_rfl) (by kernel_rfl), trivial⟩ (by kernel_rfl) (by kernel_rfl) (by kernel_rfl) ?_
                      refine JS.run 2 (by kernel_rfl) ?_
                      refine JS.split (e := r204) 123 (by kernel_rfl) (fun h206 => ?_) (fun h206 => ?_)
                      · refine JS.run 8 (by kernel_rfl) ?_
                        refine JS.nil ?_
                        refine JC.to2 [(6, .x (.bool (fOrd r179.1 (fDiv (some (FloatKind.f64.nearest a0) : Fl) y191) == some .eq)))] [] (by kernel_rfl) (by kernel_rfl) ?_
                        refine JC.to2 [(6, .x (.bool (fOrd r179.1 (fDiv (some (FloatKind.f64.nearest a0) : Fl) y191) == some .eq)))] [] (by kernel_rfl) (by kernel_rfl) ?_
                        exact JC.got (ex := .normal) rfl ⟨rfl, rfl, rfl⟩
                      · refine JS.run 8 (by kernel_rfl) ?_
                        refine JS.nil ?_
                        refine JC.to2 [(6, .x (.bool false))] [] (by kernel_rfl) (by kernel_rfl) ?_
                        refine JC.to2 [(6, .x (.bool false))] [] (by kernel_rfl) (by kernel_rfl) ?_
                        exact JC.got (ex := .normal) rfl ⟨rfl, rfl, rfl⟩
                    · refine JS.run 14 (by kernel_rfl) ?_
                      refine JS.nil ?_
                      refine JC.to2 [(6, .x (.bool false))] [] (by kernel_rfl) (by kernel_rfl) ?_
                      refine JC.to2 [(6, .x (.bool false))] [] (by kernel_rfl) (by kernel_rfl) ?_
                      exact JC.got (ex := .normal) rfl ⟨rfl, rfl, rfl⟩
                  · refine JS.run 19 (by kernel_rfl) ?_
                    refine JS.nil ?_
                    refine JC.to2 [(6, .x (.bool false))] [] (by kernel_rfl) (by kernel_rfl) ?_
                    refine JC.to2 [(6, .x (.bool false))] [] (by kernel_rfl) (by kernel_rfl) ?_
                    exact JC.got (ex := .normal) rfl ⟨rfl, rfl, rfl⟩
                · refine JS.run 23 (by kernel_rfl) ?_
                  refine JS.nil ?_
                  refine JC.to2 [(6, .x (.bool false))] [] (by kernel_rfl) (by kernel_rfl) ?_
                  refine JC.to2 [(6, .x (.bool false))] [] (by kernel_rfl) (by kernel_rfl) ?_
                  exact JC.got (ex := .normal) rfl ⟨rfl, rfl, rfl⟩
              · refine JS.run 27 (by kernel_rfl) ?_
                refine JS.nil ?_
                refine JC.to2 [(6, .x (.bool false))] [] (by kernel_rfl) (by kernel_rfl) ?_
                refine JC.to2 [(6, .x (.bool false))] [] (by kernel_rfl) (by kernel_rfl) ?_
                exact JC.got (ex := .normal) rfl ⟨rfl, rfl, rfl⟩
            · rintro y196 ex E' R' hA
              obtain ⟨rfl, rfl, rfl⟩ := hA
              refine JC.to2 [(6, .x (.bool y196))] [] (by kernel_rfl) (by kernel_rfl) ?_
              refine JC.skipT ?_
              exact JC.finB (ex := .ret) (vs := [.x (.bool y196)]) (is := []) rfl ret_ne ⟨(by kernel_rfl), trivial⟩ (Outs.sc rfl Outs.nil)
          · refine JC.skipT ?_
            refine JC.seq ?_
            refine JC.region fun b207 => ?_
            refine JS.run 1 (by kernel_rfl) ?_
            refine JS.bind fun r208 h209 => ?_
            refine JS.callS [] (weigh_Parse_ok k y171 r208 h209) ⟨rfl, argX (d := (.str y171)) (by kernel_rfl) (by kernel_rfl), trivial⟩ (by kernel_rfl) (by kernel_rfl) (by kernel_rfl) ?_
            refine JS.run 5 (by kernel_rfl) ?_
            refine JS.nil ?_
            refine JC.to2 [(0, .x (.int .u32 a0)), (9, .x (.int .i64 (Int.tmod (IntKind.i64.wrap a1) (IntKind.i64.wrap ((y11.length : Int) + (1 : Int)))))), (12, .x (.str y171)), (13, .x (.str y172)), (14, .x (.flt r208.1)), (15, .x (.int .i64 r208.2))] [] (by kernel_rfl) (by kernel_rfl) ?_
            refine JC.skipT ?_
            refine JC.seq ?_
            refine JC.region fun b210 => ?_
            refine JS.run 1 (by kernel_rfl) ?_
            refine JS.bind fun r211 h212 => ?_
            refine JS.callS [] (weigh_Parse_ok k y172 r211 h212) ⟨rfl, argX (d := (.str y172)) (by kernel_rfl) (by kernel_rfl), trivial⟩ (by kernel_rfl) (by kernel_rfl) (by kernel_rfl) ?_
            refine JS.run 5 (by kernel_rfl) ?_
            refine JS.nil ?_
            refine JC.to2 [(0, .x (.int .u32 a0)), (9, .x (.int .i64 (Int.tmod (IntKind.i64.wrap a1) (IntKind.i64.wrap ((y11.length : Int) + (1 : Int)))))), (12, .x (.str y171)), (14, .x (.flt r208.1)), (15, .x (.int .i64 r208.2)), (16, .x (.flt r211.1)), (17, .x (.int .i64 r211.2))] [] (by kernel_rfl) (by kernel_rfl) ?_
            refine JC.skipT ?_
            refine JC.seq ?_
            refine JC.region fun b213 => ?_
            refine JS.run 1 (by kernel_rfl) ?_
            refine JS.addS (t := ([45] : List UInt8)) (u := y171) (by kernel_rfl) (by kernel_rfl) (by kernel_rfl) (by kernel_rfl) ?_
            refine JS.bind fun r214 h215 => ?_
            refine JS.callS [] (weigh_Parse_ok k (([45] : List UInt8) ++ y171) r214 h215) ⟨rfl, argX (d := (.str (([45] : List UInt8) ++ y171))) (by kernel_rfl) (by kernel_rfl), trivial⟩ (by kernel_rfl) (by kernel_rfl) (by kernel_rfl) ?_
            refine JS.run 5 (by kernel_rfl) ?_
            refine JS.nil ?_
            refine JC.to2 [(0, .x (.int .u32 a0)), (9, .x (.int .i64 (Int.tmod (IntKind.i64.wrap a1) (IntKind.i64.wrap ((y11.length : Int) + (1 : Int)))))), (14, .x (.flt r208.1)), (15, .x (.int .i64 r208.2)), (16, .x (.flt r211.1)), (17, .x (.int .i64 r211.2)), (18, .x (.flt r214.1)), (19, .x (.int .i64 r214.2))] [] (by kernel_rfl) (by kernel_rfl) ?_
            refine JC.skipT ?_
            refine JC.seq ?_
            refine JC.region fun b216 => ?_
            refine JS.run 1 (by kernel_rfl) ?_
            refine JS.nil ?_
            refine JC.to2 [(0, .x (.int .u32 a0)), (9, .x (.int .i64 (Int.tmod (IntKind.i64.wrap a1) (IntKind.i64.wrap ((y11.length : Int) + (1 : Int)))))), (14, .x (.flt r208.1)), (15, .x (.int .i64 r208.2)), (16, .x (.flt r211.1)), (17, .x (.int .i64 r211.2)), (18, .x (.flt r214.1)), (19, .x (.int .i64 r214.2)), (20, .x (.flt (some 4607182418800017408 : Fl)))] [] (by kernel_rfl) (by kernel_rfl) ?_
            refine JC.skipT ?_
            refine JC.seq ?_
            refine JC.seq ?_
            refine JC.region fun b217 => ?_
            refine JS.run 1 (by kernel_rfl) ?_
            refine JS.nil ?_
            refine JC.to2 [(0, .x (.int .u32 a0)), (9, .x (.int .i64 (Int.tmod (IntKind.i64.wrap a1) (IntKind.i64.wrap ((y11.length : Int) + (1 : Int)))))), (14, .x (.flt r208.1)), (15, .x (.int .i64 r208.2)), (16, .x (.flt r211.1)), (17, .x (.int .i64 r211.2)), (18, .x (.flt r214.1)), (19, .x (.int .i64 r214.2)), (20, .x (.flt (some 4607182418800017408 : Fl))), (21, .x (.int .i64 (0 : Int)))] [] (by kernel_rfl) (by kernel_rfl) ?_
            refine JC.skipT ?_
            refine JC.block ?_
            refine JC.to2 [(0, .x (.int .u32 a0)), (9, .x (.int .i64 (Int.tmod (IntKind.i64.wrap a1) (IntKind.i64.wrap ((y11.length : Int) + (1 : Int)))))), (14, .x (.flt r208.1)), (15, .x (.int .i64 r208.2)), (16, .x (.flt r211.1)), (17, .x (.int .i64 r211.2)), (18, .x (.flt r214.1)), (19, .x (.int .i64 r214.2)), (20, .x (.flt (some 4607182418800017408 : Fl))), (21, .x (.int .i64 (0 : Int)))] [] (by kernel_rfl) (by kernel_rfl) ?_
            refine JC.to2 [(0, .x (.int .u32 a0)), (9, .x (.int .i64 (Int.tmod (IntKind.i64.wrap a1) (IntKind.i64.wrap ((y11.length : Int) + (1 : Int)))))), (14, .x (.flt r208.1)), (15, .x (.int .i64 r208.2)), (16, .x (.flt r211.1)), (17, .x (.int .i64 r211.2)), (18, .x (.flt r214.1)), (19, .x (.int .i64 r214.2)), (20, .x (.flt (some 4607182418800017408 : Fl))), (21, .x (.int .i64 (0 : Int)))] [] (by kernel_rfl) (by kernel_rfl) ?_
            refine JC.bind (A := fun v ex E R => ex = (.exit 2) ∧ E = [(0, .x (.int .u32 a0)), (14, .x (.flt r208.1)), (15, .x (.int .i64 r208.2)), (16, .x (.flt r211.1)), (17, .x (.int .i64 r211.2)), (18, .x (.flt r214.1)), (19, .x (.int .i64 r214.2)), (20, .x (.flt v))] ∧ R = []) (eyotlaw1_WeighDigits_l6_ok a0 a1 y11 r208 r211 r214 k (some 4607182418800017408 : Fl) (0 : Int)) ?_
            rintro y220 ex E' R' hA
            obtain ⟨rfl, rfl, rfl⟩ := hA
            refine JC.to2 [(0, .x (.int .u32 a0)), (14, .x (.flt r208.1)), (15, .x (.int .i64 r208.2)), (16, .x (.flt r211.1)), (17, .x (.int .i64 r211.2)), (18, .x (.flt r214.1)), (19, .x (.int .i64 r214.2)), (20, .x (.flt y220))] [] (by kernel_rfl) (by kernel_rfl) ?_
            refine JC.exitB ?_
            refine JC.skipT ?_
            refine JC.seq ?_
            refine JC.bind (A := fun v ex E R => ex = .normal ∧ E = [(6, .x (.bool v))] ∧ R = []) ?_ ?_
            · refine JC.region fun b226 => ?_
              refine JS.run 3 (by kernel_rfl) ?_
              refine JS.split (e := (r208.2 == (0 : Int))) 104 (by kernel_rfl) (fun h227 => ?_) (fun h227 => ?_)
              · refine JS.run 4 (by kernel_rfl) ?_
                refine JS.split (e := (r211.2 == (0 : Int))) 108 (by kernel_rfl) (fun h228 => ?_) (fun h228 => ?_)
                · refine JS.run 4 (by kernel_rfl) ?_
                  refine JS.split (e := (r214.2 == (0 : Int))) 112 (by kernel_rfl) (fun h229 => ?_) (fun h229 => ?_)
                  · refine JS.run 2 (by kernel_rfl) ?_
                    refine JS.bind fun r230 h231 => ?_
                    refine JS.callS [] (weigh_Same_ok k r208.1 r211.1 r230 h231) ⟨rfl, argX (d := (.flt r208.1)) (by kernel_rfl) (by kernel_rfl), rfl, argX (d := (.flt r211.1)) (by kernel_rfl) (by kernel_rfl), trivial⟩ (by kernel_rfl) (by kernel_rfl) (by kernel_rfl) ?_
                    refine JS.run 2 (by kernel_rfl) ?_
                    refine JS.split (e := r230) 117 (by kernel_rfl) (fun h232 => ?_) (fun h232 => ?_)
                    · refine JS.run 3 (by kernel_rfl) ?_
                      refine JS.bind fun r233 h234 => ?_
                      refine JS.callS [] (weigh_Same_ok k r214.1 (fNeg r208.1) r233 h234) ⟨rfl, argX (d := (.flt r214.1)) (by kernel_rfl) (by kernel_rfl), rfl, argX (d := (.flt (fNeg r208.1))) (by kernel_rfl) (by kernel_rfl), trivial⟩ (by kernel_rfl) (by kernel_rfl) (by kernel_rfl) ?_
                      refine JS.run 2 (by kernel_rfl) ?_
                      refine JS.split (e := r233) 123 (by kernel_rfl) (fun h235 => ?_) (fun h235 => ?_)
                      · refine JS.run 8 (by kernel_rfl) ?_
                        refine JS.nil ?_
                        refine JC.to2 [(6, .x (.bool (fOrd r208.1 (fDiv (some (FloatKind.f64.nearest a0) : Fl) y220) == some .eq)))] [] (by kernel_rfl) (by kernel_rfl) ?_
                        refine JC.to2 [(6, .x (.bool (fOrd r208.1 (fDiv (some (FloatKind.f64.nearest a0) : Fl) y220) == some .eq)))] [] (by kernel_rfl) (by kernel_rfl) ?_
                        exact JC.got (ex := .normal) rfl ⟨rfl, rfl, rfl⟩
                      · refine JS.run 8 (by kernel_rfl) ?_
                        refine JS.nil ?_
                        refine JC.to2 [(6, .x (.bool false))] [] (by kernel_rfl) (by kernel_rfl) ?_
                        refine JC.to2 [(6, .x (.bool false))] [] (by kernel_rfl) (by kernel_rfl) ?_
                        exact JC.got (ex := .normal) rfl ⟨rfl, rfl, rfl⟩
                    · refine JS.run 14 (by kernel_rfl) ?_
                      refine JS.nil ?_
                      refine JC.to2 [(6, .x (.bool false))] [] (by kernel_rfl) (by kernel_rfl) ?_
                      refine JC.to2 [(6, .x (.bool false))] [] (by kernel_rfl) (by kernel_rfl) ?_
                      exact JC.got (ex := .normal) rfl ⟨rfl, rfl, rfl⟩
                  · refine JS.run 19 (by kernel_rfl) ?_
                    refine JS.nil ?_
                    refine JC.to2 [(6, .x (.bool false))] [] (by kernel_rfl) (by kernel_rfl) ?_
                    refine JC.to2 [(6, .x (.bool false))] [] (by kernel_rfl) (by kernel_rfl) ?_
                    exact JC.got (ex := .normal) rfl ⟨rfl, rfl, rfl⟩
                · refine JS.run 23 (by kernel_rfl) ?_
                  refine JS.nil ?_
                  refine JC.to2 [(6, .x (.bool false))] [] (by kernel_rfl) (by kernel_rfl) ?_
                  refine JC.to2 [(6, .x (.bool false))] [] (by kernel_rfl) (by kernel_rfl) ?_
                  exact JC.got (ex := .normal) rfl ⟨rfl, rfl, rfl⟩
              · refine JS.run 27 (by kernel_rfl) ?_
                refine JS.nil ?_
                refine JC.to2 [(6, .x (.bool false))] [] (by kernel_rfl) (by kernel_rfl) ?_
                refine JC.to2 [(6, .x (.bool false))] [] (by kernel_rfl) (by kernel_rfl) ?_
                exact JC.got (ex := .normal) rfl ⟨rfl, rfl, rfl⟩
            · rintro y225 ex E' R' hA
              obtain ⟨rfl, rfl, rfl⟩ := hA
              refine JC.to2 [(6, .x (.bool y225))] [] (by kernel_rfl) (by kernel_rfl) ?_
              refine JC.skipT ?_
              exact JC.finB (ex := .ret) (vs := [.x (.bool y225)]) (is := []) rfl ret_ne ⟨(by kernel_rfl), trivial⟩ (Outs.sc rfl Outs.nil)
      · refine JC.skipT ?_
        refine JC.seq ?_
        refine JC.region fun b236 => ?_
        refine JS.run 1 (by kernel_rfl) ?_
        refine JS.addS (t := ([48] : List UInt8)) (u := (sl y11 p21)) (by kernel_rfl) (by kernel_rfl) (by kernel_rfl) (by kernel_rfl) ?_
        refine JS.run 1 (by kernel_rfl) ?_
        refine JS.nil ?_
        refine JC.to2 [(0, .x (.int .u32 a0)), (2, .x (.int .u8 a2)), (9, .x (.int .i64 (Int.tmod (IntKind.i64.wrap a1) (IntKind.i64.wrap ((y11.length : Int) + (1 : Int)))))), (11, .x (.str (sl y11 p164))), (12, .x (.str (sl y11 p21))), (13, .x (.str (([48] : List UInt8) ++ (sl y11 p21))))] [] (by kernel_rfl) (by kernel_rfl) ?_
        refine JC.skipT ?_
        refine JC.seq ?_
        refine JC.seq ?_
        refine JC.bind (A := fun v ex E R => ex = .normal ∧ E = [(0, .x (.int .u32 a0)), (9, .x (.int .i64 (Int.tmod (IntKind.i64.wrap a1) (IntKind.i64.wrap ((y11.length : Int) + (1 : Int)))))), (12, .x (.str v.1)), (13, .x (.str v.2.1)), (76, .x (.bool v.2.2))] ∧ R = []) ?_ ?_
        · refine JC.region fun b240 => ?_
          refine JS.run 3 (by kernel_rfl) ?_
          refine JS.split (e := (!((sl y11 p164) == ([] : List UInt8)))) 72 (by kernel_rfl) (fun h241 => ?_) (fun h241 => ?_)
          · refine JS.run 4 (by kernel_rfl) ?_
            refine JS.nil ?_
            refine JC.to2 [(0, .x (.int .u32 a0)), (9, .x (.int .i64 (Int.tmod (IntKind.i64.wrap a1) (IntKind.i64.wrap ((y11.length : Int) + (1 : Int)))))), (12, .x (.str (sl y11 p21))), (13, .x (.str (([48] : List UInt8) ++ (sl y11 p21)))), (76, .x (.bool ((Int.tmod a2 (2 : Int)) == (1 : Int))))] [] (by kernel_rfl) (by kernel_rfl) ?_
            refine JC.to2 [(0, .x (.int .u32 a0)), (9, .x (.int .i64 (Int.tmod (IntKind.i64.wrap a1) (IntKind.i64.wrap ((y11.length : Int) + (1 : Int)))))), (12, .x (.str (sl y11 p21))), (13, .x (.str (([48] : List UInt8) ++ (sl y11 p21)))), (76, .x (.bool ((Int.tmod a2 (2 : Int)) == (1 : Int))))] [] (by kernel_rfl) (by kernel_rfl) ?_
            exact JC.got (ex := .normal) rfl ⟨rfl, rfl, rfl⟩
          · refine JS.run 4 (by kernel_rfl) ?_
            refine JS.nil ?_
            refine JC.to2 [(0, .x (.int .u32 a0)), (9, .x (.int .i64 (Int.tmod (IntKind.i64.wrap a1) (IntKind.i64.wrap ((y11.length : Int) + (1 : Int)))))), (12, .x (.str (sl y11 p21))), (13, .x (.str (([48] : List UInt8) ++ (sl y11 p21)))), (76, .x (.bool false))] [] (by kernel_rfl) (by kernel_rfl) ?_
            refine JC.to2 [(0, .x (.int .u32 a0)), (9, .x (.int .i64 (Int.tmod (IntKind.i64.wrap a1) (IntKind.i64.wrap ((y11.length : Int) + (1 : Int)))))), (12, .x (.str (sl y11 p21))), (13, .x (.str (([48] : List UInt8) ++ (sl y11 p21)))), (76, .x (.bool false))] [] (by kernel_rfl) (by kernel_rfl) ?_
            exact JC.got (ex := .normal) rfl ⟨rfl, rfl, rfl⟩
        · rintro ⟨y237, y238, y239⟩ ex E' R' hA
          obtain ⟨rfl, rfl, rfl⟩ := hA
          refine JC.to2 [(0, .x (.int .u32 a0)), (9, .x (.int .i64 (Int.tmod (IntKind.i64.wrap a1) (IntKind.i64.wrap ((y11.length : Int) + (1 : Int)))))), (12, .x (.str y237)), (13, .x (.str y238)), (76, .x (.bool y239))] [] (by kernel_rfl) (by kernel_rfl) ?_
          refine JC.skipT ?_
          refine JC.cond (e := y239) (by kernel_rfl) (fun h242 => ?_) (fun h242 => ?_)
          · refine JC.region fun b243 => ?_
            refine JS.run 1 (by kernel_rfl) ?_
            refine JS.addS (t := y238) (u := ([48] : List UInt8)) (by kernel_rfl) (by kernel_rfl) (by kernel_rfl) (by kernel_rfl) ?_
            refine JS.run 1 (by kernel_rfl) ?_
            refine JS.nil ?_
            refine JC.to2 [(0, .x (.int .u32 a0)), (9, .x (.int .i64 (Int.tmod (IntKind.i64.wrap a1) (IntKind.i64.wrap ((y11.length : Int) + (1 : Int)))))), (12, .x (.str y237)), (13, .x (.str (y238 ++ ([48] : List UInt8))))] [] (by kernel_rfl) (by kernel_rfl) ?_
            refine JC.skipT ?_
            refine JC.seq ?_
            refine JC.region fun b244 => ?_
            refine JS.run 1 (by kernel_rfl) ?_
            refine JS.bind fun r245 h246 => ?_
            refine JS.callS [] (weigh_Parse_ok k y237 r245 h246) ⟨rfl, argX (d := (.str y237)) (by kernel_rfl) (by kernel_rfl), trivial⟩ (by kernel_rfl) (by kernel_rfl) (by kernel_rfl) ?_
            refine JS.run 5 (by kernel_rfl) ?_
            refine JS.nil ?_
            refine JC.to2 [(0, .x (.int .u32 a0)), (9, .x (.int .i64 (Int.tmod (IntKind.i64.wrap a1) (IntKind.i64.wrap ((y11.length : Int) + (1 : Int)))))), (12, .x (.str y237)), (13, .x (.str (y238 ++ ([48] : List UInt8)))), (14, .x (.flt r245.1)), (15, .x (.int .i64 r245.2))] [] (by kernel_rfl) (by kernel_rfl) ?_
            refine JC.skipT ?_
            refine JC.seq ?_
            refine JC.region fun b247 => ?_
            refine JS.run 1 (by kernel_rfl) ?_
            refine JS.bind fun r248 h249 => ?_
            refine JS.callS [] (weigh_Parse_ok k (y238 ++ ([48] : List UInt8)) r248 h249) ⟨rfl, argX (d := (.str (y238 ++ ([48] : List UInt8)))) (by kernel_rfl) (by kernel_rfl), trivial⟩ (by kernel_rfl) (by kernel_rfl) (by kernel_rfl) ?_
            refine JS.run 5 (by kernel_rfl) ?_
            refine JS.nil ?_
            refine JC.to2 [(0, .x (.int .u32 a0)), (9, .x (.int .i64 (Int.tmod (IntKind.i64.wrap a1) (IntKind.i64.wrap ((y11.length : Int) + (1 : Int)))))), (12, .x (.str y237)), (14, .x (.flt r245.1)), (15, .x (.int .i64 r245.2)), (16, .x (.flt r248.1)), (17, .x (.int .i64 r248.2))] [] (by kernel_rfl) (by kernel_rfl) ?_
            refine JC.skipT ?_
            refine JC.seq ?_
            refine JC.region fun b250 => ?_
            refine JS.run 1 (by kernel_rfl) ?_
            refine JS.addS (t := ([45] : List UInt8)) (u := y237) (by kernel_rfl) (by kernel_rfl) (by kernel_rfl) (by kernel_rfl) ?_
            refine JS.bind fun r251 h252 => ?_
            refine JS.callS [] (weigh_Parse_ok k (([45] : List UInt8) ++ y237) r251 h252) ⟨rfl, argX (d := (.str (([45] : List UInt8) ++ y237))) (by kernel_rfl) (by kernel_rfl), trivial⟩ (by kernel_rfl) (by kernel_rfl) (by kernel_rfl) ?_
            refine JS.run 5 (by kernel_rfl) ?_
            refine JS.nil ?_
            refine JC.to2 [(0, .x (.int .u32 a0)), (9, .x (.int .i64 (Int.tmod (IntKind.i64.wrap a1) (IntKind.i64.wrap ((y11.length : Int) + (1 : Int)))))), (14, .x (.flt r245.1)), (15, .x (.int .i64 r245.2)), (16, .x (.flt r248.1)), (17, .x (.int .i64 r248.2)), (18, .x (.flt r251.1)), (19, .x (.int .i64 r251.2))] [] (by kernel_rfl) (by kernel_rfl) ?_
            refine JC.skipT ?_
            refine JC.seq ?_
            refine JC.region fun b253 => ?_
            refine JS.run 1 (by kernel_rfl) ?_
            refine JS.nil ?_
            refine JC.to2 [(0, .x (.int .u32 a0)), (9, .x (.int .i64 (Int.tmod (IntKind.i64.wrap a1) (IntKind.i64.wrap ((y11.length : Int) + (1 : Int)))))), (14, .x (.flt r245.1)), (15, .x (.int .i64 r245.2)), (16, .x (.flt r248.1)), (17, .x (.int .i64 r248.2)), (18, .x (.flt r251.1)), (19, .x (.int .i64 r251.2)), (20, .x (.flt (some 4607182418800017408 : Fl)))] [] (by kernel_rfl) (by kernel_rfl) ?_
            refine JC.skipT ?_
            refine JC.seq ?_
            refine JC.seq ?_
            refine JC.region fun b254 => ?_
            refine JS.run 1 (by kernel_rfl) ?_
            refine JS.nil ?_
            refine JC.to2 [(0, .x (.int .u32 a0)), (9, .x (.int .i64 (Int.tmod (IntKind.i64.wrap a1) (IntKind.i64.wrap ((y11.length : Int) + (1 : Int)))))), (14, .x (.flt r245.1)), (15, .x (.int .i64 r245.2)), (16, .x (.flt r248.1)), (17, .x (.int .i64 r248.2)), (18, .x (.flt r251.1)), (19, .x (.int .i64 r251.2)), (20, .x (.flt (some 4607182418800017408 : Fl))), (21, .x (.int .i64 (0 : Int)))] [] (by kernel_rfl) (by kernel_rfl) ?_
            refine JC.skipT ?_
            refine JC.block ?_
            refine JC.to2 [(0, .x (.int .u32 a0)), (9, .x (.int .i64 (Int.tmod (IntKind.i64.wrap a1) (IntKind.i64.wrap ((y11.length : Int) + (1 : Int)))))), (14, .x (.flt r245.1)), (15, .x (.int .i64 r245.2)), (16, .x (.flt r248.1)), (17, .x (.int .i64 r248.2)), (18, .x (.flt r251.1)), (19, .x (.int .i64 r251.2)), (20, .x (.flt (some 4607182418800017408 : Fl))), (21, .x (.int .i64 (0 : Int)))] [] (by kernel_rfl) (by kernel_rfl) ?_
            refine JC.to2 [(0, .x (.int .u32 a0)), (9, .x (.int .i64 (Int.tmod (IntKind.i64.wrap a1) (IntKind.i64.wrap ((y11.length : Int) + (1 : Int)))))), (14, .x (.flt r245.1)), (15, .x (.int .i64 r245.2)), (16, .x (.flt r248.1)), (17, .x (.int .i64 r248.2)), (18, .x (.flt r251.1)), (19, .x (.int .i64 r251.2)), (20, .x (.flt (some 4607182418800017408 : Fl))), (21, .x (.int .i64 (0 : Int)))] [] (by kernel_rfl) (by kernel_rfl) ?_
            refine JC.bind (A := fun v ex E R => ex = (.exit 2) ∧ E = [(0, .x (.int .u32 a0)), (14, .x (.flt r245.1)), (15, .x (.int .i64 r245.2)), (16, .x (.flt r248.1)), (17, .x (.int .i64 r248.2)), (18, .x (.flt r251.1)), (19, .x (.int .i64 r251.2)), (20, .x (.flt v))] ∧ R = []) (eyotlaw1_WeighDigits_l7_ok a0 a1 y11 r245 r248 r251 k (some 4607182418800017408 : Fl) (0 : Int)) ?_
            rintro y257 ex E' R' hA
            obtain ⟨rfl, rfl, rfl⟩ := hA
            refine JC.to2 [(0, .x (.int .u32 a0)), (14, .x (.flt r245.1)), (15, .x (.int .i64 r245.2)), (16, .x (.flt r248.1)), (17, .x (.int .i64 r248.2)), (18, .x (.flt r251.1)), (19, .x (.int .i64 r251.2)), (20, .x (.flt y257))] [] (by kernel_rfl) (by kernel_rfl) ?_
            refine JC.exitB ?_
            refine JC.skipT ?_
            refine JC.seq ?_
            refine JC.bind (A := fun v ex E R => ex = .normal ∧ E = [(6, .x (.bool v))] ∧ R = []) ?_ ?_
            · refine JC.region fun b263 => ?_
              refine JS.run 3 (by kernel_rfl) ?_
              refine JS.split (e := (r245.2 == (0 : Int))) 104 (by kernel_rfl) (fun h264 => ?_) (fun h264 => ?_)
              · refine JS.run 4 (by kernel_rfl) ?_
                refine JS.split (e := (r248.2 == (0 : Int))) 108 (by kernel_rfl) (fun h265 => ?_) (fun h265 => ?_)
                · refine JS.run 4 (by kernel_rfl) ?_
                  refine JS.split (e := (r251.2 == (0 : Int))) 112 (by kernel_rfl) (fun h266 => ?_) (fun h266 => ?_)
                  · refine JS.run 2 (by kernel_rfl) ?_
                    refine JS.bind fun r267 h268 => ?_
                    refine JS.callS [] (weigh_Same_ok k r245.1 r248.1 r267 h268) ⟨rfl, argX (d := (.flt r245.1)) (by kernel_rfl) (by kernel_rfl), rfl, argX (d := (.flt r248.1)) (by kernel_rfl) (by kernel_rfl), trivial⟩ (by kernel_rfl) (by kernel_rfl) (by kernel_rfl) ?_
                    refine JS.run 2 (by kernel_rfl) ?_
                    refine JS.split (e := r267) 117 (by kernel_rfl) (fun h269 => ?_) (fun h269 => ?_)
                    · refine JS.run 3 (by kernel_rfl) ?_
                      refine JS.bind fun r270 h271 => ?_
                      refine JS.callS [] (weigh_Same_ok k r251.1 (fNeg r245.1) r270 h271) ⟨rfl, argX (d := (.flt r251.1)) (by kernel_rfl) (by kernel_rfl), rfl, argX (d := (.flt (fNeg r245.1))) (by kernel_rfl) (by kernel_rfl), trivial⟩ (by kernel_rfl) (by kernel_rfl) (by kernel_rfl) ?_
                      refine JS.run 2 (by kernel_rfl) ?_
                      refine JS.split (e := r270) 123 (by kernel_rfl) (fun h272 => ?_) (fun h272 => ?_)
                      · refine JS.run 8 (by kernel_rfl) ?_
                        refine JS.nil ?_
                        refine JC.to2 [(6, .x (.bool (fOrd r245.1 (fDiv (some (FloatKind.f64.nearest a0) : Fl) y257) == some .eq)))] [] (by kernel_rfl) (by kernel_rfl) ?_
                        refine JC.to2 [(6, .x (.bool (fOrd r245.1 (fDiv (some (FloatKind.f64.nearest a0) : Fl) y257) == some .eq)))] [] (by kernel_rfl) (by kernel_rfl) ?_
                        exact JC.got (ex := .normal) rfl ⟨rfl, rfl, rfl⟩
                      · refine JS.run 8 (by kernel_rfl) ?_
                        refine JS.nil ?_
                        refine JC.to2 [(6, .x (.bool false))] [] (by kernel_rfl) (by kernel_rfl) ?_
                        refine JC.to2 [(6, .x (.bool false))] [] (by kernel_rfl) (by kernel_rfl) ?_
                        exact JC.got (ex := .normal) rfl ⟨rfl, rfl, rfl⟩
                    · refine JS.run 14 (by kernel_rfl) ?_
                      refine JS.nil ?_
                      refine JC.to2 [(6, .x (.bool false))] [] (by kernel_rfl) (by kernel_rfl) ?_
                      refine JC.to2 [(6, .x (.bool false))] [] (by kernel_rfl) (by kernel_rfl) ?_
                      exact JC.got (ex := .normal) rfl ⟨rfl, rfl, rfl⟩
                  · refine JS.run 19 (by kernel_rfl) ?_
                    refine JS.nil ?_
                    refine JC.to2 [(6, .x (.bool false))] [] (by kernel_rfl) (by kernel_rfl) ?_
                    refine JC.to2 [(6, .x (.bool false))] [] (by kernel_rfl) (by kernel_rfl) ?_
                    exact JC.got (ex := .normal) rfl ⟨rfl, rfl, rfl⟩
                · refine JS.run 23 (by kernel_rfl) ?_
                  refine JS.nil ?_
                  refine JC.to2 [(6, .x (.bool false))] [] (by kernel_rfl) (by kernel_rfl) ?_
                  refine JC.to2 [(6, .x (.bool false))] [] (by kernel_rfl) (by kernel_rfl) ?_
                  exact JC.got (ex := .normal) rfl ⟨rfl, rfl, rfl⟩
              · refine JS.run 27 (by kernel_rfl) ?_
                refine JS.nil ?_
                refine JC.to2 [(6, .x (.bool false))] [] (by kernel_rfl) (by kernel_rfl) ?_
                refine JC.to2 [(6, .x (.bool false))] [] (by kernel_rfl) (by kernel_rfl) ?_
                exact JC.got (ex := .normal) rfl ⟨rfl, rfl, rfl⟩
            · rintro y262 ex E' R' hA
              obtain ⟨rfl, rfl, rfl⟩ := hA
              refine JC.to2 [(6, .x (.bool y262))] [] (by kernel_rfl) (by kernel_rfl) ?_
              refine JC.skipT ?_
              exact JC.finB (ex := .ret) (vs := [.x (.bool y262)]) (is := []) rfl ret_ne ⟨(by kernel_rfl), trivial⟩ (Outs.sc rfl Outs.nil)
          · refine JC.skipT ?_
            refine JC.seq ?_
            refine JC.region fun b273 => ?_
            refine JS.run 1 (by kernel_rfl) ?_
            refine JS.bind fun r274 h275 => ?_
            refine JS.callS [] (weigh_Parse_ok k y237 r274 h275) ⟨rfl, argX (d := (.str y237)) (by kernel_rfl) (by kernel_rfl), trivial⟩ (by kernel_rfl) (by kernel_rfl) (by kernel_rfl) ?_
            refine JS.run 5 (by kernel_rfl) ?_
            refine JS.nil ?_
            refine JC.to2 [(0, .x (.int .u32 a0)), (9, .x (.int .i64 (Int.tmod (IntKind.i64.wrap a1) (IntKind.i64.wrap ((y11.length : Int) + (1 : Int)))))), (12, .x (.str y237)), (13, .x (.str y238)), (14, .x (.flt r274.1)), (15, .x (.int .i64 r274.2))] [] (by kernel_rfl) (by kernel_rfl) ?_
            refine JC.skipT ?_
            refine JC.seq ?_
            refine JC.region fun b276 => ?_
            refine JS.run 1 (by kernel_rfl) ?_
            refine JS.bind fun r277 h278 => ?_
            refine JS.callS [] (weigh_Parse_ok k y238 r277 h278) ⟨rfl, argX (d := (.str y238)) (by kernel_rfl) (by kernel_rfl), trivial⟩ (by kernel_rfl) (by kernel_rfl) (by kernel_rfl) ?_
            refine JS.run 5 (by kernel_rfl) ?_
            refine JS.nil ?_
            refine JC.to2 [(0, .x (.int .u32 a0)), (9, .x (.int .i64 (Int.tmod (IntKind.i64.wrap a1) (IntKind.i64.wrap ((y11.length : Int) + (1 : Int)))))), (12, .x (.str y237)), (14, .x (.flt r274.1)), (15, .x (.int .i64 r274.2)), (16, .x (.flt r277.1)), (17, .x (.int .i64 r277.2))] [] (by kernel_rfl) (by kernel_rfl) ?_
            refine JC.skipT ?_
            refine JC.seq ?_
            refine JC.region fun b279 => ?_
            refine JS.run 1 (by kernel_rfl) ?_
            refine JS.addS (t := ([45] : List UInt8)) (u := y237) (by kernel_rfl) (by kernel_rfl) (by kernel_rfl) (by kernel_rfl) ?_
            refine JS.bind fun r280 h281 => ?_
            refine JS.callS [] (weigh_Parse_ok k (([45] : List UInt8) ++ y237) r280 h281) ⟨rfl, argX (d := (.str (([45] : List UInt8) ++ y237))) (by kernel_rfl) (by kernel_rfl), trivial⟩ (by kernel_rfl) (by kernel_rfl) (by kernel_rfl) ?_
            refine JS.run 5 (by kernel_rfl) ?_
            refine JS.nil ?_
            refine JC.to2 [(0, .x (.int .u32 a0)), (9, .x (.int .i64 (Int.tmod (IntKind.i64.wrap a1) (IntKind.i64.wrap ((y11.length : Int) + (1 : Int)))))), (14, .x (.flt r274.1)), (15, .x (.int .i64 r274.2)), (16, .x (.flt r277.1)), (17, .x (.int .i64 r277.2)), (18, .x (.flt r280.1)), (19, .x (.int .i64 r280.2))] [] (by kernel_rfl) (by kernel_rfl) ?_
            refine JC.skipT ?_
            refine JC.seq ?_
            refine JC.region fun b282 => ?_
            refine JS.run 1 (by kernel_rfl) ?_
            refine JS.nil ?_
            refine JC.to2 [(0, .x (.int .u32 a0)), (9, .x (.int .i64 (Int.tmod (IntKind.i64.wrap a1) (IntKind.i64.wrap ((y11.length : Int) + (1 : Int)))))), (14, .x (.flt r274.1)), (15, .x (.int .i64 r274.2)), (16, .x (.flt r277.1)), (17, .x (.int .i64 r277.2)), (18, .x (.flt r280.1)), (19, .x (.int .i64 r280.2)), (20, .x (.flt (some 4607182418800017408 : Fl)))] [] (by kernel_rfl) (by kernel_rfl) ?_
            refine JC.skipT ?_
            refine JC.seq ?_
            refine JC.seq ?_
            refine JC.region fun b283 => ?_
            refine JS.run 1 (by kernel_rfl) ?_
            refine JS.nil ?_
            refine JC.to2 [(0, .x (.int .u32 a0)), (9, .x (.int .i64 (Int.tmod (IntKind.i64.wrap a1) (IntKind.i64.wrap ((y11.length : Int) + (1 : Int)))))), (14, .x (.flt r274.1)), (15, .x (.int .i64 r274.2)), (16, .x (.flt r277.1)), (17, .x (.int .i64 r277.2)), (18, .x (.flt r280.1)), (19, .x (.int .i64 r280.2)), (20, .x (.flt (some 4607182418800017408 : Fl))), (21, .x (.int .i64 (0 : Int)))] [] (by kernel_rfl) (by kernel_rfl) ?_
            refine JC.skipT ?_
            refine JC.block ?_
            refine JC.to2 [(0, .x (.int .u32 a0)), (9, .x (.int .i64 (Int.tmod (IntKind.i64.wrap a1) (IntKind.i64.wrap ((y11.length : Int) + (1 : Int)))))), (14, .x (.flt r274.1)), (15, .x (.int .i64 r274.2)), (16, .x (.flt r277.1)), (17, .x (.int .i64 r277.2)), (18, .x (.flt r280.1)), (19, .x (.int .i64 r280.2)), (20, .x (.flt (some 4607182418800017408 : Fl))), (21, .x (.int .i64 (0 : Int)))] [] (by kernel_rfl) (by kernel_rfl) ?_
            refine JC.to2 [(0, .x (.int .u32 a0)), (9, .x (.int .i64 (Int.tmod (IntKind.i64.wrap a1) (IntKind.i64.wrap ((y11.length : Int) + (1 : Int)))))), (14, .x (.flt r274.1)), (15, .x (.int .i64 r274.2)), (16, .x (.flt r277.1)), (17, .x (.int .i64 r277.2)), (18, .x (.flt r280.1)), (19, .x (.int .i64 r280.2)), (20, .x (.flt (some 4607182418800017408 : Fl))), (21, .x (.int .i64 (0 : Int)))] [] (by kernel_rfl) (by kernel_rfl) ?_
            refine JC.bind (A := fun v ex E R => ex = (.exit 2) ∧ E = [(0, .x (.int .u32 a0)), (14, .x (.flt r274.1)), (15, .x (.int .i64 r274.2)), (16, .x (.flt r277.1)), (17, .x (.int .i64 r277.2)), (18, .x (.flt r280.1)), (19, .x (.int .i64 r280.2)), (20, .x (.flt v))] ∧ R = []) (eyotlaw1_WeighDigits_l8_ok a0 a1 y11 r274 r277 r280 k (some 4607182418800017408 : Fl) (0 : Int)) ?_
            rintro y286 ex E' R' hA
            obtain ⟨rfl, rfl, rfl⟩ := hA
            refine JC.to2 [(0, .x (.int .u32 a0)), (14, .x (.flt r274.1)), (15, .x (.int .i64 r274.2)), (16, .x (.flt r277.1)), (17, .x (.int .i64 r277.2)), (18, .x (.flt r280.1)), (19, .x (.int .i64 r280.2)), (20, .x (.flt y286))] [] (by kernel_rfl) (by kernel_rfl) ?_
            refine JC.exitB ?_
            refine JC.skipT ?_
            refine JC.seq ?_
            refine JC.bind (A := fun v ex E R => ex = .normal ∧ E = [(6, .x (.bool v))] ∧ R = []) ?_ ?_
            · refine JC.region fun b292 => ?_
              refine JS.run 3 (by kernel_rfl) ?_
              refine JS.split (e := (r274.2 == (0 : Int))) 104 (by kernel_rfl) (fun h293 => ?_) (fun h293 => ?_)
              · refine JS.run 4 (by kernel_rfl) ?_
                refine JS.split (e := (r277.2 == (0 : Int))) 108 (by kernel_rfl) (fun h294 => ?_) (fun h294 => ?_)
                · refine JS.run 4 (by kernel_rfl) ?_
                  refine JS.split (e := (r280.2 == (0 : Int))) 112 (by kernel_rfl) (fun h295 => ?_) (fun h295 => ?_)
                  · refine JS.run 2 (by kernel_rfl) ?_
                    refine JS.bind fun r296 h297 => ?_
                    refine JS.callS [] (weigh_Same_ok k r274.1 r277.1 r296 h297) ⟨rfl, argX (d := (.flt r274.1)) (by kernel_rfl) (by kernel_rfl), rfl, argX (d := (.flt r277.1)) (by kernel_rfl) (by kernel_rfl), trivial⟩ (by kernel_rfl) (by kernel_rfl) (by kernel_rfl) ?_
                    refine JS.run 2 (by kernel_rfl) ?_
                    refine JS.split (e := r296) 117 (by kernel_rfl) (fun h298 => ?_) (fun h298 => ?_)
                    · refine JS.run 3 (by kernel_rfl) ?_
                      refine JS.bind fun r299 h300 => ?_
                      refine JS.callS [] (weigh_Same_ok k r280.1 (fNeg r274.1) r299 h300) ⟨rfl, argX (d := (.flt r280.1)) (by kernel_rfl) (by kernel_rfl), rfl, argX (d := (.flt (fNeg r274.1))) (by kernel_rfl) (by kernel_rfl), trivial⟩ (by kernel_rfl) (by kernel_rfl) (by kernel_rfl) ?_
                      refine JS.run 2 (by kernel_rfl) ?_
                      refine JS.split (e := r299) 123 (by kernel_rfl) (fun h301 => ?_) (fun h301 => ?_)
                      · refine JS.run 8 (by kernel_rfl) ?_
                        refine JS.nil ?_
                        refine JC.to2 [(6, .x (.bool (fOrd r274.1 (fDiv (some (FloatKind.f64.nearest a0) : Fl) y286) == some .eq)))] [] (by kernel_rfl) (by kernel_rfl) ?_
                        refine JC.to2 [(6, .x (.bool (fOrd r274.1 (fDiv (some (FloatKind.f64.nearest a0) : Fl) y286) == some .eq)))] [] (by kernel_rfl) (by kernel_rfl) ?_
                        exact JC.got (ex := .normal) rfl ⟨rfl, rfl, rfl⟩
                      · refine JS.run 8 (by kernel_rfl) ?_
                        refine JS.nil ?_
                        refine JC.to2 [(6, .x (.bool false))] [] (by kernel_rfl) (by kernel_rfl) ?_
                        refine JC.to2 [(6, .x (.bool false))] [] (by kernel_rfl) (by kernel_rfl) ?_
                        exact JC.got (ex := .normal) rfl ⟨rfl, rfl, rfl⟩
                    · refine JS.run 14 (by kernel_rfl) ?_
                      refine JS.nil ?_
                      refine JC.to2 [(6, .x (.bool false))] [] (by kernel_rfl) (by kernel_rfl) ?_
                      refine JC.to2 [(6, .x (.bool false))] [] (by kernel_rfl) (by kernel_rfl) ?_
                      exact JC.got (ex := .normal) rfl ⟨rfl, rfl, rfl⟩
                  · refine JS.run 19 (by kernel_rfl) ?_
                    refine JS.nil ?_
                    refine JC.to2 [(6, .x (.bool false))] [] (by kernel_rfl) (by kernel_rfl) ?_
                    refine JC.to2 [(6, .x (.bool false))] [] (by kernel_rfl) (by kernel_rfl) ?_
                    exact JC.got (ex := .normal) rfl ⟨rfl, rfl, rfl⟩
                · refine JS.run 23 (by kernel_rfl) ?_
                  refine JS.nil ?_
                  refine JC.to2 [(6, .x (.bool false))] [] (by kernel_rfl) (by kernel_rfl) ?_
                  refine JC.to2 [(6, .x (.bool false))] [] (by kernel_rfl) (by kernel_rfl) ?_
                  exact JC.got (ex := .normal) rfl ⟨rfl, rfl, rfl⟩
              · refine JS.run 27 (by kernel_rfl) ?_
                refine JS.nil ?_
                refine JC.to2 [(6, .x (.bool false))] [] (by kernel_rfl) (by kernel_rfl) ?_
                refine JC.to2 [(6, .x (.bool false))] [] (by kernel_rfl) (by kernel_rfl) ?_
                exact JC.got (ex := .normal) rfl ⟨rfl, rfl, rfl⟩
            · rintro y291 ex E' R' hA
              obtain ⟨rfl, rfl, rfl⟩ := hA
              refine JC.to2 [(6, .x (.bool y291))] [] (by kernel_rfl) (by kernel_rfl) ?_
              refine JC.skipT ?_
              exact JC.finB (ex := .ret) (vs := [.x (.bool y291)]) (is := []) rfl ret_ne ⟨(by kernel_rfl), trivial⟩ (Outs.sc rfl Outs.nil)
end Go.Pi

