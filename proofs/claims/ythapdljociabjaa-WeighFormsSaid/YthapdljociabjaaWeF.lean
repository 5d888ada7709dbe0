import Derived.Test.YthapdljociabjaaWeT
import Derived.Test.YthapdljociabjaaWeP
import Derived.KernelRfl
/-
  THE FUNCTIONS, as terms over lists.
-/
set_option linter.all false
namespace Go.Pi
set_option maxRecDepth 100000
set_option linter.unusedVariables false
set_option maxHeartbeats 2000000
/-! math.NaN -/
def math_NaN (k : Nat)  : Option Fl :=
  some (some (9221120237041090561 : Int).toNat : Fl)
theorem math_NaN_ok (k : Nat)  : ∀ r, math_NaN k = some r → CallOk prog 22 [] false [.sc (.x (.flt r))] := by
  refine CallOk.ofB (pf := pf22) (rs := [.tmp 0]) (Res := fun (r : Fl) => [.sc (.x (.flt r))]) rfl rfl rfl rfl rfl ?_
  unfold math_NaN pf22
  refine JC.seq ?_
  refine JC.region fun b1 => ?_
  refine JS.run 1 (by kernel_rfl) ?_
  refine JS.nil ?_
  refine JC.to2 [] [] (by kernel_rfl) (by kernel_rfl) ?_
  refine JC.skipT ?_
  refine JC.seq ?_
  refine JC.region fun b2 => ?_
  refine JS.run 2 (by kernel_rfl) ?_
  refine JS.nil ?_
  refine JC.to2 [(0, .x (.flt (some (9221120237041090561 : Int).toNat : Fl)))] [] (by kernel_rfl) (by kernel_rfl) ?_
  refine JC.skipT ?_
  exact JC.finB (ex := .ret) (vs := [.x (.flt (some (9221120237041090561 : Int).toNat : Fl))]) (is := []) rfl ret_ne ⟨(by kernel_rfl), trivial⟩ (Outs.sc rfl Outs.nil)
/-! math.Signbit -/
def math_Signbit (k : Nat) (a0 : Fl) : Option Bool :=
  fcase a0 (fun w3 => some (decide ((IntKind.i64.wrap ((w3 : Nat) : Int)) < (0 : Int)))) (none)
theorem math_Signbit_ok (k : Nat) (a0 : Fl) : ∀ r, math_Signbit k a0 = some r → CallOk prog 29 [.x (.flt a0)] false [.sc (.x (.bool r))] := by
  refine CallOk.ofB (pf := pf29) (rs := [.tmp 2]) (Res := fun (r : Bool) => [.sc (.x (.bool r))]) rfl rfl rfl rfl rfl ?_
  unfold math_Signbit pf29
  refine JC.seq ?_
  refine JC.region fun b1 => ?_
  refine JS.run 1 (by kernel_rfl) ?_
  refine JS.nil ?_
  refine JC.to2 [(0, .x (.flt a0))] [] (by kernel_rfl) (by kernel_rfl) ?_
  refine JC.skipT ?_
  refine JC.seq ?_
  refine JC.region fun b2 => ?_
  refine JS.run 1 (by kernel_rfl) ?_
  refine JS.bits (e := a0) (by kernel_rfl) (by kernel_rfl) (by kernel_rfl) (fun w3 h4 => ?_) (fun h4 => ?_)
  · refine JS.run 3 (by kernel_rfl) ?_
    refine JS.nil ?_
    refine JC.to2 [(2, .x (.bool (decide ((IntKind.i64.wrap ((w3 : Nat) : Int)) < (0 : Int)))))] [] (by kernel_rfl) (by kernel_rfl) ?_
    refine JC.skipT ?_
    exact JC.finB (ex := .ret) (vs := [.x (.bool (decide ((IntKind.i64.wrap ((w3 : Nat) : Int)) < (0 : Int))))]) (is := []) rfl ret_ne ⟨(by kernel_rfl), trivial⟩ (Outs.sc rfl Outs.nil)
  · exact JS.no
/-! math.Abs -/
def math_Abs (k : Nat) (a0 : Fl) : Option Fl :=
  fcase a0 (fun w3 => some (some (iandn .u64 ((w3 : Nat) : Int) (9223372036854775808 : Int)).toNat : Fl)) (none)
theorem math_Abs_ok (k : Nat) (a0 : Fl) : ∀ r, math_Abs k a0 = some r → CallOk prog 34 [.x (.flt a0)] false [.sc (.x (.flt r))] := by
  refine CallOk.ofB (pf := pf34) (rs := [.tmp 2]) (Res := fun (r : Fl) => [.sc (.x (.flt r))]) rfl rfl rfl rfl rfl ?_
  unfold math_Abs pf34
  refine JC.seq ?_
  refine JC.region fun b1 => ?_
  refine JS.run 1 (by kernel_rfl) ?_
  refine JS.nil ?_
  refine JC.to2 [(0, .x (.flt a0))] [] (by kernel_rfl) (by kernel_rfl) ?_
  refine JC.skipT ?_
  refine JC.seq ?_
  refine JC.region fun b2 => ?_
  refine JS.run 1 (by kernel_rfl) ?_
  refine JS.bits (e := a0) (by kernel_rfl) (by kernel_rfl) (by kernel_rfl) (fun w3 h4 => ?_) (fun h4 => ?_)
  · refine JS.run 3 (by kernel_rfl) ?_
    refine JS.nil ?_
    refine JC.to2 [(2, .x (.flt (some (iandn .u64 ((w3 : Nat) : Int) (9223372036854775808 : Int)).toNat : Fl)))] [] (by kernel_rfl) (by kernel_rfl) ?_
    refine JC.skipT ?_
    exact JC.finB (ex := .ret) (vs := [.x (.flt (some (iandn .u64 ((w3 : Nat) : Int) (9223372036854775808 : Int)).toNat : Fl))]) (is := []) rfl ret_ne ⟨(by kernel_rfl), trivial⟩ (Outs.sc rfl Outs.nil)
  · exact JS.no
/-! math.IsInf -/
def math_IsInf (k : Nat) (a0 : Fl) (a1 : Int) : Option Bool :=
  cond (a1 == (0 : Int)) ((math_Abs k a0).bind fun r5 => some (fOrd r5 (some 9218868437227405311 : Fl) == some .gt)) (cond (decide (a1 < (0 : Int))) (some (fOrd (fNeg a0) (some 9218868437227405311 : Fl) == some .gt)) (some (fOrd a0 (some 9218868437227405311 : Fl) == some .gt)))
theorem math_IsInf_ok (k : Nat) (a0 : Fl) (a1 : Int) : ∀ r, math_IsInf k a0 a1 = some r → CallOk prog 31 [.x (.flt a0), .x (.int .i64 a1)] false [.sc (.x (.bool r))] := by
  refine CallOk.ofB (pf := pf31) (rs := [.tmp 4]) (Res := fun (r : Bool) => [.sc (.x (.bool r))]) rfl rfl rfl rfl rfl ?_
  unfold math_IsInf pf31
  refine JC.seq ?_
  refine JC.region fun b1 => ?_
  refine JS.run 1 (by kernel_rfl) ?_
  refine JS.nil ?_
  refine JC.to2 [(0, .x (.flt a0)), (1, .x (.int .i64 a1))] [] (by kernel_rfl) (by kernel_rfl) ?_
  refine JC.skipT ?_
  refine JC.seq ?_
  refine JC.seq ?_
  refine JC.region fun b2 => ?_
  refine JS.run 2 (by kernel_rfl) ?_
  refine JS.nil ?_
  refine JC.to2 [(0, .x (.flt a0)), (1, .x (.int .i64 a1)), (6, .x (.bool (a1 == (0 : Int))))] [] (by kernel_rfl) (by kernel_rfl) ?_
  refine JC.skipT ?_
  refine JC.cond (e := (a1 == (0 : Int))) (by kernel_rfl) (fun h3 => ?_) (fun h3 => ?_)
  · refine JC.region fun b4 => ?_
    refine JS.run 1 (by kernel_rfl) ?_
    refine JS.bind fun r5 h6 => ?_
    refine JS.callS [] (math_Abs_ok k a0 r5 h6) ⟨rfl, argX (d := (.flt a0)) (by kernel_rfl) (by kernel_rfl), trivial⟩ (by kernel_rfl) (by kernel_rfl) (by kernel_rfl) ?_
    refine JS.run 1 (by kernel_rfl) ?_
    refine JS.nil ?_
    refine JC.to2 [(0, .x (.flt r5))] [] (by kernel_rfl) (by kernel_rfl) ?_
    refine JC.skipT ?_
    refine JC.seq ?_
    refine JC.region fun b7 => ?_
    refine JS.run 3 (by kernel_rfl) ?_
    refine JS.nil ?_
    refine JC.to2 [(4, .x (.bool (fOrd r5 (some 9218868437227405311 : Fl) == some .gt)))] [] (by kernel_rfl) (by kernel_rfl) ?_
    refine JC.skipT ?_
    exact JC.finB (ex := .ret) (vs := [.x (.bool (fOrd r5 (some 9218868437227405311 : Fl) == some .gt))]) (is := []) rfl ret_ne ⟨(by kernel_rfl), trivial⟩ (Outs.sc rfl Outs.nil)
  · refine JC.seq ?_
    refine JC.region fun b8 => ?_
    refine JS.run 2 (by kernel_rfl) ?_
    refine JS.nil ?_
    refine JC.to2 [(0, .x (.flt a0)), (10, .x (.bool (decide (a1 < (0 : Int)))))] [] (by kernel_rfl) (by kernel_rfl) ?_
    refine JC.skipT ?_
    refine JC.cond (e := (decide (a1 < (0 : Int)))) (by kernel_rfl) (fun h9 => ?_) (fun h9 => ?_)
    · refine JC.region fun b10 => ?_
      refine JS.run 3 (by kernel_rfl) ?_
      refine JS.nil ?_
      refine JC.to2 [(0, .x (.flt (fNeg a0)))] [] (by kernel_rfl) (by kernel_rfl) ?_
      refine JC.skipT ?_
      refine JC.seq ?_
      refine JC.region fun b11 => ?_
      refine JS.run 3 (by kernel_rfl) ?_
      refine JS.nil ?_
      refine JC.to2 [(4, .x (.bool (fOrd (fNeg a0) (some 9218868437227405311 : Fl) == some .gt)))] [] (by kernel_rfl) (by kernel_rfl) ?_
      refine JC.skipT ?_
      exact JC.finB (ex := .ret) (vs := [.x (.bool (fOrd (fNeg a0) (some 9218868437227405311 : Fl) == some .gt))]) (is := []) rfl ret_ne ⟨(by kernel_rfl), trivial⟩ (Outs.sc rfl Outs.nil)
    · refine JC.skipT ?_
      refine JC.seq ?_
      refine JC.region fun b12 => ?_
      refine JS.run 3 (by kernel_rfl) ?_
      refine JS.nil ?_
      refine JC.to2 [(4, .x (.bool (fOrd a0 (some 9218868437227405311 : Fl) == some .gt)))] [] (by kernel_rfl) (by kernel_rfl) ?_
      refine JC.skipT ?_
      exact JC.finB (ex := .ret) (vs := [.x (.bool (fOrd a0 (some 9218868437227405311 : Fl) == some .gt))]) (is := []) rfl ret_ne ⟨(by kernel_rfl), trivial⟩ (Outs.sc rfl Outs.nil)
/-! cmp.isNaN[uint64] -/
def cmp_isNaN (k : Nat) (a0 : Int) : Option Bool :=
  some (a0 != a0)
theorem cmp_isNaN_ok (k : Nat) (a0 : Int) : ∀ r, cmp_isNaN k a0 = some r → CallOk prog 33 [.x (.int .u64 a0)] false [.sc (.x (.bool r))] := by
  refine CallOk.ofB (pf := pf33) (rs := [.tmp 2]) (Res := fun (r : Bool) => [.sc (.x (.bool r))]) rfl rfl rfl rfl rfl ?_
  unfold cmp_isNaN pf33
  refine JC.seq ?_
  refine JC.region fun b1 => ?_
  refine JS.run 1 (by kernel_rfl) ?_
  refine JS.nil ?_
  refine JC.to2 [(0, .x (.int .u64 a0))] [] (by kernel_rfl) (by kernel_rfl) ?_
  refine JC.skipT ?_
  refine JC.seq ?_
  refine JC.region fun b2 => ?_
  refine JS.run 4 (by kernel_rfl) ?_
  refine JS.nil ?_
  refine JC.to2 [(2, .x (.bool (a0 != a0)))] [] (by kernel_rfl) (by kernel_rfl) ?_
  refine JC.skipT ?_
  exact JC.finB (ex := .ret) (vs := [.x (.bool (a0 != a0))]) (is := []) rfl ret_ne ⟨(by kernel_rfl), trivial⟩ (Outs.sc rfl Outs.nil)
/-! cmp.Compare[uint64] -/
def cmp_Compare (k : Nat) (a0 : Int) (a1 : Int) : Option Int :=
  (cmp_isNaN k a0).bind fun r3 => (cmp_isNaN k a1).bind fun r6 => cond r3 (cond r6 (some (0 : Int)) (some (-1 : Int))) (cond r6 (some (1 : Int)) (cond (decide (a0 < a1)) (some (-1 : Int)) (cond (decide (a0 > a1)) (some (1 : Int)) (some (0 : Int)))))
theorem cmp_Compare_ok (k : Nat) (a0 : Int) (a1 : Int) : ∀ r, cmp_Compare k a0 a1 = some r → CallOk prog 28 [.x (.int .u64 a0), .x (.int .u64 a1)] false [.sc (.x (.int .i64 r))] := by
  refine CallOk.ofB (pf := pf28) (rs := [.tmp 4]) (Res := fun (r : Int) => [.sc (.x (.int .i64 r))]) rfl rfl rfl rfl rfl ?_
  unfold cmp_Compare pf28
  refine JC.seq ?_
  refine JC.region fun b1 => ?_
  refine JS.run 1 (by kernel_rfl) ?_
  refine JS.nil ?_
  refine JC.to2 [(0, .x (.int .u64 a0)), (1, .x (.int .u64 a1))] [] (by kernel_rfl) (by kernel_rfl) ?_
  refine JC.skipT ?_
  refine JC.seq ?_
  refine JC.region fun b2 => ?_
  refine JS.run 1 (by kernel_rfl) ?_
  refine JS.bind fun r3 h4 => ?_
  refine JS.callS [] (cmp_isNaN_ok k a0 r3 h4) ⟨rfl, argX (d := (.int .u64 a0)) (by kernel_rfl) (by kernel_rfl), trivial⟩ (by kernel_rfl) (by kernel_rfl) (by kernel_rfl) ?_
  refine JS.run 1 (by kernel_rfl) ?_
  refine JS.nil ?_
  refine JC.to2 [(0, .x (.int .u64 a0)), (1, .x (.int .u64 a1)), (5, .x (.bool r3))] [] (by kernel_rfl) (by kernel_rfl) ?_
  refine JC.skipT ?_
  refine JC.seq ?_
  refine JC.region fun b5 => ?_
  refine JS.run 1 (by kernel_rfl) ?_
  refine JS.bind fun r6 h7 => ?_
  refine JS.callS [] (cmp_isNaN_ok k a1 r6 h7) ⟨rfl, argX (d := (.int .u64 a1)) (by kernel_rfl) (by kernel_rfl), trivial⟩ (by kernel_rfl) (by kernel_rfl) (by kernel_rfl) ?_
  refine JS.run 1 (by kernel_rfl) ?_
  refine JS.nil ?_
  refine JC.to2 [(0, .x (.int .u64 a0)), (1, .x (.int .u64 a1)), (5, .x (.bool r3)), (6, .x (.bool r6))] [] (by kernel_rfl) (by kernel_rfl) ?_
  refine JC.skipT ?_
  refine JC.seq ?_
  refine JC.seq ?_
  refine JC.region fun b8 => ?_
  refine JS.run 1 (by kernel_rfl) ?_
  refine JS.nil ?_
  refine JC.to2 [(0, .x (.int .u64 a0)), (1, .x (.int .u64 a1)), (6, .x (.bool r6)), (11, .x (.bool r3))] [] (by kernel_rfl) (by kernel_rfl) ?_
  refine JC.skipT ?_
  refine JC.cond (e := r3) (by kernel_rfl) (fun h9 => ?_) (fun h9 => ?_)
  · refine JC.seq ?_
    refine JC.seq ?_
    refine JC.region fun b10 => ?_
    refine JS.run 1 (by kernel_rfl) ?_
    refine JS.nil ?_
    refine JC.to2 [(12, .x (.bool r6))] [] (by kernel_rfl) (by kernel_rfl) ?_
    refine JC.skipT ?_
    refine JC.cond (e := r6) (by kernel_rfl) (fun h11 => ?_) (fun h11 => ?_)
    · refine JC.seq ?_
      refine JC.region fun b12 => ?_
      refine JS.run 1 (by kernel_rfl) ?_
      refine JS.nil ?_
      refine JC.to2 [(4, .x (.int .i64 (0 : Int)))] [] (by kernel_rfl) (by kernel_rfl) ?_
      refine JC.skipT ?_
      refine JC.retT ?_
      refine JC.retT ?_
      exact JC.finB (ex := .ret) (vs := [.x (.int .i64 (0 : Int))]) (is := []) rfl ret_ne ⟨(by kernel_rfl), trivial⟩ (Outs.sc rfl Outs.nil)
    · refine JC.skipT ?_
      refine JC.seq ?_
      refine JC.region fun b13 => ?_
      refine JS.run 1 (by kernel_rfl) ?_
      refine JS.nil ?_
      refine JC.to2 [(4, .x (.int .i64 (-1 : Int)))] [] (by kernel_rfl) (by kernel_rfl) ?_
      refine JC.skipT ?_
      refine JC.retT ?_
      exact JC.finB (ex := .ret) (vs := [.x (.int .i64 (-1 : Int))]) (is := []) rfl ret_ne ⟨(by kernel_rfl), trivial⟩ (Outs.sc rfl Outs.nil)
  · refine JC.skipT ?_
    refine JC.seq ?_
    refine JC.seq ?_
    refine JC.region fun b14 => ?_
    refine JS.run 1 (by kernel_rfl) ?_
    refine JS.nil ?_
    refine JC.to2 [(0, .x (.int .u64 a0)), (1, .x (.int .u64 a1)), (13, .x (.bool r6))] [] (by kernel_rfl) (by kernel_rfl) ?_
    refine JC.skipT ?_
    refine JC.cond (e := r6) (by kernel_rfl) (fun h15 => ?_) (fun h15 => ?_)
    · refine JC.seq ?_
      refine JC.region fun b16 => ?_
      refine JS.run 1 (by kernel_rfl) ?_
      refine JS.nil ?_
      refine JC.to2 [(4, .x (.int .i64 (1 : Int)))] [] (by kernel_rfl) (by kernel_rfl) ?_
      refine JC.skipT ?_
      refine JC.retT ?_
      exact JC.finB (ex := .ret) (vs := [.x (.int .i64 (1 : Int))]) (is := []) rfl ret_ne ⟨(by kernel_rfl), trivial⟩ (Outs.sc rfl Outs.nil)
    · refine JC.skipT ?_
      refine JC.seq ?_
      refine JC.seq ?_
      refine JC.region fun b17 => ?_
      refine JS.run 3 (by kernel_rfl) ?_
      refine JS.nil ?_
      refine JC.to2 [(0, .x (.int .u64 a0)), (1, .x (.int .u64 a1)), (16, .x (.bool (decide (a0 < a1))))] [] (by kernel_rfl) (by kernel_rfl) ?_
      refine JC.skipT ?_
      refine JC.cond (e := (decide (a0 < a1))) (by kernel_rfl) (fun h18 => ?_) (fun h18 => ?_)
      · refine JC.seq ?_
        refine JC.region fun b19 => ?_
        refine JS.run 1 (by kernel_rfl) ?_
        refine JS.nil ?_
        refine JC.to2 [(4, .x (.int .i64 (-1 : Int)))] [] (by kernel_rfl) (by kernel_rfl) ?_
        refine JC.skipT ?_
        refine JC.retT ?_
        exact JC.finB (ex := .ret) (vs := [.x (.int .i64 (-1 : Int))]) (is := []) rfl ret_ne ⟨(by kernel_rfl), trivial⟩ (Outs.sc rfl Outs.nil)
      · refine JC.skipT ?_
        refine JC.seq ?_
        refine JC.seq ?_
        refine JC.region fun b20 => ?_
        refine JS.run 3 (by kernel_rfl) ?_
        refine JS.nil ?_
        refine JC.to2 [(19, .x (.bool (decide (a0 > a1))))] [] (by kernel_rfl) (by kernel_rfl) ?_
        refine JC.skipT ?_
        refine JC.cond (e := (decide (a0 > a1))) (by kernel_rfl) (fun h21 => ?_) (fun h21 => ?_)
        · refine JC.seq ?_
          refine JC.region fun b22 => ?_
          refine JS.run 1 (by kernel_rfl) ?_
          refine JS.nil ?_
          refine JC.to2 [(4, .x (.int .i64 (1 : Int)))] [] (by kernel_rfl) (by kernel_rfl) ?_
          refine JC.skipT ?_
          refine JC.retT ?_
          exact JC.finB (ex := .ret) (vs := [.x (.int .i64 (1 : Int))]) (is := []) rfl ret_ne ⟨(by kernel_rfl), trivial⟩ (Outs.sc rfl Outs.nil)
        · refine JC.skipT ?_
          refine JC.seq ?_
          refine JC.region fun b23 => ?_
          refine JS.run 1 (by kernel_rfl) ?_
          refine JS.nil ?_
          refine JC.to2 [(4, .x (.int .i64 (0 : Int)))] [] (by kernel_rfl) (by kernel_rfl) ?_
          refine JC.skipT ?_
          exact JC.finB (ex := .ret) (vs := [.x (.int .i64 (0 : Int))]) (is := []) rfl ret_ne ⟨(by kernel_rfl), trivial⟩ (Outs.sc rfl Outs.nil)
/-! eyot/weigh.Key -/
def weigh_Key (k : Nat) (a0 : Fl) : Option Int :=
  fcase a0 (fun w3 => cond (fOrd a0 a0 != some .eq) (some (18446744073709551615 : Int)) (cond (decide (((w3 : Nat) : Int) ≥ (9223372036854775808 : Int))) (some (ixor .u64 (IntKind.max .u64) ((w3 : Nat) : Int))) (some (ixor .u64 ((w3 : Nat) : Int) (9223372036854775808 : Int))))) (cond (fOrd a0 a0 != some .eq) (some (18446744073709551615 : Int)) (none))
theorem weigh_Key_ok (k : Nat) (a0 : Fl) : ∀ r, weigh_Key k a0 = some r → CallOk prog 17 [.x (.flt a0)] false [.sc (.x (.int .u64 r))] := by
  refine CallOk.ofB (pf := pf17) (rs := [.tmp 2]) (Res := fun (r : Int) => [.sc (.x (.int .u64 r))]) rfl rfl rfl rfl rfl ?_
  unfold weigh_Key pf17
  refine JC.seq ?_
  refine JC.region fun b1 => ?_
  refine JS.run 1 (by kernel_rfl) ?_
  refine JS.nil ?_
  refine JC.to2 [(0, .x (.flt a0))] [] (by kernel_rfl) (by kernel_rfl) ?_
  refine JC.skipT ?_
  refine JC.seq ?_
  refine JC.region fun b2 => ?_
  refine JS.run 1 (by kernel_rfl) ?_
  refine JS.bits (e := a0) (by kernel_rfl) (by kernel_rfl) (by kernel_rfl) (fun w3 h4 => ?_) (fun h4 => ?_)
  · refine JS.run 1 (by kernel_rfl) ?_
    refine JS.nil ?_
    refine JC.to2 [(0, .x (.flt a0)), (3, .x (.int .u64 ((w3 : Nat) : Int)))] [] (by kernel_rfl) (by kernel_rfl) ?_
    refine JC.skipT ?_
    refine JC.seq ?_
    refine JC.block ?_
    refine JC.seq ?_
    refine JC.region fun b5 => ?_
    refine JS.run 4 (by kernel_rfl) ?_
    refine JS.nil ?_
    refine JC.to2 [(3, .x (.int .u64 ((w3 : Nat) : Int))), (6, .x (.bool (fOrd a0 a0 != some .eq)))] [] (by kernel_rfl) (by kernel_rfl) ?_
    refine JC.skipT ?_
    refine JC.cond (e := (fOrd a0 a0 != some .eq)) (by kernel_rfl) (fun h6 => ?_) (fun h6 => ?_)
    · refine JC.seq ?_
      refine JC.region fun b7 => ?_
      refine JS.run 1 (by kernel_rfl) ?_
      refine JS.nil ?_
      refine JC.to2 [(2, .x (.int .u64 (18446744073709551615 : Int)))] [] (by kernel_rfl) (by kernel_rfl) ?_
      refine JC.skipT ?_
      refine JC.retB ?_
      refine JC.retT ?_
      exact JC.finB (ex := .ret) (vs := [.x (.int .u64 (18446744073709551615 : Int))]) (is := []) rfl ret_ne ⟨(by kernel_rfl), trivial⟩ (Outs.sc rfl Outs.nil)
    · refine JC.seq ?_
      refine JC.region fun b8 => ?_
      refine JS.run 3 (by kernel_rfl) ?_
      refine JS.nil ?_
      refine JC.to2 [(3, .x (.int .u64 ((w3 : Nat) : Int))), (10, .x (.bool (decide (((w3 : Nat) : Int) ≥ (9223372036854775808 : Int)))))] [] (by kernel_rfl) (by kernel_rfl) ?_
      refine JC.skipT ?_
      refine JC.cond (e := (decide (((w3 : Nat) : Int) ≥ (9223372036854775808 : Int)))) (by kernel_rfl) (fun h9 => ?_) (fun h9 => ?_)
      · refine JC.seq ?_
        refine JC.region fun b10 => ?_
        refine JS.run 3 (by kernel_rfl) ?_
        refine JS.nil ?_
        refine JC.to2 [(2, .x (.int .u64 (ixor .u64 (IntKind.max .u64) ((w3 : Nat) : Int))))] [] (by kernel_rfl) (by kernel_rfl) ?_
        refine JC.skipT ?_
        refine JC.retB ?_
        refine JC.retT ?_
        exact JC.finB (ex := .ret) (vs := [.x (.int .u64 (ixor .u64 (IntKind.max .u64) ((w3 : Nat) : Int)))]) (is := []) rfl ret_ne ⟨(by kernel_rfl), trivial⟩ (Outs.sc rfl Outs.nil)
      · refine JC.skipB ?_
        refine JC.skipT ?_
        refine JC.seq ?_
        refine JC.region fun b11 => ?_
        refine JS.run 3 (by kernel_rfl) ?_
        refine JS.nil ?_
        refine JC.to2 [(2, .x (.int .u64 (ixor .u64 ((w3 : Nat) : Int) (9223372036854775808 : Int))))] [] (by kernel_rfl) (by kernel_rfl) ?_
        refine JC.skipT ?_
        exact JC.finB (ex := .ret) (vs := [.x (.int .u64 (ixor .u64 ((w3 : Nat) : Int) (9223372036854775808 : Int)))]) (is := []) rfl ret_ne ⟨(by kernel_rfl), trivial⟩ (Outs.sc rfl Outs.nil)
  · refine JS.run 1 (by kernel_rfl) ?_
    refine JS.nil ?_
    refine JC.to2 [(0, .x (.flt a0))] [] (by kernel_rfl) (by kernel_rfl) ?_
    refine JC.skipT ?_
    refine JC.seq ?_
    refine JC.block ?_
    refine JC.seq ?_
    refine JC.region fun b12 => ?_
    refine JS.run 4 (by kernel_rfl) ?_
    refine JS.nil ?_
    refine JC.to2 [(6, .x (.bool (fOrd a0 a0 != some .eq)))] [] (by kernel_rfl) (by kernel_rfl) ?_
    refine JC.skipT ?_
    refine JC.cond (e := (fOrd a0 a0 != some .eq)) (by kernel_rfl) (fun h13 => ?_) (fun h13 => ?_)
    · refine JC.seq ?_
      refine JC.region fun b14 => ?_
      refine JS.run 1 (by kernel_rfl) ?_
      refine JS.nil ?_
      refine JC.to2 [(2, .x (.int .u64 (18446744073709551615 : Int)))] [] (by kernel_rfl) (by kernel_rfl) ?_
      refine JC.skipT ?_
      refine JC.retB ?_
      refine JC.retT ?_
      exact JC.finB (ex := .ret) (vs := [.x (.int .u64 (18446744073709551615 : Int))]) (is := []) rfl ret_ne ⟨(by kernel_rfl), trivial⟩ (Outs.sc rfl Outs.nil)
    · exact JC.no
/-! eyot/weigh.Order -/
def weigh_Order (k : Nat) (a0 : Fl) (a1 : Fl) : Option Int :=
  (weigh_Key k a0).bind fun r3 => (weigh_Key k a1).bind fun r5 => (cmp_Compare k r3 r5).bind fun r7 => some r7
theorem weigh_Order_ok (k : Nat) (a0 : Fl) (a1 : Fl) : ∀ r, weigh_Order k a0 a1 = some r → CallOk prog 15 [.x (.flt a0), .x (.flt a1)] false [.sc (.x (.int .i64 r))] := by
  refine CallOk.ofB (pf := pf15) (rs := [.tmp 4]) (Res := fun (r : Int) => [.sc (.x (.int .i64 r))]) rfl rfl rfl rfl rfl ?_
  unfold weigh_Order pf15
  refine JC.seq ?_
  refine JC.region fun b1 => ?_
  refine JS.run 1 (by kernel_rfl) ?_
  refine JS.nil ?_
  refine JC.to2 [(0, .x (.flt a0)), (1, .x (.flt a1))] [] (by kernel_rfl) (by kernel_rfl) ?_
  refine JC.skipT ?_
  refine JC.seq ?_
  refine JC.region fun b2 => ?_
  refine JS.run 1 (by kernel_rfl) ?_
  refine JS.bind fun r3 h4 => ?_
  refine JS.callS [] (weigh_Key_ok k a0 r3 h4) ⟨rfl, argX (d := (.flt a0)) (by kernel_rfl) (by kernel_rfl), trivial⟩ (by kernel_rfl) (by kernel_rfl) (by kernel_rfl) ?_
  refine JS.run 1 (by kernel_rfl) ?_
  refine JS.bind fun r5 h6 => ?_
  refine JS.callS [] (weigh_Key_ok k a1 r5 h6) ⟨rfl, argX (d := (.flt a1)) (by kernel_rfl) (by kernel_rfl), trivial⟩ (by kernel_rfl) (by kernel_rfl) (by kernel_rfl) ?_
  refine JS.bind fun r7 h8 => ?_
  refine JS.callS [] (cmp_Compare_ok k r3 r5 r7 h8) ⟨rfl, argX (d := (.int .u64 r3)) (by kernel_rfl) (by kernel_rfl), rfl, argX (d := (.int .u64 r5)) (by kernel_rfl) (by kernel_rfl), trivial⟩ (by kernel_rfl) (by kernel_rfl) (by kernel_rfl) ?_
  refine JS.run 1 (by kernel_rfl) ?_
  refine JS.nil ?_
  refine JC.to2 [(4, .x (.int .i64 r7))] [] (by kernel_rfl) (by kernel_rfl) ?_
  refine JC.skipT ?_
  exact JC.finB (ex := .ret) (vs := [.x (.int .i64 r7)]) (is := []) rfl ret_ne ⟨(by kernel_rfl), trivial⟩ (Outs.sc rfl Outs.nil)
/-! eyot/weigh.Same -/
def weigh_Same (k : Nat) (a0 : Fl) (a1 : Fl) : Option Bool :=
  (weigh_Order k a0 a1).bind fun r3 => some (r3 == (0 : Int))
theorem weigh_Same_ok (k : Nat) (a0 : Fl) (a1 : Fl) : ∀ r, weigh_Same k a0 a1 = some r → CallOk prog 12 [.x (.flt a0), .x (.flt a1)] false [.sc (.x (.bool r))] := by
  refine CallOk.ofB (pf := pf12) (rs := [.tmp 4]) (Res := fun (r : Bool) => [.sc (.x (.bool r))]) rfl rfl rfl rfl rfl ?_
  unfold weigh_Same pf12
  refine JC.seq ?_
  refine JC.region fun b1 => ?_
  refine JS.run 1 (by kernel_rfl) ?_
  refine JS.nil ?_
  refine JC.to2 [(0, .x (.flt a0)), (1, .x (.flt a1))] [] (by kernel_rfl) (by kernel_rfl) ?_
  refine JC.skipT ?_
  refine JC.seq ?_
  refine JC.region fun b2 => ?_
  refine JS.run 2 (by kernel_rfl) ?_
  refine JS.bind fun r3 h4 => ?_
  refine JS.callS [] (weigh_Order_ok k a0 a1 r3 h4) ⟨rfl, argX (d := (.flt a0)) (by kernel_rfl) (by kernel_rfl), rfl, argX (d := (.flt a1)) (by kernel_rfl) (by kernel_rfl), trivial⟩ (by kernel_rfl) (by kernel_rfl) (by kernel_rfl) ?_
  refine JS.run 2 (by kernel_rfl) ?_
  refine JS.nil ?_
  refine JC.to2 [(4, .x (.bool (r3 == (0 : Int))))] [] (by kernel_rfl) (by kernel_rfl) ?_
  refine JC.skipT ?_
  exact JC.finB (ex := .ret) (vs := [.x (.bool (r3 == (0 : Int)))]) (is := []) rfl ret_ne ⟨(by kernel_rfl), trivial⟩ (Outs.sc rfl Outs.nil)
/-! eyot/weigh.Of -/
def weigh_Of (k : Nat) (a0 : Int) : Option Fl :=
  cond (decide (a0 < (9223372036854775808 : Int))) ((weigh_Key k (some (ixor .u64 (IntKind.max .u64) a0).toNat : Fl)).bind fun r8 => cond (r8 != a0) ((math_NaN k).bind fun r12 => some r12) (some (some (ixor .u64 (IntKind.max .u64) a0).toNat : Fl))) ((weigh_Key k (some (ixor .u64 a0 (9223372036854775808 : Int)).toNat : Fl)).bind fun r17 => cond (r17 != a0) ((math_NaN k).bind fun r21 => some r21) (some (some (ixor .u64 a0 (9223372036854775808 : Int)).toNat : Fl)))
theorem weigh_Of_ok (k : Nat) (a0 : Int) : ∀ r, weigh_Of k a0 = some r → CallOk prog 14 [.x (.int .u64 a0)] false [.sc (.x (.flt r))] := by
  refine CallOk.ofB (pf := pf14) (rs := [.tmp 2]) (Res := fun (r : Fl) => [.sc (.x (.flt r))]) rfl rfl rfl rfl rfl ?_
  unfold weigh_Of pf14
  refine JC.seq ?_
  refine JC.region fun b1 => ?_
  refine JS.run 1 (by kernel_rfl) ?_
  refine JS.nil ?_
  refine JC.to2 [(0, .x (.int .u64 a0))] [] (by kernel_rfl) (by kernel_rfl) ?_
  refine JC.skipT ?_
  refine JC.seq ?_
  refine JC.region fun b2 => ?_
  refine JS.run 3 (by kernel_rfl) ?_
  refine JS.nil ?_
  refine JC.to2 [(0, .x (.int .u64 a0)), (3, .x (.int .u64 (ixor .u64 a0 (9223372036854775808 : Int))))] [] (by kernel_rfl) (by kernel_rfl) ?_
  refine JC.skipT ?_
  refine JC.seq ?_
  refine JC.seq ?_
  refine JC.region fun b3 => ?_
  refine JS.run 2 (by kernel_rfl) ?_
  refine JS.nil ?_
  refine JC.to2 [(0, .x (.int .u64 a0)), (3, .x (.int .u64 (ixor .u64 a0 (9223372036854775808 : Int)))), (8, .x (.bool (decide (a0 < (9223372036854775808 : Int)))))] [] (by kernel_rfl) (by kernel_rfl) ?_
  refine JC.skipT ?_
  refine JC.cond (e := (decide (a0 < (9223372036854775808 : Int)))) (by kernel_rfl) (fun h4 => ?_) (fun h4 => ?_)
  · refine JC.region fun b5 => ?_
    refine JS.run 3 (by kernel_rfl) ?_
    refine JS.nil ?_
    refine JC.to2 [(0, .x (.int .u64 a0)), (3, .x (.int .u64 (ixor .u64 (IntKind.max .u64) a0)))] [] (by kernel_rfl) (by kernel_rfl) ?_
    refine JC.skipT ?_
    refine JC.seq ?_
    refine JC.region fun b6 => ?_
    refine JS.run 3 (by kernel_rfl) ?_
    refine JS.nil ?_
    refine JC.to2 [(0, .x (.int .u64 a0)), (4, .x (.flt (some (ixor .u64 (IntKind.max .u64) a0).toNat : Fl)))] [] (by kernel_rfl) (by kernel_rfl) ?_
    refine JC.skipT ?_
    refine JC.seq ?_
    refine JC.seq ?_
    refine JC.region fun b7 => ?_
    refine JS.run 1 (by kernel_rfl) ?_
    refine JS.bind fun r8 h9 => ?_
    refine JS.callS [] (weigh_Key_ok k (some (ixor .u64 (IntKind.max .u64) a0).toNat : Fl) r8 h9) ⟨rfl, argX (d := (.flt (some (ixor .u64 (IntKind.max .u64) a0).toNat : Fl))) (by kernel_rfl) (by kernel_rfl), trivial⟩ (by kernel_rfl) (by kernel_rfl) (by kernel_rfl) ?_
    refine JS.run 2 (by kernel_rfl) ?_
    refine JS.nil ?_
    refine JC.to2 [(4, .x (.flt (some (ixor .u64 (IntKind.max .u64) a0).toNat : Fl))), (16, .x (.bool (r8 != a0)))] [] (by kernel_rfl) (by kernel_rfl) ?_
    refine JC.skipT ?_
    refine JC.cond (e := (r8 != a0)) (by kernel_rfl) (fun h10 => ?_) (fun h10 => ?_)
    · refine JC.seq ?_
      refine JC.region fun b11 => ?_
      refine JS.bind fun r12 h13 => ?_
      refine JS.callS [] (math_NaN_ok k r12 h13) trivial (by kernel_rfl) (by kernel_rfl) (by kernel_rfl) ?_
      refine JS.run 1 (by kernel_rfl) ?_
      refine JS.nil ?_
      refine JC.to2 [(2, .x (.flt r12))] [] (by kernel_rfl) (by kernel_rfl) ?_
      refine JC.skipT ?_
      refine JC.retT ?_
      exact JC.finB (ex := .ret) (vs := [.x (.flt r12)]) (is := []) rfl ret_ne ⟨(by kernel_rfl), trivial⟩ (Outs.sc rfl Outs.nil)
    · refine JC.skipT ?_
      refine JC.seq ?_
      refine JC.region fun b14 => ?_
      refine JS.run 2 (by kernel_rfl) ?_
      refine JS.nil ?_
      refine JC.to2 [(2, .x (.flt (some (ixor .u64 (IntKind.max .u64) a0).toNat : Fl)))] [] (by kernel_rfl) (by kernel_rfl) ?_
      refine JC.skipT ?_
      exact JC.finB (ex := .ret) (vs := [.x (.flt (some (ixor .u64 (IntKind.max .u64) a0).toNat : Fl))]) (is := []) rfl ret_ne ⟨(by kernel_rfl), trivial⟩ (Outs.sc rfl Outs.nil)
  · refine JC.skipT ?_
    refine JC.seq ?_
    refine JC.region fun b15 => ?_
    refine JS.run 3 (by kernel_rfl) ?_
    refine JS.nil ?_
    refine JC.to2 [(0, .x (.int .u64 a0)), (4, .x (.flt (some (ixor .u64 a0 (9223372036854775808 : Int)).toNat : Fl)))] [] (by kernel_rfl) (by kernel_rfl) ?_
    refine JC.skipT ?_
    refine JC.seq ?_
    refine JC.seq ?_
    refine JC.region fun b16 => ?_
    refine JS.run 1 (by kernel_rfl) ?_
    refine JS.bind fun r17 h18 => ?_
    refine JS.callS [] (weigh_Key_ok k (some (ixor .u64 a0 (9223372036854775808 : Int)).toNat : Fl) r17 h18) ⟨rfl, argX (d := (.flt (some (ixor .u64 a0 (9223372036854775808 : Int)).toNat : Fl))) (by kernel_rfl) (by kernel_rfl), trivial⟩ (by kernel_rfl) (by kernel_rfl) (by kernel_rfl) ?_
    refine JS.run 2 (by kernel_rfl) ?_
    refine JS.nil ?_
    refine JC.to2 [(4, .x (.flt (some (ixor .u64 a0 (9223372036854775808 : Int)).toNat : Fl))), (16, .x (.bool (r17 != a0)))] [] (by kernel_rfl) (by kernel_rfl) ?_
    refine JC.skipT ?_
    refine JC.cond (e := (r17 != a0)) (by kernel_rfl) (fun h19 => ?_) (fun h19 => ?_)
    · refine JC.seq ?_
      refine JC.region fun b20 => ?_
      refine JS.bind fun r21 h22 => ?_
      refine JS.callS [] (math_NaN_ok k r21 h22) trivial (by kernel_rfl) (by kernel_rfl) (by kernel_rfl) ?_
      refine JS.run 1 (by kernel_rfl) ?_
      refine JS.nil ?_
      refine JC.to2 [(2, .x (.flt r21))] [] (by kernel_rfl) (by kernel_rfl) ?_
      refine JC.skipT ?_
      refine JC.retT ?_
      exact JC.finB (ex := .ret) (vs := [.x (.flt r21)]) (is := []) rfl ret_ne ⟨(by kernel_rfl), trivial⟩ (Outs.sc rfl Outs.nil)
    · refine JC.skipT ?_
      refine JC.seq ?_
      refine JC.region fun b23 => ?_
      refine JS.run 2 (by kernel_rfl) ?_
      refine JS.nil ?_
      refine JC.to2 [(2, .x (.flt (some (ixor .u64 a0 (9223372036854775808 : Int)).toNat : Fl)))] [] (by kernel_rfl) (by kernel_rfl) ?_
      refine JC.skipT ?_
      exact JC.finB (ex := .ret) (vs := [.x (.flt (some (ixor .u64 a0 (9223372036854775808 : Int)).toNat : Fl))]) (is := []) rfl ret_ne ⟨(by kernel_rfl), trivial⟩ (Outs.sc rfl Outs.nil)
/-! eyot/weigh.Kind -/
def weigh_Kind (k : Nat) (a0 : Fl) : Option Int :=
  cond (fOrd a0 a0 != some .eq) (some (0 : Int)) ((math_IsInf k a0 (-1 : Int)).bind fun r6 => cond r6 (some (1 : Int)) (cond (fOrd a0 (some 0 : Fl) == some .lt) (some (2 : Int)) ((math_IsInf k a0 (1 : Int)).bind fun r14 => cond r14 (some (6 : Int)) (cond (fOrd a0 (some 0 : Fl) == some .gt) (some (5 : Int)) ((math_Signbit k a0).bind fun r22 => cond r22 (some (3 : Int)) (some (4 : Int)))))))
theorem weigh_Kind_ok (k : Nat) (a0 : Fl) : ∀ r, weigh_Kind k a0 = some r → CallOk prog 20 [.x (.flt a0)] false [.sc (.x (.int .i64 r))] := by
  refine CallOk.ofB (pf := pf20) (rs := [.tmp 2]) (Res := fun (r : Int) => [.sc (.x (.int .i64 r))]) rfl rfl rfl rfl rfl ?_
  unfold weigh_Kind pf20
  refine JC.seq ?_
  refine JC.region fun b1 => ?_
  refine JS.run 1 (by kernel_rfl) ?_
  refine JS.nil ?_
  refine JC.to2 [(0, .x (.flt a0))] [] (by kernel_rfl) (by kernel_rfl) ?_
  refine JC.skipT ?_
  refine JC.seq ?_
  refine JC.block ?_
  refine JC.seq ?_
  refine JC.region fun b2 => ?_
  refine JS.run 4 (by kernel_rfl) ?_
  refine JS.nil ?_
  refine JC.to2 [(0, .x (.flt a0)), (3, .x (.bool (fOrd a0 a0 != some .eq)))] [] (by kernel_rfl) (by kernel_rfl) ?_
  refine JC.skipT ?_
  refine JC.cond (e := (fOrd a0 a0 != some .eq)) (by kernel_rfl) (fun h3 => ?_) (fun h3 => ?_)
  · refine JC.seq ?_
    refine JC.region fun b4 => ?_
    refine JS.run 1 (by kernel_rfl) ?_
    refine JS.nil ?_
    refine JC.to2 [(2, .x (.int .i64 (0 : Int)))] [] (by kernel_rfl) (by kernel_rfl) ?_
    refine JC.skipT ?_
    refine JC.retB ?_
    refine JC.retT ?_
    exact JC.finB (ex := .ret) (vs := [.x (.int .i64 (0 : Int))]) (is := []) rfl ret_ne ⟨(by kernel_rfl), trivial⟩ (Outs.sc rfl Outs.nil)
  · refine JC.seq ?_
    refine JC.region fun b5 => ?_
    refine JS.run 1 (by kernel_rfl) ?_
    refine JS.bind fun r6 h7 => ?_
    refine JS.callS [] (math_IsInf_ok k a0 (-1 : Int) r6 h7) ⟨rfl, argX (d := (.flt a0)) (by kernel_rfl) (by kernel_rfl), rfl, argX (d := (.int .i64 (-1 : Int))) (by kernel_rfl) (by kernel_rfl), trivial⟩ (by kernel_rfl) (by kernel_rfl) (by kernel_rfl) ?_
    refine JS.run 1 (by kernel_rfl) ?_
    refine JS.nil ?_
    refine JC.to2 [(0, .x (.flt a0)), (7, .x (.bool r6))] [] (by kernel_rfl) (by kernel_rfl) ?_
    refine JC.skipT ?_
    refine JC.cond (e := r6) (by kernel_rfl) (fun h8 => ?_) (fun h8 => ?_)
    · refine JC.seq ?_
      refine JC.region fun b9 => ?_
      refine JS.run 1 (by kernel_rfl) ?_
      refine JS.nil ?_
      refine JC.to2 [(2, .x (.int .i64 (1 : Int)))] [] (by kernel_rfl) (by kernel_rfl) ?_
      refine JC.skipT ?_
      refine JC.retB ?_
      refine JC.retT ?_
      exact JC.finB (ex := .ret) (vs := [.x (.int .i64 (1 : Int))]) (is := []) rfl ret_ne ⟨(by kernel_rfl), trivial⟩ (Outs.sc rfl Outs.nil)
    · refine JC.seq ?_
      refine JC.region fun b10 => ?_
      refine JS.run 3 (by kernel_rfl) ?_
      refine JS.nil ?_
      refine JC.to2 [(0, .x (.flt a0)), (10, .x (.bool (fOrd a0 (some 0 : Fl) == some .lt)))] [] (by kernel_rfl) (by kernel_rfl) ?_
      refine JC.skipT ?_
      refine JC.cond (e := (fOrd a0 (some 0 : Fl) == some .lt)) (by kernel_rfl) (fun h11 => ?_) (fun h11 => ?_)
      · refine JC.seq ?_
        refine JC.region fun b12 => ?_
        refine JS.run 1 (by kernel_rfl) ?_
        refine JS.nil ?_
        refine JC.to2 [(2, .x (.int .i64 (2 : Int)))] [] (by kernel_rfl) (by kernel_rfl) ?_
        refine JC.skipT ?_
        refine JC.retB ?_
        refine JC.retT ?_
        exact JC.finB (ex := .ret) (vs := [.x (.int .i64 (2 : Int))]) (is := []) rfl ret_ne ⟨(by kernel_rfl), trivial⟩ (Outs.sc rfl Outs.nil)
      · refine JC.seq ?_
        refine JC.region fun b13 => ?_
        refine JS.run 1 (by kernel_rfl) ?_
        refine JS.bind fun r14 h15 => ?_
        refine JS.callS [] (math_IsInf_ok k a0 (1 : Int) r14 h15) ⟨rfl, argX (d := (.flt a0)) (by kernel_rfl) (by kernel_rfl), rfl, argX (d := (.int .i64 (1 : Int))) (by kernel_rfl) (by kernel_rfl), trivial⟩ (by kernel_rfl) (by kernel_rfl) (by kernel_rfl) ?_
        refine JS.run 1 (by kernel_rfl) ?_
        refine JS.nil ?_
        refine JC.to2 [(0, .x (.flt a0)), (13, .x (.bool r14))] [] (by kernel_rfl) (by kernel_rfl) ?_
        refine JC.skipT ?_
        refine JC.cond (e := r14) (by kernel_rfl) (fun h16 => ?_) (fun h16 => ?_)
        · refine JC.seq ?_
          refine JC.region fun b17 => ?_
          refine JS.run 1 (by kernel_rfl) ?_
          refine JS.nil ?_
          refine JC.to2 [(2, .x (.int .i64 (6 : Int)))] [] (by kernel_rfl) (by kernel_rfl) ?_
          refine JC.skipT ?_
          refine JC.retB ?_
          refine JC.retT ?_
          exact JC.finB (ex := .ret) (vs := [.x (.int .i64 (6 : Int))]) (is := []) rfl ret_ne ⟨(by kernel_rfl), trivial⟩ (Outs.sc rfl Outs.nil)
        · refine JC.seq ?_
          refine JC.region fun b18 => ?_
          refine JS.run 3 (by kernel_rfl) ?_
          refine JS.nil ?_
          refine JC.to2 [(0, .x (.flt a0)), (16, .x (.bool (fOrd a0 (some 0 : Fl) == some .gt)))] [] (by kernel_rfl) (by kernel_rfl) ?_
          refine JC.skipT ?_
          refine JC.cond (e := (fOrd a0 (some 0 : Fl) == some .gt)) (by kernel_rfl) (fun h19 => ?_) (fun h19 => ?_)
          · refine JC.seq ?_
            refine JC.region fun b20 => ?_
            refine JS.run 1 (by kernel_rfl) ?_
            refine JS.nil ?_
            refine JC.to2 [(2, .x (.int .i64 (5 : Int)))] [] (by kernel_rfl) (by kernel_rfl) ?_
            refine JC.skipT ?_
            refine JC.retB ?_
            refine JC.retT ?_
            exact JC.finB (ex := .ret) (vs := [.x (.int .i64 (5 : Int))]) (is := []) rfl ret_ne ⟨(by kernel_rfl), trivial⟩ (Outs.sc rfl Outs.nil)
          · refine JC.seq ?_
            refine JC.region fun b21 => ?_
            refine JS.run 1 (by kernel_rfl) ?_
            refine JS.bind fun r22 h23 => ?_
            refine JS.callS [] (math_Signbit_ok k a0 r22 h23) ⟨rfl, argX (d := (.flt a0)) (by kernel_rfl) (by kernel_rfl), trivial⟩ (by kernel_rfl) (by kernel_rfl) (by kernel_rfl) ?_
            refine JS.run 1 (by kernel_rfl) ?_
            refine JS.nil ?_
            refine JC.to2 [(19, .x (.bool r22))] [] (by kernel_rfl) (by kernel_rfl) ?_
            refine JC.skipT ?_
            refine JC.cond (e := r22) (by kernel_rfl) (fun h24 => ?_) (fun h24 => ?_)
            · refine JC.seq ?_
              refine JC.region fun b25 => ?_
              refine JS.run 1 (by kernel_rfl) ?_
              refine JS.nil ?_
              refine JC.to2 [(2, .x (.int .i64 (3 : Int)))] [] (by kernel_rfl) (by kernel_rfl) ?_
              refine JC.skipT ?_
              refine JC.retB ?_
              refine JC.retT ?_
              exact JC.finB (ex := .ret) (vs := [.x (.int .i64 (3 : Int))]) (is := []) rfl ret_ne ⟨(by kernel_rfl), trivial⟩ (Outs.sc rfl Outs.nil)
            · refine JC.skipB ?_
              refine JC.skipT ?_
              refine JC.seq ?_
              refine JC.region fun b26 => ?_
              refine JS.run 1 (by kernel_rfl) ?_
              refine JS.nil ?_
              refine JC.to2 [(2, .x (.int .i64 (4 : Int)))] [] (by kernel_rfl) (by kernel_rfl) ?_
              refine JC.skipT ?_
              exact JC.finB (ex := .ret) (vs := [.x (.int .i64 (4 : Int))]) (is := []) rfl ret_ne ⟨(by kernel_rfl), trivial⟩ (Outs.sc rfl Outs.nil)
/-! eyot/weigh.Parse -/
theorem weigh_Parse_ok (k : Nat) : ∀ (a0 : (List UInt8)) (r : (Fl × Int)), weigh_Parse k a0 = some r → CallOk prog 10 [.x (.str a0)] true [.sc (.x (.flt r.1)), .sc (.x (.int .i64 r.2))] := fun a0 => weigh_Parse_orc rfl rfl k a0
/-! eyot/eyotlaw1.begun -/
def eyotlaw1_begun (k : Nat)  : Option Bool :=
  (weigh_Parse k ([49, 46, 50, 53] : List UInt8)).bind fun r3 => (weigh_Parse k ([49, 46] : List UInt8)).bind fun r6 => (cond (r3.2 == (0 : Int)) (cond (fOrd r3.1 (some 4608308318706860032 : Fl) == some .eq) (cond (r6.2 == (2 : Int)) ((weigh_Order k (some 4607182418800017408 : Fl) (some 4611686018427387904 : Fl)).bind fun r13 => cond (r13 == (-1 : Int)) ((weigh_Same k (some 4611686018427387904 : Fl) (some 4611686018427387904 : Fl)).bind fun r16 => cond r16 ((weigh_Key k (some 4607182418800017408 : Fl)).bind fun r19 => (weigh_Key k (some 13830554455654793216 : Fl)).bind fun r21 => cond (decide (r19 > r21)) ((weigh_Key k (some 4613937818241073152 : Fl)).bind fun r24 => (weigh_Of k r24).bind fun r26 => cond (fOrd r26 (some 4613937818241073152 : Fl) == some .eq) ((weigh_Kind k (some 4607182418800017408 : Fl)).bind fun r29 => some (r29 == (5 : Int))) (some false)) (some false)) (some false)) (some false)) (some false)) (some false)) (some false)).bind fun y8 => some y8
theorem eyotlaw1_begun_ok (k : Nat)  : ∀ r, eyotlaw1_begun k = some r → CallOk prog 9 [] false [.sc (.x (.bool r))] := by
  refine CallOk.ofB (pf := pf9) (rs := [.tmp 0]) (Res := fun (r : Bool) => [.sc (.x (.bool r))]) rfl rfl rfl rfl rfl ?_
  unfold eyotlaw1_begun pf9
  refine JC.seq ?_
  refine JC.region fun b1 => ?_
  refine JS.run 1 (by kernel_rfl) ?_
  refine JS.nil ?_
  refine JC.to2 [] [] (by kernel_rfl) (by kernel_rfl) ?_
  refine JC.skipT ?_
  refine JC.seq ?_
  refine JC.region fun b2 => ?_
  refine JS.bind fun r3 h4 => ?_
  refine JS.callS [] (weigh_Parse_ok k ([49, 46, 50, 53] : List UInt8) r3 h4) ⟨rfl, argX (d := (.str ([49, 46, 50, 53] : List UInt8))) (by kernel_rfl) (by kernel_rfl), trivial⟩ (by kernel_rfl) (by kernel_rfl) (by kernel_rfl) ?_
  refine JS.run 5 (by kernel_rfl) ?_
  refine JS.nil ?_
  refine JC.to2 [(1, .x (.flt r3.1)), (2, .x (.int .i64 r3.2))] [] (by kernel_rfl) (by kernel_rfl) ?_
  refine JC.skipT ?_
  refine JC.seq ?_
  refine JC.region fun b5 => ?_
  refine JS.bind fun r6 h7 => ?_
  refine JS.callS [] (weigh_Parse_ok k ([49, 46] : List UInt8) r6 h7) ⟨rfl, argX (d := (.str ([49, 46] : List UInt8))) (by kernel_rfl) (by kernel_rfl), trivial⟩ (by kernel_rfl) (by kernel_rfl) (by kernel_rfl) ?_
  refine JS.run 5 (by kernel_rfl) ?_
  refine JS.nil ?_
  refine JC.to2 [(1, .x (.flt r3.1)), (2, .x (.int .i64 r3.2)), (4, .x (.int .i64 r6.2))] [] (by kernel_rfl) (by kernel_rfl) ?_
  refine JC.skipT ?_
  refine JC.seq ?_
  refine JC.bind (A := fun v ex E R => ex = .normal ∧ E = [(0, .x (.bool v))] ∧ R = []) ?_ ?_
  · refine JC.region fun b9 => ?_
    refine JS.run 3 (by kernel_rfl) ?_
    refine JS.split (e := (r3.2 == (0 : Int))) 15 (by kernel_rfl) (fun h10 => ?_) (fun h10 => ?_)
    · refine JS.run 4 (by kernel_rfl) ?_
      refine JS.split (e := (fOrd r3.1 (some 4608308318706860032 : Fl) == some .eq)) 19 (by kernel_rfl) (fun h11 => ?_) (fun h11 => ?_)
      · refine JS.run 4 (by kernel_rfl) ?_
        refine JS.split (e := (r6.2 == (2 : Int))) 23 (by kernel_rfl) (fun h12 => ?_) (fun h12 => ?_)
        · refine JS.bind fun r13 h14 => ?_
          refine JS.callS [] (weigh_Order_ok k (some 4607182418800017408 : Fl) (some 4611686018427387904 : Fl) r13 h14) ⟨rfl, argX (d := (.flt (some 4607182418800017408 : Fl))) (by kernel_rfl) (by kernel_rfl), rfl, argX (d := (.flt (some 4611686018427387904 : Fl))) (by kernel_rfl) (by kernel_rfl), trivial⟩ (by kernel_rfl) (by kernel_rfl) (by kernel_rfl) ?_
          refine JS.run 3 (by kernel_rfl) ?_
          refine JS.split (e := (r13 == (-1 : Int))) 27 (by kernel_rfl) (fun h15 => ?_) (fun h15 => ?_)
          · refine JS.bind fun r16 h17 => ?_
            refine JS.callS [] (weigh_Same_ok k (some 4611686018427387904 : Fl) (some 4611686018427387904 : Fl) r16 h17) ⟨rfl, argX (d := (.flt (some 4611686018427387904 : Fl))) (by kernel_rfl) (by kernel_rfl), rfl, argX (d := (.flt (some 4611686018427387904 : Fl))) (by kernel_rfl) (by kernel_rfl), trivial⟩ (by kernel_rfl) (by kernel_rfl) (by kernel_rfl) ?_
            refine JS.run 2 (by kernel_rfl) ?_
            refine JS.split (e := r16) 30 (by kernel_rfl) (fun h18 => ?_) (fun h18 => ?_)
            · refine JS.bind fun r19 h20 => ?_
              refine JS.callS [] (weigh_Key_ok k (some 4607182418800017408 : Fl) r19 h20) ⟨rfl, argX (d := (.flt (some 4607182418800017408 : Fl))) (by kernel_rfl) (by kernel_rfl), trivial⟩ (by kernel_rfl) (by kernel_rfl) (by kernel_rfl) ?_
              refine JS.bind fun r21 h22 => ?_
              refine JS.callS [] (weigh_Key_ok k (some 13830554455654793216 : Fl) r21 h22) ⟨rfl, argX (d := (.flt (some 13830554455654793216 : Fl))) (by kernel_rfl) (by kernel_rfl), trivial⟩ (by kernel_rfl) (by kernel_rfl) (by kernel_rfl) ?_
              refine JS.run 3 (by kernel_rfl) ?_
              refine JS.split (e := (decide (r19 > r21))) 35 (by kernel_rfl) (fun h23 => ?_) (fun h23 => ?_)
              · refine JS.bind fun r24 h25 => ?_
                refine JS.callS [] (weigh_Key_ok k (some 4613937818241073152 : Fl) r24 h25) ⟨rfl, argX (d := (.flt (some 4613937818241073152 : Fl))) (by kernel_rfl) (by kernel_rfl), trivial⟩ (by kernel_rfl) (by kernel_rfl) (by kernel_rfl) ?_
                refine JS.bind fun r26 h27 => ?_
                refine JS.callS [] (weigh_Of_ok k r24 r26 h27) ⟨rfl, argX (d := (.int .u64 r24)) (by kernel_rfl) (by kernel_rfl), trivial⟩ (by kernel_rfl) (by kernel_rfl) (by kernel_rfl) ?_
                refine JS.run 3 (by kernel_rfl) ?_
                refine JS.split (e := (fOrd r26 (some 4613937818241073152 : Fl) == some .eq)) 40 (by kernel_rfl) (fun h28 => ?_) (fun h28 => ?_)
                · refine JS.bind fun r29 h30 => ?_
                  refine JS.callS [] (weigh_Kind_ok k (some 4607182418800017408 : Fl) r29 h30) ⟨rfl, argX (d := (.flt (some 4607182418800017408 : Fl))) (by kernel_rfl) (by kernel_rfl), trivial⟩ (by kernel_rfl) (by kernel_rfl) (by kernel_rfl) ?_
                  refine JS.run 3 (by kernel_rfl) ?_
                  refine JS.nil ?_
                  refine JC.to2 [(0, .x (.bool (r29 == (5 : Int))))] [] (by kernel_rfl) (by kernel_rfl) ?_
                  refine JC.to2 [(0, .x (.bool (r29 == (5 : Int))))] [] (by kernel_rfl) (by kernel_rfl) ?_
                  exact JC.got (ex := .normal) rfl ⟨rfl, rfl, rfl⟩
                · refine JS.run 4 (by kernel_rfl) ?_
                  refine JS.nil ?_
                  refine JC.to2 [(0, .x (.bool false))] [] (by kernel_rfl) (by kernel_rfl) ?_
                  refine JC.to2 [(0, .x (.bool false))] [] (by kernel_rfl) (by kernel_rfl) ?_
                  exact JC.got (ex := .normal) rfl ⟨rfl, rfl, rfl⟩
              · refine JS.run 9 (by kernel_rfl) ?_
                refine JS.nil ?_
                refine JC.to2 [(0, .x (.bool false))] [] (by kernel_rfl) (by kernel_rfl) ?_
                refine JC.to2 [(0, .x (.bool false))] [] (by kernel_rfl) (by kernel_rfl) ?_
                exact JC.got (ex := .normal) rfl ⟨rfl, rfl, rfl⟩
            · refine JS.run 14 (by kernel_rfl) ?_
              refine JS.nil ?_
              refine JC.to2 [(0, .x (.bool false))] [] (by kernel_rfl) (by kernel_rfl) ?_
              refine JC.to2 [(0, .x (.bool false))] [] (by kernel_rfl) (by kernel_rfl) ?_
              exact JC.got (ex := .normal) rfl ⟨rfl, rfl, rfl⟩
          · refine JS.run 17 (by kernel_rfl) ?_
            refine JS.nil ?_
            refine JC.to2 [(0, .x (.bool false))] [] (by kernel_rfl) (by kernel_rfl) ?_
            refine JC.to2 [(0, .x (.bool false))] [] (by kernel_rfl) (by kernel_rfl) ?_
            exact JC.got (ex := .normal) rfl ⟨rfl, rfl, rfl⟩
        · refine JS.run 21 (by kernel_rfl) ?_
          refine JS.nil ?_
          refine JC.to2 [(0, .x (.bool false))] [] (by kernel_rfl) (by kernel_rfl) ?_
          refine JC.to2 [(0, .x (.bool false))] [] (by kernel_rfl) (by kernel_rfl) ?_
          exact JC.got (ex := .normal) rfl ⟨rfl, rfl, rfl⟩
      · refine JS.run 25 (by kernel_rfl) ?_
        refine JS.nil ?_
        refine JC.to2 [(0, .x (.bool false))] [] (by kernel_rfl) (by kernel_rfl) ?_
        refine JC.to2 [(0, .x (.bool false))] [] (by kernel_rfl) (by kernel_rfl) ?_
        exact JC.got (ex := .normal) rfl ⟨rfl, rfl, rfl⟩
    · refine JS.run 29 (by kernel_rfl) ?_
      refine JS.nil ?_
      refine JC.to2 [(0, .x (.bool false))] [] (by kernel_rfl) (by kernel_rfl) ?_
      refine JC.to2 [(0, .x (.bool false))] [] (by kernel_rfl) (by kernel_rfl) ?_
      exact JC.got (ex := .normal) rfl ⟨rfl, rfl, rfl⟩
  · rintro y8 ex E' R' hA
    obtain ⟨rfl, rfl, rfl⟩ := hA
    refine JC.to2 [(0, .x (.bool y8))] [] (by kernel_rfl) (by kernel_rfl) ?_
    refine JC.skipT ?_
    exact JC.finB (ex := .ret) (vs := [.x (.bool y8)]) (is := []) rfl ret_ne ⟨(by kernel_rfl), trivial⟩ (Outs.sc rfl Outs.nil)
/-! eyot/eyotlaw1.WeighForms -/
def eyotlaw1_WeighForms_l0  : Nat → Int → Option (Unit ⊕ Unit)
  | 0, _ => none
  | k + 1, x10 => cond (decide (x10 < ((([([] : List UInt8), ([45] : List UInt8), ([46] : List UInt8), ([49, 46] : List UInt8), ([46, 53] : List UInt8), ([45, 45, 49] : List UInt8), ([43, 49] : List UInt8), ([49, 101, 53] : List UInt8), ([78, 97, 78] : List UInt8), ([73, 110, 102] : List UInt8), ([43, 105, 110, 102] : List UInt8), ([45, 110, 97, 110] : List UInt8), ([32, 49] : List UInt8), ([49, 32] : List UInt8), ([49, 46, 50, 46, 51] : List UInt8), ([48, 48, 48, 48, 48, 48, 48, 48, 48, 48, 48, 48, 48, 48, 48, 48] : List UInt8), ([49, 50, 51, 52, 53, 54, 55, 56, 57, 48, 46, 49, 50, 51, 52, 53, 54] : List UInt8), ([48, 120, 49] : List UInt8), ([105, 110, 102, 105, 110, 105, 116, 121] : List UInt8)] : List (List UInt8)).length : Nat) : Int))) ((at? ([([] : List UInt8), ([45] : List UInt8), ([46] : List UInt8), ([49, 46] : List UInt8), ([46, 53] : List UInt8), ([45, 45, 49] : List UInt8), ([43, 49] : List UInt8), ([49, 101, 53] : List UInt8), ([78, 97, 78] : List UInt8), ([73, 110, 102] : List UInt8), ([43, 105, 110, 102] : List UInt8), ([45, 110, 97, 110] : List UInt8), ([32, 49] : List UInt8), ([49, 32] : List UInt8), ([49, 46, 50, 46, 51] : List UInt8), ([48, 48, 48, 48, 48, 48, 48, 48, 48, 48, 48, 48, 48, 48, 48, 48] : List UInt8), ([49, 50, 51, 52, 53, 54, 55, 56, 57, 48, 46, 49, 50, 51, 52, 53, 54] : List UInt8), ([48, 120, 49] : List UInt8), ([105, 110, 102, 105, 110, 105, 116, 121] : List UInt8)] : List (List UInt8)) x10).bind fun w15 => (weigh_Parse k w15).bind fun r19 => (cond (r19.2 != (2 : Int)) (some true) (some (fOrd r19.1 (some 0 : Fl) != some .eq))).bind fun y21 => cond y21 (some (Sum.inr ())) (eyotlaw1_WeighForms_l0 k (IntKind.i64.wrap (x10 + (1 : Int))))) (some (Sum.inl ()))
theorem eyotlaw1_WeighForms_l0_ok   : ∀ (k : Nat) (x10 : Int) (o11 : Option Nat), JC prog noFr 68 [(1, .ref o11 0 (([([] : List UInt8), ([45] : List UInt8), ([46] : List UInt8), ([49, 46] : List UInt8), ([46, 53] : List UInt8), ([45, 45, 49] : List UInt8), ([43, 49] : List UInt8), ([49, 101, 53] : List UInt8), ([78, 97, 78] : List UInt8), ([73, 110, 102] : List UInt8), ([43, 105, 110, 102] : List UInt8), ([45, 110, 97, 110] : List UInt8), ([32, 49] : List UInt8), ([49, 32] : List UInt8), ([49, 46, 50, 46, 51] : List UInt8), ([48, 48, 48, 48, 48, 48, 48, 48, 48, 48, 48, 48, 48, 48, 48, 48] : List UInt8), ([49, 50, 51, 52, 53, 54, 55, 56, 57, 48, 46, 49, 50, 51, 52, 53, 54] : List UInt8), ([48, 120, 49] : List UInt8), ([105, 110, 102, 105, 110, 105, 116, 121] : List UInt8)] : List (List UInt8)).length)), (2, .x (.int .i64 x10))] [⟨o11, 1, vl sD ([([] : List UInt8), ([45] : List UInt8), ([46] : List UInt8), ([49, 46] : List UInt8), ([46, 53] : List UInt8), ([45, 45, 49] : List UInt8), ([43, 49] : List UInt8), ([49, 101, 53] : List UInt8), ([78, 97, 78] : List UInt8), ([73, 110, 102] : List UInt8), ([43, 105, 110, 102] : List UInt8), ([45, 110, 97, 110] : List UInt8), ([32, 49] : List UInt8), ([49, 32] : List UInt8), ([49, 46, 50, 46, 51] : List UInt8), ([48, 48, 48, 48, 48, 48, 48, 48, 48, 48, 48, 48, 48, 48, 48, 48] : List UInt8), ([49, 50, 51, 52, 53, 54, 55, 56, 57, 48, 46, 49, 50, 51, 52, 53, 54] : List UInt8), ([48, 120, 49] : List UInt8), ([105, 110, 102, 105, 110, 105, 116, 121] : List UInt8)] : List (List UInt8))⟩] (.loop pf8_L0) (eyotlaw1_WeighForms_l0 k x10) (fun x => GotA 68 noFr ((fun v ex E R => match v with | Sum.inl v => ex = (.exit 0) ∧ E = [] ∧ R = [] | Sum.inr v => ex = .ret ∧ E = [(0, .x (.bool false))] ∧ R = []) x)) := by
  intro k
  induction k with
  | zero =>
    intro x10 o11
    exact JC.no
  | succ k ih =>
    intro x10 o11
    rw [eyotlaw1_WeighForms_l0]
    refine JC.loop ?_
    refine JC.seq ?_
    refine JC.seq ?_
    refine JC.region fun b12 => ?_
    refine JS.run 4 (by kernel_rfl) ?_
    refine JS.nil ?_
    refine JC.to2 [(1, .ref o11 0 (([([] : List UInt8), ([45] : List UInt8), ([46] : List UInt8), ([49, 46] : List UInt8), ([46, 53] : List UInt8), ([45, 45, 49] : List UInt8), ([43, 49] : List UInt8), ([49, 101, 53] : List UInt8), ([78, 97, 78] : List UInt8), ([73, 110, 102] : List UInt8), ([43, 105, 110, 102] : List UInt8), ([45, 110, 97, 110] : List UInt8), ([32, 49] : List UInt8), ([49, 32] : List UInt8), ([49, 46, 50, 46, 51] : List UInt8), ([48, 48, 48, 48, 48, 48, 48, 48, 48, 48, 48, 48, 48, 48, 48, 48] : List UInt8), ([49, 50, 51, 52, 53, 54, 55, 56, 57, 48, 46, 49, 50, 51, 52, 53, 54] : List UInt8), ([48, 120, 49] : List UInt8), ([105, 110, 102, 105, 110, 105, 116, 121] : List UInt8)] : List (List UInt8)).length)), (2, .x (.int .i64 x10)), (17, .x (.bool (decide (x10 < ((([([] : List UInt8), ([45] : List UInt8), ([46] : List UInt8), ([49, 46] : List UInt8), ([46, 53] : List UInt8), ([45, 45, 49] : List UInt8), ([43, 49] : List UInt8), ([49, 101, 53] : List UInt8), ([78, 97, 78] : List UInt8), ([73, 110, 102] : List UInt8), ([43, 105, 110, 102] : List UInt8), ([45, 110, 97, 110] : List UInt8), ([32, 49] : List UInt8), ([49, 32] : List UInt8), ([49, 46, 50, 46, 51] : List UInt8), ([48, 48, 48, 48, 48, 48, 48, 48, 48, 48, 48, 48, 48, 48, 48, 48] : List UInt8), ([49, 50, 51, 52, 53, 54, 55, 56, 57, 48, 46, 49, 50, 51, 52, 53, 54] : List UInt8), ([48, 120, 49] : List UInt8), ([105, 110, 102, 105, 110, 105, 116, 121] : List UInt8)] : List (List UInt8)).length : Nat) : Int)))))] [⟨o11, 1, vl sD ([([] : List UInt8), ([45] : List UInt8), ([46] : List UInt8), ([49, 46] : List UInt8), ([46, 53] : List UInt8), ([45, 45, 49] : List UInt8), ([43, 49] : List UInt8), ([49, 101, 53] : List UInt8), ([78, 97, 78] : List UInt8), ([73, 110, 102] : List UInt8), ([43, 105, 110, 102] : List UInt8), ([45, 110, 97, 110] : List UInt8), ([32, 49] : List UInt8), ([49, 32] : List UInt8), ([49, 46, 50, 46, 51] : List UInt8), ([48, 48, 48, 48, 48, 48, 48, 48, 48, 48, 48, 48, 48, 48, 48, 48] : List UInt8), ([49, 50, 51, 52, 53, 54, 55, 56, 57, 48, 46, 49, 50, 51, 52, 53, 54] : List UInt8), ([48, 120, 49] : List UInt8), ([105, 110, 102, 105, 110, 105, 116, 121] : List UInt8)] : List (List UInt8))⟩] (by kernel_rfl) (by kernel_rfl) ?_
    refine JC.skipT ?_
    refine JC.cond (e := (decide (x10 < ((([([] : List UInt8), ([45] : List UInt8), ([46] : List UInt8), ([49, 46] : List UInt8), ([46, 53] : List UInt8), ([45, 45, 49] : List UInt8), ([43, 49] : List UInt8), ([49, 101, 53] : List UInt8), ([78, 97, 78] : List UInt8), ([73, 110, 102] : List UInt8), ([43, 105, 110, 102] : List UInt8), ([45, 110, 97, 110] : List UInt8), ([32, 49] : List UInt8), ([49, 32] : List UInt8), ([49, 46, 50, 46, 51] : List UInt8), ([48, 48, 48, 48, 48, 48, 48, 48, 48, 48, 48, 48, 48, 48, 48, 48] : List UInt8), ([49, 50, 51, 52, 53, 54, 55, 56, 57, 48, 46, 49, 50, 51, 52, 53, 54] : List UInt8), ([48, 120, 49] : List UInt8), ([105, 110, 102, 105, 110, 105, 116, 121] : List UInt8)] : List (List UInt8)).length : Nat) : Int)))) (by kernel_rfl) (fun h13 => ?_) (fun h13 => ?_)
    · refine JC.skipT ?_
      refine JC.seq ?_
      refine JC.block ?_
      refine JC.seq ?_
      refine JC.region fun b14 => ?_
      refine JS.run 2 (by kernel_rfl) ?_
      refine JS.idxT (c := sD) (l := ([([] : List UInt8), ([45] : List UInt8), ([46] : List UInt8), ([49, 46] : List UInt8), ([46, 53] : List UInt8), ([45, 45, 49] : List UInt8), ([43, 49] : List UInt8), ([49, 101, 53] : List UInt8), ([78, 97, 78] : List UInt8), ([73, 110, 102] : List UInt8), ([43, 105, 110, 102] : List UInt8), ([45, 110, 97, 110] : List UInt8), ([32, 49] : List UInt8), ([49, 32] : List UInt8), ([49, 46, 50, 46, 51] : List UInt8), ([48, 48, 48, 48, 48, 48, 48, 48, 48, 48, 48, 48, 48, 48, 48, 48] : List UInt8), ([49, 50, 51, 52, 53, 54, 55, 56, 57, 48, 46, 49, 50, 51, 52, 53, 54] : List UInt8), ([48, 120, 49] : List UInt8), ([105, 110, 102, 105, 110, 105, 116, 121] : List UInt8)] : List (List UInt8))) (o := o11) (kk := .i64) (z := x10) 0 (by kernel_rfl) (by kernel_rfl) (by kernel_rfl) (by kernel_rfl) (by kernel_rfl) (fun id17 w15 e18 h16 => ?_)
      subst e18
      refine JS.loadO (id := id17) (sz := 1) (p := x10.toNat) (j := 0) (es := (vl sD ([([] : List UInt8), ([45] : List UInt8), ([46] : List UInt8), ([49, 46] : List UInt8), ([46, 53] : List UInt8), ([45, 45, 49] : List UInt8), ([43, 49] : List UInt8), ([49, 101, 53] : List UInt8), ([78, 97, 78] : List UInt8), ([73, 110, 102] : List UInt8), ([43, 105, 110, 102] : List UInt8), ([45, 110, 97, 110] : List UInt8), ([32, 49] : List UInt8), ([49, 32] : List UInt8), ([49, 46, 50, 46, 51] : List UInt8), ([48, 48, 48, 48, 48, 48, 48, 48, 48, 48, 48, 48, 48, 48, 48, 48] : List UInt8), ([49, 50, 51, 52, 53, 54, 55, 56, 57, 48, 46, 49, 50, 51, 52, 53, 54] : List UInt8), ([48, 120, 49] : List UInt8), ([105, 110, 102, 105, 110, 105, 116, 121] : List UInt8)] : List (List UInt8)))) (e := (cv sD w15)) 0 (by kernel_rfl) (vl_get h16) (by kernel_rfl) (by kernel_rfl) (by kernel_rfl) (by kernel_rfl) ?_
      refine JS.bind fun r19 h20 => ?_
      refine JS.callS [] (weigh_Parse_ok k w15 r19 h20) ⟨rfl, argX (d := (.str w15)) (by kernel_rfl) (by kernel_rfl), trivial⟩ (by kernel_rfl) (by kernel_rfl) (by kernel_rfl) ?_
      refine JS.run 5 (by kernel_rfl) ?_
      refine JS.nil ?_
      refine JC.to2 [(1, .ref (some id17) 0 (([([] : List UInt8), ([45] : List UInt8), ([46] : List UInt8), ([49, 46] : List UInt8), ([46, 53] : List UInt8), ([45, 45, 49] : List UInt8), ([43, 49] : List UInt8), ([49, 101, 53] : List UInt8), ([78, 97, 78] : List UInt8), ([73, 110, 102] : List UInt8), ([43, 105, 110, 102] : List UInt8), ([45, 110, 97, 110] : List UInt8), ([32, 49] : List UInt8), ([49, 32] : List UInt8), ([49, 46, 50, 46, 51] : List UInt8), ([48, 48, 48, 48, 48, 48, 48, 48, 48, 48, 48, 48, 48, 48, 48, 48] : List UInt8), ([49, 50, 51, 52, 53, 54, 55, 56, 57, 48, 46, 49, 50, 51, 52, 53, 54] : List UInt8), ([48, 120, 49] : List UInt8), ([105, 110, 102, 105, 110, 105, 116, 121] : List UInt8)] : List (List UInt8)).length)), (2, .x (.int .i64 x10)), (3, .x (.flt r19.1)), (4, .x (.int .i64 r19.2))] [⟨(some id17), 1, vl sD ([([] : List UInt8), ([45] : List UInt8), ([46] : List UInt8), ([49, 46] : List UInt8), ([46, 53] : List UInt8), ([45, 45, 49] : List UInt8), ([43, 49] : List UInt8), ([49, 101, 53] : List UInt8), ([78, 97, 78] : List UInt8), ([73, 110, 102] : List UInt8), ([43, 105, 110, 102] : List UInt8), ([45, 110, 97, 110] : List UInt8), ([32, 49] : List UInt8), ([49, 32] : List UInt8), ([49, 46, 50, 46, 51] : List UInt8), ([48, 48, 48, 48, 48, 48, 48, 48, 48, 48, 48, 48, 48, 48, 48, 48] : List UInt8), ([49, 50, 51, 52, 53, 54, 55, 56, 57, 48, 46, 49, 50, 51, 52, 53, 54] : List UInt8), ([48, 120, 49] : List UInt8), ([105, 110, 102, 105, 110, 105, 116, 121] : List UInt8)] : List (List UInt8))⟩] (by kernel_rfl) (by kernel_rfl) ?_
      refine JC.skipT ?_
      refine JC.seq ?_
      refine JC.bind (A := fun v ex E R => ex = .normal ∧ E = [(1, .ref (some id17) 0 (([([] : List UInt8), ([45] : List UInt8), ([46] : List UInt8), ([49, 46] : List UInt8), ([46, 53] : List UInt8), ([45, 45, 49] : List UInt8), ([43, 49] : List UInt8), ([49, 101, 53] : List UInt8), ([78, 97, 78] : List UInt8), ([73, 110, 102] : List UInt8), ([43, 105, 110, 102] : List UInt8), ([45, 110, 97, 110] : List UInt8), ([32, 49] : List UInt8), ([49, 32] : List UInt8), ([49, 46, 50, 46, 51] : List UInt8), ([48, 48, 48, 48, 48, 48, 48, 48, 48, 48, 48, 48, 48, 48, 48, 48] : List UInt8), ([49, 50, 51, 52, 53, 54, 55, 56, 57, 48, 46, 49, 50, 51, 52, 53, 54] : List UInt8), ([48, 120, 49] : List UInt8), ([105, 110, 102, 105, 110, 105, 116, 121] : List UInt8)] : List (List UInt8)).length)), (2, .x (.int .i64 x10)), (33, .x (.bool v))] ∧ R = [⟨(some id17), 1, vl sD ([([] : List UInt8), ([45] : List UInt8), ([46] : List UInt8), ([49, 46] : List UInt8), ([46, 53] : List UInt8), ([45, 45, 49] : List UInt8), ([43, 49] : List UInt8), ([49, 101, 53] : List UInt8), ([78, 97, 78] : List UInt8), ([73, 110, 102] : List UInt8), ([43, 105, 110, 102] : List UInt8), ([45, 110, 97, 110] : List UInt8), ([32, 49] : List UInt8), ([49, 32] : List UInt8), ([49, 46, 50, 46, 51] : List UInt8), ([48, 48, 48, 48, 48, 48, 48, 48, 48, 48, 48, 48, 48, 48, 48, 48] : List UInt8), ([49, 50, 51, 52, 53, 54, 55, 56, 57, 48, 46, 49, 50, 51, 52, 53, 54] : List UInt8), ([48, 120, 49] : List UInt8), ([105, 110, 102, 105, 110, 105, 116, 121] : List UInt8)] : List (List UInt8))⟩]) ?_ ?_
      · refine JC.region fun b22 => ?_
        refine JS.run 3 (by kernel_rfl) ?_
        refine JS.split (e := (r19.2 != (2 : Int))) 30 (by kernel_rfl) (fun h23 => ?_) (fun h23 => ?_)
        · refine JS.run 3 (by kernel_rfl) ?_
          refine JS.nil ?_
          refine JC.to2 [(1, .ref (some id17) 0 (([([] : List UInt8), ([45] : List UInt8), ([46] : List UInt8), ([49, 46] : List UInt8), ([46, 53] : List UInt8), ([45, 45, 49] : List UInt8), ([43, 49] : List UInt8), ([49, 101, 53] : List UInt8), ([78, 97, 78] : List UInt8), ([73, 110, 102] : List UInt8), ([43, 105, 110, 102] : List UInt8), ([45, 110, 97, 110] : List UInt8), ([32, 49] : List UInt8), ([49, 32] : List UInt8), ([49, 46, 50, 46, 51] : List UInt8), ([48, 48, 48, 48, 48, 48, 48, 48, 48, 48, 48, 48, 48, 48, 48, 48] : List UInt8), ([49, 50, 51, 52, 53, 54, 55, 56, 57, 48, 46, 49, 50, 51, 52, 53, 54] : List UInt8), ([48, 120, 49] : List UInt8), ([105, 110, 102, 105, 110, 105, 116, 121] : List UInt8)] : List (List UInt8)).length)), (2, .x (.int .i64 x10)), (33, .x (.bool true))] [⟨(some id17), 1, vl sD ([([] : List UInt8), ([45] : List UInt8), ([46] : List UInt8), ([49, 46] : List UInt8), ([46, 53] : List UInt8), ([45, 45, 49] : List UInt8), ([43, 49] : List UInt8), ([49, 101, 53] : List UInt8), ([78, 97, 78] : List UInt8), ([73, 110, 102] : List UInt8), ([43, 105, 110, 102] : List UInt8), ([45, 110, 97, 110] : List UInt8), ([32, 49] : List UInt8), ([49, 32] : List UInt8), ([49, 46, 50, 46, 51] : List UInt8), ([48, 48, 48, 48, 48, 48, 48, 48, 48, 48, 48, 48, 48, 48, 48, 48] : List UInt8), ([49, 50, 51, 52, 53, 54, 55, 56, 57, 48, 46, 49, 50, 51, 52, 53, 54] : List UInt8), ([48, 120, 49] : List UInt8), ([105, 110, 102, 105, 110, 105, 116, 121] : List UInt8)] : List (List UInt8))⟩] (by kernel_rfl) (by kernel_rfl) ?_
          refine JC.to2 [(1, .ref (some id17) 0 (([([] : List UInt8), ([45] : List UInt8), ([46] : List UInt8), ([49, 46] : List UInt8), ([46, 53] : List UInt8), ([45, 45, 49] : List UInt8), ([43, 49] : List UInt8), ([49, 101, 53] : List UInt8), ([78, 97, 78] : List UInt8), ([73, 110, 102] : List UInt8), ([43, 105, 110, 102] : List UInt8), ([45, 110, 97, 110] : List UInt8), ([32, 49] : List UInt8), ([49, 32] : List UInt8), ([49, 46, 50, 46, 51] : List UInt8), ([48, 48, 48, 48, 48, 48, 48, 48, 48, 48, 48, 48, 48, 48, 48, 48] : List UInt8), ([49, 50, 51, 52, 53, 54, 55, 56, 57, 48, 46, 49, 50, 51, 52, 53, 54] : List UInt8), ([48, 120, 49] : List UInt8), ([105, 110, 102, 105, 110, 105, 116, 121] : List UInt8)] : List (List UInt8)).length)), (2, .x (.int .i64 x10)), (33, .x (.bool true))] [⟨(some id17), 1, vl sD ([([] : List UInt8), ([45] : List UInt8), ([46] : List UInt8), ([49, 46] : List UInt8), ([46, 53] : List UInt8), ([45, 45, 49] : List UInt8), ([43, 49] : List UInt8), ([49, 101, 53] : List UInt8), ([78, 97, 78] : List UInt8), ([73, 110, 102] : List UInt8), ([43, 105, 110, 102] : List UInt8), ([45, 110, 97, 110] : List UInt8), ([32, 49] : List UInt8), ([49, 32] : List UInt8), ([49, 46, 50, 46, 51] : List UInt8), ([48, 48, 48, 48, 48, 48, 48, 48, 48, 48, 48, 48, 48, 48, 48, 48] : List UInt8), ([49, 50, 51, 52, 53, 54, 55, 56, 57, 48, 46, 49, 50, 51, 52, 53, 54] : List UInt8), ([48, 120, 49] : List UInt8), ([105, 110, 102, 105, 110, 105, 116, 121] : List UInt8)] : List (List UInt8))⟩] (by kernel_rfl) (by kernel_rfl) ?_
          exact JC.got (ex := .normal) rfl ⟨rfl, rfl, rfl⟩
        · refine JS.run 3 (by kernel_rfl) ?_
          refine JS.nil ?_
          refine JC.to2 [(1, .ref (some id17) 0 (([([] : List UInt8), ([45] : List UInt8), ([46] : List UInt8), ([49, 46] : List UInt8), ([46, 53] : List UInt8), ([45, 45, 49] : List UInt8), ([43, 49] : List UInt8), ([49, 101, 53] : List UInt8), ([78, 97, 78] : List UInt8), ([73, 110, 102] : List UInt8), ([43, 105, 110, 102] : List UInt8), ([45, 110, 97, 110] : List UInt8), ([32, 49] : List UInt8), ([49, 32] : List UInt8), ([49, 46, 50, 46, 51] : List UInt8), ([48, 48, 48, 48, 48, 48, 48, 48, 48, 48, 48, 48, 48, 48, 48, 48] : List UInt8), ([49, 50, 51, 52, 53, 54, 55, 56, 57, 48, 46, 49, 50, 51, 52, 53, 54] : List UInt8), ([48, 120, 49] : List UInt8), ([105, 110, 102, 105, 110, 105, 116, 121] : List UInt8)] : List (List UInt8)).length)), (2, .x (.int .i64 x10)), (33, .x (.bool (fOrd r19.1 (some 0 : Fl) != some .eq)))] [⟨(some id17), 1, vl sD ([([] : List UInt8), ([45] : List UInt8), ([46] : List UInt8), ([49, 46] : List UInt8), ([46, 53] : List UInt8), ([45, 45, 49] : List UInt8), ([43, 49] : List UInt8), ([49, 101, 53] : List UInt8), ([78, 97, 78] : List UInt8), ([73, 110, 102] : List UInt8), ([43, 105, 110, 102] : List UInt8), ([45, 110, 97, 110] : List UInt8), ([32, 49] : List UInt8), ([49, 32] : List UInt8), ([49, 46, 50, 46, 51] : List UInt8), ([48, 48, 48, 48, 48, 48, 48, 48, 48, 48, 48, 48, 48, 48, 48, 48] : List UInt8), ([49, 50, 51, 52, 53, 54, 55, 56, 57, 48, 46, 49, 50, 51, 52, 53, 54] : List UInt8), ([48, 120, 49] : List UInt8), ([105, 110, 102, 105, 110, 105, 116, 121] : List UInt8)] : List (List UInt8))⟩] (by kernel_rfl) (by kernel_rfl) ?_
          refine JC.to2 [(1, .ref (some id17) 0 (([([] : List UInt8), ([45] : List UInt8), ([46] : List UInt8), ([49, 46] : List UInt8), ([46, 53] : List UInt8), ([45, 45, 49] : List UInt8), ([43, 49] : List UInt8), ([49, 101, 53] : List UInt8), ([78, 97, 78] : List UInt8), ([73, 110, 102] : List UInt8), ([43, 105, 110, 102] : List UInt8), ([45, 110, 97, 110] : List UInt8), ([32, 49] : List UInt8), ([49, 32] : List UInt8), ([49, 46, 50, 46, 51] : List UInt8), ([48, 48, 48, 48, 48, 48, 48, 48, 48, 48, 48, 48, 48, 48, 48, 48] : List UInt8), ([49, 50, 51, 52, 53, 54, 55, 56, 57, 48, 46, 49, 50, 51, 52, 53, 54] : List UInt8), ([48, 120, 49] : List UInt8), ([105, 110, 102, 105, 110, 105, 116, 121] : List UInt8)] : List (List UInt8)).length)), (2, .x (.int .i64 x10)), (33, .x (.bool (fOrd r19.1 (some 0 : Fl) != some .eq)))] [⟨(some id17), 1, vl sD ([([] : List UInt8), ([45] : List UInt8), ([46] : List UInt8), ([49, 46] : List UInt8), ([46, 53] : List UInt8), ([45, 45, 49] : List UInt8), ([43, 49] : List UInt8), ([49, 101, 53] : List UInt8), ([78, 97, 78] : List UInt8), ([73, 110, 102] : List UInt8), ([43, 105, 110, 102] : List UInt8), ([45, 110, 97, 110] : List UInt8), ([32, 49] : List UInt8), ([49, 32] : List UInt8), ([49, 46, 50, 46, 51] : List UInt8), ([48, 48, 48, 48, 48, 48, 48, 48, 48, 48, 48, 48, 48, 48, 48, 48] : List UInt8), ([49, 50, 51, 52, 53, 54, 55, 56, 57, 48, 46, 49, 50, 51, 52, 53, 54] : List UInt8), ([48, 120, 49] : List UInt8), ([105, 110, 102, 105, 110, 105, 116, 121] : List UInt8)] : List (List UInt8))⟩] (by kernel_rfl) (by kernel_rfl) ?_
          exact JC.got (ex := .normal) rfl ⟨rfl, rfl, rfl⟩
      · rintro y21 ex E' R' hA
        obtain ⟨rfl, rfl, rfl⟩ := hA
        refine JC.to2 [(1, .ref (some id17) 0 (([([] : List UInt8), ([45] : List UInt8), ([46] : List UInt8), ([49, 46] : List UInt8), ([46, 53] : List UInt8), ([45, 45, 49] : List UInt8), ([43, 49] : List UInt8), ([49, 101, 53] : List UInt8), ([78, 97, 78] : List UInt8), ([73, 110, 102] : List UInt8), ([43, 105, 110, 102] : List UInt8), ([45, 110, 97, 110] : List UInt8), ([32, 49] : List UInt8), ([49, 32] : List UInt8), ([49, 46, 50, 46, 51] : List UInt8), ([48, 48, 48, 48, 48, 48, 48, 48, 48, 48, 48, 48, 48, 48, 48, 48] : List UInt8), ([49, 50, 51, 52, 53, 54, 55, 56, 57, 48, 46, 49, 50, 51, 52, 53, 54] : List UInt8), ([48, 120, 49] : List UInt8), ([105, 110, 102, 105, 110, 105, 116, 121] : List UInt8)] : List (List UInt8)).length)), (2, .x (.int .i64 x10)), (33, .x (.bool y21))] [⟨(some id17), 1, vl sD ([([] : List UInt8), ([45] : List UInt8), ([46] : List UInt8), ([49, 46] : List UInt8), ([46, 53] : List UInt8), ([45, 45, 49] : List UInt8), ([43, 49] : List UInt8), ([49, 101, 53] : List UInt8), ([78, 97, 78] : List UInt8), ([73, 110, 102] : List UInt8), ([43, 105, 110, 102] : List UInt8), ([45, 110, 97, 110] : List UInt8), ([32, 49] : List UInt8), ([49, 32] : List UInt8), ([49, 46, 50, 46, 51] : List UInt8), ([48, 48, 48, 48, 48, 48, 48, 48, 48, 48, 48, 48, 48, 48, 48, 48] : List UInt8), ([49, 50, 51, 52, 53, 54, 55, 56, 57, 48, 46, 49, 50, 51, 52, 53, 54] : List UInt8), ([48, 120, 49] : List UInt8), ([105, 110, 102, 105, 110, 105, 116, 121] : List UInt8)] : List (List UInt8))⟩] (by kernel_rfl) (by kernel_rfl) ?_
        refine JC.skipT ?_
        refine JC.cond (e := y21) (by kernel_rfl) (fun h24 => ?_) (fun h24 => ?_)
        · refine JC.seq ?_
          refine JC.region fun b25 => ?_
          refine JS.run 1 (by kernel_rfl) ?_
          refine JS.nil ?_
          refine JC.drop 0 ?_
          refine JC.to2 [(0, .x (.bool false))] [] (by kernel_rfl) (by kernel_rfl) ?_
          refine JC.skipT ?_
          refine JC.retB ?_
          refine JC.retT ?_
          refine JC.retL ?_
          refine JC.to2 [(0, .x (.bool false))] [] (by kernel_rfl) (by kernel_rfl) ?_
          exact JC.got (ex := .ret) rfl ⟨rfl, rfl, rfl⟩
        · refine JC.skipB ?_
          refine JC.skipT ?_
          refine JC.region fun b26 => ?_
          refine JS.run 3 (by kernel_rfl) ?_
          refine JS.nil ?_
          refine JC.to2 [(1, .ref (some id17) 0 (([([] : List UInt8), ([45] : List UInt8), ([46] : List UInt8), ([49, 46] : List UInt8), ([46, 53] : List UInt8), ([45, 45, 49] : List UInt8), ([43, 49] : List UInt8), ([49, 101, 53] : List UInt8), ([78, 97, 78] : List UInt8), ([73, 110, 102] : List UInt8), ([43, 105, 110, 102] : List UInt8), ([45, 110, 97, 110] : List UInt8), ([32, 49] : List UInt8), ([49, 32] : List UInt8), ([49, 46, 50, 46, 51] : List UInt8), ([48, 48, 48, 48, 48, 48, 48, 48, 48, 48, 48, 48, 48, 48, 48, 48] : List UInt8), ([49, 50, 51, 52, 53, 54, 55, 56, 57, 48, 46, 49, 50, 51, 52, 53, 54] : List UInt8), ([48, 120, 49] : List UInt8), ([105, 110, 102, 105, 110, 105, 116, 121] : List UInt8)] : List (List UInt8)).length)), (2, .x (.int .i64 (IntKind.i64.wrap (x10 + (1 : Int)))))] [⟨(some id17), 1, vl sD ([([] : List UInt8), ([45] : List UInt8), ([46] : List UInt8), ([49, 46] : List UInt8), ([46, 53] : List UInt8), ([45, 45, 49] : List UInt8), ([43, 49] : List UInt8), ([49, 101, 53] : List UInt8), ([78, 97, 78] : List UInt8), ([73, 110, 102] : List UInt8), ([43, 105, 110, 102] : List UInt8), ([45, 110, 97, 110] : List UInt8), ([32, 49] : List UInt8), ([49, 32] : List UInt8), ([49, 46, 50, 46, 51] : List UInt8), ([48, 48, 48, 48, 48, 48, 48, 48, 48, 48, 48, 48, 48, 48, 48, 48] : List UInt8), ([49, 50, 51, 52, 53, 54, 55, 56, 57, 48, 46, 49, 50, 51, 52, 53, 54] : List UInt8), ([48, 120, 49] : List UInt8), ([105, 110, 102, 105, 110, 105, 116, 121] : List UInt8)] : List (List UInt8))⟩] (by kernel_rfl) (by kernel_rfl) ?_
          refine JC.skipL ?_
          refine JC.to2 [(1, .ref (some id17) 0 (([([] : List UInt8), ([45] : List UInt8), ([46] : List UInt8), ([49, 46] : List UInt8), ([46, 53] : List UInt8), ([45, 45, 49] : List UInt8), ([43, 49] : List UInt8), ([49, 101, 53] : List UInt8), ([78, 97, 78] : List UInt8), ([73, 110, 102] : List UInt8), ([43, 105, 110, 102] : List UInt8), ([45, 110, 97, 110] : List UInt8), ([32, 49] : List UInt8), ([49, 32] : List UInt8), ([49, 46, 50, 46, 51] : List UInt8), ([48, 48, 48, 48, 48, 48, 48, 48, 48, 48, 48, 48, 48, 48, 48, 48] : List UInt8), ([49, 50, 51, 52, 53, 54, 55, 56, 57, 48, 46, 49, 50, 51, 52, 53, 54] : List UInt8), ([48, 120, 49] : List UInt8), ([105, 110, 102, 105, 110, 105, 116, 121] : List UInt8)] : List (List UInt8)).length)), (2, .x (.int .i64 (IntKind.i64.wrap (x10 + (1 : Int)))))] [⟨(some id17), 1, vl sD ([([] : List UInt8), ([45] : List UInt8), ([46] : List UInt8), ([49, 46] : List UInt8), ([46, 53] : List UInt8), ([45, 45, 49] : List UInt8), ([43, 49] : List UInt8), ([49, 101, 53] : List UInt8), ([78, 97, 78] : List UInt8), ([73, 110, 102] : List UInt8), ([43, 105, 110, 102] : List UInt8), ([45, 110, 97, 110] : List UInt8), ([32, 49] : List UInt8), ([49, 32] : List UInt8), ([49, 46, 50, 46, 51] : List UInt8), ([48, 48, 48, 48, 48, 48, 48, 48, 48, 48, 48, 48, 48, 48, 48, 48] : List UInt8), ([49, 50, 51, 52, 53, 54, 55, 56, 57, 48, 46, 49, 50, 51, 52, 53, 54] : List UInt8), ([48, 120, 49] : List UInt8), ([105, 110, 102, 105, 110, 105, 116, 121] : List UInt8)] : List (List UInt8))⟩] (by kernel_rfl) (by kernel_rfl) ?_
          exact ih (IntKind.i64.wrap (x10 + (1 : Int))) (some id17)
    · refine JC.exitT ?_
      refine JC.exitL ?_
      refine JC.drop 0 ?_
      refine JC.to2 [] [] (by kernel_rfl) (by kernel_rfl) ?_
      exact JC.got (ex := (.exit 0)) rfl ⟨rfl, rfl, rfl⟩
def eyotlaw1_WeighForms (k : Nat)  : Option Bool :=
  (eyotlaw1_begun k).bind fun r3 => cond (!r3) (some false) ((eyotlaw1_WeighForms_l0 k (0 : Int)).bind fun v => (match v with | Sum.inl _ => (weigh_Parse k ([48, 48, 48, 48, 48, 48, 48, 48, 48, 48, 48, 48, 48, 48, 55] : List UInt8)).bind fun r28 => (weigh_Parse k ([49, 50, 51, 52, 53, 54, 55, 56, 57, 46, 48, 49, 50, 51, 52, 53] : List UInt8)).bind fun r31 => (weigh_Parse k ([48, 46, 49] : List UInt8)).bind fun r34 => (cond (r28.2 == (0 : Int)) (cond (fOrd r28.1 (some 4619567317775286272 : Fl) == some .eq) (cond (r31.2 == (0 : Int)) (cond (fOrd r31.1 (some 4728057454347985963 : Fl) == some .eq) (cond (r34.2 == (0 : Int)) (some (fOrd r34.1 (some 4591870180066957722 : Fl) == some .eq)) (some false)) (some false)) (some false)) (some false)) (some false)).bind fun y36 => some y36 | Sum.inr _ => some false))
theorem eyotlaw1_WeighForms_ok (k : Nat)  : ∀ r, eyotlaw1_WeighForms k = some r → CallOk prog 8 [] false [.sc (.x (.bool r))] := by
  refine CallOk.ofB (pf := pf8) (rs := [.tmp 0]) (Res := fun (r : Bool) => [.sc (.x (.bool r))]) rfl rfl rfl rfl rfl ?_
  unfold eyotlaw1_WeighForms pf8
  refine JC.seq ?_
  refine JC.region fun b1 => ?_
  refine JS.run 1 (by kernel_rfl) ?_
  refine JS.nil ?_
  refine JC.to2 [] [] (by kernel_rfl) (by kernel_rfl) ?_
  refine JC.skipT ?_
  refine JC.seq ?_
  refine JC.seq ?_
  refine JC.region fun b2 => ?_
  refine JS.bind fun r3 h4 => ?_
  refine JS.callS [] (eyotlaw1_begun_ok k r3 h4) trivial (by kernel_rfl) (by kernel_rfl) (by kernel_rfl) ?_
  refine JS.run 1 (by kernel_rfl) ?_
  refine JS.nil ?_
  refine JC.to2 [(12, .x (.bool (!r3)))] [] (by kernel_rfl) (by kernel_rfl) ?_
  refine JC.skipT ?_
  refine JC.cond (e := (!r3)) (by kernel_rfl) (fun h5 => ?_) (fun h5 => ?_)
  · refine JC.seq ?_
    refine JC.region fun b6 => ?_
    refine JS.run 1 (by kernel_rfl) ?_
    refine JS.nil ?_
    refine JC.to2 [(0, .x (.bool false))] [] (by kernel_rfl) (by kernel_rfl) ?_
    refine JC.skipT ?_
    refine JC.retT ?_
    exact JC.finB (ex := .ret) (vs := [.x (.bool false)]) (is := []) rfl ret_ne ⟨(by kernel_rfl), trivial⟩ (Outs.sc rfl Outs.nil)
  · refine JC.skipT ?_
    refine JC.seq ?_
    refine JC.region fun b7 => ?_
    refine JS.buildSlice (c := sD) ([([] : List UInt8), ([45] : List UInt8), ([46] : List UInt8), ([49, 46] : List UInt8), ([46, 53] : List UInt8), ([45, 45, 49] : List UInt8), ([43, 49] : List UInt8), ([49, 101, 53] : List UInt8), ([78, 97, 78] : List UInt8), ([73, 110, 102] : List UInt8), ([43, 105, 110, 102] : List UInt8), ([45, 110, 97, 110] : List UInt8), ([32, 49] : List UInt8), ([49, 32] : List UInt8), ([49, 46, 50, 46, 51] : List UInt8), ([48, 48, 48, 48, 48, 48, 48, 48, 48, 48, 48, 48, 48, 48, 48, 48] : List UInt8), ([49, 50, 51, 52, 53, 54, 55, 56, 57, 48, 46, 49, 50, 51, 52, 53, 54] : List UInt8), ([48, 120, 49] : List UInt8), ([105, 110, 102, 105, 110, 105, 116, 121] : List UInt8)] : List (List UInt8)) (by kernel_rfl) (by kernel_rfl) (by kernel_rfl) (by kernel_rfl) (by kernel_rfl) (fun id8 => ?_)
    refine JS.run 1 (by kernel_rfl) ?_
    refine JS.nil ?_
    refine JC.to2 [(1, .ref (some id8) 0 (([([] : List UInt8), ([45] : List UInt8), ([46] : List UInt8), ([49, 46] : List UInt8), ([46, 53] : List UInt8), ([45, 45, 49] : List UInt8), ([43, 49] : List UInt8), ([49, 101, 53] : List UInt8), ([78, 97, 78] : List UInt8), ([73, 110, 102] : List UInt8), ([43, 105, 110, 102] : List UInt8), ([45, 110, 97, 110] : List UInt8), ([32, 49] : List UInt8), ([49, 32] : List UInt8), ([49, 46, 50, 46, 51] : List UInt8), ([48, 48, 48, 48, 48, 48, 48, 48, 48, 48, 48, 48, 48, 48, 48, 48] : List UInt8), ([49, 50, 51, 52, 53, 54, 55, 56, 57, 48, 46, 49, 50, 51, 52, 53, 54] : List UInt8), ([48, 120, 49] : List UInt8), ([105, 110, 102, 105, 110, 105, 116, 121] : List UInt8)] : List (List UInt8)).length))] [⟨(some id8), 1, vl sD ([([] : List UInt8), ([45] : List UInt8), ([46] : List UInt8), ([49, 46] : List UInt8), ([46, 53] : List UInt8), ([45, 45, 49] : List UInt8), ([43, 49] : List UInt8), ([49, 101, 53] : List UInt8), ([78, 97, 78] : List UInt8), ([73, 110, 102] : List UInt8), ([43, 105, 110, 102] : List UInt8), ([45, 110, 97, 110] : List UInt8), ([32, 49] : List UInt8), ([49, 32] : List UInt8), ([49, 46, 50, 46, 51] : List UInt8), ([48, 48, 48, 48, 48, 48, 48, 48, 48, 48, 48, 48, 48, 48, 48, 48] : List UInt8), ([49, 50, 51, 52, 53, 54, 55, 56, 57, 48, 46, 49, 50, 51, 52, 53, 54] : List UInt8), ([48, 120, 49] : List UInt8), ([105, 110, 102, 105, 110, 105, 116, 121] : List UInt8)] : List (List UInt8))⟩] (by kernel_rfl) (by kernel_rfl) ?_
    refine JC.skipT ?_
    refine JC.seq ?_
    refine JC.seq ?_
    refine JC.region fun b9 => ?_
    refine JS.run 1 (by kernel_rfl) ?_
    refine JS.nil ?_
    refine JC.to2 [(1, .ref (some id8) 0 (([([] : List UInt8), ([45] : List UInt8), ([46] : List UInt8), ([49, 46] : List UInt8), ([46, 53] : List UInt8), ([45, 45, 49] : List UInt8), ([43, 49] : List UInt8), ([49, 101, 53] : List UInt8), ([78, 97, 78] : List UInt8), ([73, 110, 102] : List UInt8), ([43, 105, 110, 102] : List UInt8), ([45, 110, 97, 110] : List UInt8), ([32, 49] : List UInt8), ([49, 32] : List UInt8), ([49, 46, 50, 46, 51] : List UInt8), ([48, 48, 48, 48, 48, 48, 48, 48, 48, 48, 48, 48, 48, 48, 48, 48] : List UInt8), ([49, 50, 51, 52, 53, 54, 55, 56, 57, 48, 46, 49, 50, 51, 52, 53, 54] : List UInt8), ([48, 120, 49] : List UInt8), ([105, 110, 102, 105, 110, 105, 116, 121] : List UInt8)] : List (List UInt8)).length)), (2, .x (.int .i64 (0 : Int)))] [⟨(some id8), 1, vl sD ([([] : List UInt8), ([45] : List UInt8), ([46] : List UInt8), ([49, 46] : List UInt8), ([46, 53] : List UInt8), ([45, 45, 49] : List UInt8), ([43, 49] : List UInt8), ([49, 101, 53] : List UInt8), ([78, 97, 78] : List UInt8), ([73, 110, 102] : List UInt8), ([43, 105, 110, 102] : List UInt8), ([45, 110, 97, 110] : List UInt8), ([32, 49] : List UInt8), ([49, 32] : List UInt8), ([49, 46, 50, 46, 51] : List UInt8), ([48, 48, 48, 48, 48, 48, 48, 48, 48, 48, 48, 48, 48, 48, 48, 48] : List UInt8), ([49, 50, 51, 52, 53, 54, 55, 56, 57, 48, 46, 49, 50, 51, 52, 53, 54] : List UInt8), ([48, 120, 49] : List UInt8), ([105, 110, 102, 105, 110, 105, 116, 121] : List UInt8)] : List (List UInt8))⟩] (by kernel_rfl) (by kernel_rfl) ?_
    refine JC.skipT ?_
    refine JC.block ?_
    refine JC.to2 [(1, .ref (some id8) 0 (([([] : List UInt8), ([45] : List UInt8), ([46] : List UInt8), ([49, 46] : List UInt8), ([46, 53] : List UInt8), ([45, 45, 49] : List UInt8), ([43, 49] : List UInt8), ([49, 101, 53] : List UInt8), ([78, 97, 78] : List UInt8), ([73, 110, 102] : List UInt8), ([43, 105, 110, 102] : List UInt8), ([45, 110, 97, 110] : List UInt8), ([32, 49] : List UInt8), ([49, 32] : List UInt8), ([49, 46, 50, 46, 51] : List UInt8), ([48, 48, 48, 48, 48, 48, 48, 48, 48, 48, 48, 48, 48, 48, 48, 48] : List UInt8), ([49, 50, 51, 52, 53, 54, 55, 56, 57, 48, 46, 49, 50, 51, 52, 53, 54] : List UInt8), ([48, 120, 49] : List UInt8), ([105, 110, 102, 105, 110, 105, 116, 121] : List UInt8)] : List (List UInt8)).length)), (2, .x (.int .i64 (0 : Int)))] [⟨(some id8), 1, vl sD ([([] : List UInt8), ([45] : List UInt8), ([46] : List UInt8), ([49, 46] : List UInt8), ([46, 53] : List UInt8), ([45, 45, 49] : List UInt8), ([43, 49] : List UInt8), ([49, 101, 53] : List UInt8), ([78, 97, 78] : List UInt8), ([73, 110, 102] : List UInt8), ([43, 105, 110, 102] : List UInt8), ([45, 110, 97, 110] : List UInt8), ([32, 49] : List UInt8), ([49, 32] : List UInt8), ([49, 46, 50, 46, 51] : List UInt8), ([48, 48, 48, 48, 48, 48, 48, 48, 48, 48, 48, 48, 48, 48, 48, 48] : List UInt8), ([49, 50, 51, 52, 53, 54, 55, 56, 57, 48, 46, 49, 50, 51, 52, 53, 54] : List UInt8), ([48, 120, 49] : List UInt8), ([105, 110, 102, 105, 110, 105, 116, 121] : List UInt8)] : List (List UInt8))⟩] (by kernel_rfl) (by kernel_rfl) ?_
    refine JC.to2 [(1, .ref (some id8) 0 (([([] : List UInt8), ([45] : List UInt8), ([46] : List UInt8), ([49, 46] : List UInt8), ([46, 53] : List UInt8), ([45, 45, 49] : List UInt8), ([43, 49] : List UInt8), ([49, 101, 53] : List UInt8), ([78, 97, 78] : List UInt8), ([73, 110, 102] : List UInt8), ([43, 105, 110, 102] : List UInt8), ([45, 110, 97, 110] : List UInt8), ([32, 49] : List UInt8), ([49, 32] : List UInt8), ([49, 46, 50, 46, 51] : List UInt8), ([48, 48, 48, 48, 48, 48, 48, 48, 48, 48, 48, 48, 48, 48, 48, 48] : List UInt8), ([49, 50, 51, 52, 53, 54, 55, 56, 57, 48, 46, 49, 50, 51, 52, 53, 54] : List UInt8), ([48, 120, 49] : List UInt8), ([105, 110, 102, 105, 110, 105, 116, 121] : List UInt8)] : List (List UInt8)).length)), (2, .x (.int .i64 (0 : Int)))] [⟨(some id8), 1, vl sD ([([] : List UInt8), ([45] : List UInt8), ([46] : List UInt8), ([49, 46] : List UInt8), ([46, 53] : List UInt8), ([45, 45, 49] : List UInt8), ([43, 49] : List UInt8), ([49, 101, 53] : List UInt8), ([78, 97, 78] : List UInt8), ([73, 110, 102] : List UInt8), ([43, 105, 110, 102] : List UInt8), ([45, 110, 97, 110] : List UInt8), ([32, 49] : List UInt8), ([49, 32] : List UInt8), ([49, 46, 50, 46, 51] : List UInt8), ([48, 48, 48, 48, 48, 48, 48, 48, 48, 48, 48, 48, 48, 48, 48, 48] : List UInt8), ([49, 50, 51, 52, 53, 54, 55, 56, 57, 48, 46, 49, 50, 51, 52, 53, 54] : List UInt8), ([48, 120, 49] : List UInt8), ([105, 110, 102, 105, 110, 105, 116, 121] : List UInt8)] : List (List UInt8))⟩] (by kernel_rfl) (by kernel_rfl) ?_
    refine JC.bind (A := fun v ex E R => match v with | Sum.inl v => ex = (.exit 0) ∧ E = [] ∧ R = [] | Sum.inr v => ex = .ret ∧ E = [(0, .x (.bool false))] ∧ R = []) (eyotlaw1_WeighForms_l0_ok k (0 : Int) (some id8)) ?_
    rintro v ex E' R' hA
    rcases v with _ | _
    · obtain ⟨rfl, rfl, rfl⟩ := hA
      refine JC.to2 [] [] (by kernel_rfl) (by kernel_rfl) ?_
      refine JC.exitB ?_
      refine JC.skipT ?_
      refine JC.seq ?_
      refine JC.region fun b27 => ?_
      refine JS.bind fun r28 h29 => ?_
      refine JS.callS [] (weigh_Parse_ok k ([48, 48, 48, 48, 48, 48, 48, 48, 48, 48, 48, 48, 48, 48, 55] : List UInt8) r28 h29) ⟨rfl, argX (d := (.str ([48, 48, 48, 48, 48, 48, 48, 48, 48, 48, 48, 48, 48, 48, 55] : List UInt8))) (by kernel_rfl) (by kernel_rfl), trivial⟩ (by kernel_rfl) (by kernel_rfl) (by kernel_rfl) ?_
      refine JS.run 5 (by kernel_rfl) ?_
      refine JS.nil ?_
      refine JC.to2 [(5, .x (.flt r28.1)), (6, .x (.int .i64 r28.2))] [] (by kernel_rfl) (by kernel_rfl) ?_
      refine JC.skipT ?_
      refine JC.seq ?_
      refine JC.region fun b30 => ?_
      refine JS.bind fun r31 h32 => ?_
      refine JS.callS [] (weigh_Parse_ok k ([49, 50, 51, 52, 53, 54, 55, 56, 57, 46, 48, 49, 50, 51, 52, 53] : List UInt8) r31 h32) ⟨rfl, argX (d := (.str ([49, 50, 51, 52, 53, 54, 55, 56, 57, 46, 48, 49, 50, 51, 52, 53] : List UInt8))) (by kernel_rfl) (by kernel_rfl), trivial⟩ (by kernel_rfl) (by kernel_rfl) (by kernel_rfl) ?_
      refine JS.run 5 (by kernel_rfl) ?_
      refine JS.nil ?_
      refine JC.to2 [(5, .x (.flt r28.1)), (6, .x (.int .i64 r28.2)), (7, .x (.flt r31.1)), (8, .x (.int .i64 r31.2))] [] (by kernel_rfl) (by kernel_rfl) ?_
      refine JC.skipT ?_
      refine JC.seq ?_
      refine JC.region fun b33 => ?_
      refine JS.bind fun r34 h35 => ?_
      refine JS.callS [] (weigh_Parse_ok k ([48, 46, 49] : List UInt8) r34 h35) ⟨rfl, argX (d := (.str ([48, 46, 49] : List UInt8))) (by kernel_rfl) (by kernel_rfl), trivial⟩ (by kernel_rfl) (by kernel_rfl) (by kernel_rfl) ?_
      refine JS.run 5 (by kernel_rfl) ?_
      refine JS.nil ?_
      refine JC.to2 [(5, .x (.flt r28.1)), (6, .x (.int .i64 r28.2)), (7, .x (.flt r31.1)), (8, .x (.int .i64 r31.2)), (9, .x (.flt r34.1)), (10, .x (.int .i64 r34.2))] [] (by kernel_rfl) (by kernel_rfl) ?_
      refine JC.skipT ?_
      refine JC.seq ?_
      refine JC.bind (A := fun v ex E R => ex = .normal ∧ E = [(0, .x (.bool v))] ∧ R = []) ?_ ?_
      · refine JC.region fun b37 => ?_
        refine JS.run 3 (by kernel_rfl) ?_
        refine JS.split (e := (r28.2 == (0 : Int))) 48 (by kernel_rfl) (fun h38 => ?_) (fun h38 => ?_)
        · refine JS.run 4 (by kernel_rfl) ?_
          refine JS.split (e := (fOrd r28.1 (some 4619567317775286272 : Fl) == some .eq)) 52 (by kernel_rfl) (fun h39 => ?_) (fun h39 => ?_)
          · refine JS.run 4 (by kernel_rfl) ?_
            refine JS.split (e := (r31.2 == (0 : Int))) 56 (by kernel_rfl) (fun h40 => ?_) (fun h40 => ?_)
            · refine JS.run 4 (by kernel_rfl) ?_
              refine JS.split (e := (fOrd r31.1 (some 4728057454347985963 : Fl) == some .eq)) 60 (by kernel_rfl) (fun h41 => ?_) (fun h41 => ?_)
              · refine JS.run 4 (by kernel_rfl) ?_
                refine JS.split (e := (r34.2 == (0 : Int))) 64 (by kernel_rfl) (fun h42 => ?_) (fun h42 => ?_)
                · refine JS.run 4 (by kernel_rfl) ?_
                  refine JS.nil ?_
                  refine JC.to2 [(0, .x (.bool (fOrd r34.1 (some 4591870180066957722 : Fl) == some .eq)))] [] (by kernel_rfl) (by kernel_rfl) ?_
                  refine JC.to2 [(0, .x (.bool (fOrd r34.1 (some 4591870180066957722 : Fl) == some .eq)))] [] (by kernel_rfl) (by kernel_rfl) ?_
                  exact JC.got (ex := .normal) rfl ⟨rfl, rfl, rfl⟩
                · refine JS.run 4 (by kernel_rfl) ?_
                  refine JS.nil ?_
                  refine JC.to2 [(0, .x (.bool false))] [] (by kernel_rfl) (by kernel_rfl) ?_
                  refine JC.to2 [(0, .x (.bool false))] [] (by kernel_rfl) (by kernel_rfl) ?_
                  exact JC.got (ex := .normal) rfl ⟨rfl, rfl, rfl⟩
              · refine JS.run 8 (by kernel_rfl) ?_
                refine JS.nil ?_
                refine JC.to2 [(0, .x (.bool false))] [] (by kernel_rfl) (by kernel_rfl) ?_
                refine JC.to2 [(0, .x (.bool false))] [] (by kernel_rfl) (by kernel_rfl) ?_
                exact JC.got (ex := .normal) rfl ⟨rfl, rfl, rfl⟩
            · refine JS.run 12 (by kernel_rfl) ?_
              refine JS.nil ?_
              refine JC.to2 [(0, .x (.bool false))] [] (by kernel_rfl) (by kernel_rfl) ?_
              refine JC.to2 [(0, .x (.bool false))] [] (by kernel_rfl) (by kernel_rfl) ?_
              exact JC.got (ex := .normal) rfl ⟨rfl, rfl, rfl⟩
          · refine JS.run 16 (by kernel_rfl) ?_
            refine JS.nil ?_
            refine JC.to2 [(0, .x (.bool false))] [] (by kernel_rfl) (by kernel_rfl) ?_
            refine JC.to2 [(0, .x (.bool false))] [] (by kernel_rfl) (by kernel_rfl) ?_
            exact JC.got (ex := .normal) rfl ⟨rfl, rfl, rfl⟩
        · refine JS.run 20 (by kernel_rfl) ?_
          refine JS.nil ?_
          refine JC.to2 [(0, .x (.bool false))] [] (by kernel_rfl) (by kernel_rfl) ?_
          refine JC.to2 [(0, .x (.bool false))] [] (by kernel_rfl) (by kernel_rfl) ?_
          exact JC.got (ex := .normal) rfl ⟨rfl, rfl, rfl⟩
      · rintro y36 ex E' R' hA
        obtain ⟨rfl, rfl, rfl⟩ := hA
        refine JC.to2 [(0, .x (.bool y36))] [] (by kernel_rfl) (by kernel_rfl) ?_
        refine JC.skipT ?_
        exact JC.finB (ex := .ret) (vs := [.x (.bool y36)]) (is := []) rfl ret_ne ⟨(by kernel_rfl), trivial⟩ (Outs.sc rfl Outs.nil)
    · obtain ⟨rfl, rfl, rfl⟩ := hA
      refine JC.to2 [(0, .x (.bool false))] [] (by kernel_rfl) (by kernel_rfl) ?_
      refine JC.retB ?_
      refine JC.retT ?_
      exact JC.finB (ex := .ret) (vs := [.x (.bool false)]) (is := []) rfl ret_ne ⟨(by kernel_rfl), trivial⟩ (Outs.sc rfl Outs.nil)
end Go.Pi

