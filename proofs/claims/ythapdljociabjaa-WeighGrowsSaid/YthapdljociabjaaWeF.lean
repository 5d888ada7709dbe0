import Derived.Test.YthapdljociabjaaWeT
import Derived.Test.YthapdljociabjaaWeP
import Derived.KernelRfl
/-
  THE FUNCTIONS, as terms over lists.
-/
set_option linter.all false
namespace Go.Pi
set_option maxRecDepth 100000
set_option linter.unusedVariables false
set_option maxHeartbeats 2000000
/-! math.NaN -/
def math_NaN (k : Nat)  : Option Fl :=
  some (some (9221120237041090561 : Int).toNat : Fl)
theorem math_NaN_ok (k : Nat)  : ∀ r, math_NaN k = some r → CallOk prog 22 [] false [.sc (.x (.flt r))] := by
  refine CallOk.ofB (pf := pf22) (rs := [.tmp 0]) (Res := fun (r : Fl) => [.sc (.x (.flt r))]) rfl rfl rfl rfl rfl ?_
  unfold math_NaN pf22
  refine JC.seq ?_
  refine JC.region fun b1 => ?_
  refine JS.run 1 (by kernel_rfl) ?_
  refine JS.nil ?_
  refine JC.to2 [] [] (by kernel_rfl) (by kernel_rfl) ?_
  refine JC.skipT ?_
  refine JC.seq ?_
  refine JC.region fun b2 => ?_
  refine JS.run 2 (by kernel_rfl) ?_
  refine JS.nil ?_
  refine JC.to2 [(0, .x (.flt (some (9221120237041090561 : Int).toNat : Fl)))] [] (by kernel_rfl) (by kernel_rfl) ?_
  refine JC.skipT ?_
  exact JC.finB (ex := .ret) (vs := [.x (.flt (some (9221120237041090561 : Int).toNat : Fl))]) (is := []) rfl ret_ne ⟨(by kernel_rfl), trivial⟩ (Outs.sc rfl Outs.nil)
/-! math.Signbit -/
def math_Signbit (k : Nat) (a0 : Fl) : Option Bool :=
  fcase a0 (fun w3 => some (decide ((IntKind.i64.wrap ((w3 : Nat) : Int)) < (0 : Int)))) (none)
theorem math_Signbit_ok (k : Nat) (a0 : Fl) : ∀ r, math_Signbit k a0 = some r → CallOk prog 29 [.x (.flt a0)] false [.sc (.x (.bool r))] := by
  refine CallOk.ofB (pf := pf29) (rs := [.tmp 2]) (Res := fun (r : Bool) => [.sc (.x (.bool r))]) rfl rfl rfl rfl rfl ?_
  unfold math_Signbit pf29
  refine JC.seq ?_
  refine JC.region fun b1 => ?_
  refine JS.run 1 (by kernel_rfl) ?_
  refine JS.nil ?_
  refine JC.to2 [(0, .x (.flt a0))] [] (by kernel_rfl) (by kernel_rfl) ?_
  refine JC.skipT ?_
  refine JC.seq ?_
  refine JC.region fun b2 => ?_
  refine JS.run 1 (by kernel_rfl) ?_
  refine JS.bits (e := a0) (by kernel_rfl) (by kernel_rfl) (by kernel_rfl) (fun w3 h4 => ?_) (fun h4 => ?_)
  · refine JS.run 3 (by kernel_rfl) ?_
    refine JS.nil ?_
    refine JC.to2 [(2, .x (.bool (decide ((IntKind.i64.wrap ((w3 : Nat) : Int)) < (0 : Int)))))] [] (by kernel_rfl) (by kernel_rfl) ?_
    refine JC.skipT ?_
    exact JC.finB (ex := .ret) (vs := [.x (.bool (decide ((IntKind.i64.wrap ((w3 : Nat) : Int)) < (0 : Int))))]) (is := []) rfl ret_ne ⟨(by kernel_rfl), trivial⟩ (Outs.sc rfl Outs.nil)
  · exact JS.no
/-! math.Abs -/
def math_Abs (k : Nat) (a0 : Fl) : Option Fl :=
  fcase a0 (fun w3 => some (some (iandn .u64 ((w3 : Nat) : Int) (9223372036854775808 : Int)).toNat : Fl)) (none)
theorem math_Abs_ok (k : Nat) (a0 : Fl) : ∀ r, math_Abs k a0 = some r → CallOk prog 34 [.x (.flt a0)] false [.sc (.x (.flt r))] := by
  refine CallOk.ofB (pf := pf34) (rs := [.tmp 2]) (Res := fun (r : Fl) => [.sc (.x (.flt r))]) rfl rfl rfl rfl rfl ?_
  unfold math_Abs pf34
  refine JC.seq ?_
  refine JC.region fun b1 => ?_
  refine JS.run 1 (by kernel_rfl) ?_
  refine JS.nil ?_
  refine JC.to2 [(0, .x (.flt a0))] [] (by kernel_rfl) (by kernel_rfl) ?_
  refine JC.skipT ?_
  refine JC.seq ?_
  refine JC.region fun b2 => ?_
  refine JS.run 1 (by kernel_rfl) ?_
  refine JS.bits (e := a0) (by kernel_rfl) (by kernel_rfl) (by kernel_rfl) (fun w3 h4 => ?_) (fun h4 => ?_)
  · refine JS.run 3 (by kernel_rfl) ?_
    refine JS.nil ?_
    refine JC.to2 [(2, .x (.flt (some (iandn .u64 ((w3 : Nat) : Int) (9223372036854775808 : Int)).toNat : Fl)))] [] (by kernel_rfl) (by kernel_rfl) ?_
    refine JC.skipT ?_
    exact JC.finB (ex := .ret) (vs := [.x (.flt (some (iandn .u64 ((w3 : Nat) : Int) (9223372036854775808 : Int)).toNat : Fl))]) (is := []) rfl ret_ne ⟨(by kernel_rfl), trivial⟩ (Outs.sc rfl Outs.nil)
  · exact JS.no
/-! math.IsInf -/
def math_IsInf (k : Nat) (a0 : Fl) (a1 : Int) : Option Bool :=
  cond (a1 == (0 : Int)) ((math_Abs k a0).bind fun r5 => some (fOrd r5 (some 9218868437227405311 : Fl) == some .gt)) (cond (decide (a1 < (0 : Int))) (some (fOrd (fNeg a0) (some 9218868437227405311 : Fl) == some .gt)) (some (fOrd a0 (some 9218868437227405311 : Fl) == some .gt)))
theorem math_IsInf_ok (k : Nat) (a0 : Fl) (a1 : Int) : ∀ r, math_IsInf k a0 a1 = some r → CallOk prog 31 [.x (.flt a0), .x (.int .i64 a1)] false [.sc (.x (.bool r))] := by
  refine CallOk.ofB (pf := pf31) (rs := [.tmp 4]) (Res := fun (r : Bool) => [.sc (.x (.bool r))]) rfl rfl rfl rfl rfl ?_
  unfold math_IsInf pf31
  refine JC.seq ?_
  refine JC.region fun b1 => ?_
  refine JS.run 1 (by kernel_rfl) ?_
  refine JS.nil ?_
  refine JC.to2 [(0, .x (.flt a0)), (1, .x (.int .i64 a1))] [] (by kernel_rfl) (by kernel_rfl) ?_
  refine JC.skipT ?_
  refine JC.seq ?_
  refine JC.seq ?_
  refine JC.region fun b2 => ?_
  refine JS.run 2 (by kernel_rfl) ?_
  refine JS.nil ?_
  refine JC.to2 [(0, .x (.flt a0)), (1, .x (.int .i64 a1)), (6, .x (.bool (a1 == (0 : Int))))] [] (by kernel_rfl) (by kernel_rfl) ?_
  refine JC.skipT ?_
  refine JC.cond (e := (a1 == (0 : Int))) (by kernel_rfl) (fun h3 => ?_) (fun h3 => ?_)
  · refine JC.region fun b4 => ?_
    refine JS.run 1 (by kernel_rfl) ?_
    refine JS.bind fun r5 h6 => ?_
    refine JS.callS [] (math_Abs_ok k a0 r5 h6) ⟨rfl, argX (d := (.flt a0)) (by kernel_rfl) (by kernel_rfl), trivial⟩ (by kernel_rfl) (by kernel_rfl) (by kernel_rfl) ?_
    refine JS.run 1 (by kernel_rfl) ?_
    refine JS.nil ?_
    refine JC.to2 [(0, .x (.flt r5))] [] (by kernel_rfl) (by kernel_rfl) ?_
    refine JC.skipT ?_
    refine JC.seq ?_
    refine JC.region fun b7 => ?_
    refine JS.run 3 (by kernel_rfl) ?_
    refine JS.nil ?_
    refine JC.to2 [(4, .x (.bool (fOrd r5 (some 9218868437227405311 : Fl) == some .gt)))] [] (by kernel_rfl) (by kernel_rfl) ?_
    refine JC.skipT ?_
    exact JC.finB (ex := .ret) (vs := [.x (.bool (fOrd r5 (some 9218868437227405311 : Fl) == some .gt))]) (is := []) rfl ret_ne ⟨(by kernel_rfl), trivial⟩ (Outs.sc rfl Outs.nil)
  · refine JC.seq ?_
    refine JC.region fun b8 => ?_
    refine JS.run 2 (by kernel_rfl) ?_
    refine JS.nil ?_
    refine JC.to2 [(0, .x (.flt a0)), (10, .x (.bool (decide (a1 < (0 : Int)))))] [] (by kernel_rfl) (by kernel_rfl) ?_
    refine JC.skipT ?_
    refine JC.cond (e := (decide (a1 < (0 : Int)))) (by kernel_rfl) (fun h9 => ?_) (fun h9 => ?_)
    · refine JC.region fun b10 => ?_
      refine JS.run 3 (by kernel_rfl) ?_
      refine JS.nil ?_
      refine JC.to2 [(0, .x (.flt (fNeg a0)))] [] (by kernel_rfl) (by kernel_rfl) ?_
      refine JC.skipT ?_
      refine JC.seq ?_
      refine JC.region fun b11 => ?_
      refine JS.run 3 (by kernel_rfl) ?_
      refine JS.nil ?_
      refine JC.to2 [(4, .x (.bool (fOrd (fNeg a0) (some 9218868437227405311 : Fl) == some .gt)))] [] (by kernel_rfl) (by kernel_rfl) ?_
      refine JC.skipT ?_
      exact JC.finB (ex := .ret) (vs := [.x (.bool (fOrd (fNeg a0) (some 9218868437227405311 : Fl) == some .gt))]) (is := []) rfl ret_ne ⟨(by kernel_rfl), trivial⟩ (Outs.sc rfl Outs.nil)
    · refine JC.skipT ?_
      refine JC.seq ?_
      refine JC.region fun b12 => ?_
      refine JS.run 3 (by kernel_rfl) ?_
      refine JS.nil ?_
      refine JC.to2 [(4, .x (.bool (fOrd a0 (some 9218868437227405311 : Fl) == some .gt)))] [] (by kernel_rfl) (by kernel_rfl) ?_
      refine JC.skipT ?_
      exact JC.finB (ex := .ret) (vs := [.x (.bool (fOrd a0 (some 9218868437227405311 : Fl) == some .gt))]) (is := []) rfl ret_ne ⟨(by kernel_rfl), trivial⟩ (Outs.sc rfl Outs.nil)
/-! cmp.isNaN[uint64] -/
def cmp_isNaN (k : Nat) (a0 : Int) : Option Bool :=
  some (a0 != a0)
theorem cmp_isNaN_ok (k : Nat) (a0 : Int) : ∀ r, cmp_isNaN k a0 = some r → CallOk prog 33 [.x (.int .u64 a0)] false [.sc (.x (.bool r))] := by
  refine CallOk.ofB (pf := pf33) (rs := [.tmp 2]) (Res := fun (r : Bool) => [.sc (.x (.bool r))]) rfl rfl rfl rfl rfl ?_
  unfold cmp_isNaN pf33
  refine JC.seq ?_
  refine JC.region fun b1 => ?_
  refine JS.run 1 (by kernel_rfl) ?_
  refine JS.nil ?_
  refine JC.to2 [(0, .x (.int .u64 a0))] [] (by kernel_rfl) (by kernel_rfl) ?_
  refine JC.skipT ?_
  refine JC.seq ?_
  refine JC.region fun b2 => ?_
  refine JS.run 4 (by kernel_rfl) ?_
  refine JS.nil ?_
  refine JC.to2 [(2, .x (.bool (a0 != a0)))] [] (by kernel_rfl) (by kernel_rfl) ?_
  refine JC.skipT ?_
  exact JC.finB (ex := .ret) (vs := [.x (.bool (a0 != a0))]) (is := []) rfl ret_ne ⟨(by kernel_rfl), trivial⟩ (Outs.sc rfl Outs.nil)
/-! cmp.Compare[uint64] -/
def cmp_Compare (k : Nat) (a0 : Int) (a1 : Int) : Option Int :=
  (cmp_isNaN k a0).bind fun r3 => (cmp_isNaN k a1).bind fun r6 => cond r3 (cond r6 (some (0 : Int)) (some (-1 : Int))) (cond r6 (some (1 : Int)) (cond (decide (a0 < a1)) (some (-1 : Int)) (cond (decide (a0 > a1)) (some (1 : Int)) (some (0 : Int)))))
theorem cmp_Compare_ok (k : Nat) (a0 : Int) (a1 : Int) : ∀ r, cmp_Compare k a0 a1 = some r → CallOk prog 28 [.x (.int .u64 a0), .x (.int .u64 a1)] false [.sc (.x (.int .i64 r))] := by
  refine CallOk.ofB (pf := pf28) (rs := [.tmp 4]) (Res := fun (r : Int) => [.sc (.x (.int .i64 r))]) rfl rfl rfl rfl rfl ?_
  unfold cmp_Compare pf28
  refine JC.seq ?_
  refine JC.region fun b1 => ?_
  refine JS.run 1 (by kernel_rfl) ?_
  refine JS.nil ?_
  refine JC.to2 [(0, .x (.int .u64 a0)), (1, .x (.int .u64 a1))] [] (by kernel_rfl) (by kernel_rfl) ?_
  refine JC.skipT ?_
  refine JC.seq ?_
  refine JC.region fun b2 => ?_
  refine JS.run 1 (by kernel_rfl) ?_
  refine JS.bind fun r3 h4 => ?_
  refine JS.callS [] (cmp_isNaN_ok k a0 r3 h4) ⟨rfl, argX (d := (.int .u64 a0)) (by kernel_rfl) (by kernel_rfl), trivial⟩ (by kernel_rfl) (by kernel_rfl) (by kernel_rfl) ?_
  refine JS.run 1 (by kernel_rfl) ?_
  refine JS.nil ?_
  refine JC.to2 [(0, .x (.int .u64 a0)), (1, .x (.int .u64 a1)), (5, .x (.bool r3))] [] (by kernel_rfl) (by kernel_rfl) ?_
  refine JC.skipT ?_
  refine JC.seq ?_
  refine JC.region fun b5 => ?_
  refine JS.run 1 (by kernel_rfl) ?_
  refine JS.bind fun r6 h7 => ?_
  refine JS.callS [] (cmp_isNaN_ok k a1 r6 h7) ⟨rfl, argX (d := (.int .u64 a1)) (by kernel_rfl) (by kernel_rfl), trivial⟩ (by kernel_rfl) (by kernel_rfl) (by kernel_rfl) ?_
  refine JS.run 1 (by kernel_rfl) ?_
  refine JS.nil ?_
  refine JC.to2 [(0, .x (.int .u64 a0)), (1, .x (.int .u64 a1)), (5, .x (.bool r3)), (6, .x (.bool r6))] [] (by kernel_rfl) (by kernel_rfl) ?_
  refine JC.skipT ?_
  refine JC.seq ?_
  refine JC.seq ?_
  refine JC.region fun b8 => ?_
  refine JS.run 1 (by kernel_rfl) ?_
  refine JS.nil ?_
  refine JC.to2 [(0, .x (.int .u64 a0)), (1, .x (.int .u64 a1)), (6, .x (.bool r6)), (11, .x (.bool r3))] [] (by kernel_rfl) (by kernel_rfl) ?_
  refine JC.skipT ?_
  refine JC.cond (e := r3) (by kernel_rfl) (fun h9 => ?_) (fun h9 => ?_)
  · refine JC.seq ?_
    refine JC.seq ?_
    refine JC.region fun b10 => ?_
    refine JS.run 1 (by kernel_rfl) ?_
    refine JS.nil ?_
    refine JC.to2 [(12, .x (.bool r6))] [] (by kernel_rfl) (by kernel_rfl) ?_
    refine JC.skipT ?_
    refine JC.cond (e := r6) (by kernel_rfl) (fun h11 => ?_) (fun h11 => ?_)
    · refine JC.seq ?_
      refine JC.region fun b12 => ?_
      refine JS.run 1 (by kernel_rfl) ?_
      refine JS.nil ?_
      refine JC.to2 [(4, .x (.int .i64 (0 : Int)))] [] (by kernel_rfl) (by kernel_rfl) ?_
      refine JC.skipT ?_
      refine JC.retT ?_
      refine JC.retT ?_
      exact JC.finB (ex := .ret) (vs := [.x (.int .i64 (0 : Int))]) (is := []) rfl ret_ne ⟨(by kernel_rfl), trivial⟩ (Outs.sc rfl Outs.nil)
    · refine JC.skipT ?_
      refine JC.seq ?_
      refine JC.region fun b13 => ?_
      refine JS.run 1 (by kernel_rfl) ?_
      refine JS.nil ?_
      refine JC.to2 [(4, .x (.int .i64 (-1 : Int)))] [] (by kernel_rfl) (by kernel_rfl) ?_
      refine JC.skipT ?_
      refine JC.retT ?_
      exact JC.finB (ex := .ret) (vs := [.x (.int .i64 (-1 : Int))]) (is := []) rfl ret_ne ⟨(by kernel_rfl), trivial⟩ (Outs.sc rfl Outs.nil)
  · refine JC.skipT ?_
    refine JC.seq ?_
    refine JC.seq ?_
    refine JC.region fun b14 => ?_
    refine JS.run 1 (by kernel_rfl) ?_
    refine JS.nil ?_
    refine JC.to2 [(0, .x (.int .u64 a0)), (1, .x (.int .u64 a1)), (13, .x (.bool r6))] [] (by kernel_rfl) (by kernel_rfl) ?_
    refine JC.skipT ?_
    refine JC.cond (e := r6) (by kernel_rfl) (fun h15 => ?_) (fun h15 => ?_)
    · refine JC.seq ?_
      refine JC.region fun b16 => ?_
      refine JS.run 1 (by kernel_rfl) ?_
      refine JS.nil ?_
      refine JC.to2 [(4, .x (.int .i64 (1 : Int)))] [] (by kernel_rfl) (by kernel_rfl) ?_
      refine JC.skipT ?_
      refine JC.retT ?_
      exact JC.finB (ex := .ret) (vs := [.x (.int .i64 (1 : Int))]) (is := []) rfl ret_ne ⟨(by kernel_rfl), trivial⟩ (Outs.sc rfl Outs.nil)
    · refine JC.skipT ?_
      refine JC.seq ?_
      refine JC.seq ?_
      refine JC.region fun b17 => ?_
      refine JS.run 3 (by kernel_rfl) ?_
      refine JS.nil ?_
      refine JC.to2 [(0, .x (.int .u64 a0)), (1, .x (.int .u64 a1)), (16, .x (.bool (decide (a0 < a1))))] [] (by kernel_rfl) (by kernel_rfl) ?_
      refine JC.skipT ?_
      refine JC.cond (e := (decide (a0 < a1))) (by kernel_rfl) (fun h18 => ?_) (fun h18 => ?_)
      · refine JC.seq ?_
        refine JC.region fun b19 => ?_
        refine JS.run 1 (by kernel_rfl) ?_
        refine JS.nil ?_
        refine JC.to2 [(4, .x (.int .i64 (-1 : Int)))] [] (by kernel_rfl) (by kernel_rfl) ?_
        refine JC.skipT ?_
        refine JC.retT ?_
        exact JC.finB (ex := .ret) (vs := [.x (.int .i64 (-1 : Int))]) (is := []) rfl ret_ne ⟨(by kernel_rfl), trivial⟩ (Outs.sc rfl Outs.nil)
      · refine JC.skipT ?_
        refine JC.seq ?_
        refine JC.seq ?_
        refine JC.region fun b20 => ?_
        refine JS.run 3 (by kernel_rfl) ?_
        refine JS.nil ?_
        refine JC.to2 [(19, .x (.bool (decide (a0 > a1))))] [] (by kernel_rfl) (by kernel_rfl) ?_
        refine JC.skipT ?_
        refine JC.cond (e := (decide (a0 > a1))) (by kernel_rfl) (fun h21 => ?_) (fun h21 => ?_)
        · refine JC.seq ?_
          refine JC.region fun b22 => ?_
          refine JS.run 1 (by kernel_rfl) ?_
          refine JS.nil ?_
          refine JC.to2 [(4, .x (.int .i64 (1 : Int)))] [] (by kernel_rfl) (by kernel_rfl) ?_
          refine JC.skipT ?_
          refine JC.retT ?_
          exact JC.finB (ex := .ret) (vs := [.x (.int .i64 (1 : Int))]) (is := []) rfl ret_ne ⟨(by kernel_rfl), trivial⟩ (Outs.sc rfl Outs.nil)
        · refine JC.skipT ?_
          refine JC.seq ?_
          refine JC.region fun b23 => ?_
          refine JS.run 1 (by kernel_rfl) ?_
          refine JS.nil ?_
          refine JC.to2 [(4, .x (.int .i64 (0 : Int)))] [] (by kernel_rfl) (by kernel_rfl) ?_
          refine JC.skipT ?_
          exact JC.finB (ex := .ret) (vs := [.x (.int .i64 (0 : Int))]) (is := []) rfl ret_ne ⟨(by kernel_rfl), trivial⟩ (Outs.sc rfl Outs.nil)
/-! eyot/weigh.Key -/
def weigh_Key (k : Nat) (a0 : Fl) : Option Int :=
  fcase a0 (fun w3 => cond (fOrd a0 a0 != some .eq) (some (18446744073709551615 : Int)) (cond (decide (((w3 : Nat) : Int) ≥ (9223372036854775808 : Int))) (some (ixor .u64 (IntKind.max .u64) ((w3 : Nat) : Int))) (some (ixor .u64 ((w3 : Nat) : Int) (9223372036854775808 : Int))))) (cond (fOrd a0 a0 != some .eq) (some (18446744073709551615 : Int)) (none))
theorem weigh_Key_ok (k : Nat) (a0 : Fl) : ∀ r, weigh_Key k a0 = some r → CallOk prog 17 [.x (.flt a0)] false [.sc (.x (.int .u64 r))] := by
  refine CallOk.ofB (pf := pf17) (rs := [.tmp 2]) (Res := fun (r : Int) => [.sc (.x (.int .u64 r))]) rfl rfl rfl rfl rfl ?_
  unfold weigh_Key pf17
  refine JC.seq ?_
  refine JC.region fun b1 => ?_
  refine JS.run 1 (by kernel_rfl) ?_
  refine JS.nil ?_
  refine JC.to2 [(0, .x (.flt a0))] [] (by kernel_rfl) (by kernel_rfl) ?_
  refine JC.skipT ?_
  refine JC.seq ?_
  refine JC.region fun b2 => ?_
  refine JS.run 1 (by kernel_rfl) ?_
  refine JS.bits (e := a0) (by kernel_rfl) (by kernel_rfl) (by kernel_rfl) (fun w3 h4 => ?_) (fun h4 => ?_)
  · refine JS.run 1 (by kernel_rfl) ?_
    refine JS.nil ?_
    refine JC.to2 [(0, .x (.flt a0)), (3, .x (.int .u64 ((w3 : Nat) : Int)))] [] (by kernel_rfl) (by kernel_rfl) ?_
    refine JC.skipT ?_
    refine JC.seq ?_
    refine JC.block ?_
    refine JC.seq ?_
    refine JC.region fun b5 => ?_
    refine JS.run 4 (by kernel_rfl) ?_
    refine JS.nil ?_
    refine JC.to2 [(3, .x (.int .u64 ((w3 : Nat) : Int))), (6, .x (.bool (fOrd a0 a0 != some .eq)))] [] (by kernel_rfl) (by kernel_rfl) ?_
    refine JC.skipT ?_
    refine JC.cond (e := (fOrd a0 a0 != some .eq)) (by kernel_rfl) (fun h6 => ?_) (fun h6 => ?_)
    · refine JC.seq ?_
      refine JC.region fun b7 => ?_
      refine JS.run 1 (by kernel_rfl) ?_
      refine JS.nil ?_
      refine JC.to2 [(2, .x (.int .u64 (18446744073709551615 : Int)))] [] (by kernel_rfl) (by kernel_rfl) ?_
      refine JC.skipT ?_
      refine JC.retB ?_
      refine JC.retT ?_
      exact JC.finB (ex := .ret) (vs := [.x (.int .u64 (18446744073709551615 : Int))]) (is := []) rfl ret_ne ⟨(by kernel_rfl), trivial⟩ (Outs.sc rfl Outs.nil)
    · refine JC.seq ?_
      refine JC.region fun b8 => ?_
      refine JS.run 3 (by kernel_rfl) ?_
      refine JS.nil ?_
      refine JC.to2 [(3, .x (.int .u64 ((w3 : Nat) : Int))), (10, .x (.bool (decide (((w3 : Nat) : Int) ≥ (9223372036854775808 : Int)))))] [] (by kernel_rfl) (by kernel_rfl) ?_
      refine JC.skipT ?_
      refine JC.cond (e := (decide (((w3 : Nat) : Int) ≥ (9223372036854775808 : Int)))) (by kernel_rfl) (fun h9 => ?_) (fun h9 => ?_)
      · refine JC.seq ?_
        refine JC.region fun b10 => ?_
        refine JS.run 3 (by kernel_rfl) ?_
        refine JS.nil ?_
        refine JC.to2 [(2, .x (.int .u64 (ixor .u64 (IntKind.max .u64) ((w3 : Nat) : Int))))] [] (by kernel_rfl) (by kernel_rfl) ?_
        refine JC.skipT ?_
        refine JC.retB ?_
        refine JC.retT ?_
        exact JC.finB (ex := .ret) (vs := [.x (.int .u64 (ixor .u64 (IntKind.max .u64) ((w3 : Nat) : Int)))]) (is := []) rfl ret_ne ⟨(by kernel_rfl), trivial⟩ (Outs.sc rfl Outs.nil)
      · refine JC.skipB ?_
        refine JC.skipT ?_
        refine JC.seq ?_
        refine JC.region fun b11 => ?_
        refine JS.run 3 (by kernel_rfl) ?_
        refine JS.nil ?_
        refine JC.to2 [(2, .x (.int .u64 (ixor .u64 ((w3 : Nat) : Int) (9223372036854775808 : Int))))] [] (by kernel_rfl) (by kernel_rfl) ?_
        refine JC.skipT ?_
        exact JC.finB (ex := .ret) (vs := [.x (.int .u64 (ixor .u64 ((w3 : Nat) : Int) (9223372036854775808 : Int)))]) (is := []) rfl ret_ne ⟨(by kernel_rfl), trivial⟩ (Outs.sc rfl Outs.nil)
  · refine JS.run 1 (by kernel_rfl) ?_
    refine JS.nil ?_
    refine JC.to2 [(0, .x (.flt a0))] [] (by kernel_rfl) (by kernel_rfl) ?_
    refine JC.skipT ?_
    refine JC.seq ?_
    refine JC.block ?_
    refine JC.seq ?_
    refine JC.region fun b12 => ?_
    refine JS.run 4 (by kernel_rfl) ?_
    refine JS.nil ?_
    refine JC.to2 [(6, .x (.bool (fOrd a0 a0 != some .eq)))] [] (by kernel_rfl) (by kernel_rfl) ?_
    refine JC.skipT ?_
    refine JC.cond (e := (fOrd a0 a0 != some .eq)) (by kernel_rfl) (fun h13 => ?_) (fun h13 => ?_)
    · refine JC.seq ?_
      refine JC.region fun b14 => ?_
      refine JS.run 1 (by kernel_rfl) ?_
      refine JS.nil ?_
      refine JC.to2 [(2, .x (.int .u64 (18446744073709551615 : Int)))] [] (by kernel_rfl) (by kernel_rfl) ?_
      refine JC.skipT ?_
      refine JC.retB ?_
      refine JC.retT ?_
      exact JC.finB (ex := .ret) (vs := [.x (.int .u64 (18446744073709551615 : Int))]) (is := []) rfl ret_ne ⟨(by kernel_rfl), trivial⟩ (Outs.sc rfl Outs.nil)
    · exact JC.no
/-! eyot/weigh.Order -/
def weigh_Order (k : Nat) (a0 : Fl) (a1 : Fl) : Option Int :=
  (weigh_Key k a0).bind fun r3 => (weigh_Key k a1).bind fun r5 => (cmp_Compare k r3 r5).bind fun r7 => some r7
theorem weigh_Order_ok (k : Nat) (a0 : Fl) (a1 : Fl) : ∀ r, weigh_Order k a0 a1 = some r → CallOk prog 15 [.x (.flt a0), .x (.flt a1)] false [.sc (.x (.int .i64 r))] := by
  refine CallOk.ofB (pf := pf15) (rs := [.tmp 4]) (Res := fun (r : Int) => [.sc (.x (.int .i64 r))]) rfl rfl rfl rfl rfl ?_
  unfold weigh_Order pf15
  refine JC.seq ?_
  refine JC.region fun b1 => ?_
  refine JS.run 1 (by kernel_rfl) ?_
  refine JS.nil ?_
  refine JC.to2 [(0, .x (.flt a0)), (1, .x (.flt a1))] [] (by kernel_rfl) (by kernel_rfl) ?_
  refine JC.skipT ?_
  refine JC.seq ?_
  refine JC.region fun b2 => ?_
  refine JS.run 1 (by kernel_rfl) ?_
  refine JS.bind fun r3 h4 => ?_
  refine JS.callS [] (weigh_Key_ok k a0 r3 h4) ⟨rfl, argX (d := (.flt a0)) (by kernel_rfl) (by kernel_rfl), trivial⟩ (by kernel_rfl) (by kernel_rfl) (by kernel_rfl) ?_
  refine JS.run 1 (by kernel_rfl) ?_
  refine JS.bind fun r5 h6 => ?_
  refine JS.callS [] (weigh_Key_ok k a1 r5 h6) ⟨rfl, argX (d := (.flt a1)) (by kernel_rfl) (by kernel_rfl), trivial⟩ (by kernel_rfl) (by kernel_rfl) (by kernel_rfl) ?_
  refine JS.bind fun r7 h8 => ?_
  refine JS.callS [] (cmp_Compare_ok k r3 r5 r7 h8) ⟨rfl, argX (d := (.int .u64 r3)) (by kernel_rfl) (by kernel_rfl), rfl, argX (d := (.int .u64 r5)) (by kernel_rfl) (by kernel_rfl), trivial⟩ (by kernel_rfl) (by kernel_rfl) (by kernel_rfl) ?_
  refine JS.run 1 (by kernel_rfl) ?_
  refine JS.nil ?_
  refine JC.to2 [(4, .x (.int .i64 r7))] [] (by kernel_rfl) (by kernel_rfl) ?_
  refine JC.skipT ?_
  exact JC.finB (ex := .ret) (vs := [.x (.int .i64 r7)]) (is := []) rfl ret_ne ⟨(by kernel_rfl), trivial⟩ (Outs.sc rfl Outs.nil)
/-! eyot/weigh.Same -/
def weigh_Same (k : Nat) (a0 : Fl) (a1 : Fl) : Option Bool :=
  (weigh_Order k a0 a1).bind fun r3 => some (r3 == (0 : Int))
theorem weigh_Same_ok (k : Nat) (a0 : Fl) (a1 : Fl) : ∀ r, weigh_Same k a0 a1 = some r → CallOk prog 12 [.x (.flt a0), .x (.flt a1)] false [.sc (.x (.bool r))] := by
  refine CallOk.ofB (pf := pf12) (rs := [.tmp 4]) (Res := fun (r : Bool) => [.sc (.x (.bool r))]) rfl rfl rfl rfl rfl ?_
  unfold weigh_Same pf12
  refine JC.seq ?_
  refine JC.region fun b1 => ?_
  refine JS.run 1 (by kernel_rfl) ?_
  refine JS.nil ?_
  refine JC.to2 [(0, .x (.flt a0)), (1, .x (.flt a1))] [] (by kernel_rfl) (by kernel_rfl) ?_
  refine JC.skipT ?_
  refine JC.seq ?_
  refine JC.region fun b2 => ?_
  refine JS.run 2 (by kernel_rfl) ?_
  refine JS.bind fun r3 h4 => ?_
  refine JS.callS [] (weigh_Order_ok k a0 a1 r3 h4) ⟨rfl, argX (d := (.flt a0)) (by kernel_rfl) (by kernel_rfl), rfl, argX (d := (.flt a1)) (by kernel_rfl) (by kernel_rfl), trivial⟩ (by kernel_rfl) (by kernel_rfl) (by kernel_rfl) ?_
  refine JS.run 2 (by kernel_rfl) ?_
  refine JS.nil ?_
  refine JC.to2 [(4, .x (.bool (r3 == (0 : Int))))] [] (by kernel_rfl) (by kernel_rfl) ?_
  refine JC.skipT ?_
  exact JC.finB (ex := .ret) (vs := [.x (.bool (r3 == (0 : Int)))]) (is := []) rfl ret_ne ⟨(by kernel_rfl), trivial⟩ (Outs.sc rfl Outs.nil)
/-! eyot/weigh.Of -/
def weigh_Of (k : Nat) (a0 : Int) : Option Fl :=
  cond (decide (a0 < (9223372036854775808 : Int))) ((weigh_Key k (some (ixor .u64 (IntKind.max .u64) a0).toNat : Fl)).bind fun r8 => cond (r8 != a0) ((math_NaN k).bind fun r12 => some r12) (some (some (ixor .u64 (IntKind.max .u64) a0).toNat : Fl))) ((weigh_Key k (some (ixor .u64 a0 (9223372036854775808 : Int)).toNat : Fl)).bind fun r17 => cond (r17 != a0) ((math_NaN k).bind fun r21 => some r21) (some (some (ixor .u64 a0 (9223372036854775808 : Int)).toNat : Fl)))
theorem weigh_Of_ok (k : Nat) (a0 : Int) : ∀ r, weigh_Of k a0 = some r → CallOk prog 14 [.x (.int .u64 a0)] false [.sc (.x (.flt r))] := by
  refine CallOk.ofB (pf := pf14) (rs := [.tmp 2]) (Res := fun (r : Fl) => [.sc (.x (.flt r))]) rfl rfl rfl rfl rfl ?_
  unfold weigh_Of pf14
  refine JC.seq ?_
  refine JC.region fun b1 => ?_
  refine JS.run 1 (by kernel_rfl) ?_
  refine JS.nil ?_
  refine JC.to2 [(0, .x (.int .u64 a0))] [] (by kernel_rfl) (by kernel_rfl) ?_
  refine JC.skipT ?_
  refine JC.seq ?_
  refine JC.region fun b2 => ?_
  refine JS.run 3 (by kernel_rfl) ?_
  refine JS.nil ?_
  refine JC.to2 [(0, .x (.int .u64 a0)), (3, .x (.int .u64 (ixor .u64 a0 (9223372036854775808 : Int))))] [] (by kernel_rfl) (by kernel_rfl) ?_
  refine JC.skipT ?_
  refine JC.seq ?_
  refine JC.seq ?_
  refine JC.region fun b3 => ?_
  refine JS.run 2 (by kernel_rfl) ?_
  refine JS.nil ?_
  refine JC.to2 [(0, .x (.int .u64 a0)), (3, .x (.int .u64 (ixor .u64 a0 (9223372036854775808 : Int)))), (8, .x (.bool (decide (a0 < (9223372036854775808 : Int)))))] [] (by kernel_rfl) (by kernel_rfl) ?_
  refine JC.skipT ?_
  refine JC.cond (e := (decide (a0 < (9223372036854775808 : Int)))) (by kernel_rfl) (fun h4 => ?_) (fun h4 => ?_)
  · refine JC.region fun b5 => ?_
    refine JS.run 3 (by kernel_rfl) ?_
    refine JS.nil ?_
    refine JC.to2 [(0, .x (.int .u64 a0)), (3, .x (.int .u64 (ixor .u64 (IntKind.max .u64) a0)))] [] (by kernel_rfl) (by kernel_rfl) ?_
    refine JC.skipT ?_
    refine JC.seq ?_
    refine JC.region fun b6 => ?_
    refine JS.run 3 (by kernel_rfl) ?_
    refine JS.nil ?_
    refine JC.to2 [(0, .x (.int .u64 a0)), (4, .x (.flt (some (ixor .u64 (IntKind.max .u64) a0).toNat : Fl)))] [] (by kernel_rfl) (by kernel_rfl) ?_
    refine JC.skipT ?_
    refine JC.seq ?_
    refine JC.seq ?_
    refine JC.region fun b7 => ?_
    refine JS.run 1 (by kernel_rfl) ?_
    refine JS.bind fun r8 h9 => ?_
    refine JS.callS [] (weigh_Key_ok k (some (ixor .u64 (IntKind.max .u64) a0).toNat : Fl) r8 h9) ⟨rfl, argX (d := (.flt (some (ixor .u64 (IntKind.max .u64) a0).toNat : Fl))) (by kernel_rfl) (by kernel_rfl), trivial⟩ (by kernel_rfl) (by kernel_rfl) (by kernel_rfl) ?_
    refine JS.run 2 (by kernel_rfl) ?_
    refine JS.nil ?_
    refine JC.to2 [(4, .x (.flt (some (ixor .u64 (IntKind.max .u64) a0).toNat : Fl))), (16, .x (.bool (r8 != a0)))] [] (by kernel_rfl) (by kernel_rfl) ?_
    refine JC.skipT ?_
    refine JC.cond (e := (r8 != a0)) (by kernel_rfl) (fun h10 => ?_) (fun h10 => ?_)
    · refine JC.seq ?_
      refine JC.region fun b11 => ?_
      refine JS.bind fun r12 h13 => ?_
      refine JS.callS [] (math_NaN_ok k r12 h13) trivial (by kernel_rfl) (by kernel_rfl) (by kernel_rfl) ?_
      refine JS.run 1 (by kernel_rfl) ?_
      refine JS.nil ?_
      refine JC.to2 [(2, .x (.flt r12))] [] (by kernel_rfl) (by kernel_rfl) ?_
      refine JC.skipT ?_
      refine JC.retT ?_
      exact JC.finB (ex := .ret) (vs := [.x (.flt r12)]) (is := []) rfl ret_ne ⟨(by kernel_rfl), trivial⟩ (Outs.sc rfl Outs.nil)
    · refine JC.skipT ?_
      refine JC.seq ?_
      refine JC.region fun b14 => ?_
      refine JS.run 2 (by kernel_rfl) ?_
      refine JS.nil ?_
      refine JC.to2 [(2, .x (.flt (some (ixor .u64 (IntKind.max .u64) a0).toNat : Fl)))] [] (by kernel_rfl) (by kernel_rfl) ?_
      refine JC.skipT ?_
      exact JC.finB (ex := .ret) (vs := [.x (.flt (some (ixor .u64 (IntKind.max .u64) a0).toNat : Fl))]) (is := []) rfl ret_ne ⟨(by kernel_rfl), trivial⟩ (Outs.sc rfl Outs.nil)
  · refine JC.skipT ?_
    refine JC.seq ?_
    refine JC.region fun b15 => ?_
    refine JS.run 3 (by kernel_rfl) ?_
    refine JS.nil ?_
    refine JC.to2 [(0, .x (.int .u64 a0)), (4, .x (.flt (some (ixor .u64 a0 (9223372036854775808 : Int)).toNat : Fl)))] [] (by kernel_rfl) (by kernel_rfl) ?_
    refine JC.skipT ?_
    refine JC.seq ?_
    refine JC.seq ?_
    refine JC.region fun b16 => ?_
    refine JS.run 1 (by kernel_rfl) ?_
    refine JS.bind fun r17 h18 => ?_
    refine JS.callS [] (weigh_Key_ok k (some (ixor .u64 a0 (9223372036854775808 : Int)).toNat : Fl) r17 h18) ⟨rfl, argX (d := (.flt (some (ixor .u64 a0 (9223372036854775808 : Int)).toNat : Fl))) (by kernel_rfl) (by kernel_rfl), trivial⟩ (by kernel_rfl) (by kernel_rfl) (by kernel_rfl) ?_
    refine JS.run 2 (by kernel_rfl) ?_
    refine JS.nil ?_
    refine JC.to2 [(4, .x (.flt (some (ixor .u64 a0 (9223372036854775808 : Int)).toNat : Fl))), (16, .x (.bool (r17 != a0)))] [] (by kernel_rfl) (by kernel_rfl) ?_
    refine JC.skipT ?_
    refine JC.cond (e := (r17 != a0)) (by kernel_rfl) (fun h19 => ?_) (fun h19 => ?_)
    · refine JC.seq ?_
      refine JC.region fun b20 => ?_
      refine JS.bind fun r21 h22 => ?_
      refine JS.callS [] (math_NaN_ok k r21 h22) trivial (by kernel_rfl) (by kernel_rfl) (by kernel_rfl) ?_
      refine JS.run 1 (by kernel_rfl) ?_
      refine JS.nil ?_
      refine JC.to2 [(2, .x (.flt r21))] [] (by kernel_rfl) (by kernel_rfl) ?_
      refine JC.skipT ?_
      refine JC.retT ?_
      exact JC.finB (ex := .ret) (vs := [.x (.flt r21)]) (is := []) rfl ret_ne ⟨(by kernel_rfl), trivial⟩ (Outs.sc rfl Outs.nil)
    · refine JC.skipT ?_
      refine JC.seq ?_
      refine JC.region fun b23 => ?_
      refine JS.run 2 (by kernel_rfl) ?_
      refine JS.nil ?_
      refine JC.to2 [(2, .x (.flt (some (ixor .u64 a0 (9223372036854775808 : Int)).toNat : Fl)))] [] (by kernel_rfl) (by kernel_rfl) ?_
      refine JC.skipT ?_
      exact JC.finB (ex := .ret) (vs := [.x (.flt (some (ixor .u64 a0 (9223372036854775808 : Int)).toNat : Fl))]) (is := []) rfl ret_ne ⟨(by kernel_rfl), trivial⟩ (Outs.sc rfl Outs.nil)
/-! eyot/weigh.Kind -/
def weigh_Kind (k : Nat) (a0 : Fl) : Option Int :=
  cond (fOrd a0 a0 != some .eq) (some (0 : Int)) ((math_IsInf k a0 (-1 : Int)).bind fun r6 => cond r6 (some (1 : Int)) (cond (fOrd a0 (some 0 : Fl) == some .lt) (some (2 : Int)) ((math_IsInf k a0 (1 : Int)).bind fun r14 => cond r14 (some (6 : Int)) (cond (fOrd a0 (some 0 : Fl) == some .gt) (some (5 : Int)) ((math_Signbit k a0).bind fun r22 => cond r22 (some (3 : Int)) (some (4 : Int)))))))
theorem weigh_Kind_ok (k : Nat) (a0 : Fl) : ∀ r, weigh_Kind k a0 = some r → CallOk prog 20 [.x (.flt a0)] false [.sc (.x (.int .i64 r))] := by
  refine CallOk.ofB (pf := pf20) (rs := [.tmp 2]) (Res := fun (r : Int) => [.sc (.x (.int .i64 r))]) rfl rfl rfl rfl rfl ?_
  unfold weigh_Kind pf20
  refine JC.seq ?_
  refine JC.region fun b1 => ?_
  refine JS.run 1 (by kernel_rfl) ?_
  refine JS.nil ?_
  refine JC.to2 [(0, .x (.flt a0))] [] (by kernel_rfl) (by kernel_rfl) ?_
  refine JC.skipT ?_
  refine JC.seq ?_
  refine JC.block ?_
  refine JC.seq ?_
  refine JC.region fun b2 => ?_
  refine JS.run 4 (by kernel_rfl) ?_
  refine JS.nil ?_
  refine JC.to2 [(0, .x (.flt a0)), (3, .x (.bool (fOrd a0 a0 != some .eq)))] [] (by kernel_rfl) (by kernel_rfl) ?_
  refine JC.skipT ?_
  refine JC.cond (e := (fOrd a0 a0 != some .eq)) (by kernel_rfl) (fun h3 => ?_) (fun h3 => ?_)
  · refine JC.seq ?_
    refine JC.region fun b4 => ?_
    refine JS.run 1 (by kernel_rfl) ?_
    refine JS.nil ?_
    refine JC.to2 [(2, .x (.int .i64 (0 : Int)))] [] (by kernel_rfl) (by kernel_rfl) ?_
    refine JC.skipT ?_
    refine JC.retB ?_
    refine JC.retT ?_
    exact JC.finB (ex := .ret) (vs := [.x (.int .i64 (0 : Int))]) (is := []) rfl ret_ne ⟨(by kernel_rfl), trivial⟩ (Outs.sc rfl Outs.nil)
  · refine JC.seq ?_
    refine JC.region fun b5 => ?_
    refine JS.run 1 (by kernel_rfl) ?_
    refine JS.bind fun r6 h7 => ?_
    refine JS.callS [] (math_IsInf_ok k a0 (-1 : Int) r6 h7) ⟨rfl, argX (d := (.flt a0)) (by kernel_rfl) (by kernel_rfl), rfl, argX (d := (.int .i64 (-1 : Int))) (by kernel_rfl) (by kernel_rfl), trivial⟩ (by kernel_rfl) (by kernel_rfl) (by kernel_rfl) ?_
    refine JS.run 1 (by kernel_rfl) ?_
    refine JS.nil ?_
    refine JC.to2 [(0, .x (.flt a0)), (7, .x (.bool r6))] [] (by kernel_rfl) (by kernel_rfl) ?_
    refine JC.skipT ?_
    refine JC.cond (e := r6) (by kernel_rfl) (fun h8 => ?_) (fun h8 => ?_)
    · refine JC.seq ?_
      refine JC.region fun b9 => ?_
      refine JS.run 1 (by kernel_rfl) ?_
      refine JS.nil ?_
      refine JC.to2 [(2, .x (.int .i64 (1 : Int)))] [] (by kernel_rfl) (by kernel_rfl) ?_
      refine JC.skipT ?_
      refine JC.retB ?_
      refine JC.retT ?_
      exact JC.finB (ex := .ret) (vs := [.x (.int .i64 (1 : Int))]) (is := []) rfl ret_ne ⟨(by kernel_rfl), trivial⟩ (Outs.sc rfl Outs.nil)
    · refine JC.seq ?_
      refine JC.region fun b10 => ?_
      refine JS.run 3 (by kernel_rfl) ?_
      refine JS.nil ?_
      refine JC.to2 [(0, .x (.flt a0)), (10, .x (.bool (fOrd a0 (some 0 : Fl) == some .lt)))] [] (by kernel_rfl) (by kernel_rfl) ?_
      refine JC.skipT ?_
      refine JC.cond (e := (fOrd a0 (some 0 : Fl) == some .lt)) (by kernel_rfl) (fun h11 => ?_) (fun h11 => ?_)
      · refine JC.seq ?_
        refine JC.region fun b12 => ?_
        refine JS.run 1 (by kernel_rfl) ?_
        refine JS.nil ?_
        refine JC.to2 [(2, .x (.int .i64 (2 : Int)))] [] (by kernel_rfl) (by kernel_rfl) ?_
        refine JC.skipT ?_
        refine JC.retB ?_
        refine JC.retT ?_
        exact JC.finB (ex := .ret) (vs := [.x (.int .i64 (2 : Int))]) (is := []) rfl ret_ne ⟨(by kernel_rfl), trivial⟩ (Outs.sc rfl Outs.nil)
      · refine JC.seq ?_
        refine JC.region fun b13 => ?_
        refine JS.run 1 (by kernel_rfl) ?_
        refine JS.bind fun r14 h15 => ?_
        refine JS.callS [] (math_IsInf_ok k a0 (1 : Int) r14 h15) ⟨rfl, argX (d := (.flt a0)) (by kernel_rfl) (by kernel_rfl), rfl, argX (d := (.int .i64 (1 : Int))) (by kernel_rfl) (by kernel_rfl), trivial⟩ (by kernel_rfl) (by kernel_rfl) (by kernel_rfl) ?_
        refine JS.run 1 (by kernel_rfl) ?_
        refine JS.nil ?_
        refine JC.to2 [(0, .x (.flt a0)), (13, .x (.bool r14))] [] (by kernel_rfl) (by kernel_rfl) ?_
        refine JC.skipT ?_
        refine JC.cond (e := r14) (by kernel_rfl) (fun h16 => ?_) (fun h16 => ?_)
        · refine JC.seq ?_
          refine JC.region fun b17 => ?_
          refine JS.run 1 (by kernel_rfl) ?_
          refine JS.nil ?_
          refine JC.to2 [(2, .x (.int .i64 (6 : Int)))] [] (by kernel_rfl) (by kernel_rfl) ?_
          refine JC.skipT ?_
          refine JC.retB ?_
          refine JC.retT ?_
          exact JC.finB (ex := .ret) (vs := [.x (.int .i64 (6 : Int))]) (is := []) rfl ret_ne ⟨(by kernel_rfl), trivial⟩ (Outs.sc rfl Outs.nil)
        · refine JC.seq ?_
          refine JC.region fun b18 => ?_
          refine JS.run 3 (by kernel_rfl) ?_
          refine JS.nil ?_
          refine JC.to2 [(0, .x (.flt a0)), (16, .x (.bool (fOrd a0 (some 0 : Fl) == some .gt)))] [] (by kernel_rfl) (by kernel_rfl) ?_
          refine JC.skipT ?_
          refine JC.cond (e := (fOrd a0 (some 0 : Fl) == some .gt)) (by kernel_rfl) (fun h19 => ?_) (fun h19 => ?_)
          · refine JC.seq ?_
            refine JC.region fun b20 => ?_
            refine JS.run 1 (by kernel_rfl) ?_
            refine JS.nil ?_
            refine JC.to2 [(2, .x (.int .i64 (5 : Int)))] [] (by kernel_rfl) (by kernel_rfl) ?_
            refine JC.skipT ?_
            refine JC.retB ?_
            refine JC.retT ?_
            exact JC.finB (ex := .ret) (vs := [.x (.int .i64 (5 : Int))]) (is := []) rfl ret_ne ⟨(by kernel_rfl), trivial⟩ (Outs.sc rfl Outs.nil)
          · refine JC.seq ?_
            refine JC.region fun b21 => ?_
            refine JS.run 1 (by kernel_rfl) ?_
            refine JS.bind fun r22 h23 => ?_
            refine JS.callS [] (math_Signbit_ok k a0 r22 h23) ⟨rfl, argX (d := (.flt a0)) (by kernel_rfl) (by kernel_rfl), trivial⟩ (by kernel_rfl) (by kernel_rfl) (by kernel_rfl) ?_
            refine JS.run 1 (by kernel_rfl) ?_
            refine JS.nil ?_
            refine JC.to2 [(19, .x (.bool r22))] [] (by kernel_rfl) (by kernel_rfl) ?_
            refine JC.skipT ?_
            refine JC.cond (e := r22) (by kernel_rfl) (fun h24 => ?_) (fun h24 => ?_)
            · refine JC.seq ?_
              refine JC.region fun b25 => ?_
              refine JS.run 1 (by kernel_rfl) ?_
              refine JS.nil ?_
              refine JC.to2 [(2, .x (.int .i64 (3 : Int)))] [] (by kernel_rfl) (by kernel_rfl) ?_
              refine JC.skipT ?_
              refine JC.retB ?_
              refine JC.retT ?_
              exact JC.finB (ex := .ret) (vs := [.x (.int .i64 (3 : Int))]) (is := []) rfl ret_ne ⟨(by kernel_rfl), trivial⟩ (Outs.sc rfl Outs.nil)
            · refine JC.skipB ?_
              refine JC.skipT ?_
              refine JC.seq ?_
              refine JC.region fun b26 => ?_
              refine JS.run 1 (by kernel_rfl) ?_
              refine JS.nil ?_
              refine JC.to2 [(2, .x (.int .i64 (4 : Int)))] [] (by kernel_rfl) (by kernel_rfl) ?_
              refine JC.skipT ?_
              exact JC.finB (ex := .ret) (vs := [.x (.int .i64 (4 : Int))]) (is := []) rfl ret_ne ⟨(by kernel_rfl), trivial⟩ (Outs.sc rfl Outs.nil)
/-! eyot/weigh.Parse -/
theorem weigh_Parse_ok (k : Nat) : ∀ (a0 : (List UInt8)) (r : (Fl × Int)), weigh_Parse k a0 = some r → CallOk prog 10 [.x (.str a0)] true [.sc (.x (.flt r.1)), .sc (.x (.int .i64 r.2))] := fun a0 => weigh_Parse_orc rfl rfl k a0
/-! eyot/eyotlaw1.begun -/
def eyotlaw1_begun (k : Nat)  : Option Bool :=
  (weigh_Parse k ([49, 46, 50, 53] : List UInt8)).bind fun r3 => (weigh_Parse k ([49, 46] : List UInt8)).bind fun r6 => (cond (r3.2 == (0 : Int)) (cond (fOrd r3.1 (some 4608308318706860032 : Fl) == some .eq) (cond (r6.2 == (2 : Int)) ((weigh_Order k (some 4607182418800017408 : Fl) (some 4611686018427387904 : Fl)).bind fun r13 => cond (r13 == (-1 : Int)) ((weigh_Same k (some 4611686018427387904 : Fl) (some 4611686018427387904 : Fl)).bind fun r16 => cond r16 ((weigh_Key k (some 4607182418800017408 : Fl)).bind fun r19 => (weigh_Key k (some 13830554455654793216 : Fl)).bind fun r21 => cond (decide (r19 > r21)) ((weigh_Key k (some 4613937818241073152 : Fl)).bind fun r24 => (weigh_Of k r24).bind fun r26 => cond (fOrd r26 (some 4613937818241073152 : Fl) == some .eq) ((weigh_Kind k (some 4607182418800017408 : Fl)).bind fun r29 => some (r29 == (5 : Int))) (some false)) (some false)) (some false)) (some false)) (some false)) (some false)) (some false)).bind fun y8 => some y8
theorem eyotlaw1_begun_ok (k : Nat)  : ∀ r, eyotlaw1_begun k = some r → CallOk prog 9 [] false [.sc (.x (.bool r))] := by
  refine CallOk.ofB (pf := pf9) (rs := [.tmp 0]) (Res := fun (r : Bool) => [.sc (.x (.bool r))]) rfl rfl rfl rfl rfl ?_
  unfold eyotlaw1_begun pf9
  refine JC.seq ?_
  refine JC.region fun b1 => ?_
  refine JS.run 1 (by kernel_rfl) ?_
  refine JS.nil ?_
  refine JC.to2 [] [] (by kernel_rfl) (by kernel_rfl) ?_
  refine JC.skipT ?_
  refine JC.seq ?_
  refine JC.region fun b2 => ?_
  refine JS.bind fun r3 h4 => ?_
  refine JS.callS [] (weigh_Parse_ok k ([49, 46, 50, 53] : List UInt8) r3 h4) ⟨rfl, argX (d := (.str ([49, 46, 50, 53] : List UInt8))) (by kernel_rfl) (by kernel_rfl), trivial⟩ (by kernel_rfl) (by kernel_rfl) (by kernel_rfl) ?_
  refine JS.run 5 (by kernel_rfl) ?_
  refine JS.nil ?_
  refine JC.to2 [(1, .x (.flt r3.1)), (2, .x (.int .i64 r3.2))] [] (by kernel_rfl) (by kernel_rfl) ?_
  refine JC.skipT ?_
  refine JC.seq ?_
  refine JC.region fun b5 => ?_
  refine JS.bind fun r6 h7 => ?_
  refine JS.callS [] (weigh_Parse_ok k ([49, 46] : List UInt8) r6 h7) ⟨rfl, argX (d := (.str ([49, 46] : List UInt8))) (by kernel_rfl) (by kernel_rfl), trivial⟩ (by kernel_rfl) (by kernel_rfl) (by kernel_rfl) ?_
  refine JS.run 5 (by kernel_rfl) ?_
  refine JS.nil ?_
  refine JC.to2 [(1, .x (.flt r3.1)), (2, .x (.int .i64 r3.2)), (4, .x (.int .i64 r6.2))] [] (by kernel_rfl) (by kernel_rfl) ?_
  refine JC.skipT ?_
  refine JC.seq ?_
  refine JC.bind (A := fun v ex E R => ex = .normal ∧ E = [(0, .x (.bool v))] ∧ R = []) ?_ ?_
  · refine JC.region fun b9 => ?_
    refine JS.run 3 (by kernel_rfl) ?_
    refine JS.split (e := (r3.2 == (0 : Int))) 15 (by kernel_rfl) (fun h10 => ?_) (fun h10 => ?_)
    · refine JS.run 4 (by kernel_rfl) ?_
      refine JS.split (e := (fOrd r3.1 (some 4608308318706860032 : Fl) == some .eq)) 19 (by kernel_rfl) (fun h11 => ?_) (fun h11 => ?_)
      · refine JS.run 4 (by kernel_rfl) ?_
        refine JS.split (e := (r6.2 == (2 : Int))) 23 (by kernel_rfl) (fun h12 => ?_) (fun h12 => ?_)
        · refine JS.bind fun r13 h14 => ?_
          refine JS.callS [] (weigh_Order_ok k (some 4607182418800017408 : Fl) (some 4611686018427387904 : Fl) r13 h14) ⟨rfl, argX (d := (.flt (some 4607182418800017408 : Fl))) (by kernel_rfl) (by kernel_rfl), rfl, argX (d := (.flt (some 4611686018427387904 : Fl))) (by kernel_rfl) (by kernel_rfl), trivial⟩ (by kernel_rfl) (by kernel_rfl) (by kernel_rfl) ?_
          refine JS.run 3 (by kernel_rfl) ?_
          refine JS.split (e := (r13 == (-1 : Int))) 27 (by kernel_rfl) (fun h15 => ?_) (fun h15 => ?_)
          · refine JS.bind fun r16 h17 => ?_
            refine JS.callS [] (weigh_Same_ok k (some 4611686018427387904 : Fl) (some 4611686018427387904 : Fl) r16 h17) ⟨rfl, argX (d := (.flt (some 4611686018427387904 : Fl))) (by kernel_rfl) (by kernel_rfl), rfl, argX (d := (.flt (some 4611686018427387904 : Fl))) (by kernel_rfl) (by kernel_rfl), trivial⟩ (by kernel_rfl) (by kernel_rfl) (by kernel_rfl) ?_
            refine JS.run 2 (by kernel_rfl) ?_
            refine JS.split (e := r16) 30 (by kernel_rfl) (fun h18 => ?_) (fun h18 => ?_)
            · refine JS.bind fun r19 h20 => ?_
              refine JS.callS [] (weigh_Key_ok k (some 4607182418800017408 : Fl) r19 h20) ⟨rfl, argX (d := (.flt (some 4607182418800017408 : Fl))) (by kernel_rfl) (by kernel_rfl), trivial⟩ (by kernel_rfl) (by kernel_rfl) (by kernel_rfl) ?_
              refine JS.bind fun r21 h22 => ?_
              refine JS.callS [] (weigh_Key_ok k (some 13830554455654793216 : Fl) r21 h22) ⟨rfl, argX (d := (.flt (some 13830554455654793216 : Fl))) (by kernel_rfl) (by kernel_rfl), trivial⟩ (by kernel_rfl) (by kernel_rfl) (by kernel_rfl) ?_
              refine JS.run 3 (by kernel_rfl) ?_
              refine JS.split (e := (decide (r19 > r21))) 35 (by kernel_rfl) (fun h23 => ?_) (fun h23 => ?_)
              · refine JS.bind fun r24 h25 => ?_
                refine JS.callS [] (weigh_Key_ok k (some 4613937818241073152 : Fl) r24 h25) ⟨rfl, argX (d := (.flt (some 4613937818241073152 : Fl))) (by kernel_rfl) (by kernel_rfl), trivial⟩ (by kernel_rfl) (by kernel_rfl) (by kernel_rfl) ?_
                refine JS.bind fun r26 h27 => ?_
                refine JS.callS [] (weigh_Of_ok k r24 r26 h27) ⟨rfl, argX (d := (.int .u64 r24)) (by kernel_rfl) (by kernel_rfl), trivial⟩ (by kernel_rfl) (by kernel_rfl) (by kernel_rfl) ?_
                refine JS.run 3 (by kernel_rfl) ?_
                refine JS.split (e := (fOrd r26 (some 4613937818241073152 : Fl) == some .eq)) 40 (by kernel_rfl) (fun h28 => ?_) (fun h28 => ?_)
                · refine JS.bind fun r29 h30 => ?_
                  refine JS.callS [] (weigh_Kind_ok k (some 4607182418800017408 : Fl) r29 h30) ⟨rfl, argX (d := (.flt (some 4607182418800017408 : Fl))) (by kernel_rfl) (by kernel_rfl), trivial⟩ (by kernel_rfl) (by kernel_rfl) (by kernel_rfl) ?_
                  refine JS.run 3 (by kernel_rfl) ?_
                  refine JS.nil ?_
                  refine JC.to2 [(0, .x (.bool (r29 == (5 : Int))))] [] (by kernel_rfl) (by kernel_rfl) ?_
                  refine JC.to2 [(0, .x (.bool (r29 == (5 : Int))))] [] (by kernel_rfl) (by kernel_rfl) ?_
                  exact JC.got (ex := .normal) rfl ⟨rfl, rfl, rfl⟩
                · refine JS.run 4 (by kernel_rfl) ?_
                  refine JS.nil ?_
                  refine JC.to2 [(0, .x (.bool false))] [] (by kernel_rfl) (by kernel_rfl) ?_
                  refine JC.to2 [(0, .x (.bool false))] [] (by kernel_rfl) (by kernel_rfl) ?_
                  exact JC.got (ex := .normal) rfl ⟨rfl, rfl, rfl⟩
              · refine JS.run 9 (by kernel_rfl) ?_
                refine JS.nil ?_
                refine JC.to2 [(0, .x (.bool false))] [] (by kernel_rfl) (by kernel_rfl) ?_
                refine JC.to2 [(0, .x (.bool false))] [] (by kernel_rfl) (by kernel_rfl) ?_
                exact JC.got (ex := .normal) rfl ⟨rfl, rfl, rfl⟩
            · refine JS.run 14 (by kernel_rfl) ?_
              refine JS.nil ?_
              refine JC.to2 [(0, .x (.bool false))] [] (by kernel_rfl) (by kernel_rfl) ?_
              refine JC.to2 [(0, .x (.bool false))] [] (by kernel_rfl) (by kernel_rfl) ?_
              exact JC.got (ex := .normal) rfl ⟨rfl, rfl, rfl⟩
          · refine JS.run 17 (by kernel_rfl) ?_
            refine JS.nil ?_
            refine JC.to2 [(0, .x (.bool false))] [] (by kernel_rfl) (by kernel_rfl) ?_
            refine JC.to2 [(0, .x (.bool false))] [] (by kernel_rfl) (by kernel_rfl) ?_
            exact JC.got (ex := .normal) rfl ⟨rfl, rfl, rfl⟩
        · refine JS.run 21 (by kernel_rfl) ?_
          refine JS.nil ?_
          refine JC.to2 [(0, .x (.bool false))] [] (by kernel_rfl) (by kernel_rfl) ?_
          refine JC.to2 [(0, .x (.bool false))] [] (by kernel_rfl) (by kernel_rfl) ?_
          exact JC.got (ex := .normal) rfl ⟨rfl, rfl, rfl⟩
      · refine JS.run 25 (by kernel_rfl) ?_
        refine JS.nil ?_
        refine JC.to2 [(0, .x (.bool false))] [] (by kernel_rfl) (by kernel_rfl) ?_
        refine JC.to2 [(0, .x (.bool false))] [] (by kernel_rfl) (by kernel_rfl) ?_
        exact JC.got (ex := .normal) rfl ⟨rfl, rfl, rfl⟩
    · refine JS.run 29 (by kernel_rfl) ?_
      refine JS.nil ?_
      refine JC.to2 [(0, .x (.bool false))] [] (by kernel_rfl) (by kernel_rfl) ?_
      refine JC.to2 [(0, .x (.bool false))] [] (by kernel_rfl) (by kernel_rfl) ?_
      exact JC.got (ex := .normal) rfl ⟨rfl, rfl, rfl⟩
  · rintro y8 ex E' R' hA
    obtain ⟨rfl, rfl, rfl⟩ := hA
    refine JC.to2 [(0, .x (.bool y8))] [] (by kernel_rfl) (by kernel_rfl) ?_
    refine JC.skipT ?_
    exact JC.finB (ex := .ret) (vs := [.x (.bool y8)]) (is := []) rfl ret_ne ⟨(by kernel_rfl), trivial⟩ (Outs.sc rfl Outs.nil)
/-! eyot/eyotlaw1.WeighGrows -/
def eyotlaw1_WeighGrows_l0 (a0 : (List Int)) (a1 : Int) : Nat → (List UInt8) → Int → Option (List UInt8)
  | 0, _, _ => none
  | k + 1, x14, x15 => cond (decide (x15 < ((a0.length : Nat) : Int))) ((at? a0 x15).bind fun w20 => room (x14.length + (bytesL ([(IntKind.u8.wrap ((48 : Int) + (Int.tmod w20 (10 : Int))))] : List Int)).length) 1 (eyotlaw1_WeighGrows_l0 a0 a1 k (x14 ++ (bytesL ([(IntKind.u8.wrap ((48 : Int) + (Int.tmod w20 (10 : Int))))] : List Int))) (IntKind.i64.wrap (x15 + (1 : Int))))) (some x14)
theorem eyotlaw1_WeighGrows_l0_ok (a0 : (List Int)) (a1 : Int)  : ∀ (k : Nat) (x14 : (List UInt8)) (x15 : Int), JC prog noFr 121 [(0, .c 1 (.lst 1 (a0.map (iD .u8)))), (1, .x (.int .u8 a1)), (5, .x (.str x14)), (6, .x (.int .i64 x15))] [] (.loop pf6_L0) (eyotlaw1_WeighGrows_l0 a0 a1 k x14 x15) (fun x => GotA 121 noFr ((fun v ex E R => ex = (.exit 0) ∧ E = [(1, .x (.int .u8 a1)), (5, .x (.str v))] ∧ R = []) x)) := by
  intro k
  induction k with
  | zero =>
    intro x14 x15
    exact JC.no
  | succ k ih =>
    intro x14 x15
    rw [eyotlaw1_WeighGrows_l0]
    refine JC.loop ?_
    refine JC.seq ?_
    refine JC.seq ?_
    refine JC.region fun b17 => ?_
    refine JS.run 2 (by kernel_rfl) ?_
    refine JS.lenC (c := (iD .u8)) (l := a0) (n := 1) (sz := 1) (by kernel_rfl) (by kernel_rfl) (by kernel_rfl) ?_
    refine JS.run 1 (by kernel_rfl) ?_
    refine JS.nil ?_
    refine JC.to2 [(0, .c 1 (.lst 1 (a0.map (iD .u8)))), (1, .x (.int .u8 a1)), (5, .x (.str x14)), (6, .x (.int .i64 x15)), (29, .x (.bool (decide (x15 < ((a0.length : Nat) : Int)))))] [] (by kernel_rfl) (by kernel_rfl) ?_
    refine JC.skipT ?_
    refine JC.cond (e := (decide (x15 < ((a0.length : Nat) : Int)))) (by kernel_rfl) (fun h18 => ?_) (fun h18 => ?_)
    · refine JC.skipT ?_
      refine JC.seq ?_
      refine JC.block ?_
      refine JC.region fun b19 => ?_
      refine JS.run 3 (by kernel_rfl) ?_
      refine JS.idxC (c := (iD .u8)) (l := a0) (n := 1) (kk := .i64) (z := x15) (by kernel_rfl) (by kernel_rfl) (by kernel_rfl) (by kernel_rfl) (fun w20 h21 => ?_)
      refine JS.run 3 (by kernel_rfl) ?_
      refine JS.buildSlice (c := (iD .u8)) ([(IntKind.u8.wrap ((48 : Int) + (Int.tmod w20 (10 : Int))))] : List Int) (by kernel_rfl) (by kernel_rfl) (by kernel_rfl) (by kernel_rfl) (by kernel_rfl) (fun id22 => ?_)
      refine JS.bytesStrO (l := ([(IntKind.u8.wrap ((48 : Int) + (Int.tmod w20 (10 : Int))))] : List Int)) (o := (some id22)) 0 (by kernel_rfl) (by kernel_rfl) (by kernel_rfl) (by kernel_rfl) ?_
      refine JS.addS (t := x14) (u := (bytesL ([(IntKind.u8.wrap ((48 : Int) + (Int.tmod w20 (10 : Int))))] : List Int))) (by kernel_rfl) (by kernel_rfl) (by kernel_rfl) (by kernel_rfl) ?_
      refine JS.run 1 (by kernel_rfl) ?_
      refine JS.nil ?_
      refine JC.drop 0 ?_
      refine JC.to2 [(0, .c 1 (.lst 1 (a0.map (iD .u8)))), (1, .x (.int .u8 a1)), (5, .x (.str (x14 ++ (bytesL ([(IntKind.u8.wrap ((48 : Int) + (Int.tmod w20 (10 : Int))))] : List Int))))), (6, .x (.int .i64 x15))] [] (by kernel_rfl) (by kernel_rfl) ?_
      refine JC.skipB ?_
      refine JC.skipT ?_
      refine JC.region fun b23 => ?_
      refine JS.run 3 (by kernel_rfl) ?_
      refine JS.nil ?_
      refine JC.to2 [(0, .c 1 (.lst 1 (a0.map (iD .u8)))), (1, .x (.int .u8 a1)), (5, .x (.str (x14 ++ (bytesL ([(IntKind.u8.wrap ((48 : Int) + (Int.tmod w20 (10 : Int))))] : List Int))))), (6, .x (.int .i64 (IntKind.i64.wrap (x15 + (1 : Int)))))] [] (by kernel_rfl) (by kernel_rfl) ?_
      refine JC.skipL ?_
      refine JC.to2 [(0, .c 1 (.lst 1 (a0.map (iD .u8)))), (1, .x (.int .u8 a1)), (5, .x (.str (x14 ++ (bytesL ([(IntKind.u8.wrap ((48 : Int) + (Int.tmod w20 (10 : Int))))] : List Int))))), (6, .x (.int .i64 (IntKind.i64.wrap (x15 + (1 : Int)))))] [] (by kernel_rfl) (by kernel_rfl) ?_
      exact ih (x14 ++ (bytesL ([(IntKind.u8.wrap ((48 : Int) + (Int.tmod w20 (10 : Int))))] : List Int))) (IntKind.i64.wrap (x15 + (1 : Int)))
    · refine JC.exitT ?_
      refine JC.exitL ?_
      refine JC.to2 [(1, .x (.int .u8 a1)), (5, .x (.str x14))] [] (by kernel_rfl) (by kernel_rfl) ?_
      exact JC.got (ex := (.exit 0)) rfl ⟨rfl, rfl, rfl⟩
def eyotlaw1_WeighGrows (k : Nat) (a0 : (List Int)) (a1 : Int) : Option Bool :=
  (eyotlaw1_begun k).bind fun r3 => cond (!r3) (some false) ((cond (decide (((a0.length : Nat) : Int) < (1 : Int))) (some true) (some (decide (((a0.length : Nat) : Int) > (6 : Int))))).bind fun y7 => cond y7 (some true) ((eyotlaw1_WeighGrows_l0 a0 a1 k ([] : List UInt8) (0 : Int)).bind fun y16 => room (y16.length + ([46, 53] : List UInt8).length) 1 ((weigh_Parse k (y16 ++ ([46, 53] : List UInt8))).bind fun r27 => room (y16.length + ([46, 53] : List UInt8).length) 1 (room ((y16 ++ ([46, 53] : List UInt8)).length + (bytesL ([(IntKind.u8.wrap ((48 : Int) + (Int.tmod a1 (10 : Int))))] : List Int)).length) 1 ((weigh_Parse k ((y16 ++ ([46, 53] : List UInt8)) ++ (bytesL ([(IntKind.u8.wrap ((48 : Int) + (Int.tmod a1 (10 : Int))))] : List Int)))).bind fun r30 => (weigh_Parse k y16).bind fun r33 => room (y16.length + (bytesL ([(IntKind.u8.wrap ((48 : Int) + (Int.tmod a1 (10 : Int))))] : List Int)).length) 1 ((weigh_Parse k (y16 ++ (bytesL ([(IntKind.u8.wrap ((48 : Int) + (Int.tmod a1 (10 : Int))))] : List Int)))).bind fun r36 => (cond (r27.2 == (0 : Int)) (cond (r30.2 == (0 : Int)) (cond (r33.2 == (0 : Int)) (cond (r36.2 == (0 : Int)) ((weigh_Order k r27.1 r30.1).bind fun r44 => cond (decide (r44 ≤ (0 : Int))) ((weigh_Order k r33.1 r27.1).bind fun r47 => cond (decide (r47 < (0 : Int))) ((weigh_Order k r33.1 r36.1).bind fun r50 => cond (decide (r50 ≤ (0 : Int))) (cond (fOrd r36.1 (fAdd (fMul r33.1 (some 4621819117588971520 : Fl)) (some (FloatKind.f64.nearest (Int.tmod a1 (10 : Int))) : Fl)) == some .eq) (some (fOrd r27.1 (fAdd r33.1 (some 4602678819172646912 : Fl)) == some .eq)) (some false)) (some false)) (some false)) (some false)) (some false)) (some false)) (some false)) (some false)).bind fun y38 => some y38))))))
theorem eyotlaw1_WeighGrows_ok (k : Nat) (a0 : (List Int)) (a1 : Int) : ∀ r, eyotlaw1_WeighGrows k a0 a1 = some r → CallOk prog 6 [.c 1 (.lst 1 (a0.map (iD .u8))), .x (.int .u8 a1)] false [.sc (.x (.bool r))] := by
  refine CallOk.ofB (pf := pf6) (rs := [.tmp 4]) (Res := fun (r : Bool) => [.sc (.x (.bool r))]) rfl rfl rfl rfl rfl ?_
  unfold eyotlaw1_WeighGrows pf6
  refine JC.seq ?_
  refine JC.region fun b1 => ?_
  refine JS.run 1 (by kernel_rfl) ?_
  refine JS.nil ?_
  refine JC.to2 [(0, .c 1 (.lst 1 (a0.map (iD .u8)))), (1, .x (.int .u8 a1))] [] (by kernel_rfl) (by kernel_rfl) ?_
  refine JC.skipT ?_
  refine JC.seq ?_
  refine JC.seq ?_
  refine JC.region fun b2 => ?_
  refine JS.bind fun r3 h4 => ?_
  refine JS.callS [] (eyotlaw1_begun_ok k r3 h4) trivial (by kernel_rfl) (by kernel_rfl) (by kernel_rfl) ?_
  refine JS.run 1 (by kernel_rfl) ?_
  refine JS.nil ?_
  refine JC.to2 [(0, .c 1 (.lst 1 (a0.map (iD .u8)))), (1, .x (.int .u8 a1)), (17, .x (.bool (!r3)))] [] (by kernel_rfl) (by kernel_rfl) ?_
  refine JC.skipT ?_
  refine JC.cond (e := (!r3)) (by kernel_rfl) (fun h5 => ?_) (fun h5 => ?_)
  · refine JC.seq ?_
    refine JC.region fun b6 => ?_
    refine JS.run 1 (by kernel_rfl) ?_
    refine JS.nil ?_
    refine JC.to2 [(4, .x (.bool false))] [] (by kernel_rfl) (by kernel_rfl) ?_
    refine JC.skipT ?_
    refine JC.retT ?_
    exact JC.finB (ex := .ret) (vs := [.x (.bool false)]) (is := []) rfl ret_ne ⟨(by kernel_rfl), trivial⟩ (Outs.sc rfl Outs.nil)
  · refine JC.skipT ?_
    refine JC.seq ?_
    refine JC.seq ?_
    refine JC.bind (A := fun v ex E R => ex = .normal ∧ E = [(0, .c 1 (.lst 1 (a0.map (iD .u8)))), (1, .x (.int .u8 a1)), (25, .x (.bool v))] ∧ R = []) ?_ ?_
    · refine JC.region fun b8 => ?_
      refine JS.run 1 (by kernel_rfl) ?_
      refine JS.lenC (c := (iD .u8)) (l := a0) (n := 1) (sz := 1) (by kernel_rfl) (by kernel_rfl) (by kernel_rfl) ?_
      refine JS.run 2 (by kernel_rfl) ?_
      refine JS.split (e := (decide (((a0.length : Nat) : Int) < (1 : Int)))) 21 (by kernel_rfl) (fun h9 => ?_) (fun h9 => ?_)
      · refine JS.run 4 (by kernel_rfl) ?_
        refine JS.nil ?_
        refine JC.to2 [(0, .c 1 (.lst 1 (a0.map (iD .u8)))), (1, .x (.int .u8 a1)), (25, .x (.bool true))] [] (by kernel_rfl) (by kernel_rfl) ?_
        refine JC.to2 [(0, .c 1 (.lst 1 (a0.map (iD .u8)))), (1, .x (.int .u8 a1)), (25, .x (.bool true))] [] (by kernel_rfl) (by kernel_rfl) ?_
        exact JC.got (ex := .normal) rfl ⟨rfl, rfl, rfl⟩
      · refine JS.run 1 (by kernel_rfl) ?_
        refine JS.lenC (c := (iD .u8)) (l := a0) (n := 1) (sz := 1) (by kernel_rfl) (by kernel_rfl) (by kernel_rfl) ?_
        refine JS.run 2 (by kernel_rfl) ?_
        refine JS.nil ?_
        refine JC.to2 [(0, .c 1 (.lst 1 (a0.map (iD .u8)))), (1, .x (.int .u8 a1)), (25, .x (.bool (decide (((a0.length : Nat) : Int) > (6 : Int)))))] [] (by kernel_rfl) (by kernel_rfl) ?_
        refine JC.to2 [(0, .c 1 (.lst 1 (a0.map (iD .u8)))), (1, .x (.int .u8 a1)), (25, .x (.bool (decide (((a0.length : Nat) : Int) > (6 : Int)))))] [] (by kernel_rfl) (by kernel_rfl) ?_
        exact JC.got (ex := .normal) rfl ⟨rfl, rfl, rfl⟩
    · rintro y7 ex E' R' hA
      obtain ⟨rfl, rfl, rfl⟩ := hA
      refine JC.to2 [(0, .c 1 (.lst 1 (a0.map (iD .u8)))), (1, .x (.int .u8 a1)), (25, .x (.bool y7))] [] (by kernel_rfl) (by kernel_rfl) ?_
      refine JC.skipT ?_
      refine JC.cond (e := y7) (by kernel_rfl) (fun h10 => ?_) (fun h10 => ?_)
      · refine JC.seq ?_
        refine JC.region fun b11 => ?_
        refine JS.run 1 (by kernel_rfl) ?_
        refine JS.nil ?_
        refine JC.to2 [(4, .x (.bool true))] [] (by kernel_rfl) (by kernel_rfl) ?_
        refine JC.skipT ?_
        refine JC.retT ?_
        exact JC.finB (ex := .ret) (vs := [.x (.bool true)]) (is := []) rfl ret_ne ⟨(by kernel_rfl), trivial⟩ (Outs.sc rfl Outs.nil)
      · refine JC.skipT ?_
        refine JC.seq ?_
        refine JC.region fun b12 => ?_
        refine JS.run 1 (by kernel_rfl) ?_
        refine JS.nil ?_
        refine JC.to2 [(0, .c 1 (.lst 1 (a0.map (iD .u8)))), (1, .x (.int .u8 a1)), (5, .x (.str ([] : List UInt8)))] [] (by kernel_rfl) (by kernel_rfl) ?_
        refine JC.skipT ?_
        refine JC.seq ?_
        refine JC.seq ?_
        refine JC.region fun b13 => ?_
        refine JS.run 1 (by kernel_rfl) ?_
        refine JS.nil ?_
        refine JC.to2 [(0, .c 1 (.lst 1 (a0.map (iD .u8)))), (1, .x (.int .u8 a1)), (5, .x (.str ([] : List UInt8))), (6, .x (.int .i64 (0 : Int)))] [] (by kernel_rfl) (by kernel_rfl) ?_
        refine JC.skipT ?_
        refine JC.block ?_
        refine JC.to2 [(0, .c 1 (.lst 1 (a0.map (iD .u8)))), (1, .x (.int .u8 a1)), (5, .x (.str ([] : List UInt8))), (6, .x (.int .i64 (0 : Int)))] [] (by kernel_rfl) (by kernel_rfl) ?_
        refine JC.to2 [(0, .c 1 (.lst 1 (a0.map (iD .u8)))), (1, .x (.int .u8 a1)), (5, .x (.str ([] : List UInt8))), (6, .x (.int .i64 (0 : Int)))] [] (by kernel_rfl) (by kernel_rfl) ?_
        refine JC.bind (A := fun v ex E R => ex = (.exit 0) ∧ E = [(1, .x (.int .u8 a1)), (5, .x (.str v))] ∧ R = []) (eyotlaw1_WeighGrows_l0_ok a0 a1 k ([] : List UInt8) (0 : Int)) ?_
        rintro y16 ex E' R' hA
        obtain ⟨rfl, rfl, rfl⟩ := hA
        refine JC.to2 [(1, .x (.int .u8 a1)), (5, .x (.str y16))] [] (by kernel_rfl) (by kernel_rfl) ?_
        refine JC.exitB ?_
        refine JC.skipT ?_
        refine JC.seq ?_
        refine JC.region fun b24 => ?_
        refine JS.run 3 (by kernel_rfl) ?_
        refine JS.buildSlice (c := (iD .u8)) ([(IntKind.u8.wrap ((48 : Int) + (Int.tmod a1 (10 : Int))))] : List Int) (by kernel_rfl) (by kernel_rfl) (by kernel_rfl) (by kernel_rfl) (by kernel_rfl) (fun id25 => ?_)
        refine JS.bytesStrO (l := ([(IntKind.u8.wrap ((48 : Int) + (Int.tmod a1 (10 : Int))))] : List Int)) (o := (some id25)) 0 (by kernel_rfl) (by kernel_rfl) (by kernel_rfl) (by kernel_rfl) ?_
        refine JS.run 1 (by kernel_rfl) ?_
        refine JS.nil ?_
        refine JC.drop 0 ?_
        refine JC.to2 [(1, .x (.int .u8 a1)), (5, .x (.str y16)), (7, .x (.str (bytesL ([(IntKind.u8.wrap ((48 : Int) + (Int.tmod a1 (10 : Int))))] : List Int))))] [] (by kernel_rfl) (by kernel_rfl) ?_
        refine JC.skipT ?_
        refine JC.seq ?_
        refine JC.region fun b26 => ?_
        refine JS.run 1 (by kernel_rfl) ?_
        refine JS.addS (t := y16) (u := ([46, 53] : List UInt8)) (by kernel_rfl) (by kernel_rfl) (by kernel_rfl) (by kernel_rfl) ?_
        refine JS.bind fun r27 h28 => ?_
        refine JS.callS [] (weigh_Parse_ok k (y16 ++ ([46, 53] : List UInt8)) r27 h28) ⟨rfl, argX (d := (.str (y16 ++ ([46, 53] : List UInt8)))) (by kernel_rfl) (by kernel_rfl), trivial⟩ (by kernel_rfl) (by kernel_rfl) (by kernel_rfl) ?_
        refine JS.run 5 (by kernel_rfl) ?_
        refine JS.nil ?_
        refine JC.to2 [(1, .x (.int .u8 a1)), (5, .x (.str y16)), (7, .x (.str (bytesL ([(IntKind.u8.wrap ((48 : Int) + (Int.tmod a1 (10 : Int))))] : List Int)))), (8, .x (.flt r27.1)), (9, .x (.int .i64 r27.2))] [] (by kernel_rfl) (by kernel_rfl) ?_
        refine JC.skipT ?_
        refine JC.seq ?_
        refine JC.region fun b29 => ?_
        refine JS.run 1 (by kernel_rfl) ?_
        refine JS.addS (t := y16) (u := ([46, 53] : List UInt8)) (by kernel_rfl) (by kernel_rfl) (by kernel_rfl) (by kernel_rfl) ?_
        refine JS.run 1 (by kernel_rfl) ?_
        refine JS.addS (t := (y16 ++ ([46, 53] : List UInt8))) (u := (bytesL ([(IntKind.u8.wrap ((48 : Int) + (Int.tmod a1 (10 : Int))))] : List Int))) (by kernel_rfl) (by kernel_rfl) (by kernel_rfl) (by kernel_rfl) ?_
        refine JS.bind fun r30 h31 => ?_
        refine JS.callS [] (weigh_Parse_ok k ((y16 ++ ([46, 53] : List UInt8)) ++ (bytesL ([(IntKind.u8.wrap ((48 : Int) + (Int.tmod a1 (10 : Int))))] : List Int))) r30 h31) ⟨rfl, argX (d := (.str ((y16 ++ ([46, 53] : List UInt8)) ++ (bytesL ([(IntKind.u8.wrap ((48 : Int) + (Int.tmod a1 (10 : Int))))] : List Int))))) (by kernel_rfl) (by kernel_rfl), trivial⟩ (by kernel_rfl) (by kernel_rfl) (by kernel_rfl) ?_
        refine JS.run 5 (by kernel_rfl) ?_
        refine JS.nil ?_
        refine JC.to2 [(1, .x (.int .u8 a1)), (5, .x (.str y16)), (7, .x (.str (bytesL ([(IntKind.u8.wrap ((48 : Int) + (Int.tmod a1 (10 : Int))))] : List Int)))), (8, .x (.flt r27.1)), (9, .x (.int .i64 r27.2)), (10, .x (.flt r30.1)), (11, .x (.int .i64 r30.2))] [] (by kernel_rfl) (by kernel_rfl) ?_
        refine JC.skipT ?_
        refine JC.seq ?_
        refine JC.region fun b32 => ?_
        refine JS.run 1 (by kernel_rfl) ?_
        refine JS.bind fun r33 h34 => ?_
        refine JS.callS [] (weigh_Parse_ok k y16 r33 h34) ⟨rfl, argX (d := (.str y16)) (by kernel_rfl) (by kernel_rfl), trivial⟩ (by kernel_rfl) (by kernel_rfl) (by kernel_rfl) ?_
        refine JS.run 5 (by kernel_rfl) ?_
        refine JS.nil ?_
        refine JC.to2 [(1, .x (.int .u8 a1)), (5, .x (.str y16)), (7, .x (.str (bytesL ([(IntKind.u8.wrap ((48 : Int) + (Int.tmod a1 (10 : Int))))] : List Int)))), (8, .x (.flt r27.1)), (9, .x (.int .i64 r27.2)), (10, .x (.flt r30.1)), (11, .x (.int .i64 r30.2)), (12, .x (.flt r33.1)), (13, .x (.int .i64 r33.2))] [] (by kernel_rfl) (by kernel_rfl) ?_
        refine JC.skipT ?_
        refine JC.seq ?_
        refine JC.region fun b35 => ?_
        refine JS.run 2 (by kernel_rfl) ?_
        refine JS.addS (t := y16) (u := (bytesL ([(IntKind.u8.wrap ((48 : Int) + (Int.tmod a1 (10 : Int))))] : List Int))) (by kernel_rfl) (by kernel_rfl) (by kernel_rfl) (by kernel_rfl) ?_
        refine JS.bind fun r36 h37 => ?_
        refine JS.callS [] (weigh_Parse_ok k (y16 ++ (bytesL ([(IntKind.u8.wrap ((48 : Int) + (Int.tmod a1 (10 : Int))))] : List Int))) r36 h37) ⟨rfl, argX (d := (.str (y16 ++ (bytesL ([(IntKind.u8.wrap ((48 : Int) + (Int.tmod a1 (10 : Int))))] : List Int))))) (by kernel_rfl) (by kernel_rfl), trivial⟩ (by kernel_rfl) (by kernel_rfl) (by kernel_rfl) ?_
        refine JS.run 5 (by kernel_rfl) ?_
        refine JS.nil ?_
        refine JC.to2 [(1, .x (.int .u8 a1)), (8, .x (.flt r27.1)), (9, .x (.int .i64 r27.2)), (10, .x (.flt r30.1)), (11, .x (.int .i64 r30.2)), (12, .x (.flt r33.1)), (13, .x (.int .i64 r33.2)), (14, .x (.flt r36.1)), (15, .x (.int .i64 r36.2))] [] (by kernel_rfl) (by kernel_rfl) ?_
        refine JC.skipT ?_
        refine JC.seq ?_
        refine JC.bind (A := fun v ex E R => ex = .normal ∧ E = [(4, .x (.bool v))] ∧ R = []) ?_ ?_
        · refine JC.region fun b39 => ?_
          refine JS.run 3 (by kernel_rfl) ?_
          refine JS.split (e := (r27.2 == (0 : Int))) 75 (by kernel_rfl) (fun h40 => ?_) (fun h40 => ?_)
          · refine JS.run 4 (by kernel_rfl) ?_
            refine JS.split (e := (r30.2 == (0 : Int))) 79 (by kernel_rfl) (fun h41 => ?_) (fun h41 => ?_)
            · refine JS.run 4 (by kernel_rfl) ?_
              refine JS.split (e := (r33.2 == (0 : Int))) 83 (by kernel_rfl) (fun h42 => ?_) (fun h42 => ?_)
              · refine JS.run 4 (by kernel_rfl) ?_
                refine JS.split (e := (r36.2 == (0 : Int))) 87 (by kernel_rfl) (fun h43 => ?_) (fun h43 => ?_)
                · refine JS.run 2 (by kernel_rfl) ?_
                  refine JS.bind fun r44 h45 => ?_
                  refine JS.callS [] (weigh_Order_ok k r27.1 r30.1 r44 h45) ⟨rfl, argX (d := (.flt r27.1)) (by kernel_rfl) (by kernel_rfl), rfl, argX (d := (.flt r30.1)) (by kernel_rfl) (by kernel_rfl), trivial⟩ (by kernel_rfl) (by kernel_rfl) (by kernel_rfl) ?_
                  refine JS.run 3 (by kernel_rfl) ?_
                  refine JS.split (e := (decide (r44 ≤ (0 : Int)))) 93 (by kernel_rfl) (fun h46 => ?_) (fun h46 => ?_)
                  · refine JS.run 2 (by kernel_rfl) ?_
                    refine JS.bind fun r47 h48 => ?_
                    refine JS.callS [] (weigh_Order_ok k r33.1 r27.1 r47 h48) ⟨rfl, argX (d := (.flt r33.1)) (by kernel_rfl) (by kernel_rfl), rfl, argX (d := (.flt r27.1)) (by kernel_rfl) (by kernel_rfl), trivial⟩ (by kernel_rfl) (by kernel_rfl) (by kernel_rfl) ?_
                    refine JS.run 3 (by kernel_rfl) ?_
                    refine JS.split (e := (decide (r47 < (0 : Int)))) 99 (by kernel_rfl) (fun h49 => ?_) (fun h49 => ?_)
                    · refine JS.run 2 (by kernel_rfl) ?_
                      refine JS.bind fun r50 h51 => ?_
                      refine JS.callS [] (weigh_Order_ok k r33.1 r36.1 r50 h51) ⟨rfl, argX (d := (.flt r33.1)) (by kernel_rfl) (by kernel_rfl), rfl, argX (d := (.flt r36.1)) (by kernel_rfl) (by kernel_rfl), trivial⟩ (by kernel_rfl) (by kernel_rfl) (by kernel_rfl) ?_
                      refine JS.run 3 (by kernel_rfl) ?_
                      refine JS.split (e := (decide (r50 ≤ (0 : Int)))) 105 (by kernel_rfl) (fun h52 => ?_) (fun h52 => ?_)
                      · refine JS.run 10 (by kernel_rfl) ?_
                        refine JS.split (e := (fOrd r36.1 (fAdd (fMul r33.1 (some 4621819117588971520 : Fl)) (some (FloatKind.f64.nearest (Int.tmod a1 (10 : Int))) : Fl)) == some .eq)) 115 (by kernel_rfl) (fun h53 => ?_) (fun h53 => ?_)
                        · refine JS.run 6 (by kernel_rfl) ?_
                          refine JS.nil ?_
                          refine JC.to2 [(4, .x (.bool (fOrd r27.1 (fAdd r33.1 (some 4602678819172646912 : Fl)) == some .eq)))] [] (by kernel_rfl) (by kernel_rfl) ?_
                          refine JC.to2 [(4, .x (.bool (fOrd r27.1 (fAdd r33.1 (some 4602678819172646912 : Fl)) == some .eq)))] [] (by kernel_rfl) (by kernel_rfl) ?_
                          exact JC.got (ex := .normal) rfl ⟨rfl, rfl, rfl⟩
                        · refine JS.run 6 (by kernel_rfl) ?_
                          refine JS.nil ?_
                          refine JC.to2 [(4, .x (.bool false))] [] (by kernel_rfl) (by kernel_rfl) ?_
                          refine JC.to2 [(4, .x (.bool false))] [] (by kernel_rfl) (by kernel_rfl) ?_
                          exact JC.got (ex := .normal) rfl ⟨rfl, rfl, rfl⟩
                      · refine JS.run 16 (by kernel_rfl) ?_
                        refine JS.nil ?_
                        refine JC.to2 [(4, .x (.bool false))] [] (by kernel_rfl) (by kernel_rfl) ?_
                        refine JC.to2 [(4, .x (.bool false))] [] (by kernel_rfl) (by kernel_rfl) ?_
                        exact JC.got (ex := .normal) rfl ⟨rfl, rfl, rfl⟩
                    · refine JS.run 22 (by kernel_rfl) ?_
                      refine JS.nil ?_
                      refine JC.to2 [(4, .x (.bool false))] [] (by kernel_rfl) (by kernel_rfl) ?_
                      refine JC.to2 [(4, .x (.bool false))] [] (by kernel_rfl) (by kernel_rfl) ?_
                      exact JC.got (ex := .normal) rfl ⟨rfl, rfl, rfl⟩
                  · refine JS.run 28 (by kernel_rfl) ?_
                    refine JS.nil ?_
                    refine JC.to2 [(4, .x (.bool false))] [] (by kernel_rfl) (by kernel_rfl) ?_
                    refine JC.to2 [(4, .x (.bool false))] [] (by kernel_rfl) (by kernel_rfl) ?_
                    exact JC.got (ex := .normal) rfl ⟨rfl, rfl, rfl⟩
                · refine JS.run 34 (by kernel_rfl) ?_
                  refine JS.nil ?_
                  refine JC.to2 [(4, .x (.bool false))] [] (by kernel_rfl) (by kernel_rfl) ?_
                  refine JC.to2 [(4, .x (.bool false))] [] (by kernel_rfl) (by kernel_rfl) ?_
                  exact JC.got (ex := .normal) rfl ⟨rfl, rfl, rfl⟩
              · refine JS.run 38 (by kernel_rfl) ?_
                refine JS.nil ?_
                refine JC.to2 [(4, .x (.bool false))] [] (by kernel_rfl) (by kernel_rfl) ?_
                refine JC.to2 [(4, .x (.bool false))] [] (by kernel_rfl) (by kernel_rfl) ?_
                exact JC.got (ex := .normal) rfl ⟨rfl, rfl, rfl⟩
            · refine JS.run 42 (by kernel_rfl) ?_
              refine JS.nil ?_
              refine JC.to2 [(4, .x (.bool false))] [] (by kernel_rfl) (by kernel_rfl) ?_
              refine JC.to2 [(4, .x (.bool false))] [] (by kernel_rfl) (by kernel_rfl) ?_
              exact JC.got (ex := .normal) rfl ⟨rfl, rfl, rfl⟩
          · refine JS.run 46 (by kernel_rfl) ?_
            refine JS.nil ?_
            refine JC.to2 [(4, .x (.bool false))] [] (by kernel_rfl) (by kernel_rfl) ?_
            refine JC.to2 [(4, .x (.bool false))] [] (by kernel_rfl) (by kernel_rfl) ?_
            exact JC.got (ex := .normal) rfl ⟨rfl, rfl, rfl⟩
        · rintro y38 ex E' R' hA
          obtain ⟨rfl, rfl, rfl⟩ := hA
          refine JC.to2 [(4, .x (.bool y38))] [] (by kernel_rfl) (by kernel_rfl) ?_
          refine JC.skipT ?_
          exact JC.finB (ex := .ret) (vs := [.x (.bool y38)]) (is := []) rfl ret_ne ⟨(by kernel_rfl), trivial⟩ (Outs.sc rfl Outs.nil)
end Go.Pi

