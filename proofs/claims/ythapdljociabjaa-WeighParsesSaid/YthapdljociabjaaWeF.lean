import Derived.Test.YthapdljociabjaaWeT
import Derived.Test.YthapdljociabjaaWeP
import Derived.KernelRfl
/-
  THE FUNCTIONS, as terms over lists.
-/
set_option linter.all false
namespace Go.Pi
set_option maxRecDepth 100000
set_option linter.unusedVariables false
set_option maxHeartbeats 2000000
/-! math.NaN -/
def math_NaN (k : Nat)  : Option Fl :=
  some (some (9221120237041090561 : Int).toNat : Fl)
theorem math_NaN_ok (k : Nat)  : ∀ r, math_NaN k = some r → CallOk prog 22 [] false [.sc (.x (.flt r))] := by
  refine CallOk.ofB (pf := pf22) (rs := [.tmp 0]) (Res := fun (r : Fl) => [.sc (.x (.flt r))]) rfl rfl rfl rfl rfl ?_
  unfold math_NaN pf22
  refine JC.seq ?_
  refine JC.region fun b1 => ?_
  refine JS.run 1 (by kernel_rfl) ?_
  refine JS.nil ?_
  refine JC.to2 [] [] (by kernel_rfl) (by kernel_rfl) ?_
  refine JC.skipT ?_
  refine JC.seq ?_
  refine JC.region fun b2 => ?_
  refine JS.run 2 (by kernel_rfl) ?_
  refine JS.nil ?_
  refine JC.to2 [(0, .x (.flt (some (9221120237041090561 : Int).toNat : Fl)))] [] (by kernel_rfl) (by kernel_rfl) ?_
  refine JC.skipT ?_
  exact JC.finB (ex := .ret) (vs := [.x (.flt (some (9221120237041090561 : Int).toNat : Fl))]) (is := []) rfl ret_ne ⟨(by kernel_rfl), trivial⟩ (Outs.sc rfl Outs.nil)
/-! math.Inf -/
def math_Inf (k : Nat) (a0 : Int) : Option Fl :=
  cond (decide (a0 ≥ (0 : Int))) (some (some (9218868437227405312 : Int).toNat : Fl)) (some (some (18442240474082181120 : Int).toNat : Fl))
theorem math_Inf_ok (k : Nat) (a0 : Int) : ∀ r, math_Inf k a0 = some r → CallOk prog 27 [.x (.int .i64 a0)] false [.sc (.x (.flt r))] := by
  refine CallOk.ofB (pf := pf27) (rs := [.tmp 2]) (Res := fun (r : Fl) => [.sc (.x (.flt r))]) rfl rfl rfl rfl rfl ?_
  unfold math_Inf pf27
  refine JC.seq ?_
  refine JC.region fun b1 => ?_
  refine JS.run 1 (by kernel_rfl) ?_
  refine JS.nil ?_
  refine JC.to2 [(0, .x (.int .i64 a0))] [] (by kernel_rfl) (by kernel_rfl) ?_
  refine JC.skipT ?_
  refine JC.seq ?_
  refine JC.region fun b2 => ?_
  refine JS.run 1 (by kernel_rfl) ?_
  refine JS.nil ?_
  refine JC.to2 [(0, .x (.int .i64 a0))] [] (by kernel_rfl) (by kernel_rfl) ?_
  refine JC.skipT ?_
  refine JC.seq ?_
  refine JC.seq ?_
  refine JC.region fun b3 => ?_
  refine JS.run 2 (by kernel_rfl) ?_
  refine JS.nil ?_
  refine JC.to2 [(5, .x (.bool (decide (a0 ≥ (0 : Int)))))] [] (by kernel_rfl) (by kernel_rfl) ?_
  refine JC.skipT ?_
  refine JC.cond (e := (decide (a0 ≥ (0 : Int)))) (by kernel_rfl) (fun h4 => ?_) (fun h4 => ?_)
  · refine JC.region fun b5 => ?_
    refine JS.run 1 (by kernel_rfl) ?_
    refine JS.nil ?_
    refine JC.to2 [(3, .x (.int .u64 (9218868437227405312 : Int)))] [] (by kernel_rfl) (by kernel_rfl) ?_
    refine JC.skipT ?_
    refine JC.seq ?_
    refine JC.region fun b6 => ?_
    refine JS.run 3 (by kernel_rfl) ?_
    refine JS.nil ?_
    refine JC.to2 [(2, .x (.flt (some (9218868437227405312 : Int).toNat : Fl)))] [] (by kernel_rfl) (by kernel_rfl) ?_
    refine JC.skipT ?_
    exact JC.finB (ex := .ret) (vs := [.x (.flt (some (9218868437227405312 : Int).toNat : Fl))]) (is := []) rfl ret_ne ⟨(by kernel_rfl), trivial⟩ (Outs.sc rfl Outs.nil)
  · refine JC.region fun b7 => ?_
    refine JS.run 1 (by kernel_rfl) ?_
    refine JS.nil ?_
    refine JC.to2 [(3, .x (.int .u64 (18442240474082181120 : Int)))] [] (by kernel_rfl) (by kernel_rfl) ?_
    refine JC.skipT ?_
    refine JC.seq ?_
    refine JC.region fun b8 => ?_
    refine JS.run 3 (by kernel_rfl) ?_
    refine JS.nil ?_
    refine JC.to2 [(2, .x (.flt (some (18442240474082181120 : Int).toNat : Fl)))] [] (by kernel_rfl) (by kernel_rfl) ?_
    refine JC.skipT ?_
    exact JC.finB (ex := .ret) (vs := [.x (.flt (some (18442240474082181120 : Int).toNat : Fl))]) (is := []) rfl ret_ne ⟨(by kernel_rfl), trivial⟩ (Outs.sc rfl Outs.nil)
/-! math.Signbit -/
def math_Signbit (k : Nat) (a0 : Fl) : Option Bool :=
  fcase a0 (fun w3 => some (decide ((IntKind.i64.wrap ((w3 : Nat) : Int)) < (0 : Int)))) (none)
theorem math_Signbit_ok (k : Nat) (a0 : Fl) : ∀ r, math_Signbit k a0 = some r → CallOk prog 29 [.x (.flt a0)] false [.sc (.x (.bool r))] := by
  refine CallOk.ofB (pf := pf29) (rs := [.tmp 2]) (Res := fun (r : Bool) => [.sc (.x (.bool r))]) rfl rfl rfl rfl rfl ?_
  unfold math_Signbit pf29
  refine JC.seq ?_
  refine JC.region fun b1 => ?_
  refine JS.run 1 (by kernel_rfl) ?_
  refine JS.nil ?_
  refine JC.to2 [(0, .x (.flt a0))] [] (by kernel_rfl) (by kernel_rfl) ?_
  refine JC.skipT ?_
  refine JC.seq ?_
  refine JC.region fun b2 => ?_
  refine JS.run 1 (by kernel_rfl) ?_
  refine JS.bits (e := a0) (by kernel_rfl) (by kernel_rfl) (by kernel_rfl) (fun w3 h4 => ?_) (fun h4 => ?_)
  · refine JS.run 3 (by kernel_rfl) ?_
    refine JS.nil ?_
    refine JC.to2 [(2, .x (.bool (decide ((IntKind.i64.wrap ((w3 : Nat) : Int)) < (0 : Int)))))] [] (by kernel_rfl) (by kernel_rfl) ?_
    refine JC.skipT ?_
    exact JC.finB (ex := .ret) (vs := [.x (.bool (decide ((IntKind.i64.wrap ((w3 : Nat) : Int)) < (0 : Int))))]) (is := []) rfl ret_ne ⟨(by kernel_rfl), trivial⟩ (Outs.sc rfl Outs.nil)
  · exact JS.no
/-! math.Abs -/
def math_Abs (k : Nat) (a0 : Fl) : Option Fl :=
  fcase a0 (fun w3 => some (some (iandn .u64 ((w3 : Nat) : Int) (9223372036854775808 : Int)).toNat : Fl)) (none)
theorem math_Abs_ok (k : Nat) (a0 : Fl) : ∀ r, math_Abs k a0 = some r → CallOk prog 34 [.x (.flt a0)] false [.sc (.x (.flt r))] := by
  refine CallOk.ofB (pf := pf34) (rs := [.tmp 2]) (Res := fun (r : Fl) => [.sc (.x (.flt r))]) rfl rfl rfl rfl rfl ?_
  unfold math_Abs pf34
  refine JC.seq ?_
  refine JC.region fun b1 => ?_
  refine JS.run 1 (by kernel_rfl) ?_
  refine JS.nil ?_
  refine JC.to2 [(0, .x (.flt a0))] [] (by kernel_rfl) (by kernel_rfl) ?_
  refine JC.skipT ?_
  refine JC.seq ?_
  refine JC.region fun b2 => ?_
  refine JS.run 1 (by kernel_rfl) ?_
  refine JS.bits (e := a0) (by kernel_rfl) (by kernel_rfl) (by kernel_rfl) (fun w3 h4 => ?_) (fun h4 => ?_)
  · refine JS.run 3 (by kernel_rfl) ?_
    refine JS.nil ?_
    refine JC.to2 [(2, .x (.flt (some (iandn .u64 ((w3 : Nat) : Int) (9223372036854775808 : Int)).toNat : Fl)))] [] (by kernel_rfl) (by kernel_rfl) ?_
    refine JC.skipT ?_
    exact JC.finB (ex := .ret) (vs := [.x (.flt (some (iandn .u64 ((w3 : Nat) : Int) (9223372036854775808 : Int)).toNat : Fl))]) (is := []) rfl ret_ne ⟨(by kernel_rfl), trivial⟩ (Outs.sc rfl Outs.nil)
  · exact JS.no
/-! math.IsInf -/
def math_IsInf (k : Nat) (a0 : Fl) (a1 : Int) : Option Bool :=
  cond (a1 == (0 : Int)) ((math_Abs k a0).bind fun r5 => some (fOrd r5 (some 9218868437227405311 : Fl) == some .gt)) (cond (decide (a1 < (0 : Int))) (some (fOrd (fNeg a0) (some 9218868437227405311 : Fl) == some .gt)) (some (fOrd a0 (some 9218868437227405311 : Fl) == some .gt)))
theorem math_IsInf_ok (k : Nat) (a0 : Fl) (a1 : Int) : ∀ r, math_IsInf k a0 a1 = some r → CallOk prog 31 [.x (.flt a0), .x (.int .i64 a1)] false [.sc (.x (.bool r))] := by
  refine CallOk.ofB (pf := pf31) (rs := [.tmp 4]) (Res := fun (r : Bool) => [.sc (.x (.bool r))]) rfl rfl rfl rfl rfl ?_
  unfold math_IsInf pf31
  refine JC.seq ?_
  refine JC.region fun b1 => ?_
  refine JS.run 1 (by kernel_rfl) ?_
  refine JS.nil ?_
  refine JC.to2 [(0, .x (.flt a0)), (1, .x (.int .i64 a1))] [] (by kernel_rfl) (by kernel_rfl) ?_
  refine JC.skipT ?_
  refine JC.seq ?_
  refine JC.seq ?_
  refine JC.region fun b2 => ?_
  refine JS.run 2 (by kernel_rfl) ?_
  refine JS.nil ?_
  refine JC.to2 [(0, .x (.flt a0)), (1, .x (.int .i64 a1)), (6, .x (.bool (a1 == (0 : Int))))] [] (by kernel_rfl) (by kernel_rfl) ?_
  refine JC.skipT ?_
  refine JC.cond (e := (a1 == (0 : Int))) (by kernel_rfl) (fun h3 => ?_) (fun h3 => ?_)
  · refine JC.region fun b4 => ?_
    refine JS.run 1 (by kernel_rfl) ?_
    refine JS.bind fun r5 h6 => ?_
    refine JS.callS [] (math_Abs_ok k a0 r5 h6) ⟨rfl, argX (d := (.flt a0)) (by kernel_rfl) (by kernel_rfl), trivial⟩ (by kernel_rfl) (by kernel_rfl) (by kernel_rfl) ?_
    refine JS.run 1 (by kernel_rfl) ?_
    refine JS.nil ?_
    refine JC.to2 [(0, .x (.flt r5))] [] (by kernel_rfl) (by kernel_rfl) ?_
    refine JC.skipT ?_
    refine JC.seq ?_
    refine JC.region fun b7 => ?_
    refine JS.run 3 (by kernel_rfl) ?_
    refine JS.nil ?_
    refine JC.to2 [(4, .x (.bool (fOrd r5 (some 9218868437227405311 : Fl) == some .gt)))] [] (by kernel_rfl) (by kernel_rfl) ?_
    refine JC.skipT ?_
    exact JC.finB (ex := .ret) (vs := [.x (.bool (fOrd r5 (some 9218868437227405311 : Fl) == some .gt))]) (is := []) rfl ret_ne ⟨(by kernel_rfl), trivial⟩ (Outs.sc rfl Outs.nil)
  · refine JC.seq ?_
    refine JC.region fun b8 => ?_
    refine JS.run 2 (by kernel_rfl) ?_
    refine JS.nil ?_
    refine JC.to2 [(0, .x (.flt a0)), (10, .x (.bool (decide (a1 < (0 : Int)))))] [] (by kernel_rfl) (by kernel_rfl) ?_
    refine JC.skipT ?_
    refine JC.cond (e := (decide (a1 < (0 : Int)))) (by kernel_rfl) (fun h9 => ?_) (fun h9 => ?_)
    · refine JC.region fun b10 => ?_
      refine JS.run 3 (by kernel_rfl) ?_
      refine JS.nil ?_
      refine JC.to2 [(0, .x (.flt (fNeg a0)))] [] (by kernel_rfl) (by kernel_rfl) ?_
      refine JC.skipT ?_
      refine JC.seq ?_
      refine JC.region fun b11 => ?_
      refine JS.run 3 (by kernel_rfl) ?_
      refine JS.nil ?_
      refine JC.to2 [(4, .x (.bool (fOrd (fNeg a0) (some 9218868437227405311 : Fl) == some .gt)))] [] (by kernel_rfl) (by kernel_rfl) ?_
      refine JC.skipT ?_
      exact JC.finB (ex := .ret) (vs := [.x (.bool (fOrd (fNeg a0) (some 9218868437227405311 : Fl) == some .gt))]) (is := []) rfl ret_ne ⟨(by kernel_rfl), trivial⟩ (Outs.sc rfl Outs.nil)
    · refine JC.skipT ?_
      refine JC.seq ?_
      refine JC.region fun b12 => ?_
      refine JS.run 3 (by kernel_rfl) ?_
      refine JS.nil ?_
      refine JC.to2 [(4, .x (.bool (fOrd a0 (some 9218868437227405311 : Fl) == some .gt)))] [] (by kernel_rfl) (by kernel_rfl) ?_
      refine JC.skipT ?_
      exact JC.finB (ex := .ret) (vs := [.x (.bool (fOrd a0 (some 9218868437227405311 : Fl) == some .gt))]) (is := []) rfl ret_ne ⟨(by kernel_rfl), trivial⟩ (Outs.sc rfl Outs.nil)
/-! math.Copysign -/
def math_Copysign (k : Nat) (a0 : Fl) (a1 : Fl) : Option Fl :=
  fcase a0 (fun w3 => fcase a1 (fun w5 => some (some (ior .u64 (iandn .u64 ((w3 : Nat) : Int) (9223372036854775808 : Int)) (iand .u64 ((w5 : Nat) : Int) (9223372036854775808 : Int))).toNat : Fl)) (none)) (none)
theorem math_Copysign_ok (k : Nat) (a0 : Fl) (a1 : Fl) : ∀ r, math_Copysign k a0 a1 = some r → CallOk prog 23 [.x (.flt a0), .x (.flt a1)] false [.sc (.x (.flt r))] := by
  refine CallOk.ofB (pf := pf23) (rs := [.tmp 4]) (Res := fun (r : Fl) => [.sc (.x (.flt r))]) rfl rfl rfl rfl rfl ?_
  unfold math_Copysign pf23
  refine JC.seq ?_
  refine JC.region fun b1 => ?_
  refine JS.run 1 (by kernel_rfl) ?_
  refine JS.nil ?_
  refine JC.to2 [(0, .x (.flt a0)), (1, .x (.flt a1))] [] (by kernel_rfl) (by kernel_rfl) ?_
  refine JC.skipT ?_
  refine JC.seq ?_
  refine JC.region fun b2 => ?_
  refine JS.run 1 (by kernel_rfl) ?_
  refine JS.bits (e := a0) (by kernel_rfl) (by kernel_rfl) (by kernel_rfl) (fun w3 h4 => ?_) (fun h4 => ?_)
  · refine JS.run 2 (by kernel_rfl) ?_
    refine JS.bits (e := a1) (by kernel_rfl) (by kernel_rfl) (by kernel_rfl) (fun w5 h6 => ?_) (fun h6 => ?_)
    · refine JS.run 4 (by kernel_rfl) ?_
      refine JS.nil ?_
      refine JC.to2 [(4, .x (.flt (some (ior .u64 (iandn .u64 ((w3 : Nat) : Int) (9223372036854775808 : Int)) (iand .u64 ((w5 : Nat) : Int) (9223372036854775808 : Int))).toNat : Fl)))] [] (by kernel_rfl) (by kernel_rfl) ?_
      refine JC.skipT ?_
      exact JC.finB (ex := .ret) (vs := [.x (.flt (some (ior .u64 (iandn .u64 ((w3 : Nat) : Int) (9223372036854775808 : Int)) (iand .u64 ((w5 : Nat) : Int) (9223372036854775808 : Int))).toNat : Fl))]) (is := []) rfl ret_ne ⟨(by kernel_rfl), trivial⟩ (Outs.sc rfl Outs.nil)
    · exact JS.no
  · exact JS.no
/-! cmp.isNaN[uint64] -/
def cmp_isNaN (k : Nat) (a0 : Int) : Option Bool :=
  some (a0 != a0)
theorem cmp_isNaN_ok (k : Nat) (a0 : Int) : ∀ r, cmp_isNaN k a0 = some r → CallOk prog 33 [.x (.int .u64 a0)] false [.sc (.x (.bool r))] := by
  refine CallOk.ofB (pf := pf33) (rs := [.tmp 2]) (Res := fun (r : Bool) => [.sc (.x (.bool r))]) rfl rfl rfl rfl rfl ?_
  unfold cmp_isNaN pf33
  refine JC.seq ?_
  refine JC.region fun b1 => ?_
  refine JS.run 1 (by kernel_rfl) ?_
  refine JS.nil ?_
  refine JC.to2 [(0, .x (.int .u64 a0))] [] (by kernel_rfl) (by kernel_rfl) ?_
  refine JC.skipT ?_
  refine JC.seq ?_
  refine JC.region fun b2 => ?_
  refine JS.run 4 (by kernel_rfl) ?_
  refine JS.nil ?_
  refine JC.to2 [(2, .x (.bool (a0 != a0)))] [] (by kernel_rfl) (by kernel_rfl) ?_
  refine JC.skipT ?_
  exact JC.finB (ex := .ret) (vs := [.x (.bool (a0 != a0))]) (is := []) rfl ret_ne ⟨(by kernel_rfl), trivial⟩ (Outs.sc rfl Outs.nil)
/-! cmp.Compare[uint64] -/
def cmp_Compare (k : Nat) (a0 : Int) (a1 : Int) : Option Int :=
  (cmp_isNaN k a0).bind fun r3 => (cmp_isNaN k a1).bind fun r6 => cond r3 (cond r6 (some (0 : Int)) (some (-1 : Int))) (cond r6 (some (1 : Int)) (cond (decide (a0 < a1)) (some (-1 : Int)) (cond (decide (a0 > a1)) (some (1 : Int)) (some (0 : Int)))))
theorem cmp_Compare_ok (k : Nat) (a0 : Int) (a1 : Int) : ∀ r, cmp_Compare k a0 a1 = some r → CallOk prog 28 [.x (.int .u64 a0), .x (.int .u64 a1)] false [.sc (.x (.int .i64 r))] := by
  refine CallOk.ofB (pf := pf28) (rs := [.tmp 4]) (Res := fun (r : Int) => [.sc (.x (.int .i64 r))]) rfl rfl rfl rfl rfl ?_
  unfold cmp_Compare pf28
  refine JC.seq ?_
  refine JC.region fun b1 => ?_
  refine JS.run 1 (by kernel_rfl) ?_
  refine JS.nil ?_
  refine JC.to2 [(0, .x (.int .u64 a0)), (1, .x (.int .u64 a1))] [] (by kernel_rfl) (by kernel_rfl) ?_
  refine JC.skipT ?_
  refine JC.seq ?_
  refine JC.region fun b2 => ?_
  refine JS.run 1 (by kernel_rfl) ?_
  refine JS.bind fun r3 h4 => ?_
  refine JS.callS [] (cmp_isNaN_ok k a0 r3 h4) ⟨rfl, argX (d := (.int .u64 a0)) (by kernel_rfl) (by kernel_rfl), trivial⟩ (by kernel_rfl) (by kernel_rfl) (by kernel_rfl) ?_
  refine JS.run 1 (by kernel_rfl) ?_
  refine JS.nil ?_
  refine JC.to2 [(0, .x (.int .u64 a0)), (1, .x (.int .u64 a1)), (5, .x (.bool r3))] [] (by kernel_rfl) (by kernel_rfl) ?_
  refine JC.skipT ?_
  refine JC.seq ?_
  refine JC.region fun b5 => ?_
  refine JS.run 1 (by kernel_rfl) ?_
  refine JS.bind fun r6 h7 => ?_
  refine JS.callS [] (cmp_isNaN_ok k a1 r6 h7) ⟨rfl, argX (d := (.int .u64 a1)) (by kernel_rfl) (by kernel_rfl), trivial⟩ (by kernel_rfl) (by kernel_rfl) (by kernel_rfl) ?_
  refine JS.run 1 (by kernel_rfl) ?_
  refine JS.nil ?_
  refine JC.to2 [(0, .x (.int .u64 a0)), (1, .x (.int .u64 a1)), (5, .x (.bool r3)), (6, .x (.bool r6))] [] (by kernel_rfl) (by kernel_rfl) ?_
  refine JC.skipT ?_
  refine JC.seq ?_
  refine JC.seq ?_
  refine JC.region fun b8 => ?_
  refine JS.run 1 (by kernel_rfl) ?_
  refine JS.nil ?_
  refine JC.to2 [(0, .x (.int .u64 a0)), (1, .x (.int .u64 a1)), (6, .x (.bool r6)), (11, .x (.bool r3))] [] (by kernel_rfl) (by kernel_rfl) ?_
  refine JC.skipT ?_
  refine JC.cond (e := r3) (by kernel_rfl) (fun h9 => ?_) (fun h9 => ?_)
  · refine JC.seq ?_
    refine JC.seq ?_
    refine JC.region fun b10 => ?_
    refine JS.run 1 (by kernel_rfl) ?_
    refine JS.nil ?_
    refine JC.to2 [(12, .x (.bool r6))] [] (by kernel_rfl) (by kernel_rfl) ?_
    refine JC.skipT ?_
    refine JC.cond (e := r6) (by kernel_rfl) (fun h11 => ?_) (fun h11 => ?_)
    · refine JC.seq ?_
      refine JC.region fun b12 => ?_
      refine JS.run 1 (by kernel_rfl) ?_
      refine JS.nil ?_
      refine JC.to2 [(4, .x (.int .i64 (0 : Int)))] [] (by kernel_rfl) (by kernel_rfl) ?_
      refine JC.skipT ?_
      refine JC.retT ?_
      refine JC.retT ?_
      exact JC.finB (ex := .ret) (vs := [.x (.int .i64 (0 : Int))]) (is := []) rfl ret_ne ⟨(by kernel_rfl), trivial⟩ (Outs.sc rfl Outs.nil)
    · refine JC.skipT ?_
      refine JC.seq ?_
      refine JC.region fun b13 => ?_
      refine JS.run 1 (by kernel_rfl) ?_
      refine JS.nil ?_
      refine JC.to2 [(4, .x (.int .i64 (-1 : Int)))] [] (by kernel_rfl) (by kernel_rfl) ?_
      refine JC.skipT ?_
      refine JC.retT ?_
      exact JC.finB (ex := .ret) (vs := [.x (.int .i64 (-1 : Int))]) (is := []) rfl ret_ne ⟨(by kernel_rfl), trivial⟩ (Outs.sc rfl Outs.nil)
  · refine JC.skipT ?_
    refine JC.seq ?_
    refine JC.seq ?_
    refine JC.region fun b14 => ?_
    refine JS.run 1 (by kernel_rfl) ?_
    refine JS.nil ?_
    refine JC.to2 [(0, .x (.int .u64 a0)), (1, .x (.int .u64 a1)), (13, .x (.bool r6))] [] (by kernel_rfl) (by kernel_rfl) ?_
    refine JC.skipT ?_
    refine JC.cond (e := r6) (by kernel_rfl) (fun h15 => ?_) (fun h15 => ?_)
    · refine JC.seq ?_
      refine JC.region fun b16 => ?_
      refine JS.run 1 (by kernel_rfl) ?_
      refine JS.nil ?_
      refine JC.to2 [(4, .x (.int .i64 (1 : Int)))] [] (by kernel_rfl) (by kernel_rfl) ?_
      refine JC.skipT ?_
      refine JC.retT ?_
      exact JC.finB (ex := .ret) (vs := [.x (.int .i64 (1 : Int))]) (is := []) rfl ret_ne ⟨(by kernel_rfl), trivial⟩ (Outs.sc rfl Outs.nil)
    · refine JC.skipT ?_
      refine JC.seq ?_
      refine JC.seq ?_
      refine JC.region fun b17 => ?_
      refine JS.run 3 (by kernel_rfl) ?_
      refine JS.nil ?_
      refine JC.to2 [(0, .x (.int .u64 a0)), (1, .x (.int .u64 a1)), (16, .x (.bool (decide (a0 < a1))))] [] (by kernel_rfl) (by kernel_rfl) ?_
      refine JC.skipT ?_
      refine JC.cond (e := (decide (a0 < a1))) (by kernel_rfl) (fun h18 => ?_) (fun h18 => ?_)
      · refine JC.seq ?_
        refine JC.region fun b19 => ?_
        refine JS.run 1 (by kernel_rfl) ?_
        refine JS.nil ?_
        refine JC.to2 [(4, .x (.int .i64 (-1 : Int)))] [] (by kernel_rfl) (by kernel_rfl) ?_
        refine JC.skipT ?_
        refine JC.retT ?_
        exact JC.finB (ex := .ret) (vs := [.x (.int .i64 (-1 : Int))]) (is := []) rfl ret_ne ⟨(by kernel_rfl), trivial⟩ (Outs.sc rfl Outs.nil)
      · refine JC.skipT ?_
        refine JC.seq ?_
        refine JC.seq ?_
        refine JC.region fun b20 => ?_
        refine JS.run 3 (by kernel_rfl) ?_
        refine JS.nil ?_
        refine JC.to2 [(19, .x (.bool (decide (a0 > a1))))] [] (by kernel_rfl) (by kernel_rfl) ?_
        refine JC.skipT ?_
        refine JC.cond (e := (decide (a0 > a1))) (by kernel_rfl) (fun h21 => ?_) (fun h21 => ?_)
        · refine JC.seq ?_
          refine JC.region fun b22 => ?_
          refine JS.run 1 (by kernel_rfl) ?_
          refine JS.nil ?_
          refine JC.to2 [(4, .x (.int .i64 (1 : Int)))] [] (by kernel_rfl) (by kernel_rfl) ?_
          refine JC.skipT ?_
          refine JC.retT ?_
          exact JC.finB (ex := .ret) (vs := [.x (.int .i64 (1 : Int))]) (is := []) rfl ret_ne ⟨(by kernel_rfl), trivial⟩ (Outs.sc rfl Outs.nil)
        · refine JC.skipT ?_
          refine JC.seq ?_
          refine JC.region fun b23 => ?_
          refine JS.run 1 (by kernel_rfl) ?_
          refine JS.nil ?_
          refine JC.to2 [(4, .x (.int .i64 (0 : Int)))] [] (by kernel_rfl) (by kernel_rfl) ?_
          refine JC.skipT ?_
          exact JC.finB (ex := .ret) (vs := [.x (.int .i64 (0 : Int))]) (is := []) rfl ret_ne ⟨(by kernel_rfl), trivial⟩ (Outs.sc rfl Outs.nil)
/-! eyot/weigh.Key -/
def weigh_Key (k : Nat) (a0 : Fl) : Option Int :=
  fcase a0 (fun w3 => cond (fOrd a0 a0 != some .eq) (some (18446744073709551615 : Int)) (cond (decide (((w3 : Nat) : Int) ≥ (9223372036854775808 : Int))) (some (ixor .u64 (IntKind.max .u64) ((w3 : Nat) : Int))) (some (ixor .u64 ((w3 : Nat) : Int) (9223372036854775808 : Int))))) (cond (fOrd a0 a0 != some .eq) (some (18446744073709551615 : Int)) (none))
theorem weigh_Key_ok (k : Nat) (a0 : Fl) : ∀ r, weigh_Key k a0 = some r → CallOk prog 17 [.x (.flt a0)] false [.sc (.x (.int .u64 r))] := by
  refine CallOk.ofB (pf := pf17) (rs := [.tmp 2]) (Res := fun (r : Int) => [.sc (.x (.int .u64 r))]) rfl rfl rfl rfl rfl ?_
  unfold weigh_Key pf17
  refine JC.seq ?_
  refine JC.region fun b1 => ?_
  refine JS.run 1 (by kernel_rfl) ?_
  refine JS.nil ?_
  refine JC.to2 [(0, .x (.flt a0))] [] (by kernel_rfl) (by kernel_rfl) ?_
  refine JC.skipT ?_
  refine JC.seq ?_
  refine JC.region fun b2 => ?_
  refine JS.run 1 (by kernel_rfl) ?_
  refine JS.bits (e := a0) (by kernel_rfl) (by kernel_rfl) (by kernel_rfl) (fun w3 h4 => ?_) (fun h4 => ?_)
  · refine JS.run 1 (by kernel_rfl) ?_
    refine JS.nil ?_
    refine JC.to2 [(0, .x (.flt a0)), (3, .x (.int .u64 ((w3 : Nat) : Int)))] [] (by kernel_rfl) (by kernel_rfl) ?_
    refine JC.skipT ?_
    refine JC.seq ?_
    refine JC.block ?_
    refine JC.seq ?_
    refine JC.region fun b5 => ?_
    refine JS.run 4 (by kernel_rfl) ?_
    refine JS.nil ?_
    refine JC.to2 [(3, .x (.int .u64 ((w3 : Nat) : Int))), (6, .x (.bool (fOrd a0 a0 != some .eq)))] [] (by kernel_rfl) (by kernel_rfl) ?_
    refine JC.skipT ?_
    refine JC.cond (e := (fOrd a0 a0 != some .eq)) (by kernel_rfl) (fun h6 => ?_) (fun h6 => ?_)
    · refine JC.seq ?_
      refine JC.region fun b7 => ?_
      refine JS.run 1 (by kernel_rfl) ?_
      refine JS.nil ?_
      refine JC.to2 [(2, .x (.int .u64 (18446744073709551615 : Int)))] [] (by kernel_rfl) (by kernel_rfl) ?_
      refine JC.skipT ?_
      refine JC.retB ?_
      refine JC.retT ?_
      exact JC.finB (ex := .ret) (vs := [.x (.int .u64 (18446744073709551615 : Int))]) (is := []) rfl ret_ne ⟨(by kernel_rfl), trivial⟩ (Outs.sc rfl Outs.nil)
    · refine JC.seq ?_
      refine JC.region fun b8 => ?_
      refine JS.run 3 (by kernel_rfl) ?_
      refine JS.nil ?_
      refine JC.to2 [(3, .x (.int .u64 ((w3 : Nat) : Int))), (10, .x (.bool (decide (((w3 : Nat) : Int) ≥ (9223372036854775808 : Int)))))] [] (by kernel_rfl) (by kernel_rfl) ?_
      refine JC.skipT ?_
      refine JC.cond (e := (decide (((w3 : Nat) : Int) ≥ (9223372036854775808 : Int)))) (by kernel_rfl) (fun h9 => ?_) (fun h9 => ?_)
      · refine JC.seq ?_
        refine JC.region fun b10 => ?_
        refine JS.run 3 (by kernel_rfl) ?_
        refine JS.nil ?_
        refine JC.to2 [(2, .x (.int .u64 (ixor .u64 (IntKind.max .u64) ((w3 : Nat) : Int))))] [] (by kernel_rfl) (by kernel_rfl) ?_
        refine JC.skipT ?_
        refine JC.retB ?_
        refine JC.retT ?_
        exact JC.finB (ex := .ret) (vs := [.x (.int .u64 (ixor .u64 (IntKind.max .u64) ((w3 : Nat) : Int)))]) (is := []) rfl ret_ne ⟨(by kernel_rfl), trivial⟩ (Outs.sc rfl Outs.nil)
      · refine JC.skipB ?_
        refine JC.skipT ?_
        refine JC.seq ?_
        refine JC.region fun b11 => ?_
        refine JS.run 3 (by kernel_rfl) ?_
        refine JS.nil ?_
        refine JC.to2 [(2, .x (.int .u64 (ixor .u64 ((w3 : Nat) : Int) (9223372036854775808 : Int))))] [] (by kernel_rfl) (by kernel_rfl) ?_
        refine JC.skipT ?_
        exact JC.finB (ex := .ret) (vs := [.x (.int .u64 (ixor .u64 ((w3 : Nat) : Int) (9223372036854775808 : Int)))]) (is := []) rfl ret_ne ⟨(by kernel_rfl), trivial⟩ (Outs.sc rfl Outs.nil)
  · refine JS.run 1 (by kernel_rfl) ?_
    refine JS.nil ?_
    refine JC.to2 [(0, .x (.flt a0))] [] (by kernel_rfl) (by kernel_rfl) ?_
    refine JC.skipT ?_
    refine JC.seq ?_
    refine JC.block ?_
    refine JC.seq ?_
    refine JC.region fun b12 => ?_
    refine JS.run 4 (by kernel_rfl) ?_
    refine JS.nil ?_
    refine JC.to2 [(6, .x (.bool (fOrd a0 a0 != some .eq)))] [] (by kernel_rfl) (by kernel_rfl) ?_
    refine JC.skipT ?_
    refine JC.cond (e := (fOrd a0 a0 != some .eq)) (by kernel_rfl) (fun h13 => ?_) (fun h13 => ?_)
    · refine JC.seq ?_
      refine JC.region fun b14 => ?_
      refine JS.run 1 (by kernel_rfl) ?_
      refine JS.nil ?_
      refine JC.to2 [(2, .x (.int .u64 (18446744073709551615 : Int)))] [] (by kernel_rfl) (by kernel_rfl) ?_
      refine JC.skipT ?_
      refine JC.retB ?_
      refine JC.retT ?_
      exact JC.finB (ex := .ret) (vs := [.x (.int .u64 (18446744073709551615 : Int))]) (is := []) rfl ret_ne ⟨(by kernel_rfl), trivial⟩ (Outs.sc rfl Outs.nil)
    · exact JC.no
/-! eyot/weigh.Order -/
def weigh_Order (k : Nat) (a0 : Fl) (a1 : Fl) : Option Int :=
  (weigh_Key k a0).bind fun r3 => (weigh_Key k a1).bind fun r5 => (cmp_Compare k r3 r5).bind fun r7 => some r7
theorem weigh_Order_ok (k : Nat) (a0 : Fl) (a1 : Fl) : ∀ r, weigh_Order k a0 a1 = some r → CallOk prog 15 [.x (.flt a0), .x (.flt a1)] false [.sc (.x (.int .i64 r))] := by
  refine CallOk.ofB (pf := pf15) (rs := [.tmp 4]) (Res := fun (r : Int) => [.sc (.x (.int .i64 r))]) rfl rfl rfl rfl rfl ?_
  unfold weigh_Order pf15
  refine JC.seq ?_
  refine JC.region fun b1 => ?_
  refine JS.run 1 (by kernel_rfl) ?_
  refine JS.nil ?_
  refine JC.to2 [(0, .x (.flt a0)), (1, .x (.flt a1))] [] (by kernel_rfl) (by kernel_rfl) ?_
  refine JC.skipT ?_
  refine JC.seq ?_
  refine JC.region fun b2 => ?_
  refine JS.run 1 (by kernel_rfl) ?_
  refine JS.bind fun r3 h4 => ?_
  refine JS.callS [] (weigh_Key_ok k a0 r3 h4) ⟨rfl, argX (d := (.flt a0)) (by kernel_rfl) (by kernel_rfl), trivial⟩ (by kernel_rfl) (by kernel_rfl) (by kernel_rfl) ?_
  refine JS.run 1 (by kernel_rfl) ?_
  refine JS.bind fun r5 h6 => ?_
  refine JS.callS [] (weigh_Key_ok k a1 r5 h6) ⟨rfl, argX (d := (.flt a1)) (by kernel_rfl) (by kernel_rfl), trivial⟩ (by kernel_rfl) (by kernel_rfl) (by kernel_rfl) ?_
  refine JS.bind fun r7 h8 => ?_
  refine JS.callS [] (cmp_Compare_ok k r3 r5 r7 h8) ⟨rfl, argX (d := (.int .u64 r3)) (by kernel_rfl) (by kernel_rfl), rfl, argX (d := (.int .u64 r5)) (by kernel_rfl) (by kernel_rfl), trivial⟩ (by kernel_rfl) (by kernel_rfl) (by kernel_rfl) ?_
  refine JS.run 1 (by kernel_rfl) ?_
  refine JS.nil ?_
  refine JC.to2 [(4, .x (.int .i64 r7))] [] (by kernel_rfl) (by kernel_rfl) ?_
  refine JC.skipT ?_
  exact JC.finB (ex := .ret) (vs := [.x (.int .i64 r7)]) (is := []) rfl ret_ne ⟨(by kernel_rfl), trivial⟩ (Outs.sc rfl Outs.nil)
/-! eyot/weigh.Same -/
def weigh_Same (k : Nat) (a0 : Fl) (a1 : Fl) : Option Bool :=
  (weigh_Order k a0 a1).bind fun r3 => some (r3 == (0 : Int))
theorem weigh_Same_ok (k : Nat) (a0 : Fl) (a1 : Fl) : ∀ r, weigh_Same k a0 a1 = some r → CallOk prog 12 [.x (.flt a0), .x (.flt a1)] false [.sc (.x (.bool r))] := by
  refine CallOk.ofB (pf := pf12) (rs := [.tmp 4]) (Res := fun (r : Bool) => [.sc (.x (.bool r))]) rfl rfl rfl rfl rfl ?_
  unfold weigh_Same pf12
  refine JC.seq ?_
  refine JC.region fun b1 => ?_
  refine JS.run 1 (by kernel_rfl) ?_
  refine JS.nil ?_
  refine JC.to2 [(0, .x (.flt a0)), (1, .x (.flt a1))] [] (by kernel_rfl) (by kernel_rfl) ?_
  refine JC.skipT ?_
  refine JC.seq ?_
  refine JC.region fun b2 => ?_
  refine JS.run 2 (by kernel_rfl) ?_
  refine JS.bind fun r3 h4 => ?_
  refine JS.callS [] (weigh_Order_ok k a0 a1 r3 h4) ⟨rfl, argX (d := (.flt a0)) (by kernel_rfl) (by kernel_rfl), rfl, argX (d := (.flt a1)) (by kernel_rfl) (by kernel_rfl), trivial⟩ (by kernel_rfl) (by kernel_rfl) (by kernel_rfl) ?_
  refine JS.run 2 (by kernel_rfl) ?_
  refine JS.nil ?_
  refine JC.to2 [(4, .x (.bool (r3 == (0 : Int))))] [] (by kernel_rfl) (by kernel_rfl) ?_
  refine JC.skipT ?_
  exact JC.finB (ex := .ret) (vs := [.x (.bool (r3 == (0 : Int)))]) (is := []) rfl ret_ne ⟨(by kernel_rfl), trivial⟩ (Outs.sc rfl Outs.nil)
/-! eyot/weigh.Of -/
def weigh_Of (k : Nat) (a0 : Int) : Option Fl :=
  cond (decide (a0 < (9223372036854775808 : Int))) ((weigh_Key k (some (ixor .u64 (IntKind.max .u64) a0).toNat : Fl)).bind fun r8 => cond (r8 != a0) ((math_NaN k).bind fun r12 => some r12) (some (some (ixor .u64 (IntKind.max .u64) a0).toNat : Fl))) ((weigh_Key k (some (ixor .u64 a0 (9223372036854775808 : Int)).toNat : Fl)).bind fun r17 => cond (r17 != a0) ((math_NaN k).bind fun r21 => some r21) (some (some (ixor .u64 a0 (9223372036854775808 : Int)).toNat : Fl)))
theorem weigh_Of_ok (k : Nat) (a0 : Int) : ∀ r, weigh_Of k a0 = some r → CallOk prog 14 [.x (.int .u64 a0)] false [.sc (.x (.flt r))] := by
  refine CallOk.ofB (pf := pf14) (rs := [.tmp 2]) (Res := fun (r : Fl) => [.sc (.x (.flt r))]) rfl rfl rfl rfl rfl ?_
  unfold weigh_Of pf14
  refine JC.seq ?_
  refine JC.region fun b1 => ?_
  refine JS.run 1 (by kernel_rfl) ?_
  refine JS.nil ?_
  refine JC.to2 [(0, .x (.int .u64 a0))] [] (by kernel_rfl) (by kernel_rfl) ?_
  refine JC.skipT ?_
  refine JC.seq ?_
  refine JC.region fun b2 => ?_
  refine JS.run 3 (by kernel_rfl) ?_
  refine JS.nil ?_
  refine JC.to2 [(0, .x (.int .u64 a0)), (3, .x (.int .u64 (ixor .u64 a0 (9223372036854775808 : Int))))] [] (by kernel_rfl) (by kernel_rfl) ?_
  refine JC.skipT ?_
  refine JC.seq ?_
  refine JC.seq ?_
  refine JC.region fun b3 => ?_
  refine JS.run 2 (by kernel_rfl) ?_
  refine JS.nil ?_
  refine JC.to2 [(0, .x (.int .u64 a0)), (3, .x (.int .u64 (ixor .u64 a0 (9223372036854775808 : Int)))), (8, .x (.bool (decide (a0 < (9223372036854775808 : Int)))))] [] (by kernel_rfl) (by kernel_rfl) ?_
  refine JC.skipT ?_
  refine JC.cond (e := (decide (a0 < (9223372036854775808 : Int)))) (by kernel_rfl) (fun h4 => ?_) (fun h4 => ?_)
  · refine JC.region fun b5 => ?_
    refine JS.run 3 (by kernel_rfl) ?_
    refine JS.nil ?_
    refine JC.to2 [(0, .x (.int .u64 a0)), (3, .x (.int .u64 (ixor .u64 (IntKind.max .u64) a0)))] [] (by kernel_rfl) (by kernel_rfl) ?_
    refine JC.skipT ?_
    refine JC.seq ?_
    refine JC.region fun b6 => ?_
    refine JS.run 3 (by kernel_rfl) ?_
    refine JS.nil ?_
    refine JC.to2 [(0, .x (.int .u64 a0)), (4, .x (.flt (some (ixor .u64 (IntKind.max .u64) a0).toNat : Fl)))] [] (by kernel_rfl) (by kernel_rfl) ?_
    refine JC.skipT ?_
    refine JC.seq ?_
    refine JC.seq ?_
    refine JC.region fun b7 => ?_
    refine JS.run 1 (by kernel_rfl) ?_
    refine JS.bind fun r8 h9 => ?_
    refine JS.callS [] (weigh_Key_ok k (some (ixor .u64 (IntKind.max .u64) a0).toNat : Fl) r8 h9) ⟨rfl, argX (d := (.flt (some (ixor .u64 (IntKind.max .u64) a0).toNat : Fl))) (by kernel_rfl) (by kernel_rfl), trivial⟩ (by kernel_rfl) (by kernel_rfl) (by kernel_rfl) ?_
    refine JS.run 2 (by kernel_rfl) ?_
    refine JS.nil ?_
    refine JC.to2 [(4, .x (.flt (some (ixor .u64 (IntKind.max .u64) a0).toNat : Fl))), (16, .x (.bool (r8 != a0)))] [] (by kernel_rfl) (by kernel_rfl) ?_
    refine JC.skipT ?_
    refine JC.cond (e := (r8 != a0)) (by kernel_rfl) (fun h10 => ?_) (fun h10 => ?_)
    · refine JC.seq ?_
      refine JC.region fun b11 => ?_
      refine JS.bind fun r12 h13 => ?_
      refine JS.callS [] (math_NaN_ok k r12 h13) trivial (by kernel_rfl) (by kernel_rfl) (by kernel_rfl) ?_
      refine JS.run 1 (by kernel_rfl) ?_
      refine JS.nil ?_
      refine JC.to2 [(2, .x (.flt r12))] [] (by kernel_rfl) (by kernel_rfl) ?_
      refine JC.skipT ?_
      refine JC.retT ?_
      exact JC.finB (ex := .ret) (vs := [.x (.flt r12)]) (is := []) rfl ret_ne ⟨(by kernel_rfl), trivial⟩ (Outs.sc rfl Outs.nil)
    · refine JC.skipT ?_
      refine JC.seq ?_
      refine JC.region fun b14 => ?_
      refine JS.run 2 (by kernel_rfl) ?_
      refine JS.nil ?_
      refine JC.to2 [(2, .x (.flt (some (ixor .u64 (IntKind.max .u64) a0).toNat : Fl)))] [] (by kernel_rfl) (by kernel_rfl) ?_
      refine JC.skipT ?_
      exact JC.finB (ex := .ret) (vs := [.x (.flt (some (ixor .u64 (IntKind.max .u64) a0).toNat : Fl))]) (is := []) rfl ret_ne ⟨(by kernel_rfl), trivial⟩ (Outs.sc rfl Outs.nil)
  · refine JC.skipT ?_
    refine JC.seq ?_
    refine JC.region fun b15 => ?_
    refine JS.run 3 (by kernel_rfl) ?_
    refine JS.nil ?_
    refine JC.to2 [(0, .x (.int .u64 a0)), (4, .x (.flt (some (ixor .u64 a0 (9223372036854775808 : Int)).toNat : Fl)))] [] (by kernel_rfl) (by kernel_rfl) ?_
    refine JC.skipT ?_
    refine JC.seq ?_
    refine JC.seq ?_
    refine JC.region fun b16 => ?_
    refine JS.run 1 (by kernel_rfl) ?_
    refine JS.bind fun r17 h18 => ?_
    refine JS.callS [] (weigh_Key_ok k (some (ixor .u64 a0 (9223372036854775808 : Int)).toNat : Fl) r17 h18) ⟨rfl, argX (d := (.flt (some (ixor .u64 a0 (9223372036854775808 : Int)).toNat : Fl))) (by kernel_rfl) (by kernel_rfl), trivial⟩ (by kernel_rfl) (by kernel_rfl) (by kernel_rfl) ?_
    refine JS.run 2 (by kernel_rfl) ?_
    refine JS.nil ?_
    refine JC.to2 [(4, .x (.flt (some (ixor .u64 a0 (9223372036854775808 : Int)).toNat : Fl))), (16, .x (.bool (r17 != a0)))] [] (by kernel_rfl) (by kernel_rfl) ?_
    refine JC.skipT ?_
    refine JC.cond (e := (r17 != a0)) (by kernel_rfl) (fun h19 => ?_) (fun h19 => ?_)
    · refine JC.seq ?_
      refine JC.region fun b20 => ?_
      refine JS.bind fun r21 h22 => ?_
      refine JS.callS [] (math_NaN_ok k r21 h22) trivial (by kernel_rfl) (by kernel_rfl) (by kernel_rfl) ?_
      refine JS.run 1 (by kernel_rfl) ?_
      refine JS.nil ?_
      refine JC.to2 [(2, .x (.flt r21))] [] (by kernel_rfl) (by kernel_rfl) ?_
      refine JC.skipT ?_
      refine JC.retT ?_
      exact JC.finB (ex := .ret) (vs := [.x (.flt r21)]) (is := []) rfl ret_ne ⟨(by kernel_rfl), trivial⟩ (Outs.sc rfl Outs.nil)
    · refine JC.skipT ?_
      refine JC.seq ?_
      refine JC.region fun b23 => ?_
      refine JS.run 2 (by kernel_rfl) ?_
      refine JS.nil ?_
      refine JC.to2 [(2, .x (.flt (some (ixor .u64 a0 (9223372036854775808 : Int)).toNat : Fl)))] [] (by kernel_rfl) (by kernel_rfl) ?_
      refine JC.skipT ?_
      exact JC.finB (ex := .ret) (vs := [.x (.flt (some (ixor .u64 a0 (9223372036854775808 : Int)).toNat : Fl))]) (is := []) rfl ret_ne ⟨(by kernel_rfl), trivial⟩ (Outs.sc rfl Outs.nil)
/-! eyot/weigh.Kind -/
def weigh_Kind (k : Nat) (a0 : Fl) : Option Int :=
  cond (fOrd a0 a0 != some .eq) (some (0 : Int)) ((math_IsInf k a0 (-1 : Int)).bind fun r6 => cond r6 (some (1 : Int)) (cond (fOrd a0 (some 0 : Fl) == some .lt) (some (2 : Int)) ((math_IsInf k a0 (1 : Int)).bind fun r14 => cond r14 (some (6 : Int)) (cond (fOrd a0 (some 0 : Fl) == some .gt) (some (5 : Int)) ((math_Signbit k a0).bind fun r22 => cond r22 (some (3 : Int)) (some (4 : Int)))))))
theorem weigh_Kind_ok (k : Nat) (a0 : Fl) : ∀ r, weigh_Kind k a0 = some r → CallOk prog 20 [.x (.flt a0)] false [.sc (.x (.int .i64 r))] := by
  refine CallOk.ofB (pf := pf20) (rs := [.tmp 2]) (Res := fun (r : Int) => [.sc (.x (.int .i64 r))]) rfl rfl rfl rfl rfl ?_
  unfold weigh_Kind pf20
  refine JC.seq ?_
  refine JC.region fun b1 => ?_
  refine JS.run 1 (by kernel_rfl) ?_
  refine JS.nil ?_
  refine JC.to2 [(0, .x (.flt a0))] [] (by kernel_rfl) (by kernel_rfl) ?_
  refine JC.skipT ?_
  refine JC.seq ?_
  refine JC.block ?_
  refine JC.seq ?_
  refine JC.region fun b2 => ?_
  refine JS.run 4 (by kernel_rfl) ?_
  refine JS.nil ?_
  refine JC.to2 [(0, .x (.flt a0)), (3, .x (.bool (fOrd a0 a0 != some .eq)))] [] (by kernel_rfl) (by kernel_rfl) ?_
  refine JC.skipT ?_
  refine JC.cond (e := (fOrd a0 a0 != some .eq)) (by kernel_rfl) (fun h3 => ?_) (fun h3 => ?_)
  · refine JC.seq ?_
    refine JC.region fun b4 => ?_
    refine JS.run 1 (by kernel_rfl) ?_
    refine JS.nil ?_
    refine JC.to2 [(2, .x (.int .i64 (0 : Int)))] [] (by kernel_rfl) (by kernel_rfl) ?_
    refine JC.skipT ?_
    refine JC.retB ?_
    refine JC.retT ?_
    exact JC.finB (ex := .ret) (vs := [.x (.int .i64 (0 : Int))]) (is := []) rfl ret_ne ⟨(by kernel_rfl), trivial⟩ (Outs.sc rfl Outs.nil)
  · refine JC.seq ?_
    refine JC.region fun b5 => ?_
    refine JS.run 1 (by kernel_rfl) ?_
    refine JS.bind fun r6 h7 => ?_
    refine JS.callS [] (math_IsInf_ok k a0 (-1 : Int) r6 h7) ⟨rfl, argX (d := (.flt a0)) (by kernel_rfl) (by kernel_rfl), rfl, argX (d := (.int .i64 (-1 : Int))) (by kernel_rfl) (by kernel_rfl), trivial⟩ (by kernel_rfl) (by kernel_rfl) (by kernel_rfl) ?_
    refine JS.run 1 (by kernel_rfl) ?_
    refine JS.nil ?_
    refine JC.to2 [(0, .x (.flt a0)), (7, .x (.bool r6))] [] (by kernel_rfl) (by kernel_rfl) ?_
    refine JC.skipT ?_
    refine JC.cond (e := r6) (by kernel_rfl) (fun h8 => ?_) (fun h8 => ?_)
    · refine JC.seq ?_
      refine JC.region fun b9 => ?_
      refine JS.run 1 (by kernel_rfl) ?_
      refine JS.nil ?_
      refine JC.to2 [(2, .x (.int .i64 (1 : Int)))] [] (by kernel_rfl) (by kernel_rfl) ?_
      refine JC.skipT ?_
      refine JC.retB ?_
      refine JC.retT ?_
      exact JC.finB (ex := .ret) (vs := [.x (.int .i64 (1 : Int))]) (is := []) rfl ret_ne ⟨(by kernel_rfl), trivial⟩ (Outs.sc rfl Outs.nil)
    · refine JC.seq ?_
      refine JC.region fun b10 => ?_
      refine JS.run 3 (by kernel_rfl) ?_
      refine JS.nil ?_
      refine JC.to2 [(0, .x (.flt a0)), (10, .x (.bool (fOrd a0 (some 0 : Fl) == some .lt)))] [] (by kernel_rfl) (by kernel_rfl) ?_
      refine JC.skipT ?_
      refine JC.cond (e := (fOrd a0 (some 0 : Fl) == some .lt)) (by kernel_rfl) (fun h11 => ?_) (fun h11 => ?_)
      · refine JC.seq ?_
        refine JC.region fun b12 => ?_
        refine JS.run 1 (by kernel_rfl) ?_
        refine JS.nil ?_
        refine JC.to2 [(2, .x (.int .i64 (2 : Int)))] [] (by kernel_rfl) (by kernel_rfl) ?_
        refine JC.skipT ?_
        refine JC.retB ?_
        refine JC.retT ?_
        exact JC.finB (ex := .ret) (vs := [.x (.int .i64 (2 : Int))]) (is := []) rfl ret_ne ⟨(by kernel_rfl), trivial⟩ (Outs.sc rfl Outs.nil)
      · refine JC.seq ?_
        refine JC.region fun b13 => ?_
        refine JS.run 1 (by kernel_rfl) ?_
        refine JS.bind fun r14 h15 => ?_
        refine JS.callS [] (math_IsInf_ok k a0 (1 : Int) r14 h15) ⟨rfl, argX (d := (.flt a0)) (by kernel_rfl) (by kernel_rfl), rfl, argX (d := (.int .i64 (1 : Int))) (by kernel_rfl) (by kernel_rfl), trivial⟩ (by kernel_rfl) (by kernel_rfl) (by kernel_rfl) ?_
        refine JS.run 1 (by kernel_rfl) ?_
        refine JS.nil ?_
        refine JC.to2 [(0, .x (.flt a0)), (13, .x (.bool r14))] [] (by kernel_rfl) (by kernel_rfl) ?_
        refine JC.skipT ?_
        refine JC.cond (e := r14) (by kernel_rfl) (fun h16 => ?_) (fun h16 => ?_)
        · refine JC.seq ?_
          refine JC.region fun b17 => ?_
          refine JS.run 1 (by kernel_rfl) ?_
          refine JS.nil ?_
          refine JC.to2 [(2, .x (.int .i64 (6 : Int)))] [] (by kernel_rfl) (by kernel_rfl) ?_
          refine JC.skipT ?_
          refine JC.retB ?_
          refine JC.retT ?_
          exact JC.finB (ex := .ret) (vs := [.x (.int .i64 (6 : Int))]) (is := []) rfl ret_ne ⟨(by kernel_rfl), trivial⟩ (Outs.sc rfl Outs.nil)
        · refine JC.seq ?_
          refine JC.region fun b18 => ?_
          refine JS.run 3 (by kernel_rfl) ?_
          refine JS.nil ?_
          refine JC.to2 [(0, .x (.flt a0)), (16, .x (.bool (fOrd a0 (some 0 : Fl) == some .gt)))] [] (by kernel_rfl) (by kernel_rfl) ?_
          refine JC.skipT ?_
          refine JC.cond (e := (fOrd a0 (some 0 : Fl) == some .gt)) (by kernel_rfl) (fun h19 => ?_) (fun h19 => ?_)
          · refine JC.seq ?_
            refine JC.region fun b20 => ?_
            refine JS.run 1 (by kernel_rfl) ?_
            refine JS.nil ?_
            refine JC.to2 [(2, .x (.int .i64 (5 : Int)))] [] (by kernel_rfl) (by kernel_rfl) ?_
            refine JC.skipT ?_
            refine JC.retB ?_
            refine JC.retT ?_
            exact JC.finB (ex := .ret) (vs := [.x (.int .i64 (5 : Int))]) (is := []) rfl ret_ne ⟨(by kernel_rfl), trivial⟩ (Outs.sc rfl Outs.nil)
          · refine JC.seq ?_
            refine JC.region fun b21 => ?_
            refine JS.run 1 (by kernel_rfl) ?_
            refine JS.bind fun r22 h23 => ?_
            refine JS.callS [] (math_Signbit_ok k a0 r22 h23) ⟨rfl, argX (d := (.flt a0)) (by kernel_rfl) (by kernel_rfl), trivial⟩ (by kernel_rfl) (by kernel_rfl) (by kernel_rfl) ?_
            refine JS.run 1 (by kernel_rfl) ?_
            refine JS.nil ?_
            refine JC.to2 [(19, .x (.bool r22))] [] (by kernel_rfl) (by kernel_rfl) ?_
            refine JC.skipT ?_
            refine JC.cond (e := r22) (by kernel_rfl) (fun h24 => ?_) (fun h24 => ?_)
            · refine JC.seq ?_
              refine JC.region fun b25 => ?_
              refine JS.run 1 (by kernel_rfl) ?_
              refine JS.nil ?_
              refine JC.to2 [(2, .x (.int .i64 (3 : Int)))] [] (by kernel_rfl) (by kernel_rfl) ?_
              refine JC.skipT ?_
              refine JC.retB ?_
              refine JC.retT ?_
              exact JC.finB (ex := .ret) (vs := [.x (.int .i64 (3 : Int))]) (is := []) rfl ret_ne ⟨(by kernel_rfl), trivial⟩ (Outs.sc rfl Outs.nil)
            · refine JC.skipB ?_
              refine JC.skipT ?_
              refine JC.seq ?_
              refine JC.region fun b26 => ?_
              refine JS.run 1 (by kernel_rfl) ?_
              refine JS.nil ?_
              refine JC.to2 [(2, .x (.int .i64 (4 : Int)))] [] (by kernel_rfl) (by kernel_rfl) ?_
              refine JC.skipT ?_
              exact JC.finB (ex := .ret) (vs := [.x (.int .i64 (4 : Int))]) (is := []) rfl ret_ne ⟨(by kernel_rfl), trivial⟩ (Outs.sc rfl Outs.nil)
/-! eyot/weigh.Parse -/
theorem weigh_Parse_ok (k : Nat) : ∀ (a0 : (List UInt8)) (r : (Fl × Int)), weigh_Parse k a0 = some r → CallOk prog 10 [.x (.str a0)] true [.sc (.x (.flt r.1)), .sc (.x (.int .i64 r.2))] := fun a0 => weigh_Parse_orc rfl rfl k a0
/-! eyot/eyotref1.Parse -/
def eyotref1_Parse_l0 (y18 : Bool) : Nat → (List UInt8) → Int → Int → Int → Int → Option (((List UInt8) × Int × Int × Int) ⊕ Unit)
  | 0, _, _, _, _, _ => none
  | k + 1, x30, x31, x32, x33, x34 => cond (decide (x34 < (x30.length : Int))) ((((at? x30 x34).bind fun w46 => cond (((w46.toNat : Nat) : Int) == (46 : Int)) (cond (decide (x33 < (0 : Int))) (some (decide (x34 > (0 : Int)))) (some false)) (some false)).bind fun y44 => cond y44 (some (Sum.inl (x31, x32, x34))) (((at? x30 x34).bind fun w54 => cond (decide (((w54.toNat : Nat) : Int) ≥ (48 : Int))) ((at? x30 x34).bind fun w57 => cond (decide (((w57.toNat : Nat) : Int) ≤ (57 : Int))) (some (decide (x32 < (15 : Int)))) (some false)) (some false)).bind fun y52 => cond y52 ((at? x30 x34).bind fun w62 => some (Sum.inl ((IntKind.i64.wrap ((IntKind.i64.wrap (x31 * (10 : Int))) + (IntKind.i64.wrap (IntKind.u8.wrap (((w62.toNat : Nat) : Int) - (48 : Int)))))), (IntKind.i64.wrap (x32 + (1 : Int))), x33))) (some (Sum.inr ())))).bind fun v => (match v with | Sum.inl (y41, y42, y43) => eyotref1_Parse_l0 y18 k x30 y41 y42 y43 (IntKind.i64.wrap (x34 + (1 : Int))) | Sum.inr _ => some (Sum.inr ()))) (some (Sum.inl (x30, x31, x32, x33)))
theorem eyotref1_Parse_l0_ok (y18 : Bool)  : ∀ (k : Nat) (x30 : (List UInt8)) (x31 : Int) (x32 : Int) (x33 : Int) (x34 : Int), JC prog noFr 114 [(0, .x (.str x30)), (4, .x (.bool y18)), (5, .x (.int .i64 x31)), (6, .x (.int .i64 x32)), (7, .x (.int .i64 x33)), (8, .x (.int .i64 x34))] [] (.loop pf11_L0) (eyotref1_Parse_l0 y18 k x30 x31 x32 x33 x34) (fun x => GotA 114 noFr ((fun v ex E R => match v with | Sum.inl v => ex = (.exit 1) ∧ E = [(0, .x (.str v.1)), (4, .x (.bool y18)), (5, .x (.int .i64 v.2.1)), (6, .x (.int .i64 v.2.2.1)), (7, .x (.int .i64 v.2.2.2))] ∧ R = [] | Sum.inr v => ex = .ret ∧ E = [(2, .x (.flt (some 0 : Fl))), (3, .x (.int .i64 (2 : Int)))] ∧ R = []) x)) := by
  intro k
  induction k with
  | zero =>
    intro x30 x31 x32 x33 x34
    exact JC.no
  | succ k ih =>
    intro x30 x31 x32 x33 x34
    rw [eyotref1_Parse_l0]
    refine JC.loop ?_
    refine JC.seq ?_
    refine JC.seq ?_
    refine JC.region fun b39 => ?_
    refine JS.run 4 (by kernel_rfl) ?_
    refine JS.nil ?_
    refine JC.to2 [(0, .x (.str x30)), (4, .x (.bool y18)), (5, .x (.int .i64 x31)), (6, .x (.int .i64 x32)), (7, .x (.int .i64 x33)), (8, .x (.int .i64 x34)), (36, .x (.bool (decide (x34 < (x30.length : Int)))))] [] (by kernel_rfl) (by kernel_rfl) ?_
    refine JC.skipT ?_
    refine JC.cond (e := (decide (x34 < (x30.length : Int)))) (by kernel_rfl) (fun h40 => ?_) (fun h40 => ?_)
    · refine JC.skipT ?_
      refine JC.seq ?_
      refine JC.bind (A := fun v ex E R => match v with | Sum.inl v => ex = .normal ∧ E = [(0, .x (.str x30)), (4, .x (.bool y18)), (5, .x (.int .i64 v.1)), (6, .x (.int .i64 v.2.1)), (7, .x (.int .i64 v.2.2)), (8, .x (.int .i64 x34))] ∧ R = [] | Sum.inr v => ex = .ret ∧ E = [(2, .x (.flt (some 0 : Fl))), (3, .x (.int .i64 (2 : Int)))] ∧ R = []) ?_ ?_
      · refine JC.block ?_
        refine JC.block ?_
        refine JC.seq ?_
        refine JC.bind (A := fun v ex E R => ex = .normal ∧ E = [(0, .x (.str x30)), (4, .x (.bool y18)), (5, .x (.int .i64 x31)), (6, .x (.int .i64 x32)), (7, .x (.int .i64 x33)), (8, .x (.int .i64 x34)), (39, .x (.bool v))] ∧ R = []) ?_ ?_
        · refine JC.region fun b45 => ?_
          refine JS.run 2 (by kernel_rfl) ?_
          refine JS.indexS (kk := .i64) (z := x34) (t := x30) (by kernel_rfl) (by kernel_rfl) (by kernel_rfl) (by kernel_rfl) (fun w46 h47 => ?_)
          refine JS.run 2 (by kernel_rfl) ?_
          refine JS.split (e := (((w46.toNat : Nat) : Int) == (46 : Int))) 44 (by kernel_rfl) (fun h48 => ?_) (fun h48 => ?_)
          · refine JS.run 4 (by kernel_rfl) ?_
            refine JS.split (e := (decide (x33 < (0 : Int)))) 48 (by kernel_rfl) (fun h49 => ?_) (fun h49 => ?_)
            · refine JS.run 4 (by kernel_rfl) ?_
              refine JS.nil ?_
              refine JC.to2 [(0, .x (.str x30)), (4, .x (.bool y18)), (5, .x (.int .i64 x31)), (6, .x (.int .i64 x32)), (7, .x (.int .i64 x33)), (8, .x (.int .i64 x34)), (39, .x (.bool (decide (x34 > (0 : Int)))))] [] (by kernel_rfl) (by kernel_rfl) ?_
              refine JC.to2 [(0, .x (.str x30)), (4, .x (.bool y18)), (5, .x (.int .i64 x31)), (6, .x (.int .i64 x32)), (7, .x (.int .i64 x33)), (8, .x (.int .i64 x34)), (39, .x (.bool (decide (x34 > (0 : Int)))))] [] (by kernel_rfl) (by kernel_rfl) ?_
              exact JC.got (ex := .normal) rfl ⟨rfl, rfl, rfl⟩
            · refine JS.run 4 (by kernel_rfl) ?_
              refine JS.nil ?_
              refine JC.to2 [(0, .x (.str x30)), (4, .x (.bool y18)), (5, .x (.int .i64 x31)), (6, .x (.int .i64 x32)), (7, .x (.int .i64 x33)), (8, .x (.int .i64 x34)), (39, .x (.bool false))] [] (by kernel_rfl) (by kernel_rfl) ?_
              refine JC.to2 [(0, .x (.str x30)), (4, .x (.bool y18)), (5, .x (.int .i64 x31)), (6, .x (.int .i64 x32)), (7, .x (.int .i64 x33)), (8, .x (.int .i64 x34)), (39, .x (.bool false))] [] (by kernel_rfl) (by kernel_rfl) ?_
              exact JC.got (ex := .normal) rfl ⟨rfl, rfl, rfl⟩
          · refine JS.run 8 (by kernel_rfl) ?_
            refine JS.nil ?_
            refine JC.to2 [(0, .x (.str x30)), (4, .x (.bool y18)), (5, .x (.int .i64 x31)), (6, .x (.int .i64 x32)), (7, .x (.int .i64 x33)), (8, .x (.int .i64 x34)), (39, .x (.bool false))] [] (by kernel_rfl) (by kernel_rfl) ?_
            refine JC.to2 [(0, .x (.str x30)), (4, .x (.bool y18)), (5, .x (.int .i64 x31)), (6, .x (.int .i64 x32)), (7, .x (.int .i64 x33)), (8, .x (.int .i64 x34)), (39, .x (.bool false))] [] (by kernel_rfl) (by kernel_rfl) ?_
            exact JC.got (ex := .normal) rfl ⟨rfl, rfl, rfl⟩
        · rintro y44 ex E' R' hA
          obtain ⟨rfl, rfl, rfl⟩ := hA
          refine JC.to2 [(0, .x (.str x30)), (4, .x (.bool y18)), (5, .x (.int .i64 x31)), (6, .x (.int .i64 x32)), (7, .x (.int .i64 x33)), (8, .x (.int .i64 x34)), (39, .x (.bool y44))] [] (by kernel_rfl) (by kernel_rfl) ?_
          refine JC.skipT ?_
          refine JC.cond (e := y44) (by kernel_rfl) (fun h50 => ?_) (fun h50 => ?_)
          · refine JC.region fun b51 => ?_
            refine JS.run 2 (by kernel_rfl) ?_
            refine JS.nil ?_
            refine JC.to2 [(0, .x (.str x30)), (4, .x (.bool y18)), (5, .x (.int .i64 x31)), (6, .x (.int .i64 x32)), (7, .x (.int .i64 x34)), (8, .x (.int .i64 x34))] [] (by kernel_rfl) (by kernel_rfl) ?_
            refine JC.skipB ?_
            refine JC.skipB ?_
            refine JC.to2 [(0, .x (.str x30)), (4, .x (.bool y18)), (5, .x (.int .i64 x31)), (6, .x (.int .i64 x32)), (7, .x (.int .i64 x34)), (8, .x (.int .i64 x34))] [] (by kernel_rfl) (by kernel_rfl) ?_
            exact JC.got (ex := .normal) rfl ⟨rfl, rfl, rfl⟩
          · refine JC.seq ?_
            refine JC.bind (A := fun v ex E R => ex = .normal ∧ E = [(0, .x (.str x30)), (4, .x (.bool y18)), (5, .x (.int .i64 x31)), (6, .x (.int .i64 x32)), (7, .x (.int .i64 x33)), (8, .x (.int .i64 x34)), (53, .x (.bool v))] ∧ R = []) ?_ ?_
            · refine JC.region fun b53 => ?_
              refine JS.run 2 (by kernel_rfl) ?_
              refine JS.indexS (kk := .i64) (z := x34) (t := x30) (by kernel_rfl) (by kernel_rfl) (by kernel_rfl) (by kernel_rfl) (fun w54 h55 => ?_)
              refine JS.run 2 (by kernel_rfl) ?_
              refine JS.split (e := (decide (((w54.toNat : Nat) : Int) ≥ (48 : Int)))) 58 (by kernel_rfl) (fun h56 => ?_) (fun h56 => ?_)
              · refine JS.run 2 (by kernel_rfl) ?_
                refine JS.indexS (kk := .i64) (z := x34) (t := x30) (by kernel_rfl) (by kernel_rfl) (by kernel_rfl) (by kernel_rfl) (fun w57 h58 => ?_)
                refine JS.run 3 (by kernel_rfl) ?_
                refine JS.split (e := (decide (((w57.toNat : Nat) : Int) ≤ (57 : Int)))) 64 (by kernel_rfl) (fun h59 => ?_) (fun h59 => ?_)
                · refine JS.run 4 (by kernel_rfl) ?_
                  refine JS.nil ?_
                  refine JC.to2 [(0, .x (.str x30)), (4, .x (.bool y18)), (5, .x (.int .i64 x31)), (6, .x (.int .i64 x32)), (7, .x (.int .i64 x33)), (8, .x (.int .i64 x34)), (53, .x (.bool (decide (x32 < (15 : Int)))))] [] (by kernel_rfl) (by kernel_rfl) ?_
                  refine JC.to2 [(0, .x (.str x30)), (4, .x (.bool y18)), (5, .x (.int .i64 x31)), (6, .x (.int .i64 x32)), (7, .x (.int .i64 x33)), (8, .x (.int .i64 x34)), (53, .x (.bool (decide (x32 < (15 : Int)))))] [] (by kernel_rfl) (by kernel_rfl) ?_
                  exact JC.got (ex := .normal) rfl ⟨rfl, rfl, rfl⟩
                · refine JS.run 4 (by kernel_rfl) ?_
                  refine JS.nil ?_
                  refine JC.to2 [(0, .x (.str x30)), (4, .x (.bool y18)), (5, .x (.int .i64 x31)), (6, .x (.int .i64 x32)), (7, .x (.int .i64 x33)), (8, .x (.int .i64 x34)), (53, .x (.bool false))] [] (by kernel_rfl) (by kernel_rfl) ?_
                  refine JC.to2 [(0, .x (.str x30)), (4, .x (.bool y18)), (5, .x (.int .i64 x31)), (6, .x (.int .i64 x32)), (7, .x (.int .i64 x33)), (8, .x (.int .i64 x34)), (53, .x (.bool false))] [] (by kernel_rfl) (by kernel_rfl) ?_
                  exact JC.got (ex := .normal) rfl ⟨rfl, rfl, rfl⟩
              · refine JS.run 10 (by kernel_rfl) ?_
                refine JS.nil ?_
                refine JC.to2 [(0, .x (.str x30)), (4, .x (.bool y18)), (5, .x (.int .i64 x31)), (6, .x (.int .i64 x32)), (7, .x (.int .i64 x33)), (8, .x (.int .i64 x34)), (53, .x (.bool false))] [] (by kernel_rfl) (by kernel_rfl) ?_
                refine JC.to2 [(0, .x (.str x30)), (4, .x (.bool y18)), (5, .x (.int .i64 x31)), (6, .x (.int .i64 x32)), (7, .x (.int .i64 x33)), (8, .x (.int .i64 x34)), (53, .x (.bool false))] [] (by kernel_rfl) (by kernel_rfl) ?_
                exact JC.got (ex := .normal) rfl ⟨rfl, rfl, rfl⟩
            · rintro y52 ex E' R' hA
              obtain ⟨rfl, rfl, rfl⟩ := hA
              refine JC.to2 [(0, .x (.str x30)), (4, .x (.bool y18)), (5, .x (.int .i64 x31)), (6, .x (.int .i64 x32)), (7, .x (.int .i64 x33)), (8, .x (.int .i64 x34)), (53, .x (.bool y52))] [] (by kernel_rfl) (by kernel_rfl) ?_
              refine JC.skipT ?_
              refine JC.cond (e := y52) (by kernel_rfl) (fun h60 => ?_) (fun h60 => ?_)
              · refine JC.region fun b61 => ?_
                refine JS.run 4 (by kernel_rfl) ?_
                refine JS.indexS (kk := .i64) (z := x34) (t := x30) (by kernel_rfl) (by kernel_rfl) (by kernel_rfl) (by kernel_rfl) (fun w62 h63 => ?_)
                refine JS.run 7 (by kernel_rfl) ?_
                refine JS.nil ?_
                refine JC.to2 [(0, .x (.str x30)), (4, .x (.bool y18)), (5, .x (.int .i64 (IntKind.i64.wrap ((IntKind.i64.wrap (x31 * (10 : Int))) + (IntKind.i64.wrap (IntKind.u8.wrap (((w62.toNat : Nat) : Int) - (48 : Int)))))))), (6, .x (.int .i64 (IntKind.i64.wrap (x32 + (1 : Int))))), (7, .x (.int .i64 x33)), (8, .x (.int .i64 x34))] [] (by kernel_rfl) (by kernel_rfl) ?_
                refine JC.skipB ?_
                refine JC.skipB ?_
                refine JC.to2 [(0, .x (.str x30)), (4, .x (.bool y18)), (5, .x (.int .i64 (IntKind.i64.wrap ((IntKind.i64.wrap (x31 * (10 : Int))) + (IntKind.i64.wrap (IntKind.u8.wrap (((w62.toNat : Nat) : Int) - (48 : Int)))))))), (6, .x (.int .i64 (IntKind.i64.wrap (x32 + (1 : Int))))), (7, .x (.int .i64 x33)), (8, .x (.int .i64 x34))] [] (by kernel_rfl) (by kernel_rfl) ?_
                exact JC.got (ex := .normal) rfl ⟨rfl, rfl, rfl⟩
              · refine JC.seq ?_
                refine JC.region fun b64 => ?_
                refine JS.run 2 (by kernel_rfl) ?_
                refine JS.nil ?_
                refine JC.to2 [(2, .x (.flt (some 0 : Fl))), (3, .x (.int .i64 (2 : Int)))] [] (by kernel_rfl) (by kernel_rfl) ?_
                refine JC.skipT ?_
                refine JC.retB ?_
                refine JC.retB ?_
                refine JC.to2 [(2, .x (.flt (some 0 : Fl))), (3, .x (.int .i64 (2 : Int)))] [] (by kernel_rfl) (by kernel_rfl) ?_
                exact JC.got (ex := .ret) rfl ⟨rfl, rfl, rfl⟩
      · rintro v ex E' R' hA
        rcases v with ⟨y41, y42, y43⟩ | _
        · obtain ⟨rfl, rfl, rfl⟩ := hA
          refine JC.to2 [(0, .x (.str x30)), (4, .x (.bool y18)), (5, .x (.int .i64 y41)), (6, .x (.int .i64 y42)), (7, .x (.int .i64 y43)), (8, .x (.int .i64 x34))] [] (by kernel_rfl) (by kernel_rfl) ?_
          refine JC.skipT ?_
          refine JC.region fun b65 => ?_
          refine JS.run 3 (by kernel_rfl) ?_
          refine JS.nil ?_
          refine JC.to2 [(0, .x (.str x30)), (4, .x (.bool y18)), (5, .x (.int .i64 y41)), (6, .x (.int .i64 y42)), (7, .x (.int .i64 y43)), (8, .x (.int .i64 (IntKind.i64.wrap (x34 + (1 : Int)))))] [] (by kernel_rfl) (by kernel_rfl) ?_
          refine JC.skipL ?_
          refine JC.to2 [(0, .x (.str x30)), (4, .x (.bool y18)), (5, .x (.int .i64 y41)), (6, .x (.int .i64 y42)), (7, .x (.int .i64 y43)), (8, .x (.int .i64 (IntKind.i64.wrap (x34 + (1 : Int)))))] [] (by kernel_rfl) (by kernel_rfl) ?_
          exact ih x30 y41 y42 y43 (IntKind.i64.wrap (x34 + (1 : Int)))
        · obtain ⟨rfl, rfl, rfl⟩ := hA
          refine JC.to2 [(2, .x (.flt (some 0 : Fl))), (3, .x (.int .i64 (2 : Int)))] [] (by kernel_rfl) (by kernel_rfl) ?_
          refine JC.retT ?_
          refine JC.retL ?_
          refine JC.to2 [(2, .x (.flt (some 0 : Fl))), (3, .x (.int .i64 (2 : Int)))] [] (by kernel_rfl) (by kernel_rfl) ?_
          exact JC.got (ex := .ret) rfl ⟨rfl, rfl, rfl⟩
    · refine JC.exitT ?_
      refine JC.exitL ?_
      refine JC.to2 [(0, .x (.str x30)), (4, .x (.bool y18)), (5, .x (.int .i64 x31)), (6, .x (.int .i64 x32)), (7, .x (.int .i64 x33))] [] (by kernel_rfl) (by kernel_rfl) ?_
      exact JC.got (ex := (.exit 1)) rfl ⟨rfl, rfl, rfl⟩
def eyotref1_Parse_l1 (y18 : Bool) (y35 : (List UInt8)) (y36 : Int) (y38 : Int) : Nat → Int → Int → Option Int
  | 0, _, _ => none
  | k + 1, x74, x75 => (cond (decide (y38 ≥ (0 : Int))) (some (decide (x75 < (y35.length : Int)))) (some false)).bind fun y77 => cond y77 (eyotref1_Parse_l1 y18 y35 y36 y38 k (IntKind.i64.wrap (x74 * (10 : Int))) (IntKind.i64.wrap (x75 + (1 : Int)))) (some x74)
theorem eyotref1_Parse_l1_ok (y18 : Bool) (y35 : (List UInt8)) (y36 : Int) (y38 : Int)  : ∀ (k : Nat) (x74 : Int) (x75 : Int), JC prog noFr 114 [(0, .x (.str y35)), (4, .x (.bool y18)), (5, .x (.int .i64 y36)), (7, .x (.int .i64 y38)), (9, .x (.int .i64 x74)), (10, .x (.int .i64 x75))] [] (.loop pf11_L1) (eyotref1_Parse_l1 y18 y35 y36 y38 k x74 x75) (fun x => GotA 114 noFr ((fun v ex E R => ex = (.exit 4) ∧ E = [(4, .x (.bool y18)), (5, .x (.int .i64 y36)), (9, .x (.int .i64 v))] ∧ R = []) x)) := by
  intro k
  induction k with
  | zero =>
    intro x74 x75
    exact JC.no
  | succ k ih =>
    intro x74 x75
    rw [eyotref1_Parse_l1]
    refine JC.loop ?_
    refine JC.seq ?_
    refine JC.seq ?_
    refine JC.bind (A := fun v ex E R => ex = .normal ∧ E = [(0, .x (.str y35)), (4, .x (.bool y18)), (5, .x (.int .i64 y36)), (7, .x (.int .i64 y38)), (9, .x (.int .i64 x74)), (10, .x (.int .i64 x75)), (100, .x (.bool v))] ∧ R = []) ?_ ?_
    · refine JC.region fun b78 => ?_
      refine JS.run 3 (by kernel_rfl) ?_
      refine JS.split (e := (decide (y38 ≥ (0 : Int)))) 95 (by kernel_rfl) (fun h79 => ?_) (fun h79 => ?_)
      · refine JS.run 5 (by kernel_rfl) ?_
        refine JS.nil ?_
        refine JC.to2 [(0, .x (.str y35)), (4, .x (.bool y18)), (5, .x (.int .i64 y36)), (7, .x (.int .i64 y38)), (9, .x (.int .i64 x74)), (10, .x (.int .i64 x75)), (100, .x (.bool (decide (x75 < (y35.length : Int)))))] [] (by kernel_rfl) (by kernel_rfl) ?_
        refine JC.to2 [(0, .x (.str y35)), (4, .x (.bool y18)), (5, .x (.int .i64 y36)), (7, .x (.int .i64 y38)), (9, .x (.int .i64 x74)), (10, .x (.int .i64 x75)), (100, .x (.bool (decide (x75 < (y35.length : Int)))))] [] (by kernel_rfl) (by kernel_rfl) ?_
        exact JC.got (ex := .normal) rfl ⟨rfl, rfl, rfl⟩
      · refine JS.run 5 (by kernel_rfl) ?_
        refine JS.nil ?_
        refine JC.to2 [(0, .x (.str y35)), (4, .x (.bool y18)), (5, .x (.int .i64 y36)), (7, .x (.int .i64 y38)), (9, .x (.int .i64 x74)), (10, .x (.int .i64 x75)), (100, .x (.bool false))] [] (by kernel_rfl) (by kernel_rfl) ?_
        refine JC.to2 [(0, .x (.str y35)), (4, .x (.bool y18)), (5, .x (.int .i64 y36)), (7, .x (.int .i64 y38)), (9, .x (.int .i64 x74)), (10, .x (.int .i64 x75)), (100, .x (.bool false))] [] (by kernel_rfl) (by kernel_rfl) ?_
        exact JC.got (ex := .normal) rfl ⟨rfl, rfl, rfl⟩
    · rintro y77 ex E' R' hA
      obtain ⟨rfl, rfl, rfl⟩ := hA
      refine JC.to2 [(0, .x (.str y35)), (4, .x (.bool y18)), (5, .x (.int .i64 y36)), (7, .x (.int .i64 y38)), (9, .x (.int .i64 x74)), (10, .x (.int .i64 x75)), (100, .x (.bool y77))] [] (by kernel_rfl) (by kernel_rfl) ?_
      refine JC.skipT ?_
      refine JC.cond (e := y77) (by kernel_rfl) (fun h80 => ?_) (fun h80 => ?_)
      · refine JC.skipT ?_
        refine JC.seq ?_
        refine JC.block ?_
        refine JC.region fun b81 => ?_
        refine JS.run 3 (by kernel_rfl) ?_
        refine JS.nil ?_
        refine JC.to2 [(0, .x (.str y35)), (4, .x (.bool y18)), (5, .x (.int .i64 y36)), (7, .x (.int .i64 y38)), (9, .x (.int .i64 (IntKind.i64.wrap (x74 * (10 : Int))))), (10, .x (.int .i64 x75))] [] (by kernel_rfl) (by kernel_rfl) ?_
        refine JC.skipB ?_
        refine JC.skipT ?_
        refine JC.region fun b82 => ?_
        refine JS.run 3 (by kernel_rfl) ?_
        refine JS.nil ?_
        refine JC.to2 [(0, .x (.str y35)), (4, .x (.bool y18)), (5, .x (.int .i64 y36)), (7, .x (.int .i64 y38)), (9, .x (.int .i64 (IntKind.i64.wrap (x74 * (10 : Int))))), (10, .x (.int .i64 (IntKind.i64.wrap (x75 + (1 : Int)))))] [] (by kernel_rfl) (by kernel_rfl) ?_
        refine JC.skipL ?_
        refine JC.to2 [(0, .x (.str y35)), (4, .x (.bool y18)), (5, .x (.int .i64 y36)), (7, .x (.int .i64 y38)), (9, .x (.int .i64 (IntKind.i64.wrap (x74 * (10 : Int))))), (10, .x (.int .i64 (IntKind.i64.wrap (x75 + (1 : Int)))))] [] (by kernel_rfl) (by kernel_rfl) ?_
        exact ih (IntKind.i64.wrap (x74 * (10 : Int))) (IntKind.i64.wrap (x75 + (1 : Int)))
      · refine JC.exitT ?_
        refine JC.exitL ?_
        refine JC.to2 [(4, .x (.bool y18)), (5, .x (.int .i64 y36)), (9, .x (.int .i64 x74))] [] (by kernel_rfl) (by kernel_rfl) ?_
        exact JC.got (ex := (.exit 4)) rfl ⟨rfl, rfl, rfl⟩
def eyotref1_Parse_l2 (a0 : (List UInt8)) (y18 : Bool) : Nat → Int → Int → Int → Int → Option ((Int × Int × Int) ⊕ Unit)
  | 0, _, _, _, _ => none
  | k + 1, x93, x94, x95, x96 => cond (decide (x96 < (a0.length : Int))) ((((at? a0 x96).bind fun w107 => cond (((w107.toNat : Nat) : Int) == (46 : Int)) (cond (decide (x95 < (0 : Int))) (some (decide (x96 > (0 : Int)))) (some false)) (some false)).bind fun y105 => cond y105 (some (Sum.inl (x93, x94, x96))) (((at? a0 x96).bind fun w115 => cond (decide (((w115.toNat : Nat) : Int) ≥ (48 : Int))) ((at? a0 x96).bind fun w118 => cond (decide (((w118.toNat : Nat) : Int) ≤ (57 : Int))) (some (decide (x94 < (15 : Int)))) (some false)) (some false)).bind fun y113 => cond y113 ((at? a0 x96).bind fun w123 => some (Sum.inl ((IntKind.i64.wrap ((IntKind.i64.wrap (x93 * (10 : Int))) + (IntKind.i64.wrap (IntKind.u8.wrap (((w123.toNat : Nat) : Int) - (48 : Int)))))), (IntKind.i64.wrap (x94 + (1 : Int))), x95))) (some (Sum.inr ())))).bind fun v => (match v with | Sum.inl (y102, y103, y104) => eyotref1_Parse_l2 a0 y18 k y102 y103 y104 (IntKind.i64.wrap (x96 + (1 : Int))) | Sum.inr _ => some (Sum.inr ()))) (some (Sum.inl (x93, x94, x95)))
theorem eyotref1_Parse_l2_ok (a0 : (List UInt8)) (y18 : Bool)  : ∀ (k : Nat) (x93 : Int) (x94 : Int) (x95 : Int) (x96 : Int), JC prog noFr 114 [(0, .x (.str a0)), (4, .x (.bool y18)), (5, .x (.int .i64 x93)), (6, .x (.int .i64 x94)), (7, .x (.int .i64 x95)), (8, .x (.int .i64 x96))] [] (.loop pf11_L0) (eyotref1_Parse_l2 a0 y18 k x93 x94 x95 x96) (fun x => GotA 114 noFr ((fun v ex E R => match v with | Sum.inl v => ex = (.exit 1) ∧ E = [(0, .x (.str a0)), (4, .x (.bool y18)), (5, .x (.int .i64 v.1)), (6, .x (.int .i64 v.2.1)), (7, .x (.int .i64 v.2.2))] ∧ R = [] | Sum.inr v => ex = .ret ∧ E = [(2, .x (.flt (some 0 : Fl))), (3, .x (.int .i64 (2 : Int)))] ∧ R = []) x)) := by
  intro k
  induction k with
  | zero =>
    intro x93 x94 x95 x96
    exact JC.no
  | succ k ih =>
    intro x93 x94 x95 x96
    rw [eyotref1_Parse_l2]
    refine JC.loop ?_
    refine JC.seq ?_
    refine JC.seq ?_
    refine JC.region fun b100 => ?_
    refine JS.run 4 (by kernel_rfl) ?_
    refine JS.nil ?_
    refine JC.to2 [(0, .x (.str a0)), (4, .x (.bool y18)), (5, .x (.int .i64 x93)), (6, .x (.int .i64 x94)), (7, .x (.int .i64 x95)), (8, .x (.int .i64 x96)), (36, .x (.bool (decide (x96 < (a0.length : Int)))))] [] (by kernel_rfl) (by kernel_rfl) ?_
    refine JC.skipT ?_
    refine JC.cond (e := (decide (x96 < (a0.length : Int)))) (by kernel_rfl) (fun h101 => ?_) (fun h101 => ?_)
    · refine JC.skipT ?_
      refine JC.seq ?_
      refine JC.bind (A := fun v ex E R => match v with | Sum.inl v => ex = .normal ∧ E = [(0, .x (.str a0)), (4, .x (.bool y18)), (5, .x (.int .i64 v.1)), (6, .x (.int .i64 v.2.1)), (7, .x (.int .i64 v.2.2)), (8, .x (.int .i64 x96))] ∧ R = [] | Sum.inr v => ex = .ret ∧ E = [(2, .x (.flt (some 0 : Fl))), (3, .x (.int .i64 (2 : Int)))] ∧ R = []) ?_ ?_
      · refine JC.block ?_
        refine JC.block ?_
        refine JC.seq ?_
        refine JC.bind (A := fun v ex E R => ex = .normal ∧ E = [(0, .x (.str a0)), (4, .x (.bool y18)), (5, .x (.int .i64 x93)), (6, .x (.int .i64 x94)), (7, .x (.int .i64 x95)), (8, .x (.int .i64 x96)), (39, .x (.bool v))] ∧ R = []) ?_ ?_
        · refine JC.region fun b106 => ?_
          refine JS.run 2 (by kernel_rfl) ?_
          refine JS.indexS (kk := .i64) (z := x96) (t := a0) (by kernel_rfl) (by kernel_rfl) (by kernel_rfl) (by kernel_rfl) (fun w107 h108 => ?_)
          refine JS.run 2 (by kernel_rfl) ?_
          refine JS.split (e := (((w107.toNat : Nat) : Int) == (46 : Int))) 44 (by kernel_rfl) (fun h109 => ?_) (fun h109 => ?_)
          · refine JS.run 4 (by kernel_rfl) ?_
            refine JS.split (e := (decide (x95 < (0 : Int)))) 48 (by kernel_rfl) (fun h110 => ?_) (fun h110 => ?_)
            · refine JS.run 4 (by kernel_rfl) ?_
              refine JS.nil ?_
              refine JC.to2 [(0, .x (.str a0)), (4, .x (.bool y18)), (5, .x (.int .i64 x93)), (6, .x (.int .i64 x94)), (7, .x (.int .i64 x95)), (8, .x (.int .i64 x96)), (39, .x (.bool (decide (x96 > (0 : Int)))))] [] (by kernel_rfl) (by kernel_rfl) ?_
              refine JC.to2 [(0, .x (.str a0)), (4, .x (.bool y18)), (5, .x (.int .i64 x93)), (6, .x (.int .i64 x94)), (7, .x (.int .i64 x95)), (8, .x (.int .i64 x96)), (39, .x (.bool (decide (x96 > (0 : Int)))))] [] (by kernel_rfl) (by kernel_rfl) ?_
              exact JC.got (ex := .normal) rfl ⟨rfl, rfl, rfl⟩
            · refine JS.run 4 (by kernel_rfl) ?_
              refine JS.nil ?_
              refine JC.to2 [(0, .x (.str a0)), (4, .x (.bool y18)), (5, .x (.int .i64 x93)), (6, .x (.int .i64 x94)), (7, .x (.int .i64 x95)), (8, .x (.int .i64 x96)), (39, .x (.bool false))] [] (by kernel_rfl) (by kernel_rfl) ?_
              refine JC.to2 [(0, .x (.str a0)), (4, .x (.bool y18)), (5, .x (.int .i64 x93)), (6, .x (.int .i64 x94)), (7, .x (.int .i64 x95)), (8, .x (.int .i64 x96)), (39, .x (.bool false))] [] (by kernel_rfl) (by kernel_rfl) ?_
              exact JC.got (ex := .normal) rfl ⟨rfl, rfl, rfl⟩
          · refine JS.run 8 (by kernel_rfl) ?_
            refine JS.nil ?_
            refine JC.to2 [(0, .x (.str a0)), (4, .x (.bool y18)), (5, .x (.int .i64 x93)), (6, .x (.int .i64 x94)), (7, .x (.int .i64 x95)), (8, .x (.int .i64 x96)), (39, .x (.bool false))] [] (by kernel_rfl) (by kernel_rfl) ?_
            refine JC.to2 [(0, .x (.str a0)), (4, .x (.bool y18)), (5, .x (.int .i64 x93)), (6, .x (.int .i64 x94)), (7, .x (.int .i64 x95)), (8, .x (.int .i64 x96)), (39, .x (.bool false))] [] (by kernel_rfl) (by kernel_rfl) ?_
            exact JC.got (ex := .normal) rfl ⟨rfl, rfl, rfl⟩
        · rintro y105 ex E' R' hA
          obtain ⟨rfl, rfl, rfl⟩ := hA
          refine JC.to2 [(0, .x (.str a0)), (4, .x (.bool y18)), (5, .x (.int .i64 x93)), (6, .x (.int .i64 x94)), (7, .x (.int .i64 x95)), (8, .x (.int .i64 x96)), (39, .x (.bool y105))] [] (by kernel_rfl) (by kernel_rfl) ?_
          refine JC.skipT ?_
          refine JC.cond (e := y105) (by kernel_rfl) (fun h111 => ?_) (fun h111 => ?_)
          · refine JC.region fun b112 => ?_
            refine JS.run 2 (by kernel_rfl) ?_
            refine JS.nil ?_
            refine JC.to2 [(0, .x (.str a0)), (4, .x (.bool y18)), (5, .x (.int .i64 x93)), (6, .x (.int .i64 x94)), (7, .x (.int .i64 x96)), (8, .x (.int .i64 x96))] [] (by kernel_rfl) (by kernel_rfl) ?_
            refine JC.skipB ?_
            refine JC.skipB ?_
            refine JC.to2 [(0, .x (.str a0)), (4, .x (.bool y18)), (5, .x (.int .i64 x93)), (6, .x (.int .i64 x94)), (7, .x (.int .i64 x96)), (8, .x (.int .i64 x96))] [] (by kernel_rfl) (by kernel_rfl) ?_
            exact JC.got (ex := .normal) rfl ⟨rfl, rfl, rfl⟩
          · refine JC.seq ?_
            refine JC.bind (A := fun v ex E R => ex = .normal ∧ E = [(0, .x (.str a0)), (4, .x (.bool y18)), (5, .x (.int .i64 x93)), (6, .x (.int .i64 x94)), (7, .x (.int .i64 x95)), (8, .x (.int .i64 x96)), (53, .x (.bool v))] ∧ R = []) ?_ ?_
            · refine JC.region fun b114 => ?_
              refine JS.run 2 (by kernel_rfl) ?_
              refine JS.indexS (kk := .i64) (z := x96) (t := a0) (by kernel_rfl) (by kernel_rfl) (by kernel_rfl) (by kernel_rfl) (fun w115 h116 => ?_)
              refine JS.run 2 (by kernel_rfl) ?_
              refine JS.split (e := (decide (((w115.toNat : Nat) : Int) ≥ (48 : Int)))) 58 (by kernel_rfl) (fun h117 => ?_) (fun h117 => ?_)
              · refine JS.run 2 (by kernel_rfl) ?_
                refine JS.indexS (kk := .i64) (z := x96) (t := a0) (by kernel_rfl) (by kernel_rfl) (by kernel_rfl) (by kernel_rfl) (fun w118 h119 => ?_)
                refine JS.run 3 (by kernel_rfl) ?_
                refine JS.split (e := (decide (((w118.toNat : Nat) : Int) ≤ (57 : Int)))) 64 (by kernel_rfl) (fun h120 => ?_) (fun h120 => ?_)
                · refine JS.run 4 (by kernel_rfl) ?_
                  refine JS.nil ?_
                  refine JC.to2 [(0, .x (.str a0)), (4, .x (.bool y18)), (5, .x (.int .i64 x93)), (6, .x (.int .i64 x94)), (7, .x (.int .i64 x95)), (8, .x (.int .i64 x96)), (53, .x (.bool (decide (x94 < (15 : Int)))))] [] (by kernel_rfl) (by kernel_rfl) ?_
                  refine JC.to2 [(0, .x (.str a0)), (4, .x (.bool y18)), (5, .x (.int .i64 x93)), (6, .x (.int .i64 x94)), (7, .x (.int .i64 x95)), (8, .x (.int .i64 x96)), (53, .x (.bool (decide (x94 < (15 : Int)))))] [] (by kernel_rfl) (by kernel_rfl) ?_
                  exact JC.got (ex := .normal) rfl ⟨rfl, rfl, rfl⟩
                · refine JS.run 4 (by kernel_rfl) ?_
                  refine JS.nil ?_
                  refine JC.to2 [(0, .x (.str a0)), (4, .x (.bool y18)), (5, .x (.int .i64 x93)), (6, .x (.int .i64 x94)), (7, .x (.int .i64 x95)), (8, .x (.int .i64 x96)), (53, .x (.bool false))] [] (by kernel_rfl) (by kernel_rfl) ?_
                  refine JC.to2 [(0, .x (.str a0)), (4, .x (.bool y18)), (5, .x (.int .i64 x93)), (6, .x (.int .i64 x94)), (7, .x (.int .i64 x95)), (8, .x (.int .i64 x96)), (53, .x (.bool false))] [] (by kernel_rfl) (by kernel_rfl) ?_
                  exact JC.got (ex := .normal) rfl ⟨rfl, rfl, rfl⟩
              · refine JS.run 10 (by kernel_rfl) ?_
                refine JS.nil ?_
                refine JC.to2 [(0, .x (.str a0)), (4, .x (.bool y18)), (5, .x (.int .i64 x93)), (6, .x (.int .i64 x94)), (7, .x (.int .i64 x95)), (8, .x (.int .i64 x96)), (53, .x (.bool false))] [] (by kernel_rfl) (by kernel_rfl) ?_
                refine JC.to2 [(0, .x (.str a0)), (4, .x (.bool y18)), (5, .x (.int .i64 x93)), (6, .x (.int .i64 x94)), (7, .x (.int .i64 x95)), (8, .x (.int .i64 x96)), (53, .x (.bool false))] [] (by kernel_rfl) (by kernel_rfl) ?_
                exact JC.got (ex := .normal) rfl ⟨rfl, rfl, rfl⟩
            · rintro y113 ex E' R' hA
              obtain ⟨rfl, rfl, rfl⟩ := hA
              refine JC.to2 [(0, .x (.str a0)), (4, .x (.bool y18)), (5, .x (.int .i64 x93)), (6, .x (.int .i64 x94)), (7, .x (.int .i64 x95)), (8, .x (.int .i64 x96)), (53, .x (.bool y113))] [] (by kernel_rfl) (by kernel_rfl) ?_
              refine JC.skipT ?_
              refine JC.cond (e := y113) (by kernel_rfl) (fun h121 => ?_) (fun h121 => ?_)
              · refine JC.region fun b122 => ?_
                refine JS.run 4 (by kernel_rfl) ?_
                refine JS.indexS (kk := .i64) (z := x96) (t := a0) (by kernel_rfl) (by kernel_rfl) (by kernel_rfl) (by kernel_rfl) (fun w123 h124 => ?_)
                refine JS.run 7 (by kernel_rfl) ?_
                refine JS.nil ?_
                refine JC.to2 [(0, .x (.str a0)), (4, .x (.bool y18)), (5, .x (.int .i64 (IntKind.i64.wrap ((IntKind.i64.wrap (x93 * (10 : Int))) + (IntKind.i64.wrap (IntKind.u8.wrap (((w123.toNat : Nat) : Int) - (48 : Int)))))))), (6, .x (.int .i64 (IntKind.i64.wrap (x94 + (1 : Int))))), (7, .x (.int .i64 x95)), (8, .x (.int .i64 x96))] [] (by kernel_rfl) (by kernel_rfl) ?_
                refine JC.skipB ?_
                refine JC.skipB ?_
                refine JC.to2 [(0, .x (.str a0)), (4, .x (.bool y18)), (5, .x (.int .i64 (IntKind.i64.wrap ((IntKind.i64.wrap (x93 * (10 : Int))) + (IntKind.i64.wrap (IntKind.u8.wrap (((w123.toNat : Nat) : Int) - (48 : Int)))))))), (6, .x (.int .i64 (IntKind.i64.wrap (x94 + (1 : Int))))), (7, .x (.int .i64 x95)), (8, .x (.int .i64 x96))] [] (by kernel_rfl) (by kernel_rfl) ?_
                exact JC.got (ex := .normal) rfl ⟨rfl, rfl, rfl⟩
              · refine JC.seq ?_
                refine JC.region fun b125 => ?_
                refine JS.run 2 (by kernel_rfl) ?_
                refine JS.nil ?_
                refine JC.to2 [(2, .x (.flt (some 0 : Fl))), (3, .x (.int .i64 (2 : Int)))] [] (by kernel_rfl) (by kernel_rfl) ?_
                refine JC.skipT ?_
                refine JC.retB ?_
                refine JC.retB ?_
                refine JC.to2 [(2, .x (.flt (some 0 : Fl))), (3, .x (.int .i64 (2 : Int)))] [] (by kernel_rfl) (by kernel_rfl) ?_
                exact JC.got (ex := .ret) rfl ⟨rfl, rfl, rfl⟩
      · rintro v ex E' R' hA
        rcases v with ⟨y102, y103, y104⟩ | _
        · obtain ⟨rfl, rfl, rfl⟩ := hA
          refine JC.to2 [(0, .x (.str a0)), (4, .x (.bool y18)), (5, .x (.int .i64 y102)), (6, .x (.int .i64 y103)), (7, .x (.int .i64 y104)), (8, .x (.int .i64 x96))] [] (by kernel_rfl) (by kernel_rfl) ?_
          refine JC.skipT ?_
          refine JC.region fun b126 => ?_
          refine JS.run 3 (by kernel_rfl) ?_
          refine JS.nil ?_
          refine JC.to2 [(0, .x (.str a0)), (4, .x (.bool y18)), (5, .x (.int .i64 y102)), (6, .x (.int .i64 y103)), (7, .x (.int .i64 y104)), (8, .x (.int .i64 (IntKind.i64.wrap (x96 + (1 : Int)))))] [] (by kernel_rfl) (by kernel_rfl) ?_
          refine JC.skipL ?_
          refine JC.to2 [(0, .x (.str a0)), (4, .x (.bool y18)), (5, .x (.int .i64 y102)), (6, .x (.int .i64 y103)), (7, .x (.int .i64 y104)), (8, .x (.int .i64 (IntKind.i64.wrap (x96 + (1 : Int)))))] [] (by kernel_rfl) (by kernel_rfl) ?_
          exact ih y102 y103 y104 (IntKind.i64.wrap (x96 + (1 : Int)))
        · obtain ⟨rfl, rfl, rfl⟩ := hA
          refine JC.to2 [(2, .x (.flt (some 0 : Fl))), (3, .x (.int .i64 (2 : Int)))] [] (by kernel_rfl) (by kernel_rfl) ?_
          refine JC.retT ?_
          refine JC.retL ?_
          refine JC.to2 [(2, .x (.flt (some 0 : Fl))), (3, .x (.int .i64 (2 : Int)))] [] (by kernel_rfl) (by kernel_rfl) ?_
          exact JC.got (ex := .ret) rfl ⟨rfl, rfl, rfl⟩
    · refine JC.exitT ?_
      refine JC.exitL ?_
      refine JC.to2 [(0, .x (.str a0)), (4, .x (.bool y18)), (5, .x (.int .i64 x93)), (6, .x (.int .i64 x94)), (7, .x (.int .i64 x95))] [] (by kernel_rfl) (by kernel_rfl) ?_
      exact JC.got (ex := (.exit 1)) rfl ⟨rfl, rfl, rfl⟩
def eyotref1_Parse_l3 (a0 : (List UInt8)) (y18 : Bool) (y97 : Int) (y99 : Int) : Nat → Int → Int → Option Int
  | 0, _, _ => none
  | k + 1, x135, x136 => (cond (decide (y99 ≥ (0 : Int))) (some (decide (x136 < (a0.length : Int)))) (some false)).bind fun y138 => cond y138 (eyotref1_Parse_l3 a0 y18 y97 y99 k (IntKind.i64.wrap (x135 * (10 : Int))) (IntKind.i64.wrap (x136 + (1 : Int)))) (some x135)
theorem eyotref1_Parse_l3_ok (a0 : (List UInt8)) (y18 : Bool) (y97 : Int) (y99 : Int)  : ∀ (k : Nat) (x135 : Int) (x136 : Int), JC prog noFr 114 [(0, .x (.str a0)), (4, .x (.bool y18)), (5, .x (.int .i64 y97)), (7, .x (.int .i64 y99)), (9, .x (.int .i64 x135)), (10, .x (.int .i64 x136))] [] (.loop pf11_L1) (eyotref1_Parse_l3 a0 y18 y97 y99 k x135 x136) (fun x => GotA 114 noFr ((fun v ex E R => ex = (.exit 4) ∧ E = [(4, .x (.bool y18)), (5, .x (.int .i64 y97)), (9, .x (.int .i64 v))] ∧ R = []) x)) := by
  intro k
  induction k with
  | zero =>
    intro x135 x136
    exact JC.no
  | succ k ih =>
    intro x135 x136
    rw [eyotref1_Parse_l3]
    refine JC.loop ?_
    refine JC.seq ?_
    refine JC.seq ?_
    refine JC.bind (A := fun v ex E R => ex = .normal ∧ E = [(0, .x (.str a0)), (4, .x (.bool y18)), (5, .x (.int .i64 y97)), (7, .x (.int .i64 y99)), (9, .x (.int .i64 x135)), (10, .x (.int .i64 x136)), (100, .x (.bool v))] ∧ R = []) ?_ ?_
    · refine JC.region fun b139 => ?_
      refine JS.run 3 (by kernel_rfl) ?_
      refine JS.split (e := (decide (y99 ≥ (0 : Int)))) 95 (by kernel_rfl) (fun h140 => ?_) (fun h140 => ?_)
      · refine JS.run 5 (by kernel_rfl) ?_
        refine JS.nil ?_
        refine JC.to2 [(0, .x (.str a0)), (4, .x (.bool y18)), (5, .x (.int .i64 y97)), (7, .x (.int .i64 y99)), (9, .x (.int .i64 x135)), (10, .x (.int .i64 x136)), (100, .x (.bool (decide (x136 < (a0.length : Int)))))] [] (by kernel_rfl) (by kernel_rfl) ?_
        refine JC.to2 [(0, .x (.str a0)), (4, .x (.bool y18)), (5, .x (.int .i64 y97)), (7, .x (.int .i64 y99)), (9, .x (.int .i64 x135)), (10, .x (.int .i64 x136)), (100, .x (.bool (decide (x136 < (a0.length : Int)))))] [] (by kernel_rfl) (by kernel_rfl) ?_
        exact JC.got (ex := .normal) rfl ⟨rfl, rfl, rfl⟩
      · refine JS.run 5 (by kernel_rfl) ?_
        refine JS.nil ?_
        refine JC.to2 [(0, .x (.str a0)), (4, .x (.bool y18)), (5, .x (.int .i64 y97)), (7, .x (.int .i64 y99)), (9, .x (.int .i64 x135)), (10, .x (.int .i64 x136)), (100, .x (.bool false))] [] (by kernel_rfl) (by kernel_rfl) ?_
        refine JC.to2 [(0, .x (.str a0)), (4, .x (.bool y18)), (5, .x (.int .i64 y97)), (7, .x (.int .i64 y99)), (9, .x (.int .i64 x135)), (10, .x (.int .i64 x136)), (100, .x (.bool false))] [] (by kernel_rfl) (by kernel_rfl) ?_
        exact JC.got (ex := .normal) rfl ⟨rfl, rfl, rfl⟩
    · rintro y138 ex E' R' hA
      obtain ⟨rfl, rfl, rfl⟩ := hA
      refine JC.to2 [(0, .x (.str a0)), (4, .x (.bool y18)), (5, .x (.int .i64 y97)), (7, .x (.int .i64 y99)), (9, .x (.int .i64 x135)), (10, .x (.int .i64 x136)), (100, .x (.bool y138))] [] (by kernel_rfl) (by kernel_rfl) ?_
      refine JC.skipT ?_
      refine JC.cond (e := y138) (by kernel_rfl) (fun h141 => ?_) (fun h141 => ?_)
      · refine JC.skipT ?_
        refine JC.seq ?_
        refine JC.block ?_
        refine JC.region fun b142 => ?_
        refine JS.run 3 (by kernel_rfl) ?_
        refine JS.nil ?_
        refine JC.to2 [(0, .x (.str a0)), (4, .x (.bool y18)), (5, .x (.int .i64 y97)), (7, .x (.int .i64 y99)), (9, .x (.int .i64 (IntKind.i64.wrap (x135 * (10 : Int))))), (10, .x (.int .i64 x136))] [] (by kernel_rfl) (by kernel_rfl) ?_
        refine JC.skipB ?_
        refine JC.skipT ?_
        refine JC.region fun b143 => ?_
        refine JS.run 3 (by kernel_rfl) ?_
        refine JS.nil ?_
        refine JC.to2 [(0, .x (.str a0)), (4, .x (.bool y18)), (5, .x (.int .i64 y97)), (7, .x (.int .i64 y99)), (9, .x (.int .i64 (IntKind.i64.wrap (x135 * (10 : Int))))), (10, .x (.int .i64 (IntKind.i64.wrap (x136 + (1 : Int)))))] [] (by kernel_rfl) (by kernel_rfl) ?_
        refine JC.skipL ?_
        refine JC.to2 [(0, .x (.str a0)), (4, .x (.bool y18)), (5, .x (.int .i64 y97)), (7, .x (.int .i64 y99)), (9, .x (.int .i64 (IntKind.i64.wrap (x135 * (10 : Int))))), (10, .x (.int .i64 (IntKind.i64.wrap (x136 + (1 : Int)))))] [] (by kernel_rfl) (by kernel_rfl) ?_
        exact ih (IntKind.i64.wrap (x135 * (10 : Int))) (IntKind.i64.wrap (x136 + (1 : Int)))
      · refine JC.exitT ?_
        refine JC.exitL ?_
        refine JC.to2 [(4, .x (.bool y18)), (5, .x (.int .i64 y97)), (9, .x (.int .i64 x135))] [] (by kernel_rfl) (by kernel_rfl) ?_
        exact JC.got (ex := (.exit 4)) rfl ⟨rfl, rfl, rfl⟩
def eyotref1_Parse (k : Nat) (a0 : (List UInt8)) : Option (Fl × Int) :=
  cond (a0 == ([110, 97, 110] : List UInt8)) ((math_NaN k).bind fun r6 => some (r6, (0 : Int))) (cond (a0 == ([105, 110, 102] : List UInt8)) ((math_Inf k (1 : Int)).bind fun r11 => some (r11, (0 : Int))) (cond (a0 == ([45, 105, 110, 102] : List UInt8)) ((math_Inf k (-1 : Int)).bind fun r16 => some (r16, (0 : Int))) ((cond (decide ((a0.length : Int) > (0 : Int))) ((at? a0 (0 : Int)).bind fun w21 => some (((w21.toNat : Nat) : Int) == (45 : Int))) (some false)).bind fun y18 => cond y18 ((cutI a0.length (some (1 : Int)) none).bind fun p26 => (eyotref1_Parse_l0 y18 k (sl a0 p26) (0 : Int) (0 : Int) (-1 : Int) (0 : Int)).bind fun v => (match v with | Sum.inl (y35, y36, y37, y38) => (cond (y37 == (0 : Int)) (some true) (cond (y38 == (IntKind.i64.wrap ((y35.length : Int) - (1 : Int)))) (some (decide (y38 ≥ (0 : Int)))) (some false))).bind fun y66 => cond y66 (some ((some 0 : Fl), (2 : Int))) ((eyotref1_Parse_l1 y18 y35 y36 y38 k (1 : Int) (IntKind.i64.wrap (y38 + (1 : Int)))).bind fun y76 => cond y18 ((math_Copysign k (fDiv (some (FloatKind.f64.nearest y36) : Fl) (some (FloatKind.f64.nearest y76) : Fl)) (some 13830554455654793216 : Fl)).bind fun r87 => some (r87, (0 : Int))) (some ((fDiv (some (FloatKind.f64.nearest y36) : Fl) (some (FloatKind.f64.nearest y76) : Fl)), (0 : Int)))) | Sum.inr _ => some ((some 0 : Fl), (2 : Int)))) ((eyotref1_Parse_l2 a0 y18 k (0 : Int) (0 : Int) (-1 : Int) (0 : Int)).bind fun v => (match v with | Sum.inl (y97, y98, y99) => (cond (y98 == (0 : Int)) (some true) (cond (y99 == (IntKind.i64.wrap ((a0.length : Int) - (1 : Int)))) (some (decide (y99 ≥ (0 : Int)))) (some false))).bind fun y127 => cond y127 (some ((some 0 : Fl), (2 : Int))) ((eyotref1_Parse_l3 a0 y18 y97 y99 k (1 : Int) (IntKind.i64.wrap (y99 + (1 : Int)))).bind fun y137 => cond y18 ((math_Copysign k (fDiv (some (FloatKind.f64.nearest y97) : Fl) (some (FloatKind.f64.nearest y137) : Fl)) (some 13830554455654793216 : Fl)).bind fun r148 => some (r148, (0 : Int))) (some ((fDiv (some (FloatKind.f64.nearest y97) : Fl) (some (FloatKind.f64.nearest y137) : Fl)), (0 : Int)))) | Sum.inr _ => some ((some 0 : Fl), (2 : Int)))))))
theorem eyotref1_Parse_ok (k : Nat) (a0 : (List UInt8)) : ∀ r, eyotref1_Parse k a0 = some r → CallOk prog 11 [.x (.str a0)] true [.sc (.x (.flt r.1)), .sc (.x (.int .i64 r.2))] := by
  refine CallOk.ofB (pf := pf11) (rs := [.tmp 2, .tmp 3]) (Res := fun (r : (Fl × Int)) => [.sc (.x (.flt r.1)), .sc (.x (.int .i64 r.2))]) rfl rfl rfl rfl rfl ?_
  unfold eyotref1_Parse pf11
  refine JC.seq ?_
  refine JC.region fun b1 => ?_
  refine JS.run 2 (by kernel_rfl) ?_
  refine JS.nil ?_
  refine JC.to2 [(0, .x (.str a0))] [] (by kernel_rfl) (by kernel_rfl) ?_
  refine JC.skipT ?_
  refine JC.seq ?_
  refine JC.seq ?_
  refine JC.region fun b2 => ?_
  refine JS.run 1 (by kernel_rfl) ?_
  refine JS.nil ?_
  refine JC.to2 [(0, .x (.str a0)), (12, .x (.str a0))] [] (by kernel_rfl) (by kernel_rfl) ?_
  refine JC.skipT ?_
  refine JC.block ?_
  refine JC.seq ?_
  refine JC.region fun b3 => ?_
  refine JS.run 2 (by kernel_rfl) ?_
  refine JS.nil ?_
  refine JC.to2 [(0, .x (.str a0)), (12, .x (.str a0)), (13, .x (.bool (a0 == ([110, 97, 110] : List UInt8))))] [] (by kernel_rfl) (by kernel_rfl) ?_
  refine JC.skipT ?_
  refine JC.cond (e := (a0 == ([110, 97, 110] : List UInt8))) (by kernel_rfl) (fun h4 => ?_) (fun h4 => ?_)
  · refine JC.seq ?_
    refine JC.region fun b5 => ?_
    refine JS.bind fun r6 h7 => ?_
    refine JS.callS [] (math_NaN_ok k r6 h7) trivial (by kernel_rfl) (by kernel_rfl) (by kernel_rfl) ?_
    refine JS.run 2 (by kernel_rfl) ?_
    refine JS.nil ?_
    refine JC.to2 [(2, .x (.flt r6)), (3, .x (.int .i64 (0 : Int)))] [] (by kernel_rfl) (by kernel_rfl) ?_
    refine JC.skipT ?_
    refine JC.retB ?_
    refine JC.retT ?_
    exact JC.finB (ex := .ret) (vs := [.x (.flt r6), .x (.int .i64 (0 : Int))]) (is := []) rfl ret_ne ⟨(by kernel_rfl), ⟨(by kernel_rfl), trivial⟩⟩ (Outs.sc rfl (Outs.sc rfl Outs.nil))
  · refine JC.seq ?_
    refine JC.region fun b8 => ?_
    refine JS.run 2 (by kernel_rfl) ?_
    refine JS.nil ?_
    refine JC.to2 [(0, .x (.str a0)), (12, .x (.str a0)), (16, .x (.bool (a0 == ([105, 110, 102] : List UInt8))))] [] (by kernel_rfl) (by kernel_rfl) ?_
    refine JC.skipT ?_
    refine JC.cond (e := (a0 == ([105, 110, 102] : List UInt8))) (by kernel_rfl) (fun h9 => ?_) (fun h9 => ?_)
    · refine JC.seq ?_
      refine JC.region fun b10 => ?_
      refine JS.bind fun r11 h12 => ?_
      refine JS.callS [] (math_Inf_ok k (1 : Int) r11 h12) ⟨rfl, argX (d := (.int .i64 (1 : Int))) (by kernel_rfl) (by kernel_rfl), trivial⟩ (by kernel_rfl) (by kernel_rfl) (by kernel_rfl) ?_
      refine JS.run 2 (by kernel_rfl) ?_
      refine JS.nil ?_
      refine JC.to2 [(2, .x (.flt r11)), (3, .x (.int .i64 (0 : Int)))] [] (by kernel_rfl) (by kernel_rfl) ?_
      refine JC.skipT ?_
      refine JC.retB ?_
      refine JC.retT ?_
      exact JC.finB (ex := .ret) (vs := [.x (.flt r11), .x (.int .i64 (0 : Int))]) (is := []) rfl ret_ne ⟨(by kernel_rfl), ⟨(by kernel_rfl), trivial⟩⟩ (Outs.sc rfl (Outs.sc rfl Outs.nil))
    · refine JC.seq ?_
      refine JC.region fun b13 => ?_
      refine JS.run 2 (by kernel_rfl) ?_
      refine JS.nil ?_
      refine JC.to2 [(0, .x (.str a0)), (19, .x (.bool (a0 == ([45, 105, 110, 102] : List UInt8))))] [] (by kernel_rfl) (by kernel_rfl) ?_
      refine JC.skipT ?_
      refine JC.cond (e := (a0 == ([45, 105, 110, 102] : List UInt8))) (by kernel_rfl) (fun h14 => ?_) (fun h14 => ?_)
      · refine JC.seq ?_
        refine JC.region fun b15 => ?_
        refine JS.bind fun r16 h17 => ?_
        refine JS.callS [] (math_Inf_ok k (-1 : Int) r16 h17) ⟨rfl, argX (d := (.int .i64 (-1 : Int))) (by kernel_rfl) (by kernel_rfl), trivial⟩ (by kernel_rfl) (by kernel_rfl) (by kernel_rfl) ?_
        refine JS.run 2 (by kernel_rfl) ?_
        refine JS.nil ?_
        refine JC.to2 [(2, .x (.flt r16)), (3, .x (.int .i64 (0 : Int)))] [] (by kernel_rfl) (by kernel_rfl) ?_
        refine JC.skipT ?_
        refine JC.retB ?_
        refine JC.retT ?_
        exact JC.finB (ex := .ret) (vs := [.x (.flt r16), .x (.int .i64 (0 : Int))]) (is := []) rfl ret_ne ⟨(by kernel_rfl), ⟨(by kernel_rfl), trivial⟩⟩ (Outs.sc rfl (Outs.sc rfl Outs.nil))
      · refine JC.skipB ?_
        refine JC.skipT ?_
        refine JC.seq ?_
        refine JC.bind (A := fun v ex E R => ex = .normal ∧ E = [(0, .x (.str a0)), (4, .x (.bool v))] ∧ R = []) ?_ ?_
        · refine JC.region fun b19 => ?_
          refine JS.run 4 (by kernel_rfl) ?_
          refine JS.split (e := (decide ((a0.length : Int) > (0 : Int)))) 25 (by kernel_rfl) (fun h20 => ?_) (fun h20 => ?_)
          · refine JS.run 1 (by kernel_rfl) ?_
            refine JS.indexS (kk := .i64) (z := (0 : Int)) (t := a0) (by kernel_rfl) (by kernel_rfl) (by kernel_rfl) (by kernel_rfl) (fun w21 h22 => ?_)
            refine JS.run 3 (by kernel_rfl) ?_
            refine JS.nil ?_
            refine JC.to2 [(0, .x (.str a0)), (4, .x (.bool (((w21.toNat : Nat) : Int) == (45 : Int))))] [] (by kernel_rfl) (by kernel_rfl) ?_
            refine JC.to2 [(0, .x (.str a0)), (4, .x (.bool (((w21.toNat : Nat) : Int) == (45 : Int))))] [] (by kernel_rfl) (by kernel_rfl) ?_
            exact JC.got (ex := .normal) rfl ⟨rfl, rfl, rfl⟩
          · refine JS.run 5 (by kernel_rfl) ?_
            refine JS.nil ?_
            refine JC.to2 [(0, .x (.str a0)), (4, .x (.bool false))] [] (by kernel_rfl) (by kernel_rfl) ?_
            refine JC.to2 [(0, .x (.str a0)), (4, .x (.bool false))] [] (by kernel_rfl) (by kernel_rfl) ?_
            exact JC.got (ex := .normal) rfl ⟨rfl, rfl, rfl⟩
        · rintro y18 ex E' R' hA
          obtain ⟨rfl, rfl, rfl⟩ := hA
          refine JC.to2 [(0, .x (.str a0)), (4, .x (.bool y18))] [] (by kernel_rfl) (by kernel_rfl) ?_
          refine JC.skipT ?_
          refine JC.seq ?_
          refine JC.seq ?_
          refine JC.region fun b23 => ?_
          refine JS.run 1 (by kernel_rfl) ?_
          refine JS.nil ?_
          refine JC.to2 [(0, .x (.str a0)), (4, .x (.bool y18)), (30, .x (.bool y18))] [] (by kernel_rfl) (by kernel_rfl) ?_
          refine JC.skipT ?_
          refine JC.cond (e := y18) (by kernel_rfl) (fun h24 => ?_) (fun h24 => ?_)
          · refine JC.region fun b25 => ?_
            refine JS.run 1 (by kernel_rfl) ?_
            refine JS.sliceS (t := a0) (lo' := (some (1 : Int))) (hi' := none) (by kernel_rfl) (by kernel_rfl) (by kernel_rfl) (by kernel_rfl) (by kernel_rfl) (fun p26 h27 => ?_)
            refine JS.run 1 (by kernel_rfl) ?_
            refine JS.nil ?_
            refine JC.to2 [(0, .x (.str (sl a0 p26))), (4, .x (.bool y18))] [] (by kernel_rfl) (by kernel_rfl) ?_
            refine JC.skipT ?_
            refine JC.seq ?_
            refine JC.region fun b28 => ?_
            refine JS.run 3 (by kernel_rfl) ?_
            refine JS.nil ?_
            refine JC.to2 [(0, .x (.str (sl a0 p26))), (4, .x (.bool y18)), (5, .x (.int .i64 (0 : Int))), (6, .x (.int .i64 (0 : Int))), (7, .x (.int .i64 (-1 : Int)))] [] (by kernel_rfl) (by kernel_rfl) ?_
            refine JC.skipT ?_
            refine JC.seq ?_
            refine JC.seq ?_
            refine JC.region fun b29 => ?_
            refine JS.run 1 (by kernel_rfl) ?_
            refine JS.nil ?_
            refine JC.to2 [(0, .x (.str (sl a0 p26))), (4, .x (.bool y18)), (5, .x (.int .i64 (0 : Int))), (6, .x (.int .i64 (0 : Int))), (7, .x (.int .i64 (-1 : Int))), (8, .x (.int .i64 (0 : Int)))] [] (by kernel_rfl) (by kernel_rfl) ?_
            refine JC.skipT ?_
            refine JC.block ?_
            refine JC.to2 [(0, .x (.str (sl a0 p26))), (4, .x (.bool y18)), (5, .x (.int .i64 (0 : Int))), (6, .x (.int .i64 (0 : Int))), (7, .x (.int .i64 (-1 : Int))), (8, .x (.int .i64 (0 : Int)))] [] (by kernel_rfl) (by kernel_rfl) ?_
            refine JC.to2 [(0, .x (.str (sl a0 p26))), (4, .x (.bool y18)), (5, .x (.int .i64 (0 : Int))), (6, .x (.int .i64 (0 : Int))), (7, .x (.int .i64 (-1 : Int))), (8, .x (.int .i64 (0 : Int)))] [] (by kernel_rfl) (by kernel_rfl) ?_
            refine JC.bind (A := fun v ex E R => match v with | Sum.inl v => ex = (.exit 1) ∧ E = [(0, .x (.str v.1)), (4, .x (.bool y18)), (5, .x (.int .i64 v.2.1)), (6, .x (.int .i64 v.2.2.1)), (7, .x (.int .i64 v.2.2.2))] ∧ R = [] | Sum.inr v => ex = .ret ∧ E = [(2, .x (.flt (some 0 : Fl))), (3, .x (.int .i64 (2 : Int)))] ∧ R = []) (eyotref1_Parse_l0_ok y18 k (sl a0 p26) (0 : Int) (0 : Int) (-1 : Int) (0 : Int)) ?_
            rintro v ex E' R' hA
            rcases v with ⟨y35, y36, y37, y38⟩ | _
            · obtain ⟨rfl, rfl, rfl⟩ := hA
              refine JC.to2 [(0, .x (.str y35)), (4, .x (.bool y18)), (5, .x (.int .i64 y36)), (6, .x (.int .i64 y37)), (7, .x (.int .i64 y38))] [] (by kernel_rfl) (by kernel_rfl) ?_
              refine JC.exitB ?_
              refine JC.skipT ?_
              refine JC.seq ?_
              refine JC.seq ?_
              refine JC.bind (A := fun v ex E R => ex = .normal ∧ E = [(0, .x (.str y35)), (4, .x (.bool y18)), (5, .x (.int .i64 y36)), (7, .x (.int .i64 y38)), (90, .x (.bool v))] ∧ R = []) ?_ ?_
              · refine JC.region fun b67 => ?_
                refine JS.run 3 (by kernel_rfl) ?_
                refine JS.split (e := (y37 == (0 : Int))) 80 (by kernel_rfl) (fun h68 => ?_) (fun h68 => ?_)
                · refine JS.run 10 (by kernel_rfl) ?_
                  refine JS.nil ?_
                  refine JC.to2 [(0, .x (.str y35)), (4, .x (.bool y18)), (5, .x (.int .i64 y36)), (7, .x (.int .i64 y38)), (90, .x (.bool true))] [] (by kernel_rfl) (by kernel_rfl) ?_
                  refine JC.to2 [(0, .x (.str y35)), (4, .x (.bool y18)), (5, .x (.int .i64 y36)), (7, .x (.int .i64 y38)), (90, .x (.bool true))] [] (by kernel_rfl) (by kernel_rfl) ?_
                  exact JC.got (ex := .normal) rfl ⟨rfl, rfl, rfl⟩
                · refine JS.run 6 (by kernel_rfl) ?_
                  refine JS.split (e := (y38 == (IntKind.i64.wrap ((y35.length : Int) - (1 : Int))))) 86 (by kernel_rfl) (fun h69 => ?_) (fun h69 => ?_)
                  · refine JS.run 4 (by kernel_rfl) ?_
                    refine JS.nil ?_
                    refine JC.to2 [(0, .x (.str y35)), (4, .x (.bool y18)), (5, .x (.int .i64 y36)), (7, .x (.int .i64 y38)), (90, .x (.bool (decide (y38 ≥ (0 : Int)))))] [] (by kernel_rfl) (by kernel_rfl) ?_
                    refine JC.to2 [(0, .x (.str y35)), (4, .x (.bool y18)), (5, .x (.int .i64 y36)), (7, .x (.int .i64 y38)), (90, .x (.bool (decide (y38 ≥ (0 : Int)))))] [] (by kernel_rfl) (by kernel_rfl) ?_
                    exact JC.got (ex := .normal) rfl ⟨rfl, rfl, rfl⟩
                  · refine JS.run 4 (by kernel_rfl) ?_
                    refine JS.nil ?_
                    refine JC.to2 [(0, .x (.str y35)), (4, .x (.bool y18)), (5, .x (.int .i64 y36)), (7, .x (.int .i64 y38)), (90, .x (.bool false))] [] (by kernel_rfl) (by kernel_rfl) ?_
                    refine JC.to2 [(0, .x (.str y35)), (4, .x (.bool y18)), (5, .x (.int .i64 y36)), (7, .x (.int .i64 y38)), (90, .x (.bool false))] [] (by kernel_rfl) (by kernel_rfl) ?_
                    exact JC.got (ex := .normal) rfl ⟨rfl, rfl, rfl⟩
              · rintro y66 ex E' R' hA
                obtain ⟨rfl, rfl, rfl⟩ := hA
                refine JC.to2 [(0, .x (.str y35)), (4, .x (.bool y18)), (5, .x (.int .i64 y36)), (7, .x (.int .i64 y38)), (90, .x (.bool y66))] [] (by kernel_rfl) (by kernel_rfl) ?_
                refine JC.skipT ?_
                refine JC.cond (e := y66) (by kernel_rfl) (fun h70 => ?_) (fun h70 => ?_)
                · refine JC.seq ?_
                  refine JC.region fun b71 => ?_
                  refine JS.run 2 (by kernel_rfl) ?_
                  refine JS.nil ?_
                  refine JC.to2 [(2, .x (.flt (some 0 : Fl))), (3, .x (.int .i64 (2 : Int)))] [] (by kernel_rfl) (by kernel_rfl) ?_
                  refine JC.skipT ?_
                  refine JC.retT ?_
                  exact JC.finB (ex := .ret) (vs := [.x (.flt (some 0 : Fl)), .x (.int .i64 (2 : Int))]) (is := []) rfl ret_ne ⟨(by kernel_rfl), ⟨(by kernel_rfl), trivial⟩⟩ (Outs.sc rfl (Outs.sc rfl Outs.nil))
                · refine JC.skipT ?_
                  refine JC.seq ?_
                  refine JC.region fun b72 => ?_
                  refine JS.run 1 (by kernel_rfl) ?_
                  refine JS.nil ?_
                  refine JC.to2 [(0, .x (.str y35)), (4, .x (.bool y18)), (5, .x (.int .i64 y36)), (7, .x (.int .i64 y38)), (9, .x (.int .i64 (1 : Int)))] [] (by kernel_rfl) (by kernel_rfl) ?_
                  refine JC.skipT ?_
                  refine JC.seq ?_
                  refine JC.seq ?_
                  refine JC.region fun b73 => ?_
                  refine JS.run 3 (by kernel_rfl) ?_
                  refine JS.nil ?_
                  refine JC.to2 [(0, .x (.str y35)), (4, .x (.bool y18)), (5, .x (.int .i64 y36)), (7, .x (.int .i64 y38)), (9, .x (.int .i64 (1 : Int))), (10, .x (.int .i64 (IntKind.i64.wrap (y38 + (1 : Int)))))] [] (by kernel_rfl) (by kernel_rfl) ?_
                  refine JC.skipT ?_
                  refine JC.block ?_
                  refine JC.to2 [(0, .x (.str y35)), (4, .x (.bool y18)), (5, .x (.int .i64 y36)), (7, .x (.int .i64 y38)), (9, .x (.int .i64 (1 : Int))), (10, .x (.int .i64 (IntKind.i64.wrap (y38 + (1 : Int)))))] [] (by kernel_rfl) (by kernel_rfl) ?_
                  refine JC.to2 [(0, .x (.str y35)), (4, .x (.bool y18)), (5, .x (.int .i64 y36)), (7, .x (.int .i64 y38)), (9, .x (.int .i64 (1 : Int))), (10, .x (.int .i64 (IntKind.i64.wrap (y38 + (1 : Int)))))] [] (by kernel_rfl) (by kernel_rfl) ?_
                  refine JC.bind (A := fun v ex E R => ex = (.exit 4) ∧ E = [(4, .x (.bool y18)), (5, .x (.int .i64 y36)), (9, .x (.int .i64 v))] ∧ R = []) (eyotref1_Parse_l1_ok y18 y35 y36 y38 k (1 : Int) (IntKind.i64.wrap (y38 + (1 : Int)))) ?_
                  rintro y76 ex E' R' hA
                  obtain ⟨rfl, rfl, rfl⟩ := hA
                  refine JC.to2 [(4, .x (.bool y18)), (5, .x (.int .i64 y36)), (9, .x (.int .i64 y76))] [] (by kernel_rfl) (by kernel_rfl) ?_
                  refine JC.exitB ?_
                  refine JC.skipT ?_
                  refine JC.seq ?_
                  refine JC.region fun b83 => ?_
                  refine JS.run 6 (by kernel_rfl) ?_
                  refine JS.nil ?_
                  refine JC.to2 [(4, .x (.bool y18)), (11, .x (.flt (fDiv (some (FloatKind.f64.nearest y36) : Fl) (some (FloatKind.f64.nearest y76) : Fl))))] [] (by kernel_rfl) (by kernel_rfl) ?_
                  refine JC.skipT ?_
                  refine JC.seq ?_
                  refine JC.seq ?_
                  refine JC.region fun b84 => ?_
                  refine JS.run 1 (by kernel_rfl) ?_
                  refine JS.nil ?_
                  refine JC.to2 [(11, .x (.flt (fDiv (some (FloatKind.f64.nearest y36) : Fl) (some (FloatKind.f64.nearest y76) : Fl)))), (110, .x (.bool y18))] [] (by kernel_rfl) (by kernel_rfl) ?_
                  refine JC.skipT ?_
                  refine JC.cond (e := y18) (by kernel_rfl) (fun h85 => ?_) (fun h85 => ?_)
                  · refine JC.region fun b86 => ?_
                    refine JS.run 1 (by kernel_rfl) ?_
                    refine JS.bind fun r87 h88 => ?_
                    refine JS.callS [] (math_Copysign_ok k (fDiv (some (FloatKind.f64.nearest y36) : Fl) (some (FloatKind.f64.nearest y76) : Fl)) (some 13830554455654793216 : Fl) r87 h88) ⟨rfl, argX (d := (.flt (fDiv (some (FloatKind.f64.nearest y36) : Fl) (some (FloatKind.f64.nearest y76) : Fl)))) (by kernel_rfl) (by kernel_rfl), rfl, argX (d := (.flt (some 13830554455654793216 : Fl))) (by kernel_rfl) (by kernel_rfl), trivial⟩ (by kernel_rfl) (by kernel_rfl) (by kernel_rfl) ?_
                    refine JS.run 1 (by kernel_rfl) ?_
                    refine JS.nil ?_
                    refine JC.to2 [(11, .x (.flt r87))] [] (by kernel_rfl) (by kernel_rfl) ?_
                    refine JC.skipT ?_
                    refine JC.seq ?_
                    refine JC.region fun b89 => ?_
                    refine JS.run 3 (by kernel_rfl) ?_
                    refine JS.nil ?_
                    refine JC.to2 [(2, .x (.flt r87)), (3, .x (.int .i64 (0 : Int)))] [] (by kernel_rfl) (by kernel_rfl) ?_
                    refine JC.skipT ?_
                    exact JC.finB (ex := .ret) (vs := [.x (.flt r87), .x (.int .i64 (0 : Int))]) (is := []) rfl ret_ne ⟨(by kernel_rfl), ⟨(by kernel_rfl), trivial⟩⟩ (Outs.sc rfl (Outs.sc rfl Outs.nil))
                  · refine JC.skipT ?_
                    refine JC.seq ?_
                    refine JC.region fun b90 => ?_
                    refine JS.run 3 (by kernel_rfl) ?_
                    refine JS.nil ?_
                    refine JC.to2 [(2, .x (.flt (fDiv (some (FloatKind.f64.nearest y36) : Fl) (some (FloatKind.f64.nearest y76) : Fl)))), (3, .x (.int .i64 (0 : Int)))] [] (by kernel_rfl) (by kernel_rfl) ?_
                    refine JC.skipT ?_
                    exact JC.finB (ex := .ret) (vs := [.x (.flt (fDiv (some (FloatKind.f64.nearest y36) : Fl) (some (FloatKind.f64.nearest y76) : Fl))), .x (.int .i64 (0 : Int))]) (is := []) rfl ret_ne ⟨(by kernel_rfl), ⟨(by kernel_rfl), trivial⟩⟩ (Outs.sc rfl (Outs.sc rfl Outs.nil))
            · obtain ⟨rfl, rfl, rfl⟩ := hA
              refine JC.to2 [(2, .x (.flt (some 0 : Fl))), (3, .x (.int .i64 (2 : Int)))] [] (by kernel_rfl) (by kernel_rfl) ?_
              refine JC.retB ?_
              refine JC.retT ?_
              exact JC.finB (ex := .ret) (vs := [.x (.flt (some 0 : Fl)), .x (.int .i64 (2 : Int))]) (is := []) rfl ret_ne ⟨(by kernel_rfl), ⟨(by kernel_rfl), trivial⟩⟩ (Outs.sc rfl (Outs.sc rfl Outs.nil))
          · refine JC.skipT ?_
            refine JC.seq ?_
            refine JC.region fun b91 => ?_
            refine JS.run 3 (by kernel_rfl) ?_
            refine JS.nil ?_
            refine JC.to2 [(0, .x (.str a0)), (4, .x (.bool y18)), (5, .x (.int .i64 (0 : Int))), (6, .x (.int .i64 (0 : Int))), (7, .x (.int .i64 (-1 : Int)))] [] (by kernel_rfl) (by kernel_rfl) ?_
            refine JC.skipT ?_
            refine JC.seq ?_
            refine JC.seq ?_
            refine JC.region fun b92 => ?_
            refine JS.run 1 (by kernel_rfl) ?_
            refine JS.nil ?_
            refine JC.to2 [(0, .x (.str a0)), (4, .x (.bool y18)), (5, .x (.int .i64 (0 : Int))), (6, .x (.int .i64 (0 : Int))), (7, .x (.int .i64 (-1 : Int))), (8, .x (.int .i64 (0 : Int)))] [] (by kernel_rfl) (by kernel_rfl) ?_
            refine JC.skipT ?_
            refine JC.block ?_
            refine JC.to2 [(0, .x (.str a0)), (4, .x (.bool y18)), (5, .x (.int .i64 (0 : Int))), (6, .x (.int .i64 (0 : Int))), (7, .x (.int .i64 (-1 : Int))), (8, .x (.int .i64 (0 : Int)))] [] (by kernel_rfl) (by kernel_rfl) ?_
            refine JC.to2 [(0, .x (.str a0)), (4, .x (.bool y18)), (5, .x (.int .i64 (0 : Int))), (6, .x (.int .i64 (0 : Int))), (7, .x (.int .i64 (-1 : Int))), (8, .x (.int .i64 (0 : Int)))] [] (by kernel_rfl) (by kernel_rfl) ?_
            refine JC.bind (A := fun v ex E R => match v with | Sum.inl v => ex = (.exit 1) ∧ E = [(0, .x (.str a0)), (4, .x (.bool y18)), (5, .x (.int .i64 v.1)), (6, .x (.int .i64 v.2.1)), (7, .x (.int .i64 v.2.2))] ∧ R = [] | Sum.inr v => ex = .ret ∧ E = [(2, .x (.flt (some 0 : Fl))), (3, .x (.int .i64 (2 : Int)))] ∧ R = []) (eyotref1_Parse_l2_ok a0 y18 k (0 : Int) (0 : Int) (-1 : Int) (0 : Int)) ?_
            rintro v ex E' R' hA
            rcases v with ⟨y97, y98, y99⟩ | _
            · obtain ⟨rfl, rfl, rfl⟩ := hA
              refine JC.to2 [(0, .x (.str a0)), (4, .x (.bool y18)), (5, .x (.int .i64 y97)), (6, .x (.int .i64 y98)), (7, .x (.int .i64 y99))] [] (by kernel_rfl) (by kernel_rfl) ?_
              refine JC.exitB ?_
              refine JC.skipT ?_
              refine JC.seq ?_
              refine JC.seq ?_
              refine JC.bind (A := fun v ex E R => ex = .normal ∧ E = [(0, .x (.str a0)), (4, .x (.bool y18)), (5, .x (.int .i64 y97)), (7, .x (.int .i64 y99)), (90, .x (.bool v))] ∧ R = []) ?_ ?_
              · refine JC.region fun b128 => ?_
                refine JS.run 3 (by kernel_rfl) ?_
                refine JS.split (e := (y98 == (0 : Int))) 80 (by kernel_rfl) (fun h129 => ?_) (fun h129 => ?_)
                · refine JS.run 10 (by kernel_rfl) ?_
                  refine JS.nil ?_
                  refine JC.to2 [(0, .x (.str a0)), (4, .x (.bool y18)), (5, .x (.int .i64 y97)), (7, .x (.int .i64 y99)), (90, .x (.bool true))] [] (by kernel_rfl) (by kernel_rfl) ?_
                  refine JC.to2 [(0, .x (.str a0)), (4, .x (.bool y18)), (5, .x (.int .i64 y97)), (7, .x (.int .i64 y99)), (90, .x (.bool true))] [] (by kernel_rfl) (by kernel_rfl) ?_
                  exact JC.got (ex := .normal) rfl ⟨rfl, rfl, rfl⟩
                · refine JS.run 6 (by kernel_rfl) ?_
                  refine JS.split (e := (y99 == (IntKind.i64.wrap ((a0.length : Int) - (1 : Int))))) 86 (by kernel_rfl) (fun h130 => ?_) (fun h130 => ?_)
                  · refine JS.run 4 (by kernel_rfl) ?_
                    refine JS.nil ?_
                    refine JC.to2 [(0, .x (.str a0)), (4, .x (.bool y18)), (5, .x (.int .i64 y97)), (7, .x (.int .i64 y99)), (90, .x (.bool (decide (y99 ≥ (0 : Int)))))] [] (by kernel_rfl) (by kernel_rfl) ?_
                    refine JC.to2 [(0, .x (.str a0)), (4, .x (.bool y18)), (5, .x (.int .i64 y97)), (7, .x (.int .i64 y99)), (90, .x (.bool (decide (y99 ≥ (0 : Int)))))] [] (by kernel_rfl) (by kernel_rfl) ?_
                    exact JC.got (ex := .normal) rfl ⟨rfl, rfl, rfl⟩
                  · refine JS.run 4 (by kernel_rfl) ?_
                    refine JS.nil ?_
                    refine JC.to2 [(0, .x (.str a0)), (4, .x (.bool y18)), (5, .x (.int .i64 y97)), (7, .x (.int .i64 y99)), (90, .x (.bool false))] [] (by kernel_rfl) (by kernel_rfl) ?_
                    refine JC.to2 [(0, .x (.str a0)), (4, .x (.bool y18)), (5, .x (.int .i64 y97)), (7, .x (.int .i64 y99)), (90, .x (.bool false))] [] (by kernel_rfl) (by kernel_rfl) ?_
                    exact JC.got (ex := .normal) rfl ⟨rfl, rfl, rfl⟩
              · rintro y127 ex E' R' hA
                obtain ⟨rfl, rfl, rfl⟩ := hA
                refine JC.to2 [(0, .x (.str a0)), (4, .x (.bool y18)), (5, .x (.int .i64 y97)), (7, .x (.int .i64 y99)), (90, .x (.bool y127))] [] (by kernel_rfl) (by kernel_rfl) ?_
                refine JC.skipT ?_
                refine JC.cond (e := y127) (by kernel_rfl) (fun h131 => ?_) (fun h131 => ?_)
                · refine JC.seq ?_
                  refine JC.region fun b132 => ?_
                  refine JS.run 2 (by kernel_rfl) ?_
                  refine JS.nil ?_
                  refine JC.to2 [(2, .x (.flt (some 0 : Fl))), (3, .x (.int .i64 (2 : Int)))] [] (by kernel_rfl) (by kernel_rfl) ?_
                  refine JC.skipT ?_
                  refine JC.retT ?_
                  exact JC.finB (ex := .ret) (vs := [.x (.flt (some 0 : Fl)), .x (.int .i64 (2 : Int))]) (is := []) rfl ret_ne ⟨(by kernel_rfl), ⟨(by kernel_rfl), trivial⟩⟩ (Outs.sc rfl (Outs.sc rfl Outs.nil))
                · refine JC.skipT ?_
                  refine JC.seq ?_
                  refine JC.region fun b133 => ?_
                  refine JS.run 1 (by kernel_rfl) ?_
                  refine JS.nil ?_
                  refine JC.to2 [(0, .x (.str a0)), (4, .x (.bool y18)), (5, .x (.int .i64 y97)), (7, .x (.int .i64 y99)), (9, .x (.int .i64 (1 : Int)))] [] (by kernel_rfl) (by kernel_rfl) ?_
                  refine JC.skipT ?_
                  refine JC.seq ?_
                  refine JC.seq ?_
                  refine JC.region fun b134 => ?_
                  refine JS.run 3 (by kernel_rfl) ?_
                  refine JS.nil ?_
                  refine JC.to2 [(0, .x (.str a0)), (4, .x (.bool y18)), (5, .x (.int .i64 y97)), (7, .x (.int .i64 y99)), (9, .x (.int .i64 (1 : Int))), (10, .x (.int .i64 (IntKind.i64.wrap (y99 + (1 : Int)))))] [] (by kernel_rfl) (by kernel_rfl) ?_
                  refine JC.skipT ?_
                  refine JC.block ?_
                  refine JC.to2 [(0, .x (.str a0)), (4, .x (.bool y18)), (5, .x (.int .i64 y97)), (7, .x (.int .i64 y99)), (9, .x (.int .i64 (1 : Int))), (10, .x (.int .i64 (IntKind.i64.wrap (y99 + (1 : Int)))))] [] (by kernel_rfl) (by kernel_rfl) ?_
                  refine JC.to2 [(0, .x (.str a0)), (4, .x (.bool y18)), (5, .x (.int .i64 y97)), (7, .x (.int .i64 y99)), (9, .x (.int .i64 (1 : Int))), (10, .x (.int .i64 (IntKind.i64.wrap (y99 + (1 : Int)))))] [] (by kernel_rfl) (by kernel_rfl) ?_
                  refine JC.bind (A := fun v ex E R => ex = (.exit 4) ∧ E = [(4, .x (.bool y18)), (5, .x (.int .i64 y97)), (9, .x (.int .i64 v))] ∧ R = []) (eyotref1_Parse_l3_ok a0 y18 y97 y99 k (1 : Int) (IntKind.i64.wrap (y99 + (1 : Int)))) ?_
                  rintro y137 ex E' R' hA
                  obtain ⟨rfl, rfl, rfl⟩ := hA
                  refine JC.to2 [(4, .x (.bool y18)), (5, .x (.int .i64 y97)), (9, .x (.int .i64 y137))] [] (by kernel_rfl) (by kernel_rfl) ?_
                  refine JC.exitB ?_
                  refine JC.skipT ?_
                  refine JC.seq ?_
                  refine JC.region fun b144 => ?_
                  refine JS.run 6 (by kernel_rfl) ?_
                  refine JS.nil ?_
                  refine JC.to2 [(4, .x (.bool y18)), (11, .x (.flt (fDiv (some (FloatKind.f64.nearest y97) : Fl) (some (FloatKind.f64.nearest y137) : Fl))))] [] (by kernel_rfl) (by kernel_rfl) ?_
                  refine JC.skipT ?_
                  refine JC.seq ?_
                  refine JC.seq ?_
                  refine JC.region fun b145 => ?_
                  refine JS.run 1 (by kernel_rfl) ?_
                  refine JS.nil ?_
                  refine JC.to2 [(11, .x (.flt (fDiv (some (FloatKind.f64.nearest y97) : Fl) (some (FloatKind.f64.nearest y137) : Fl)))), (110, .x (.bool y18))] [] (by kernel_rfl) (by kernel_rfl) ?_
                  refine JC.skipT ?_
                  refine JC.cond (e := y18) (by kernel_rfl) (fun h146 => ?_) (fun h146 => ?_)
                  · refine JC.region fun b147 => ?_
                    refine JS.run 1 (by kernel_rfl) ?_
                    refine JS.bind fun r148 h149 => ?_
                    refine JS.callS [] (math_Copysign_ok k (fDiv (some (FloatKind.f64.nearest y97) : Fl) (some (FloatKind.f64.nearest y137) : Fl)) (some 13830554455654793216 : Fl) r148 h149) ⟨rfl, argX (d := (.flt (fDiv (some (FloatKind.f64.nearest y97) : Fl) (some (FloatKind.f64.nearest y137) : Fl)))) (by kernel_rfl) (by kernel_rfl), rfl, argX (d := (.flt (some 13830554455654793216 : Fl))) (by kernel_rfl) (by kernel_rfl), trivial⟩ (by kernel_rfl) (by kernel_rfl) (by kernel_rfl) ?_
                    refine JS.run 1 (by kernel_rfl) ?_
                    refine JS.nil ?_
                    refine JC.to2 [(11, .x (.flt r148))] [] (by kernel_rfl) (by kernel_rfl) ?_
                    refine JC.skipT ?_
                    refine JC.seq ?_
                    refine JC.region fun b150 => ?_
                    refine JS.run 3 (by kernel_rfl) ?_
                    refine JS.nil ?_
                    refine JC.to2 [(2, .x (.flt r148)), (3, .x (.int .i64 (0 : Int)))] [] (by kernel_rfl) (by kernel_rfl) ?_
                    refine JC.skipT ?_
                    exact JC.finB (ex := .ret) (vs := [.x (.flt r148), .x (.int .i64 (0 : Int))]) (is := []) rfl ret_ne ⟨(by kernel_rfl), ⟨(by kernel_rfl), trivial⟩⟩ (Outs.sc rfl (Outs.sc rfl Outs.nil))
                  · refine JC.skipT ?_
                    refine JC.seq ?_
                    refine JC.region fun b151 => ?_
                    refine JS.run 3 (by kernel_rfl) ?_
                    refine JS.nil ?_
                    refine JC.to2 [(2, .x (.flt (fDiv (some (FloatKind.f64.nearest y97) : Fl) (some (FloatKind.f64.nearest y137) : Fl)))), (3, .x (.int .i64 (0 : Int)))] [] (by kernel_rfl) (by kernel_rfl) ?_
                    refine JC.skipT ?_
                    exact JC.finB (ex := .ret) (vs := [.x (.flt (fDiv (some (FloatKind.f64.nearest y97) : Fl) (some (FloatKind.f64.nearest y137) : Fl))), .x (.int .i64 (0 : Int))]) (is := []) rfl ret_ne ⟨(by kernel_rfl), ⟨(by kernel_rfl), trivial⟩⟩ (Outs.sc rfl (Outs.sc rfl Outs.nil))
            · obtain ⟨rfl, rfl, rfl⟩ := hA
              refine JC.to2 [(2, .x (.flt (some 0 : Fl))), (3, .x (.int .i64 (2 : Int)))] [] (by kernel_rfl) (by kernel_rfl) ?_
              refine JC.retB ?_
              refine JC.retT ?_
              exact JC.finB (ex := .ret) (vs := [.x (.flt (some 0 : Fl)), .x (.int .i64 (2 : Int))]) (is := []) rfl ret_ne ⟨(by kernel_rfl), ⟨(by kernel_rfl), trivial⟩⟩ (Outs.sc rfl (Outs.sc rfl Outs.nil))
/-! eyot/eyotref1.Order -/
def eyotref1_Order (k : Nat) (a0 : Fl) (a1 : Fl) : Option Int :=
  (cond (fOrd a0 a0 != some .eq) (some (fOrd a1 a1 != some .eq)) (some false)).bind fun y2 => cond y2 (some (0 : Int)) (cond (fOrd a0 a0 != some .eq) (some (1 : Int)) (cond (fOrd a1 a1 != some .eq) (some (-1 : Int)) (cond (fOrd a0 a1 == some .lt) (some (-1 : Int)) (cond (fOrd a0 a1 == some .gt) (some (1 : Int)) ((cond (fOrd a0 (some 0 : Fl) == some .eq) ((math_Signbit k a0).bind fun r22 => (math_Signbit k a1).bind fun r24 => some (!(r22 == r24))) (some false)).bind fun y19 => cond y19 ((math_Signbit k a0).bind fun r28 => cond r28 (some (-1 : Int)) (some (1 : Int))) (some (0 : Int)))))))
theorem eyotref1_Order_ok (k : Nat) (a0 : Fl) (a1 : Fl) : ∀ r, eyotref1_Order k a0 a1 = some r → CallOk prog 16 [.x (.flt a0), .x (.flt a1)] false [.sc (.x (.int .i64 r))] := by
  refine CallOk.ofB (pf := pf16) (rs := [.tmp 4]) (Res := fun (r : Int) => [.sc (.x (.int .i64 r))]) rfl rfl rfl rfl rfl ?_
  unfold eyotref1_Order pf16
  refine JC.seq ?_
  refine JC.region fun b1 => ?_
  refine JS.run 1 (by kernel_rfl) ?_
  refine JS.nil ?_
  refine JC.to2 [(0, .x (.flt a0)), (1, .x (.flt a1))] [] (by kernel_rfl) (by kernel_rfl) ?_
  refine JC.skipT ?_
  refine JC.seq ?_
  refine JC.block ?_
  refine JC.seq ?_
  refine JC.bind (A := fun v ex E R => ex = .normal ∧ E = [(0, .x (.flt a0)), (1, .x (.flt a1)), (5, .x (.bool v))] ∧ R = []) ?_ ?_
  · refine JC.region fun b3 => ?_
    refine JS.run 4 (by kernel_rfl) ?_
    refine JS.split (e := (fOrd a0 a0 != some .eq)) 9 (by kernel_rfl) (fun h4 => ?_) (fun h4 => ?_)
    · refine JS.run 5 (by kernel_rfl) ?_
      refine JS.nil ?_
      refine JC.to2 [(0, .x (.flt a0)), (1, .x (.flt a1)), (5, .x (.bool (fOrd a1 a1 != some .eq)))] [] (by kernel_rfl) (by kernel_rfl) ?_
      refine JC.to2 [(0, .x (.flt a0)), (1, .x (.flt a1)), (5, .x (.bool (fOrd a1 a1 != some .eq)))] [] (by kernel_rfl) (by kernel_rfl) ?_
      exact JC.got (ex := .normal) rfl ⟨rfl, rfl, rfl⟩
    · refine JS.run 5 (by kernel_rfl) ?_
      refine JS.nil ?_
      refine JC.to2 [(0, .x (.flt a0)), (1, .x (.flt a1)), (5, .x (.bool false))] [] (by kernel_rfl) (by kernel_rfl) ?_
      refine JC.to2 [(0, .x (.flt a0)), (1, .x (.flt a1)), (5, .x (.bool false))] [] (by kernel_rfl) (by kernel_rfl) ?_
      exact JC.got (ex := .normal) rfl ⟨rfl, rfl, rfl⟩
  · rintro y2 ex E' R' hA
    obtain ⟨rfl, rfl, rfl⟩ := hA
    refine JC.to2 [(0, .x (.flt a0)), (1, .x (.flt a1)), (5, .x (.bool y2))] [] (by kernel_rfl) (by kernel_rfl) ?_
    refine JC.skipT ?_
    refine JC.cond (e := y2) (by kernel_rfl) (fun h5 => ?_) (fun h5 => ?_)
    · refine JC.seq ?_
      refine JC.region fun b6 => ?_
      refine JS.run 1 (by kernel_rfl) ?_
      refine JS.nil ?_
      refine JC.to2 [(4, .x (.int .i64 (0 : Int)))] [] (by kernel_rfl) (by kernel_rfl) ?_
      refine JC.skipT ?_
      refine JC.retB ?_
      refine JC.retT ?_
      exact JC.finB (ex := .ret) (vs := [.x (.int .i64 (0 : Int))]) (is := []) rfl ret_ne ⟨(by kernel_rfl), trivial⟩ (Outs.sc rfl Outs.nil)
    · refine JC.seq ?_
      refine JC.region fun b7 => ?_
      refine JS.run 4 (by kernel_rfl) ?_
      refine JS.nil ?_
      refine JC.to2 [(0, .x (.flt a0)), (1, .x (.flt a1)), (14, .x (.bool (fOrd a0 a0 != some .eq)))] [] (by kernel_rfl) (by kernel_rfl) ?_
      refine JC.skipT ?_
      refine JC.cond (e := (fOrd a0 a0 != some .eq)) (by kernel_rfl) (fun h8 => ?_) (fun h8 => ?_)
      · refine JC.seq ?_
        refine JC.region fun b9 => ?_
        refine JS.run 1 (by kernel_rfl) ?_
        refine JS.nil ?_
        refine JC.to2 [(4, .x (.int .i64 (1 : Int)))] [] (by kernel_rfl) (by kernel_rfl) ?_
        refine JC.skipT ?_
        refine JC.retB ?_
        refine JC.retT ?_
        exact JC.finB (ex := .ret) (vs := [.x (.int .i64 (1 : Int))]) (is := []) rfl ret_ne ⟨(by kernel_rfl), trivial⟩ (Outs.sc rfl Outs.nil)
      · refine JC.seq ?_
        refine JC.region fun b10 => ?_
        refine JS.run 4 (by kernel_rfl) ?_
        refine JS.nil ?_
        refine JC.to2 [(0, .x (.flt a0)), (1, .x (.flt a1)), (18, .x (.bool (fOrd a1 a1 != some .eq)))] [] (by kernel_rfl) (by kernel_rfl) ?_
        refine JC.skipT ?_
        refine JC.cond (e := (fOrd a1 a1 != some .eq)) (by kernel_rfl) (fun h11 => ?_) (fun h11 => ?_)
        · refine JC.seq ?_
          refine JC.region fun b12 => ?_
          refine JS.run 1 (by kernel_rfl) ?_
          refine JS.nil ?_
          refine JC.to2 [(4, .x (.int .i64 (-1 : Int)))] [] (by kernel_rfl) (by kernel_rfl) ?_
          refine JC.skipT ?_
          refine JC.retB ?_
          refine JC.retT ?_
          exact JC.finB (ex := .ret) (vs := [.x (.int .i64 (-1 : Int))]) (is := []) rfl ret_ne ⟨(by kernel_rfl), trivial⟩ (Outs.sc rfl Outs.nil)
        · refine JC.seq ?_
          refine JC.region fun b13 => ?_
          refine JS.run 4 (by kernel_rfl) ?_
          refine JS.nil ?_
          refine JC.to2 [(0, .x (.flt a0)), (1, .x (.flt a1)), (22, .x (.bool (fOrd a0 a1 == some .lt)))] [] (by kernel_rfl) (by kernel_rfl) ?_
          refine JC.skipT ?_
          refine JC.cond (e := (fOrd a0 a1 == some .lt)) (by kernel_rfl) (fun h14 => ?_) (fun h14 => ?_)
          · refine JC.seq ?_
            refine JC.region fun b15 => ?_
            refine JS.run 1 (by kernel_rfl) ?_
            refine JS.nil ?_
            refine JC.to2 [(4, .x (.int .i64 (-1 : Int)))] [] (by kernel_rfl) (by kernel_rfl) ?_
            refine JC.skipT ?_
            refine JC.retB ?_
            refine JC.retT ?_
            exact JC.finB (ex := .ret) (vs := [.x (.int .i64 (-1 : Int))]) (is := []) rfl ret_ne ⟨(by kernel_rfl), trivial⟩ (Outs.sc rfl Outs.nil)
          · refine JC.seq ?_
            refine JC.region fun b16 => ?_
            refine JS.run 4 (by kernel_rfl) ?_
            refine JS.nil ?_
            refine JC.to2 [(0, .x (.flt a0)), (1, .x (.flt a1)), (26, .x (.bool (fOrd a0 a1 == some .gt)))] [] (by kernel_rfl) (by kernel_rfl) ?_
            refine JC.skipT ?_
            refine JC.cond (e := (fOrd a0 a1 == some .gt)) (by kernel_rfl) (fun h17 => ?_) (fun h17 => ?_)
            · refine JC.seq ?_
              refine JC.region fun b18 => ?_
              refine JS.run 1 (by kernel_rfl) ?_
              refine JS.nil ?_
              refine JC.to2 [(4, .x (.int .i64 (1 : Int)))] [] (by kernel_rfl) (by kernel_rfl) ?_
              refine JC.skipT ?_
              refine JC.retB ?_
              refine JC.retT ?_
              exact JC.finB (ex := .ret) (vs := [.x (.int .i64 (1 : Int))]) (is := []) rfl ret_ne ⟨(by kernel_rfl), trivial⟩ (Outs.sc rfl Outs.nil)
            · refine JC.seq ?_
              refine JC.bind (A := fun v ex E R => ex = .normal ∧ E = [(0, .x (.flt a0)), (30, .x (.bool v))] ∧ R = []) ?_ ?_
              · refine JC.region fun b20 => ?_
                refine JS.run 3 (by kernel_rfl) ?_
                refine JS.split (e := (fOrd a0 (some 0 : Fl) == some .eq)) 33 (by kernel_rfl) (fun h21 => ?_) (fun h21 => ?_)
                · refine JS.run 1 (by kernel_rfl) ?_
                  refine JS.bind fun r22 h23 => ?_
                  refine JS.callS [] (math_Signbit_ok k a0 r22 h23) ⟨rfl, argX (d := (.flt a0)) (by kernel_rfl) (by kernel_rfl), trivial⟩ (by kernel_rfl) (by kernel_rfl) (by kernel_rfl) ?_
                  refine JS.run 1 (by kernel_rfl) ?_
                  refine JS.bind fun r24 h25 => ?_
                  refine JS.callS [] (math_Signbit_ok k a1 r24 h25) ⟨rfl, argX (d := (.flt a1)) (by kernel_rfl) (by kernel_rfl), trivial⟩ (by kernel_rfl) (by kernel_rfl) (by kernel_rfl) ?_
                  refine JS.run 3 (by kernel_rfl) ?_
                  refine JS.nil ?_
                  refine JC.to2 [(0, .x (.flt a0)), (30, .x (.bool (!(r22 == r24))))] [] (by kernel_rfl) (by kernel_rfl) ?_
                  refine JC.to2 [(0, .x (.flt a0)), (30, .x (.bool (!(r22 == r24))))] [] (by kernel_rfl) (by kernel_rfl) ?_
                  exact JC.got (ex := .normal) rfl ⟨rfl, rfl, rfl⟩
                · refine JS.run 7 (by kernel_rfl) ?_
                  refine JS.nil ?_
                  refine JC.to2 [(0, .x (.flt a0)), (30, .x (.bool false))] [] (by kernel_rfl) (by kernel_rfl) ?_
                  refine JC.to2 [(0, .x (.flt a0)), (30, .x (.bool false))] [] (by kernel_rfl) (by kernel_rfl) ?_
                  exact JC.got (ex := .normal) rfl ⟨rfl, rfl, rfl⟩
              · rintro y19 ex E' R' hA
                obtain ⟨rfl, rfl, rfl⟩ := hA
                refine JC.to2 [(0, .x (.flt a0)), (30, .x (.bool y19))] [] (by kernel_rfl) (by kernel_rfl) ?_
                refine JC.skipT ?_
                refine JC.cond (e := y19) (by kernel_rfl) (fun h26 => ?_) (fun h26 => ?_)
                · refine JC.seq ?_
                  refine JC.seq ?_
                  refine JC.region fun b27 => ?_
                  refine JS.run 1 (by kernel_rfl) ?_
                  refine JS.bind fun r28 h29 => ?_
                  refine JS.callS [] (math_Signbit_ok k a0 r28 h29) ⟨rfl, argX (d := (.flt a0)) (by kernel_rfl) (by kernel_rfl), trivial⟩ (by kernel_rfl) (by kernel_rfl) (by kernel_rfl) ?_
                  refine JS.nil ?_
                  refine JC.to2 [(41, .x (.bool r28))] [] (by kernel_rfl) (by kernel_rfl) ?_
                  refine JC.skipT ?_
                  refine JC.cond (e := r28) (by kernel_rfl) (fun h30 => ?_) (fun h30 => ?_)
                  · refine JC.seq ?_
                    refine JC.region fun b31 => ?_
                    refine JS.run 1 (by kernel_rfl) ?_
                    refine JS.nil ?_
                    refine JC.to2 [(4, .x (.int .i64 (-1 : Int)))] [] (by kernel_rfl) (by kernel_rfl) ?_
                    refine JC.skipT ?_
                    refine JC.retT ?_
                    refine JC.retB ?_
                    refine JC.retT ?_
                    exact JC.finB (ex := .ret) (vs := [.x (.int .i64 (-1 : Int))]) (is := []) rfl ret_ne ⟨(by kernel_rfl), trivial⟩ (Outs.sc rfl Outs.nil)
                  · refine JC.skipT ?_
                    refine JC.seq ?_
                    refine JC.region fun b32 => ?_
                    refine JS.run 1 (by kernel_rfl) ?_
                    refine JS.nil ?_
                    refine JC.to2 [(4, .x (.int .i64 (1 : Int)))] [] (by kernel_rfl) (by kernel_rfl) ?_
                    refine JC.skipT ?_
                    refine JC.retB ?_
                    refine JC.retT ?_
                    exact JC.finB (ex := .ret) (vs := [.x (.int .i64 (1 : Int))]) (is := []) rfl ret_ne ⟨(by kernel_rfl), trivial⟩ (Outs.sc rfl Outs.nil)
                · refine JC.skipB ?_
                  refine JC.skipT ?_
                  refine JC.seq ?_
                  refine JC.region fun b33 => ?_
                  refine JS.run 1 (by kernel_rfl) ?_
                  refine JS.nil ?_
                  refine JC.to2 [(4, .x (.int .i64 (0 : Int)))] [] (by kernel_rfl) (by kernel_rfl) ?_
                  refine JC.skipT ?_
                  exact JC.finB (ex := .ret) (vs := [.x (.int .i64 (0 : Int))]) (is := []) rfl ret_ne ⟨(by kernel_rfl), trivial⟩ (Outs.sc rfl Outs.nil)
/-! eyot/eyotref1.Same -/
def eyotref1_Same (k : Nat) (a0 : Fl) (a1 : Fl) : Option Bool :=
  (eyotref1_Order k a0 a1).bind fun r3 => some (r3 == (0 : Int))
theorem eyotref1_Same_ok (k : Nat) (a0 : Fl) (a1 : Fl) : ∀ r, eyotref1_Same k a0 a1 = some r → CallOk prog 13 [.x (.flt a0), .x (.flt a1)] false [.sc (.x (.bool r))] := by
  refine CallOk.ofB (pf := pf13) (rs := [.tmp 4]) (Res := fun (r : Bool) => [.sc (.x (.bool r))]) rfl rfl rfl rfl rfl ?_
  unfold eyotref1_Same pf13
  refine JC.seq ?_
  refine JC.region fun b1 => ?_
  refine JS.run 1 (by kernel_rfl) ?_
  refine JS.nil ?_
  refine JC.to2 [(0, .x (.flt a0)), (1, .x (.flt a1))] [] (by kernel_rfl) (by kernel_rfl) ?_
  refine JC.skipT ?_
  refine JC.seq ?_
  refine JC.region fun b2 => ?_
  refine JS.run 2 (by kernel_rfl) ?_
  refine JS.bind fun r3 h4 => ?_
  refine JS.callS [] (eyotref1_Order_ok k a0 a1 r3 h4) ⟨rfl, argX (d := (.flt a0)) (by kernel_rfl) (by kernel_rfl), rfl, argX (d := (.flt a1)) (by kernel_rfl) (by kernel_rfl), trivial⟩ (by kernel_rfl) (by kernel_rfl) (by kernel_rfl) ?_
  refine JS.run 2 (by kernel_rfl) ?_
  refine JS.nil ?_
  refine JC.to2 [(4, .x (.bool (r3 == (0 : Int))))] [] (by kernel_rfl) (by kernel_rfl) ?_
  refine JC.skipT ?_
  exact JC.finB (ex := .ret) (vs := [.x (.bool (r3 == (0 : Int)))]) (is := []) rfl ret_ne ⟨(by kernel_rfl), trivial⟩ (Outs.sc rfl Outs.nil)
/-! eyot/eyotlaw1.begun -/
def eyotlaw1_begun (k : Nat)  : Option Bool :=
  (weigh_Parse k ([49, 46, 50, 53] : List UInt8)).bind fun r3 => (weigh_Parse k ([49, 46] : List UInt8)).bind fun r6 => (cond (r3.2 == (0 : Int)) (cond (fOrd r3.1 (some 4608308318706860032 : Fl) == some .eq) (cond (r6.2 == (2 : Int)) ((weigh_Order k (some 4607182418800017408 : Fl) (some 4611686018427387904 : Fl)).bind fun r13 => cond (r13 == (-1 : Int)) ((weigh_Same k (some 4611686018427387904 : Fl) (some 4611686018427387904 : Fl)).bind fun r16 => cond r16 ((weigh_Key k (some 4607182418800017408 : Fl)).bind fun r19 => (weigh_Key k (some 13830554455654793216 : Fl)).bind fun r21 => cond (decide (r19 > r21)) ((weigh_Key k (some 4613937818241073152 : Fl)).bind fun r24 => (weigh_Of k r24).bind fun r26 => cond (fOrd r26 (some 4613937818241073152 : Fl) == some .eq) ((weigh_Kind k (some 4607182418800017408 : Fl)).bind fun r29 => some (r29 == (5 : Int))) (some false)) (some false)) (some false)) (some false)) (some false)) (some false)) (some false)).bind fun y8 => some y8
theorem eyotlaw1_begun_ok (k : Nat)  : ∀ r, eyotlaw1_begun k = some r → CallOk prog 9 [] false [.sc (.x (.bool r))] := by
  refine CallOk.ofB (pf := pf9) (rs := [.tmp 0]) (Res := fun (r : Bool) => [.sc (.x (.bool r))]) rfl rfl rfl rfl rfl ?_
  unfold eyotlaw1_begun pf9
  refine JC.seq ?_
  refine JC.region fun b1 => ?_
  refine JS.run 1 (by kernel_rfl) ?_
  refine JS.nil ?_
  refine JC.to2 [] [] (by kernel_rfl) (by kernel_rfl) ?_
  refine JC.skipT ?_
  refine JC.seq ?_
  refine JC.region fun b2 => ?_
  refine JS.bind fun r3 h4 => ?_
  refine JS.callS [] (weigh_Parse_ok k ([49, 46, 50, 53] : List UInt8) r3 h4) ⟨rfl, argX (d := (.str ([49, 46, 50, 53] : List UInt8))) (by kernel_rfl) (by kernel_rfl), trivial⟩ (by kernel_rfl) (by kernel_rfl) (by kernel_rfl) ?_
  refine JS.run 5 (by kernel_rfl) ?_
  refine JS.nil ?_
  refine JC.to2 [(1, .x (.flt r3.1)), (2, .x (.int .i64 r3.2))] [] (by kernel_rfl) (by kernel_rfl) ?_
  refine JC.skipT ?_
  refine JC.seq ?_
  refine JC.region fun b5 => ?_
  refine JS.bind fun r6 h7 => ?_
  refine JS.callS [] (weigh_Parse_ok k ([49, 46] : List UInt8) r6 h7) ⟨rfl, argX (d := (.str ([49, 46] : List UInt8))) (by kernel_rfl) (by kernel_rfl), trivial⟩ (by kernel_rfl) (by kernel_rfl) (by kernel_rfl) ?_
  refine JS.run 5 (by kernel_rfl) ?_
  refine JS.nil ?_
  refine JC.to2 [(1, .x (.flt r3.1)), (2, .x (.int .i64 r3.2)), (4, .x (.int .i64 r6.2))] [] (by kernel_rfl) (by kernel_rfl) ?_
  refine JC.skipT ?_
  refine JC.seq ?_
  refine JC.bind (A := fun v ex E R => ex = .normal ∧ E = [(0, .x (.bool v))] ∧ R = []) ?_ ?_
  · refine JC.region fun b9 => ?_
    refine JS.run 3 (by kernel_rfl) ?_
    refine JS.split (e := (r3.2 == (0 : Int))) 15 (by kernel_rfl) (fun h10 => ?_) (fun h10 => ?_)
    · refine JS.run 4 (by kernel_rfl) ?_
      refine JS.split (e := (fOrd r3.1 (some 4608308318706860032 : Fl) == some .eq)) 19 (by kernel_rfl) (fun h11 => ?_) (fun h11 => ?_)
      · refine JS.run 4 (by kernel_rfl) ?_
        refine JS.split (e := (r6.2 == (2 : Int))) 23 (by kernel_rfl) (fun h12 => ?_) (fun h12 => ?_)
        · refine JS.bind fun r13 h14 => ?_
          refine JS.callS [] (weigh_Order_ok k (some 4607182418800017408 : Fl) (some 4611686018427387904 : Fl) r13 h14) ⟨rfl, argX (d := (.flt (some 4607182418800017408 : Fl))) (by kernel_rfl) (by kernel_rfl), rfl, argX (d := (.flt (some 4611686018427387904 : Fl))) (by kernel_rfl) (by kernel_rfl), trivial⟩ (by kernel_rfl) (by kernel_rfl) (by kernel_rfl) ?_
          refine JS.run 3 (by kernel_rfl) ?_
          refine JS.split (e := (r13 == (-1 : Int))) 27 (by kernel_rfl) (fun h15 => ?_) (fun h15 => ?_)
          · refine JS.bind fun r16 h17 => ?_
            refine JS.callS [] (weigh_Same_ok k (some 4611686018427387904 : Fl) (some 4611686018427387904 : Fl) r16 h17) ⟨rfl, argX (d := (.flt (some 4611686018427387904 : Fl))) (by kernel_rfl) (by kernel_rfl), rfl, argX (d := (.flt (some 4611686018427387904 : Fl))) (by kernel_rfl) (by kernel_rfl), trivial⟩ (by kernel_rfl) (by kernel_rfl) (by kernel_rfl) ?_
            refine JS.run 2 (by kernel_rfl) ?_
            refine JS.split (e := r16) 30 (by kernel_rfl) (fun h18 => ?_) (fun h18 => ?_)
            · refine JS.bind fun r19 h20 => ?_
              refine JS.callS [] (weigh_Key_ok k (some 4607182418800017408 : Fl) r19 h20) ⟨rfl, argX (d := (.flt (some 4607182418800017408 : Fl))) (by kernel_rfl) (by kernel_rfl), trivial⟩ (by kernel_rfl) (by kernel_rfl) (by kernel_rfl) ?_
              refine JS.bind fun r21 h22 => ?_
              refine JS.callS [] (weigh_Key_ok k (some 13830554455654793216 : Fl) r21 h22) ⟨rfl, argX (d := (.flt (some 13830554455654793216 : Fl))) (by kernel_rfl) (by kernel_rfl), trivial⟩ (by kernel_rfl) (by kernel_rfl) (by kernel_rfl) ?_
              refine JS.run 3 (by kernel_rfl) ?_
              refine JS.split (e := (decide (r19 > r21))) 35 (by kernel_rfl) (fun h23 => ?_) (fun h23 => ?_)
              · refine JS.bind fun r24 h25 => ?_
                refine JS.callS [] (weigh_Key_ok k (some 4613937818241073152 : Fl) r24 h25) ⟨rfl, argX (d := (.flt (some 4613937818241073152 : Fl))) (by kernel_rfl) (by kernel_rfl), trivial⟩ (by kernel_rfl) (by kernel_rfl) (by kernel_rfl) ?_
                refine JS.bind fun r26 h27 => ?_
                refine JS.callS [] (weigh_Of_ok k r24 r26 h27) ⟨rfl, argX (d := (.int .u64 r24)) (by kernel_rfl) (by kernel_rfl), trivial⟩ (by kernel_rfl) (by kernel_rfl) (by kernel_rfl) ?_
                refine JS.run 3 (by kernel_rfl) ?_
                refine JS.split (e := (fOrd r26 (some 4613937818241073152 : Fl) == some .eq)) 40 (by kernel_rfl) (fun h28 => ?_) (fun h28 => ?_)
                · refine JS.bind fun r29 h30 => ?_
                  refine JS.callS [] (weigh_Kind_ok k (some 4607182418800017408 : Fl) r29 h30) ⟨rfl, argX (d := (.flt (some 4607182418800017408 : Fl))) (by kernel_rfl) (by kernel_rfl), trivial⟩ (by kernel_rfl) (by kernel_rfl) (by kernel_rfl) ?_
                  refine JS.run 3 (by kernel_rfl) ?_
                  refine JS.nil ?_
                  refine JC.to2 [(0, .x (.bool (r29 == (5 : Int))))] [] (by kernel_rfl) (by kernel_rfl) ?_
                  refine JC.to2 [(0, .x (.bool (r29 == (5 : Int))))] [] (by kernel_rfl) (by kernel_rfl) ?_
                  exact JC.got (ex := .normal) rfl ⟨rfl, rfl, rfl⟩
                · refine JS.run 4 (by kernel_rfl) ?_
                  refine JS.nil ?_
                  refine JC.to2 [(0, .x (.bool false))] [] (by kernel_rfl) (by kernel_rfl) ?_
                  refine JC.to2 [(0, .x (.bool false))] [] (by kernel_rfl) (by kernel_rfl) ?_
                  exact JC.got (ex := .normal) rfl ⟨rfl, rfl, rfl⟩
              · refine JS.run 9 (by kernel_rfl) ?_
                refine JS.nil ?_
                refine JC.to2 [(0, .x (.bool false))] [] (by kernel_rfl) (by kernel_rfl) ?_
                refine JC.to2 [(0, .x (.bool false))] [] (by kernel_rfl) (by kernel_rfl) ?_
                exact JC.got (ex := .normal) rfl ⟨rfl, rfl, rfl⟩
            · refine JS.run 14 (by kernel_rfl) ?_
              refine JS.nil ?_
              refine JC.to2 [(0, .x (.bool false))] [] (by kernel_rfl) (by kernel_rfl) ?_
              refine JC.to2 [(0, .x (.bool false))] [] (by kernel_rfl) (by kernel_rfl) ?_
              exact JC.got (ex := .normal) rfl ⟨rfl, rfl, rfl⟩
          · refine JS.run 17 (by kernel_rfl) ?_
            refine JS.nil ?_
            refine JC.to2 [(0, .x (.bool false))] [] (by kernel_rfl) (by kernel_rfl) ?_
            refine JC.to2 [(0, .x (.bool false))] [] (by kernel_rfl) (by kernel_rfl) ?_
            exact JC.got (ex := .normal) rfl ⟨rfl, rfl, rfl⟩
        · refine JS.run 21 (by kernel_rfl) ?_
          refine JS.nil ?_
          refine JC.to2 [(0, .x (.bool false))] [] (by kernel_rfl) (by kernel_rfl) ?_
          refine JC.to2 [(0, .x (.bool false))] [] (by kernel_rfl) (by kernel_rfl) ?_
          exact JC.got (ex := .normal) rfl ⟨rfl, rfl, rfl⟩
      · refine JS.run 25 (by kernel_rfl) ?_
        refine JS.nil ?_
        refine JC.to2 [(0, .x (.bool false))] [] (by kernel_rfl) (by kernel_rfl) ?_
        refine JC.to2 [(0, .x (.bool false))] [] (by kernel_rfl) (by kernel_rfl) ?_
        exact JC.got (ex := .normal) rfl ⟨rfl, rfl, rfl⟩
    · refine JS.run 29 (by kernel_rfl) ?_
      refine JS.nil ?_
      refine JC.to2 [(0, .x (.bool false))] [] (by kernel_rfl) (by kernel_rfl) ?_
      refine JC.to2 [(0, .x (.bool false))] [] (by kernel_rfl) (by kernel_rfl) ?_
      exact JC.got (ex := .normal) rfl ⟨rfl, rfl, rfl⟩
  · rintro y8 ex E' R' hA
    obtain ⟨rfl, rfl, rfl⟩ := hA
    refine JC.to2 [(0, .x (.bool y8))] [] (by kernel_rfl) (by kernel_rfl) ?_
    refine JC.skipT ?_
    exact JC.finB (ex := .ret) (vs := [.x (.bool y8)]) (is := []) rfl ret_ne ⟨(by kernel_rfl), trivial⟩ (Outs.sc rfl Outs.nil)
/-! eyot/eyotlaw1.WeighParses -/
def eyotlaw1_WeighParses (k : Nat) (a0 : (List UInt8)) : Option Bool :=
  (eyotlaw1_begun k).bind fun r3 => cond (!r3) (some false) (cond (decide ((a0.length : Int) > (60 : Int))) (some true) ((weigh_Parse k a0).bind fun r11 => (eyotref1_Parse k a0).bind fun r14 => (cond (r11.2 == r14.2) ((weigh_Same k r11.1 r14.1).bind fun r19 => cond r19 ((eyotref1_Same k r11.1 r14.1).bind fun r22 => some r22) (some false)) (some false)).bind fun y16 => some y16))
theorem eyotlaw1_WeighParses_ok (k : Nat) (a0 : (List UInt8)) : ∀ r, eyotlaw1_WeighParses k a0 = some r → CallOk prog 0 [.x (.str a0)] false [.sc (.x (.bool r))] := by
  refine CallOk.ofB (pf := pf0) (rs := [.tmp 2]) (Res := fun (r : Bool) => [.sc (.x (.bool r))]) rfl rfl rfl rfl rfl ?_
  unfold eyotlaw1_WeighParses pf0
  refine JC.seq ?_
  refine JC.region fun b1 => ?_
  refine JS.run 1 (by kernel_rfl) ?_
  refine JS.nil ?_
  refine JC.to2 [(0, .x (.str a0))] [] (by kernel_rfl) (by kernel_rfl) ?_
  refine JC.skipT ?_
  refine JC.seq ?_
  refine JC.seq ?_
  refine JC.region fun b2 => ?_
  refine JS.bind fun r3 h4 => ?_
  refine JS.callS [] (eyotlaw1_begun_ok k r3 h4) trivial (by kernel_rfl) (by kernel_rfl) (by kernel_rfl) ?_
  refine JS.run 1 (by kernel_rfl) ?_
  refine JS.nil ?_
  refine JC.to2 [(0, .x (.str a0)), (8, .x (.bool (!r3)))] [] (by kernel_rfl) (by kernel_rfl) ?_
  refine JC.skipT ?_
  refine JC.cond (e := (!r3)) (by kernel_rfl) (fun h5 => ?_) (fun h5 => ?_)
  · refine JC.seq ?_
    refine JC.region fun b6 => ?_
    refine JS.run 1 (by kernel_rfl) ?_
    refine JS.nil ?_
    refine JC.to2 [(2, .x (.bool false))] [] (by kernel_rfl) (by kernel_rfl) ?_
    refine JC.skipT ?_
    refine JC.retT ?_
    exact JC.finB (ex := .ret) (vs := [.x (.bool false)]) (is := []) rfl ret_ne ⟨(by kernel_rfl), trivial⟩ (Outs.sc rfl Outs.nil)
  · refine JC.skipT ?_
    refine JC.seq ?_
    refine JC.seq ?_
    refine JC.region fun b7 => ?_
    refine JS.run 3 (by kernel_rfl) ?_
    refine JS.nil ?_
    refine JC.to2 [(0, .x (.str a0)), (11, .x (.bool (decide ((a0.length : Int) > (60 : Int)))))] [] (by kernel_rfl) (by kernel_rfl) ?_
    refine JC.skipT ?_
    refine JC.cond (e := (decide ((a0.length : Int) > (60 : Int)))) (by kernel_rfl) (fun h8 => ?_) (fun h8 => ?_)
    · refine JC.seq ?_
      refine JC.region fun b9 => ?_
      refine JS.run 1 (by kernel_rfl) ?_
      refine JS.nil ?_
      refine JC.to2 [(2, .x (.bool true))] [] (by kernel_rfl) (by kernel_rfl) ?_
      refine JC.skipT ?_
      refine JC.retT ?_
      exact JC.finB (ex := .ret) (vs := [.x (.bool true)]) (is := []) rfl ret_ne ⟨(by kernel_rfl), trivial⟩ (Outs.sc rfl Outs.nil)
    · refine JC.skipT ?_
      refine JC.seq ?_
      refine JC.region fun b10 => ?_
      refine JS.run 1 (by kernel_rfl) ?_
      refine JS.bind fun r11 h12 => ?_
      refine JS.callS [] (weigh_Parse_ok k a0 r11 h12) ⟨rfl, argX (d := (.str a0)) (by kernel_rfl) (by kernel_rfl), trivial⟩ (by kernel_rfl) (by kernel_rfl) (by kernel_rfl) ?_
      refine JS.run 5 (by kernel_rfl) ?_
      refine JS.nil ?_
      refine JC.to2 [(0, .x (.str a0)), (3, .x (.flt r11.1)), (4, .x (.int .i64 r11.2))] [] (by kernel_rfl) (by kernel_rfl) ?_
      refine JC.skipT ?_
      refine JC.seq ?_
      refine JC.region fun b13 => ?_
      refine JS.run 1 (by kernel_rfl) ?_
      refine JS.bind fun r14 h15 => ?_
      refine JS.callS [] (eyotref1_Parse_ok k a0 r14 h15) ⟨rfl, argX (d := (.str a0)) (by kernel_rfl) (by kernel_rfl), trivial⟩ (by kernel_rfl) (by kernel_rfl) (by kernel_rfl) ?_
      refine JS.run 5 (by kernel_rfl) ?_
      refine JS.nil ?_
      refine JC.to2 [(3, .x (.flt r11.1)), (4, .x (.int .i64 r11.2)), (5, .x (.flt r14.1)), (6, .x (.int .i64 r14.2))] [] (by kernel_rfl) (by kernel_rfl) ?_
      refine JC.skipT ?_
      refine JC.seq ?_
      refine JC.bind (A := fun v ex E R => ex = .normal ∧ E = [(2, .x (.bool v))] ∧ R = []) ?_ ?_
      · refine JC.region fun b17 => ?_
        refine JS.run 4 (by kernel_rfl) ?_
        refine JS.split (e := (r11.2 == r14.2)) 25 (by kernel_rfl) (fun h18 => ?_) (fun h18 => ?_)
        · refine JS.run 2 (by kernel_rfl) ?_
          refine JS.bind fun r19 h20 => ?_
          refine JS.callS [] (weigh_Same_ok k r11.1 r14.1 r19 h20) ⟨rfl, argX (d := (.flt r11.1)) (by kernel_rfl) (by kernel_rfl), rfl, argX (d := (.flt r14.1)) (by kernel_rfl) (by kernel_rfl), trivial⟩ (by kernel_rfl) (by kernel_rfl) (by kernel_rfl) ?_
          refine JS.run 2 (by kernel_rfl) ?_
          refine JS.split (e := r19) 30 (by kernel_rfl) (fun h21 => ?_) (fun h21 => ?_)
          · refine JS.run 2 (by kernel_rfl) ?_
            refine JS.bind fun r22 h23 => ?_
            refine JS.callS [] (eyotref1_Same_ok k r11.1 r14.1 r22 h23) ⟨rfl, argX (d := (.flt r11.1)) (by kernel_rfl) (by kernel_rfl), rfl, argX (d := (.flt r14.1)) (by kernel_rfl) (by kernel_rfl), trivial⟩ (by kernel_rfl) (by kernel_rfl) (by kernel_rfl) ?_
            refine JS.run 2 (by kernel_rfl) ?_
            refine JS.nil ?_
            refine JC.to2 [(2, .x (.bool r22))] [] (by kernel_rfl) (by kernel_rfl) ?_
            refine JC.to2 [(2, .x (.bool r22))] [] (by kernel_rfl) (by kernel_rfl) ?_
            exact JC.got (ex := .normal) rfl ⟨rfl, rfl, rfl⟩
          · refine JS.run 5 (by kernel_rfl) ?_
            refine JS.nil ?_
            refine JC.to2 [(2, .x (.bool false))] [] (by kernel_rfl) (by kernel_rfl) ?_
            refine JC.to2 [(2, .x (.bool false))] [] (by kernel_rfl) (by kernel_rfl) ?_
            exact JC.got (ex := .normal) rfl ⟨rfl, rfl, rfl⟩
        · refine JS.run 10 (by kernel_rfl) ?_
          refine JS.nil ?_
          refine JC.to2 [(2, .x (.bool false))] [] (by kernel_rfl) (by kernel_rfl) ?_
          refine JC.to2 [(2, .x (.bool false))] [] (by kernel_rfl) (by kernel_rfl) ?_
          exact JC.got (ex := .normal) rfl ⟨rfl, rfl, rfl⟩
      · rintro y16 ex E' R' hA
        obtain ⟨rfl, rfl, rfl⟩ := hA
        refine JC.to2 [(2, .x (.bool y16))] [] (by kernel_rfl) (by kernel_rfl) ?_
        refine JC.skipT ?_
        exact JC.finB (ex := .ret) (vs := [.x (.bool y16)]) (is := []) rfl ret_ne ⟨(by kernel_rfl), trivial⟩ (Outs.sc rfl Outs.nil)
end Go.Pi

