import Derived.Test.YtnpljffnopmaiaaProg
import Derived.Laws.FloatArith
import Derived.WalkKit
import Derived.ProofKit
/-
  THE BITS OF A FLOAT: what the two functions without a body are.
-/
set_option linter.all false
namespace Go.Proofs.Ytnpljffnopmaiaa
open Go.RowKit

theorem frombits (n : Int) (w : World) : (callFunc 31 #[.int .u64 n]).run Try.prog w = .ok (.value (.float .f64 n.toNat)) w := by
  rw [run_callFunc_extern (fn := Try.f31) (e := Extern.MathFloatBits.float64frombits) Try.func31 (by kernel_rfl) (by kernel_rfl) (by kernel_rfl) (by kernel_rfl)]
  rfl
theorem tobits (b : Nat) (w : World) : (callFunc 32 #[.float .f64 b]).run Try.prog w = .ok (.value (.int .u64 b)) w := by
  rw [run_callFunc_extern (fn := Try.f32) (e := Extern.MathFloatBits.float64bits) Try.func32 (by kernel_rfl) (by kernel_rfl) (by kernel_rfl) (by kernel_rfl)]
  rfl
end Go.Proofs.Ytnpljffnopmaiaa

