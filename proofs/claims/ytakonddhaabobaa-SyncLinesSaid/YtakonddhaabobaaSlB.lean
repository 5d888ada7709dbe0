import Derived.Test.YtakonddhaabobaaProg
import Derived.Laws.FloatArith
import Derived.WalkKit
import Derived.ProofKit
set_option linter.all false
namespace Go.Proofs.Ytakonddhaabobaa
open Go.RowKit
theorem frombits (n : Int) (w : World) : (callFunc 89 #[.int .u64 n]).run Try.prog w = .ok (.value (.float .f64 n.toNat)) w := by
 rw [run_callFunc_extern (fn := Try.f89) (e := Extern.MathFloatBits.float64frombits) Try.func89 (by kernel_rfl) (by kernel_rfl) (by kernel_rfl) (by kernel_rfl)]
 rfl
theorem tobits (b : Nat) (w : World) : (callFunc 90 #[.float .f64 b]).run Try.prog w = .ok (.value (.int .u64 b)) w := by
 rw [run_callFunc_extern (fn := Try.f90) (e := Extern.MathFloatBits.float64bits) Try.func90 (by kernel_rfl) (by kernel_rfl) (by kernel_rfl) (by kernel_rfl)]
 rfl
end Go.Proofs.Ytakonddhaabobaa

