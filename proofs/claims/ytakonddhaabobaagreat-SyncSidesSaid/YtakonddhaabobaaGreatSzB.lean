import Derived.Test.YtakonddhaabobaaGreatProg
import Derived.Laws.FloatArith
import Derived.WalkKit
import Derived.ProofKit
set_option linter.all false
namespace Go.Proofs.YtakonddhaabobaaGreat
open Go.RowKit
theorem frombits (n : Int) (w : World) : (callFunc 102 #[.int .u64 n]).run Tryz.prog w = .ok (.value (.float .f64 n.toNat)) w := by
 rw [run_callFunc_extern (fn := Tryz.f102) (e := Extern.MathFloatBits.float64frombits) Tryz.func102 (by kernel_rfl) (by kernel_rfl) (by kernel_rfl) (by kernel_rfl)]
 rfl
theorem tobits (b : Nat) (w : World) : (callFunc 103 #[.float .f64 b]).run Tryz.prog w = .ok (.value (.int .u64 b)) w := by
 rw [run_callFunc_extern (fn := Tryz.f103) (e := Extern.MathFloatBits.float64bits) Tryz.func103 (by kernel_rfl) (by kernel_rfl) (by kernel_rfl) (by kernel_rfl)]
 rfl
end Go.Proofs.YtakonddhaabobaaGreat

