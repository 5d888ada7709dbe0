import Derived.Test.YthapdljociabjaaWeQ
/-
  WeighForms, in plain words: closed.
-/
set_option linter.all false
namespace Go.Pi
set_option maxRecDepth 100000
theorem forms_pure : ∃ k, eyotlaw1_WeighForms k = some true := ⟨21, by kernel_rfl⟩
end Go.Pi

