import Derived.Test.YthapdljociabjaaWeQ
/-
  WeighEdges, in plain words: closed.
-/
set_option linter.all false
namespace Go.Pi
set_option maxRecDepth 100000
theorem edges_pure : ∃ k, eyotlaw1_WeighEdges k = some true := ⟨40, by kernel_rfl⟩
end Go.Pi

