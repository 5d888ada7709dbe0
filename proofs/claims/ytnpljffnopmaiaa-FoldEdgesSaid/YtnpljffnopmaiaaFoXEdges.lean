import Derived.Test.YtnpljffnopmaiaaFoR
/-
  FoldEdges: closed.
-/
set_option linter.all false
namespace Go.Pi
theorem edges_pureF : ∃ k, eyotlaw2_FoldEdges k = some true := ⟨100, by kernel_rfl⟩
end Go.Pi

