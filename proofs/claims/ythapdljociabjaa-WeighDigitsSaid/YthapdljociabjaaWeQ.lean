import Derived.Test.YthapdljociabjaaWeF
/-
  WHAT IS WANTED IN ALL LAWS OF WEIGH, in plain words.
-/
set_option linter.all false
namespace Go.Pi
set_option maxRecDepth 100000
theorem begun_true : eyotlaw1_begun 1 = some true := by kernel_rfl
end Go.Pi

