import Derived.Test.YtnpljffnopmaiaaJX
/-
  THE TYPES, and how they lie in cells.
-/
set_option linter.all false
namespace Go.Pi
set_option maxRecDepth 100000
set_option linter.unusedVariables false
end Go.Pi

