import Derived.Test.YtghncdeldlknnaaJL
/-
  THE TYPES, and how they lie in cells.
-/
set_option linter.all false
namespace Go.Pi
set_option maxRecDepth 100000
set_option linter.unusedVariables false
structure NodeT where
  Depth : Int
  Rule : Int
  Token : Int
  from_ : Int
  to_ : Int
  deriving Inhabited, DecidableEq
def NodeT.D (v : NodeT) : List D := [.int .i64 v.Depth, .int .i64 v.Rule, .int .i64 v.Token, .int .i64 v.from_, .int .i64 v.to_]
end Go.Pi
