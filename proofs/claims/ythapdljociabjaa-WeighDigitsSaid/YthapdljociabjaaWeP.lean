import Derived.Test.YthapdljociabjaaWeL
import Derived.Test.YthapdljociabjaaJA
/-
  THE PROGRAM, by numbers of functions.
-/
set_option linter.all false
namespace Go.Pi
def ptree : PT :=
  (.node 20 (.node 12 (.node 9 (.leaf 4 pf4) (.node 10 (.leaf 9 pf9) (.leaf 10 pf10))) (.node 15 (.node 14 (.leaf 12 pf12) (.leaf 14 pf14)) (.node 17 (.leaf 15 pf15) (.leaf 17 pf17)))) (.node 29 (.node 22 (.leaf 20 pf20) (.node 28 (.leaf 22 pf22) (.leaf 28 pf28))) (.node 33 (.node 31 (.leaf 29 pf29) (.leaf 31 pf31)) (.node 34 (.leaf 33 pf33) (.leaf 34 pf34)))))
def prog : Prog := ptree.find
end Go.Pi

