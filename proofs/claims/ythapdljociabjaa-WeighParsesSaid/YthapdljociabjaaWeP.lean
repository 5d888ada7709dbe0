import Derived.Test.YthapdljociabjaaWeL
import Derived.Test.YthapdljociabjaaJA
/-
  THE PROGRAM, by numbers of functions.
-/
set_option linter.all false
namespace Go.Pi
def ptree : PT :=
  (.node 17 (.node 12 (.node 10 (.node 9 (.leaf 0 pf0) (.leaf 9 pf9)) (.node 11 (.leaf 10 pf10) (.leaf 11 pf11))) (.node 14 (.node 13 (.leaf 12 pf12) (.leaf 13 pf13)) (.node 15 (.leaf 14 pf14) (.node 16 (.leaf 15 pf15) (.leaf 16 pf16))))) (.node 28 (.node 22 (.node 20 (.leaf 17 pf17) (.leaf 20 pf20)) (.node 23 (.leaf 22 pf22) (.node 27 (.leaf 23 pf23) (.leaf 27 pf27)))) (.node 31 (.node 29 (.leaf 28 pf28) (.leaf 29 pf29)) (.node 33 (.leaf 31 pf31) (.node 34 (.leaf 33 pf33) (.leaf 34 pf34))))))
def prog : Prog := ptree.find
end Go.Pi

