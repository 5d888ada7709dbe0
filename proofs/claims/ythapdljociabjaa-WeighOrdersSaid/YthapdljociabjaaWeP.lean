import Derived.Test.YthapdljociabjaaWeL
import Derived.Test.YthapdljociabjaaJA
/-
  THE PROGRAM, by numbers of functions.
-/
set_option linter.all false
namespace Go.Pi
def ptree : PT :=
  (.node 18 (.node 13 (.node 10 (.node 9 (.leaf 1 pf1) (.leaf 9 pf9)) (.node 12 (.leaf 10 pf10) (.leaf 12 pf12))) (.node 15 (.node 14 (.leaf 13 pf13) (.leaf 14 pf14)) (.node 16 (.leaf 15 pf15) (.node 17 (.leaf 16 pf16) (.leaf 17 pf17))))) (.node 28 (.node 20 (.node 19 (.leaf 18 pf18) (.leaf 19 pf19)) (.node 21 (.leaf 20 pf20) (.node 22 (.leaf 21 pf21) (.leaf 22 pf22)))) (.node 31 (.node 29 (.leaf 28 pf28) (.leaf 29 pf29)) (.node 33 (.leaf 31 pf31) (.node 34 (.leaf 33 pf33) (.leaf 34 pf34))))))
def prog : Prog := ptree.find
end Go.Pi

