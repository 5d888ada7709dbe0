import Derived.Test.YtnpljffnopmaiaaFoL
import Derived.Test.YtnpljffnopmaiaaJA
/-
  THE PROGRAM, by numbers of functions.
-/
set_option linter.all false
namespace Go.Pi
def ptree : PT :=
  (.node 23 (.node 14 (.node 8 (.node 6 (.leaf 5 pf5) (.node 7 (.leaf 6 pf6) (.leaf 7 pf7))) (.node 11 (.leaf 8 pf8) (.node 12 (.leaf 11 pf11) (.leaf 12 pf12)))) (.node 20 (.node 17 (.leaf 14 pf14) (.node 19 (.leaf 17 pf17) (.leaf 19 pf19))) (.node 21 (.leaf 20 pf20) (.node 22 (.leaf 21 pf21) (.leaf 22 pf22))))) (.node 31 (.node 26 (.node 24 (.leaf 23 pf23) (.node 25 (.leaf 24 pf24) (.leaf 25 pf25))) (.node 27 (.leaf 26 pf26) (.node 30 (.leaf 27 pf27) (.leaf 30 pf30)))) (.node 34 (.node 32 (.leaf 31 pf31) (.node 33 (.leaf 32 pf32) (.leaf 33 pf33))) (.node 36 (.node 35 (.leaf 34 pf34) (.leaf 35 pf35)) (.node 37 (.leaf 36 pf36) (.leaf 37 pf37))))))
def prog : Prog := ptree.find
end Go.Pi

