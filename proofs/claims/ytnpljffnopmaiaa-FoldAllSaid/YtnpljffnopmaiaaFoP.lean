import Derived.Test.YtnpljffnopmaiaaFoL
import Derived.Test.YtnpljffnopmaiaaJA
/-
  THE PROGRAM, by numbers of functions.
-/
set_option linter.all false
namespace Go.Pi
def ptree : PT :=
  (.node 19 (.node 12 (.node 8 (.node 6 (.leaf 0 pf0) (.node 7 (.leaf 6 pf6) (.leaf 7 pf7))) (.node 10 (.node 9 (.leaf 8 pf8) (.leaf 9 pf9)) (.node 11 (.leaf 10 pf10) (.leaf 11 pf11)))) (.node 15 (.node 13 (.leaf 12 pf12) (.node 14 (.leaf 13 pf13) (.leaf 14 pf14))) (.node 17 (.node 16 (.leaf 15 pf15) (.leaf 16 pf16)) (.node 18 (.leaf 17 pf17) (.leaf 18 pf18))))) (.node 31 (.node 25 (.node 23 (.leaf 19 pf19) (.node 24 (.leaf 23 pf23) (.leaf 24 pf24))) (.node 27 (.node 26 (.leaf 25 pf25) (.leaf 26 pf26)) (.node 30 (.leaf 27 pf27) (.leaf 30 pf30)))) (.node 34 (.node 32 (.leaf 31 pf31) (.node 33 (.leaf 32 pf32) (.leaf 33 pf33))) (.node 36 (.node 35 (.leaf 34 pf34) (.leaf 35 pf35)) (.node 37 (.leaf 36 pf36) (.leaf 37 pf37))))))
def prog : Prog := ptree.find
end Go.Pi

