import Derived.Test.YtnpljffnopmaiaaFoL
import Derived.Test.YtnpljffnopmaiaaJA
/-
  THE PROGRAM, by numbers of functions.
-/
set_option linter.all false
namespace Go.Pi
def ptree : PT :=
  (.node 24 (.node 12 (.node 7 (.node 6 (.leaf 1 pf1) (.leaf 6 pf6)) (.node 8 (.leaf 7 pf7) (.node 11 (.leaf 8 pf8) (.leaf 11 pf11)))) (.node 17 (.node 14 (.leaf 12 pf12) (.node 16 (.leaf 14 pf14) (.leaf 16 pf16))) (.node 19 (.leaf 17 pf17) (.node 23 (.leaf 19 pf19) (.leaf 23 pf23))))) (.node 32 (.node 27 (.node 25 (.leaf 24 pf24) (.node 26 (.leaf 25 pf25) (.leaf 26 pf26))) (.node 30 (.leaf 27 pf27) (.node 31 (.leaf 30 pf30) (.leaf 31 pf31)))) (.node 35 (.node 33 (.leaf 32 pf32) (.node 34 (.leaf 33 pf33) (.leaf 34 pf34))) (.node 36 (.leaf 35 pf35) (.node 37 (.leaf 36 pf36) (.leaf 37 pf37))))))
def prog : Prog := ptree.find
end Go.Pi

