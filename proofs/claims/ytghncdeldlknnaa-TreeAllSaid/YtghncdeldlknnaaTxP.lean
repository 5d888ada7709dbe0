import Derived.Test.YtghncdeldlknnaaTxL
import Derived.Test.YtghncdeldlknnaaJT
/-
  THE PROGRAM, by numbers of functions.
-/
set_option linter.all false
namespace Go.Pi
def ptree : PT :=
  (.node 114 (.node 110 (.node 108 (.node 107 (.leaf 6 pf6) (.leaf 107 pf107)) (.node 109 (.leaf 108 pf108) (.leaf 109 pf109))) (.node 112 (.node 111 (.leaf 110 pf110) (.leaf 111 pf111)) (.node 113 (.leaf 112 pf112) (.leaf 113 pf113)))) (.node 118 (.node 116 (.node 115 (.leaf 114 pf114) (.leaf 115 pf115)) (.node 117 (.leaf 116 pf116) (.leaf 117 pf117))) (.node 120 (.node 119 (.leaf 118 pf118) (.leaf 119 pf119)) (.node 121 (.leaf 120 pf120) (.leaf 121 pf121)))))
def prog : Prog := ptree.find
end Go.Pi
