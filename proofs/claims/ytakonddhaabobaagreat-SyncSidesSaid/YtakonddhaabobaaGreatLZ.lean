import Derived.Test.YtakonddhaabobaaGreatLC
set_option linter.all false
namespace Go.Pi.Z
abbrev c (n : Int) : PX := .c (.int .i64 n)
abbrev b (v : Bool) : PX := .c (.bool v)
abbrev m (n : Nat) : POp := .mv (.t n)
abbrev a (n : Nat) : Nat × PX := (0, .t n)
abbrev o (d : Nat) (x : POp) : PO := ⟨some d, x, none, [], 0⟩
abbrev w (x : POp) (n : Nat) : PO := ⟨none, x, none, [], n⟩
abbrev g (d : Nat) (x : POp) (n : Nat) (v : Bool) : PO := ⟨some d, x, some (n, v), [], 0⟩
abbrev r (l : List PO) : PC := .region false 0 l
abbrev R (n : Nat) (l : List PO) : PC := .region false n l
abbrev s (x y : PC) : PC := .seq x y
abbrev O (d : Nat) (x : POp) : AO := .o (some d) x 0 .bool
abbrev G (d : Nat) (x : POp) (n : Nat) (v : Bool) : AO := .g (some d) x n v 0 .bool
abbrev S (x y : AC) : AC := .seq x y
abbrev Q (l : List AO) : AC := .reg 0 l
abbrev e (i : Nat) (c : Code) : Nat × VSh := (i, .b (.one 1 c))
abbrev p (i j : Nat) : Nat × VSh := (i, .b (.ptr j 0))
end Go.Pi.Z

