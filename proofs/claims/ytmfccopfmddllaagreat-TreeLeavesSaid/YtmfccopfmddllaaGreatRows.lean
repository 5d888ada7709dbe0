/-
  No cell of these rows narrows 'for every input' (looked for: loops, veiled, ifaces, maps, wideKeys, modest, calm, conditions, laid).
  DERIVED. THE GIVEN ROWS OF THIS SEAT. 10 by the template 'for every input the law returns true; each argument reads behind the call as it read before'; 0 by the template 'total and deterministic' (their statements: YtmfccopfmddllaaGreatTotals.lean).
  GIVEN WITH THE SEED: the statements are not yours to turn. If you find one false, say at which input.
  Laid BY PROGRAM, IN A SANDBOX (cutbox-rows.mjs): the forced cells as the released guide's own fill.sh prints them over the translation 48d30c691f01a784… (all of the seat's roots in one cut). By AI agents, Wed Nov 11 2026. No macro, syntax, notation, axiom, sorry.
-/
import Derived.Test.YtmfccopfmddllaaGreatChecked
import GoSem.Claim
import GoSem.ClaimJoined
import GoSem.ClaimMapViews
import Derived.JoinedTies
import Derived.KernelRfl
namespace Go.Proofs.YtmfccopfmddllaaGreat
/- THE CELL 'sum', in the pinned program and in every row, IS THE sha256 OF THE DUMP (.gsa) THAT YtmfccopfmddllaaGreatProg.lean LOADS. Nothing in Lean hashes anything: it is a label: what it is worth is what the hold of that sum in a sandbox is worth. -/
noncomputable def Tryz.pinned : Pinned := { name := "ytmfccopfmddllaagreat", sum := "48d30c691f01a784047ce826542b46b873da7ad142ab2148e86ef7c16c050076", checked := Tryz.checked }
namespace Rows
def none {H : Type} : Left H := { results := [], args := [] }

/-- 'eyotlaw18.TreeGiven': WHATEVER THE INPUT: true; the input reads as it did. -/
def treeGivenSpec : ChangeSpec := { name := "treeGiven", fn := fun _ => fun
  | [d1, d2, d3] => { results := [.lit (.bool true)], args := [d1, d2, d3] }
  | _ => none }
def treeGivenRow : OpenClaim := { program := "ytmfccopfmddllaagreat", sum := "48d30c691f01a784047ce826542b46b873da7ad142ab2148e86ef7c16c050076", func := "eyot/eyotlaw18.TreeGiven", spec := "treeGiven", inPlace := ["math.Float64frombits", "math.Float64bits"], recurses := true, apart := false }
def TreeGivenSaid : Prop := treeGivenRow.holds Tryz.pinned (OpenSpec.ofChange treeGivenSpec)

/-- ITS FALSE NEIGHBOUR: 'it returns false'. Refute it at one input. -/
def treeGivenWrong : ChangeSpec := { name := "treeGiven", fn := fun _ => fun
  | [d1, d2, d3] => { results := [.lit (.bool false)], args := [d1, d2, d3] }
  | _ => none }
def TreeGivenWrongFalsely : Prop := treeGivenRow.holds Tryz.pinned (OpenSpec.ofChange treeGivenWrong)

/-- 'eyotlaw18.TreeDown': WHATEVER THE INPUT: true; the input reads as it did. -/
def treeDownSpec : ChangeSpec := { name := "treeDown", fn := fun _ => fun
  | [d1, d2, d3] => { results := [.lit (.bool true)], args := [d1, d2, d3] }
  | _ => none }
def treeDownRow : OpenClaim := { program := "ytmfccopfmddllaagreat", sum := "48d30c691f01a784047ce826542b46b873da7ad142ab2148e86ef7c16c050076", func := "eyot/eyotlaw18.TreeDown", spec := "treeDown", inPlace := ["math.Float64frombits", "math.Float64bits"], recurses := true, apart := false }
def TreeDownSaid : Prop := treeDownRow.holds Tryz.pinned (OpenSpec.ofChange treeDownSpec)

/-- ITS FALSE NEIGHBOUR: 'it returns false'. Refute it at one input. -/
def treeDownWrong : ChangeSpec := { name := "treeDown", fn := fun _ => fun
  | [d1, d2, d3] => { results := [.lit (.bool false)], args := [d1, d2, d3] }
  | _ => none }
def TreeDownWrongFalsely : Prop := treeDownRow.holds Tryz.pinned (OpenSpec.ofChange treeDownWrong)

/-- 'eyotlaw18.TreeLeaves': WHATEVER THE INPUT: true; the input reads as it did. -/
def treeLeavesSpec : ChangeSpec := { name := "treeLeaves", fn := fun _ => fun
  | [d1, d2] => { results := [.lit (.bool true)], args := [d1, d2] }
  | _ => none }
def treeLeavesRow : OpenClaim := { program := "ytmfccopfmddllaagreat", sum := "48d30c691f01a784047ce826542b46b873da7ad142ab2148e86ef7c16c050076", func := "eyot/eyotlaw18.TreeLeaves", spec := "treeLeaves", inPlace := ["math.Float64frombits", "math.Float64bits"], recurses := true, apart := false }
def TreeLeavesSaid : Prop := treeLeavesRow.holds Tryz.pinned (OpenSpec.ofChange treeLeavesSpec)

/-- ITS FALSE NEIGHBOUR: 'it returns false'. Refute it at one input. -/
def treeLeavesWrong : ChangeSpec := { name := "treeLeaves", fn := fun _ => fun
  | [d1, d2] => { results := [.lit (.bool false)], args := [d1, d2] }
  | _ => none }
def TreeLeavesWrongFalsely : Prop := treeLeavesRow.holds Tryz.pinned (OpenSpec.ofChange treeLeavesWrong)

/-- 'eyotlaw18.TreeMoves': WHATEVER THE INPUT: true; the input reads as it did. -/
def treeMovesSpec : ChangeSpec := { name := "treeMoves", fn := fun _ => fun
  | [d1, d2, d3, d4] => { results := [.lit (.bool true)], args := [d1, d2, d3, d4] }
  | _ => none }
def treeMovesRow : OpenClaim := { program := "ytmfccopfmddllaagreat", sum := "48d30c691f01a784047ce826542b46b873da7ad142ab2148e86ef7c16c050076", func := "eyot/eyotlaw18.TreeMoves", spec := "treeMoves", inPlace := ["math.Float64frombits", "math.Float64bits"], recurses := true, apart := false }
def TreeMovesSaid : Prop := treeMovesRow.holds Tryz.pinned (OpenSpec.ofChange treeMovesSpec)

/-- ITS FALSE NEIGHBOUR: 'it returns false'. Refute it at one input. -/
def treeMovesWrong : ChangeSpec := { name := "treeMoves", fn := fun _ => fun
  | [d1, d2, d3, d4] => { results := [.lit (.bool false)], args := [d1, d2, d3, d4] }
  | _ => none }
def TreeMovesWrongFalsely : Prop := treeMovesRow.holds Tryz.pinned (OpenSpec.ofChange treeMovesWrong)

/-- 'eyotlaw25.LightSides': WHATEVER THE INPUT: true; the input reads as it did. -/
def lightSidesSpec : ChangeSpec := { name := "lightSides", fn := fun _ => fun
  | [d1, d2, d3, d4] => { results := [.lit (.bool true)], args := [d1, d2, d3, d4] }
  | _ => none }
def lightSidesRow : OpenClaim := { program := "ytmfccopfmddllaagreat", sum := "48d30c691f01a784047ce826542b46b873da7ad142ab2148e86ef7c16c050076", func := "eyot/eyotlaw25.LightSides", spec := "lightSides", inPlace := ["math.Float64frombits", "math.Float64bits"], unfollowed := true, recurses := true, apart := false }
def LightSidesSaid : Prop := lightSidesRow.holds Tryz.pinned (OpenSpec.ofChange lightSidesSpec)

/-- ITS FALSE NEIGHBOUR: 'it returns false'. Refute it at one input. -/
def lightSidesWrong : ChangeSpec := { name := "lightSides", fn := fun _ => fun
  | [d1, d2, d3, d4] => { results := [.lit (.bool false)], args := [d1, d2, d3, d4] }
  | _ => none }
def LightSidesWrongFalsely : Prop := lightSidesRow.holds Tryz.pinned (OpenSpec.ofChange lightSidesWrong)

/-- 'eyotlaw25.LightParts': WHATEVER THE INPUT: true; the input reads as it did. -/
def lightPartsSpec : ChangeSpec := { name := "lightParts", fn := fun _ => fun
  | [d1, d2, d3, d4, d5] => { results := [.lit (.bool true)], args := [d1, d2, d3, d4, d5] }
  | _ => none }
def lightPartsRow : OpenClaim := { program := "ytmfccopfmddllaagreat", sum := "48d30c691f01a784047ce826542b46b873da7ad142ab2148e86ef7c16c050076", func := "eyot/eyotlaw25.LightParts", spec := "lightParts", inPlace := ["math.Float64frombits", "math.Float64bits"], unfollowed := true, recurses := true, apart := false }
def LightPartsSaid : Prop := lightPartsRow.holds Tryz.pinned (OpenSpec.ofChange lightPartsSpec)

/-- ITS FALSE NEIGHBOUR: 'it returns false'. Refute it at one input. -/
def lightPartsWrong : ChangeSpec := { name := "lightParts", fn := fun _ => fun
  | [d1, d2, d3, d4, d5] => { results := [.lit (.bool false)], args := [d1, d2, d3, d4, d5] }
  | _ => none }
def LightPartsWrongFalsely : Prop := lightPartsRow.holds Tryz.pinned (OpenSpec.ofChange lightPartsWrong)

/-- 'eyotlaw25.LightBytes': WHATEVER THE INPUT: true; the input reads as it did. -/
def lightBytesSpec : ChangeSpec := { name := "lightBytes", fn := fun _ => fun
  | [d1, d2] => { results := [.lit (.bool true)], args := [d1, d2] }
  | _ => none }
def lightBytesRow : OpenClaim := { program := "ytmfccopfmddllaagreat", sum := "48d30c691f01a784047ce826542b46b873da7ad142ab2148e86ef7c16c050076", func := "eyot/eyotlaw25.LightBytes", spec := "lightBytes", inPlace := ["math.Float64frombits", "math.Float64bits"], unfollowed := true, recurses := true, apart := false }
def LightBytesSaid : Prop := lightBytesRow.holds Tryz.pinned (OpenSpec.ofChange lightBytesSpec)

/-- ITS FALSE NEIGHBOUR: 'it returns false'. Refute it at one input. -/
def lightBytesWrong : ChangeSpec := { name := "lightBytes", fn := fun _ => fun
  | [d1, d2] => { results := [.lit (.bool false)], args := [d1, d2] }
  | _ => none }
def LightBytesWrongFalsely : Prop := lightBytesRow.holds Tryz.pinned (OpenSpec.ofChange lightBytesWrong)

/-- 'eyotlaw25.LightAll': WHATEVER THE INPUT: true; the input reads as it did. -/
def lightAllSpec : ChangeSpec := { name := "lightAll", fn := fun _ => fun
  | [d1, d2, d3, d4] => { results := [.lit (.bool true)], args := [d1, d2, d3, d4] }
  | _ => none }
def lightAllRow : OpenClaim := { program := "ytmfccopfmddllaagreat", sum := "48d30c691f01a784047ce826542b46b873da7ad142ab2148e86ef7c16c050076", func := "eyot/eyotlaw25.LightAll", spec := "lightAll", inPlace := ["math.Float64frombits", "math.Float64bits"], unfollowed := true, recurses := true, apart := false }
def LightAllSaid : Prop := lightAllRow.holds Tryz.pinned (OpenSpec.ofChange lightAllSpec)

/-- ITS FALSE NEIGHBOUR: 'it returns false'. Refute it at one input. -/
def lightAllWrong : ChangeSpec := { name := "lightAll", fn := fun _ => fun
  | [d1, d2, d3, d4] => { results := [.lit (.bool false)], args := [d1, d2, d3, d4] }
  | _ => none }
def LightAllWrongFalsely : Prop := lightAllRow.holds Tryz.pinned (OpenSpec.ofChange lightAllWrong)

/-- 'eyotlaw25.LightHeats': WHATEVER THE INPUT: true; the input reads as it did. -/
def lightHeatsSpec : ChangeSpec := { name := "lightHeats", fn := fun _ => fun
  | [d1, d2, d3] => { results := [.lit (.bool true)], args := [d1, d2, d3] }
  | _ => none }
def lightHeatsRow : OpenClaim := { program := "ytmfccopfmddllaagreat", sum := "48d30c691f01a784047ce826542b46b873da7ad142ab2148e86ef7c16c050076", func := "eyot/eyotlaw25.LightHeats", spec := "lightHeats", inPlace := ["math.Float64frombits", "math.Float64bits"], unfollowed := true, recurses := true, apart := false }
def LightHeatsSaid : Prop := lightHeatsRow.holds Tryz.pinned (OpenSpec.ofChange lightHeatsSpec)

/-- ITS FALSE NEIGHBOUR: 'it returns false'. Refute it at one input. -/
def lightHeatsWrong : ChangeSpec := { name := "lightHeats", fn := fun _ => fun
  | [d1, d2, d3] => { results := [.lit (.bool false)], args := [d1, d2, d3] }
  | _ => none }
def LightHeatsWrongFalsely : Prop := lightHeatsRow.holds Tryz.pinned (OpenSpec.ofChange lightHeatsWrong)

/-- 'eyotlaw25.LightEdges': WHATEVER THE INPUT: true; the input reads as it did. -/
def lightEdgesSpec : ChangeSpec := { name := "lightEdges", fn := fun _ => fun
  | [] => { results := [.lit (.bool true)], args := [] }
  | _ => none }
def lightEdgesRow : OpenClaim := { program := "ytmfccopfmddllaagreat", sum := "48d30c691f01a784047ce826542b46b873da7ad142ab2148e86ef7c16c050076", func := "eyot/eyotlaw25.LightEdges", spec := "lightEdges", inPlace := ["math.Float64frombits", "math.Float64bits"], unfollowed := true, recurses := true, apart := false }
def LightEdgesSaid : Prop := lightEdgesRow.holds Tryz.pinned (OpenSpec.ofChange lightEdgesSpec)

/-- ITS FALSE NEIGHBOUR: 'it returns false'. Refute it at one input. -/
def lightEdgesWrong : ChangeSpec := { name := "lightEdges", fn := fun _ => fun
  | [] => { results := [.lit (.bool false)], args := [] }
  | _ => none }
def LightEdgesWrongFalsely : Prop := lightEdgesRow.holds Tryz.pinned (OpenSpec.ofChange lightEdgesWrong)

/- THE SECOND FORM. 'bulk': how many values and letters a reading holds, each counted each time it is reached (what is shared counts as often as it is met; a slice's spare places count too). A statement '..UptoSaid' is the law's where the arguments, and the package variables that the reading takes, are together of bulk at most 1048576: NARROWER than '..Said'. Prove '..Said' where nothing that the law and all that it calls make is longer than what came in: it says more and counts as full. Else prove '..UptoSaid'. A law counts once. -/
mutual
def uptoBulk {H : Type} : DataW H → Nat
  | .lit (.string bytes) => bytes.length + 1
  | .lit _ => 1
  | .nil => 1
  | .ptr d => uptoBulk d + 1
  | .slice elems spare => uptoBulkAll elems + uptoBulkAll spare + 1
  | .agg parts => uptoBulkAll parts + 1
  | .iface _ d => uptoBulk d + 1
  | .map entries => uptoBulkEntries entries + 1
  | .held _ => 1
def uptoBulkAll {H : Type} : List (DataW H) → Nat
  | [] => 0
  | d :: r => uptoBulk d + uptoBulkAll r
def uptoBulkEntries {H : Type} : List (Lit × DataW H) → Nat
  | [] => 0
  | x :: r => uptoBulkEntry x + uptoBulkEntries r
def uptoBulkEntry {H : Type} : Lit × DataW H → Nat
  | (.string bytes, d) => bytes.length + uptoBulk d + 1
  | (_, d) => uptoBulk d + 1
 end
def uptoSmall : (H : Type) → List (DataW H) → Bool := fun _ ds => decide (uptoBulkAll ds ≤ 1048576)
def OpenSpec.upto (s : _root_.Go.ChangeSpec) : _root_.Go.OpenSpec := { _root_.Go.OpenSpec.ofChange s with cond := some uptoSmall }

/-- 'eyotlaw18.TreeGiven', WHERE WHAT IT READS IS OF BULK AT MOST 1048576: true; the input reads as it did. -/
def treeGivenUptoRow : OpenClaim := { program := "ytmfccopfmddllaagreat", sum := "48d30c691f01a784047ce826542b46b873da7ad142ab2148e86ef7c16c050076", func := "eyot/eyotlaw18.TreeGiven", spec := "treeGiven", inPlace := ["math.Float64frombits", "math.Float64bits"], recurses := true, apart := false, narrowed := true }
def TreeGivenUptoSaid : Prop := treeGivenUptoRow.holds Tryz.pinned (OpenSpec.upto treeGivenSpec)

/-- 'eyotlaw18.TreeDown', WHERE WHAT IT READS IS OF BULK AT MOST 1048576: true; the input reads as it did. -/
def treeDownUptoRow : OpenClaim := { program := "ytmfccopfmddllaagreat", sum := "48d30c691f01a784047ce826542b46b873da7ad142ab2148e86ef7c16c050076", func := "eyot/eyotlaw18.TreeDown", spec := "treeDown", inPlace := ["math.Float64frombits", "math.Float64bits"], recurses := true, apart := false, narrowed := true }
def TreeDownUptoSaid : Prop := treeDownUptoRow.holds Tryz.pinned (OpenSpec.upto treeDownSpec)

/-- 'eyotlaw18.TreeLeaves', WHERE WHAT IT READS IS OF BULK AT MOST 1048576: true; the input reads as it did. -/
def treeLeavesUptoRow : OpenClaim := { program := "ytmfccopfmddllaagreat", sum := "48d30c691f01a784047ce826542b46b873da7ad142ab2148e86ef7c16c050076", func := "eyot/eyotlaw18.TreeLeaves", spec := "treeLeaves", inPlace := ["math.Float64frombits", "math.Float64bits"], recurses := true, apart := false, narrowed := true }
def TreeLeavesUptoSaid : Prop := treeLeavesUptoRow.holds Tryz.pinned (OpenSpec.upto treeLeavesSpec)

/-- 'eyotlaw18.TreeMoves', WHERE WHAT IT READS IS OF BULK AT MOST 1048576: true; the input reads as it did. -/
def treeMovesUptoRow : OpenClaim := { program := "ytmfccopfmddllaagreat", sum := "48d30c691f01a784047ce826542b46b873da7ad142ab2148e86ef7c16c050076", func := "eyot/eyotlaw18.TreeMoves", spec := "treeMoves", inPlace := ["math.Float64frombits", "math.Float64bits"], recurses := true, apart := false, narrowed := true }
def TreeMovesUptoSaid : Prop := treeMovesUptoRow.holds Tryz.pinned (OpenSpec.upto treeMovesSpec)

/-- 'eyotlaw25.LightSides', WHERE WHAT IT READS IS OF BULK AT MOST 1048576: true; the input reads as it did. -/
def lightSidesUptoRow : OpenClaim := { program := "ytmfccopfmddllaagreat", sum := "48d30c691f01a784047ce826542b46b873da7ad142ab2148e86ef7c16c050076", func := "eyot/eyotlaw25.LightSides", spec := "lightSides", inPlace := ["math.Float64frombits", "math.Float64bits"], unfollowed := true, recurses := true, apart := false, narrowed := true }
def LightSidesUptoSaid : Prop := lightSidesUptoRow.holds Tryz.pinned (OpenSpec.upto lightSidesSpec)

/-- 'eyotlaw25.LightParts', WHERE WHAT IT READS IS OF BULK AT MOST 1048576: true; the input reads as it did. -/
def lightPartsUptoRow : OpenClaim := { program := "ytmfccopfmddllaagreat", sum := "48d30c691f01a784047ce826542b46b873da7ad142ab2148e86ef7c16c050076", func := "eyot/eyotlaw25.LightParts", spec := "lightParts", inPlace := ["math.Float64frombits", "math.Float64bits"], unfollowed := true, recurses := true, apart := false, narrowed := true }
def LightPartsUptoSaid : Prop := lightPartsUptoRow.holds Tryz.pinned (OpenSpec.upto lightPartsSpec)

/-- 'eyotlaw25.LightBytes', WHERE WHAT IT READS IS OF BULK AT MOST 1048576: true; the input reads as it did. -/
def lightBytesUptoRow : OpenClaim := { program := "ytmfccopfmddllaagreat", sum := "48d30c691f01a784047ce826542b46b873da7ad142ab2148e86ef7c16c050076", func := "eyot/eyotlaw25.LightBytes", spec := "lightBytes", inPlace := ["math.Float64frombits", "math.Float64bits"], unfollowed := true, recurses := true, apart := false, narrowed := true }
def LightBytesUptoSaid : Prop := lightBytesUptoRow.holds Tryz.pinned (OpenSpec.upto lightBytesSpec)

/-- 'eyotlaw25.LightAll', WHERE WHAT IT READS IS OF BULK AT MOST 1048576: true; the input reads as it did. -/
def lightAllUptoRow : OpenClaim := { program := "ytmfccopfmddllaagreat", sum := "48d30c691f01a784047ce826542b46b873da7ad142ab2148e86ef7c16c050076", func := "eyot/eyotlaw25.LightAll", spec := "lightAll", inPlace := ["math.Float64frombits", "math.Float64bits"], unfollowed := true, recurses := true, apart := false, narrowed := true }
def LightAllUptoSaid : Prop := lightAllUptoRow.holds Tryz.pinned (OpenSpec.upto lightAllSpec)

/-- 'eyotlaw25.LightHeats', WHERE WHAT IT READS IS OF BULK AT MOST 1048576: true; the input reads as it did. -/
def lightHeatsUptoRow : OpenClaim := { program := "ytmfccopfmddllaagreat", sum := "48d30c691f01a784047ce826542b46b873da7ad142ab2148e86ef7c16c050076", func := "eyot/eyotlaw25.LightHeats", spec := "lightHeats", inPlace := ["math.Float64frombits", "math.Float64bits"], unfollowed := true, recurses := true, apart := false, narrowed := true }
def LightHeatsUptoSaid : Prop := lightHeatsUptoRow.holds Tryz.pinned (OpenSpec.upto lightHeatsSpec)

/-- 'eyotlaw25.LightEdges', WHERE WHAT IT READS IS OF BULK AT MOST 1048576: true; the input reads as it did. -/
def lightEdgesUptoRow : OpenClaim := { program := "ytmfccopfmddllaagreat", sum := "48d30c691f01a784047ce826542b46b873da7ad142ab2148e86ef7c16c050076", func := "eyot/eyotlaw25.LightEdges", spec := "lightEdges", inPlace := ["math.Float64frombits", "math.Float64bits"], unfollowed := true, recurses := true, apart := false, narrowed := true }
def LightEdgesUptoSaid : Prop := lightEdgesUptoRow.holds Tryz.pinned (OpenSpec.upto lightEdgesSpec)

end Rows
end Go.Proofs.YtmfccopfmddllaaGreat
