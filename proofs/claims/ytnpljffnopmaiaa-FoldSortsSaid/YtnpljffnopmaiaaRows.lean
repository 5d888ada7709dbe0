/-
  No cell of these rows narrows 'for every input' (looked for: loops, veiled, ifaces, maps, wideKeys, modest, calm, conditions, laid).
  DERIVED. THE GIVEN ROWS OF THIS SEAT. 6 by the template 'for every input the law returns true; each argument reads behind the call as it read before'; 0 by the template 'total and deterministic' (their statements: YtnpljffnopmaiaaTotals.lean).
  GIVEN WITH THE SEED: the statements are not yours to turn. If you find one false, say at which input.
  Laid BY PROGRAM, IN A SANDBOX (cutbox-rows.mjs): the forced cells as the released guide's own fill.sh prints them over the translation 2bfb315080bc3c98… (all of the seat's roots in one cut). By AI agents, Wed Nov 11 2026. No macro, syntax, notation, axiom, sorry.
-/
import Derived.Test.YtnpljffnopmaiaaChecked
import GoSem.Claim
import GoSem.ClaimJoined
import GoSem.ClaimMapViews
import Derived.JoinedTies
import Derived.KernelRfl
namespace Go.Proofs.Ytnpljffnopmaiaa
/- THE CELL 'sum', in the pinned program and in every row, IS THE sha256 OF THE DUMP (.gsa) THAT YtnpljffnopmaiaaProg.lean LOADS. Nothing in Lean hashes anything: it is a label: what it is worth is what the hold of that sum in a sandbox is worth. -/
noncomputable def Try.pinned : Pinned := { name := "ytnpljffnopmaiaa", sum := "2bfb315080bc3c985abe7772886a4e78a0ab43885c7b6900a6441254cf563d99", checked := Try.checked }
namespace Rows
def none {H : Type} : Left H := { results := [], args := [] }

/-- 'eyotlaw2.FoldAll': WHATEVER THE INPUT: true; the input reads as it did. -/
def foldAllSpec : ChangeSpec := { name := "foldAll", fn := fun _ => fun
  | [d1, d2, d3] => { results := [.lit (.bool true)], args := [d1, d2, d3] }
  | _ => none }
def foldAllRow : OpenClaim := { program := "ytnpljffnopmaiaa", sum := "2bfb315080bc3c985abe7772886a4e78a0ab43885c7b6900a6441254cf563d99", func := "eyot/eyotlaw2.FoldAll", spec := "foldAll", inPlace := ["math.Float64bits"], unfollowed := true, recurses := true, apart := false }
def FoldAllSaid : Prop := foldAllRow.holds Try.pinned (OpenSpec.ofChange foldAllSpec)

/-- ITS FALSE NEIGHBOUR: 'it returns false'. Refute it at one input. -/
def foldAllWrong : ChangeSpec := { name := "foldAll", fn := fun _ => fun
  | [d1, d2, d3] => { results := [.lit (.bool false)], args := [d1, d2, d3] }
  | _ => none }
def FoldAllWrongFalsely : Prop := foldAllRow.holds Try.pinned (OpenSpec.ofChange foldAllWrong)

/-- 'eyotlaw2.FoldSorts': WHATEVER THE INPUT: true; the input reads as it did. -/
def foldSortsSpec : ChangeSpec := { name := "foldSorts", fn := fun _ => fun
  | [d1, d2] => { results := [.lit (.bool true)], args := [d1, d2] }
  | _ => none }
def foldSortsRow : OpenClaim := { program := "ytnpljffnopmaiaa", sum := "2bfb315080bc3c985abe7772886a4e78a0ab43885c7b6900a6441254cf563d99", func := "eyot/eyotlaw2.FoldSorts", spec := "foldSorts", inPlace := ["math.Float64bits"], unfollowed := true, recurses := true, apart := false }
def FoldSortsSaid : Prop := foldSortsRow.holds Try.pinned (OpenSpec.ofChange foldSortsSpec)

/-- ITS FALSE NEIGHBOUR: 'it returns false'. Refute it at one input. -/
def foldSortsWrong : ChangeSpec := { name := "foldSorts", fn := fun _ => fun
  | [d1, d2] => { results := [.lit (.bool false)], args := [d1, d2] }
  | _ => none }
def FoldSortsWrongFalsely : Prop := foldSortsRow.holds Try.pinned (OpenSpec.ofChange foldSortsWrong)

/-- 'eyotlaw2.FoldMerges': WHATEVER THE INPUT: true; the input reads as it did. -/
def foldMergesSpec : ChangeSpec := { name := "foldMerges", fn := fun _ => fun
  | [d1, d2] => { results := [.lit (.bool true)], args := [d1, d2] }
  | _ => none }
def foldMergesRow : OpenClaim := { program := "ytnpljffnopmaiaa", sum := "2bfb315080bc3c985abe7772886a4e78a0ab43885c7b6900a6441254cf563d99", func := "eyot/eyotlaw2.FoldMerges", spec := "foldMerges", inPlace := ["math.Float64bits"], unfollowed := true, recurses := true, apart := false }
def FoldMergesSaid : Prop := foldMergesRow.holds Try.pinned (OpenSpec.ofChange foldMergesSpec)

/-- ITS FALSE NEIGHBOUR: 'it returns false'. Refute it at one input. -/
def foldMergesWrong : ChangeSpec := { name := "foldMerges", fn := fun _ => fun
  | [d1, d2] => { results := [.lit (.bool false)], args := [d1, d2] }
  | _ => none }
def FoldMergesWrongFalsely : Prop := foldMergesRow.holds Try.pinned (OpenSpec.ofChange foldMergesWrong)

/-- 'eyotlaw2.FoldSides': WHATEVER THE INPUT: true; the input reads as it did. -/
def foldSidesSpec : ChangeSpec := { name := "foldSides", fn := fun _ => fun
  | [d1, d2] => { results := [.lit (.bool true)], args := [d1, d2] }
  | _ => none }
def foldSidesRow : OpenClaim := { program := "ytnpljffnopmaiaa", sum := "2bfb315080bc3c985abe7772886a4e78a0ab43885c7b6900a6441254cf563d99", func := "eyot/eyotlaw2.FoldSides", spec := "foldSides", inPlace := ["math.Float64bits"], unfollowed := true, recurses := true, apart := false }
def FoldSidesSaid : Prop := foldSidesRow.holds Try.pinned (OpenSpec.ofChange foldSidesSpec)

/-- ITS FALSE NEIGHBOUR: 'it returns false'. Refute it at one input. -/
def foldSidesWrong : ChangeSpec := { name := "foldSides", fn := fun _ => fun
  | [d1, d2] => { results := [.lit (.bool false)], args := [d1, d2] }
  | _ => none }
def FoldSidesWrongFalsely : Prop := foldSidesRow.holds Try.pinned (OpenSpec.ofChange foldSidesWrong)

/-- 'eyotlaw2.FoldParts': WHATEVER THE INPUT: true; the input reads as it did. -/
def foldPartsSpec : ChangeSpec := { name := "foldParts", fn := fun _ => fun
  | [d1, d2] => { results := [.lit (.bool true)], args := [d1, d2] }
  | _ => none }
def foldPartsRow : OpenClaim := { program := "ytnpljffnopmaiaa", sum := "2bfb315080bc3c985abe7772886a4e78a0ab43885c7b6900a6441254cf563d99", func := "eyot/eyotlaw2.FoldParts", spec := "foldParts", inPlace := ["math.Float64bits"], unfollowed := true, recurses := true, apart := false }
def FoldPartsSaid : Prop := foldPartsRow.holds Try.pinned (OpenSpec.ofChange foldPartsSpec)

/-- ITS FALSE NEIGHBOUR: 'it returns false'. Refute it at one input. -/
def foldPartsWrong : ChangeSpec := { name := "foldParts", fn := fun _ => fun
  | [d1, d2] => { results := [.lit (.bool false)], args := [d1, d2] }
  | _ => none }
def FoldPartsWrongFalsely : Prop := foldPartsRow.holds Try.pinned (OpenSpec.ofChange foldPartsWrong)

/-- 'eyotlaw2.FoldEdges': WHATEVER THE INPUT: true; the input reads as it did. -/
def foldEdgesSpec : ChangeSpec := { name := "foldEdges", fn := fun _ => fun
  | [] => { results := [.lit (.bool true)], args := [] }
  | _ => none }
def foldEdgesRow : OpenClaim := { program := "ytnpljffnopmaiaa", sum := "2bfb315080bc3c985abe7772886a4e78a0ab43885c7b6900a6441254cf563d99", func := "eyot/eyotlaw2.FoldEdges", spec := "foldEdges", inPlace := ["math.Float64frombits", "math.Float64bits"], unfollowed := true, recurses := true, apart := false }
def FoldEdgesSaid : Prop := foldEdgesRow.holds Try.pinned (OpenSpec.ofChange foldEdgesSpec)

/-- ITS FALSE NEIGHBOUR: 'it returns false'. Refute it at one input. -/
def foldEdgesWrong : ChangeSpec := { name := "foldEdges", fn := fun _ => fun
  | [] => { results := [.lit (.bool false)], args := [] }
  | _ => none }
def FoldEdgesWrongFalsely : Prop := foldEdgesRow.holds Try.pinned (OpenSpec.ofChange foldEdgesWrong)

/- THE SECOND FORM. 'bulk': how many values and letters a reading holds, each counted each time it is reached (what is shared counts as often as it is met; a slice's spare places count too). A statement '..UptoSaid' is the law's where the arguments, and the package variables that the reading takes, are together of bulk at most 1048576: NARROWER than '..Said'. Prove '..Said' where nothing that the law and all that it calls make is longer than what came in: it says more and counts as full. Else prove '..UptoSaid'. A law counts once. -/
mutual
def uptoBulk {H : Type} : DataW H → Nat
  | .lit (.string bytes) => bytes.length + 1
  | .lit _ => 1
  | .nil => 1
  | .ptr d => uptoBulk d + 1
  | .slice elems spare => uptoBulkAll elems + uptoBulkAll spare + 1
  | .agg parts => uptoBulkAll parts + 1
  | .iface _ d => uptoBulk d + 1
  | .map entries => uptoBulkEntries entries + 1
  | .held _ => 1
def uptoBulkAll {H : Type} : List (DataW H) → Nat
  | [] => 0
  | d :: r => uptoBulk d + uptoBulkAll r
def uptoBulkEntries {H : Type} : List (Lit × DataW H) → Nat
  | [] => 0
  | x :: r => uptoBulkEntry x + uptoBulkEntries r
def uptoBulkEntry {H : Type} : Lit × DataW H → Nat
  | (.string bytes, d) => bytes.length + uptoBulk d + 1
  | (_, d) => uptoBulk d + 1
 end
def uptoSmall : (H : Type) → List (DataW H) → Bool := fun _ ds => decide (uptoBulkAll ds ≤ 1048576)
def OpenSpec.upto (s : _root_.Go.ChangeSpec) : _root_.Go.OpenSpec := { _root_.Go.OpenSpec.ofChange s with cond := some uptoSmall }

/-- 'eyotlaw2.FoldAll', WHERE WHAT IT READS IS OF BULK AT MOST 1048576: true; the input reads as it did. -/
def foldAllUptoRow : OpenClaim := { program := "ytnpljffnopmaiaa", sum := "2bfb315080bc3c985abe7772886a4e78a0ab43885c7b6900a6441254cf563d99", func := "eyot/eyotlaw2.FoldAll", spec := "foldAll", inPlace := ["math.Float64bits"], unfollowed := true, recurses := true, apart := false, narrowed := true }
def FoldAllUptoSaid : Prop := foldAllUptoRow.holds Try.pinned (OpenSpec.upto foldAllSpec)

/-- 'eyotlaw2.FoldSorts', WHERE WHAT IT READS IS OF BULK AT MOST 1048576: true; the input reads as it did. -/
def foldSortsUptoRow : OpenClaim := { program := "ytnpljffnopmaiaa", sum := "2bfb315080bc3c985abe7772886a4e78a0ab43885c7b6900a6441254cf563d99", func := "eyot/eyotlaw2.FoldSorts", spec := "foldSorts", inPlace := ["math.Float64bits"], unfollowed := true, recurses := true, apart := false, narrowed := true }
def FoldSortsUptoSaid : Prop := foldSortsUptoRow.holds Try.pinned (OpenSpec.upto foldSortsSpec)

/-- 'eyotlaw2.FoldMerges', WHERE WHAT IT READS IS OF BULK AT MOST 1048576: true; the input reads as it did. -/
def foldMergesUptoRow : OpenClaim := { program := "ytnpljffnopmaiaa", sum := "2bfb315080bc3c985abe7772886a4e78a0ab43885c7b6900a6441254cf563d99", func := "eyot/eyotlaw2.FoldMerges", spec := "foldMerges", inPlace := ["math.Float64bits"], unfollowed := true, recurses := true, apart := false, narrowed := true }
def FoldMergesUptoSaid : Prop := foldMergesUptoRow.holds Try.pinned (OpenSpec.upto foldMergesSpec)

/-- 'eyotlaw2.FoldSides', WHERE WHAT IT READS IS OF BULK AT MOST 1048576: true; the input reads as it did. -/
def foldSidesUptoRow : OpenClaim := { program := "ytnpljffnopmaiaa", sum := "2bfb315080bc3c985abe7772886a4e78a0ab43885c7b6900a6441254cf563d99", func := "eyot/eyotlaw2.FoldSides", spec := "foldSides", inPlace := ["math.Float64bits"], unfollowed := true, recurses := true, apart := false, narrowed := true }
def FoldSidesUptoSaid : Prop := foldSidesUptoRow.holds Try.pinned (OpenSpec.upto foldSidesSpec)

/-- 'eyotlaw2.FoldParts', WHERE WHAT IT READS IS OF BULK AT MOST 1048576: true; the input reads as it did. -/
def foldPartsUptoRow : OpenClaim := { program := "ytnpljffnopmaiaa", sum := "2bfb315080bc3c985abe7772886a4e78a0ab43885c7b6900a6441254cf563d99", func := "eyot/eyotlaw2.FoldParts", spec := "foldParts", inPlace := ["math.Float64bits"], unfollowed := true, recurses := true, apart := false, narrowed := true }
def FoldPartsUptoSaid : Prop := foldPartsUptoRow.holds Try.pinned (OpenSpec.upto foldPartsSpec)

/-- 'eyotlaw2.FoldEdges', WHERE WHAT IT READS IS OF BULK AT MOST 1048576: true; the input reads as it did. -/
def foldEdgesUptoRow : OpenClaim := { program := "ytnpljffnopmaiaa", sum := "2bfb315080bc3c985abe7772886a4e78a0ab43885c7b6900a6441254cf563d99", func := "eyot/eyotlaw2.FoldEdges", spec := "foldEdges", inPlace := ["math.Float64frombits", "math.Float64bits"], unfollowed := true, recurses := true, apart := false, narrowed := true }
def FoldEdgesUptoSaid : Prop := foldEdgesUptoRow.holds Try.pinned (OpenSpec.upto foldEdgesSpec)

end Rows
end Go.Proofs.Ytnpljffnopmaiaa
