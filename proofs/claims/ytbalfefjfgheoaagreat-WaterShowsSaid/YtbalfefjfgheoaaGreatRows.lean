/-
  No cell of these rows narrows 'for every input' (looked for: loops, veiled, ifaces, maps, wideKeys, modest, calm, conditions, laid).
  DERIVED. THE GIVEN ROWS OF THIS SEAT. 5 by the template 'for every input the law returns true; each argument reads behind the call as it read before'; 0 by the template 'total and deterministic' (their statements: YtbalfefjfgheoaaGreatTotals.lean).
  GIVEN WITH THE SEED: the statements are not yours to turn. If you find one false, say at which input.
  Laid BY PROGRAM, IN A SANDBOX (cutbox-rows.mjs): the forced cells as the released guide's own fill.sh prints them over the translation e0ef4b0ad527137d… (all of the seat's roots in one cut). By AI agents, Wed Nov 11 2026. No macro, syntax, notation, axiom, sorry.
-/
import Derived.Test.YtbalfefjfgheoaaGreatChecked
import GoSem.Claim
import GoSem.ClaimJoined
import GoSem.ClaimMapViews
import Derived.JoinedTies
import Derived.KernelRfl
namespace Go.Proofs.YtbalfefjfgheoaaGreat
/- THE CELL 'sum', in the pinned program and in every row, IS THE sha256 OF THE DUMP (.gsa) THAT YtbalfefjfgheoaaGreatProg.lean LOADS. Nothing in Lean hashes anything: it is a label: what it is worth is what the hold of that sum in a sandbox is worth. -/
noncomputable def Tryz.pinned : Pinned := { name := "ytbalfefjfgheoaagreat", sum := "e0ef4b0ad527137d58165adfdccfd5e7c29323a785a93548cf197bd3a0112f3a", checked := Tryz.checked }
namespace Rows
def none {H : Type} : Left H := { results := [], args := [] }

/-- 'eyotlaw24.WaterParts': WHATEVER THE INPUT: true; the input reads as it did. -/
def waterPartsSpec : ChangeSpec := { name := "waterParts", fn := fun _ => fun
  | [d1, d2, d3] => { results := [.lit (.bool true)], args := [d1, d2, d3] }
  | _ => none }
def waterPartsRow : OpenClaim := { program := "ytbalfefjfgheoaagreat", sum := "e0ef4b0ad527137d58165adfdccfd5e7c29323a785a93548cf197bd3a0112f3a", func := "eyot/eyotlaw24.WaterParts", spec := "waterParts", inPlace := ["math.Float64frombits", "math.Float64bits"], recurses := true, apart := false }
def WaterPartsSaid : Prop := waterPartsRow.holds Tryz.pinned (OpenSpec.ofChange waterPartsSpec)

/-- ITS FALSE NEIGHBOUR: 'it returns false'. Refute it at one input. -/
def waterPartsWrong : ChangeSpec := { name := "waterParts", fn := fun _ => fun
  | [d1, d2, d3] => { results := [.lit (.bool false)], args := [d1, d2, d3] }
  | _ => none }
def WaterPartsWrongFalsely : Prop := waterPartsRow.holds Tryz.pinned (OpenSpec.ofChange waterPartsWrong)

/-- 'eyotlaw24.WaterShows': WHATEVER THE INPUT: true; the input reads as it did. -/
def waterShowsSpec : ChangeSpec := { name := "waterShows", fn := fun _ => fun
  | [d1, d2, d3, d4] => { results := [.lit (.bool true)], args := [d1, d2, d3, d4] }
  | _ => none }
def waterShowsRow : OpenClaim := { program := "ytbalfefjfgheoaagreat", sum := "e0ef4b0ad527137d58165adfdccfd5e7c29323a785a93548cf197bd3a0112f3a", func := "eyot/eyotlaw24.WaterShows", spec := "waterShows", inPlace := ["math.Float64frombits", "math.Float64bits"], recurses := true, apart := false }
def WaterShowsSaid : Prop := waterShowsRow.holds Tryz.pinned (OpenSpec.ofChange waterShowsSpec)

/-- ITS FALSE NEIGHBOUR: 'it returns false'. Refute it at one input. -/
def waterShowsWrong : ChangeSpec := { name := "waterShows", fn := fun _ => fun
  | [d1, d2, d3, d4] => { results := [.lit (.bool false)], args := [d1, d2, d3, d4] }
  | _ => none }
def WaterShowsWrongFalsely : Prop := waterShowsRow.holds Tryz.pinned (OpenSpec.ofChange waterShowsWrong)

/-- 'eyotlaw24.WaterAll': WHATEVER THE INPUT: true; the input reads as it did. -/
def waterAllSpec : ChangeSpec := { name := "waterAll", fn := fun _ => fun
  | [d1, d2, d3, d4] => { results := [.lit (.bool true)], args := [d1, d2, d3, d4] }
  | _ => none }
def waterAllRow : OpenClaim := { program := "ytbalfefjfgheoaagreat", sum := "e0ef4b0ad527137d58165adfdccfd5e7c29323a785a93548cf197bd3a0112f3a", func := "eyot/eyotlaw24.WaterAll", spec := "waterAll", inPlace := ["math.Float64frombits", "math.Float64bits"], unfollowed := true, recurses := true, apart := false }
def WaterAllSaid : Prop := waterAllRow.holds Tryz.pinned (OpenSpec.ofChange waterAllSpec)

/-- ITS FALSE NEIGHBOUR: 'it returns false'. Refute it at one input. -/
def waterAllWrong : ChangeSpec := { name := "waterAll", fn := fun _ => fun
  | [d1, d2, d3, d4] => { results := [.lit (.bool false)], args := [d1, d2, d3, d4] }
  | _ => none }
def WaterAllWrongFalsely : Prop := waterAllRow.holds Tryz.pinned (OpenSpec.ofChange waterAllWrong)

/-- 'eyotlaw24.WaterSteps': WHATEVER THE INPUT: true; the input reads as it did. -/
def waterStepsSpec : ChangeSpec := { name := "waterSteps", fn := fun _ => fun
  | [d1, d2] => { results := [.lit (.bool true)], args := [d1, d2] }
  | _ => none }
def waterStepsRow : OpenClaim := { program := "ytbalfefjfgheoaagreat", sum := "e0ef4b0ad527137d58165adfdccfd5e7c29323a785a93548cf197bd3a0112f3a", func := "eyot/eyotlaw24.WaterSteps", spec := "waterSteps", inPlace := ["math.Float64frombits", "math.Float64bits"], recurses := true, apart := false }
def WaterStepsSaid : Prop := waterStepsRow.holds Tryz.pinned (OpenSpec.ofChange waterStepsSpec)

/-- ITS FALSE NEIGHBOUR: 'it returns false'. Refute it at one input. -/
def waterStepsWrong : ChangeSpec := { name := "waterSteps", fn := fun _ => fun
  | [d1, d2] => { results := [.lit (.bool false)], args := [d1, d2] }
  | _ => none }
def WaterStepsWrongFalsely : Prop := waterStepsRow.holds Tryz.pinned (OpenSpec.ofChange waterStepsWrong)

/-- 'eyotlaw24.WaterEdges': WHATEVER THE INPUT: true; the input reads as it did. -/
def waterEdgesSpec : ChangeSpec := { name := "waterEdges", fn := fun _ => fun
  | [d1, d2, d3] => { results := [.lit (.bool true)], args := [d1, d2, d3] }
  | _ => none }
def waterEdgesRow : OpenClaim := { program := "ytbalfefjfgheoaagreat", sum := "e0ef4b0ad527137d58165adfdccfd5e7c29323a785a93548cf197bd3a0112f3a", func := "eyot/eyotlaw24.WaterEdges", spec := "waterEdges", inPlace := ["math.Float64frombits", "math.Float64bits"], recurses := true, apart := false }
def WaterEdgesSaid : Prop := waterEdgesRow.holds Tryz.pinned (OpenSpec.ofChange waterEdgesSpec)

/-- ITS FALSE NEIGHBOUR: 'it returns false'. Refute it at one input. -/
def waterEdgesWrong : ChangeSpec := { name := "waterEdges", fn := fun _ => fun
  | [d1, d2, d3] => { results := [.lit (.bool false)], args := [d1, d2, d3] }
  | _ => none }
def WaterEdgesWrongFalsely : Prop := waterEdgesRow.holds Tryz.pinned (OpenSpec.ofChange waterEdgesWrong)

/- THE SECOND FORM. 'bulk': how many values and letters a reading holds, each counted each time it is reached (what is shared counts as often as it is met; a slice's spare places count too). A statement '..UptoSaid' is the law's where the arguments, and the package variables that the reading takes, are together of bulk at most 1048576: NARROWER than '..Said'. Prove '..Said' where nothing that the law and all that it calls make is longer than what came in: it says more and counts as full. Else prove '..UptoSaid'. A law counts once. -/
mutual
def uptoBulk {H : Type} : DataW H → Nat
  | .lit (.string bytes) => bytes.length + 1
  | .lit _ => 1
  | .nil => 1
  | .ptr d => uptoBulk d + 1
  | .slice elems spare => uptoBulkAll elems + uptoBulkAll spare + 1
  | .agg parts => uptoBulkAll parts + 1
  | .iface _ d => uptoBulk d + 1
  | .map entries => uptoBulkEntries entries + 1
  | .held _ => 1
def uptoBulkAll {H : Type} : List (DataW H) → Nat
  | [] => 0
  | d :: r => uptoBulk d + uptoBulkAll r
def uptoBulkEntries {H : Type} : List (Lit × DataW H) → Nat
  | [] => 0
  | x :: r => uptoBulkEntry x + uptoBulkEntries r
def uptoBulkEntry {H : Type} : Lit × DataW H → Nat
  | (.string bytes, d) => bytes.length + uptoBulk d + 1
  | (_, d) => uptoBulk d + 1
 end
def uptoSmall : (H : Type) → List (DataW H) → Bool := fun _ ds => decide (uptoBulkAll ds ≤ 1048576)
def OpenSpec.upto (s : _root_.Go.ChangeSpec) : _root_.Go.OpenSpec := { _root_.Go.OpenSpec.ofChange s with cond := some uptoSmall }

/-- 'eyotlaw24.WaterParts', WHERE WHAT IT READS IS OF BULK AT MOST 1048576: true; the input reads as it did. -/
def waterPartsUptoRow : OpenClaim := { program := "ytbalfefjfgheoaagreat", sum := "e0ef4b0ad527137d58165adfdccfd5e7c29323a785a93548cf197bd3a0112f3a", func := "eyot/eyotlaw24.WaterParts", spec := "waterParts", inPlace := ["math.Float64frombits", "math.Float64bits"], recurses := true, apart := false, narrowed := true }
def WaterPartsUptoSaid : Prop := waterPartsUptoRow.holds Tryz.pinned (OpenSpec.upto waterPartsSpec)

/-- 'eyotlaw24.WaterShows', WHERE WHAT IT READS IS OF BULK AT MOST 1048576: true; the input reads as it did. -/
def waterShowsUptoRow : OpenClaim := { program := "ytbalfefjfgheoaagreat", sum := "e0ef4b0ad527137d58165adfdccfd5e7c29323a785a93548cf197bd3a0112f3a", func := "eyot/eyotlaw24.WaterShows", spec := "waterShows", inPlace := ["math.Float64frombits", "math.Float64bits"], recurses := true, apart := false, narrowed := true }
def WaterShowsUptoSaid : Prop := waterShowsUptoRow.holds Tryz.pinned (OpenSpec.upto waterShowsSpec)

/-- 'eyotlaw24.WaterAll', WHERE WHAT IT READS IS OF BULK AT MOST 1048576: true; the input reads as it did. -/
def waterAllUptoRow : OpenClaim := { program := "ytbalfefjfgheoaagreat", sum := "e0ef4b0ad527137d58165adfdccfd5e7c29323a785a93548cf197bd3a0112f3a", func := "eyot/eyotlaw24.WaterAll", spec := "waterAll", inPlace := ["math.Float64frombits", "math.Float64bits"], unfollowed := true, recurses := true, apart := false, narrowed := true }
def WaterAllUptoSaid : Prop := waterAllUptoRow.holds Tryz.pinned (OpenSpec.upto waterAllSpec)

/-- 'eyotlaw24.WaterSteps', WHERE WHAT IT READS IS OF BULK AT MOST 1048576: true; the input reads as it did. -/
def waterStepsUptoRow : OpenClaim := { program := "ytbalfefjfgheoaagreat", sum := "e0ef4b0ad527137d58165adfdccfd5e7c29323a785a93548cf197bd3a0112f3a", func := "eyot/eyotlaw24.WaterSteps", spec := "waterSteps", inPlace := ["math.Float64frombits", "math.Float64bits"], recurses := true, apart := false, narrowed := true }
def WaterStepsUptoSaid : Prop := waterStepsUptoRow.holds Tryz.pinned (OpenSpec.upto waterStepsSpec)

/-- 'eyotlaw24.WaterEdges', WHERE WHAT IT READS IS OF BULK AT MOST 1048576: true; the input reads as it did. -/
def waterEdgesUptoRow : OpenClaim := { program := "ytbalfefjfgheoaagreat", sum := "e0ef4b0ad527137d58165adfdccfd5e7c29323a785a93548cf197bd3a0112f3a", func := "eyot/eyotlaw24.WaterEdges", spec := "waterEdges", inPlace := ["math.Float64frombits", "math.Float64bits"], recurses := true, apart := false, narrowed := true }
def WaterEdgesUptoSaid : Prop := waterEdgesUptoRow.holds Tryz.pinned (OpenSpec.upto waterEdgesSpec)

end Rows
end Go.Proofs.YtbalfefjfgheoaaGreat
