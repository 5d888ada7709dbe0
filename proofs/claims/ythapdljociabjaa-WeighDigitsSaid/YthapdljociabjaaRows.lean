/-
  No cell of these rows narrows 'for every input' (looked for: loops, veiled, ifaces, maps, wideKeys, modest, calm, conditions, laid).
  DERIVED. THE GIVEN ROWS OF THIS SEAT. 9 by the template 'for every input the law returns true; each argument reads behind the call as it read before'; 0 by the template 'total and deterministic' (their statements: YthapdljociabjaaTotals.lean).
  GIVEN WITH THE SEED: the statements are not yours to turn. If you find one false, say at which input.
  Laid BY PROGRAM, IN A SANDBOX (cutbox-rows.mjs): the forced cells as the released guide's own fill.sh prints them over the translation 394375603bce5c5a… (all of the seat's roots in one cut). By AI agents, Wed Nov 11 2026. No macro, syntax, notation, axiom, sorry.
-/
import Derived.Test.YthapdljociabjaaChecked
import GoSem.Claim
import GoSem.ClaimJoined
import GoSem.ClaimMapViews
import Derived.JoinedTies
import Derived.KernelRfl
namespace Go.Proofs.Ythapdljociabjaa
/- THE CELL 'sum', in the pinned program and in every row, IS THE sha256 OF THE DUMP (.gsa) THAT YthapdljociabjaaProg.lean LOADS. Nothing in Lean hashes anything: it is a label: what it is worth is what the hold of that sum in a sandbox is worth. -/
noncomputable def Try.pinned : Pinned := { name := "ythapdljociabjaa", sum := "394375603bce5c5a7309ee596579666cbda3877ce45f12a43ab7b100fae5795f", checked := Try.checked }
namespace Rows
def none {H : Type} : Left H := { results := [], args := [] }

/-- 'eyotlaw1.WeighParses': WHATEVER THE INPUT: true; the input reads as it did. -/
def weighParsesSpec : ChangeSpec := { name := "weighParses", fn := fun _ => fun
  | [d] => { results := [.lit (.bool true)], args := [d] }
  | _ => none }
def weighParsesRow : OpenClaim := { program := "ythapdljociabjaa", sum := "394375603bce5c5a7309ee596579666cbda3877ce45f12a43ab7b100fae5795f", func := "eyot/eyotlaw1.WeighParses", spec := "weighParses", inPlace := ["math.Float64frombits", "math.Float64bits"], unfollowed := true, recurses := true, apart := false }
def WeighParsesSaid : Prop := weighParsesRow.holds Try.pinned (OpenSpec.ofChange weighParsesSpec)

/-- ITS FALSE NEIGHBOUR: 'it returns false'. Refute it at one input. -/
def weighParsesWrong : ChangeSpec := { name := "weighParses", fn := fun _ => fun
  | [d] => { results := [.lit (.bool false)], args := [d] }
  | _ => none }
def WeighParsesWrongFalsely : Prop := weighParsesRow.holds Try.pinned (OpenSpec.ofChange weighParsesWrong)

/-- 'eyotlaw1.WeighOrders': WHATEVER THE INPUT: true; the input reads as it did. -/
def weighOrdersSpec : ChangeSpec := { name := "weighOrders", fn := fun _ => fun
  | [d1, d2, d3] => { results := [.lit (.bool true)], args := [d1, d2, d3] }
  | _ => none }
def weighOrdersRow : OpenClaim := { program := "ythapdljociabjaa", sum := "394375603bce5c5a7309ee596579666cbda3877ce45f12a43ab7b100fae5795f", func := "eyot/eyotlaw1.WeighOrders", spec := "weighOrders", inPlace := ["math.Float64frombits", "math.Float64bits"], unfollowed := true, recurses := true, apart := false }
def WeighOrdersSaid : Prop := weighOrdersRow.holds Try.pinned (OpenSpec.ofChange weighOrdersSpec)

/-- ITS FALSE NEIGHBOUR: 'it returns false'. Refute it at one input. -/
def weighOrdersWrong : ChangeSpec := { name := "weighOrders", fn := fun _ => fun
  | [d1, d2, d3] => { results := [.lit (.bool false)], args := [d1, d2, d3] }
  | _ => none }
def WeighOrdersWrongFalsely : Prop := weighOrdersRow.holds Try.pinned (OpenSpec.ofChange weighOrdersWrong)

/-- 'eyotlaw1.WeighLine': WHATEVER THE INPUT: true; the input reads as it did. -/
def weighLineSpec : ChangeSpec := { name := "weighLine", fn := fun _ => fun
  | [d1, d2, d3] => { results := [.lit (.bool true)], args := [d1, d2, d3] }
  | _ => none }
def weighLineRow : OpenClaim := { program := "ythapdljociabjaa", sum := "394375603bce5c5a7309ee596579666cbda3877ce45f12a43ab7b100fae5795f", func := "eyot/eyotlaw1.WeighLine", spec := "weighLine", inPlace := ["math.Float64frombits", "math.Float64bits"], unfollowed := true, recurses := true, apart := false }
def WeighLineSaid : Prop := weighLineRow.holds Try.pinned (OpenSpec.ofChange weighLineSpec)

/-- ITS FALSE NEIGHBOUR: 'it returns false'. Refute it at one input. -/
def weighLineWrong : ChangeSpec := { name := "weighLine", fn := fun _ => fun
  | [d1, d2, d3] => { results := [.lit (.bool false)], args := [d1, d2, d3] }
  | _ => none }
def WeighLineWrongFalsely : Prop := weighLineRow.holds Try.pinned (OpenSpec.ofChange weighLineWrong)

/-- 'eyotlaw1.WeighEdges': WHATEVER THE INPUT: true; the input reads as it did. -/
def weighEdgesSpec : ChangeSpec := { name := "weighEdges", fn := fun _ => fun
  | [] => { results := [.lit (.bool true)], args := [] }
  | _ => none }
def weighEdgesRow : OpenClaim := { program := "ythapdljociabjaa", sum := "394375603bce5c5a7309ee596579666cbda3877ce45f12a43ab7b100fae5795f", func := "eyot/eyotlaw1.WeighEdges", spec := "weighEdges", inPlace := ["math.Float64frombits", "math.Float64bits"], unfollowed := true, recurses := true, apart := false }
def WeighEdgesSaid : Prop := weighEdgesRow.holds Try.pinned (OpenSpec.ofChange weighEdgesSpec)

/-- ITS FALSE NEIGHBOUR: 'it returns false'. Refute it at one input. -/
def weighEdgesWrong : ChangeSpec := { name := "weighEdges", fn := fun _ => fun
  | [] => { results := [.lit (.bool false)], args := [] }
  | _ => none }
def WeighEdgesWrongFalsely : Prop := weighEdgesRow.holds Try.pinned (OpenSpec.ofChange weighEdgesWrong)

/-- 'eyotlaw1.WeighDigits': WHATEVER THE INPUT: true; the input reads as it did. -/
def weighDigitsSpec : ChangeSpec := { name := "weighDigits", fn := fun _ => fun
  | [d1, d2, d3] => { results := [.lit (.bool true)], args := [d1, d2, d3] }
  | _ => none }
def weighDigitsRow : OpenClaim := { program := "ythapdljociabjaa", sum := "394375603bce5c5a7309ee596579666cbda3877ce45f12a43ab7b100fae5795f", func := "eyot/eyotlaw1.WeighDigits", spec := "weighDigits", inPlace := ["math.Float64frombits", "math.Float64bits"], unfollowed := true, recurses := true, apart := false }
def WeighDigitsSaid : Prop := weighDigitsRow.holds Try.pinned (OpenSpec.ofChange weighDigitsSpec)

/-- ITS FALSE NEIGHBOUR: 'it returns false'. Refute it at one input. -/
def weighDigitsWrong : ChangeSpec := { name := "weighDigits", fn := fun _ => fun
  | [d1, d2, d3] => { results := [.lit (.bool false)], args := [d1, d2, d3] }
  | _ => none }
def WeighDigitsWrongFalsely : Prop := weighDigitsRow.holds Try.pinned (OpenSpec.ofChange weighDigitsWrong)

/-- 'eyotlaw1.WeighNext': WHATEVER THE INPUT: true; the input reads as it did. -/
def weighNextSpec : ChangeSpec := { name := "weighNext", fn := fun _ => fun
  | [d] => { results := [.lit (.bool true)], args := [d] }
  | _ => none }
def weighNextRow : OpenClaim := { program := "ythapdljociabjaa", sum := "394375603bce5c5a7309ee596579666cbda3877ce45f12a43ab7b100fae5795f", func := "eyot/eyotlaw1.WeighNext", spec := "weighNext", inPlace := ["math.Float64frombits", "math.Float64bits"], unfollowed := true, recurses := true, apart := false }
def WeighNextSaid : Prop := weighNextRow.holds Try.pinned (OpenSpec.ofChange weighNextSpec)

/-- ITS FALSE NEIGHBOUR: 'it returns false'. Refute it at one input. -/
def weighNextWrong : ChangeSpec := { name := "weighNext", fn := fun _ => fun
  | [d] => { results := [.lit (.bool false)], args := [d] }
  | _ => none }
def WeighNextWrongFalsely : Prop := weighNextRow.holds Try.pinned (OpenSpec.ofChange weighNextWrong)

/-- 'eyotlaw1.WeighGrows': WHATEVER THE INPUT: true; the input reads as it did. -/
def weighGrowsSpec : ChangeSpec := { name := "weighGrows", fn := fun _ => fun
  | [d1, d2] => { results := [.lit (.bool true)], args := [d1, d2] }
  | _ => none }
def weighGrowsRow : OpenClaim := { program := "ythapdljociabjaa", sum := "394375603bce5c5a7309ee596579666cbda3877ce45f12a43ab7b100fae5795f", func := "eyot/eyotlaw1.WeighGrows", spec := "weighGrows", inPlace := ["math.Float64frombits", "math.Float64bits"], unfollowed := true, recurses := true, apart := false }
def WeighGrowsSaid : Prop := weighGrowsRow.holds Try.pinned (OpenSpec.ofChange weighGrowsSpec)

/-- ITS FALSE NEIGHBOUR: 'it returns false'. Refute it at one input. -/
def weighGrowsWrong : ChangeSpec := { name := "weighGrows", fn := fun _ => fun
  | [d1, d2] => { results := [.lit (.bool false)], args := [d1, d2] }
  | _ => none }
def WeighGrowsWrongFalsely : Prop := weighGrowsRow.holds Try.pinned (OpenSpec.ofChange weighGrowsWrong)

/-- 'eyotlaw1.WeighSides': WHATEVER THE INPUT: true; the input reads as it did. -/
def weighSidesSpec : ChangeSpec := { name := "weighSides", fn := fun _ => fun
  | [d1, d2] => { results := [.lit (.bool true)], args := [d1, d2] }
  | _ => none }
def weighSidesRow : OpenClaim := { program := "ythapdljociabjaa", sum := "394375603bce5c5a7309ee596579666cbda3877ce45f12a43ab7b100fae5795f", func := "eyot/eyotlaw1.WeighSides", spec := "weighSides", inPlace := ["math.Float64frombits", "math.Float64bits"], unfollowed := true, recurses := true, apart := false }
def WeighSidesSaid : Prop := weighSidesRow.holds Try.pinned (OpenSpec.ofChange weighSidesSpec)

/-- ITS FALSE NEIGHBOUR: 'it returns false'. Refute it at one input. -/
def weighSidesWrong : ChangeSpec := { name := "weighSides", fn := fun _ => fun
  | [d1, d2] => { results := [.lit (.bool false)], args := [d1, d2] }
  | _ => none }
def WeighSidesWrongFalsely : Prop := weighSidesRow.holds Try.pinned (OpenSpec.ofChange weighSidesWrong)

/-- 'eyotlaw1.WeighForms': WHATEVER THE INPUT: true; the input reads as it did. -/
def weighFormsSpec : ChangeSpec := { name := "weighForms", fn := fun _ => fun
  | [] => { results := [.lit (.bool true)], args := [] }
  | _ => none }
def weighFormsRow : OpenClaim := { program := "ythapdljociabjaa", sum := "394375603bce5c5a7309ee596579666cbda3877ce45f12a43ab7b100fae5795f", func := "eyot/eyotlaw1.WeighForms", spec := "weighForms", inPlace := ["math.Float64frombits", "math.Float64bits"], unfollowed := true, recurses := true, apart := false }
def WeighFormsSaid : Prop := weighFormsRow.holds Try.pinned (OpenSpec.ofChange weighFormsSpec)

/-- ITS FALSE NEIGHBOUR: 'it returns false'. Refute it at one input. -/
def weighFormsWrong : ChangeSpec := { name := "weighForms", fn := fun _ => fun
  | [] => { results := [.lit (.bool false)], args := [] }
  | _ => none }
def WeighFormsWrongFalsely : Prop := weighFormsRow.holds Try.pinned (OpenSpec.ofChange weighFormsWrong)

/- THE SECOND FORM. 'bulk': how many values and letters a reading holds, each counted each time it is reached (what is shared counts as often as it is met; a slice's spare places count too). A statement '..UptoSaid' is the law's where the arguments, and the package variables that the reading takes, are together of bulk at most 1048576: NARROWER than '..Said'. Prove '..Said' where nothing that the law and all that it calls make is longer than what came in: it says more and counts as full. Else prove '..UptoSaid'. A law counts once. -/
mutual
def uptoBulk {H : Type} : DataW H → Nat
  | .lit (.string bytes) => bytes.length + 1
  | .lit _ => 1
  | .nil => 1
  | .ptr d => uptoBulk d + 1
  | .slice elems spare => uptoBulkAll elems + uptoBulkAll spare + 1
  | .agg parts => uptoBulkAll parts + 1
  | .iface _ d => uptoBulk d + 1
  | .map entries => uptoBulkEntries entries + 1
  | .held _ => 1
def uptoBulkAll {H : Type} : List (DataW H) → Nat
  | [] => 0
  | d :: r => uptoBulk d + uptoBulkAll r
def uptoBulkEntries {H : Type} : List (Lit × DataW H) → Nat
  | [] => 0
  | x :: r => uptoBulkEntry x + uptoBulkEntries r
def uptoBulkEntry {H : Type} : Lit × DataW H → Nat
  | (.string bytes, d) => bytes.length + uptoBulk d + 1
  | (_, d) => uptoBulk d + 1
 end
def uptoSmall : (H : Type) → List (DataW H) → Bool := fun _ ds => decide (uptoBulkAll ds ≤ 1048576)
def OpenSpec.upto (s : _root_.Go.ChangeSpec) : _root_.Go.OpenSpec := { _root_.Go.OpenSpec.ofChange s with cond := some uptoSmall }

/-- 'eyotlaw1.WeighParses', WHERE WHAT IT READS IS OF BULK AT MOST 1048576: true; the input reads as it did. -/
def weighParsesUptoRow : OpenClaim := { program := "ythapdljociabjaa", sum := "394375603bce5c5a7309ee596579666cbda3877ce45f12a43ab7b100fae5795f", func := "eyot/eyotlaw1.WeighParses", spec := "weighParses", inPlace := ["math.Float64frombits", "math.Float64bits"], unfollowed := true, recurses := true, apart := false, narrowed := true }
def WeighParsesUptoSaid : Prop := weighParsesUptoRow.holds Try.pinned (OpenSpec.upto weighParsesSpec)

/-- 'eyotlaw1.WeighOrders', WHERE WHAT IT READS IS OF BULK AT MOST 1048576: true; the input reads as it did. -/
def weighOrdersUptoRow : OpenClaim := { program := "ythapdljociabjaa", sum := "394375603bce5c5a7309ee596579666cbda3877ce45f12a43ab7b100fae5795f", func := "eyot/eyotlaw1.WeighOrders", spec := "weighOrders", inPlace := ["math.Float64frombits", "math.Float64bits"], unfollowed := true, recurses := true, apart := false, narrowed := true }
def WeighOrdersUptoSaid : Prop := weighOrdersUptoRow.holds Try.pinned (OpenSpec.upto weighOrdersSpec)

/-- 'eyotlaw1.WeighLine', WHERE WHAT IT READS IS OF BULK AT MOST 1048576: true; the input reads as it did. -/
def weighLineUptoRow : OpenClaim := { program := "ythapdljociabjaa", sum := "394375603bce5c5a7309ee596579666cbda3877ce45f12a43ab7b100fae5795f", func := "eyot/eyotlaw1.WeighLine", spec := "weighLine", inPlace := ["math.Float64frombits", "math.Float64bits"], unfollowed := true, recurses := true, apart := false, narrowed := true }
def WeighLineUptoSaid : Prop := weighLineUptoRow.holds Try.pinned (OpenSpec.upto weighLineSpec)

/-- 'eyotlaw1.WeighEdges', WHERE WHAT IT READS IS OF BULK AT MOST 1048576: true; the input reads as it did. -/
def weighEdgesUptoRow : OpenClaim := { program := "ythapdljociabjaa", sum := "394375603bce5c5a7309ee596579666cbda3877ce45f12a43ab7b100fae5795f", func := "eyot/eyotlaw1.WeighEdges", spec := "weighEdges", inPlace := ["math.Float64frombits", "math.Float64bits"], unfollowed := true, recurses := true, apart := false, narrowed := true }
def WeighEdgesUptoSaid : Prop := weighEdgesUptoRow.holds Try.pinned (OpenSpec.upto weighEdgesSpec)

/-- 'eyotlaw1.WeighDigits', WHERE WHAT IT READS IS OF BULK AT MOST 1048576: true; the input reads as it did. -/
def weighDigitsUptoRow : OpenClaim := { program := "ythapdljociabjaa", sum := "394375603bce5c5a7309ee596579666cbda3877ce45f12a43ab7b100fae5795f", func := "eyot/eyotlaw1.WeighDigits", spec := "weighDigits", inPlace := ["math.Float64frombits", "math.Float64bits"], unfollowed := true, recurses := true, apart := false, narrowed := true }
def WeighDigitsUptoSaid : Prop := weighDigitsUptoRow.holds Try.pinned (OpenSpec.upto weighDigitsSpec)

/-- 'eyotlaw1.WeighNext', WHERE WHAT IT READS IS OF BULK AT MOST 1048576: true; the input reads as it did. -/
def weighNextUptoRow : OpenClaim := { program := "ythapdljociabjaa", sum := "394375603bce5c5a7309ee596579666cbda3877ce45f12a43ab7b100fae5795f", func := "eyot/eyotlaw1.WeighNext", spec := "weighNext", inPlace := ["math.Float64frombits", "math.Float64bits"], unfollowed := true, recurses := true, apart := false, narrowed := true }
def WeighNextUptoSaid : Prop := weighNextUptoRow.holds Try.pinned (OpenSpec.upto weighNextSpec)

/-- 'eyotlaw1.WeighGrows', WHERE WHAT IT READS IS OF BULK AT MOST 1048576: true; the input reads as it did. -/
def weighGrowsUptoRow : OpenClaim := { program := "ythapdljociabjaa", sum := "394375603bce5c5a7309ee596579666cbda3877ce45f12a43ab7b100fae5795f", func := "eyot/eyotlaw1.WeighGrows", spec := "weighGrows", inPlace := ["math.Float64frombits", "math.Float64bits"], unfollowed := true, recurses := true, apart := false, narrowed := true }
def WeighGrowsUptoSaid : Prop := weighGrowsUptoRow.holds Try.pinned (OpenSpec.upto weighGrowsSpec)

/-- 'eyotlaw1.WeighSides', WHERE WHAT IT READS IS OF BULK AT MOST 1048576: true; the input reads as it did. -/
def weighSidesUptoRow : OpenClaim := { program := "ythapdljociabjaa", sum := "394375603bce5c5a7309ee596579666cbda3877ce45f12a43ab7b100fae5795f", func := "eyot/eyotlaw1.WeighSides", spec := "weighSides", inPlace := ["math.Float64frombits", "math.Float64bits"], unfollowed := true, recurses := true, apart := false, narrowed := true }
def WeighSidesUptoSaid : Prop := weighSidesUptoRow.holds Try.pinned (OpenSpec.upto weighSidesSpec)

/-- 'eyotlaw1.WeighForms', WHERE WHAT IT READS IS OF BULK AT MOST 1048576: true; the input reads as it did. -/
def weighFormsUptoRow : OpenClaim := { program := "ythapdljociabjaa", sum := "394375603bce5c5a7309ee596579666cbda3877ce45f12a43ab7b100fae5795f", func := "eyot/eyotlaw1.WeighForms", spec := "weighForms", inPlace := ["math.Float64frombits", "math.Float64bits"], unfollowed := true, recurses := true, apart := false, narrowed := true }
def WeighFormsUptoSaid : Prop := weighFormsUptoRow.holds Try.pinned (OpenSpec.upto weighFormsSpec)

end Rows
end Go.Proofs.Ythapdljociabjaa
