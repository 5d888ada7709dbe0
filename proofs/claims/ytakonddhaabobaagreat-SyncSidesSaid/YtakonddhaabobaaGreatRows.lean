/-
  No cell of these rows narrows 'for every input' (looked for: loops, veiled, ifaces, maps, wideKeys, modest, calm, conditions, laid).
  DERIVED. THE GIVEN ROWS OF THIS SEAT. 3 by the template 'for every input the law returns true; each argument reads behind the call as it read before'; 0 by the template 'total and deterministic' (their statements: YtakonddhaabobaaGreatTotals.lean).
  GIVEN WITH THE SEED: the statements are not yours to turn. If you find one false, say at which input.
  Laid BY PROGRAM, IN A SANDBOX (cutbox-rows.mjs): the forced cells as the released guide's own fill.sh prints them over the translation ebf63394956c7497… (all of the seat's roots in one cut). By AI agents, Wed Nov 11 2026. No macro, syntax, notation, axiom, sorry.
-/
import Derived.Test.YtakonddhaabobaaGreatChecked
import GoSem.Claim
import GoSem.ClaimJoined
import GoSem.ClaimMapViews
import Derived.JoinedTies
import Derived.KernelRfl
namespace Go.Proofs.YtakonddhaabobaaGreat
/- THE CELL 'sum', in the pinned program and in every row, IS THE sha256 OF THE DUMP (.gsa) THAT YtakonddhaabobaaGreatProg.lean LOADS. Nothing in Lean hashes anything: it is a label: what it is worth is what the hold of that sum in a sandbox is worth. -/
noncomputable def Tryz.pinned : Pinned := { name := "ytakonddhaabobaagreat", sum := "ebf63394956c749737ff49e917dc3d9faa89c0c7ec3b9cd68db967648aa78ec8", checked := Tryz.checked }
namespace Rows
def none {H : Type} : Left H := { results := [], args := [] }

/-- 'eyotlaw20.SyncAll': WHATEVER THE INPUT: true; the input reads as it did. -/
def syncAllSpec : ChangeSpec := { name := "syncAll", fn := fun _ => fun
  | [d1, d2, d3] => { results := [.lit (.bool true)], args := [d1, d2, d3] }
  | _ => none }
def syncAllRow : OpenClaim := { program := "ytakonddhaabobaagreat", sum := "ebf63394956c749737ff49e917dc3d9faa89c0c7ec3b9cd68db967648aa78ec8", func := "eyot/eyotlaw20.SyncAll", spec := "syncAll", inPlace := ["math.Float64frombits", "math.Float64bits"], recurses := true, apart := false }
def SyncAllSaid : Prop := syncAllRow.holds Tryz.pinned (OpenSpec.ofChange syncAllSpec)

/-- ITS FALSE NEIGHBOUR: 'it returns false'. Refute it at one input. -/
def syncAllWrong : ChangeSpec := { name := "syncAll", fn := fun _ => fun
  | [d1, d2, d3] => { results := [.lit (.bool false)], args := [d1, d2, d3] }
  | _ => none }
def SyncAllWrongFalsely : Prop := syncAllRow.holds Tryz.pinned (OpenSpec.ofChange syncAllWrong)

/-- 'eyotlaw20.SyncNear': WHATEVER THE INPUT: true; the input reads as it did. -/
def syncNearSpec : ChangeSpec := { name := "syncNear", fn := fun _ => fun
  | [d1, d2, d3, d4, d5] => { results := [.lit (.bool true)], args := [d1, d2, d3, d4, d5] }
  | _ => none }
def syncNearRow : OpenClaim := { program := "ytakonddhaabobaagreat", sum := "ebf63394956c749737ff49e917dc3d9faa89c0c7ec3b9cd68db967648aa78ec8", func := "eyot/eyotlaw20.SyncNear", spec := "syncNear", inPlace := ["math.Float64frombits", "math.Float64bits"], recurses := true, apart := false }
def SyncNearSaid : Prop := syncNearRow.holds Tryz.pinned (OpenSpec.ofChange syncNearSpec)

/-- ITS FALSE NEIGHBOUR: 'it returns false'. Refute it at one input. -/
def syncNearWrong : ChangeSpec := { name := "syncNear", fn := fun _ => fun
  | [d1, d2, d3, d4, d5] => { results := [.lit (.bool false)], args := [d1, d2, d3, d4, d5] }
  | _ => none }
def SyncNearWrongFalsely : Prop := syncNearRow.holds Tryz.pinned (OpenSpec.ofChange syncNearWrong)

/-- 'eyotlaw20.SyncSides': WHATEVER THE INPUT: true; the input reads as it did. -/
def syncSidesSpec : ChangeSpec := { name := "syncSides", fn := fun _ => fun
  | [d1, d2] => { results := [.lit (.bool true)], args := [d1, d2] }
  | _ => none }
def syncSidesRow : OpenClaim := { program := "ytakonddhaabobaagreat", sum := "ebf63394956c749737ff49e917dc3d9faa89c0c7ec3b9cd68db967648aa78ec8", func := "eyot/eyotlaw20.SyncSides", spec := "syncSides", inPlace := ["math.Float64frombits", "math.Float64bits"], recurses := true, apart := false }
def SyncSidesSaid : Prop := syncSidesRow.holds Tryz.pinned (OpenSpec.ofChange syncSidesSpec)

/-- ITS FALSE NEIGHBOUR: 'it returns false'. Refute it at one input. -/
def syncSidesWrong : ChangeSpec := { name := "syncSides", fn := fun _ => fun
  | [d1, d2] => { results := [.lit (.bool false)], args := [d1, d2] }
  | _ => none }
def SyncSidesWrongFalsely : Prop := syncSidesRow.holds Tryz.pinned (OpenSpec.ofChange syncSidesWrong)

/- THE SECOND FORM. 'bulk': how many values and letters a reading holds, each counted each time it is reached (what is shared counts as often as it is met; a slice's spare places count too). A statement '..UptoSaid' is the law's where the arguments, and the package variables that the reading takes, are together of bulk at most 1048576: NARROWER than '..Said'. Prove '..Said' where nothing that the law and all that it calls make is longer than what came in: it says more and counts as full. Else prove '..UptoSaid'. A law counts once. -/
mutual
def uptoBulk {H : Type} : DataW H → Nat
  | .lit (.string bytes) => bytes.length + 1
  | .lit _ => 1
  | .nil => 1
  | .ptr d => uptoBulk d + 1
  | .slice elems spare => uptoBulkAll elems + uptoBulkAll spare + 1
  | .agg parts => uptoBulkAll parts + 1
  | .iface _ d => uptoBulk d + 1
  | .map entries => uptoBulkEntries entries + 1
  | .held _ => 1
def uptoBulkAll {H : Type} : List (DataW H) → Nat
  | [] => 0
  | d :: r => uptoBulk d + uptoBulkAll r
def uptoBulkEntries {H : Type} : List (Lit × DataW H) → Nat
  | [] => 0
  | x :: r => uptoBulkEntry x + uptoBulkEntries r
def uptoBulkEntry {H : Type} : Lit × DataW H → Nat
  | (.string bytes, d) => bytes.length + uptoBulk d + 1
  | (_, d) => uptoBulk d + 1
 end
def uptoSmall : (H : Type) → List (DataW H) → Bool := fun _ ds => decide (uptoBulkAll ds ≤ 1048576)
def OpenSpec.upto (s : _root_.Go.ChangeSpec) : _root_.Go.OpenSpec := { _root_.Go.OpenSpec.ofChange s with cond := some uptoSmall }

/-- 'eyotlaw20.SyncAll', WHERE WHAT IT READS IS OF BULK AT MOST 1048576: true; the input reads as it did. -/
def syncAllUptoRow : OpenClaim := { program := "ytakonddhaabobaagreat", sum := "ebf63394956c749737ff49e917dc3d9faa89c0c7ec3b9cd68db967648aa78ec8", func := "eyot/eyotlaw20.SyncAll", spec := "syncAll", inPlace := ["math.Float64frombits", "math.Float64bits"], recurses := true, apart := false, narrowed := true }
def SyncAllUptoSaid : Prop := syncAllUptoRow.holds Tryz.pinned (OpenSpec.upto syncAllSpec)

/-- 'eyotlaw20.SyncNear', WHERE WHAT IT READS IS OF BULK AT MOST 1048576: true; the input reads as it did. -/
def syncNearUptoRow : OpenClaim := { program := "ytakonddhaabobaagreat", sum := "ebf63394956c749737ff49e917dc3d9faa89c0c7ec3b9cd68db967648aa78ec8", func := "eyot/eyotlaw20.SyncNear", spec := "syncNear", inPlace := ["math.Float64frombits", "math.Float64bits"], recurses := true, apart := false, narrowed := true }
def SyncNearUptoSaid : Prop := syncNearUptoRow.holds Tryz.pinned (OpenSpec.upto syncNearSpec)

/-- 'eyotlaw20.SyncSides', WHERE WHAT IT READS IS OF BULK AT MOST 1048576: true; the input reads as it did. -/
def syncSidesUptoRow : OpenClaim := { program := "ytakonddhaabobaagreat", sum := "ebf63394956c749737ff49e917dc3d9faa89c0c7ec3b9cd68db967648aa78ec8", func := "eyot/eyotlaw20.SyncSides", spec := "syncSides", inPlace := ["math.Float64frombits", "math.Float64bits"], recurses := true, apart := false, narrowed := true }
def SyncSidesUptoSaid : Prop := syncSidesUptoRow.holds Tryz.pinned (OpenSpec.upto syncSidesSpec)

end Rows
end Go.Proofs.YtakonddhaabobaaGreat
