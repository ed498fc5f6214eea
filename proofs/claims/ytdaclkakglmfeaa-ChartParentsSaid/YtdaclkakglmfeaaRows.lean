/-
  No cell of these rows narrows 'for every input' (looked for: loops, veiled, ifaces, maps, wideKeys, modest, calm, conditions, laid).
  DERIVED. THE GIVEN ROWS OF THIS SEAT. 6 by the template 'for every input the law returns true; each argument reads behind the call as it read before'; 0 by the template 'total and deterministic' (their statements: YtdaclkakglmfeaaTotals.lean).
  GIVEN WITH THE SEED: the statements are not yours to turn. If you find one false, say at which input.
  Laid BY PROGRAM, IN A SANDBOX (cutbox-rows.mjs): the forced cells as the released guide's own fill.sh prints them over the translation 872a53d875fbdc96… (all of the seat's roots in one cut). By AI agents, Wed Nov 11 2026. No macro, syntax, notation, axiom, sorry.
-/
import Derived.Test.YtdaclkakglmfeaaChecked
import GoSem.Claim
import GoSem.ClaimJoined
import GoSem.ClaimMapViews
import Derived.JoinedTies
import Derived.KernelRfl
namespace Go.Proofs.Ytdaclkakglmfeaa
/- THE CELL 'sum', in the pinned program and in every row, IS THE sha256 OF THE DUMP (.gsa) THAT YtdaclkakglmfeaaProg.lean LOADS. Nothing in Lean hashes anything: it is a label: what it is worth is what the hold of that sum in a sandbox is worth. -/
noncomputable def Try.pinned : Pinned := { name := "ytdaclkakglmfeaa", sum := "872a53d875fbdc96be3ab98fadecccc7a20e58db48480e51eeeea1cc499685e1", checked := Try.checked }
namespace Rows
def none {H : Type} : Left H := { results := [], args := [] }

/-- 'corebanklaw18.ChartChecks': WHATEVER THE INPUT: true; the input reads as it did. -/
def chartChecksSpec : ChangeSpec := { name := "chartChecks", fn := fun _ => fun
  | [d1, d2] => { results := [.lit (.bool true)], args := [d1, d2] }
  | _ => none }
def chartChecksRow : OpenClaim := { program := "ytdaclkakglmfeaa", sum := "872a53d875fbdc96be3ab98fadecccc7a20e58db48480e51eeeea1cc499685e1", func := "corebank/corebanklaw18.ChartChecks", spec := "chartChecks", unfollowed := true, recurses := true, apart := false }
def ChartChecksSaid : Prop := chartChecksRow.holds Try.pinned (OpenSpec.ofChange chartChecksSpec)

/-- ITS FALSE NEIGHBOUR: 'it returns false'. Refute it at one input. -/
def chartChecksWrong : ChangeSpec := { name := "chartChecks", fn := fun _ => fun
  | [d1, d2] => { results := [.lit (.bool false)], args := [d1, d2] }
  | _ => none }
def ChartChecksWrongFalsely : Prop := chartChecksRow.holds Try.pinned (OpenSpec.ofChange chartChecksWrong)

/-- 'corebanklaw18.ChartPaths': WHATEVER THE INPUT: true; the input reads as it did. -/
def chartPathsSpec : ChangeSpec := { name := "chartPaths", fn := fun _ => fun
  | [d1, d2, d3] => { results := [.lit (.bool true)], args := [d1, d2, d3] }
  | _ => none }
def chartPathsRow : OpenClaim := { program := "ytdaclkakglmfeaa", sum := "872a53d875fbdc96be3ab98fadecccc7a20e58db48480e51eeeea1cc499685e1", func := "corebank/corebanklaw18.ChartPaths", spec := "chartPaths", unfollowed := true, recurses := true, apart := false }
def ChartPathsSaid : Prop := chartPathsRow.holds Try.pinned (OpenSpec.ofChange chartPathsSpec)

/-- ITS FALSE NEIGHBOUR: 'it returns false'. Refute it at one input. -/
def chartPathsWrong : ChangeSpec := { name := "chartPaths", fn := fun _ => fun
  | [d1, d2, d3] => { results := [.lit (.bool false)], args := [d1, d2, d3] }
  | _ => none }
def ChartPathsWrongFalsely : Prop := chartPathsRow.holds Try.pinned (OpenSpec.ofChange chartPathsWrong)

/-- 'corebanklaw18.ChartLeaves': WHATEVER THE INPUT: true; the input reads as it did. -/
def chartLeavesSpec : ChangeSpec := { name := "chartLeaves", fn := fun _ => fun
  | [d1, d2] => { results := [.lit (.bool true)], args := [d1, d2] }
  | _ => none }
def chartLeavesRow : OpenClaim := { program := "ytdaclkakglmfeaa", sum := "872a53d875fbdc96be3ab98fadecccc7a20e58db48480e51eeeea1cc499685e1", func := "corebank/corebanklaw18.ChartLeaves", spec := "chartLeaves", unfollowed := true, recurses := true, apart := false }
def ChartLeavesSaid : Prop := chartLeavesRow.holds Try.pinned (OpenSpec.ofChange chartLeavesSpec)

/-- ITS FALSE NEIGHBOUR: 'it returns false'. Refute it at one input. -/
def chartLeavesWrong : ChangeSpec := { name := "chartLeaves", fn := fun _ => fun
  | [d1, d2] => { results := [.lit (.bool false)], args := [d1, d2] }
  | _ => none }
def ChartLeavesWrongFalsely : Prop := chartLeavesRow.holds Try.pinned (OpenSpec.ofChange chartLeavesWrong)

/-- 'corebanklaw18.ChartSigns': WHATEVER THE INPUT: true; the input reads as it did. -/
def chartSignsSpec : ChangeSpec := { name := "chartSigns", fn := fun _ => fun
  | [d] => { results := [.lit (.bool true)], args := [d] }
  | _ => none }
def chartSignsRow : OpenClaim := { program := "ytdaclkakglmfeaa", sum := "872a53d875fbdc96be3ab98fadecccc7a20e58db48480e51eeeea1cc499685e1", func := "corebank/corebanklaw18.ChartSigns", spec := "chartSigns", unfollowed := true, recurses := true, apart := false }
def ChartSignsSaid : Prop := chartSignsRow.holds Try.pinned (OpenSpec.ofChange chartSignsSpec)

/-- ITS FALSE NEIGHBOUR: 'it returns false'. Refute it at one input. -/
def chartSignsWrong : ChangeSpec := { name := "chartSigns", fn := fun _ => fun
  | [d] => { results := [.lit (.bool false)], args := [d] }
  | _ => none }
def ChartSignsWrongFalsely : Prop := chartSignsRow.holds Try.pinned (OpenSpec.ofChange chartSignsWrong)

/-- 'corebanklaw18.ChartPartition': WHATEVER THE INPUT: true; the input reads as it did. -/
def chartPartitionSpec : ChangeSpec := { name := "chartPartition", fn := fun _ => fun
  | [d1, d2] => { results := [.lit (.bool true)], args := [d1, d2] }
  | _ => none }
def chartPartitionRow : OpenClaim := { program := "ytdaclkakglmfeaa", sum := "872a53d875fbdc96be3ab98fadecccc7a20e58db48480e51eeeea1cc499685e1", func := "corebank/corebanklaw18.ChartPartition", spec := "chartPartition", unfollowed := true, recurses := true, apart := false }
def ChartPartitionSaid : Prop := chartPartitionRow.holds Try.pinned (OpenSpec.ofChange chartPartitionSpec)

/-- ITS FALSE NEIGHBOUR: 'it returns false'. Refute it at one input. -/
def chartPartitionWrong : ChangeSpec := { name := "chartPartition", fn := fun _ => fun
  | [d1, d2] => { results := [.lit (.bool false)], args := [d1, d2] }
  | _ => none }
def ChartPartitionWrongFalsely : Prop := chartPartitionRow.holds Try.pinned (OpenSpec.ofChange chartPartitionWrong)

/-- 'corebanklaw18.ChartParents': WHATEVER THE INPUT: true; the input reads as it did. -/
def chartParentsSpec : ChangeSpec := { name := "chartParents", fn := fun _ => fun
  | [d1, d2] => { results := [.lit (.bool true)], args := [d1, d2] }
  | _ => none }
def chartParentsRow : OpenClaim := { program := "ytdaclkakglmfeaa", sum := "872a53d875fbdc96be3ab98fadecccc7a20e58db48480e51eeeea1cc499685e1", func := "corebank/corebanklaw18.ChartParents", spec := "chartParents", unfollowed := true, recurses := true, apart := false }
def ChartParentsSaid : Prop := chartParentsRow.holds Try.pinned (OpenSpec.ofChange chartParentsSpec)

/-- ITS FALSE NEIGHBOUR: 'it returns false'. Refute it at one input. -/
def chartParentsWrong : ChangeSpec := { name := "chartParents", fn := fun _ => fun
  | [d1, d2] => { results := [.lit (.bool false)], args := [d1, d2] }
  | _ => none }
def ChartParentsWrongFalsely : Prop := chartParentsRow.holds Try.pinned (OpenSpec.ofChange chartParentsWrong)

/- THE SECOND FORM. 'bulk': how many values and letters a reading holds, each counted each time it is reached (what is shared counts as often as it is met; a slice's spare places count too). A statement '..UptoSaid' is the law's where the arguments, and the package variables that the reading takes, are together of bulk at most 1048576: NARROWER than '..Said'. Prove '..Said' where nothing that the law and all that it calls make is longer than what came in: it says more and counts as full. Else prove '..UptoSaid'. A law counts once. -/
mutual
def uptoBulk {H : Type} : DataW H → Nat
  | .lit (.string bytes) => bytes.length + 1
  | .lit _ => 1
  | .nil => 1
  | .ptr d => uptoBulk d + 1
  | .slice elems spare => uptoBulkAll elems + uptoBulkAll spare + 1
  | .agg parts => uptoBulkAll parts + 1
  | .iface _ d => uptoBulk d + 1
  | .map entries => uptoBulkEntries entries + 1
  | .held _ => 1
def uptoBulkAll {H : Type} : List (DataW H) → Nat
  | [] => 0
  | d :: r => uptoBulk d + uptoBulkAll r
def uptoBulkEntries {H : Type} : List (Lit × DataW H) → Nat
  | [] => 0
  | x :: r => uptoBulkEntry x + uptoBulkEntries r
def uptoBulkEntry {H : Type} : Lit × DataW H → Nat
  | (.string bytes, d) => bytes.length + uptoBulk d + 1
  | (_, d) => uptoBulk d + 1
 end
def uptoSmall : (H : Type) → List (DataW H) → Bool := fun _ ds => decide (uptoBulkAll ds ≤ 1048576)
def OpenSpec.upto (s : _root_.Go.ChangeSpec) : _root_.Go.OpenSpec := { _root_.Go.OpenSpec.ofChange s with cond := some uptoSmall }

/-- 'corebanklaw18.ChartChecks', WHERE WHAT IT READS IS OF BULK AT MOST 1048576: true; the input reads as it did. -/
def chartChecksUptoRow : OpenClaim := { program := "ytdaclkakglmfeaa", sum := "872a53d875fbdc96be3ab98fadecccc7a20e58db48480e51eeeea1cc499685e1", func := "corebank/corebanklaw18.ChartChecks", spec := "chartChecks", unfollowed := true, recurses := true, apart := false, narrowed := true }
def ChartChecksUptoSaid : Prop := chartChecksUptoRow.holds Try.pinned (OpenSpec.upto chartChecksSpec)

/-- 'corebanklaw18.ChartPaths', WHERE WHAT IT READS IS OF BULK AT MOST 1048576: true; the input reads as it did. -/
def chartPathsUptoRow : OpenClaim := { program := "ytdaclkakglmfeaa", sum := "872a53d875fbdc96be3ab98fadecccc7a20e58db48480e51eeeea1cc499685e1", func := "corebank/corebanklaw18.ChartPaths", spec := "chartPaths", unfollowed := true, recurses := true, apart := false, narrowed := true }
def ChartPathsUptoSaid : Prop := chartPathsUptoRow.holds Try.pinned (OpenSpec.upto chartPathsSpec)

/-- 'corebanklaw18.ChartLeaves', WHERE WHAT IT READS IS OF BULK AT MOST 1048576: true; the input reads as it did. -/
def chartLeavesUptoRow : OpenClaim := { program := "ytdaclkakglmfeaa", sum := "872a53d875fbdc96be3ab98fadecccc7a20e58db48480e51eeeea1cc499685e1", func := "corebank/corebanklaw18.ChartLeaves", spec := "chartLeaves", unfollowed := true, recurses := true, apart := false, narrowed := true }
def ChartLeavesUptoSaid : Prop := chartLeavesUptoRow.holds Try.pinned (OpenSpec.upto chartLeavesSpec)

/-- 'corebanklaw18.ChartSigns', WHERE WHAT IT READS IS OF BULK AT MOST 1048576: true; the input reads as it did. -/
def chartSignsUptoRow : OpenClaim := { program := "ytdaclkakglmfeaa", sum := "872a53d875fbdc96be3ab98fadecccc7a20e58db48480e51eeeea1cc499685e1", func := "corebank/corebanklaw18.ChartSigns", spec := "chartSigns", unfollowed := true, recurses := true, apart := false, narrowed := true }
def ChartSignsUptoSaid : Prop := chartSignsUptoRow.holds Try.pinned (OpenSpec.upto chartSignsSpec)

/-- 'corebanklaw18.ChartPartition', WHERE WHAT IT READS IS OF BULK AT MOST 1048576: true; the input reads as it did. -/
def chartPartitionUptoRow : OpenClaim := { program := "ytdaclkakglmfeaa", sum := "872a53d875fbdc96be3ab98fadecccc7a20e58db48480e51eeeea1cc499685e1", func := "corebank/corebanklaw18.ChartPartition", spec := "chartPartition", unfollowed := true, recurses := true, apart := false, narrowed := true }
def ChartPartitionUptoSaid : Prop := chartPartitionUptoRow.holds Try.pinned (OpenSpec.upto chartPartitionSpec)

/-- 'corebanklaw18.ChartParents', WHERE WHAT IT READS IS OF BULK AT MOST 1048576: true; the input reads as it did. -/
def chartParentsUptoRow : OpenClaim := { program := "ytdaclkakglmfeaa", sum := "872a53d875fbdc96be3ab98fadecccc7a20e58db48480e51eeeea1cc499685e1", func := "corebank/corebanklaw18.ChartParents", spec := "chartParents", unfollowed := true, recurses := true, apart := false, narrowed := true }
def ChartParentsUptoSaid : Prop := chartParentsUptoRow.holds Try.pinned (OpenSpec.upto chartParentsSpec)

end Rows
end Go.Proofs.Ytdaclkakglmfeaa
