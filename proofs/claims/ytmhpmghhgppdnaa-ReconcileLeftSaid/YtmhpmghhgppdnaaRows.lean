/-
  No cell of these rows narrows 'for every input' (looked for: loops, veiled, ifaces, maps, wideKeys, modest, calm, conditions, laid).
  DERIVED. THE GIVEN ROWS OF THIS SEAT. 6 by the template 'for every input the law returns true; each argument reads behind the call as it read before'; 0 by the template 'total and deterministic' (their statements: YtmhpmghhgppdnaaTotals.lean).
  GIVEN WITH THE SEED: the statements are not yours to turn. If you find one false, say at which input.
  Laid BY PROGRAM, IN A SANDBOX (cutbox-rows.mjs): the forced cells as the released guide's own fill.sh prints them over the translation 6e558a52a91ef8f5… (all of the seat's roots in one cut). By AI agents, Wed Nov 11 2026. No macro, syntax, notation, axiom, sorry.
-/
import Derived.Test.YtmhpmghhgppdnaaChecked
import GoSem.Claim
import GoSem.ClaimJoined
import GoSem.ClaimMapViews
import Derived.JoinedTies
import Derived.KernelRfl
namespace Go.Proofs.Ytmhpmghhgppdnaa
/- THE CELL 'sum', in the pinned program and in every row, IS THE sha256 OF THE DUMP (.gsa) THAT YtmhpmghhgppdnaaProg.lean LOADS. Nothing in Lean hashes anything: it is a label: what it is worth is what the hold of that sum in a sandbox is worth. -/
noncomputable def Try.pinned : Pinned := { name := "ytmhpmghhgppdnaa", sum := "6e558a52a91ef8f594a19ac9d65e6d7688dc5afda2ff3b955c695f416b091494", checked := Try.checked }
namespace Rows
def none {H : Type} : Left H := { results := [], args := [] }

/-- 'corebanklaw44.ReconcileMatches': WHATEVER THE INPUT: true; the input reads as it did. -/
def reconcileMatchesSpec : ChangeSpec := { name := "reconcileMatches", fn := fun _ => fun
  | [d1, d2] => { results := [.lit (.bool true)], args := [d1, d2] }
  | _ => none }
def reconcileMatchesRow : OpenClaim := { program := "ytmhpmghhgppdnaa", sum := "6e558a52a91ef8f594a19ac9d65e6d7688dc5afda2ff3b955c695f416b091494", func := "corebank/corebanklaw44.ReconcileMatches", spec := "reconcileMatches", unfollowed := true, recurses := true, apart := false }
def ReconcileMatchesSaid : Prop := reconcileMatchesRow.holds Try.pinned (OpenSpec.ofChange reconcileMatchesSpec)

/-- ITS FALSE NEIGHBOUR: 'it returns false'. Refute it at one input. -/
def reconcileMatchesWrong : ChangeSpec := { name := "reconcileMatches", fn := fun _ => fun
  | [d1, d2] => { results := [.lit (.bool false)], args := [d1, d2] }
  | _ => none }
def ReconcileMatchesWrongFalsely : Prop := reconcileMatchesRow.holds Try.pinned (OpenSpec.ofChange reconcileMatchesWrong)

/-- 'corebanklaw44.ReconcileValid': WHATEVER THE INPUT: true; the input reads as it did. -/
def reconcileValidSpec : ChangeSpec := { name := "reconcileValid", fn := fun _ => fun
  | [d1, d2, d3] => { results := [.lit (.bool true)], args := [d1, d2, d3] }
  | _ => none }
def reconcileValidRow : OpenClaim := { program := "ytmhpmghhgppdnaa", sum := "6e558a52a91ef8f594a19ac9d65e6d7688dc5afda2ff3b955c695f416b091494", func := "corebank/corebanklaw44.ReconcileValid", spec := "reconcileValid", unfollowed := true, recurses := true, apart := false }
def ReconcileValidSaid : Prop := reconcileValidRow.holds Try.pinned (OpenSpec.ofChange reconcileValidSpec)

/-- ITS FALSE NEIGHBOUR: 'it returns false'. Refute it at one input. -/
def reconcileValidWrong : ChangeSpec := { name := "reconcileValid", fn := fun _ => fun
  | [d1, d2, d3] => { results := [.lit (.bool false)], args := [d1, d2, d3] }
  | _ => none }
def ReconcileValidWrongFalsely : Prop := reconcileValidRow.holds Try.pinned (OpenSpec.ofChange reconcileValidWrong)

/-- 'corebanklaw44.ReconcileGaps': WHATEVER THE INPUT: true; the input reads as it did. -/
def reconcileGapsSpec : ChangeSpec := { name := "reconcileGaps", fn := fun _ => fun
  | [d1, d2] => { results := [.lit (.bool true)], args := [d1, d2] }
  | _ => none }
def reconcileGapsRow : OpenClaim := { program := "ytmhpmghhgppdnaa", sum := "6e558a52a91ef8f594a19ac9d65e6d7688dc5afda2ff3b955c695f416b091494", func := "corebank/corebanklaw44.ReconcileGaps", spec := "reconcileGaps", unfollowed := true, recurses := true, apart := false }
def ReconcileGapsSaid : Prop := reconcileGapsRow.holds Try.pinned (OpenSpec.ofChange reconcileGapsSpec)

/-- ITS FALSE NEIGHBOUR: 'it returns false'. Refute it at one input. -/
def reconcileGapsWrong : ChangeSpec := { name := "reconcileGaps", fn := fun _ => fun
  | [d1, d2] => { results := [.lit (.bool false)], args := [d1, d2] }
  | _ => none }
def ReconcileGapsWrongFalsely : Prop := reconcileGapsRow.holds Try.pinned (OpenSpec.ofChange reconcileGapsWrong)

/-- 'corebanklaw44.ReconcileOneToOne': WHATEVER THE INPUT: true; the input reads as it did. -/
def reconcileOneToOneSpec : ChangeSpec := { name := "reconcileOneToOne", fn := fun _ => fun
  | [d1, d2] => { results := [.lit (.bool true)], args := [d1, d2] }
  | _ => none }
def reconcileOneToOneRow : OpenClaim := { program := "ytmhpmghhgppdnaa", sum := "6e558a52a91ef8f594a19ac9d65e6d7688dc5afda2ff3b955c695f416b091494", func := "corebank/corebanklaw44.ReconcileOneToOne", spec := "reconcileOneToOne", unfollowed := true, recurses := true, apart := false }
def ReconcileOneToOneSaid : Prop := reconcileOneToOneRow.holds Try.pinned (OpenSpec.ofChange reconcileOneToOneSpec)

/-- ITS FALSE NEIGHBOUR: 'it returns false'. Refute it at one input. -/
def reconcileOneToOneWrong : ChangeSpec := { name := "reconcileOneToOne", fn := fun _ => fun
  | [d1, d2] => { results := [.lit (.bool false)], args := [d1, d2] }
  | _ => none }
def ReconcileOneToOneWrongFalsely : Prop := reconcileOneToOneRow.holds Try.pinned (OpenSpec.ofChange reconcileOneToOneWrong)

/-- 'corebanklaw44.ReconcileLeft': WHATEVER THE INPUT: true; the input reads as it did. -/
def reconcileLeftSpec : ChangeSpec := { name := "reconcileLeft", fn := fun _ => fun
  | [d1, d2] => { results := [.lit (.bool true)], args := [d1, d2] }
  | _ => none }
def reconcileLeftRow : OpenClaim := { program := "ytmhpmghhgppdnaa", sum := "6e558a52a91ef8f594a19ac9d65e6d7688dc5afda2ff3b955c695f416b091494", func := "corebank/corebanklaw44.ReconcileLeft", spec := "reconcileLeft", unfollowed := true, recurses := true, apart := false }
def ReconcileLeftSaid : Prop := reconcileLeftRow.holds Try.pinned (OpenSpec.ofChange reconcileLeftSpec)

/-- ITS FALSE NEIGHBOUR: 'it returns false'. Refute it at one input. -/
def reconcileLeftWrong : ChangeSpec := { name := "reconcileLeft", fn := fun _ => fun
  | [d1, d2] => { results := [.lit (.bool false)], args := [d1, d2] }
  | _ => none }
def ReconcileLeftWrongFalsely : Prop := reconcileLeftRow.holds Try.pinned (OpenSpec.ofChange reconcileLeftWrong)

/-- 'corebanklaw44.ReconcileItems': WHATEVER THE INPUT: true; the input reads as it did. -/
def reconcileItemsSpec : ChangeSpec := { name := "reconcileItems", fn := fun _ => fun
  | [d1, d2] => { results := [.lit (.bool true)], args := [d1, d2] }
  | _ => none }
def reconcileItemsRow : OpenClaim := { program := "ytmhpmghhgppdnaa", sum := "6e558a52a91ef8f594a19ac9d65e6d7688dc5afda2ff3b955c695f416b091494", func := "corebank/corebanklaw44.ReconcileItems", spec := "reconcileItems", unfollowed := true, recurses := true, apart := false }
def ReconcileItemsSaid : Prop := reconcileItemsRow.holds Try.pinned (OpenSpec.ofChange reconcileItemsSpec)

/-- ITS FALSE NEIGHBOUR: 'it returns false'. Refute it at one input. -/
def reconcileItemsWrong : ChangeSpec := { name := "reconcileItems", fn := fun _ => fun
  | [d1, d2] => { results := [.lit (.bool false)], args := [d1, d2] }
  | _ => none }
def ReconcileItemsWrongFalsely : Prop := reconcileItemsRow.holds Try.pinned (OpenSpec.ofChange reconcileItemsWrong)

/- THE SECOND FORM. 'bulk': how many values and letters a reading holds, each counted each time it is reached (what is shared counts as often as it is met; a slice's spare places count too). A statement '..UptoSaid' is the law's where the arguments, and the package variables that the reading takes, are together of bulk at most 1048576: NARROWER than '..Said'. Prove '..Said' where nothing that the law and all that it calls make is longer than what came in: it says more and counts as full. Else prove '..UptoSaid'. A law counts once. -/
mutual
def uptoBulk {H : Type} : DataW H → Nat
  | .lit (.string bytes) => bytes.length + 1
  | .lit _ => 1
  | .nil => 1
  | .ptr d => uptoBulk d + 1
  | .slice elems spare => uptoBulkAll elems + uptoBulkAll spare + 1
  | .agg parts => uptoBulkAll parts + 1
  | .iface _ d => uptoBulk d + 1
  | .map entries => uptoBulkEntries entries + 1
  | .held _ => 1
def uptoBulkAll {H : Type} : List (DataW H) → Nat
  | [] => 0
  | d :: r => uptoBulk d + uptoBulkAll r
def uptoBulkEntries {H : Type} : List (Lit × DataW H) → Nat
  | [] => 0
  | x :: r => uptoBulkEntry x + uptoBulkEntries r
def uptoBulkEntry {H : Type} : Lit × DataW H → Nat
  | (.string bytes, d) => bytes.length + uptoBulk d + 1
  | (_, d) => uptoBulk d + 1
 end
def uptoSmall : (H : Type) → List (DataW H) → Bool := fun _ ds => decide (uptoBulkAll ds ≤ 1048576)
def OpenSpec.upto (s : _root_.Go.ChangeSpec) : _root_.Go.OpenSpec := { _root_.Go.OpenSpec.ofChange s with cond := some uptoSmall }

/-- 'corebanklaw44.ReconcileMatches', WHERE WHAT IT READS IS OF BULK AT MOST 1048576: true; the input reads as it did. -/
def reconcileMatchesUptoRow : OpenClaim := { program := "ytmhpmghhgppdnaa", sum := "6e558a52a91ef8f594a19ac9d65e6d7688dc5afda2ff3b955c695f416b091494", func := "corebank/corebanklaw44.ReconcileMatches", spec := "reconcileMatches", unfollowed := true, recurses := true, apart := false, narrowed := true }
def ReconcileMatchesUptoSaid : Prop := reconcileMatchesUptoRow.holds Try.pinned (OpenSpec.upto reconcileMatchesSpec)

/-- 'corebanklaw44.ReconcileValid', WHERE WHAT IT READS IS OF BULK AT MOST 1048576: true; the input reads as it did. -/
def reconcileValidUptoRow : OpenClaim := { program := "ytmhpmghhgppdnaa", sum := "6e558a52a91ef8f594a19ac9d65e6d7688dc5afda2ff3b955c695f416b091494", func := "corebank/corebanklaw44.ReconcileValid", spec := "reconcileValid", unfollowed := true, recurses := true, apart := false, narrowed := true }
def ReconcileValidUptoSaid : Prop := reconcileValidUptoRow.holds Try.pinned (OpenSpec.upto reconcileValidSpec)

/-- 'corebanklaw44.ReconcileGaps', WHERE WHAT IT READS IS OF BULK AT MOST 1048576: true; the input reads as it did. -/
def reconcileGapsUptoRow : OpenClaim := { program := "ytmhpmghhgppdnaa", sum := "6e558a52a91ef8f594a19ac9d65e6d7688dc5afda2ff3b955c695f416b091494", func := "corebank/corebanklaw44.ReconcileGaps", spec := "reconcileGaps", unfollowed := true, recurses := true, apart := false, narrowed := true }
def ReconcileGapsUptoSaid : Prop := reconcileGapsUptoRow.holds Try.pinned (OpenSpec.upto reconcileGapsSpec)

/-- 'corebanklaw44.ReconcileOneToOne', WHERE WHAT IT READS IS OF BULK AT MOST 1048576: true; the input reads as it did. -/
def reconcileOneToOneUptoRow : OpenClaim := { program := "ytmhpmghhgppdnaa", sum := "6e558a52a91ef8f594a19ac9d65e6d7688dc5afda2ff3b955c695f416b091494", func := "corebank/corebanklaw44.ReconcileOneToOne", spec := "reconcileOneToOne", unfollowed := true, recurses := true, apart := false, narrowed := true }
def ReconcileOneToOneUptoSaid : Prop := reconcileOneToOneUptoRow.holds Try.pinned (OpenSpec.upto reconcileOneToOneSpec)

/-- 'corebanklaw44.ReconcileLeft', WHERE WHAT IT READS IS OF BULK AT MOST 1048576: true; the input reads as it did. -/
def reconcileLeftUptoRow : OpenClaim := { program := "ytmhpmghhgppdnaa", sum := "6e558a52a91ef8f594a19ac9d65e6d7688dc5afda2ff3b955c695f416b091494", func := "corebank/corebanklaw44.ReconcileLeft", spec := "reconcileLeft", unfollowed := true, recurses := true, apart := false, narrowed := true }
def ReconcileLeftUptoSaid : Prop := reconcileLeftUptoRow.holds Try.pinned (OpenSpec.upto reconcileLeftSpec)

/-- 'corebanklaw44.ReconcileItems', WHERE WHAT IT READS IS OF BULK AT MOST 1048576: true; the input reads as it did. -/
def reconcileItemsUptoRow : OpenClaim := { program := "ytmhpmghhgppdnaa", sum := "6e558a52a91ef8f594a19ac9d65e6d7688dc5afda2ff3b955c695f416b091494", func := "corebank/corebanklaw44.ReconcileItems", spec := "reconcileItems", unfollowed := true, recurses := true, apart := false, narrowed := true }
def ReconcileItemsUptoSaid : Prop := reconcileItemsUptoRow.holds Try.pinned (OpenSpec.upto reconcileItemsSpec)

end Rows
end Go.Proofs.Ytmhpmghhgppdnaa
