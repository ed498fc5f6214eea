/-
  NARROWER THAN 'FOR EVERY INPUT', by the rows' own cells (each row's printed sentence says how): ReportChecks: loops · ReportMakes: loops · ReportEntries: loops · ReportDrills: loops.
  DERIVED. THE GIVEN ROWS OF THIS SEAT. 4 by the template 'for every input the law returns true; each argument reads behind the call as it read before'; 0 by the template 'total and deterministic' (their statements: YtmhbkofbbkogeaaTotals.lean).
  GIVEN WITH THE SEED: the statements are not yours to turn. If you find one false, say at which input.
  Laid BY PROGRAM, IN A SANDBOX (cutbox-rows.mjs): the forced cells as the released guide's own fill.sh prints them over the translation 94e220ab6170a2b7… (all of the seat's roots in one cut). By AI agents, Wed Nov 11 2026. No macro, syntax, notation, axiom, sorry.
-/
import Derived.Test.YtmhbkofbbkogeaaChecked
import GoSem.Claim
import GoSem.ClaimJoined
import GoSem.ClaimMapViews
import Derived.JoinedTies
import Derived.KernelRfl
namespace Go.Proofs.Ytmhbkofbbkogeaa
/- THE CELL 'sum', in the pinned program and in every row, IS THE sha256 OF THE DUMP (.gsa) THAT YtmhbkofbbkogeaaProg.lean LOADS. Nothing in Lean hashes anything: it is a label: what it is worth is what the hold of that sum in a sandbox is worth. -/
noncomputable def Try.pinned : Pinned := { name := "ytmhbkofbbkogeaa", sum := "94e220ab6170a2b72ce92940a8fd5df450c5af74576ec12bc6ad3cd73b9ad09f", checked := Try.checked }
namespace Rows
def none {H : Type} : Left H := { results := [], args := [] }

/-- 'corebanklaw49.ReportChecks': WHATEVER THE INPUT: true; the input reads as it did. -/
def reportChecksSpec : ChangeSpec := { name := "reportChecks", fn := fun _ => fun
  | [d1, d2, d3] => { results := [.lit (.bool true)], args := [d1, d2, d3] }
  | _ => none }
def reportChecksRow : OpenClaim := { program := "ytmhbkofbbkogeaa", sum := "94e220ab6170a2b72ce92940a8fd5df450c5af74576ec12bc6ad3cd73b9ad09f", func := "corebank/corebanklaw49.ReportChecks", spec := "reportChecks", unfollowed := true, recurses := true, loops := true, apart := false }
def ReportChecksSaid : Prop := reportChecksRow.holds Try.pinned (OpenSpec.ofChange reportChecksSpec)

/-- ITS FALSE NEIGHBOUR: 'it returns false'. Refute it at one input. -/
def reportChecksWrong : ChangeSpec := { name := "reportChecks", fn := fun _ => fun
  | [d1, d2, d3] => { results := [.lit (.bool false)], args := [d1, d2, d3] }
  | _ => none }
def ReportChecksWrongFalsely : Prop := reportChecksRow.holds Try.pinned (OpenSpec.ofChange reportChecksWrong)

/-- 'corebanklaw49.ReportMakes': WHATEVER THE INPUT: true; the input reads as it did. -/
def reportMakesSpec : ChangeSpec := { name := "reportMakes", fn := fun _ => fun
  | [d1, d2, d3] => { results := [.lit (.bool true)], args := [d1, d2, d3] }
  | _ => none }
def reportMakesRow : OpenClaim := { program := "ytmhbkofbbkogeaa", sum := "94e220ab6170a2b72ce92940a8fd5df450c5af74576ec12bc6ad3cd73b9ad09f", func := "corebank/corebanklaw49.ReportMakes", spec := "reportMakes", unfollowed := true, recurses := true, loops := true, apart := false }
def ReportMakesSaid : Prop := reportMakesRow.holds Try.pinned (OpenSpec.ofChange reportMakesSpec)

/-- ITS FALSE NEIGHBOUR: 'it returns false'. Refute it at one input. -/
def reportMakesWrong : ChangeSpec := { name := "reportMakes", fn := fun _ => fun
  | [d1, d2, d3] => { results := [.lit (.bool false)], args := [d1, d2, d3] }
  | _ => none }
def ReportMakesWrongFalsely : Prop := reportMakesRow.holds Try.pinned (OpenSpec.ofChange reportMakesWrong)

/-- 'corebanklaw49.ReportEntries': WHATEVER THE INPUT: true; the input reads as it did. -/
def reportEntriesSpec : ChangeSpec := { name := "reportEntries", fn := fun _ => fun
  | [d1, d2, d3] => { results := [.lit (.bool true)], args := [d1, d2, d3] }
  | _ => none }
def reportEntriesRow : OpenClaim := { program := "ytmhbkofbbkogeaa", sum := "94e220ab6170a2b72ce92940a8fd5df450c5af74576ec12bc6ad3cd73b9ad09f", func := "corebank/corebanklaw49.ReportEntries", spec := "reportEntries", unfollowed := true, recurses := true, loops := true, apart := false }
def ReportEntriesSaid : Prop := reportEntriesRow.holds Try.pinned (OpenSpec.ofChange reportEntriesSpec)

/-- ITS FALSE NEIGHBOUR: 'it returns false'. Refute it at one input. -/
def reportEntriesWrong : ChangeSpec := { name := "reportEntries", fn := fun _ => fun
  | [d1, d2, d3] => { results := [.lit (.bool false)], args := [d1, d2, d3] }
  | _ => none }
def ReportEntriesWrongFalsely : Prop := reportEntriesRow.holds Try.pinned (OpenSpec.ofChange reportEntriesWrong)

/-- 'corebanklaw49.ReportDrills': WHATEVER THE INPUT: true; the input reads as it did. -/
def reportDrillsSpec : ChangeSpec := { name := "reportDrills", fn := fun _ => fun
  | [d1, d2, d3] => { results := [.lit (.bool true)], args := [d1, d2, d3] }
  | _ => none }
def reportDrillsRow : OpenClaim := { program := "ytmhbkofbbkogeaa", sum := "94e220ab6170a2b72ce92940a8fd5df450c5af74576ec12bc6ad3cd73b9ad09f", func := "corebank/corebanklaw49.ReportDrills", spec := "reportDrills", unfollowed := true, recurses := true, loops := true, apart := false }
def ReportDrillsSaid : Prop := reportDrillsRow.holds Try.pinned (OpenSpec.ofChange reportDrillsSpec)

/-- ITS FALSE NEIGHBOUR: 'it returns false'. Refute it at one input. -/
def reportDrillsWrong : ChangeSpec := { name := "reportDrills", fn := fun _ => fun
  | [d1, d2, d3] => { results := [.lit (.bool false)], args := [d1, d2, d3] }
  | _ => none }
def ReportDrillsWrongFalsely : Prop := reportDrillsRow.holds Try.pinned (OpenSpec.ofChange reportDrillsWrong)

/- THE SECOND FORM. 'bulk': how many values and letters a reading holds, each counted each time it is reached (what is shared counts as often as it is met; a slice's spare places count too). A statement '..UptoSaid' is the law's where the arguments, and the package variables that the reading takes, are together of bulk at most 1048576: NARROWER than '..Said'. Prove '..Said' where nothing that the law and all that it calls make is longer than what came in: it says more and counts as full. Else prove '..UptoSaid'. A law counts once. -/
mutual
def uptoBulk {H : Type} : DataW H → Nat
  | .lit (.string bytes) => bytes.length + 1
  | .lit _ => 1
  | .nil => 1
  | .ptr d => uptoBulk d + 1
  | .slice elems spare => uptoBulkAll elems + uptoBulkAll spare + 1
  | .agg parts => uptoBulkAll parts + 1
  | .iface _ d => uptoBulk d + 1
  | .map entries => uptoBulkEntries entries + 1
  | .held _ => 1
def uptoBulkAll {H : Type} : List (DataW H) → Nat
  | [] => 0
  | d :: r => uptoBulk d + uptoBulkAll r
def uptoBulkEntries {H : Type} : List (Lit × DataW H) → Nat
  | [] => 0
  | x :: r => uptoBulkEntry x + uptoBulkEntries r
def uptoBulkEntry {H : Type} : Lit × DataW H → Nat
  | (.string bytes, d) => bytes.length + uptoBulk d + 1
  | (_, d) => uptoBulk d + 1
 end
def uptoSmall : (H : Type) → List (DataW H) → Bool := fun _ ds => decide (uptoBulkAll ds ≤ 1048576)
def OpenSpec.upto (s : _root_.Go.ChangeSpec) : _root_.Go.OpenSpec := { _root_.Go.OpenSpec.ofChange s with cond := some uptoSmall }

/-- 'corebanklaw49.ReportChecks', WHERE WHAT IT READS IS OF BULK AT MOST 1048576: true; the input reads as it did. -/
def reportChecksUptoRow : OpenClaim := { program := "ytmhbkofbbkogeaa", sum := "94e220ab6170a2b72ce92940a8fd5df450c5af74576ec12bc6ad3cd73b9ad09f", func := "corebank/corebanklaw49.ReportChecks", spec := "reportChecks", unfollowed := true, recurses := true, loops := true, apart := false, narrowed := true }
def ReportChecksUptoSaid : Prop := reportChecksUptoRow.holds Try.pinned (OpenSpec.upto reportChecksSpec)

/-- 'corebanklaw49.ReportMakes', WHERE WHAT IT READS IS OF BULK AT MOST 1048576: true; the input reads as it did. -/
def reportMakesUptoRow : OpenClaim := { program := "ytmhbkofbbkogeaa", sum := "94e220ab6170a2b72ce92940a8fd5df450c5af74576ec12bc6ad3cd73b9ad09f", func := "corebank/corebanklaw49.ReportMakes", spec := "reportMakes", unfollowed := true, recurses := true, loops := true, apart := false, narrowed := true }
def ReportMakesUptoSaid : Prop := reportMakesUptoRow.holds Try.pinned (OpenSpec.upto reportMakesSpec)

/-- 'corebanklaw49.ReportEntries', WHERE WHAT IT READS IS OF BULK AT MOST 1048576: true; the input reads as it did. -/
def reportEntriesUptoRow : OpenClaim := { program := "ytmhbkofbbkogeaa", sum := "94e220ab6170a2b72ce92940a8fd5df450c5af74576ec12bc6ad3cd73b9ad09f", func := "corebank/corebanklaw49.ReportEntries", spec := "reportEntries", unfollowed := true, recurses := true, loops := true, apart := false, narrowed := true }
def ReportEntriesUptoSaid : Prop := reportEntriesUptoRow.holds Try.pinned (OpenSpec.upto reportEntriesSpec)

/-- 'corebanklaw49.ReportDrills', WHERE WHAT IT READS IS OF BULK AT MOST 1048576: true; the input reads as it did. -/
def reportDrillsUptoRow : OpenClaim := { program := "ytmhbkofbbkogeaa", sum := "94e220ab6170a2b72ce92940a8fd5df450c5af74576ec12bc6ad3cd73b9ad09f", func := "corebank/corebanklaw49.ReportDrills", spec := "reportDrills", unfollowed := true, recurses := true, loops := true, apart := false, narrowed := true }
def ReportDrillsUptoSaid : Prop := reportDrillsUptoRow.holds Try.pinned (OpenSpec.upto reportDrillsSpec)

end Rows
end Go.Proofs.Ytmhbkofbbkogeaa
